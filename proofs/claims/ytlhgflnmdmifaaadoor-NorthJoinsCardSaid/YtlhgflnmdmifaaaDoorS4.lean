/- Parse, in one contract. -/
import Derived.Test.YtlhgflnmdmifaaaDoorS3
import Derived.Test.YtlhgflnmdmifaaaDoorN20
namespace PD
namespace North
def pz : Pv := pv0 fm00
/-- What a text is read as: the provision (zero, if there is an error), the error's number, its place. -/
def pvOf (s : Str) : Pv := match read s with
  | .ok p => p
  | .error _ => pz
def errOf (s : Str) : Nat := match read s with
  | .ok _ => 0
  | .error e => e.1
def atOf (s : Str) : Int := match read s with
  | .ok _ => 0
  | .error e => e.2
end North
end PD
namespace Go.Proofs.YtlhgflnmdmifaaaDoor.Wk
open Go.RowKit PD
theorem strs_own {w : World} {base : Nat} {l : List Str} {v : Value} (h : w.ownsRow base 9 1 v l.length (rowS l)) : StrsIn w l v := by
  rcases h.2 with ⟨rfl, hn⟩ | ⟨g, cap, cur, rfl, hb, hg, hc, hm, _, _⟩
  · exact ⟨none, 0, by rw [hn], ⟨by omega, by simp⟩, fun h0 => by omega⟩
  · refine ⟨_, cap, rfl, ⟨hc, by simpa [maxLen] using hm⟩, fun _ => ⟨g, 0, rfl, fun j s hj => ?_⟩⟩
    rw [Nat.zero_add]
    exact own_cell h (by simp [rowS, hj])
theorem strs_nil (w : World) : StrsIn w [] nilS := ⟨none, 0, rfl, ⟨Nat.le_refl _, by simp⟩, fun h => absurd h (by simp)⟩
theorem pvMem_enc {w w' : World} {p : Pv} {v : Value} (h : EncPv w w' p v) : PvMem w' p v := by
  obtain ⟨wk, ex, bk, ek, ak, e, h1, h2, h3, h4, h5⟩ := h
  exact ⟨wk, ex, bk, ek, ak, e, h1.all, strs_own h2, h3.all, h4.all, h5.all⟩
theorem pvMem_zero (w : World) : PvMem w North.pz zeroPv :=
  ⟨nilS, nilS, nilS, nilS, nilS, rfl, RepK.leaf _ _ _ _ _ _, strs_nil w, RepKS.leaf _ _ _ _ _, RepKS.leaf _ _ _ _ _, RepKS.leaf _ _ _ _ _⟩
theorem pvMem_agg {w : World} {p : Pv} {v : Value} (h : PvMem w p v) : ∃ CS : Array Value, v = .agg CS ∧ CS.size = 23 ∧ CS.all (·.oneCell') = true := by
  obtain ⟨wk, ex, bk, ek, ak, rfl, h1, h2, h3, h4, h5⟩ := h
  obtain ⟨id, rank, kind, nm, value, ⟨wo, wn, wc, wm, wks⟩, ec, ⟨bo, bn, bm, bks⟩, ⟨eo, en, em, eks⟩, ⟨ao, an, am, aks⟩⟩ := p
  obtain ⟨wA, wcc, rfl, -⟩ := h1.slice
  obtain ⟨xA, xcc, rfl, -⟩ := h2.slice
  obtain ⟨bA, bcc, rfl, -⟩ := h3.slice
  obtain ⟨eA, ecc, rfl, -⟩ := h4.slice
  obtain ⟨aA, acc, rfl, -⟩ := h5.slice
  exact ⟨_, rfl, rfl, by simp [pvC, FmC, StC, Value.oneCell']⟩
/-- What north.Parse returns. -/
def ParseU (s : Str) (w : World) (e : Ending) (w' : World) : Prop :=
  Below w.heap.size w w' ∧ ∃ CS : Array Value, e = .returned (.tuple #[.agg CS, .int .i64 (North.errOf s), .int .i64 (North.atOf s)]) ∧ CS.size = 23 ∧ CS.all (·.oneCell') = true ∧ PvMem w' (North.pvOf s) (.agg CS)
theorem parse_u (s : Str) (hs : s.length < 4611686018427387904) (w : World) {m : Int} (hm : w.cell? ⟨2, 0, none⟩ = some (.int .i64 m)) :
    Calls Tryd.prog 16 #[.string (mkS s)] w (ParseU s w) := by
  refine (parse_calls s hs w hm).mono ?_
  rintro e w' ⟨hB, h⟩
  refine ⟨hB, ?_⟩
  cases hr : North.read s with
  | ok p =>
    rw [hr] at h
    obtain ⟨v, rfl, hv⟩ := h
    have hp := pvMem_enc hv
    obtain ⟨CS, rfl, h1, h2⟩ := pvMem_agg hp
    exact ⟨CS, by simp [North.errOf, North.atOf, hr], h1, h2, by rw [North.pvOf, hr]; exact hp⟩
  | error x =>
    obtain ⟨er, at_⟩ := x
    rw [hr] at h
    obtain ⟨rfl, _⟩ := h
    obtain ⟨CS, hcs, h1, h2⟩ := pvMem_agg (pvMem_zero w')
    rw [hcs]
    exact ⟨CS, by simp [North.errOf, North.atOf, hr], h1, h2, by rw [North.pvOf, hr, ← hcs]; exact pvMem_zero w'⟩
end Go.Proofs.YtlhgflnmdmifaaaDoor.Wk
