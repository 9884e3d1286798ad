/- Conditions: and, or. -/
import Derived.Test.YtlhgflnmdmifaaaDoorN6
namespace Go.Proofs.YtlhgflnmdmifaaaDoor.Wk
open Go.RowKit PD

set_option maxHeartbeats 1000000 in
theorem join_and : JoinF 118 6 := by
  intro w A n cc
  go_enter Tryd.func118, Tryd.ntmps118
  go_wp2
  refine bodyPost_ret (v := .agg #[.int .i64 6, .string ⟨#[]⟩, .int .i64 0, .int .i64 0, .slice A n cc]) (by simp [results, Tryd.results118, go_sem]) rfl ⟨rfl, ?_⟩
  exact below_new _ _
set_option maxHeartbeats 1000000 in
theorem join_or : JoinF 86 7 := by
  intro w A n cc
  go_enter Tryd.func86, Tryd.ntmps86
  go_wp2
  refine bodyPost_ret (v := .agg #[.int .i64 7, .string ⟨#[]⟩, .int .i64 0, .int .i64 0, .slice A n cc]) (by simp [results, Tryd.results86, go_sem]) rfl ⟨rfl, ?_⟩
  exact below_new _ _

/-- What a reader of conditions without and and or does. -/
def AtomP (k : Nat) : Prop := ∀ (w : World) (g b o c : Nat) (l : List (Tok × Nat)) (en i : Nat), Par w g b o c l en i → (North.atom k).run (l.map (·.1)) i ≠ .out →
  Calls Tryd.prog 117 #[.pointer (some ⟨g, 0, none⟩)] w (Out (EncFm w) ((North.atom k).run (l.map (·.1)) i) g b o c l en w)
def AndP (k : Nat) : Prop := ∀ (w : World) (g b o c : Nat) (l : List (Tok × Nat)) (en i : Nat), Par w g b o c l en i → (North.and_ k).run (l.map (·.1)) i ≠ .out →
  Calls Tryd.prog 85 #[.pointer (some ⟨g, 0, none⟩)] w (Out (EncFm w) ((North.and_ k).run (l.map (·.1)) i) g b o c l en w)
def CondP (k : Nat) : Prop := ∀ (w : World) (g b o c : Nat) (l : List (Tok × Nat)) (en i : Nat), Par w g b o c l en i → (North.cond k).run (l.map (·.1)) i ≠ .out →
  Calls Tryd.prog 60 #[.pointer (some ⟨g, 0, none⟩)] w (Out (EncFm w) ((North.cond k).run (l.map (·.1)) i) g b o c l en w)

set_option maxHeartbeats 1000000 in
theorem and_of {k : Nat} (hk : k ≤ 6000) (ha : AtomP k) : AndP k := by
  intro w g b o c l en i h hout
  have hmf : ∀ (fn : Fn) (first cap : Array Value) (w : World), (Instr.makeFunc fn first cap).run Tryd.prog w = .ok (.func fn first cap) w := fun _ _ _ _ => rfl
  have hg := h.lt
  have HC := several_callsF (h.below (below_new w zeroF)) 117 118 (fun _ _ => by kernel_rfl) (fun _ _ => by kernel_rfl) 6 join_and (North.atom k)
    (fun w1 i1 _ hP _ ho => ha w1 g b o c l en i1 hP ho) [97, 110, 100] k hk hout
  have HP0 := Lib.hid h; clear h
  cases hr : (North.and_ k).run (l.map (·.1)) i with
  | out => exact absurd hr hout
  | err er j =>
    have HC := Lib.hid (Out.err_of hr HC)
    unfold mkS zeroF at HC
    clear hr hout
    go_enter Tryd.func85, Tryd.ntmps85
    go_wp2_with fail
    refine HC.out.mono ?_
    rintro e w2 ⟨rfl, hK⟩
    exact ⟨rfl, (Keep.of_below (below_new w zeroF)).trans hK, rfl⟩
  | ok f i' =>
    have HC := Lib.hid (Out.ok_of hr HC)
    unfold mkS zeroF at HC
    clear hr hout
    go_enter Tryd.func85, Tryd.ntmps85
    go_wp2_with fail
    refine HC.out.mono ?_
    rintro e w2 ⟨v, rfl, ⟨kv, rfl, hrep⟩, hP, hK⟩
    have HB8 := Lib.hid (wrapF_blk hg hK)
    obtain ⟨⟨d0, d1, d2, d3, d4⟩, ⟨e0, e1, e2, e3, e4⟩, hlt3⟩ := blk5 HB8.out
    obtain ⟨fo, fn, fc, fm, fks⟩ := f
    obtain ⟨kA, kc, rfl, -⟩ := hrep.slice
    have HX := Lib.hid hrep; clear hrep
    have HP := Lib.hid hP; clear hP
    have HK := Lib.hid hK; clear hK
    clear HC
    unfold FmV
    simp only [FmC]
    go_wp2
    obtain ⟨⟨r0, r1, r2, r3, r4⟩, -, -⟩ := blk5 (set5_blk HB8.out (.int .i64 fo) (.string (mkS fn)) (.int .i64 fc) (.int .i64 fm) (.slice kA fks.length kc))
    obtain ⟨q1, q2, q3⟩ := wrapF HP0.out HX.out HP.out HK.out (.int .i64 fo) (.string (mkS fn)) (.int .i64 fc) (.int .i64 fm) (.slice kA fks.length kc)
    unfold set5 at r0 r1 r2 r3 r4 q1 q2 q3
    exact bodyPost_ret (v := FmV (.mk fo fn fc fm fks) (.slice kA fks.length kc)) (by simp [results, Tryd.results85, go_sem, r0, r1, r2, r3, r4, FmV, FmC]) rfl ⟨q1, _, rfl, ⟨_, rfl, q2⟩, q3⟩

set_option maxHeartbeats 1000000 in
theorem cond_of {k : Nat} (hk : k ≤ 6000) (ha : AndP k) : CondP k := by
  intro w g b o c l en i h hout
  have hmf : ∀ (fn : Fn) (first cap : Array Value) (w : World), (Instr.makeFunc fn first cap).run Tryd.prog w = .ok (.func fn first cap) w := fun _ _ _ _ => rfl
  have hg := h.lt
  have HC := several_callsF (h.below (below_new w zeroF)) 85 86 (fun _ _ => by kernel_rfl) (fun _ _ => by kernel_rfl) 7 join_or (North.and_ k)
    (fun w1 i1 _ hP _ ho => ha w1 g b o c l en i1 hP ho) [111, 114] k hk hout
  have HP0 := Lib.hid h; clear h
  cases hr : (North.cond k).run (l.map (·.1)) i with
  | out => exact absurd hr hout
  | err er j =>
    have HC := Lib.hid (Out.err_of hr HC)
    unfold mkS zeroF at HC
    clear hr hout
    go_enter Tryd.func60, Tryd.ntmps60
    go_wp2_with fail
    refine HC.out.mono ?_
    rintro e w2 ⟨rfl, hK⟩
    exact ⟨rfl, (Keep.of_below (below_new w zeroF)).trans hK, rfl⟩
  | ok f i' =>
    have HC := Lib.hid (Out.ok_of hr HC)
    unfold mkS zeroF at HC
    clear hr hout
    go_enter Tryd.func60, Tryd.ntmps60
    go_wp2_with fail
    refine HC.out.mono ?_
    rintro e w2 ⟨v, rfl, ⟨kv, rfl, hrep⟩, hP, hK⟩
    have HB8 := Lib.hid (wrapF_blk hg hK)
    obtain ⟨⟨d0, d1, d2, d3, d4⟩, ⟨e0, e1, e2, e3, e4⟩, hlt3⟩ := blk5 HB8.out
    obtain ⟨fo, fn, fc, fm, fks⟩ := f
    obtain ⟨kA, kc, rfl, -⟩ := hrep.slice
    have HX := Lib.hid hrep; clear hrep
    have HP := Lib.hid hP; clear hP
    have HK := Lib.hid hK; clear hK
    clear HC
    unfold FmV
    simp only [FmC]
    go_wp2
    obtain ⟨⟨r0, r1, r2, r3, r4⟩, -, -⟩ := blk5 (set5_blk HB8.out (.int .i64 fo) (.string (mkS fn)) (.int .i64 fc) (.int .i64 fm) (.slice kA fks.length kc))
    obtain ⟨q1, q2, q3⟩ := wrapF HP0.out HX.out HP.out HK.out (.int .i64 fo) (.string (mkS fn)) (.int .i64 fc) (.int .i64 fm) (.slice kA fks.length kc)
    unfold set5 at r0 r1 r2 r3 r4 q1 q2 q3
    exact bodyPost_ret (v := FmV (.mk fo fn fc fm fks) (.slice kA fks.length kc)) (by simp [results, Tryd.results60, go_sem, r0, r1, r2, r3, r4, FmV, FmC]) rfl ⟨q1, _, rfl, ⟨_, rfl, q2⟩, q3⟩
end Go.Proofs.YtlhgflnmdmifaaaDoor.Wk
