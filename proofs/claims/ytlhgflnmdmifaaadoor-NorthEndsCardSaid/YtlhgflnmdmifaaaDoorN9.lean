/- A condition without and and or: not. -/
import Derived.Test.YtlhgflnmdmifaaaDoorN8
namespace Go.Proofs.YtlhgflnmdmifaaaDoor.Wk
open Go.RowKit PD

set_option maxHeartbeats 1000000 in
theorem atom_not {w : World} {g b o c : Nat} {l : List (Tok × Nat)} {en i k : Nat} (h : Par w g b o c l en i) (ha : AtomP k) (hr : (Tr.take atomWs).run (l.map (·.1)) i = .ok (some 0) (i + 1)) (r : PR Fm) (hr1 : (North.atom k).run (l.map (·.1)) (i + 1) = r) (hout : r ≠ .out) :
    Calls Tryd.prog 117 #[.pointer (some ⟨g, 0, none⟩)] w (Out (EncFm w) (r.bind fun f i' => .ok (.mk 5 [] 0 0 [f]) i') g b o c l en w) := by
  have HT := Lib.hid (Out.ok_of hr (atom_take h))
  have hg := h.lt
  have HP0 := Lib.hid h; clear h hr
  have HA : Hid (∀ w2, Par w2 g b o c l en (i + 1) → Calls Tryd.prog 117 #[.pointer (some ⟨g, 0, none⟩)] w2 (Out (EncFm w2) r g b o c l en w2)) := by
    refine Lib.hid fun w2 hP => ?_
    have := ha w2 g b o c l en (i + 1) hP (by rw [hr1]; exact hout)
    rwa [hr1] at this
  clear ha hr1
  unfold zeroF atomRow at HT
  go_enter Tryd.func117, Tryd.ntmps117
  go_wp2_with fail
  simp only [World.size_alloc] at HT
  refine HT.out.mono ?_
  rintro e w2 ⟨v, rfl, rfl, hP, hK⟩
  have hK1 : Keep g (w.alloc zeroF) w2 := (Keep.of_below (below_new (w.alloc zeroF) atomRow)).trans hK
  have HC := HA.out w2 hP
  have HP := Lib.hid hP; clear hP
  have HK := Lib.hid hK1; clear hK1 hK HA
  clear HT
  unfold idxI
  cases r with
  | out => exact absurd rfl hout
  | err er j =>
    have HC := Lib.hid (Out.err_of rfl HC)
    clear hout
    go_wp2_with fail
    refine HC.out.mono ?_
    rintro e w3 ⟨rfl, hK3⟩
    exact ⟨rfl, ((Keep.of_below (below_new w zeroF)).trans HK.out).trans hK3, rfl⟩
  | ok f i' =>
    have HC := Lib.hid (Out.ok_of rfl HC)
    clear hout
    go_wp2_with fail
    refine HC.out.mono ?_
    rintro e w3 ⟨v, rfl, ⟨kv, rfl, hrep⟩, hP3, hK3⟩
    have hK13 : Keep g (w.alloc zeroF) w3 := HK.out.trans hK3
    have HB8 := Lib.hid (wrapF_blk hg hK13)
    obtain ⟨⟨d0, d1, d2, d3, d4⟩, ⟨e0, e1, e2, e3, e4⟩, hlt3⟩ := blk5 HB8.out
    obtain ⟨fo, fn, fc, fm, fks⟩ := f
    obtain ⟨kA, kc, rfl, -⟩ := hrep.slice
    have HX := Lib.hid hrep; clear hrep
    have HP3 := Lib.hid hP3; clear hP3
    have HK3 := Lib.hid hK13; clear hK13
    have HK23 := Lib.hid hK3; clear hK3
    clear HC
    unfold FmV
    simp only [FmC]
    go_wp2
    have hX' : RepK w3 (fun b => (w.alloc zeroF).heap.size ≤ b ∧ b < w3.heap.size) (.mk fo fn fc fm fks) (.slice kA fks.length kc) :=
      HX.out.to (fun _ _ _ => rfl) fun b hb hS => ⟨Nat.le_trans HK.out.size hS.1, hb⟩
    obtain ⟨⟨r0, r1, r2, r3, r4⟩, -, -⟩ := blk5 (set5_blk HB8.out (.int .i64 5) (.string ⟨#[]⟩) (.int .i64 0) (.int .i64 0) (.slice (some ⟨w3.heap.size, 0, none⟩) 1 1))
    obtain ⟨q1, q2, q3⟩ := wrapF HP0.out hX' HP3.out HK3.out (.int .i64 5) (.string ⟨#[]⟩) (.int .i64 0) (.int .i64 0) (.slice (some ⟨w3.heap.size, 0, none⟩) 1 1)
    have hsz := set5_size w3 w.heap.size (.int .i64 5) (.string ⟨#[]⟩) (.int .i64 0) (.int .i64 0) (.slice (some ⟨w3.heap.size, 0, none⟩) 1 1)
    have hs8 := hlt3
    unfold set5 at r0 r1 r2 r3 r4 q1 q2 q3 hsz
    generalize hW : ((((w3.setCell ⟨w.heap.size, 0, none⟩ (.int .i64 5)).setCell ⟨w.heap.size, 1, none⟩ (.string ⟨#[]⟩)).setCell ⟨w.heap.size, 2, none⟩ (.int .i64 0)).setCell ⟨w.heap.size, 3, none⟩ (.int .i64 0)).setCell ⟨w.heap.size, 4, none⟩ (.slice (some ⟨w3.heap.size, 0, none⟩) 1 1) = W at *
    have hn := q2.node1 5 [] 0 0 w3.heap.size hsz.symm
    have hb := below_new W (.cells (FmC (.mk fo fn fc fm fks) (.slice kA fks.length kc)).toArray 29)
    simp only [FmC] at hn hb
    have z0 := below_cell hb r0
    have z1 := below_cell hb r1
    have z2 := below_cell hb r2
    have z3 := below_cell hb r3
    have z4 := below_cell hb r4
    refine bodyPost_ret (v := FmV (.mk 5 [] 0 0 [.mk fo fn fc fm fks]) (.slice (some ⟨w3.heap.size, 0, none⟩) 1 1)) (by simp [results, Tryd.results117, go_sem, z0, z1, z2, z3, z4, FmV, FmC, mkS_nil]) rfl ⟨q1.trans (.of_below hb), _, rfl, ⟨_, rfl, hn.to (fun _ _ _ => rfl) fun b hb2 hS => ?_⟩, q3.below hb⟩
    have := hb.size
    rcases hS with ⟨hS, _⟩ | rfl
    · exact ⟨hS.1, hb2⟩
    · exact ⟨by omega, hb2⟩
end Go.Proofs.YtlhgflnmdmifaaaDoor.Wk
