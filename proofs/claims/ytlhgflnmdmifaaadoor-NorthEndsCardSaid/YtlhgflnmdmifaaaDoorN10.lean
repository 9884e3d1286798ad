/- A condition without and and or: in parentheses. -/
import Derived.Test.YtlhgflnmdmifaaaDoorN9
namespace Go.Proofs.YtlhgflnmdmifaaaDoor.Wk
open Go.RowKit PD

def shutRow : Obj := .cells #[.string ⟨#[41]⟩] 9
theorem shut_strs (w : World) : Strs (w.alloc shutRow) w.heap.size [[41]] := strs_lit w [[41]]

set_option maxHeartbeats 1000000 in
theorem atom_paren {w : World} {g b o c : Nat} {l : List (Tok × Nat)} {en i k : Nat} (h : Par w g b o c l en i) (ha : CondP k) (hr : (Tr.take atomWs).run (l.map (·.1)) i = .ok (some 1) (i + 1)) (r : PR Fm) (hr1 : (North.cond k).run (l.map (·.1)) (i + 1) = r) (hout : r ≠ .out) (r3 : PR Fm) (hr3 : (r.bind fun f i' => ((Tr.must [[41]]).run (l.map (·.1)) i').bind fun _ i2 => .ok f i2) = r3) :
    Calls Tryd.prog 117 #[.pointer (some ⟨g, 0, none⟩)] w (Out (EncFm w) r3 g b o c l en w) := by
  have HR3 := Lib.hid hr3; clear hr3
  have HT := Lib.hid (Out.ok_of hr (atom_take h))
  have hg := h.lt
  have HP0 := Lib.hid h; clear h hr
  have HA : Hid (∀ w2, Par w2 g b o c l en (i + 1) → Calls Tryd.prog 60 #[.pointer (some ⟨g, 0, none⟩)] w2 (Out (EncFm w2) r g b o c l en w2)) := by
    refine Lib.hid fun w2 hP => ?_
    have := ha w2 g b o c l en (i + 1) hP (by rw [hr1]; exact hout)
    rwa [hr1] at this
  clear ha hr1
  unfold zeroF atomRow at HT
  go_enter Tryd.func117, Tryd.ntmps117
  go_wp2_with fail
  simp only [World.size_alloc] at HT
  refine HT.out.mono ?_
  rintro e w2 ⟨v, rfl, rfl, hP, hK⟩
  have hK1 : Keep g (w.alloc zeroF) w2 := (Keep.of_below (below_new (w.alloc zeroF) atomRow)).trans hK
  have HC := HA.out w2 hP
  have HP := Lib.hid hP; clear hP
  have HK := Lib.hid hK1; clear hK1 hK HA
  clear HT
  unfold idxI
  cases r with
  | out => exact absurd rfl hout
  | err er j =>
    have h1 := HR3.out
    simp only [PR.bind] at h1
    subst h1
    have HC := Lib.hid (Out.err_of rfl HC)
    clear hout
    go_wp2_with fail
    refine HC.out.mono ?_
    rintro e w3 ⟨rfl, hK3⟩
    exact ⟨rfl, ((Keep.of_below (below_new w zeroF)).trans HK.out).trans hK3, rfl⟩
  | ok f i' =>
    have HC := Lib.hid (Out.ok_of rfl HC)
    clear hout
    go_wp2_with fail
    refine HC.out.mono ?_
    rintro e w3 ⟨v, rfl, ⟨kv, rfl, hrep⟩, hP3, hK3⟩
    have hK13 : Keep g (w.alloc zeroF) w3 := HK.out.trans hK3
    have HB8 := Lib.hid (wrapF_blk hg hK13)
    have hlt3 : w.heap.size < w3.heap.size := heap_lt HB8.out
    obtain ⟨fo, fn, fc, fm, fks⟩ := f
    obtain ⟨kA, kc, rfl, -⟩ := hrep.slice
    have hX' : RepK w3 (fun b => (w.alloc zeroF).heap.size ≤ b ∧ b < w3.heap.size) (.mk fo fn fc fm fks) (.slice kA fks.length kc) :=
      hrep.to (fun _ _ _ => rfl) fun b hb hS => ⟨Nat.le_trans HK.out.size hS.1, hb⟩
    have HX := Lib.hid hX'; clear hX' hrep
    have HM := must_calls ((hP3.below (below_new w3 (.cells #[.int .i64 fo, .string (mkS fn), .int .i64 fc, .int .i64 fm, .slice kA fks.length kc] 29))).below (below_new _ shutRow)) _ 1 1 [[41]] (shut_strs _) rfl (Nat.le_refl _) (by omega)
    have HP3 := Lib.hid hP3; clear hP3
    have HK3 := Lib.hid hK13; clear hK13 hK3
    clear HC
    unfold FmV
    simp only [FmC]
    cases hm : (Tr.must [[41]]).run (l.map (·.1)) i' with
    | out =>
      exfalso
      have := Tr.goes_must (l := l.map (·.1)) (ws := [[41]]) (i := i')
      unfold Tr.Goes at this
      rw [hm] at this
      exact this
    | err er j =>
      have h1 := HR3.out
      simp only [PR.bind, hm] at h1
      subst h1
      have HM := Lib.hid (Out.err_of hm HM)
      unfold shutRow at HM
      simp only [World.size_alloc] at HM
      clear hm
      go_wp2_with fail
      refine HM.out.mono ?_
      rintro e w5 ⟨rfl, hK5⟩
      exact ⟨rfl, (((Keep.of_below (below_new w zeroF)).trans HK3.out).trans ((Keep.of_below (below_new w3 _)).trans (.of_below (below_new _ shutRow)))).trans hK5, rfl⟩
    | ok m i2 =>
      have h1 := HR3.out
      simp only [PR.bind, hm] at h1
      subst h1
      have HM := Lib.hid (Out.ok_of hm HM)
      unfold shutRow at HM
      simp only [World.size_alloc] at HM
      clear hm
      go_wp2_with fail
      refine HM.out.mono ?_
      rintro e w5 ⟨v, rfl, rfl, hP5, hK5⟩
      have hK35 : Keep g w3 w5 := ((Keep.of_below (below_new w3 (.cells #[.int .i64 fo, .string (mkS fn), .int .i64 fc, .int .i64 fm, .slice kA fks.length kc] 29))).trans (.of_below (below_new _ shutRow))).trans hK5
      have hbt : w5.heap[w3.heap.size]? = some (.cells #[.int .i64 fo, .string (mkS fn), .int .i64 fc, .int .i64 fm, .slice kA fks.length kc] 29 (0, 0)) := by
        refine hK5.blk (below_blk (below_new _ shutRow) (heap_alloc_new w3 _)) ?_
        have := HP0.out.lt; omega
      obtain ⟨⟨t0, t1, t2, t3, t4⟩, -, -⟩ := blk5 hbt
      have hb8 := hK35.blk HB8.out (by omega)
      obtain ⟨⟨d0, d1, d2, d3, d4⟩, ⟨e0, e1, e2, e3, e4⟩, hlt5⟩ := blk5 hb8
      have HB85 := Lib.hid hb8; clear hb8 hbt
      have hX5 : RepK w5 (fun b => (w.alloc zeroF).heap.size ≤ b ∧ b < w5.heap.size) (.mk fo fn fc fm fks) (.slice kA fks.length kc) :=
        HX.out.to (fun b hb hS => hK35.block b hb (by have := HP0.out.lt; have := hS.1; simp at this; omega)) fun b hb hS => ⟨hS.1, Nat.lt_of_lt_of_le hb hK35.size⟩
      have HX5 := Lib.hid hX5; clear hX5
      have HP5 := Lib.hid hP5; clear hP5
      have HK5 := Lib.hid (HK3.out.trans hK35); clear hK35 hK5 HM
      go_wp2
      obtain ⟨⟨r0, r1, r2, r3, r4⟩, -, -⟩ := blk5 (set5_blk HB85.out (.int .i64 fo) (.string (mkS fn)) (.int .i64 fc) (.int .i64 fm) (.slice kA fks.length kc))
      obtain ⟨q1, q2, q3⟩ := wrapF HP0.out HX5.out HP5.out HK5.out (.int .i64 fo) (.string (mkS fn)) (.int .i64 fc) (.int .i64 fm) (.slice kA fks.length kc)
      unfold set5 at r0 r1 r2 r3 r4 q1 q2 q3
      exact bodyPost_ret (v := FmV (.mk fo fn fc fm fks) (.slice kA fks.length kc)) (by simp [results, Tryd.results117, go_sem, r0, r1, r2, r3, r4, FmV, FmC]) rfl ⟨q1, _, rfl, ⟨_, rfl, q2⟩, q3⟩
end Go.Proofs.YtlhgflnmdmifaaaDoor.Wk
