/- A part with a condition of commencement. -/
import Derived.Test.YtlhgflnmdmifaaaDoorM11
import Derived.Test.YtlhgflnmdmifaaaDoorM13
import Derived.Test.YtlhgflnmdmifaaaDoorPlain
namespace Go.Proofs.YtlhgflnmdmifaaaDoor.Wk
open Go.RowKit PD

theorem bounded_out {α : Type} {read : Tr α} {size depth : α → Nat} {l : List Tok} {i : Nat} (h : (Tr.bounded read size depth).run l i ≠ .out) : read.run l i ≠ .out := by
  intro e
  apply h
  unfold Tr.bounded
  simp only [Tr.run]
  rw [Tr.run_bind, e]
  rfl

set_option maxRecDepth 100000 in
set_option maxHeartbeats 1000000 in
theorem when_calls {w : World} {g b o c : Nat} {l : List (Tok × Nat)} {en i : Nat} (h : Par w g b o c l en i) (k : Nat) (hk : k ≤ 6000) (word : Str) (od : Int) (r3 : PR St) (hr3 : (North.part k word od).run (l.map (·.1)) i = r3) (hout : r3 ≠ .out) :
    Calls Tryd.prog 63 #[.pointer (some ⟨g, 0, none⟩), .string (mkS word), .int .i64 od] w (Out (EncSt w) r3 g b o c l en w) := by
  have hmf : ∀ (fn : Fn) (first cap : Array Value) (w : World), (Instr.makeFunc fn first cap).run Tryd.prog w = .ok (.func fn first cap) w := fun _ _ _ _ => rfl
  have hg := h.lt
  have hT := take_calls ((h.below (below_new w zeroS)).below (below_new _ (.cells #[.string (mkS word)] 9))) (w.alloc zeroS).heap.size 1 1 [word] (strs_one _ word) rfl (Nat.le_refl _) (by omega)
  unfold North.part at hr3
  rw [Tr.run_bind] at hr3
  have HP0 := Lib.hid h; clear h
  rcases Tr.run_take_ok (l.map (·.1)) [word] i with ⟨j, hr, hl⟩ | hr
  · rw [hr] at hr3
    simp only [PR.bind] at hr3
    have HT := Lib.hid (Out.ok_of hr hT)
    clear hT hr
    have hbo : (North.start k).run (l.map (·.1)) (i + 1) ≠ .out := bounded_out (size := St.size) (depth := St.depth) (by rw [hr3]; exact hout)
    have HBO := Lib.hid hbo; clear hbo
    have HR3 := Lib.hid hr3; clear hr3
    unfold zeroS at HT
    go_enter Tryd.func63, Tryd.ntmps63
    go_wp2_with fail
    simp only [World.size_alloc] at HT
    refine HT.out.mono ?_
    rintro e w2 ⟨v, rfl, rfl, hP, hK⟩
    have hK1 : Keep g (w.alloc zeroS) w2 := (Keep.of_below (below_new (w.alloc zeroS) _)).trans hK
    have HC := bounded_callsS hP 89 (fun _ _ => by kernel_rfl) (North.start k) (fun w1 _ hP1 => start_calls k hk w1 g b o c l en (i + 1) hP1 HBO.out)
      (fun f i' hf => by
        have := North.start_size k _ (i + 1) (by simp at hl ⊢; omega) f i' hf
        have h2 := HP0.out.few
        rw [List.length_map] at this
        omega) HBO.out
    rw [HR3.out] at HC
    have HP := Lib.hid hP; clear hP
    have HK := Lib.hid hK1; clear hK1 hK
    clear HT
    unfold idxI
    cases r3 with
    | out => exact absurd rfl hout
    | err er je =>
      have HC := Lib.hid (Out.err_of rfl HC)
      clear hout
      go_wp2_with fail
      refine HC.out.mono ?_
      rintro e w3 ⟨rfl, hK3⟩
      exact ⟨rfl, ((Keep.of_below (below_new w zeroS)).trans HK.out).trans hK3, rfl⟩
    | ok s i' =>
      have HC := Lib.hid (Out.ok_of rfl HC)
      clear hout
      go_wp2_with fail
      refine HC.out.mono ?_
      rintro e w3 ⟨v, rfl, ⟨kv, rfl, hrep⟩, hP3, hK3⟩
      have hK13 : Keep g (w.alloc zeroS) w3 := HK.out.trans hK3
      have HB8 := Lib.hid (wrapS_blk hg hK13)
      obtain ⟨⟨d0, d1, d2, d3⟩, ⟨e0, e1, e2, e3⟩, hlt3⟩ := blk4 HB8.out
      have hX3 := hrep.to (S' := fun b => (w.alloc zeroS).heap.size ≤ b ∧ b < w3.heap.size) (fun _ _ _ => rfl) fun b hb hS => ⟨Nat.le_trans HK.out.size hS.1, hb⟩
      obtain ⟨fo, fn, fm, fks⟩ := s
      obtain ⟨kA, kc, rfl, -⟩ := hrep.slice
      have HX := Lib.hid hX3; clear hX3 hrep
      have HP3 := Lib.hid hP3; clear hP3
      have HK3 := Lib.hid hK13; clear hK13 hK3
      clear HC
      unfold StV
      simp only [StC]
      go_wp2
      obtain ⟨⟨r0, r1, r2, r3⟩, -, -⟩ := blk4 (set4_blk HB8.out (.int .i64 fo) (.string (mkS fn)) (.int .i64 fm) (.slice kA fks.length kc))
      obtain ⟨q1, q2, q3⟩ := wrapS HP0.out HX.out HP3.out HK3.out (.int .i64 fo) (.string (mkS fn)) (.int .i64 fm) (.slice kA fks.length kc)
      unfold set4 at r0 r1 r2 r3 q1 q2 q3
      exact bodyPost_ret (v := StV (.mk fo fn fm fks) (.slice kA fks.length kc)) (by simp [results, Tryd.results63, go_sem, r0, r1, r2, r3, StV, StC]) rfl ⟨q1, _, rfl, ⟨_, rfl, q2⟩, q3⟩
  · rw [hr] at hr3
    simp only [PR.bind, Tr.run] at hr3
    subst hr3
    have HT := Lib.hid (Out.ok_of hr hT)
    clear hT hr hout
    unfold zeroS at HT
    go_enter Tryd.func63, Tryd.ntmps63
    go_wp2_with fail
    simp only [World.size_alloc] at HT
    refine HT.out.mono ?_
    rintro e w2 ⟨v, rfl, rfl, hP, hK⟩
    have hK1 : Keep g (w.alloc zeroS) w2 := (Keep.of_below (below_new (w.alloc zeroS) _)).trans hK
    have HB8 := Lib.hid (wrapS_blk hg hK1)
    obtain ⟨⟨d0, d1, d2, d3⟩, ⟨e0, e1, e2, e3⟩, hlt3⟩ := blk4 HB8.out
    have HP := Lib.hid hP; clear hP
    have HK := Lib.hid hK1; clear hK1 hK
    clear HT
    unfold idxI
    go_wp2
    obtain ⟨⟨r0, r1, r2, r3⟩, -, -⟩ := blk4 (set4_blk HB8.out (.int .i64 od) (.string ⟨#[]⟩) (.int .i64 0) (.slice none 0 0))
    obtain ⟨q1, q2, q3⟩ := wrapS HP0.out (RepKS.leaf _ _ od [] 0) HP.out HK.out (.int .i64 od) (.string ⟨#[]⟩) (.int .i64 0) (.slice none 0 0)
    unfold set4 at r0 r1 r2 r3 q1 q2 q3
    exact bodyPost_ret (v := StV (North.st0 od) (.slice none 0 0)) (by simp [results, Tryd.results63, go_sem, r0, r1, r2, r3, StV, StC, North.st0, mkS_nil]) rfl ⟨q1, _, rfl, ⟨_, rfl, q2⟩, q3⟩
end Go.Proofs.YtlhgflnmdmifaaaDoor.Wk
