-- written by starts.py
/- A condition of commencement whose size and depth are limited. -/
import Derived.Test.YtlhgflnmdmifaaaDoorN13
import Derived.Test.YtlhgflnmdmifaaaDoorM12
namespace Go.Proofs.YtlhgflnmdmifaaaDoor.Wk
open Go.RowKit PD

def kidsSO : Obj := .cells #[.func (.func 90) #[] #[]] 111
def ReadS (F g b o c : Nat) (l : List (Tok × Nat)) (en : Nat) (read : Tr St) (w : World) (i : Nat) : Prop :=
  ∀ (w1 : World), Below w.heap.size w w1 → Par w1 g b o c l en i → Calls Tryd.prog F #[.pointer (some ⟨g, 0, none⟩)] w1 (Out (EncSt w1) (read.run (l.map (·.1)) i) g b o c l en w1)
set_option maxRecDepth 100000 in
set_option maxHeartbeats 2000000 in
theorem bounded_callsS {w : World} {g b o c : Nat} {l : List (Tok × Nat)} {en i : Nat} (h : Par w g b o c l en i) (F : Nat) (hF : ∀ (args : Array Value) (w : World), (callFunc F args).run Tryd.prog w = .ok (.enter F args) w)
    (read : Tr St) (hread : ReadS F g b o c l en read w i) (hsize : ∀ f i', read.run (l.map (·.1)) i = .ok f i' → f.size ≤ 1000000) (hout : read.run (l.map (·.1)) i ≠ .out) :
    Calls Tryd.prog 88 #[.pointer (some ⟨g, 0, none⟩), .func (.func F) #[.pointer (some ⟨g, 0, none⟩)] #[], .func (.func 90) #[] #[]] w (Out (EncSt w) ((Tr.bounded read St.size St.depth).run (l.map (·.1)) i) g b o c l en w) := by
  have hmf : ∀ (fn : Fn) (first cap : Array Value) (w : World), (Instr.makeFunc fn first cap).run Tryd.prog w = .ok (.func fn first cap) w := fun _ _ _ _ => rfl
  obtain ⟨va, vb, vc, hnv⟩ := nextV_pos l en i
  have hpos : ∃ p, posOf l en i = p := ⟨_, rfl⟩
  obtain ⟨p, hp⟩ := hpos
  rw [hp] at hnv
  have hg := h.lt
  have hrun : (Tr.bounded read St.size St.depth).run (l.map (·.1)) i = (read.run (l.map (·.1)) i).bind fun x i' => if x.depth > 20 ∨ x.size > 200 then .err 2 i else .ok x i' := by
    unfold Tr.bounded
    simp only [Tr.run]
    rw [Tr.run_bind]
    congr 1
    funext x i'
    split <;> rfl
  rw [hrun]
  clear hrun
  have hBA := below_new w kidsSO
  have hBB := below_then hBA (below_new (w.alloc kidsSO) zeroS)
  have HN := Lib.hid (next_calls (h.below hBB))
  rw [hnv] at HN
  have HRD := Lib.hid hread; clear hread
  have HP0 := Lib.hid h; clear h
  have HBB := Lib.hid hBB; clear hBB hBA
  have HP := Lib.hid hp; clear hp hnv
  unfold kidsSO zeroS at HN HBB
  cases hr : read.run (l.map (·.1)) i with
  | out => exact absurd hr hout
  | err er j =>
    simp only [PR.bind]
    have HHR := Lib.hid hr; clear hr hsize hout
    go_enter Tryd.func88, Tryd.ntmps88
    go_wp2_with fail
    refine HN.out.mono ?_
    rintro e w1 ⟨rfl, hB1⟩
    have hBw := below_then HBB.out hB1
    have HC := Lib.hid (Out.err_of HHR.out (HRD.out w1 hBw (HP0.out.below hBw)))
    have HBW := Lib.hid hBw; clear hBw hB1 HN
    have hfa := run_field_At va vb vc (.int .i64 p)
    go_wp2_with fail
    refine HC.out.mono ?_
    rintro e w2 ⟨rfl, hK⟩
    exact ⟨rfl, (Keep.of_below HBW.out).trans hK, rfl⟩
  | ok f i' =>
    simp only [PR.bind]
    have hsz := hsize f i' hr
    have HHR := Lib.hid hr; clear hr hsize hout
    generalize hR3 : (if f.depth > 20 ∨ f.size > 200 then PR.err 2 i else PR.ok f i') = r3
    have HR3 := Lib.hid hR3; clear hR3
    go_enter Tryd.func88, Tryd.ntmps88
    go_wp2_with fail
    refine HN.out.mono ?_
    rintro e w1 ⟨rfl, hB1⟩
    have hBw := below_then HBB.out hB1
    have HC := Lib.hid (Out.ok_of HHR.out (HRD.out w1 hBw (HP0.out.below hBw)))
    have hk1 : w1.heap[w.heap.size]? = some kidsSO := below_blk hB1 (below_blk (below_new _ zeroS) (heap_alloc_new w kidsSO))
    have hr1 : w1.heap[(w.alloc kidsSO).heap.size]? = some zeroS := below_blk hB1 (heap_alloc_new _ zeroS)
    have hs1 : (w.alloc kidsSO).heap.size = w.heap.size + 1 := by simp
    rw [hs1] at hr1
    have HK1 := Lib.hid hk1
    have HR1 := Lib.hid hr1
    have HBW := Lib.hid hBw
    have HB1 := Lib.hid hB1
    clear hBw hB1 HN hk1 hr1 hs1
    have hfa := run_field_At va vb vc (.int .i64 p)
    go_wp2_with fail
    refine HC.out.mono ?_
    rintro e w2 ⟨v, rfl, ⟨kv, rfl, hrep⟩, hP, hK⟩
    have hk2 := hK.blk HK1.out (by omega)
    have hr2 := hK.blk HR1.out (by omega)
    have hr1l : w.heap.size + 1 < w1.heap.size := heap_lt HR1.out
    obtain ⟨fo, fn, fm, fks⟩ := f
    obtain ⟨kA, kc, rfl, -⟩ := hrep.slice
    have HK2 := Lib.hid hk2
    have HR2 := Lib.hid hr2
    have HX := Lib.hid hrep; clear hrep
    have HP2 := Lib.hid hP; clear hP
    have HK := Lib.hid hK; clear hK
    clear HC hk2 hr2 HK1 HR1
    have hfz : (St.mk fo fn fm fks).size ≤ 1000000 := hsz
    have hBX := below_new w2 (.cells #[.int .i64 fo, .string (mkS fn), .int .i64 fm, .slice kA fks.length kc] 33)
    have hbX := heap_alloc_new w2 (.cells #[.int .i64 fo, .string (mkS fn), .int .i64 fm, .slice kA fks.length kc] 33)
    have hsX : (w2.alloc (.cells #[.int .i64 fo, .string (mkS fn), .int .i64 fm, .slice kA fks.length kc] 33)).heap.size = w2.heap.size + 1 := by simp
    have hBZ := below_new (w2.alloc (.cells #[.int .i64 fo, .string (mkS fn), .int .i64 fm, .slice kA fks.length kc] 33)) (.cells #[.int .i64 0] 3)
    have hbZ := heap_alloc_new (w2.alloc (.cells #[.int .i64 fo, .string (mkS fn), .int .i64 fm, .slice kA fks.length kc] 33)) (.cells #[.int .i64 0] 3)
    have hsZ : ((w2.alloc (.cells #[.int .i64 fo, .string (mkS fn), .int .i64 fm, .slice kA fks.length kc] 33)).alloc (.cells #[.int .i64 0] 3)).heap.size = w2.heap.size + 1 + 1 := by simp
    have hBD := below_new ((w2.alloc (.cells #[.int .i64 fo, .string (mkS fn), .int .i64 fm, .slice kA fks.length kc] 33)).alloc (.cells #[.int .i64 0] 3)) (.cells #[.func (.func 119) #[] #[.pointer (some ⟨w2.heap.size + 1, 0, none⟩), .pointer (some ⟨w.heap.size, 0, none⟩), .pointer (some ⟨w2.heap.size + 1 + 1, 0, none⟩)]] 137)
    have hbD := heap_alloc_new ((w2.alloc (.cells #[.int .i64 fo, .string (mkS fn), .int .i64 fm, .slice kA fks.length kc] 33)).alloc (.cells #[.int .i64 0] 3)) (.cells #[.func (.func 119) #[] #[.pointer (some ⟨w2.heap.size + 1, 0, none⟩), .pointer (some ⟨w.heap.size, 0, none⟩), .pointer (some ⟨w2.heap.size + 1 + 1, 0, none⟩)]] 137)
    rw [hsX] at hbZ hBZ
    rw [hsZ] at hbD hBD
    have h12 := HBW.out.size
    have h20 := HK.out.size
    have hBall : Below w2.heap.size w2 (((w2.alloc (.cells #[.int .i64 fo, .string (mkS fn), .int .i64 fm, .slice kA fks.length kc] 33)).alloc (.cells #[.int .i64 0] 3)).alloc (.cells #[.func (.func 119) #[] #[.pointer (some ⟨w2.heap.size + 1, 0, none⟩), .pointer (some ⟨w.heap.size, 0, none⟩), .pointer (some ⟨w2.heap.size + 1 + 1, 0, none⟩)]] 137)) :=
      below_then (below_then hBX (below_new _ _)) (below_new _ _)
    have hX5 := below_blk (by rw [hsZ]; exact hBD) (below_blk (by rw [hsX]; exact hBZ) hbX)
    have hZ5 := below_blk (by rw [hsZ]; exact hBD) hbZ
    have hlw : w.heap.size < w2.heap.size := heap_lt HK2.out
    have hC0 : CntS (((w2.alloc (.cells #[.int .i64 fo, .string (mkS fn), .int .i64 fm, .slice kA fks.length kc] 33)).alloc (.cells #[.int .i64 0] 3)).alloc (.cells #[.func (.func 119) #[] #[.pointer (some ⟨w2.heap.size + 1, 0, none⟩), .pointer (some ⟨w.heap.size, 0, none⟩), .pointer (some ⟨w2.heap.size + 1 + 1, 0, none⟩)]] 137))
        (w2.heap.size + 1) w.heap.size (w2.heap.size + 1 + 1) ((0 : Nat) : Int) := ⟨hZ5, below_blk hBall HK2.out, hbD, by omega, by omega⟩
    have hrep5 := HX.out.to (S' := fun b => b ≠ w2.heap.size + 1) (fun b hb _ => hBall.block b hb) (fun b hb _ => by omega)
    have HD := deepS (.mk fo fn fm fks) _ _ _ _ 0 _ hC0 hrep5 (by omega)
    unfold StV at HD
    simp only [StC, Nat.zero_add] at HD
    have HD := Lib.hid HD
    have HBALL := Lib.hid hBall; clear hBall
    have HX5 := Lib.hid hX5; clear hX5
    have HREP5 := Lib.hid hrep5; clear hrep5
    clear hBX hbX hsX hBZ hbZ hsZ hBD hbD hZ5 hC0
    unfold StV
    simp only [StC]
    go_wp2_with fail
    generalize ((w2.alloc (.cells #[.int .i64 fo, .string (mkS fn), .int .i64 fm, .slice kA fks.length kc] 33)).alloc (.cells #[.int .i64 0] 3)).alloc (.cells #[.func (.func 119) #[] #[.pointer (some ⟨w2.heap.size + 1, 0, none⟩), .pointer (some ⟨w.heap.size, 0, none⟩), .pointer (some ⟨w2.heap.size + 1 + 1, 0, none⟩)]] 137) = w5 at *
    refine HD.out.mono ?_
    rintro e w6 ⟨rfl, hK6, hC6⟩
    clear HD
    have z0 := (blk_cell hC6.z 0).trans rfl
    have zf := blk_free hC6.z 0
    have zl := heap_lt hC6.z
    have hx6 := hK6.blk HX5.out (by omega)
    have hs5 := HBALL.out.size
    have hk26 : Keep g w2 w6 := by
      have := (Keep.of_below (g := w2.heap.size + 1) HBALL.out).trans hK6
      exact ⟨this.os, this.tape, this.output, this.size, fun b hb _ => this.block b hb (by omega)⟩
    have hbr := hk26.blk HR2.out (by omega)
    have hrep6 := HX.out.to (S' := fun b => (w.alloc kidsSO).heap.size + 1 ≤ b ∧ b < w6.heap.size) (fun b hb hS => by
      have := HBW.out.size
      exact hk26.block b hb (by omega)) fun b hb hS => ⟨by have := hS.1; simp only [World.size_alloc]; omega, Nat.lt_of_lt_of_le hb hk26.size⟩
    have hP6 : Par w6 g b o c l en i' := by
      refine (HP0.out.past HP2.out ((Keep.of_below (g := w2.heap.size + 1) HBALL.out).trans hK6) (by omega))
    have hK06 : Keep g ((w.alloc kidsSO).alloc zeroS) w6 := by
      have h1 : Below ((w.alloc kidsSO).alloc zeroS).heap.size ((w.alloc kidsSO).alloc zeroS) w1 := HB1.out
      exact ((Keep.of_below h1).trans HK.out).trans hk26
    have HREP6 := Lib.hid hrep6; clear hrep6
    have HP6 := Lib.hid hP6; clear hP6
    have HK06 := Lib.hid hK06; clear hK06
    have HC6 := Lib.hid hC6; clear hC6
    have HK26 := Lib.hid hk26; clear hk26
    have HBR := Lib.hid hbr; clear hbr
    clear hK6
    obtain ⟨⟨x0, x1, x2, x3⟩, -, hltx⟩ := blk4 hx6
    obtain ⟨⟨d0, d1, d2, d3⟩, ⟨e0, e1, e2, e3⟩, hlt6⟩ := blk4 HBR.out
    have hr3 := HR3.out
    generalize hD : (St.mk fo fn fm fks).depth = D at *
    generalize hZ : (St.mk fo fn fm fks).size = Z at *
    have HDD := Lib.hid hD; clear hD
    have HZZ := Lib.hid hZ; clear hZ
    have HX6 := Lib.hid hx6; clear hx6
    by_cases hd : 20 < D
    · rw [if_pos (.inl hd)] at hr3
      subst hr3
      clear HR3
      go_wp2
      exact ⟨rfl, ((Keep.of_below HBW.out).trans HK.out).trans HK26.out, by show _ = stopped _ ↑(posOf l en i); rw [HP.out]; rfl⟩
    · by_cases hz : 200 < Z
      · rw [if_pos (.inr hz)] at hr3
        subst hr3
        clear HR3
        go_wp2
        exact ⟨rfl, ((Keep.of_below HBW.out).trans HK.out).trans HK26.out, by show _ = stopped _ ↑(posOf l en i); rw [HP.out]; rfl⟩
      · rw [if_neg (by omega)] at hr3
        subst hr3
        clear HR3
        go_wp2
        have hsA : (w.alloc kidsSO).heap.size = w.heap.size + 1 := by simp
        have hbr := HBR.out
        rw [← hsA] at hbr
        obtain ⟨⟨r0, r1, r2, r3⟩, -, -⟩ := blk4 (set4_blk hbr (.int .i64 fo) (.string (mkS fn)) (.int .i64 fm) (.slice kA fks.length kc))
        obtain ⟨q1, q2, q3⟩ := wrapS (HP0.out.below (below_new w kidsSO)) (HREP6.out.to (S' := fun b => ((w.alloc kidsSO).alloc zeroS).heap.size ≤ b ∧ b < w6.heap.size) (fun _ _ _ => rfl) (fun b _ hS => ⟨by simpa using hS.1, hS.2⟩)) HP6.out HK06.out (.int .i64 fo) (.string (mkS fn)) (.int .i64 fm) (.slice kA fks.length kc)
        rw [hsA] at r0 r1 r2 r3 q1 q2 q3
        unfold set4 at r0 r1 r2 r3 q1 q2 q3
        refine bodyPost_ret (v := StV (.mk fo fn fm fks) (.slice kA fks.length kc)) (by simp [results, Tryd.results88, go_sem, r0, r1, r2, r3, StV, StC]) rfl ⟨(Keep.of_below (below_new w kidsSO)).trans q1, _, rfl, ⟨_, rfl, q2.to (fun _ _ _ => rfl) fun b _ hS => ⟨by have := hS.1; omega, hS.2⟩⟩, q3⟩
end Go.Proofs.YtlhgflnmdmifaaaDoor.Wk
