/- A formula whose size and depth are limited. -/
import Derived.Test.YtlhgflnmdmifaaaDoorN11
import Derived.Test.YtlhgflnmdmifaaaDoorN12
import Derived.Laws.EntriesVeiled
namespace Go.Proofs.YtlhgflnmdmifaaaDoor.Wk
open Go.RowKit PD

theorem nextV_pos (l : List (Tok × Nat)) (en i : Nat) : ∃ a b c, nextV l en i = .agg #[a, b, c, .int .i64 (posOf l en i)] := by
  unfold nextV posOf
  cases l[i]? with
  | none => exact ⟨_, _, _, rfl⟩
  | some x => exact ⟨_, _, _, rfl⟩
def kidsFO : Obj := .cells #[.func (.func 61) #[] #[]] 95
def ReadF (F g b o c : Nat) (l : List (Tok × Nat)) (en : Nat) (read : Tr Fm) (w : World) (i : Nat) : Prop :=
  ∀ (w1 : World), Below w.heap.size w w1 → Par w1 g b o c l en i → Calls Tryd.prog F #[.pointer (some ⟨g, 0, none⟩)] w1 (Out (EncFm w1) (read.run (l.map (·.1)) i) g b o c l en w1)

set_option maxRecDepth 100000 in
set_option maxHeartbeats 2000000 in
theorem bounded_callsF {w : World} {g b o c : Nat} {l : List (Tok × Nat)} {en i : Nat} (h : Par w g b o c l en i) (F : Nat) (hF : ∀ (args : Array Value) (w : World), (callFunc F args).run Tryd.prog w = .ok (.enter F args) w)
    (read : Tr Fm) (hread : ReadF F g b o c l en read w i) (hsize : ∀ f i', read.run (l.map (·.1)) i = .ok f i' → f.size ≤ 1000000) (hout : read.run (l.map (·.1)) i ≠ .out) :
    Calls Tryd.prog 59 #[.pointer (some ⟨g, 0, none⟩), .func (.func F) #[.pointer (some ⟨g, 0, none⟩)] #[], .func (.func 61) #[] #[]] w (Out (EncFm w) ((Tr.bounded read Fm.size Fm.depth).run (l.map (·.1)) i) g b o c l en w) := by
  have hmf : ∀ (fn : Fn) (first cap : Array Value) (w : World), (Instr.makeFunc fn first cap).run Tryd.prog w = .ok (.func fn first cap) w := fun _ _ _ _ => rfl
  obtain ⟨va, vb, vc, hnv⟩ := nextV_pos l en i
  have hpos : ∃ p, posOf l en i = p := ⟨_, rfl⟩
  obtain ⟨p, hp⟩ := hpos
  rw [hp] at hnv
  have hg := h.lt
  have hrun : (Tr.bounded read Fm.size Fm.depth).run (l.map (·.1)) i = (read.run (l.map (·.1)) i).bind fun x i' => if x.depth > 20 ∨ x.size > 200 then .err 2 i else .ok x i' := by
    unfold Tr.bounded
    simp only [Tr.run]
    rw [Tr.run_bind]
    congr 1
    funext x i'
    split <;> rfl
  rw [hrun]
  clear hrun
  have hBA := below_new w kidsFO
  have hBB := below_then hBA (below_new (w.alloc kidsFO) zeroF)
  have HN := Lib.hid (next_calls (h.below hBB))
  rw [hnv] at HN
  have HRD := Lib.hid hread; clear hread
  have HP0 := Lib.hid h; clear h
  have HBB := Lib.hid hBB; clear hBB hBA
  have HP := Lib.hid hp; clear hp hnv
  unfold kidsFO zeroF at HN HBB
  cases hr : read.run (l.map (·.1)) i with
  | out => exact absurd hr hout
  | err er j =>
    simp only [PR.bind]
    have HHR := Lib.hid hr; clear hr hsize hout
    go_enter Tryd.func59, Tryd.ntmps59
    go_wp2_with fail
    refine HN.out.mono ?_
    rintro e w1 ⟨rfl, hB1⟩
    have hBw := below_then HBB.out hB1
    have HC := Lib.hid (Out.err_of HHR.out (HRD.out w1 hBw (HP0.out.below hBw)))
    have HBW := Lib.hid hBw; clear hBw hB1 HN
    have hfa := run_field_At va vb vc (.int .i64 p)
    go_wp2_with fail
    refine HC.out.mono ?_
    rintro e w2 ⟨rfl, hK⟩
    exact ⟨rfl, (Keep.of_below HBW.out).trans hK, rfl⟩
  | ok f i' =>
    simp only [PR.bind]
    have hsz := hsize f i' hr
    have HHR := Lib.hid hr; clear hr hsize hout
    generalize hR3 : (if f.depth > 20 ∨ f.size > 200 then PR.err 2 i else PR.ok f i') = r3
    have HR3 := Lib.hid hR3; clear hR3
    go_enter Tryd.func59, Tryd.ntmps59
    go_wp2_with fail
    refine HN.out.mono ?_
    rintro e w1 ⟨rfl, hB1⟩
    have hBw := below_then HBB.out hB1
    have HC := Lib.hid (Out.ok_of HHR.out (HRD.out w1 hBw (HP0.out.below hBw)))
    have hk1 : w1.heap[w.heap.size]? = some kidsFO := below_blk hB1 (below_blk (below_new _ zeroF) (heap_alloc_new w kidsFO))
    have hr1 : w1.heap[(w.alloc kidsFO).heap.size]? = some zeroF := below_blk hB1 (heap_alloc_new _ zeroF)
    have hs1 : (w.alloc kidsFO).heap.size = w.heap.size + 1 := by simp
    rw [hs1] at hr1
    have HK1 := Lib.hid hk1
    have HR1 := Lib.hid hr1
    have HBW := Lib.hid hBw
    have HB1 := Lib.hid hB1
    clear hBw hB1 HN hk1 hr1 hs1
    have hfa := run_field_At va vb vc (.int .i64 p)
    go_wp2_with fail
    refine HC.out.mono ?_
    rintro e w2 ⟨v, rfl, ⟨kv, rfl, hrep⟩, hP, hK⟩
    have hk2 := hK.blk HK1.out (by omega)
    have hr2 := hK.blk HR1.out (by omega)
    have hr1l : w.heap.size + 1 < w1.heap.size := heap_lt HR1.out
    obtain ⟨fo, fn, fc, fm, fks⟩ := f
    obtain ⟨kA, kc, rfl, -⟩ := hrep.slice
    have HK2 := Lib.hid hk2
    have HR2 := Lib.hid hr2
    have HX := Lib.hid hrep; clear hrep
    have HP2 := Lib.hid hP; clear hP
    have HK := Lib.hid hK; clear hK
    clear HC hk2 hr2 HK1 HR1
    have hfz : (Fm.mk fo fn fc fm fks).size ≤ 1000000 := hsz
    have hBX := below_new w2 (.cells #[.int .i64 fo, .string (mkS fn), .int .i64 fc, .int .i64 fm, .slice kA fks.length kc] 29)
    have hbX := heap_alloc_new w2 (.cells #[.int .i64 fo, .string (mkS fn), .int .i64 fc, .int .i64 fm, .slice kA fks.length kc] 29)
    have hsX : (w2.alloc (.cells #[.int .i64 fo, .string (mkS fn), .int .i64 fc, .int .i64 fm, .slice kA fks.length kc] 29)).heap.size = w2.heap.size + 1 := by simp
    have hBZ := below_new (w2.alloc (.cells #[.int .i64 fo, .string (mkS fn), .int .i64 fc, .int .i64 fm, .slice kA fks.length kc] 29)) (.cells #[.int .i64 0] 3)
    have hbZ := heap_alloc_new (w2.alloc (.cells #[.int .i64 fo, .string (mkS fn), .int .i64 fc, .int .i64 fm, .slice kA fks.length kc] 29)) (.cells #[.int .i64 0] 3)
    have hsZ : ((w2.alloc (.cells #[.int .i64 fo, .string (mkS fn), .int .i64 fc, .int .i64 fm, .slice kA fks.length kc] 29)).alloc (.cells #[.int .i64 0] 3)).heap.size = w2.heap.size + 1 + 1 := by simp
    have hBD := below_new ((w2.alloc (.cells #[.int .i64 fo, .string (mkS fn), .int .i64 fc, .int .i64 fm, .slice kA fks.length kc] 29)).alloc (.cells #[.int .i64 0] 3)) (.cells #[.func (.func 83) #[] #[.pointer (some ⟨w2.heap.size + 1, 0, none⟩), .pointer (some ⟨w.heap.size, 0, none⟩), .pointer (some ⟨w2.heap.size + 1 + 1, 0, none⟩)]] 106)
    have hbD := heap_alloc_new ((w2.alloc (.cells #[.int .i64 fo, .string (mkS fn), .int .i64 fc, .int .i64 fm, .slice kA fks.length kc] 29)).alloc (.cells #[.int .i64 0] 3)) (.cells #[.func (.func 83) #[] #[.pointer (some ⟨w2.heap.size + 1, 0, none⟩), .pointer (some ⟨w.heap.size, 0, none⟩), .pointer (some ⟨w2.heap.size + 1 + 1, 0, none⟩)]] 106)
    rw [hsX] at hbZ hBZ
    rw [hsZ] at hbD hBD
    have h12 := HBW.out.size
    have h20 := HK.out.size
    have hBall : Below w2.heap.size w2 (((w2.alloc (.cells #[.int .i64 fo, .string (mkS fn), .int .i64 fc, .int .i64 fm, .slice kA fks.length kc] 29)).alloc (.cells #[.int .i64 0] 3)).alloc (.cells #[.func (.func 83) #[] #[.pointer (some ⟨w2.heap.size + 1, 0, none⟩), .pointer (some ⟨w.heap.size, 0, none⟩), .pointer (some ⟨w2.heap.size + 1 + 1, 0, none⟩)]] 106)) :=
      below_then (below_then hBX (below_new _ _)) (below_new _ _)
    have hX5 := below_blk (by rw [hsZ]; exact hBD) (below_blk (by rw [hsX]; exact hBZ) hbX)
    have hZ5 := below_blk (by rw [hsZ]; exact hBD) hbZ
    have hlw : w.heap.size < w2.heap.size := heap_lt HK2.out
    have hC0 : Cnt (((w2.alloc (.cells #[.int .i64 fo, .string (mkS fn), .int .i64 fc, .int .i64 fm, .slice kA fks.length kc] 29)).alloc (.cells #[.int .i64 0] 3)).alloc (.cells #[.func (.func 83) #[] #[.pointer (some ⟨w2.heap.size + 1, 0, none⟩), .pointer (some ⟨w.heap.size, 0, none⟩), .pointer (some ⟨w2.heap.size + 1 + 1, 0, none⟩)]] 106))
        (w2.heap.size + 1) w.heap.size (w2.heap.size + 1 + 1) ((0 : Nat) : Int) := ⟨hZ5, below_blk hBall HK2.out, hbD, by omega, by omega⟩
    have hrep5 := HX.out.to (S' := fun b => b ≠ w2.heap.size + 1) (fun b hb _ => hBall.block b hb) (fun b hb _ => by omega)
    have HD := deepF (.mk fo fn fc fm fks) _ _ _ _ 0 _ hC0 hrep5 (by omega)
    unfold FmV at HD
    simp only [FmC, Nat.zero_add] at HD
    have HD := Lib.hid HD
    have HBALL := Lib.hid hBall; clear hBall
    have HX5 := Lib.hid hX5; clear hX5
    have HREP5 := Lib.hid hrep5; clear hrep5
    clear hBX hbX hsX hBZ hbZ hsZ hBD hbD hZ5 hC0
    unfold FmV
    simp only [FmC]
    go_wp2_with fail
    generalize ((w2.alloc (.cells #[.int .i64 fo, .string (mkS fn), .int .i64 fc, .int .i64 fm, .slice kA fks.length kc] 29)).alloc (.cells #[.int .i64 0] 3)).alloc (.cells #[.func (.func 83) #[] #[.pointer (some ⟨w2.heap.size + 1, 0, none⟩), .pointer (some ⟨w.heap.size, 0, none⟩), .pointer (some ⟨w2.heap.size + 1 + 1, 0, none⟩)]] 106) = w5 at *
    refine HD.out.mono ?_
    rintro e w6 ⟨rfl, hK6, hC6⟩
    clear HD
    have z0 := (blk_cell hC6.z 0).trans rfl
    have zf := blk_free hC6.z 0
    have zl := heap_lt hC6.z
    have hx6 := hK6.blk HX5.out (by omega)
    have hs5 := HBALL.out.size
    have hk26 : Keep g w2 w6 := by
      have := (Keep.of_below (g := w2.heap.size + 1) HBALL.out).trans hK6
      exact ⟨this.os, this.tape, this.output, this.size, fun b hb _ => this.block b hb (by omega)⟩
    have hbr := hk26.blk HR2.out (by omega)
    have hrep6 := HX.out.to (S' := fun b => (w.alloc kidsFO).heap.size + 1 ≤ b ∧ b < w6.heap.size) (fun b hb hS => by
      have := HBW.out.size
      exact hk26.block b hb (by omega)) fun b hb hS => ⟨by have := hS.1; simp only [World.size_alloc]; omega, Nat.lt_of_lt_of_le hb hk26.size⟩
    have hP6 : Par w6 g b o c l en i' := by
      refine (HP0.out.past HP2.out ((Keep.of_below (g := w2.heap.size + 1) HBALL.out).trans hK6) (by omega))
    have hK06 : Keep g ((w.alloc kidsFO).alloc zeroF) w6 := by
      have h1 : Below ((w.alloc kidsFO).alloc zeroF).heap.size ((w.alloc kidsFO).alloc zeroF) w1 := HB1.out
      exact ((Keep.of_below h1).trans HK.out).trans hk26
    have HREP6 := Lib.hid hrep6; clear hrep6
    have HP6 := Lib.hid hP6; clear hP6
    have HK06 := Lib.hid hK06; clear hK06
    have HC6 := Lib.hid hC6; clear hC6
    have HK26 := Lib.hid hk26; clear hk26
    have HBR := Lib.hid hbr; clear hbr
    clear hK6
    obtain ⟨⟨x0, x1, x2, x3, x4⟩, -, hltx⟩ := blk5 hx6
    obtain ⟨⟨d0, d1, d2, d3, d4⟩, ⟨e0, e1, e2, e3, e4⟩, hlt6⟩ := blk5 HBR.out
    have hr3 := HR3.out
    generalize hD : (Fm.mk fo fn fc fm fks).depth = D at *
    generalize hZ : (Fm.mk fo fn fc fm fks).size = Z at *
    have HDD := Lib.hid hD; clear hD
    have HZZ := Lib.hid hZ; clear hZ
    have HX6 := Lib.hid hx6; clear hx6
    by_cases hd : 20 < D
    · rw [if_pos (.inl hd)] at hr3
      subst hr3
      clear HR3
      go_wp2
      exact ⟨rfl, ((Keep.of_below HBW.out).trans HK.out).trans HK26.out, by show _ = stopped _ ↑(posOf l en i); rw [HP.out]; rfl⟩
    · by_cases hz : 200 < Z
      · rw [if_pos (.inr hz)] at hr3
        subst hr3
        clear HR3
        go_wp2
        exact ⟨rfl, ((Keep.of_below HBW.out).trans HK.out).trans HK26.out, by show _ = stopped _ ↑(posOf l en i); rw [HP.out]; rfl⟩
      · rw [if_neg (by omega)] at hr3
        subst hr3
        clear HR3
        go_wp2
        have hsA : (w.alloc kidsFO).heap.size = w.heap.size + 1 := by simp
        have hbr := HBR.out
        rw [← hsA] at hbr
        obtain ⟨⟨r0, r1, r2, r3, r4⟩, -, -⟩ := blk5 (set5_blk hbr (.int .i64 fo) (.string (mkS fn)) (.int .i64 fc) (.int .i64 fm) (.slice kA fks.length kc))
        obtain ⟨q1, q2, q3⟩ := wrapF (HP0.out.below (below_new w kidsFO)) (HREP6.out.to (S' := fun b => ((w.alloc kidsFO).alloc zeroF).heap.size ≤ b ∧ b < w6.heap.size) (fun _ _ _ => rfl) (fun b _ hS => ⟨by simpa using hS.1, hS.2⟩)) HP6.out HK06.out (.int .i64 fo) (.string (mkS fn)) (.int .i64 fc) (.int .i64 fm) (.slice kA fks.length kc)
        rw [hsA] at r0 r1 r2 r3 r4 q1 q2 q3
        unfold set5 at r0 r1 r2 r3 r4 q1 q2 q3
        refine bodyPost_ret (v := FmV (.mk fo fn fc fm fks) (.slice kA fks.length kc)) (by simp [results, Tryd.results59, go_sem, r0, r1, r2, r3, r4, FmV, FmC]) rfl ⟨(Keep.of_below (below_new w kidsFO)).trans q1, _, rfl, ⟨_, rfl, q2.to (fun _ _ _ => rfl) fun b _ hS => ⟨by have := hS.1; omega, hS.2⟩⟩, q3⟩
end Go.Proofs.YtlhgflnmdmifaaaDoor.Wk
