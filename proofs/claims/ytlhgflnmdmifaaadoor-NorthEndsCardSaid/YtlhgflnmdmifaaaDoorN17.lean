/- Errors are caught at Parse's door. -/
import Derived.Test.YtlhgflnmdmifaaaDoorN15
import Derived.Defers
import Derived.Recover
import Derived.OrdersHeld
namespace Go.Proofs.YtlhgflnmdmifaaaDoor.Wk
open Go.RowKit PD

theorem catch_idle (a b c : Addr) (w : World) :
    CallsD Tryd.prog 41 #[.pointer (some a), .pointer (some b), .pointer (some c)] .returning w fun e u' w' => e = .returned (.tuple #[]) ∧ u' = .returning ∧ w' = w := by
  refine callsD_of_wpS Tryd.func41 rfl fun c₀ cs hu => ?_
  simp only [Tryd.ntmps41, List.size_toArray, List.length_cons, List.length_nil, Nat.reduceAdd, Nat.reduceSub, Array.replicate_succ, Array.replicate_zero, List.push_toArray, List.append_toArray, List.nil_append, List.cons_append]
  apply wpS_seq
  apply wpS_region
  simp [wpOpsS, go_sem, recoverD, hu, Exit.thenS]
  apply wpS_seq
  apply wpS_region
  simp [wpOpsS, go_sem, Exit.thenS]
  refine wpS_cond (t := false) (by simp [Act.eval]) ?_
  simp only [Bool.false_eq_true, if_false]
  refine wpS_of_wp (wp_skip ?_)
  cases c₀
  simp_all [bodyPostS, results, Tryd.results41]
theorem assert_stop (e at_ : Int) (w : World) : (Instr.typeAssert (stopV e at_) 20 68 true).run Tryd.prog w = .ok (.tuple #[.agg #[.int .i64 e, .int .i64 at_], .bool true]) w := by kernel_rfl
theorem run_build_op {P : Program} {a : Act} {op : Oper} {t : TypeId} {cells : Array Value} (ho : op.op = .build t #[]) (hb : P.built t [] = some cells) (w : World) : (execOp a.eval op).run P w = .ok (.value (.agg cells)) w := by
  unfold execOp
  have hr : (Instr.build t (#[].map fun ((i, x) : Nat × Operand) => (i, a.eval x))).run P w = .ok (.agg cells) w := run_build w t _ cells (by simpa using hb)
  simp only [ho, Sem.run_bind]
  rw [hr]
  rfl
theorem held_from {P : Program} {md : Region.Mode} {ops : Array Oper} {Q : Exit → Act → World → Prop} {S : World → Prop} {fuel : Nat} {listed : Array Bool} {a : Act} {w : World} (F : World → Prop) (hF : F w) (h : ∀ V, F V → wpAnyH P md ops Q S fuel listed a V) : wpAnyH P md ops Q S fuel listed a w := h w hF
theorem held_one {P : Program} {md : Region.Mode} {ops : Array Oper} {Q : Exit → Act → World → Prop} {S : World → Prop} {fuel : Nat} {listed : Array Bool} {a : Act} {w : World} (i : Nat) (hr : Region.ready md ops listed = [i])
    (h : wpOp P ops Q i (fun a' w' => S w' ∧ wpAnyH P md ops Q S fuel (listed.setIfInBounds i true) a' w') a w) : wpAnyH P md ops Q S (fuel + 1) listed a w :=
  wpAnyH_all hr (by simp) fun j hj => by
    have : j = i := by simpa using hj
    rw [this]; exact h
theorem wp_of_run {P : Program} {Q : Exit → Act → World → Prop} {o : Oper} {K : Act → World → Prop} {a : Act} {w w' : World} (hr : (execOp a.eval o).run P w = .ok .skip w') (h : K (a.put o.dst undef) w') : o.wp P a w K Q := by
  unfold Oper.wp
  rw [hr]
  exact h
theorem wpOp_of {P : Program} {ops : Array Oper} {Q : Exit → Act → World → Prop} {i : Nat} {o : Oper} {K : Act → World → Prop} {a : Act} {w : World} (hi : ops[i]? = some o) (hw : Region.wanted o (yielded ops a.tmps) = true) (h : o.wp P a w K Q) : wpOp P ops Q i K a w := by
  unfold wpOp
  simp only [hi, hw, if_true]
  exact .inl h
attribute [local irreducible] Oper.wp wpAnyH wpOp in
set_option maxHeartbeats 2000000 in
set_option maxRecDepth 100000 in
theorem catch_panicking (R : Nat) (e at_ : Int) (older : List PanicEntry) (w : World) (cs0 : Array Value) (h0 : w.heap[R]? = some (.cells cs0 35 (0, 0))) (hs : cs0.size = 23) (x1 x2 : Value) (h1 : w.heap[R + 1]? = some (.cells #[x1] 24 (0, 0))) (h2 : w.heap[R + 2]? = some (.cells #[x2] 3 (0, 0))) :
    CallsD Tryd.prog 41 #[.pointer (some ⟨R, 0, none⟩), .pointer (some ⟨R + 1, 0, none⟩), .pointer (some ⟨R + 2, 0, none⟩)] (.panicking ({ v := stopV e at_, recovered := false } :: older)) w fun en u' w' =>
      en = .returned (.tuple #[]) ∧ u' = .panicking ({ v := stopV e at_, recovered := true } :: older) ∧ Below R w w' ∧ w'.heap[R]? = some zeroP ∧ w'.heap[R + 1]? = some (.cells #[.int .i64 e] 24 (0, 0)) ∧ w'.heap[R + 2]? = some (.cells #[.int .i64 at_] 3 (0, 0)) := by
  refine callsD_of_wpS Tryd.func41 rfl fun c₀ cs hu => ?_
  simp only [Tryd.ntmps41, List.size_toArray, List.length_cons, List.length_nil, Nat.reduceAdd, Nat.reduceSub, Array.replicate_succ, Array.replicate_zero, List.push_toArray, List.append_toArray, List.nil_append, List.cons_append]
  have hty := assert_stop e at_
  unfold stopV at hu hty ⊢
  apply wpS_seq
  apply wpS_region
  simp [wpOpsS, go_sem, recoverD, hu, Exit.thenS]
  refine wpS_of_wp ?_
  go_upto_region 5 with fail
  have hc0 : (w.alloc (.cells #[.int .i64 e, .int .i64 at_] 68)).cell? ⟨w.heap.size, 0, none⟩ = some (.int .i64 e) := (blk_cell (heap_alloc_new w _) 0).trans rfl
  have hc1 : (w.alloc (.cells #[.int .i64 e, .int .i64 at_] 68)).cell? ⟨w.heap.size, 1, none⟩ = some (.int .i64 at_) := (blk_cell (heap_alloc_new w _) 1).trans rfl
  have hRw : R < w.heap.size := heap_lt h0
  have hRw1 : R + 1 < w.heap.size := heap_lt h1
  have hRw2 : R + 2 < w.heap.size := heap_lt h2
  have hal := below_new w (.cells #[.int .i64 e, .int .i64 at_] 68)
  have g0 := below_blk hal h0
  have g1 := below_blk hal h1
  have g2 := below_blk hal h2
  have hbuilt : Tryd.prog.built 35 [] = some (pvC (North.pv0 North.fm00) nilS nilS nilS nilS nilS).toArray := by kernel_rfl
  refine wp_region_held (S := fun w' => w'.cell? ⟨w.heap.size, 0, none⟩ = some (.int .i64 e) ∧ w'.cell? ⟨w.heap.size, 1, none⟩ = some (.int .i64 at_)) (by kernel_rfl) ?_
  refine held_from (fun V => Below w.heap.size w V ∧ V.heap[R]? = some (.cells cs0 35 (0, 0)) ∧ V.heap[R + 1]? = some (.cells #[x1] 24 (0, 0)) ∧ V.heap[R + 2]? = some (.cells #[x2] 3 (0, 0)) ∧ (V.cell? ⟨w.heap.size, 0, none⟩ = some (.int .i64 e) ∧ V.cell? ⟨w.heap.size, 1, none⟩ = some (.int .i64 at_)))
    ⟨⟨hal.os, hal.tape, hal.output, hal.size, hal.block⟩, g0, g1, g2, hc0, hc1⟩ ?_
  clear hal g0 g1 g2 hc0 hc1 h0 h1 h2 hty
  rintro V ⟨hal, h0, h1, h2, hS⟩
  refine wpAnyH_take (i := 0) (v := .agg (pvC (North.pv0 North.fm00) nilS nilS nilS nilS nilS).toArray) rfl (by kernel_rfl) (by kernel_rfl) (by kernel_rfl) (fun _ _ _ h => h) (.inl ⟨by kernel_rfl, fun w' _ => run_build_op rfl hbuilt w'⟩) hS ?_
  refine wpAnyH_take (i := 1) (v := .pointer (some ⟨w.heap.size, 0, none⟩)) rfl (by kernel_rfl) (by kernel_rfl) (by kernel_rfl) (fun _ _ _ h => h) (.inl ⟨by kernel_rfl, fun w' _ => by go_simp⟩) hS ?_
  refine wpAnyH_take (i := 2) (v := .int .i64 e) rfl (by kernel_rfl) (by kernel_rfl) (by kernel_rfl) (fun _ _ _ h => h) (.inl ⟨by kernel_rfl, fun w' hw' => by obtain ⟨q0, q1⟩ := hw'; go_simp⟩) hS ?_
  refine wpAnyH_take (i := 3) (v := .pointer (some ⟨w.heap.size, 1, none⟩)) rfl (by kernel_rfl) (by kernel_rfl) (by kernel_rfl) (fun _ _ _ h => h) (.inl ⟨by kernel_rfl, fun w' _ => by go_simp⟩) hS ?_
  refine wpAnyH_take (i := 4) (v := .int .i64 at_) rfl (by kernel_rfl) (by kernel_rfl) (by kernel_rfl) (fun _ _ _ h => h) (.inl ⟨by kernel_rfl, fun w' hw' => by obtain ⟨q0, q1⟩ := hw'; go_simp⟩) hS ?_
  refine held_one 5 (by kernel_rfl) ?_
  have hk := setRow_keep V R (pvC (North.pv0 North.fm00) nilS nilS nilS nilS nilS).toArray
  refine wpOp_of rfl (by kernel_rfl) (wp_store_row 35 _ _ rfl R (pvC (North.pv0 North.fm00) nilS nilS nilS nilS nilS).toArray (by kernel_rfl) (by kernel_rfl) 35 cs0 h0 info_Provision (by rw [hs]; rfl) (by decide +kernel) ⟨⟨hk.cell hS.1 (by omega), hk.cell hS.2 (by omega)⟩, ?_⟩)
  refine held_from (fun V => Below R w V ∧ V.heap[R]? = some zeroP ∧ V.heap[R + 1]? = some (.cells #[x1] 24 (0, 0)) ∧ V.heap[R + 2]? = some (.cells #[x2] 3 (0, 0)) ∧ (V.cell? ⟨w.heap.size, 0, none⟩ = some (.int .i64 e) ∧ V.cell? ⟨w.heap.size, 1, none⟩ = some (.int .i64 at_)))
    ⟨⟨hk.os.trans hal.os, hk.tape.trans hal.tape, hk.output.trans hal.output, Nat.le_trans hal.size hk.size, fun j hj => (hk.block j (by have := hal.size; omega) (by omega)).trans (hal.block j (by omega))⟩, setRow_blk h0 _, hk.blk h1 (by omega), hk.blk h2 (by omega), hk.cell hS.1 (by omega), hk.cell hS.2 (by omega)⟩ ?_
  clear hk hal h0 h1 h2 hS V
  rintro V ⟨hal, h0, h1, h2, hS⟩
  refine held_one 6 (by kernel_rfl) ?_
  have c1 := (blk_cell h1 0).trans rfl
  have f1 := blk_free h1 0
  have hk : Keep (R + 1) V (V.setCell ⟨R + 1, 0, none⟩ (.int .i64 e)) := (Keep.refl _ V).set 0 _
  refine wpOp_of rfl (by kernel_rfl) (wp_of_run (w' := V.setCell ⟨R + 1, 0, none⟩ (.int .i64 e)) (by clear hal hbuilt hS hk h0 h1 h2 hu; go_simp) ⟨⟨hk.cell hS.1 (by omega), hk.cell hS.2 (by omega)⟩, ?_⟩)
  refine held_from (fun V => Below R w V ∧ V.heap[R]? = some zeroP ∧ V.heap[R + 1]? = some (.cells #[.int .i64 e] 24 (0, 0)) ∧ V.heap[R + 2]? = some (.cells #[x2] 3 (0, 0)) ∧ (V.cell? ⟨w.heap.size, 0, none⟩ = some (.int .i64 e) ∧ V.cell? ⟨w.heap.size, 1, none⟩ = some (.int .i64 at_)))
    ⟨⟨hk.os.trans hal.os, hk.tape.trans hal.tape, hk.output.trans hal.output, Nat.le_trans hal.size hk.size, fun j hj => (hk.block j (by have := hal.size; omega) (by omega)).trans (hal.block j (by omega))⟩, hk.blk h0 (by omega), (blk_set h1 0 _).trans rfl, hk.blk h2 (by omega), hk.cell hS.1 (by omega), hk.cell hS.2 (by omega)⟩ ?_
  clear hk hal h0 h1 h2 hS c1 f1 V
  rintro V ⟨hal, h0, h1, h2, hS⟩
  refine held_one 7 (by kernel_rfl) ?_
  have c1 := (blk_cell h2 0).trans rfl
  have f1 := blk_free h2 0
  have hk : Keep (R + 2) V (V.setCell ⟨R + 2, 0, none⟩ (.int .i64 at_)) := (Keep.refl _ V).set 0 _
  refine wpOp_of rfl (by kernel_rfl) (wp_of_run (w' := V.setCell ⟨R + 2, 0, none⟩ (.int .i64 at_)) (by clear hal hbuilt hS hk h0 h1 h2 hu; go_simp) ⟨⟨hk.cell hS.1 (by omega), hk.cell hS.2 (by omega)⟩, ?_⟩)
  refine wpAnyH_done (by kernel_rfl) ?_ _
  refine ⟨rfl, _, rfl, .tuple #[], ?_, rfl, rfl, ⟨hk.os.trans hal.os, hk.tape.trans hal.tape, hk.output.trans hal.output, Nat.le_trans hal.size hk.size, fun j hj => (hk.block j (by have := hal.size; omega) (by omega)).trans (hal.block j (by omega))⟩, hk.blk h0 (by omega), hk.blk h1 (by omega), (blk_set h2 0 _).trans rfl⟩
  simp [results, Tryd.results41]
end Go.Proofs.YtlhgflnmdmifaaaDoor.Wk
