/- Parse, where the lexer has tokens. -/
import Derived.Test.YtlhgflnmdmifaaaDoorN18
namespace Go.Proofs.YtlhgflnmdmifaaaDoor.Wk
open Go.RowKit PD

theorem PvIn.base {w0 w1 w : World} {p : Pv} {wk ex bk ek ak : Value} (h : PvIn w0 w p wk ex bk ek ak) (hb : w1.heap.size ≤ w0.heap.size) : PvIn w1 w p wk ex bk ek ak := by
  obtain ⟨q1, q2, q3, q4, q5⟩ := h
  exact ⟨q1.to (fun _ _ _ => rfl) fun b _ hS => ⟨by have := hS.1; omega, hS.2⟩, own_base q2 (by omega), q3.to (fun _ _ _ => rfl) fun b _ hS => ⟨by have := hS.1; omega, hS.2⟩, q4.to (fun _ _ _ => rfl) fun b _ hS => ⟨by have := hS.1; omega, hS.2⟩, q5.to (fun _ _ _ => rfl) fun b _ hS => ⟨by have := hS.1; omega, hS.2⟩⟩
set_option maxHeartbeats 2000000 in
set_option maxRecDepth 100000 in
theorem parse_err (HL : LexP) (s : Str) (hs : s.length < 4611686018427387904) (w : World) (he : (Lex.lex s).2.1 = 0) (l : List (Tok × Nat)) (hl : (Lex.lex s).1 = l) (hok : ∀ x ∈ l, Lex.TokOk x.1) (hfew : l.length ≤ 5000) {m : Int} (hm : w.cell? ⟨2, 0, none⟩ = some (.int .i64 m))
    (er j : Nat) (hr : Rest l (North.pvR (l.length + 1)) 0 (.err er j)) :
    Calls Tryd.prog 16 #[.string (mkS s)] w fun e w' => e = .returned (.tuple #[.agg (pvC (North.pv0 North.fm00) nilS nilS nilS nilS nilS).toArray, .int .i64 er, .int .i64 (posOf l s.length j)]) ∧ Below w.heap.size w w' := by
  have hmf : ∀ (fn : Fn) (first cap : Array Value) (w : World), (Instr.makeFunc fn first cap).run Tryd.prog w = .ok (.func fn first cap) w := fun _ _ _ _ => rfl
  have H := Lib.hid (HL s); clear HL
  have HE := Lib.hid he; clear he
  have HT := Lib.hid hl; clear hl
  have HS := Lib.hid hs; clear hs
  have HOK := Lib.hid hok; clear hok
  have HM := Lib.hid hm; clear hm
  have HR := Lib.hid hr; clear hr
  have hsz := mkS_size s
  go_enter_defers Tryd.func16, Tryd.ntmps16
  go_wp2_with fail
  refine (H.out _ HS.out).mono ?_
  rintro e w2 ⟨hB, A, n, c, rfl, hA⟩
  replace hA := hA HE.out
  rw [HE.out]
  rw [HT.out] at hA
  have hR : w2.heap[w.heap.size]? = some zeroP := below_blk hB (below_blk (below_new _ _) (below_blk (below_new _ _) (heap_alloc_new w zeroP)))
  have hE0 := heap_alloc_new (w.alloc zeroP) (.cells #[.int .i64 0] 24)
  rw [World.size_alloc] at hE0
  have hE : w2.heap[w.heap.size + 1]? = some (.cells #[.int .i64 0] 24 (0, 0)) := below_blk hB (below_blk (below_new _ _) hE0)
  have hN0 := heap_alloc_new ((w.alloc zeroP).alloc (.cells #[.int .i64 0] 24)) (.cells #[.int .i64 0] 3)
  rw [World.size_alloc, World.size_alloc] at hN0
  have hN : w2.heap[w.heap.size + 1 + 1]? = some (.cells #[.int .i64 0] 3 (0, 0)) := below_blk hB hN0
  have hBw : Below w.heap.size w w2 := below_then (below_then (below_then (below_new w zeroP) (below_new _ (.cells #[.int .i64 0] 24))) (below_new _ (.cells #[.int .i64 0] 3))) hB
  obtain ⟨b, hpar⟩ := par_of (en := s.length) hA.1 hA.2.1 hA.2.2 HOK.out hfew (below_cell hBw HM.out)
  have hlt2 := heap_lt hN
  have HC := provision_calls hpar (l.length + 1) (by omega) _ HR.out (by simp)
  have HC := Lib.hid (Out.err_of rfl HC)
  have HBW := Lib.hid hBw
  have H2 := Lib.hid hR
  have H3 := Lib.hid hE
  have H4 := Lib.hid hN
  clear hE0 hN0 hB hBw hA hpar H HS HE hR hE hN
  go_wp2_with fail
  refine HC.out.mono ?_
  rintro e w4 ⟨rfl, hK⟩
  have hK24 : Keep w2.heap.size w2 w4 := (Keep.of_below (below_new w2 _)).trans hK
  refine leaves_cons (f := 41) (args := #[.pointer (some ⟨w.heap.size, 0, none⟩), .pointer (some ⟨w.heap.size + 1, 0, none⟩), .pointer (some ⟨w.heap.size + 1 + 1, 0, none⟩)]) (by simp) (by simp [go_sem]) ?_
  refine (catch_panicking w.heap.size er (posOf l s.length j) [] w4 _ (hK24.blk H2.out (by omega)) (by rfl) _ _ (hK24.blk H3.out (by omega)) (hK24.blk H4.out (by omega))).mono ?_
  rintro e u' w5 ⟨rfl, rfl, hB5, n0, n1, n2⟩
  have hfin : Below w.heap.size w w5 := by
    have h1 := (HBW.out.trans ((hK24.to_below (Nat.le_refl _)).mono HBW.out.size)).trans hB5
    exact h1
  exact ⟨_, results_three Tryd.results16 _ w5 rfl rfl rfl (run_loadVar_row w5 w.heap.size 35 35 _ (0, 0) _ n0 Tryd.underlying35 rfl info_Provision) (load_errno w5 _ er ((blk_cell n1 0).trans rfl)) (load_int w5 _ (posOf l s.length j) ((blk_cell n2 0).trans rfl)), rfl, hfin⟩

set_option maxHeartbeats 2000000 in
set_option maxRecDepth 100000 in
theorem parse_ok (HL : LexP) (s : Str) (hs : s.length < 4611686018427387904) (w : World) (he : (Lex.lex s).2.1 = 0) (l : List (Tok × Nat)) (hl : (Lex.lex s).1 = l) (hok : ∀ x ∈ l, Lex.TokOk x.1) (hfew : l.length ≤ 5000) {m : Int} (hm : w.cell? ⟨2, 0, none⟩ = some (.int .i64 m))
    (p : Pv) (i : Nat) (hr : Rest l (North.pvR (l.length + 1)) 0 (.ok p i)) :
    Calls Tryd.prog 16 #[.string (mkS s)] w fun e w' => (∃ v, e = .returned (.tuple #[v, .int .i64 0, .int .i64 0]) ∧ EncPv w w' p v) ∧ Below w.heap.size w w' := by
  have hmf : ∀ (fn : Fn) (first cap : Array Value) (w : World), (Instr.makeFunc fn first cap).run Tryd.prog w = .ok (.func fn first cap) w := fun _ _ _ _ => rfl
  have H := Lib.hid (HL s); clear HL
  have HE := Lib.hid he; clear he
  have HT := Lib.hid hl; clear hl
  have HS := Lib.hid hs; clear hs
  have HOK := Lib.hid hok; clear hok
  have HM := Lib.hid hm; clear hm
  have HR := Lib.hid hr; clear hr
  have hsz := mkS_size s
  go_enter_defers Tryd.func16, Tryd.ntmps16
  go_wp2_with fail
  refine (H.out _ HS.out).mono ?_
  rintro e w2 ⟨hB, A, n, c, rfl, hA⟩
  replace hA := hA HE.out
  rw [HE.out]
  rw [HT.out] at hA
  have hR : w2.heap[w.heap.size]? = some zeroP := below_blk hB (below_blk (below_new _ _) (below_blk (below_new _ _) (heap_alloc_new w zeroP)))
  have hE0 := heap_alloc_new (w.alloc zeroP) (.cells #[.int .i64 0] 24)
  rw [World.size_alloc] at hE0
  have hE : w2.heap[w.heap.size + 1]? = some (.cells #[.int .i64 0] 24 (0, 0)) := below_blk hB (below_blk (below_new _ _) hE0)
  have hN0 := heap_alloc_new ((w.alloc zeroP).alloc (.cells #[.int .i64 0] 24)) (.cells #[.int .i64 0] 3)
  rw [World.size_alloc, World.size_alloc] at hN0
  have hN : w2.heap[w.heap.size + 1 + 1]? = some (.cells #[.int .i64 0] 3 (0, 0)) := below_blk hB hN0
  have hBw : Below w.heap.size w w2 := below_then (below_then (below_then (below_new w zeroP) (below_new _ (.cells #[.int .i64 0] 24))) (below_new _ (.cells #[.int .i64 0] 3))) hB
  obtain ⟨b, hpar⟩ := par_of (en := s.length) hA.1 hA.2.1 hA.2.2 HOK.out hfew (below_cell hBw HM.out)
  have hlt2 := heap_lt hN
  have HC := provision_calls hpar (l.length + 1) (by omega) _ HR.out (by simp)
  have HC := Lib.hid (Out.ok_of rfl HC)
  have HBW := Lib.hid hBw
  have H2 := Lib.hid hR
  have H3 := Lib.hid hE
  have H4 := Lib.hid hN
  clear hE0 hN0 hB hBw hA hpar H HS HE hR hE hN
  go_wp2_with fail
  refine HC.out.mono ?_
  rintro e w4 ⟨v, rfl, ⟨wk, ex, bk, ek, ak, rfl, hin⟩, -, hK⟩
  have hK24 : Keep w2.heap.size w2 w4 := (Keep.of_below (below_new w2 _)).trans hK
  have g0 := hK24.blk H2.out (by omega)
  have g1 := hK24.blk H3.out (by omega)
  have g2 := hK24.blk H4.out (by omega)
  have hone := all_oneCell_toArray (pvC_one hin)
  have hinfo : (Tryd.prog.info? 35).map (·.size) = some (pvC p wk ex bk ek ak).toArray.size := by rw [List.size_toArray, pvC_length]; exact info_Provision
  have hold : (pvC (North.pv0 North.fm00) nilS nilS nilS nilS nilS).toArray.size = (pvC p wk ex bk ek ak).toArray.size := by rw [List.size_toArray, List.size_toArray, pvC_length, pvC_length]
  have hs24 := hK24.size
  have hz : (w2.alloc (.cells #[.slice A n c, .int .i64 s.length] 72)).heap.size = w2.heap.size + 1 := by simp
  have hk := setRow_keep w4 w.heap.size (pvC p wk ex bk ek ak).toArray
  have b0 := setRow_blk g0 (pvC p wk ex bk ek ak).toArray
  have b1 := hk.blk g1 (by omega)
  have b2 := hk.blk g2 (by omega)
  have H5 := Lib.hid hone; have H6 := Lib.hid hinfo; have H7 := Lib.hid hold; have H8 := Lib.hid hin; have HZ := Lib.hid hz; have H9 := Lib.hid hk
  have G0 := Lib.hid g0; have B0 := Lib.hid b0; have B1 := Lib.hid b1; have B2 := Lib.hid b2; have HK24 := Lib.hid hK24
  have c1 := (blk_cell b1 0).trans rfl
  have c2 := (blk_cell b2 0).trans rfl
  have f1 := blk_free b1 0
  have f2 := blk_free b2 0
  clear hone hinfo hold hin hz hk g0 g1 g2 b0 b1 b2 HC hK24 hK
  generalize hcs : pvC p wk ex bk ek ak = cs at *
  have HCS := Lib.hid hcs; clear hcs
  go_wp2_with (first | (refine wpList_store_row rfl 35 _ _ rfl w.heap.size cs.toArray rfl rfl 35 (pvC (North.pv0 North.fm00) nilS nilS nilS nilS nilS).toArray G0.out H6.out H7.out H5.out ?_))
  have b0 := B0.out
  have b1 := B1.out
  have b2 := B2.out
  have hk := H9.out
  clear c1 c2 f1 f2
  generalize w4.setRow w.heap.size cs.toArray = V at *
  have k1 : Keep (w.heap.size + 1) V (V.setCell ⟨w.heap.size + 1, 0, none⟩ (.int .i64 0)) := (Keep.refl _ V).set 0 _
  have m1 := (blk_set b1 0 (.int .i64 0)).trans rfl
  have m0 := k1.blk b0 (by omega)
  have m2 := k1.blk b2 (by omega)
  generalize V.setCell ⟨w.heap.size + 1, 0, none⟩ (.int .i64 0) = V1 at *
  have k2 : Keep (w.heap.size + 1 + 1) V1 (V1.setCell ⟨w.heap.size + 1 + 1, 0, none⟩ (.int .i64 0)) := (Keep.refl _ V1).set 0 _
  have n2 := (blk_set m2 0 (.int .i64 0)).trans rfl
  have n0 := k2.blk m0 (by omega)
  have n1 := k2.blk m1 (by omega)
  generalize V1.setCell ⟨w.heap.size + 1 + 1, 0, none⟩ (.int .i64 0) = V2 at *
  have hfin : Below w.heap.size w V2 := by
    have h0 := HBW.out.trans ((HK24.out.to_below (Nat.le_refl _)).mono HBW.out.size)
    have h1 := (((Keep.of_below (g := w.heap.size) h0).newer hk (Nat.le_refl _)).newer k1 (by omega)).newer k2 (by omega)
    exact h1.to_below (Nat.le_refl _)
  have hinV : PvIn w V2 p wk ex bk ek ak := by
    have z1 := hk.size
    have z2 := k1.size
    have z3 := k2.size
    refine (H8.out.move (by omega) fun b hb hS => ?_).base (by rw [HZ.out]; omega)
    rw [HZ.out] at hS
    exact (k2.block b (by omega) (by omega)).trans ((k1.block b (by omega) (by omega)).trans (hk.block b hb (by omega)))
  refine leaves_cons (f := 41) (args := #[.pointer (some ⟨w.heap.size, 0, none⟩), .pointer (some ⟨w.heap.size + 1, 0, none⟩), .pointer (some ⟨w.heap.size + 1 + 1, 0, none⟩)]) (by simp) (by simp [go_sem]) ?_
  refine (catch_idle _ _ _ V2).mono ?_
  rintro e u' w5 ⟨rfl, rfl, rfl⟩
  have hsz0 : (Tryd.prog.info? 35).map (·.size) = some cs.toArray.size := H6.out
  exact ⟨_, results_three Tryd.results16 _ w5 rfl rfl rfl (run_loadVar_row w5 w.heap.size 35 35 _ (0, 0) _ n0 Tryd.underlying35 rfl hsz0) (load_errno w5 _ 0 ((blk_cell n1 0).trans rfl)) (load_int w5 _ 0 ((blk_cell n2 0).trans rfl)), ⟨_, rfl, wk, ex, bk, ek, ak, by rw [HCS.out], hinV⟩, hfin⟩
end Go.Proofs.YtlhgflnmdmifaaaDoor.Wk
