/- Parse, by the lexer's contract. -/
import Derived.Test.YtlhgflnmdmifaaaDoorN16
import Derived.Test.YtlhgflnmdmifaaaDoorN17
namespace Go.Proofs.YtlhgflnmdmifaaaDoor.Wk
open Go.RowKit PD

/-- What the lexer hands back. -/
def LexOut (s : Str) (w : World) (e : Ending) (w' : World) : Prop :=
  Below w.heap.size w w' ∧ ∃ A n c, e = .returned (.tuple #[.slice A n c, .int .i64 (Lex.lex s).2.1, .int .i64 (Lex.lex s).2.2]) ∧
    ((Lex.lex s).2.1 = 0 → n = (Lex.lex s).1.length ∧ n ≤ c ∧ (0 < n → ∃ b, A = some ⟨b, 0, none⟩ ∧ w.heap.size ≤ b ∧ Toks w' b 0 (Lex.lex s).1))
def LexP : Prop := ∀ (s : Str) (w : World), s.length < 4611686018427387904 → Calls Tryd.prog 15 #[.string (mkS s)] w (LexOut s w)

theorem results_three {P : Program} {fn : Func} {t0 t1 t2 : Tmp} {y0 y1 y2 : TypeId} (h : fn.results = #[.cell t0 y0, .cell t1 y1, .cell t2 y2]) (a : Act) (w : World) {a0 a1 a2 : Addr} {v0 v1 v2 : Value}
    (h0 : a.tmps.getD t0 undef = .pointer (some a0)) (h1 : a.tmps.getD t1 undef = .pointer (some a1)) (h2 : a.tmps.getD t2 undef = .pointer (some a2))
    (l0 : (loadVar y0 a0).run P w = .ok v0 w) (l1 : (loadVar y1 a1).run P w = .ok v1 w) (l2 : (loadVar y2 a2).run P w = .ok v2 w) : (results fn a.tmps).run P w = .ok (.tuple #[v0, v1, v2]) w := by
  have h0' : a.tmps[t0]?.getD undef = .pointer (some a0) := by rw [← h0]; simp
  have h1' : a.tmps[t1]?.getD undef = .pointer (some a1) := by rw [← h1]; simp
  have h2' : a.tmps[t2]?.getD undef = .pointer (some a2) := by rw [← h2]; simp
  simp only [results, h]
  simp [h0', h1', h2', l0, l1, l2, asAddr]
theorem load_errno (w : World) (b : Nat) (x : Int) (h : w.cell? ⟨b, 0, none⟩ = some (.int .i64 x)) : (loadVar 24 ⟨b, 0, none⟩).run Tryd.prog w = .ok (.int .i64 x) w := by go_simp
theorem load_int (w : World) (b : Nat) (x : Int) (h : w.cell? ⟨b, 0, none⟩ = some (.int .i64 x)) : (loadVar 3 ⟨b, 0, none⟩).run Tryd.prog w = .ok (.int .i64 x) w := by go_simp
set_option maxRecDepth 100000 in
theorem parse_lexerr (HL : LexP) (s : Str) (hs : s.length < 4611686018427387904) (w : World) (er : Nat) (he : (Lex.lex s).2.1 = er) (hne : er ≠ 0) (at_ : Int) (ha : (Lex.lex s).2.2 = at_) :
    Calls Tryd.prog 16 #[.string (mkS s)] w fun e w' => e = .returned (.tuple #[.agg (pvC (North.pv0 North.fm00) nilS nilS nilS nilS nilS).toArray, .int .i64 er, .int .i64 at_]) ∧ Below w.heap.size w w' := by
  have hmf : ∀ (fn : Fn) (first cap : Array Value) (w : World), (Instr.makeFunc fn first cap).run Tryd.prog w = .ok (.func fn first cap) w := fun _ _ _ _ => rfl
  have hb : ((er : Int) != 0) = true := by simp; omega
  have H := Lib.hid HL; clear HL
  have HE := Lib.hid he; clear he
  have HA := Lib.hid ha; clear ha
  have HS := Lib.hid hs; clear hs
  go_enter_defers Tryd.func16, Tryd.ntmps16
  go_wp2_with fail
  refine (H.out s _ HS.out).mono ?_
  rintro e w2 ⟨hB, A, n, c, rfl, -⟩
  rw [HE.out, HA.out]
  have hR : w2.heap[w.heap.size]? = some zeroP := below_blk hB (below_blk (below_new _ _) (below_blk (below_new _ _) (heap_alloc_new w zeroP)))
  have hE0 := heap_alloc_new (w.alloc zeroP) (.cells #[.int .i64 0] 24)
  rw [World.size_alloc] at hE0
  have hE : w2.heap[w.heap.size + 1]? = some (.cells #[.int .i64 0] 24 (0, 0)) := below_blk hB (below_blk (below_new _ _) hE0)
  have hN0 := heap_alloc_new ((w.alloc zeroP).alloc (.cells #[.int .i64 0] 24)) (.cells #[.int .i64 0] 3)
  rw [World.size_alloc, World.size_alloc] at hN0
  have hN : w2.heap[w.heap.size + 1 + 1]? = some (.cells #[.int .i64 0] 3 (0, 0)) := below_blk hB hN0
  have hBw : Below w.heap.size w w2 := below_then (below_then (below_then (below_new w zeroP) (below_new _ (.cells #[.int .i64 0] 24))) (below_new _ (.cells #[.int .i64 0] 3))) hB
  clear hE0 hN0
  have HBW := Lib.hid hBw
  clear hB hBw H HS HE HA
  have hrange : w2.rangeAt w.heap.size 0 (pvC (North.pv0 North.fm00) nilS nilS nilS nilS nilS) := by
    intro j v hj
    rw [Nat.zero_add, blk_cell hR j]
    simpa using hj
  have H1 := Lib.hid hrange; clear hrange
  have H2 := Lib.hid hR; clear hR
  have H3 := Lib.hid hE
  have H4 := Lib.hid hN
  have c1 : w2.cell? ⟨w.heap.size + 1, 0, none⟩ = some (.int .i64 0) := (blk_cell hE 0).trans rfl
  have c2 : w2.cell? ⟨w.heap.size + 1 + 1, 0, none⟩ = some (.int .i64 0) := (blk_cell hN 0).trans rfl
  have f1 := blk_free hE 0
  have f2 := blk_free hN 0
  clear hE hN
  have hk := setRow_keep w2 w.heap.size (pvC (North.pv0 North.fm00) nilS nilS nilS nilS nilS).toArray
  have hcell := hk.cell c1 (by omega)
  have hcell2 := hk.cell c2 (by omega)
  have hfr : (w2.setRow w.heap.size (pvC (North.pv0 North.fm00) nilS nilS nilS nilS nilS).toArray).frozen? ⟨w.heap.size + 1, 0, none⟩ = false := blk_free (hk.blk H3.out (by omega)) 0
  have hfr2 : (w2.setRow w.heap.size (pvC (North.pv0 North.fm00) nilS nilS nilS nilS nilS).toArray).frozen? ⟨w.heap.size + 1 + 1, 0, none⟩ = false := blk_free (hk.blk H4.out (by omega)) 0
  have HK := Lib.hid hk; clear hk
  clear c1 c2 f1 f2
  go_wp2_with (first | (refine wpList_load_mid rfl 35 _ rfl w.heap.size 0 rfl (pvC (North.pv0 North.fm00) nilS nilS nilS nilS nilS) _ H1.out Tryd.underlying35 rfl info_Provision ?_) | (refine wpList_store_row rfl 35 _ _ rfl w.heap.size (pvC (North.pv0 North.fm00) nilS nilS nilS nilS nilS).toArray rfl rfl 35 (pvC (North.pv0 North.fm00) nilS nilS nilS nilS nilS).toArray H2.out info_Provision rfl (by decide +kernel) ?_))
  have hb1 := HK.out.blk H3.out (by omega)
  have hb2 := HK.out.blk H4.out (by omega)
  have hb0 := setRow_blk H2.out (pvC (North.pv0 North.fm00) nilS nilS nilS nilS nilS).toArray
  have HKO := HK.out
  clear hcell hcell2 hfr hfr2 HK
  generalize w2.setRow w.heap.size (pvC (North.pv0 North.fm00) nilS nilS nilS nilS nilS).toArray = V at *
  have k1 : Keep (w.heap.size + 1) V (V.setCell ⟨w.heap.size + 1, 0, none⟩ (.int .i64 er)) := (Keep.refl _ V).set 0 _
  have m1 := (blk_set hb1 0 (.int .i64 er)).trans rfl
  have m0 := k1.blk hb0 (by omega)
  have m2 := k1.blk hb2 (by omega)
  generalize V.setCell ⟨w.heap.size + 1, 0, none⟩ (.int .i64 er) = V1 at *
  have k2 : Keep (w.heap.size + 1 + 1) V1 (V1.setCell ⟨w.heap.size + 1 + 1, 0, none⟩ (.int .i64 at_)) := (Keep.refl _ V1).set 0 _
  have n2 := (blk_set m2 0 (.int .i64 at_)).trans rfl
  have n0 := k2.blk m0 (by omega)
  have n1 := k2.blk m1 (by omega)
  generalize V1.setCell ⟨w.heap.size + 1 + 1, 0, none⟩ (.int .i64 at_) = V2 at *
  have hfin : Below w.heap.size w V2 := by
    have h1 := (((Keep.of_below (g := w.heap.size) HBW.out).newer HKO (Nat.le_refl _)).newer k1 (by omega)).newer k2 (by omega)
    exact h1.to_below (Nat.le_refl _)
  have hres := results_three Tryd.results16 { tmps := #[.string (mkS s), undef, .pointer (some ⟨w.heap.size, 0, none⟩), .pointer (some ⟨w.heap.size + 1, 0, none⟩), .pointer (some ⟨w.heap.size + 1 + 1, 0, none⟩), .slice A n c, .int .i64 er, .int .i64 at_, undef, .tuple #[.slice A n c, .int .i64 er, .int .i64 at_], .string (mkS s), .tuple #[.slice A n c, .int .i64 er, .int .i64 at_], .slice A n c, .int .i64 er, .int .i64 at_, .int .i64 er, .bool true, .agg (pvC (North.pv0 North.fm00) nilS nilS nilS nilS nilS).toArray, .int .i64 er, .int .i64 at_, undef, undef, undef, undef, undef, undef, undef, undef], defers := [] } V2 (P := Tryd.prog)
    (a0 := ⟨w.heap.size, 0, none⟩) (a1 := ⟨w.heap.size + 1, 0, none⟩) (a2 := ⟨w.heap.size + 1 + 1, 0, none⟩) rfl rfl rfl
    (run_loadVar_row V2 w.heap.size 35 35 _ (0, 0) _ n0 Tryd.underlying35 rfl info_Provision) (load_errno V2 _ er ((blk_cell n1 0).trans rfl)) (load_int V2 _ at_ ((blk_cell n2 0).trans rfl))
  exact ⟨_, hres, rfl, hfin⟩
/-- The tokens that the lexer hands back serve the parser. -/
theorem par_of {w : World} {A : Option Addr} {n c : Nat} {l : List (Tok × Nat)} {en : Nat} {B : Nat} (hn : n = l.length) (hc : n ≤ c) (hA : 0 < n → ∃ b, A = some ⟨b, 0, none⟩ ∧ B ≤ b ∧ Toks w b 0 l) (hok : ∀ x ∈ l, Lex.TokOk x.1) (hfew : l.length ≤ 5000) {m : Int} (hm : w.cell? ⟨2, 0, none⟩ = some (.int .i64 m)) :
    ∃ b, Par (w.alloc (.cells #[.slice A n c, .int .i64 en] 72)) w.heap.size b 0 c l en 0 := by
  subst hn
  have hml := below_cell (below_new w (.cells #[.slice A l.length c, .int .i64 en] 72)) hm
  have hmlt : 2 < w.heap.size := cell_lt hm
  rcases Nat.eq_zero_or_pos l.length with h0 | h0
  · have hl := List.eq_nil_of_length_eq_zero h0
    subst hl
    refine ⟨w.heap.size + 1, by simp, hc, ⟨A, fun h => by simp at h, by simpa using heap_alloc_new w _⟩, ⟨fun j t p e => by simp at e, fun j t p e => by simp at e, fun j t p e => by simp at e, fun j t p e => by simp at e⟩, by omega, hok, by simp, ⟨m, hml⟩, by omega⟩
  · obtain ⟨b, rfl, _, ht⟩ := hA h0
    have hb : b < w.heap.size := by
      have e : l[0]? = some l[0] := List.getElem?_eq_getElem h0
      exact cell_lt (ht.kind 0 _ _ e)
    exact ⟨b, by simp, hc, ⟨_, fun _ => rfl, by simpa using heap_alloc_new w _⟩, ht.below (below_new w _), by omega, hok, hfew, ⟨m, hml⟩, by omega⟩
end Go.Proofs.YtlhgflnmdmifaaaDoor.Wk
