/- The classes of bytes. -/
import Derived.Test.YtlhgflnmdmifaaaDoorN15
import Derived.Deep.LoopGhost
import Derived.IntWalk
namespace Go.Proofs.YtlhgflnmdmifaaaDoor.Wk
open Go.RowKit PD

/-- A byte's class but for the three marks. -/
def cls0 (i : Nat) : Nat :=
  if (97 ≤ i ∧ i ≤ 122) ∨ (65 ≤ i ∧ i ≤ 90) then 3 else if 48 ≤ i ∧ i ≤ 57 then 4 else if 0 ≤ Lib.indexByte [32, 9, 10] (UInt8.ofNat i) then 1 else if 0 ≤ Lib.indexByte [59, 44, 46, 58, 40, 41, 91, 93, 123, 125, 61] (UInt8.ofNat i) then 6 else if i = 60 ∨ i = 62 then 7 else 0
def tabL (i : Nat) : List Value := (List.range 256).map fun j => .int .u8 (if j < i then (cls0 j : Int) else 0)
theorem cls0_eq : ∀ i : Fin 256, (if i.val = 35 then 2 else if i.val = 95 then 5 else if i.val = 33 then 8 else cls0 i.val) = Lex.cls (UInt8.ofNat i.val) := by decide +kernel
theorem tabL_length (i : Nat) : (tabL i).length = 256 := by simp [tabL]
theorem tabL_set (i : Nat) (hi : i < 256) : (tabL i).set i (.int .u8 (cls0 i)) = tabL (i + 1) := by
  apply List.ext_getElem?
  intro j
  rw [List.getElem?_set]
  by_cases h : i = j
  · subst h
    simp [tabL, hi]
  · rw [if_neg h]
    simp only [tabL, List.getElem?_map]
    rcases Nat.lt_or_ge j 256 with hj | hj
    · rw [List.getElem?_range hj]
      simp only [Option.map_some]
      congr 3
      simp only [show (j < i + 1) = (j < i) from by apply propext; omega]
    · rw [List.getElem?_eq_none (by simpa using hj)]
      rfl
theorem tabL_other (i : Nat) (hi : i < 256) (h0 : cls0 i = 0) : tabL i = tabL (i + 1) := by
  rw [← tabL_set i hi, h0]
  symm
  apply List.ext_getElem?
  intro j
  rw [List.getElem?_set]
  by_cases h : i = j
  · subst h; simp [tabL, hi]
  · rw [if_neg h]
theorem tabL_zero : Tryd.zeroCells82 = (tabL 0).toArray := by kernel_rfl

/-- The table of all bytes' classes. -/
def clsT : List Value := (List.range 256).map fun j => .int .u8 (Lex.cls (UInt8.ofNat j) : Int)
theorem tab_end : (((tabL 256).set 35 (.int .u8 2)).set 95 (.int .u8 5)).set 33 (.int .u8 8) = clsT := by kernel_rfl
theorem tab_one : clsT.toArray.all (·.oneCell') = true := by decide +kernel
theorem clsT_length : clsT.length = 256 := by simp [clsT]
theorem tab_store {w : World} {t i k : Nat} {ty : TypeId} (hi : i < 256) (h : w.heap[t]? = some (.cells (tabL i).toArray ty (0, 0))) (hc : cls0 i = k) : (w.setCell ⟨t, i, none⟩ (.int .u8 k)).heap[t]? = some (.cells (tabL (i + 1)).toArray ty (0, 0)) := by
  subst hc
  rw [blk_set h i _, List.setIfInBounds_toArray, tabL_set i hi]
theorem tab_keep {w : World} {t i : Nat} {ty : TypeId} (hi : i < 256) (h : w.heap[t]? = some (.cells (tabL i).toArray ty (0, 0))) (hc : cls0 i = 0) : w.heap[t]? = some (.cells (tabL (i + 1)).toArray ty (0, 0)) := by
  rw [← tabL_other i hi hc]; exact h
theorem info_table : (Tryd.prog.info? 82).map (·.size) = some 256 := by kernel_rfl
set_option maxRecDepth 100000 in
set_option maxHeartbeats 4000000 in
theorem classes_calls (w : World) : Calls Tryd.prog 51 #[] w fun e w' => e = .returned (.agg clsT.toArray) ∧ Below w.heap.size w w' := by
  go_enter Tryd.func51, Tryd.ntmps51
  go_wp2_with fail
  go_loopg [4] 256 (fun k v wr => ∃ i : Nat, k + i = 256 ∧ v = .int .i64 i ∧ Hid (Below w.heap.size w wr) ∧ Hid (wr.heap[w.heap.size]? = some (.cells (tabL 0).toArray 82 (0, 0))) ∧ Hid (wr.heap[w.heap.size + 1]? = some (.cells (tabL i).toArray 82 (0, 0))))
  case atStart =>
    have h1 := heap_alloc_new (w.alloc (.cells Tryd.zeroCells82 82)) (.cells Tryd.zeroCells82 82)
    rw [World.size_alloc, tabL_zero] at h1
    have h0 := heap_alloc_new w (.cells Tryd.zeroCells82 82)
    refine ⟨0, rfl, rfl, Lib.hid (below_then (below_new _ _) (below_new _ _)), Lib.hid ?_, Lib.hid ?_⟩
    · rw [tabL_zero] at h0 ⊢
      exact below_blk (below_new _ _) h0
    · rw [tabL_zero]; exact h1
  case round =>
    obtain ⟨i, hk, rfl, HB, H0, H1⟩ := hrel
    have hI1 : ∃ q1 : Int, Lib.indexByte [32, 9, 10] (UInt8.ofNat i) = q1 := ⟨_, rfl⟩
    obtain ⟨q1, hq1⟩ := hI1
    have hI2 : ∃ q2 : Int, Lib.indexByte [59, 44, 46, 58, 40, 41, 91, 93, 123, 125, 61] (UInt8.ofNat i) = q2 := ⟨_, rfl⟩
    obtain ⟨q2, hq2⟩ := hI2
    have c1 : ∀ wx : World, Calls Tryd.prog 77 #[.string ⟨#[32, 9, 10]⟩, .int .u8 i] wx fun e w' => e = .returned (.int .i64 q1) ∧ wx = w' := fun wx => by
      have := Tryd.strings_IndexByte ⟨#[32, 9, 10]⟩ i wx
      have e : ((i : Int).toNat.toUInt8) = UInt8.ofNat i := by simp [Nat.toUInt8]
      rw [e, hq1] at this
      exact this.mono fun _ _ h => ⟨h.1, h.2.symm⟩
    have c2 : ∀ wx : World, Calls Tryd.prog 77 #[.string ⟨#[59, 44, 46, 58, 40, 41, 91, 93, 123, 125, 61]⟩, .int .u8 i] wx fun e w' => e = .returned (.int .i64 q2) ∧ wx = w' := fun wx => by
      have := Tryd.strings_IndexByte ⟨#[59, 44, 46, 58, 40, 41, 91, 93, 123, 125, 61]⟩ i wx
      have e : ((i : Int).toNat.toUInt8) = UInt8.ofNat i := by simp [Nat.toUInt8]
      rw [e, hq2] at this
      exact this.mono fun _ _ h => ⟨h.1, h.2.symm⟩
    have C1 := Lib.hid c1; clear c1
    have C2 := Lib.hid c2; clear c2
    have Q1 := Lib.hid hq1; clear hq1
    have Q2 := Lib.hid hq2; clear hq2
    by_cases hi : i < 256
    · have hi' : (i : Int) < 256 := by omega
      have t1 : ∀ j : Nat, j < 256 → ∃ v, wr.cell? ⟨w.heap.size + 1, j, none⟩ = some v := fun j hj => ⟨(tabL i)[j]'(by rw [tabL_length]; exact hj), by rw [blk_cell H1.out j]; simp [tabL_length, hj]⟩
      obtain ⟨ov, hov⟩ := t1 i hi
      have hof := blk_free H1.out i
      have hwr : IntKind.u8.wrap (i : Int) = i := IntWalk.u8_in _ (by omega)
      clear t1
      have HWR := Lib.hid hwr
      go_wp2_with (first | (go_at_call 77; refine (C1.out _).mono ?_; rintro e w' ⟨rfl, rfl⟩) | (go_at_call 77; refine (C2.out _).mono ?_; rintro e w' ⟨rfl, rfl⟩))
      all_goals
        go_roundg (255 - i)
        case measure => omega
        case rel =>
          have hw := HWR.out
          have z60 : ((i : Int) == 60) = true → i = 60 := fun h => by have := beq_iff_eq.1 h; omega
          have y60 : ((i : Int) == 60) = false → i ≠ 60 := fun h e => by rw [e] at h; exact absurd h (by decide)
          have z62 : ((i : Int) == 62) = true → i = 62 := fun h => by have := beq_iff_eq.1 h; omega
          have y62 : ((i : Int) == 62) = false → i ≠ 62 := fun h e => by rw [e] at h; exact absurd h (by decide)
          first | (have z60 := z60 (by assumption)) | (have y60 := y60 (by assumption); first | (have z62 := z62 (by assumption)) | (have y62 := y62 (by assumption))) | skip
          refine ⟨i + 1, by omega, by go_num, ?_, ?_, ?_⟩
          · first | exact HB | exact Lib.hid (HB.out.setCell (p := ⟨w.heap.size + 1, i, none⟩) (by simp) _)
          · first | exact H0 | exact Lib.hid ((Keep.refl (w.heap.size + 1) wr).set i _ |>.blk H0.out (by omega))
          · first
              | exact Lib.hid (tab_store hi H1.out (by unfold cls0; rw [Q1.out, Q2.out]; first | (rw [if_pos (by omega)]) | (rw [if_neg (by omega), if_pos (by omega)]) | (rw [if_neg (by omega), if_neg (by omega), if_pos (by omega)]) | (rw [if_neg (by omega), if_neg (by omega), if_neg (by omega), if_pos (by omega)]) | (rw [if_neg (by omega), if_neg (by omega), if_neg (by omega), if_neg (by omega), if_pos (by omega)])))
              | exact Lib.hid (tab_keep hi H1.out (by unfold cls0; rw [Q1.out, Q2.out]; rw [if_neg (by omega), if_neg (by omega), if_neg (by omega), if_neg (by omega), if_neg (by omega)]))
    · obtain rfl : i = 256 := by omega
      have hcell : ∀ j : Nat, j < 256 → ∃ v, wr.cell? ⟨w.heap.size + 1, j, none⟩ = some v := fun j hj => ⟨(tabL 256)[j]'(by rw [tabL_length]; exact hj), by rw [blk_cell H1.out j]; simp [tabL_length, hj]⟩
      obtain ⟨v35, c35⟩ := hcell 35 (by omega)
      obtain ⟨v95, c95⟩ := hcell 95 (by omega)
      obtain ⟨v33, c33⟩ := hcell 33 (by omega)
      have f35 := blk_free H1.out 35
      have f95 := blk_free H1.out 95
      have f33 := blk_free H1.out 33
      clear hcell C1 C2 Q1 Q2 hi hk
      go_upto_region 20 with fail
      have hb : ((((wr.setCell ⟨w.heap.size + 1, 35, none⟩ (.int .u8 2)).setCell ⟨w.heap.size + 1, 95, none⟩ (.int .u8 5)).setCell ⟨w.heap.size + 1, 33, none⟩ (.int .u8 8))).heap[w.heap.size + 1]? = some (.cells clsT.toArray 82 (0, 0)) := by
        rw [blk_set (blk_set (blk_set H1.out 35 _) 95 _) 33 _, List.setIfInBounds_toArray, List.setIfInBounds_toArray, List.setIfInBounds_toArray, tab_end]
      have hk3 : Keep (w.heap.size + 1) wr (((wr.setCell ⟨w.heap.size + 1, 35, none⟩ (.int .u8 2)).setCell ⟨w.heap.size + 1, 95, none⟩ (.int .u8 5)).setCell ⟨w.heap.size + 1, 33, none⟩ (.int .u8 8)) := (((Keep.refl _ wr).set 35 _).set 95 _).set 33 _
      generalize ((wr.setCell ⟨w.heap.size + 1, 35, none⟩ (.int .u8 2)).setCell ⟨w.heap.size + 1, 95, none⟩ (.int .u8 5)).setCell ⟨w.heap.size + 1, 33, none⟩ (.int .u8 8) = V at *
      have hr : V.rangeAt (w.heap.size + 1) 0 clsT := by
        intro j v hj
        rw [Nat.zero_add, blk_cell hb j]
        simpa using hj
      have h0 := hk3.blk H0.out (by omega)
      have hkV := setRow_keep V w.heap.size clsT.toArray
      have hbV := setRow_blk h0 clsT.toArray
      have hfin : Below w.heap.size w (V.setRow w.heap.size clsT.toArray) := by
        have := ((Keep.of_below (g := w.heap.size) HB.out).newer hk3 (by omega)).newer hkV (Nat.le_refl _)
        exact this.to_below (Nat.le_refl _)
      have HR := Lib.hid hr
      have HH0 := Lib.hid h0
      have HBV := Lib.hid hbV
      have HFIN := Lib.hid hfin
      clear hb hk3 hr h0 hkV hbV hfin c35 c95 c33 f35 f95 f33
      go_wp2_with (first | (refine wpList_load_mid rfl 82 _ rfl (w.heap.size + 1) 0 rfl clsT _ HR.out Tryd.underlying82 rfl (by rw [clsT_length]; exact info_table) ?_) | (refine wpList_store_row rfl 82 _ _ rfl w.heap.size clsT.toArray rfl rfl 82 (tabL 0).toArray HH0.out (by rw [List.size_toArray, clsT_length]; exact info_table) (by rw [List.size_toArray, List.size_toArray, clsT_length, tabL_length]) tab_one ?_))
      refine bodyPost_ret (v := .agg clsT.toArray) (results_one Tryd.results51 _ _ (by rfl) (run_loadVar_row _ w.heap.size 82 82 clsT.toArray (0, 0) _ HBV.out Tryd.underlying82 rfl (by rw [List.size_toArray, clsT_length]; exact info_table))) rfl ⟨rfl, HFIN.out⟩
end Go.Proofs.YtlhgflnmdmifaaaDoor.Wk
