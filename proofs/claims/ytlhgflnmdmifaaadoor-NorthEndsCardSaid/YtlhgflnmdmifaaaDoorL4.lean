/- tokens: the iterator is made. -/
import Derived.Test.YtlhgflnmdmifaaaDoorL3
import Derived.Laws.EntriesVeiled
namespace Go.Proofs.YtlhgflnmdmifaaaDoor.Wk
open Go.RowKit PD

/-- What the iterator has captured. -/
structure IterAt (w : World) (s : Str) (T C A : Nat) : Prop where
  text : w.heap[T]? = some (.cells #[.string (mkS s)] 9 (0, 0))
  cls : w.heap[C]? = some (.cells clsT.toArray 82 (0, 0))
  at_ : w.heap[A]? = some (.cells #[.func (.func 52) #[] #[.pointer (some ⟨T, 0, none⟩), .pointer (some ⟨C, 0, none⟩)]] 84 (0, 0))
theorem IterAt.textAt {w : World} {s : Str} {T C A : Nat} (h : IterAt w s T C A) : TextAt w s T C := ⟨(blk_cell h.text 0).trans rfl, h.cls⟩
set_option maxRecDepth 100000 in
theorem tokens_calls (s : Str) (w : World) :
    Calls Tryd.prog 40 #[.string (mkS s)] w fun e w' => Below w.heap.size w w' ∧ ∃ T C A : Nat, IterAt w' s T C A ∧ e = .returned (.func (.func 53) #[] #[.pointer (some ⟨T, 0, none⟩), .pointer (some ⟨A, 0, none⟩)]) := by
  have hmf : ∀ (fn : Fn) (first cap : Array Value) (w : World), (Instr.makeFunc fn first cap).run Tryd.prog w = .ok (.func fn first cap) w := fun _ _ _ _ => rfl
  go_enter Tryd.func40, Tryd.ntmps40
  go_upto_region 1 with fail
  have hT := heap_alloc_new w (.cells #[.string (mkS s)] 9)
  have hB := below_new w (.cells #[.string (mkS s)] 9)
  have HB := Lib.hid hB
  have HT := Lib.hid hT
  clear hB hT
  go_upto_region 2 with (first | (go_at_call 51; refine (classes_calls _).mono ?_; rintro e w1 ⟨rfl, hB1⟩; have hB2 := below_then HB.out hB1; have hT1 := below_blk hB1 HT.out; have h0 := heap_alloc_new w1 (.cells Tryd.zeroCells82 82); rw [tabL_zero] at h0; have HH0 := Lib.hid h0; have HB2 := Lib.hid hB2; have HT1 := Lib.hid hT1; clear h0 hB2 hT1 hB1 HB HT) | (refine wpList_store_row rfl 82 _ _ rfl w1.heap.size clsT.toArray rfl rfl 82 (tabL 0).toArray HH0.out (by rw [List.size_toArray, clsT_length]; exact info_table) (by rw [List.size_toArray, List.size_toArray, clsT_length, tabL_length]) tab_one ?_))
  have hbV := setRow_blk HH0.out clsT.toArray
  have hkV := setRow_keep (w1.alloc (.cells Tryd.zeroCells82 82)) w1.heap.size clsT.toArray
  rw [← tabL_zero] at hbV
  have hkA := (Keep.of_below (g := w1.heap.size) (below_new w1 (.cells Tryd.zeroCells82 82))).trans hkV
  have hT2 := hkA.blk HT1.out (Nat.ne_of_lt (heap_lt HT1.out))
  have hB3 : Below w.heap.size w ((w1.alloc (.cells Tryd.zeroCells82 82)).setRow w1.heap.size clsT.toArray) := below_then HB2.out (hkA.to_below (Nat.le_refl _))
  have HT2 := Lib.hid hT2
  have HB3 := Lib.hid hB3
  have HC3 := Lib.hid hbV
  clear hT2 hB3 hbV hkA hkV HB2 HT1 HH0
  generalize (w1.alloc (.cells Tryd.zeroCells82 82)).setRow w1.heap.size clsT.toArray = V at *
  go_wp2_with fail
  go_ret
  exact ⟨below_then HB3.out (below_new _ _), w.heap.size, w1.heap.size, V.heap.size, ⟨below_blk (below_new _ _) HT2.out, below_blk (below_new _ _) HC3.out, heap_alloc_new V _⟩, rfl⟩
end Go.Proofs.YtlhgflnmdmifaaaDoor.Wk
