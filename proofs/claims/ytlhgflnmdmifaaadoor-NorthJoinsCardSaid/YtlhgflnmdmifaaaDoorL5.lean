/- tokens: the iterator. -/
import Derived.RangeFuncNested
import Derived.RangeFuncBound
import Derived.RangeFuncCalls
import Derived.RangeFuncLeaves
import Derived.Shelf.Abstract
import Derived.Shelf.RegionOpen
import Derived.OwnWalkIn
import Derived.TacticsInMore
import Derived.LoopNIn
import Derived.LoopIn
import Derived.Sort.CutIn
import Derived.WalkMore
import Derived.Deep.CutBlock
import Derived.Test.YtlhgflnmdmifaaaDoorLB
namespace Go.Proofs.YtlhgflnmdmifaaaDoor.Wk
open Go.RowKit PD
attribute [local go_sem] Oper.semAt_some

def encF (x : Lex.Found) : Array Value := #[.agg #[.int .i64 x.tok.kind, .string (mkS x.tok.text), .int .i64 x.tok.n, .int .i64 x.at_, .int .i64 x.err]]
/-- What a round keeps: the blocks of the iterator's types. -/
def Kp (W W' : World) : Prop := ∀ (b : Nat) (cs : Array Value) (t : TypeId), t = 9 ∨ t = 82 ∨ t = 84 ∨ t = 66 → W.heap[b]? = some (.cells cs t (0, 0)) → W'.heap[b]? = some (.cells cs t (0, 0))
theorem Kp.trans {A B C : World} (h : Kp A B) (k : Kp B C) : Kp A C := fun b cs t ht hb => k b cs t ht (h b cs t ht hb)
theorem kp_b (W : World) (l : Nat) (o o' : Obj) (h : W.heap[l]? = some o) (ho : o.isCells = false) : Kp W (W.putObj l o') := fun b cs t _ hb => by
  rw [World.putObj_heap_other (fun e => by subst e; rw [h] at hb; cases hb; cases ho)]; exact hb
theorem IterAt.kp {w w' : World} {s : Str} {T C A : Nat} (h : IterAt w s T C A) (k : Kp w w') : IterAt w' s T C A :=
  ⟨k _ _ _ (.inl rfl) h.text, k _ _ _ (.inr (.inl rfl)) h.cls, k _ _ _ (.inr (.inr (.inl rfl))) h.at_⟩
theorem IterAt.below {w w' : World} {s : Str} {T C A : Nat} (h : IterAt w s T C A) (k : Below w.heap.size w w') : IterAt w' s T C A := ⟨below_blk k h.text, below_blk k h.cls, below_blk k h.at_⟩
theorem grown_of {w w' : World} (h : Below w.heap.size w w') (row : Option Nat) : w.grownBy w' row := ⟨h.os, h.tape, h.output, h.size, fun k hk _ => h.block k hk⟩

theorem mkS_extract (s : Str) (a b : Nat) : (mkS s).extract a b = mkS ((s.drop a).take (b - a)) := by
  have : ((mkS s).extract a b).data = (mkS ((s.drop a).take (b - a))).data := by
    rw [ByteArray.data_extract]
    simp [mkS]
  cases h1 : (mkS s).extract a b
  rw [h1] at this
  simp only [mkS] at this ⊢
  rw [this]
theorem bytesWorld_below (w : World) (e : TypeId) (s : ByteArray) : Below w.heap.size w (Lib.bytesWorld w e s) :=
  ⟨rfl, rfl, rfl, by rw [Lib.bytesWorld_size]; omega, fun k hk => Lib.bytesWorld_at_old w e s k hk⟩
set_option maxRecDepth 100000 in
set_option maxHeartbeats 4000000 in
theorem tokens2_stops (s : Str) (hs : s.length ≤ 20000) (n T C A : Nat) (w : World) (hit : IterAt w s T C A) :
    SeqStopsK Fence.wide n Tryd.prog 53 #[.pointer (some ⟨T, 0, none⟩), .pointer (some ⟨A, 0, none⟩)] encF Kp (Lex.IsFound (Lex.scan s.length 0 s)) (Lex.Begun s) (s.length + 1) w := by
  intro l J Jx W hW hJ _ hY h0
  have hIt := hit.below hW
  have HIT := Lib.hid hIt
  have HJ := Lib.hid hJ
  have HY := Lib.hid hY
  have HS := Lib.hid hs
  clear hit hW hJ hY hs hIt
  refine callsIn_wide.2 ?_
  go_enter Tryd.func53, Tryd.ntmps53
  apply wp_scope_straight
  go_wp2_with fail
  apply wp_label
  go_wp2_with fail
  go_loopg [4] s.length (fun k v wr => ∃ (i : Nat) (q : List (Tok × Nat)), k + i = s.length ∧ v = .int .i64 i ∧ Hid (Lex.At s q i) ∧ Hid (IterAt wr s T C A) ∧ Hid (J (q.map Lex.okF) wr))
  case atStart => exact ⟨0, [], rfl, rfl, Lib.hid (Lex.at_start s), HIT, Lib.hid h0⟩
  case round =>
    obtain ⟨i, q, hk, rfl, HAT, HI, HJ0⟩ := hrel
    have hT : wr.cell? ⟨T, 0, none⟩ = some (.string (mkS s)) := (blk_cell HI.out.text 0).trans rfl
    have hsz := mkS_size s
    have hs20 := HS.out
    by_cases hi : i < s.length
    · obtain ⟨c, r, hd⟩ : ∃ c r, s.drop i = c :: r := by
        cases hd : s.drop i with
        | nil => have := congrArg List.length hd; simp at this; omega
        | cons c r => exact ⟨c, r, rfl⟩
      have HD := Lib.hid hd
      clear hd
      go_upto_region 4 with fail
      have hB1 := below_new wr (.cells #[.int .i64 0, .string ⟨#[]⟩, .int .i64 0, .int .i64 i, .int .i64 0] 66)
      have hF1 := heap_alloc_new wr (.cells #[.int .i64 0, .string ⟨#[]⟩, .int .i64 0, .int .i64 i, .int .i64 0] 66)
      have hI1 := HI.out.below hB1
      have hA1 := blk_cell hI1.at_ 0
      have hT1 := blk_cell hI1.text 0
      rw [Array.getElem?_singleton, if_pos rfl] at hA1 hT1
      have HI1 := Lib.hid hI1
      have HF1 := Lib.hid hF1
      have HB1 := Lib.hid hB1
      obtain ⟨k0, hk0⟩ : ∃ k, Lex.clsAt s i = k := ⟨_, rfl⟩
      have hkc : Lex.cls c = k0 := by rw [← hk0]; exact (Lex.at_cls HD.out).symm
      have HKC := Lib.hid hkc
      have hat : ∀ (j : Nat), j < 4611686018427387904 → Calls Tryd.prog 52 #[.int .i64 j, .pointer (some ⟨T, 0, none⟩), .pointer (some ⟨C, 0, none⟩)] (wr.alloc (.cells #[.int .i64 0, .string ⟨#[]⟩, .int .i64 0, .int .i64 i, .int .i64 0] 66)) fun e w' => e = .returned (.int .u8 (Lex.clsAt s j)) ∧ wr.alloc (.cells #[.int .i64 0, .string ⟨#[]⟩, .int .i64 0, .int .i64 i, .int .i64 0] 66) = w' :=
        fun j hj => at_calls s hs20 T C j hj _ hI1.textAt
      have HCA := Lib.hid hat
      clear hB1 hI1 hF1 hat hkc
      generalize hV : wr.alloc (.cells #[.int .i64 0, .string ⟨#[]⟩, .int .i64 0, .int .i64 i, .int .i64 0] 66) = V at *
      clear hV hT
      have hat0 := HCA.out i (by omega)
      rw [hk0] at hat0
      have HC0 := Lib.hid hat0
      clear hat0 hk0
      go_upto_block 2 with (go_at_call 52; refine HC0.out.mono ?_; rintro e w' ⟨rfl, rfl⟩)
      go_cut [4] from 21 to 147 (fun v4 wx => ∃ m kind nn er : Nat, v4 = .int .i64 ((i + m : Nat) : Int) ∧ Hid (Keep wr.heap.size V wx) ∧ Hid (wx.heap[wr.heap.size]? = some (.cells #[.int .i64 kind, .string ⟨#[]⟩, .int .i64 nn, .int .i64 i, .int .i64 er] 66 (0, 0))) ∧ Hid (m ≤ r.length + 1) ∧ Hid (Lex.Verdict c r kind nn er m))
      case first =>
        have ⟨⟨c0, c1, c2, c3, c4⟩, ⟨f0, f1, f2, f3, f4⟩, _⟩ := blk5 HF1.out
        have h9 : k0 ≤ 8 := by rw [← HKC.out]; exact Lex.cls_le c
        have hk9 : k0 = 0 ∨ k0 = 5 ∨ k0 = 1 ∨ k0 = 2 ∨ k0 = 3 ∨ k0 = 4 ∨ k0 = 6 ∨ k0 = 7 ∨ k0 = 8 := by omega
        clear h9
        have hdl := Lex.drop_len HD.out
        rcases hk9 with rfl | rfl | rfl | rfl | rfl | rfl | rfl | rfl | rfl
        · go_wp2_with fail
          go_meet
          case rel => exact ⟨0, 0, 0, 3, rfl, Lib.hid ((Keep.refl _ V).set 4 _), Lib.hid ((blk_set HF1.out 4 _).trans rfl), Lib.hid (by omega), Lib.hid (.inr ⟨by decide, Lex.head_05 (.inl HKC.out)⟩)⟩
        · go_wp2_with fail
          go_meet
          case rel => exact ⟨0, 0, 0, 3, rfl, Lib.hid ((Keep.refl _ V).set 4 _), Lib.hid ((blk_set HF1.out 4 _).trans rfl), Lib.hid (by omega), Lib.hid (.inr ⟨by decide, Lex.head_05 (.inr HKC.out)⟩)⟩
        · have hat := Lex.at_gap HAT.out HD.out (Lex.head_1 HKC.out)
          have hjv := HJ.out _ _ _ none HJ0.out (grown_of HB1.out none) (fun r e => by cases e)
          have HAT2 := Lib.hid hat
          have HJV := Lib.hid hjv
          clear hat hjv
          go_wp2_with fail
          go_roundg (gk - 1)
          case measure => omega
          case rel => exact ⟨i + 1, q, by omega, by go_num, HAT2, HI1, HJV⟩
        · -- CASE2
          obtain ⟨L, hL⟩ : ∃ L, ((c :: r).takeWhile (· != 10)).length = L := ⟨_, rfl⟩
          have hLr : L ≤ r.length + 1 := by rw [← hL]; exact Lex.takeWhile_len _ (c :: r)
          have hon : ∀ m, m ≤ L → (m < L ↔ ∃ b, s[i + m]? = some b ∧ b ≠ 10) := by
            intro m hm; rw [← hL] at hm ⊢; exact Lex.hash_on HD.out hm
          have hat := Lex.at_gap HAT.out HD.out (Lex.head_2 HKC.out)
          rw [hL] at hat
          have h1L : 1 ≤ L := by
            have := (Lex.head_gap (Lex.head_2 (r := r) HKC.out)).1
            rw [hL] at this; exact this
          have hjv := HJ.out _ _ _ none HJ0.out (grown_of HB1.out none) (fun r e => by cases e)
          have HAT2 := Lib.hid hat
          have HJV := Lib.hid hjv
          have HON := Lib.hid hon
          clear hon hL hat hjv
          go_wp2_with fail
          go_loopg [4] L (fun k v4 wx => ∃ m : Nat, k + m = L ∧ v4 = .int .i64 ((i + m : Nat) : Int) ∧ V = wx)
          case atStart => exact ⟨0, rfl, rfl, rfl⟩
          case round =>
            obtain ⟨m, hkm, rfl, rfl⟩ := hrel
            by_cases hlt : i + m < s.length
            · have hlt2 : i + m < (mkS s).size := by rw [hsz]; exact hlt
              have hb : s[i + m]? = some s[i + m] := List.getElem?_eq_getElem hlt
              have hg : (mkS s)[i + m] = s[i + m] := by simp [mkS, ByteArray.getElem_eq_getElem_data]; rfl
              by_cases h10 : s[i + m] = 10
              · have hmL : m = L := by
                  have := HON.out m (by omega)
                  rw [hb] at this
                  have h2 : ¬ m < L := fun h => by obtain ⟨b, e, hne⟩ := this.1 h; cases e; exact hne h10
                  omega
                have hv : (((mkS s)[i + m].toNat : Int) != 10) = false := by rw [hg, h10]; rfl
                clear hg hb h10
                rw [← hmL] at HAT2
                have hm1 : 1 ≤ m := by omega
                clear hmL
                go_wp2_with fail
                go_roundg (s.length - (i + m))
                case measure => omega
                case rel => exact ⟨i + m, q, by omega, by go_num, HAT2, HI1, HJV⟩
              · have hmL : m < L := (HON.out m (by omega)).2 ⟨_, hb, h10⟩
                have hv : (((mkS s)[i + m].toNat : Int) != 10) = true := by
                  rw [hg]
                  simp only [bne_iff_ne, ne_eq]
                  intro e
                  exact h10 (UInt8.toNat_inj.1 (by show _ = 10; omega))
                clear hg hb h10
                go_wp2_with fail
                go_roundg (L - (m + 1))
                case measure => omega
                case rel => exact ⟨m + 1, by omega, by go_num, rfl⟩
            · have hmL : m = L := by
                have := HON.out m (by omega)
                have h2 : ¬ m < L := fun h => by obtain ⟨b, e, hne⟩ := this.1 h; rw [List.getElem?_eq_none (by omega)] at e; cases e
                omega
              go_wp2_with fail
              go_roundg (gk - m)
              case measure => omega
              case rel => exact ⟨i + m, q, by omega, by go_num, by rw [hmL]; exact HAT2, HI1, HJV⟩
        · -- CASE3
          obtain ⟨L, hL⟩ : ∃ L, ((c :: r).takeWhile Lex.isWord).length = L := ⟨_, rfl⟩
          have hLr : L ≤ r.length + 1 := by rw [← hL]; exact Lex.takeWhile_len _ (c :: r)
          have hon : ∀ m, m ≤ L → (m < L ↔ Lex.clsAt s (i + m) = 3 ∨ Lex.clsAt s (i + m) = 4 ∨ Lex.clsAt s (i + m) = 5) := by
            intro m hm; rw [← hL] at hm ⊢; exact Lex.word_on HD.out hm
          have HON := Lib.hid hon
          have HL := Lib.hid hL
          clear hon hL
          have hci : Lex.clsAt s i = 3 := (Lex.at_cls HD.out).trans HKC.out
          go_upto_block 5 with (go_at_call 52; refine HC0.out.mono ?_; rintro e w' ⟨rfl, rfl⟩)
          go_cut [4] from 21 to 147 (fun v4 wx => v4 = .int .i64 ((i + L : Nat) : Int) ∧ V = wx)
          case first =>
            go_wp2_with fail
            go_loopg [4, 7] L (fun k v4 v7 wx => ∃ m : Nat, k + m = L ∧ v4 = .int .i64 ((i + m : Nat) : Int) ∧ v7 = .int .u8 (Lex.clsAt s (i + m)) ∧ V = wx)
            case atStart => exact ⟨0, rfl, rfl, by rw [Nat.add_zero, hci]; rfl, rfl⟩
            case round =>
              obtain ⟨m, hkm, rfl, rfl, rfl⟩ := hrel
              obtain ⟨k1, hk1⟩ : ∃ k1, Lex.clsAt s (i + m + 1) = k1 := ⟨_, rfl⟩
              have hc1 := HCA.out (i + m + 1) (by omega)
              rw [hk1] at hc1
              push_cast at hc1
              have HC1 := Lib.hid hc1
              have HK1 := Lib.hid hk1
              have hw := HON.out m (by omega)
              obtain ⟨k2, hk2⟩ : ∃ k2, Lex.clsAt s (i + m) = k2 := ⟨_, rfl⟩
              rw [hk2] at hw ⊢
              have hle : k2 ≤ 8 := by rw [← hk2]; exact Lex.clsAt_le s (i + m)
              clear hc1 hk1 hk2
              by_cases hmL : m < L
              · rcases hw.1 hmL with rfl | rfl | rfl
                all_goals
                  clear hw hle
                  go_wp2_with (go_at_call 52; refine HC1.out.mono ?_; rintro e w' ⟨rfl, rfl⟩)
                  go_roundg (L - (m + 1))
                  case measure => omega
                  case rel => exact ⟨m + 1, by omega, by go_num, by rw [← Nat.add_assoc, HK1.out], rfl⟩
              · have hne : k2 ≠ 3 ∧ k2 ≠ 4 ∧ k2 ≠ 5 := ⟨fun e => hmL (hw.2 (.inl e)), fun e => hmL (hw.2 (.inr (.inl e))), fun e => hmL (hw.2 (.inr (.inr e)))⟩
                have h3 : ((k2 : Int) == 3) = false := by simp; omega
                have h4 : ((k2 : Int) == 4) = false := by simp; omega
                have h5 : ((k2 : Int) == 5) = false := by simp; omega
                obtain rfl : m = L := by omega
                clear hw hne
                go_wp2_with fail
                go_meet
                case rel => exact ⟨rfl, rfl⟩
          obtain ⟨rfl, rfl⟩ := hcut
          by_cases h24 : L ≤ 24
          · go_wp2_with fail
            go_meet
            case rel => exact ⟨L, 1, 0, 0, rfl, Lib.hid ((Keep.refl _ V).set 0 _), Lib.hid ((blk_set HF1.out 0 _).trans rfl), Lib.hid hLr, Lib.hid (by rw [← HL.out]; exact Lex.verdict_name HKC.out (by rw [HL.out]; exact h24))⟩
          · go_wp2_with fail
            go_meet
            case rel => exact ⟨L, 1, 0, 2, rfl, Lib.hid (((Keep.refl _ V).set 0 _).set 4 _), Lib.hid ((blk_set (blk_set HF1.out 0 _) 4 _).trans rfl), Lib.hid hLr, Lib.hid (Lex.verdict_long HKC.out (by rw [HL.out]; omega))⟩
        · -- CASE4
          obtain ⟨L, hL⟩ : ∃ L, ((c :: r).takeWhile Lex.isDigit).length = L := ⟨_, rfl⟩
          have hLr : L ≤ r.length + 1 := by rw [← hL]; exact Lex.takeWhile_len _ (c :: r)
          have hon : ∀ m, m ≤ L → (m < L ↔ Lex.clsAt s (i + m) = 4) := by
            intro m hm; rw [← hL] at hm ⊢; exact Lex.digit_on HD.out hm
          have hgo : Lex.goesOn ((c :: r).dropWhile Lex.isDigit) = true ↔ Lex.clsAt s (i + L) = 3 ∨ Lex.clsAt s (i + L) = 5 := by
            refine Lex.goesOn_at ?_
            rw [← List.drop_drop, HD.out, ← hL]
            exact Lex.drop_takeWhile _ _
          have HON := Lib.hid hon
          have HL := Lib.hid hL
          have HGO := Lib.hid hgo
          clear hon hL hgo
          go_upto_block 7 with fail
          go_cut [4] from 21 to 147 (fun v4 wx => v4 = .int .i64 ((i + L : Nat) : Int) ∧ V = wx)
          case first =>
            go_wp2_with fail
            go_loopg [4] L (fun k v4 wx => ∃ m : Nat, k + m = L ∧ v4 = .int .i64 ((i + m : Nat) : Int) ∧ V = wx)
            case atStart => exact ⟨0, rfl, rfl, rfl⟩
            case round =>
              obtain ⟨m, hkm, rfl, rfl⟩ := hrel
              obtain ⟨k2, hk2⟩ : ∃ k2, Lex.clsAt s (i + m) = k2 := ⟨_, rfl⟩
              have hc1 := HCA.out (i + m) (by omega)
              rw [hk2] at hc1
              push_cast at hc1
              have HC1 := Lib.hid hc1
              have hw := HON.out m (by omega)
              rw [hk2] at hw
              clear hc1 hk2
              by_cases hmL : m < L
              · obtain rfl := hw.1 hmL
                clear hw
                go_wp2_with (go_at_call 52; refine HC1.out.mono ?_; rintro e w' ⟨rfl, rfl⟩)
                go_roundg (L - (m + 1))
                case measure => omega
                case rel => exact ⟨m + 1, by omega, by go_num, rfl⟩
              · have hne : k2 ≠ 4 := fun e => hmL (hw.2 e)
                have h4 : ((k2 : Int) == 4) = false := by simp; omega
                obtain rfl : m = L := by omega
                clear hw hne
                go_wp2_with (go_at_call 52; refine HC1.out.mono ?_; rintro e w' ⟨rfl, rfl⟩)
                go_meet
                case rel => exact ⟨rfl, rfl⟩
          obtain ⟨rfl, rfl⟩ := hcut
          go_upto_region 23 with fail
          have hk1 : Keep wr.heap.size V (V.setCell ⟨wr.heap.size, 0, none⟩ (.int .i64 2)) := (Keep.refl _ V).set 0 _
          have hI2 : IterAt (V.setCell ⟨wr.heap.size, 0, none⟩ (.int .i64 2)) s T C A := ⟨hk1.blk HI1.out.text (Nat.ne_of_lt (heap_lt HI.out.text)), hk1.blk HI1.out.cls (Nat.ne_of_lt (heap_lt HI.out.cls)), hk1.blk HI1.out.at_ (Nat.ne_of_lt (heap_lt HI.out.at_))⟩
          have hF2 := (blk_set HF1.out 0 (.int .i64 2)).trans rfl
          clear c0 c1 c2 c3 c4 f0 f1 f2 f3 f4 hA1 hT1
          generalize V.setCell ⟨wr.heap.size, 0, none⟩ (.int .i64 2) = V2 at *
          have hF2 : V2.heap[wr.heap.size]? = some (.cells #[.int .i64 2, .string ⟨#[]⟩, .int .i64 0, .int .i64 i, .int .i64 0] 66 (0, 0)) := hF2
          have ⟨⟨c0, c1, c2, c3, c4⟩, ⟨f0, f1, f2, f3, f4⟩, _⟩ := blk5 hF2
          have hA1 := blk_cell hI2.at_ 0
          have hT1 := blk_cell hI2.text 0
          rw [Array.getElem?_singleton, if_pos rfl] at hA1 hT1
          obtain ⟨k3, hk3⟩ : ∃ k3, Lex.clsAt s (i + L) = k3 := ⟨_, rfl⟩
          have hc1 := at_calls s hs20 T C (i + L) (by omega) V2 hI2.textAt
          rw [hk3] at hc1
          push_cast at hc1
          have hgo := HGO.out
          rw [hk3] at hgo
          have HC3 := Lib.hid hc1
          have HGO3 := Lib.hid hgo
          have HK2 := Lib.hid hk1
          have HF2 := Lib.hid hF2
          have hall : ((c :: r).take L).all Lex.isDigit = true := by rw [← HL.out, ← Lex.takeWhile_take]; exact Lex.takeWhile_all _ _
          have hl1 : 1 ≤ L := by rw [← HL.out, Lex.tw_cons _ ((Lex.digit_cls c).2 HKC.out)]; simp
          clear hc1 hk3 hgo HGO hk1 hF2 hI2 HC0 HCA
          by_cases h7 : L ≤ 7
          · have hti : ∀ wx : World, Calls Tryd.prog 54 #[.string ((mkS s).extract i (i + L))] wx fun e w' => e = .returned (.tuple #[.int .i64 (Lex.numOf ((c :: r).take L)), .nilIface]) ∧ Below wx.heap.size wx w' := fun wx => by
              rw [mkS_extract, HD.out, Nat.add_sub_cancel_left]
              refine (Tryd.strconv_Atoi (mkS ((c :: r).take L)) _ (by rw [mkS_size, List.length_take]; omega) (by rw [mkS_data]; exact Lex.atoi_digits _ hall (by obtain ⟨L', rfl⟩ : ∃ L', L = L' + 1 := ⟨L - 1, by omega⟩; simp)) wx).mono ?_
              rintro e w' ⟨rfl, t, rfl⟩
              exact ⟨rfl, bytesWorld_below _ _ _⟩
            have HTI := Lib.hid hti
            have HALL := Lib.hid hall
            clear hti hall
            obtain ⟨NN, hNN⟩ : ∃ NN, Lex.numOf ((c :: r).take L) = NN := ⟨_, rfl⟩
            rw [hNN] at HTI
            have HNN := Lib.hid hNN
            clear hNN
            by_cases hk : k3 = 3 ∨ k3 = 5
            · have HBAD := Lib.hid (Lex.verdict_bad (m := L) HKC.out (.inr (HGO3.out.2 hk)))
              rcases hk with rfl | rfl
              all_goals
                go_wp2_with (go_at_call 52; refine HC3.out.mono ?_; rintro e w' ⟨rfl, rfl⟩)
                go_meet
                case rel => exact ⟨L, 2, 0, 4, rfl, Lib.hid (HK2.out.set 4 _), Lib.hid ((blk_set HF2.out 4 _).trans rfl), Lib.hid hLr, HBAD⟩
            · have hg : Lex.goesOn ((c :: r).dropWhile Lex.isDigit) = false := by
                cases hx : Lex.goesOn ((c :: r).dropWhile Lex.isDigit) with
                | false => rfl
                | true => exact absurd (HGO3.out.1 hx) hk
              have hv := Lex.verdict_num HKC.out (by rw [HL.out]; exact h7) hg
              rw [Lex.takeWhile_take, HL.out, HNN.out, List.length_take, List.length_cons, Nat.min_eq_left (by omega)] at hv
              have HV := Lib.hid hv
              have h3 : ((k3 : Int) == 3) = false := by simp; omega
              have h5 : ((k3 : Int) == 5) = false := by simp; omega
              clear hv hg hk
              go_wp2_with (first | (go_at_call 52; refine HC3.out.mono ?_; rintro e w' ⟨rfl, rfl⟩) | (go_at_call 54; refine (HTI.out _).mono ?_; rintro e w5 ⟨rfl, hB5⟩; have hF5 := below_blk hB5 HF2.out; have HF5 := Lib.hid hF5; have d2 : w5.cell? ⟨wr.heap.size, 2, none⟩ = some (.int .i64 0) := (blk_cell hF5 2).trans rfl; have e2 := blk_free hF5 2; have HB5 := Lib.hid hB5; clear hB5 hF5))
              go_meet
              case rel => exact ⟨L, 2, NN, 0, rfl, Lib.hid ((HK2.out.trans (Keep.of_below HB5.out)).set 2 _), Lib.hid ((blk_set HF5.out 2 _).trans rfl), Lib.hid hLr, HV⟩
          · have HBAD := Lib.hid (Lex.verdict_bad (m := L) HKC.out (.inl (by rw [HL.out]; omega)))
            go_wp2_with (go_at_call 52; refine HC3.out.mono ?_; rintro e w' ⟨rfl, rfl⟩)
            go_meet
            case rel => exact ⟨L, 2, 0, 4, rfl, Lib.hid (HK2.out.set 4 _), Lib.hid ((blk_set HF2.out 4 _).trans rfl), Lib.hid hLr, HBAD⟩
        all_goals
          go_upto_region 32 with fail
          have hk1 : Keep wr.heap.size V (V.setCell ⟨wr.heap.size, 0, none⟩ (.int .i64 3)) := (Keep.refl _ V).set 0 _
          have hI2 : IterAt (V.setCell ⟨wr.heap.size, 0, none⟩ (.int .i64 3)) s T C A := ⟨hk1.blk HI1.out.text (Nat.ne_of_lt (heap_lt HI.out.text)), hk1.blk HI1.out.cls (Nat.ne_of_lt (heap_lt HI.out.cls)), hk1.blk HI1.out.at_ (Nat.ne_of_lt (heap_lt HI.out.at_))⟩
          have hF2 := (blk_set HF1.out 0 (.int .i64 3)).trans rfl
          clear c0 c1 c2 c3 c4 f0 f1 f2 f3 f4 hA1 hT1
          generalize V.setCell ⟨wr.heap.size, 0, none⟩ (.int .i64 3) = V2 at *
          have hF2 : V2.heap[wr.heap.size]? = some (.cells #[.int .i64 3, .string ⟨#[]⟩, .int .i64 0, .int .i64 i, .int .i64 0] 66 (0, 0)) := hF2
          have ⟨⟨c0, c1, c2, c3, c4⟩, ⟨f0, f1, f2, f3, f4⟩, _⟩ := blk5 hF2
          have hA1 := blk_cell hI2.at_ 0
          have hT1 := blk_cell hI2.text 0
          rw [Array.getElem?_singleton, if_pos rfl] at hA1 hT1
          have hc1 := at_calls s hs20 T C i (by omega) V2 hI2.textAt
          rw [(Lex.at_cls HD.out).trans HKC.out] at hc1
          have HC3 := Lib.hid hc1
          have HK2 := Lib.hid hk1
          have HF2 := Lib.hid hF2
          clear hc1 hk1 hF2 hI2 HC0 HCA
        · -- CASE6
          go_wp2_with (go_at_call 52; refine HC3.out.mono ?_; rintro e w' ⟨rfl, rfl⟩)
          go_meet
          case rel => exact ⟨1, 3, 0, 0, by go_num, HK2, HF2, Lib.hid (by omega), Lib.hid (.inl ⟨rfl, by rw [Lex.head_6 HKC.out]; rfl, by omega⟩)⟩
        all_goals
          cases hq : Lex.isEq r with
          | true =>
            have he := (Lex.isEq_at HD.out).1 hq
            have hlt : i + 1 < s.length := (List.getElem?_eq_some_iff.1 he).1
            have hlt2 : i + 1 < (mkS s).size := by rw [hsz]; exact hlt
            have hb : s[i + 1] = 61 := by rw [List.getElem?_eq_getElem hlt] at he; exact Option.some.inj he
            have hg : (mkS s)[i + 1] = s[i + 1] := by simp [mkS, ByteArray.getElem_eq_getElem_data]; rfl
            have hv : (((mkS s)[i + 1].toNat : Int) == 61) = true := by rw [hg, hb]; rfl
            obtain ⟨r', rfl⟩ := Lex.isEq_true hq
            have HQ := Lib.hid hq
            clear he hb hg hq
            go_wp2_with (go_at_call 52; refine HC3.out.mono ?_; rintro e w' ⟨rfl, rfl⟩)
            go_meet
            case rel => exact ⟨2, 3, 0, 0, by go_num, HK2, HF2, Lib.hid (by simp), Lib.hid (.inl ⟨rfl, by rw [Lex.head_78 (by first | exact .inl HKC.out | exact .inr HKC.out) HQ.out]; rfl, by omega⟩)⟩
          | false =>
            have HQ := Lib.hid hq
            have hno : s[i + 1]? ≠ some 61 := fun e => by rw [(Lex.isEq_at HD.out).2 e] at hq; cases hq
            clear hq
            by_cases hlt : i + 1 < s.length
            · have hlt2 : i + 1 < (mkS s).size := by rw [hsz]; exact hlt
              have hg : (mkS s)[i + 1] = s[i + 1] := by simp [mkS, ByteArray.getElem_eq_getElem_data]; rfl
              have hv : (((mkS s)[i + 1].toNat : Int) == 61) = false := by
                rw [hg]
                simp only [beq_eq_false_iff_ne, ne_eq]
                intro e
                exact hno (by rw [List.getElem?_eq_getElem hlt]; exact congrArg some (UInt8.toNat_inj.1 (by show _ = 61; omega)))
              clear hno hg
              go_wp2_with (go_at_call 52; refine HC3.out.mono ?_; rintro e w' ⟨rfl, rfl⟩)
              go_meet
              case rel => first
                | exact ⟨1, 3, 0, 0, by go_num, HK2, HF2, Lib.hid (by omega), Lib.hid (.inl ⟨rfl, by rw [Lex.head_7 HKC.out HQ.out]; rfl, by omega⟩)⟩
                | exact ⟨1, 3, 0, 3, by go_num, Lib.hid (HK2.out.set 4 _), Lib.hid ((blk_set HF2.out 4 _).trans rfl), Lib.hid (by omega), Lib.hid (.inr ⟨by decide, Lex.head_8 HKC.out HQ.out⟩)⟩
            · clear hno
              go_wp2_with (go_at_call 52; refine HC3.out.mono ?_; rintro e w' ⟨rfl, rfl⟩)
              go_meet
              case rel => first
                | exact ⟨1, 3, 0, 0, by go_num, HK2, HF2, Lib.hid (by omega), Lib.hid (.inl ⟨rfl, by rw [Lex.head_7 HKC.out HQ.out]; rfl, by omega⟩)⟩
                | exact ⟨1, 3, 0, 3, by go_num, Lib.hid (HK2.out.set 4 _), Lib.hid ((blk_set HF2.out 4 _).trans rfl), Lib.hid (by omega), Lib.hid (.inr ⟨by decide, Lex.head_8 HKC.out HQ.out⟩)⟩
      obtain ⟨m, kind, nn, er, rfl, HK, HF, HM, HV⟩ := hcut
      have hFlt : wr.heap.size < wc.heap.size := heap_lt HF.out
      have hI2 : IterAt wc s T C A := ⟨HK.out.blk HI1.out.text (Nat.ne_of_lt (heap_lt HI.out.text)), HK.out.blk HI1.out.cls (Nat.ne_of_lt (heap_lt HI.out.cls)), HK.out.blk HI1.out.at_ (Nat.ne_of_lt (heap_lt HI.out.at_))⟩
      have hT2 := blk_cell hI2.text 0
      rw [Array.getElem?_singleton, if_pos rfl] at hT2
      have hdl := Lex.drop_len HD.out
      have hml := HM.out
      have h1 : i + m ≤ s.length := by omega
      have ⟨⟨c0, c1, c2, c3, c4⟩, ⟨f0, f1, f2, f3, f4⟩, _⟩ := blk5 HF.out
      have HI2 := Lib.hid hI2
      clear hI2 hA1 hT1 HCA HC0 HI1
      go_upto_region 38 with fail
      rw [mkS_extract, HD.out, Nat.add_sub_cancel_left]
      have hF5 := blk_set HF.out 1 (.string (mkS ((c :: r).take m)))
      have hK5 : Keep wr.heap.size V (wc.setCell ⟨wr.heap.size, 1, none⟩ (.string (mkS ((c :: r).take m)))) := HK.out.set 1 _
      have hI5 : IterAt (wc.setCell ⟨wr.heap.size, 1, none⟩ (.string (mkS ((c :: r).take m)))) s T C A := by
        have hk := (Keep.refl wr.heap.size wc).set 1 (.string (mkS ((c :: r).take m)))
        exact ⟨hk.blk HI2.out.text (Nat.ne_of_lt (heap_lt HI.out.text)), hk.blk HI2.out.cls (Nat.ne_of_lt (heap_lt HI.out.cls)), hk.blk HI2.out.at_ (Nat.ne_of_lt (heap_lt HI.out.at_))⟩
      have hB5 : Below wr.heap.size wr (wc.setCell ⟨wr.heap.size, 1, none⟩ (.string (mkS ((c :: r).take m)))) := Keep.weak HB1.out hK5 (Nat.le_refl _)
      clear c0 c1 c2 c3 c4 f0 f1 f2 f3 f4 hT2
      generalize wc.setCell ⟨wr.heap.size, 1, none⟩ (.string (mkS ((c :: r).take m))) = W5 at *
      have hF5' : W5.heap[wr.heap.size]? = some (.cells #[.int .i64 kind, .string (mkS ((c :: r).take m)), .int .i64 nn, .int .i64 i, .int .i64 er] 66 (0, 0)) := hF5
      have hJ5 := HJ.out _ _ _ none HJ0.out (grown_of hB5 none) (fun r e => by cases e)
      have hql : (q.map Lex.okF).length < s.length + 1 := by have := HAT.out.2.1; simp; omega
      obtain ⟨fn, tmps, assign, body, hy, hR⟩ := HY.out (q.map Lex.okF) ⟨⟨kind, (c :: r).take m, nn⟩, i, er⟩ W5 hJ5 hql
      dsimp only [encF] at hy
      have HR := Lib.hid hR
      have HI5 := Lib.hid hI5
      have HF5 := Lib.hid hF5'
      obtain ⟨⟨c0, c1, c2, c3, c4⟩, ⟨f0, f1, f2, f3, f4⟩, _⟩ := blk5 hF5'
      clear hF5 hF5' hK5 hI5 hB5 hJ5 hR HI2 HK HF
      refine (wpIn_wide (n := n)).1 ?_
      gi_wp2_with fail
      refine ⟨fun h => (by cases h), HR.out.mono ?_⟩
      clear hy HR c0 c1 c2 c3 c4 f0 f1 f2 f3 f4
      rintro e W6 (⟨rfl, hJ6, hk6⟩ | ⟨rfl, hJx6⟩)
      · have hF6 := hk6 _ _ _ (.inr (.inr (.inr rfl))) HF5.out
        have HI6 := Lib.hid (HI5.out.kp hk6)
        have c4 : W6.cell? ⟨wr.heap.size, 4, none⟩ = some (.int .i64 er) := (blk_cell hF6 4).trans rfl
        have HJ6 := Lib.hid hJ6
        clear hk6 hF6 hJ6 HF5 HI5
        have hlen : ((c :: r).take m).length = m := by rw [List.length_take, List.length_cons]; omega
        rcases HV.out with ⟨rfl, htok, hm1⟩ | ⟨hne, herr⟩
        · have hat := Lex.at_tok HAT.out HD.out htok
          rw [hlen] at hat
          have HAT2 := Lib.hid hat
          clear hat htok
          gi_wp2_with fail
          go_wp2_with fail
          go_roundg (gk - m)
          case measure => omega
          case rel => exact ⟨i + m, q ++ [(⟨kind, (c :: r).take m, nn⟩, i)], by omega, rfl, HAT2, HI6, Lib.hid (by rw [List.map_append]; exact HJ6.out)⟩
        · have hb : ((er : Int) != 0) = true := by simp; omega
          have hfin := Lex.at_err HAT.out HD.out herr
          have HFIN := Lib.hid hfin
          clear hfin herr
          gi_wp2_with fail
          go_wp2_with fail
          rw [Exit.noGoto_ret]
          refine bodyPost_ret (results_none rfl _ _ _) rfl ?_
          exact ⟨⟨_, rfl⟩, .inl ⟨_, by rw [HFIN.out]; exact Lex.isFound_some.2 ⟨_, rfl⟩, HJ6.out⟩⟩
      · have hbeg : Lex.Begun s (q.map Lex.okF ++ [⟨⟨kind, (c :: r).take m, nn⟩, i, er⟩]) := by
          rcases HV.out with ⟨rfl, htok, hm1⟩ | ⟨hne, herr⟩
          · have := Lex.begun_tok (Lex.at_tok HAT.out HD.out htok)
            rw [List.map_append] at this
            exact this
          · have := Lex.at_err HAT.out HD.out herr
            exact ⟨[], by rw [this, List.append_nil]; exact Lex.isFound_some.2 ⟨_, rfl⟩⟩
        have HBEG := Lib.hid hbeg
        clear hbeg
        gi_wp2_with fail
        go_wp2_with fail
        rw [Exit.noGoto_ret]
        refine bodyPost_ret (results_none rfl _ _ _) rfl ?_
        exact ⟨⟨_, rfl⟩, .inr ⟨_, HBEG.out, hJx6⟩⟩
    · have hi2 : i = s.length := by omega
      subst hi2
      have hfin := Lex.at_end HAT.out (Nat.le_refl _)
      have HFIN := Lib.hid hfin
      clear hfin hi
      go_wp2_with fail
      rw [Exit.noGoto_normal]
      go_end0
      exact ⟨⟨_, rfl⟩, .inl ⟨q.map Lex.okF, by rw [HFIN.out]; exact Lex.isFound_none.2 rfl, HJ0.out⟩⟩
end Go.Proofs.YtlhgflnmdmifaaaDoor.Wk
