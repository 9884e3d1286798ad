/- The verifier's names: letters, digits, names, the key words. The verifier's Size and formed. The verifier's formed, at formulas that are. The verifier's StartSize and begun. -/
import Derived.Test.YtlhgflnmdmifaaaDoorS7
import Derived.Test.YtlhgflnmdmifaaaDoorS4
import Derived.Test.YtlhgflnmdmifaaaDoorSA
namespace PD
namespace Lex
theorem letter_nat (c : UInt8) : isLetter c = ((decide (97 ≤ c.toNat) && decide (c.toNat ≤ 122)) || (decide (65 ≤ c.toNat) && decide (c.toNat ≤ 90))) := by
  simp only [isLetter, UInt8.le_iff_toNat_le]; rfl
theorem digit_nat (c : UInt8) : isDigit c = (decide (48 ≤ c.toNat) && decide (c.toNat ≤ 57)) := by
  simp only [isDigit, UInt8.le_iff_toNat_le]; rfl
theorem word_nat (c : UInt8) : isWord c = (isLetter c || isDigit c || decide (c.toNat = 95)) := by
  have := byte_all (fun c => isWord c == (isLetter c || isDigit c || decide (c.toNat = 95))) (by decide +kernel) c
  exact eq_of_beq this
theorem cls_letter (c : UInt8) : (cls c = 3) ↔ isLetter c = true := by
  have := byte_all (fun c => (cls c == 3) == isLetter c) (by decide +kernel) c
  have := eq_of_beq this
  rw [← this]; simp
end Lex
/-- The reference's look at a name. -/
def name5 (s : Str) : Bool := s.all Lex.isWord && decide (0 < s.length) && decide (s.length ≤ 24) && (match s with | c :: _ => Lex.isLetter c | [] => false)
theorem name5_is (s : Str) : name5 s = true ↔ IsName s := by
  cases s with
  | nil => simp [name5, IsName]
  | cons c r =>
    simp only [name5, IsName, List.all_cons, Bool.and_eq_true, decide_eq_true_eq, List.length_cons]
    constructor
    · rintro ⟨⟨⟨⟨_, h2⟩, _⟩, h3⟩, h4⟩
      exact ⟨h3, c, r, rfl, (Lex.cls_letter c).2 h4, h2⟩
    · rintro ⟨h3, c', r', e, h4, h2⟩
      cases e
      have h5 := (Lex.cls_letter c).1 h4
      exact ⟨⟨⟨⟨by rw [Lex.word_nat, h5]; rfl, h2⟩, by omega⟩, h3⟩, h5⟩
theorem idx_contains : ∀ (l : List Str) (s : Str), (idx l s).isSome = l.contains s
  | [], s => rfl
  | x :: r, s => by
    simp only [idx, List.contains_cons]
    by_cases h : s = x
    · simp [h]
    · rw [if_neg h, Option.isSome_map, idx_contains r s]
      simp [h]
theorem np_iff (s : Str) : (name5 s && !(idx North.keys s).isSome) = true ↔ North.NP s := by
  rw [idx_contains, Bool.and_eq_true, name5_is, North.NP, North.isKey]
  simp
end PD
namespace Go.Proofs.YtlhgflnmdmifaaaDoor.Wk
open Go.RowKit PD
set_option maxRecDepth 100000 in
set_option maxHeartbeats 2000000 in
theorem letter_calls (c : UInt8) (t : Bool) (ht : Lex.isLetter c = t) (w : World) :
    Calls Tryd.prog 66 #[.int .u8 c.toNat] w fun e w' => e = .returned (.bool t) ∧ w = w' := by
  rw [Lex.letter_nat] at ht
  generalize c.toNat = n at *
  by_cases h1 : 97 ≤ n
  · have g1 : (97 : Int) ≤ (n : Int) := by omega
    by_cases h2 : n ≤ 122
    · have g2 : (n : Int) ≤ 122 := by omega
      obtain rfl : t = true := by rw [← ht]; simp [h1, h2]
      clear ht h1 h2
      go_enter Tryd.func66, Tryd.ntmps66
      go_wp2_with fail
      go_ret
      exact ⟨rfl, rfl⟩
    · have g2 : ¬ (n : Int) ≤ 122 := by omega
      have g3 : (65 : Int) ≤ (n : Int) := by omega
      have g4 : ¬ (n : Int) ≤ 90 := by omega
      obtain rfl : t = false := by rw [← ht]; simp; omega
      clear ht h1 h2
      go_enter Tryd.func66, Tryd.ntmps66
      go_wp2_with fail
      go_ret
      exact ⟨rfl, rfl⟩
  · have g1 : ¬ (97 : Int) ≤ (n : Int) := by omega
    by_cases h3 : 65 ≤ n
    · have g3 : (65 : Int) ≤ (n : Int) := by omega
      by_cases h4 : n ≤ 90
      · have g4 : (n : Int) ≤ 90 := by omega
        obtain rfl : t = true := by rw [← ht]; simp [h3, h4]
        clear ht h1 h3 h4
        go_enter Tryd.func66, Tryd.ntmps66
        go_wp2_with fail
        go_ret
        exact ⟨rfl, rfl⟩
      · have g4 : ¬ (n : Int) ≤ 90 := by omega
        obtain rfl : t = false := by rw [← ht]; simp; omega
        clear ht h1 h3 h4
        go_enter Tryd.func66, Tryd.ntmps66
        go_wp2_with fail
        go_ret
        exact ⟨rfl, rfl⟩
    · have g3 : ¬ (65 : Int) ≤ (n : Int) := by omega
      obtain rfl : t = false := by rw [← ht]; simp; omega
      clear ht h1 h3
      go_enter Tryd.func66, Tryd.ntmps66
      go_wp2_with fail
      go_ret
      exact ⟨rfl, rfl⟩
set_option maxRecDepth 100000 in
set_option maxHeartbeats 2000000 in
theorem digit_calls (c : UInt8) (t : Bool) (ht : Lex.isDigit c = t) (w : World) :
    Calls Tryd.prog 91 #[.int .u8 c.toNat] w fun e w' => e = .returned (.bool t) ∧ w = w' := by
  rw [Lex.digit_nat] at ht
  generalize c.toNat = n at *
  by_cases h1 : 48 ≤ n
  · have g1 : (48 : Int) ≤ (n : Int) := by omega
    by_cases h2 : n ≤ 57
    · have g2 : (n : Int) ≤ 57 := by omega
      obtain rfl : t = true := by rw [← ht]; simp [h1, h2]
      clear ht h1 h2
      go_enter Tryd.func91, Tryd.ntmps91
      go_wp2_with fail
      go_ret
      exact ⟨rfl, rfl⟩
    · have g2 : ¬ (n : Int) ≤ 57 := by omega
      obtain rfl : t = false := by rw [← ht]; simp; omega
      clear ht h1 h2
      go_enter Tryd.func91, Tryd.ntmps91
      go_wp2_with fail
      go_ret
      exact ⟨rfl, rfl⟩
  · have g1 : ¬ (48 : Int) ≤ (n : Int) := by omega
    obtain rfl : t = false := by rw [← ht]; simp; omega
    clear ht h1
    go_enter Tryd.func91, Tryd.ntmps91
    go_wp2_with fail
    go_ret
    exact ⟨rfl, rfl⟩
set_option maxRecDepth 100000 in
set_option maxHeartbeats 2000000 in
theorem word_calls (c : UInt8) (t : Bool) (ht : Lex.isWord c = t) (w : World) :
    Calls Tryd.prog 65 #[.int .u8 c.toNat] w fun e w' => e = .returned (.bool t) ∧ w = w' := by
  rw [Lex.word_nat] at ht
  have HL := Lib.hid (letter_calls c _ rfl w)
  have HD := Lib.hid (digit_calls c _ rfl w)
  generalize Lex.isLetter c = l at *
  generalize Lex.isDigit c = d at *
  generalize c.toNat = n at *
  cases l with
  | true =>
    obtain rfl : t = true := by rw [← ht]; simp
    clear ht
    go_enter Tryd.func65, Tryd.ntmps65
    go_wp2_with (go_at_call 66; refine HL.out.mono ?_; clear HL; rintro e w' ⟨rfl, rfl⟩)
    go_ret
    exact ⟨rfl, rfl⟩
  | false =>
    cases d with
    | true =>
      obtain rfl : t = true := by rw [← ht]; simp
      clear ht
      go_enter Tryd.func65, Tryd.ntmps65
      go_wp2_with (first | (go_at_call 66; refine HL.out.mono ?_; clear HL; rintro e w' ⟨rfl, rfl⟩) | (go_at_call 91; refine HD.out.mono ?_; clear HD; rintro e w' ⟨rfl, rfl⟩))
      go_ret
      exact ⟨rfl, rfl⟩
    | false =>
      obtain ⟨b, hb⟩ : ∃ b, ((n : Int) == 95) = b := ⟨_, rfl⟩
      obtain rfl : t = b := by
        rw [← ht, ← hb]
        simp only [Bool.false_or]
        by_cases h : n = 95
        · simp [h]
        · have : ((n : Int) == 95) = false := by simp; omega
          rw [this]; simp [h]
      clear ht
      go_enter Tryd.func65, Tryd.ntmps65
      go_wp2_with (first | (go_at_call 66; refine HL.out.mono ?_; clear HL; rintro e w' ⟨rfl, rfl⟩) | (go_at_call 91; refine HD.out.mono ?_; clear HD; rintro e w' ⟨rfl, rfl⟩))
      go_ret
      exact ⟨rfl, rfl⟩
set_option maxRecDepth 100000 in
set_option maxHeartbeats 2000000 in
theorem name5_calls (s : Str) (hs : s.length < 4611686018427387904) (t : Bool) (ht : name5 s = t) (w : World) :
    Calls Tryd.prog 44 #[.string (mkS s)] w fun e w' => e = .returned (.bool t) ∧ w = w' := by
  have hsz := mkS_size s
  have HT := Lib.hid ht
  clear ht
  have HLC := Lib.hid (fun (c : UInt8) => letter_calls c _ rfl w)
  have HWC := Lib.hid (fun (c : UInt8) => word_calls c _ rfl w)
  go_enter Tryd.func44, Tryd.ntmps44
  go_wp2_with fail
  go_loopg [3] s.length (fun k v3 wx => ∃ i : Nat, k + i = s.length ∧ v3 = .int .i64 i ∧ Hid (∀ j, j < i → ∀ c, s[j]? = some c → Lex.isWord c = true) ∧ w = wx)
  case atStart => exact ⟨0, rfl, rfl, Lib.hid (fun j hj => by omega), rfl⟩
  case round =>
    obtain ⟨i, hk, rfl, HN, rfl⟩ := hrel
    by_cases hlt : i < s.length
    · have hlt2 : i < (mkS s).size := by rw [hsz]; exact hlt
      have hg : (mkS s)[i] = s[i] := by simp [mkS, ByteArray.getElem_eq_getElem_data]; rfl
      have hget : s[i]? = some s[i] := List.getElem?_eq_getElem hlt
      have HW := Lib.hid (HWC.out (mkS s)[i])
      cases hw : Lex.isWord s[i] with
      | true =>
        rw [hg, hw, ← hg] at HW
        have HG := Lib.hid hget
        have HWW := Lib.hid hw
        clear hg hget hw
        go_wp2_with (go_at_call 65; refine HW.out.mono ?_; clear HW; rintro e w' ⟨rfl, rfl⟩)
        go_roundg (s.length - (i + 1))
        case measure => omega
        case rel => exact ⟨i + 1, by omega, by go_num, Lib.hid (fun j hj c hc => by
          rcases Nat.lt_or_ge j i with h | h
          · exact HN.out j h c hc
          · obtain rfl : j = i := by omega
            rw [HG.out] at hc
            cases hc
            exact HWW.out), rfl⟩
      | false =>
        rw [hg, hw, ← hg] at HW
        have htf : t = false := by
          rw [← HT.out]
          unfold name5
          have : s.all Lex.isWord = false := by
            rw [Bool.eq_false_iff]
            intro h
            have := List.all_eq_true.1 h _ (List.getElem_mem hlt)
            exact Bool.noConfusion (hw.symm.trans this)
          rw [this]; rfl
        have HTF := Lib.hid htf
        clear hg hget hw htf
        go_wp2_with (go_at_call 65; refine HW.out.mono ?_; clear HW; rintro e w' ⟨rfl, rfl⟩)
        go_ret
        exact ⟨by rw [HTF.out]; rfl, rfl⟩
    · obtain rfl : i = s.length := by omega
      have hall : s.all Lex.isWord = true := by
        rw [List.all_eq_true]
        intro c hc
        obtain ⟨j, hj, rfl⟩ := List.getElem_of_mem hc
        exact HN.out j hj _ (List.getElem?_eq_getElem hj)
      have htt := HT.out
      unfold name5 at htt
      rw [hall] at htt
      clear HN hlt hall
      cases s with
      | nil =>
        obtain rfl : t = false := by rw [← htt]; rfl
        have h0 : ((0 : Nat) : Int) = 0 := rfl
        clear htt HT
        go_wp2_with fail
        go_ret
        exact ⟨rfl, rfl⟩
      | cons c r =>
        have h0 : (0 : Int) < ((c :: r).length : Int) := by simp only [List.length_cons]; omega
        have hlt2 : 0 < (mkS (c :: r)).size := by rw [hsz]; simp
        have hg : (mkS (c :: r))[0] = c := by simp [mkS, ByteArray.getElem_eq_getElem_data]
        by_cases h24 : (c :: r).length ≤ 24
        · have g24 : ((c :: r).length : Int) ≤ 24 := by omega
          have HL := Lib.hid (HLC.out (mkS (c :: r))[0])
          rw [hg] at HL
          have ht2 : Lex.isLetter c = t := by rw [← htt]; simp only [h24]; simp at h24 ⊢
          rw [ht2, ← hg] at HL
          clear htt HT hg ht2 h24
          generalize (c :: r).length = n at *
          go_wp2_with (go_at_call 66; refine HL.out.mono ?_; clear HL; rintro e w' ⟨rfl, rfl⟩)
          go_ret
          exact ⟨rfl, rfl⟩
        · have g24 : ¬ ((c :: r).length : Int) ≤ 24 := by omega
          obtain rfl : t = false := by rw [← htt]; simp only [h24]; simp
          clear htt HT hg h24
          generalize (c :: r).length = n at *
          go_wp2_with fail
          go_ret
          exact ⟨rfl, rfl⟩
/-- The key words in memory. -/
def keysV : List Value := North.keys.map fun s => .string (mkS s)
set_option maxRecDepth 100000 in
set_option maxHeartbeats 2000000 in
theorem words_calls (w : World) :
    Calls Tryd.prog 45 #[] w fun e w' => ∃ v, e = .returned v ∧ StrsIn w' North.keys v ∧ Below w.heap.size w w' := by
  have hrow : (keysV.toArray.toList) = keysV := rfl
  go_enter Tryd.func45, Tryd.ntmps45
  go_wp2_with fail
  go_ret
  refine ⟨_, rfl, ⟨some ⟨w.heap.size, 0, none⟩, 24, rfl, ⟨by decide, by decide⟩, fun _ => ⟨w.heap.size, 0, rfl, fun j s hs => ?_⟩⟩, below_new _ _⟩
  rw [Nat.zero_add, blk_cell (heap_alloc_new w _) j]
  have : keysV[j]? = some (.string (mkS s)) := by rw [keysV, List.getElem?_map, hs]; rfl
  rw [← this, ← List.getElem?_toArray]
  rfl
set_option maxRecDepth 100000 in
set_option maxHeartbeats 2000000 in
theorem in_calls (l : List Str) (s : Str) (v : Value) (w : World) (h : StrsIn w l v) :
    Calls Tryd.prog 25 #[v, .string (mkS s)] w fun e w' => e = .returned (.int .i64 (idxI (idx l s))) ∧ w = w' := by
  obtain ⟨A, c, rfl, ⟨hc, hcm⟩, hA⟩ := h
  have hcm : c ≤ 9223372036854775807 := hcm
  have HA := Lib.hid hA
  clear hA
  go_enter Tryd.func25, Tryd.ntmps25
  go_wp2_with fail
  go_loopg [5] l.length (fun k v5 wx => ∃ i : Nat, k + i = l.length ∧ v5 = .int .i64 i ∧ Hid (∀ j, j < i → l[j]? ≠ some s) ∧ w = wx)
  case atStart => exact ⟨0, rfl, rfl, Lib.hid (fun j hj => by omega), rfl⟩
  case round =>
    obtain ⟨i, hk, rfl, HN, rfl⟩ := hrel
    by_cases hlt : i < l.length
    · obtain ⟨b, o, rfl, hcell⟩ := HA.out (by omega)
      have hget : l[i]? = some l[i] := List.getElem?_eq_getElem hlt
      generalize l[i] = x at hget
      have hc0 := hcell i x hget
      have hadd : (⟨b, o, none⟩ : Addr).add i = ⟨b, o + i, none⟩ := by unfold Addr.add; split <;> simp_all
      have hi0 : (0 : Int) ≤ (i : Int) := by omega
      have hi1 : (i : Int) < (l.length : Int) := by omega
      have hbl := cell_lt hc0
      by_cases hx : x = s
      · have hr : idxI (idx l s) = (i : Int) := by
          rw [idx_at (l := l) (k := i) (by rw [hget, hx]) HN.out]; rfl
        have HR := Lib.hid hr
        subst hx
        clear hr hget hcell
        go_wp2_with fail
        go_ret
        exact ⟨by rw [HR.out]; rfl, rfl⟩
      · have hne : (x == s) = false := by simpa using hx
        have HG := Lib.hid hget
        have HX := Lib.hid hx
        clear hget hcell hx
        go_wp2_with fail
        go_roundg (l.length - (i + 1))
        case measure => omega
        case rel => exact ⟨i + 1, by omega, by go_num, Lib.hid (fun j hj => by
          rcases Nat.lt_or_ge j i with h | h
          · exact HN.out j h
          · obtain rfl : j = i := by omega
            rw [HG.out]
            exact fun e => HX.out (Option.some.inj e)), rfl⟩
    · have hr : idxI (idx l s) = -1 := by
        cases hi : idx l s with
        | none => rfl
        | some j => obtain ⟨h1, h2⟩ := idx_some l s j hi; exact absurd h2 (HN.out j (by omega))
      have HR := Lib.hid hr
      clear hr
      go_wp2_with fail
      go_ret
      exact ⟨by rw [HR.out]; rfl, rfl⟩
set_option maxRecDepth 100000 in
set_option maxHeartbeats 2000000 in
/-- A name, and no key word. -/
theorem nameP_calls (s : Str) (hs : s.length < 4611686018427387904) (t : Bool) (ht : t = true ↔ North.NP s) (w : World) :
    Calls Tryd.prog 24 #[.string (mkS s)] w fun e w' => e = .returned (.bool t) ∧ Below w.heap.size w w' := by
  have HT := Lib.hid ht
  clear ht
  have HN := Lib.hid (fun (t5 : Bool) (h : name5 s = t5) => name5_calls s hs t5 h w)
  have HI := Lib.hid (fun (v : Value) (wx : World) (h : StrsIn wx North.keys v) => in_calls North.keys s v wx h)
  have HW := Lib.hid (words_calls w)
  clear hs
  have hnp := np_iff s
  cases h5 : name5 s with
  | false =>
    obtain rfl : t = false := by
      rw [Bool.eq_false_iff]
      intro h
      have := hnp.2 (HT.out.1 h)
      rw [h5] at this
      cases this
    have HC := Lib.hid (HN.out false h5)
    clear hnp h5 HN
    go_enter Tryd.func24, Tryd.ntmps24
    go_wp2_with (go_at_call 44; refine HC.out.mono ?_; clear HC; rintro e w' ⟨rfl, rfl⟩)
    go_ret
    exact ⟨rfl, Below.refl _ _⟩
  | true =>
    have HC := Lib.hid (HN.out true h5)
    obtain ⟨b, hb⟩ : ∃ b, decide (idxI (idx North.keys s) < 0) = b := ⟨_, rfl⟩
    obtain rfl : t = b := by
      rw [h5] at hnp
      have e : b = !(idx North.keys s).isSome := by
        rw [← hb]
        cases idx North.keys s with
        | none => rfl
        | some j => simp only [idxI, Option.isSome_some, Bool.not_true]; exact decide_eq_false (by omega)
      rw [Bool.true_and, ← e] at hnp
      have := hnp.trans HT.out.symm
      cases t <;> cases b <;> simp_all
    clear hnp h5 HN HT
    generalize idxI (idx North.keys s) = r at *
    go_enter Tryd.func24, Tryd.ntmps24
    go_wp2_with (first
      | (go_at_call 44; refine HC.out.mono ?_; clear HC; rintro e w' ⟨rfl, rfl⟩)
      | (go_at_call 45; refine HW.out.mono ?_; clear HW; rintro e w1 ⟨v, rfl, hst, hB⟩; have HII := Lib.hid (HI.out v w1 hst); have HB := Lib.hid hB; clear hB hst)
      | (go_at_call 25; refine HII.out.mono ?_; clear HII; rintro e w' ⟨rfl, rfl⟩))
    go_ret
    exact ⟨rfl, HB.out⟩
end Go.Proofs.YtlhgflnmdmifaaaDoor.Wk
namespace Go.Proofs.YtlhgflnmdmifaaaDoor.Wk
open Go.RowKit PD

def SizeF (f : Fm) : Prop := f.size ≤ 1000000 → ∀ (w : World) (kf : Value), RepK w TT f kf →
  Calls Tryd.prog 26 #[FmV f kf] w fun e w' => e = .returned (.tuple #[.int .i64 f.size, .int .i64 f.depth]) ∧ Below w.heap.size w w'
set_option maxRecDepth 100000 in
set_option maxHeartbeats 2000000 in
theorem sizeF_step (op : Int) (name : Str) (cmp n : Int) (ks : List Fm) (ih : ∀ x ∈ ks, SizeF x) : SizeF (.mk op name cmp n ks) := by
  intro hsz w kf hf
  obtain ⟨A, cc, rfl, hl, hm⟩ := hf.slice
  have hm3 : cc ≤ 9223372036854775807 := hm
  clear hm
  have HF := Lib.hid hf; clear hf
  have HIH := Lib.hid ih; clear ih
  rw [Fm.size] at hsz ⊢
  rw [Fm.depth]
  have hdle := Fm.depths_le ks
  have hlen := Fm.length_le ks
  unfold FmV
  simp only [FmC]
  go_enter Tryd.func26, Tryd.ntmps26
  go_wp2_with fail
  have hA := heap_alloc_new w (.cells #[.int .i64 op, .string (mkS name), .int .i64 cmp, .int .i64 n, .slice A ks.length cc] 29)
  have hW := below_new w (.cells #[.int .i64 op, .string (mkS name), .int .i64 cmp, .int .i64 n, .slice A ks.length cc] 29)
  generalize w.alloc (.cells #[.int .i64 op, .string (mkS name), .int .i64 cmp, .int .i64 n, .slice A ks.length cc] 29) = W1 at *
  have HA := Lib.hid hA
  have HW := Lib.hid hW
  clear hA hW
  go_loopg [4, 5, 6] ks.length (fun k v4 v5 v6 wr => ∃ i : Nat, k + i = ks.length ∧ v6 = .int .i64 i ∧ v4 = .int .i64 ((1 + Fm.sizes (ks.take i) : Nat) : Int) ∧ v5 = .int .i64 ((Fm.depths (ks.take i) : Nat) : Int) ∧ Hid (Below W1.heap.size W1 wr))
  case atStart => exact ⟨0, rfl, rfl, rfl, rfl, Lib.hid (Below.refl _ _)⟩
  case round =>
    obtain ⟨i, hk, rfl, rfl, rfl, HR⟩ := hrel
    have a4 : wr.cell? ⟨w.heap.size, 4, none⟩ = some (.slice A ks.length cc) := (blk_cell (below_blk HR.out HA.out) 4).trans rfl
    by_cases hlt : i < ks.length
    · have hbw := below_then HW.out HR.out
      obtain ⟨b, o, xo, xn, xc, xm, xks, xA, xcc, rfl, hget, c0, c1, c2, c3, c4, hxk, hadd⟩ := kid_at (HF.out.belowT hbw) hlt
      have hi0 : (0 : Int) ≤ (i : Int) := by omega
      have hi1 : (i : Int) < (ks.length : Int) := by omega
      have bl1 := cell_lt c0
      have hs1 := Fm.sizes_take ks i _ hget
      have hd1 := Fm.depths_take ks i _ hget
      have hs2 := Fm.sizes_take_le ks (i + 1)
      have hxs := Fm.size_get ks i _ hget
      have hdl := Fm.depths_le (ks.take i)
      have hxd := Fm.depth_le (Fm.mk xo xn xc xm xks)
      have hcall := HIH.out _ (List.mem_of_getElem? hget) (by omega) wr _ hxk
      unfold FmV at hcall
      simp only [FmC] at hcall
      have HC := Lib.hid hcall
      clear hcall hget hxk hbw
      generalize (Fm.mk xo xn xc xm xks).size = xs at *
      generalize (Fm.mk xo xn xc xm xks).depth = xd at *
      have HS1 := Lib.hid hs1
      have HD1 := Lib.hid hd1
      rw [hs1] at hs2
      clear hs1 hd1
      generalize hSA : Fm.sizes (ks.take i) = SA at *
      generalize hDA : Fm.depths (ks.take i) = DA at *
      have hmax : max (DA : Int) (xd : Int) = ((max DA xd : Nat) : Int) := by omega
      clear hSA hDA
      go_wp2_with (go_at_call 26; refine HC.out.mono ?_; clear HC; rintro e w4 ⟨rfl, hB4⟩; have HB4 := Lib.hid hB4; clear hB4)
      go_roundg (ks.length - (i + 1))
      case measure => omega
      case rel => exact ⟨i + 1, by omega, by go_num, by rw [HS1.out]; go_num, by rw [HD1.out], Lib.hid (below_then HR.out HB4.out)⟩
    · obtain rfl : i = ks.length := by omega
      rw [List.take_length]
      generalize hSA : Fm.sizes ks = SA at *
      generalize hDA : Fm.depths ks = DA at *
      have HSA := Lib.hid hSA
      have HDA := Lib.hid hDA
      clear hSA hDA
      go_wp2_with fail
      go_ret2
      exact ⟨by rw [HSA.out, HDA.out]; go_num, below_then HW.out HR.out⟩
mutual
theorem sizeF : ∀ f : Fm, SizeF f
  | .mk op name cmp n ks => sizeF_step op name cmp n ks (sizesF ks)
theorem sizesF : ∀ l : List Fm, ∀ f ∈ l, SizeF f
  | [], f, h => by simp at h
  | k :: ks, f, h => by
    rcases List.mem_cons.1 h with h1 | h1
    · rw [h1]; exact sizeF k
    · exact sizesF ks f h1
end
end Go.Proofs.YtlhgflnmdmifaaaDoor.Wk
namespace Go.Proofs.YtlhgflnmdmifaaaDoor.Wk
open Go.RowKit PD

def FormedF (f : Fm) : Prop := f.Ok North.NP → ∀ (w : World) (kf : Value), RepK w TT f kf →
  Calls Tryd.prog 29 #[FmV f kf] w fun e w' => e = .returned (.bool true) ∧ Below w.heap.size w w'
theorem np_len {s : Str} (h : North.NP s) : s.length < 4611686018427387904 := by have := h.1.1; omega
set_option maxRecDepth 100000 in
set_option maxHeartbeats 4000000 in
theorem formedF_step (op : Int) (name : Str) (cmp n : Int) (ks : List Fm) (ih : ∀ x ∈ ks, FormedF x) : FormedF (.mk op name cmp n ks) := by
  intro hok w kf hf
  obtain ⟨A, cc, rfl, hl, hm⟩ := hf.slice
  have hm3 : cc ≤ 9223372036854775807 := hm
  clear hm
  rw [Fm.Ok] at hok
  obtain ⟨hok, hoks⟩ := hok
  have hn : 0 ≤ n ∧ n ≤ 1000000 := by rcases hok with h | h | h | h | h <;> omega
  obtain ⟨hn0, hn1⟩ := hn
  have HF := Lib.hid hf; clear hf
  have HIH := Lib.hid ih; clear ih
  have HOK := Lib.hid hok; clear hok
  have HOKS := Lib.hid ((Fm.oks_iff _ _).1 hoks); clear hoks
  unfold FmV
  simp only [FmC]
  go_enter Tryd.func29, Tryd.ntmps29
  go_upto_region 3 with fail
  have hA := heap_alloc_new w (.cells #[.int .i64 op, .string (mkS name), .int .i64 cmp, .int .i64 n, .slice A ks.length cc] 29)
  have hW := below_new w (.cells #[.int .i64 op, .string (mkS name), .int .i64 cmp, .int .i64 n, .slice A ks.length cc] 29)
  generalize w.alloc (.cells #[.int .i64 op, .string (mkS name), .int .i64 cmp, .int .i64 n, .slice A ks.length cc] 29) = W1 at *
  have HA := Lib.hid hA
  have HW := Lib.hid hW
  clear hA hW
  go_wp2_with fail
  go_loopg [3] ks.length (fun k v3 wr => ∃ i : Nat, k + i = ks.length ∧ v3 = .int .i64 i ∧ Hid (Below W1.heap.size W1 wr))
  case atStart => exact ⟨0, rfl, rfl, Lib.hid (Below.refl _ _)⟩
  case round =>
    obtain ⟨i, hk, rfl, HR⟩ := hrel
    have a4 : wr.cell? ⟨w.heap.size, 4, none⟩ = some (.slice A ks.length cc) := (blk_cell (below_blk HR.out HA.out) 4).trans rfl
    by_cases hlt : i < ks.length
    · have hbw := below_then HW.out HR.out
      obtain ⟨b, o, xo, xn, xc, xm, xks, xA, xcc, rfl, hget, c0, c1, c2, c3, c4, hxk, hadd⟩ := kid_at (HF.out.belowT hbw) hlt
      have hi0 : (0 : Int) ≤ (i : Int) := by omega
      have hi1 : (i : Int) < (ks.length : Int) := by omega
      have bl1 := cell_lt c0
      have hcall := HIH.out _ (List.mem_of_getElem? hget) (HOKS.out _ (List.mem_of_getElem? hget)) wr _ hxk
      unfold FmV at hcall
      simp only [FmC] at hcall
      have HC := Lib.hid hcall
      clear hcall hget hxk hbw
      go_wp2_with (go_at_call 29; refine HC.out.mono ?_; clear HC; rintro e w4 ⟨rfl, hB4⟩; have HB4 := Lib.hid hB4; clear hB4)
      go_roundg (ks.length - (i + 1))
      case measure => omega
      case rel => exact ⟨i + 1, by omega, by go_num, Lib.hid (below_then HR.out HB4.out)⟩
    · obtain rfl : i = ks.length := by omega
      obtain ⟨⟨a0, a1, a2, a3, -⟩, -, hbl⟩ := blk5 (below_blk HR.out HA.out)
      have HE := Lib.hid (below_then HW.out HR.out)
      clear HR HA HW
      rcases HOK.out with ⟨ho, rfl, rfl, rfl, rfl⟩ | ⟨rfl, hnp, hc1, hc2, -, -, rfl⟩ | ⟨rfl, hnp, rfl, rfl, rfl⟩ | ⟨rfl, rfl, rfl, rfl, hkl⟩ | ⟨ho, rfl, rfl, rfl, hkl⟩
      · rcases ho with rfl | rfl
        · go_wp2_with fail
          go_ret
          exact ⟨rfl, HE.out⟩
        · go_wp2_with fail
          go_ret
          exact ⟨rfl, HE.out⟩
      · have HN := Lib.hid (nameP_calls name (np_len hnp) true (by simp [hnp]) wr)
        clear hnp
        go_wp2_with (go_at_call 24; refine HN.out.mono ?_; clear HN; rintro e w5 ⟨rfl, hB5⟩; have a4 := below_cell hB5 a4; have hbl := Nat.lt_of_lt_of_le hbl hB5.size; have HB5 := Lib.hid hB5; clear hB5)
        go_ret
        exact ⟨rfl, below_then HE.out HB5.out⟩
      · have HN := Lib.hid (nameP_calls name (np_len hnp) true (by simp [hnp]) wr)
        clear hnp
        go_wp2_with (go_at_call 24; refine HN.out.mono ?_; clear HN; rintro e w5 ⟨rfl, hB5⟩; have a4 := below_cell hB5 a4; have a2 := below_cell hB5 a2; have a3 := below_cell hB5 a3; have hbl := Nat.lt_of_lt_of_le hbl hB5.size; have HB5 := Lib.hid hB5; clear hB5)
        go_ret
        exact ⟨rfl, below_then HE.out HB5.out⟩
      · have hk1 : (ks.length : Int) = 1 := by omega
        have hk2 : ((ks.length : Int) == 1) = true := by simp [hk1]
        clear hkl hk1
        go_wp2_with fail
        go_ret
        exact ⟨rfl, HE.out⟩
      · have hk1 : (2 : Int) ≤ (ks.length : Int) := by omega
        clear hkl
        rcases ho with rfl | rfl
        · go_wp2_with fail
          go_ret
          exact ⟨rfl, HE.out⟩
        · go_wp2_with fail
          go_ret
          exact ⟨rfl, HE.out⟩
mutual
theorem formedF : ∀ f : Fm, FormedF f
  | .mk op name cmp n ks => formedF_step op name cmp n ks (formedsF ks)
theorem formedsF : ∀ l : List Fm, ∀ f ∈ l, FormedF f
  | [], f, h => by simp at h
  | k :: ks, f, h => by
    rcases List.mem_cons.1 h with h1 | h1
    · rw [h1]; exact formedF k
    · exact formedsF ks f h1
end
end Go.Proofs.YtlhgflnmdmifaaaDoor.Wk
namespace Go.Proofs.YtlhgflnmdmifaaaDoor.Wk
open Go.RowKit PD

def SizeS (f : St) : Prop := f.size ≤ 1000000 → ∀ (w : World) (kf : Value), RepKS w TT f kf →
  Calls Tryd.prog 27 #[StV f kf] w fun e w' => e = .returned (.tuple #[.int .i64 f.size, .int .i64 f.depth]) ∧ Below w.heap.size w w'
set_option maxRecDepth 100000 in
set_option maxHeartbeats 2000000 in
theorem sizeSt_step (op : Int) (name : Str) (n : Int) (ks : List St) (ih : ∀ x ∈ ks, SizeS x) : SizeS (.mk op name n ks) := by
  intro hsz w kf hf
  obtain ⟨A, cc, rfl, hl, hm⟩ := hf.slice
  have hm3 : cc ≤ 9223372036854775807 := hm
  clear hm
  have HF := Lib.hid hf; clear hf
  have HIH := Lib.hid ih; clear ih
  rw [St.size] at hsz ⊢
  rw [St.depth]
  have hdle := St.depths_le ks
  have hlen := St.length_le ks
  unfold StV
  simp only [StC]
  go_enter Tryd.func27, Tryd.ntmps27
  go_wp2_with fail
  have hA := heap_alloc_new w (.cells #[.int .i64 op, .string (mkS name), .int .i64 n, .slice A ks.length cc] 33)
  have hW := below_new w (.cells #[.int .i64 op, .string (mkS name), .int .i64 n, .slice A ks.length cc] 33)
  generalize w.alloc (.cells #[.int .i64 op, .string (mkS name), .int .i64 n, .slice A ks.length cc] 33) = W1 at *
  have HA := Lib.hid hA
  have HW := Lib.hid hW
  clear hA hW
  go_loopg [4, 5, 6] ks.length (fun k v4 v5 v6 wr => ∃ i : Nat, k + i = ks.length ∧ v6 = .int .i64 i ∧ v4 = .int .i64 ((1 + St.sizes (ks.take i) : Nat) : Int) ∧ v5 = .int .i64 ((St.depths (ks.take i) : Nat) : Int) ∧ Hid (Below W1.heap.size W1 wr))
  case atStart => exact ⟨0, rfl, rfl, rfl, rfl, Lib.hid (Below.refl _ _)⟩
  case round =>
    obtain ⟨i, hk, rfl, rfl, rfl, HR⟩ := hrel
    have a4 : wr.cell? ⟨w.heap.size, 3, none⟩ = some (.slice A ks.length cc) := (blk_cell (below_blk HR.out HA.out) 3).trans rfl
    by_cases hlt : i < ks.length
    · have hbw := below_then HW.out HR.out
      obtain ⟨b, o, xo, xn, xm, xks, xA, xcc, rfl, hget, c0, c1, c2, c3, hxk, hadd⟩ := kidS_at (HF.out.belowT hbw) hlt
      have hi0 : (0 : Int) ≤ (i : Int) := by omega
      have hi1 : (i : Int) < (ks.length : Int) := by omega
      have bl1 := cell_lt c0
      have hs1 := St.sizes_take ks i _ hget
      have hd1 := St.depths_take ks i _ hget
      have hs2 := St.sizes_take_le ks (i + 1)
      have hxs := St.size_get ks i _ hget
      have hdl := St.depths_le (ks.take i)
      have hxd := St.depth_le (St.mk xo xn xm xks)
      have hcall := HIH.out _ (List.mem_of_getElem? hget) (by omega) wr _ hxk
      unfold StV at hcall
      simp only [StC] at hcall
      have HC := Lib.hid hcall
      clear hcall hget hxk hbw
      generalize (St.mk xo xn xm xks).size = xs at *
      generalize (St.mk xo xn xm xks).depth = xd at *
      have HS1 := Lib.hid hs1
      have HD1 := Lib.hid hd1
      rw [hs1] at hs2
      clear hs1 hd1
      generalize hSA : St.sizes (ks.take i) = SA at *
      generalize hDA : St.depths (ks.take i) = DA at *
      have hmax : max (DA : Int) (xd : Int) = ((max DA xd : Nat) : Int) := by omega
      clear hSA hDA
      go_wp2_with (go_at_call 27; refine HC.out.mono ?_; clear HC; rintro e w4 ⟨rfl, hB4⟩; have HB4 := Lib.hid hB4; clear hB4)
      go_roundg (ks.length - (i + 1))
      case measure => omega
      case rel => exact ⟨i + 1, by omega, by go_num, by rw [HS1.out]; go_num, by rw [HD1.out], Lib.hid (below_then HR.out HB4.out)⟩
    · obtain rfl : i = ks.length := by omega
      rw [List.take_length]
      generalize hSA : St.sizes ks = SA at *
      generalize hDA : St.depths ks = DA at *
      have HSA := Lib.hid hSA
      have HDA := Lib.hid hDA
      clear hSA hDA
      go_wp2_with fail
      go_ret2
      exact ⟨by rw [HSA.out, HDA.out]; go_num, below_then HW.out HR.out⟩
mutual
theorem sizeSt : ∀ f : St, SizeS f
  | .mk op name n ks => sizeSt_step op name n ks (sizesSt ks)
theorem sizesSt : ∀ l : List St, ∀ f ∈ l, SizeS f
  | [], f, h => by simp at h
  | k :: ks, f, h => by
    rcases List.mem_cons.1 h with h1 | h1
    · rw [h1]; exact sizeSt k
    · exact sizesSt ks f h1
end
def BegunS (f : St) : Prop := f.Ok North.NP → ∀ (w : World) (kf : Value), RepKS w TT f kf →
  Calls Tryd.prog 28 #[StV f kf] w fun e w' => e = .returned (.bool true) ∧ Below w.heap.size w w'
set_option maxRecDepth 100000 in
set_option maxHeartbeats 4000000 in
theorem begunS_step (op : Int) (name : Str) (n : Int) (ks : List St) (ih : ∀ x ∈ ks, BegunS x) : BegunS (.mk op name n ks) := by
  intro hok w kf hf
  obtain ⟨A, cc, rfl, hl, hm⟩ := hf.slice
  have hm3 : cc ≤ 9223372036854775807 := hm
  clear hm
  rw [St.Ok] at hok
  obtain ⟨hok, hoks⟩ := hok
  have HF := Lib.hid hf; clear hf
  have HIH := Lib.hid ih; clear ih
  have HOK := Lib.hid hok; clear hok
  have HOKS := Lib.hid ((St.oks_iff _ _).1 hoks); clear hoks
  unfold StV
  simp only [StC]
  go_enter Tryd.func28, Tryd.ntmps28
  go_upto_region 1 with fail
  have hA := heap_alloc_new w (.cells #[.int .i64 op, .string (mkS name), .int .i64 n, .slice A ks.length cc] 33)
  have hW := below_new w (.cells #[.int .i64 op, .string (mkS name), .int .i64 n, .slice A ks.length cc] 33)
  generalize w.alloc (.cells #[.int .i64 op, .string (mkS name), .int .i64 n, .slice A ks.length cc] 33) = W1 at *
  have HA := Lib.hid hA
  have HW := Lib.hid hW
  clear hA hW
  go_wp2_with fail
  go_loopg [3] ks.length (fun k v3 wr => ∃ i : Nat, k + i = ks.length ∧ v3 = .int .i64 i ∧ Hid (Below W1.heap.size W1 wr))
  case atStart => exact ⟨0, rfl, rfl, Lib.hid (Below.refl _ _)⟩
  case round =>
    obtain ⟨i, hk, rfl, HR⟩ := hrel
    have a4 : wr.cell? ⟨w.heap.size, 3, none⟩ = some (.slice A ks.length cc) := (blk_cell (below_blk HR.out HA.out) 3).trans rfl
    by_cases hlt : i < ks.length
    · have hbw := below_then HW.out HR.out
      obtain ⟨b, o, xo, xn, xm, xks, xA, xcc, rfl, hget, c0, c1, c2, c3, hxk, hadd⟩ := kidS_at (HF.out.belowT hbw) hlt
      have hi0 : (0 : Int) ≤ (i : Int) := by omega
      have hi1 : (i : Int) < (ks.length : Int) := by omega
      have bl1 := cell_lt c0
      have hcall := HIH.out _ (List.mem_of_getElem? hget) (HOKS.out _ (List.mem_of_getElem? hget)) wr _ hxk
      unfold StV at hcall
      simp only [StC] at hcall
      have HC := Lib.hid hcall
      clear hcall hget hxk hbw
      go_wp2_with (go_at_call 28; refine HC.out.mono ?_; clear HC; rintro e w4 ⟨rfl, hB4⟩; have HB4 := Lib.hid hB4; clear hB4)
      go_roundg (ks.length - (i + 1))
      case measure => omega
      case rel => exact ⟨i + 1, by omega, by go_num, Lib.hid (below_then HR.out HB4.out)⟩
    · obtain rfl : i = ks.length := by omega
      obtain ⟨⟨a0, a1, a2, -⟩, -, hbl⟩ := blk4 (below_blk HR.out HA.out)
      have HE := Lib.hid (below_then HW.out HR.out)
      clear HR HA HW
      rcases HOK.out with ⟨ho, rfl, rfl, rfl⟩ | ⟨rfl, rfl, hd0, hd1, rfl⟩ | ⟨ho, hnp, rfl, rfl⟩ | ⟨ho, rfl, rfl, hkl⟩
      · rcases ho with rfl | rfl
        · go_wp2_with fail
          go_ret
          exact ⟨rfl, HE.out⟩
        · go_wp2_with fail
          go_ret
          exact ⟨rfl, HE.out⟩
      · go_wp2_with fail
        go_ret
        exact ⟨rfl, HE.out⟩
      · rcases ho with rfl | rfl | rfl | rfl
        · have HN := Lib.hid (nameP_calls name (np_len hnp) true (by simp [hnp]) wr)
          clear hnp
          go_wp2_with (go_at_call 24; refine HN.out.mono ?_; clear HN; rintro e w5 ⟨rfl, hB5⟩; have a2 := below_cell hB5 a2; have a4 := below_cell hB5 a4; have hbl := Nat.lt_of_lt_of_le hbl hB5.size; have HB5 := Lib.hid hB5; clear hB5)
          go_ret
          exact ⟨rfl, below_then HE.out HB5.out⟩
        · have HN := Lib.hid (nameP_calls name (np_len hnp) true (by simp [hnp]) wr)
          clear hnp
          go_wp2_with (go_at_call 24; refine HN.out.mono ?_; clear HN; rintro e w5 ⟨rfl, hB5⟩; have a2 := below_cell hB5 a2; have a4 := below_cell hB5 a4; have hbl := Nat.lt_of_lt_of_le hbl hB5.size; have HB5 := Lib.hid hB5; clear hB5)
          go_ret
          exact ⟨rfl, below_then HE.out HB5.out⟩
        · have HN := Lib.hid (nameP_calls name (np_len hnp) true (by simp [hnp]) wr)
          clear hnp
          go_wp2_with (go_at_call 24; refine HN.out.mono ?_; clear HN; rintro e w5 ⟨rfl, hB5⟩; have a2 := below_cell hB5 a2; have a4 := below_cell hB5 a4; have hbl := Nat.lt_of_lt_of_le hbl hB5.size; have HB5 := Lib.hid hB5; clear hB5)
          go_ret
          exact ⟨rfl, below_then HE.out HB5.out⟩
        · have HN := Lib.hid (nameP_calls name (np_len hnp) true (by simp [hnp]) wr)
          clear hnp
          go_wp2_with (go_at_call 24; refine HN.out.mono ?_; clear HN; rintro e w5 ⟨rfl, hB5⟩; have a2 := below_cell hB5 a2; have a4 := below_cell hB5 a4; have hbl := Nat.lt_of_lt_of_le hbl hB5.size; have HB5 := Lib.hid hB5; clear hB5)
          go_ret
          exact ⟨rfl, below_then HE.out HB5.out⟩
      · have hk1 : (2 : Int) ≤ (ks.length : Int) := by omega
        clear hkl
        rcases ho with rfl | rfl
        · go_wp2_with fail
          go_ret
          exact ⟨rfl, HE.out⟩
        · go_wp2_with fail
          go_ret
          exact ⟨rfl, HE.out⟩
mutual
theorem begunS : ∀ f : St, BegunS f
  | .mk op name n ks => begunS_step op name n ks (begunsS ks)
theorem begunsS : ∀ l : List St, ∀ f ∈ l, BegunS f
  | [], f, h => by simp at h
  | k :: ks, f, h => by
    rcases List.mem_cons.1 h with h1 | h1
    · rw [h1]; exact begunS k
    · exact begunsS ks f h1
end
end Go.Proofs.YtlhgflnmdmifaaaDoor.Wk
