/- What the iterator of the tokens yields, in plain Lean. The class of a byte of the text: the closure 'at'. tokens: the iterator is made. What the lexer returns, by what its iterator yields, in plain Lean. -/
import Derived.Test.YtlhgflnmdmifaaaDoorPlain
import Derived.Lib.Atoi
import Derived.Test.YtlhgflnmdmifaaaDoorL1
import Derived.Laws.EntriesVeiled
import Derived.Test.YtlhgflnmdmifaaaDoorPA
namespace PD
namespace Lex
/-- A token or an error, as it is yielded. -/
structure Found where
  tok : Tok
  at_ : Nat
  err : Nat
def okF (x : Tok × Nat) : Found := ⟨x.1, x.2, 0⟩
/-- A list of what is yielded is that of the tokens, and of the error behind them. -/
def IsFound (q : List (Tok × Nat) × Option (Nat × Nat)) (xs : List Found) : Prop :=
  match q.2 with
  | none => xs = q.1.map okF
  | some (e, p) => ∃ t, xs = q.1.map okF ++ [⟨t, p, e⟩]
theorem isFound_none {l : List (Tok × Nat)} {xs : List Found} : IsFound (l, none) xs ↔ xs = l.map okF := Iff.rfl
theorem isFound_some {l : List (Tok × Nat)} {e p : Nat} {xs : List Found} : IsFound (l, some (e, p)) xs ↔ ∃ t, xs = l.map okF ++ [⟨t, p, e⟩] := Iff.rfl
/-- What has come is the beginning of such a list. -/
def Begun (s : List UInt8) (pre : List Found) : Prop := ∃ rest, IsFound (scan s.length 0 s) (pre ++ rest)

/-- How far the scan has come: behind the tokens l, at place i. -/
def At (s : List UInt8) (l : List (Tok × Nat)) (i : Nat) : Prop :=
  i ≤ s.length ∧ l.length ≤ i ∧ scan s.length 0 s = (l ++ (scan (s.length - i) i (s.drop i)).1, (scan (s.length - i) i (s.drop i)).2)
theorem at_start (s : List UInt8) : At s [] 0 := ⟨Nat.zero_le _, Nat.le_refl _, by simp⟩
theorem drop_more {α : Type} {s : List α} {i n : Nat} {c : α} {r : List α} (h : s.drop i = c :: r) (hn : 1 ≤ n) : s.drop (i + n) = r.drop (n - 1) := by
  rw [← List.drop_drop, h]
  obtain ⟨m, rfl⟩ : ∃ m, n = m + 1 := ⟨n - 1, by omega⟩
  simp
theorem drop_len {α : Type} {s : List α} {i : Nat} {c : α} {r : List α} (h : s.drop i = c :: r) : s.length - i = r.length + 1 := by
  rw [← List.length_drop, h]; rfl
theorem at_gap {s : List UInt8} {l : List (Tok × Nat)} {i n : Nat} {c : UInt8} {r : List UInt8} (h : At s l i) (hs : s.drop i = c :: r) (hh : head c r = .gap n) : At s l (i + n) := by
  obtain ⟨h1, h2, h3⟩ := h
  have hl := drop_len hs
  obtain ⟨g1, g2⟩ := head_gap hh
  refine ⟨by omega, by omega, ?_⟩
  rw [h3, hs, hl, drop_more hs g1]
  simp only [scan, hh]
  rw [scan_fuel r.length (s.length - (i + n)) _ _ (by simp) (by simp; omega)]
theorem at_tok {s : List UInt8} {l : List (Tok × Nat)} {i : Nat} {c : UInt8} {r : List UInt8} {t : Tok} (h : At s l i) (hs : s.drop i = c :: r) (hh : head c r = .tok t) : At s (l ++ [(t, i)]) (i + t.text.length) := by
  obtain ⟨h1, h2, h3⟩ := h
  have hl := drop_len hs
  obtain ⟨g1, g2, _⟩ := head_tok hh
  refine ⟨by omega, by simp; omega, ?_⟩
  rw [h3, hs, hl, drop_more hs g1]
  simp only [scan, hh]
  rw [scan_fuel r.length (s.length - (i + t.text.length)) _ _ (by simp) (by simp; omega)]
  simp
theorem at_end {s : List UInt8} {l : List (Tok × Nat)} {i : Nat} (h : At s l i) (hi : s.length ≤ i) : scan s.length 0 s = (l, none) := by
  obtain ⟨h1, h2, h3⟩ := h
  have : s.length - i = 0 := by omega
  rw [h3, this]
  simp [scan]
theorem at_err {s : List UInt8} {l : List (Tok × Nat)} {i e : Nat} {c : UInt8} {r : List UInt8} (h : At s l i) (hs : s.drop i = c :: r) (hh : head c r = .err e) : scan s.length 0 s = (l, some (e, i)) := by
  obtain ⟨h1, h2, h3⟩ := h
  rw [h3, hs, drop_len hs]
  simp [scan, hh]
/-- What is found may be yielded: the list up to it has begun. -/
theorem begun_tok {s : List UInt8} {l : List (Tok × Nat)} {i : Nat} (h : At s l i) : Begun s (l.map okF) := by
  obtain ⟨h1, h2, h3⟩ := h
  rw [Begun, h3]
  cases hq : (scan (s.length - i) i (s.drop i)).2 with
  | none => exact ⟨(scan (s.length - i) i (s.drop i)).1.map okF, by rw [isFound_none]; simp⟩
  | some x => exact ⟨(scan (s.length - i) i (s.drop i)).1.map okF ++ [⟨⟨0, [], 0⟩, x.2, x.1⟩], by rw [show some x = some (x.1, x.2) from rfl, isFound_some]; exact ⟨⟨0, [], 0⟩, by simp⟩⟩

/-! ### The classes -/
theorem byte_all (p : UInt8 → Bool) (h : (List.range 256).all (fun n => p (UInt8.ofNat n)) = true) (b : UInt8) : p b = true := by
  have := List.all_eq_true.1 h b.toNat (by rw [List.mem_range]; exact b.toNat_lt)
  simpa using this
def clsAt (s : List UInt8) (i : Nat) : Nat := match s[i]? with
  | some b => cls b
  | none => 0
theorem cls_le (b : UInt8) : cls b ≤ 8 := by
  have := byte_all (fun b => decide (cls b ≤ 8)) (by decide +kernel) b
  simpa using this
theorem clsAt_le (s : List UInt8) (i : Nat) : clsAt s i ≤ 8 := by
  unfold clsAt; split
  · exact cls_le _
  · omega
theorem word_cls (b : UInt8) : isWord b = true ↔ cls b = 3 ∨ cls b = 4 ∨ cls b = 5 := by
  have := byte_all (fun b => isWord b == (cls b == 3 || cls b == 4 || cls b == 5)) (by decide +kernel) b
  rw [eq_of_beq this]; simp [or_assoc]
theorem digit_cls (b : UInt8) : isDigit b = true ↔ cls b = 4 := by
  have := byte_all (fun b => isDigit b == (cls b == 4)) (by decide +kernel) b
  rw [eq_of_beq this]; simp
theorem on_cls (b : UInt8) : (isLetter b || b == 95) = true ↔ cls b = 3 ∨ cls b = 5 := by
  have := byte_all (fun b => (isLetter b || b == 95) == (cls b == 3 || cls b == 5)) (by decide +kernel) b
  rw [eq_of_beq this]; simp
theorem hash_cls (b : UInt8) (h : cls b = 2) : b = 35 := by
  have := byte_all (fun b => cls b != 2 || b == 35) (by decide +kernel) b
  simpa [h] using this

/-! ### Loops over bytes -/
theorem tw_iff {α : Type} (p : α → Bool) : ∀ (l : List α) (m : Nat), m ≤ (l.takeWhile p).length → (m < (l.takeWhile p).length ↔ ∃ x, l[m]? = some x ∧ p x = true)
  | [], m, _ => by simp
  | x :: l, m, h => by
    by_cases hp : p x = true
    · rw [List.takeWhile_cons_of_pos hp] at h ⊢
      cases m with
      | zero => simp [hp]
      | succ m =>
        have := tw_iff p l m (by simpa using h)
        simpa using this
    · rw [List.takeWhile_cons_of_neg hp] at h ⊢
      obtain rfl : m = 0 := by simpa using h
      simp [hp]
theorem get_drop {α : Type} {s : List α} {i : Nat} {l : List α} (h : s.drop i = l) (m : Nat) : s[i + m]? = l[m]? := by rw [← h, List.getElem?_drop]
theorem word_on {s l : List UInt8} {i m : Nat} (h : s.drop i = l) (hm : m ≤ (l.takeWhile isWord).length) : m < (l.takeWhile isWord).length ↔ clsAt s (i + m) = 3 ∨ clsAt s (i + m) = 4 ∨ clsAt s (i + m) = 5 := by
  rw [tw_iff isWord l m hm, clsAt, get_drop h]
  cases l[m]? with
  | none => simp
  | some b => simp [word_cls]
theorem digit_on {s l : List UInt8} {i m : Nat} (h : s.drop i = l) (hm : m ≤ (l.takeWhile isDigit).length) : m < (l.takeWhile isDigit).length ↔ clsAt s (i + m) = 4 := by
  rw [tw_iff isDigit l m hm, clsAt, get_drop h]
  cases l[m]? with
  | none => simp
  | some b => simp [digit_cls]
theorem drop_takeWhile {α : Type} (p : α → Bool) : ∀ l : List α, l.drop (l.takeWhile p).length = l.dropWhile p
  | [] => rfl
  | x :: l => by
    by_cases hp : p x = true
    · rw [List.takeWhile_cons_of_pos hp, List.dropWhile_cons_of_pos hp]; simpa using drop_takeWhile p l
    · rw [List.takeWhile_cons_of_neg hp, List.dropWhile_cons_of_neg hp]; simp
theorem goesOn_at {s l : List UInt8} {i : Nat} (h : s.drop i = l) : goesOn l = true ↔ clsAt s i = 3 ∨ clsAt s i = 5 := by
  have h0 := get_drop h 0
  rw [Nat.add_zero] at h0
  rw [clsAt, h0]
  cases l with
  | nil => simp [goesOn]
  | cons d l => simp only [goesOn, List.getElem?_cons_zero]; exact on_cls d
theorem at_cls {s r : List UInt8} {i : Nat} {c : UInt8} (h : s.drop i = c :: r) : clsAt s i = cls c := by
  have := get_drop h 0
  rw [Nat.add_zero] at this
  rw [clsAt, this]; rfl
theorem isEq_at {s r : List UInt8} {i : Nat} {c : UInt8} (h : s.drop i = c :: r) : isEq r = true ↔ s[i + 1]? = some 61 := by
  rw [get_drop h 1]
  cases r with
  | nil => simp [isEq]
  | cons d r => simp [isEq]
theorem tw_cons {α : Type} (p : α → Bool) {c : α} {r : List α} (h : p c = true) : (c :: r).takeWhile p = c :: r.takeWhile p := List.takeWhile_cons_of_pos h

theorem head_1 {c : UInt8} {r : List UInt8} (h : cls c = 1) : head c r = .gap 1 := by simp [head, h]
theorem head_2 {c : UInt8} {r : List UInt8} (h : cls c = 2) : head c r = .gap ((c :: r).takeWhile (· != 10)).length := by
  have hc := hash_cls c h
  subst hc
  rw [tw_cons (· != 10) (by decide)]
  simp [head, h, Nat.add_comm]
theorem head_3 {c : UInt8} {r : List UInt8} (h : cls c = 3) : head c r = nameItem ((c :: r).takeWhile isWord) := by
  rw [tw_cons isWord ((word_cls c).2 (.inl h))]
  simp [head, h]
theorem head_4 {c : UInt8} {r : List UInt8} (h : cls c = 4) : head c r = numItem ((c :: r).takeWhile isDigit) (goesOn ((c :: r).dropWhile isDigit)) := by
  have hd := (digit_cls c).2 h
  rw [tw_cons isDigit hd, List.dropWhile_cons_of_pos hd]
  simp [head, h]
theorem head_6 {c : UInt8} {r : List UInt8} (h : cls c = 6) : head c r = .tok ⟨3, [c], 0⟩ := by simp [head, h]
theorem head_78 {c : UInt8} {r : List UInt8} (h : cls c = 7 ∨ cls c = 8) (hq : isEq r = true) : head c r = .tok ⟨3, [c, 61], 0⟩ := by
  rcases h with h | h <;> simp [head, h, hq]
theorem head_7 {c : UInt8} {r : List UInt8} (h : cls c = 7) (hq : isEq r = false) : head c r = .tok ⟨3, [c], 0⟩ := by simp [head, h, hq]
theorem head_8 {c : UInt8} {r : List UInt8} (h : cls c = 8) (hq : isEq r = false) : head c r = .err 3 := by simp [head, h, hq]
theorem head_05 {c : UInt8} {r : List UInt8} (h : cls c = 0 ∨ cls c = 5) : head c r = .err 3 := by
  rcases h with h | h <;> simp [head, h]
theorem hash_on {s l : List UInt8} {i m : Nat} (h : s.drop i = l) (hm : m ≤ (l.takeWhile (· != 10)).length) : m < (l.takeWhile (· != 10)).length ↔ ∃ b, s[i + m]? = some b ∧ b ≠ 10 := by
  rw [tw_iff _ l m hm, get_drop h]
  simp
/-- What the switch has found at the head of a text: m bytes. -/
def Verdict (c : UInt8) (r : List UInt8) (kind nn er m : Nat) : Prop := (er = 0 ∧ head c r = .tok ⟨kind, (c :: r).take m, nn⟩ ∧ 1 ≤ m) ∨ (er ≠ 0 ∧ head c r = .err er)
theorem verdict_name {c : UInt8} {r : List UInt8} (h : cls c = 3) (h24 : ((c :: r).takeWhile isWord).length ≤ 24) : Verdict c r 1 0 0 ((c :: r).takeWhile isWord).length := by
  refine .inl ⟨rfl, ?_, ?_⟩
  · rw [head_3 h, nameItem, if_neg (by omega), ← takeWhile_take]
  · rw [tw_cons isWord ((word_cls c).2 (.inl h))]; simp
theorem verdict_long {c : UInt8} {r : List UInt8} {m : Nat} (h : cls c = 3) (h24 : 24 < ((c :: r).takeWhile isWord).length) : Verdict c r 1 0 2 m :=
  .inr ⟨by decide, by rw [head_3 h, nameItem, if_pos (by omega)]⟩
theorem verdict_num {c : UInt8} {r : List UInt8} (h : cls c = 4) (h7 : ((c :: r).takeWhile isDigit).length ≤ 7) (hg : goesOn ((c :: r).dropWhile isDigit) = false) : Verdict c r 2 (numOf ((c :: r).takeWhile isDigit)) 0 ((c :: r).takeWhile isDigit).length := by
  refine .inl ⟨rfl, ?_, ?_⟩
  · rw [head_4 h, hg, numItem, if_neg (by simp; omega), ← takeWhile_take]
  · rw [tw_cons isDigit ((digit_cls c).2 h)]; simp
theorem verdict_bad {c : UInt8} {r : List UInt8} {m : Nat} (h : cls c = 4) (h7 : 7 < ((c :: r).takeWhile isDigit).length ∨ goesOn ((c :: r).dropWhile isDigit) = true) : Verdict c r 2 0 4 m :=
  .inr ⟨by decide, by rw [head_4 h, numItem, if_pos (by omega)]⟩

/-! ### Numbers -/
theorem dec_digits : ∀ (l : List UInt8) (acc : Nat), l.all isDigit = true → Go.Lib.decFrom acc l = some (l.foldl (fun n c => n * 10 + (c.toNat - 48)) acc)
  | [], acc, _ => rfl
  | b :: l, acc, h => by
    simp only [List.all_cons, Bool.and_eq_true] at h
    have hb : 48 ≤ b.toNat ∧ b.toNat ≤ 57 := by
      have := h.1
      simp only [isDigit, Bool.and_eq_true, decide_eq_true_eq, UInt8.le_iff_toNat_le] at this
      simpa using this
    simp only [Go.Lib.decFrom, Go.Lib.digitVal, hb, and_self, if_true, List.foldl_cons]
    exact dec_digits l _ h.2
theorem atoi_digits (l : List UInt8) (h : l.all isDigit = true) (hne : l ≠ []) : Go.Lib.atoi l = some (numOf l : Int) := by
  cases l with
  | nil => exact absurd rfl hne
  | cons b l =>
    have hb : b ≠ 45 ∧ b ≠ 43 := by
      have h1 := h
      simp only [List.all_cons, Bool.and_eq_true] at h1
      constructor <;> (rintro rfl; exact absurd h1.1 (by decide))
    have hd := dec_digits (b :: l) 0 h
    simp only [Go.Lib.atoi, hb, beq_iff_eq, if_false, Go.Lib.decNat, List.isEmpty_cons, Bool.false_eq_true, hd, Option.map_some]
    rfl
theorem foldl_lt : ∀ (l : List UInt8) (acc m : Nat), l.all isDigit = true → acc < 10 ^ m → l.foldl (fun n c => n * 10 + (c.toNat - 48)) acc < 10 ^ (m + l.length)
  | [], acc, m, _, h => by simpa using h
  | b :: l, acc, m, h, ha => by
    simp only [List.all_cons, Bool.and_eq_true] at h
    have hb : 48 ≤ b.toNat ∧ b.toNat ≤ 57 := by
      have := h.1
      simp only [isDigit, Bool.and_eq_true, decide_eq_true_eq, UInt8.le_iff_toNat_le] at this
      simpa using this
    have := foldl_lt l (acc * 10 + (b.toNat - 48)) (m + 1) h.2 (by rw [Nat.pow_succ]; omega)
    rw [List.foldl_cons, List.length_cons, show m + (l.length + 1) = m + 1 + l.length by omega]
    exact this
theorem numOf_lt (l : List UInt8) (h : l.all isDigit = true) (h7 : l.length ≤ 7) : numOf l < 10000000 := by
  have := foldl_lt l 0 0 h (by decide)
  have h10 : (10 : Nat) ^ (0 + l.length) ≤ 10 ^ 7 := Nat.pow_le_pow_right (by decide) (by omega)
  unfold numOf
  omega
end Lex
end PD
namespace Go.Proofs.YtlhgflnmdmifaaaDoor.Wk
open Go.RowKit PD

theorem clsT_get (b : UInt8) : clsT.toArray[b.toNat]? = some (.int .u8 (Lex.cls b)) := by
  simp only [clsT, List.getElem?_toArray, List.getElem?_map]
  rw [List.getElem?_range b.toNat_lt]
  simp
/-- What the closures over a text have: the text and the table of classes. -/
structure TextAt (w : World) (s : Str) (T C : Nat) : Prop where
  text : w.cell? ⟨T, 0, none⟩ = some (.string (mkS s))
  cls : w.heap[C]? = some (.cells clsT.toArray 82 (0, 0))
set_option maxRecDepth 100000 in
theorem at_calls (s : Str) (hs : s.length ≤ 20000) (T C i : Nat) (_hi : i < 4611686018427387904) (w : World) (h : TextAt w s T C) :
    Calls Tryd.prog 52 #[.int .i64 i, .pointer (some ⟨T, 0, none⟩), .pointer (some ⟨C, 0, none⟩)] w fun e w' => e = .returned (.int .u8 (Lex.clsAt s i)) ∧ w = w' := by
  have hT := h.text
  have hsz := mkS_size s
  by_cases hlt : i < s.length
  · have hb : s[i]? = some s[i] := List.getElem?_eq_getElem hlt
    have hlt2 : i < (mkS s).size := by rw [hsz]; exact hlt
    have hg : (mkS s)[i] = s[i] := by simp [mkS, ByteArray.getElem_eq_getElem_data]; rfl
    have hc : w.cell? ⟨C, (mkS s)[i].toNat, none⟩ = some (.int .u8 (Lex.cls s[i])) := by rw [hg]; exact (blk_cell h.cls _).trans (clsT_get _)
    have ha : Lex.clsAt s i = Lex.cls s[i] := by rw [Lex.clsAt, hb]; rfl
    have hu := (mkS s)[i].toNat_lt
    clear hg hb h
    have HA := Lib.hid ha; clear ha
    have HS := Lib.hid hs; clear hs
    go_enter Tryd.func52, Tryd.ntmps52
    go_wp2_with fail
    go_ret
    exact ⟨by rw [HA.out]; rfl, rfl⟩
  · have hge : s.length ≤ i := by omega
    clear hlt
    have ha : Lex.clsAt s i = 0 := by rw [Lex.clsAt, List.getElem?_eq_none (by omega)]
    have HA := Lib.hid ha; clear ha
    go_enter Tryd.func52, Tryd.ntmps52
    go_wp2_with fail
    go_ret
    exact ⟨by rw [HA.out]; rfl, rfl⟩
end Go.Proofs.YtlhgflnmdmifaaaDoor.Wk
namespace Go.Proofs.YtlhgflnmdmifaaaDoor.Wk
open Go.RowKit PD

/-- What the iterator has captured. -/
structure IterAt (w : World) (s : Str) (T C A : Nat) : Prop where
  text : w.heap[T]? = some (.cells #[.string (mkS s)] 9 (0, 0))
  cls : w.heap[C]? = some (.cells clsT.toArray 82 (0, 0))
  at_ : w.heap[A]? = some (.cells #[.func (.func 52) #[] #[.pointer (some ⟨T, 0, none⟩), .pointer (some ⟨C, 0, none⟩)]] 84 (0, 0))
theorem IterAt.textAt {w : World} {s : Str} {T C A : Nat} (h : IterAt w s T C A) : TextAt w s T C := ⟨(blk_cell h.text 0).trans rfl, h.cls⟩
set_option maxRecDepth 100000 in
theorem tokens_calls (s : Str) (w : World) :
    Calls Tryd.prog 40 #[.string (mkS s)] w fun e w' => Below w.heap.size w w' ∧ ∃ T C A : Nat, IterAt w' s T C A ∧ e = .returned (.func (.func 53) #[] #[.pointer (some ⟨T, 0, none⟩), .pointer (some ⟨A, 0, none⟩)]) := by
  have hmf : ∀ (fn : Fn) (first cap : Array Value) (w : World), (Instr.makeFunc fn first cap).run Tryd.prog w = .ok (.func fn first cap) w := fun _ _ _ _ => rfl
  go_enter Tryd.func40, Tryd.ntmps40
  go_upto_region 1 with fail
  have hT := heap_alloc_new w (.cells #[.string (mkS s)] 9)
  have hB := below_new w (.cells #[.string (mkS s)] 9)
  have HB := Lib.hid hB
  have HT := Lib.hid hT
  clear hB hT
  go_upto_region 2 with (first | (go_at_call 51; refine (classes_calls _).mono ?_; rintro e w1 ⟨rfl, hB1⟩; have hB2 := below_then HB.out hB1; have hT1 := below_blk hB1 HT.out; have h0 := heap_alloc_new w1 (.cells Tryd.zeroCells82 82); rw [tabL_zero] at h0; have HH0 := Lib.hid h0; have HB2 := Lib.hid hB2; have HT1 := Lib.hid hT1; clear h0 hB2 hT1 hB1 HB HT) | (refine wpList_store_row rfl 82 _ _ rfl w1.heap.size clsT.toArray rfl rfl 82 (tabL 0).toArray HH0.out (by rw [List.size_toArray, clsT_length]; exact info_table) (by rw [List.size_toArray, List.size_toArray, clsT_length, tabL_length]) tab_one ?_))
  have hbV := setRow_blk HH0.out clsT.toArray
  have hkV := setRow_keep (w1.alloc (.cells Tryd.zeroCells82 82)) w1.heap.size clsT.toArray
  rw [← tabL_zero] at hbV
  have hkA := (Keep.of_below (g := w1.heap.size) (below_new w1 (.cells Tryd.zeroCells82 82))).trans hkV
  have hT2 := hkA.blk HT1.out (Nat.ne_of_lt (heap_lt HT1.out))
  have hB3 : Below w.heap.size w ((w1.alloc (.cells Tryd.zeroCells82 82)).setRow w1.heap.size clsT.toArray) := below_then HB2.out (hkA.to_below (Nat.le_refl _))
  have HT2 := Lib.hid hT2
  have HB3 := Lib.hid hB3
  have HC3 := Lib.hid hbV
  clear hT2 hB3 hbV hkA hkV HB2 HT1 HH0
  generalize (w1.alloc (.cells Tryd.zeroCells82 82)).setRow w1.heap.size clsT.toArray = V at *
  go_wp2_with fail
  go_ret
  exact ⟨below_then HB3.out (below_new _ _), w.heap.size, w1.heap.size, V.heap.size, ⟨below_blk (below_new _ _) HT2.out, below_blk (below_new _ _) HC3.out, heap_alloc_new V _⟩, rfl⟩
end Go.Proofs.YtlhgflnmdmifaaaDoor.Wk
namespace PD
namespace Lex
theorem okF_err (q : List (Tok × Nat)) : ∀ x ∈ q.map okF, x.err = 0 := by
  intro x hx
  obtain ⟨y, _, rfl⟩ := List.mem_map.1 hx
  rfl
theorem scan_err_ne {s : List UInt8} {e p : Nat} (h : (scan s.length 0 s).2 = some (e, p)) : e ≠ 0 := by
  have := ((scan_pos s.length 0 s).2 e p h).1
  omega
theorem lex_of {s : List UInt8} (h20 : s.length ≤ 20000) {q : List (Tok × Nat)} (h : scan s.length 0 s = (q, none)) (hl : q.length ≤ 5000) : lex s = (q, 0, 0) := by
  have h5 : q[5000]? = none := List.getElem?_eq_none hl
  simp only [lex, if_neg (show ¬ s.length > 20000 by omega), h, h5]
theorem lex_of_err {s : List UInt8} (h20 : s.length ≤ 20000) {q : List (Tok × Nat)} {e p : Nat} (h : scan s.length 0 s = (q, some (e, p))) (hl : q.length ≤ 5000) : lex s = ([], e, (p : Int)) := by
  have h5 : q[5000]? = none := List.getElem?_eq_none hl
  simp only [lex, if_neg (show ¬ s.length > 20000 by omega), h, h5]
theorem lex_done {s : List UInt8} {xs : List Found} (h20 : s.length ≤ 20000) (h : IsFound (scan s.length 0 s) xs) (h0 : ∀ x ∈ xs, x.err = 0) (hl : xs.length ≤ 5000) : ∃ q, xs = q.map okF ∧ lex s = (q, 0, 0) := by
  cases hq : scan s.length 0 s with
  | mk q o =>
    rw [hq] at h
    cases o with
    | none =>
      have h := isFound_none.1 h
      subst h
      exact ⟨q, rfl, lex_of h20 hq (by simpa using hl)⟩
    | some x =>
      obtain ⟨e, p⟩ := x
      obtain ⟨t, rfl⟩ := isFound_some.1 h
      have := h0 ⟨t, p, e⟩ (by simp)
      exact absurd this (scan_err_ne (by rw [hq]))
theorem lex_stop1 {s : List UInt8} {ini : List Found} {last : Found} (h20 : s.length ≤ 20000) (h : Begun s (ini ++ [last])) (h0 : ∀ x ∈ ini, x.err = 0) (hne : last.err ≠ 0) (hl : ini.length ≤ 5000) : lex s = ([], last.err, (last.at_ : Int)) := by
  obtain ⟨rest, h⟩ := h
  cases hq : scan s.length 0 s with
  | mk q o =>
    rw [hq] at h
    cases o with
    | none =>
      have h := isFound_none.1 h
      have := okF_err q last (by rw [← h]; simp)
      exact absurd this hne
    | some x =>
      obtain ⟨e, p⟩ := x
      obtain ⟨t, h⟩ := isFound_some.1 h
      rw [List.append_assoc] at h
      have hi : ini.length = q.length := by
        rcases Nat.lt_trichotomy ini.length q.length with hlt | heq | hgt
        · have h1 : (ini ++ ([last] ++ rest))[ini.length]? = some last := by simp
          rw [h, List.getElem?_append_left (by simpa using hlt)] at h1
          have := okF_err q last (List.mem_of_getElem? h1)
          exact absurd this hne
        · exact heq
        · have h1 : (q.map okF ++ [(⟨t, p, e⟩ : Found)])[q.length]? = some ⟨t, p, e⟩ := by simp
          rw [← h, List.getElem?_append_left hgt] at h1
          have := h0 _ (List.mem_of_getElem? h1)
          exact absurd this (scan_err_ne (by rw [hq]))
      have h2 := List.append_inj_right h (by simpa using hi)
      simp only [List.cons_append, List.nil_append, List.cons.injEq] at h2
      obtain ⟨rfl, _⟩ := h2
      exact lex_of_err h20 hq (by omega)
theorem lex_stop2 {s : List UInt8} {ini : List Found} {last : Found} (h20 : s.length ≤ 20000) (h : Begun s (ini ++ [last])) (h0 : last.err = 0) (hl : ini.length = 5000) : lex s = ([], 2, (last.at_ : Int)) := by
  obtain ⟨rest, h⟩ := h
  rw [List.append_assoc] at h
  have h1 : (ini ++ ([last] ++ rest))[5000]? = some last := by rw [← hl]; simp
  have key : ∀ q : List (Tok × Nat), (q.map okF)[5000]? = some last → (scan s.length 0 s).1 = q → lex s = ([], 2, (last.at_ : Int)) := by
    intro q h2 hq
    rw [List.getElem?_map] at h2
    obtain ⟨y, hy, rfl⟩ := Option.map_eq_some_iff.1 h2
    simp only [lex, if_neg (show ¬ s.length > 20000 by omega), hq, hy]
    rfl
  cases hq : scan s.length 0 s with
  | mk q o =>
    rw [hq] at h
    cases o with
    | none =>
      have h := isFound_none.1 h
      rw [h] at h1
      exact key q h1 (by rw [hq])
    | some x =>
      obtain ⟨e, p⟩ := x
      obtain ⟨t, h⟩ := isFound_some.1 h
      rw [h] at h1
      rcases Nat.lt_or_ge 5000 q.length with hlt | hge
      · rw [List.getElem?_append_left (by simpa using hlt)] at h1
        exact key q h1 (by rw [hq])
      · rw [List.getElem?_append_right (by simpa using hge)] at h1
        have := List.mem_of_getElem? h1
        simp only [List.mem_singleton] at this
        subst this
        exact absurd h0 (scan_err_ne (by rw [hq]))
end Lex
end PD
