/- What the iterator of the tokens yields, in plain Lean. -/
import Derived.Test.YtlhgflnmdmifaaaDoorPlain
import Derived.Lib.Atoi
namespace PD
namespace Lex
/-- A token or an error, as it is yielded. -/
structure Found where
  tok : Tok
  at_ : Nat
  err : Nat
def okF (x : Tok × Nat) : Found := ⟨x.1, x.2, 0⟩
/-- A list of what is yielded is that of the tokens, and of the error behind them. -/
def IsFound (q : List (Tok × Nat) × Option (Nat × Nat)) (xs : List Found) : Prop :=
  match q.2 with
  | none => xs = q.1.map okF
  | some (e, p) => ∃ t, xs = q.1.map okF ++ [⟨t, p, e⟩]
theorem isFound_none {l : List (Tok × Nat)} {xs : List Found} : IsFound (l, none) xs ↔ xs = l.map okF := Iff.rfl
theorem isFound_some {l : List (Tok × Nat)} {e p : Nat} {xs : List Found} : IsFound (l, some (e, p)) xs ↔ ∃ t, xs = l.map okF ++ [⟨t, p, e⟩] := Iff.rfl
/-- What has come is the beginning of such a list. -/
def Begun (s : List UInt8) (pre : List Found) : Prop := ∃ rest, IsFound (scan s.length 0 s) (pre ++ rest)

/-- How far the scan has come: behind the tokens l, at place i. -/
def At (s : List UInt8) (l : List (Tok × Nat)) (i : Nat) : Prop :=
  i ≤ s.length ∧ l.length ≤ i ∧ scan s.length 0 s = (l ++ (scan (s.length - i) i (s.drop i)).1, (scan (s.length - i) i (s.drop i)).2)
theorem at_start (s : List UInt8) : At s [] 0 := ⟨Nat.zero_le _, Nat.le_refl _, by simp⟩
theorem drop_more {α : Type} {s : List α} {i n : Nat} {c : α} {r : List α} (h : s.drop i = c :: r) (hn : 1 ≤ n) : s.drop (i + n) = r.drop (n - 1) := by
  rw [← List.drop_drop, h]
  obtain ⟨m, rfl⟩ : ∃ m, n = m + 1 := ⟨n - 1, by omega⟩
  simp
theorem drop_len {α : Type} {s : List α} {i : Nat} {c : α} {r : List α} (h : s.drop i = c :: r) : s.length - i = r.length + 1 := by
  rw [← List.length_drop, h]; rfl
theorem at_gap {s : List UInt8} {l : List (Tok × Nat)} {i n : Nat} {c : UInt8} {r : List UInt8} (h : At s l i) (hs : s.drop i = c :: r) (hh : head c r = .gap n) : At s l (i + n) := by
  obtain ⟨h1, h2, h3⟩ := h
  have hl := drop_len hs
  obtain ⟨g1, g2⟩ := head_gap hh
  refine ⟨by omega, by omega, ?_⟩
  rw [h3, hs, hl, drop_more hs g1]
  simp only [scan, hh]
  rw [scan_fuel r.length (s.length - (i + n)) _ _ (by simp) (by simp; omega)]
theorem at_tok {s : List UInt8} {l : List (Tok × Nat)} {i : Nat} {c : UInt8} {r : List UInt8} {t : Tok} (h : At s l i) (hs : s.drop i = c :: r) (hh : head c r = .tok t) : At s (l ++ [(t, i)]) (i + t.text.length) := by
  obtain ⟨h1, h2, h3⟩ := h
  have hl := drop_len hs
  obtain ⟨g1, g2, _⟩ := head_tok hh
  refine ⟨by omega, by simp; omega, ?_⟩
  rw [h3, hs, hl, drop_more hs g1]
  simp only [scan, hh]
  rw [scan_fuel r.length (s.length - (i + t.text.length)) _ _ (by simp) (by simp; omega)]
  simp
theorem at_end {s : List UInt8} {l : List (Tok × Nat)} {i : Nat} (h : At s l i) (hi : s.length ≤ i) : scan s.length 0 s = (l, none) := by
  obtain ⟨h1, h2, h3⟩ := h
  have : s.length - i = 0 := by omega
  rw [h3, this]
  simp [scan]
theorem at_err {s : List UInt8} {l : List (Tok × Nat)} {i e : Nat} {c : UInt8} {r : List UInt8} (h : At s l i) (hs : s.drop i = c :: r) (hh : head c r = .err e) : scan s.length 0 s = (l, some (e, i)) := by
  obtain ⟨h1, h2, h3⟩ := h
  rw [h3, hs, drop_len hs]
  simp [scan, hh]
/-- What is found may be yielded: the list up to it has begun. -/
theorem begun_tok {s : List UInt8} {l : List (Tok × Nat)} {i : Nat} (h : At s l i) : Begun s (l.map okF) := by
  obtain ⟨h1, h2, h3⟩ := h
  rw [Begun, h3]
  cases hq : (scan (s.length - i) i (s.drop i)).2 with
  | none => exact ⟨(scan (s.length - i) i (s.drop i)).1.map okF, by rw [isFound_none]; simp⟩
  | some x => exact ⟨(scan (s.length - i) i (s.drop i)).1.map okF ++ [⟨⟨0, [], 0⟩, x.2, x.1⟩], by rw [show some x = some (x.1, x.2) from rfl, isFound_some]; exact ⟨⟨0, [], 0⟩, by simp⟩⟩

/-! ### The classes -/
theorem byte_all (p : UInt8 → Bool) (h : (List.range 256).all (fun n => p (UInt8.ofNat n)) = true) (b : UInt8) : p b = true := by
  have := List.all_eq_true.1 h b.toNat (by rw [List.mem_range]; exact b.toNat_lt)
  simpa using this
def clsAt (s : List UInt8) (i : Nat) : Nat := match s[i]? with
  | some b => cls b
  | none => 0
theorem cls_le (b : UInt8) : cls b ≤ 8 := by
  have := byte_all (fun b => decide (cls b ≤ 8)) (by decide +kernel) b
  simpa using this
theorem clsAt_le (s : List UInt8) (i : Nat) : clsAt s i ≤ 8 := by
  unfold clsAt; split
  · exact cls_le _
  · omega
theorem word_cls (b : UInt8) : isWord b = true ↔ cls b = 3 ∨ cls b = 4 ∨ cls b = 5 := by
  have := byte_all (fun b => isWord b == (cls b == 3 || cls b == 4 || cls b == 5)) (by decide +kernel) b
  rw [eq_of_beq this]; simp [or_assoc]
theorem digit_cls (b : UInt8) : isDigit b = true ↔ cls b = 4 := by
  have := byte_all (fun b => isDigit b == (cls b == 4)) (by decide +kernel) b
  rw [eq_of_beq this]; simp
theorem on_cls (b : UInt8) : (isLetter b || b == 95) = true ↔ cls b = 3 ∨ cls b = 5 := by
  have := byte_all (fun b => (isLetter b || b == 95) == (cls b == 3 || cls b == 5)) (by decide +kernel) b
  rw [eq_of_beq this]; simp
theorem hash_cls (b : UInt8) (h : cls b = 2) : b = 35 := by
  have := byte_all (fun b => cls b != 2 || b == 35) (by decide +kernel) b
  simpa [h] using this

/-! ### Loops over bytes -/
theorem tw_iff {α : Type} (p : α → Bool) : ∀ (l : List α) (m : Nat), m ≤ (l.takeWhile p).length → (m < (l.takeWhile p).length ↔ ∃ x, l[m]? = some x ∧ p x = true)
  | [], m, _ => by simp
  | x :: l, m, h => by
    by_cases hp : p x = true
    · rw [List.takeWhile_cons_of_pos hp] at h ⊢
      cases m with
      | zero => simp [hp]
      | succ m =>
        have := tw_iff p l m (by simpa using h)
        simpa using this
    · rw [List.takeWhile_cons_of_neg hp] at h ⊢
      obtain rfl : m = 0 := by simpa using h
      simp [hp]
theorem get_drop {α : Type} {s : List α} {i : Nat} {l : List α} (h : s.drop i = l) (m : Nat) : s[i + m]? = l[m]? := by rw [← h, List.getElem?_drop]
theorem word_on {s l : List UInt8} {i m : Nat} (h : s.drop i = l) (hm : m ≤ (l.takeWhile isWord).length) : m < (l.takeWhile isWord).length ↔ clsAt s (i + m) = 3 ∨ clsAt s (i + m) = 4 ∨ clsAt s (i + m) = 5 := by
  rw [tw_iff isWord l m hm, clsAt, get_drop h]
  cases l[m]? with
  | none => simp
  | some b => simp [word_cls]
theorem digit_on {s l : List UInt8} {i m : Nat} (h : s.drop i = l) (hm : m ≤ (l.takeWhile isDigit).length) : m < (l.takeWhile isDigit).length ↔ clsAt s (i + m) = 4 := by
  rw [tw_iff isDigit l m hm, clsAt, get_drop h]
  cases l[m]? with
  | none => simp
  | some b => simp [digit_cls]
theorem drop_takeWhile {α : Type} (p : α → Bool) : ∀ l : List α, l.drop (l.takeWhile p).length = l.dropWhile p
  | [] => rfl
  | x :: l => by
    by_cases hp : p x = true
    · rw [List.takeWhile_cons_of_pos hp, List.dropWhile_cons_of_pos hp]; simpa using drop_takeWhile p l
    · rw [List.takeWhile_cons_of_neg hp, List.dropWhile_cons_of_neg hp]; simp
theorem goesOn_at {s l : List UInt8} {i : Nat} (h : s.drop i = l) : goesOn l = true ↔ clsAt s i = 3 ∨ clsAt s i = 5 := by
  have h0 := get_drop h 0
  rw [Nat.add_zero] at h0
  rw [clsAt, h0]
  cases l with
  | nil => simp [goesOn]
  | cons d l => simp only [goesOn, List.getElem?_cons_zero]; exact on_cls d
theorem at_cls {s r : List UInt8} {i : Nat} {c : UInt8} (h : s.drop i = c :: r) : clsAt s i = cls c := by
  have := get_drop h 0
  rw [Nat.add_zero] at this
  rw [clsAt, this]; rfl
theorem isEq_at {s r : List UInt8} {i : Nat} {c : UInt8} (h : s.drop i = c :: r) : isEq r = true ↔ s[i + 1]? = some 61 := by
  rw [get_drop h 1]
  cases r with
  | nil => simp [isEq]
  | cons d r => simp [isEq]
theorem tw_cons {α : Type} (p : α → Bool) {c : α} {r : List α} (h : p c = true) : (c :: r).takeWhile p = c :: r.takeWhile p := List.takeWhile_cons_of_pos h

theorem head_1 {c : UInt8} {r : List UInt8} (h : cls c = 1) : head c r = .gap 1 := by simp [head, h]
theorem head_2 {c : UInt8} {r : List UInt8} (h : cls c = 2) : head c r = .gap ((c :: r).takeWhile (· != 10)).length := by
  have hc := hash_cls c h
  subst hc
  rw [tw_cons (· != 10) (by decide)]
  simp [head, h, Nat.add_comm]
theorem head_3 {c : UInt8} {r : List UInt8} (h : cls c = 3) : head c r = nameItem ((c :: r).takeWhile isWord) := by
  rw [tw_cons isWord ((word_cls c).2 (.inl h))]
  simp [head, h]
theorem head_4 {c : UInt8} {r : List UInt8} (h : cls c = 4) : head c r = numItem ((c :: r).takeWhile isDigit) (goesOn ((c :: r).dropWhile isDigit)) := by
  have hd := (digit_cls c).2 h
  rw [tw_cons isDigit hd, List.dropWhile_cons_of_pos hd]
  simp [head, h]
theorem head_6 {c : UInt8} {r : List UInt8} (h : cls c = 6) : head c r = .tok ⟨3, [c], 0⟩ := by simp [head, h]
theorem head_78 {c : UInt8} {r : List UInt8} (h : cls c = 7 ∨ cls c = 8) (hq : isEq r = true) : head c r = .tok ⟨3, [c, 61], 0⟩ := by
  rcases h with h | h <;> simp [head, h, hq]
theorem head_7 {c : UInt8} {r : List UInt8} (h : cls c = 7) (hq : isEq r = false) : head c r = .tok ⟨3, [c], 0⟩ := by simp [head, h, hq]
theorem head_8 {c : UInt8} {r : List UInt8} (h : cls c = 8) (hq : isEq r = false) : head c r = .err 3 := by simp [head, h, hq]
theorem head_05 {c : UInt8} {r : List UInt8} (h : cls c = 0 ∨ cls c = 5) : head c r = .err 3 := by
  rcases h with h | h <;> simp [head, h]
theorem hash_on {s l : List UInt8} {i m : Nat} (h : s.drop i = l) (hm : m ≤ (l.takeWhile (· != 10)).length) : m < (l.takeWhile (· != 10)).length ↔ ∃ b, s[i + m]? = some b ∧ b ≠ 10 := by
  rw [tw_iff _ l m hm, get_drop h]
  simp
/-- What the switch has found at the head of a text: m bytes. -/
def Verdict (c : UInt8) (r : List UInt8) (kind nn er m : Nat) : Prop := (er = 0 ∧ head c r = .tok ⟨kind, (c :: r).take m, nn⟩ ∧ 1 ≤ m) ∨ (er ≠ 0 ∧ head c r = .err er)
theorem verdict_name {c : UInt8} {r : List UInt8} (h : cls c = 3) (h24 : ((c :: r).takeWhile isWord).length ≤ 24) : Verdict c r 1 0 0 ((c :: r).takeWhile isWord).length := by
  refine .inl ⟨rfl, ?_, ?_⟩
  · rw [head_3 h, nameItem, if_neg (by omega), ← takeWhile_take]
  · rw [tw_cons isWord ((word_cls c).2 (.inl h))]; simp
theorem verdict_long {c : UInt8} {r : List UInt8} {m : Nat} (h : cls c = 3) (h24 : 24 < ((c :: r).takeWhile isWord).length) : Verdict c r 1 0 2 m :=
  .inr ⟨by decide, by rw [head_3 h, nameItem, if_pos (by omega)]⟩
theorem verdict_num {c : UInt8} {r : List UInt8} (h : cls c = 4) (h7 : ((c :: r).takeWhile isDigit).length ≤ 7) (hg : goesOn ((c :: r).dropWhile isDigit) = false) : Verdict c r 2 (numOf ((c :: r).takeWhile isDigit)) 0 ((c :: r).takeWhile isDigit).length := by
  refine .inl ⟨rfl, ?_, ?_⟩
  · rw [head_4 h, hg, numItem, if_neg (by simp; omega), ← takeWhile_take]
  · rw [tw_cons isDigit ((digit_cls c).2 h)]; simp
theorem verdict_bad {c : UInt8} {r : List UInt8} {m : Nat} (h : cls c = 4) (h7 : 7 < ((c :: r).takeWhile isDigit).length ∨ goesOn ((c :: r).dropWhile isDigit) = true) : Verdict c r 2 0 4 m :=
  .inr ⟨by decide, by rw [head_4 h, numItem, if_pos (by omega)]⟩

/-! ### Numbers -/
theorem dec_digits : ∀ (l : List UInt8) (acc : Nat), l.all isDigit = true → Go.Lib.decFrom acc l = some (l.foldl (fun n c => n * 10 + (c.toNat - 48)) acc)
  | [], acc, _ => rfl
  | b :: l, acc, h => by
    simp only [List.all_cons, Bool.and_eq_true] at h
    have hb : 48 ≤ b.toNat ∧ b.toNat ≤ 57 := by
      have := h.1
      simp only [isDigit, Bool.and_eq_true, decide_eq_true_eq, UInt8.le_iff_toNat_le] at this
      simpa using this
    simp only [Go.Lib.decFrom, Go.Lib.digitVal, hb, and_self, if_true, List.foldl_cons]
    exact dec_digits l _ h.2
theorem atoi_digits (l : List UInt8) (h : l.all isDigit = true) (hne : l ≠ []) : Go.Lib.atoi l = some (numOf l : Int) := by
  cases l with
  | nil => exact absurd rfl hne
  | cons b l =>
    have hb : b ≠ 45 ∧ b ≠ 43 := by
      have h1 := h
      simp only [List.all_cons, Bool.and_eq_true] at h1
      constructor <;> (rintro rfl; exact absurd h1.1 (by decide))
    have hd := dec_digits (b :: l) 0 h
    simp only [Go.Lib.atoi, hb, beq_iff_eq, if_false, Go.Lib.decNat, List.isEmpty_cons, Bool.false_eq_true, hd, Option.map_some]
    rfl
theorem foldl_lt : ∀ (l : List UInt8) (acc m : Nat), l.all isDigit = true → acc < 10 ^ m → l.foldl (fun n c => n * 10 + (c.toNat - 48)) acc < 10 ^ (m + l.length)
  | [], acc, m, _, h => by simpa using h
  | b :: l, acc, m, h, ha => by
    simp only [List.all_cons, Bool.and_eq_true] at h
    have hb : 48 ≤ b.toNat ∧ b.toNat ≤ 57 := by
      have := h.1
      simp only [isDigit, Bool.and_eq_true, decide_eq_true_eq, UInt8.le_iff_toNat_le] at this
      simpa using this
    have := foldl_lt l (acc * 10 + (b.toNat - 48)) (m + 1) h.2 (by rw [Nat.pow_succ]; omega)
    rw [List.foldl_cons, List.length_cons, show m + (l.length + 1) = m + 1 + l.length by omega]
    exact this
theorem numOf_lt (l : List UInt8) (h : l.all isDigit = true) (h7 : l.length ≤ 7) : numOf l < 10000000 := by
  have := foldl_lt l 0 0 h (by decide)
  have h10 : (10 : Nat) ^ (0 + l.length) ≤ 10 ^ 7 := Nat.pow_le_pow_right (by decide) (by omega)
  unfold numOf
  omega
end Lex
end PD
