/- A word among others in one text with blanks around each. -/
import Derived.Test.YtlhgflnmdmifaaaDoorPlain
import Derived.Lib.IndexMore
namespace PD
open Go.Lib

/-- Words, a blank before each and one at the end. -/
def inText : List Str → Str
  | [] => [32]
  | w :: ws => 32 :: w ++ inText ws

theorem inText_head : ∀ ws : List Str, ∃ r, inText ws = 32 :: r
  | [] => ⟨[], rfl⟩
  | w :: ws => ⟨w ++ inText ws, rfl⟩

/-- Up to a blank two words are one. -/
theorem word_prefix : ∀ (s w r : Str), (32 : UInt8) ∉ s → (32 : UInt8) ∉ w → (s ++ [32]).isPrefixOf (w ++ 32 :: r) = true → s = w
  | [], [], _, _, _, _ => rfl
  | [], c :: w, r, _, hw, h => by
    simp [List.isPrefixOf] at h
    simp [← h] at hw
  | c :: s, [], r, hs, _, h => by
    simp [List.isPrefixOf] at h
    simp [h.1] at hs
  | c :: s, d :: w, r, hs, hw, h => by
    simp only [List.cons_append, List.isPrefixOf, Bool.and_eq_true, beq_iff_eq] at h
    rw [h.1, word_prefix s w r (fun e => hs (List.mem_cons_of_mem _ e)) (fun e => hw (List.mem_cons_of_mem _ e)) h.2]

theorem not_in_word : ∀ (w : Str) (i : Nat) (s r : Str), (32 : UInt8) ∉ w → i < w.length → (32 :: s).isPrefixOf ((w ++ r).drop i) = false
  | [], i, s, r, _, h => by simp at h
  | c :: w, 0, s, r, hw, _ => by
    simp only [List.cons_append, List.drop_zero, List.isPrefixOf, Bool.and_eq_false_iff]
    left
    rw [beq_eq_false_iff_ne]
    intro e
    simp [← e] at hw
  | c :: w, i + 1, s, r, hw, h => by
    simp only [List.cons_append, List.drop_succ_cons]
    exact not_in_word w i s r (fun e => hw (List.mem_cons_of_mem _ e)) (by simpa using h)

theorem found_iff (s : Str) (hs : (32 : UInt8) ∉ s) : ∀ ws : List Str, (∀ w ∈ ws, (32 : UInt8) ∉ w) → ((∃ i, (32 :: s ++ [32]).isPrefixOf ((inText ws).drop i) = true) ↔ s ∈ ws)
  | [], _ => by
    simp only [List.not_mem_nil, iff_false]
    rintro ⟨i, h⟩
    have hl := (List.isPrefixOf_iff_prefix.1 h).length_le
    simp [inText] at hl
    omega
  | w :: ws, hw => by
    have ih := found_iff s hs ws (fun x hx => hw x (List.mem_cons_of_mem _ hx))
    obtain ⟨r, hr⟩ := inText_head ws
    constructor
    · rintro ⟨i, h⟩
      rcases Nat.eq_zero_or_pos i with rfl | hi
      · simp only [inText, List.drop_zero, List.cons_append, List.isPrefixOf, beq_self_eq_true, Bool.true_and] at h
        rw [hr] at h
        exact List.mem_cons.2 (.inl (word_prefix s w r hs (hw w (List.mem_cons_self ..)) h))
      · obtain ⟨i, rfl⟩ : ∃ u, i = u + 1 := ⟨i - 1, by omega⟩
        simp only [inText, List.cons_append, List.drop_succ_cons] at h
        rcases Nat.lt_or_ge i w.length with hl | hl
        · have := not_in_word w i (s ++ [32]) (inText ws) (hw w (List.mem_cons_self ..)) hl
          rw [this] at h
          simp at h
        · rw [List.drop_append, List.drop_eq_nil_of_le hl, List.nil_append] at h
          exact List.mem_cons_of_mem _ (ih.1 ⟨_, h⟩)
    · intro hm
      rcases List.mem_cons.1 hm with rfl | hm
      · refine ⟨0, ?_⟩
        simp only [inText, List.drop_zero, List.cons_append, List.isPrefixOf, beq_self_eq_true, Bool.true_and]
        rw [hr, List.isPrefixOf_iff_prefix]
        exact ⟨r, by simp⟩
      · obtain ⟨i, h⟩ := ih.2 hm
        refine ⟨1 + w.length + i, ?_⟩
        have : (inText (w :: ws)).drop (1 + w.length + i) = (inText ws).drop i := by
          simp only [inText, List.cons_append]
          rw [show 1 + w.length + i = (w.length + i) + 1 from by omega, List.drop_succ_cons, List.drop_append, List.drop_eq_nil_of_le (by omega)]
          simp
        rw [this]; exact h

theorem contains_iff (t sub : Str) (hsub : sub ≠ []) : Go.Lib.contains t sub = true ↔ ∃ i, sub.isPrefixOf (t.drop i) = true := by
  unfold Go.Lib.contains
  rcases index_spec t sub with ⟨h1, h2⟩ | ⟨i, h1, _, h3, _⟩
  · rw [h1]
    simp only [Int.reduceNeg, decide_eq_true_eq]
    constructor
    · intro h; omega
    · rintro ⟨i, h⟩
      rcases Nat.lt_or_ge t.length i with hl | hl
      · rw [List.drop_eq_nil_of_le (by omega)] at h
        cases sub with
        | nil => exact absurd rfl hsub
        | cons a b => simp [List.isPrefixOf] at h
      · have := h2 i hl
        simp only [occAt] at this
        rw [h] at this
        simp at this
  · rw [h1]
    simp only [decide_eq_true_eq]
    exact ⟨fun _ => ⟨i, by simpa [occAt] using h3⟩, fun _ => by omega⟩

/-- The search for a name in a text of words is the question whether it is among them. -/
theorem contains_words (ws : List Str) (s : Str) (hw : ∀ w ∈ ws, (32 : UInt8) ∉ w) (hs : (32 : UInt8) ∉ s) : Go.Lib.contains (inText ws) (32 :: s ++ [32]) = ws.contains s := by
  rw [Bool.eq_iff_iff, contains_iff _ _ (by simp), found_iff s hs ws hw]
  simp
end PD
