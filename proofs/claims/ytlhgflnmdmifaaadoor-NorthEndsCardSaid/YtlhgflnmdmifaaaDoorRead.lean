/- What a text is read as in the first language, in plain Lean. -/
import Derived.Test.YtlhgflnmdmifaaaDoorPlain
namespace PD
/-- The place of a token, or the end of the text. -/
def posAt (l : List (Tok × Nat)) (en i : Nat) : Nat := match l[i]? with
  | some x => x.2
  | none => en
namespace Lex
theorem lex_ok {s : List UInt8} (h : (lex s).2.1 = 0) : (∀ x ∈ (lex s).1, TokOk x.1) ∧ (lex s).1.length ≤ 5000 := by
  unfold lex at h ⊢
  split
  · simp
  · simp only
    split
    · simp
    · rename_i h1 h2
      split
      · simp
      · refine ⟨scan_ok _ _ _, ?_⟩
        simpa using h2
theorem lex_err {s : List UInt8} (h : (lex s).2.1 ≠ 0) : (lex s).1 = [] := by
  unfold lex at h ⊢
  split
  · rfl
  · simp only
    split
    · rfl
    · rename_i h1 h2
      rw [if_neg (by assumption)] at h
      simp only [h2] at h
      split
      · rfl
      · rename_i h3
        rw [h3] at h
        exact absurd rfl h
theorem head_pos {c : UInt8} {r : List UInt8} {t : Tok} (h : head c r = .tok t) : 1 ≤ t.text.length ∧ t.text.length ≤ 1 + r.length := ⟨(head_tok h).1, (head_tok h).2.1⟩
theorem scan_pos : ∀ (k pos : Nat) (s : List UInt8), (∀ x ∈ (scan k pos s).1, pos ≤ x.2 ∧ x.2 < pos + s.length) ∧ (∀ e p, (scan k pos s).2 = some (e, p) → (e = 2 ∨ e = 3 ∨ e = 4) ∧ pos ≤ p ∧ p < pos + s.length)
  | 0, pos, s => by simp [scan]
  | k + 1, pos, [] => by simp [scan]
  | k + 1, pos, c :: r => by
    cases hh : head c r with
    | gap n =>
      obtain ⟨g1, g2⟩ := head_gap hh
      obtain ⟨i1, i2⟩ := scan_pos k (pos + n) (r.drop (n - 1))
      simp only [scan, hh]
      refine ⟨fun x hx => ?_, fun e p hp => ?_⟩
      · have := i1 x hx
        simp only [List.length_drop, List.length_cons] at this ⊢
        omega
      · have := i2 e p hp
        simp only [List.length_drop, List.length_cons] at this ⊢
        omega
    | tok t =>
      obtain ⟨g1, g2⟩ := head_pos hh
      obtain ⟨i1, i2⟩ := scan_pos k (pos + t.text.length) (r.drop (t.text.length - 1))
      simp only [scan, hh]
      refine ⟨fun x hx => ?_, fun e p hp => ?_⟩
      · simp only [List.mem_cons] at hx
        rcases hx with rfl | hx
        · simp only [List.length_cons]; omega
        · have := i1 x hx
          simp only [List.length_drop, List.length_cons] at this ⊢
          omega
      · have := i2 e p hp
        simp only [List.length_drop, List.length_cons] at this ⊢
        omega
    | err e =>
      simp only [scan, hh]
      refine ⟨by simp, fun e' p hp => ?_⟩
      simp only [Option.some.injEq, Prod.mk.injEq] at hp
      obtain ⟨rfl, rfl⟩ := hp
      refine ⟨?_, by simp⟩
      have hc := head_cases c r
      simp only [hh] at hc
      rcases hc with hc | hc | hc | hc | hc | hc | hc | hc
      · cases hc.2
      · cases hc.2
      · have h2 := hc.2
        unfold nameItem at h2
        split at h2
        · cases h2; exact .inl rfl
        · cases h2
      · have h2 := hc.2
        unfold numItem at h2
        split at h2
        · cases h2; exact .inr (.inr rfl)
        · cases h2
      · simp_all
      · simp_all
      · simp_all
      · simp_all
theorem lex_pos {s : List UInt8} : (∀ x ∈ (lex s).1, x.2 < s.length) ∧ ((lex s).2.1 ≠ 0 → (0 ≤ (lex s).2.2 ∧ (lex s).2.2 ≤ s.length) ∨ ((lex s).2.2 = -1 ∧ (lex s).2.1 = 2)) := by
  obtain ⟨i1, i2⟩ := scan_pos s.length 0 s
  unfold lex
  split
  · simp
  · simp only
    split
    · rename_i t ht
      refine ⟨by simp, fun _ => .inl ?_⟩
      have := i1 t (List.mem_of_getElem? ht)
      simp only
      omega
    · split
      · rename_i e p hq
        have := i2 e p hq
        refine ⟨by simp, fun _ => .inl ?_⟩
        simp only
        omega
      · refine ⟨fun x hx => by have := i1 x hx; omega, fun h => absurd rfl h⟩
end Lex
namespace North
theorem parse_good {l : List Tok} (hl : ∀ t ∈ l, Lex.TokOk t) : match parse l with
    | .ok p _ => Good p
    | .err e j => (e = 2 ∨ e = 5 ∨ e = 6 ∨ e = 9 ∨ e = 10) ∧ j ≤ l.length
    | .out => True := by
  have h := Tr.Sat.run l hl (sat_provision (l.length + 1)) (Nat.zero_le _)
  unfold parse
  cases hr : (provision (l.length + 1)).run l 0 with
  | ok p i =>
    rw [hr] at h
    simp only
    split
    · rename_i hx
      split at hx
      · cases hx
      · cases hx; exact h
    · rename_i hx
      split at hx
      · rename_i hlt
        cases hx
        exact ⟨.inr (.inl rfl), by omega⟩
      · cases hx
    · trivial
  | err e j =>
    rw [hr] at h
    simp only
    rcases h with ⟨rfl, hj⟩ | ⟨i, hp, hi⟩
    · refine ⟨?_, hj⟩
      unfold Tr.badAt; split <;> omega
    · exact ⟨by rcases hp.1 with h | h | h <;> omega, by have := hp.2; omega⟩
  | out => trivial
/-- What a text is read as: a provision, or an error at a place. -/
def read (s : Str) : Except (Nat × Int) Pv :=
  if (Lex.lex s).2.1 = 0 then
    match parse ((Lex.lex s).1.map (·.1)) with
    | .ok p _ => .ok p
    | .err e j => .error (e, posAt (Lex.lex s).1 s.length j)
    | .out => .error (1, 0)
  else .error ((Lex.lex s).2.1, (Lex.lex s).2.2)
theorem read_lexerr {s : Str} (h : (Lex.lex s).2.1 ≠ 0) : read s = .error ((Lex.lex s).2.1, (Lex.lex s).2.2) := by rw [read, if_neg h]
theorem read_ok {s : Str} {p : Pv} {i : Nat} (h : (Lex.lex s).2.1 = 0) (hp : parse ((Lex.lex s).1.map (·.1)) = .ok p i) : read s = .ok p := by rw [read, if_pos h, hp]
theorem read_err {s : Str} {e j : Nat} (h : (Lex.lex s).2.1 = 0) (hp : parse ((Lex.lex s).1.map (·.1)) = .err e j) : read s = .error (e, (posAt (Lex.lex s).1 s.length j : Int)) := by rw [read, if_pos h, hp]
theorem posAt_le {s : Str} (i : Nat) : posAt (Lex.lex s).1 s.length i ≤ s.length := by
  unfold posAt
  split
  · rename_i x hx
    have := Lex.lex_pos.1 x (List.mem_of_getElem? hx)
    omega
  · exact Nat.le_refl _
theorem read_good {s : Str} {p : Pv} (h : read s = .ok p) : Good p := by
  unfold read at h
  split at h
  · rename_i he
    have hg := parse_good (l := (Lex.lex s).1.map (·.1)) (fun t ht => by obtain ⟨x, hx, rfl⟩ := List.mem_map.1 ht; exact (Lex.lex_ok he).1 x hx)
    split at h
    · rename_i p' i hp
      rw [hp] at hg
      cases h; exact hg
    · cases h
    · cases h
  · cases h
theorem read_bad {s : Str} {e : Nat} {at_ : Int} (h : read s = .error (e, at_)) : e ≠ 0 ∧ ((0 ≤ at_ ∧ at_ ≤ s.length) ∨ (at_ = -1 ∧ e = 2)) := by
  unfold read at h
  split at h
  · rename_i he
    have hg := parse_good (l := (Lex.lex s).1.map (·.1)) (fun t ht => by obtain ⟨x, hx, rfl⟩ := List.mem_map.1 ht; exact (Lex.lex_ok he).1 x hx)
    split at h
    · cases h
    · rename_i e' j hp
      rw [hp] at hg
      cases h
      refine ⟨by rcases hg.1 with h | h | h | h | h <;> omega, .inl ⟨by omega, ?_⟩⟩
      have := posAt_le (s := s) j
      omega
    · cases h
      exact ⟨by omega, .inl ⟨by omega, by omega⟩⟩
  · rename_i he
    cases h
    exact ⟨he, Lex.lex_pos.2 he⟩
end North
end PD
