/- The tokens with one line feed behind each: what is read, in plain Lean. -/
import Derived.Test.YtlhgflnmdmifaaaDoorPA
namespace PD
namespace Lex
theorem placed_fst : ∀ (p : Nat) (l : List Tok), (placed p l).map (·.1) = l
  | _, [] => rfl
  | p, t :: l => by rw [placed, List.map_cons, placed_fst]
theorem spaced_cons (t : Tok) (l : List Tok) : spaced (t :: l) = t.text ++ 10 :: spaced l := by simp [spaced]
theorem spaced_snoc (l : List Tok) (t : Tok) : spaced (l ++ [t]) = spaced l ++ t.text ++ [10] := by simp [spaced]
theorem placed_get : ∀ (l : List Tok) (p n : Nat) (t : Tok), l[n]? = some t → (placed p l)[n]? = some (t, p + (spaced (l.take n)).length)
  | [], p, n, t, h => by simp at h
  | x :: l, p, 0, t, h => by
    simp only [List.getElem?_cons_zero, Option.some.injEq] at h
    subst h
    simp [placed, spaced]
  | x :: l, p, n + 1, t, h => by
    rw [placed, List.getElem?_cons_succ, placed_get l _ n t (by simpa using h), List.take_succ_cons, spaced_cons]
    simp only [List.length_append, List.length_cons, Option.some.injEq, Prod.mk.injEq, true_and]
    omega
theorem spaced_len : ∀ (k pos : Nat) (s : List UInt8), (spaced ((scan k pos s).1.map (·.1))).length ≤ 2 * s.length
  | 0, pos, s => by simp [scan, spaced]
  | k + 1, pos, [] => by simp [scan, spaced]
  | k + 1, pos, c :: r => by
    cases hh : head c r with
    | gap n =>
      have ih := spaced_len k (pos + n) (r.drop (n - 1))
      simp only [scan, hh]
      simp only [List.length_drop, List.length_cons] at ih ⊢
      omega
    | tok t =>
      obtain ⟨g1, g2⟩ := head_pos hh
      have ih := spaced_len k (pos + t.text.length) (r.drop (t.text.length - 1))
      simp only [scan, hh, List.map_cons, spaced_cons, List.length_append, List.length_cons]
      simp only [List.length_drop] at ih
      omega
    | err e => simp [scan, hh, spaced]
theorem lex_spaced {s : List UInt8} (h : s.length ≤ 3000) (hl : (lex s).2.1 = 0) : lex (spaced ((lex s).1.map (·.1))) = (placed 0 ((lex s).1.map (·.1)), 0, 0) ∧ (spaced ((lex s).1.map (·.1))).length ≤ 6000 := by
  obtain ⟨hs, h5, _⟩ := lex_scan (by omega) hl
  have hlen := spaced_len s.length 0 s
  rw [hs] at hlen
  simp only at hlen
  have hok : ∀ t ∈ (lex s).1.map (·.1), TokOk t := by
    intro t ht
    obtain ⟨x, hx, rfl⟩ := List.mem_map.1 ht
    exact (lex_ok hl).1 x hx
  refine ⟨lex_back (by omega) (scan_spaced _ _ _ hok (Nat.le_refl _)) ?_, by omega⟩
  have := congrArg List.length (placed_fst 0 ((lex s).1.map (·.1)))
  rw [List.length_map, List.length_map] at this
  omega
end Lex
namespace North
theorem parse_six {l : List Tok} (hl : ∀ t ∈ l, Lex.TokOk t) {j : Nat} (h : parse l = .err 6 j) : l.length ≤ j := by
  have hg := Tr.Sat.run l hl (sat_provision (l.length + 1)) (Nat.zero_le _)
  unfold parse at h
  cases hr : (provision (l.length + 1)).run l 0 with
  | ok p i =>
    rw [hr] at h
    simp only at h
    split at h
    · simp at h
    · cases h
  | err e j' =>
    rw [hr] at h hg
    simp only [PR.err.injEq] at h
    obtain ⟨rfl, rfl⟩ := h
    simp only at hg
    rcases hg with ⟨h1, h2⟩ | ⟨i, hp, hi⟩
    · unfold Tr.badAt at h1
      split at h1
      · cases h1
      · omega
    · rcases hp.1 with h | h | h <;> cases h
  | out => rw [hr] at h; cases h
/-- The same provision, or the same error at the same token or at the end. -/
theorem read_spaced {s : Str} (h : s.length ≤ 3000) (hl : (Lex.lex s).2.1 = 0) :
    (∃ p, read s = .ok p ∧ read (Lex.spaced ((Lex.lex s).1.map (·.1))) = .ok p) ∨
    (∃ e j, read s = .error (e, (posAt (Lex.lex s).1 s.length j : Int)) ∧ read (Lex.spaced ((Lex.lex s).1.map (·.1))) = .error (e, (posAt (Lex.placed 0 ((Lex.lex s).1.map (·.1))) (Lex.spaced ((Lex.lex s).1.map (·.1))).length j : Int)) ∧
      e ≠ 0 ∧ (e = 6 → (Lex.lex s).1.length ≤ j)) := by
  obtain ⟨hx, _⟩ := Lex.lex_spaced h hl
  have hS : ∀ r, read (Lex.spaced ((Lex.lex s).1.map (·.1))) = r ↔ (match parse ((Lex.lex s).1.map (·.1)) with
      | .ok p _ => .ok p
      | .err e j => .error (e, (posAt (Lex.placed 0 ((Lex.lex s).1.map (·.1))) (Lex.spaced ((Lex.lex s).1.map (·.1))).length j : Int))
      | .out => .error (1, 0)) = r := by
    intro r
    conv => lhs; unfold read
    rw [hx]
    simp only [if_true, Lex.placed_fst]
    rfl
  have hg := parse_good (l := (Lex.lex s).1.map (·.1)) (fun t ht => by obtain ⟨x, hx, rfl⟩ := List.mem_map.1 ht; exact (Lex.lex_ok hl).1 x hx)
  cases hp : parse ((Lex.lex s).1.map (·.1)) with
  | ok p i => exact .inl ⟨p, read_ok hl hp, (hS _).2 (by rw [hp])⟩
  | err e j =>
    rw [hp] at hg
    refine .inr ⟨e, j, read_err hl hp, (hS _).2 (by rw [hp]), by rcases hg.1 with h | h | h | h | h <;> omega, fun he => ?_⟩
    have h6 := parse_six (fun t ht => by obtain ⟨x, hx, rfl⟩ := List.mem_map.1 ht; exact (Lex.lex_ok hl).1 x hx) (he ▸ hp)
    rw [List.length_map] at h6
    exact h6
  | out => exact absurd hp (parse_ends _)
end North
end PD
