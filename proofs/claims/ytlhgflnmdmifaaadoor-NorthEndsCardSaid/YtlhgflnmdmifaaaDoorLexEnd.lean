/- What the lexer returns, by what its iterator yields, in plain Lean. -/
import Derived.Test.YtlhgflnmdmifaaaDoorL2
import Derived.Test.YtlhgflnmdmifaaaDoorRead
namespace PD
namespace Lex
theorem okF_err (q : List (Tok × Nat)) : ∀ x ∈ q.map okF, x.err = 0 := by
  intro x hx
  obtain ⟨y, _, rfl⟩ := List.mem_map.1 hx
  rfl
theorem scan_err_ne {s : List UInt8} {e p : Nat} (h : (scan s.length 0 s).2 = some (e, p)) : e ≠ 0 := by
  have := ((scan_pos s.length 0 s).2 e p h).1
  omega
theorem lex_of {s : List UInt8} (h20 : s.length ≤ 20000) {q : List (Tok × Nat)} (h : scan s.length 0 s = (q, none)) (hl : q.length ≤ 5000) : lex s = (q, 0, 0) := by
  have h5 : q[5000]? = none := List.getElem?_eq_none hl
  simp only [lex, if_neg (show ¬ s.length > 20000 by omega), h, h5]
theorem lex_of_err {s : List UInt8} (h20 : s.length ≤ 20000) {q : List (Tok × Nat)} {e p : Nat} (h : scan s.length 0 s = (q, some (e, p))) (hl : q.length ≤ 5000) : lex s = ([], e, (p : Int)) := by
  have h5 : q[5000]? = none := List.getElem?_eq_none hl
  simp only [lex, if_neg (show ¬ s.length > 20000 by omega), h, h5]
theorem lex_done {s : List UInt8} {xs : List Found} (h20 : s.length ≤ 20000) (h : IsFound (scan s.length 0 s) xs) (h0 : ∀ x ∈ xs, x.err = 0) (hl : xs.length ≤ 5000) : ∃ q, xs = q.map okF ∧ lex s = (q, 0, 0) := by
  cases hq : scan s.length 0 s with
  | mk q o =>
    rw [hq] at h
    cases o with
    | none =>
      have h := isFound_none.1 h
      subst h
      exact ⟨q, rfl, lex_of h20 hq (by simpa using hl)⟩
    | some x =>
      obtain ⟨e, p⟩ := x
      obtain ⟨t, rfl⟩ := isFound_some.1 h
      have := h0 ⟨t, p, e⟩ (by simp)
      exact absurd this (scan_err_ne (by rw [hq]))
theorem lex_stop1 {s : List UInt8} {ini : List Found} {last : Found} (h20 : s.length ≤ 20000) (h : Begun s (ini ++ [last])) (h0 : ∀ x ∈ ini, x.err = 0) (hne : last.err ≠ 0) (hl : ini.length ≤ 5000) : lex s = ([], last.err, (last.at_ : Int)) := by
  obtain ⟨rest, h⟩ := h
  cases hq : scan s.length 0 s with
  | mk q o =>
    rw [hq] at h
    cases o with
    | none =>
      have h := isFound_none.1 h
      have := okF_err q last (by rw [← h]; simp)
      exact absurd this hne
    | some x =>
      obtain ⟨e, p⟩ := x
      obtain ⟨t, h⟩ := isFound_some.1 h
      rw [List.append_assoc] at h
      have hi : ini.length = q.length := by
        rcases Nat.lt_trichotomy ini.length q.length with hlt | heq | hgt
        · have h1 : (ini ++ ([last] ++ rest))[ini.length]? = some last := by simp
          rw [h, List.getElem?_append_left (by simpa using hlt)] at h1
          have := okF_err q last (List.mem_of_getElem? h1)
          exact absurd this hne
        · exact heq
        · have h1 : (q.map okF ++ [(⟨t, p, e⟩ : Found)])[q.length]? = some ⟨t, p, e⟩ := by simp
          rw [← h, List.getElem?_append_left hgt] at h1
          have := h0 _ (List.mem_of_getElem? h1)
          exact absurd this (scan_err_ne (by rw [hq]))
      have h2 := List.append_inj_right h (by simpa using hi)
      simp only [List.cons_append, List.nil_append, List.cons.injEq] at h2
      obtain ⟨rfl, _⟩ := h2
      exact lex_of_err h20 hq (by omega)
theorem lex_stop2 {s : List UInt8} {ini : List Found} {last : Found} (h20 : s.length ≤ 20000) (h : Begun s (ini ++ [last])) (h0 : last.err = 0) (hl : ini.length = 5000) : lex s = ([], 2, (last.at_ : Int)) := by
  obtain ⟨rest, h⟩ := h
  rw [List.append_assoc] at h
  have h1 : (ini ++ ([last] ++ rest))[5000]? = some last := by rw [← hl]; simp
  have key : ∀ q : List (Tok × Nat), (q.map okF)[5000]? = some last → (scan s.length 0 s).1 = q → lex s = ([], 2, (last.at_ : Int)) := by
    intro q h2 hq
    rw [List.getElem?_map] at h2
    obtain ⟨y, hy, rfl⟩ := Option.map_eq_some_iff.1 h2
    simp only [lex, if_neg (show ¬ s.length > 20000 by omega), hq, hy]
    rfl
  cases hq : scan s.length 0 s with
  | mk q o =>
    rw [hq] at h
    cases o with
    | none =>
      have h := isFound_none.1 h
      rw [h] at h1
      exact key q h1 (by rw [hq])
    | some x =>
      obtain ⟨e, p⟩ := x
      obtain ⟨t, h⟩ := isFound_some.1 h
      rw [h] at h1
      rcases Nat.lt_or_ge 5000 q.length with hlt | hge
      · rw [List.getElem?_append_left (by simpa using hlt)] at h1
        exact key q h1 (by rw [hq])
      · rw [List.getElem?_append_right (by simpa using hge)] at h1
        have := List.mem_of_getElem? h1
        simp only [List.mem_singleton] at this
        subst this
        exact absurd h0 (scan_err_ne (by rw [hq]))
end Lex
end PD
