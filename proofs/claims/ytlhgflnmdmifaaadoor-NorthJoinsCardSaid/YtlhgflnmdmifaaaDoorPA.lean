/- What a text is read as in the first language, in plain Lean. More fuel changes nothing. The first error: what comes before it, and what may follow it, in plain Lean. -/
import Derived.Test.YtlhgflnmdmifaaaDoorPlain
namespace PD
/-- The place of a token, or the end of the text. -/
def posAt (l : List (Tok × Nat)) (en i : Nat) : Nat := match l[i]? with
  | some x => x.2
  | none => en
namespace Lex
theorem lex_ok {s : List UInt8} (_h : (lex s).2.1 = 0) : (∀ x ∈ (lex s).1, TokOk x.1) ∧ (lex s).1.length ≤ 5000 := by
  unfold lex
  split
  · simp
  · simp only
    split
    · simp
    · rename_i h1 h2
      split
      · simp
      · refine ⟨scan_ok _ _ _, ?_⟩
        simpa using h2
theorem lex_err {s : List UInt8} (h : (lex s).2.1 ≠ 0) : (lex s).1 = [] := by
  unfold lex at h ⊢
  split
  · rfl
  · simp only
    split
    · rfl
    · rename_i h1 h2
      rw [if_neg (by assumption)] at h
      simp only [h2] at h
      split
      · rfl
      · rename_i h3
        rw [h3] at h
        exact absurd rfl h
theorem head_pos {c : UInt8} {r : List UInt8} {t : Tok} (h : head c r = .tok t) : 1 ≤ t.text.length ∧ t.text.length ≤ 1 + r.length := ⟨(head_tok h).1, (head_tok h).2.1⟩
theorem scan_pos : ∀ (k pos : Nat) (s : List UInt8), (∀ x ∈ (scan k pos s).1, pos ≤ x.2 ∧ x.2 < pos + s.length) ∧ (∀ e p, (scan k pos s).2 = some (e, p) → (e = 2 ∨ e = 3 ∨ e = 4) ∧ pos ≤ p ∧ p < pos + s.length)
  | 0, pos, s => by simp [scan]
  | k + 1, pos, [] => by simp [scan]
  | k + 1, pos, c :: r => by
    cases hh : head c r with
    | gap n =>
      obtain ⟨g1, g2⟩ := head_gap hh
      obtain ⟨i1, i2⟩ := scan_pos k (pos + n) (r.drop (n - 1))
      simp only [scan, hh]
      refine ⟨fun x hx => ?_, fun e p hp => ?_⟩
      · have := i1 x hx
        simp only [List.length_drop, List.length_cons] at this ⊢
        omega
      · have := i2 e p hp
        simp only [List.length_drop, List.length_cons] at this ⊢
        omega
    | tok t =>
      obtain ⟨g1, g2⟩ := head_pos hh
      obtain ⟨i1, i2⟩ := scan_pos k (pos + t.text.length) (r.drop (t.text.length - 1))
      simp only [scan, hh]
      refine ⟨fun x hx => ?_, fun e p hp => ?_⟩
      · simp only [List.mem_cons] at hx
        rcases hx with rfl | hx
        · simp only [List.length_cons]; omega
        · have := i1 x hx
          simp only [List.length_drop, List.length_cons] at this ⊢
          omega
      · have := i2 e p hp
        simp only [List.length_drop, List.length_cons] at this ⊢
        omega
    | err e =>
      simp only [scan, hh]
      refine ⟨by simp, fun e' p hp => ?_⟩
      simp only [Option.some.injEq, Prod.mk.injEq] at hp
      obtain ⟨rfl, rfl⟩ := hp
      refine ⟨?_, by simp⟩
      have hc := head_cases c r
      simp only [hh] at hc
      rcases hc with hc | hc | hc | hc | hc | hc | hc | hc
      · cases hc.2
      · cases hc.2
      · have h2 := hc.2
        unfold nameItem at h2
        split at h2
        · cases h2; exact .inl rfl
        · cases h2
      · have h2 := hc.2
        unfold numItem at h2
        split at h2
        · cases h2; exact .inr (.inr rfl)
        · cases h2
      · simp_all
      · simp_all
      · simp_all
      · simp_all
theorem lex_pos {s : List UInt8} : (∀ x ∈ (lex s).1, x.2 < s.length) ∧ ((lex s).2.1 ≠ 0 → (0 ≤ (lex s).2.2 ∧ (lex s).2.2 ≤ s.length) ∨ ((lex s).2.2 = -1 ∧ (lex s).2.1 = 2)) := by
  obtain ⟨i1, i2⟩ := scan_pos s.length 0 s
  unfold lex
  split
  · simp
  · simp only
    split
    · rename_i t ht
      refine ⟨by simp, fun _ => .inl ?_⟩
      have := i1 t (List.mem_of_getElem? ht)
      simp only
      omega
    · split
      · rename_i e p hq
        have := i2 e p hq
        refine ⟨by simp, fun _ => .inl ?_⟩
        simp only
        omega
      · refine ⟨fun x hx => by have := i1 x hx; omega, fun h => absurd rfl h⟩
end Lex
namespace North
theorem parse_good {l : List Tok} (hl : ∀ t ∈ l, Lex.TokOk t) : match parse l with
    | .ok p _ => Good p
    | .err e j => (e = 2 ∨ e = 5 ∨ e = 6 ∨ e = 9 ∨ e = 10) ∧ j ≤ l.length
    | .out => True := by
  have h := Tr.Sat.run l hl (sat_provision (l.length + 1)) (Nat.zero_le _)
  unfold parse
  cases hr : (provision (l.length + 1)).run l 0 with
  | ok p i =>
    rw [hr] at h
    simp only
    split
    · rename_i hx
      split at hx
      · cases hx
      · cases hx; exact h
    · rename_i hx
      split at hx
      · rename_i hlt
        cases hx
        exact ⟨.inr (.inl rfl), by omega⟩
      · cases hx
    · trivial
  | err e j =>
    rw [hr] at h
    simp only
    rcases h with ⟨rfl, hj⟩ | ⟨i, hp, hi⟩
    · refine ⟨?_, hj⟩
      unfold Tr.badAt; split <;> omega
    · exact ⟨by rcases hp.1 with h | h | h <;> omega, by have := hp.2; omega⟩
  | out => trivial
/-- What a text is read as: a provision, or an error at a place. -/
def read (s : Str) : Except (Nat × Int) Pv :=
  if (Lex.lex s).2.1 = 0 then
    match parse ((Lex.lex s).1.map (·.1)) with
    | .ok p _ => .ok p
    | .err e j => .error (e, posAt (Lex.lex s).1 s.length j)
    | .out => .error (1, 0)
  else .error ((Lex.lex s).2.1, (Lex.lex s).2.2)
theorem read_lexerr {s : Str} (h : (Lex.lex s).2.1 ≠ 0) : read s = .error ((Lex.lex s).2.1, (Lex.lex s).2.2) := by rw [read, if_neg h]
theorem read_ok {s : Str} {p : Pv} {i : Nat} (h : (Lex.lex s).2.1 = 0) (hp : parse ((Lex.lex s).1.map (·.1)) = .ok p i) : read s = .ok p := by rw [read, if_pos h, hp]
theorem read_err {s : Str} {e j : Nat} (h : (Lex.lex s).2.1 = 0) (hp : parse ((Lex.lex s).1.map (·.1)) = .err e j) : read s = .error (e, (posAt (Lex.lex s).1 s.length j : Int)) := by rw [read, if_pos h, hp]
theorem posAt_le {s : Str} (i : Nat) : posAt (Lex.lex s).1 s.length i ≤ s.length := by
  unfold posAt
  split
  · rename_i x hx
    have := Lex.lex_pos.1 x (List.mem_of_getElem? hx)
    omega
  · exact Nat.le_refl _
theorem read_good {s : Str} {p : Pv} (h : read s = .ok p) : Good p := by
  unfold read at h
  split at h
  · rename_i he
    have hg := parse_good (l := (Lex.lex s).1.map (·.1)) (fun t ht => by obtain ⟨x, hx, rfl⟩ := List.mem_map.1 ht; exact (Lex.lex_ok he).1 x hx)
    split at h
    · rename_i p' i hp
      rw [hp] at hg
      cases h; exact hg
    · cases h
    · cases h
  · cases h
theorem read_bad {s : Str} {e : Nat} {at_ : Int} (h : read s = .error (e, at_)) : e ≠ 0 ∧ ((0 ≤ at_ ∧ at_ ≤ s.length) ∨ (at_ = -1 ∧ e = 2)) := by
  unfold read at h
  split at h
  · rename_i he
    have hg := parse_good (l := (Lex.lex s).1.map (·.1)) (fun t ht => by obtain ⟨x, hx, rfl⟩ := List.mem_map.1 ht; exact (Lex.lex_ok he).1 x hx)
    split at h
    · cases h
    · rename_i e' j hp
      rw [hp] at hg
      cases h
      refine ⟨by rcases hg.1 with h | h | h | h | h <;> omega, .inl ⟨by omega, ?_⟩⟩
      have := posAt_le (s := s) j
      omega
    · cases h
      exact ⟨by omega, .inl ⟨by omega, by omega⟩⟩
  · rename_i he
    cases h
    exact ⟨he, Lex.lex_pos.2 he⟩
end North
end PD
namespace PD
namespace Tr
variable {α β : Type}
/-- t is t', but may run out of fuel earlier. -/
def Le : Tr α → Tr α → Prop
  | .out, _ => True
  | .ret a, t' => t' = .ret a
  | .bad, t' => t' = .bad
  | .raise e j, t' => t' = .raise e j
  | .here k, t' => ∃ k', t' = .here k' ∧ ∀ i, (k i).Le (k' i)
  | .test q y n, t' => ∃ y' n', t' = .test q y' n' ∧ (∀ t, (y t).Le (y' t)) ∧ n.Le n'
theorem Le.refl (t : Tr α) : t.Le t := by
  induction t with
  | ret a => rfl
  | bad => rfl
  | raise e j => rfl
  | out => trivial
  | here k ih => exact ⟨k, rfl, fun i => ih i⟩
  | test q y n ihy ihn => exact ⟨y, n, rfl, fun t => ihy t, ihn⟩
theorem Le.bind {t : Tr α} : ∀ {t' : Tr α} {f f' : α → Tr β}, t.Le t' → (∀ a, (f a).Le (f' a)) → (t.bind f).Le (t'.bind f') := by
  induction t with
  | ret a => intro t' f f' h hf; cases h; exact hf a
  | bad => intro t' f f' h hf; cases h; exact rfl
  | raise e j => intro t' f f' h hf; cases h; exact rfl
  | out => intro t' f f' h hf; trivial
  | here k ih => intro t' f f' h hf; obtain ⟨k', rfl, hk⟩ := h; exact ⟨_, rfl, fun i => ih i (hk i) hf⟩
  | test q y n ihy ihn => intro t' f f' h hf; obtain ⟨y', n', rfl, hy, hn⟩ := h; exact ⟨_, _, rfl, fun t => ihy t (hy t) hf, ihn hn hf⟩
theorem Le.run {l : List Tok} {t : Tr α} : ∀ {t' : Tr α} {i : Nat}, t.Le t' → t.run l i ≠ .out → t'.run l i = t.run l i := by
  induction t with
  | ret a => intro t' i h _; cases h; rfl
  | bad => intro t' i h _; cases h; rfl
  | raise e j => intro t' i h _; cases h; rfl
  | out => intro t' i _ h; exact absurd rfl h
  | here k ih => intro t' i h hr; obtain ⟨k', rfl, hk⟩ := h; exact (ih i (hk i) hr : (k' i).run l i = (k i).run l i)
  | test q y n ihy ihn =>
    intro t' i h hr
    obtain ⟨y', n', rfl, hy, hn⟩ := h
    simp only [Tr.run] at hr ⊢
    cases hg : l[i]? with
    | none => rw [hg] at hr; exact ihn hn hr
    | some t =>
      rw [hg] at hr
      simp only at hr ⊢
      split
      · rename_i hq; rw [if_pos hq] at hr; exact ihy t (hy t) hr
      · rename_i hq; rw [if_neg hq] at hr; exact ihn hn hr
theorem le_more {word : Str} {one one' : Tr α} (h : one.Le one') : ∀ (k : Nat) (acc : List α), (more word one k acc).Le (more word one' (k + 1) acc)
  | 0, acc => trivial
  | k + 1, acc => by
    simp only [more]
    refine (Le.refl _).bind fun a => ?_
    cases a with
    | none => exact Le.refl _
    | some _ => exact h.bind fun x => le_more h k _
theorem le_several {k : Nat} {word : Str} {one one' : Tr α} {join : List α → α} (h : one.Le one') : (several k word one join).Le (several (k + 1) word one' join) :=
  h.bind fun x => (le_more h k [x]).bind fun _ => Le.refl _
theorem le_bounded {t t' : Tr α} {size depth : α → Nat} (h : t.Le t') : (bounded t size depth).Le (bounded t' size depth) :=
  ⟨_, rfl, fun _ => h.bind fun _ => Le.refl _⟩
end Tr
namespace North
open Tr
theorem le_atom : ∀ k : Nat, (atom k).Le (atom (k + 1))
  | 0 => by rw [atom]; trivial
  | k + 1 => by
    rw [atom, atom]
    refine (Le.refl _).bind fun a => ?_
    rcases a with _ | (_ | _ | _ | _ | a)
    · exact Le.refl _
    · exact (le_atom k).bind fun _ => Le.refl _
    · exact (le_several (le_several (le_atom k))).bind fun _ => Le.refl _
    · exact Le.refl _
    · exact Le.refl _
    · exact Le.refl _
theorem le_cond (k : Nat) : (cond k).Le (cond (k + 1)) := le_several (le_several (le_atom k))
theorem le_one : ∀ k : Nat, (one k).Le (one (k + 1))
  | 0 => by rw [one]; trivial
  | k + 1 => by
    rw [one, one]
    refine (Le.refl _).bind fun a => ?_
    rcases a with _ | _ | _ | _ | a
    · exact Le.refl _
    · exact Le.refl _
    · exact Le.refl _
    · exact (le_several (le_several (le_one k))).bind fun _ => Le.refl _
    · exact Le.refl _
theorem le_start (k : Nat) : (start k).Le (start (k + 1)) := le_several (le_several (le_one k))
theorem le_part (k : Nat) (w : Str) (o : Int) : (part k w o).Le (part (k + 1) w o) := by
  unfold part
  refine (Le.refl _).bind fun a => ?_
  cases a with
  | none => exact Le.refl _
  | some _ => exact le_bounded (le_start k)
theorem le_except : ∀ (k : Nat) (acc : List Str), (except k acc).Le (except (k + 1) acc)
  | 0, acc => trivial
  | k + 1, acc => by
    rw [except, except]
    refine ⟨_, rfl, fun i => (Le.refl _).bind fun s => ?_⟩
    split
    · exact Le.refl _
    · split
      · exact Le.refl _
      · refine (Le.refl _).bind fun a => ?_
        cases a with
        | none => exact Le.refl _
        | some _ => exact le_except k _
theorem le_provision (k : Nat) : (provision k).Le (provision (k + 1)) := by
  unfold provision
  refine (Le.refl _).bind fun r => (Le.refl _).bind fun id => (Le.refl _).bind fun _ => (Le.refl _).bind fun d => (Le.refl _).bind fun ksv => ?_
  refine Le.bind ?_ fun w => Le.bind ?_ fun ex => (le_part k _ _).bind fun b => (le_part k _ _).bind fun e => (le_part k _ _).bind fun a => Le.refl _
  · refine (Le.refl _).bind fun a => ?_
    cases a with
    | none => exact Le.refl _
    | some _ => exact le_bounded (le_cond k)
  · refine (Le.refl _).bind fun a => ?_
    cases a with
    | none => exact Le.refl _
    | some _ => exact le_except k []
theorem provision_no_out {l : List Tok} {k : Nat} (h : l.length < k) : (provision k).run l 0 ≠ .out := by
  intro e
  have := goes_provision l k h
  unfold Goes at this
  rw [e] at this
  exact this
theorem fuel_provision {l : List Tok} : ∀ {k : Nat}, l.length < k → (provision k).run l 0 = (provision (l.length + 1)).run l 0 := by
  intro k h
  obtain ⟨d, rfl⟩ : ∃ d, k = l.length + 1 + d := ⟨k - (l.length + 1), by omega⟩
  clear h
  induction d with
  | zero => rfl
  | succ d ih =>
    rw [← ih, ← Nat.add_assoc]
    exact (le_provision _).run (provision_no_out (by omega))
theorem fuel_cond {l : List Tok} {i d k : Nat} (h : (cond k).run l i ≠ .out) : (cond (k + d)).run l i = (cond k).run l i := by
  induction d with
  | zero => rfl
  | succ d ih =>
    rw [← ih, ← Nat.add_assoc]
    exact (le_cond _).run (by rw [ih]; exact h)
/-- What is read, at whatever fuel is enough. -/
theorem parse_at {l : List Tok} {k : Nat} (h : l.length < k) : parse l = match (provision k).run l 0 with
    | .ok p i => if i < l.length then .err 5 i else .ok p i
    | r => r := by rw [fuel_provision h]; rfl
end North
end PD
namespace PD
namespace Tr
variable {α β : Type}
/-- A reader's own errors are never ErrSyntax. -/
def N5 (t : Tr α) : Prop := ∀ i, t.Sat (fun _ => True) (fun e _ _ => e ≠ 5) (fun _ _ => True) i
theorem N5.bind {t : Tr α} {f : α → Tr β} (h : N5 t) (hf : ∀ a, N5 (f a)) : N5 (t.bind f) := fun i => Sat.bind (h i) fun a i' _ => hf a i'
theorem n5_ret (a : α) : N5 (.ret a : Tr α) := fun _ => trivial
theorem n5_bad : N5 (.bad : Tr α) := fun _ => trivial
theorem n5_out : N5 (.out : Tr α) := fun _ => trivial
theorem n5_raise {e j : Nat} (h : e ≠ 5) : N5 (.raise e j : Tr α) := fun _ => h
theorem n5_here {k : Nat → Tr α} (h : ∀ i, N5 (k i)) : N5 (.here k) := fun i => h i i
theorem n5_test {q : Tok → Bool} {y : Tok → Tr α} {n : Tr α} (hy : ∀ t, N5 (y t)) (hn : N5 n) : N5 (.test q y n) := fun i => ⟨fun t _ _ => hy t (i + 1), hn i⟩
theorem n5_take (ws : List Str) : N5 (take ws) := n5_test (fun _ => n5_ret _) (n5_ret _)
theorem n5_must (ws : List Str) : N5 (must ws) := (n5_take ws).bind fun a => by
  cases a with
  | none => exact n5_bad
  | some _ => exact n5_ret _
theorem n5_name (k : Str → Bool) : N5 (name k) := n5_test (fun _ => n5_ret _) n5_bad
theorem n5_number (m : Nat) : N5 (number m) := n5_test (fun t => by
  split
  · exact n5_here fun _ => n5_raise (by decide)
  · exact n5_ret _) n5_bad
theorem n5_more {word : Str} {one : Tr α} (h : N5 one) : ∀ (k : Nat) (acc : List α), N5 (more word one k acc)
  | 0, acc => n5_out
  | k + 1, acc => by
    rw [more]
    refine (n5_take _).bind fun a => ?_
    cases a with
    | none => exact n5_ret _
    | some _ => exact h.bind fun x => n5_more h k _
theorem n5_several {k : Nat} {word : Str} {one : Tr α} {join : List α → α} (h : N5 one) : N5 (several k word one join) := h.bind fun x => (n5_more h k [x]).bind fun _ => n5_ret _
theorem n5_bounded {t : Tr α} {size depth : α → Nat} (h : N5 t) : N5 (bounded t size depth) := n5_here fun _ => h.bind fun x => by
  split
  · exact n5_raise (by decide)
  · exact n5_ret _
end Tr
namespace North
open Tr
theorem n5_atom : ∀ k : Nat, N5 (atom k)
  | 0 => by rw [atom]; exact n5_out
  | k + 1 => by
    rw [atom]
    refine (n5_take _).bind fun a => ?_
    rcases a with _ | (_ | _ | _ | _ | a)
    · exact (n5_name _).bind fun s => (n5_take _).bind fun c => by cases c with
        | none => exact n5_ret _
        | some _ => exact (n5_number _).bind fun _ => n5_ret _
    · exact (n5_atom k).bind fun _ => n5_ret _
    · exact (n5_several (n5_several (n5_atom k))).bind fun _ => (n5_must _).bind fun _ => n5_ret _
    · exact n5_ret _
    · exact n5_ret _
    · exact (n5_name _).bind fun s => (n5_take _).bind fun c => by cases c with
        | none => exact n5_ret _
        | some _ => exact (n5_number _).bind fun _ => n5_ret _
theorem n5_one : ∀ k : Nat, N5 (one k)
  | 0 => by rw [one]; exact n5_out
  | k + 1 => by
    rw [one]
    refine (n5_must _).bind fun a => ?_
    rcases a with _ | _ | _ | _ | a
    · exact n5_ret _
    · exact n5_ret _
    · exact (n5_number _).bind fun _ => n5_ret _
    · exact (n5_several (n5_several (n5_one k))).bind fun _ => (n5_must _).bind fun _ => n5_ret _
    · exact (n5_name _).bind fun _ => n5_ret _
theorem n5_part (k : Nat) (w : Str) (o : Int) : N5 (part k w o) := (n5_take _).bind fun a => by
  cases a with
  | none => exact n5_ret _
  | some _ => exact n5_bounded (n5_several (n5_several (n5_one k)))
theorem n5_except : ∀ (k : Nat) (acc : List Str), N5 (except k acc)
  | 0, acc => n5_out
  | k + 1, acc => by
    rw [except]
    refine n5_here fun i => (n5_name _).bind fun s => ?_
    split
    · exact n5_raise (by decide)
    · split
      · exact n5_raise (by decide)
      · refine (n5_take _).bind fun a => ?_
        cases a with
        | none => exact n5_ret _
        | some _ => exact n5_except k _
theorem n5_provision (k : Nat) : N5 (provision k) := by
  unfold provision
  refine (n5_must _).bind fun r => (n5_name _).bind fun id => (n5_must _).bind fun _ => (n5_must _).bind fun d => ?_
  refine N5.bind ?_ fun ksv => N5.bind ?_ fun w => N5.bind ?_ fun ex => (n5_part k _ _).bind fun b => (n5_part k _ _).bind fun e => (n5_part k _ _).bind fun a => (n5_must _).bind fun _ => n5_ret _
  · split
    · exact (n5_name _).bind fun _ => n5_ret _
    · exact (n5_name _).bind fun _ => (n5_must _).bind fun _ => (n5_number _).bind fun _ => n5_ret _
  · refine (n5_take _).bind fun a => ?_
    cases a with
    | none => exact n5_ret _
    | some _ => exact n5_bounded (n5_several (n5_several (n5_atom k)))
  · refine (n5_take _).bind fun a => ?_
    cases a with
    | none => exact n5_ret _
    | some _ => exact n5_except k []
/-- ErrSyntax lies at a token; without it and what follows there is a provision, or ErrEnd; and whatever follows it, the error stays. -/
theorem parse_five {l : List Tok} {j : Nat} (h : parse l = .err 5 j) : j < l.length ∧
    (∀ l' : List Tok, (∀ k, k < j → l[k]? = l'[k]?) → l'.length = j → (∃ p, parse l' = .ok p j) ∨ parse l' = .err 6 j) ∧
    (∀ l' : List Tok, (∀ k, k ≤ j → l[k]? = l'[k]?) → parse l' = .err 5 j) := by
  cases hr : (provision (l.length + 1)).run l 0 with
  | ok p i =>
    have h0 := h
    unfold parse at h
    rw [hr] at h
    simp only at h
    split at h
    · rename_i hlt
      simp only [PR.err.injEq, true_and] at h
      subst h
      refine ⟨hlt, fun l' hl hn => .inl ⟨p, ?_⟩, fun l' hl => ?_⟩
      · rw [parse_at (k := max l.length l'.length + 1) (by omega)]
        have hr' : (provision (max l.length l'.length + 1)).run l 0 = .ok p i := by rw [fuel_provision (by omega), hr]
        rw [run_ok_cut l l' _ 0 p i hr' hl (List.getElem?_eq_none (by omega)) (Nat.zero_le _)]
        simp only
        rw [if_neg (by omega)]
      · rw [parse_at (k := max l.length l'.length + 1) (by omega)]
        have hr' : (provision (max l.length l'.length + 1)).run l 0 = .ok p i := by rw [fuel_provision (by omega), hr]
        rw [run_ok_agree l l' _ 0 p i hr' hl (Nat.zero_le _)]
        have hlt' : i < l'.length := by
          have := hl i (Nat.le_refl _)
          rw [List.getElem?_eq_getElem hlt] at this
          exact (List.getElem?_eq_some_iff.1 this.symm).1
        simp only
        rw [if_pos hlt']
    · cases h
  | err e j' =>
    have h0 := h
    unfold parse at h
    rw [hr] at h
    simp only [PR.err.injEq] at h
    obtain ⟨rfl, rfl⟩ := h
    have hge := run_bad_ge l _ 0 j' (n5_provision (l.length + 1) 0) (fun _ _ _ h => h) hr
    refine ⟨hge.2, fun l' hl hn => .inr ?_, fun l' hl => ?_⟩
    · have hr' : (provision (max l.length l'.length + 1)).run l 0 = .err 5 j' := by rw [fuel_provision (by omega), hr]
      rw [parse_at (k := max l.length l'.length + 1) (by omega), (run_bad l _ 0 j' (n5_provision _ 0) (fun _ _ _ h => h) hr').2 l' hl hn]
    · have hr' : (provision (max l.length l'.length + 1)).run l 0 = .err 5 j' := by rw [fuel_provision (by omega), hr]
      rw [parse_at (k := max l.length l'.length + 1) (by omega), (run_bad l _ 0 j' (n5_provision _ 0) (fun _ _ _ h => h) hr').1 l' hl]
  | out => exact absurd hr (provision_no_out (by omega))
end North
namespace Lex
theorem lex_scan {s : List UInt8} (h20 : s.length ≤ 20000) (h : (lex s).2.1 = 0) : scan s.length 0 s = ((lex s).1, none) ∧ (lex s).1.length ≤ 5000 ∧ (lex s).2.2 = 0 := by
  unfold lex at h ⊢
  rw [if_neg (by omega)] at h ⊢
  simp only at h ⊢
  split at h
  · cases h
  · rename_i hn
    split at h
    · rename_i e p hq
      exact absurd (((scan_pos s.length 0 s).2 e p hq).1) (by simp only at h; omega)
    · rename_i hq
      simp only
      exact ⟨Prod.ext rfl hq, by simpa using hn, trivial⟩
theorem lex_back {s : List UInt8} {l : List (Tok × Nat)} (h20 : s.length ≤ 20000) (h : scan s.length 0 s = (l, none)) (hl : l.length ≤ 5000) : lex s = (l, 0, 0) := by
  have h5 : l[5000]? = none := List.getElem?_eq_none hl
  simp only [lex, if_neg (show ¬ s.length > 20000 by omega), h, h5]
/-- The places grow. -/
theorem pos_one {s : List UInt8} {l1 l2 : List (Tok × Nat)} {t : Tok} {p : Nat} (h : (scan s.length 0 s).1 = l1 ++ (t, p) :: l2) : ∀ (i : Nat) (t' : Tok), (scan s.length 0 s).1[i]? = some (t', p) → i = l1.length := by
  intro i t' hi
  obtain ⟨_, h2, h3, _, h5, _, h7, _⟩ := scan_at s.length 0 s l1 l2 t p (Nat.le_refl _) h
  rw [h] at hi
  rcases Nat.lt_trichotomy i l1.length with hlt | heq | hgt
  · rw [List.getElem?_append_left hlt] at hi
    have h5 := h5 p (by omega)
    have := (scan_pos p 0 (s.take (p - 0))).1 (t', p) (by rw [h5]; exact List.mem_of_getElem? hi)
    simp only [List.length_take] at this
    omega
  · exact heq
  · rw [List.getElem?_append_right (by omega)] at hi
    obtain ⟨k, hk⟩ : ∃ k, i - l1.length = k + 1 := ⟨i - l1.length - 1, by omega⟩
    rw [hk, List.getElem?_cons_succ] at hi
    have h7 := h7 s.length (Nat.le_refl _)
    have := (scan_pos s.length (p + t.text.length) (s.drop (p - 0 + t.text.length))).1 (t', p) (by rw [h7]; exact List.mem_of_getElem? hi)
    simp only at this
    omega
end Lex
namespace North
theorem first_error {s : Str} {at_ : Int} (h20 : s.length ≤ 3000) (hr : read s = .error (5, at_)) (hl : (Lex.lex s).2.1 = 0) :
    ∃ (j : Nat) (t : Tok) (p : Nat), (Lex.lex s).1[j]? = some (t, p) ∧ at_ = p ∧ p + t.text.length ≤ s.length ∧ (∀ (i : Nat) (t' : Tok), (Lex.lex s).1[i]? = some (t', p) → i = j) ∧
      ((∃ q, read (s.take p) = .ok q) ∨ read (s.take p) = .error (6, (p : Int))) ∧
      (∀ o : Str, o.length ≤ 3000 → (Lex.lex (s.take (p + t.text.length) ++ 10 :: o)).2.1 = 0 → read (s.take (p + t.text.length) ++ 10 :: o) = .error (5, (p : Int))) := by
  obtain ⟨hs, h5, _⟩ := Lex.lex_scan (by omega) hl
  generalize hL : (Lex.lex s).1 = L at *
  have hp : ∃ j, parse (L.map (·.1)) = .err 5 j ∧ at_ = (posAt L s.length j : Int) := by
    unfold read at hr
    rw [if_pos hl, hL] at hr
    split at hr
    · cases hr
    · rename_i e j hp
      simp only [Except.error.injEq, Prod.mk.injEq] at hr
      obtain ⟨rfl, rfl⟩ := hr
      exact ⟨j, hp, rfl⟩
    · simp at hr
  obtain ⟨j, hp, rfl⟩ := hp
  obtain ⟨hj, hcut, hon⟩ := parse_five hp
  rw [List.length_map] at hj
  obtain ⟨t, p, ht⟩ : ∃ t p, L[j]? = some (t, p) := ⟨L[j].1, L[j].2, List.getElem?_eq_getElem hj⟩
  have hsplit : L = L.take j ++ (t, p) :: L.drop (j + 1) := by
    have h1 := (List.getElem?_eq_some_iff.1 ht).2
    rw [← h1, List.getElem_cons_drop, List.take_append_drop]
  have hscan : (Lex.scan s.length 0 s).1 = L.take j ++ (t, p) :: L.drop (j + 1) := by rw [hs]; exact hsplit
  obtain ⟨_, a2, a3, _, a5, a6, _, _⟩ := Lex.scan_at s.length 0 s _ _ t p (Nat.le_refl _) hscan
  simp only [Nat.sub_zero] at a2 a5 a6
  have hpos : posAt L s.length j = p := by rw [posAt, ht]
  have hjl : (L.take j).length = j := by rw [List.length_take]; omega
  refine ⟨j, t, p, ht, by rw [hpos], a2, ?_, ?_, ?_⟩
  · intro i t' hi
    have := Lex.pos_one hscan i t' (by rw [hs]; exact hi)
    rw [this, hjl]
  · have hlx : Lex.lex (s.take p) = (L.take j, 0, 0) := Lex.lex_back (by rw [List.length_take]; omega) (by rw [List.length_take]; exact a5 _ (by omega)) (by omega)
    have h1 := hcut ((L.take j).map (·.1)) (fun k hk => by rw [List.getElem?_map, List.getElem?_map, List.getElem?_take_of_lt hk]) (by rw [List.length_map, hjl])
    unfold read
    rw [hlx]
    simp only [if_true]
    rcases h1 with ⟨q, h1⟩ | h1
    · left
      exact ⟨q, by rw [h1]⟩
    · right
      rw [h1]
      simp only [posAt]
      rw [List.getElem?_eq_none (by omega)]
      simp only [List.length_take]
      rw [Nat.min_eq_left (by omega)]
  · intro o ho hz
    have hlen : (s.take (p + t.text.length) ++ 10 :: o).length ≤ 20000 := by simp only [List.length_append, List.length_take, List.length_cons]; omega
    obtain ⟨c1, c2, _⟩ := Lex.lex_scan hlen hz
    have happ := Lex.scan_app (d := 10) (by decide) (p + t.text.length) (s.take (p + t.text.length) ++ 10 :: o).length o.length 0 (s.take (p + t.text.length)) o (.inl rfl) (by rw [List.length_take]; omega) (by simp only [List.length_append, List.length_cons]; omega) (Nat.le_refl _)
    rw [a6 (p + t.text.length) (Nat.le_refl _)] at happ
    simp only at happ
    rw [c1] at happ
    have hc := congrArg Prod.fst happ
    simp only at hc
    unfold read
    rw [if_pos hz]
    generalize (Lex.lex (s.take (p + t.text.length) ++ 10 :: o)).1 = M at *
    have hM : M[j]? = some (t, p) := by
      rw [hc, List.append_assoc, List.getElem?_append_right (by omega), hjl, Nat.sub_self]
      rfl
    have h1 := hon (M.map (·.1)) (fun k hk => by
      rw [List.getElem?_map, List.getElem?_map]
      rcases Nat.lt_or_ge k j with hlt | hge
      · rw [hc, List.append_assoc, List.getElem?_append_left (by omega), List.getElem?_take_of_lt hlt]
      · obtain rfl : k = j := by omega
        rw [hM, ht])
    rw [h1]
    simp only [posAt, hM]
end North
end PD
