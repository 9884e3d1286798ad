/- More fuel changes nothing. -/
import Derived.Test.YtlhgflnmdmifaaaDoorPlain
namespace PD
namespace Tr
variable {α β : Type}
/-- t is t', but may run out of fuel earlier. -/
def Le : Tr α → Tr α → Prop
  | .out, _ => True
  | .ret a, t' => t' = .ret a
  | .bad, t' => t' = .bad
  | .raise e j, t' => t' = .raise e j
  | .here k, t' => ∃ k', t' = .here k' ∧ ∀ i, (k i).Le (k' i)
  | .test q y n, t' => ∃ y' n', t' = .test q y' n' ∧ (∀ t, (y t).Le (y' t)) ∧ n.Le n'
theorem Le.refl (t : Tr α) : t.Le t := by
  induction t with
  | ret a => rfl
  | bad => rfl
  | raise e j => rfl
  | out => trivial
  | here k ih => exact ⟨k, rfl, fun i => ih i⟩
  | test q y n ihy ihn => exact ⟨y, n, rfl, fun t => ihy t, ihn⟩
theorem Le.bind {t : Tr α} : ∀ {t' : Tr α} {f f' : α → Tr β}, t.Le t' → (∀ a, (f a).Le (f' a)) → (t.bind f).Le (t'.bind f') := by
  induction t with
  | ret a => intro t' f f' h hf; cases h; exact hf a
  | bad => intro t' f f' h hf; cases h; exact rfl
  | raise e j => intro t' f f' h hf; cases h; exact rfl
  | out => intro t' f f' h hf; trivial
  | here k ih => intro t' f f' h hf; obtain ⟨k', rfl, hk⟩ := h; exact ⟨_, rfl, fun i => ih i (hk i) hf⟩
  | test q y n ihy ihn => intro t' f f' h hf; obtain ⟨y', n', rfl, hy, hn⟩ := h; exact ⟨_, _, rfl, fun t => ihy t (hy t) hf, ihn hn hf⟩
theorem Le.run {l : List Tok} {t : Tr α} : ∀ {t' : Tr α} {i : Nat}, t.Le t' → t.run l i ≠ .out → t'.run l i = t.run l i := by
  induction t with
  | ret a => intro t' i h _; cases h; rfl
  | bad => intro t' i h _; cases h; rfl
  | raise e j => intro t' i h _; cases h; rfl
  | out => intro t' i _ h; exact absurd rfl h
  | here k ih => intro t' i h hr; obtain ⟨k', rfl, hk⟩ := h; exact (ih i (hk i) hr : (k' i).run l i = (k i).run l i)
  | test q y n ihy ihn =>
    intro t' i h hr
    obtain ⟨y', n', rfl, hy, hn⟩ := h
    simp only [Tr.run] at hr ⊢
    cases hg : l[i]? with
    | none => rw [hg] at hr; exact ihn hn hr
    | some t =>
      rw [hg] at hr
      simp only at hr ⊢
      split
      · rename_i hq; rw [if_pos hq] at hr; exact ihy t (hy t) hr
      · rename_i hq; rw [if_neg hq] at hr; exact ihn hn hr
theorem le_more {word : Str} {one one' : Tr α} (h : one.Le one') : ∀ (k : Nat) (acc : List α), (more word one k acc).Le (more word one' (k + 1) acc)
  | 0, acc => trivial
  | k + 1, acc => by
    simp only [more]
    refine (Le.refl _).bind fun a => ?_
    cases a with
    | none => exact Le.refl _
    | some _ => exact h.bind fun x => le_more h k _
theorem le_several {k : Nat} {word : Str} {one one' : Tr α} {join : List α → α} (h : one.Le one') : (several k word one join).Le (several (k + 1) word one' join) :=
  h.bind fun x => (le_more h k [x]).bind fun l => Le.refl _
theorem le_bounded {t t' : Tr α} {size depth : α → Nat} (h : t.Le t') : (bounded t size depth).Le (bounded t' size depth) :=
  ⟨_, rfl, fun _ => h.bind fun _ => Le.refl _⟩
end Tr
namespace North
open Tr
theorem le_atom : ∀ k : Nat, (atom k).Le (atom (k + 1))
  | 0 => by rw [atom]; trivial
  | k + 1 => by
    rw [atom, atom]
    refine (Le.refl _).bind fun a => ?_
    rcases a with _ | (_ | _ | _ | _ | a)
    · exact Le.refl _
    · exact (le_atom k).bind fun _ => Le.refl _
    · exact (le_several (le_several (le_atom k))).bind fun _ => Le.refl _
    · exact Le.refl _
    · exact Le.refl _
    · exact Le.refl _
theorem le_cond (k : Nat) : (cond k).Le (cond (k + 1)) := le_several (le_several (le_atom k))
theorem le_one : ∀ k : Nat, (one k).Le (one (k + 1))
  | 0 => by rw [one]; trivial
  | k + 1 => by
    rw [one, one]
    refine (Le.refl _).bind fun a => ?_
    rcases a with _ | _ | _ | _ | a
    · exact Le.refl _
    · exact Le.refl _
    · exact Le.refl _
    · exact (le_several (le_several (le_one k))).bind fun _ => Le.refl _
    · exact Le.refl _
theorem le_start (k : Nat) : (start k).Le (start (k + 1)) := le_several (le_several (le_one k))
theorem le_part (k : Nat) (w : Str) (o : Int) : (part k w o).Le (part (k + 1) w o) := by
  unfold part
  refine (Le.refl _).bind fun a => ?_
  cases a with
  | none => exact Le.refl _
  | some _ => exact le_bounded (le_start k)
theorem le_except : ∀ (k : Nat) (acc : List Str), (except k acc).Le (except (k + 1) acc)
  | 0, acc => trivial
  | k + 1, acc => by
    rw [except, except]
    refine ⟨_, rfl, fun i => (Le.refl _).bind fun s => ?_⟩
    split
    · exact Le.refl _
    · split
      · exact Le.refl _
      · refine (Le.refl _).bind fun a => ?_
        cases a with
        | none => exact Le.refl _
        | some _ => exact le_except k _
theorem le_provision (k : Nat) : (provision k).Le (provision (k + 1)) := by
  unfold provision
  refine (Le.refl _).bind fun r => (Le.refl _).bind fun id => (Le.refl _).bind fun _ => (Le.refl _).bind fun d => (Le.refl _).bind fun ksv => ?_
  refine Le.bind ?_ fun w => Le.bind ?_ fun ex => (le_part k _ _).bind fun b => (le_part k _ _).bind fun e => (le_part k _ _).bind fun a => Le.refl _
  · refine (Le.refl _).bind fun a => ?_
    cases a with
    | none => exact Le.refl _
    | some _ => exact le_bounded (le_cond k)
  · refine (Le.refl _).bind fun a => ?_
    cases a with
    | none => exact Le.refl _
    | some _ => exact le_except k []
theorem provision_no_out {l : List Tok} {k : Nat} (h : l.length < k) : (provision k).run l 0 ≠ .out := by
  intro e
  have := goes_provision l k h
  unfold Goes at this
  rw [e] at this
  exact this
theorem fuel_provision {l : List Tok} : ∀ {k : Nat}, l.length < k → (provision k).run l 0 = (provision (l.length + 1)).run l 0 := by
  intro k h
  obtain ⟨d, rfl⟩ : ∃ d, k = l.length + 1 + d := ⟨k - (l.length + 1), by omega⟩
  clear h
  induction d with
  | zero => rfl
  | succ d ih =>
    rw [← ih, ← Nat.add_assoc]
    exact (le_provision _).run (provision_no_out (by omega))
theorem fuel_cond {l : List Tok} {i d k : Nat} (h : (cond k).run l i ≠ .out) : (cond (k + d)).run l i = (cond k).run l i := by
  induction d with
  | zero => rfl
  | succ d ih =>
    rw [← ih, ← Nat.add_assoc]
    exact (le_cond _).run (by rw [ih]; exact h)
/-- What is read, at whatever fuel is enough. -/
theorem parse_at {l : List Tok} {k : Nat} (h : l.length < k) : parse l = match (provision k).run l 0 with
    | .ok p i => if i < l.length then .err 5 i else .ok p i
    | r => r := by rw [fuel_provision h]; rfl
end North
end PD
