/- Runs over what is left, without places, and the tokens of joined texts, in plain Lean. -/
import Derived.Test.YtlhgflnmdmifaaaDoorP3
import Derived.Test.YtlhgflnmdmifaaaDoorP2
namespace PD
/-- What a reader comes to, without places. -/
inductive SR (α : Type) where
  | ok (a : α) (r : List Tok)
  | err (e : Nat)
  | out
def SR.bind {α β : Type} : SR α → (α → List Tok → SR β) → SR β
  | .ok a r, f => f a r
  | .err e, _ => .err e
  | .out, _ => .out
/-- The same outcome, with places and without. -/
def SR.Of {α : Type} (l : List Tok) : PR α → SR α → Prop
  | .ok a i, s => s = .ok a (l.drop i)
  | .err e _, s => s = .err e
  | .out, s => s = .out
namespace Tr
variable {α β : Type}
def runs : Tr α → List Tok → SR α
  | .ret a, l => .ok a l
  | .bad, [] => .err 6
  | .bad, _ :: _ => .err 5
  | .raise e _, _ => .err e
  | .out, _ => .out
  | .here k, l => (k 0).runs l
  | .test _ _ n, [] => n.runs []
  | .test q y n, t :: r => if q t = true then (y t).runs r else n.runs (t :: r)
theorem runs_bind (t : Tr α) (f : α → Tr β) : ∀ l, (t.bind f).runs l = (t.runs l).bind fun a r => (f a).runs r := by
  induction t with
  | ret a => intro l; simp [bind, runs, SR.bind]
  | bad => intro l; cases l <;> simp [bind, runs, SR.bind]
  | raise e j => intro l; simp [bind, runs, SR.bind]
  | out => intro l; simp [bind, runs, SR.bind]
  | here k ih => intro l; simp only [bind, runs]; exact ih 0 l
  | test q y n ihy ihn =>
    intro l
    cases l with
    | nil => simp only [bind, runs]; exact ihn []
    | cons t r =>
      simp only [bind, runs]
      split
      · exact ihy t r
      · exact ihn _
/-- t is t' but for the places of its own errors. -/
def Sim : Tr α → Tr α → Prop
  | .ret a, t' => t' = .ret a
  | .bad, t' => t' = .bad
  | .raise e _, t' => ∃ j, t' = .raise e j
  | .out, t' => t' = .out
  | .here k, t' => ∃ k', t' = .here k' ∧ ∀ i i', (k i).Sim (k' i')
  | .test q y n, t' => ∃ y' n', t' = .test q y' n' ∧ (∀ t, (y t).Sim (y' t)) ∧ n.Sim n'
theorem Sim.bind {t : Tr α} : ∀ {t' : Tr α} {f f' : α → Tr β}, t.Sim t' → (∀ a, (f a).Sim (f' a)) → (t.bind f).Sim (t'.bind f') := by
  induction t with
  | ret a => intro t' f f' h hf; cases h; exact hf a
  | bad => intro t' f f' h hf; cases h; exact rfl
  | raise e j => intro t' f f' h hf; obtain ⟨j', rfl⟩ := h; exact ⟨j', rfl⟩
  | out => intro t' f f' h hf; cases h; exact rfl
  | here k ih => intro t' f f' h hf; obtain ⟨k', rfl, hk⟩ := h; exact ⟨_, rfl, fun i i' => ih i (hk i i') hf⟩
  | test q y n ihy ihn => intro t' f f' h hf; obtain ⟨y', n', rfl, hy, hn⟩ := h; exact ⟨_, _, rfl, fun t => ihy t (hy t) hf, ihn hn hf⟩
theorem Sim.runs {l : List Tok} {t : Tr α} : ∀ {t' : Tr α} {i : Nat}, t.Sim t' → SR.Of l (t.run l i) (t'.runs (l.drop i)) := by
  induction t with
  | ret a => intro t' i h; cases h; simp [run, Tr.runs, SR.Of]
  | bad =>
    intro t' i h
    cases h
    simp only [run, badAt, SR.Of]
    by_cases hi : i < l.length
    · rw [List.drop_eq_getElem_cons hi, if_pos hi]; rfl
    · rw [List.drop_eq_nil_of_le (by omega), if_neg hi]; rfl
  | raise e j => intro t' i h; obtain ⟨j', rfl⟩ := h; simp [run, Tr.runs, SR.Of]
  | out => intro t' i h; cases h; simp [run, Tr.runs, SR.Of]
  | here k ih => intro t' i h; obtain ⟨k', rfl, hk⟩ := h; simp only [run, Tr.runs]; exact ih i (hk i 0)
  | test q y n ihy ihn =>
    intro t' i h
    obtain ⟨y', n', rfl, hy, hn⟩ := h
    simp only [run]
    by_cases hi : i < l.length
    · rw [List.getElem?_eq_getElem hi]
      have hd := List.drop_eq_getElem_cons hi
      simp only
      rw [hd]
      simp only [Tr.runs]
      split
      · exact ihy _ (hy _)
      · rw [← hd]; exact ihn hn
    · rw [List.getElem?_eq_none (by omega)]
      have hd : l.drop i = [] := List.drop_eq_nil_of_le (by omega)
      simp only
      rw [hd]
      simp only [Tr.runs]
      rw [← hd]
      exact ihn hn
theorem Sim.ok {l : List Tok} {t : Tr α} (h : t.Sim t) {i : Nat} {a : α} {r : List Tok} (e : t.runs (l.drop i) = .ok a r) : ∃ i', t.run l i = .ok a i' ∧ r = l.drop i' := by
  have := h.runs (l := l) (i := i)
  rw [e] at this
  cases hr : t.run l i with
  | ok b i' => rw [hr] at this; simp only [SR.Of, SR.ok.injEq] at this; obtain ⟨rfl, rfl⟩ := this; exact ⟨i', rfl, rfl⟩
  | err e j => rw [hr] at this; cases this
  | out => rw [hr] at this; cases this
theorem Sim.of_ok {l : List Tok} {t : Tr α} (h : t.Sim t) {i : Nat} {a : α} {i' : Nat} (e : t.run l i = .ok a i') : t.runs (l.drop i) = .ok a (l.drop i') := by
  have := h.runs (l := l) (i := i)
  rw [e] at this
  exact this
/-- What is left is an end of what was there. -/
theorem runs_suffix (t : Tr α) : ∀ (l : List Tok) (a : α) (r : List Tok), t.runs l = .ok a r → ∃ u, l = u ++ r := by
  induction t with
  | ret a => intro l b r h; simp only [runs, SR.ok.injEq] at h; exact ⟨[], by simp [h.2]⟩
  | bad => intro l b r h; cases l <;> simp [runs] at h
  | raise e j => intro l b r h; simp [runs] at h
  | out => intro l b r h; simp [runs] at h
  | here k ih => intro l b r h; simp only [runs] at h; exact ih 0 l b r h
  | test q y n ihy ihn =>
    intro l b r h
    cases l with
    | nil => simp only [runs] at h; exact ihn _ b r h
    | cons t l =>
      simp only [runs] at h
      split at h
      · obtain ⟨u, rfl⟩ := ihy t l b r h; exact ⟨t :: u, rfl⟩
      · exact ihn _ b r h
/-- A run looks at the first token that it leaves, and at none behind it. -/
theorem runs_agree (t : Tr α) : ∀ (u : List Tok) (h : Tok) (r r' : List Tok) (a : α), t.runs (u ++ h :: r) = .ok a (h :: r) → t.runs (u ++ h :: r') = .ok a (h :: r') := by
  induction t with
  | ret a =>
    intro u h r r' b e
    simp only [runs, SR.ok.injEq] at e ⊢
    have : u = [] := by
      have := congrArg List.length e.2
      simp only [List.length_append, List.length_cons] at this
      exact List.eq_nil_of_length_eq_zero (by omega)
    subst this
    exact ⟨e.1, rfl⟩
  | bad => intro u h r r' b e; cases u <;> simp [runs] at e
  | raise e j => intro u h r r' b e; simp [runs] at e
  | out => intro u h r r' b e; simp [runs] at e
  | here k ih => intro u h r r' b e; simp only [runs] at e ⊢; exact ih 0 u h r r' b e
  | test q y n ihy ihn =>
    intro u h r r' b e
    cases u with
    | nil =>
      simp only [List.nil_append, runs] at e ⊢
      split at e
      · obtain ⟨u, hu⟩ := runs_suffix _ _ _ _ e
        have := congrArg List.length hu
        simp only [List.length_append, List.length_cons] at this
        omega
      · rename_i hq; rw [if_neg hq]; exact ihn [] h r r' b e
    | cons t u =>
      simp only [List.cons_append, runs] at e ⊢
      split at e
      · rename_i hq; rw [if_pos hq]; exact ihy t u h r r' b e
      · rename_i hq; rw [if_neg hq]; exact ihn (t :: u) h r r' b e
/-- A run ends alike where there is nothing behind what it eats. -/
theorem runs_cut (t : Tr α) : ∀ (u r : List Tok) (a : α), t.runs (u ++ r) = .ok a r → t.runs u = .ok a [] := by
  induction t with
  | ret a =>
    intro u r b e
    simp only [runs, SR.ok.injEq] at e ⊢
    have : u = [] := by
      have := congrArg List.length e.2
      simp only [List.length_append] at this
      exact List.eq_nil_of_length_eq_zero (by omega)
    exact ⟨e.1, this⟩
  | bad => intro u r b e; cases h : u ++ r <;> rw [h] at e <;> simp [runs] at e
  | raise e j => intro u r b e; simp [runs] at e
  | out => intro u r b e; simp [runs] at e
  | here k ih => intro u r b e; simp only [runs] at e ⊢; exact ih 0 u r b e
  | test q y n ihy ihn =>
    intro u r b e
    cases u with
    | nil =>
      cases r with
      | nil => exact e
      | cons h r =>
        simp only [List.nil_append, runs] at e ⊢
        split at e
        · obtain ⟨u, hu⟩ := runs_suffix _ _ _ _ e
          have := congrArg List.length hu
          simp only [List.length_append, List.length_cons] at this
          omega
        · exact ihn [] (h :: r) b e
    | cons t u =>
      simp only [List.cons_append, runs] at e ⊢
      split at e
      · rename_i hq; rw [if_pos hq]; exact ihy t u r b e
      · rename_i hq; rw [if_neg hq]; exact ihn (t :: u) r b e
theorem Le.runs {t : Tr α} : ∀ {t' : Tr α} {l : List Tok}, t.Le t' → t.runs l ≠ .out → t'.runs l = t.runs l := by
  induction t with
  | ret a => intro t' i h _; cases h; rfl
  | bad => intro t' i h _; cases h; rfl
  | raise e j => intro t' i h _; cases h; rfl
  | out => intro t' i _ h; exact absurd (by simp [Tr.runs]) h
  | here k ih => intro t' l h hr; obtain ⟨k', rfl, hk⟩ := h; simp only [Tr.runs] at hr ⊢; exact ih 0 (hk 0) hr
  | test q y n ihy ihn =>
    intro t' l h hr
    obtain ⟨y', n', rfl, hy, hn⟩ := h
    cases l with
    | nil => simp only [Tr.runs] at hr ⊢; exact ihn hn hr
    | cons t l =>
      simp only [Tr.runs] at hr ⊢
      split
      · rename_i hq; rw [if_pos hq] at hr; exact ihy t (hy t) hr
      · rename_i hq; rw [if_neg hq] at hr; exact ihn hn hr
/-- Q of every result. -/
def All (Q : α → Prop) : Tr α → Prop
  | .ret a => Q a
  | .here k => ∀ i, (k i).All Q
  | .test _ y n => (∀ t, (y t).All Q) ∧ n.All Q
  | _ => True
theorem All.bind {Q : β → Prop} {t : Tr α} {f : α → Tr β} (hf : ∀ a, (f a).All Q) : (t.bind f).All Q := by
  induction t with
  | ret a => exact hf a
  | bad => trivial
  | raise e j => trivial
  | out => trivial
  | here k ih => exact fun i => ih i
  | test q y n ihy ihn => exact ⟨fun t => ihy t, ihn⟩
theorem All.runs {Q : α → Prop} {t : Tr α} : ∀ {l : List Tok} {a : α} {r : List Tok}, t.All Q → t.runs l = .ok a r → Q a := by
  induction t with
  | ret a => intro l b r h e; simp only [Tr.runs, SR.ok.injEq] at e; exact e.1 ▸ h
  | bad => intro l b r h e; cases l <;> simp [Tr.runs] at e
  | raise e j => intro l b r h e; simp [Tr.runs] at e
  | out => intro l b r h e; simp [Tr.runs] at e
  | here k ih => intro l b r h e; simp only [Tr.runs] at e; exact ih 0 (h 0) e
  | test q y n ihy ihn =>
    intro l b r h e
    cases l with
    | nil => simp only [Tr.runs] at e; exact ihn h.2 e
    | cons t l =>
      simp only [Tr.runs] at e
      split at e
      · exact ihy t (h.1 t) e
      · exact ihn h.2 e

theorem sim_take (ws : List Str) : (take ws).Sim (take ws) := ⟨_, _, rfl, fun _ => rfl, rfl⟩
theorem sim_must (ws : List Str) : (must ws).Sim (must ws) := (sim_take ws).bind fun a => by cases a <;> exact rfl
theorem sim_name (k : Str → Bool) : (name k).Sim (name k) := ⟨_, _, rfl, fun _ => rfl, rfl⟩
theorem sim_number (m : Nat) : (number m).Sim (number m) := ⟨_, _, rfl, fun t => by
  by_cases h : t.n > m
  · simp only [h, if_true]; exact ⟨_, rfl, fun i i' => ⟨_, rfl⟩⟩
  · simp only [h, if_false]; exact rfl, rfl⟩
theorem sim_more {word : Str} {one : Tr α} (h : one.Sim one) : ∀ (k : Nat) (acc : List α), (more word one k acc).Sim (more word one k acc)
  | 0, acc => rfl
  | k + 1, acc => by
    rw [more]
    refine (sim_take _).bind fun a => ?_
    cases a with
    | none => exact rfl
    | some _ => exact h.bind fun x => sim_more h k _
theorem sim_several {k : Nat} {word : Str} {one : Tr α} {join : List α → α} (h : one.Sim one) : (several k word one join).Sim (several k word one join) :=
  h.bind fun x => (sim_more h k [x]).bind fun _ => rfl
theorem sim_bounded {t : Tr α} {size depth : α → Nat} (h : t.Sim t) : (bounded t size depth).Sim (bounded t size depth) :=
  ⟨_, rfl, fun i i' => h.bind fun x => by
    split
    · exact ⟨_, rfl⟩
    · exact rfl⟩
theorem runs_take (ws : List Str) (l : List Tok) : (take ws).runs l = match l with
    | [] => .ok none []
    | t :: r => if (t.kind != 2 && (idx ws t.text).isSome) = true then .ok (idx ws t.text) r else .ok none (t :: r) := by
  cases l with
  | nil => rfl
  | cons t r => simp only [take, runs]
end Tr
namespace North
open Tr
theorem sim_atom : ∀ k : Nat, (atom k).Sim (atom k)
  | 0 => by rw [atom]; exact rfl
  | k + 1 => by
    rw [atom]
    refine (sim_take _).bind fun a => ?_
    rcases a with _ | (_ | _ | _ | _ | a)
    · exact (sim_name _).bind fun s => (sim_take _).bind fun c => by cases c with
        | none => exact rfl
        | some _ => exact (sim_number _).bind fun _ => rfl
    · exact (sim_atom k).bind fun _ => rfl
    · exact (sim_several (sim_several (sim_atom k))).bind fun _ => (sim_must _).bind fun _ => rfl
    · exact rfl
    · exact rfl
    · exact (sim_name _).bind fun s => (sim_take _).bind fun c => by cases c with
        | none => exact rfl
        | some _ => exact (sim_number _).bind fun _ => rfl
theorem sim_cond (k : Nat) : (cond k).Sim (cond k) := sim_several (sim_several (sim_atom k))
theorem sim_one : ∀ k : Nat, (one k).Sim (one k)
  | 0 => by rw [one]; exact rfl
  | k + 1 => by
    rw [one]
    refine (sim_must _).bind fun a => ?_
    rcases a with _ | _ | _ | _ | a
    · exact rfl
    · exact rfl
    · exact (sim_number _).bind fun _ => rfl
    · exact (sim_several (sim_several (sim_one k))).bind fun _ => (sim_must _).bind fun _ => rfl
    · exact (sim_name _).bind fun _ => rfl
theorem sim_start (k : Nat) : (start k).Sim (start k) := sim_several (sim_several (sim_one k))
theorem sim_part (k : Nat) (w : Str) (o : Int) : (part k w o).Sim (part k w o) := (sim_take _).bind fun a => by
  cases a with
  | none => exact rfl
  | some _ => exact sim_bounded (sim_start k)
theorem sim_except : ∀ (k : Nat) (acc : List Str), (except k acc).Sim (except k acc)
  | 0, acc => rfl
  | k + 1, acc => by
    rw [except]
    refine ⟨_, rfl, fun i i' => (sim_name _).bind fun s => ?_⟩
    split
    · exact ⟨_, rfl⟩
    · split
      · exact ⟨_, rfl⟩
      · refine (sim_take _).bind fun a => ?_
        cases a with
        | none => exact rfl
        | some _ => exact sim_except k _
/-- What follows a condition. -/
def restX (k : Nat) (r : Nat) (id : Str) (ksv : Int × Str × Nat) (w : Fm) : Tr Pv :=
  ((take [[110, 111, 116, 119, 105, 116, 104, 115, 116, 97, 110, 100, 105, 110, 103]]).bind fun
    | some _ => except k []
    | none => .ret []).bind fun ex =>
  (part k [102, 114, 111, 109] 1).bind fun b => (part k [117, 110, 116, 105, 108] 2).bind fun e => (part k [97, 103, 97, 105, 110] 2).bind fun a =>
  (must [[46]]).bind fun _ => .ret { id, rank := 1 + r, kind := ksv.1, name := ksv.2.1, value := ksv.2.2, when_ := w, except := ex, begin_ := b, end_ := e, again := a }
/-- What follows the name and the value. -/
def restW (k : Nat) (r : Nat) (id : Str) (ksv : Int × Str × Nat) : Tr Pv :=
  ((take [[105, 102]]).bind fun
    | some _ => bounded (cond k) Fm.size Fm.depth
    | none => .ret (fm0 1)).bind fun w => restX k r id ksv w
theorem provision_eq (k : Nat) : provision k = (must [[99, 111, 110, 115, 116, 105, 116, 117, 116, 105, 111, 110], [97, 99, 116], [114, 101, 103, 117, 108, 97, 116, 105, 111, 110], [98, 121, 108, 97, 119]]).bind fun r => nm.bind fun id => (must [[58]]).bind fun _ =>
    (must [[100, 101, 102, 105, 110, 101], [97, 110, 115, 119, 101, 114]]).bind fun d =>
    (if d = 0 then nm.bind fun s => .ret (1, s, 0) else nm.bind fun s => (must [[105, 115]]).bind fun _ => (number 1000000).bind fun v => .ret ((2 : Int), s, v)).bind fun ksv => restW k r id ksv := rfl
theorem sim_restX (k r : Nat) (id : Str) (ksv : Int × Str × Nat) (w : Fm) : (restX k r id ksv w).Sim (restX k r id ksv w) := by
  unfold restX
  refine Sim.bind ?_ fun ex => (sim_part k _ _).bind fun b => (sim_part k _ _).bind fun e => (sim_part k _ _).bind fun a => (sim_must _).bind fun _ => rfl
  refine (sim_take _).bind fun a => ?_
  cases a with
  | none => exact rfl
  | some _ => exact sim_except k []
theorem sim_restW (k r : Nat) (id : Str) (ksv : Int × Str × Nat) : (restW k r id ksv).Sim (restW k r id ksv) := by
  unfold restW
  refine Sim.bind ?_ fun w => sim_restX k r id ksv w
  refine (sim_take _).bind fun a => ?_
  cases a with
  | none => exact rfl
  | some _ => exact sim_bounded (sim_cond k)
theorem sim_provision (k : Nat) : (provision k).Sim (provision k) := by
  rw [provision_eq]
  refine (sim_must _).bind fun r => (sim_name _).bind fun id => (sim_must _).bind fun _ => (sim_must _).bind fun d => Sim.bind ?_ fun ksv => sim_restW k r id ksv
  split
  · exact (sim_name _).bind fun _ => rfl
  · exact (sim_name _).bind fun _ => (sim_must _).bind fun _ => (sim_number _).bind fun _ => rfl
theorem runs_fuel_cond {l : List Tok} {d k : Nat} (h : (cond k).runs l ≠ .out) : (cond (k + d)).runs l = (cond k).runs l := by
  induction d with
  | zero => rfl
  | succ d ih =>
    rw [← ih, ← Nat.add_assoc]
    exact (le_cond _).runs (by rw [ih]; exact h)
/-- What a list of tokens is parsed as, by a run without places. -/
theorem parse_runs {l : List Tok} {k : Nat} (h : l.length < k) : (∀ p i, parse l = .ok p i → (provision k).runs l = .ok p []) ∧ (∀ p, (provision k).runs l = .ok p [] → parse l = .ok p l.length) ∧
    (∀ p t r, (provision k).runs l = .ok p (t :: r) → ∃ j, parse l = .err 5 j) ∧ (∀ e, (provision k).runs l = .err e → ∃ j, parse l = .err e j) := by
  have hs := (sim_provision k).runs (l := l) (i := 0)
  rw [List.drop_zero] at hs
  rw [parse_at h]
  cases hr : (provision k).run l 0 with
  | ok p i =>
    rw [hr] at hs
    simp only [SR.Of] at hs
    rw [hs]
    have hle := run_le l _ 0 p i (Nat.zero_le _) hr
    simp only
    refine ⟨fun p' i' e => ?_, fun p' e => ?_, fun p' t r e => ?_, fun e he => (by cases he)⟩
    · split at e
      · cases e
      · cases e; rw [List.drop_eq_nil_of_le (by omega)]
    · simp only [SR.ok.injEq] at e
      have : l.length ≤ i := List.drop_eq_nil_iff.1 e.2
      rw [if_neg (by omega), e.1, show i = l.length by omega]
    · simp only [SR.ok.injEq] at e
      have : i < l.length := by
        have := congrArg List.length e.2
        simp only [List.length_drop, List.length_cons] at this
        omega
      rw [if_pos this]
      exact ⟨_, rfl⟩
  | err e j =>
    rw [hr] at hs
    simp only [SR.Of] at hs
    rw [hs]
    simp only
    exact ⟨fun _ _ h => (by cases h), fun _ h => (by cases h), fun _ _ _ h => (by cases h), fun e' he => (by cases he; exact ⟨_, rfl⟩)⟩
  | out => exact absurd hr (provision_no_out h)
end North
namespace Lex
theorem scan_shift2 : ∀ (k pos d : Nat) (s : List UInt8), (scan k (d + pos) s).2 = (scan k pos s).2.map (fun x => (x.1, d + x.2))
  | 0, pos, d, s => by simp [scan]
  | k + 1, pos, d, [] => by simp [scan]
  | k + 1, pos, d, c :: r => by
    simp only [scan]
    cases head c r with
    | gap n => simp only; rw [Nat.add_assoc]; exact scan_shift2 k (pos + n) d _
    | tok t => simp only; rw [Nat.add_assoc, scan_shift2 k (pos + t.text.length) d _]
    | err e => rfl
theorem scan_count : ∀ (k pos : Nat) (s : List UInt8), (scan k pos s).1.length ≤ s.length
  | 0, pos, s => by simp [scan]
  | k + 1, pos, [] => by simp [scan]
  | k + 1, pos, c :: r => by
    cases hh : head c r with
    | gap n =>
      have ih := scan_count k (pos + n) (r.drop (n - 1))
      simp only [scan, hh]
      simp only [List.length_drop, List.length_cons] at ih ⊢
      omega
    | tok t =>
      obtain ⟨g1, g2⟩ := head_pos hh
      have ih := scan_count k (pos + t.text.length) (r.drop (t.text.length - 1))
      simp only [scan, hh, List.length_cons]
      simp only [List.length_drop] at ih
      omega
    | err e => simp [scan, hh]
/-- The tokens of a text, without places and limits. -/
def toks (s : List UInt8) : Option (List Tok) := match (scan s.length 0 s).2 with
  | none => some ((scan s.length 0 s).1.map (·.1))
  | some _ => none
theorem toks_scan {k pos : Nat} {s : List UInt8} (hk : s.length ≤ k) : toks s = match (scan k pos s).2 with
    | none => some ((scan k pos s).1.map (·.1))
    | some _ => none := by
  rw [scan_fuel k s.length pos s hk (Nat.le_refl _)]
  have h1 := scan_shift s.length 0 pos s
  have h2 := scan_shift2 s.length 0 pos s
  rw [Nat.add_zero] at h1 h2
  rw [h1, h2, toks]
  cases (scan s.length 0 s).2 with
  | none => simp
  | some e => simp
theorem toks_count {s : List UInt8} {l : List Tok} (h : toks s = some l) : l.length ≤ s.length := by
  unfold toks at h
  split at h
  · simp only [Option.some.injEq] at h
    rw [← h, List.length_map]
    exact scan_count _ _ _
  · cases h
theorem toks_ok {s : List UInt8} {l : List Tok} (h : toks s = some l) : ∀ t ∈ l, TokOk t := by
  unfold toks at h
  split at h
  · simp only [Option.some.injEq] at h
    rw [← h]
    intro t ht
    obtain ⟨x, hx, rfl⟩ := List.mem_map.1 ht
    exact scan_ok _ _ _ x hx
  · cases h
theorem toks_app {d : UInt8} (hd : isBlank d = true) (x y : List UInt8) (h : d = 10 ∨ (35 : UInt8) ∉ x) : toks (x ++ d :: y) = (toks x).bind fun a => (toks y).map (a ++ ·) := by
  have happ := scan_app hd x.length (x ++ d :: y).length y.length 0 x y h (Nat.le_refl _) (by simp only [List.length_append, List.length_cons]; omega) (Nat.le_refl _)
  rw [toks_scan (k := (x ++ d :: y).length) (pos := 0) (Nat.le_refl _), happ, toks_scan (s := x) (k := x.length) (pos := 0) (Nat.le_refl _), toks_scan (s := y) (k := y.length) (pos := 0 + x.length + 1) (Nat.le_refl _)]
  cases h1 : (scan x.length 0 x).2 with
  | some e => rfl
  | none =>
    simp only [Option.bind_some]
    cases h2 : (scan y.length (0 + x.length + 1) y).2 with
    | some e => rfl
    | none => simp
theorem toks_gap {d : UInt8} (hd : isBlank d = true) (y : List UInt8) : toks (d :: y) = toks y := by
  have := toks_app hd [] y (.inr (by simp))
  rw [List.nil_append] at this
  rw [this]
  have : toks [] = some [] := rfl
  rw [this]
  cases toks y <;> simp
theorem toks_sym {c : UInt8} (hc : cls c = 6) (y : List UInt8) : toks (c :: y) = (toks y).map (⟨3, [c], 0⟩ :: ·) := by
  have hh : head c y = .tok ⟨3, [c], 0⟩ := by
    unfold head
    simp only [hc]
    rfl
  rw [toks_scan (s := c :: y) (k := y.length + 1) (pos := 0) (by simp), toks_scan (s := y) (k := y.length) (pos := 1) (Nat.le_refl _)]
  simp only [scan, hh, List.length_cons, List.length_nil, Nat.zero_add, Nat.sub_self, List.drop_zero]
  cases (scan y.length 1 y).2 with
  | none => simp
  | some e => simp
theorem lex_toks {s : List UInt8} (h20 : s.length ≤ 20000) (h : (lex s).2.1 = 0) : toks s = some ((lex s).1.map (·.1)) ∧ ((lex s).1.map (·.1)).length ≤ 5000 := by
  obtain ⟨h1, h2, _⟩ := lex_scan h20 h
  rw [toks, h1]
  exact ⟨rfl, by simpa using h2⟩
theorem toks_lex {s : List UInt8} (h20 : s.length ≤ 20000) {l : List Tok} (h : toks s = some l) (hl : l.length ≤ 5000) : (lex s).2.1 = 0 ∧ (lex s).1.map (·.1) = l ∧ scan s.length 0 s = ((lex s).1, none) := by
  unfold toks at h
  split at h
  · rename_i hn
    simp only [Option.some.injEq] at h
    have hb := lex_back (s := s) (l := (scan s.length 0 s).1) h20 (Prod.ext rfl hn) (by rw [← List.length_map (f := (·.1)), h]; exact hl)
    rw [hb]
    exact ⟨rfl, h, Prod.ext rfl hn⟩
  · cases h
end Lex
namespace North
theorem read_toks {s : Str} (h20 : s.length ≤ 20000) {p : Pv} (h : read s = .ok p) : ∃ l i, Lex.toks s = some l ∧ l.length ≤ 5000 ∧ parse l = .ok p i := by
  have h0 : (Lex.lex s).2.1 = 0 := by
    unfold read at h
    split at h
    · assumption
    · cases h
  obtain ⟨h1, h2⟩ := Lex.lex_toks h20 h0
  refine ⟨(Lex.lex s).1.map (·.1), ?_⟩
  rw [read, if_pos h0] at h
  split at h
  · rename_i q i hp; cases h; exact ⟨i, h1, h2, hp⟩
  · cases h
  · cases h
theorem toks_read {s : Str} (h20 : s.length ≤ 20000) {l : List Tok} (h : Lex.toks s = some l) (hl : l.length ≤ 5000) :
    read s = match parse l with
      | .ok p _ => .ok p
      | .err e j => .error (e, posAt (Lex.lex s).1 s.length j)
      | .out => .error (1, 0) := by
  obtain ⟨h1, h2, _⟩ := Lex.toks_lex h20 h hl
  rw [read, if_pos h1, h2]
  rfl
end North
end PD
