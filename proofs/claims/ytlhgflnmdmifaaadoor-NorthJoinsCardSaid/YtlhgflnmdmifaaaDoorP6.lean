/- NorthAbsent in plain Lean: parts that are left out, and parts that have their defaults. -/
import Derived.Test.YtlhgflnmdmifaaaDoorP5
namespace PD
namespace Tr
variable {α β : Type}
/-- No test of t lets a token of S in. -/
def Blind (S : List Tok) : Tr α → Prop
  | .here k => ∀ i, (k i).Blind S
  | .test q y n => (∀ s ∈ S, q s = false) ∧ (∀ t, (y t).Blind S) ∧ n.Blind S
  | _ => True
theorem Blind.bind {S : List Tok} {t : Tr α} : ∀ {f : α → Tr β}, t.Blind S → (∀ a, (f a).Blind S) → (t.bind f).Blind S := by
  induction t with
  | ret a => intro f _ hf; exact hf a
  | bad => intro f _ _; trivial
  | raise e j => intro f _ _; trivial
  | out => intro f _ _; trivial
  | here k ih => intro f h hf; exact fun i => ih i (h i) hf
  | test q y n ihy ihn => intro f h hf; exact ⟨h.1, fun t => ihy t (h.2.1 t) hf, ihn h.2.2 hf⟩
/-- Whatever token of S follows, a blind reader does the same. -/
theorem Blind.runs {S : List Tok} {t : Tr α} {s s' : Tok} (hs : s ∈ S) (hs' : s' ∈ S) (r r' : List Tok) : t.Blind S → ∀ u : List Tok,
    (∃ a v, (∃ x, u = x ++ v) ∧ t.runs (u ++ s :: r) = .ok a (v ++ s :: r) ∧ t.runs (u ++ s' :: r') = .ok a (v ++ s' :: r')) ∨ (∃ e, t.runs (u ++ s :: r) = .err e ∧ t.runs (u ++ s' :: r') = .err e) ∨
    (t.runs (u ++ s :: r) = .out ∧ t.runs (u ++ s' :: r') = .out) := by
  induction t with
  | ret a => intro _ u; exact .inl ⟨a, u, ⟨[], rfl⟩, rfl, rfl⟩
  | bad => intro _ u; right; left; cases u <;> exact ⟨5, rfl, rfl⟩
  | raise e j => intro _ u; right; left; exact ⟨e, by simp [Tr.runs], by simp [Tr.runs]⟩
  | out => intro _ u; right; right; exact ⟨by simp [Tr.runs], by simp [Tr.runs]⟩
  | here k ih => intro h u; simp only [Tr.runs]; exact ih 0 (h 0) u
  | test q y n ihy ihn =>
    intro h u
    cases u with
    | nil =>
      simp only [List.nil_append, Tr.runs, h.1 s hs, h.1 s' hs']
      exact ihn h.2.2 []
    | cons t u =>
      simp only [List.cons_append, Tr.runs]
      split
      · rcases ihy t (h.2.1 t) u with ⟨a, v, ⟨x, rfl⟩, h1, h2⟩ | h | h
        · exact .inl ⟨a, v, ⟨t :: x, rfl⟩, h1, h2⟩
        · exact .inr (.inl h)
        · exact .inr (.inr h)
      · exact ihn h.2.2 (t :: u)
theorem blind_take {S : List Tok} {ws : List Str} (h : ∀ s ∈ S, (s.kind != 2 && (idx ws s.text).isSome) = false) : (take ws).Blind S := ⟨h, fun _ => trivial, trivial⟩
theorem blind_must {S : List Tok} {ws : List Str} (h : ∀ s ∈ S, (s.kind != 2 && (idx ws s.text).isSome) = false) : (must ws).Blind S := (blind_take h).bind fun a => by cases a <;> trivial
theorem blind_more {S : List Tok} {word : Str} {one : Tr α} (hw : ∀ s ∈ S, (s.kind != 2 && (idx [word] s.text).isSome) = false) (h : one.Blind S) : ∀ (k : Nat) (acc : List α), (more word one k acc).Blind S
  | 0, acc => trivial
  | k + 1, acc => by
    rw [more]
    refine (blind_take hw).bind fun a => ?_
    cases a with
    | none => trivial
    | some _ => exact h.bind fun x => blind_more hw h k _
theorem blind_several {S : List Tok} {k : Nat} {word : Str} {one : Tr α} {join : List α → α} (hw : ∀ s ∈ S, (s.kind != 2 && (idx [word] s.text).isSome) = false) (h : one.Blind S) : (several k word one join).Blind S :=
  h.bind fun x => (blind_more hw h k [x]).bind fun _ => trivial
theorem blind_bounded {S : List Tok} {t : Tr α} {size depth : α → Nat} (h : t.Blind S) : (bounded t size depth).Blind S := fun _ => h.bind fun x => by
  split <;> trivial
end Tr
namespace North
open Tr
def ifT : Tok := ⟨1, [105, 102], 0⟩
def nwT : Tok := ⟨1, [110, 111, 116, 119, 105, 116, 104, 115, 116, 97, 110, 100, 105, 110, 103], 0⟩
def fromT : Tok := ⟨1, [102, 114, 111, 109], 0⟩
def untilT : Tok := ⟨1, [117, 110, 116, 105, 108], 0⟩
def againT : Tok := ⟨1, [97, 103, 97, 105, 110], 0⟩
def trueT : Tok := ⟨1, [116, 114, 117, 101], 0⟩
def alwaysT : Tok := ⟨1, [97, 108, 119, 97, 121, 115], 0⟩
def neverT : Tok := ⟨1, [110, 101, 118, 101, 114], 0⟩
def stopT : List Tok := [ifT, nwT, fromT, untilT, againT, dotT]
def stopW : List Str := [[105, 102], [110, 111, 116, 119, 105, 116, 104, 115, 116, 97, 110, 100, 105, 110, 103], [102, 114, 111, 109], [117, 110, 116, 105, 108], [97, 103, 97, 105, 110], [46]]
theorem blind_nm : nm.Blind stopT := ⟨by decide, fun _ => trivial, trivial⟩
theorem blind_number (m : Nat) : (number m).Blind stopT := ⟨by decide, fun t => by
  by_cases h : t.n > m
  · simp only [h, if_true]; exact fun _ => trivial
  · simp only [h, if_false]; trivial, trivial⟩
theorem blind_atom : ∀ k : Nat, (atom k).Blind stopT
  | 0 => by rw [atom]; trivial
  | k + 1 => by
    rw [atom]
    refine (blind_take (by decide)).bind fun a => ?_
    rcases a with _ | (_ | _ | _ | _ | a)
    · exact blind_nm.bind fun s => (blind_take (by decide)).bind fun c => by cases c with
        | none => trivial
        | some _ => exact (blind_number _).bind fun _ => trivial
    · exact (blind_atom k).bind fun _ => trivial
    · exact (blind_several (by decide) (blind_several (by decide) (blind_atom k))).bind fun _ => (blind_must (by decide)).bind fun _ => trivial
    · trivial
    · trivial
    · exact blind_nm.bind fun s => (blind_take (by decide)).bind fun c => by cases c with
        | none => trivial
        | some _ => exact (blind_number _).bind fun _ => trivial
theorem blind_cond (k : Nat) : (cond k).Blind stopT := blind_several (by decide) (blind_several (by decide) (blind_atom k))
theorem blind_one : ∀ k : Nat, (one k).Blind stopT
  | 0 => by rw [one]; trivial
  | k + 1 => by
    rw [one]
    refine (blind_must (by decide)).bind fun a => ?_
    rcases a with _ | _ | _ | _ | a
    · trivial
    · trivial
    · exact (blind_number _).bind fun _ => trivial
    · exact (blind_several (by decide) (blind_several (by decide) (blind_one k))).bind fun _ => (blind_must (by decide)).bind fun _ => trivial
    · exact blind_nm.bind fun _ => trivial
theorem blind_start (k : Nat) : (start k).Blind stopT := blind_several (by decide) (blind_several (by decide) (blind_one k))

/-! ### Two runs in step -/
/-- The same outcome, with Z left by the first and Z' by the second; or both are stuck at a token that ends no part. -/
def Twin {α : Type} (Z Z' : List Tok) (x x' : SR α) : Prop :=
  (∃ a, x = .ok a Z ∧ x' = .ok a Z') ∨ (∃ e, x = .err e ∧ x' = .err e) ∨ (x = .out ∧ x' = .out) ∨
  (∃ a a' t v v', x = .ok a (t :: v) ∧ x' = .ok a' (t :: v') ∧ t.text ∉ stopW)
theorem Twin.bind {α β : Type} {Z Z' Y Y' l l' : List Tok} {t : Tr α} {f : α → Tr β} (h : Twin Z Z' (t.runs l) (t.runs l')) (h1 : ∀ a, Twin Y Y' ((f a).runs Z) ((f a).runs Z')) (h2 : ∀ a t v, t.text ∉ stopW → (f a).runs (t :: v) = .err 5) : Twin Y Y' ((t.bind f).runs l) ((t.bind f).runs l') := by
  rw [runs_bind, runs_bind]
  rcases h with ⟨a, e1, e2⟩ | ⟨e, e1, e2⟩ | ⟨e1, e2⟩ | ⟨a, a', t, v, v', e1, e2, ht⟩
  · rw [e1, e2]; exact h1 a
  · rw [e1, e2]; exact .inr (.inl ⟨e, rfl, rfl⟩)
  · rw [e1, e2]; exact .inr (.inr (.inl ⟨rfl, rfl⟩))
  · rw [e1, e2]
    simp only [SR.bind]
    rw [h2 a t v ht, h2 a' t v' ht]
    exact .inr (.inl ⟨5, rfl, rfl⟩)
def segS (w : Tok) (X : Option (List Tok)) : List Tok := match X with
  | none => []
  | some X => w :: X
def segL (w o : Tok) (X : Option (List Tok)) : List Tok := match X with
  | none => [w, o]
  | some X => w :: X
/-- The first token of z is one of S. -/
def Heads (S : List Tok) (z : List Tok) : Prop := ∃ t r, z = t :: r ∧ t ∈ S
def FreeX (X : Option (List Tok)) : Prop := ∀ l, X = some l → ∀ t ∈ l, t.text ∉ stopW
theorem twin_blind {α : Type} {t : Tr α} (hb : t.Blind stopT) {X z z' : List Tok} (hX : ∀ t ∈ X, t.text ∉ stopW) (hz : Heads stopT z) (hz' : Heads stopT z') : Twin z z' (t.runs (X ++ z)) (t.runs (X ++ z')) := by
  obtain ⟨s, r, rfl, hs⟩ := hz
  obtain ⟨s', r', rfl, hs'⟩ := hz'
  rcases hb.runs hs hs' r r' X with ⟨a, v, ⟨x, rfl⟩, h1, h2⟩ | h | h
  · cases v with
    | nil => exact .inl ⟨a, h1, h2⟩
    | cons t v => exact .inr (.inr (.inr ⟨a, a, t, _, _, h1, h2, hX t (by simp)⟩))
  · exact .inr (.inl h)
  · exact .inr (.inr (.inl h))
theorem Heads.mono {S S' : List Tok} (h : ∀ t ∈ S, t ∈ S') {z : List Tok} (hz : Heads S z) : Heads S' z := by
  obtain ⟨t, r, rfl, ht⟩ := hz
  exact ⟨t, r, rfl, h t ht⟩
theorem heads_off {S : List Tok} {z : List Tok} (hz : Heads S z) {w : Str} (hw : ∀ t ∈ S, t.text ≠ w) : ∀ t r, z = t :: r → t.text ≠ w := by
  obtain ⟨t, r, rfl, ht⟩ := hz
  intro t' r' e
  cases e
  exact hw t ht
/-- A part with a condition of commencement. -/
theorem twin_part {k : Nat} {w : Str} {o : Int} {oT : Tok} {X : Option (List Tok)} {S : List Tok} {z z' : List Tok} (hX : FreeX X) (hS : ∀ t ∈ S, t ∈ stopT) (hw : ∀ t ∈ S, t.text ≠ w) (hz : Heads S z) (hz' : Heads S z')
    (ho : ∀ r, Heads S r → (bounded (start k) St.size St.depth).runs (oT :: r) = .ok (st0 o) r) : Twin z z' ((part k w o).runs (segS ⟨1, w, 0⟩ X ++ z)) ((part k w o).runs (segL ⟨1, w, 0⟩ oT X ++ z')) := by
  cases X with
  | none =>
    refine .inl ⟨st0 o, part_off (heads_off hz hw), ?_⟩
    show (part k w o).runs (⟨1, w, 0⟩ :: oT :: z') = _
    rw [part, runs_bind, take_hit (w := w) (t := ⟨1, w, 0⟩) (show (1 : Nat) ≠ 2 by decide) rfl]
    exact ho z' hz'
  | some l =>
    show Twin z z' ((part k w o).runs (⟨1, w, 0⟩ :: (l ++ z))) ((part k w o).runs (⟨1, w, 0⟩ :: (l ++ z')))
    unfold part
    rw [runs_bind, runs_bind, take_hit (w := w) (t := ⟨1, w, 0⟩) (show (1 : Nat) ≠ 2 by decide) rfl, take_hit (w := w) (t := ⟨1, w, 0⟩) (show (1 : Nat) ≠ 2 by decide) rfl]
    simp only [SR.bind]
    exact twin_blind (blind_bounded (blind_start k)) (hX l rfl) (hz.mono hS) (hz'.mono hS)
theorem must_stuck {t : Tok} {v : List Tok} {α : Type} {f : Nat → Tr α} (h : t.text ∉ stopW) : ((must [[46]]).bind f).runs (t :: v) = .err 5 := by
  rw [runs_bind, must, runs_bind, take_one (by intro e; exact h (by rw [e]; decide))]
  rfl
theorem part_stuck {t : Tok} {v : List Tok} {k : Nat} {w : Str} {o : Int} {α : Type} {f : St → Tr α} (h : t.text ∉ stopW) (hw : w ∈ stopW) (hf : ∀ a, (f a).runs (t :: v) = .err 5) : ((part k w o).bind f).runs (t :: v) = .err 5 := by
  rw [runs_bind, part_off (by intro t' r e; cases e; intro e; exact h (e ▸ hw))]
  exact hf _
theorem heads3 {A : Option (List Tok)} : Heads [againT, dotT] (segS againT A ++ [dotT]) := by
  cases A with
  | none => exact ⟨_, _, rfl, by decide⟩
  | some l => exact ⟨_, _, rfl, by decide⟩
theorem headsL {S : List Tok} {w o : Tok} {X : Option (List Tok)} {z : List Tok} (h : w ∈ S) : Heads S (segL w o X ++ z) := by
  cases X with
  | none => exact ⟨_, _, rfl, h⟩
  | some l => exact ⟨_, _, rfl, h⟩
theorem headsS {S S' : List Tok} {w : Tok} {X : Option (List Tok)} {z : List Tok} (h : w ∈ S') (hS : ∀ t ∈ S, t ∈ S') (hz : Heads S z) : Heads S' (segS w X ++ z) := by
  cases X with
  | none => exact hz.mono hS
  | some l => exact ⟨_, _, rfl, h⟩
theorem bounded_one {k : Nat} {oT : Tok} {o : Int} {t : Tok} {r : List Tok} (hc : (one (k + 1)).runs (oT :: t :: r) = .ok (st0 o) (t :: r)) (ha : t.text ≠ [97, 110, 100]) (hb : t.text ≠ [111, 114]) :
    (bounded (start (k + 1)) St.size St.depth).runs (oT :: t :: r) = .ok (st0 o) (t :: r) := by
  have m1 : ∀ (word : Str) (on : Tr St) (acc : List St), t.text ≠ word → (more word on (k + 1) acc).runs (t :: r) = .ok acc (t :: r) := by
    intro word on acc h
    rw [more, runs_bind, take_one h]; rfl
  have e1 : (all (k + 1)).runs (oT :: t :: r) = .ok (st0 o) (t :: r) := by
    unfold all several
    rw [runs_bind, hc]
    simp only [SR.bind]
    rw [runs_bind, m1 _ _ _ ha]
    rfl
  have e2 : (start (k + 1)).runs (oT :: t :: r) = .ok (st0 o) (t :: r) := by
    unfold start
    rw [several, runs_bind, e1]
    simp only [SR.bind]
    rw [runs_bind, m1 _ _ _ hb]
    rfl
  unfold bounded
  simp only [runs]
  rw [runs_bind, e2]
  rfl
theorem default_one {k : Nat} {S : List Tok} (hS : ∀ t ∈ S, t ∈ stopT) {oT : Tok} {o : Int} (hc : ∀ l, (one (k + 1)).runs (oT :: l) = .ok (st0 o) l) : ∀ r, Heads S r → (bounded (start (k + 1)) St.size St.depth).runs (oT :: r) = .ok (st0 o) r := by
  rintro r ⟨t, r, rfl, ht⟩
  have h1 := hS t ht
  have : t.text ≠ [97, 110, 100] ∧ t.text ≠ [111, 114] := by
    revert t
    intro t ht h1
    have : ∀ t ∈ stopT, t.text ≠ [97, 110, 100] ∧ t.text ≠ [111, 114] := by decide
    exact this t h1
  exact bounded_one (hc _) this.1 this.2
theorem one_always {k : Nat} (l : List Tok) : (one (k + 1)).runs (alwaysT :: l) = .ok (st0 1) l := by
  rw [one, runs_bind, show (must [[97, 108, 119, 97, 121, 115], [110, 101, 118, 101, 114], [100, 97, 121], [40], [111, 114, 100, 101, 114], [101, 118, 101, 110, 116], [98, 101, 103, 117, 110], [111, 118, 101, 114]]).runs (alwaysT :: l) = .ok 0 l from rfl]
  rfl
theorem one_never {k : Nat} (l : List Tok) : (one (k + 1)).runs (neverT :: l) = .ok (st0 2) l := by
  rw [one, runs_bind, show (must [[97, 108, 119, 97, 121, 115], [110, 101, 118, 101, 114], [100, 97, 121], [40], [111, 114, 100, 101, 114], [101, 118, 101, 110, 116], [98, 101, 103, 117, 110], [111, 118, 101, 114]]).runs (neverT :: l) = .ok 1 l from rfl]
  rfl
theorem cond_true {k : Nat} {r : List Tok} (h : Heads stopT r) : (bounded (cond (k + 1)) Fm.size Fm.depth).runs (trueT :: r) = .ok (fm0 1) r := by
  obtain ⟨t, r, rfl, ht⟩ := h
  have h2 : t.text ≠ [97, 110, 100] ∧ t.text ≠ [111, 114] := by
    have : ∀ t ∈ stopT, t.text ≠ [97, 110, 100] ∧ t.text ≠ [111, 114] := by decide
    exact this t ht
  have ha : (atom (k + 1)).runs (trueT :: t :: r) = .ok (fm0 1) (t :: r) := by
    rw [atom, runs_bind, show (take [[110, 111, 116], [40], [116, 114, 117, 101], [102, 97, 108, 115, 101]]).runs (trueT :: t :: r) = .ok (some 2) (t :: r) from rfl]
    rfl
  unfold bounded
  simp only [runs]
  rw [runs_bind, cond_atom ha h2.1 h2.2]
  rfl
/-- The tokens behind the name: parts left out, or with their defaults. -/
def shortT (W B E A : Option (List Tok)) : List Tok := segS ifT W ++ (segS fromT B ++ (segS untilT E ++ (segS againT A ++ [dotT])))
def longT (W B E A : Option (List Tok)) : List Tok := segL ifT trueT W ++ (segL fromT alwaysT B ++ (segL untilT neverT E ++ (segL againT neverT A ++ [dotT])))
theorem twin_when {k : Nat} {W : Option (List Tok)} {z z' : List Tok} (hW : FreeX W) (z1 : Heads [fromT, untilT, againT, dotT] z) (l1 : Heads [fromT, untilT, againT, dotT] z') :
    Twin z z' (((take [[105, 102]]).bind fun
      | some _ => bounded (cond (k + 1)) Fm.size Fm.depth
      | none => .ret (fm0 1)).runs (segS ifT W ++ z)) (((take [[105, 102]]).bind fun
      | some _ => bounded (cond (k + 1)) Fm.size Fm.depth
      | none => .ret (fm0 1)).runs (segL ifT trueT W ++ z')) := by
  cases W with
  | none =>
    refine .inl ⟨fm0 1, ?_, ?_⟩
    · show (((take [[105, 102]]).bind _).runs z) = _
      have : (take [[105, 102]]).runs z = .ok none z := by
        obtain ⟨t, r, rfl, ht⟩ := z1
        exact take_one ((by decide : ∀ t ∈ [fromT, untilT, againT, dotT], t.text ≠ [105, 102]) t ht)
      rw [runs_bind, this]
      rfl
    · show (((take [[105, 102]]).bind _).runs (ifT :: trueT :: z')) = _
      rw [runs_bind, take_hit (w := [105, 102]) (t := ifT) (by decide) rfl]
      exact cond_true (l1.mono (by decide))
  | some l =>
    show Twin z z' (((take [[105, 102]]).bind _).runs (ifT :: (l ++ z))) (((take [[105, 102]]).bind _).runs (ifT :: (l ++ z')))
    rw [runs_bind, runs_bind, take_hit (w := [105, 102]) (t := ifT) (by decide) rfl, take_hit (w := [105, 102]) (t := ifT) (by decide) rfl]
    exact twin_blind (blind_bounded (blind_cond _)) (hW l rfl) (z1.mono (by decide)) (l1.mono (by decide))
theorem twin_rest {k r : Nat} {id : Str} {ksv : Int × Str × Nat} {W B E A : Option (List Tok)} (hW : FreeX W) (hB : FreeX B) (hE : FreeX E) (hA : FreeX A) :
    Twin [] [] ((restW (k + 1) r id ksv).runs (shortT W B E A)) ((restW (k + 1) r id ksv).runs (longT W B E A)) := by
  have z3 : Heads [againT, dotT] (segS againT A ++ [dotT]) := heads3
  have l3 : Heads [againT, dotT] (segL againT neverT A ++ [dotT]) := headsL (by decide)
  have z2 : Heads [untilT, againT, dotT] (segS untilT E ++ (segS againT A ++ [dotT])) := headsS (by decide) (by decide) z3
  have l2 : Heads [untilT, againT, dotT] (segL untilT neverT E ++ (segL againT neverT A ++ [dotT])) := headsL (by decide)
  have z1 : Heads [fromT, untilT, againT, dotT] (segS fromT B ++ (segS untilT E ++ (segS againT A ++ [dotT]))) := headsS (by decide) (by decide) z2
  have l1 : Heads [fromT, untilT, againT, dotT] (segL fromT alwaysT B ++ (segL untilT neverT E ++ (segL againT neverT A ++ [dotT]))) := headsL (by decide)
  have d4 : Heads [dotT] [dotT] := ⟨_, _, rfl, by decide⟩
  unfold restW shortT longT
  refine Twin.bind (Z := segS fromT B ++ (segS untilT E ++ (segS againT A ++ [dotT]))) (Z' := segL fromT alwaysT B ++ (segL untilT neverT E ++ (segL againT neverT A ++ [dotT]))) ?_ (fun w => ?_) (fun w t v ht => ?_)
  · exact twin_when hW z1 l1
  · unfold restX
    refine Twin.bind (Z := segS fromT B ++ (segS untilT E ++ (segS againT A ++ [dotT]))) (Z' := segL fromT alwaysT B ++ (segL untilT neverT E ++ (segL againT neverT A ++ [dotT]))) ?_ (fun ex => ?_) (fun ex t v ht => ?_)
    · refine .inl ⟨[], ?_, ?_⟩
      · obtain ⟨t, r, e, ht⟩ := z1
        rw [e, runs_bind, take_one ((by decide : ∀ t ∈ [fromT, untilT, againT, dotT], t.text ≠ [110, 111, 116, 119, 105, 116, 104, 115, 116, 97, 110, 100, 105, 110, 103]) t ht)]
        rfl
      · obtain ⟨t, r, e, ht⟩ := l1
        rw [e, runs_bind, take_one ((by decide : ∀ t ∈ [fromT, untilT, againT, dotT], t.text ≠ [110, 111, 116, 119, 105, 116, 104, 115, 116, 97, 110, 100, 105, 110, 103]) t ht)]
        rfl
    · refine Twin.bind (twin_part hB (by decide) (by decide) z2 l2 (default_one (by decide) one_always)) (fun b => ?_) (fun b t v ht => ?_)
      · refine Twin.bind (twin_part hE (by decide) (by decide) z3 l3 (default_one (by decide) one_never)) (fun e => ?_) (fun e t v ht => ?_)
        · refine Twin.bind (twin_part hA (by decide) (by decide) d4 d4 (default_one (by decide) one_never)) (fun a => ?_) (fun a t v ht => must_stuck ht)
          exact .inl ⟨_, rfl, rfl⟩
        · exact part_stuck ht (by decide) fun _ => must_stuck ht
      · exact part_stuck ht (by decide) fun _ => part_stuck ht (by decide) fun _ => must_stuck ht
    · exact part_stuck ht (by decide) fun _ => part_stuck ht (by decide) fun _ => part_stuck ht (by decide) fun _ => must_stuck ht
  · unfold restX
    rw [runs_bind, runs_bind, take_one (by intro e; exact ht (by rw [e]; decide))]
    exact part_stuck ht (by decide) fun _ => part_stuck ht (by decide) fun _ => part_stuck ht (by decide) fun _ => must_stuck ht
def pre5 : List Tok := [⟨1, [97, 99, 116], 0⟩, ⟨1, [97], 0⟩, ⟨3, [58], 0⟩, ⟨1, [100, 101, 102, 105, 110, 101], 0⟩, ⟨1, [98], 0⟩]
theorem runs_pre5 (k : Nat) (z : List Tok) : (provision k).runs (pre5 ++ z) = (restW k 1 [97] (1, [98], 0)).runs z := by
  rw [provision_eq, pre5]
  simp only [List.cons_append, List.nil_append]
  rw [runs_bind, show (must [[99, 111, 110, 115, 116, 105, 116, 117, 116, 105, 111, 110], [97, 99, 116], [114, 101, 103, 117, 108, 97, 116, 105, 111, 110], [98, 121, 108, 97, 119]]).runs (⟨1, [97, 99, 116], 0⟩ :: ⟨1, [97], 0⟩ :: ⟨3, [58], 0⟩ :: ⟨1, [100, 101, 102, 105, 110, 101], 0⟩ :: ⟨1, [98], 0⟩ :: z) = .ok 1 (⟨1, [97], 0⟩ :: ⟨3, [58], 0⟩ :: ⟨1, [100, 101, 102, 105, 110, 101], 0⟩ :: ⟨1, [98], 0⟩ :: z) from rfl]
  simp only [SR.bind]
  rw [runs_bind, show nm.runs (⟨1, [97], 0⟩ :: ⟨3, [58], 0⟩ :: ⟨1, [100, 101, 102, 105, 110, 101], 0⟩ :: ⟨1, [98], 0⟩ :: z) = .ok [97] (⟨3, [58], 0⟩ :: ⟨1, [100, 101, 102, 105, 110, 101], 0⟩ :: ⟨1, [98], 0⟩ :: z) from rfl]
  simp only [SR.bind]
  rw [runs_bind, show (must [[58]]).runs (⟨3, [58], 0⟩ :: ⟨1, [100, 101, 102, 105, 110, 101], 0⟩ :: ⟨1, [98], 0⟩ :: z) = .ok 0 (⟨1, [100, 101, 102, 105, 110, 101], 0⟩ :: ⟨1, [98], 0⟩ :: z) from rfl]
  simp only [SR.bind]
  rw [runs_bind, show (must [[100, 101, 102, 105, 110, 101], [97, 110, 115, 119, 101, 114]]).runs (⟨1, [100, 101, 102, 105, 110, 101], 0⟩ :: ⟨1, [98], 0⟩ :: z) = .ok 0 (⟨1, [98], 0⟩ :: z) from rfl]
  simp only [SR.bind, if_true]
  rw [runs_bind, runs_bind, show nm.runs (⟨1, [98], 0⟩ :: z) = .ok [98] z from rfl]
  rfl
theorem runs_no_out {l : List Tok} {k : Nat} (h : l.length < k) : (provision k).runs l ≠ .out := by
  intro e
  have hs := (sim_provision k).runs (l := l) (i := 0)
  rw [List.drop_zero, e] at hs
  cases hr : (provision k).run l 0 with
  | ok p i => rw [hr] at hs; cases hs
  | err e j => rw [hr] at hs; cases hs
  | out => exact provision_no_out h hr
/-- The same provision, or errors of the same number. -/
theorem parse_twin {l l' : List Tok} {k : Nat} (h : l.length < k) (h' : l'.length < k) (ht : Twin [] [] ((provision k).runs l) ((provision k).runs l')) : (∃ p i i', parse l = .ok p i ∧ parse l' = .ok p i') ∨ (∃ e j j', parse l = .err e j ∧ parse l' = .err e j') := by
  obtain ⟨_, a2, a3, a4⟩ := parse_runs h
  obtain ⟨_, b2, b3, b4⟩ := parse_runs h'
  rcases ht with ⟨p, e1, e2⟩ | ⟨e, e1, e2⟩ | ⟨e1, _⟩ | ⟨a, a', t, v, v', e1, e2, _⟩
  · exact .inl ⟨p, _, _, a2 p e1, b2 p e2⟩
  · obtain ⟨j, hj⟩ := a4 e e1
    obtain ⟨j', hj'⟩ := b4 e e2
    exact .inr ⟨e, j, j', hj, hj'⟩
  · exact absurd e1 (runs_no_out h)
  · obtain ⟨j, hj⟩ := a3 _ _ _ e1
    obtain ⟨j', hj'⟩ := b3 _ _ _ e2
    exact .inr ⟨5, j, j', hj, hj'⟩

/-! ### The texts -/
def partT (w x o : Str) (out : Bool) : Str := if x = [] then (if out then [] else 32 :: w ++ 32 :: o) else 32 :: w ++ 32 :: x ++ [10]
def absT (out : Bool) (w b e a : Str) : Str := [97, 99, 116, 32, 97, 58, 32, 100, 101, 102, 105, 110, 101, 32, 98] ++ partT [105, 102] w [116, 114, 117, 101] out ++ partT [102, 114, 111, 109] b [97, 108, 119, 97, 121, 115] out ++ partT [117, 110, 116, 105, 108] e [110, 101, 118, 101, 114] out ++ partT [97, 103, 97, 105, 110] a [110, 101, 118, 101, 114] out ++ [46]
def Free (x : Str) : Prop := x.length ≤ 1500 ∧ (Lex.lex x).2.1 = 0 ∧ ∀ t ∈ (Lex.lex x).1, idx stopW t.1.text = none
/-- A text's tokens, or nothing for an empty text. -/
def optT (x : Str) : Option (List Tok) := if x = [] then none else some ((Lex.lex x).1.map (·.1))
theorem free_x {x : Str} (h : Free x) : FreeX (optT x) := by
  intro l hl t ht
  unfold optT at hl
  split at hl
  · cases hl
  · cases hl
    obtain ⟨y, hy, rfl⟩ := List.mem_map.1 ht
    have := h.2.2 y hy
    intro hm
    obtain ⟨j, hj, e⟩ := List.getElem_of_mem hm
    exact idx_none this j (by rw [List.getElem?_eq_getElem hj, e])
/-- z begins with a blank or a point. -/
def Begins (z : Str) : Prop := ∃ d y, z = d :: y ∧ (d = 32 ∨ d = 46)
theorem begins_part {w x o z : Str} {out : Bool} (h : Begins z) : Begins (partT w x o out ++ z) := by
  unfold partT
  split
  · split
    · exact h
    · exact ⟨32, _, rfl, .inl rfl⟩
  · exact ⟨32, _, rfl, .inl rfl⟩
/-- A word, ahead of a byte that is none of a word. -/
theorem toks_then {c : UInt8} {r z : Str} (hc : Lex.cls c = 3) (hr : r.all Lex.isWord = true) (hl : r.length ≤ 23) (hz : Begins z) : Lex.toks (c :: r ++ z) = (Lex.toks z).map (⟨1, c :: r, 0⟩ :: ·) := by
  obtain ⟨d, y, rfl, hd⟩ := hz
  have hw : Lex.isWord d = false := by rcases hd with rfl | rfl <;> decide
  obtain ⟨t1, t2⟩ := Lex.takeWhile_stop Lex.isWord d hw y r hr
  have hh : Lex.head c (r ++ d :: y) = .tok ⟨1, c :: r, 0⟩ := by
    unfold Lex.head
    simp only [hc, t1]
    unfold Lex.nameItem
    rw [if_neg (show ¬ (3 = 1) by decide), if_neg (show ¬ (3 = 2) by decide), if_pos trivial, if_neg (by simp only [List.length_cons]; omega)]
  rw [Lex.toks_scan (s := c :: r ++ d :: y) (k := (r ++ d :: y).length + 1) (pos := 0) (by simp), Lex.toks_scan (s := d :: y) (k := (r ++ d :: y).length) (pos := 0 + (c :: r).length) (by simp)]
  simp only [List.cons_append, Lex.scan, hh, List.length_cons, Nat.add_sub_cancel, List.drop_left]
  cases (Lex.scan (r ++ d :: y).length (0 + (r.length + 1)) (d :: y)).2 with
  | none => simp
  | some e => simp
theorem toks_part {w x o z : Str} {wT oT : Tok} {out : Bool} (hz : Begins z) (hx : Free x) (hw : Lex.toks w = some [wT]) (h35 : (35 : UInt8) ∉ w) (ho : ∀ z, Begins z → Lex.toks (o ++ z) = (Lex.toks z).map (oT :: ·)) {l : List Tok} (hl : Lex.toks z = some l) :
    Lex.toks (partT w x o out ++ z) = some ((if out then segS wT (optT x) else segL wT oT (optT x)) ++ l) := by
  unfold partT optT
  by_cases h : x = []
  · rw [if_pos h, if_pos h]
    cases out with
    | true => simpa [segS] using hl
    | false =>
      simp only [Bool.false_eq_true, if_false, segL, List.cons_append, List.append_assoc]
      rw [Lex.toks_gap (by decide), Lex.toks_app (by decide) _ _ (.inr h35), ho z hz, hl, hw]
      rfl
  · rw [if_neg h, if_neg h]
    have hx20 : x.length ≤ 20000 := by have := hx.1; omega
    have ht := (Lex.lex_toks hx20 hx.2.1).1
    have e : 32 :: w ++ 32 :: x ++ [10] ++ z = 32 :: (w ++ 32 :: (x ++ 10 :: z)) := by simp
    rw [e, Lex.toks_gap (by decide), Lex.toks_app (by decide) _ _ (.inr h35), hw, Lex.toks_app (by decide) _ _ (.inl rfl), ht, hl]
    cases out <;> simp [segS, segL]
theorem toks_abs {w b e a : Str} (out : Bool) (hw : Free w) (hb : Free b) (he : Free e) (ha : Free a) :
    Lex.toks (absT out w b e a) = some (pre5 ++ if out then shortT (optT w) (optT b) (optT e) (optT a) else longT (optT w) (optT b) (optT e) (optT a)) := by
  have g4 : Begins [46] := ⟨46, [], rfl, .inr rfl⟩
  have t4 : Lex.toks [46] = some [dotT] := by kernel_rfl
  have hnev : ∀ z, Begins z → Lex.toks ([110, 101, 118, 101, 114] ++ z) = (Lex.toks z).map (neverT :: ·) := fun z hz => toks_then (by decide) (by decide) (by decide) hz
  have halw : ∀ z, Begins z → Lex.toks ([97, 108, 119, 97, 121, 115] ++ z) = (Lex.toks z).map (alwaysT :: ·) := fun z hz => toks_then (by decide) (by decide) (by decide) hz
  have htru : ∀ z, Begins z → Lex.toks ([116, 114, 117, 101] ++ z) = (Lex.toks z).map (trueT :: ·) := fun z hz => toks_then (by decide) (by decide) (by decide) hz
  have t3 := toks_part (w := [97, 103, 97, 105, 110]) (wT := againT) (out := out) g4 ha (by kernel_rfl) (by decide) hnev t4
  have g3 := begins_part (w := [97, 103, 97, 105, 110]) (x := a) (o := [110, 101, 118, 101, 114]) (out := out) g4
  have t2 := toks_part (w := [117, 110, 116, 105, 108]) (wT := untilT) (out := out) g3 he (by kernel_rfl) (by decide) hnev t3
  have g2 := begins_part (w := [117, 110, 116, 105, 108]) (x := e) (o := [110, 101, 118, 101, 114]) (out := out) g3
  have t1 := toks_part (w := [102, 114, 111, 109]) (wT := fromT) (out := out) g2 hb (by kernel_rfl) (by decide) halw t2
  have g1 := begins_part (w := [102, 114, 111, 109]) (x := b) (o := [97, 108, 119, 97, 121, 115]) (out := out) g2
  have t0 := toks_part (w := [105, 102]) (wT := ifT) (out := out) g1 hw (by kernel_rfl) (by decide) htru t1
  have g0 := begins_part (w := [105, 102]) (x := w) (o := [116, 114, 117, 101]) (out := out) g1
  have tb : Lex.toks ([97, 99, 116, 32, 97, 58, 32, 100, 101, 102, 105, 110, 101] ++ 32 :: ([98] ++ (partT [105, 102] w [116, 114, 117, 101] out ++ (partT [102, 114, 111, 109] b [97, 108, 119, 97, 121, 115] out ++ (partT [117, 110, 116, 105, 108] e [110, 101, 118, 101, 114] out ++ (partT [97, 103, 97, 105, 110] a [110, 101, 118, 101, 114] out ++ [46])))))) = some (pre5 ++ ((if out = true then segS ifT (optT w) else segL ifT trueT (optT w)) ++ ((if out = true then segS fromT (optT b) else segL fromT alwaysT (optT b)) ++ ((if out = true then segS untilT (optT e) else segL untilT neverT (optT e)) ++ ((if out = true then segS againT (optT a) else segL againT neverT (optT a)) ++ [dotT]))))) := by
    rw [Lex.toks_app (by decide) _ _ (.inr (by decide)), toks_then (c := 98) (r := []) (by decide) (by decide) (by decide) g0, t0, show Lex.toks [97, 99, 116, 32, 97, 58, 32, 100, 101, 102, 105, 110, 101] = some [⟨1, [97, 99, 116], 0⟩, ⟨1, [97], 0⟩, ⟨3, [58], 0⟩, ⟨1, [100, 101, 102, 105, 110, 101], 0⟩] by kernel_rfl]
    rfl
  have ee : absT out w b e a = [97, 99, 116, 32, 97, 58, 32, 100, 101, 102, 105, 110, 101] ++ 32 :: ([98] ++ (partT [105, 102] w [116, 114, 117, 101] out ++ (partT [102, 114, 111, 109] b [97, 108, 119, 97, 121, 115] out ++ (partT [117, 110, 116, 105, 108] e [110, 101, 118, 101, 114] out ++ (partT [97, 103, 97, 105, 110] a [110, 101, 118, 101, 114] out ++ [46]))))) := by
    simp [absT]
  rw [ee, tb]
  cases out <;> rfl
theorem opt_len {x : Str} (h : Free x) (w o : Tok) : (segS w (optT x)).length ≤ 1501 ∧ (segL w o (optT x)).length ≤ 1501 ∧ (x = [] → (segS w (optT x)).length ≤ 2 ∧ (segL w o (optT x)).length ≤ 2) := by
  have ht := (Lex.lex_toks (s := x) (by have := h.1; omega) h.2.1).1
  have hc := Lex.toks_count ht
  have := h.1
  unfold optT
  split
  · simp [segS, segL]
  · rename_i hne
    simp only [segS, segL, List.length_cons]
    refine ⟨by omega, by omega, fun e => absurd e hne⟩
theorem part_len {w x o : Str} {out : Bool} (hx : x.length ≤ 1500) (hw : w.length ≤ 10) (ho : o.length ≤ 10) : (partT w x o out).length ≤ 1520 := by
  unfold partT
  split
  · split
    · simp
    · simp only [List.cons_append, List.length_cons, List.length_append]; omega
  · simp only [List.cons_append, List.length_cons, List.length_append, List.length_nil]; omega
/-- The same provision, or errors of the same number. -/
theorem absent {w b e a : Str} (hw : Free w) (hb : Free b) (he : Free e) (ha : Free a) :
    (∃ p, read (absT true w b e a) = .ok p ∧ read (absT false w b e a) = .ok p) ∨ (∃ x i j, read (absT true w b e a) = .error (x, i) ∧ read (absT false w b e a) = .error (x, j)) := by
  by_cases hall : w ≠ [] ∧ b ≠ [] ∧ e ≠ [] ∧ a ≠ []
  · obtain ⟨n1, n2, n3, n4⟩ := hall
    have : absT true w b e a = absT false w b e a := by simp [absT, partT, n1, n2, n3, n4]
    rw [this]
    cases hr : read (absT false w b e a) with
    | ok p => exact .inl ⟨p, rfl, rfl⟩
    | error x => exact .inr ⟨x.1, x.2, x.2, rfl, rfl⟩
  · have hlen : ∀ out, (absT out w b e a).length ≤ 20000 := by
      intro out
      have h1 := part_len (out := out) (w := [105, 102]) (o := [116, 114, 117, 101]) hw.1 (by decide) (by decide)
      have h2 := part_len (out := out) (w := [102, 114, 111, 109]) (o := [97, 108, 119, 97, 121, 115]) hb.1 (by decide) (by decide)
      have h3 := part_len (out := out) (w := [117, 110, 116, 105, 108]) (o := [110, 101, 118, 101, 114]) he.1 (by decide) (by decide)
      have h4 := part_len (out := out) (w := [97, 103, 97, 105, 110]) (o := [110, 101, 118, 101, 114]) ha.1 (by decide) (by decide)
      simp only [absT, List.length_append, List.length_cons, List.length_nil]
      omega
    obtain ⟨w1, w2, w3⟩ := opt_len hw ifT trueT
    obtain ⟨b1, b2, b3⟩ := opt_len hb fromT alwaysT
    obtain ⟨e1, e2, e3⟩ := opt_len he untilT neverT
    obtain ⟨a1, a2, a3⟩ := opt_len ha againT neverT
    have c1 : (pre5 ++ shortT (optT w) (optT b) (optT e) (optT a)).length ≤ 5000 := by
      simp only [shortT, pre5, List.length_append, List.length_cons, List.length_nil]
      by_cases n1 : w = []
      · have := w3 n1; omega
      by_cases n2 : b = []
      · have := b3 n2; omega
      by_cases n3 : e = []
      · have := e3 n3; omega
      by_cases n4 : a = []
      · have := a3 n4; omega
      exact absurd ⟨n1, n2, n3, n4⟩ hall
    have c2 : (pre5 ++ longT (optT w) (optT b) (optT e) (optT a)).length ≤ 5000 := by
      simp only [longT, pre5, List.length_append, List.length_cons, List.length_nil]
      by_cases n1 : w = []
      · have := w3 n1; omega
      by_cases n2 : b = []
      · have := b3 n2; omega
      by_cases n3 : e = []
      · have := e3 n3; omega
      by_cases n4 : a = []
      · have := a3 n4; omega
      exact absurd ⟨n1, n2, n3, n4⟩ hall
    have r1 := toks_read (hlen true) (toks_abs true hw hb he ha) c1
    have r2 := toks_read (hlen false) (toks_abs false hw hb he ha) c2
    simp only [if_true] at r1
    simp only [Bool.false_eq_true, if_false] at r2
    have tw := twin_rest (k := 5000) (r := 1) (id := [97]) (ksv := (1, [98], 0)) (free_x hw) (free_x hb) (free_x he) (free_x ha)
    rw [← runs_pre5, ← runs_pre5] at tw
    rcases parse_twin (by omega) (by omega) tw with ⟨p, i, i', h1, h2⟩ | ⟨x, j, j', h1, h2⟩
    · exact .inl ⟨p, by rw [r1, h1], by rw [r2, h2]⟩
    · exact .inr ⟨x, _, _, by rw [r1, h1], by rw [r2, h2]⟩
end North
end PD
