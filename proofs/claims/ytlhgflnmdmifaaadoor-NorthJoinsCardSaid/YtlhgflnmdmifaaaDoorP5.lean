/- NorthJoins in plain Lean: conditions in parentheses, joined and negated. -/
import Derived.Test.YtlhgflnmdmifaaaDoorP4
import Derived.KernelRfl
namespace PD
namespace North
open Tr
def lpT : Tok := ⟨3, [40], 0⟩
def rpT : Tok := ⟨3, [41], 0⟩
def dotT : Tok := ⟨3, [46], 0⟩
def andT : Tok := ⟨1, [97, 110, 100], 0⟩
def orT : Tok := ⟨1, [111, 114], 0⟩
def notT : Tok := ⟨1, [110, 111, 116], 0⟩
def pre8 : List Tok := [⟨1, [98, 121, 108, 97, 119], 0⟩, ⟨1, [112], 0⟩, ⟨3, [58], 0⟩, ⟨1, [97, 110, 115, 119, 101, 114], 0⟩, ⟨1, [113], 0⟩, ⟨1, [105, 115], 0⟩, ⟨2, [49], 1⟩, ⟨1, [105, 102], 0⟩]
/-- The text of a rule with a condition. -/
def rule (c : Str) : Str := [98, 121, 108, 97, 119, 32, 112, 58, 32, 97, 110, 115, 119, 101, 114, 32, 113, 32, 105, 115, 32, 49, 32, 105, 102, 32] ++ c ++ [10, 46]
def paren (c : Str) : Str := 40 :: c ++ [10, 41]
def word (or : Bool) : Str := if or then [32, 111, 114, 32] else [32, 97, 110, 100, 32]
def wordT (or : Bool) : Tok := if or then orT else andT
theorem toks_nil : Lex.toks [] = some [] := rfl
theorem toks_rule (c : Str) : Lex.toks (rule c) = (Lex.toks c).map fun l => pre8 ++ l ++ [dotT] := by
  have e : rule c = [98, 121, 108, 97, 119, 32, 112, 58, 32, 97, 110, 115, 119, 101, 114, 32, 113, 32, 105, 115, 32, 49, 32, 105, 102] ++ 32 :: (c ++ 10 :: [46]) := by simp [rule]
  have h1 : Lex.toks [98, 121, 108, 97, 119, 32, 112, 58, 32, 97, 110, 115, 119, 101, 114, 32, 113, 32, 105, 115, 32, 49, 32, 105, 102] = some pre8 := by kernel_rfl
  have h2 : Lex.toks [46] = some [dotT] := by kernel_rfl
  rw [e, Lex.toks_app (by decide) _ _ (.inr (by decide)), h1, Lex.toks_app (by decide) _ _ (.inl rfl), h2]
  cases Lex.toks c <;> simp
theorem toks_paren (c y : Str) : Lex.toks (paren c ++ y) = (Lex.toks c).bind fun l => (Lex.toks y).map fun r => lpT :: l ++ rpT :: r := by
  have e : paren c ++ y = 40 :: (c ++ 10 :: 41 :: y) := by simp [paren]
  rw [e, Lex.toks_sym (by decide), Lex.toks_app (by decide) _ _ (.inl rfl), Lex.toks_sym (by decide)]
  cases Lex.toks c <;> cases Lex.toks y <;> simp [lpT, rpT]
theorem toks_word (or : Bool) (y : Str) : Lex.toks (word or ++ y) = (Lex.toks y).map (wordT or :: ·) := by
  cases or with
  | true =>
    have e : word true ++ y = 32 :: ([111, 114] ++ 32 :: y) := by simp [word]
    have h1 : Lex.toks [111, 114] = some [orT] := by kernel_rfl
    rw [e, Lex.toks_gap (by decide), Lex.toks_app (by decide) _ _ (.inr (by decide)), h1]
    cases Lex.toks y <;> simp [wordT]
  | false =>
    have e : word false ++ y = 32 :: ([97, 110, 100] ++ 32 :: y) := by simp [word]
    have h1 : Lex.toks [97, 110, 100] = some [andT] := by kernel_rfl
    rw [e, Lex.toks_gap (by decide), Lex.toks_app (by decide) _ _ (.inr (by decide)), h1]
    cases Lex.toks y <;> simp [wordT]
theorem toks_not (y : Str) : Lex.toks ([110, 111, 116, 32] ++ y) = (Lex.toks y).map (notT :: ·) := by
  have e : [110, 111, 116, 32] ++ y = [110, 111, 116] ++ 32 :: y := by simp
  have h1 : Lex.toks [110, 111, 116] = some [notT] := by kernel_rfl
  rw [e, Lex.toks_app (by decide) _ _ (.inr (by decide)), h1]
  cases Lex.toks y <;> simp

/-! ### What a rule is read as -/
abbrev ksvR : Int × Str × Nat := (2, [113], 1)
theorem runs_rule (k : Nat) (z : List Tok) : (provision k).runs (pre8 ++ z) = ((bounded (cond k) Fm.size Fm.depth).runs z).bind fun w r => (restX k 3 [112] ksvR w).runs r := by
  rw [provision_eq, pre8]
  simp only [List.cons_append, List.nil_append]
  rw [runs_bind, show (must [[99, 111, 110, 115, 116, 105, 116, 117, 116, 105, 111, 110], [97, 99, 116], [114, 101, 103, 117, 108, 97, 116, 105, 111, 110], [98, 121, 108, 97, 119]]).runs (⟨1, [98, 121, 108, 97, 119], 0⟩ :: ⟨1, [112], 0⟩ :: ⟨3, [58], 0⟩ :: ⟨1, [97, 110, 115, 119, 101, 114], 0⟩ :: ⟨1, [113], 0⟩ :: ⟨1, [105, 115], 0⟩ :: ⟨2, [49], 1⟩ :: ⟨1, [105, 102], 0⟩ :: z) = .ok 3 (⟨1, [112], 0⟩ :: ⟨3, [58], 0⟩ :: ⟨1, [97, 110, 115, 119, 101, 114], 0⟩ :: ⟨1, [113], 0⟩ :: ⟨1, [105, 115], 0⟩ :: ⟨2, [49], 1⟩ :: ⟨1, [105, 102], 0⟩ :: z) from rfl]
  simp only [SR.bind]
  rw [runs_bind, show nm.runs (⟨1, [112], 0⟩ :: ⟨3, [58], 0⟩ :: ⟨1, [97, 110, 115, 119, 101, 114], 0⟩ :: ⟨1, [113], 0⟩ :: ⟨1, [105, 115], 0⟩ :: ⟨2, [49], 1⟩ :: ⟨1, [105, 102], 0⟩ :: z) = .ok [112] (⟨3, [58], 0⟩ :: ⟨1, [97, 110, 115, 119, 101, 114], 0⟩ :: ⟨1, [113], 0⟩ :: ⟨1, [105, 115], 0⟩ :: ⟨2, [49], 1⟩ :: ⟨1, [105, 102], 0⟩ :: z) from rfl]
  simp only [SR.bind]
  rw [runs_bind, show (must [[58]]).runs (⟨3, [58], 0⟩ :: ⟨1, [97, 110, 115, 119, 101, 114], 0⟩ :: ⟨1, [113], 0⟩ :: ⟨1, [105, 115], 0⟩ :: ⟨2, [49], 1⟩ :: ⟨1, [105, 102], 0⟩ :: z) = .ok 0 (⟨1, [97, 110, 115, 119, 101, 114], 0⟩ :: ⟨1, [113], 0⟩ :: ⟨1, [105, 115], 0⟩ :: ⟨2, [49], 1⟩ :: ⟨1, [105, 102], 0⟩ :: z) from rfl]
  simp only [SR.bind]
  rw [runs_bind, show (must [[100, 101, 102, 105, 110, 101], [97, 110, 115, 119, 101, 114]]).runs (⟨1, [97, 110, 115, 119, 101, 114], 0⟩ :: ⟨1, [113], 0⟩ :: ⟨1, [105, 115], 0⟩ :: ⟨2, [49], 1⟩ :: ⟨1, [105, 102], 0⟩ :: z) = .ok 1 (⟨1, [113], 0⟩ :: ⟨1, [105, 115], 0⟩ :: ⟨2, [49], 1⟩ :: ⟨1, [105, 102], 0⟩ :: z) from rfl]
  simp only [SR.bind]
  rw [if_neg (by decide), runs_bind, runs_bind, show nm.runs (⟨1, [113], 0⟩ :: ⟨1, [105, 115], 0⟩ :: ⟨2, [49], 1⟩ :: ⟨1, [105, 102], 0⟩ :: z) = .ok [113] (⟨1, [105, 115], 0⟩ :: ⟨2, [49], 1⟩ :: ⟨1, [105, 102], 0⟩ :: z) from rfl]
  simp only [SR.bind]
  rw [runs_bind, show (must [[105, 115]]).runs (⟨1, [105, 115], 0⟩ :: ⟨2, [49], 1⟩ :: ⟨1, [105, 102], 0⟩ :: z) = .ok 0 (⟨2, [49], 1⟩ :: ⟨1, [105, 102], 0⟩ :: z) from rfl]
  simp only [SR.bind]
  rw [runs_bind, show (number 1000000).runs (⟨2, [49], 1⟩ :: ⟨1, [105, 102], 0⟩ :: z) = .ok 1 (⟨1, [105, 102], 0⟩ :: z) from rfl]
  simp only [SR.bind, runs]
  rw [restW, runs_bind, runs_bind, show (take [[105, 102]]).runs (⟨1, [105, 102], 0⟩ :: z) = .ok (some 0) z from rfl]
  rfl
/-- The same with places: the condition begins at the eighth token. -/
theorem run_rule (k : Nat) (z : List Tok) : (provision k).run (pre8 ++ z) 0 = ((bounded (cond k) Fm.size Fm.depth).run (pre8 ++ z) 8).bind fun w i => (restX k 3 [112] ksvR w).run (pre8 ++ z) i := by
  rw [provision_eq]
  rw [run_bind, show (must [[99, 111, 110, 115, 116, 105, 116, 117, 116, 105, 111, 110], [97, 99, 116], [114, 101, 103, 117, 108, 97, 116, 105, 111, 110], [98, 121, 108, 97, 119]]).run (pre8 ++ z) 0 = .ok 3 1 from rfl]
  simp only [PR.bind]
  rw [run_bind, show nm.run (pre8 ++ z) 1 = .ok [112] 2 from rfl]
  simp only [PR.bind]
  rw [run_bind, show (must [[58]]).run (pre8 ++ z) 2 = .ok 0 3 from rfl]
  simp only [PR.bind]
  rw [run_bind, show (must [[100, 101, 102, 105, 110, 101], [97, 110, 115, 119, 101, 114]]).run (pre8 ++ z) 3 = .ok 1 4 from rfl]
  simp only [PR.bind]
  rw [if_neg (by decide), run_bind, run_bind, show nm.run (pre8 ++ z) 4 = .ok [113] 5 from rfl]
  simp only [PR.bind]
  rw [run_bind, show (must [[105, 115]]).run (pre8 ++ z) 5 = .ok 0 6 from rfl]
  simp only [PR.bind]
  rw [run_bind, show (number 1000000).run (pre8 ++ z) 6 = .ok 1 7 from rfl]
  simp only [PR.bind, run]
  rw [restW, run_bind, run_bind, show (take [[105, 102]]).run (pre8 ++ z) 7 = .ok (some 0) 8 from rfl]
  rfl
theorem bounded_ok {k : Nat} {z : List Tok} {f : Fm} {r : List Tok} (h : (bounded (cond k) Fm.size Fm.depth).runs z = .ok f r) : (cond k).runs z = .ok f r ∧ f.size ≤ 200 ∧ f.depth ≤ 20 := by
  unfold bounded at h
  simp only [runs] at h
  rw [runs_bind] at h
  cases hc : (cond k).runs z with
  | err e => rw [hc] at h; cases h
  | out => rw [hc] at h; cases h
  | ok g r' =>
    rw [hc] at h
    simp only [SR.bind] at h
    split at h
    · simp [runs] at h
    · rename_i hn
      simp only [runs, SR.ok.injEq] at h
      obtain ⟨rfl, rfl⟩ := h
      exact ⟨rfl, by omega, by omega⟩
/-- What may follow a condition. -/
def stops : List Str := [[110, 111, 116, 119, 105, 116, 104, 115, 116, 97, 110, 100, 105, 110, 103], [102, 114, 111, 109], [117, 110, 116, 105, 108], [97, 103, 97, 105, 110], [46]]
theorem take_one {w : Str} {t : Tok} {r : List Tok} (h : t.text ≠ w) : (take [w]).runs (t :: r) = .ok none (t :: r) := by
  rw [runs_take]
  simp only
  rw [if_neg]
  simp [idx, h]
theorem take_nil (ws : List Str) : (take ws).runs [] = .ok none [] := rfl
theorem must_one {w : Str} {l : List Tok} {j : Nat} {r : List Tok} (h : (must [w]).runs l = .ok j r) : ∃ t, l = t :: r ∧ t.text = w := by
  unfold must at h
  rw [runs_bind, runs_take] at h
  cases l with
  | nil => simp [SR.bind, runs] at h
  | cons t l =>
    simp only at h
    split at h
    · rename_i hq
      simp only [idx] at h hq
      by_cases hw : t.text = w
      · simp only [hw, if_true, SR.bind, runs, SR.ok.injEq] at h
        exact ⟨t, by rw [h.2], hw⟩
      · simp [hw] at hq
    · simp [SR.bind, runs] at h
theorem part_off {k : Nat} {w : Str} {o : Int} {l : List Tok} (h : ∀ t r, l = t :: r → t.text ≠ w) : (part k w o).runs l = .ok (st0 o) l := by
  unfold part
  rw [runs_bind]
  cases l with
  | nil => rw [take_nil]; rfl
  | cons t r => rw [take_one (h t r rfl)]; rfl
theorem restX_stop {k r : Nat} {id : Str} {ksv : Int × Str × Nat} {w : Fm} {l q : List Tok} {p : Pv} (h : (restX k r id ksv w).runs l = .ok p q) : p.when_ = w ∧ ∃ t l', l = t :: l' ∧ t.text ∈ stops := by
  constructor
  · refine All.runs (Q := fun p => p.when_ = w) ?_ h
    unfold restX
    exact All.bind fun ex => All.bind fun b => All.bind fun e => All.bind fun a => All.bind fun _ => rfl
  · by_cases hh : ∃ t l', l = t :: l' ∧ t.text ∈ stops
    · exact hh
    · exfalso
      have hno : ∀ s ∈ stops, ∀ t r, l = t :: r → t.text ≠ s := fun s hs t r e ht => hh ⟨t, r, e, ht ▸ hs⟩
      unfold restX at h
      have ht : (take [[110, 111, 116, 119, 105, 116, 104, 115, 116, 97, 110, 100, 105, 110, 103]]).runs l = .ok none l := by
        cases l with
        | nil => rfl
        | cons t l => exact take_one (hno _ (by simp [stops]) t l rfl)
      rw [runs_bind, runs_bind, ht] at h
      simp only [SR.bind, runs] at h
      rw [runs_bind, part_off (hno _ (by simp [stops]))] at h
      simp only [SR.bind] at h
      rw [runs_bind, part_off (hno _ (by simp [stops]))] at h
      simp only [SR.bind] at h
      rw [runs_bind, part_off (hno _ (by simp [stops]))] at h
      simp only [SR.bind] at h
      rw [runs_bind] at h
      cases hm : (must [[46]]).runs l with
      | err e => rw [hm] at h; cases h
      | out => rw [hm] at h; cases h
      | ok j r =>
        obtain ⟨t, e, ht⟩ := must_one hm
        exact hno _ (by simp [stops]) t _ e ht
theorem restX_dot (k r : Nat) (id : Str) (ksv : Int × Str × Nat) (w : Fm) : ∃ p, (restX k r id ksv w).runs [dotT] = .ok p [] := ⟨_, rfl⟩

/-! ### Conditions -/
theorem runs_more_no {word : Str} {one : Tr Fm} {k : Nat} {acc : List Fm} {t : Tok} {r : List Tok} (h : t.text ≠ word) : (more word one (k + 1) acc).runs (t :: r) = .ok acc (t :: r) := by
  rw [more, runs_bind, take_one h]; rfl
theorem take_hit {w : Str} {t : Tok} {r : List Tok} (hk : t.kind ≠ 2) (h : t.text = w) : (take [w]).runs (t :: r) = .ok (some 0) r := by
  rw [runs_take]
  simp [idx, h, hk]
theorem runs_more_yes {word : Str} {one : Tr Fm} {k : Nat} {acc : List Fm} {t : Tok} {r : List Tok} (hk : t.kind ≠ 2) (h : t.text = word) : (more word one (k + 1) acc).runs (t :: r) = (one.runs r).bind fun x r' => (more word one k (acc ++ [x])).runs r' := by
  rw [more, runs_bind, take_hit hk h]
  exact runs_bind _ _ _
/-- One thing alone. -/
theorem several_one {word : Str} {one : Tr Fm} {join : List Fm → Fm} {k : Nat} {l : List Tok} {f : Fm} {t : Tok} {r : List Tok} (h1 : one.runs l = .ok f (t :: r)) (ht : t.text ≠ word) : (several (k + 1) word one join).runs l = .ok f (t :: r) := by
  rw [several, runs_bind, h1]
  simp only [SR.bind]
  rw [runs_bind, runs_more_no ht]
  rfl
/-- Two things joined. -/
theorem several_two {word : Str} {one : Tr Fm} {join : List Fm → Fm} {k : Nat} {l : List Tok} {f g : Fm} {t t' : Tok} {r r' : List Tok} (h1 : one.runs l = .ok f (t :: r)) (hk : t.kind ≠ 2) (ht : t.text = word) (h2 : one.runs r = .ok g (t' :: r')) (ht' : t'.text ≠ word) :
    (several (k + 2) word one join).runs l = .ok (join [f, g]) (t' :: r') := by
  rw [several, runs_bind, h1]
  simp only [SR.bind]
  rw [runs_bind, runs_more_yes hk ht, h2]
  simp only [SR.bind]
  rw [runs_more_no ht']
  rfl
/-- A condition in parentheses is read as itself. -/
theorem atom_paren {k : Nat} {x : List Tok} {f : Fm} (hX : ∀ r, (cond k).runs (x ++ rpT :: r) = .ok f (rpT :: r)) (r : List Tok) : (atom (k + 1)).runs (lpT :: x ++ rpT :: r) = .ok f r := by
  rw [atom, runs_bind, List.cons_append, show (take [[110, 111, 116], [40], [116, 114, 117, 101], [102, 97, 108, 115, 101]]).runs (lpT :: (x ++ rpT :: r)) = .ok (some 1) (x ++ rpT :: r) from rfl]
  simp only [SR.bind]
  rw [runs_bind, show (several k [111, 114] (several k [97, 110, 100] (atom k) andJ) orJ) = cond k from rfl, hX]
  simp only [SR.bind]
  rw [runs_bind, show (must [[41]]).runs (rpT :: r) = .ok 0 r from rfl]
  rfl
theorem atom_not {k : Nat} {l : List Tok} {f : Fm} {r : List Tok} (h : (atom k).runs l = .ok f r) : (atom (k + 1)).runs (notT :: l) = .ok (.mk 5 [] 0 0 [f]) r := by
  rw [atom, runs_bind, show (take [[110, 111, 116], [40], [116, 114, 117, 101], [102, 97, 108, 115, 101]]).runs (notT :: l) = .ok (some 0) l from rfl]
  simp only [SR.bind]
  rw [runs_bind, h]
  rfl
theorem cond_atom {k : Nat} {l : List Tok} {f : Fm} {t : Tok} {r : List Tok} (h : (atom (k + 1)).runs l = .ok f (t :: r)) (h1 : t.text ≠ [97, 110, 100]) (h2 : t.text ≠ [111, 114]) : (cond (k + 1)).runs l = .ok f (t :: r) :=
  several_one (several_one h h1) h2
/-- x is a condition that is read as f, whatever follows the closing parenthesis. -/
def IsCond (x : List Tok) (f : Fm) : Prop := f.size ≤ 200 ∧ f.depth ≤ 20 ∧ ∃ K, ∀ k, K ≤ k → ∀ r, (cond k).runs (x ++ rpT :: r) = .ok f (rpT :: r)
theorem append_cases {α : Type} {u r x y : List α} (h : x ++ y = u ++ r) : (∃ z, x = u ++ z ∧ r = z ++ y) ∨ (∃ z, z ≠ [] ∧ u = x ++ z ∧ y = z ++ r) := by
  rcases List.append_eq_append_iff.1 h with ⟨z, h1, h2⟩ | ⟨z, h1, h2⟩
  · by_cases hz : z = []
    · subst hz; left; exact ⟨[], by simpa using h1.symm, by simpa using h2.symm⟩
    · right; exact ⟨z, hz, h1, h2⟩
  · left; exact ⟨z, h1, h2⟩
theorem several_ok {word : Str} {one : Tr Fm} {join : List Fm → Fm} {k : Nat} {l : List Tok} {f : Fm} {r : List Tok} (h : (several k word one join).runs l = .ok f r) : ∃ g r', one.runs l = .ok g r' := by
  rw [several, runs_bind] at h
  cases ho : one.runs l with
  | ok g r' => exact ⟨g, r', rfl⟩
  | err e => rw [ho] at h; cases h
  | out => rw [ho] at h; cases h
theorem atom_open {n : Nat} {l : List Tok} {g : Fm} {r : List Tok} (h : (atom (n + 1)).runs (lpT :: l) = .ok g r) : ∃ t, t.text = [41] ∧ (cond n).runs l = .ok g (t :: r) := by
  rw [atom, runs_bind, show (take [[110, 111, 116], [40], [116, 114, 117, 101], [102, 97, 108, 115, 101]]).runs (lpT :: l) = .ok (some 1) l from rfl] at h
  simp only [SR.bind] at h
  rw [runs_bind, show (several n [111, 114] (several n [97, 110, 100] (atom n) andJ) orJ) = cond n from rfl] at h
  cases hc : (cond n).runs l with
  | err e => rw [hc] at h; cases h
  | out => rw [hc] at h; cases h
  | ok g0 r0 =>
    rw [hc] at h
    simp only [SR.bind] at h
    rw [runs_bind] at h
    cases hm : (must [[41]]).runs r0 with
    | err e => rw [hm] at h; cases h
    | out => rw [hm] at h; cases h
    | ok j r1 =>
      rw [hm] at h
      simp only [SR.bind, runs, SR.ok.injEq] at h
      obtain ⟨rfl, rfl⟩ := h
      obtain ⟨t, rfl, ht⟩ := must_one hm
      exact ⟨t, ht, rfl⟩
theorem rule_ok {k : Nat} {z : List Tok} {p : Pv} (h : (provision k).runs (pre8 ++ z) = .ok p []) : (∃ t r, t.text ∈ stops ∧ (cond k).runs z = .ok p.when_ (t :: r)) ∧ p.when_.size ≤ 200 ∧ p.when_.depth ≤ 20 := by
  rw [runs_rule] at h
  cases hb : (bounded (cond k) Fm.size Fm.depth).runs z with
  | err e => rw [hb] at h; cases h
  | out => rw [hb] at h; cases h
  | ok f r =>
    rw [hb] at h
    simp only [SR.bind] at h
    obtain ⟨c1, c2, c3⟩ := bounded_ok hb
    obtain ⟨rfl, t, l, rfl, ht⟩ := restX_stop h
    exact ⟨⟨t, l, ht, c1⟩, c2, c3⟩
theorem pure_cond {x : List Tok} {p q : Pv} {i j : Nat} (h1 : parse (pre8 ++ x ++ [dotT]) = .ok p i) (h2 : parse (pre8 ++ (lpT :: x ++ [rpT]) ++ [dotT]) = .ok q j) : IsCond x p.when_ ∧ q.when_ = p.when_ := by
  have e1 := (parse_runs (k := x.length + 20 + 1) (l := pre8 ++ x ++ [dotT]) (by simp [pre8])).1 p i h1
  have e2 := (parse_runs (k := x.length + 20 + 1) (l := pre8 ++ (lpT :: x ++ [rpT]) ++ [dotT]) (by simp [pre8])).1 q j h2
  generalize x.length + 20 = n at *
  rw [List.append_assoc] at e1 e2
  have ez : lpT :: x ++ [rpT] ++ [dotT] = lpT :: (x ++ rpT :: [dotT]) := by simp
  rw [ez] at e2
  obtain ⟨⟨t1, l1, s1, c1⟩, z1, z2⟩ := rule_ok e1
  obtain ⟨⟨t2, l2, s2, c2⟩, _, _⟩ := rule_ok e2
  generalize hf : p.when_ = f at *
  obtain ⟨g1, r1, o1⟩ := several_ok c2
  obtain ⟨g0, r0, o2⟩ := several_ok o1
  obtain ⟨t, ht, c3⟩ := atom_open o2
  have c3' : (cond (n + 1)).runs (x ++ rpT :: [dotT]) = .ok g0 (t :: r0) := by
    rw [runs_fuel_cond (by rw [c3]; intro h; cases h), c3]
  -- the first one ends at the point
  have d1 : (cond (n + 1)).runs (x ++ [dotT]) = .ok f [dotT] := by
    obtain ⟨u, hu⟩ := runs_suffix _ _ _ _ c1
    rcases append_cases hu with ⟨z, hz1, hz2⟩ | ⟨z, hz1, _, hz2⟩
    · cases z with
      | nil => rw [List.nil_append] at hz2; rw [c1, hz2]
      | cons a z =>
        rw [List.cons_append, List.cons.injEq] at hz2
        obtain ⟨rfl, rfl⟩ := hz2
        rw [hz1, List.append_assoc] at c1
        have c4 := runs_agree _ u t1 _ (z ++ rpT :: [dotT]) f c1
        rw [hz1, List.append_assoc] at c3'
        rw [List.cons_append] at c3'
        rw [c4] at c3'
        simp only [SR.ok.injEq, List.cons.injEq] at c3'
        rw [c3'.2.1] at s1
        rw [ht] at s1
        exact absurd s1 (by decide)
    · have := congrArg List.length hz2
      cases z with
      | nil => exact absurd rfl hz1
      | cons a z => simp at this
  have d2 : (cond (n + 1)).runs (x ++ rpT :: [dotT]) = .ok g0 (rpT :: [dotT]) := by
    obtain ⟨u, hu⟩ := runs_suffix _ _ _ _ c3'
    rcases append_cases hu with ⟨z, hz1, hz2⟩ | ⟨z, hz1, _, hz2⟩
    · cases z with
      | nil => rw [List.nil_append] at hz2; rw [c3', hz2]
      | cons a z =>
        rw [List.cons_append, List.cons.injEq] at hz2
        obtain ⟨rfl, rfl⟩ := hz2
        rw [hz1, List.append_assoc] at c3'
        have c4 := runs_agree _ u t _ (z ++ [dotT]) g0 c3'
        rw [hz1, List.append_assoc, List.cons_append] at d1
        rw [d1] at c4
        simp only [SR.ok.injEq] at c4
        have := congrArg List.length c4.2
        simp at this
    · cases z with
      | nil => exact absurd rfl hz1
      | cons a z =>
        rw [List.cons_append, List.cons.injEq] at hz2
        obtain ⟨rfl, hz2⟩ := hz2
        cases z with
        | nil =>
          rw [List.nil_append, List.cons.injEq] at hz2
          rw [← hz2.1] at ht
          exact absurd ht (by decide)
        | cons b z =>
          have := congrArg List.length hz2
          simp at this
  have k1 := runs_cut _ _ _ _ d1
  have k2 := runs_cut _ _ _ _ d2
  rw [k1] at k2
  simp only [SR.ok.injEq, and_true] at k2
  subst k2
  have hX : ∀ k, n + 1 ≤ k → ∀ r, (cond k).runs (x ++ rpT :: r) = .ok f (rpT :: r) := by
    intro k hk r
    obtain ⟨d, rfl⟩ : ∃ d, k = n + 1 + d := ⟨k - (n + 1), by omega⟩
    have := runs_agree _ x rpT _ r f d2
    rw [runs_fuel_cond (by rw [this]; intro h; cases h), this]
  refine ⟨⟨z1, z2, n + 1, hX⟩, ?_⟩
  have a1 : (atom (n + 1)).runs (lpT :: (x ++ rpT :: [dotT])) = .ok f [dotT] := by
    rw [o2]
    rw [c3'] at d2
    simp only [SR.ok.injEq, List.cons.injEq] at d2
    rw [d2.2.2]
  have a2 := cond_atom a1 (by decide) (by decide)
  rw [a2] at c2
  simp only [SR.ok.injEq] at c2
  exact c2.1.symm

/-! ### What is made of conditions -/
/-- The tokens l are read as the condition f, of whatever size, ahead of a point. -/
def Makes (l : List Tok) (f : Fm) : Prop := ∃ K, ∀ k, K ≤ k → (cond k).runs (l ++ [dotT]) = .ok f [dotT]
theorem makes_paren {x : List Tok} {f : Fm} (h : IsCond x f) : Makes (lpT :: x ++ [rpT]) f := by
  obtain ⟨_, _, K, hK⟩ := h
  refine ⟨K + 1, fun k hk => ?_⟩
  obtain ⟨n, rfl⟩ : ∃ n, k = n + 1 := ⟨k - 1, by omega⟩
  have := atom_paren (fun r => hK n (by omega) r) [dotT]
  rw [show lpT :: x ++ [rpT] ++ [dotT] = lpT :: x ++ rpT :: [dotT] by simp]
  exact cond_atom this (by decide) (by decide)
theorem makes_not {x : List Tok} {f : Fm} (h : IsCond x f) : Makes (notT :: (lpT :: x ++ [rpT])) (.mk 5 [] 0 0 [f]) := by
  obtain ⟨_, _, K, hK⟩ := h
  refine ⟨K + 2, fun k hk => ?_⟩
  obtain ⟨n, rfl⟩ : ∃ n, k = n + 2 := ⟨k - 2, by omega⟩
  have := atom_not (atom_paren (fun r => hK n (by omega) r) [dotT])
  rw [show notT :: (lpT :: x ++ [rpT]) ++ [dotT] = notT :: (lpT :: x ++ rpT :: [dotT]) by simp]
  exact cond_atom this (by decide) (by decide)
theorem makes_join {x y : List Tok} {f g : Fm} (or : Bool) (h : IsCond x f) (h' : IsCond y g) : Makes (lpT :: x ++ rpT :: (wordT or :: (lpT :: y ++ [rpT]))) (if or then orJ [f, g] else andJ [f, g]) := by
  obtain ⟨_, _, K, hK⟩ := h
  obtain ⟨_, _, K', hK'⟩ := h'
  refine ⟨K + K' + 2, fun k hk => ?_⟩
  obtain ⟨n, rfl⟩ : ∃ n, k = n + 2 := ⟨k - 2, by omega⟩
  rw [show lpT :: x ++ rpT :: (wordT or :: (lpT :: y ++ [rpT])) ++ [dotT] = lpT :: x ++ rpT :: (wordT or :: (lpT :: y ++ rpT :: [dotT])) by simp]
  have a1 := atom_paren (fun r => hK (n + 1) (by omega) r) (wordT or :: (lpT :: y ++ rpT :: [dotT]))
  have a2 := atom_paren (fun r => hK' (n + 1) (by omega) r) [dotT]
  cases or with
  | false => exact several_one (several_two a1 (by decide) rfl a2 (by decide)) (by decide)
  | true => exact several_two (several_one a1 (by decide)) (by decide) rfl (several_one a2 (by decide)) (by decide)
theorem parse_made {l : List Tok} {f : Fm} (h : Makes l f) : (¬ (f.depth > 20 ∨ f.size > 200) → ∃ p i, parse (pre8 ++ l ++ [dotT]) = .ok p i ∧ p.when_ = f) ∧ (f.depth > 20 ∨ f.size > 200 → parse (pre8 ++ l ++ [dotT]) = .err 2 8) := by
  obtain ⟨K, hK⟩ := h
  have hc := hK (K + (pre8 ++ l ++ [dotT]).length + 1) (by omega)
  have hlt : (pre8 ++ l ++ [dotT]).length < K + (pre8 ++ l ++ [dotT]).length + 1 := by omega
  have hruns := parse_runs hlt
  generalize K + (pre8 ++ l ++ [dotT]).length + 1 = k at *
  rw [List.append_assoc] at *
  constructor
  · intro hn
    obtain ⟨p, hp⟩ := restX_dot k 3 [112] ksvR f
    have : (provision k).runs (pre8 ++ (l ++ [dotT])) = .ok p [] := by
      rw [runs_rule]
      unfold bounded
      simp only [runs]
      rw [runs_bind, hc]
      simp only [SR.bind]
      rw [if_neg hn]
      simp only [runs]
      exact hp
    exact ⟨p, _, hruns.2.1 p this, (restX_stop hp).1⟩
  · intro hn
    rw [parse_at hlt, run_rule]
    have hd : (cond k).runs ((pre8 ++ (l ++ [dotT])).drop 8) = .ok f [dotT] := hc
    obtain ⟨i', hi, _⟩ := (sim_cond k).ok hd
    unfold bounded
    simp only [run]
    rw [run_bind, hi]
    simp only [PR.bind]
    rw [if_pos hn]
    rfl
theorem rule_pos {h : UInt8} {r y : Str} {t : Tok} (hh : Lex.head h (r ++ 10 :: y) = .tok t) (en : Nat) {L : List (Tok × Nat)} (hs : Lex.scan ([98, 121, 108, 97, 119, 32, 112, 58, 32, 97, 110, 115, 119, 101, 114, 32, 113, 32, 105, 115, 32, 49, 32, 105, 102, 32] ++ (h :: r) ++ 10 :: y).length 0 ([98, 121, 108, 97, 119, 32, 112, 58, 32, 97, 110, 115, 119, 101, 114, 32, 113, 32, 105, 115, 32, 49, 32, 105, 102, 32] ++ (h :: r) ++ 10 :: y) = (L, none)) : posAt L en 8 = 26 := by
  have e : [98, 121, 108, 97, 119, 32, 112, 58, 32, 97, 110, 115, 119, 101, 114, 32, 113, 32, 105, 115, 32, 49, 32, 105, 102, 32] ++ (h :: r) ++ 10 :: y = [98, 121, 108, 97, 119, 32, 112, 58, 32, 97, 110, 115, 119, 101, 114, 32, 113, 32, 105, 115, 32, 49, 32, 105, 102] ++ 32 :: (h :: (r ++ 10 :: y)) := by simp
  rw [e] at hs
  have h1 : Lex.scan 25 0 [98, 121, 108, 97, 119, 32, 112, 58, 32, 97, 110, 115, 119, 101, 114, 32, 113, 32, 105, 115, 32, 49, 32, 105, 102] = ((Lex.scan 25 0 [98, 121, 108, 97, 119, 32, 112, 58, 32, 97, 110, 115, 119, 101, 114, 32, 113, 32, 105, 115, 32, 49, 32, 105, 102]).1, none) := by kernel_rfl
  have h2 : (Lex.scan 25 0 [98, 121, 108, 97, 119, 32, 112, 58, 32, 97, 110, 115, 119, 101, 114, 32, 113, 32, 105, 115, 32, 49, 32, 105, 102]).1.length = 8 := by kernel_rfl
  rw [Lex.scan_app (d := 32) (by decide) 25 _ ((r ++ 10 :: y).length + 1) 0 _ _ (.inr (by decide)) (by decide) (by simp; omega) (by simp), h1] at hs
  simp only [Prod.mk.injEq] at hs
  have h3 : L[8]? = some (t, 26) := by
    rw [← hs.1, List.getElem?_append_right (by rw [h2]; exact Nat.le_refl _), h2]
    simp only [Lex.scan, hh]
    rfl
  rw [posAt, h3]
theorem pure_read {x : Str} (hx : x.length ≤ 2000) {p q : Pv} (h1 : read (rule x) = .ok p) (h2 : read (rule (paren x)) = .ok q) : ∃ l, Lex.toks x = some l ∧ IsCond l p.when_ ∧ q.when_ = p.when_ := by
  obtain ⟨l1, i1, t1, _, p1⟩ := read_toks (by simp [rule]; omega) h1
  obtain ⟨l2, i2, t2, _, p2⟩ := read_toks (by simp [rule, paren]; omega) h2
  rw [toks_rule] at t1 t2
  have hp := toks_paren x []
  rw [List.append_nil, toks_nil] at hp
  rw [hp] at t2
  cases hl : Lex.toks x with
  | none => rw [hl] at t1; cases t1
  | some l =>
    rw [hl] at t1 t2
    simp only [Option.map_some, Option.bind_some, Option.some.injEq] at t1 t2
    subst t1 t2
    exact ⟨l, rfl, pure_cond p1 p2⟩
/-- What is read of a condition that is made. -/
theorem read_made {c : Str} {l : List Tok} {f : Fm} (hc : c.length ≤ 4500) (ht : Lex.toks c = some l) (hm : Makes l f) (hh : ∃ (h : UInt8) (r : Str) (t : Tok), c = h :: r ∧ ∀ y, Lex.head h (r ++ 10 :: y) = .tok t) :
    (¬ (f.depth > 20 ∨ f.size > 200) → ∃ p, read (rule c) = .ok p ∧ p.when_ = f) ∧ (f.depth > 20 ∨ f.size > 200 → read (rule c) = .error (2, 26)) := by
  have h20 : (rule c).length ≤ 20000 := by simp [rule]; omega
  have hr := toks_rule c
  rw [ht] at hr
  simp only [Option.map_some] at hr
  have hn := Lex.toks_count ht
  have h5 : (pre8 ++ l ++ [dotT]).length ≤ 5000 := by simp [pre8]; omega
  have hrd := toks_read h20 hr h5
  obtain ⟨m1, m2⟩ := parse_made hm
  constructor
  · intro h
    obtain ⟨p, i, hp, hw⟩ := m1 h
    exact ⟨p, by rw [hrd, hp], hw⟩
  · intro h
    rw [hrd, m2 h]
    obtain ⟨h, r, t, rfl, hh⟩ := hh
    obtain ⟨_, _, hs⟩ := Lex.toks_lex h20 hr h5
    have := rule_pos (hh [46]) (rule (h :: r)).length (L := (Lex.lex (rule (h :: r))).1) hs
    simp only [this]
    rfl
theorem head_lp (r : Str) : Lex.head 40 r = .tok ⟨3, [40], 0⟩ := rfl
theorem one_read {x : Str} (hx : x.length ≤ 2000) {p q : Pv} (h1 : read (rule x) = .ok p) (h2 : read (rule (paren x)) = .ok q) : q.when_ = p.when_ := by
  obtain ⟨l, _, _, h⟩ := pure_read hx h1 h2
  exact h
theorem not_read {x : Str} (hx : x.length ≤ 2000) {p q : Pv} (h1 : read (rule x) = .ok p) (h2 : read (rule (paren x)) = .ok q) :
    (¬ ((Fm.mk 5 [] 0 0 [p.when_]).depth > 20 ∨ (Fm.mk 5 [] 0 0 [p.when_]).size > 200) → ∃ r, read (rule ([110, 111, 116, 32] ++ paren x)) = .ok r ∧ r.when_ = .mk 5 [] 0 0 [p.when_]) ∧
    ((Fm.mk 5 [] 0 0 [p.when_]).depth > 20 ∨ (Fm.mk 5 [] 0 0 [p.when_]).size > 200 → read (rule ([110, 111, 116, 32] ++ paren x)) = .error (2, 26)) := by
  obtain ⟨l, ht, hc, _⟩ := pure_read hx h1 h2
  have hp := toks_paren x []
  rw [List.append_nil, toks_nil, ht] at hp
  refine read_made (l := notT :: (lpT :: l ++ [rpT])) (by simp [paren]; omega) (by rw [toks_not, hp]; rfl) (makes_not hc) ⟨110, [111, 116] ++ 32 :: paren x, ⟨1, [110, 111, 116], 0⟩, rfl, fun y => ?_⟩
  show Lex.head 110 ([111, 116] ++ 32 :: (paren x ++ 10 :: y)) = _
  rw [Lex.head_app (by decide) (.inr (by decide))]
  kernel_rfl
theorem join_read {x y : Str} (or : Bool) (hx : x.length ≤ 2000) (hy : y.length ≤ 2000) {p q p' q' : Pv} (h1 : read (rule x) = .ok p) (h2 : read (rule (paren x)) = .ok q) (h3 : read (rule y) = .ok p') (h4 : read (rule (paren y)) = .ok q') :
    (¬ ((if or then orJ [p.when_, p'.when_] else andJ [p.when_, p'.when_]).depth > 20 ∨ (if or then orJ [p.when_, p'.when_] else andJ [p.when_, p'.when_]).size > 200) → ∃ r, read (rule (paren x ++ word or ++ paren y)) = .ok r ∧ r.when_ = if or then orJ [p.when_, p'.when_] else andJ [p.when_, p'.when_]) ∧
    ((if or then orJ [p.when_, p'.when_] else andJ [p.when_, p'.when_]).depth > 20 ∨ (if or then orJ [p.when_, p'.when_] else andJ [p.when_, p'.when_]).size > 200 → read (rule (paren x ++ word or ++ paren y)) = .error (2, 26)) := by
  obtain ⟨l, ht, hc, _⟩ := pure_read hx h1 h2
  obtain ⟨l', ht', hc', _⟩ := pure_read hy h3 h4
  have hp := toks_paren y []
  rw [List.append_nil, toks_nil, ht'] at hp
  refine read_made (l := lpT :: l ++ rpT :: (wordT or :: (lpT :: l' ++ [rpT]))) (by cases or <;> simp [paren, word] <;> omega) (by rw [List.append_assoc, toks_paren, toks_word, hp, ht]; rfl) (makes_join or hc hc') ⟨40, x ++ [10, 41] ++ word or ++ paren y, ⟨3, [40], 0⟩, by simp [paren], fun y => head_lp _⟩
end North
end PD
