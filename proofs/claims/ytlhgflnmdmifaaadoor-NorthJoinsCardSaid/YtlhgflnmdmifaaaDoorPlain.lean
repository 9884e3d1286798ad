/- The readers and the lexer in plain Lean, and what holds of them. Without conditions. -/
/- A reader of tokens as a tree of tests, and what holds of every such reader. -/
namespace PD

/-- A token without its place. -/
structure Tok where
  kind : Nat
  text : List UInt8
  n : Nat
  deriving DecidableEq, Repr

/-- A reader: it looks at the next token, eats it if a test says so, raises errors. -/
inductive Tr (α : Type) where
  | ret (a : α)
  | bad
  | raise (e j : Nat)
  | out
  | here (k : Nat → Tr α)
  | test (q : Tok → Bool) (y : Tok → Tr α) (n : Tr α)

/-- What a reader comes to. -/
inductive PR (α : Type) where
  | ok (a : α) (i : Nat)
  | err (e j : Nat)
  | out
  deriving DecidableEq, Repr

namespace Tr
variable {α β : Type}

def bind : Tr α → (α → Tr β) → Tr β
  | .ret a, f => f a
  | .bad, _ => .bad
  | .raise e j, _ => .raise e j
  | .out, _ => .out
  | .here k, f => .here fun i => (k i).bind f
  | .test q y n, f => .test q (fun t => (y t).bind f) (n.bind f)

/-- The number of the error at the next token: ErrSyntax, or ErrEnd at the end. -/
def badAt (l : List Tok) (i : Nat) : Nat := if i < l.length then 5 else 6

def run (l : List Tok) : Tr α → Nat → PR α
  | .ret a, i => .ok a i
  | .bad, i => .err (badAt l i) i
  | .raise e j, _ => .err e j
  | .out, _ => .out
  | .here k, i => (k i).run l i
  | .test q y n, i => match l[i]? with
    | some t => if q t = true then (y t).run l (i + 1) else n.run l i
    | none => n.run l i

def _root_.PD.PR.bind : PR α → (α → Nat → PR β) → PR β
  | .ok a i, f => f a i
  | .err e j, _ => .err e j
  | .out, _ => .out

theorem run_bind (l : List Tok) (t : Tr α) (f : α → Tr β) : ∀ i, (t.bind f).run l i = (t.run l i).bind fun a i' => (f a).run l i' := by
  induction t with
  | ret a => intro i; rfl
  | bad => intro i; rfl
  | raise e j => intro i; rfl
  | out => intro i; rfl
  | here k ih => intro i; simp only [bind, run]; exact ih i i
  | test q y n ihy ihn =>
    intro i
    simp only [bind, run]
    cases l[i]? with
    | none => exact ihn i
    | some t =>
      simp only
      split
      · exact ihy t (i + 1)
      · exact ihn i

/-- A run only goes forward. -/
theorem run_le (l : List Tok) (t : Tr α) : ∀ i a i', i ≤ l.length → t.run l i = .ok a i' → i ≤ i' ∧ i' ≤ l.length := by
  induction t with
  | ret a => intro i b i' hi h; simp only [run, PR.ok.injEq] at h; omega
  | bad => intro i b i' hi h; simp [run] at h
  | raise e j => intro i b i' hi h; simp [run] at h
  | out => intro i b i' hi h; simp [run] at h
  | here k ih => intro i b i' hi h; exact ih i i b i' hi h
  | test q y n ihy ihn =>
    intro i b i' hi h
    simp only [run] at h
    cases hl : l[i]? with
    | none => rw [hl] at h; exact ihn i b i' hi h
    | some t =>
      rw [hl] at h
      have hlt : i < l.length := (List.getElem?_eq_some_iff.1 hl).1
      simp only at h
      split at h
      · have := ihy t (i + 1) b i' hlt h; omega
      · exact ihn i b i' hi h

/-- A run depends on the tokens up to where it ends, that one included. -/
theorem run_ok_agree (l l' : List Tok) (t : Tr α) : ∀ i a i', t.run l i = .ok a i' → (∀ j, j ≤ i' → l[j]? = l'[j]?) → i ≤ l.length → t.run l' i = .ok a i' := by
  induction t with
  | ret a => intro i b i' h _ _; exact h
  | bad => intro i b i' h; simp [run] at h
  | raise e j => intro i b i' h; simp [run] at h
  | out => intro i b i' h; simp [run] at h
  | here k ih => intro i b i' h hj hi; exact ih i i b i' h hj hi
  | test q y n ihy ihn =>
    intro i b i' h hj hi
    have hle := run_le l _ i b i' hi h
    simp only [run] at h ⊢
    rw [← hj i hle.1]
    cases hl : l[i]? with
    | none => rw [hl] at h; exact ihn i b i' h hj hi
    | some t =>
      rw [hl] at h
      have hlt : i < l.length := (List.getElem?_eq_some_iff.1 hl).1
      simp only at h ⊢
      split
      · rename_i hq; rw [if_pos hq] at h; exact ihy t (i + 1) b i' h hj hlt
      · rename_i hq; rw [if_neg hq] at h; exact ihn i b i' h hj hi

/-- A run that ends well before a token ends alike where that token is missing. -/
theorem run_ok_cut (l l' : List Tok) (t : Tr α) : ∀ i a i', t.run l i = .ok a i' → (∀ j, j < i' → l[j]? = l'[j]?) → l'[i']? = none → i ≤ l.length → t.run l' i = .ok a i' := by
  induction t with
  | ret a => intro i b i' h _ _ _; exact h
  | bad => intro i b i' h; simp [run] at h
  | raise e j => intro i b i' h; simp [run] at h
  | out => intro i b i' h; simp [run] at h
  | here k ih => intro i b i' h hj hn hi; exact ih i i b i' h hj hn hi
  | test q y n ihy ihn =>
    intro i b i' h hj hn hi
    have hle := run_le l _ i b i' hi h
    simp only [run] at h ⊢
    rcases Nat.lt_or_ge i i' with hlt' | hge
    · rw [← hj i hlt']
      cases hl : l[i]? with
      | none => rw [hl] at h; exact ihn i b i' h hj hn hi
      | some t =>
        rw [hl] at h
        have hlt : i < l.length := (List.getElem?_eq_some_iff.1 hl).1
        simp only at h ⊢
        split
        · rename_i hq; rw [if_pos hq] at h; exact ihy t (i + 1) b i' h hj hn hlt
        · rename_i hq; rw [if_neg hq] at h; exact ihn i b i' h hj hn hi
    · obtain rfl : i = i' := by omega
      rw [hn]
      simp only
      cases hl : l[i]? with
      | none => rw [hl] at h; exact ihn i b i h hj hn hi
      | some t =>
        rw [hl] at h
        have hlt : i < l.length := (List.getElem?_eq_some_iff.1 hl).1
        simp only at h
        split at h
        · have := run_le l _ (i + 1) b i hlt h; omega
        · exact ihn i b i h hj hn hi
end Tr
end PD
namespace PD
namespace Tr
variable {α β : Type}

/-- What every way through a reader meets: T of the tokens that it eats, P of its own errors, Q of its results. -/
def Sat (T : Tok → Prop) (P : Nat → Nat → Nat → Prop) (Q : α → Nat → Prop) : Tr α → Nat → Prop
  | .ret a, i => Q a i
  | .bad, _ => True
  | .raise e j, i => P e j i
  | .out, _ => True
  | .here k, i => (k i).Sat T P Q i
  | .test q y n, i => (∀ t, T t → q t = true → (y t).Sat T P Q (i + 1)) ∧ n.Sat T P Q i

theorem Sat.bind {T : Tok → Prop} {P : Nat → Nat → Nat → Prop} {Q : α → Nat → Prop} {Q' : β → Nat → Prop} {f : α → Tr β} {t : Tr α} :
    ∀ {i}, t.Sat T P Q i → (∀ a i', Q a i' → (f a).Sat T P Q' i') → (t.bind f).Sat T P Q' i := by
  induction t with
  | ret a => intro i h hf; exact hf a i h
  | bad => intro i _ _; trivial
  | raise e j => intro i h _; exact h
  | out => intro i _ _; trivial
  | here k ih => intro i h hf; exact ih i h hf
  | test q y n ihy ihn => intro i h hf; exact ⟨fun t ht hq => ihy t (h.1 t ht hq) hf, ihn h.2 hf⟩

theorem Sat.mono {T : Tok → Prop} {P P' : Nat → Nat → Nat → Prop} {Q Q' : α → Nat → Prop} {t : Tr α} :
    ∀ {i}, t.Sat T P Q i → (∀ e j i, P e j i → P' e j i) → (∀ a i, Q a i → Q' a i) → t.Sat T P' Q' i := by
  induction t with
  | ret a => intro i h _ hq; exact hq a i h
  | bad => intro i _ _ _; trivial
  | raise e j => intro i h hp _; exact hp _ _ _ h
  | out => intro i _ _ _; trivial
  | here k ih => intro i h hp hq; exact ih i h hp hq
  | test q y n ihy ihn => intro i h hp hq; exact ⟨fun t ht hqt => ihy t (h.1 t ht hqt) hp hq, ihn h.2 hp hq⟩

/-- What a run comes to, if every way meets it. -/
theorem Sat.run {T : Tok → Prop} {P : Nat → Nat → Nat → Prop} {Q : α → Nat → Prop} (l : List Tok) (hl : ∀ t ∈ l, T t) {t : Tr α} :
    ∀ {i}, t.Sat T P Q i → i ≤ l.length → match t.run l i with
      | .ok a i' => Q a i'
      | .err e j => (e = badAt l j ∧ j ≤ l.length) ∨ ∃ i', P e j i' ∧ i' ≤ l.length
      | .out => True := by
  induction t with
  | ret a => intro i h _; exact h
  | bad => intro i _ hi; exact .inl ⟨rfl, hi⟩
  | raise e j => intro i h hi; exact .inr ⟨i, h, hi⟩
  | out => intro i _ _; trivial
  | here k ih => intro i h hi; exact ih i h hi
  | test q y n ihy ihn =>
    intro i h hi
    simp only [Tr.run]
    cases hg : l[i]? with
    | none => exact ihn h.2 hi
    | some t =>
      have hlt : i < l.length := (List.getElem?_eq_some_iff.1 hg).1
      simp only
      by_cases hq : q t = true
      · rw [if_pos hq]; exact ihy t (h.1 t (hl t (List.mem_of_getElem? hg)) hq) hlt
      · rw [if_neg hq]; exact ihn h.2 hi

/-- An error at the next token lies at or behind the beginning. -/
theorem run_bad_ge (l : List Tok) (t : Tr α) {P : Nat → Nat → Nat → Prop} {Q : α → Nat → Prop} : ∀ i j, t.Sat (fun _ => True) P Q i → (∀ e j i, P e j i → e ≠ 5) → t.run l i = .err 5 j → i ≤ j ∧ j < l.length := by
  induction t with
  | ret a => intro i j _ _ h; simp [Tr.run] at h
  | bad =>
    intro i j _ _ h
    simp only [Tr.run, PR.err.injEq, badAt] at h
    obtain ⟨h1, rfl⟩ := h
    refine ⟨Nat.le_refl _, ?_⟩
    rcases Nat.lt_or_ge i l.length with h | h
    · exact h
    · rw [if_neg (by omega)] at h1; omega
  | raise e j =>
    intro i j' hs hp h
    simp only [Tr.run, PR.err.injEq] at h
    exact absurd h.1 (hp _ _ _ hs)
  | out => intro i j _ _ h; simp [Tr.run] at h
  | here k ih => intro i j hs hp h; exact ih i i j hs hp h
  | test q y n ihy ihn =>
    intro i j hs hp h
    simp only [Tr.run] at h
    cases hg : l[i]? with
    | none => rw [hg] at h; exact ihn i j hs.2 hp h
    | some t =>
      rw [hg] at h
      simp only at h
      split at h
      · rename_i hq; have := ihy t (i + 1) j (hs.1 t trivial hq) hp h; omega
      · exact ihn i j hs.2 hp h

/-- An error at the next token stays, whatever follows it; where the token is missing, the text has an end there. -/
theorem run_bad (l : List Tok) (t : Tr α) {P : Nat → Nat → Nat → Prop} {Q : α → Nat → Prop} : ∀ i j, t.Sat (fun _ => True) P Q i → (∀ e j i, P e j i → e ≠ 5) → t.run l i = .err 5 j →
    (∀ l' : List Tok, (∀ k, k ≤ j → l[k]? = l'[k]?) → t.run l' i = .err 5 j) ∧ (∀ l' : List Tok, (∀ k, k < j → l[k]? = l'[k]?) → l'.length = j → t.run l' i = .err 6 j) := by
  induction t with
  | ret a => intro i j _ _ h; simp [Tr.run] at h
  | bad =>
    intro i j hs hp h
    have hlt := (run_bad_ge l .bad i j hs hp h).2
    simp only [Tr.run, PR.err.injEq, badAt] at h
    obtain ⟨h1, rfl⟩ := h
    refine ⟨fun l' hl => ?_, fun l' hl hn => ?_⟩
    · have : i < l'.length := by
        have h2 := hl i (Nat.le_refl _)
        rw [List.getElem?_eq_getElem hlt] at h2
        exact (List.getElem?_eq_some_iff.1 h2.symm).1
      simp [Tr.run, badAt, this]
    · simp [Tr.run, badAt, hn]
  | raise e j =>
    intro i j' hs hp h
    simp only [Tr.run, PR.err.injEq] at h
    exact absurd h.1 (hp _ _ _ hs)
  | out => intro i j _ _ h; simp [Tr.run] at h
  | here k ih => intro i j hs hp h; exact ih i i j hs hp h
  | test q y n ihy ihn =>
    intro i j hs hp h
    have hge := run_bad_ge l _ i j hs hp h
    simp only [Tr.run] at h
    have hg : l[i]? = some (l[i]'(by omega)) := List.getElem?_eq_getElem (by omega)
    rw [hg] at h
    simp only at h
    split at h
    · rename_i hq
      have hge := run_bad_ge l (y _) (i + 1) j (hs.1 _ trivial hq) hp h
      obtain ⟨h2, h3⟩ := ihy _ (i + 1) j (hs.1 _ trivial hq) hp h
      refine ⟨fun l' hl => ?_, fun l' hl hn => ?_⟩
      · simp only [Tr.run]; rw [← hl i (by omega), hg]; simp only; rw [if_pos hq]; exact h2 l' hl
      · simp only [Tr.run]; rw [← hl i (by omega), hg]; simp only; rw [if_pos hq]; exact h3 l' hl hn
    · rename_i hq
      obtain ⟨h2, h3⟩ := ihn i j hs.2 hp h
      refine ⟨fun l' hl => ?_, fun l' hl hn => ?_⟩
      · simp only [Tr.run]; rw [← hl i (by omega), hg]; simp only; rw [if_neg hq]; exact h2 l' hl
      · simp only [Tr.run]
        rcases Nat.lt_or_ge i j with hij | hij
        · rw [← hl i hij, hg]; simp only; rw [if_neg hq]; exact h3 l' hl hn
        · rw [List.getElem?_eq_none (by omega)]; exact h3 l' hl hn
end Tr
end PD
/- The first language as a reader. -/
namespace PD
abbrev Str := List UInt8

inductive Fm where
  | mk (op : Int) (name : Str) (cmp : Int) (n : Int) (kids : List Fm)
inductive St where
  | mk (op : Int) (name : Str) (day : Int) (kids : List St)
structure Pv where
  id : Str
  rank : Int
  kind : Int
  name : Str
  value : Int
  when_ : Fm
  except : List Str
  begin_ : St
  end_ : St
  again : St

/-- The index of a text in a list. -/
def idx (l : List Str) (s : Str) : Option Nat := match l with
  | [] => none
  | x :: r => if s = x then some 0 else (idx r s).map (· + 1)

namespace Tr
def take (ws : List Str) : Tr (Option Nat) := .test (fun t => t.kind != 2 && (idx ws t.text).isSome) (fun t => .ret (idx ws t.text)) (.ret none)
def must (ws : List Str) : Tr Nat := (take ws).bind fun
  | some i => .ret i
  | none => .bad
def name (isKey : Str → Bool) : Tr Str := .test (fun t => t.kind == 1 && !isKey t.text) (fun t => .ret t.text) .bad
def number (most : Nat) : Tr Nat := .test (fun t => t.kind == 2) (fun t => if t.n > most then .here (fun i => .raise 10 (i - 1)) else .ret t.n) .bad

/-- What follows the first one of several things that are joined by a word. -/
def more {α : Type} (word : Str) (one : Tr α) : Nat → List α → Tr (List α)
  | 0, _ => .out
  | k + 1, acc => (take [word]).bind fun
    | some _ => one.bind fun x => more word one k (acc ++ [x])
    | none => .ret acc
def joined {α : Type} (join : List α → α) : List α → α
  | [x] => x
  | l => join l
def several {α : Type} (k : Nat) (word : Str) (one : Tr α) (join : List α → α) : Tr α :=
  one.bind fun x => (more word one k [x]).bind fun l => .ret (joined join l)
/-- A condition of limited size and depth. -/
def bounded {α : Type} (read : Tr α) (size depth : α → Nat) : Tr α :=
  .here fun at_ => read.bind fun x => if depth x > 20 ∨ size x > 200 then .raise 2 at_ else .ret x
end Tr

mutual
def Fm.size : Fm → Nat
  | .mk _ _ _ _ ks => 1 + Fm.sizes ks
def Fm.sizes : List Fm → Nat
  | [] => 0
  | k :: ks => k.size + Fm.sizes ks
end
mutual
def Fm.depth : Fm → Nat
  | .mk _ _ _ _ ks => Fm.depths ks + 1
def Fm.depths : List Fm → Nat
  | [] => 0
  | k :: ks => max k.depth (Fm.depths ks)
end
mutual
def St.size : St → Nat
  | .mk _ _ _ ks => 1 + St.sizes ks
def St.sizes : List St → Nat
  | [] => 0
  | k :: ks => k.size + St.sizes ks
end
mutual
def St.depth : St → Nat
  | .mk _ _ _ ks => St.depths ks + 1
def St.depths : List St → Nat
  | [] => 0
  | k :: ks => max k.depth (St.depths ks)
end

namespace North
open Tr
def keys : List Str := [[99, 111, 110, 115, 116, 105, 116, 117, 116, 105, 111, 110], [97, 99, 116], [114, 101, 103, 117, 108, 97, 116, 105, 111, 110], [98, 121, 108, 97, 119], [100, 101, 102, 105, 110, 101], [97, 110, 115, 119, 101, 114], [105, 115], [105, 102], [110, 111, 116, 119, 105, 116, 104, 115, 116, 97, 110, 100, 105, 110, 103], [102, 114, 111, 109], [117, 110, 116, 105, 108], [97, 103, 97, 105, 110], [111, 114], [97, 110, 100], [110, 111, 116], [116, 114, 117, 101], [102, 97, 108, 115, 101], [97, 108, 119, 97, 121, 115], [110, 101, 118, 101, 114], [100, 97, 121], [111, 114, 100, 101, 114], [101, 118, 101, 110, 116], [98, 101, 103, 117, 110], [111, 118, 101, 114]]
def isKey (s : Str) : Bool := keys.contains s
def fm0 (op : Int) : Fm := .mk op [] 0 0 []
def st0 (op : Int) : St := .mk op [] 0 []
def nm : Tr Str := Tr.name isKey
def andJ (l : List Fm) : Fm := .mk 6 [] 0 0 l
def orJ (l : List Fm) : Fm := .mk 7 [] 0 0 l
def allJ (l : List St) : St := .mk 8 [] 0 l
def anyJ (l : List St) : St := .mk 9 [] 0 l
/-- A condition without and and or. -/
def atom : Nat → Tr Fm
  | 0 => .out
  | k + 1 => (take [[110, 111, 116], [40], [116, 114, 117, 101], [102, 97, 108, 115, 101]]).bind fun
    | some 0 => (atom k).bind fun f => .ret (.mk 5 [] 0 0 [f])
    | some 1 => (several k [111, 114] (several k [97, 110, 100] (atom k) andJ) orJ).bind fun f => (must [[41]]).bind fun _ => .ret f
    | some 2 => .ret (fm0 1)
    | some 3 => .ret (fm0 2)
    | _ => nm.bind fun s => (take [[61], [33, 61], [60], [60, 61], [62], [62, 61]]).bind fun
      | some c => (number 1000000).bind fun n => .ret (.mk 3 s (1 + c) n [])
      | none => .ret (.mk 4 s 0 0 [])
def and_ (k : Nat) : Tr Fm := several k [97, 110, 100] (atom k) andJ
def cond (k : Nat) : Tr Fm := several k [111, 114] (and_ k) orJ
def one : Nat → Tr St
  | 0 => .out
  | k + 1 => (must [[97, 108, 119, 97, 121, 115], [110, 101, 118, 101, 114], [100, 97, 121], [40], [111, 114, 100, 101, 114], [101, 118, 101, 110, 116], [98, 101, 103, 117, 110], [111, 118, 101, 114]]).bind fun
    | 0 => .ret (st0 1)
    | 1 => .ret (st0 2)
    | 2 => (number 1000000).bind fun n => .ret (.mk 3 [] n [])
    | 3 => (several k [111, 114] (several k [97, 110, 100] (one k) allJ) anyJ).bind fun s => (must [[41]]).bind fun _ => .ret s
    | i => nm.bind fun s => .ret (.mk (4 + (i - 4 : Nat)) s 0 [])
def all (k : Nat) : Tr St := several k [97, 110, 100] (one k) allJ
def start (k : Nat) : Tr St := several k [111, 114] (all k) anyJ
def part (k : Nat) (word : Str) (otherwise : Int) : Tr St := (take [word]).bind fun
  | some _ => bounded (start k) St.size St.depth
  | none => .ret (st0 otherwise)
def except : Nat → List Str → Tr (List Str)
  | 0, _ => .out
  | k + 1, acc => .here fun at_ => nm.bind fun s =>
    if acc.contains s then .raise 9 at_
    else if acc.length = 20 then .raise 2 at_
    else (take [[44]]).bind fun
      | some _ => except k (acc ++ [s])
      | none => .ret (acc ++ [s])
def provision (k : Nat) : Tr Pv :=
  (must [[99, 111, 110, 115, 116, 105, 116, 117, 116, 105, 111, 110], [97, 99, 116], [114, 101, 103, 117, 108, 97, 116, 105, 111, 110], [98, 121, 108, 97, 119]]).bind fun r => nm.bind fun id => (must [[58]]).bind fun _ =>
  (must [[100, 101, 102, 105, 110, 101], [97, 110, 115, 119, 101, 114]]).bind fun d =>
  (if d = 0 then nm.bind fun s => .ret (1, s, 0) else nm.bind fun s => (must [[105, 115]]).bind fun _ => (number 1000000).bind fun v => .ret ((2 : Int), s, v)).bind fun ksv =>
  ((take [[105, 102]]).bind fun
    | some _ => bounded (cond k) Fm.size Fm.depth
    | none => .ret (fm0 1)).bind fun w =>
  ((take [[110, 111, 116, 119, 105, 116, 104, 115, 116, 97, 110, 100, 105, 110, 103]]).bind fun
    | some _ => except k []
    | none => .ret []).bind fun ex =>
  (part k [102, 114, 111, 109] 1).bind fun b => (part k [117, 110, 116, 105, 108] 2).bind fun e => (part k [97, 103, 97, 105, 110] 2).bind fun a =>
  (must [[46]]).bind fun _ => .ret { id, rank := 1 + r, kind := ksv.1, name := ksv.2.1, value := ksv.2.2, when_ := w, except := ex, begin_ := b, end_ := e, again := a }
/-- The provision of a list of tokens, or an error at one of them. -/
def parse (l : List Tok) : PR Pv := match (provision (l.length + 1)).run l 0 with
  | .ok p i => if i < l.length then .err 5 i else .ok p i
  | r => r
end North
end PD
/- The tokens of a text, in plain Lean. -/
namespace PD
namespace Lex
def isLetter (c : UInt8) : Bool := (97 ≤ c && c ≤ 122) || (65 ≤ c && c ≤ 90)
def isDigit (c : UInt8) : Bool := 48 ≤ c && c ≤ 57
def isBlank (c : UInt8) : Bool := c == 32 || c == 9 || c == 10
/-- ; , . : ( ) [ ] { } = -/
def isSymbol (c : UInt8) : Bool := c == 59 || c == 44 || c == 46 || c == 58 || c == 40 || c == 41 || c == 91 || c == 93 || c == 123 || c == 125 || c == 61
def isPrefix (c : UInt8) : Bool := c == 60 || c == 62
/-- other 0, blank 1, hash 2, letter 3, digit 4, under 5, symbol 6, prefix 7, bang 8 -/
def cls (c : UInt8) : Nat :=
  if c == 35 then 2 else if c == 95 then 5 else if c == 33 then 8
  else if isLetter c then 3 else if isDigit c then 4 else if isBlank c then 1 else if isSymbol c then 6 else if isPrefix c then 7 else 0
def isWord (c : UInt8) : Bool := isLetter c || isDigit c || c == 95
def numOf (l : List UInt8) : Nat := l.foldl (fun n c => n * 10 + (c.toNat - 48)) 0

/-- What stands at the head of a text: a gap of some bytes, a token, or an error. -/
inductive Item where
  | gap (n : Nat)
  | tok (t : Tok)
  | err (e : Nat)
  deriving Repr
def nameItem (w : List UInt8) : Item := if w.length > 24 then .err 2 else .tok ⟨1, w, 0⟩
def goesOn (l : List UInt8) : Bool := match l with
  | [] => false
  | d :: _ => isLetter d || d == 95
def numItem (w : List UInt8) (on : Bool) : Item := if w.length > 7 ∨ on = true then .err 4 else .tok ⟨2, w, numOf w⟩
def isEq (l : List UInt8) : Bool := l.head? == some 61
def head (c : UInt8) (r : List UInt8) : Item :=
  if cls c = 1 then .gap 1
  else if cls c = 2 then .gap (1 + (r.takeWhile (· != 10)).length)
  else if cls c = 3 then nameItem (c :: r.takeWhile isWord)
  else if cls c = 4 then numItem (c :: r.takeWhile isDigit) (goesOn (r.dropWhile isDigit))
  else if cls c = 6 then .tok ⟨3, [c], 0⟩
  else if cls c = 7 then (if isEq r = true then .tok ⟨3, [c, 61], 0⟩ else .tok ⟨3, [c], 0⟩)
  else if cls c = 8 then (if isEq r = true then .tok ⟨3, [c, 61], 0⟩ else .err 3)
  else .err 3

/-- The tokens with their places, from place pos on, and the error that ends them. -/
def scan : Nat → Nat → List UInt8 → List (Tok × Nat) × Option (Nat × Nat)
  | 0, _, _ => ([], none)
  | _ + 1, _, [] => ([], none)
  | k + 1, pos, c :: r => match head c r with
    | .gap n => scan k (pos + n) (r.drop (n - 1))
    | .tok t => let q := scan k (pos + t.text.length) (r.drop (t.text.length - 1)); ((t, pos) :: q.1, q.2)
    | .err e => ([], some (e, pos))
/-- The tokens of a text, or an error and its place. -/
def lex (s : List UInt8) : List (Tok × Nat) × Nat × Int :=
  if s.length > 20000 then ([], 2, -1)
  else let q := scan s.length 0 s
    match q.1[5000]? with
    | some t => ([], 2, t.2)
    | none => match q.2 with
      | some (e, at_) => ([], e, at_)
      | none => (q.1, 0, 0)
end Lex
end PD
/- What holds of the tokens of texts that are joined and cut. -/
namespace PD
namespace Lex

theorem takeWhile_app {α : Type} (p : α → Bool) (d : α) (hd : p d = false) (y : List α) : ∀ r : List α, (r ++ d :: y).takeWhile p = r.takeWhile p
  | [] => by simp [List.takeWhile, hd]
  | c :: r => by
    simp only [List.cons_append, List.takeWhile]
    split
    · rw [takeWhile_app p d hd y r]
    · rfl
theorem dropWhile_app {α : Type} (p : α → Bool) (d : α) (hd : p d = false) (y : List α) : ∀ r : List α, (r ++ d :: y).dropWhile p = r.dropWhile p ++ d :: y
  | [] => by simp [List.dropWhile, hd]
  | c :: r => by
    simp only [List.cons_append, List.dropWhile]
    split
    · rw [dropWhile_app p d hd y r]
    · rfl

theorem blank_cases {d : UInt8} (h : isBlank d = true) : d = 32 ∨ d = 9 ∨ d = 10 := by
  simpa [isBlank, or_assoc] using h

theorem takeWhile_len {α : Type} (p : α → Bool) (r : List α) : (r.takeWhile p).length ≤ r.length := List.Sublist.length_le (List.takeWhile_sublist p)
theorem takeWhile_take {α : Type} (p : α → Bool) : ∀ r : List α, r.takeWhile p = r.take (r.takeWhile p).length
  | [] => rfl
  | c :: r => by
    simp only [List.takeWhile]
    split
    · simp only [List.length_cons, List.take_succ_cons]; rw [← takeWhile_take p r]
    · rfl

/-- A gap or a blank behind a text's item changes nothing in it. -/
theorem head_app {c d : UInt8} {r y : List UInt8} (hd : isBlank d = true) (hc : d = 10 ∨ c ≠ 35) : head c (r ++ d :: y) = head c r := by
  have hw : isWord d = false := by rcases blank_cases hd with rfl | rfl | rfl <;> decide
  have hg : isDigit d = false := by rcases blank_cases hd with rfl | rfl | rfl <;> decide
  have hl : isLetter d = false := by rcases blank_cases hd with rfl | rfl | rfl <;> decide
  have h95 : (d == 95) = false := by rcases blank_cases hd with rfl | rfl | rfl <;> decide
  have h61 : d ≠ 61 := by rcases blank_cases hd with rfl | rfl | rfl <;> decide
  have he : isEq (r ++ d :: y) = isEq r := by
    cases r with
    | nil => simp [isEq, h61]
    | cons a b => rfl
  have hgo : goesOn (r.dropWhile isDigit ++ d :: y) = goesOn (r.dropWhile isDigit) := by
    cases r.dropWhile isDigit with
    | nil => simp [goesOn, hl, h95]
    | cons a b => rfl
  unfold head
  rw [takeWhile_app isWord d hw, takeWhile_app isDigit d hg, dropWhile_app isDigit d hg, he, hgo]
  by_cases h2 : cls c = 2
  · rcases hc with rfl | hc
    · rw [takeWhile_app (· != 10) 10 (by decide)]
    · exfalso
      unfold cls at h2
      rw [if_neg (by simpa using hc)] at h2
      repeat' split at h2
      all_goals simp at h2
  · simp only [if_neg h2]

/-- An item's length. -/
def Item.len : Item → Nat
  | .gap n => n
  | .tok t => t.text.length
  | .err _ => 0

theorem nameItem_gap {w : List UInt8} {n : Nat} : nameItem w ≠ .gap n := by unfold nameItem; split <;> simp
theorem numItem_gap {w : List UInt8} {b : Bool} {n : Nat} : numItem w b ≠ .gap n := by unfold numItem; split <;> simp
theorem nameItem_tok {w : List UInt8} {t : Tok} (h : nameItem w = .tok t) : t = ⟨1, w, 0⟩ ∧ w.length ≤ 24 := by
  unfold nameItem at h
  split at h
  · simp at h
  · simp only [Item.tok.injEq] at h; exact ⟨h.symm, by omega⟩
theorem numItem_tok {w : List UInt8} {b : Bool} {t : Tok} (h : numItem w b = .tok t) : t = ⟨2, w, numOf w⟩ ∧ w.length ≤ 7 ∧ b = false := by
  unfold numItem at h
  split at h
  · simp at h
  · rename_i hn
    simp only [Item.tok.injEq] at h
    refine ⟨h.symm, by omega, ?_⟩
    cases b
    · rfl
    · simp at hn

/-- The ways of an item. -/
theorem head_cases (c : UInt8) (r : List UInt8) : (cls c = 1 ∧ head c r = .gap 1) ∨ (cls c = 2 ∧ head c r = .gap (1 + (r.takeWhile (· != 10)).length)) ∨
    (cls c = 3 ∧ head c r = nameItem (c :: r.takeWhile isWord)) ∨ (cls c = 4 ∧ head c r = numItem (c :: r.takeWhile isDigit) (goesOn (r.dropWhile isDigit))) ∨
    (cls c = 6 ∧ head c r = .tok ⟨3, [c], 0⟩) ∨ ((cls c = 7 ∨ cls c = 8) ∧ isEq r = true ∧ head c r = .tok ⟨3, [c, 61], 0⟩) ∨ (cls c = 7 ∧ isEq r = false ∧ head c r = .tok ⟨3, [c], 0⟩) ∨
    head c r = .err 3 := by
  unfold head
  by_cases h1 : cls c = 1
  · simp [h1]
  by_cases h2 : cls c = 2
  · simp [h2]
  by_cases h3 : cls c = 3
  · simp [h3]
  by_cases h4 : cls c = 4
  · simp [h4]
  by_cases h6 : cls c = 6
  · simp [h6]
  by_cases h7 : cls c = 7
  · cases he : isEq r <;> simp [h7]
  by_cases h8 : cls c = 8
  · cases he : isEq r <;> simp [h8]
  simp [h1, h2, h3, h4, h6, h7, h8]

theorem head_gap {c : UInt8} {r : List UInt8} {n : Nat} (h : head c r = .gap n) : 1 ≤ n ∧ n ≤ 1 + r.length := by
  rcases head_cases c r with ⟨_, e⟩ | ⟨_, e⟩ | ⟨_, e⟩ | ⟨_, e⟩ | ⟨_, e⟩ | ⟨_, _, e⟩ | ⟨_, _, e⟩ | e <;> rw [e] at h
  · simp at h; omega
  · have := takeWhile_len (· != 10) r; simp at h; omega
  · exact absurd h nameItem_gap
  · exact absurd h numItem_gap
  all_goals simp at h

theorem isEq_true {r : List UInt8} (h : isEq r = true) : ∃ q, r = 61 :: q := by
  cases r with
  | nil => simp [isEq] at h
  | cons a b => simp [isEq] at h; exact ⟨b, by rw [h]⟩

theorem head_tok {c : UInt8} {r : List UInt8} {t : Tok} (h : head c r = .tok t) : 1 ≤ t.text.length ∧ t.text.length ≤ 1 + r.length ∧ t.text = (c :: r).take t.text.length := by
  rcases head_cases c r with ⟨_, e⟩ | ⟨_, e⟩ | ⟨_, e⟩ | ⟨_, e⟩ | ⟨_, e⟩ | ⟨_, he, e⟩ | ⟨_, _, e⟩ | e <;> rw [e] at h
  · simp at h
  · simp at h
  · obtain ⟨rfl, _⟩ := nameItem_tok h
    have := takeWhile_len isWord r
    simp only [List.length_cons, List.take_succ_cons]
    exact ⟨by omega, by omega, by rw [← takeWhile_take]⟩
  · obtain ⟨rfl, _⟩ := numItem_tok h
    have := takeWhile_len isDigit r
    simp only [List.length_cons, List.take_succ_cons]
    exact ⟨by omega, by omega, by rw [← takeWhile_take]⟩
  · simp only [Item.tok.injEq] at h; subst h; simp
  · obtain ⟨q, rfl⟩ := isEq_true he
    simp only [Item.tok.injEq] at h; subst h; simp; omega
  · simp only [Item.tok.injEq] at h; subst h; simp
  · simp at h

/-- Enough rounds are enough. -/
theorem scan_fuel : ∀ (k k' pos : Nat) (s : List UInt8), s.length ≤ k → s.length ≤ k' → scan k pos s = scan k' pos s := by
  intro k
  induction k with
  | zero =>
    intro k' pos s h h'
    have : s = [] := List.eq_nil_of_length_eq_zero (by omega)
    subst this
    cases k' <;> rfl
  | succ k ih =>
    intro k' pos s h h'
    cases s with
    | nil => cases k' <;> rfl
    | cons c r =>
      obtain ⟨k', rfl⟩ : ∃ m, k' = m + 1 := ⟨k' - 1, by simp at h'; omega⟩
      simp only [List.length_cons] at h h'
      simp only [scan]
      split
      · rw [ih k' _ _ (by simp; omega) (by simp; omega)]
      · rw [ih k' _ _ (by simp; omega) (by simp; omega)]
      · rfl

theorem drop_app {α : Type} {n : Nat} {r y : List α} (h : n ≤ r.length) : (r ++ y).drop n = r.drop n ++ y := by
  rw [List.drop_append_of_le_length h]

/-- The tokens of two texts with a blank between them. -/
theorem scan_app {d : UInt8} (hd : isBlank d = true) : ∀ (k k' k'' pos : Nat) (x y : List UInt8), (d = 10 ∨ (35 : UInt8) ∉ x) → x.length ≤ k → x.length + 1 + y.length ≤ k' → y.length ≤ k'' →
    scan k' pos (x ++ d :: y) = match (scan k pos x).2 with
      | some e => ((scan k pos x).1, some e)
      | none => ((scan k pos x).1 ++ (scan k'' (pos + x.length + 1) y).1, (scan k'' (pos + x.length + 1) y).2) := by
  intro k
  induction k with
  | zero =>
    intro k' k'' pos x y _ h h' h''
    have : x = [] := List.eq_nil_of_length_eq_zero (by omega)
    subst this
    obtain ⟨k', rfl⟩ : ∃ m, k' = m + 1 := ⟨k' - 1, by simp at h'; omega⟩
    have hh : head d y = .gap 1 := by
      unfold head
      have : cls d = 1 := by rcases blank_cases hd with rfl | rfl | rfl <;> decide
      rw [if_pos this]
    simp only [List.nil_append, scan, hh, Nat.sub_self, List.drop_zero, List.length_nil, Nat.add_zero]
    rw [scan_fuel k' k'' _ y (by simp at h'; omega) h'']
  | succ k ih =>
    intro k' k'' pos x y hx h h' h''
    obtain ⟨k', rfl⟩ : ∃ m, k' = m + 1 := ⟨k' - 1, by omega⟩
    cases x with
    | nil =>
      have hh : head d y = .gap 1 := by
        unfold head
        have : cls d = 1 := by rcases blank_cases hd with rfl | rfl | rfl <;> decide
        rw [if_pos this]
      simp only [List.nil_append, scan, hh, Nat.sub_self, List.drop_zero, List.length_nil, Nat.add_zero]
      rw [scan_fuel k' k'' _ y (by simp at h'; omega) h'']
    | cons c r =>
      simp only [List.length_cons] at h h'
      have hc : d = 10 ∨ c ≠ 35 := hx.imp id fun h e => h (by simp [e])
      have hr : ∀ n, d = 10 ∨ (35 : UInt8) ∉ r.drop n := fun n => hx.imp id fun h e => h (List.mem_cons_of_mem _ (List.mem_of_mem_drop e))
      simp only [List.cons_append, scan]
      rw [head_app hd hc]
      cases hh : head c r with
      | gap n =>
        have hn := head_gap hh
        simp only
        rw [drop_app (by omega), ih k' k'' (pos + n) (r.drop (n - 1)) y (hr _) (by simp; omega) (by simp; omega) h'']
        have e : pos + n + (r.drop (n - 1)).length + 1 = pos + (r.length + 1) + 1 := by simp; omega
        simp only [List.length_cons, e]
      | tok t =>
        have hn := head_tok hh
        simp only
        rw [drop_app (by omega), ih k' k'' (pos + t.text.length) (r.drop (t.text.length - 1)) y (hr _) (by simp; omega) (by simp; omega) h'']
        have e : pos + t.text.length + (r.drop (t.text.length - 1)).length + 1 = pos + (r.length + 1) + 1 := by simp; omega
        simp only [List.length_cons, e]
        cases hs : (scan k (pos + t.text.length) (r.drop (t.text.length - 1))).2 <;> simp
      | err e => rfl

theorem takeWhile_cut {α : Type} (p : α → Bool) : ∀ (r : List α) (m : Nat), (r.takeWhile p).length ≤ m → (r.take m).takeWhile p = r.takeWhile p
  | [], m, _ => by simp
  | c :: r, m, h => by
    cases m with
    | zero =>
      simp only [List.takeWhile] at h ⊢
      split at h
      · simp at h
      · simp
    | succ m =>
      simp only [List.take_succ_cons, List.takeWhile] at h ⊢
      split
      · rename_i hp
        rw [hp] at h
        rw [takeWhile_cut p r m (by simpa using h)]
      · rfl
theorem dropWhile_cut {α : Type} (p : α → Bool) : ∀ (r : List α) (m : Nat), ∃ n, (r.take m).dropWhile p = (r.dropWhile p).take n
  | [], m => ⟨0, by simp⟩
  | c :: r, m => by
    cases m with
    | zero => exact ⟨0, by simp⟩
    | succ m =>
      simp only [List.take_succ_cons, List.dropWhile]
      split
      · exact dropWhile_cut p r m
      · exact ⟨m + 1, by simp⟩
theorem goesOn_cut {l : List UInt8} (n : Nat) (h : goesOn l = false) : goesOn (l.take n) = false := by
  cases l with
  | nil => simpa using h
  | cons a b =>
    cases n with
    | zero => rfl
    | succ n => exact h

/-- An item that lies before the cut stays. -/
theorem head_cut {c : UInt8} {r : List UInt8} (m : Nat) (h : ∀ e, head c r ≠ .err e) (hm : (head c r).len ≤ m + 1) : head c (r.take m) = head c r := by
  unfold head at h hm ⊢
  by_cases h1 : cls c = 1
  · simp only [if_pos h1]
  by_cases h2 : cls c = 2
  · simp only [if_neg h1, if_pos h2, Item.len] at hm ⊢
    rw [takeWhile_cut _ r m (by omega)]
  by_cases h3 : cls c = 3
  · simp only [if_neg h1, if_neg h2, if_pos h3] at h hm ⊢
    have hl : (r.takeWhile isWord).length ≤ m := by
      unfold nameItem at h hm
      split at hm
      · rename_i hh; exact absurd (if_pos hh) (h 2)
      · simpa [Item.len] using hm
    rw [takeWhile_cut _ r m hl]
  by_cases h4 : cls c = 4
  · simp only [if_neg h1, if_neg h2, if_neg h3, if_pos h4] at h hm ⊢
    have hl : (r.takeWhile isDigit).length ≤ m ∧ goesOn (r.dropWhile isDigit) = false := by
      unfold numItem at h hm
      split at hm
      · rename_i hh; exact absurd (if_pos hh) (h 4)
      · rename_i hh
        refine ⟨by simpa [Item.len] using hm, ?_⟩
        cases hg : goesOn (r.dropWhile isDigit)
        · rfl
        · simp [hg] at hh
    rw [takeWhile_cut _ r m hl.1]
    obtain ⟨n, hn⟩ := dropWhile_cut isDigit r m
    rw [hn, goesOn_cut n hl.2, hl.2]
  simp only [if_neg h1, if_neg h2, if_neg h3, if_neg h4] at h hm ⊢
  by_cases h6 : cls c = 6
  · simp only [if_pos h6]
  simp only [if_neg h6] at h hm ⊢
  have he : isEq r = true → m = 0 → False := by
    intro he h0
    by_cases h7 : cls c = 7
    · simp [h7, he, h0, Item.len] at hm
    · by_cases h8 : cls c = 8
      · simp [h8, he, h0, Item.len] at hm
      · exact absurd (by simp [h7, h8]) (h 3)
  have he' : isEq (r.take m) = isEq r := by
    cases r with
    | nil => simp
    | cons a b =>
      cases m with
      | zero =>
        cases hh : isEq (a :: b)
        · rfl
        · exact absurd rfl (fun hc => he hh hc)
      | succ m => rfl
  rw [he']

theorem head_len_pos {c : UInt8} {r : List UInt8} (h : ∀ e, head c r ≠ .err e) : 1 ≤ (head c r).len ∧ (head c r).len ≤ 1 + r.length := by
  cases hh : head c r with
  | gap n => exact head_gap hh
  | tok t => have := head_tok hh; exact ⟨this.1, this.2.1⟩
  | err e => exact absurd hh (h e)

/-- Where a token stands: the text before it, the token, and what follows it. -/
theorem scan_at : ∀ (k pos : Nat) (s : List UInt8) (l1 l2 : List (Tok × Nat)) (t : Tok) (q : Nat), s.length ≤ k → (scan k pos s).1 = l1 ++ (t, q) :: l2 →
    pos ≤ q ∧ q - pos + t.text.length ≤ s.length ∧ 1 ≤ t.text.length ∧ (s.drop (q - pos)).take t.text.length = t.text ∧
    (∀ k', q - pos ≤ k' → scan k' pos (s.take (q - pos)) = (l1, none)) ∧
    (∀ k', q - pos + t.text.length ≤ k' → scan k' pos (s.take (q - pos + t.text.length)) = (l1 ++ [(t, q)], none)) ∧
    (∀ k', s.length ≤ k' → scan k' (q + t.text.length) (s.drop (q - pos + t.text.length)) = (l2, (scan k pos s).2)) ∧
    (∃ c r, s.drop (q - pos) = c :: r ∧ head c r = .tok t) := by
  intro k
  induction k with
  | zero =>
    intro pos s l1 l2 t q hk h
    simp [scan] at h
  | succ k ih =>
    intro pos s l1 l2 t q hk h
    cases s with
    | nil => simp [scan] at h
    | cons c r =>
      simp only [List.length_cons] at hk
      cases hh : head c r with
      | err e => simp only [scan, hh] at h; simp at h
      | gap n =>
        have hn := head_gap hh
        simp only [scan, hh] at h
        obtain ⟨h1, h2, h3, h4, h5, h6, h7, h8⟩ := ih (pos + n) (r.drop (n - 1)) l1 l2 t q (by simp; omega) h
        have hd : ∀ m, (r.drop (n - 1)).drop m = (c :: r).drop (n + m) := by
          intro m
          obtain ⟨n, rfl⟩ : ∃ u, n = u + 1 := ⟨n - 1, by omega⟩
          rw [List.drop_drop, Nat.add_right_comm, List.drop_succ_cons]; rfl
        have htk : ∀ m, n ≤ m → ∀ k', m ≤ k' → scan k' pos ((c :: r).take m) = scan (k' - 1) (pos + n) ((r.drop (n - 1)).take (m - n)) := by
          intro m hm k' hk'
          obtain ⟨m, rfl⟩ : ∃ u, m = u + 1 := ⟨m - 1, by omega⟩
          obtain ⟨k', rfl⟩ : ∃ u, k' = u + 1 := ⟨k' - 1, by omega⟩
          simp only [List.take_succ_cons, scan]
          rw [head_cut m (by rw [hh]; simp) (by rw [hh]; simp [Item.len]; omega), hh]
          simp only
          rw [List.drop_take, show m - (n - 1) = m + 1 - n from by omega]; rfl
        simp only [List.length_drop] at h2
        refine ⟨by omega, by simp only [List.length_cons]; omega, h3, ?_, ?_, ?_, ?_, ?_⟩
        · rw [hd] at h4; rw [show q - pos = n + (q - (pos + n)) from by omega]; exact h4
        · intro k' hk'
          rw [htk (q - pos) (by omega) k' hk', show q - pos - n = q - (pos + n) from by omega]
          exact h5 _ (by omega)
        · intro k' hk'
          rw [htk (q - pos + t.text.length) (by omega) k' hk', show q - pos + t.text.length - n = q - (pos + n) + t.text.length from by omega]
          exact h6 _ (by omega)
        · intro k' hk'
          have := h7 k' (by simp at hk' ⊢; omega)
          rw [hd, show n + (q - (pos + n) + t.text.length) = q - pos + t.text.length from by omega] at this
          rw [this]; simp only [scan, hh]
        · obtain ⟨c', r', h8, h9⟩ := h8
          rw [hd] at h8
          exact ⟨c', r', by rw [show q - pos = n + (q - (pos + n)) from by omega]; exact h8, h9⟩
      | tok t' =>
        have hn := head_tok hh
        simp only [scan, hh] at h
        cases l1 with
        | nil =>
          simp only [List.nil_append, List.cons.injEq, Prod.mk.injEq] at h
          obtain ⟨⟨rfl, rfl⟩, h⟩ := h
          have hcut : ∀ m, t'.text.length ≤ m → ∀ k', m ≤ k' → scan k' pos ((c :: r).take m) = ((t', pos) :: (scan (k' - 1) (pos + t'.text.length) ((r.drop (t'.text.length - 1)).take (m - t'.text.length))).1, (scan (k' - 1) (pos + t'.text.length) ((r.drop (t'.text.length - 1)).take (m - t'.text.length))).2) := by
            intro m hm k' hk'
            obtain ⟨m, rfl⟩ : ∃ u, m = u + 1 := ⟨m - 1, by omega⟩
            obtain ⟨k', rfl⟩ : ∃ u, k' = u + 1 := ⟨k' - 1, by omega⟩
            simp only [List.take_succ_cons, scan]
            rw [head_cut m (by rw [hh]; simp) (by rw [hh]; simp [Item.len]; omega), hh]
            simp only
            rw [List.drop_take, show m - (t'.text.length - 1) = m + 1 - t'.text.length from by omega]; rfl
          refine ⟨Nat.le_refl _, by simp only [List.length_cons]; omega, hn.1, ?_, ?_, ?_, ?_, ?_⟩
          · simp only [Nat.sub_self, List.drop_zero]; exact hn.2.2.symm
          · intro k' _; simp only [Nat.sub_self, List.take_zero]; cases k' <;> rfl
          · intro k' hk'
            simp only [Nat.sub_self, Nat.zero_add] at hk' ⊢
            rw [hcut _ (Nat.le_refl _) k' hk', Nat.sub_self, List.take_zero]
            cases (k' - 1) <;> rfl
          · intro k' hk'
            simp only [Nat.sub_self, Nat.zero_add]
            have hd : (c :: r).drop t'.text.length = r.drop (t'.text.length - 1) := by
              obtain ⟨u, hu⟩ : ∃ u, t'.text.length = u + 1 := ⟨t'.text.length - 1, by omega⟩
              rw [hu]; rfl
            rw [hd]
            simp only [scan, hh]
            rw [← h, scan_fuel k' k _ _ (by simp at hk' ⊢; omega) (by simp; omega)]
          · exact ⟨c, r, by simp, hh⟩
        | cons x l1 =>
          simp only [List.cons_append, List.cons.injEq] at h
          obtain ⟨rfl, h⟩ := h
          obtain ⟨h1, h2, h3, h4, h5, h6, h7, h8⟩ := ih (pos + t'.text.length) (r.drop (t'.text.length - 1)) l1 l2 t q (by simp; omega) h
          have hd : ∀ m, (r.drop (t'.text.length - 1)).drop m = (c :: r).drop (t'.text.length + m) := by
            intro m
            obtain ⟨u, hu⟩ : ∃ u, t'.text.length = u + 1 := ⟨t'.text.length - 1, by omega⟩
            rw [hu, List.drop_drop, Nat.add_right_comm, List.drop_succ_cons]; rfl
          have htk : ∀ m, t'.text.length ≤ m → ∀ k', m ≤ k' → scan k' pos ((c :: r).take m) = ((t', pos) :: (scan (k' - 1) (pos + t'.text.length) ((r.drop (t'.text.length - 1)).take (m - t'.text.length))).1, (scan (k' - 1) (pos + t'.text.length) ((r.drop (t'.text.length - 1)).take (m - t'.text.length))).2) := by
            intro m hm k' hk'
            obtain ⟨m, rfl⟩ : ∃ u, m = u + 1 := ⟨m - 1, by omega⟩
            obtain ⟨k', rfl⟩ : ∃ u, k' = u + 1 := ⟨k' - 1, by omega⟩
            simp only [List.take_succ_cons, scan]
            rw [head_cut m (by rw [hh]; simp) (by rw [hh]; simp [Item.len]; omega), hh]
            simp only
            rw [List.drop_take, show m - (t'.text.length - 1) = m + 1 - t'.text.length from by omega]; rfl
          simp only [List.length_drop] at h2
          refine ⟨by omega, by simp only [List.length_cons]; omega, h3, ?_, ?_, ?_, ?_, ?_⟩
          · rw [hd] at h4; rw [show q - pos = t'.text.length + (q - (pos + t'.text.length)) from by omega]; exact h4
          · intro k' hk'
            rw [htk (q - pos) (by omega) k' hk', show q - pos - t'.text.length = q - (pos + t'.text.length) from by omega, h5 _ (by omega)]
          · intro k' hk'
            rw [htk (q - pos + t.text.length) (by omega) k' hk', show q - pos + t.text.length - t'.text.length = q - (pos + t'.text.length) + t.text.length from by omega, h6 _ (by omega)]
            rfl
          · intro k' hk'
            have := h7 k' (by simp at hk' ⊢; omega)
            rw [hd, show t'.text.length + (q - (pos + t'.text.length) + t.text.length) = q - pos + t.text.length from by omega] at this
            rw [this]; simp only [scan, hh]
          · obtain ⟨c', r', h8, h9⟩ := h8
            rw [hd] at h8
            exact ⟨c', r', by rw [show q - pos = t'.text.length + (q - (pos + t'.text.length)) from by omega]; exact h8, h9⟩

/-- What a token is. -/
def TokOk (t : Tok) : Prop :=
  (t.kind = 1 ∧ t.n = 0 ∧ t.text.length ≤ 24 ∧ ∃ c w, t.text = c :: w ∧ cls c = 3 ∧ w.all isWord = true) ∨
  (t.kind = 2 ∧ t.n = numOf t.text ∧ t.text.length ≤ 7 ∧ ∃ c w, t.text = c :: w ∧ cls c = 4 ∧ w.all isDigit = true) ∨
  (t.kind = 3 ∧ t.n = 0 ∧ ((∃ c, t.text = [c] ∧ (cls c = 6 ∨ cls c = 7)) ∨ (∃ c, t.text = [c, 61] ∧ (cls c = 7 ∨ cls c = 8))))
theorem takeWhile_all {α : Type} (p : α → Bool) : ∀ r : List α, (r.takeWhile p).all p = true
  | [] => rfl
  | c :: r => by
    simp only [List.takeWhile]
    split
    · rename_i h; rw [List.all_cons, h, takeWhile_all p r]; rfl
    · rfl
theorem head_ok {c : UInt8} {r : List UInt8} {t : Tok} (h : head c r = .tok t) : TokOk t := by
  rcases head_cases c r with ⟨_, e⟩ | ⟨_, e⟩ | ⟨hc, e⟩ | ⟨hc, e⟩ | ⟨hc, e⟩ | ⟨hc, he, e⟩ | ⟨hc, _, e⟩ | e <;> rw [e] at h
  · simp at h
  · simp at h
  · obtain ⟨rfl, hl⟩ := nameItem_tok h
    exact .inl ⟨rfl, rfl, hl, c, _, rfl, hc, takeWhile_all _ _⟩
  · obtain ⟨rfl, hl, _⟩ := numItem_tok h
    exact .inr (.inl ⟨rfl, rfl, hl, c, _, rfl, hc, takeWhile_all _ _⟩)
  · simp only [Item.tok.injEq] at h; subst h
    exact .inr (.inr ⟨rfl, rfl, .inl ⟨c, rfl, .inl hc⟩⟩)
  · simp only [Item.tok.injEq] at h; subst h
    exact .inr (.inr ⟨rfl, rfl, .inr ⟨c, rfl, hc⟩⟩)
  · simp only [Item.tok.injEq] at h; subst h
    exact .inr (.inr ⟨rfl, rfl, .inl ⟨c, rfl, .inr hc⟩⟩)
  · simp at h
theorem scan_ok : ∀ (k pos : Nat) (s : List UInt8), ∀ x ∈ (scan k pos s).1, TokOk x.1 := by
  intro k
  induction k with
  | zero => intro pos s x hx; simp [scan] at hx
  | succ k ih =>
    intro pos s x hx
    cases s with
    | nil => simp [scan] at hx
    | cons c r =>
      simp only [scan] at hx
      cases hh : head c r with
      | gap n => rw [hh] at hx; exact ih _ _ x hx
      | err e => rw [hh] at hx; simp at hx
      | tok t =>
        rw [hh] at hx
        simp only [List.mem_cons] at hx
        rcases hx with rfl | hx
        · exact head_ok hh
        · exact ih _ _ x hx

theorem takeWhile_stop {α : Type} (p : α → Bool) (d : α) (hd : p d = false) (y : List α) : ∀ w : List α, w.all p = true → (w ++ d :: y).takeWhile p = w ∧ (w ++ d :: y).dropWhile p = d :: y
  | [], _ => by simp [hd]
  | c :: w, h => by
    simp only [List.all_cons, Bool.and_eq_true] at h
    obtain ⟨h1, h2⟩ := takeWhile_stop p d hd y w h.2
    simp [h.1, h1, h2]

/-- A token written with a blank behind it is read as itself. -/
theorem head_again {t : Tok} (ht : TokOk t) {d : UInt8} (hd : isBlank d = true) (y : List UInt8) : ∃ c r, t.text = c :: r ∧ head c (r ++ d :: y) = .tok t := by
  have hw : isWord d = false := by rcases blank_cases hd with rfl | rfl | rfl <;> decide
  have hg : isDigit d = false := by rcases blank_cases hd with rfl | rfl | rfl <;> decide
  have hl : isLetter d = false := by rcases blank_cases hd with rfl | rfl | rfl <;> decide
  have h95 : (d == 95) = false := by rcases blank_cases hd with rfl | rfl | rfl <;> decide
  have h61 : d ≠ 61 := by rcases blank_cases hd with rfl | rfl | rfl <;> decide
  obtain ⟨kind, text, n⟩ := t
  rcases ht with ⟨rfl, rfl, hlen, c, w, rfl, hc, ha⟩ | ⟨rfl, hn, hlen, c, w, ht, hc, ha⟩ | ⟨rfl, rfl, h⟩
  · refine ⟨c, w, rfl, ?_⟩
    unfold head
    rw [(takeWhile_stop isWord d hw y w ha).1]
    simp only [List.length_cons] at hlen
    simp [hc, nameItem]; omega
  · dsimp only at hn hlen ht
    subst ht
    subst hn
    refine ⟨c, w, rfl, ?_⟩
    unfold head
    rw [(takeWhile_stop isDigit d hg y w ha).1, (takeWhile_stop isDigit d hg y w ha).2]
    simp only [List.length_cons] at hlen
    simp [hc, numItem, goesOn, hl, h95]; omega
  · rcases h with ⟨c, rfl, hc⟩ | ⟨c, rfl, hc⟩
    · refine ⟨c, [], rfl, ?_⟩
      unfold head
      rcases hc with hc | hc <;> simp [hc, isEq, h61]
    · refine ⟨c, [61], rfl, ?_⟩
      unfold head
      rcases hc with hc | hc <;> simp [hc, isEq]

/-- The texts of tokens, a line feed after each. -/
def spaced (l : List Tok) : List UInt8 := l.flatMap fun t => t.text ++ [10]
def placed : Nat → List Tok → List (Tok × Nat)
  | _, [] => []
  | p, t :: l => (t, p) :: placed (p + t.text.length + 1) l
theorem scan_spaced : ∀ (l : List Tok) (k pos : Nat), (∀ t ∈ l, TokOk t) → (spaced l).length ≤ k → scan k pos (spaced l) = (placed pos l, none)
  | [], k, pos, _, _ => by cases k <;> rfl
  | t :: l, k, pos, h, hk => by
    have e : spaced (t :: l) = t.text ++ 10 :: spaced l := by simp [spaced]
    rw [e] at hk ⊢
    obtain ⟨c, r, hc, hh⟩ := head_again (h t (List.mem_cons_self ..)) (d := 10) (by decide) (spaced l)
    rw [hc, List.cons_append] at hk ⊢
    simp only [List.length_cons, List.length_append] at hk
    obtain ⟨k, rfl⟩ : ∃ u, k = u + 1 := ⟨k - 1, by omega⟩
    obtain ⟨k, rfl⟩ : ∃ u, k = u + 1 := ⟨k - 1, by omega⟩
    have hg : head 10 (spaced l) = .gap 1 := by unfold head; rw [if_pos (by decide)]
    have hd : (r ++ 10 :: spaced l).drop (t.text.length - 1) = 10 :: spaced l := by rw [hc]; simp
    simp only [scan, hh, hd, hg, Nat.sub_self, List.drop_zero, placed]
    rw [scan_spaced l k _ (fun t ht => h t (List.mem_cons_of_mem _ ht)) (by omega)]
end Lex
end PD
/- What holds of the first language's reader, in plain Lean. -/
namespace PD
theorem idx_some : ∀ (l : List Str) (s : Str) (i : Nat), idx l s = some i → i < l.length ∧ l[i]? = some s
  | [], s, i, h => by simp [idx] at h
  | x :: r, s, i, h => by
    simp only [idx] at h
    split at h
    · rename_i e
      simp only [Option.some.injEq] at h
      subst h
      simp [e]
    · simp only [Option.map_eq_some_iff] at h
      obtain ⟨j, hj, rfl⟩ := h
      have := idx_some r s j hj
      exact ⟨by simp; omega, by simpa using this.2⟩

theorem idx_none {l : List Str} {s : Str} (h : idx l s = none) : ∀ j : Nat, l[j]? ≠ some s := by
  induction l with
  | nil => intro j; simp
  | cons x r ih =>
    simp only [idx] at h
    split at h
    · simp at h
    · rename_i hx
      simp only [Option.map_eq_none_iff] at h
      intro j
      cases j with
      | zero => simp; exact fun e => hx e.symm
      | succ j => simpa using ih h j
theorem idx_first {l : List Str} {s : Str} {i : Nat} (h : idx l s = some i) : ∀ j, j < i → l[j]? ≠ some s := by
  induction l generalizing i with
  | nil => simp [idx] at h
  | cons x r ih =>
    simp only [idx] at h
    split at h
    · simp only [Option.some.injEq] at h; omega
    · rename_i hx
      simp only [Option.map_eq_some_iff] at h
      obtain ⟨k, hk, rfl⟩ := h
      intro j hj
      cases j with
      | zero => simp; exact fun e => hx e.symm
      | succ j => simpa using ih hk j (by omega)
theorem idx_at {l : List Str} {s : Str} {k : Nat} (hw : l[k]? = some s) (hno : ∀ j, j < k → l[j]? ≠ some s) : idx l s = some k := by
  cases hi : idx l s with
  | none => exact absurd hw (idx_none hi k)
  | some j =>
    have h1 := idx_some _ _ _ hi
    have h2 := idx_first hi
    congr 1
    rcases Nat.lt_trichotomy j k with h | h | h
    · exact absurd h1.2 (hno j h)
    · exact h
    · exact absurd hw (h2 k h)
theorem idx_no {l : List Str} {s : Str} (hno : ∀ j, j < l.length → l[j]? ≠ some s) : idx l s = none := by
  cases hi : idx l s with
  | none => rfl
  | some j =>
    have h1 := idx_some _ _ _ hi
    exact absurd h1.2 (hno j h1.1)
namespace Tr
variable {α β : Type}

/-! ### Rounds are enough -/
theorem run_take (l : List Tok) (ws : List Str) (i : Nat) : (take ws).run l i = match l[i]? with
    | some t => if (t.kind != 2 && (idx ws t.text).isSome) = true then .ok (idx ws t.text) (i + 1) else .ok none i
    | none => .ok none i := by
  simp only [take, run] <;> (cases l[i]? <;> rfl)
theorem run_take_ok (l : List Tok) (ws : List Str) (i : Nat) : (∃ j, (take ws).run l i = .ok (some j) (i + 1) ∧ i < l.length) ∨ (take ws).run l i = .ok none i := by
  rw [run_take]
  cases h : l[i]? with
  | none => exact .inr rfl
  | some t =>
    simp only
    split
    · rename_i hq
      simp only [Bool.and_eq_true] at hq
      obtain ⟨j, hj⟩ := Option.isSome_iff_exists.1 hq.2
      exact .inl ⟨j, by rw [hj], (List.getElem?_eq_some_iff.1 h).1⟩
    · exact .inr rfl

/-- A run that doesn't run out, and goes on by at least d. -/
def Goes (l : List Tok) (t : Tr α) (i d : Nat) : Prop := match t.run l i with
  | .ok _ i' => i + d ≤ i' ∧ i' ≤ l.length
  | .err _ _ => True
  | .out => False
theorem Goes.bind {l : List Tok} {t : Tr α} {f : α → Tr β} {i d d' : Nat} (h : Goes l t i d) (hf : ∀ a i', t.run l i = .ok a i' → i + d ≤ i' → i' ≤ l.length → Goes l (f a) i' d') : Goes l (t.bind f) i (d + d') := by
  unfold Goes at h ⊢
  rw [run_bind]
  cases hr : t.run l i with
  | ok a i' =>
    rw [hr] at h
    have := hf a i' hr h.1 h.2
    unfold Goes at this
    simp only [PR.bind]
    cases hr' : (f a).run l i' with
    | ok b i'' => rw [hr'] at this; simp only at this ⊢; omega
    | err e j => trivial
    | out => rw [hr'] at this; exact this
  | err e j => trivial
  | out => rw [hr] at h; exact h
theorem Goes.less {l : List Tok} {t : Tr α} {i d d' : Nat} (h : Goes l t i d) (hd : d' ≤ d) : Goes l t i d' := by
  unfold Goes at h ⊢
  split <;> simp_all <;> omega
theorem goes_ret {l : List Tok} {a : α} {i : Nat} (h : i ≤ l.length) : Goes l (.ret a) i 0 := by simp [Goes, run, h]
theorem goes_raise {l : List Tok} {e j i d : Nat} : Goes l (.raise e j : Tr α) i d := by simp [Goes, run]
theorem goes_bad {l : List Tok} {i d : Nat} : Goes l (.bad : Tr α) i d := by simp [Goes, run]
theorem goes_here {l : List Tok} {k : Nat → Tr α} {i d : Nat} (h : Goes l (k i) i d) : Goes l (.here k) i d := h
theorem goes_take {l : List Tok} {ws : List Str} {i : Nat} (hi : i ≤ l.length) : Goes l (take ws) i 0 := by
  unfold Goes
  rcases run_take_ok l ws i with ⟨j, h, hl⟩ | h <;> rw [h] <;> simp <;> omega
theorem goes_must {l : List Tok} {ws : List Str} {i : Nat} : Goes l (must ws) i 1 := by
  unfold Goes must
  rw [run_bind]
  rcases run_take_ok l ws i with ⟨j, h, hl⟩ | h
  · rw [h]; simp only [PR.bind, run]; omega
  · rw [h]; simp only [PR.bind, run]
theorem goes_test {l : List Tok} {q : Tok → Bool} {y : Tok → Tr α} {i : Nat} (hy : ∀ t, i + 1 ≤ l.length → Goes l (y t) (i + 1) 0) : Goes l (.test q y .bad) i 1 := by
  unfold Goes
  simp only [run]
  cases hg : l[i]? with
  | none => simp
  | some t =>
    have := (List.getElem?_eq_some_iff.1 hg).1
    simp only
    by_cases hq : q t = true
    · rw [if_pos hq]
      have := hy t (by omega)
      unfold Goes at this
      split <;> simp_all
    · rw [if_neg hq]; trivial
theorem goes_name {l : List Tok} {k : Str → Bool} {i : Nat} : Goes l (name k) i 1 := goes_test fun _ h => goes_ret h
theorem goes_number {l : List Tok} {m : Nat} {i : Nat} : Goes l (number m) i 1 := goes_test fun t h => by
  split
  · exact goes_here goes_raise
  · exact goes_ret h
theorem goes_more {l : List Tok} {word : Str} {one : Tr α} {d : Nat} (hd : 0 < d) : ∀ (k : Nat) (acc : List α) (i : Nat), i ≤ l.length → l.length - i < k → (∀ i', i ≤ i' → i' ≤ l.length → Goes l one i' d) → Goes l (more word one k acc) i 0 := by
  intro k
  induction k with
  | zero => intro acc i _ h; omega
  | succ k ih =>
    intro acc i hi hk ho
    simp only [more]
    refine (Goes.bind (d' := 0) (goes_take hi) fun a i' hr h1 h2 => ?_)
    rcases run_take_ok l [word] i with ⟨j, h, hl⟩ | h
    · rw [h] at hr
      simp only [PR.ok.injEq] at hr
      obtain ⟨rfl, rfl⟩ := hr
      simp only
      exact ((ho (i + 1) (by omega) (by omega)).bind (d' := 0) fun x i2 _ h3 h4 => ih _ _ h4 (by omega) fun i' h5 h6 => ho i' (by omega) h6).less (by omega)
    · rw [h] at hr
      simp only [PR.ok.injEq] at hr
      obtain ⟨rfl, rfl⟩ := hr
      exact goes_ret hi
theorem goes_several {l : List Tok} {word : Str} {one : Tr α} {join : List α → α} {k i : Nat} (hi : i ≤ l.length) (hk : l.length - i < k) (ho : ∀ i', i ≤ i' → i' ≤ l.length → Goes l one i' 1) : Goes l (several k word one join) i 1 := by
  unfold several
  exact (ho i (Nat.le_refl _) hi).bind (d' := 0) fun x i1 _ h1 h2 => (goes_more (d := 1) (by omega) k [x] i1 h2 (by omega) fun i' h3 h4 => ho i' (by omega) h4).bind (d' := 0) fun ls i2 _ _ h4 => goes_ret h4
theorem goes_bounded {l : List Tok} {read : Tr α} {size depth : α → Nat} {i d : Nat} (h : Goes l read i d) : Goes l (bounded read size depth) i d := by
  unfold bounded
  refine goes_here ((h.bind (d' := 0) fun x i' _ _ h2 => ?_).less (by omega))
  split
  · exact goes_raise
  · exact goes_ret h2
end Tr

namespace North
open Tr
theorem goes_atom (l : List Tok) : ∀ k i, i ≤ l.length → l.length - i < k → Goes l (atom k) i 1 := by
  intro k
  induction k with
  | zero => intro i _ h; omega
  | succ k ih =>
    intro i hi hk
    simp only [atom]
    rcases run_take_ok l [[110, 111, 116], [40], [116, 114, 117, 101], [102, 97, 108, 115, 101]] i with ⟨j, h, hl⟩ | h
    · have hg : Goes l (take [[110, 111, 116], [40], [116, 114, 117, 101], [102, 97, 108, 115, 101]]) i 1 := by unfold Goes; rw [h]; simp; omega
      refine (hg.bind (d' := 0) fun a i' hr h1 h2 => ?_).less (by omega)
      rw [h] at hr
      simp only [PR.ok.injEq] at hr
      obtain ⟨rfl, rfl⟩ := hr
      have hat : ∀ i', i + 1 ≤ i' → i' ≤ l.length → Goes l (atom k) i' 1 := fun i' h3 h4 => ih i' h4 (by omega)
      have hand : ∀ i', i + 1 ≤ i' → i' ≤ l.length → Goes l (several k [97, 110, 100] (atom k) andJ) i' 1 := fun i' h3 h4 => goes_several h4 (by omega) fun i2 h5 h6 => hat i2 (by omega) h6
      split
      · exact ((hat _ (Nat.le_refl _) hl).bind (d' := 0) fun f i2 _ _ h4 => goes_ret h4).less (by omega)
      · exact ((goes_several (k := k) hl (by omega) fun i2 h5 h6 => hand i2 h5 h6).bind (d' := 1) fun f i2 _ _ h4 => (goes_must.bind (d' := 0) fun _ i3 _ _ h5 => goes_ret h5)).less (by omega)
      · exact goes_ret hl
      · exact goes_ret hl
      · exact (goes_name.bind (d' := 0) fun s i2 _ _ h4 => (goes_take h4).bind (d' := 0) fun c i3 _ _ h5 => by
          split
          · exact (goes_number.bind (d' := 0) fun n i4 _ _ h6 => goes_ret h6).less (by omega)
          · exact goes_ret h5).less (by omega)
    · have hg : Goes l (take [[110, 111, 116], [40], [116, 114, 117, 101], [102, 97, 108, 115, 101]]) i 0 := by unfold Goes; rw [h]; simp; omega
      refine (hg.bind (d' := 1) fun a i' hr h1 h2 => ?_).less (by omega)
      rw [h] at hr
      simp only [PR.ok.injEq] at hr
      obtain ⟨rfl, rfl⟩ := hr
      exact goes_name.bind (d' := 0) fun s i2 _ _ h4 => (goes_take h4).bind (d' := 0) fun c i3 _ _ h5 => by
          split
          · exact (goes_number.bind (d' := 0) fun n i4 _ _ h6 => goes_ret h6).less (by omega)
          · exact goes_ret h5
theorem goes_cond (l : List Tok) (k i : Nat) (hi : i ≤ l.length) (hk : l.length - i < k) : Goes l (cond k) i 1 :=
  goes_several hi hk fun i' h1 h2 => goes_several h2 (by omega) fun i2 h3 h4 => goes_atom l k i2 h4 (by omega)
theorem goes_one (l : List Tok) : ∀ k i, i ≤ l.length → l.length - i < k → Goes l (one k) i 1 := by
  intro k
  induction k with
  | zero => intro i _ h; omega
  | succ k ih =>
    intro i hi hk
    simp only [one]
    refine (goes_must.bind (d' := 0) fun a i' hr h1 h2 => ?_).less (by omega)
    have hat : ∀ i2, i' ≤ i2 → i2 ≤ l.length → Goes l (one k) i2 1 := fun i' h3 h4 => ih i' h4 (by omega)
    have hand : ∀ i2, i' ≤ i2 → i2 ≤ l.length → Goes l (several k [97, 110, 100] (one k) allJ) i2 1 := fun i' h3 h4 => goes_several h4 (by omega) fun i2 h5 h6 => hat i2 (by omega) h6
    split
    · exact goes_ret h2
    · exact goes_ret h2
    · exact (goes_number.bind (d' := 0) fun n i4 _ _ h6 => goes_ret h6).less (by omega)
    · exact ((goes_several (k := k) h2 (by omega) fun i2 h5 h6 => hand i2 h5 h6).bind (d' := 1) fun f i2 _ _ h4 => (goes_must.bind (d' := 0) fun _ i3 _ _ h5 => goes_ret h5)).less (by omega)
    · exact (goes_name.bind (d' := 0) fun n i4 _ _ h6 => goes_ret h6).less (by omega)
theorem goes_start (l : List Tok) (k i : Nat) (hi : i ≤ l.length) (hk : l.length - i < k) : Goes l (start k) i 1 :=
  goes_several hi hk fun i' h1 h2 => goes_several h2 (by omega) fun i2 h3 h4 => goes_one l k i2 h4 (by omega)
theorem goes_part (l : List Tok) (k i : Nat) (w : Str) (o : Int) (hi : i ≤ l.length) (hk : l.length - i < k) : Goes l (part k w o) i 0 := by
  unfold part
  refine (goes_take hi).bind (d' := 0) fun a i' _ h1 h2 => ?_
  split
  · exact (goes_bounded (goes_start l k i' h2 (by omega))).less (by omega)
  · exact goes_ret h2
theorem goes_except (l : List Tok) : ∀ k acc i, i ≤ l.length → l.length - i < k → Goes l (except k acc) i 0 := by
  intro k
  induction k with
  | zero => intro acc i _ h; omega
  | succ k ih =>
    intro acc i hi hk
    simp only [except]
    refine goes_here ((goes_name.bind (d' := 0) fun s i2 _ h3 h4 => ?_).less (by omega))
    split
    · exact goes_raise
    · split
      · exact goes_raise
      · refine (goes_take h4).bind (d' := 0) fun c i3 _ h6 h5 => ?_
        split
        · exact ih _ _ h5 (by omega)
        · exact goes_ret h5
theorem goes_provision (l : List Tok) (k : Nat) (hk : l.length < k) : Goes l (provision k) 0 0 := by
  unfold provision
  refine (goes_must.bind (d' := 0) fun _ i1 _ _ h1 => ?_).less (by omega)
  refine (goes_name.bind (d' := 0) fun _ i2 _ _ h2 => ?_).less (by omega)
  refine (goes_must.bind (d' := 0) fun _ i3 _ _ h3 => ?_).less (by omega)
  refine (goes_must.bind (d' := 0) fun d i4 _ _ h4 => ?_).less (by omega)
  have h5 : Goes l (if d = 0 then nm.bind fun s => .ret ((1 : Int), s, 0) else nm.bind fun s => (must [[105, 115]]).bind fun _ => (number 1000000).bind fun v => .ret ((2 : Int), s, v)) i4 0 := by
    split
    · exact (goes_name.bind (d' := 0) fun _ _ _ _ h => goes_ret h).less (by omega)
    · exact (goes_name.bind (d' := 0) fun _ _ _ _ _ => (goes_must.bind (d' := 0) fun _ _ _ _ _ => (goes_number.bind (d' := 0) fun _ _ _ _ h => goes_ret h).less (by omega)).less (by omega)).less (by omega)
  refine (h5.bind (d' := 0) fun _ i5 _ _ h5 => ?_).less (by omega)
  have h6 : Goes l ((take [[105, 102]]).bind fun
    | some _ => bounded (cond k) Fm.size Fm.depth
    | none => .ret (fm0 1)) i5 0 := by
    refine (goes_take h5).bind (d' := 0) fun a i' _ _ h => ?_
    split
    · exact (goes_bounded (goes_cond l k i' h (by omega))).less (by omega)
    · exact goes_ret h
  refine (h6.bind (d' := 0) fun _ i6 _ _ h6 => ?_).less (by omega)
  have h7 : Goes l ((take [[110, 111, 116, 119, 105, 116, 104, 115, 116, 97, 110, 100, 105, 110, 103]]).bind fun
    | some _ => except k []
    | none => .ret []) i6 0 := by
    refine (goes_take h6).bind (d' := 0) fun a i' _ _ h => ?_
    split
    · exact goes_except l k [] i' h (by omega)
    · exact goes_ret h
  refine (h7.bind (d' := 0) fun _ i7 _ _ h7 => ?_).less (by omega)
  refine (goes_part l k i7 _ _ h7 (by omega)).bind (d' := 0) fun _ i8 _ _ h8 => ?_
  refine (goes_part l k i8 _ _ h8 (by omega)).bind (d' := 0) fun _ i9 _ _ h9 => ?_
  refine (goes_part l k i9 _ _ h9 (by omega)).bind (d' := 0) fun _ i10 _ _ h10 => ?_
  exact (goes_must.bind (d' := 0) fun _ _ _ _ h => goes_ret h).less (by omega)
/-- Every list of tokens is a provision or has an error. -/
theorem parse_ends (l : List Tok) : parse l ≠ .out := by
  have := goes_provision l (l.length + 1) (by omega)
  unfold Goes at this
  unfold parse
  cases h : (provision (l.length + 1)).run l 0 with
  | ok p i => simp only; split <;> simp
  | err e j => simp
  | out => rw [h] at this; exact absurd this (by simp)
end North
end PD
/- What every provision of the first language has. -/
namespace PD
def IsName (s : Str) : Prop := s.length ≤ 24 ∧ ∃ c w, s = c :: w ∧ Lex.cls c = 3 ∧ w.all Lex.isWord = true

mutual
def Fm.Ok (N : Str → Prop) : Fm → Prop
  | .mk op name cmp n ks =>
    (((op = 1 ∨ op = 2) ∧ name = [] ∧ cmp = 0 ∧ n = 0 ∧ ks = []) ∨
     (op = 3 ∧ N name ∧ 1 ≤ cmp ∧ cmp ≤ 6 ∧ 0 ≤ n ∧ n ≤ 1000000 ∧ ks = []) ∨
     (op = 4 ∧ N name ∧ cmp = 0 ∧ n = 0 ∧ ks = []) ∨
     (op = 5 ∧ name = [] ∧ cmp = 0 ∧ n = 0 ∧ ks.length = 1) ∨
     ((op = 6 ∨ op = 7) ∧ name = [] ∧ cmp = 0 ∧ n = 0 ∧ 2 ≤ ks.length)) ∧ Fm.Oks N ks
def Fm.Oks (N : Str → Prop) : List Fm → Prop
  | [] => True
  | k :: ks => k.Ok N ∧ Fm.Oks N ks
end
mutual
def St.Ok (N : Str → Prop) : St → Prop
  | .mk op name day ks =>
    (((op = 1 ∨ op = 2) ∧ name = [] ∧ day = 0 ∧ ks = []) ∨
     (op = 3 ∧ name = [] ∧ 0 ≤ day ∧ day ≤ 1000000 ∧ ks = []) ∨
     ((op = 4 ∨ op = 5 ∨ op = 6 ∨ op = 7) ∧ N name ∧ day = 0 ∧ ks = []) ∨
     ((op = 8 ∨ op = 9) ∧ name = [] ∧ day = 0 ∧ 2 ≤ ks.length)) ∧ St.Oks N ks
def St.Oks (N : Str → Prop) : List St → Prop
  | [] => True
  | k :: ks => k.Ok N ∧ St.Oks N ks
end
theorem Fm.oks_iff (N : Str → Prop) : ∀ l : List Fm, Fm.Oks N l ↔ ∀ x ∈ l, x.Ok N
  | [] => by simp [Fm.Oks]
  | k :: ks => by simp [Fm.Oks, Fm.oks_iff N ks]
theorem St.oks_iff (N : Str → Prop) : ∀ l : List St, St.Oks N l ↔ ∀ x ∈ l, x.Ok N
  | [] => by simp [St.Oks]
  | k :: ks => by simp [St.Oks, St.oks_iff N ks]

namespace Tr
variable {α : Type} {T : Tok → Prop} {P : Nat → Nat → Nat → Prop}
theorem sat_take {ws : List Str} {i : Nat} {Q : Option Nat → Nat → Prop} (h1 : ∀ j, j < ws.length → Q (some j) (i + 1)) (h2 : Q none i) : (take ws).Sat T P Q i := by
  refine ⟨fun t _ hq => ?_, h2⟩
  simp only [Bool.and_eq_true] at hq
  obtain ⟨j, hj⟩ := Option.isSome_iff_exists.1 hq.2
  simp only [Sat, hj]
  exact h1 j (idx_some _ _ _ hj).1
theorem sat_must {ws : List Str} {i : Nat} {Q : Nat → Nat → Prop} (h1 : ∀ j, j < ws.length → Q j (i + 1)) : (must ws).Sat T P Q i := by
  refine Sat.bind (Q := fun o i' => ∀ j, o = some j → j < ws.length ∧ i' = i + 1) (sat_take (fun j hj k e => by cases e; exact ⟨hj, rfl⟩) (fun j e => by cases e)) fun a i' h => ?_
  cases a with
  | none => trivial
  | some j => obtain ⟨h3, rfl⟩ := h j rfl; exact h1 j h3
end Tr
namespace North
open Tr
def NP (s : Str) : Prop := IsName s ∧ isKey s = false
abbrev T := Lex.TokOk
/-- The parser's own errors: their numbers, and where they lie. -/
def P (e j i : Nat) : Prop := (e = 10 ∨ e = 9 ∨ e = 2) ∧ j ≤ i
theorem sat_nm {i : Nat} : nm.Sat T P (fun s i' => NP s ∧ i' = i + 1) i := by
  refine ⟨fun t ht hq => ?_, trivial⟩
  simp only [Bool.and_eq_true, beq_iff_eq, Bool.not_eq_true'] at hq
  refine ⟨⟨?_, hq.2⟩, rfl⟩
  rcases ht with ⟨_, _, h1, h2⟩ | ⟨h1, _⟩ | ⟨h1, _⟩
  · exact ⟨h1, h2⟩
  · omega
  · omega
theorem sat_number {m i : Nat} : (number m).Sat T P (fun n i' => n ≤ m ∧ i' = i + 1) i := by
  refine ⟨fun t ht hq => ?_, trivial⟩
  simp only
  split
  · exact ⟨.inl rfl, by omega⟩
  · exact ⟨by omega, rfl⟩
theorem sat_more {α : Type} {word : Str} {one : Tr α} {G : α → Prop} (ho : ∀ i, one.Sat T P (fun a i' => G a ∧ i ≤ i') i) : ∀ (k : Nat) (acc : List α) (i : Nat), (∀ x ∈ acc, G x) → (more word one k acc).Sat T P (fun l i' => (∀ x ∈ l, G x) ∧ acc.length ≤ l.length ∧ (l.length = acc.length → l = acc) ∧ i ≤ i') i := by
  intro k
  induction k with
  | zero => intro acc i _; trivial
  | succ k ih =>
    intro acc i ha
    simp only [more]
    refine Sat.bind (Q := fun o i' => i ≤ i') (sat_take (fun j _ => by omega) (Nat.le_refl _)) fun o i' h => ?_
    cases o with
    | none => exact ⟨ha, Nat.le_refl _, fun _ => rfl, h⟩
    | some j =>
      refine (ho i').bind fun x i2 hx => ?_
      refine (ih (acc ++ [x]) i2 (by intro y hy; simp at hy; rcases hy with hy | rfl; exact ha y hy; exact hx.1)).mono (fun _ _ _ h => h) fun l i3 hl => ⟨hl.1, ?_, ?_, ?_⟩
      · have := hl.2.1; simp at this; omega
      · intro e; have := hl.2.1; simp at this; omega
      · have := hl.2.2.2; have := hx.2; omega
theorem sat_several {α : Type} {k : Nat} {word : Str} {one : Tr α} {join : List α → α} {G : α → Prop} (hj : ∀ l, 2 ≤ l.length → (∀ x ∈ l, G x) → G (join l)) (ho : ∀ i, one.Sat T P (fun a i' => G a ∧ i ≤ i') i) (i : Nat) : (several k word one join).Sat T P (fun a i' => G a ∧ i ≤ i') i := by
  unfold several
  refine (ho i).bind fun x i1 hx => (sat_more ho k [x] i1 (by simpa using hx.1)).bind fun l i2 hl => ⟨?_, by have := hl.2.2.2; have := hx.2; omega⟩
  unfold joined
  split
  · exact hl.1 _ (by simp)
  · rename_i hn
    refine hj l ?_ hl.1
    rcases Nat.lt_or_ge 1 l.length with h | h
    · exact h
    · have h1 := hl.2.1
      simp only [List.length_singleton] at h1
      have := hl.2.2.1 (by simp; omega)
      exact absurd this (hn x)
theorem sat_bounded {α : Type} {read : Tr α} {size depth : α → Nat} {G : α → Prop} {i : Nat} (h : read.Sat T P (fun a i' => G a ∧ i ≤ i') i) : (bounded read size depth).Sat T P (fun a _ => G a ∧ size a ≤ 200 ∧ depth a ≤ 20) i := by
  unfold bounded
  refine h.bind fun x _ hx => ?_
  by_cases hc : depth x > 20 ∨ size x > 200
  · rw [if_pos hc]; exact ⟨.inr (.inr rfl), hx.2⟩
  · rw [if_neg hc]; exact ⟨hx.1, by omega, by omega⟩
theorem ok_and (l : List Fm) (h1 : 2 ≤ l.length) (h2 : ∀ x ∈ l, Fm.Ok NP x) : Fm.Ok NP (andJ l) := by
  unfold andJ
  rw [Fm.Ok]
  exact ⟨.inr (.inr (.inr (.inr ⟨.inl rfl, rfl, rfl, rfl, h1⟩))), (Fm.oks_iff _ _).2 h2⟩
theorem ok_or (l : List Fm) (h1 : 2 ≤ l.length) (h2 : ∀ x ∈ l, Fm.Ok NP x) : Fm.Ok NP (orJ l) := by
  unfold orJ
  rw [Fm.Ok]
  exact ⟨.inr (.inr (.inr (.inr ⟨.inr rfl, rfl, rfl, rfl, h1⟩))), (Fm.oks_iff _ _).2 h2⟩
theorem ok_all (l : List St) (h1 : 2 ≤ l.length) (h2 : ∀ x ∈ l, St.Ok NP x) : St.Ok NP (allJ l) := by
  unfold allJ
  rw [St.Ok]
  exact ⟨.inr (.inr (.inr ⟨.inl rfl, rfl, rfl, h1⟩)), (St.oks_iff _ _).2 h2⟩
theorem ok_any (l : List St) (h1 : 2 ≤ l.length) (h2 : ∀ x ∈ l, St.Ok NP x) : St.Ok NP (anyJ l) := by
  unfold anyJ
  rw [St.Ok]
  exact ⟨.inr (.inr (.inr ⟨.inr rfl, rfl, rfl, h1⟩)), (St.oks_iff _ _).2 h2⟩
theorem sat_atom : ∀ (k i : Nat), (atom k).Sat T P (fun f i' => f.Ok NP ∧ i ≤ i') i := by
  intro k
  induction k with
  | zero => intro i; trivial
  | succ k ih =>
    intro i
    simp only [atom]
    refine Sat.bind (Q := fun o i' => i ≤ i') (sat_take (fun j _ => by omega) (Nat.le_refl _)) fun o i' h => ?_
    have hand : ∀ i, (several k [97, 110, 100] (atom k) andJ).Sat T P (fun f i' => f.Ok NP ∧ i ≤ i') i := fun i => sat_several (G := fun f : Fm => f.Ok NP) ok_and ih i
    have hor : ∀ i, (several k [111, 114] (several k [97, 110, 100] (atom k) andJ) orJ).Sat T P (fun f i' => f.Ok NP ∧ i ≤ i') i := fun i => sat_several (G := fun f : Fm => f.Ok NP) ok_or hand i
    split
    · refine (ih i').bind fun f i2 hf => ⟨⟨.inr (.inr (.inr (.inl ⟨rfl, rfl, rfl, rfl, rfl⟩))), hf.1, trivial⟩, by have := hf.2; omega⟩
    · refine (hor i').bind fun f i2 hf => Sat.bind (Q := fun _ i3 => i3 = i2 + 1) (sat_must fun _ _ => rfl) fun _ i3 h3 => ⟨hf.1, by have := hf.2; omega⟩
    · exact ⟨⟨.inl ⟨.inl rfl, rfl, rfl, rfl, rfl⟩, trivial⟩, h⟩
    · exact ⟨⟨.inl ⟨.inr rfl, rfl, rfl, rfl, rfl⟩, trivial⟩, h⟩
    · refine sat_nm.bind fun s i2 hs => Sat.bind (Q := fun o i3 => (∀ c, o = some c → c < 6) ∧ i2 ≤ i3) (sat_take (fun j hj => ⟨fun c e => by cases e; exact hj, by omega⟩) ⟨(fun c e => by cases e), Nat.le_refl _⟩) fun o i3 h3 => ?_
      obtain ⟨hs1, rfl⟩ := hs
      split
      · rename_i c
        have hc := h3.1 c rfl
        exact sat_number.bind fun n i4 hn => ⟨⟨.inr (.inl ⟨rfl, hs1, by omega, by omega, by omega, by omega, rfl⟩), trivial⟩, by omega⟩
      · exact ⟨⟨.inr (.inr (.inl ⟨rfl, hs1, rfl, rfl, rfl⟩)), trivial⟩, by omega⟩
theorem sat_cond (k i : Nat) : (cond k).Sat T P (fun f i' => f.Ok NP ∧ i ≤ i') i :=
  sat_several (G := fun f : Fm => f.Ok NP) ok_or (fun i => sat_several (G := fun f : Fm => f.Ok NP) ok_and (sat_atom k) i) i
theorem sat_one : ∀ (k i : Nat), (one k).Sat T P (fun f i' => f.Ok NP ∧ i ≤ i') i := by
  intro k
  induction k with
  | zero => intro i; trivial
  | succ k ih =>
    intro i
    simp only [one]
    refine Sat.bind (Q := fun o i' => o < 8 ∧ i' = i + 1) (sat_must fun j hj => ⟨hj, rfl⟩) fun o i' h => ?_
    obtain ⟨ho, rfl⟩ := h
    have hand : ∀ i, (several k [97, 110, 100] (one k) allJ).Sat T P (fun f i' => f.Ok NP ∧ i ≤ i') i := fun i => sat_several (G := fun f : St => f.Ok NP) ok_all ih i
    have hor : ∀ i, (several k [111, 114] (several k [97, 110, 100] (one k) allJ) anyJ).Sat T P (fun f i' => f.Ok NP ∧ i ≤ i') i := fun i => sat_several (G := fun f : St => f.Ok NP) ok_any hand i
    split
    · exact ⟨⟨.inl ⟨.inl rfl, rfl, rfl, rfl⟩, trivial⟩, by omega⟩
    · exact ⟨⟨.inl ⟨.inr rfl, rfl, rfl, rfl⟩, trivial⟩, by omega⟩
    · exact sat_number.bind fun n i4 hn => ⟨⟨.inr (.inl ⟨rfl, rfl, by omega, by omega, rfl⟩), trivial⟩, by omega⟩
    · refine (hor _).bind fun f i2 hf => Sat.bind (Q := fun _ i3 => i3 = i2 + 1) (sat_must fun _ _ => rfl) fun _ i3 h3 => ⟨hf.1, by have := hf.2; omega⟩
    · rename_i h0 h1 h2 h3
      refine sat_nm.bind fun s i2 hs => ⟨⟨.inr (.inr (.inl ⟨?_, hs.1, rfl, rfl⟩)), trivial⟩, by have := hs.2; omega⟩
      have : o = 4 ∨ o = 5 ∨ o = 6 ∨ o = 7 := by
        have h0' : o ≠ 0 := h0
        have h1' : o ≠ 1 := h1
        have h2' : o ≠ 2 := h2
        have h3' : o ≠ 3 := h3
        omega
      rcases this with rfl | rfl | rfl | rfl <;> decide
theorem sat_start (k i : Nat) : (start k).Sat T P (fun f i' => f.Ok NP ∧ i ≤ i') i :=
  sat_several (G := fun f : St => f.Ok NP) ok_any (fun i => sat_several (G := fun f : St => f.Ok NP) ok_all (sat_one k) i) i
def SGood (s : St) : Prop := s.Ok NP ∧ s.size ≤ 200 ∧ s.depth ≤ 20
def FGood (s : Fm) : Prop := s.Ok NP ∧ s.size ≤ 200 ∧ s.depth ≤ 20
theorem sat_part (k : Nat) (w : Str) (o : Int) (ho : o = 1 ∨ o = 2) (i : Nat) : (part k w o).Sat T P (fun s _ => SGood s) i := by
  unfold part
  refine Sat.bind (Q := fun _ _ => True) (sat_take (fun _ _ => trivial) trivial) fun a i' _ => ?_
  split
  · exact sat_bounded (sat_start k i')
  · exact ⟨⟨.inl ⟨ho, rfl, rfl, rfl⟩, trivial⟩, by simp [st0, St.size, St.sizes], by simp [st0, St.depth, St.depths]⟩
def EGood (l : List Str) : Prop := l.length ≤ 20 ∧ l.Nodup ∧ ∀ s ∈ l, NP s
theorem sat_except : ∀ (k : Nat) (acc : List Str) (i : Nat), EGood acc → (except k acc).Sat T P (fun l _ => EGood l) i := by
  intro k
  induction k with
  | zero => intro acc i _; trivial
  | succ k ih =>
    intro acc i ha
    simp only [except]
    refine sat_nm.bind fun s i2 hs => ?_
    obtain ⟨hs, rfl⟩ := hs
    split
    · exact ⟨.inr (.inl rfl), by omega⟩
    · rename_i hc
      split
      · exact ⟨.inr (.inr rfl), by omega⟩
      · rename_i hl
        have hg : EGood (acc ++ [s]) := by
          obtain ⟨h1, h2, h3⟩ := ha
          refine ⟨by simp; omega, ?_, ?_⟩
          · rw [List.nodup_append]
            refine ⟨h2, by simp, ?_⟩
            intro x hx y hy e
            simp at hy
            subst e; subst hy
            simp at hc
            exact hc hx
          · intro x hx
            simp at hx
            rcases hx with hx | rfl
            · exact h3 x hx
            · exact hs
        refine Sat.bind (Q := fun _ _ => True) (sat_take (fun _ _ => trivial) trivial) fun a i' _ => ?_
        split
        · exact ih _ _ hg
        · exact hg
/-- What a provision has. -/
def Good (p : Pv) : Prop := NP p.id ∧ 1 ≤ p.rank ∧ p.rank ≤ 4 ∧ (p.kind = 1 ∨ p.kind = 2) ∧ NP p.name ∧ 0 ≤ p.value ∧ p.value ≤ 1000000 ∧ (p.kind = 1 → p.value = 0) ∧ FGood p.when_ ∧ EGood p.except ∧ SGood p.begin_ ∧ SGood p.end_ ∧ SGood p.again
theorem sat_provision (k : Nat) : (provision k).Sat T P (fun p _ => Good p) 0 := by
  unfold provision
  refine Sat.bind (Q := fun r _ => r < 4) (sat_must fun j hj => hj) fun r i1 hr => ?_
  refine sat_nm.bind fun id i2 hid => ?_
  refine Sat.bind (Q := fun _ _ => True) (sat_must fun _ _ => trivial) fun _ i3 _ => ?_
  refine Sat.bind (Q := fun _ _ => True) (sat_must fun _ _ => trivial) fun d i4 _ => ?_
  refine Sat.bind (Q := fun (ksv : Int × Str × Nat) _ => (ksv.1 = 1 ∨ ksv.1 = 2) ∧ NP ksv.2.1 ∧ ksv.2.2 ≤ 1000000 ∧ (ksv.1 = 1 → ksv.2.2 = 0)) ?_ fun ksv i5 hk => ?_
  · split
    · exact sat_nm.bind fun s _ hs => ⟨.inl rfl, hs.1, by simp, fun _ => rfl⟩
    · exact sat_nm.bind fun s _ hs => Sat.bind (Q := fun _ _ => True) (sat_must fun _ _ => trivial) fun _ _ _ => sat_number.bind fun v _ hv => ⟨.inr rfl, hs.1, hv.1, by simp⟩
  refine Sat.bind (Q := fun w _ => FGood w) ?_ fun w i6 hw => ?_
  · refine Sat.bind (Q := fun _ _ => True) (sat_take (fun _ _ => trivial) trivial) fun a i' _ => ?_
    split
    · exact sat_bounded (sat_cond k i')
    · exact ⟨⟨.inl ⟨.inl rfl, rfl, rfl, rfl, rfl⟩, trivial⟩, by simp [fm0, Fm.size, Fm.sizes], by simp [fm0, Fm.depth, Fm.depths]⟩
  refine Sat.bind (Q := fun w _ => EGood w) ?_ fun ex i7 hex => ?_
  · refine Sat.bind (Q := fun _ _ => True) (sat_take (fun _ _ => trivial) trivial) fun a i' _ => ?_
    split
    · exact sat_except k [] i' ⟨by simp, by simp, by simp⟩
    · exact ⟨by simp, by simp, by simp⟩
  refine (sat_part k _ 1 (.inl rfl) i7).bind fun b i8 hb => (sat_part k _ 2 (.inr rfl) i8).bind fun e i9 he => (sat_part k _ 2 (.inr rfl) i9).bind fun a i10 ha => ?_
  refine Sat.bind (Q := fun _ _ => True) (sat_must fun _ _ => trivial) fun _ _ _ => ?_
  exact ⟨hid.1, by simp only; omega, by simp only; omega, hk.1, hk.2.1, by simp only; omega, by simp only; omega, by intro h; simp only at h ⊢; simp [hk.2.2.2 h], hw, hex, hb, he, ha⟩
end North
end PD
/- A condition that was read has no more nodes than tokens. -/
namespace PD
namespace North
open Tr
abbrev TT : Tok → Prop := fun _ => True
abbrev PP : Nat → Nat → Nat → Prop := fun _ _ _ => True
theorem siz_take {ws : List Str} {i : Nat} : (take ws).Sat TT PP (fun o i' => (∀ j, o = some j → i' = i + 1) ∧ (o = none → i' = i)) i :=
  sat_take (fun j _ => ⟨fun _ _ => rfl, fun e => by cases e⟩) ⟨fun _ e => by (cases e), fun _ => rfl⟩
theorem siz_must {ws : List Str} {i : Nat} : (must ws).Sat TT PP (fun _ i' => i' = i + 1) i := sat_must fun _ _ => rfl
theorem siz_nm {i : Nat} : nm.Sat TT PP (fun _ i' => i' = i + 1) i := ⟨fun _ _ _ => rfl, trivial⟩
theorem siz_number {m i : Nat} : (number m).Sat TT PP (fun _ i' => i' = i + 1) i := by
  refine ⟨fun t _ _ => ?_, trivial⟩
  simp only
  split
  · exact trivial
  · exact rfl
theorem siz_more {α : Type} {size : α → Nat} {word : Str} {one : Tr α} (ho : ∀ i, one.Sat TT PP (fun a i' => size a + i ≤ i') i) : ∀ (k : Nat) (acc : List α) (i : Nat),
    (more word one k acc).Sat TT PP (fun l i' => (l.map size).sum + l.length + i ≤ (acc.map size).sum + acc.length + i' ∧ acc.length ≤ l.length) i := by
  intro k
  induction k with
  | zero => intro acc i; trivial
  | succ k ih =>
    intro acc i
    simp only [more]
    refine siz_take.bind fun o i' h => ?_
    cases o with
    | none => obtain rfl := h.2 rfl; exact ⟨Nat.le_refl _, Nat.le_refl _⟩
    | some j =>
      obtain rfl := h.1 j rfl
      refine (ho _).bind fun x i2 hx => (ih (acc ++ [x]) i2).mono (fun _ _ _ h => h) fun l i3 hl => ?_
      have h1 := hl.1
      have h2 := hl.2
      simp at h1 h2
      omega
theorem siz_several {α : Type} {size : α → Nat} {k : Nat} {word : Str} {one : Tr α} {join : List α → α} (hj : ∀ l, size (join l) = 1 + (l.map size).sum) (ho : ∀ i, one.Sat TT PP (fun a i' => size a + i ≤ i') i) (i : Nat) :
    (several k word one join).Sat TT PP (fun a i' => size a + i ≤ i') i := by
  unfold several
  refine (ho i).bind fun x i1 hx => (siz_more (size := size) ho k [x] i1).bind fun l i2 hl => ?_
  obtain ⟨h1, h2⟩ := hl
  simp at h1 h2
  show size (joined join l) + i ≤ i2
  unfold joined
  split
  · simp at h1; omega
  · rename_i hn
    rw [hj]
    have : l.length ≠ 1 := by
      intro e
      obtain ⟨y, rfl⟩ := List.length_eq_one_iff.1 e
      exact hn y rfl
    omega
theorem Fm.sizes_eq : ∀ l : List Fm, Fm.sizes l = (l.map Fm.size).sum
  | [] => rfl
  | k :: ks => by rw [Fm.sizes, Fm.sizes_eq ks]; simp
theorem St.sizes_eq : ∀ l : List St, St.sizes l = (l.map St.size).sum
  | [] => rfl
  | k :: ks => by rw [St.sizes, St.sizes_eq ks]; simp
theorem siz_and (l : List Fm) : (andJ l).size = 1 + (l.map Fm.size).sum := by unfold andJ; rw [Fm.size, Fm.sizes_eq]
theorem siz_or (l : List Fm) : (orJ l).size = 1 + (l.map Fm.size).sum := by unfold orJ; rw [Fm.size, Fm.sizes_eq]
theorem siz_all (l : List St) : (allJ l).size = 1 + (l.map St.size).sum := by unfold allJ; rw [St.size, St.sizes_eq]
theorem siz_any (l : List St) : (anyJ l).size = 1 + (l.map St.size).sum := by unfold anyJ; rw [St.size, St.sizes_eq]
theorem siz_atom : ∀ (k i : Nat), (atom k).Sat TT PP (fun f i' => f.size + i ≤ i') i := by
  intro k
  induction k with
  | zero => intro i; trivial
  | succ k ih =>
    intro i
    simp only [atom]
    refine siz_take.bind fun o i' h => ?_
    have hor : ∀ i, (several k [111, 114] (several k [97, 110, 100] (atom k) andJ) orJ).Sat TT PP (fun f i' => f.size + i ≤ i') i := fun i => siz_several siz_or (siz_several siz_and ih) i
    split
    · obtain rfl := h.1 _ rfl
      exact (ih _).bind fun f i2 hf => by show (Fm.mk 5 [] 0 0 [f]).size + i ≤ i2; simp only [Fm.size, Fm.sizes]; omega
    · obtain rfl := h.1 _ rfl
      exact (hor _).bind fun f i2 hf => siz_must.bind fun _ i3 h3 => by show f.size + i ≤ i3; omega
    · obtain rfl := h.1 _ rfl
      show (fm0 1).size + i ≤ i + 1
      simp only [fm0, Fm.size, Fm.sizes]; omega
    · obtain rfl := h.1 _ rfl
      show (fm0 2).size + i ≤ i + 1
      simp only [fm0, Fm.size, Fm.sizes]; omega
    · have hi : i ≤ i' := by
        cases o with
        | none => have := h.2 rfl; omega
        | some j => have := h.1 j rfl; omega
      refine siz_nm.bind fun s i2 hs => siz_take.bind fun o i3 h3 => ?_
      split
      · have := h3.1 _ rfl
        exact siz_number.bind fun n i4 hn => by show (Fm.mk 3 s _ _ []).size + i ≤ i4; simp only [Fm.size, Fm.sizes]; omega
      · have := h3.2 rfl
        show (Fm.mk 4 s 0 0 []).size + i ≤ i3
        simp only [Fm.size, Fm.sizes]; omega
theorem siz_cond (k i : Nat) : (cond k).Sat TT PP (fun f i' => f.size + i ≤ i') i := siz_several siz_or (siz_several siz_and (siz_atom k)) i
theorem siz_one : ∀ (k i : Nat), (one k).Sat TT PP (fun f i' => f.size + i ≤ i') i := by
  intro k
  induction k with
  | zero => intro i; trivial
  | succ k ih =>
    intro i
    simp only [one]
    refine siz_must.bind fun o i' h => ?_
    have hor : ∀ i, (several k [111, 114] (several k [97, 110, 100] (one k) allJ) anyJ).Sat TT PP (fun f i' => f.size + i ≤ i') i := fun i => siz_several siz_any (siz_several siz_all ih) i
    subst h
    split
    · show (st0 1).size + i ≤ i + 1
      simp only [st0, St.size, St.sizes]; omega
    · show (st0 2).size + i ≤ i + 1
      simp only [st0, St.size, St.sizes]; omega
    · exact siz_number.bind fun n i4 hn => by show (St.mk 3 [] _ []).size + i ≤ i4; simp only [St.size, St.sizes]; omega
    · exact (hor _).bind fun f i2 hf => siz_must.bind fun _ i3 h3 => by show f.size + i ≤ i3; omega
    · exact siz_nm.bind fun s i2 hs => by show (St.mk _ s 0 []).size + i ≤ i2; simp only [St.size, St.sizes]; omega
theorem siz_start (k i : Nat) : (start k).Sat TT PP (fun f i' => f.size + i ≤ i') i := siz_several siz_any (siz_several siz_all (siz_one k)) i
theorem cond_size (k : Nat) (l : List Tok) (i : Nat) (hi : i ≤ l.length) (f : Fm) (i' : Nat) (h : (cond k).run l i = .ok f i') : f.size ≤ l.length := by
  have h1 := (siz_cond k i).run l (fun _ _ => trivial) hi
  rw [h] at h1
  have := run_le l _ i f i' hi h
  simp only at h1
  omega
theorem start_size (k : Nat) (l : List Tok) (i : Nat) (hi : i ≤ l.length) (f : St) (i' : Nat) (h : (start k).run l i = .ok f i') : f.size ≤ l.length := by
  have h1 := (siz_start k i).run l (fun _ _ => trivial) hi
  rw [h] at h1
  have := run_le l _ i f i' hi h
  simp only at h1
  omega
end North
end PD
/- A provision's reader, statement by statement. -/
namespace PD
namespace North
open Tr
def st00 : St := .mk 0 [] 0 []
def fm00 : Fm := .mk 0 [] 0 0 []
def pv0 (f : Fm) : Pv := { id := [], rank := 0, kind := 0, name := [], value := 0, when_ := f, except := [], begin_ := st00, end_ := st00, again := st00 }
def pvE (p : Pv) : Tr Pv := (must [[46]]).bind fun _ => .ret p
def pvB (k : Nat) (p : Pv) : Tr Pv := (part k [102, 114, 111, 109] 1).bind fun b => (part k [117, 110, 116, 105, 108] 2).bind fun e => (part k [97, 103, 97, 105, 110] 2).bind fun a => pvE { p with begin_ := b, end_ := e, again := a }
def whenP (k : Nat) : Tr Fm := (take [[105, 102]]).bind fun
    | some _ => bounded (cond k) Fm.size Fm.depth
    | none => .ret (fm0 1)
def exceptP (k : Nat) : Tr (List Str) := (take [[110, 111, 116, 119, 105, 116, 104, 115, 116, 97, 110, 100, 105, 110, 103]]).bind fun
    | some _ => except k []
    | none => .ret []
def pvX (k : Nat) (p : Pv) : Tr Pv := (exceptP k).bind fun ex => pvB k { p with except := ex }
def pvW (k : Nat) (p : Pv) : Tr Pv := (whenP k).bind fun w => pvX k { p with when_ := w }
def pvD (k : Nat) (p : Pv) : Tr Pv := nm.bind fun s => pvW k { p with kind := 1, name := s }
def pvA (k : Nat) (p : Pv) : Tr Pv := nm.bind fun s => (must [[105, 115]]).bind fun _ => (number 1000000).bind fun v => pvW k { p with kind := 2, name := s, value := v }
def pvK (k : Nat) (p : Pv) : Tr Pv := (must [[100, 101, 102, 105, 110, 101], [97, 110, 115, 119, 101, 114]]).bind fun d => if d = 0 then pvD k p else pvA k p
def pvS (k : Nat) (p : Pv) : Tr Pv := (must [[58]]).bind fun _ => pvK k p
def pvI (k : Nat) (p : Pv) : Tr Pv := nm.bind fun s => pvS k { p with id := s }
def pvR (k : Nat) : Tr Pv := (must [[99, 111, 110, 115, 116, 105, 116, 117, 116, 105, 111, 110], [97, 99, 116], [114, 101, 103, 117, 108, 97, 116, 105, 111, 110], [98, 121, 108, 97, 119]]).bind fun r => pvI k { pv0 (fm0 1) with rank := 1 + r }
theorem bind_fun {α β : Type} {x : PR α} {f f' : α → Nat → PR β} (h : ∀ a i, f a i = f' a i) : x.bind f = x.bind f' := by
  cases x <;> simp [PR.bind, h]
theorem pvR_eq (k : Nat) (l : List Tok) (i : Nat) : (provision k).run l i = (pvR k).run l i := by
  unfold provision pvR pvI pvS pvK pvD pvA pvW pvX pvB pvE whenP exceptP
  simp only [run_bind]
  refine bind_fun fun r i1 => bind_fun fun id i2 => bind_fun fun _ i3 => bind_fun fun d i4 => ?_
  split
  · simp only [run_bind]
    cases nm.run l i4 with
    | ok s i5 => rfl
    | err e j => rfl
    | out => rfl
  · simp only [run_bind]
    cases nm.run l i4 with
    | ok s i5 =>
      simp only [PR.bind]
      cases (must [[105, 115]]).run l i5 with
      | ok _ i6 =>
        simp only
        cases (number 1000000).run l i6 with
        | ok v i7 => rfl
        | err e j => rfl
        | out => rfl
      | err e j => rfl
      | out => rfl
    | err e j => rfl
    | out => rfl
end North
end PD
