/- The last token, and what may follow it, in plain Lean. -/
import Derived.Test.YtlhgflnmdmifaaaDoorPA
namespace PD
namespace Tr
variable {α β : Type}
/-- A run that ends well ends by eating a point: without it there is ErrEnd at the end; what follows it is not looked at. -/
def Dot (t : Tr α) : Prop := ∀ (l : List Tok) (i : Nat) (a : α) (i' : Nat), i ≤ l.length → t.run l i = .ok a i' → i < i' ∧ (∃ x, l[i' - 1]? = some x ∧ x.text = [46]) ∧
  (∀ l' : List Tok, (∀ j, j < i' → l[j]? = l'[j]?) → t.run l' i = .ok a i') ∧
  (∀ l' : List Tok, (∀ j, j < i' - 1 → l[j]? = l'[j]?) → l'.length = i' - 1 → t.run l' i = .err 6 (i' - 1))
theorem Dot.bind {t : Tr α} {f : α → Tr β} (hf : ∀ a, Dot (f a)) : Dot (t.bind f) := by
  intro l i b i' hi h
  rw [run_bind] at h
  cases hr : t.run l i with
  | err e j => rw [hr] at h; cases h
  | out => rw [hr] at h; cases h
  | ok a i1 =>
    rw [hr] at h
    simp only [PR.bind] at h
    have hle := run_le l t i a i1 hi hr
    obtain ⟨h1, h2, h3, h4⟩ := hf a l i1 b i' hle.2 h
    refine ⟨by omega, h2, fun l' hl => ?_, fun l' hl hn => ?_⟩
    · rw [run_bind, run_ok_agree l l' t i a i1 hr (fun j hj => hl j (by omega)) hi]
      exact h3 l' hl
    · have ht : t.run l' i = .ok a i1 := by
        rcases Nat.lt_or_ge i1 (i' - 1) with hlt | hge
        · exact run_ok_agree l l' t i a i1 hr (fun j hj => hl j (by omega)) hi
        · have : i1 = i' - 1 := by omega
          exact run_ok_cut l l' t i a i1 hr (fun j hj => hl j (by omega)) (List.getElem?_eq_none (by omega)) hi
      rw [run_bind, ht]
      exact h4 l' hl hn
theorem dot_must (f : Nat → α) : Dot ((must [[46]]).bind fun j => .ret (f j)) := by
  intro l i a i' hi h
  rw [run_bind] at h
  have hm : ∀ m : List Tok, (must [[46]]).run m i = match m[i]? with
      | some t => if (t.kind != 2 && (idx [[46]] t.text).isSome) = true then (match idx [[46]] t.text with | some j => .ok j (i + 1) | none => .err (badAt m (i + 1)) (i + 1)) else .err (badAt m i) i
      | none => .err (badAt m i) i := by
    intro m
    unfold must
    rw [run_bind, run_take]
    cases m[i]? with
    | none => rfl
    | some t =>
      simp only
      split
      · cases idx [[46]] t.text <;> rfl
      · rfl
  rw [hm] at h
  cases hg : l[i]? with
  | none => rw [hg] at h; cases h
  | some t =>
    rw [hg] at h
    simp only at h
    split at h
    · rename_i hq
      cases hx : idx [[46]] t.text with
      | none => rw [hx] at h; cases h
      | some j =>
        rw [hx] at h
        simp only [PR.bind, run, PR.ok.injEq] at h
        obtain ⟨rfl, rfl⟩ := h
        have hd : t.text = [46] := by
          have := (idx_some _ _ _ hx).2
          have hj := (idx_some _ _ _ hx).1
          simp only [List.length_cons, List.length_nil] at hj
          obtain rfl : j = 0 := by omega
          simpa using this.symm
        refine ⟨by omega, ⟨t, by simpa using hg, hd⟩, fun l' hl => ?_, fun l' _ hn => ?_⟩
        · rw [run_bind, hm, ← hl i (by omega), hg]
          simp only
          rw [if_pos hq, hx]
          rfl
        · rw [run_bind, hm, List.getElem?_eq_none (by omega)]
          simp only [PR.bind, badAt]
          rw [if_neg (by omega)]
          simp
    · cases h
end Tr
namespace North
open Tr
theorem dot_provision (k : Nat) : Dot (provision k) := by
  unfold provision
  exact Dot.bind fun r => Dot.bind fun id => Dot.bind fun _ => Dot.bind fun d => Dot.bind fun ksv => Dot.bind fun w => Dot.bind fun ex => Dot.bind fun b => Dot.bind fun e => Dot.bind fun a => dot_must _
theorem parse_done {l : List Tok} {p : Pv} {i : Nat} (h : parse l = .ok p i) : i = l.length ∧ 0 < i ∧ (∃ x, l[i - 1]? = some x ∧ x.text = [46]) ∧
    (∀ l' : List Tok, (∀ j, j < i - 1 → l[j]? = l'[j]?) → l'.length = i - 1 → parse l' = .err 6 (i - 1)) ∧
    (∀ l' : List Tok, (∀ j, j < i → l[j]? = l'[j]?) → i < l'.length → parse l' = .err 5 i) := by
  cases hr : (provision (l.length + 1)).run l 0 with
  | err e j => unfold parse at h; rw [hr] at h; cases h
  | out => exact absurd hr (provision_no_out (by omega))
  | ok q i0 =>
    have h0 := h
    unfold parse at h
    rw [hr] at h
    simp only at h
    split at h
    · cases h
    · rename_i hlt
      cases h
      have hle := run_le l _ 0 p i (Nat.zero_le _) hr
      obtain ⟨d1, d2, d3, d4⟩ := dot_provision (l.length + 1) l 0 p i (Nat.zero_le _) hr
      refine ⟨by omega, d1, d2, fun l' hl hn => ?_, fun l' hl hn => ?_⟩
      · have hr' : (provision (max l.length l'.length + 1)).run l 0 = .ok p i := by rw [fuel_provision (by omega), hr]
        rw [parse_at (k := max l.length l'.length + 1) (by omega), (dot_provision _ l 0 p i (Nat.zero_le _) hr').2.2.2 l' hl hn]
      · have hr' : (provision (max l.length l'.length + 1)).run l 0 = .ok p i := by rw [fuel_provision (by omega), hr]
        rw [parse_at (k := max l.length l'.length + 1) (by omega), (dot_provision _ l 0 p i (Nat.zero_le _) hr').2.2.1 l' hl]
        simp only
        rw [if_pos hn]
end North
namespace Lex
theorem scan_shift : ∀ (k pos d : Nat) (s : List UInt8), (scan k (d + pos) s).1 = (scan k pos s).1.map (fun x => (x.1, d + x.2))
  | 0, pos, d, s => by simp [scan]
  | k + 1, pos, d, [] => by simp [scan]
  | k + 1, pos, d, c :: r => by
    simp only [scan]
    cases head c r with
    | gap n => simp only; rw [Nat.add_assoc]; exact scan_shift k (pos + n) d _
    | tok t => simp only [List.map_cons]; rw [Nat.add_assoc, scan_shift k (pos + t.text.length) d _]
    | err e => rfl
/-- A text of gaps alone. -/
def Gappy (s : List UInt8) : Prop := ∀ pos : Nat, scan s.length pos s = ([], none)
end Lex
namespace North
theorem ends {s : Str} {p : Pv} (h20 : s.length ≤ 6000) (hr : read s = .ok p) : (Lex.lex s).2.1 = 0 ∧
    ∃ (n : Nat) (t : Tok) (q : Nat), (Lex.lex s).1.length = n + 1 ∧ (Lex.lex s).1[n]? = some (t, q) ∧ q + 1 ≤ s.length ∧ read (s.take q) = .error (6, (q : Int)) ∧
      (∃ pos, Lex.scan s.length pos (s.drop (q + 1)) = ([], none)) ∧
      (∀ o : Str, o.length ≤ 6000 → (Lex.lex o).2.1 = 0 → (Lex.lex (s ++ 10 :: o)).2.1 = 0 → ∀ (t' : Tok) (q' : Nat), (Lex.lex o).1[0]? = some (t', q') → read (s ++ 10 :: o) = .error (5, ((s.length + 1 + q' : Nat) : Int))) := by
  have hl : (Lex.lex s).2.1 = 0 := by
    unfold read at hr
    split at hr
    · assumption
    · cases hr
  refine ⟨hl, ?_⟩
  obtain ⟨hs, h5, _⟩ := Lex.lex_scan (by omega) hl
  have hp : ∃ i, parse ((Lex.lex s).1.map (·.1)) = .ok p i := by
    unfold read at hr
    rw [if_pos hl] at hr
    split at hr
    · rename_i q i hp; cases hr; exact ⟨i, hp⟩
    · cases hr
    · cases hr
  obtain ⟨i, hp⟩ := hp
  generalize (Lex.lex s).1 = L at *
  obtain ⟨e1, e2, ⟨x, e3, e3'⟩, e4, e5⟩ := parse_done hp
  rw [List.length_map] at e1
  subst e1
  obtain ⟨n, hn⟩ : ∃ n, L.length = n + 1 := ⟨L.length - 1, by omega⟩
  have hlt : n < L.length := by omega
  obtain ⟨t, q, ht⟩ : ∃ t q, L[n]? = some (t, q) := ⟨L[n].1, L[n].2, List.getElem?_eq_getElem hlt⟩
  have htx : t.text = [46] := by
    rw [List.getElem?_map, show L.length - 1 = n by omega, ht] at e3
    cases e3
    exact e3'
  have hsplit : L = L.take n ++ (t, q) :: L.drop (n + 1) := by
    have h1 := (List.getElem?_eq_some_iff.1 ht).2
    rw [← h1, List.getElem_cons_drop, List.take_append_drop]
  have hdrop : L.drop (n + 1) = [] := List.drop_eq_nil_of_le (by omega)
  rw [hdrop] at hsplit
  have hscan : (Lex.scan s.length 0 s).1 = L.take n ++ (t, q) :: [] := by rw [hs]; exact hsplit
  obtain ⟨_, a2, a3, _, a5, _, a7, _⟩ := Lex.scan_at s.length 0 s _ _ t q (Nat.le_refl _) hscan
  simp only [Nat.sub_zero] at a2 a5 a7
  have ht1 : t.text.length = 1 := by rw [htx]; rfl
  rw [ht1] at a2 a7
  have hnl : (L.take n).length = n := by rw [List.length_take]; omega
  refine ⟨n, t, q, hn, ht, a2, ?_, ⟨q + 1, ?_⟩, ?_⟩
  · have hlx : Lex.lex (s.take q) = (L.take n, 0, 0) := Lex.lex_back (by rw [List.length_take]; omega) (by rw [List.length_take]; exact a5 _ (by omega)) (by omega)
    have h1 := e4 ((L.take n).map (·.1)) (fun k hk => by rw [List.getElem?_map, List.getElem?_map, List.getElem?_take_of_lt (by omega)]) (by rw [List.length_map, hnl]; omega)
    unfold read
    rw [hlx]
    simp only [if_true]
    rw [h1]
    simp only [posAt]
    rw [List.getElem?_eq_none (by omega)]
    simp only [List.length_take]
    rw [Nat.min_eq_left (by omega)]
  · have h1 := a7 s.length (Nat.le_refl _)
    rw [hs] at h1
    exact h1
  · intro o ho hoz hz t' q' h0
    have hlen : (s ++ 10 :: o).length ≤ 20000 := by simp only [List.length_append, List.length_cons]; omega
    obtain ⟨c1, c2, _⟩ := Lex.lex_scan hlen hz
    obtain ⟨o1, _, _⟩ := Lex.lex_scan (s := o) (by omega) hoz
    have happ := Lex.scan_app (d := 10) (by decide) s.length (s ++ 10 :: o).length o.length 0 s o (.inl rfl) (Nat.le_refl _) (by simp only [List.length_append, List.length_cons]; omega) (Nat.le_refl _)
    rw [hs] at happ
    simp only at happ
    rw [c1] at happ
    have hc := congrArg Prod.fst happ
    simp only at hc
    have hsh := Lex.scan_shift o.length 0 (0 + s.length + 1) o
    rw [Nat.add_zero, o1] at hsh
    simp only at hsh
    rw [hsh] at hc
    unfold read
    rw [if_pos hz]
    generalize (Lex.lex (s ++ 10 :: o)).1 = M at *
    generalize (Lex.lex o).1 = O at *
    have hM : M[L.length]? = some (t', 0 + s.length + 1 + q') := by
      rw [hc, List.getElem?_append_right (Nat.le_refl _), Nat.sub_self, List.getElem?_map, h0]
      rfl
    have h1 := e5 (M.map (·.1)) (fun k hk => by rw [List.getElem?_map, List.getElem?_map, hc, List.getElem?_append_left hk]) (by
      rw [List.length_map]
      exact (List.getElem?_eq_some_iff.1 hM).1)
    rw [h1]
    simp only [posAt, hM]
    congr 2
    omega
end North
end PD
