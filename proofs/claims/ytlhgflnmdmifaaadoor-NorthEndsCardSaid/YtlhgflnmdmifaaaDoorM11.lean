/- Conditions of commencement are read. -/
import Derived.Test.YtlhgflnmdmifaaaDoorM10
namespace Go.Proofs.YtlhgflnmdmifaaaDoor.Wk
open Go.RowKit PD
/-- The reader of conditions of commencement without and and or. -/
theorem one_calls : ∀ k, k ≤ 6000 → OneP k := by
  intro k
  induction k with
  | zero => intro _ w g b o c l en i _ hout; exact absurd rfl hout
  | succ k ih =>
    intro hk w g b o c l en i h hout
    have hc := start_of (by omega) (all_of (by omega) (ih (by omega)))
    have hrun : (North.one (k + 1)).run (l.map (·.1)) i = ((Tr.must oneWs).run (l.map (·.1)) i).bind fun j i' => Tr.run (l.map (·.1)) (match j with
      | 0 => .ret (North.st0 1)
      | 1 => .ret (North.st0 2)
      | 2 => (Tr.number 1000000).bind fun n => .ret (St.mk 3 [] n [])
      | 3 => (North.start k).bind fun s => (Tr.must [[41]]).bind fun _ => .ret s
      | j => North.nm.bind fun s => .ret (St.mk (4 + (j - 4 : Nat)) s 0 []) : Tr St) i' := by
      rw [North.one, Tr.run_bind]
      rfl
    have hm : (∃ j, (Tr.must oneWs).run (l.map (·.1)) i = .ok j (i + 1) ∧ j < 8) ∨ ∃ er j, (Tr.must oneWs).run (l.map (·.1)) i = .err er j := by
      unfold Tr.must
      rw [Tr.run_bind]
      rcases Tr.run_take_ok (l.map (·.1)) oneWs i with ⟨j, hr, hl⟩ | hr
      · refine .inl ⟨j, by rw [hr]; rfl, ?_⟩
        have h2 := hr
        rw [Tr.run_take] at h2
        cases hx : (l.map (·.1))[i]? with
        | none => rw [hx] at h2; simp at h2
        | some t =>
          rw [hx] at h2
          simp only at h2
          split at h2
          · simp only [PR.ok.injEq] at h2; exact (idx_some _ _ _ h2.1).1
          · simp at h2
      · exact .inr ⟨_, _, by rw [hr]; rfl⟩
    rcases hm with ⟨j, hr, hj8⟩ | ⟨er, j, hr⟩
    · rw [hr] at hrun
      simp only [PR.bind] at hrun
      rw [hrun] at hout ⊢
      rcases Nat.lt_or_ge j 4 with hj4 | hj4
      · have hcase : j = 0 ∨ j = 1 ∨ j = 2 ∨ j = 3 := by omega
        rcases hcase with rfl | rfl | rfl | rfl
        · exact one_const h 0 (.inl rfl) hr
        · exact one_const h 1 (.inr rfl) hr
        · simp only [Tr.run_bind] at hout ⊢
          exact one_day h hr _ rfl
        · simp only [Tr.run_bind] at hout ⊢
          exact one_paren h hc hr _ rfl (fun e => hout (by rw [e]; rfl)) _ rfl
      · refine one_name h j hj4 hj8 hr _ ?_
        match j, hj4, hj8 with
        | 4, _, _ => simp only [Tr.run_bind]; rfl
        | 5, _, _ => simp only [Tr.run_bind]; rfl
        | 6, _, _ => simp only [Tr.run_bind]; rfl
        | 7, _, _ => simp only [Tr.run_bind]; rfl
    · rw [hrun, hr]
      exact one_err h er j hr
theorem start_calls (k : Nat) (hk : k ≤ 6000) : StartP k := start_of hk (all_of hk (one_calls k hk))
end Go.Proofs.YtlhgflnmdmifaaaDoor.Wk
