/- The first reader's small steps: errors, words. -/
import Derived.Test.YtlhgflnmdmifaaaDoorN1
import Derived.Test.YtlhgflnmdmifaaaDoorPlain
namespace Go.Proofs.YtlhgflnmdmifaaaDoor.Wk
open Go.RowKit PD

set_option maxHeartbeats 400000 in
theorem fail_calls {w : World} {g b o c : Nat} {l : List (Tok × Nat)} {en i : Nat} (h : Par w g b o c l en i) :
    Calls Tryd.prog 64 #[.pointer (some ⟨g, 0, none⟩)] w fun e w' => e = stopped (Tr.badAt (l.map (·.1)) i) (posOf l en i) ∧ Below w.heap.size w w' := by
  have hlt := h.lt
  obtain ⟨A, hA, hb⟩ := h.blk
  have hc := h.hc
  have hi := h.hi
  have h0 := blk_cell hb 0
  have h1 := blk_cell hb 1
  simp only [List.getElem?_toArray, List.getElem?_cons_zero, List.getElem?_cons_succ] at h0 h1
  clear hb
  rcases Nat.lt_or_ge i l.length with hl | hl
  · have hz : (((l.length - i : Nat) : Int) == 0) = false := by simp; omega
    have hn := nextV_lt (en := en) hl
    have hp : posOf l en i = (l[i]).2 := by simp [posOf, List.getElem?_eq_getElem hl]
    have hbad : Tr.badAt (l.map (·.1)) i = 5 := by simp [Tr.badAt, hl]
    rw [hp, hbad]
    have HC := Lib.hid (next_calls h)
    generalize nextV l en i = nv at hn HC ⊢
    generalize (l[i]).1 = t at *
    generalize (l[i]).2 = p at *
    subst hn
    clear h hp hbad hA
    go_enter Tryd.func64, Tryd.ntmps64
    unfold tokV at HC
    have hfa := run_field_At
    go_wp2_with fail
    refine HC.out.mono ?_
    rintro e w' ⟨rfl, hB⟩
    go_wp2
    exact ⟨rfl, rfl, hB⟩
  · have hz : l.length - i = 0 := by omega
    rw [hz] at h0
    have hp : posOf l en i = en := by simp [posOf, List.getElem?_eq_none hl]
    have hbad : Tr.badAt (l.map (·.1)) i = 6 := by simp [Tr.badAt]; omega
    rw [hp, hbad]
    clear h hz hp hbad hA
    go_enter Tryd.func64, Tryd.ntmps64
    go_wp2
    exact ⟨rfl, rfl, Below.refl _ _⟩

set_option maxHeartbeats 400000 in
theorem Index_calls (w : World) (wb : Nat) (n c : Nat) (ws : List Str) (s : Str) (hn : ws.length = n) (_hc : n ≤ c) (hm : n ≤ 1000) (hs : Strs w wb ws) :
    Calls Tryd.prog 82 #[.slice (some ⟨wb, 0, none⟩) n c, .string (mkS s)] w fun e w' => e = .returned (.int .i64 (idxI (idx ws s))) ∧ w' = w := by
  go_enter Tryd.func82, Tryd.ntmps82
  go_wp2
  go_loop [5, 8] (fun _ i => ∃ k : Nat, k ≤ n ∧ i = .int .i64 k ∧ ∀ j, j < k → ws[j]? ≠ some s) (fun _ i => n - (intOf i).toNat)
  case atStart => exact ⟨0, Nat.zero_le _, rfl, fun j hj => by omega⟩
  case round =>
    obtain ⟨k, hk, rfl, hno⟩ := hrel
    by_cases hlt : k < n
    · have hw : ws[k]? = some ws[k] := List.getElem?_eq_getElem (by omega)
      have hcell := hs k _ hw
      have hadd := add_plain wb k
      generalize ws[k] = x at *
      by_cases hx : x = s
      · subst hx
        have hidx : idx ws x = some k := idx_at hw hno
        clear hno hs hw
        have HI := Lib.hid hidx; clear hidx
        go_wp2
        go_ret
        exact ⟨by rw [HI.out]; rfl, rfl⟩
      · have hne : (s == x) = false := by simpa using fun e => hx e.symm
        have HW := Lib.hid hw; clear hw
        have HN := Lib.hid hno; clear hno
        clear hs
        go_wp2
        go_round
        case rel => exact ⟨k + 1, by omega, by go_num, fun j hj => by
          rcases Nat.lt_or_ge j k with h | h
          · exact HN.out j h
          · obtain rfl : j = k := by omega
            rw [HW.out]; simpa using hx⟩
        case measure => simp [intOf]; omega
    · have hidx : idx ws s = none := by
        cases hi : idx ws s with
        | none => rfl
        | some j =>
          have h1 := idx_some _ _ _ hi
          exact absurd h1.2 (hno j (by omega))
      clear hno hs
      have HI := Lib.hid hidx; clear hidx
      go_wp2
      go_ret
      exact ⟨by rw [HI.out]; rfl, rfl⟩
end Go.Proofs.YtlhgflnmdmifaaaDoor.Wk
