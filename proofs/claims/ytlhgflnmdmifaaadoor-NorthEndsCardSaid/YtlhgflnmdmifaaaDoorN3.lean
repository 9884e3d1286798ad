/- The first reader's small steps: words and symbols. -/
import Derived.Test.YtlhgflnmdmifaaaDoorN2
namespace Go.Proofs.YtlhgflnmdmifaaaDoor.Wk
open Go.RowKit PD

theorem kinds {l : List (Tok × Nat)} (ok : ∀ x ∈ l, Lex.TokOk x.1) {i : Nat} {t : Tok} {p : Nat} (h : l[i]? = some (t, p)) : t.kind = 1 ∨ t.kind = 2 ∨ t.kind = 3 := by
  rcases ok _ (List.mem_of_getElem? h) with ⟨h, _⟩ | ⟨h, _⟩ | ⟨h, _⟩
  · exact .inl h
  · exact .inr (.inl h)
  · exact .inr (.inr h)
theorem map_at {l : List (Tok × Nat)} {i : Nat} : (l.map (·.1))[i]? = (l[i]?).map (·.1) := by simp

/-- A step that reads a token: the state's slice is cut. -/
def IsInt (n : Int) (_ : World) (_ : Option Nat) (v : Value) : Prop := v = .int .i64 n
abbrev EncIdx (_ : World) (a : Option Nat) (v : Value) : Prop := v = .int .i64 (idxI a)

set_option maxHeartbeats 1000000 in
theorem take_calls {w : World} {g b o c : Nat} {l : List (Tok × Nat)} {en i : Nat} (h : Par w g b o c l en i) (wb n cc : Nat) (ws : List Str) (hs : Strs w wb ws) (hn : ws.length = n) (hc : n ≤ cc) (hm : n ≤ 1000) :
    Calls Tryd.prog 58 #[.pointer (some ⟨g, 0, none⟩), .slice (some ⟨wb, 0, none⟩) n cc] w (Out EncIdx ((Tr.take ws).run (l.map (·.1)) i) g b o c l en w) := by
  have HC := Lib.hid (next_calls h)
  have hlt := h.lt
  cases hl : l[i]? with
  | none =>
    have hr : (Tr.take ws).run (l.map (·.1)) i = .ok none i := by rw [Tr.run_take, map_at, hl]; rfl
    rw [hr]
    have hv : nextV l en i = .agg #[.int .i64 0, .string ⟨#[]⟩, .int .i64 0, .int .i64 en] := by simp [nextV, hl]
    rw [hv] at HC
    clear hv hs hn hl hr
    have HP := Lib.hid h; clear h
    go_enter Tryd.func58, Tryd.ntmps58
    go_wp2_with fail
    refine HC.out.mono ?_
    rintro e w' ⟨rfl, hB⟩
    go_wp2
    go_ret
    have hB2 : Below w.heap.size w (w'.alloc (.cells #[.int .i64 0, .string ⟨#[]⟩, .int .i64 0, .int .i64 en] 40)) := hB.alloc hB.size _
    exact ⟨.of_below hB2, _, rfl, rfl, HP.out.below hB2⟩
  | some x =>
    obtain ⟨t, p⟩ := x
    have hk := kinds h.ok hl
    have hv : nextV l en i = tokV t p := by simp [nextV, hl]
    rw [hv] at HC
    unfold tokV at HC
    have hr : (Tr.take ws).run (l.map (·.1)) i = if (t.kind != 2 && (idx ws t.text).isSome) = true then .ok (idx ws t.text) (i + 1) else .ok none i := by rw [Tr.run_take, map_at, hl]; rfl
    obtain ⟨kind, text, tn⟩ := t
    simp only at hk hr HC
    have hil : i < l.length := (List.getElem?_eq_some_iff.1 hl).1
    clear hl hv
    by_cases hk2 : kind = 2
    · subst hk2
      rw [hr, if_neg (by simp)]
      clear hr hk hs hn
      have HP := Lib.hid h; clear h
      go_enter Tryd.func58, Tryd.ntmps58
      go_wp2_with fail
      refine HC.out.mono ?_
      rintro e w' ⟨rfl, hB⟩
      go_wp2
      go_ret
      have hB2 : Below w.heap.size w (w'.alloc (.cells #[.int .i64 ((2 : Nat) : Int), .string (mkS text), .int .i64 tn, .int .i64 p] 40)) := hB.alloc hB.size _
      exact ⟨.of_below hB2, _, rfl, rfl, HP.out.below hB2⟩
    · have hkb : (kind != 2) = true := by simp [hk2]
      have hkc : (kind = 1 ∨ kind = 3) := by omega
      clear hk
      cases hx : idx ws text with
      | none =>
        rw [hr, if_neg (by simp [hx])]
        have hI : ∀ W, Strs W wb ws → Calls Tryd.prog 82 #[.slice (some ⟨wb, 0, none⟩) n cc, .string (mkS text)] W fun e w' => e = .returned (.int .i64 (-1)) ∧ w' = W := fun W hW => by
          have := Index_calls W wb n cc ws text hn hc hm hW
          rw [hx] at this
          exact this
        clear hr hk2 hkb hx
        have HP := Lib.hid h; clear h
        have HS := Lib.hid hs; clear hs
        have HI := Lib.hid hI; clear hI
        clear hn
        have hk1 : ((kind : Int) != 1) = false ∨ ((kind : Int) != 1) = true ∧ ((kind : Int) != 3) = false := by
          rcases hkc with rfl | rfl <;> simp
        clear hkc
        rcases hk1 with hk1 | ⟨hk1, hk3⟩
        all_goals
          go_enter Tryd.func58, Tryd.ntmps58
          go_wp2_with fail
          refine HC.out.mono ?_
          rintro e w' ⟨rfl, hB⟩
          go_wp2_with fail
          have hB2 : Below w.heap.size w (w'.alloc (.cells #[.int .i64 (kind : Int), .string (mkS text), .int .i64 tn, .int .i64 p] 40)) := hB.alloc hB.size _
          refine (HI.out _ (HS.out.below hB2)).mono ?_
          rintro e w2 ⟨rfl, rfl⟩
          go_wp2
          go_ret
          exact ⟨.of_below hB2, _, rfl, rfl, HP.out.below hB2⟩
      | some j =>
        rw [hr, if_pos (by simp [hkb, hx])]
        have hI : ∀ W, Strs W wb ws → Calls Tryd.prog 82 #[.slice (some ⟨wb, 0, none⟩) n cc, .string (mkS text)] W fun e w' => e = .returned (.int .i64 (j : Int)) ∧ w' = W := fun W hW => by
          have := Index_calls W wb n cc ws text hn hc hm hW
          rw [hx] at this
          exact this
        rw [hx]
        clear hr hk2 hkb hx
        have hI0 := h.hi
        have hC0 := h.hc
        have HP := Lib.hid h; clear h
        have HS := Lib.hid hs; clear hs
        have HI := Lib.hid hI; clear hI
        clear hn
        have hk1 : ((kind : Int) != 1) = false ∨ ((kind : Int) != 1) = true ∧ ((kind : Int) != 3) = false := by
          rcases hkc with rfl | rfl <;> simp
        clear hkc
        rcases hk1 with hk1 | ⟨hk1, hk3⟩
        all_goals
          go_enter Tryd.func58, Tryd.ntmps58
          go_wp2_with fail
          refine HC.out.mono ?_
          rintro e w' ⟨rfl, hB⟩
          go_wp2_with fail
          have hB2 : Below w.heap.size w (w'.alloc (.cells #[.int .i64 (kind : Int), .string (mkS text), .int .i64 tn, .int .i64 p] 40)) := hB.alloc hB.size _
          refine (HI.out _ (HS.out.below hB2)).mono ?_
          rintro e w2 ⟨rfl, rfl⟩
          generalize hW : w'.alloc (.cells #[.int .i64 (kind : Int), .string (mkS text), .int .i64 tn, .int .i64 p] 40) = W at *
          clear hW
          have HP2 := Lib.hid (HP.out.below hB2)
          obtain ⟨A, hA, hb⟩ := (HP.out.below hB2).blk
          have h0 := blk_cell hb 0
          have f0 := blk_free hb 0
          simp only [List.getElem?_toArray, List.getElem?_cons_zero] at h0
          have hlt2 := heap_lt hb
          clear hb
          obtain ⟨A', hsl, hA'⟩ := run_tail A (l.length - i) (c - i) (by omega) (by omega)
          have HA := Lib.hid hA; clear hA
          have HA' := Lib.hid hA'; clear hA'
          have HB2 := Lib.hid hB2; clear hB2
          clear hB
          go_wp2
          go_ret
          refine ⟨(Keep.of_below HB2.out).set 0 _, _, rfl, rfl, ?_⟩
          rw [show l.length - i - 1 = l.length - (i + 1) from by omega, show c - i - 1 = c - (i + 1) from by omega]
          refine HP2.out.step hil A' fun hlt3 => ?_
          rw [HA'.out (by omega), HA.out hil]
          simp only [Option.map_some, add_four, Nat.mul_add, Nat.add_assoc, Nat.mul_one]
end Go.Proofs.YtlhgflnmdmifaaaDoor.Wk
