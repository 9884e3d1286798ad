/- The first reader's small steps: must, name, number. -/
import Derived.Test.YtlhgflnmdmifaaaDoorN3
namespace Go.Proofs.YtlhgflnmdmifaaaDoor.Wk
open Go.RowKit PD

abbrev EncNat (_ : World) (a : Nat) (v : Value) : Prop := v = .int .i64 (a : Int)
abbrev EncStr (_ : World) (a : Str) (v : Value) : Prop := v = .string (mkS a)

/-- What was shown of a step, at a known outcome. -/
theorem Out.ok_of {α : Type} {enc : World → α → Value → Prop} {g b o c : Nat} {l : List (Tok × Nat)} {en : Nat} {w : World} {f : Nat} {args : Array Value} {r : PR α} {a : α} {i' : Nat} (hr : r = .ok a i')
    (h : Calls Tryd.prog f args w (Out enc r g b o c l en w)) : Calls Tryd.prog f args w fun e w' => ∃ v, e = .returned v ∧ enc w' a v ∧ Par w' g b o c l en i' ∧ Keep g w w' := by
  subst hr
  refine h.mono ?_
  rintro e w' ⟨hK, v, h1, h2, h3⟩
  exact ⟨v, h1, h2, h3, hK⟩
theorem Out.err_of {α : Type} {enc : World → α → Value → Prop} {g b o c : Nat} {l : List (Tok × Nat)} {en : Nat} {w : World} {f : Nat} {args : Array Value} {r : PR α} {er j : Nat} (hr : r = .err er j)
    (h : Calls Tryd.prog f args w (Out enc r g b o c l en w)) : Calls Tryd.prog f args w fun e w' => e = stopped er (posOf l en j) ∧ Keep g w w' := by
  subst hr
  refine h.mono ?_
  rintro e w' ⟨hK, h1⟩
  exact ⟨h1, hK⟩

set_option maxHeartbeats 1000000 in
theorem must_calls {w : World} {g b o c : Nat} {l : List (Tok × Nat)} {en i : Nat} (h : Par w g b o c l en i) (wb n cc : Nat) (ws : List Str) (hs : Strs w wb ws) (hn : ws.length = n) (hc : n ≤ cc) (hm : n ≤ 1000) :
    Calls Tryd.prog 55 #[.pointer (some ⟨g, 0, none⟩), .slice (some ⟨wb, 0, none⟩) n cc] w (Out EncNat ((Tr.must ws).run (l.map (·.1)) i) g b o c l en w) := by
  have HT := take_calls h wb n cc ws hs hn hc hm
  unfold Tr.must
  rw [Tr.run_bind]
  rcases Tr.run_take_ok (l.map (·.1)) ws i with ⟨j, hr, hl⟩ | hr
  · rw [hr]
    have HT := Lib.hid (Out.ok_of hr HT)
    simp only [PR.bind, Tr.run]
    clear hr hl hs hn hc hm h
    go_enter Tryd.func55, Tryd.ntmps55
    go_wp2_with fail
    refine HT.out.mono ?_
    rintro e w' ⟨v, rfl, rfl, hP, hK⟩
    unfold idxI
    go_wp2
    go_ret
    exact ⟨hK, _, rfl, rfl, hP⟩
  · rw [hr]
    have HT := Lib.hid (Out.ok_of hr HT)
    simp only [PR.bind, Tr.run]
    clear hr hs hn hc hm h
    go_enter Tryd.func55, Tryd.ntmps55
    go_wp2_with fail
    refine HT.out.mono ?_
    rintro e w' ⟨v, rfl, rfl, hP, hK⟩
    unfold idxI
    have HF := Lib.hid (fail_calls hP)
    have HK := Lib.hid hK
    clear hP hK
    go_wp2_with fail
    refine HF.out.mono ?_
    rintro e w2 ⟨rfl, hB⟩
    exact ⟨rfl, HK.out.trans (.of_below hB), rfl⟩

set_option maxHeartbeats 1000000 in
theorem number_calls {w : World} {g b o c : Nat} {l : List (Tok × Nat)} {en i : Nat} (h : Par w g b o c l en i) (m : Nat) :
    Calls Tryd.prog 57 #[.pointer (some ⟨g, 0, none⟩), .int .i64 (m : Int)] w (Out EncNat ((Tr.number m).run (l.map (·.1)) i) g b o c l en w) := by
  have HC := Lib.hid (next_calls h)
  cases hl : l[i]? with
  | none =>
    have hr : (Tr.number m).run (l.map (·.1)) i = .err (Tr.badAt (l.map (·.1)) i) i := by simp only [Tr.number, Tr.run, map_at, hl, Option.map_none]
    rw [hr]
    have hv : nextV l en i = .agg #[.int .i64 0, .string ⟨#[]⟩, .int .i64 0, .int .i64 en] := by simp [nextV, hl]
    rw [hv] at HC
    clear hv hl hr
    have HP := Lib.hid h; clear h
    go_enter Tryd.func57, Tryd.ntmps57
    go_wp2_with fail
    refine HC.out.mono ?_
    rintro e w' ⟨rfl, hB⟩
    go_wp2_with fail
    have hB2 : Below w.heap.size w (w'.alloc (.cells #[.int .i64 0, .string ⟨#[]⟩, .int .i64 0, .int .i64 en] 40)) := hB.alloc hB.size _
    refine (fail_calls (HP.out.below hB2)).mono ?_
    rintro e w2 ⟨rfl, hB3⟩
    exact ⟨rfl, .of_below (below_then hB2 hB3), rfl⟩
  | some x =>
    obtain ⟨t, p⟩ := x
    have hk := kinds h.ok hl
    have hv : nextV l en i = tokV t p := by simp [nextV, hl]
    have hpos : posOf l en i = p := by simp [posOf, hl]
    rw [hv] at HC
    unfold tokV at HC
    have hr : (Tr.number m).run (l.map (·.1)) i = if (t.kind == 2) = true then (if t.n > m then .err 10 i else .ok t.n (i + 1)) else .err (Tr.badAt (l.map (·.1)) i) i := by
      simp only [Tr.number, Tr.run, map_at, hl, Option.map_some]
      split
      · split <;> simp [Tr.run]
      · rfl
    obtain ⟨kind, text, tn⟩ := t
    simp only at hk hr HC
    have hil : i < l.length := (List.getElem?_eq_some_iff.1 hl).1
    clear hl hv
    by_cases hk2 : kind = 2
    · subst hk2
      rw [if_pos (by simp)] at hr
      rw [hr]
      clear hr hk
      by_cases hgt : tn > m
      · rw [if_pos hgt]
        clear h
        go_enter Tryd.func57, Tryd.ntmps57
        go_wp2_with fail
        refine HC.out.mono ?_
        rintro e w' ⟨rfl, hB⟩
        go_wp2
        have hB2 : Below w.heap.size w (w'.alloc (.cells #[.int .i64 ((2 : Nat) : Int), .string (mkS text), .int .i64 tn, .int .i64 p] 40)) := hB.alloc hB.size _
        exact ⟨rfl, .of_below hB2, by show _ = stopped _ _; rw [hpos]; rfl⟩
      · rw [if_neg hgt]
        have hI0 := h.hi
        have hC0 := h.hc
        have HP := Lib.hid h; clear h
        clear hpos
        go_enter Tryd.func57, Tryd.ntmps57
        go_wp2_with fail
        refine HC.out.mono ?_
        rintro e w' ⟨rfl, hB⟩
        have HP2 := Lib.hid (HP.out.below hB)
        obtain ⟨A, hA, hb⟩ := (HP.out.below hB).blk
        have h0 := blk_cell hb 0
        have f0 := blk_free hb 0
        simp only [List.getElem?_toArray, List.getElem?_cons_zero] at h0
        have hlt2 := heap_lt hb
        clear hb
        obtain ⟨A', hsl, hA'⟩ := run_tail A (l.length - i) (c - i) (by omega) (by omega)
        have HA := Lib.hid hA; clear hA
        have HA' := Lib.hid hA'; clear hA'
        have HB2 := Lib.hid hB; clear hB
        go_wp2
        go_ret
        refine ⟨?_, _, rfl, rfl, ?_⟩
        · exact ((Keep.of_below HB2.out).set 0 _).alloc _
        · rw [show l.length - i - 1 = l.length - (i + 1) from by omega, show c - i - 1 = c - (i + 1) from by omega]
          refine (HP2.out.step hil A' fun hlt3 => ?_).below ((Below.refl _ _).alloc (Nat.le_refl _) _)
          rw [HA'.out (by omega), HA.out hil]
          simp only [Option.map_some, add_four, Nat.mul_add, Nat.add_assoc, Nat.mul_one]
    · have hkb : ((kind : Int) != 2) = true := by simp; omega
      rw [if_neg (by simp [hk2])] at hr
      rw [hr]
      clear hr hk hk2
      have HP := Lib.hid h; clear h
      go_enter Tryd.func57, Tryd.ntmps57
      go_wp2_with fail
      refine HC.out.mono ?_
      rintro e w' ⟨rfl, hB⟩
      go_wp2_with fail
      have hB2 : Below w.heap.size w (w'.alloc (.cells #[.int .i64 (kind : Int), .string (mkS text), .int .i64 tn, .int .i64 p] 40)) := hB.alloc hB.size _
      refine (fail_calls (HP.out.below hB2)).mono ?_
      rintro e w2 ⟨rfl, hB3⟩
      exact ⟨rfl, .of_below (below_then hB2 hB3), rfl⟩
end Go.Proofs.YtlhgflnmdmifaaaDoor.Wk
