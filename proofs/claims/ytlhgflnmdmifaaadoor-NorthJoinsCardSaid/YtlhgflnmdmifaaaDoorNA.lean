/- The first reader's small steps. The first reader's small steps: errors, words. The first reader's small steps: words and symbols. The first reader's small steps: must, name, number. The first reader's small steps: key words and names. -/
import Derived.Test.YtlhgflnmdmifaaaDoorBase
import Derived.Test.YtlhgflnmdmifaaaDoorPlain
import Derived.Test.YtlhgflnmdmifaaaDoorKey
import Derived.Test.YtlhgflnmdmifaaaDoorShelf
namespace Go.Proofs.YtlhgflnmdmifaaaDoor.Wk
open Go.RowKit PD

theorem nextV_lt {l : List (Tok × Nat)} {en i : Nat} (h : i < l.length) : nextV l en i = tokV (l[i]).1 (l[i]).2 := by
  simp [nextV, List.getElem?_eq_getElem h]
theorem nextV_end {l : List (Tok × Nat)} {en i : Nat} (h : l.length ≤ i) : nextV l en i = .agg #[.int .i64 0, .string ⟨#[]⟩, .int .i64 0, .int .i64 en] := by
  simp [nextV, List.getElem?_eq_none h]

set_option maxHeartbeats 400000 in
theorem next_calls {w : World} {g b o c : Nat} {l : List (Tok × Nat)} {en i : Nat} (h : Par w g b o c l en i) :
    Calls Tryd.prog 80 #[.pointer (some ⟨g, 0, none⟩)] w fun e w' => e = .returned (nextV l en i) ∧ Below w.heap.size w w' := by
  have hlt := h.lt
  obtain ⟨A, hA, hb⟩ := h.blk
  have hc := h.hc
  have hi := h.hi
  have h0 := blk_cell hb 0
  have h1 := blk_cell hb 1
  simp only [List.getElem?_toArray, List.getElem?_cons_zero, List.getElem?_cons_succ] at h0 h1
  clear hb
  rcases Nat.lt_or_ge i l.length with hl | hl
  · obtain rfl := hA hl
    have e : l[i]? = some ((l[i]).1, (l[i]).2) := List.getElem?_eq_getElem hl
    have t0 := h.toks.kind i _ _ e
    have t1 := h.toks.text i _ _ e
    have t2 := h.toks.n i _ _ e
    have t3 := h.toks.at_ i _ _ e
    have hbl := cell_lt t0
    have hz : (((l.length - i : Nat) : Int) == 0) = false := by simp; omega
    have hn := nextV_lt (en := en) hl
    generalize nextV l en i = nv at hn ⊢
    generalize (l[i]).1 = t at *
    generalize (l[i]).2 = p at *
    clear e h
    generalize hm : l.length - i = m at *
    have hm0 : 0 < m := by omega
    clear hm
    have HN := Lib.hid hn; clear hn
    go_enter Tryd.func80, Tryd.ntmps80
    go_wp2
    refine bodyPost_ret (v := tokV t p) (by simp [results, Tryd.results80, go_sem, tokV]) rfl ⟨by rw [HN.out], ?_⟩
    exact (Below.refl _ _).alloc (Nat.le_refl _) _
  · have hz : l.length - i = 0 := by omega
    rw [hz] at h0
    have hn := nextV_end (en := en) hl
    generalize nextV l en i = nv at hn ⊢
    have HN := Lib.hid hn; clear hn
    clear h hz
    go_enter Tryd.func80, Tryd.ntmps80
    go_wp2
    refine bodyPost_ret (v := .agg #[.int .i64 0, .string ⟨#[]⟩, .int .i64 0, .int .i64 en]) (by simp [results, Tryd.results80, go_sem]) rfl ⟨by rw [HN.out], ?_⟩
    exact (Below.refl _ _).alloc (Nat.le_refl _) _
end Go.Proofs.YtlhgflnmdmifaaaDoor.Wk
namespace Go.Proofs.YtlhgflnmdmifaaaDoor.Wk
open Go.RowKit PD

set_option maxHeartbeats 400000 in
theorem fail_calls {w : World} {g b o c : Nat} {l : List (Tok × Nat)} {en i : Nat} (h : Par w g b o c l en i) :
    Calls Tryd.prog 64 #[.pointer (some ⟨g, 0, none⟩)] w fun e w' => e = stopped (Tr.badAt (l.map (·.1)) i) (posOf l en i) ∧ Below w.heap.size w w' := by
  have hlt := h.lt
  obtain ⟨A, hA, hb⟩ := h.blk
  have hc := h.hc
  have hi := h.hi
  have h0 := blk_cell hb 0
  have h1 := blk_cell hb 1
  simp only [List.getElem?_toArray, List.getElem?_cons_zero, List.getElem?_cons_succ] at h0 h1
  clear hb
  rcases Nat.lt_or_ge i l.length with hl | hl
  · have hz : (((l.length - i : Nat) : Int) == 0) = false := by simp; omega
    have hn := nextV_lt (en := en) hl
    have hp : posOf l en i = (l[i]).2 := by simp [posOf, List.getElem?_eq_getElem hl]
    have hbad : Tr.badAt (l.map (·.1)) i = 5 := by simp [Tr.badAt, hl]
    rw [hp, hbad]
    have HC := Lib.hid (next_calls h)
    generalize nextV l en i = nv at hn HC ⊢
    generalize (l[i]).1 = t at *
    generalize (l[i]).2 = p at *
    subst hn
    clear h hp hbad hA
    go_enter Tryd.func64, Tryd.ntmps64
    unfold tokV at HC
    have hfa := run_field_At
    go_wp2_with fail
    refine HC.out.mono ?_
    rintro e w' ⟨rfl, hB⟩
    go_wp2
    exact ⟨rfl, rfl, hB⟩
  · have hz : l.length - i = 0 := by omega
    rw [hz] at h0
    have hp : posOf l en i = en := by simp [posOf, List.getElem?_eq_none hl]
    have hbad : Tr.badAt (l.map (·.1)) i = 6 := by simp [Tr.badAt]; omega
    rw [hp, hbad]
    clear h hz hp hbad hA
    go_enter Tryd.func64, Tryd.ntmps64
    go_wp2
    exact ⟨rfl, rfl, Below.refl _ _⟩

set_option maxHeartbeats 400000 in
theorem Index_calls (w : World) (wb : Nat) (n c : Nat) (ws : List Str) (s : Str) (hn : ws.length = n) (_hc : n ≤ c) (hm : n ≤ 1000) (hs : Strs w wb ws) :
    Calls Tryd.prog 82 #[.slice (some ⟨wb, 0, none⟩) n c, .string (mkS s)] w fun e w' => e = .returned (.int .i64 (idxI (idx ws s))) ∧ w' = w := by
  go_enter Tryd.func82, Tryd.ntmps82
  go_wp2
  go_loop [5, 8] (fun _ i => ∃ k : Nat, k ≤ n ∧ i = .int .i64 k ∧ ∀ j, j < k → ws[j]? ≠ some s) (fun _ i => n - (intOf i).toNat)
  case atStart => exact ⟨0, Nat.zero_le _, rfl, fun j hj => by omega⟩
  case round =>
    obtain ⟨k, hk, rfl, hno⟩ := hrel
    by_cases hlt : k < n
    · have hw : ws[k]? = some ws[k] := List.getElem?_eq_getElem (by omega)
      have hcell := hs k _ hw
      have hadd := add_plain wb k
      generalize ws[k] = x at *
      by_cases hx : x = s
      · subst hx
        have hidx : idx ws x = some k := idx_at hw hno
        clear hno hs hw
        have HI := Lib.hid hidx; clear hidx
        go_wp2
        go_ret
        exact ⟨by rw [HI.out]; rfl, rfl⟩
      · have hne : (s == x) = false := by simpa using fun e => hx e.symm
        have HW := Lib.hid hw; clear hw
        have HN := Lib.hid hno; clear hno
        clear hs
        go_wp2
        go_round
        case rel => exact ⟨k + 1, by omega, by go_num, fun j hj => by
          rcases Nat.lt_or_ge j k with h | h
          · exact HN.out j h
          · obtain rfl : j = k := by omega
            rw [HW.out]; simpa using hx⟩
        case measure => simp [intOf]; omega
    · have hidx : idx ws s = none := by
        cases hi : idx ws s with
        | none => rfl
        | some j =>
          have h1 := idx_some _ _ _ hi
          exact absurd h1.2 (hno j (by omega))
      clear hno hs
      have HI := Lib.hid hidx; clear hidx
      go_wp2
      go_ret
      exact ⟨by rw [HI.out]; rfl, rfl⟩
end Go.Proofs.YtlhgflnmdmifaaaDoor.Wk
namespace Go.Proofs.YtlhgflnmdmifaaaDoor.Wk
open Go.RowKit PD

theorem kinds {l : List (Tok × Nat)} (ok : ∀ x ∈ l, Lex.TokOk x.1) {i : Nat} {t : Tok} {p : Nat} (h : l[i]? = some (t, p)) : t.kind = 1 ∨ t.kind = 2 ∨ t.kind = 3 := by
  rcases ok _ (List.mem_of_getElem? h) with ⟨h, _⟩ | ⟨h, _⟩ | ⟨h, _⟩
  · exact .inl h
  · exact .inr (.inl h)
  · exact .inr (.inr h)
theorem map_at {l : List (Tok × Nat)} {i : Nat} : (l.map (·.1))[i]? = (l[i]?).map (·.1) := by simp

/-- A step that reads a token: the state's slice is cut. -/
def IsInt (n : Int) (_ : World) (_ : Option Nat) (v : Value) : Prop := v = .int .i64 n
abbrev EncIdx (_ : World) (a : Option Nat) (v : Value) : Prop := v = .int .i64 (idxI a)

set_option maxHeartbeats 1000000 in
theorem take_calls {w : World} {g b o c : Nat} {l : List (Tok × Nat)} {en i : Nat} (h : Par w g b o c l en i) (wb n cc : Nat) (ws : List Str) (hs : Strs w wb ws) (hn : ws.length = n) (hc : n ≤ cc) (hm : n ≤ 1000) :
    Calls Tryd.prog 58 #[.pointer (some ⟨g, 0, none⟩), .slice (some ⟨wb, 0, none⟩) n cc] w (Out EncIdx ((Tr.take ws).run (l.map (·.1)) i) g b o c l en w) := by
  have HC := Lib.hid (next_calls h)
  have hlt := h.lt
  cases hl : l[i]? with
  | none =>
    have hr : (Tr.take ws).run (l.map (·.1)) i = .ok none i := by rw [Tr.run_take, map_at, hl]; rfl
    rw [hr]
    have hv : nextV l en i = .agg #[.int .i64 0, .string ⟨#[]⟩, .int .i64 0, .int .i64 en] := by simp [nextV, hl]
    rw [hv] at HC
    clear hv hs hn hl hr
    have HP := Lib.hid h; clear h
    go_enter Tryd.func58, Tryd.ntmps58
    go_wp2_with fail
    refine HC.out.mono ?_
    rintro e w' ⟨rfl, hB⟩
    go_wp2
    go_ret
    have hB2 : Below w.heap.size w (w'.alloc (.cells #[.int .i64 0, .string ⟨#[]⟩, .int .i64 0, .int .i64 en] 40)) := hB.alloc hB.size _
    exact ⟨.of_below hB2, _, rfl, rfl, HP.out.below hB2⟩
  | some x =>
    obtain ⟨t, p⟩ := x
    have hk := kinds h.ok hl
    have hv : nextV l en i = tokV t p := by simp [nextV, hl]
    rw [hv] at HC
    unfold tokV at HC
    have hr : (Tr.take ws).run (l.map (·.1)) i = if (t.kind != 2 && (idx ws t.text).isSome) = true then .ok (idx ws t.text) (i + 1) else .ok none i := by rw [Tr.run_take, map_at, hl]; rfl
    obtain ⟨kind, text, tn⟩ := t
    simp only at hk hr HC
    have hil : i < l.length := (List.getElem?_eq_some_iff.1 hl).1
    clear hl hv
    by_cases hk2 : kind = 2
    · subst hk2
      rw [hr, if_neg (by simp)]
      clear hr hk hs hn
      have HP := Lib.hid h; clear h
      go_enter Tryd.func58, Tryd.ntmps58
      go_wp2_with fail
      refine HC.out.mono ?_
      rintro e w' ⟨rfl, hB⟩
      go_wp2
      go_ret
      have hB2 : Below w.heap.size w (w'.alloc (.cells #[.int .i64 ((2 : Nat) : Int), .string (mkS text), .int .i64 tn, .int .i64 p] 40)) := hB.alloc hB.size _
      exact ⟨.of_below hB2, _, rfl, rfl, HP.out.below hB2⟩
    · have hkb : (kind != 2) = true := by simp [hk2]
      have hkc : (kind = 1 ∨ kind = 3) := by omega
      clear hk
      cases hx : idx ws text with
      | none =>
        rw [hr, if_neg (by simp [hx])]
        have hI : ∀ W, Strs W wb ws → Calls Tryd.prog 82 #[.slice (some ⟨wb, 0, none⟩) n cc, .string (mkS text)] W fun e w' => e = .returned (.int .i64 (-1)) ∧ w' = W := fun W hW => by
          have := Index_calls W wb n cc ws text hn hc hm hW
          rw [hx] at this
          exact this
        clear hr hk2 hkb hx
        have HP := Lib.hid h; clear h
        have HS := Lib.hid hs; clear hs
        have HI := Lib.hid hI; clear hI
        clear hn
        have hk1 : ((kind : Int) != 1) = false ∨ ((kind : Int) != 1) = true ∧ ((kind : Int) != 3) = false := by
          rcases hkc with rfl | rfl <;> simp
        clear hkc
        rcases hk1 with hk1 | ⟨hk1, hk3⟩
        all_goals
          go_enter Tryd.func58, Tryd.ntmps58
          go_wp2_with fail
          refine HC.out.mono ?_
          rintro e w' ⟨rfl, hB⟩
          go_wp2_with fail
          have hB2 : Below w.heap.size w (w'.alloc (.cells #[.int .i64 (kind : Int), .string (mkS text), .int .i64 tn, .int .i64 p] 40)) := hB.alloc hB.size _
          refine (HI.out _ (HS.out.below hB2)).mono ?_
          rintro e w2 ⟨rfl, rfl⟩
          go_wp2
          go_ret
          exact ⟨.of_below hB2, _, rfl, rfl, HP.out.below hB2⟩
      | some j =>
        rw [hr, if_pos (by simp [hkb, hx])]
        have hI : ∀ W, Strs W wb ws → Calls Tryd.prog 82 #[.slice (some ⟨wb, 0, none⟩) n cc, .string (mkS text)] W fun e w' => e = .returned (.int .i64 (j : Int)) ∧ w' = W := fun W hW => by
          have := Index_calls W wb n cc ws text hn hc hm hW
          rw [hx] at this
          exact this
        rw [hx]
        clear hr hk2 hkb hx
        have hI0 := h.hi
        have hC0 := h.hc
        have HP := Lib.hid h; clear h
        have HS := Lib.hid hs; clear hs
        have HI := Lib.hid hI; clear hI
        clear hn
        have hk1 : ((kind : Int) != 1) = false ∨ ((kind : Int) != 1) = true ∧ ((kind : Int) != 3) = false := by
          rcases hkc with rfl | rfl <;> simp
        clear hkc
        rcases hk1 with hk1 | ⟨hk1, hk3⟩
        all_goals
          go_enter Tryd.func58, Tryd.ntmps58
          go_wp2_with fail
          refine HC.out.mono ?_
          rintro e w' ⟨rfl, hB⟩
          go_wp2_with fail
          have hB2 : Below w.heap.size w (w'.alloc (.cells #[.int .i64 (kind : Int), .string (mkS text), .int .i64 tn, .int .i64 p] 40)) := hB.alloc hB.size _
          refine (HI.out _ (HS.out.below hB2)).mono ?_
          rintro e w2 ⟨rfl, rfl⟩
          generalize hW : w'.alloc (.cells #[.int .i64 (kind : Int), .string (mkS text), .int .i64 tn, .int .i64 p] 40) = W at *
          clear hW
          have HP2 := Lib.hid (HP.out.below hB2)
          obtain ⟨A, hA, hb⟩ := (HP.out.below hB2).blk
          have h0 := blk_cell hb 0
          have f0 := blk_free hb 0
          simp only [List.getElem?_toArray, List.getElem?_cons_zero] at h0
          have hlt2 := heap_lt hb
          clear hb
          obtain ⟨A', hsl, hA'⟩ := run_tail A (l.length - i) (c - i) (by omega) (by omega)
          have HA := Lib.hid hA; clear hA
          have HA' := Lib.hid hA'; clear hA'
          have HB2 := Lib.hid hB2; clear hB2
          clear hB
          go_wp2
          go_ret
          refine ⟨(Keep.of_below HB2.out).set 0 _, _, rfl, rfl, ?_⟩
          rw [show l.length - i - 1 = l.length - (i + 1) from by omega, show c - i - 1 = c - (i + 1) from by omega]
          refine HP2.out.step hil A' fun hlt3 => ?_
          rw [HA'.out (by omega), HA.out hil]
          simp only [Option.map_some, add_four, Nat.mul_add, Nat.add_assoc, Nat.mul_one]
end Go.Proofs.YtlhgflnmdmifaaaDoor.Wk
namespace Go.Proofs.YtlhgflnmdmifaaaDoor.Wk
open Go.RowKit PD

abbrev EncNat (_ : World) (a : Nat) (v : Value) : Prop := v = .int .i64 (a : Int)
abbrev EncStr (_ : World) (a : Str) (v : Value) : Prop := v = .string (mkS a)

/-- What was shown of a step, at a known outcome. -/
theorem Out.ok_of {α : Type} {enc : World → α → Value → Prop} {g b o c : Nat} {l : List (Tok × Nat)} {en : Nat} {w : World} {f : Nat} {args : Array Value} {r : PR α} {a : α} {i' : Nat} (hr : r = .ok a i')
    (h : Calls Tryd.prog f args w (Out enc r g b o c l en w)) : Calls Tryd.prog f args w fun e w' => ∃ v, e = .returned v ∧ enc w' a v ∧ Par w' g b o c l en i' ∧ Keep g w w' := by
  subst hr
  refine h.mono ?_
  rintro e w' ⟨hK, v, h1, h2, h3⟩
  exact ⟨v, h1, h2, h3, hK⟩
theorem Out.err_of {α : Type} {enc : World → α → Value → Prop} {g b o c : Nat} {l : List (Tok × Nat)} {en : Nat} {w : World} {f : Nat} {args : Array Value} {r : PR α} {er j : Nat} (hr : r = .err er j)
    (h : Calls Tryd.prog f args w (Out enc r g b o c l en w)) : Calls Tryd.prog f args w fun e w' => e = stopped er (posOf l en j) ∧ Keep g w w' := by
  subst hr
  refine h.mono ?_
  rintro e w' ⟨hK, h1⟩
  exact ⟨h1, hK⟩

set_option maxHeartbeats 1000000 in
theorem must_calls {w : World} {g b o c : Nat} {l : List (Tok × Nat)} {en i : Nat} (h : Par w g b o c l en i) (wb n cc : Nat) (ws : List Str) (hs : Strs w wb ws) (hn : ws.length = n) (hc : n ≤ cc) (hm : n ≤ 1000) :
    Calls Tryd.prog 55 #[.pointer (some ⟨g, 0, none⟩), .slice (some ⟨wb, 0, none⟩) n cc] w (Out EncNat ((Tr.must ws).run (l.map (·.1)) i) g b o c l en w) := by
  have HT := take_calls h wb n cc ws hs hn hc hm
  unfold Tr.must
  rw [Tr.run_bind]
  rcases Tr.run_take_ok (l.map (·.1)) ws i with ⟨j, hr, hl⟩ | hr
  · rw [hr]
    have HT := Lib.hid (Out.ok_of hr HT)
    simp only [PR.bind, Tr.run]
    clear hr hl hs hn hc hm h
    go_enter Tryd.func55, Tryd.ntmps55
    go_wp2_with fail
    refine HT.out.mono ?_
    rintro e w' ⟨v, rfl, rfl, hP, hK⟩
    unfold idxI
    go_wp2
    go_ret
    exact ⟨hK, _, rfl, rfl, hP⟩
  · rw [hr]
    have HT := Lib.hid (Out.ok_of hr HT)
    simp only [PR.bind, Tr.run]
    clear hr hs hn hc hm h
    go_enter Tryd.func55, Tryd.ntmps55
    go_wp2_with fail
    refine HT.out.mono ?_
    rintro e w' ⟨v, rfl, rfl, hP, hK⟩
    unfold idxI
    have HF := Lib.hid (fail_calls hP)
    have HK := Lib.hid hK
    clear hP hK
    go_wp2_with fail
    refine HF.out.mono ?_
    rintro e w2 ⟨rfl, hB⟩
    exact ⟨rfl, HK.out.trans (.of_below hB), rfl⟩

set_option maxHeartbeats 1000000 in
theorem number_calls {w : World} {g b o c : Nat} {l : List (Tok × Nat)} {en i : Nat} (h : Par w g b o c l en i) (m : Nat) :
    Calls Tryd.prog 57 #[.pointer (some ⟨g, 0, none⟩), .int .i64 (m : Int)] w (Out EncNat ((Tr.number m).run (l.map (·.1)) i) g b o c l en w) := by
  have HC := Lib.hid (next_calls h)
  cases hl : l[i]? with
  | none =>
    have hr : (Tr.number m).run (l.map (·.1)) i = .err (Tr.badAt (l.map (·.1)) i) i := by simp only [Tr.number, Tr.run, map_at, hl, Option.map_none]
    rw [hr]
    have hv : nextV l en i = .agg #[.int .i64 0, .string ⟨#[]⟩, .int .i64 0, .int .i64 en] := by simp [nextV, hl]
    rw [hv] at HC
    clear hv hl hr
    have HP := Lib.hid h; clear h
    go_enter Tryd.func57, Tryd.ntmps57
    go_wp2_with fail
    refine HC.out.mono ?_
    rintro e w' ⟨rfl, hB⟩
    go_wp2_with fail
    have hB2 : Below w.heap.size w (w'.alloc (.cells #[.int .i64 0, .string ⟨#[]⟩, .int .i64 0, .int .i64 en] 40)) := hB.alloc hB.size _
    refine (fail_calls (HP.out.below hB2)).mono ?_
    rintro e w2 ⟨rfl, hB3⟩
    exact ⟨rfl, .of_below (below_then hB2 hB3), rfl⟩
  | some x =>
    obtain ⟨t, p⟩ := x
    have hk := kinds h.ok hl
    have hv : nextV l en i = tokV t p := by simp [nextV, hl]
    have hpos : posOf l en i = p := by simp [posOf, hl]
    rw [hv] at HC
    unfold tokV at HC
    have hr : (Tr.number m).run (l.map (·.1)) i = if (t.kind == 2) = true then (if t.n > m then .err 10 i else .ok t.n (i + 1)) else .err (Tr.badAt (l.map (·.1)) i) i := by
      simp only [Tr.number, Tr.run, map_at, hl, Option.map_some]
      split
      · split <;> simp [Tr.run]
      · rfl
    obtain ⟨kind, text, tn⟩ := t
    simp only at hk hr HC
    have hil : i < l.length := (List.getElem?_eq_some_iff.1 hl).1
    clear hl hv
    by_cases hk2 : kind = 2
    · subst hk2
      rw [if_pos (by simp)] at hr
      rw [hr]
      clear hr hk
      by_cases hgt : tn > m
      · rw [if_pos hgt]
        clear h
        go_enter Tryd.func57, Tryd.ntmps57
        go_wp2_with fail
        refine HC.out.mono ?_
        rintro e w' ⟨rfl, hB⟩
        go_wp2
        have hB2 : Below w.heap.size w (w'.alloc (.cells #[.int .i64 ((2 : Nat) : Int), .string (mkS text), .int .i64 tn, .int .i64 p] 40)) := hB.alloc hB.size _
        exact ⟨rfl, .of_below hB2, by show _ = stopped _ _; rw [hpos]; rfl⟩
      · rw [if_neg hgt]
        have hI0 := h.hi
        have hC0 := h.hc
        have HP := Lib.hid h; clear h
        clear hpos
        go_enter Tryd.func57, Tryd.ntmps57
        go_wp2_with fail
        refine HC.out.mono ?_
        rintro e w' ⟨rfl, hB⟩
        have HP2 := Lib.hid (HP.out.below hB)
        obtain ⟨A, hA, hb⟩ := (HP.out.below hB).blk
        have h0 := blk_cell hb 0
        have f0 := blk_free hb 0
        simp only [List.getElem?_toArray, List.getElem?_cons_zero] at h0
        have hlt2 := heap_lt hb
        clear hb
        obtain ⟨A', hsl, hA'⟩ := run_tail A (l.length - i) (c - i) (by omega) (by omega)
        have HA := Lib.hid hA; clear hA
        have HA' := Lib.hid hA'; clear hA'
        have HB2 := Lib.hid hB; clear hB
        go_wp2
        go_ret
        refine ⟨?_, _, rfl, rfl, ?_⟩
        · exact ((Keep.of_below HB2.out).set 0 _).alloc _
        · rw [show l.length - i - 1 = l.length - (i + 1) from by omega, show c - i - 1 = c - (i + 1) from by omega]
          refine (HP2.out.step hil A' fun hlt3 => ?_).below ((Below.refl _ _).alloc (Nat.le_refl _) _)
          rw [HA'.out (by omega), HA.out hil]
          simp only [Option.map_some, add_four, Nat.mul_add, Nat.add_assoc, Nat.mul_one]
    · have hkb : ((kind : Int) != 2) = true := by simp; omega
      rw [if_neg (by simp [hk2])] at hr
      rw [hr]
      clear hr hk hk2
      have HP := Lib.hid h; clear h
      go_enter Tryd.func57, Tryd.ntmps57
      go_wp2_with fail
      refine HC.out.mono ?_
      rintro e w' ⟨rfl, hB⟩
      go_wp2_with fail
      have hB2 : Below w.heap.size w (w'.alloc (.cells #[.int .i64 (kind : Int), .string (mkS text), .int .i64 tn, .int .i64 p] 40)) := hB.alloc hB.size _
      refine (fail_calls (HP.out.below hB2)).mono ?_
      rintro e w2 ⟨rfl, hB3⟩
      exact ⟨rfl, .of_below (below_then hB2 hB3), rfl⟩
end Go.Proofs.YtlhgflnmdmifaaaDoor.Wk
namespace Go.Proofs.YtlhgflnmdmifaaaDoor.Wk
open Go.RowKit PD

theorem keys_text : inText North.keys = [32, 99, 111, 110, 115, 116, 105, 116, 117, 116, 105, 111, 110, 32, 97, 99, 116, 32, 114, 101, 103, 117, 108, 97, 116, 105, 111, 110, 32, 98, 121, 108, 97, 119, 32, 100, 101, 102, 105, 110, 101, 32, 97, 110, 115, 119, 101, 114, 32, 105, 115, 32, 105, 102, 32, 110, 111, 116, 119, 105, 116, 104, 115, 116, 97, 110, 100, 105, 110, 103, 32, 102, 114, 111, 109, 32, 117, 110, 116, 105, 108, 32, 97, 103, 97, 105, 110, 32, 111, 114, 32, 97, 110, 100, 32, 110, 111, 116, 32, 116, 114, 117, 101, 32, 102, 97, 108, 115, 101, 32, 97, 108, 119, 97, 121, 115, 32, 110, 101, 118, 101, 114, 32, 100, 97, 121, 32, 111, 114, 100, 101, 114, 32, 101, 118, 101, 110, 116, 32, 98, 101, 103, 117, 110, 32, 111, 118, 101, 114, 32] := by decide +kernel
theorem keys_plain : ∀ w ∈ North.keys, (32 : UInt8) ∉ w := by decide +kernel

/-- A name's bytes hold no blank. -/
theorem name_plain {t : Tok} (h : Lex.TokOk t) (hk : t.kind = 1) : (32 : UInt8) ∉ t.text ∧ t.text.length ≤ 24 := by
  rcases h with ⟨_, _, hl, c, w, ht, hc, hw⟩ | ⟨h, _⟩ | ⟨h, _⟩
  · refine ⟨?_, hl⟩
    rw [ht]
    intro hm
    rcases List.mem_cons.1 hm with h | h
    · rw [← h] at hc; exact absurd hc (by decide)
    · exact absurd (List.all_eq_true.1 hw 32 h) (by decide)
  · omega
  · omega

set_option maxRecDepth 100000 in
set_option maxHeartbeats 1000000 in
theorem key_calls (s : Str) (hs : (32 : UInt8) ∉ s) (hl : s.length ≤ 24) (w : World) (m : Int) (hm : w.cell? ⟨2, 0, none⟩ = some (.int .i64 m)) :
    Calls Tryd.prog 81 #[.string (mkS s)] w fun e w' => e = .returned (.bool (North.isKey s)) ∧ w' = w := by
  have hc : Go.Lib.contains (inText North.keys) (32 :: s ++ [32]) = North.isKey s := contains_words _ _ keys_plain hs
  have H : Hid (Calls Tryd.prog 116 #[.string ⟨[32, 99, 111, 110, 115, 116, 105, 116, 117, 116, 105, 111, 110, 32, 97, 99, 116, 32, 114, 101, 103, 117, 108, 97, 116, 105, 111, 110, 32, 98, 121, 108, 97, 119, 32, 100, 101, 102, 105, 110, 101, 32, 97, 110, 115, 119, 101, 114, 32, 105, 115, 32, 105, 102, 32, 110, 111, 116, 119, 105, 116, 104, 115, 116, 97, 110, 100, 105, 110, 103, 32, 102, 114, 111, 109, 32, 117, 110, 116, 105, 108, 32, 97, 103, 97, 105, 110, 32, 111, 114, 32, 97, 110, 100, 32, 110, 111, 116, 32, 116, 114, 117, 101, 32, 102, 97, 108, 115, 101, 32, 97, 108, 119, 97, 121, 115, 32, 110, 101, 118, 101, 114, 32, 100, 97, 121, 32, 111, 114, 100, 101, 114, 32, 101, 118, 101, 110, 116, 32, 98, 101, 103, 117, 110, 32, 111, 118, 101, 114, 32].toArray⟩, .string (({ data := #[32] } : ByteArray) ++ mkS s ++ ({ data := #[32] } : ByteArray))] w fun e w' => e = .returned (.bool (North.isKey s)) ∧ w' = w) := by
    refine Lib.hid ?_
    refine (Tryd.strings_Contains _ _ m w (by decide +kernel) hm).mono ?_
    rintro e w' ⟨rfl, rfl⟩
    refine ⟨?_, rfl⟩
    have e : (({ data := #[32] } : ByteArray) ++ mkS s ++ ({ data := #[32] } : ByteArray)).data.toList = 32 :: s ++ [32] := by simp [mkS]
    rw [← hc, keys_text, e]
  have h1 := mkS_size s
  clear hc hs
  go_enter Tryd.func81, Tryd.ntmps81
  go_wp2_with fail
  refine H.out.mono ?_
  rintro e w' ⟨rfl, rfl⟩
  go_wp2
  go_ret
  exact ⟨rfl, rfl⟩

set_option maxHeartbeats 1000000 in
theorem name_calls {w : World} {g b o c : Nat} {l : List (Tok × Nat)} {en i : Nat} (h : Par w g b o c l en i) :
    Calls Tryd.prog 56 #[.pointer (some ⟨g, 0, none⟩)] w (Out EncStr (North.nm.run (l.map (·.1)) i) g b o c l en w) := by
  have HC := Lib.hid (next_calls h)
  cases hl : l[i]? with
  | none =>
    have hr : North.nm.run (l.map (·.1)) i = .err (Tr.badAt (l.map (·.1)) i) i := by simp only [North.nm, Tr.name, Tr.run, map_at, hl, Option.map_none]
    rw [hr]
    have hv : nextV l en i = .agg #[.int .i64 0, .string ⟨#[]⟩, .int .i64 0, .int .i64 en] := by simp [nextV, hl]
    rw [hv] at HC
    clear hv hl hr
    have HP := Lib.hid h; clear h
    go_enter Tryd.func56, Tryd.ntmps56
    go_wp2_with fail
    refine HC.out.mono ?_
    rintro e w' ⟨rfl, hB⟩
    go_wp2_with fail
    have hB2 : Below w.heap.size w (w'.alloc (.cells #[.int .i64 0, .string ⟨#[]⟩, .int .i64 0, .int .i64 en] 40)) := hB.alloc hB.size _
    refine (fail_calls (HP.out.below hB2)).mono ?_
    rintro e w2 ⟨rfl, hB3⟩
    exact ⟨rfl, .of_below (below_then hB2 hB3), rfl⟩
  | some x =>
    obtain ⟨t, p⟩ := x
    have hk := kinds h.ok hl
    have hnp := name_plain (h.ok _ (List.mem_of_getElem? hl))
    have hv : nextV l en i = tokV t p := by simp [nextV, hl]
    rw [hv] at HC
    unfold tokV at HC
    have hr : North.nm.run (l.map (·.1)) i = if (t.kind == 1 && !North.isKey t.text) = true then .ok t.text (i + 1) else .err (Tr.badAt (l.map (·.1)) i) i := by
      simp only [North.nm, Tr.name, Tr.run, map_at, hl, Option.map_some]
    obtain ⟨kind, text, tn⟩ := t
    simp only at hk hr HC hnp
    have hil : i < l.length := (List.getElem?_eq_some_iff.1 hl).1
    clear hl hv
    by_cases hk1 : kind = 1
    · subst hk1
      obtain ⟨m, hm⟩ := h.ml
      have hkc : ∀ W : World, Below w.heap.size w W → Calls Tryd.prog 81 #[.string (mkS text)] W fun e w' => e = .returned (.bool (North.isKey text)) ∧ w' = W := fun W hW =>
        key_calls text (hnp rfl).1 (hnp rfl).2 W m (below_cell hW hm)
      clear hnp hm hk
      cases hkey : North.isKey text with
      | true =>
        rw [hkey] at hkc hr
        rw [if_neg (by simp)] at hr
        rw [hr]
        clear hr hkey
        have HP := Lib.hid h; clear h
        have HK := Lib.hid hkc; clear hkc
        go_enter Tryd.func56, Tryd.ntmps56
        go_wp2_with fail
        refine HC.out.mono ?_
        rintro e w' ⟨rfl, hB⟩
        go_wp2_with fail
        have hB2 : Below w.heap.size w (w'.alloc (.cells #[.int .i64 ((1 : Nat) : Int), .string (mkS text), .int .i64 tn, .int .i64 p] 40)) := hB.alloc hB.size _
        refine (HK.out _ hB2).mono ?_
        rintro e w2 ⟨rfl, rfl⟩
        go_wp2_with fail
        refine (fail_calls (HP.out.below hB2)).mono ?_
        rintro e w2 ⟨rfl, hB3⟩
        exact ⟨rfl, .of_below (below_then hB2 hB3), rfl⟩
      | false =>
        rw [hkey] at hkc hr
        rw [if_pos (by simp)] at hr
        rw [hr]
        clear hr hkey
        have hI0 := h.hi
        have hC0 := h.hc
        have HP := Lib.hid h; clear h
        have HK := Lib.hid hkc; clear hkc
        go_enter Tryd.func56, Tryd.ntmps56
        go_wp2_with fail
        refine HC.out.mono ?_
        rintro e w' ⟨rfl, hB⟩
        go_wp2_with fail
        have hB2 : Below w.heap.size w (w'.alloc (.cells #[.int .i64 ((1 : Nat) : Int), .string (mkS text), .int .i64 tn, .int .i64 p] 40)) := hB.alloc hB.size _
        refine (HK.out _ hB2).mono ?_
        rintro e w2 ⟨rfl, rfl⟩
        have HP2 := Lib.hid (HP.out.below hB)
        obtain ⟨A, hA, hb⟩ := (HP.out.below hB).blk
        have h0 := blk_cell hb 0
        have f0 := blk_free hb 0
        simp only [List.getElem?_toArray, List.getElem?_cons_zero] at h0
        have hlt2 := heap_lt hb
        clear hb hB2
        obtain ⟨A', hsl, hA'⟩ := run_tail A (l.length - i) (c - i) (by omega) (by omega)
        have HA := Lib.hid hA; clear hA
        have HA' := Lib.hid hA'; clear hA'
        have HB2 := Lib.hid hB; clear hB
        go_wp2
        go_ret
        refine ⟨?_, _, rfl, rfl, ?_⟩
        · exact ((Keep.of_below HB2.out).set 0 _).alloc _
        · rw [show l.length - i - 1 = l.length - (i + 1) from by omega, show c - i - 1 = c - (i + 1) from by omega]
          refine (HP2.out.step hil A' fun hlt3 => ?_).below ((Below.refl _ _).alloc (Nat.le_refl _) _)
          rw [HA'.out (by omega), HA.out hil]
          simp only [Option.map_some, add_four, Nat.mul_add, Nat.add_assoc, Nat.mul_one]
    · have hkb : ((kind : Int) != 1) = true := by simp; omega
      rw [if_neg (by simp [hk1])] at hr
      rw [hr]
      clear hr hk hk1 hnp
      have HP := Lib.hid h; clear h
      go_enter Tryd.func56, Tryd.ntmps56
      go_wp2_with fail
      refine HC.out.mono ?_
      rintro e w' ⟨rfl, hB⟩
      go_wp2_with fail
      have hB2 : Below w.heap.size w (w'.alloc (.cells #[.int .i64 (kind : Int), .string (mkS text), .int .i64 tn, .int .i64 p] 40)) := hB.alloc hB.size _
      refine (fail_calls (HP.out.below hB2)).mono ?_
      rintro e w2 ⟨rfl, hB3⟩
      exact ⟨rfl, .of_below (below_then hB2 hB3), rfl⟩
end Go.Proofs.YtlhgflnmdmifaaaDoor.Wk
