/- The first reader's small steps: key words and names. -/
import Derived.Test.YtlhgflnmdmifaaaDoorN4
import Derived.Test.YtlhgflnmdmifaaaDoorKey
import Derived.Test.YtlhgflnmdmifaaaDoorShelf
namespace Go.Proofs.YtlhgflnmdmifaaaDoor.Wk
open Go.RowKit PD

theorem keys_text : inText North.keys = [32, 99, 111, 110, 115, 116, 105, 116, 117, 116, 105, 111, 110, 32, 97, 99, 116, 32, 114, 101, 103, 117, 108, 97, 116, 105, 111, 110, 32, 98, 121, 108, 97, 119, 32, 100, 101, 102, 105, 110, 101, 32, 97, 110, 115, 119, 101, 114, 32, 105, 115, 32, 105, 102, 32, 110, 111, 116, 119, 105, 116, 104, 115, 116, 97, 110, 100, 105, 110, 103, 32, 102, 114, 111, 109, 32, 117, 110, 116, 105, 108, 32, 97, 103, 97, 105, 110, 32, 111, 114, 32, 97, 110, 100, 32, 110, 111, 116, 32, 116, 114, 117, 101, 32, 102, 97, 108, 115, 101, 32, 97, 108, 119, 97, 121, 115, 32, 110, 101, 118, 101, 114, 32, 100, 97, 121, 32, 111, 114, 100, 101, 114, 32, 101, 118, 101, 110, 116, 32, 98, 101, 103, 117, 110, 32, 111, 118, 101, 114, 32] := by decide +kernel
theorem keys_plain : ∀ w ∈ North.keys, (32 : UInt8) ∉ w := by decide +kernel

/-- A name's bytes hold no blank. -/
theorem name_plain {t : Tok} (h : Lex.TokOk t) (hk : t.kind = 1) : (32 : UInt8) ∉ t.text ∧ t.text.length ≤ 24 := by
  rcases h with ⟨_, _, hl, c, w, ht, hc, hw⟩ | ⟨h, _⟩ | ⟨h, _⟩
  · refine ⟨?_, hl⟩
    rw [ht]
    intro hm
    rcases List.mem_cons.1 hm with h | h
    · rw [← h] at hc; exact absurd hc (by decide)
    · exact absurd (List.all_eq_true.1 hw 32 h) (by decide)
  · omega
  · omega

set_option maxRecDepth 100000 in
set_option maxHeartbeats 1000000 in
theorem key_calls (s : Str) (hs : (32 : UInt8) ∉ s) (hl : s.length ≤ 24) (w : World) (m : Int) (hm : w.cell? ⟨2, 0, none⟩ = some (.int .i64 m)) :
    Calls Tryd.prog 81 #[.string (mkS s)] w fun e w' => e = .returned (.bool (North.isKey s)) ∧ w' = w := by
  have hc : Go.Lib.contains (inText North.keys) (32 :: s ++ [32]) = North.isKey s := contains_words _ _ keys_plain hs
  have H : Hid (Calls Tryd.prog 116 #[.string ⟨[32, 99, 111, 110, 115, 116, 105, 116, 117, 116, 105, 111, 110, 32, 97, 99, 116, 32, 114, 101, 103, 117, 108, 97, 116, 105, 111, 110, 32, 98, 121, 108, 97, 119, 32, 100, 101, 102, 105, 110, 101, 32, 97, 110, 115, 119, 101, 114, 32, 105, 115, 32, 105, 102, 32, 110, 111, 116, 119, 105, 116, 104, 115, 116, 97, 110, 100, 105, 110, 103, 32, 102, 114, 111, 109, 32, 117, 110, 116, 105, 108, 32, 97, 103, 97, 105, 110, 32, 111, 114, 32, 97, 110, 100, 32, 110, 111, 116, 32, 116, 114, 117, 101, 32, 102, 97, 108, 115, 101, 32, 97, 108, 119, 97, 121, 115, 32, 110, 101, 118, 101, 114, 32, 100, 97, 121, 32, 111, 114, 100, 101, 114, 32, 101, 118, 101, 110, 116, 32, 98, 101, 103, 117, 110, 32, 111, 118, 101, 114, 32].toArray⟩, .string (({ data := #[32] } : ByteArray) ++ mkS s ++ ({ data := #[32] } : ByteArray))] w fun e w' => e = .returned (.bool (North.isKey s)) ∧ w' = w) := by
    refine Lib.hid ?_
    refine (Tryd.strings_Contains _ _ m w (by decide +kernel) hm).mono ?_
    rintro e w' ⟨rfl, rfl⟩
    refine ⟨?_, rfl⟩
    have e : (({ data := #[32] } : ByteArray) ++ mkS s ++ ({ data := #[32] } : ByteArray)).data.toList = 32 :: s ++ [32] := by simp [mkS]
    rw [← hc, keys_text, e]
  have h1 := mkS_size s
  clear hc hs
  go_enter Tryd.func81, Tryd.ntmps81
  go_wp2_with fail
  refine H.out.mono ?_
  rintro e w' ⟨rfl, rfl⟩
  go_wp2
  go_ret
  exact ⟨rfl, rfl⟩

set_option maxHeartbeats 1000000 in
theorem name_calls {w : World} {g b o c : Nat} {l : List (Tok × Nat)} {en i : Nat} (h : Par w g b o c l en i) :
    Calls Tryd.prog 56 #[.pointer (some ⟨g, 0, none⟩)] w (Out EncStr (North.nm.run (l.map (·.1)) i) g b o c l en w) := by
  have HC := Lib.hid (next_calls h)
  cases hl : l[i]? with
  | none =>
    have hr : North.nm.run (l.map (·.1)) i = .err (Tr.badAt (l.map (·.1)) i) i := by simp only [North.nm, Tr.name, Tr.run, map_at, hl, Option.map_none]
    rw [hr]
    have hv : nextV l en i = .agg #[.int .i64 0, .string ⟨#[]⟩, .int .i64 0, .int .i64 en] := by simp [nextV, hl]
    rw [hv] at HC
    clear hv hl hr
    have HP := Lib.hid h; clear h
    go_enter Tryd.func56, Tryd.ntmps56
    go_wp2_with fail
    refine HC.out.mono ?_
    rintro e w' ⟨rfl, hB⟩
    go_wp2_with fail
    have hB2 : Below w.heap.size w (w'.alloc (.cells #[.int .i64 0, .string ⟨#[]⟩, .int .i64 0, .int .i64 en] 40)) := hB.alloc hB.size _
    refine (fail_calls (HP.out.below hB2)).mono ?_
    rintro e w2 ⟨rfl, hB3⟩
    exact ⟨rfl, .of_below (below_then hB2 hB3), rfl⟩
  | some x =>
    obtain ⟨t, p⟩ := x
    have hk := kinds h.ok hl
    have hnp := name_plain (h.ok _ (List.mem_of_getElem? hl))
    have hv : nextV l en i = tokV t p := by simp [nextV, hl]
    rw [hv] at HC
    unfold tokV at HC
    have hr : North.nm.run (l.map (·.1)) i = if (t.kind == 1 && !North.isKey t.text) = true then .ok t.text (i + 1) else .err (Tr.badAt (l.map (·.1)) i) i := by
      simp only [North.nm, Tr.name, Tr.run, map_at, hl, Option.map_some]
    obtain ⟨kind, text, tn⟩ := t
    simp only at hk hr HC hnp
    have hil : i < l.length := (List.getElem?_eq_some_iff.1 hl).1
    clear hl hv
    by_cases hk1 : kind = 1
    · subst hk1
      obtain ⟨m, hm⟩ := h.ml
      have hkc : ∀ W : World, Below w.heap.size w W → Calls Tryd.prog 81 #[.string (mkS text)] W fun e w' => e = .returned (.bool (North.isKey text)) ∧ w' = W := fun W hW =>
        key_calls text (hnp rfl).1 (hnp rfl).2 W m (below_cell hW hm)
      clear hnp hm hk
      cases hkey : North.isKey text with
      | true =>
        rw [hkey] at hkc hr
        rw [if_neg (by simp)] at hr
        rw [hr]
        clear hr hkey
        have HP := Lib.hid h; clear h
        have HK := Lib.hid hkc; clear hkc
        go_enter Tryd.func56, Tryd.ntmps56
        go_wp2_with fail
        refine HC.out.mono ?_
        rintro e w' ⟨rfl, hB⟩
        go_wp2_with fail
        have hB2 : Below w.heap.size w (w'.alloc (.cells #[.int .i64 ((1 : Nat) : Int), .string (mkS text), .int .i64 tn, .int .i64 p] 40)) := hB.alloc hB.size _
        refine (HK.out _ hB2).mono ?_
        rintro e w2 ⟨rfl, rfl⟩
        go_wp2_with fail
        refine (fail_calls (HP.out.below hB2)).mono ?_
        rintro e w2 ⟨rfl, hB3⟩
        exact ⟨rfl, .of_below (below_then hB2 hB3), rfl⟩
      | false =>
        rw [hkey] at hkc hr
        rw [if_pos (by simp)] at hr
        rw [hr]
        clear hr hkey
        have hI0 := h.hi
        have hC0 := h.hc
        have HP := Lib.hid h; clear h
        have HK := Lib.hid hkc; clear hkc
        go_enter Tryd.func56, Tryd.ntmps56
        go_wp2_with fail
        refine HC.out.mono ?_
        rintro e w' ⟨rfl, hB⟩
        go_wp2_with fail
        have hB2 : Below w.heap.size w (w'.alloc (.cells #[.int .i64 ((1 : Nat) : Int), .string (mkS text), .int .i64 tn, .int .i64 p] 40)) := hB.alloc hB.size _
        refine (HK.out _ hB2).mono ?_
        rintro e w2 ⟨rfl, rfl⟩
        have HP2 := Lib.hid (HP.out.below hB)
        obtain ⟨A, hA, hb⟩ := (HP.out.below hB).blk
        have h0 := blk_cell hb 0
        have f0 := blk_free hb 0
        simp only [List.getElem?_toArray, List.getElem?_cons_zero] at h0
        have hlt2 := heap_lt hb
        clear hb hB2
        obtain ⟨A', hsl, hA'⟩ := run_tail A (l.length - i) (c - i) (by omega) (by omega)
        have HA := Lib.hid hA; clear hA
        have HA' := Lib.hid hA'; clear hA'
        have HB2 := Lib.hid hB; clear hB
        go_wp2
        go_ret
        refine ⟨?_, _, rfl, rfl, ?_⟩
        · exact ((Keep.of_below HB2.out).set 0 _).alloc _
        · rw [show l.length - i - 1 = l.length - (i + 1) from by omega, show c - i - 1 = c - (i + 1) from by omega]
          refine (HP2.out.step hil A' fun hlt3 => ?_).below ((Below.refl _ _).alloc (Nat.le_refl _) _)
          rw [HA'.out (by omega), HA.out hil]
          simp only [Option.map_some, add_four, Nat.mul_add, Nat.add_assoc, Nat.mul_one]
    · have hkb : ((kind : Int) != 1) = true := by simp; omega
      rw [if_neg (by simp [hk1])] at hr
      rw [hr]
      clear hr hk hk1 hnp
      have HP := Lib.hid h; clear h
      go_enter Tryd.func56, Tryd.ntmps56
      go_wp2_with fail
      refine HC.out.mono ?_
      rintro e w' ⟨rfl, hB⟩
      go_wp2_with fail
      have hB2 : Below w.heap.size w (w'.alloc (.cells #[.int .i64 (kind : Int), .string (mkS text), .int .i64 tn, .int .i64 p] 40)) := hB.alloc hB.size _
      refine (fail_calls (HP.out.below hB2)).mono ?_
      rintro e w2 ⟨rfl, hB3⟩
      exact ⟨rfl, .of_below (below_then hB2 hB3), rfl⟩
end Go.Proofs.YtlhgflnmdmifaaaDoor.Wk
