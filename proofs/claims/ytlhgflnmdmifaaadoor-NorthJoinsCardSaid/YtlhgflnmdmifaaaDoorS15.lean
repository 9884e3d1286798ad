/- NorthAbsent: the walk. -/
import Derived.Test.YtlhgflnmdmifaaaDoorSB
import Derived.Test.YtlhgflnmdmifaaaDoorS6
import Derived.Test.YtlhgflnmdmifaaaDoorP6
namespace Go.Proofs.YtlhgflnmdmifaaaDoor.Wk
open Go.RowKit PD

set_option maxRecDepth 100000 in
set_option maxHeartbeats 2000000 in
theorem part_calls (w x o : Str) (out : Bool) (hw : w.length ≤ 100) (ho : o.length ≤ 100) (hx : x.length < 4611686018427387904) (W : World) :
    Calls Tryd.prog 23 #[.string (mkS w), .string (mkS x), .string (mkS o), .bool out] W fun e w' => e = .returned (.string (mkS (North.partT w x o out))) ∧ W = w' := by
  have hsz := mkS_size x
  have hwz := mkS_size w
  have hoz := mkS_size o
  have e1 : (⟨#[32]⟩ : ByteArray) = mkS [32] := rfl
  have e2 : (⟨#[10]⟩ : ByteArray) = mkS [10] := rfl
  have E1 := Lib.hid e1
  have E2 := Lib.hid e2
  clear e1 e2
  cases x with
  | nil =>
    have hn : mkS [] = ⟨#[]⟩ := mkS_nil
    rw [hn]
    clear hn hsz
    cases out with
    | true =>
      go_enter Tryd.func23, Tryd.ntmps23
      go_wp2_with fail
      go_ret
      exact ⟨rfl, rfl⟩
    | false =>
      go_enter Tryd.func23, Tryd.ntmps23
      go_wp2_with fail
      go_ret
      exact ⟨by rw [E1.out, mkS_append, mkS_append, mkS_append]; simp [North.partT], rfl⟩
  | cons c r =>
    have hxs : (mkS (c :: r)).size < 4611686018427387904 := by rw [hsz]; exact hx
    have hne : (mkS (c :: r)).toList.isEmpty = false := by simp
    clear hsz hx
    generalize hA : mkS (c :: r) = arr at *
    have HA := Lib.hid hA
    clear hA
    go_enter Tryd.func23, Tryd.ntmps23
    go_wp2_with fail
    go_ret
    exact ⟨by rw [← HA.out, E1.out, E2.out, mkS_append, mkS_append, mkS_append, mkS_append]; simp [North.partT], rfl⟩
set_option maxRecDepth 100000 in
set_option maxHeartbeats 2000000 in
theorem free_calls (s : Str) (hs : s.length < 4611686018427387904) (t : Bool) (ht : t = true ↔ North.Free s) (w : World) :
    Calls Tryd.prog 22 #[.string (mkS s)] w fun e w' => e = .returned (.bool t) ∧ Below w.heap.size w w' := by
  have hsz := mkS_size s
  have HL := Lib.hid (lex_at_ s hs (mkS s) rfl w)
  have HI := Lib.hid (fun (v : Value) (x : Str) (wx : World) (h : StrsIn wx North.stopW v) => in_calls North.stopW x v wx h)
  have HT := Lib.hid ht
  clear hs ht
  by_cases hl : (Lex.lex s).2.1 = 0
  · have hb : (((Lex.lex s).2.1 : Int) != 0) = false := by rw [hl]; rfl
    by_cases h15 : s.length ≤ 1500
    · go_enter Tryd.func22, Tryd.ntmps22
      go_upto_region 2 with (go_at_call 15; refine HL.out.mono ?_; clear HL; rintro e w1 ⟨hB1, A, n, c, rfl, htk⟩; have HB1 := Lib.hid hB1; have HTK := Lib.hid (htk hl); clear hB1 htk)
      have hl5 := (Lex.lex_scan (by omega) hl).2.1
      obtain ⟨rfl, hcap, hA⟩ := HTK.out
      have HFR := Lib.hid (show North.Free s ↔ ∀ t ∈ (Lex.lex s).1, idx North.stopW t.1.text = none from ⟨fun h => h.2.2, fun h => ⟨h15, hl, h⟩⟩)
      generalize (Lex.lex s).1 = L at *
      have HAA := Lib.hid hA
      clear hA HTK hcap hl
      go_upto_region 5 with fail
      have hst : StrsIn (w1.alloc (.cells #[.string ⟨#[105, 102]⟩, .string ⟨#[110, 111, 116, 119, 105, 116, 104, 115, 116, 97, 110, 100, 105, 110, 103]⟩, .string ⟨#[102, 114, 111, 109]⟩, .string ⟨#[117, 110, 116, 105, 108]⟩, .string ⟨#[97, 103, 97, 105, 110]⟩, .string ⟨#[46]⟩] 9)) North.stopW (.slice (some ⟨w1.heap.size, 0, none⟩) 6 6) :=
        ⟨some ⟨w1.heap.size, 0, none⟩, 6, rfl, ⟨by decide, by decide⟩, fun _ => ⟨w1.heap.size, 0, rfl, fun j s hs => by rw [Nat.zero_add]; exact strs_lit w1 North.stopW j s hs⟩⟩
      have hW := below_new w1 (.cells #[.string ⟨#[105, 102]⟩, .string ⟨#[110, 111, 116, 119, 105, 116, 104, 115, 116, 97, 110, 100, 105, 110, 103]⟩, .string ⟨#[102, 114, 111, 109]⟩, .string ⟨#[117, 110, 116, 105, 108]⟩, .string ⟨#[97, 103, 97, 105, 110]⟩, .string ⟨#[46]⟩] 9)
      generalize w1.alloc (.cells #[.string ⟨#[105, 102]⟩, .string ⟨#[110, 111, 116, 119, 105, 116, 104, 115, 116, 97, 110, 100, 105, 110, 103]⟩, .string ⟨#[102, 114, 111, 109]⟩, .string ⟨#[117, 110, 116, 105, 108]⟩, .string ⟨#[97, 103, 97, 105, 110]⟩, .string ⟨#[46]⟩] 9) = W1 at *
      have HST := Lib.hid hst
      have HW := Lib.hid hW
      clear hst hW
      go_wp2_with fail
      go_loopg [7] L.length (fun k v7 wx => ∃ i : Nat, k + i = L.length ∧ v7 = .int .i64 i ∧ Hid (∀ j, j < i → ∀ x, L[j]? = some x → idx North.stopW x.1.text = none) ∧ W1 = wx)
      case atStart => exact ⟨0, rfl, rfl, Lib.hid (fun j hj => by omega), rfl⟩
      case round =>
        obtain ⟨i, hk, rfl, HN, rfl⟩ := hrel
        by_cases hlt : i < L.length
        · obtain ⟨t', p', hi⟩ : ∃ t' p', L[i]? = some (t', p') := ⟨L[i].1, L[i].2, List.getElem?_eq_getElem hlt⟩
          obtain ⟨b, rfl, -, hto⟩ := HAA.out (by omega)
          have c1 := (hto.below HW.out).text i t' p' hi
          rw [Nat.zero_add, Nat.mul_comm] at c1
          have hadd : (⟨b, 0, none⟩ : Addr).add (i * 4) = ⟨b, i * 4, none⟩ := add_plain b (i * 4)
          have hi0 : (0 : Int) ≤ (i : Int) := by omega
          have hi1 : (i : Int) < (L.length : Int) := by omega
          have hbl := cell_lt c1
          have hin := HI.out _ t'.text W1 HST.out
          cases hx : idx North.stopW t'.text with
          | none =>
            rw [hx] at hin
            have HIN := Lib.hid hin
            have HX := Lib.hid hx
            have HG := Lib.hid hi
            clear hin hx hi hto
            go_wp2_with (go_at_call 25; refine HIN.out.mono ?_; clear HIN; rintro e w' ⟨rfl, rfl⟩)
            go_roundg (L.length - (i + 1))
            case measure => omega
            case rel => exact ⟨i + 1, by omega, by go_num, Lib.hid (fun j hj x hx => by
              rcases Nat.lt_or_ge j i with h | h
              · exact HN.out j h x hx
              · obtain rfl : j = i := by omega
                rw [HG.out] at hx
                cases hx
                exact HX.out), rfl⟩
          | some j =>
            rw [hx] at hin
            have htf : t = false := by
              rw [Bool.eq_false_iff]
              intro h
              have := HFR.out.1 (HT.out.1 h) _ (List.mem_of_getElem? hi)
              rw [this] at hx
              cases hx
            have HIN := Lib.hid (show Calls Tryd.prog 25 #[.slice (some ⟨w1.heap.size, 0, none⟩) 6 6, .string (mkS t'.text)] W1 fun e w' => e = .returned (.int .i64 (j : Int)) ∧ W1 = w' from hin)
            have hj0 : (0 : Int) ≤ (j : Int) := by omega
            have HTF := Lib.hid htf
            clear hin hx hi hto htf
            go_wp2_with (go_at_call 25; refine HIN.out.mono ?_; clear HIN; rintro e w' ⟨rfl, rfl⟩)
            go_ret
            exact ⟨by rw [HTF.out]; rfl, below_then HB1.out HW.out⟩
        · have htt : t = true := by
            rw [HT.out, HFR.out]
            intro x hx
            obtain ⟨j, hj, rfl⟩ := List.getElem_of_mem hx
            exact HN.out j (by omega) _ (List.getElem?_eq_getElem hj)
          have HTT := Lib.hid htt
          clear htt
          go_wp2_with fail
          go_ret
          exact ⟨by rw [HTT.out]; rfl, below_then HB1.out HW.out⟩
    · have htf : t = false := by
        rw [Bool.eq_false_iff]
        intro h
        exact h15 (HT.out.1 h).1
      have HTF := Lib.hid htf
      have h16 : (1500 : Int) < (s.length : Int) := by omega
      clear htf hl h15
      go_enter Tryd.func22, Tryd.ntmps22
      go_wp2_with (go_at_call 15; refine HL.out.mono ?_; clear HL; rintro e w1 ⟨hB1, A, n, c, rfl, htk⟩; have HB1 := Lib.hid hB1; clear hB1 htk)
      go_ret
      exact ⟨by rw [HTF.out]; rfl, HB1.out⟩
  · have hb : (((Lex.lex s).2.1 : Int) != 0) = true := by simp; omega
    have htf : t = false := by
      rw [Bool.eq_false_iff]
      intro h
      exact hl (HT.out.1 h).2.1
    have HTF := Lib.hid htf
    clear htf hl
    go_enter Tryd.func22, Tryd.ntmps22
    go_wp2_with (go_at_call 15; refine HL.out.mono ?_; clear HL; rintro e w1 ⟨hB1, A, n, c, rfl, htk⟩; have HB1 := Lib.hid hB1; clear hB1 htk)
    go_ret
    exact ⟨by rw [HTF.out]; rfl, HB1.out⟩
end Go.Proofs.YtlhgflnmdmifaaaDoor.Wk
