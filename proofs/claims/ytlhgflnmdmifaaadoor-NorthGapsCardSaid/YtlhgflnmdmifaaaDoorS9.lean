/- NorthGaps: the walk. -/
import Derived.Test.YtlhgflnmdmifaaaDoorS6
import Derived.Test.YtlhgflnmdmifaaaDoorP3
import Derived.Maps.AppendAt
namespace PD
namespace North
/-- The error's places in both texts. -/
theorem spaced_shape {s : Str} (h : s.length ≤ 3000) (hl : (Lex.lex s).2.1 = 0) {SP : Str} (hS : Lex.spaced ((Lex.lex s).1.map (·.1)) = SP) :
    (errOf s = 0 ∧ atOf s = 0 ∧ atOf SP = 0) ∨ (errOf s ≠ 0 ∧ atOf s = s.length ∧ atOf SP = SP.length) ∨
    (errOf s ≠ 0 ∧ errOf s ≠ 6 ∧ ∃ (j : Nat) (t : Tok) (q : Nat), (Lex.lex s).1[j]? = some (t, q) ∧ atOf s = q ∧ q < s.length ∧
      (∀ (i : Nat) (t' : Tok), (Lex.lex s).1[i]? = some (t', q) → i = j) ∧ atOf SP = (Lex.spaced (((Lex.lex s).1.map (·.1)).take j)).length) := by
  subst hS
  obtain ⟨hs, h5, _⟩ := Lex.lex_scan (by omega) hl
  rcases read_spaced h hl with ⟨p, e1, e2⟩ | ⟨e, j, e1, e2, e3, e4⟩
  · exact .inl (by simp [errOf, atOf, e1, e2])
  · right
    have hpl := (Lex.lex_pos (s := s)).1
    generalize hL : (Lex.lex s).1 = L at *
    rcases Nat.lt_or_ge j L.length with hj | hj
    · right
      obtain ⟨t, q, ht⟩ : ∃ t q, L[j]? = some (t, q) := ⟨L[j].1, L[j].2, List.getElem?_eq_getElem hj⟩
      have hsplit : L = L.take j ++ (t, q) :: L.drop (j + 1) := by
        have h1 := (List.getElem?_eq_some_iff.1 ht).2
        rw [← h1, List.getElem_cons_drop, List.take_append_drop]
      have hscan : (Lex.scan s.length 0 s).1 = L.take j ++ (t, q) :: L.drop (j + 1) := by rw [hs]; exact hsplit
      refine ⟨by simp [errOf, e1, e3], by simp only [errOf, e1]; intro he; have := e4 he; omega, j, t, q, ht, by simp [atOf, e1, posAt, ht], hpl _ (List.mem_of_getElem? ht), ?_, ?_⟩
      · intro i t' hi
        have := Lex.pos_one hscan i t' (by rw [hs]; exact hi)
        rw [this, List.length_take]; omega
      · have hp := Lex.placed_get (L.map (·.1)) 0 j t (by rw [List.getElem?_map, ht]; rfl)
        simp [atOf, e2, posAt, hp]
    · left
      have hp : (Lex.placed 0 (L.map (·.1)))[j]? = none := by
        rw [List.getElem?_eq_none_iff]
        have := congrArg List.length (Lex.placed_fst 0 (L.map (·.1)))
        rw [List.length_map, List.length_map] at this
        omega
      refine ⟨by simp [errOf, e1, e3], by simp [atOf, e1, posAt, List.getElem?_eq_none hj], by simp [atOf, e2, posAt, hp]⟩
end North
end PD
namespace Go.Proofs.YtlhgflnmdmifaaaDoor.Wk
open Go.RowKit PD

theorem info_int : (Tryd.prog.info? 3).map (fun i => (i.zero, i.size, i.bytes)) = some (some (.int .i64 0), 1, 8) := by kernel_rfl
/-- The places of the tokens in the text with line feeds. -/
def places (l : List Tok) (i : Nat) : List Value := (List.range i).map fun k => .int .i64 ((Lex.spaced (l.take k)).length : Int)
theorem places_succ (l : List Tok) (i : Nat) : places l (i + 1) = places l i ++ [.int .i64 ((Lex.spaced (l.take i)).length : Int)] := by simp [places, List.range_succ]
theorem places_len (l : List Tok) (i : Nat) : (places l i).length = i := by simp [places]
theorem places_get (l : List Tok) (n i : Nat) (h : i < n) : (places l n)[i]? = some (.int .i64 ((Lex.spaced (l.take i)).length : Int)) := by simp [places, h]
theorem grown_below {V wr w5 : World} {e : TypeId} {size n : Nat} {v : Value} {xs : List Value} (hW : Below V.heap.size V wr) (o : Obj) (hown : wr.ownsRow V.heap.size e size v n xs) (hg : (wr.alloc o).grownBy w5 v.ownBlock) : Below V.heap.size V w5 := by
  have h2 : Below V.heap.size V (wr.alloc o) := below_then hW (below_new _ _)
  exact ⟨hg.os.trans h2.os, hg.tape.trans h2.tape, hg.output.trans h2.output, Nat.le_trans h2.size hg.size, fun i hi => (hg.block i (Nat.lt_of_lt_of_le hi h2.size) (fun e => by have := (hown.lt i e.symm).1; omega)).trans (h2.block i hi)⟩
set_option maxRecDepth 100000 in
set_option maxHeartbeats 8000000 in
theorem northGaps_calls (s : Str) (hs : s.length < 4611686018427387904) (w : World) (hm : MaxL w) :
    Calls Tryd.prog 3 #[.string (mkS s)] w fun e w' => e = .returned (.bool true) ∧ Below w.heap.size w w' := by
  have HH := Lib.hid (head_at_ hm w (Below.refl _ _))
  have HL := Lib.hid (fun (wx : World) => lex_at_ s hs (mkS s) rfl wx)
  have HP := Lib.hid (fun (wx : World) (h : Below w.heap.size w wx) => parse_at_ hm s hs (mkS s) rfl wx h)
  have HM := Lib.hid hm
  clear hm hs
  have hsz := mkS_size s
  by_cases h1 : s.length > 3000
  · go_enter Tryd.func3, Tryd.ntmps3
    go_wp2_with (go_at_call 14; refine HH.out.mono ?_; clear HH; rintro e w1 ⟨rfl, hB1⟩; have HB1 := Lib.hid hB1; clear hB1)
    go_ret
    exact ⟨rfl, HB1.out⟩
  have h1 : s.length ≤ 3000 := by omega
  go_enter Tryd.func3, Tryd.ntmps3
  go_upto_region 4 with (go_at_call 14; refine HH.out.mono ?_; clear HH; rintro e w1 ⟨rfl, hB1⟩; have HB1 := Lib.hid hB1; clear hB1)
  go_upto_region 5 with (go_at_call 15; refine (HL.out _).mono ?_; clear HL; rintro e w2 ⟨hB2, A, n, c, rfl, htk⟩; have HB2 := Lib.hid (below_then HB1.out hB2); have HTK := Lib.hid htk; clear hB2 htk)
  go_upto_region 6 with (first | (go_at_call 16; refine (HP.out _ HB2.out).mono ?_; clear HP; rintro e w3 ⟨hB3, CS, rfl, hz, hone, hp⟩; have HZ := Lib.hid (heap_alloc_new w3 zeroP); have HX := Lib.hid hB3; have HONE := Lib.hid hone; have HPV := Lib.hid hp; clear hB3 hp hone) | (refine wpList_store_row rfl 35 _ _ rfl w3.heap.size CS rfl rfl 35 (pvC (North.pv0 North.fm00) nilS nilS nilS nilS nilS).toArray HZ.out (by rw [hz]; exact info_Provision) (by rw [hz]; rfl) HONE.out ?_))
  obtain ⟨hv3, hx3, hc3⟩ := var_put (below_then HB2.out HX.out) CS
  have hpv3 := HPV.out.below hx3
  have htk3 : (Lex.lex s).2.1 = 0 → n = (Lex.lex s).1.length ∧ n ≤ c ∧ (0 < n → ∃ b, A = some ⟨b, 0, none⟩ ∧ Toks ((w3.alloc zeroP).setRow w3.heap.size CS) b 0 (Lex.lex s).1) := fun h0 => by
    obtain ⟨e1, e2, e3⟩ := HTK.out h0
    refine ⟨e1, e2, fun hn => ?_⟩
    obtain ⟨b, eb, _, ht⟩ := e3 hn
    exact ⟨b, eb, (ht.below HX.out).below hx3⟩
  change Code.wp _ _ _ _ ((w3.alloc zeroP).setRow w3.heap.size CS)
  generalize (w3.alloc zeroP).setRow w3.heap.size CS = V at *
  have HV := Lib.hid hv3
  have HPV := Lib.hid hpv3
  have HVC := Lib.hid hc3
  have HTK := Lib.hid htk3
  clear hv3 hx3 hc3 hpv3 htk3 HX HZ HONE HB1 HB2
  by_cases hl : (Lex.lex s).2.1 = 0
  · rw [hl]
    have hl2 := HTK.out hl
    obtain ⟨rfl, hcap, hA⟩ := hl2
    obtain ⟨hlx, hl6⟩ := Lex.lex_spaced h1 hl
    have hl5 : (Lex.lex s).1.length ≤ 5000 := (Lex.lex_scan (by omega) hl).2.1
    have hrs := North.read_spaced h1 hl
    have hsh := North.spaced_shape h1 hl rfl
    generalize hLL : (Lex.lex s).1 = L at *
    have HRS := Lib.hid hrs
    have HSH := Lib.hid hsh
    have HA := Lib.hid hA
    have HLX := Lib.hid hlx
    have HL6 := Lib.hid hl6
    clear hrs hsh hA hlx hl6 HTK hcap
    go_upto_region 8 with fail
    have HLN := Lib.hid (show (places (L.map (·.1)) L.length).length = L.length from places_len _ _)
    go_upto_block 0 with fail
    go_cut [10, 11] from 12 to 129 (fun v10 v11 wx => v10 = .string (mkS (Lex.spaced (L.map (·.1)))) ∧ Hid (wx.ownsRow V.heap.size 3 1 v11 L.length (places (L.map (·.1)) L.length)) ∧ Hid (Below V.heap.size V wx))
    case first =>
      go_wp2_with fail
      go_loopg [10, 11, 12] L.length (fun k v10 v11 v12 wx => ∃ i : Nat, k + i = L.length ∧ v12 = .int .i64 i ∧ v10 = .string (mkS (Lex.spaced ((L.map (·.1)).take i))) ∧ Hid (wx.ownsRow V.heap.size 3 1 v11 i (places (L.map (·.1)) i)) ∧ Hid (Below V.heap.size V wx))
      case atStart => exact ⟨0, rfl, rfl, rfl, Lib.hid (World.ownsRow_nil _ _ _ _), Lib.hid (Below.refl _ _)⟩
      case round =>
        obtain ⟨i, hk, rfl, rfl, HO, HW⟩ := hrel
        by_cases hlt : i < L.length
        · obtain ⟨t, q, hi⟩ : ∃ t q, L[i]? = some (t, q) := ⟨L[i].1, L[i].2, List.getElem?_eq_getElem hlt⟩
          obtain ⟨b, rfl, hto⟩ := HA.out (by omega)
          have c1 := hto.text i t q hi
          rw [Nat.zero_add, Nat.mul_comm] at c1
          have hadd : (⟨b, 0, none⟩ : Addr).add (i * 4) = ⟨b, i * 4, none⟩ := add_plain b (i * 4)
          have hi0 : (0 : Int) ≤ (i : Int) := by omega
          have hi1 : (i : Int) < (L.length : Int) := by omega
          have htz := mkS_size t.text
          have hti : (L.map (·.1))[i]? = some t := by rw [List.getElem?_map, hi]; rfl
          have htk : (L.map (·.1)).take (i + 1) = (L.map (·.1)).take i ++ [t] := by rw [List.take_add_one, hti]; rfl
          have hle : (Lex.spaced ((L.map (·.1)).take (i + 1))).length ≤ (Lex.spaced (L.map (·.1))).length := by
            conv => rhs; rw [← List.take_append_drop (i + 1) (L.map (·.1))]
            rw [Lex.spaced, Lex.spaced, List.flatMap_append, List.length_append]
            omega
          rw [htk, Lex.spaced_snoc] at hle
          simp only [List.length_append, List.length_cons, List.length_nil] at hle
          have hl6 := HL6.out
          have HTK := Lib.hid htk
          clear htk hti hi
          generalize hU : Lex.spaced ((L.map (·.1)).take i) = U at *
          have hUs : (mkS U).size = U.length := mkS_size U
          have hU2 : (mkS U ++ mkS t.text).size = U.length + t.text.length := by rw [mkS_append, mkS_size, List.length_append]
          have HUE := Lib.hid hU
          clear hU
          have hsz8 : V.heap.size ≤ wr.heap.size := HW.out.size
          obtain ⟨i0, hi0', hzz⟩ := Option.map_eq_some_iff.1 info_int
          simp only [Prod.mk.injEq] at hzz
          obtain ⟨hz0, hz1, hz2⟩ := hzz
          have HI0 := Lib.hid hi0'; clear hi0'
          have HZ0 := Lib.hid hz0; clear hz0
          have HZ1 := Lib.hid hz1; clear hz1
          have HZ2 := Lib.hid hz2; clear hz2
          have HX3 := Lib.hid (show i + 1 ≤ maxLen by simp only [maxLen]; omega)
          have HX4 := Lib.hid (show (i + 1) * 8 ≤ 140737488355328 by omega)
          have HX5 := Lib.hid (show V.heap.size ≤ (wr.alloc (.cells #[.int .i64 (U.length : Int)] 3)).heap.size by simp; omega)
          have HC1 := Lib.hid c1
          clear c1 hto
          go_wp2_with (at_builtin; refine wpList_append_own_at (wr.alloc (.cells #[.int .i64 (U.length : Int)] 3)) rfl _ _ 38 rfl V.heap.size 3 i0 _ 1 8 Tryd.underlying38 HI0.out HZ0.out HZ1.out HZ2.out rfl (by decide) u11 i (places (L.map (·.1)) i) rfl (HO.out.alloc _) ⟨wr.heap.size, 0, none⟩ 1 1 [.int .i64 (U.length : Int)] rfl rfl (cell_one_new _ _ _) (by simp [Value.oneCell']) HX3.out HX4.out HX5.out ?_; intro v' w5 hown' hgrow _ hat; have hW5 := grown_below HW.out _ HO.out hgrow; have c5 := below_cell hW5 HC1.out; have hbl := cell_lt c5; have HOWN' := Lib.hid hown'; have HW5 := Lib.hid hW5; clear hown' hgrow hat hW5)
          go_roundg (L.length - (i + 1))
          case measure => omega
          case rel => exact ⟨i + 1, by omega, by go_num, by
            rw [show (⟨#[10]⟩ : ByteArray) = mkS [10] from rfl, mkS_append, mkS_append, HTK.out, Lex.spaced_snoc, HUE.out], Lib.hid (by rw [places_succ, HUE.out]; exact HOWN'.out), HW5⟩
        · obtain rfl : i = L.length := by omega
          have hfull : (L.map (·.1)).take L.length = L.map (·.1) := List.take_of_length_le (by simp)
          have HF := Lib.hid hfull
          clear hfull
          go_wp2_with fail
          go_meet
          case rel => exact ⟨by rw [HF.out], HO, HW⟩
    case rest =>
      obtain ⟨rfl, HO, HW⟩ := hcut
      have HPV := Lib.hid (HPV.out.below HW.out)
      have HVC := Lib.hid (below_blk HW.out HVC.out)
      have HA := Lib.hid (fun h => (HA.out h).imp fun b hb => And.intro hb.1 (hb.2.below HW.out))
      have HV := Lib.hid (below_then HV.out HW.out)
      have heq : North.errOf (Lex.spaced (L.map (·.1))) = North.errOf s ∧ North.pvOf (Lex.spaced (L.map (·.1))) = North.pvOf s := by
        rcases HRS.out with ⟨p, e1, e2⟩ | ⟨e, j, e1, e2, -, -⟩
        · simp [North.errOf, North.pvOf, e1, e2]
        · simp [North.errOf, North.pvOf, e1, e2]
      obtain ⟨heq, hpq⟩ := heq
      have hl6 := HL6.out
      have HP9 := Lib.hid (fun (wx : World) (h : Below w.heap.size w wx) => parse_at_ HM.out (Lex.spaced (L.map (·.1))) (by omega) (mkS (Lex.spaced (L.map (·.1)))) rfl wx h)
      have hspz := mkS_size (Lex.spaced (L.map (·.1)))
      generalize hSP : Lex.spaced (L.map (·.1)) = SP at *
      have HPQ := Lib.hid hpq
      have HSP := Lib.hid hSP
      clear hpq hSP
      generalize w3.heap.size = n3 at *
      go_upto_region 16 with (first | (go_at_call 16; refine (HP9.out _ HV.out).mono ?_; clear HP9; rintro e w9 ⟨hB9, CS9, rfl, hz9, hone, hp⟩; have HZ := Lib.hid (heap_alloc_new w9 zeroP); have HX := Lib.hid hB9; have HONE := Lib.hid hone; have HPW := Lib.hid hp; clear hB9 hp hone) | (refine wpList_store_row rfl 35 _ _ rfl w9.heap.size CS9 rfl rfl 35 (pvC (North.pv0 North.fm00) nilS nilS nilS nilS nilS).toArray HZ.out (by rw [hz9]; exact info_Provision) (by rw [hz9]; rfl) HONE.out ?_))
      obtain ⟨hv9, hx9, hc9⟩ := var_put (below_then HV.out HX.out) CS9
      have hpw := HPW.out.below hx9
      have hpv := (HPV.out.below HX.out).below hx9
      have hvc := below_blk hx9 (below_blk HX.out HVC.out)
      have hW9 := below_then HX.out hx9
      change Code.wp _ _ _ _ ((w9.alloc zeroP).setRow w9.heap.size CS9)
      generalize (w9.alloc zeroP).setRow w9.heap.size CS9 = V9 at *
      generalize w9.heap.size = n9 at *
      have HV9 := Lib.hid hv9
      have HR3 := Lib.hid (range_of hvc)
      have HR9 := Lib.hid (range_of hc9)
      have HI3 := Lib.hid (info_len hz)
      have HI9 := Lib.hid (info_len hz9)
      have HSC := Lib.hid (same_calls _ _ true (by simp [HPQ.out]) V9 (.agg CS) (.agg CS9) hpv hpw)
      have HW9 := Lib.hid hW9
      clear hv9 hx9 hc9 hpw hpv hvc HX HZ HONE HPW HPV HVC hz hz9 HPQ hW9
      have hnq : ((North.errOf s : Int) != (North.errOf SP : Int)) = false := by rw [heq]; simp
      go_upto_region 18 with (first
        | (refine wpList_load_mid_g rfl 35 _ rfl n3 0 rfl CS.toList _ HR3.out Tryd.underlying35 rfl HI3.out ?_; clear HR3)
        | (refine wpList_load_mid_g rfl 35 _ rfl n9 0 rfl CS9.toList _ HR9.out Tryd.underlying35 rfl HI9.out ?_; clear HR9)
        | (go_at_call 17; refine HSC.out.mono ?_; clear HSC; rintro e U9 ⟨rfl, hU9⟩; have HU9 := Lib.hid hU9; clear hU9))
      have HW9 := Lib.hid (below_then HW9.out HU9.out)
      have HV9 := Lib.hid (below_then HV9.out HU9.out)
      have hs0 := HSH.out
      clear HU9
      rcases HSH.out with ⟨h0, ha, hb⟩ | ⟨h0, ha, hb⟩ | ⟨h0, h6, j, t, q, hj, ha, hq, hone, hb⟩
      · have hz0 : ((North.errOf s : Int) == 0) = true := by rw [h0]; rfl
        have hz1 : (North.atOf s == 0) = true := by rw [ha]; rfl
        have hz2 : (North.atOf SP == 0) = true := by rw [hb]; rfl
        clear h0 ha hb hs0
        go_wp2_with fail
        go_ret
        exact ⟨rfl, HV9.out⟩
      · have hz0 : ((North.errOf s : Int) == 0) = false := by simp; omega
        have hz1 : (North.atOf s == (s.length : Int)) = true := by rw [ha]; simp
        have hz2 : (North.atOf SP == (SP.length : Int)) = true := by rw [hb]; simp
        clear h0 ha hb hs0
        by_cases h6 : North.errOf s = 6
        · have hz3 : ((North.errOf s : Int) == 6) = true := by rw [h6]; rfl
          clear h6
          go_wp2_with fail
          go_ret
          exact ⟨rfl, HV9.out⟩
        · have hz3 : ((North.errOf s : Int) == 6) = false := by simp; omega
          clear h6
          go_wp2_with fail
          go_ret
          exact ⟨rfl, HV9.out⟩
      · have hz0 : ((North.errOf s : Int) == 0) = false := by simp; omega
        have hz3 : ((North.errOf s : Int) == 6) = false := by simp; omega
        have hz1 : (North.atOf s == (s.length : Int)) = false := by rw [ha]; simp; omega
        have hjl : j < L.length := (List.getElem?_eq_some_iff.1 hj).1
        obtain ⟨b, rfl, hto⟩ := HA.out (by omega)
        obtain ⟨g, cap, rfl, -, -, hcap, hcm⟩ := own_form HO.out (by omega)
        have hto := hto.below HW9.out
        have hat := below_cell HW9.out (own_cell HO.out (places_get (L.map (·.1)) L.length j hjl))
        rw [← hb] at hat
        have HTO := Lib.hid hto
        have HAT := Lib.hid hat
        have HJ := Lib.hid hj
        have HONE := Lib.hid hone
        have HQ := Lib.hid ha
        have hgl := cell_lt hat
        clear h0 h6 hs0 hto hat hj hone ha hb hq
        go_wp2_with fail
        go_loopg [16] L.length (fun k v16 wx => ∃ i : Nat, k + i = L.length ∧ v16 = .int .i64 i ∧ Hid (i ≤ j) ∧ U9 = wx)
        case atStart => exact ⟨0, by omega, rfl, Lib.hid (Nat.zero_le _), rfl⟩
        case round =>
          obtain ⟨i, hk, rfl, HIJ, rfl⟩ := hrel
          have hlt : i < L.length := by have := HIJ.out; omega
          obtain ⟨t', p', hi⟩ : ∃ t' p', L[i]? = some (t', p') := ⟨L[i].1, L[i].2, List.getElem?_eq_getElem hlt⟩
          have c3 := HTO.out.at_ i t' p' hi
          rw [Nat.zero_add, Nat.mul_comm] at c3
          have hadd : (⟨b, 0, none⟩ : Addr).add (i * 4) = ⟨b, i * 4, none⟩ := add_plain b (i * 4)
          have hadg : (⟨g, 0, none⟩ : Addr).add i = ⟨g, i, none⟩ := add_plain g i
          have hi0 : (0 : Int) ≤ (i : Int) := by omega
          have hi1 : (i : Int) < (L.length : Int) := by omega
          have hbl := cell_lt c3
          by_cases hij : i = j
          · have hpp : ((p' : Int) == North.atOf s) = true := by
              have := HJ.out
              rw [← hij, hi] at this
              cases this
              rw [HQ.out]
              simp
            have hat := HAT.out
            rw [← hij] at hat
            clear hij hi
            go_wp2_with fail
            go_ret
            exact ⟨rfl, HV9.out⟩
          · have hpp : ((p' : Int) == North.atOf s) = false := by
              rw [HQ.out]
              simp only [beq_eq_false_iff_ne, ne_eq]
              intro e'
              have : p' = q := by omega
              subst this
              exact hij (HONE.out i t' hi)
            have HNE := Lib.hid hij
            clear hij hi
            go_wp2_with fail
            go_roundg (L.length - (i + 1))
            case measure => omega
            case rel => exact ⟨i + 1, by omega, by go_num, Lib.hid (by have := HIJ.out; have := HNE.out; omega), rfl⟩
  · have hle : ((North.errOf s : Int) == ((Lex.lex s).2.1 : Int)) = true := by rw [North.errOf, North.read_lexerr hl]; simp
    have hb : (((Lex.lex s).2.1 : Int) != 0) = true := by simp; omega
    clear hl HTK
    go_wp2_with fail
    go_ret
    exact ⟨rfl, HV.out⟩
end Go.Proofs.YtlhgflnmdmifaaaDoor.Wk
