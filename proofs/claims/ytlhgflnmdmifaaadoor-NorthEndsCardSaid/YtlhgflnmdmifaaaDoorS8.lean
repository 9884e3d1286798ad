/- NorthEnds: the walk. -/
import Derived.Test.YtlhgflnmdmifaaaDoorS6
import Derived.Test.YtlhgflnmdmifaaaDoorS7
namespace Go.Proofs.YtlhgflnmdmifaaaDoor.Wk
open Go.RowKit PD

set_option maxRecDepth 100000 in
set_option maxHeartbeats 8000000 in
theorem northEnds_calls (s o : Str) (hs : s.length < 4611686018427387904) (ho : o.length < 4611686018427387904) (w : World) (hm : MaxL w) :
    Calls Tryd.prog 8 #[.string (mkS s), .string (mkS o)] w fun e w' => e = .returned (.bool true) ∧ Below w.heap.size w w' := by
  have HH := Lib.hid (head_at_ hm w (Below.refl _ _))
  have HL := Lib.hid (fun (wx : World) => lex_at_ s hs (mkS s) rfl wx)
  have HLO := Lib.hid (fun (wx : World) => lex_at_ o ho (mkS o) rfl wx)
  have HP := Lib.hid (fun (wx : World) (h : Below w.heap.size w wx) => parse_at_ hm s hs (mkS s) rfl wx h)
  have HM := Lib.hid hm
  clear hm hs ho
  have hsz := mkS_size s
  have hoz := mkS_size o
  by_cases h1 : s.length > 6000
  · go_enter Tryd.func8, Tryd.ntmps8
    go_wp2_with (go_at_call 14; refine HH.out.mono ?_; clear HH; rintro e w1 ⟨rfl, hB1⟩; have HB1 := Lib.hid hB1; clear hB1)
    go_ret
    exact ⟨rfl, HB1.out⟩
  by_cases h2 : o.length > 6000
  · have h1 : s.length ≤ 6000 := by omega
    go_enter Tryd.func8, Tryd.ntmps8
    go_wp2_with (go_at_call 14; refine HH.out.mono ?_; clear HH; rintro e w1 ⟨rfl, hB1⟩; have HB1 := Lib.hid hB1; clear hB1)
    go_ret
    exact ⟨rfl, HB1.out⟩
  have h1 : s.length ≤ 6000 := by omega
  have h2 : o.length ≤ 6000 := by omega
  go_enter Tryd.func8, Tryd.ntmps8
  go_upto_region 4 with (go_at_call 14; refine HH.out.mono ?_; clear HH; rintro e w1 ⟨rfl, hB1⟩; have HB1 := Lib.hid hB1; clear hB1)
  go_upto_region 5 with (first | (go_at_call 16; refine (HP.out _ HB1.out).mono ?_; clear HP; rintro e w2 ⟨hB2, CS, rfl, hz, hone, hp⟩; have HZ := Lib.hid (heap_alloc_new w2 zeroP); have HX := Lib.hid hB2; have HONE := Lib.hid hone; clear hB2 hp hone) | (refine wpList_store_row rfl 35 _ _ rfl w2.heap.size CS rfl rfl 35 (pvC (North.pv0 North.fm00) nilS nilS nilS nilS nilS).toArray HZ.out (by rw [hz]; exact info_Provision) (by rw [hz]; rfl) HONE.out ?_))
  have hv1 := (var_put (below_then HB1.out HX.out) CS).1
  change Code.wp _ _ _ _ ((w2.alloc zeroP).setRow w2.heap.size CS)
  generalize (w2.alloc zeroP).setRow w2.heap.size CS = V1 at *
  have HV1 := Lib.hid hv1
  clear hv1 HB1 HX HZ HONE hz
  go_upto_region 6 with (go_at_call 15; refine (HL.out _).mono ?_; clear HL; rintro e w3 ⟨hB3, A, n, c, rfl, htk⟩; have HB3 := Lib.hid (below_then HV1.out hB3); have HTK := Lib.hid htk; clear hB3 htk)
  by_cases he : North.errOf s = 0
  · obtain ⟨pv, hr⟩ : ∃ pv, North.read s = .ok pv := by
      cases hr : North.read s with
      | ok pv => exact ⟨pv, rfl⟩
      | error x => exact absurd he (by rw [North.errOf, hr]; exact (North.read_bad (e := x.1) (at_ := x.2) (by rw [hr])).1)
    obtain ⟨hl, n', t, q, hn', ht, hq, hshort, hgap, hlong⟩ := North.ends h1 hr
    rw [he, hl]
    have htk := HTK.out hl
    have hl5 : (Lex.lex s).1.length ≤ 5000 := (Lex.lex_scan (by omega) hl).2.1
    obtain ⟨rfl, hcap, hA⟩ := htk
    obtain ⟨b, rfl, hbs, hto⟩ := hA (by omega)
    have c3 := hto.at_ n' t q ht
    rw [Nat.zero_add, Nat.mul_comm] at c3
    rw [hn'] at hl5 ⊢
    have HC3 := Lib.hid c3
    have hbl := cell_lt c3
    have hadd : (⟨b, 0, none⟩ : Addr).add (n' * 4) = ⟨b, n' * 4, none⟩ := add_plain b (n' * 4)
    have hes : North.errOf (s.take q) = 6 ∧ North.atOf (s.take q) = (q : Int) := by rw [North.errOf, North.atOf, hshort]; exact ⟨rfl, rfl⟩
    have hql : q ≤ s.length := by omega
    have HP2 := Lib.hid (fun (wx : World) (h : Below w.heap.size w wx) => parse_at_ HM.out (s.take q) (by rw [List.length_take]; omega) ((mkS s).extract 0 q) (by rw [mkS_extract]; simp) wx h)
    have hexs : ((mkS s).extract 0 q).size = q := by rw [mkS_extract, mkS_size]; simp; omega
    have HGAP := Lib.hid hgap
    have HLONG := Lib.hid hlong
    have hb0 : (((n' + 1 : Nat) : Int) == 0) = false := by simp; omega
    clear hto ht hA hr he hl HTK hcap hshort hgap hlong hn'
    go_upto_region 11 with fail
    go_upto_region 12 with (first | (go_at_call 16; refine (HP2.out _ HB3.out).mono ?_; clear HP2; rintro e w4 ⟨hB4, CS4, rfl, hz, hone, hp⟩; have HZ := Lib.hid (heap_alloc_new w4 zeroP); have HX := Lib.hid hB4; have HONE := Lib.hid hone; clear hB4 hp hone) | (refine wpList_store_row rfl 35 _ _ rfl w4.heap.size CS4 rfl rfl 35 (pvC (North.pv0 North.fm00) nilS nilS nilS nilS nilS).toArray HZ.out (by rw [hz]; exact info_Provision) (by rw [hz]; rfl) HONE.out ?_))
    obtain ⟨hv4, hx4, -⟩ := var_put (below_then HB3.out HX.out) CS4
    have c4 := below_cell hx4 (below_cell HX.out HC3.out)
    change Code.wp _ _ _ _ ((w4.alloc zeroP).setRow w4.heap.size CS4)
    generalize (w4.alloc zeroP).setRow w4.heap.size CS4 = V4 at *
    have HV4 := Lib.hid hv4
    have HC4 := Lib.hid c4
    clear hv4 hx4 c4 HX HZ HONE hz HB3 HV1 HC3 c3 hbl hes
    go_upto_region 15 with fail
    go_upto_region 16 with (go_at_call 15; refine (HLO.out _).mono ?_; clear HLO; rintro e w5 ⟨hB5, A5, n5, cc5, rfl, htk5⟩; have HB5 := Lib.hid (below_then HV4.out hB5); have HC5 := Lib.hid (below_cell hB5 HC4.out); have HTK5 := Lib.hid htk5; clear hB5 htk5)
    clear HC4 HV4
    have hraw : mkS s ++ (⟨#[10]⟩ : ByteArray) ++ mkS o = mkS (s ++ 10 :: o) := by
      rw [show (⟨#[10]⟩ : ByteArray) = mkS [10] from rfl, mkS_append, mkS_append]
      simp
    have hclen : (s ++ 10 :: o).length < 4611686018427387904 := by simp only [List.length_append, List.length_cons]; omega
    have HL2 := Lib.hid (fun (wx : World) => lex_at_ _ hclen _ hraw wx)
    have HP3 := Lib.hid (fun (wx : World) (h : Below w.heap.size w wx) => parse_at_ HM.out _ hclen _ hraw wx h)
    have hlsz : (mkS s ++ (⟨#[10]⟩ : ByteArray)).size = s.length + 1 := by
      rw [show (⟨#[10]⟩ : ByteArray) = mkS [10] from rfl, mkS_append, mkS_size]; simp
    have HRAW := Lib.hid hraw
    have HLSZ := Lib.hid hlsz
    clear hraw hclen hlsz
    go_upto_region 17 with (go_at_call 15; refine (HL2.out _).mono ?_; clear HL2; rintro e w6 ⟨hB6, A6, n6, cc6, rfl, htk6⟩; have HB6 := Lib.hid (below_then HB5.out hB6); have HX6 := Lib.hid hB6; have HC6 := Lib.hid (below_cell hB6 HC5.out); clear hB6 htk6)
    clear HC5 HB5
    by_cases heo : (Lex.lex o).2.1 = 0
    · have hb1 : (((Lex.lex o).2.1 : Int) != 0) = false := by rw [heo]; rfl
      by_cases hek : (Lex.lex (s ++ 10 :: o)).2.1 = 0
      · have hb2 : (((Lex.lex (s ++ 10 :: o)).2.1 : Int) != 0) = false := by rw [hek]; rfl
        obtain ⟨hn5, hcap5, hA5⟩ := HTK5.out heo
        by_cases hem : n5 = 0
        · have hb3 : ((n5 : Int) == 0) = true := by rw [hem]; rfl
          clear hem hn5 hcap5 hA5 heo hek HTK5
          go_wp2_with fail
          go_ret
          exact ⟨rfl, HB6.out⟩
        · have hb3 : ((n5 : Int) == 0) = false := by simp; omega
          obtain ⟨b5, rfl, -, hto5⟩ := hA5 (by omega)
          obtain ⟨t', q', h0⟩ : ∃ t' q', (Lex.lex o).1[0]? = some (t', q') := ⟨((Lex.lex o).1[0]'(by omega)).1, ((Lex.lex o).1[0]'(by omega)).2, List.getElem?_eq_getElem _⟩
          have hq' : q' < o.length := Lex.lex_pos.1 (t', q') (List.mem_of_getElem? h0)
          have hrd := HLONG.out o h2 heo hek t' q' h0
          have hec : North.errOf (s ++ 10 :: o) = 5 ∧ North.atOf (s ++ 10 :: o) = (s.length : Int) + 1 + q' := by
            rw [North.errOf, North.atOf, hrd]; exact ⟨rfl, by push_cast; rfl⟩
          have d3 := below_cell HX6.out (hto5.at_ 0 t' q' h0)
          have HD3 := Lib.hid d3
          have HEC := Lib.hid hec
          have hcap1 : n5 ≤ 6000 := by
            have := (Lex.lex_scan (s := o) (by omega) heo).2.1
            omega
          have HGC := Lib.hid (fun (wx : World) => gaps_calls (s.drop (q + 1)) (by rw [List.length_drop]; omega) (by obtain ⟨pos, h⟩ := HGAP.out; exact ⟨pos, s.length, by rw [List.length_drop]; omega, h⟩) wx)
          have hraw2 : (mkS s).extract (q + 1) s.length = mkS (s.drop (q + 1)) := by
            rw [mkS_extract, List.take_of_length_le (by rw [List.length_drop]; omega)]
          have HRAW2 := Lib.hid hraw2
          clear hem hn5 hcap5 hA5 heo hek HTK5 hto5 h0 hrd d3 hec HLONG HGAP hraw2
          go_upto_region 19 with fail
          go_upto_region 20 with (first | (go_at_call 16; refine (HP3.out _ HB6.out).mono ?_; clear HP3; rintro e w7 ⟨hB7, CS7, rfl, hz, hone, hp⟩; have HZ := Lib.hid (heap_alloc_new w7 zeroP); have HX := Lib.hid hB7; have HONE := Lib.hid hone; clear hB7 hp hone) | (refine wpList_store_row rfl 35 _ _ rfl w7.heap.size CS7 rfl rfl 35 (pvC (North.pv0 North.fm00) nilS nilS nilS nilS nilS).toArray HZ.out (by rw [hz]; exact info_Provision) (by rw [hz]; rfl) HONE.out ?_))
          obtain ⟨hv7, hx7, -⟩ := var_put (below_then HB6.out HX.out) CS7
          have c7 := below_cell hx7 (below_cell HX.out HC6.out)
          have d7 := below_cell hx7 (below_cell HX.out HD3.out)
          change Code.wp _ _ _ _ ((w7.alloc zeroP).setRow w7.heap.size CS7)
          generalize (w7.alloc zeroP).setRow w7.heap.size CS7 = V7 at *
          have HV7 := Lib.hid hv7
          have hbl7 := cell_lt c7
          have hbd7 := cell_lt d7
          have hecs := HEC.out
          have hlsz := HLSZ.out
          clear hv7 hx7 HX HZ HONE hz HB6 HC6 HD3 HX6
          have d7 : V7.cell? ⟨b5, 3, none⟩ = some (.int .i64 q') := d7
          have hn0 : 0 < n5 := by
            have := beq_eq_false_iff_ne.1 hb3
            omega
          have hn1 : (0 : Int) < (n5 : Int) := by omega
          go_wp2_with (go_at_call 30; rw [HRAW2.out]; refine (HGC.out _).mono ?_; clear HGC; rintro e w' ⟨rfl, rfl⟩)
          go_ret
          exact ⟨rfl, HV7.out⟩
      · have hb2 : (((Lex.lex (s ++ 10 :: o)).2.1 : Int) != 0) = true := by simp; omega
        clear hek heo HTK5
        go_wp2_with fail
        go_ret
        exact ⟨rfl, HB6.out⟩
    · have hb1 : (((Lex.lex o).2.1 : Int) != 0) = true := by simp; omega
      clear heo HTK5
      go_wp2_with fail
      go_ret
      exact ⟨rfl, HB6.out⟩
  · have hb1 : ((North.errOf s : Int) != 0) = true := by simp; omega
    clear he
    go_wp2_with fail
    go_ret
    exact ⟨rfl, HB3.out⟩
end Go.Proofs.YtlhgflnmdmifaaaDoor.Wk
