/- NorthFirstError: the walk. -/
import Derived.Test.YtlhgflnmdmifaaaDoorS5
import Derived.Test.YtlhgflnmdmifaaaDoorPA
namespace Go.Proofs.YtlhgflnmdmifaaaDoor.Wk
open Go.RowKit PD

theorem mkS_append (a b : Str) : mkS a ++ mkS b = mkS (a ++ b) := by
  have : (mkS a ++ mkS b).data = (mkS (a ++ b)).data := by
    rw [ByteArray.data_append]
    simp [mkS]
  cases h1 : mkS a ++ mkS b
  rw [h1] at this
  simp only [mkS] at this ⊢
  rw [this]
abbrev MaxL (w : World) : Prop := ∃ m : Int, w.cell? ⟨2, 0, none⟩ = some (.int .i64 m)
theorem MaxL.below {w w' : World} (h : MaxL w) (k : Below w.heap.size w w') : MaxL w' := h.imp fun _ hm => below_cell k hm
/-- Parse in a world behind w, of a text whatever its bytes are written as. -/
theorem parse_at_ {w : World} (hm : MaxL w) (u : Str) (hu : u.length < 4611686018427387904) (arr : ByteArray) (e : arr = mkS u) (wx : World) (h : Below w.heap.size w wx) :
    Calls Tryd.prog 16 #[.string arr] wx (ParseU u wx) := by
  obtain ⟨m, hm⟩ := hm
  subst e
  exact parse_u u hu wx (below_cell h hm)
theorem lex_at_ (u : Str) (hu : u.length < 4611686018427387904) (arr : ByteArray) (e : arr = mkS u) (wx : World) : Calls Tryd.prog 15 #[.string arr] wx (LexOut u wx) := by
  subst e
  exact lex_calls u wx hu
theorem head_at_ {w : World} (hm : MaxL w) (wx : World) (h : Below w.heap.size w wx) : Calls Tryd.prog 14 #[] wx fun e w' => e = .returned (.bool true) ∧ Below wx.heap.size wx w' := by
  obtain ⟨m, hm⟩ := hm
  exact head_calls wx (below_cell h hm)
set_option maxRecDepth 100000 in
set_option maxHeartbeats 8000000 in
theorem firstError_calls (s o : Str) (hs : s.length < 4611686018427387904) (_ho : o.length < 4611686018427387904) (w : World) (hm : MaxL w) :
    Calls Tryd.prog 4 #[.string (mkS s), .string (mkS o)] w fun e w' => e = .returned (.bool true) ∧ Below w.heap.size w w' := by
  have HH := Lib.hid (head_at_ hm w (Below.refl _ _))
  have HL := Lib.hid (fun (wx : World) => lex_at_ s hs (mkS s) rfl wx)
  have HP := Lib.hid (fun (wx : World) (h : Below w.heap.size w wx) => parse_at_ hm s hs (mkS s) rfl wx h)
  have HM := Lib.hid hm
  clear hm hs
  have hsz := mkS_size s
  have hoz := mkS_size o
  by_cases h1 : s.length > 3000
  · go_enter Tryd.func4, Tryd.ntmps4
    go_wp2_with (go_at_call 14; refine HH.out.mono ?_; clear HH; rintro e w1 ⟨rfl, hB1⟩; have HB1 := Lib.hid hB1; clear hB1)
    go_ret
    exact ⟨rfl, HB1.out⟩
  by_cases h2 : o.length > 3000
  · have h1 : s.length ≤ 3000 := by omega
    go_enter Tryd.func4, Tryd.ntmps4
    go_wp2_with (go_at_call 14; refine HH.out.mono ?_; clear HH; rintro e w1 ⟨rfl, hB1⟩; have HB1 := Lib.hid hB1; clear hB1)
    go_ret
    exact ⟨rfl, HB1.out⟩
  have h1 : s.length ≤ 3000 := by omega
  have h2 : o.length ≤ 3000 := by omega
  go_enter Tryd.func4, Tryd.ntmps4
  go_upto_region 4 with (go_at_call 14; refine HH.out.mono ?_; clear HH; rintro e w1 ⟨rfl, hB1⟩; have HB1 := Lib.hid hB1; clear hB1)
  go_upto_region 5 with (first | (go_at_call 16; refine (HP.out _ HB1.out).mono ?_; clear HP; rintro e w2 ⟨hB2, CS, rfl, hz, hone, hp⟩; have HZ := Lib.hid (heap_alloc_new w2 zeroP); have HX := Lib.hid hB2; have HONE := Lib.hid hone; clear hB2 hp hone) | (refine wpList_store_row rfl 35 _ _ rfl w2.heap.size CS rfl rfl 35 (pvC (North.pv0 North.fm00) nilS nilS nilS nilS nilS).toArray HZ.out (by rw [hz]; exact info_Provision) (by rw [hz]; rfl) HONE.out ?_))
  have hv1 := (var_put (below_then HB1.out HX.out) CS).1
  change Code.wp _ _ _ _ ((w2.alloc zeroP).setRow w2.heap.size CS)
  generalize (w2.alloc zeroP).setRow w2.heap.size CS = V1 at *
  have HV1 := Lib.hid hv1
  clear hv1 HB1 HX HZ HONE hz
  go_upto_region 6 with (go_at_call 15; refine (HL.out _).mono ?_; clear HL; rintro e w3 ⟨hB3, A, n, c, rfl, htk⟩; have HB3 := Lib.hid (below_then HV1.out hB3); have HTK := Lib.hid htk; clear hB3 htk)
  by_cases he : North.errOf s = 5
  · by_cases hl : (Lex.lex s).2.1 = 0
    · obtain ⟨at_, hr⟩ : ∃ at_, North.read s = .error (5, at_) := by
        unfold North.errOf at he
        split at he
        · cases he
        · rename_i x hx; exact ⟨x.2, by rw [hx, ← he]⟩
      have hat : North.atOf s = at_ := by rw [North.atOf, hr]
      obtain ⟨j, t, p, hj, rfl, hend, hone, hcut, hon⟩ := North.first_error h1 hr hl
      rw [he, hl, hat]
      have htk := HTK.out hl
      generalize hL : (Lex.lex s).1 = L at *
      obtain ⟨rfl, hcap, hA⟩ := htk
      have hjl : j < L.length := (List.getElem?_eq_some_iff.1 hj).1
      obtain ⟨b, rfl, hbs, hto⟩ := hA (by omega)
      have hl5 : L.length ≤ 5000 := by rw [← hL]; exact (Lex.lex_scan (by omega) hl).2.1
      have HJ := Lib.hid hj
      have HONE := Lib.hid hone
      have HCUT := Lib.hid hcut
      have HON := Lib.hid hon
      have HTO := Lib.hid hto
      clear hj hone hcut hon hto hA hr he hl hat HTK hL hcap
      go_upto_region 8 with fail
      go_upto_block 0 with fail
      go_cut [12] from 13 to 132 (fun v12 wx => v12 = .int .i64 ((p + t.text.length : Nat) : Int) ∧ w3 = wx)
      case first =>
        go_wp2_with fail
        go_loopg [12, 13] L.length (fun k v12 v13 wx => ∃ (i : Nat) (e : Int), k + i = L.length ∧ v13 = .int .i64 i ∧ v12 = .int .i64 e ∧ Hid (e = if j < i then ((p + t.text.length : Nat) : Int) else -1) ∧ w3 = wx)
        case atStart => exact ⟨0, -1, rfl, rfl, rfl, Lib.hid rfl, rfl⟩
        case round =>
          obtain ⟨i, e, hk, rfl, rfl, HE, rfl⟩ := hrel
          by_cases hlt : i < L.length
          · obtain ⟨t', p', hi⟩ : ∃ t' p', L[i]? = some (t', p') := ⟨L[i].1, L[i].2, List.getElem?_eq_getElem hlt⟩
            have c1 := HTO.out.text i t' p' hi
            have c3 := HTO.out.at_ i t' p' hi
            rw [Nat.zero_add, Nat.mul_comm] at c1 c3
            have hadd : (⟨b, 0, none⟩ : Addr).add (i * 4) = ⟨b, i * 4, none⟩ := add_plain b (i * 4)
            have hi0 : (0 : Int) ≤ (i : Int) := by omega
            have hi1 : (i : Int) < (L.length : Int) := by omega
            have hbl := cell_lt c1
            have htz := mkS_size t'.text
            by_cases hij : i = j
            · obtain ⟨rfl, rfl⟩ : t' = t ∧ p' = p := by
                have := HJ.out
                rw [← hij, hi] at this
                cases this
                exact ⟨rfl, rfl⟩
              have HIJ := Lib.hid hij
              clear hij hi
              go_wp2_with fail
              go_roundg (L.length - (i + 1))
              case measure => omega
              case rel => exact ⟨i + 1, ((p' + t'.text.length : Nat) : Int), by omega, by go_num, by go_num, Lib.hid (by rw [if_pos (by have := HIJ.out; omega)]), rfl⟩
            · have hpp : ((p' : Int) == (p : Int)) = false := by
                simp only [beq_eq_false_iff_ne, ne_eq]
                intro e'
                have : p' = p := by omega
                subst this
                exact hij (HONE.out i t' hi)
              have HIJ := Lib.hid hij
              clear hij hi
              go_wp2_with fail
              go_roundg (L.length - (i + 1))
              case measure => omega
              case rel => exact ⟨i + 1, e, by omega, by go_num, rfl, Lib.hid (by
                rw [HE.out]
                have := HIJ.out
                by_cases h : j < i
                · rw [if_pos h, if_pos (by omega)]
                · rw [if_neg h, if_neg (by omega)]), rfl⟩
          · have hee : e = ((p + t.text.length : Nat) : Int) := by rw [HE.out, if_pos (by omega)]
            have HEE := Lib.hid hee
            clear hee
            go_wp2_with fail
            go_meet
            case rel => exact ⟨by rw [HEE.out], rfl⟩
      obtain ⟨rfl, rfl⟩ := hcut
      have HP2 := Lib.hid (fun (wx : World) (h : Below w.heap.size w wx) => parse_at_ HM.out (s.take p) (by rw [List.length_take]; omega) ((mkS s).extract 0 p) (by rw [mkS_extract]; simp) wx h)
      have hpl : p ≤ s.length := by omega
      go_upto_region 17 with (first | (go_at_call 16; refine (HP2.out _ HB3.out).mono ?_; clear HP2; rintro e w4 ⟨hB4, CS4, rfl, hz, hone, hp⟩; have HZ := Lib.hid (heap_alloc_new w4 zeroP); have HX := Lib.hid hB4; have HONE := Lib.hid hone; clear hB4 hp hone) | (refine wpList_store_row rfl 35 _ _ rfl w4.heap.size CS4 rfl rfl 35 (pvC (North.pv0 North.fm00) nilS nilS nilS nilS nilS).toArray HZ.out (by rw [hz]; exact info_Provision) (by rw [hz]; rfl) HONE.out ?_))
      have hv4 := (var_put (below_then HB3.out HX.out) CS4).1
      change Code.wp _ _ _ _ ((w4.alloc zeroP).setRow w4.heap.size CS4)
      generalize (w4.alloc zeroP).setRow w4.heap.size CS4 = V4 at *
      have HV4 := Lib.hid hv4
      clear hv4 HX HZ HONE hz HB3 HTO HV1
      have hgs : North.errOf (s.take p) = 0 ∨ (North.errOf (s.take p) = 6 ∧ North.atOf (s.take p) = p) := by
        rcases HCUT.out with ⟨q, hq⟩ | hq
        · left; rw [North.errOf, hq]
        · right; rw [North.errOf, North.atOf, hq]; exact ⟨rfl, rfl⟩
      go_cut [100] from 24 to 132 (fun v100 wx => v100 = .bool false ∧ V4 = wx)
      case first =>
        rcases hgs with e1 | ⟨e1, e2⟩
        · have hb1 : ((North.errOf (s.take p) : Int) != 0) = false := by rw [e1]; rfl
          clear e1
          go_wp2_with fail
          go_meet
          case rel => exact ⟨rfl, rfl⟩
        · have hb1 : ((North.errOf (s.take p) : Int) != 0) = true := by rw [e1]; rfl
          have hb2 : ((North.errOf (s.take p) : Int) != 6) = false := by rw [e1]; rfl
          have hb3 : (North.atOf (s.take p) != (p : Int)) = false := by rw [e2]; simp
          clear e1 e2
          go_wp2_with fail
          go_meet
          case rel => exact ⟨rfl, rfl⟩
      obtain ⟨rfl, rfl⟩ := hcut
      clear hgs HCUT HJ HONE
      have hraw : (mkS s).extract 0 (p + t.text.length) ++ (⟨#[10]⟩ : ByteArray) ++ mkS o = mkS (s.take (p + t.text.length) ++ 10 :: o) := by
        rw [mkS_extract, show (⟨#[10]⟩ : ByteArray) = mkS [10] from rfl, mkS_append, mkS_append]
        simp
      have hclen : (s.take (p + t.text.length) ++ 10 :: o).length < 4611686018427387904 := by simp only [List.length_append, List.length_take, List.length_cons]; omega
      have HL2 := Lib.hid (fun (wx : World) => lex_at_ _ hclen _ hraw wx)
      have HP3 := Lib.hid (fun (wx : World) (h : Below w.heap.size w wx) => parse_at_ HM.out _ hclen _ hraw wx h)
      have hcases : (Lex.lex (s.take (p + t.text.length) ++ 10 :: o)).2.1 ≠ 0 ∨ ((Lex.lex (s.take (p + t.text.length) ++ 10 :: o)).2.1 = 0 ∧ North.errOf (s.take (p + t.text.length) ++ 10 :: o) = 5 ∧ North.atOf (s.take (p + t.text.length) ++ 10 :: o) = p) := by
        by_cases hz : (Lex.lex (s.take (p + t.text.length) ++ 10 :: o)).2.1 = 0
        · have := HON.out o h2 hz
          exact .inr ⟨hz, by rw [North.errOf, this], by rw [North.atOf, this]⟩
        · exact .inl hz
      generalize s.take (p + t.text.length) ++ 10 :: o = cs at *
      have HCASES := Lib.hid hcases
      clear hraw hclen HON hcases
      go_upto_region 20 with fail
      go_upto_region 21 with (go_at_call 15; refine (HL2.out _).mono ?_; clear HL2; rintro e w5 ⟨hB5, A5, n5, c5, rfl, htk5⟩; have HB5 := Lib.hid (below_then HV4.out hB5); clear hB5 htk5)
      go_upto_region 22 with (first | (go_at_call 16; refine (HP3.out _ HB5.out).mono ?_; clear HP3; rintro e w6 ⟨hB6, CS6, rfl, hz6, hone6, hp6⟩; have HZ := Lib.hid (heap_alloc_new w6 zeroP); have HX := Lib.hid hB6; have HONE := Lib.hid hone6; clear hB6 hp6 hone6) | (refine wpList_store_row rfl 35 _ _ rfl w6.heap.size CS6 rfl rfl 35 (pvC (North.pv0 North.fm00) nilS nilS nilS nilS nilS).toArray HZ.out (by rw [hz6]; exact info_Provision) (by rw [hz6]; rfl) HONE.out ?_))
      have hv6 := (var_put (below_then HB5.out HX.out) CS6).1
      change Code.wp _ _ _ _ ((w6.alloc zeroP).setRow w6.heap.size CS6)
      generalize (w6.alloc zeroP).setRow w6.heap.size CS6 = V6 at *
      have HV6 := Lib.hid hv6
      clear hv6 HX HZ HONE hz6 HB5 HV4
      rcases HCASES.out with hz | ⟨hz, hz1, hz2⟩
      · have hb : (((Lex.lex cs).2.1 : Int) != 0) = true := by simp; omega
        clear hz
        go_wp2_with fail
        go_ret
        exact ⟨rfl, HV6.out⟩
      · go_wp2_with fail
        go_ret
        exact ⟨rfl, HV6.out⟩
    · have hb1 : ((North.errOf s : Int) != 5) = false := by rw [he]; rfl
      have hb2 : (((Lex.lex s).2.1 : Int) != 0) = true := by simp; omega
      clear he hl
      go_wp2_with fail
      go_ret
      exact ⟨rfl, HB3.out⟩
  · have hb1 : ((North.errOf s : Int) != 5) = true := by simp; omega
    clear he
    go_wp2_with fail
    go_ret
    exact ⟨rfl, HB3.out⟩
end Go.Proofs.YtlhgflnmdmifaaaDoor.Wk
