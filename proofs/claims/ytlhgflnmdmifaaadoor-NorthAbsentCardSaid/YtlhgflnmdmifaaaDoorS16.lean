/- NorthAbsent: the walk, joined. -/
import Derived.Test.YtlhgflnmdmifaaaDoorS15
namespace PD
namespace North
theorem absent_len {out : Bool} {w b e a : Str} (hw : w.length ≤ 1500) (hb : b.length ≤ 1500) (he : e.length ≤ 1500) (ha : a.length ≤ 1500) : (absT out w b e a).length < 4611686018427387904 := by
  have h1 := part_len (out := out) (w := [105, 102]) (o := [116, 114, 117, 101]) hw (by decide) (by decide)
  have h2 := part_len (out := out) (w := [102, 114, 111, 109]) (o := [97, 108, 119, 97, 121, 115]) hb (by decide) (by decide)
  have h3 := part_len (out := out) (w := [117, 110, 116, 105, 108]) (o := [110, 101, 118, 101, 114]) he (by decide) (by decide)
  have h4 := part_len (out := out) (w := [97, 103, 97, 105, 110]) (o := [110, 101, 118, 101, 114]) ha (by decide) (by decide)
  simp only [absT, List.length_append, List.length_cons, List.length_nil]
  omega
end North
end PD
namespace Go.Proofs.YtlhgflnmdmifaaaDoor.Wk
open Go.RowKit PD
theorem raw_abs (out : Bool) (w b e a : Str) : (⟨#[97, 99, 116, 32, 97, 58, 32, 100, 101, 102, 105, 110, 101, 32, 98]⟩ : ByteArray) ++ mkS (North.partT [105, 102] w [116, 114, 117, 101] out) ++ mkS (North.partT [102, 114, 111, 109] b [97, 108, 119, 97, 121, 115] out) ++ mkS (North.partT [117, 110, 116, 105, 108] e [110, 101, 118, 101, 114] out) ++ mkS (North.partT [97, 103, 97, 105, 110] a [110, 101, 118, 101, 114] out) ++ ⟨#[46]⟩ = mkS (North.absT out w b e a) := by
  rw [show (⟨#[97, 99, 116, 32, 97, 58, 32, 100, 101, 102, 105, 110, 101, 32, 98]⟩ : ByteArray) = mkS [97, 99, 116, 32, 97, 58, 32, 100, 101, 102, 105, 110, 101, 32, 98] from rfl, show (⟨#[46]⟩ : ByteArray) = mkS [46] from rfl, mkS_append, mkS_append, mkS_append, mkS_append, mkS_append]
  rfl
set_option maxRecDepth 100000 in
set_option maxHeartbeats 8000000 in
theorem northAbsent_calls (s o u x : Str) (hs : s.length < 4611686018427387904) (ho : o.length < 4611686018427387904) (hu : u.length < 4611686018427387904) (hx : x.length < 4611686018427387904) (w : World) (hm : MaxL w) :
    Calls Tryd.prog 6 #[.string (mkS s), .string (mkS o), .string (mkS u), .string (mkS x)] w fun e w' => e = .returned (.bool true) ∧ Below w.heap.size w w' := by
  have HH := Lib.hid (head_at_ hm w (Below.refl _ _))
  obtain ⟨t1, h1⟩ : ∃ t : Bool, t = true ↔ North.Free s := by by_cases h : North.Free s; exact ⟨true, by simp [h]⟩; exact ⟨false, by simp [h]⟩
  obtain ⟨t2, h2⟩ : ∃ t : Bool, t = true ↔ North.Free o := by by_cases h : North.Free o; exact ⟨true, by simp [h]⟩; exact ⟨false, by simp [h]⟩
  obtain ⟨t3, h3⟩ : ∃ t : Bool, t = true ↔ North.Free u := by by_cases h : North.Free u; exact ⟨true, by simp [h]⟩; exact ⟨false, by simp [h]⟩
  obtain ⟨t4, h4⟩ : ∃ t : Bool, t = true ↔ North.Free x := by by_cases h : North.Free x; exact ⟨true, by simp [h]⟩; exact ⟨false, by simp [h]⟩
  have F1 := Lib.hid (fun (wx : World) => free_calls s hs t1 h1 wx)
  have F2 := Lib.hid (fun (wx : World) => free_calls o ho t2 h2 wx)
  have F3 := Lib.hid (fun (wx : World) => free_calls u hu t3 h3 wx)
  have F4 := Lib.hid (fun (wx : World) => free_calls x hx t4 h4 wx)
  by_cases hall : t1 = true ∧ t2 = true ∧ t3 = true ∧ t4 = true
  · obtain ⟨rfl, rfl, rfl, rfl⟩ := hall
    have f1 := h1.1 rfl
    have f2 := h2.1 rfl
    have f3 := h3.1 rfl
    have f4 := h4.1 rfl
    have hab := North.absent f1 f2 f3 f4
    have HP1 := Lib.hid (fun (wx : World) (h : Below w.heap.size w wx) => parse_at_ hm _ (North.absent_len (out := true) f1.1 f2.1 f3.1 f4.1) _ (raw_abs true s o u x) wx h)
    have HP2 := Lib.hid (fun (wx : World) (h : Below w.heap.size w wx) => parse_at_ hm _ (North.absent_len (out := false) f1.1 f2.1 f3.1 f4.1) _ (raw_abs false s o u x) wx h)
    have heq : North.errOf (North.absT true s o u x) = North.errOf (North.absT false s o u x) ∧ North.pvOf (North.absT true s o u x) = North.pvOf (North.absT false s o u x) := by
      rcases hab with ⟨p, e1, e2⟩ | ⟨e, i, j, e1, e2⟩
      · simp [North.errOf, North.pvOf, e1, e2]
      · simp [North.errOf, North.pvOf, e1, e2]
    have P1 := Lib.hid (fun (wx : World) => part_calls [105, 102] s [116, 114, 117, 101] true (by decide) (by decide) hs wx)
    have zP1 : (mkS (North.partT [105, 102] s [116, 114, 117, 101] true)).size ≤ 1520 := by rw [mkS_size]; exact North.part_len f1.1 (by decide) (by decide)
    have P2 := Lib.hid (fun (wx : World) => part_calls [102, 114, 111, 109] o [97, 108, 119, 97, 121, 115] true (by decide) (by decide) ho wx)
    have zP2 : (mkS (North.partT [102, 114, 111, 109] o [97, 108, 119, 97, 121, 115] true)).size ≤ 1520 := by rw [mkS_size]; exact North.part_len f2.1 (by decide) (by decide)
    have P3 := Lib.hid (fun (wx : World) => part_calls [117, 110, 116, 105, 108] u [110, 101, 118, 101, 114] true (by decide) (by decide) hu wx)
    have zP3 : (mkS (North.partT [117, 110, 116, 105, 108] u [110, 101, 118, 101, 114] true)).size ≤ 1520 := by rw [mkS_size]; exact North.part_len f3.1 (by decide) (by decide)
    have P4 := Lib.hid (fun (wx : World) => part_calls [97, 103, 97, 105, 110] x [110, 101, 118, 101, 114] true (by decide) (by decide) hx wx)
    have zP4 : (mkS (North.partT [97, 103, 97, 105, 110] x [110, 101, 118, 101, 114] true)).size ≤ 1520 := by rw [mkS_size]; exact North.part_len f4.1 (by decide) (by decide)
    have Q1 := Lib.hid (fun (wx : World) => part_calls [105, 102] s [116, 114, 117, 101] false (by decide) (by decide) hs wx)
    have zQ1 : (mkS (North.partT [105, 102] s [116, 114, 117, 101] false)).size ≤ 1520 := by rw [mkS_size]; exact North.part_len f1.1 (by decide) (by decide)
    have Q2 := Lib.hid (fun (wx : World) => part_calls [102, 114, 111, 109] o [97, 108, 119, 97, 121, 115] false (by decide) (by decide) ho wx)
    have zQ2 : (mkS (North.partT [102, 114, 111, 109] o [97, 108, 119, 97, 121, 115] false)).size ≤ 1520 := by rw [mkS_size]; exact North.part_len f2.1 (by decide) (by decide)
    have Q3 := Lib.hid (fun (wx : World) => part_calls [117, 110, 116, 105, 108] u [110, 101, 118, 101, 114] false (by decide) (by decide) hu wx)
    have zQ3 : (mkS (North.partT [117, 110, 116, 105, 108] u [110, 101, 118, 101, 114] false)).size ≤ 1520 := by rw [mkS_size]; exact North.part_len f3.1 (by decide) (by decide)
    have Q4 := Lib.hid (fun (wx : World) => part_calls [97, 103, 97, 105, 110] x [110, 101, 118, 101, 114] false (by decide) (by decide) hx wx)
    have zQ4 : (mkS (North.partT [97, 103, 97, 105, 110] x [110, 101, 118, 101, 114] false)).size ≤ 1520 := by rw [mkS_size]; exact North.part_len f4.1 (by decide) (by decide)
    clear hab h1 h2 h3 h4 f1 f2 f3 f4 hs ho hu hx hm
    generalize North.absT true s o u x = S1 at *
    generalize North.absT false s o u x = S2 at *
    obtain ⟨he, hpq⟩ := heq
    have hee : ((North.errOf S1 : Int) == (North.errOf S2 : Int)) = true := by rw [he]; simp
    have HPQ := Lib.hid hpq
    clear he hpq
    go_enter Tryd.func6, Tryd.ntmps6
    go_upto_region 2 with (go_at_call 14; refine HH.out.mono ?_; clear HH; rintro e w1 ⟨rfl, hB1⟩; have HB1 := Lib.hid hB1; clear hB1)
    go_upto_region 4 with (first
      | (go_at_call 22; refine (F1.out _).mono ?_; clear F1; rintro e w2 ⟨rfl, hB⟩; have HB2 := Lib.hid (below_then HB1.out hB); clear hB)
      | (go_at_call 22; refine (F2.out _).mono ?_; clear F2; rintro e w3 ⟨rfl, hB⟩; have HB3 := Lib.hid (below_then HB2.out hB); clear hB)
      | (go_at_call 22; refine (F3.out _).mono ?_; clear F3; rintro e w4 ⟨rfl, hB⟩; have HB4 := Lib.hid (below_then HB3.out hB); clear hB)
      | (go_at_call 22; refine (F4.out _).mono ?_; clear F4; rintro e w5 ⟨rfl, hB⟩; have HB5 := Lib.hid (below_then HB4.out hB); clear hB))
    go_upto_region 5 with (first
      | (go_at_call 23; refine (P1.out _).mono ?_; clear P1; rintro e w' ⟨rfl, rfl⟩)
      | (go_at_call 23; refine (P2.out _).mono ?_; clear P2; rintro e w' ⟨rfl, rfl⟩)
      | (go_at_call 23; refine (P3.out _).mono ?_; clear P3; rintro e w' ⟨rfl, rfl⟩)
      | (go_at_call 23; refine (P4.out _).mono ?_; clear P4; rintro e w' ⟨rfl, rfl⟩))
    go_upto_region 6 with (first
      | (go_at_call 23; refine (Q1.out _).mono ?_; clear Q1; rintro e w' ⟨rfl, rfl⟩)
      | (go_at_call 23; refine (Q2.out _).mono ?_; clear Q2; rintro e w' ⟨rfl, rfl⟩)
      | (go_at_call 23; refine (Q3.out _).mono ?_; clear Q3; rintro e w' ⟨rfl, rfl⟩)
      | (go_at_call 23; refine (Q4.out _).mono ?_; clear Q4; rintro e w' ⟨rfl, rfl⟩))
    go_upto_region 7 with (first | (go_at_call 16; refine (HP1.out _ HB5.out).mono ?_; clear HP1; rintro e w6 ⟨hB6, CS, rfl, hz, hone, hp⟩; have HZ := Lib.hid (heap_alloc_new w6 zeroP); have HX := Lib.hid hB6; have HONE := Lib.hid hone; have HPV := Lib.hid hp; clear hB6 hp hone) | (refine wpList_store_row rfl 35 _ _ rfl w6.heap.size CS rfl rfl 35 (pvC (North.pv0 North.fm00) nilS nilS nilS nilS nilS).toArray HZ.out (by rw [hz]; exact info_Provision) (by rw [hz]; rfl) HONE.out ?_))
    obtain ⟨hv6, hx6, hc6⟩ := var_put (below_then HB5.out HX.out) CS
    have hpv := HPV.out.below hx6
    change Code.wp _ _ _ _ ((w6.alloc zeroP).setRow w6.heap.size CS)
    generalize (w6.alloc zeroP).setRow w6.heap.size CS = V6 at *
    generalize w6.heap.size = n6 at *
    have HV6 := Lib.hid hv6
    have HPV := Lib.hid hpv
    have HVC := Lib.hid hc6
    clear hv6 hx6 hc6 hpv HX HZ HONE HB1 HB2 HB3 HB4 HB5
    go_upto_region 8 with (first | (go_at_call 16; refine (HP2.out _ HV6.out).mono ?_; clear HP2; rintro e w7 ⟨hB7, CS7, rfl, hz7, hone, hp⟩; have HZ := Lib.hid (heap_alloc_new w7 zeroP); have HX := Lib.hid hB7; have HONE := Lib.hid hone; have HPW := Lib.hid hp; clear hB7 hp hone) | (refine wpList_store_row rfl 35 _ _ rfl w7.heap.size CS7 rfl rfl 35 (pvC (North.pv0 North.fm00) nilS nilS nilS nilS nilS).toArray HZ.out (by rw [hz7]; exact info_Provision) (by rw [hz7]; rfl) HONE.out ?_))
    obtain ⟨hv7, hx7, hc7⟩ := var_put (below_then HV6.out HX.out) CS7
    have hpw := HPW.out.below hx7
    have hpv := (HPV.out.below HX.out).below hx7
    have hvc := below_blk hx7 (below_blk HX.out HVC.out)
    change Code.wp _ _ _ _ ((w7.alloc zeroP).setRow w7.heap.size CS7)
    generalize (w7.alloc zeroP).setRow w7.heap.size CS7 = V7 at *
    generalize w7.heap.size = n7 at *
    have HV7 := Lib.hid hv7
    have HR6 := Lib.hid (range_of hvc)
    have HR7 := Lib.hid (range_of hc7)
    have HI6 := Lib.hid (info_len hz)
    have HI7 := Lib.hid (info_len hz7)
    have HSC := Lib.hid (same_calls _ _ true (by simp [HPQ.out]) V7 (.agg CS) (.agg CS7) hpv hpw)
    clear hv7 hx7 hc7 hpw hpv hvc HX HZ HONE HPW HPV HVC hz hz7 HPQ
    go_wp2_with (first
      | (refine wpList_load_mid_g rfl 35 _ rfl n6 0 rfl CS.toList _ HR6.out Tryd.underlying35 rfl HI6.out ?_; clear HR6)
      | (refine wpList_load_mid_g rfl 35 _ rfl n7 0 rfl CS7.toList _ HR7.out Tryd.underlying35 rfl HI7.out ?_; clear HR7)
      | (go_at_call 17; refine HSC.out.mono ?_; clear HSC; rintro e U9 ⟨rfl, hU9⟩; have HU9 := Lib.hid hU9; clear hU9))
    go_ret
    exact ⟨rfl, below_then HV7.out HU9.out⟩
  · clear h1 h2 h3 h4 hs ho hu hx hm
    cases t1 with
    | false =>
      clear hall
      go_enter Tryd.func6, Tryd.ntmps6
      go_upto_region 2 with (go_at_call 14; refine HH.out.mono ?_; clear HH; rintro e w1 ⟨rfl, hB1⟩; have HB1 := Lib.hid hB1; clear hB1)
      go_wp2_with (go_at_call 22; refine (F1.out _).mono ?_; clear F1; rintro e w2 ⟨rfl, hB⟩; have HB2 := Lib.hid (below_then HB1.out hB); clear hB)
      go_ret
      exact ⟨rfl, HB2.out⟩
    | true =>
    cases t2 with
    | false =>
      clear hall
      go_enter Tryd.func6, Tryd.ntmps6
      go_upto_region 2 with (go_at_call 14; refine HH.out.mono ?_; clear HH; rintro e w1 ⟨rfl, hB1⟩; have HB1 := Lib.hid hB1; clear hB1)
      go_wp2_with (first
        | (go_at_call 22; refine (F1.out _).mono ?_; clear F1; rintro e w2 ⟨rfl, hB⟩; have HB2 := Lib.hid (below_then HB1.out hB); clear hB)
        | (go_at_call 22; refine (F2.out _).mono ?_; clear F2; rintro e w3 ⟨rfl, hB⟩; have HB3 := Lib.hid (below_then HB2.out hB); clear hB))
      go_ret
      exact ⟨rfl, HB3.out⟩
    | true =>
    cases t3 with
    | false =>
      clear hall
      go_enter Tryd.func6, Tryd.ntmps6
      go_upto_region 2 with (go_at_call 14; refine HH.out.mono ?_; clear HH; rintro e w1 ⟨rfl, hB1⟩; have HB1 := Lib.hid hB1; clear hB1)
      go_wp2_with (first
        | (go_at_call 22; refine (F1.out _).mono ?_; clear F1; rintro e w2 ⟨rfl, hB⟩; have HB2 := Lib.hid (below_then HB1.out hB); clear hB)
        | (go_at_call 22; refine (F2.out _).mono ?_; clear F2; rintro e w3 ⟨rfl, hB⟩; have HB3 := Lib.hid (below_then HB2.out hB); clear hB)
        | (go_at_call 22; refine (F3.out _).mono ?_; clear F3; rintro e w4 ⟨rfl, hB⟩; have HB4 := Lib.hid (below_then HB3.out hB); clear hB))
      go_ret
      exact ⟨rfl, HB4.out⟩
    | true =>
    cases t4 with
    | false =>
      clear hall
      go_enter Tryd.func6, Tryd.ntmps6
      go_upto_region 2 with (go_at_call 14; refine HH.out.mono ?_; clear HH; rintro e w1 ⟨rfl, hB1⟩; have HB1 := Lib.hid hB1; clear hB1)
      go_wp2_with (first
        | (go_at_call 22; refine (F1.out _).mono ?_; clear F1; rintro e w2 ⟨rfl, hB⟩; have HB2 := Lib.hid (below_then HB1.out hB); clear hB)
        | (go_at_call 22; refine (F2.out _).mono ?_; clear F2; rintro e w3 ⟨rfl, hB⟩; have HB3 := Lib.hid (below_then HB2.out hB); clear hB)
        | (go_at_call 22; refine (F3.out _).mono ?_; clear F3; rintro e w4 ⟨rfl, hB⟩; have HB4 := Lib.hid (below_then HB3.out hB); clear hB)
        | (go_at_call 22; refine (F4.out _).mono ?_; clear F4; rintro e w5 ⟨rfl, hB⟩; have HB5 := Lib.hid (below_then HB4.out hB); clear hB))
      go_ret
      exact ⟨rfl, HB5.out⟩
    | true => exact absurd ⟨rfl, rfl, rfl, rfl⟩ hall
end Go.Proofs.YtlhgflnmdmifaaaDoor.Wk
