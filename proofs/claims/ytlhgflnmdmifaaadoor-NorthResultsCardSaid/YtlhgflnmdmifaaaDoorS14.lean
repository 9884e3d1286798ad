/- NorthResults: the walk. -/
import Derived.Test.YtlhgflnmdmifaaaDoorSB
import Derived.Test.YtlhgflnmdmifaaaDoorS6
import Derived.Deep.RegionHeld3
namespace Go.Proofs.YtlhgflnmdmifaaaDoor.Wk
open Go.RowKit PD

theorem rowS3 {w : World} {b : Nat} {o1 o2 o3 : Int} {n1 n2 n3 : Str} {m1 m2 m3 : Int} {ks1 ks2 ks3 : List St} {k1 k2 k3 : Value} {ty : TypeId} {fr : Nat × Nat}
    (h : w.heap[b]? = some (.cells #[.int .i64 o1, .string (mkS n1), .int .i64 m1, k1, .int .i64 o2, .string (mkS n2), .int .i64 m2, k2, .int .i64 o3, .string (mkS n3), .int .i64 m3, k3] ty fr)) (h1 : RepKS w TT (.mk o1 n1 m1 ks1) k1) (h2 : RepKS w TT (.mk o2 n2 m2 ks2) k2) (h3 : RepKS w TT (.mk o3 n3 m3 ks3) k3) :
    RepRowS w TT b 0 [.mk o1 n1 m1 ks1, .mk o2 n2 m2 ks2, .mk o3 n3 m3 ks3] := by
  rw [RepRowS, RepRowS, RepRowS, RepRowS]
  exact ⟨⟨(blk_cell h 0).trans rfl, (blk_cell h 1).trans rfl, (blk_cell h 2).trans rfl, k1, (blk_cell h 3).trans rfl, h1⟩, ⟨(blk_cell h 4).trans rfl, (blk_cell h 5).trans rfl, (blk_cell h 6).trans rfl, k2, (blk_cell h 7).trans rfl, h2⟩, ⟨(blk_cell h 8).trans rfl, (blk_cell h 9).trans rfl, (blk_cell h 10).trans rfl, k3, (blk_cell h 11).trans rfl, h3⟩, trivial⟩
set_option maxRecDepth 100000 in
set_option maxHeartbeats 8000000 in
theorem northResults_calls (s : Str) (hs : s.length < 4611686018427387904) (w : World) (hm : MaxL w) :
    Calls Tryd.prog 7 #[.string (mkS s)] w fun e w' => e = .returned (.bool true) ∧ Below w.heap.size w w' := by
  have HH := Lib.hid (head_at_ hm w (Below.refl _ _))
  have HP := Lib.hid (fun (wx : World) (h : Below w.heap.size w wx) => parse_at_ hm s hs (mkS s) rfl wx h)
  clear hm hs
  have hsz := mkS_size s
  by_cases h1 : s.length > 25000
  · go_enter Tryd.func7, Tryd.ntmps7
    go_wp2_with (go_at_call 14; refine HH.out.mono ?_; clear HH; rintro e w1 ⟨rfl, hB1⟩; have HB1 := Lib.hid hB1; clear hB1)
    go_ret
    exact ⟨rfl, HB1.out⟩
  have h1 : s.length ≤ 25000 := by omega
  go_enter Tryd.func7, Tryd.ntmps7
  go_upto_region 4 with (go_at_call 14; refine HH.out.mono ?_; clear HH; rintro e w1 ⟨rfl, hB1⟩; have HB1 := Lib.hid hB1; clear hB1)
  go_upto_region 5 with (first | (go_at_call 16; refine (HP.out _ HB1.out).mono ?_; clear HP; rintro e w3 ⟨hB3, CS, rfl, hz, hone, hp⟩; have HZ := Lib.hid (heap_alloc_new w3 zeroP); have HX := Lib.hid hB3; have HONE := Lib.hid hone; have HPV := Lib.hid hp; clear hB3 hp hone) | (refine wpList_store_row rfl 35 _ _ rfl w3.heap.size CS rfl rfl 35 (pvC (North.pv0 North.fm00) nilS nilS nilS nilS nilS).toArray HZ.out (by rw [hz]; exact info_Provision) (by rw [hz]; rfl) HONE.out ?_))
  obtain ⟨hv3, hx3, hc3⟩ := var_put (below_then HB1.out HX.out) CS
  have hpv3 := HPV.out.below hx3
  change Code.wp _ _ _ _ ((w3.alloc zeroP).setRow w3.heap.size CS)
  generalize (w3.alloc zeroP).setRow w3.heap.size CS = V at *
  generalize w3.heap.size = n3 at *
  have HV := Lib.hid hv3
  have HPV := Lib.hid hpv3
  have HVC := Lib.hid hc3
  clear hv3 hx3 hc3 hpv3 HX HZ HONE HB1
  by_cases he : North.errOf s = 0
  · obtain ⟨pv, hr⟩ : ∃ pv, North.read s = .ok pv := by
      cases hr : North.read s with
      | ok pv => exact ⟨pv, rfl⟩
      | error x => exact absurd he (by rw [North.errOf, hr]; exact (North.read_bad (e := x.1) (at_ := x.2) (by rw [hr])).1)
    have hat : North.atOf s = 0 := by rw [North.atOf, hr]
    have hpe : North.pvOf s = pv := by rw [North.pvOf, hr]
    have hg := North.read_good hr
    rw [he, hat]
    rw [hpe] at HPV
    clear hr hat hpe he hsz
    obtain ⟨id, rank, kind, nm, value, ⟨wo, wn, wcm, wm, wks⟩, ec, ⟨bo, bn, bm, bks⟩, ⟨eo, en, em, eks⟩, ⟨ao, an, am, aks⟩⟩ := pv
    obtain ⟨wk, ex, bk, ek, ak, ecs, m1, m2, m3, m4, m5⟩ := HPV.out
    simp only [Value.agg.injEq] at ecs
    simp only at m1 m2 m3 m4 m5
    obtain ⟨g1, g2, g3, g4, g5, g6, g7, g8, ⟨gw1, gw2, gw3⟩, ⟨gx1, gx2, gx3⟩, ⟨gb1, gb2, gb3⟩, ⟨ge1, ge2, ge3⟩, ⟨ga1, ga2, ga3⟩⟩ := hg
    simp only at g1 g2 g3 g4 g5 g6 g7 g8 gw1 gw2 gw3 gx1 gx2 gx3 gb1 gb2 gb3 ge1 ge2 ge3 ga1 ga2 ga3
    obtain ⟨wA, wcc, rfl, -⟩ := m1.slice
    obtain ⟨bA, bcc, rfl, -⟩ := m3.slice
    obtain ⟨eA, ecc, rfl, -⟩ := m4.slice
    obtain ⟨aA, acc, rfl, -⟩ := m5.slice
    obtain ⟨xA, xcc, rfl, hxc⟩ := m2.slice
    have HW := Lib.hid m1; have HE := Lib.hid m2; have HBG := Lib.hid m3; have HEN := Lib.hid m4; have HAG := Lib.hid m5
    have GW := Lib.hid (And.intro gw1 (And.intro gw2 gw3))
    have GB := Lib.hid (And.intro gb1 (And.intro gb2 gb3))
    have GE := Lib.hid (And.intro ge1 (And.intro ge2 ge3))
    have GA := Lib.hid (And.intro ga1 (And.intro ga2 ga3))
    have GX := Lib.hid (And.intro gx2 gx3)
    have GI := Lib.hid g1
    have GN := Lib.hid g5
    clear m1 m2 m3 m4 m5 gw1 gw2 gw3 gb1 gb2 gb3 ge1 ge2 ge3 ga1 ga2 ga3 gx2 gx3 g1 g5 HPV hz
    have HCS := Lib.hid ecs
    clear ecs
    have hvc := HVC.out
    rw [HCS.out] at hvc
    have HVC := Lib.hid hvc
    clear hvc
    go_upto_region 7 with fail
    go_cut [106] from 7 to 192 (fun v106 wx => v106 = .bool false ∧ Hid (Below V.heap.size V wx))
    case first =>
      obtain ⟨⟨a0, a1, a2, a3, a4, a10⟩, -⟩ := pv_facts HVC.out
      have hbl := cell_lt a0
      have q1 : ¬ rank < 1 := by omega
      have q2 : ¬ 4 < rank := by omega
      have q3 : ¬ value < 0 := by omega
      have q4 : ¬ 1000000 < value := by omega
      have q5 : ¬ (20 : Int) < (ec.length : Int) := by omega
      have N1 := Lib.hid (fun (wx : World) => nameP_calls id (np_len GI.out) true (by simp [GI.out]) wx)
      have N2 := Lib.hid (fun (wx : World) => nameP_calls nm (np_len GN.out) true (by simp [GN.out]) wx)
      clear g2 g3 g6 g7 gx1
      rcases g4 with rfl | rfl
      · obtain rfl : value = 0 := g8 rfl
        clear g8
        go_wp2_with (first
          | (go_at_call 24; refine (N1.out _).mono ?_; clear N1; rintro e w5 ⟨rfl, hB5⟩; have a2 := below_cell hB5 a2; have a3 := below_cell hB5 a3; have a4 := below_cell hB5 a4; have a10 := below_cell hB5 a10; have hbl := Nat.lt_of_lt_of_le hbl hB5.size; have HB5 := Lib.hid hB5; clear hB5)
          | (go_at_call 24; refine (N2.out _).mono ?_; clear N2; rintro e w6 ⟨rfl, hB6⟩; have a2 := below_cell hB6 a2; have a4 := below_cell hB6 a4; have a10 := below_cell hB6 a10; have hbl := Nat.lt_of_lt_of_le hbl hB6.size; have HB6 := Lib.hid hB6; clear hB6))
        go_meet
        case rel => exact ⟨by simp [q5], Lib.hid (below_then HB5.out HB6.out)⟩
      · clear g8
        go_wp2_with (first
          | (go_at_call 24; refine (N1.out _).mono ?_; clear N1; rintro e w5 ⟨rfl, hB5⟩; have a2 := below_cell hB5 a2; have a3 := below_cell hB5 a3; have a4 := below_cell hB5 a4; have a10 := below_cell hB5 a10; have hbl := Nat.lt_of_lt_of_le hbl hB5.size; have HB5 := Lib.hid hB5; clear hB5)
          | (go_at_call 24; refine (N2.out _).mono ?_; clear N2; rintro e w6 ⟨rfl, hB6⟩; have a2 := below_cell hB6 a2; have a4 := below_cell hB6 a4; have a10 := below_cell hB6 a10; have hbl := Nat.lt_of_lt_of_le hbl hB6.size; have HB6 := Lib.hid hB6; clear hB6))
        go_meet
        case rel => exact ⟨by simp [q3, q4, q5], Lib.hid (below_then HB5.out HB6.out)⟩
    case rest =>
      obtain ⟨rfl, hcut⟩ := hcut
      have HVC := Lib.hid (below_blk hcut.out HVC.out)
      have HW := Lib.hid (HW.out.belowT hcut.out)
      have HE := Lib.hid (HE.out.below hcut.out)
      have HBG := Lib.hid (HBG.out.belowT hcut.out)
      have HEN := Lib.hid (HEN.out.belowT hcut.out)
      have HAG := Lib.hid (HAG.out.belowT hcut.out)
      have HV := Lib.hid (below_then HV.out hcut.out)
      clear hcut GI GN HCS
      go_wp2_with fail
      go_loopg [7] ec.length (fun k v7 wr => ∃ i : Nat, k + i = ec.length ∧ v7 = .int .i64 i ∧ Hid (Below wc.heap.size wc wr))
      case atStart => exact ⟨0, rfl, rfl, Lib.hid (Below.refl _ _)⟩
      case round =>
        obtain ⟨i, hk, rfl, HR⟩ := hrel
        obtain ⟨⟨-, -, -, -, -, a10⟩, -⟩ := pv_facts (below_blk HR.out HVC.out)
        have hbl := cell_lt a10
        by_cases hlt : i < ec.length
        · obtain ⟨b, o, x, rfl, hget, c0, hadd⟩ := str_at (HE.out.below HR.out) hlt
          have hi0 : (0 : Int) ≤ (i : Int) := by omega
          have hi1 : (i : Int) < (ec.length : Int) := by omega
          have hbx := cell_lt c0
          have hnp := GX.out.2 x (List.mem_of_getElem? hget)
          have N1 := Lib.hid (fun (wx : World) => nameP_calls x (np_len hnp) true (by simp [hnp]) wx)
          have hnone : idx (ec.take i) x = none := by
            cases hj : idx (ec.take i) x with
            | none => rfl
            | some j =>
              obtain ⟨h1, h2⟩ := idx_some _ _ _ hj
              rw [List.length_take] at h1
              rw [List.getElem?_take_of_lt (by omega)] at h2
              have := (List.getElem?_inj (by omega) GX.out.1).1 (h2.trans hget.symm)
              omega
          have hxcc : i ≤ xcc ∧ xcc ≤ capMax := by
            obtain ⟨A', c', e, hc, -⟩ := HE.out
            simp only [Value.slice.injEq] at e
            obtain ⟨-, -, rfl⟩ := e
            exact ⟨by omega, hc.2⟩
          have I1 := Lib.hid (fun (wx : World) (h : Below wc.heap.size wc wx) => (by
            have h2 := HE.out.below h
            have := in_calls (ec.take i) x (.slice (some ⟨b, o, none⟩) i xcc) wx (by
              obtain ⟨A', c', e, hc, hs⟩ := h2
              simp only [Value.slice.injEq] at e
              obtain ⟨e1, -, rfl⟩ := e
              have hlen : (ec.take i).length = i := by rw [List.length_take]; omega
              refine ⟨some ⟨b, o, none⟩, xcc, by rw [hlen], ⟨by omega, hc.2⟩, fun _ => ⟨b, o, rfl, fun j s hj => ?_⟩⟩
              obtain ⟨b', o', e2, hs⟩ := hs (by omega)
              rw [← e1] at e2
              cases e2
              exact hs j s (by rw [List.getElem?_take] at hj; split at hj; exact hj; cases hj))
            rw [hnone] at this
            exact this : Calls Tryd.prog 25 #[.slice (some ⟨b, o, none⟩) i xcc, .string (mkS x)] wx fun e w' => e = .returned (.int .i64 (-1)) ∧ wx = w'))
          have hxi : (i : Int) ≤ (xcc : Int) := by omega
          clear hget hnp hnone hxcc
          go_upto_region 12 with fail
          go_region_held3 (fun W => W.cell? ⟨n3, 10, none⟩ = some (.slice (some ⟨b, o, none⟩) ec.length xcc) ∧ W.cell? ⟨b, o + i, none⟩ = some (.string (mkS x))) (first | exact ⟨a10, c0⟩ | exact ⟨a15, c5⟩) (first
            | (go_at_call 24; refine (N1.out _).mono ?_; clear N1; rintro e w5 ⟨rfl, hB5⟩; have a15 := below_cell hB5 a10; have c5 := below_cell hB5 c0; have HB5 := Lib.hid hB5; clear hB5)
            | (go_at_call 25; refine (I1.out _ (below_then HR.out (below_then (Below.refl wr.heap.size wr).drew HB5.out))).mono ?_; clear I1; rintro e w' ⟨rfl, rfl⟩))
          go_wp2_with fail
          go_roundg (ec.length - (i + 1))
          case measure => omega
          case rel => exact ⟨i + 1, by omega, by go_num, Lib.hid (below_then HR.out (below_then (Below.refl wr.heap.size wr).drew HB5.out))⟩
        · obtain ⟨hwo, hws, hwd⟩ := GW.out
          have hsc := sizeF (.mk wo wn wcm wm wks) (by omega) wr _ (HW.out.belowT HR.out)
          unfold FmV at hsc
          simp only [FmC] at hsc
          have HSC := Lib.hid hsc
          obtain ⟨-, ⟨c5, c6, c7, c8, c9⟩, -⟩ := pv_facts (below_blk HR.out HVC.out)
          have hn1 : ((Fm.mk wo wn wcm wm wks).size : Int) ≤ 200 := by omega
          have hd1 : ((Fm.mk wo wn wcm wm wks).depth : Int) ≤ 20 := by omega
          generalize (Fm.mk wo wn wcm wm wks).size = FS at *
          generalize (Fm.mk wo wn wcm wm wks).depth = FD at *
          have GOK := Lib.hid hwo
          clear hsc hwo hws hwd
          go_upto_region 15 with (go_at_call 26; refine HSC.out.mono ?_; clear HSC; rintro e w6 ⟨rfl, hB6⟩; have HB6 := Lib.hid (below_then HR.out hB6); clear hB6)
          obtain ⟨-, -, ⟨d0, d1, d2, d3⟩, ⟨e0, e1, e2, e3⟩, ⟨f0, f1, f2, f3⟩⟩ := pv_facts (below_blk HB6.out HVC.out)
          have hbl6 := cell_lt d0
          go_upto_region 16 with fail
          have hS := heap_alloc_new w6 (.cells #[.int .i64 bo, .string (mkS bn), .int .i64 bm, .slice bA bks.length bcc, .int .i64 eo, .string (mkS en), .int .i64 em, .slice eA eks.length ecc, .int .i64 ao, .string (mkS an), .int .i64 am, .slice aA aks.length acc] 33)
          have hW6 := below_new w6 (.cells #[.int .i64 bo, .string (mkS bn), .int .i64 bm, .slice bA bks.length bcc, .int .i64 eo, .string (mkS en), .int .i64 em, .slice eA eks.length ecc, .int .i64 ao, .string (mkS an), .int .i64 am, .slice aA aks.length acc] 33)
          have hrow := rowS3 hS ((HBG.out.belowT HB6.out).belowT hW6) ((HEN.out.belowT HB6.out).belowT hW6) ((HAG.out.belowT HB6.out).belowT hW6)
          have hB7 := below_then HB6.out hW6
          clear d0 d1 d2 d3 e0 e1 e2 e3 f0 f1 f2 f3 hbl6 hS hW6
          generalize w6.alloc (.cells #[.int .i64 bo, .string (mkS bn), .int .i64 bm, .slice bA bks.length bcc, .int .i64 eo, .string (mkS en), .int .i64 em, .slice eA eks.length ecc, .int .i64 ao, .string (mkS an), .int .i64 am, .slice aA aks.length acc] 33) = W7 at *
          generalize w6.heap.size = n7 at *
          have hall : ∀ x ∈ [St.mk bo bn bm bks, St.mk eo en em eks, St.mk ao an am aks], x.Ok North.NP ∧ x.size ≤ 200 ∧ x.depth ≤ 20 := by
            intro x hx
            simp only [List.mem_cons, List.not_mem_nil, or_false] at hx
            rcases hx with rfl | rfl | rfl
            · exact GB.out
            · exact GE.out
            · exact GA.out
          obtain ⟨L3, hL3⟩ : ∃ L, L = [St.mk bo bn bm bks, St.mk eo en em eks, St.mk ao an am aks] := ⟨_, rfl⟩
          rw [← hL3] at hall hrow
          have hlen : L3.length = 3 := by rw [hL3]; rfl
          have hrep : RepKS W7 TT (.mk 8 [] 0 L3) (.slice (some ⟨n7, 0, none⟩) 3 3) := by
            rw [RepKS]
            exact ⟨_, 3, by rw [hlen], by omega, by decide, fun _ => ⟨n7, 0, rfl, trivial, hrow⟩⟩
          have HALL := Lib.hid hall
          have HREP := Lib.hid hrep
          have HB7 := Lib.hid hB7
          clear hL3 hall hrep hrow hB7 HB6 HBG HEN HAG GB GE GA HE GX
          go_wp2_with fail
          go_loopg [11] 3 (fun k v11 wy => ∃ i : Nat, k + i = 3 ∧ v11 = .int .i64 i ∧ Hid (Below W7.heap.size W7 wy))
          case atStart => exact ⟨0, rfl, rfl, Lib.hid (Below.refl _ _)⟩
          case round =>
            obtain ⟨i, hk, rfl, HR7⟩ := hrel
            by_cases hlt : i < 3
            · obtain ⟨b, o, xo, xn, xm, xks, xA, xcc, hab, hget, c0, c1, c2, c3, hxk, hadd⟩ := kidS_at (HREP.out.belowT HR7.out) (show i < L3.length by omega)
              cases hab
              rw [Nat.zero_add] at c0 c1 c2 c3 hadd
              have hi0 : (0 : Int) ≤ (i : Int) := by omega
              have hi1 : (i : Int) < 3 := by omega
              have bl1 := cell_lt c0
              obtain ⟨hok, hs2, hd2⟩ := HALL.out _ (List.mem_of_getElem? hget)
              have hcall := sizeSt (.mk xo xn xm xks) (by omega) wr _ hxk
              have HCB := Lib.hid (fun (wz : World) (h : Below wr.heap.size wr wz) => begunS (.mk xo xn xm xks) hok wz _ (hxk.belowT h))
              have hn2 : ((St.mk xo xn xm xks).size : Int) ≤ 200 := by omega
              have hd3 : ((St.mk xo xn xm xks).depth : Int) ≤ 20 := by omega
              unfold StV at hcall HCB
              simp only [StC] at hcall HCB
              generalize (St.mk xo xn xm xks).size = XS at *
              generalize (St.mk xo xn xm xks).depth = XD at *
              have HC := Lib.hid hcall
              clear hcall hget hxk hok hs2 hd2
              go_wp2_with (first
                | (go_at_call 27; refine HC.out.mono ?_; clear HC; rintro e w8 ⟨rfl, hB8⟩; have c0 := below_cell hB8 c0; have c1 := below_cell hB8 c1; have c2 := below_cell hB8 c2; have c3 := below_cell hB8 c3; have bl1 := Nat.lt_of_lt_of_le bl1 hB8.size; have HB8 := Lib.hid hB8; clear hB8)
                | (go_at_call 28; refine (HCB.out _ HB8.out).mono ?_; clear HCB; rintro e w9 ⟨rfl, hB9⟩; have HB9 := Lib.hid (below_then HB8.out hB9); clear hB9))
              go_roundg (3 - (i + 1))
              case measure => omega
              case rel => exact ⟨i + 1, by omega, by go_num, Lib.hid (below_then HR7.out HB9.out)⟩
            · obtain rfl : i = 3 := by omega
              have hbw := below_then HB7.out HR7.out
              obtain ⟨-, ⟨c5, c6, c7, c8, c9⟩, -⟩ := pv_facts (below_blk hbw HVC.out)
              have hbl := cell_lt c5
              have hfm := formedF (.mk wo wn wcm wm wks) GOK.out wr _ (HW.out.belowT hbw)
              unfold FmV at hfm
              simp only [FmC] at hfm
              have HFM := Lib.hid hfm
              have HBW := Lib.hid hbw
              clear hfm hbw
              go_wp2_with (go_at_call 29; refine HFM.out.mono ?_; clear HFM; rintro e w9 ⟨rfl, hB9⟩; have HB9 := Lib.hid hB9; clear hB9)
              go_ret
              exact ⟨rfl, below_then HV.out (below_then HBW.out HB9.out)⟩
  · obtain ⟨x, hr⟩ : ∃ x, North.read s = .error x := by
      cases hr : North.read s with
      | ok pv => exact absurd (by rw [North.errOf, hr]) he
      | error x => exact ⟨x, rfl⟩
    obtain ⟨hne, hat⟩ := North.read_bad (e := x.1) (at_ := x.2) (by rw [hr])
    have hpe : North.pvOf s = North.pz := by rw [North.pvOf, hr]
    have hee : North.errOf s = x.1 := by rw [North.errOf, hr]
    have haa : North.atOf s = x.2 := by rw [North.atOf, hr]
    rw [hee, haa]
    rw [hpe] at HPV
    obtain ⟨e, at_⟩ := x
    simp only at hne hat ⊢
    have hb : ((e : Int) != 0) = true := by simp; omega
    have HR3 := Lib.hid (range_of HVC.out)
    have HI3 := Lib.hid (info_len hz)
    have HSC := Lib.hid (same_calls North.pz North.pz true (by simp) V (.agg CS) zeroPv HPV.out (pvMem_zero V))
    clear hr hne he hpe hee haa HPV hz
    by_cases h0 : 0 ≤ at_ ∧ at_ ≤ s.length
    · obtain ⟨g1, g2⟩ := h0
      clear hat
      go_wp2_with (first
        | (refine wpList_load_mid_g rfl 35 _ rfl n3 0 rfl CS.toList _ HR3.out Tryd.underlying35 rfl HI3.out ?_; clear HR3)
        | (go_at_call 17; refine HSC.out.mono ?_; clear HSC; rintro e U9 ⟨rfl, hU9⟩; have HU9 := Lib.hid hU9; clear hU9))
      go_ret
      exact ⟨rfl, below_then HV.out HU9.out⟩
    · obtain ⟨rfl, rfl⟩ := hat.resolve_left h0
      clear hat h0
      go_wp2_with (first
        | (refine wpList_load_mid_g rfl 35 _ rfl n3 0 rfl CS.toList _ HR3.out Tryd.underlying35 rfl HI3.out ?_; clear HR3)
        | (go_at_call 17; refine HSC.out.mono ?_; clear HSC; rintro e U9 ⟨rfl, hU9⟩; have HU9 := Lib.hid hU9; clear hU9))
      go_ret
      exact ⟨rfl, below_then HV.out HU9.out⟩
end Go.Proofs.YtlhgflnmdmifaaaDoor.Wk
