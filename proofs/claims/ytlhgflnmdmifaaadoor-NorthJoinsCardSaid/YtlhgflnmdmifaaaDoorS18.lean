/- NorthJoins: the walk, joined. -/
import Derived.Test.YtlhgflnmdmifaaaDoorS17
import Derived.Test.YtlhgflnmdmifaaaDoorSB
namespace Go.Proofs.YtlhgflnmdmifaaaDoor.Wk
open Go.RowKit PD
set_option maxRecDepth 100000 in
set_option maxHeartbeats 4000000 in
theorem made_calls (c : Str) (hc : c.length < 1000000000000) (arr : ByteArray) (ea : arr = mkS c) (f : Fm) (hf : f.size ≤ 1000000) (hok : North.MadeOk c f) (w0 w : World) (hm : MaxL w0) (hw : Below w0.heap.size w0 w) (kf : Value) (hk : RepK w TT f kf) :
    Calls Tryd.prog 21 #[.string arr, FmV f kf] w fun e w' => e = .returned (.bool true) ∧ Below w.heap.size w w' := by
  have HR1 := Lib.hid (fun (wx : World) => rule_calls c (by omega) wx arr ea)
  have HP1 := Lib.hid (fun (wx : World) (h : Below w0.heap.size w0 wx) => parse_k hm (North.rule c) (by simp [North.rule]; omega) (mkS (North.rule c)) rfl wx h)
  have HS1 := Lib.hid (fun (wx : World) (k : Value) (h : RepK wx TT f k) => sizeF f hf wx k h)
  have hsame := fun (g : Fm) (hg : g = f) (wx : World) (k k' : Value) (h : RepK wx TT g k) (h' : RepK wx TT f k') => sameF g f true (by simp [hg]) wx k k' h h'
  obtain ⟨ok1, ok2⟩ := hok
  generalize North.errOf (North.rule c) = E1 at *
  generalize North.atOf (North.rule c) = A1 at *
  generalize North.pvOf (North.rule c) = pv at *
  have hsd : f.size ≤ 1000000 ∧ f.depth ≤ f.size := ⟨hf, Fm.depth_le f⟩
  obtain ⟨fo, fn, fc, fm, fks⟩ := f
  obtain ⟨kA, kc, rfl, -⟩ := hk.slice
  have HW0 := Lib.hid hw
  have HK := Lib.hid hk
  have HSAME := Lib.hid hsame
  clear hm hw hk ea hf hsame
  unfold FmV at HS1 HSAME ⊢
  simp only [FmC] at HS1 HSAME ⊢
  by_cases hlim : (Fm.mk fo fn fc fm fks).depth > 20 ∨ (Fm.mk fo fn fc fm fks).size > 200
  · obtain ⟨rfl, rfl⟩ := ok2 hlim
    generalize (Fm.mk fo fn fc fm fks).size = FS at *
    generalize (Fm.mk fo fn fc fm fks).depth = FD at *
    have hl1 : 200 < FS ∨ (FS ≤ 200 ∧ 20 < FD) := by omega
    clear hlim ok1 ok2 HSAME
    obtain ⟨hs0, hs1⟩ := hsd
    rcases hl1 with hl1 | ⟨hl1, hl2⟩
    · have hq1 : (200 : Int) < (FS : Int) := by omega
      clear hl1
      go_enter Tryd.func21, Tryd.ntmps21
      go_upto_region 1 with fail
      have hB0 := below_new w (.cells #[.int .i64 fo, .string (mkS fn), .int .i64 fc, .int .i64 fm, .slice kA fks.length kc] 29)
      have hz := heap_alloc_new w (.cells #[.int .i64 fo, .string (mkS fn), .int .i64 fc, .int .i64 fm, .slice kA fks.length kc] 29)
      generalize w.alloc (.cells #[.int .i64 fo, .string (mkS fn), .int .i64 fc, .int .i64 fm, .slice kA fks.length kc] 29) = W1 at *
      have HB0 := Lib.hid hB0
      have HZ0 := Lib.hid hz
      have HK := Lib.hid (HK.out.belowT hB0)
      have HBW := Lib.hid (below_then HW0.out hB0)
      clear hB0 hz
      go_upto_region 2 with (first
        | (go_at_call 19; refine (HR1.out _).mono ?_; clear HR1; rintro e w' ⟨rfl, rfl⟩)
        | (go_at_call 16; refine (HP1.out _ HBW.out).mono ?_; clear HP1; rintro e w2 ⟨hB2, wk, ex, bk, ek, ak, rfl, hz, hone, hp⟩; have HZ := Lib.hid (heap_alloc_new w2 zeroP); have HX := Lib.hid hB2; have HONE := Lib.hid hone; have HREP := Lib.hid hp; clear hB2 hp hone)
        | (refine wpList_store_row rfl 35 _ _ rfl w2.heap.size (pvC pv wk ex bk ek ak).toArray rfl rfl 35 (pvC (North.pv0 North.fm00) nilS nilS nilS nilS nilS).toArray HZ.out (by rw [hz]; exact info_Provision) (by rw [hz]; rfl) HONE.out ?_))
      obtain ⟨hv2, hx2, hc2⟩ := var_put HX.out (pvC pv wk ex bk ek ak).toArray
      change Code.wp _ _ _ _ ((w2.alloc zeroP).setRow w2.heap.size (pvC pv wk ex bk ek ak).toArray)
      generalize (w2.alloc zeroP).setRow w2.heap.size (pvC pv wk ex bk ek ak).toArray = V2 at *
      generalize w2.heap.size = n2 at *
      obtain ⟨⟨d0, d1, d2, d3, d4⟩, -, hlt3⟩ := blk5 (below_blk hv2 HZ0.out)
      have HV2 := Lib.hid (below_then HB0.out hv2)
      have HC := Lib.hid (HS1.out V2 _ (HK.out.belowT hv2))
      clear hv2 hx2 hc2 HX HZ HONE hz HREP HS1 HK HBW HB0
      go_wp2_with (go_at_call 26; refine HC.out.mono ?_; clear HC; rintro e w4 ⟨rfl, hB4⟩; have HB4 := Lib.hid hB4; clear hB4)
      go_ret
      exact ⟨rfl, below_then HV2.out HB4.out⟩
    · have hq1 : ¬ (200 : Int) < (FS : Int) := by omega
      have hq2 : (20 : Int) < (FD : Int) := by omega
      clear hl1 hl2
      go_enter Tryd.func21, Tryd.ntmps21
      go_upto_region 1 with fail
      have hB0 := below_new w (.cells #[.int .i64 fo, .string (mkS fn), .int .i64 fc, .int .i64 fm, .slice kA fks.length kc] 29)
      have hz := heap_alloc_new w (.cells #[.int .i64 fo, .string (mkS fn), .int .i64 fc, .int .i64 fm, .slice kA fks.length kc] 29)
      generalize w.alloc (.cells #[.int .i64 fo, .string (mkS fn), .int .i64 fc, .int .i64 fm, .slice kA fks.length kc] 29) = W1 at *
      have HB0 := Lib.hid hB0
      have HZ0 := Lib.hid hz
      have HK := Lib.hid (HK.out.belowT hB0)
      have HBW := Lib.hid (below_then HW0.out hB0)
      clear hB0 hz
      go_upto_region 2 with (first
        | (go_at_call 19; refine (HR1.out _).mono ?_; clear HR1; rintro e w' ⟨rfl, rfl⟩)
        | (go_at_call 16; refine (HP1.out _ HBW.out).mono ?_; clear HP1; rintro e w2 ⟨hB2, wk, ex, bk, ek, ak, rfl, hz, hone, hp⟩; have HZ := Lib.hid (heap_alloc_new w2 zeroP); have HX := Lib.hid hB2; have HONE := Lib.hid hone; have HREP := Lib.hid hp; clear hB2 hp hone)
        | (refine wpList_store_row rfl 35 _ _ rfl w2.heap.size (pvC pv wk ex bk ek ak).toArray rfl rfl 35 (pvC (North.pv0 North.fm00) nilS nilS nilS nilS nilS).toArray HZ.out (by rw [hz]; exact info_Provision) (by rw [hz]; rfl) HONE.out ?_))
      obtain ⟨hv2, hx2, hc2⟩ := var_put HX.out (pvC pv wk ex bk ek ak).toArray
      change Code.wp _ _ _ _ ((w2.alloc zeroP).setRow w2.heap.size (pvC pv wk ex bk ek ak).toArray)
      generalize (w2.alloc zeroP).setRow w2.heap.size (pvC pv wk ex bk ek ak).toArray = V2 at *
      generalize w2.heap.size = n2 at *
      obtain ⟨⟨d0, d1, d2, d3, d4⟩, -, hlt3⟩ := blk5 (below_blk hv2 HZ0.out)
      have HV2 := Lib.hid (below_then HB0.out hv2)
      have HC := Lib.hid (HS1.out V2 _ (HK.out.belowT hv2))
      clear hv2 hx2 hc2 HX HZ HONE hz HREP HS1 HK HBW HB0
      go_wp2_with (go_at_call 26; refine HC.out.mono ?_; clear HC; rintro e w4 ⟨rfl, hB4⟩; have HB4 := Lib.hid hB4; clear hB4)
      go_ret
      exact ⟨rfl, below_then HV2.out HB4.out⟩
  · obtain ⟨rfl, hwf⟩ := ok1 hlim
    have HSS := Lib.hid (HSAME.out (.mk fo fn fc fm fks) rfl)
    generalize (Fm.mk fo fn fc fm fks).size = FS at *
    generalize (Fm.mk fo fn fc fm fks).depth = FD at *
    have hq1 : ¬ (200 : Int) < (FS : Int) := by omega
    have hq2 : ¬ (20 : Int) < (FD : Int) := by omega
    clear hlim ok1 ok2 HSAME hsd
    obtain ⟨id, rank, kind, nm, value, ⟨wo, wn, wcm, wm, wks⟩, ec, ⟨bo, bn, bm, bks⟩, ⟨eo, en, em, eks⟩, ⟨ao, an, am, aks⟩⟩ := pv
    try simp only at hwf
    cases hwf
    go_enter Tryd.func21, Tryd.ntmps21
    go_upto_region 1 with fail
    have hB0 := below_new w (.cells #[.int .i64 fo, .string (mkS fn), .int .i64 fc, .int .i64 fm, .slice kA fks.length kc] 29)
    have hz := heap_alloc_new w (.cells #[.int .i64 fo, .string (mkS fn), .int .i64 fc, .int .i64 fm, .slice kA fks.length kc] 29)
    generalize w.alloc (.cells #[.int .i64 fo, .string (mkS fn), .int .i64 fc, .int .i64 fm, .slice kA fks.length kc] 29) = W1 at *
    have HB0 := Lib.hid hB0
    have HZ0 := Lib.hid hz
    have HK := Lib.hid (HK.out.belowT hB0)
    have HBW := Lib.hid (below_then HW0.out hB0)
    clear hB0 hz
    go_upto_region 2 with (first
      | (go_at_call 19; refine (HR1.out _).mono ?_; clear HR1; rintro e w' ⟨rfl, rfl⟩)
      | (go_at_call 16; refine (HP1.out _ HBW.out).mono ?_; clear HP1; rintro e w2 ⟨hB2, wk, ex, bk, ek, ak, rfl, hz, hone, hp⟩; have HZ := Lib.hid (heap_alloc_new w2 zeroP); have HX := Lib.hid hB2; have HONE := Lib.hid hone; have HREP := Lib.hid hp; clear hB2 hp hone)
      | (refine wpList_store_row rfl 35 _ _ rfl w2.heap.size (pvC ⟨id, rank, kind, nm, value, .mk fo fn fc fm fks, ec, .mk bo bn bm bks, .mk eo en em eks, .mk ao an am aks⟩ wk ex bk ek ak).toArray rfl rfl 35 (pvC (North.pv0 North.fm00) nilS nilS nilS nilS nilS).toArray HZ.out (by rw [hz]; exact info_Provision) (by rw [hz]; rfl) HONE.out ?_))
    have hrep0 := HREP.out
    try simp only at hrep0
    obtain ⟨wA, wcc, rfl, -⟩ := hrep0.slice
    obtain ⟨hv2, hx2, hc2⟩ := var_put HX.out (pvC ⟨id, rank, kind, nm, value, .mk fo fn fc fm fks, ec, .mk bo bn bm bks, .mk eo en em eks, .mk ao an am aks⟩ (.slice wA fks.length wcc) ex bk ek ak).toArray
    have hpv := hrep0.all.belowT hx2
    change Code.wp _ _ _ _ ((w2.alloc zeroP).setRow w2.heap.size (pvC ⟨id, rank, kind, nm, value, .mk fo fn fc fm fks, ec, .mk bo bn bm bks, .mk eo en em eks, .mk ao an am aks⟩ (.slice wA fks.length wcc) ex bk ek ak).toArray)
    generalize (w2.alloc zeroP).setRow w2.heap.size (pvC ⟨id, rank, kind, nm, value, .mk fo fn fc fm fks, ec, .mk bo bn bm bks, .mk eo en em eks, .mk ao an am aks⟩ (.slice wA fks.length wcc) ex bk ek ak).toArray = V2 at *
    generalize w2.heap.size = n2 at *
    obtain ⟨⟨d0, d1, d2, d3, d4⟩, -, hlt3⟩ := blk5 (below_blk hv2 HZ0.out)
    have HZ0 := Lib.hid (below_blk hv2 HZ0.out)
    have hkv := HK.out.belowT hv2
    have HV2 := Lib.hid (below_then HB0.out hv2)
    have HC := Lib.hid (HS1.out V2 _ hkv)
    have HVC := Lib.hid hc2
    have HKV := Lib.hid hkv
    have HPV := Lib.hid hpv
    clear hv2 hx2 hc2 HX HZ HONE hz HREP HS1 HK HBW HB0 hkv hpv hrep0
    go_upto_region 3 with (go_at_call 26; refine HC.out.mono ?_; clear HC; rintro e w4 ⟨rfl, hB4⟩; have HB4 := Lib.hid hB4; clear hB4)
    clear d0 d1 d2 d3 d4 hlt3
    obtain ⟨⟨d0, d1, d2, d3, d4⟩, -, hlt3⟩ := blk5 (below_blk HB4.out HZ0.out)
    obtain ⟨-, ⟨c5, c6, c7, c8, c9⟩, -⟩ := pv_facts (below_blk HB4.out HVC.out)
    have hbl := cell_lt c5
    have HCS := Lib.hid (HSS.out w4 _ _ (HPV.out.belowT HB4.out) (HKV.out.belowT HB4.out))
    go_wp2_with (go_at_call 20; refine HCS.out.mono ?_; clear HCS; rintro e w5 ⟨rfl, hB5⟩; have HB5 := Lib.hid (below_then HB4.out hB5); clear hB5)
    go_ret
    exact ⟨rfl, below_then HV2.out HB5.out⟩
end Go.Proofs.YtlhgflnmdmifaaaDoor.Wk
