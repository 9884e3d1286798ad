/- NorthJoins: the walk of the statement. -/
import Derived.Test.YtlhgflnmdmifaaaDoorS18
namespace Go.Proofs.YtlhgflnmdmifaaaDoor.Wk
open Go.RowKit PD
def joinF (or : Bool) (f g : Fm) : Fm := if or then North.orJ [f, g] else North.andJ [f, g]
theorem raw_join (or : Bool) (x y : Str) : (⟨#[40]⟩ : ByteArray) ++ mkS x ++ ⟨#[10, 41]⟩ ++ (if or then ⟨#[32, 111, 114, 32]⟩ else ⟨#[32, 97, 110, 100, 32]⟩) ++ (⟨#[40]⟩ ++ mkS y ++ ⟨#[10, 41]⟩) = mkS (North.paren x ++ North.word or ++ North.paren y) := by
  rw [raw_paren, raw_paren]
  cases or with
  | true =>
    simp only [if_true]
    rw [show (⟨#[32, 111, 114, 32]⟩ : ByteArray) = mkS [32, 111, 114, 32] from rfl, mkS_append, mkS_append]
    rfl
  | false =>
    simp only [Bool.false_eq_true, if_false]
    rw [show (⟨#[32, 97, 110, 100, 32]⟩ : ByteArray) = mkS [32, 97, 110, 100, 32] from rfl, mkS_append, mkS_append]
    rfl
theorem raw_not (x : Str) : (⟨#[110, 111, 116, 32]⟩ : ByteArray) ++ (⟨#[40]⟩ ++ mkS x ++ ⟨#[10, 41]⟩) = mkS ([110, 111, 116, 32] ++ North.paren x) := by
  rw [raw_paren, show (⟨#[110, 111, 116, 32]⟩ : ByteArray) = mkS [110, 111, 116, 32] from rfl, mkS_append]
theorem joins_small {x : Str} (h : North.pureB x = true) : (North.pureF x).size ≤ 200 := by
  obtain ⟨hx, h1, h2, h3⟩ := North.pure_is h
  obtain ⟨_, _, hc, _⟩ := North.pure_read hx h1 h2
  rw [h3]
  exact hc.1
theorem alloc_one {w w2 : World} (h : Below w.heap.size w w2) (o : Obj) {f : Fm} {kv : Value} (hk : RepK w2 TT f kv) : Below w.heap.size w (w2.alloc o) ∧ (w2.alloc o).heap[w2.heap.size]? = some o ∧ RepK (w2.alloc o) TT f kv :=
  ⟨below_then h (below_new w2 o), heap_alloc_new w2 o, hk.belowT (below_new w2 o)⟩
theorem two_alloc (w : World) (o o' : Obj) : Below w.heap.size w ((w.alloc o).alloc o') ∧ ((w.alloc o).alloc o').heap[w.heap.size]? = some o ∧ ((w.alloc o).alloc o').heap[w.heap.size + 1]? = some o' := by
  have h := heap_alloc_new (w.alloc o) o'
  rw [World.size_alloc] at h
  exact ⟨below_then (below_new w o) (below_new _ o'), below_blk (below_new _ o') (heap_alloc_new w o), h⟩
set_option maxRecDepth 100000 in
set_option maxHeartbeats 8000000 in
theorem northJoins_calls (x y : Str) (or : Bool) (hx : x.length < 4611686018427387904) (hy : y.length < 4611686018427387904) (w : World) (hm : MaxL w) :
    Calls Tryd.prog 5 #[.string (mkS x), .string (mkS y), .bool or] w fun e w' => e = .returned (.bool true) ∧ Below w.heap.size w w' := by
  have HH := Lib.hid (head_at_ hm w (Below.refl _ _))
  have HX1 := Lib.hid (fun (wx : World) (h : Below w.heap.size w wx) => pure_calls x hx w wx hm h)
  have HY1 := Lib.hid (fun (wx : World) (h : Below w.heap.size w wx) => pure_calls y hy w wx hm h)
  by_cases hall : North.pureB x = true ∧ North.pureB y = true
  · obtain ⟨b1, b2⟩ := hall
    obtain ⟨x1, x2, x3, x4⟩ := North.pure_is b1
    obtain ⟨y1, y2, y3, y4⟩ := North.pure_is b2
    have sx := joins_small b1
    have sy := joins_small b2
    have hone : North.errOf (North.rule (North.paren x)) = 0 ∧ (North.pvOf (North.rule (North.paren x))).when_ = North.pureF x := by
      refine ⟨by rw [North.errOf, x3], ?_⟩
      rw [x4]
      exact North.one_read x1 x2 x3
    have hjo := North.made_ok (North.join_read or x1 y1 x2 x3 y2 y3)
    have hno := North.made_ok (North.not_read x1 x2 x3)
    rw [← x4, ← y4] at hjo
    rw [← x4] at hno
    have hzx := mkS_size x
    have hzy := mkS_size y
    have HP1 := Lib.hid (fun (wx : World) (h : Below w.heap.size w wx) => parse_k hm (North.rule (North.paren x)) (by simp [North.rule, North.paren]; omega) (mkS (North.rule (North.paren x))) rfl wx h)
    have HR1 := Lib.hid (fun (wx : World) => rule_calls (North.paren x) (by simp [North.paren]; omega) wx _ (raw_paren x))
    have hjs : (joinF or (North.pureF x) (North.pureF y)).size ≤ 1000000 := by
      unfold joinF North.orJ North.andJ
      cases or <;> simp only [Fm.size, Fm.sizes, Bool.false_eq_true, if_false, if_true] <;> omega
    have hns : (Fm.mk 5 [] 0 0 [North.pureF x]).size ≤ 1000000 := by
      simp only [Fm.size, Fm.sizes]; omega
    have HM1 := Lib.hid (fun (wx : World) (h : Below w.heap.size w wx) (kf : Value) (hk : RepK wx TT (joinF or (North.pureF x) (North.pureF y)) kf) => made_calls (North.paren x ++ North.word or ++ North.paren y) (by cases or <;> simp [North.paren, North.word] <;> omega) _ (raw_join or x y) _ hjs hjo w wx hm h kf hk)
    have HM2 := Lib.hid (fun (wx : World) (h : Below w.heap.size w wx) (kf : Value) (hk : RepK wx TT (Fm.mk 5 [] 0 0 [North.pureF x]) kf) => made_calls ([110, 111, 116, 32] ++ North.paren x) (by simp [North.paren]; omega) _ (raw_not x) _ hns hno w wx hm h kf hk)
    obtain ⟨he, hwf⟩ := hone
    rw [b1] at HX1
    rw [b2] at HY1
    clear b1 b2 x2 x3 x4 y2 y3 y4 sx sy hjo hno hjs hns hm
    generalize North.pureF x = F at *
    generalize North.pureF y = G at *
    rw [he] at HP1
    clear he
    generalize North.atOf (North.rule (North.paren x)) = A1 at *
    generalize North.pvOf (North.rule (North.paren x)) = pv at *
    have HSF := Lib.hid (fun (wx : World) (k k' : Value) (h : RepK wx TT F k) (h' : RepK wx TT F k') => sameF F F true (by simp) wx k k' h h')
    obtain ⟨fo, fn, fc, fm, fks⟩ := F
    obtain ⟨go, gn, gc, gm, gks⟩ := G
    obtain ⟨id, rank, kind, nm, value, ⟨wo, wn, wcm, wm, wks⟩, ec, ⟨bo, bn, bm, bks⟩, ⟨eo, en, em, eks⟩, ⟨ao, an, am, aks⟩⟩ := pv
    try simp only at hwf
    cases hwf
    unfold FmV at HX1 HY1 HSF
    simp only [FmC] at HX1 HY1 HSF
    cases or with
    | false =>
      simp only [reduceIte, Bool.false_eq_true] at HM1
      go_enter Tryd.func5, Tryd.ntmps5
      go_upto_region 2 with (go_at_call 14; refine HH.out.mono ?_; clear HH; rintro e w1 ⟨rfl, hB1⟩; have HB1 := Lib.hid hB1; clear hB1)
      go_upto_region 3 with (go_at_call 18; refine (HX1.out _ HB1.out).mono ?_; clear HX1; rintro e w2 ⟨hB2, kv, rfl, hk⟩; obtain ⟨kA, kc, rfl, -⟩ := hk.slice; have HX := Lib.hid (below_then HB1.out hB2); have HK := Lib.hid hk; clear hB2 hk)
      obtain ⟨hb2, hz2, hk2⟩ := alloc_one HX.out (.cells #[.int .i64 fo, .string (mkS fn), .int .i64 fc, .int .i64 fm, .slice kA fks.length kc] 29) HK.out
      generalize w2.alloc (.cells #[.int .i64 fo, .string (mkS fn), .int .i64 fc, .int .i64 fm, .slice kA fks.length kc] 29) = W2 at *
      generalize w2.heap.size = n2 at *
      have HZ2 := Lib.hid hz2
      have HB2 := Lib.hid hb2
      have HK := Lib.hid hk2
      clear hz2 hb2 hk2 HX HB1
      go_upto_region 4 with (go_at_call 18; refine (HY1.out _ HB2.out).mono ?_; clear HY1; rintro e w3 ⟨hB3, kv, rfl, hk⟩; obtain ⟨lA, lc, rfl, -⟩ := hk.slice; have HX := Lib.hid hB3; have HL := Lib.hid hk; clear hB3 hk)
      have hk3 := (HK.out.belowT HX.out).belowT (below_new w3 (.cells #[.int .i64 go, .string (mkS gn), .int .i64 gc, .int .i64 gm, .slice lA gks.length lc] 29))
      have hz23 := below_blk (below_new w3 (.cells #[.int .i64 go, .string (mkS gn), .int .i64 gc, .int .i64 gm, .slice lA gks.length lc] 29)) (below_blk HX.out HZ2.out)
      obtain ⟨hb3, hz3, hl3⟩ := alloc_one (below_then HB2.out HX.out) (.cells #[.int .i64 go, .string (mkS gn), .int .i64 gc, .int .i64 gm, .slice lA gks.length lc] 29) HL.out
      generalize w3.alloc (.cells #[.int .i64 go, .string (mkS gn), .int .i64 gc, .int .i64 gm, .slice lA gks.length lc] 29) = W3 at *
      generalize w3.heap.size = n3' at *
      have HZ3 := Lib.hid hz3
      have HB3 := Lib.hid hb3
      have HK := Lib.hid hk3
      have HL := Lib.hid hl3
      obtain ⟨⟨d0, d1, d2, d3, d4⟩, -, hlt2⟩ := blk5 hz23
      have HZ2 := Lib.hid hz23
      clear hz3 hb3 hk3 hl3 hz23 HX HB2
      go_upto_region 9 with fail
      obtain ⟨⟨c0, c1, c2, c3, c4⟩, -, hlt3⟩ := blk5 HZ3.out
      go_upto_region 10 with fail
      obtain ⟨hb4, hz4, hz5⟩ := two_alloc W3 (.cells #[.int .i64 fo, .string (mkS fn), .int .i64 fc, .int .i64 fm, .slice kA fks.length kc, .int .i64 go, .string (mkS gn), .int .i64 gc, .int .i64 gm, .slice lA gks.length lc] 29) (.cells #[.int .i64 6, .string ⟨#[]⟩, .int .i64 0, .int .i64 0, .slice (some ⟨W3.heap.size, 0, none⟩) 2 2] 29)
      clear d0 d1 d2 d3 d4 c0 c1 c2 c3 c4 hlt2 hlt3
      change Code.wp _ _ _ _ ((W3.alloc (.cells #[.int .i64 fo, .string (mkS fn), .int .i64 fc, .int .i64 fm, .slice kA fks.length kc, .int .i64 go, .string (mkS gn), .int .i64 gc, .int .i64 gm, .slice lA gks.length lc] 29)).alloc (.cells #[.int .i64 6, .string ⟨#[]⟩, .int .i64 0, .int .i64 0, .slice (some ⟨W3.heap.size, 0, none⟩) 2 2] 29))
      generalize (W3.alloc (.cells #[.int .i64 fo, .string (mkS fn), .int .i64 fc, .int .i64 fm, .slice kA fks.length kc, .int .i64 go, .string (mkS gn), .int .i64 gc, .int .i64 gm, .slice lA gks.length lc] 29)).alloc (.cells #[.int .i64 6, .string ⟨#[]⟩, .int .i64 0, .int .i64 0, .slice (some ⟨W3.heap.size, 0, none⟩) 2 2] 29) = W4 at *
      generalize hn3 : W3.heap.size = n3 at *
      have HN3 := Lib.hid hn3
      clear hn3
      have hb4 : Below W3.heap.size W3 W4 := by rw [HN3.out]; exact hb4
      have HB4 := Lib.hid hb4
      have HZ4 := Lib.hid hz4
      have HZ5 := Lib.hid hz5
      clear hb4 hz4 hz5
      go_upto_region 13 with fail
      have hb4 := HB4.out
      have hz4 := HZ4.out
      have hz5 := HZ5.out
      clear HB4 HZ4 HZ5
      have hk4 := HK.out.belowT hb4
      have hl4 := HL.out.belowT hb4
      have hrepJ : RepK W4 TT (.mk 6 [] 0 0 [.mk fo fn fc fm fks, .mk go gn gc gm gks]) (.slice (some ⟨n3, 0, none⟩) 2 2) := repK_kids 6 [] 0 0 (row2 hz4 hk4 hl4) (Nat.le_refl _) (by decide)
      have hz24 := below_blk hb4 HZ2.out
      have HB4 := Lib.hid (below_then HB3.out hb4)
      have HJ := Lib.hid hrepJ
      have HK := Lib.hid hk4
      have HZ5 := Lib.hid hz5
      obtain ⟨⟨d0, d1, d2, d3, d4⟩, -, hlt2⟩ := blk5 hz24
      have HZ2 := Lib.hid hz24
      clear hb4 hz4 hz5 hk4 hl4 hrepJ hz24 HL HB3 HZ3
      go_upto_region 14 with fail
      obtain ⟨hb5, hz6, hz7⟩ := two_alloc W4 (.cells #[.int .i64 fo, .string (mkS fn), .int .i64 fc, .int .i64 fm, .slice kA fks.length kc] 29) (.cells #[.int .i64 5, .string ⟨#[]⟩, .int .i64 0, .int .i64 0, .slice (some ⟨W4.heap.size, 0, none⟩) 1 1] 29)
      clear d0 d1 d2 d3 d4 hlt2
      change Code.wp _ _ _ _ ((W4.alloc (.cells #[.int .i64 fo, .string (mkS fn), .int .i64 fc, .int .i64 fm, .slice kA fks.length kc] 29)).alloc (.cells #[.int .i64 5, .string ⟨#[]⟩, .int .i64 0, .int .i64 0, .slice (some ⟨W4.heap.size, 0, none⟩) 1 1] 29))
      have hk5 := HK.out.belowT hb5
      have hrepN : RepK ((W4.alloc (.cells #[.int .i64 fo, .string (mkS fn), .int .i64 fc, .int .i64 fm, .slice kA fks.length kc] 29)).alloc (.cells #[.int .i64 5, .string ⟨#[]⟩, .int .i64 0, .int .i64 0, .slice (some ⟨W4.heap.size, 0, none⟩) 1 1] 29)) TT (.mk 5 [] 0 0 [.mk fo fn fc fm fks]) (.slice (some ⟨W4.heap.size, 0, none⟩) 1 1) := repK_kids 5 [] 0 0 (row1 hz6 hk5) (Nat.le_refl _) (by decide)
      have hj5 := HJ.out.belowT hb5
      have hz25 := below_blk hb5 HZ2.out
      have hz55 := below_blk hb5 HZ5.out
      have HB5 := Lib.hid (below_then HB4.out hb5)
      generalize (W4.alloc (.cells #[.int .i64 fo, .string (mkS fn), .int .i64 fc, .int .i64 fm, .slice kA fks.length kc] 29)).alloc (.cells #[.int .i64 5, .string ⟨#[]⟩, .int .i64 0, .int .i64 0, .slice (some ⟨W4.heap.size, 0, none⟩) 1 1] 29) = W5 at *
      generalize W4.heap.size = n5 at *
      have HK := Lib.hid hk5
      have HJ := Lib.hid hj5
      have HN := Lib.hid hrepN
      have HZ2 := Lib.hid hz25
      have HZ5 := Lib.hid hz55
      have HZ7 := Lib.hid hz7
      clear hb5 hz6 hz7 hk5 hrepN hj5 hz25 hz55 HB4
      go_upto_region 15 with (first
        | (go_at_call 19; refine (HR1.out _).mono ?_; clear HR1; rintro e w' ⟨rfl, rfl⟩)
        | (go_at_call 16; refine (HP1.out _ HB5.out).mono ?_; clear HP1; rintro e w6 ⟨hB6, wk, ex, bk, ek, ak, rfl, hz, hone, hp⟩; have HZ := Lib.hid (heap_alloc_new w6 zeroP); have HX := Lib.hid hB6; have HONE := Lib.hid hone; have HREP := Lib.hid hp; clear hB6 hp hone)
        | (refine wpList_store_row rfl 35 _ _ rfl w6.heap.size (pvC ⟨id, rank, kind, nm, value, .mk fo fn fc fm fks, ec, .mk bo bn bm bks, .mk eo en em eks, .mk ao an am aks⟩ wk ex bk ek ak).toArray rfl rfl 35 (pvC (North.pv0 North.fm00) nilS nilS nilS nilS nilS).toArray HZ.out (by rw [hz]; exact info_Provision) (by rw [hz]; rfl) HONE.out ?_))
      have hrep0 := HREP.out
      try simp only at hrep0
      obtain ⟨wA, wcc, rfl, -⟩ := hrep0.slice
      obtain ⟨hv6, hx6, hc6⟩ := var_put HX.out (pvC ⟨id, rank, kind, nm, value, .mk fo fn fc fm fks, ec, .mk bo bn bm bks, .mk eo en em eks, .mk ao an am aks⟩ (.slice wA fks.length wcc) ex bk ek ak).toArray
      have hpv := hrep0.all.belowT hx6
      change Code.wp _ _ _ _ ((w6.alloc zeroP).setRow w6.heap.size (pvC ⟨id, rank, kind, nm, value, .mk fo fn fc fm fks, ec, .mk bo bn bm bks, .mk eo en em eks, .mk ao an am aks⟩ (.slice wA fks.length wcc) ex bk ek ak).toArray)
      generalize (w6.alloc zeroP).setRow w6.heap.size (pvC ⟨id, rank, kind, nm, value, .mk fo fn fc fm fks, ec, .mk bo bn bm bks, .mk eo en em eks, .mk ao an am aks⟩ (.slice wA fks.length wcc) ex bk ek ak).toArray = V6 at *
      generalize w6.heap.size = n6 at *
      obtain ⟨-, ⟨c5, c6, c7, c8, c9⟩, -⟩ := pv_facts hc6
      have hbl := cell_lt c5
      obtain ⟨⟨d0, d1, d2, d3, d4⟩, -, hlt2⟩ := blk5 (below_blk hv6 HZ2.out)
      have HCS := Lib.hid (HSF.out V6 _ _ hpv (HK.out.belowT hv6))
      have HV6 := Lib.hid (below_then HB5.out hv6)
      have HJ := Lib.hid (HJ.out.belowT hv6)
      have HN := Lib.hid (HN.out.belowT hv6)
      have HZ5 := Lib.hid (below_blk hv6 HZ5.out)
      have HZ7 := Lib.hid (below_blk hv6 HZ7.out)
      clear hv6 hx6 hc6 hpv hrep0 HX HZ HONE hz HREP HSF HZ2 HK HB5
      go_upto_region 17 with (go_at_call 20; refine HCS.out.mono ?_; clear HCS; rintro e w7 ⟨rfl, hB7⟩; have HB7 := Lib.hid hB7; clear hB7)
      clear c5 c6 c7 c8 c9 d0 d1 d2 d3 d4 hlt2 hbl
      have hb7 := below_then HV6.out HB7.out
      have hm1 := HM1.out w7 hb7 _ (HJ.out.belowT HB7.out)
      have HMM := Lib.hid (fun (wx : World) (h : Below w7.heap.size w7 wx) => HM2.out wx (below_then hb7 h) _ ((HN.out.belowT HB7.out).belowT h))
      obtain ⟨⟨d0, d1, d2, d3, d4⟩, -, hlt2⟩ := blk5 (below_blk HB7.out HZ5.out)
      obtain ⟨⟨c0, c1, c2, c3, c4⟩, -, hlt3⟩ := blk5 (below_blk HB7.out HZ7.out)
      have HM1 := Lib.hid (show Calls Tryd.prog 21 #[_, .agg #[.int .i64 6, .string ⟨#[]⟩, .int .i64 0, .int .i64 0, .slice (some ⟨n3, 0, none⟩) 2 2]] w7 _ from hm1)
      have HM2 := Lib.hid (fun (wx : World) (h : Below w7.heap.size w7 wx) => show Calls Tryd.prog 21 #[_, .agg #[.int .i64 5, .string ⟨#[]⟩, .int .i64 0, .int .i64 0, .slice (some ⟨n5, 0, none⟩) 1 1]] wx _ from HMM.out wx h)
      have HB7 := Lib.hid hb7
      clear hm1 HMM hb7 HJ HN HZ5 HZ7 HV6
      go_wp2_with (first
        | (go_at_call 21; refine HM1.out.mono ?_; clear HM1; rintro e w8 ⟨rfl, hB8⟩; have c0 := below_cell hB8 c0; have c1 := below_cell hB8 c1; have c2 := below_cell hB8 c2; have c3 := below_cell hB8 c3; have c4 := below_cell hB8 c4; have hlt3 := Nat.lt_of_lt_of_le hlt3 hB8.size; have HB8 := Lib.hid hB8; clear hB8)
        | (go_at_call 21; refine (HM2.out _ HB8.out).mono ?_; clear HM2; rintro e w9 ⟨rfl, hB9⟩; have HB9 := Lib.hid (below_then HB8.out hB9); clear hB9))
      go_ret
      exact ⟨rfl, below_then HB7.out HB9.out⟩
    | true =>
      simp only [reduceIte] at HM1
      go_enter Tryd.func5, Tryd.ntmps5
      go_upto_region 2 with (go_at_call 14; refine HH.out.mono ?_; clear HH; rintro e w1 ⟨rfl, hB1⟩; have HB1 := Lib.hid hB1; clear hB1)
      go_upto_region 3 with (go_at_call 18; refine (HX1.out _ HB1.out).mono ?_; clear HX1; rintro e w2 ⟨hB2, kv, rfl, hk⟩; obtain ⟨kA, kc, rfl, -⟩ := hk.slice; have HX := Lib.hid (below_then HB1.out hB2); have HK := Lib.hid hk; clear hB2 hk)
      obtain ⟨hb2, hz2, hk2⟩ := alloc_one HX.out (.cells #[.int .i64 fo, .string (mkS fn), .int .i64 fc, .int .i64 fm, .slice kA fks.length kc] 29) HK.out
      generalize w2.alloc (.cells #[.int .i64 fo, .string (mkS fn), .int .i64 fc, .int .i64 fm, .slice kA fks.length kc] 29) = W2 at *
      generalize w2.heap.size = n2 at *
      have HZ2 := Lib.hid hz2
      have HB2 := Lib.hid hb2
      have HK := Lib.hid hk2
      clear hz2 hb2 hk2 HX HB1
      go_upto_region 4 with (go_at_call 18; refine (HY1.out _ HB2.out).mono ?_; clear HY1; rintro e w3 ⟨hB3, kv, rfl, hk⟩; obtain ⟨lA, lc, rfl, -⟩ := hk.slice; have HX := Lib.hid hB3; have HL := Lib.hid hk; clear hB3 hk)
      have hk3 := (HK.out.belowT HX.out).belowT (below_new w3 (.cells #[.int .i64 go, .string (mkS gn), .int .i64 gc, .int .i64 gm, .slice lA gks.length lc] 29))
      have hz23 := below_blk (below_new w3 (.cells #[.int .i64 go, .string (mkS gn), .int .i64 gc, .int .i64 gm, .slice lA gks.length lc] 29)) (below_blk HX.out HZ2.out)
      obtain ⟨hb3, hz3, hl3⟩ := alloc_one (below_then HB2.out HX.out) (.cells #[.int .i64 go, .string (mkS gn), .int .i64 gc, .int .i64 gm, .slice lA gks.length lc] 29) HL.out
      generalize w3.alloc (.cells #[.int .i64 go, .string (mkS gn), .int .i64 gc, .int .i64 gm, .slice lA gks.length lc] 29) = W3 at *
      generalize w3.heap.size = n3' at *
      have HZ3 := Lib.hid hz3
      have HB3 := Lib.hid hb3
      have HK := Lib.hid hk3
      have HL := Lib.hid hl3
      obtain ⟨⟨d0, d1, d2, d3, d4⟩, -, hlt2⟩ := blk5 hz23
      have HZ2 := Lib.hid hz23
      clear hz3 hb3 hk3 hl3 hz23 HX HB2
      go_upto_region 9 with fail
      obtain ⟨⟨c0, c1, c2, c3, c4⟩, -, hlt3⟩ := blk5 HZ3.out
      go_upto_region 10 with fail
      obtain ⟨hb4, hz4, hz5⟩ := two_alloc W3 (.cells #[.int .i64 fo, .string (mkS fn), .int .i64 fc, .int .i64 fm, .slice kA fks.length kc, .int .i64 go, .string (mkS gn), .int .i64 gc, .int .i64 gm, .slice lA gks.length lc] 29) (.cells #[.int .i64 6, .string ⟨#[]⟩, .int .i64 0, .int .i64 0, .slice (some ⟨W3.heap.size, 0, none⟩) 2 2] 29)
      clear d0 d1 d2 d3 d4 c0 c1 c2 c3 c4 hlt2 hlt3
      change Code.wp _ _ _ _ ((W3.alloc (.cells #[.int .i64 fo, .string (mkS fn), .int .i64 fc, .int .i64 fm, .slice kA fks.length kc, .int .i64 go, .string (mkS gn), .int .i64 gc, .int .i64 gm, .slice lA gks.length lc] 29)).alloc (.cells #[.int .i64 6, .string ⟨#[]⟩, .int .i64 0, .int .i64 0, .slice (some ⟨W3.heap.size, 0, none⟩) 2 2] 29))
      generalize (W3.alloc (.cells #[.int .i64 fo, .string (mkS fn), .int .i64 fc, .int .i64 fm, .slice kA fks.length kc, .int .i64 go, .string (mkS gn), .int .i64 gc, .int .i64 gm, .slice lA gks.length lc] 29)).alloc (.cells #[.int .i64 6, .string ⟨#[]⟩, .int .i64 0, .int .i64 0, .slice (some ⟨W3.heap.size, 0, none⟩) 2 2] 29) = W4 at *
      generalize hn3 : W3.heap.size = n3 at *
      have HN3 := Lib.hid hn3
      clear hn3
      have hlt4 := heap_lt hz5
      obtain ⟨⟨c0, c1, c2, c3, c4⟩, ⟨f0, -, -, -, -⟩, -⟩ := blk5 hz5
      have HB4 := Lib.hid hb4
      have HZ4 := Lib.hid hz4
      have HZ5 := Lib.hid hz5
      clear hb4 hz4 hz5
      go_upto_region 13 with fail
      change Code.wp _ _ _ _ (W4.setCell ⟨n3 + 1, 0, none⟩ (.int .i64 7))
      have hkp : Keep (n3 + 1) W4 (W4.setCell ⟨n3 + 1, 0, none⟩ (.int .i64 7)) := (Keep.refl _ _).set 0 _
      have hz5 : (W4.setCell ⟨n3 + 1, 0, none⟩ (.int .i64 7)).heap[n3 + 1]? = some (.cells #[.int .i64 7, .string ⟨#[]⟩, .int .i64 0, .int .i64 0, .slice (some ⟨n3, 0, none⟩) 2 2] 29 (0, 0)) := blk_set HZ5.out 0 _
      have hz4 := hkp.blk HZ4.out (by omega)
      have hb4 := Keep.weak (by rw [HN3.out]; exact HB4.out : Below W3.heap.size W3 W4) hkp (by rw [HN3.out]; omega)
      clear c0 c1 c2 c3 c4 f0 hlt4 HB4 HZ4 HZ5 hkp
      generalize W4.setCell ⟨n3 + 1, 0, none⟩ (.int .i64 7) = W4 at *
      have hk4 := HK.out.belowT hb4
      have hl4 := HL.out.belowT hb4
      have hrepJ : RepK W4 TT (.mk 7 [] 0 0 [.mk fo fn fc fm fks, .mk go gn gc gm gks]) (.slice (some ⟨n3, 0, none⟩) 2 2) := repK_kids 7 [] 0 0 (row2 hz4 hk4 hl4) (Nat.le_refl _) (by decide)
      have hz24 := below_blk hb4 HZ2.out
      have HB4 := Lib.hid (below_then HB3.out hb4)
      have HJ := Lib.hid hrepJ
      have HK := Lib.hid hk4
      have HZ5 := Lib.hid hz5
      obtain ⟨⟨d0, d1, d2, d3, d4⟩, -, hlt2⟩ := blk5 hz24
      have HZ2 := Lib.hid hz24
      clear hb4 hz4 hz5 hk4 hl4 hrepJ hz24 HL HB3 HZ3
      go_upto_region 14 with fail
      obtain ⟨hb5, hz6, hz7⟩ := two_alloc W4 (.cells #[.int .i64 fo, .string (mkS fn), .int .i64 fc, .int .i64 fm, .slice kA fks.length kc] 29) (.cells #[.int .i64 5, .string ⟨#[]⟩, .int .i64 0, .int .i64 0, .slice (some ⟨W4.heap.size, 0, none⟩) 1 1] 29)
      clear d0 d1 d2 d3 d4 hlt2
      change Code.wp _ _ _ _ ((W4.alloc (.cells #[.int .i64 fo, .string (mkS fn), .int .i64 fc, .int .i64 fm, .slice kA fks.length kc] 29)).alloc (.cells #[.int .i64 5, .string ⟨#[]⟩, .int .i64 0, .int .i64 0, .slice (some ⟨W4.heap.size, 0, none⟩) 1 1] 29))
      have hk5 := HK.out.belowT hb5
      have hrepN : RepK ((W4.alloc (.cells #[.int .i64 fo, .string (mkS fn), .int .i64 fc, .int .i64 fm, .slice kA fks.length kc] 29)).alloc (.cells #[.int .i64 5, .string ⟨#[]⟩, .int .i64 0, .int .i64 0, .slice (some ⟨W4.heap.size, 0, none⟩) 1 1] 29)) TT (.mk 5 [] 0 0 [.mk fo fn fc fm fks]) (.slice (some ⟨W4.heap.size, 0, none⟩) 1 1) := repK_kids 5 [] 0 0 (row1 hz6 hk5) (Nat.le_refl _) (by decide)
      have hj5 := HJ.out.belowT hb5
      have hz25 := below_blk hb5 HZ2.out
      have hz55 := below_blk hb5 HZ5.out
      have HB5 := Lib.hid (below_then HB4.out hb5)
      generalize (W4.alloc (.cells #[.int .i64 fo, .string (mkS fn), .int .i64 fc, .int .i64 fm, .slice kA fks.length kc] 29)).alloc (.cells #[.int .i64 5, .string ⟨#[]⟩, .int .i64 0, .int .i64 0, .slice (some ⟨W4.heap.size, 0, none⟩) 1 1] 29) = W5 at *
      generalize W4.heap.size = n5 at *
      have HK := Lib.hid hk5
      have HJ := Lib.hid hj5
      have HN := Lib.hid hrepN
      have HZ2 := Lib.hid hz25
      have HZ5 := Lib.hid hz55
      have HZ7 := Lib.hid hz7
      clear hb5 hz6 hz7 hk5 hrepN hj5 hz25 hz55 HB4
      go_upto_region 15 with (first
        | (go_at_call 19; refine (HR1.out _).mono ?_; clear HR1; rintro e w' ⟨rfl, rfl⟩)
        | (go_at_call 16; refine (HP1.out _ HB5.out).mono ?_; clear HP1; rintro e w6 ⟨hB6, wk, ex, bk, ek, ak, rfl, hz, hone, hp⟩; have HZ := Lib.hid (heap_alloc_new w6 zeroP); have HX := Lib.hid hB6; have HONE := Lib.hid hone; have HREP := Lib.hid hp; clear hB6 hp hone)
        | (refine wpList_store_row rfl 35 _ _ rfl w6.heap.size (pvC ⟨id, rank, kind, nm, value, .mk fo fn fc fm fks, ec, .mk bo bn bm bks, .mk eo en em eks, .mk ao an am aks⟩ wk ex bk ek ak).toArray rfl rfl 35 (pvC (North.pv0 North.fm00) nilS nilS nilS nilS nilS).toArray HZ.out (by rw [hz]; exact info_Provision) (by rw [hz]; rfl) HONE.out ?_))
      have hrep0 := HREP.out
      try simp only at hrep0
      obtain ⟨wA, wcc, rfl, -⟩ := hrep0.slice
      obtain ⟨hv6, hx6, hc6⟩ := var_put HX.out (pvC ⟨id, rank, kind, nm, value, .mk fo fn fc fm fks, ec, .mk bo bn bm bks, .mk eo en em eks, .mk ao an am aks⟩ (.slice wA fks.length wcc) ex bk ek ak).toArray
      have hpv := hrep0.all.belowT hx6
      change Code.wp _ _ _ _ ((w6.alloc zeroP).setRow w6.heap.size (pvC ⟨id, rank, kind, nm, value, .mk fo fn fc fm fks, ec, .mk bo bn bm bks, .mk eo en em eks, .mk ao an am aks⟩ (.slice wA fks.length wcc) ex bk ek ak).toArray)
      generalize (w6.alloc zeroP).setRow w6.heap.size (pvC ⟨id, rank, kind, nm, value, .mk fo fn fc fm fks, ec, .mk bo bn bm bks, .mk eo en em eks, .mk ao an am aks⟩ (.slice wA fks.length wcc) ex bk ek ak).toArray = V6 at *
      generalize w6.heap.size = n6 at *
      obtain ⟨-, ⟨c5, c6, c7, c8, c9⟩, -⟩ := pv_facts hc6
      have hbl := cell_lt c5
      obtain ⟨⟨d0, d1, d2, d3, d4⟩, -, hlt2⟩ := blk5 (below_blk hv6 HZ2.out)
      have HCS := Lib.hid (HSF.out V6 _ _ hpv (HK.out.belowT hv6))
      have HV6 := Lib.hid (below_then HB5.out hv6)
      have HJ := Lib.hid (HJ.out.belowT hv6)
      have HN := Lib.hid (HN.out.belowT hv6)
      have HZ5 := Lib.hid (below_blk hv6 HZ5.out)
      have HZ7 := Lib.hid (below_blk hv6 HZ7.out)
      clear hv6 hx6 hc6 hpv hrep0 HX HZ HONE hz HREP HSF HZ2 HK HB5
      go_upto_region 17 with (go_at_call 20; refine HCS.out.mono ?_; clear HCS; rintro e w7 ⟨rfl, hB7⟩; have HB7 := Lib.hid hB7; clear hB7)
      clear c5 c6 c7 c8 c9 d0 d1 d2 d3 d4 hlt2 hbl
      have hb7 := below_then HV6.out HB7.out
      have hm1 := HM1.out w7 hb7 _ (HJ.out.belowT HB7.out)
      have HMM := Lib.hid (fun (wx : World) (h : Below w7.heap.size w7 wx) => HM2.out wx (below_then hb7 h) _ ((HN.out.belowT HB7.out).belowT h))
      obtain ⟨⟨d0, d1, d2, d3, d4⟩, -, hlt2⟩ := blk5 (below_blk HB7.out HZ5.out)
      obtain ⟨⟨c0, c1, c2, c3, c4⟩, -, hlt3⟩ := blk5 (below_blk HB7.out HZ7.out)
      have HM1 := Lib.hid (show Calls Tryd.prog 21 #[_, .agg #[.int .i64 7, .string ⟨#[]⟩, .int .i64 0, .int .i64 0, .slice (some ⟨n3, 0, none⟩) 2 2]] w7 _ from hm1)
      have HM2 := Lib.hid (fun (wx : World) (h : Below w7.heap.size w7 wx) => show Calls Tryd.prog 21 #[_, .agg #[.int .i64 5, .string ⟨#[]⟩, .int .i64 0, .int .i64 0, .slice (some ⟨n5, 0, none⟩) 1 1]] wx _ from HMM.out wx h)
      have HB7 := Lib.hid hb7
      clear hm1 HMM hb7 HJ HN HZ5 HZ7 HV6
      go_wp2_with (first
        | (go_at_call 21; refine HM1.out.mono ?_; clear HM1; rintro e w8 ⟨rfl, hB8⟩; have c0 := below_cell hB8 c0; have c1 := below_cell hB8 c1; have c2 := below_cell hB8 c2; have c3 := below_cell hB8 c3; have c4 := below_cell hB8 c4; have hlt3 := Nat.lt_of_lt_of_le hlt3 hB8.size; have HB8 := Lib.hid hB8; clear hB8)
        | (go_at_call 21; refine (HM2.out _ HB8.out).mono ?_; clear HM2; rintro e w9 ⟨rfl, hB9⟩; have HB9 := Lib.hid (below_then HB8.out hB9); clear hB9))
      go_ret
      exact ⟨rfl, below_then HB7.out HB9.out⟩
  · clear hx hy hm
    generalize North.pureF x = F at *
    generalize North.pureF y = G at *
    generalize North.pureB x = b1 at *
    generalize North.pureB y = b2 at *
    obtain ⟨fo, fn, fc, fm, fks⟩ := F
    obtain ⟨go, gn, gc, gm, gks⟩ := G
    unfold FmV at HX1 HY1
    simp only [FmC] at HX1 HY1
    cases b1 with
    | false =>
      clear hall
      go_enter Tryd.func5, Tryd.ntmps5
      go_upto_region 2 with (go_at_call 14; refine HH.out.mono ?_; clear HH; rintro e w1 ⟨rfl, hB1⟩; have HB1 := Lib.hid hB1; clear hB1)
      go_upto_region 3 with (go_at_call 18; refine (HX1.out _ HB1.out).mono ?_; clear HX1; rintro e w2 ⟨hB2, kv, rfl, hk⟩; obtain ⟨kA, kc, rfl, -⟩ := hk.slice; have HX := Lib.hid (below_then HB1.out hB2); clear hB2 hk)
      have hb2 := below_then HX.out (below_new w2 (.cells #[.int .i64 fo, .string (mkS fn), .int .i64 fc, .int .i64 fm, .slice kA fks.length kc] 29))
      generalize w2.alloc (.cells #[.int .i64 fo, .string (mkS fn), .int .i64 fc, .int .i64 fm, .slice kA fks.length kc] 29) = W2 at *
      have HB2 := Lib.hid hb2
      clear hb2 HX HB1
      go_upto_region 4 with (go_at_call 18; refine (HY1.out _ HB2.out).mono ?_; clear HY1; rintro e w3 ⟨hB3, kv, rfl, hk⟩; obtain ⟨lA, lc, rfl, -⟩ := hk.slice; have HX := Lib.hid (below_then HB2.out hB3); clear hB3 hk)
      have hb3 := below_then HX.out (below_new w3 (.cells #[.int .i64 go, .string (mkS gn), .int .i64 gc, .int .i64 gm, .slice lA gks.length lc] 29))
      generalize w3.alloc (.cells #[.int .i64 go, .string (mkS gn), .int .i64 gc, .int .i64 gm, .slice lA gks.length lc] 29) = W3 at *
      go_wp2_with fail
      go_ret
      exact ⟨rfl, hb3⟩
    | true =>
      obtain rfl : b2 = false := by
        cases b2 with
        | false => rfl
        | true => exact absurd ⟨rfl, rfl⟩ hall
      clear hall
      go_enter Tryd.func5, Tryd.ntmps5
      go_upto_region 2 with (go_at_call 14; refine HH.out.mono ?_; clear HH; rintro e w1 ⟨rfl, hB1⟩; have HB1 := Lib.hid hB1; clear hB1)
      go_upto_region 3 with (go_at_call 18; refine (HX1.out _ HB1.out).mono ?_; clear HX1; rintro e w2 ⟨hB2, kv, rfl, hk⟩; obtain ⟨kA, kc, rfl, -⟩ := hk.slice; have HX := Lib.hid (below_then HB1.out hB2); clear hB2 hk)
      have hb2 := below_then HX.out (below_new w2 (.cells #[.int .i64 fo, .string (mkS fn), .int .i64 fc, .int .i64 fm, .slice kA fks.length kc] 29))
      generalize w2.alloc (.cells #[.int .i64 fo, .string (mkS fn), .int .i64 fc, .int .i64 fm, .slice kA fks.length kc] 29) = W2 at *
      have HB2 := Lib.hid hb2
      clear hb2 HX HB1
      go_upto_region 4 with (go_at_call 18; refine (HY1.out _ HB2.out).mono ?_; clear HY1; rintro e w3 ⟨hB3, kv, rfl, hk⟩; obtain ⟨lA, lc, rfl, -⟩ := hk.slice; have HX := Lib.hid (below_then HB2.out hB3); clear hB3 hk)
      have hb3 := below_then HX.out (below_new w3 (.cells #[.int .i64 go, .string (mkS gn), .int .i64 gc, .int .i64 gm, .slice lA gks.length lc] 29))
      generalize w3.alloc (.cells #[.int .i64 go, .string (mkS gn), .int .i64 gc, .int .i64 gm, .slice lA gks.length lc] 29) = W3 at *
      go_wp2_with fail
      go_ret
      exact ⟨rfl, hb3⟩
end Go.Proofs.YtlhgflnmdmifaaaDoor.Wk
