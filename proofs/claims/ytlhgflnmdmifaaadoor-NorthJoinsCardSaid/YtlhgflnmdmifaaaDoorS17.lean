/- NorthJoins: the walk. -/
import Derived.Test.YtlhgflnmdmifaaaDoorS15
namespace PD
namespace North
def pureF (x : Str) : Fm := if x.length > 2000 then fm00 else (pvOf (rule x)).when_
def pureB (x : Str) : Bool := if x.length > 2000 then false else (errOf (rule x) == 0 && errOf (rule (paren x)) == 0)
theorem read_of_err {s : Str} (h : errOf s = 0) : read s = .ok (pvOf s) := by
  cases hr : read s with
  | ok p => rw [pvOf, hr]
  | error x =>
    rw [errOf, hr] at h
    exact absurd h (read_bad (e := x.1) (at_ := x.2) (by rw [hr])).1
theorem pure_is {x : Str} (h : pureB x = true) : x.length ≤ 2000 ∧ read (rule x) = .ok (pvOf (rule x)) ∧ read (rule (paren x)) = .ok (pvOf (rule (paren x))) ∧ pureF x = (pvOf (rule x)).when_ := by
  unfold pureB at h
  split at h
  · cases h
  · rename_i hn
    simp only [Bool.and_eq_true, beq_iff_eq] at h
    exact ⟨by omega, read_of_err h.1, read_of_err h.2, by rw [pureF, if_neg hn]⟩
/-- What made asks: the formula, or ErrLimit at the condition. -/
def MadeOk (c : Str) (f : Fm) : Prop := (¬ (f.depth > 20 ∨ f.size > 200) → errOf (rule c) = 0 ∧ (pvOf (rule c)).when_ = f) ∧ (f.depth > 20 ∨ f.size > 200 → errOf (rule c) = 2 ∧ atOf (rule c) = 26)
theorem made_ok {c : Str} {f : Fm} (h : (¬ (f.depth > 20 ∨ f.size > 200) → ∃ p, read (rule c) = .ok p ∧ p.when_ = f) ∧ (f.depth > 20 ∨ f.size > 200 → read (rule c) = .error (2, 26))) : MadeOk c f := by
  refine ⟨fun hn => ?_, fun hn => ?_⟩
  · obtain ⟨p, h1, h2⟩ := h.1 hn
    exact ⟨by rw [errOf, h1], by rw [pvOf, h1]; exact h2⟩
  · have := h.2 hn
    exact ⟨by rw [errOf, this], by rw [atOf, this]⟩
end North
end PD
namespace Go.Proofs.YtlhgflnmdmifaaaDoor.Wk
open Go.RowKit PD
theorem raw_rule (c : Str) : (⟨#[98, 121, 108, 97, 119, 32, 112, 58, 32, 97, 110, 115, 119, 101, 114, 32, 113, 32, 105, 115, 32, 49, 32, 105, 102, 32]⟩ : ByteArray) ++ mkS c ++ ⟨#[10, 46]⟩ = mkS (North.rule c) := by
  rw [show (⟨#[98, 121, 108, 97, 119, 32, 112, 58, 32, 97, 110, 115, 119, 101, 114, 32, 113, 32, 105, 115, 32, 49, 32, 105, 102, 32]⟩ : ByteArray) = mkS [98, 121, 108, 97, 119, 32, 112, 58, 32, 97, 110, 115, 119, 101, 114, 32, 113, 32, 105, 115, 32, 49, 32, 105, 102, 32] from rfl, show (⟨#[10, 46]⟩ : ByteArray) = mkS [10, 46] from rfl, mkS_append, mkS_append]
  rfl
theorem raw_paren (c : Str) : (⟨#[40]⟩ : ByteArray) ++ mkS c ++ ⟨#[10, 41]⟩ = mkS (North.paren c) := by
  rw [show (⟨#[40]⟩ : ByteArray) = mkS [40] from rfl, show (⟨#[10, 41]⟩ : ByteArray) = mkS [10, 41] from rfl, mkS_append, mkS_append]
  rfl
set_option maxRecDepth 100000 in
theorem rule_calls (c : Str) (hc : c.length < 2000000000000) (w : World) (arr : ByteArray) (e : arr = mkS c) :
    Calls Tryd.prog 19 #[.string arr] w fun e w' => e = .returned (.string (mkS (North.rule c))) ∧ w = w' := by
  have hsz := mkS_size c
  have hsa : arr.size = c.length := by rw [e, hsz]
  have E := Lib.hid e
  clear e hsz
  go_enter Tryd.func19, Tryd.ntmps19
  go_wp2_with fail
  go_ret
  exact ⟨by rw [E.out, raw_rule]; rfl, rfl⟩
theorem pvMem_of {w : World} {p : Pv} {wk ex bk ek ak : Value} (h1 : RepK w TT p.when_ wk) (h2 : StrsIn w p.except ex) (h3 : RepKS w TT p.begin_ bk) (h4 : RepKS w TT p.end_ ek) (h5 : RepKS w TT p.again ak) : PvMem w p (.agg (pvC p wk ex bk ek ak).toArray) := ⟨wk, ex, bk, ek, ak, rfl, h1, h2, h3, h4, h5⟩
/-- What north.Parse returns, with the condition in new memory. -/
def ParseK (p : Pv) (er : Nat) (at_ : Int) (w : World) (e : Ending) (w' : World) : Prop :=
  Below w.heap.size w w' ∧ ∃ (wk ex bk ek ak : Value), e = .returned (.tuple #[.agg (pvC p wk ex bk ek ak).toArray, .int .i64 er, .int .i64 at_]) ∧
    (pvC p wk ex bk ek ak).toArray.size = 23 ∧ (pvC p wk ex bk ek ak).toArray.all (·.oneCell') = true ∧ RepK w' (fun b => w.heap.size ≤ b) p.when_ wk
theorem parse_k {w : World} (hm : MaxL w) (s : Str) (hs : s.length < 4611686018427387904) (arr : ByteArray) (ea : arr = mkS s) (wx : World) (hw : Below w.heap.size w wx) :
    Calls Tryd.prog 16 #[.string arr] wx (ParseK (North.pvOf s) (North.errOf s) (North.atOf s) wx) := by
  obtain ⟨m, hm⟩ := hm
  subst ea
  refine (parse_calls s hs wx (below_cell hw hm)).mono ?_
  rintro e w' ⟨hB, h⟩
  refine ⟨hB, ?_⟩
  cases hr : North.read s with
  | ok p =>
    rw [hr] at h
    obtain ⟨v, rfl, hv⟩ := h
    obtain ⟨wk, ex, bk, ek, ak, rfl, h1, h2, h3, h4, h5⟩ := hv
    obtain ⟨CS, e, hz, hone⟩ := pvMem_agg (pvMem_of h1.all (strs_own h2) h3.all h4.all h5.all)
    cases e
    have hp : North.pvOf s = p := by rw [North.pvOf, hr]
    rw [hp]
    exact ⟨wk, ex, bk, ek, ak, by simp [North.errOf, North.atOf, hr], hz, hone, h1.to (fun _ _ _ => rfl) fun b _ hb => Nat.le_trans (by omega) hb.1⟩
  | error x =>
    obtain ⟨er, at_⟩ := x
    rw [hr] at h
    obtain ⟨rfl, _⟩ := h
    have hp : North.pvOf s = North.pz := by rw [North.pvOf, hr]
    rw [hp]
    exact ⟨nilS, nilS, nilS, nilS, nilS, by simp [North.errOf, North.atOf, hr]; rfl, rfl, by simp [pvC, FmC, StC, Value.oneCell', North.pz, North.pv0, North.fm00, North.st00], RepK.leaf _ _ _ _ _ _⟩
/-- A variable of a formula is laid and filled. -/
theorem var5_put (w1 : World) (a b c d e : Value) : Below w1.heap.size w1 (set5 (w1.alloc zeroF) w1.heap.size a b c d e) ∧ (set5 (w1.alloc zeroF) w1.heap.size a b c d e).heap[w1.heap.size]? = some (.cells #[a, b, c, d, e] 29 (0, 0)) :=
  ⟨((Keep.of_below (g := w1.heap.size) (below_new w1 zeroF)).trans (set5_keep _ _ a b c d e)).to_below (Nat.le_refl _), set5_blk (heap_alloc_new w1 zeroF) a b c d e⟩
set_option maxRecDepth 100000 in
set_option maxHeartbeats 4000000 in
theorem pure_calls (x : Str) (hx : x.length < 4611686018427387904) (w0 w : World) (hm : MaxL w0) (hw : Below w0.heap.size w0 w) :
    Calls Tryd.prog 18 #[.string (mkS x)] w fun e w' => Below w.heap.size w w' ∧ ∃ kv, e = .returned (.tuple #[FmV (North.pureF x) kv, .bool (North.pureB x)]) ∧ RepK w' TT (North.pureF x) kv := by
  have hsz := mkS_size x
  have HM0 := Lib.hid hm
  have HW0 := Lib.hid hw
  clear hm hw
  have hz := heap_alloc_new w zeroF
  have hB0 := below_new w zeroF
  have hn0 : w.heap.size < (w.alloc zeroF).heap.size := heap_lt hz
  have HZ0 := Lib.hid hz
  have HB0 := Lib.hid hB0
  clear hz hB0
  by_cases h2 : x.length > 2000
  · have hf : North.pureF x = North.fm00 := by rw [North.pureF, if_pos h2]
    have hb : North.pureB x = false := by rw [North.pureB, if_pos h2]
    rw [hf, hb]
    clear hf hb
    obtain ⟨⟨d0, d1, d2, d3, d4⟩, ⟨e0, e1, e2, e3, e4⟩, hlt3⟩ := blk5 HZ0.out
    unfold zeroF at d0 d1 d2 d3 d4 e0 e1 e2 e3 e4 hlt3
    go_enter Tryd.func18, Tryd.ntmps18
    go_wp2_with fail
    have hB := HB0.out
    unfold zeroF at hB
    obtain ⟨⟨r0, r1, r2, r3, r4⟩, -, -⟩ := blk5 HZ0.out
    unfold zeroF at r0 r1 r2 r3 r4
    exact bodyPost_ret (v := .tuple #[FmV North.fm00 (.slice none 0 0), .bool false]) (by simp [results, Tryd.results18, go_sem, r0, r1, r2, r3, r4, FmV, FmC, North.fm00, mkS]) rfl ⟨hB, _, rfl, RepK.leaf _ _ _ _ _ _⟩
  · have h3 : x.length ≤ 2000 := by omega
    have HR1 := Lib.hid (fun (wx : World) => rule_calls x (by omega) wx (mkS x) rfl)
    have HR2 := Lib.hid (fun (wx : World) => rule_calls (North.paren x) (by simp [North.paren]; omega) wx _ (raw_paren x))
    have HP1 := Lib.hid (fun (wx : World) (h : Below w0.heap.size w0 wx) => parse_k HM0.out (North.rule x) (by simp [North.rule]; omega) (mkS (North.rule x)) rfl wx h)
    have HP2 := Lib.hid (fun (wx : World) (h : Below w0.heap.size w0 wx) => parse_k HM0.out (North.rule (North.paren x)) (by simp [North.rule, North.paren]; omega) (mkS (North.rule (North.paren x))) rfl wx h)
    have hf : North.pureF x = (North.pvOf (North.rule x)).when_ := by rw [North.pureF, if_neg h2]
    have hb : North.pureB x = (North.errOf (North.rule x) == 0 && North.errOf (North.rule (North.paren x)) == 0) := by rw [North.pureB, if_neg h2]
    rw [hf, hb]
    clear hf hb h2
    generalize North.errOf (North.rule x) = E1 at *
    generalize North.errOf (North.rule (North.paren x)) = E2 at *
    generalize North.atOf (North.rule x) = A1 at *
    generalize North.atOf (North.rule (North.paren x)) = A2 at *
    generalize North.pvOf (North.rule x) = pv at *
    generalize North.pvOf (North.rule (North.paren x)) = pv2 at *
    go_enter Tryd.func18, Tryd.ntmps18
    go_upto_region 3 with fail
    change Code.wp _ _ _ _ (w.alloc zeroF)
    generalize w.alloc zeroF = W1 at *
    have HBW := Lib.hid (below_then HW0.out HB0.out)
    go_upto_region 4 with (first
      | (go_at_call 19; refine (HR1.out _).mono ?_; clear HR1; rintro e w' ⟨rfl, rfl⟩)
      | (go_at_call 16; refine (HP1.out _ HBW.out).mono ?_; clear HP1; rintro e w2 ⟨hB2, wk, ex, bk, ek, ak, rfl, hz, hone, hp⟩; have HZ := Lib.hid (heap_alloc_new w2 zeroP); have HX := Lib.hid hB2; have HONE := Lib.hid hone; have HREP := Lib.hid hp; clear hB2 hp hone)
      | (refine wpList_store_row rfl 35 _ _ rfl w2.heap.size (pvC pv wk ex bk ek ak).toArray rfl rfl 35 (pvC (North.pv0 North.fm00) nilS nilS nilS nilS nilS).toArray HZ.out (by rw [hz]; exact info_Provision) (by rw [hz]; rfl) HONE.out ?_))
    obtain ⟨hv2, hx2, hc2⟩ := var_put HX.out (pvC pv wk ex bk ek ak).toArray
    have hrep := HREP.out.to (S' := fun b => W1.heap.size ≤ b) (fun b hb _ => hx2.block b hb) fun b _ hb => hb
    change Code.wp _ _ _ _ ((w2.alloc zeroP).setRow w2.heap.size (pvC pv wk ex bk ek ak).toArray)
    generalize (w2.alloc zeroP).setRow w2.heap.size (pvC pv wk ex bk ek ak).toArray = V2 at *
    generalize w2.heap.size = n2 at *
    have HV2 := Lib.hid hv2
    have HBW2 := Lib.hid (below_then HBW.out hv2)
    have HREP := Lib.hid hrep
    have HVC := Lib.hid hc2
    clear hv2 hx2 hc2 hrep HX HZ HONE hz
    go_upto_region 5 with (first
      | (go_at_call 19; refine (HR2.out _).mono ?_; clear HR2; rintro e w' ⟨rfl, rfl⟩)
      | (go_at_call 16; refine (HP2.out _ HBW2.out).mono ?_; clear HP2; rintro e w3 ⟨hB3, wk', ex', bk', ek', ak', rfl, hz, hone, -⟩; have HZ := Lib.hid (heap_alloc_new w3 zeroP); have HX := Lib.hid hB3; have HONE := Lib.hid hone; clear hB3 hone)
      | (refine wpList_store_row rfl 35 _ _ rfl w3.heap.size (pvC pv2 wk' ex' bk' ek' ak').toArray rfl rfl 35 (pvC (North.pv0 North.fm00) nilS nilS nilS nilS nilS).toArray HZ.out (by rw [hz]; exact info_Provision) (by rw [hz]; rfl) HONE.out ?_))
    obtain ⟨hv3, hx3, hc3⟩ := var_put HX.out (pvC pv2 wk' ex' bk' ek' ak').toArray
    change Code.wp _ _ _ _ ((w3.alloc zeroP).setRow w3.heap.size (pvC pv2 wk' ex' bk' ek' ak').toArray)
    generalize (w3.alloc zeroP).setRow w3.heap.size (pvC pv2 wk' ex' bk' ek' ak').toArray = V3 at *
    have hrep := HREP.out.to (S' := fun b => W1.heap.size ≤ b) (fun b hb _ => hv3.block b hb) fun b _ hb => hb
    have hvc := below_blk hv3 HVC.out
    have h13 := below_then HV2.out hv3
    have hz0 := below_blk h13 HZ0.out
    clear hv3 hx3 hc3 HX HZ HONE hz HREP HVC HV2 HBW HBW2 HW0
    obtain ⟨id, rank, kind, nm, value, ⟨wo, wn, wcm, wm, wks⟩, ec, ⟨bo, bn, bm, bks⟩, ⟨eo, en, em, eks⟩, ⟨ao, an, am, aks⟩⟩ := pv
    simp only at hrep ⊢
    obtain ⟨wA, wcc, rfl, -⟩ := hrep.slice
    obtain ⟨-, ⟨c5, c6, c7, c8, c9⟩, -⟩ := pv_facts hvc
    have hbl := cell_lt c5
    obtain ⟨⟨d0, d1, d2, d3, d4⟩, ⟨e0, e1, e2, e3, e4⟩, hlt3⟩ := blk5 hz0
    have HZ0 := Lib.hid hz0
    have HREP := Lib.hid hrep
    have H13 := Lib.hid h13
    clear hz0 hrep h13 hvc
    have hfin : Below w.heap.size w (set5 V3 w.heap.size (.int .i64 wo) (.string (mkS wn)) (.int .i64 wcm) (.int .i64 wm) (.slice wA wks.length wcc)) ∧ RepK (set5 V3 w.heap.size (.int .i64 wo) (.string (mkS wn)) (.int .i64 wcm) (.int .i64 wm) (.slice wA wks.length wcc)) TT (.mk wo wn wcm wm wks) (.slice wA wks.length wcc) := by
      have hk := set5_keep V3 w.heap.size (.int .i64 wo) (.string (mkS wn)) (.int .i64 wcm) (.int .i64 wm) (.slice wA wks.length wcc)
      exact ⟨Keep.weak (below_then HB0.out H13.out) hk (Nat.le_refl _), HREP.out.to (fun b hb hS => hk.block b hb (by omega)) fun _ _ _ => trivial⟩
    have hblk := blk5 (set5_blk HZ0.out (.int .i64 wo) (.string (mkS wn)) (.int .i64 wcm) (.int .i64 wm) (.slice wA wks.length wcc))
    unfold set5 at hfin hblk
    have HFIN := Lib.hid hfin
    have HBLK := Lib.hid hblk
    clear hfin hblk
    by_cases hE1 : E1 = 0
    · have hb1 : ((E1 : Int) == 0) = true := by rw [hE1]; rfl
      have hb2 : (E1 == 0 && E2 == 0) = ((E2 : Int) == 0) := by
        rw [hE1]
        by_cases h : E2 = 0
        · rw [h]; rfl
        · have : ((E2 : Int) == 0) = false := by simp; omega
          rw [this]; simp [h]
      have HB2 := Lib.hid hb2
      clear hE1 hb2
      go_wp2_with fail
      obtain ⟨⟨r0, r1, r2, r3, r4⟩, -, -⟩ := HBLK.out
      exact bodyPost_ret (v := .tuple #[FmV (.mk wo wn wcm wm wks) (.slice wA wks.length wcc), .bool ((E2 : Int) == 0)]) (by simp [results, Tryd.results18, go_sem, r0, r1, r2, r3, r4, FmV, FmC]) rfl ⟨HFIN.out.1, _, by rw [HB2.out], HFIN.out.2⟩
    · have hb1 : ((E1 : Int) == 0) = false := by simp; omega
      have hb2 : (E1 == 0 && E2 == 0) = false := by simp [hE1]
      have HB2 := Lib.hid hb2
      clear hE1 hb2
      go_wp2_with fail
      obtain ⟨⟨r0, r1, r2, r3, r4⟩, -, -⟩ := HBLK.out
      exact bodyPost_ret (v := .tuple #[FmV (.mk wo wn wcm wm wks) (.slice wA wks.length wcc), .bool false]) (by simp [results, Tryd.results18, go_sem, r0, r1, r2, r3, r4, FmV, FmC]) rfl ⟨HFIN.out.1, _, by rw [HB2.out], HFIN.out.2⟩
end Go.Proofs.YtlhgflnmdmifaaaDoor.Wk
