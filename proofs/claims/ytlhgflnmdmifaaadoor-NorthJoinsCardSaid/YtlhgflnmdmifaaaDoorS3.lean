/- The verifier's Same. -/
import Derived.Test.YtlhgflnmdmifaaaDoorSA
import Derived.Test.YtlhgflnmdmifaaaDoorND
import Derived.BigQuiet
namespace Go.Proofs.YtlhgflnmdmifaaaDoor.Wk
open Go.RowKit PD

/-- A slice of strings in memory. -/
def StrsIn (w : World) (l : List Str) (ex : Value) : Prop := ∃ A c, ex = .slice A l.length c ∧ (l.length ≤ c ∧ c ≤ capMax) ∧ (0 < l.length → ∃ b o, A = some ⟨b, o, none⟩ ∧ ∀ (j : Nat) (s : Str), l[j]? = some s → w.cell? ⟨b, o + j, none⟩ = some (.string (mkS s)))
theorem StrsIn.below {w w' : World} {l : List Str} {ex : Value} (h : StrsIn w l ex) (k : Below w.heap.size w w') : StrsIn w' l ex := by
  obtain ⟨A, c, e, hc, h⟩ := h
  exact ⟨A, c, e, hc, fun h0 => by obtain ⟨b, o, e, hj⟩ := h h0; exact ⟨b, o, e, fun j s hs => below_cell k (hj j s hs)⟩⟩
/-- A provision in memory. -/
def PvMem (w : World) (p : Pv) (v : Value) : Prop :=
  ∃ wk ex bk ek ak, v = .agg (pvC p wk ex bk ek ak).toArray ∧ RepK w TT p.when_ wk ∧ StrsIn w p.except ex ∧ RepKS w TT p.begin_ bk ∧ RepKS w TT p.end_ ek ∧ RepKS w TT p.again ak
theorem PvMem.below {w w' : World} {p : Pv} {v : Value} (h : PvMem w p v) (k : Below w.heap.size w w') : PvMem w' p v := by
  obtain ⟨wk, ex, bk, ek, ak, e, h1, h2, h3, h4, h5⟩ := h
  exact ⟨wk, ex, bk, ek, ak, e, h1.belowT k, h2.below k, h3.belowT k, h4.belowT k, h5.belowT k⟩
theorem pv_facts {w : World} {B : Nat} {id : Str} {rank kind : Int} {nm : Str} {value wo : Int} {wn : Str} {wc wm : Int} {wks : List Fm} {ec : List Str} {bo : Int} {bn : Str} {bm : Int} {bks : List St} {eo : Int} {en : Str} {em : Int} {eks : List St} {ao : Int} {an : Str} {am : Int} {aks : List St} {wk ex bk ek ak : Value}
    (h : w.heap[B]? = some (.cells (pvC ⟨id, rank, kind, nm, value, .mk wo wn wc wm wks, ec, .mk bo bn bm bks, .mk eo en em eks, .mk ao an am aks⟩ wk ex bk ek ak).toArray 35 (0, 0))) :
    (w.cell? ⟨B, 0, none⟩ = some (.string (mkS id)) ∧ w.cell? ⟨B, 1, none⟩ = some (.int .i64 rank) ∧ w.cell? ⟨B, 2, none⟩ = some (.int .i64 kind) ∧ w.cell? ⟨B, 3, none⟩ = some (.string (mkS nm)) ∧ w.cell? ⟨B, 4, none⟩ = some (.int .i64 value) ∧ w.cell? ⟨B, 10, none⟩ = some ex) ∧
    (w.cell? ⟨B, 5, none⟩ = some (.int .i64 wo) ∧ w.cell? ⟨B, 6, none⟩ = some (.string (mkS wn)) ∧ w.cell? ⟨B, 7, none⟩ = some (.int .i64 wc) ∧ w.cell? ⟨B, 8, none⟩ = some (.int .i64 wm) ∧ w.cell? ⟨B, 9, none⟩ = some wk) ∧
    (w.cell? ⟨B, 11, none⟩ = some (.int .i64 bo) ∧ w.cell? ⟨B, 12, none⟩ = some (.string (mkS bn)) ∧ w.cell? ⟨B, 13, none⟩ = some (.int .i64 bm) ∧ w.cell? ⟨B, 14, none⟩ = some bk) ∧
    (w.cell? ⟨B, 15, none⟩ = some (.int .i64 eo) ∧ w.cell? ⟨B, 16, none⟩ = some (.string (mkS en)) ∧ w.cell? ⟨B, 17, none⟩ = some (.int .i64 em) ∧ w.cell? ⟨B, 18, none⟩ = some ek) ∧
    (w.cell? ⟨B, 19, none⟩ = some (.int .i64 ao) ∧ w.cell? ⟨B, 20, none⟩ = some (.string (mkS an)) ∧ w.cell? ⟨B, 21, none⟩ = some (.int .i64 am) ∧ w.cell? ⟨B, 22, none⟩ = some ak) :=
  ⟨⟨(blk_cell h 0).trans rfl, (blk_cell h 1).trans rfl, (blk_cell h 2).trans rfl, (blk_cell h 3).trans rfl, (blk_cell h 4).trans rfl, (blk_cell h 10).trans rfl⟩, ⟨(blk_cell h 5).trans rfl, (blk_cell h 6).trans rfl, (blk_cell h 7).trans rfl, (blk_cell h 8).trans rfl, (blk_cell h 9).trans rfl⟩,
    ⟨(blk_cell h 11).trans rfl, (blk_cell h 12).trans rfl, (blk_cell h 13).trans rfl, (blk_cell h 14).trans rfl⟩, ⟨(blk_cell h 15).trans rfl, (blk_cell h 16).trans rfl, (blk_cell h 17).trans rfl, (blk_cell h 18).trans rfl⟩, ⟨(blk_cell h 19).trans rfl, (blk_cell h 20).trans rfl, (blk_cell h 21).trans rfl, (blk_cell h 22).trans rfl⟩⟩
theorem StrsIn.slice {w : World} {l : List Str} {ex : Value} (h : StrsIn w l ex) : ∃ A c, ex = .slice A l.length c ∧ l.length ≤ 9223372036854775807 := by
  obtain ⟨A, c, e, hc, _⟩ := h; exact ⟨A, c, e, Nat.le_trans hc.1 hc.2⟩
theorem str_at {w : World} {l : List Str} {A : Option Addr} {n c : Nat} (h : StrsIn w l (.slice A n c)) {j : Nat} (hj : j < l.length) : ∃ b o s, A = some ⟨b, o, none⟩ ∧ l[j]? = some s ∧ w.cell? ⟨b, o + j, none⟩ = some (.string (mkS s)) ∧ (⟨b, o, none⟩ : Addr).add j = ⟨b, o + j, none⟩ := by
  obtain ⟨A', c', e, _, h⟩ := h
  obtain ⟨b, o, rfl, hs⟩ := h (by omega)
  cases e
  exact ⟨b, o, l[j], rfl, List.getElem?_eq_getElem hj, hs j _ (List.getElem?_eq_getElem hj), by unfold Addr.add; split <;> simp_all⟩
theorem below_drewN {B : Nat} {a w : World} (h : Below B a w) (n : Nat) : Below B a (w.drewN n) := ⟨h.os, h.tape, h.output, h.size, h.block⟩
set_option maxRecDepth 100000 in
set_option maxHeartbeats 4000000 in
theorem same_calls (p q : Pv) (bl : Bool) (hbl : bl = true ↔ p = q) (w : World) (v v' : Value) (hp : PvMem w p v) (hq : PvMem w q v') :
    Calls Tryd.prog 17 #[v, v'] w fun e w' => e = .returned (.bool bl) ∧ Below w.heap.size w w' := by
  obtain ⟨id, rank, kind, nm, value, ⟨wo, wn, wc, wm, wks⟩, ec, ⟨bo, bn, bm, bks⟩, ⟨eo, en, em, eks⟩, ⟨ao, an, am, aks⟩⟩ := p
  obtain ⟨id', rank', kind', nm', value', ⟨wo', wn', wc', wm', wks'⟩, ec', ⟨bo', bn', bm', bks'⟩, ⟨eo', en', em', eks'⟩, ⟨ao', an', am', aks'⟩⟩ := q
  obtain ⟨wk, ex, bk, ek, ak, rfl, h1, h2, h3, h4, h5⟩ := hp
  obtain ⟨wk', ex', bk', ek', ak', rfl, h1', h2', h3', h4', h5'⟩ := hq
  simp only at h1 h2 h3 h4 h5 h1' h2' h3' h4' h5'
  obtain ⟨wA, wcc, rfl, -⟩ := h1.slice
  obtain ⟨bA, bcc, rfl, -⟩ := h3.slice
  obtain ⟨eA, ecc, rfl, -⟩ := h4.slice
  obtain ⟨aA, acc, rfl, -⟩ := h5.slice
  obtain ⟨xA, xcc, rfl, hxc⟩ := h2.slice
  obtain ⟨wA', wcc', rfl, -⟩ := h1'.slice
  obtain ⟨bA', bcc', rfl, -⟩ := h3'.slice
  obtain ⟨eA', ecc', rfl, -⟩ := h4'.slice
  obtain ⟨aA', acc', rfl, -⟩ := h5'.slice
  obtain ⟨xA', xcc', rfl, -⟩ := h2'.slice
  have H1 := Lib.hid h1; have H2 := Lib.hid h2; have H3 := Lib.hid h3; have H4 := Lib.hid h4; have H5 := Lib.hid h5
  have H1' := Lib.hid h1'; have H2' := Lib.hid h2'; have H3' := Lib.hid h3'; have H4' := Lib.hid h4'; have H5' := Lib.hid h5'
  clear h1 h2 h3 h4 h5 h1' h2' h3' h4' h5'
  have HBL := Lib.hid hbl; clear hbl
  have sz : (pvC ⟨id, rank, kind, nm, value, .mk wo wn wc wm wks, ec, .mk bo bn bm bks, .mk eo en em eks, .mk ao an am aks⟩ (.slice wA wks.length wcc) (.slice xA ec.length xcc) (.slice bA bks.length bcc) (.slice eA eks.length ecc) (.slice aA aks.length acc)).toArray.size = 23 := rfl
  have sz' : (pvC ⟨id', rank', kind', nm', value', .mk wo' wn' wc' wm' wks', ec', .mk bo' bn' bm' bks', .mk eo' en' em' eks', .mk ao' an' am' aks'⟩ (.slice wA' wks'.length wcc') (.slice xA' ec'.length xcc') (.slice bA' bks'.length bcc') (.slice eA' eks'.length ecc') (.slice aA' aks'.length acc')).toArray.size = 23 := rfl
  generalize hcs : (pvC ⟨id, rank, kind, nm, value, .mk wo wn wc wm wks, ec, .mk bo bn bm bks, .mk eo en em eks, .mk ao an am aks⟩ (.slice wA wks.length wcc) (.slice xA ec.length xcc) (.slice bA bks.length bcc) (.slice eA eks.length ecc) (.slice aA aks.length acc)).toArray = CS at *
  generalize hcs' : (pvC ⟨id', rank', kind', nm', value', .mk wo' wn' wc' wm' wks', ec', .mk bo' bn' bm' bks', .mk eo' en' em' eks', .mk ao' an' am' aks'⟩ (.slice wA' wks'.length wcc') (.slice xA' ec'.length xcc') (.slice bA' bks'.length bcc') (.slice eA' eks'.length ecc') (.slice aA' aks'.length acc')).toArray = CS' at *
  have HCS := Lib.hid hcs
  have HCS' := Lib.hid hcs'
  clear hcs hcs'
  go_enter Tryd.func17, Tryd.ntmps17
  go_upto_region 1 with fail
  have hA := heap_alloc_new w (.cells CS 35)
  have hB := heap_alloc_new (w.alloc (.cells CS 35)) (.cells CS' 35)
  rw [World.size_alloc] at hB
  have hA := below_blk (below_new _ (.cells CS' 35)) hA
  have hW := below_then (below_new w (.cells CS 35)) (below_new _ (.cells CS' 35))
  generalize (w.alloc (.cells CS 35)).alloc (.cells CS' 35) = W1 at *
  rw [← HCS.out] at hA
  rw [← HCS'.out] at hB
  have HA := Lib.hid hA
  have HB := Lib.hid hB
  have HW := Lib.hid hW
  clear hA hB hW sz sz'
  obtain ⟨t6, ht6⟩ : ∃ t : Bool, t = false ↔ (id = id' ∧ rank = rank' ∧ kind = kind' ∧ nm = nm' ∧ value = value' ∧ ec.length = ec'.length) := ⟨!decide (id = id' ∧ rank = rank' ∧ kind = kind' ∧ nm = nm' ∧ value = value' ∧ ec.length = ec'.length), by simp only [Bool.not_eq_false', decide_eq_true_eq]⟩
  have HT6 := Lib.hid ht6; clear ht6
  go_cut [47] from 6 to 91 (fun v47 wx => v47 = .bool t6 ∧ W1 = wx)
  case first =>
    obtain ⟨⟨a0, a1, a2, a3, a4, a10⟩, -⟩ := pv_facts HA.out
    obtain ⟨⟨b0, b1, b2, b3, b4, b10⟩, -⟩ := pv_facts HB.out
    clear HA HB
    by_cases g0 : id = id'
    · by_cases g1 : rank = rank'
      · by_cases g2 : kind = kind'
        · by_cases g3 : nm = nm'
          · by_cases g4 : value = value'
            · by_cases g5 : ec.length = ec'.length
              · have ht := HT6.out.2 ⟨g0, g1, g2, g3, g4, g5⟩
                have HT := Lib.hid ht
                clear ht HT6
                subst g0 g1 g2 g3 g4
                rw [← g5] at b10
                clear g5
                go_wp2_with fail
                go_meet
                case rel => exact ⟨by rw [HT.out], rfl⟩
              · have ht : t6 = true := by cases h : t6 with
                  | true => rfl
                  | false => exact absurd (HT6.out.1 h).2.2.2.2.2 g5
                have hb : ((ec.length : Int) != (ec'.length : Int)) = true := by simp; omega
                have HT := Lib.hid ht
                clear ht HT6 g5
                subst g0 g1 g2 g3 g4
                go_wp2_with fail
                go_meet
                case rel => exact ⟨by rw [HT.out], rfl⟩
            · have ht : t6 = true := by cases h : t6 with
                | true => rfl
                | false => exact absurd (HT6.out.1 h).2.2.2.2.1 g4
              have hb : (value != value') = true := by simpa using g4
              have HT := Lib.hid ht
              clear ht HT6
              subst g0 g1 g2 g3
              go_wp2_with fail
              go_meet
              case rel => exact ⟨by rw [HT.out], rfl⟩
          · have ht : t6 = true := by cases h : t6 with
              | true => rfl
              | false => exact absurd (HT6.out.1 h).2.2.2.1 g3
            have HT := Lib.hid ht
            clear ht HT6
            subst g0 g1 g2
            go_wp2_with fail
            go_meet
            case rel => exact ⟨by rw [HT.out], rfl⟩
        · have ht : t6 = true := by cases h : t6 with
            | true => rfl
            | false => exact absurd (HT6.out.1 h).2.2.1 g2
          have hb : (kind != kind') = true := by simpa using g2
          have HT := Lib.hid ht
          clear ht HT6
          subst g0 g1
          go_wp2_with fail
          go_meet
          case rel => exact ⟨by rw [HT.out], rfl⟩
      · have ht : t6 = true := by cases h : t6 with
          | true => rfl
          | false => exact absurd (HT6.out.1 h).2.1 g1
        have hb : (rank != rank') = true := by simpa using g1
        have HT := Lib.hid ht
        clear ht HT6
        subst g0
        go_wp2_with fail
        go_meet
        case rel => exact ⟨by rw [HT.out], rfl⟩
    · have ht : t6 = true := by cases h : t6 with
        | true => rfl
        | false => exact absurd (HT6.out.1 h).1 g0
      have HT := Lib.hid ht
      clear ht HT6
      go_wp2_with fail
      go_meet
      case rel => exact ⟨by rw [HT.out], rfl⟩
  obtain ⟨rfl, rfl⟩ := hcut
  clear hA
  cases t6 with
  | true =>
    have hblf : bl = false := by
      cases hb : bl with
      | false => rfl
      | true =>
        have := HBL.out.1 hb
        simp only [Pv.mk.injEq] at this
        exact absurd (HT6.out.2 ⟨this.1, this.2.1, this.2.2.1, this.2.2.2.1, this.2.2.2.2.1, congrArg List.length this.2.2.2.2.2.2.1⟩) (by simp)
    have HBF := Lib.hid hblf
    clear hblf
    go_wp2_with fail
    go_ret
    exact ⟨by rw [HBF.out]; rfl, HW.out⟩
  | false =>
    obtain ⟨rfl, rfl, rfl, rfl, rfl, hlen⟩ := HT6.out.1 rfl
    have HLEN := Lib.hid hlen
    clear hlen HT6
    go_wp2_with fail
    go_loopg [5] ec.length (fun k v wr => ∃ i : Nat, k + i = ec.length ∧ v = .int .i64 i ∧ Hid (Below W1.heap.size W1 wr) ∧ Hid (ec.take i = ec'.take i))
    case atStart => exact ⟨0, rfl, rfl, Lib.hid (Below.refl _ _), Lib.hid rfl⟩
    case round =>
      obtain ⟨i, hk, rfl, HR, HT⟩ := hrel
      have hA := below_blk HR.out HA.out
      have hB := below_blk HR.out HB.out
      obtain ⟨⟨-, -, -, -, -, a10⟩, -⟩ := pv_facts hA
      obtain ⟨⟨-, -, -, -, -, b10⟩, -⟩ := pv_facts hB
      have hbw := below_then HW.out HR.out
      by_cases hlt : i < ec.length
      · rw [← HLEN.out] at b10
        obtain ⟨b, o, s, rfl, hs, cs, hadd⟩ := str_at (H2.out.below hbw) hlt
        obtain ⟨b', o', s', rfl, hs', cs', hadd'⟩ := str_at (H2'.out.below hbw) (by rw [← HLEN.out]; exact hlt)
        have hi0 : (0 : Int) ≤ (i : Int) := by omega
        have hi1 : (i : Int) < (ec.length : Int) := by omega
        have bl1 := cell_lt cs
        have bl2 := cell_lt cs'
        have HS := Lib.hid hs
        have HS' := Lib.hid hs'
        clear hs hs' hbw hA hB
        by_cases hss : s = s'
        · subst hss
          go_upto_region 6 with fail
          go_quiet (fail)
          go_wp2_with fail
          go_roundg (ec.length - (i + 1))
          case measure => omega
          case rel => exact ⟨i + 1, by omega, by go_num, Lib.hid (below_drewN HR.out _), Lib.hid (by rw [List.take_add_one, List.take_add_one, HT.out, HS.out, HS'.out])⟩
        · have hblf : bl = false := by
            cases hb : bl with
            | false => rfl
            | true =>
              have := HBL.out.1 hb
              simp only [Pv.mk.injEq] at this
              have h1 := HS.out
              rw [this.2.2.2.2.2.2.1, HS'.out] at h1
              exact absurd (Option.some.inj h1).symm hss
          have HBF := Lib.hid hblf
          have hb : (s == s') = false := by simpa using hss
          clear hblf hss
          go_upto_region 6 with fail
          go_quiet (fail)
          go_wp2_with fail
          go_ret
          exact ⟨by rw [HBF.out]; rfl, below_then HW.out (below_drewN HR.out _)⟩
      · have hi : i = ec.length := by omega
        have hec : ec = ec' := by
          have h1 := HT.out
          rw [hi, List.take_length, HLEN.out, List.take_length] at h1
          exact h1
        have hI : (ec.length : Int) = (ec.length : Int) := rfl
        clear hI
        have HEC := Lib.hid hec
        have r1 := H1.out.belowT hbw
        have r1' := H1'.out.belowT hbw
        obtain ⟨-, ⟨a5, a6, a7, a8, a9⟩, -⟩ := pv_facts hA
        obtain ⟨-, ⟨b5, b6, b7, b8, b9⟩, -⟩ := pv_facts hB
        obtain ⟨t1, ht1⟩ : ∃ t : Bool, t = true ↔ Fm.mk wo wn wc wm wks = Fm.mk wo' wn' wc' wm' wks' := by classical exact ⟨decide _, decide_eq_true_iff⟩
        obtain ⟨t2, ht2⟩ : ∃ t : Bool, t = true ↔ St.mk bo bn bm bks = St.mk bo' bn' bm' bks' := by classical exact ⟨decide _, decide_eq_true_iff⟩
        obtain ⟨t3, ht3⟩ : ∃ t : Bool, t = true ↔ St.mk eo en em eks = St.mk eo' en' em' eks' := by classical exact ⟨decide _, decide_eq_true_iff⟩
        obtain ⟨t4, ht4⟩ : ∃ t : Bool, t = true ↔ St.mk ao an am aks = St.mk ao' an' am' aks' := by classical exact ⟨decide _, decide_eq_true_iff⟩
        have hall : bl = (t1 && (t2 && (t3 && t4))) := by
          rw [Bool.eq_iff_iff, HBL.out, Bool.and_eq_true, Bool.and_eq_true, Bool.and_eq_true, ht1, ht2, ht3, ht4]
          simp [hec]
        have c1 := sameF (.mk wo wn wc wm wks) (.mk wo' wn' wc' wm' wks') t1 ht1 wr _ _ r1 r1'
        have c2 : ∀ wx : World, Below W1.heap.size W1 wx → Calls Tryd.prog 43 #[StV (.mk bo bn bm bks) (.slice bA bks.length bcc), StV (.mk bo' bn' bm' bks') (.slice bA' bks'.length bcc')] wx fun e w' => e = .returned (.bool t2) ∧ Below W1.heap.size W1 w' := fun wx hx =>
          (sameSt (.mk bo bn bm bks) (.mk bo' bn' bm' bks') t2 ht2 wx _ _ (H3.out.belowT (below_then HW.out hx)) (H3'.out.belowT (below_then HW.out hx))).mono fun e w' h => ⟨h.1, below_then hx h.2⟩
        have c3 : ∀ wx : World, Below W1.heap.size W1 wx → Calls Tryd.prog 43 #[StV (.mk eo en em eks) (.slice eA eks.length ecc), StV (.mk eo' en' em' eks') (.slice eA' eks'.length ecc')] wx fun e w' => e = .returned (.bool t3) ∧ Below W1.heap.size W1 w' := fun wx hx =>
          (sameSt (.mk eo en em eks) (.mk eo' en' em' eks') t3 ht3 wx _ _ (H4.out.belowT (below_then HW.out hx)) (H4'.out.belowT (below_then HW.out hx))).mono fun e w' h => ⟨h.1, below_then hx h.2⟩
        have c4 : ∀ wx : World, Below W1.heap.size W1 wx → Calls Tryd.prog 43 #[StV (.mk ao an am aks) (.slice aA aks.length acc), StV (.mk ao' an' am' aks') (.slice aA' aks'.length acc')] wx fun e w' => e = .returned (.bool t4) ∧ Below W1.heap.size W1 w' := fun wx hx =>
          (sameSt (.mk ao an am aks) (.mk ao' an' am' aks') t4 ht4 wx _ _ (H5.out.belowT (below_then HW.out hx)) (H5'.out.belowT (below_then HW.out hx))).mono fun e w' h => ⟨h.1, below_then hx h.2⟩
        unfold FmV at c1
        unfold StV at c2 c3 c4
        simp only [FmC] at c1
        simp only [StC] at c2 c3 c4
        have C1 := Lib.hid c1
        have C2 := Lib.hid c2
        have C3 := Lib.hid c3
        have C4 := Lib.hid c4
        have HALL := Lib.hid hall
        clear c1 c2 c3 c4 hall ht1 ht2 ht3 ht4 r1 r1' hec hA hB hbw
        cases t1 with
        | false =>
          go_wp2_with (go_at_call 20; refine C1.out.mono ?_; clear C1; rintro e w2 ⟨rfl, hB2⟩; have HB2 := Lib.hid hB2; clear hB2)
          go_ret
          exact ⟨by rw [HALL.out]; rfl, below_then HW.out (below_then HR.out HB2.out)⟩
        | true =>
          cases t2 with
          | false =>
            go_wp2_with (first
              | (go_at_call 20; refine C1.out.mono ?_; clear C1; rintro e w2 ⟨rfl, hB2⟩; have hx2 := below_then HR.out hB2; obtain ⟨-, -, ⟨p1, p2, p3, p4⟩, -⟩ := pv_facts (below_blk hx2 HA.out); obtain ⟨-, -, ⟨q1, q2, q3, q4⟩, -⟩ := pv_facts (below_blk hx2 HB.out); have HX2 := Lib.hid hx2; clear hB2 hx2)
              | (go_at_call 43; refine (C2.out _ HX2.out).mono ?_; clear C2; rintro e w3 ⟨rfl, hx3⟩; have HX3 := Lib.hid hx3; clear hx3))
            go_ret
            exact ⟨by rw [HALL.out]; rfl, below_then HW.out HX3.out⟩
          | true =>
            cases t3 with
            | false =>
              go_wp2_with (first
                | (go_at_call 20; refine C1.out.mono ?_; clear C1; rintro e w2 ⟨rfl, hB2⟩; have hx2 := below_then HR.out hB2; obtain ⟨-, -, ⟨p1, p2, p3, p4⟩, -⟩ := pv_facts (below_blk hx2 HA.out); obtain ⟨-, -, ⟨q1, q2, q3, q4⟩, -⟩ := pv_facts (below_blk hx2 HB.out); have HX2 := Lib.hid hx2; clear hB2 hx2)
                | (go_at_call 43; refine (C2.out _ HX2.out).mono ?_; clear C2; rintro e w3 ⟨rfl, hx3⟩; obtain ⟨-, -, -, ⟨p5, p6, p7, p8⟩, -⟩ := pv_facts (below_blk hx3 HA.out); obtain ⟨-, -, -, ⟨q5, q6, q7, q8⟩, -⟩ := pv_facts (below_blk hx3 HB.out); have HX3 := Lib.hid hx3; clear hx3)
                | (go_at_call 43; refine (C3.out _ HX3.out).mono ?_; clear C3; rintro e w4 ⟨rfl, hx4⟩; have HX4 := Lib.hid hx4; clear hx4))
              go_ret
              exact ⟨by rw [HALL.out]; rfl, below_then HW.out HX4.out⟩
            | true =>
              go_wp2_with (first
                | (go_at_call 20; refine C1.out.mono ?_; clear C1; rintro e w2 ⟨rfl, hB2⟩; have hx2 := below_then HR.out hB2; obtain ⟨-, -, ⟨p1, p2, p3, p4⟩, -⟩ := pv_facts (below_blk hx2 HA.out); obtain ⟨-, -, ⟨q1, q2, q3, q4⟩, -⟩ := pv_facts (below_blk hx2 HB.out); have HX2 := Lib.hid hx2; clear hB2 hx2)
                | (go_at_call 43; refine (C2.out _ HX2.out).mono ?_; clear C2; rintro e w3 ⟨rfl, hx3⟩; obtain ⟨-, -, -, ⟨p5, p6, p7, p8⟩, -⟩ := pv_facts (below_blk hx3 HA.out); obtain ⟨-, -, -, ⟨q5, q6, q7, q8⟩, -⟩ := pv_facts (below_blk hx3 HB.out); have HX3 := Lib.hid hx3; clear hx3)
                | (go_at_call 43; refine (C3.out _ HX3.out).mono ?_; clear C3; rintro e w4 ⟨rfl, hx4⟩; obtain ⟨-, -, -, -, ⟨p9, p10, p11, p12⟩⟩ := pv_facts (below_blk hx4 HA.out); obtain ⟨-, -, -, -, ⟨q9, q10, q11, q12⟩⟩ := pv_facts (below_blk hx4 HB.out); have HX4 := Lib.hid hx4; clear hx4)
                | (go_at_call 43; refine (C4.out _ HX4.out).mono ?_; rintro e w5 ⟨rfl, hx5⟩; have HX5 := Lib.hid hx5; clear hx5))
              go_ret
              exact ⟨by rw [HALL.out]; simp, below_then HW.out HX5.out⟩
end Go.Proofs.YtlhgflnmdmifaaaDoor.Wk
