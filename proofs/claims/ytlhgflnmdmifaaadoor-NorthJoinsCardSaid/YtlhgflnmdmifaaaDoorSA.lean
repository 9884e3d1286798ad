/- The verifier's SameFormula. The verifier's SameStart. -/
import Derived.Test.YtlhgflnmdmifaaaDoorNC
import Derived.Test.YtlhgflnmdmifaaaDoorN15
import Derived.StillTailTactics
namespace Go.Proofs.YtlhgflnmdmifaaaDoor.Wk
open Go.RowKit PD

abbrev TT : Nat → Prop := fun _ => True
theorem RepK.all {w : World} {S : Nat → Prop} {f : Fm} {kv : Value} (h : RepK w S f kv) : RepK w TT f kv := h.to (fun _ _ _ => rfl) (fun _ _ _ => trivial)
theorem RepK.belowT {w w' : World} {f : Fm} {kv : Value} (h : RepK w TT f kv) (k : Below w.heap.size w w') : RepK w' TT f kv := h.to (fun b hb _ => k.block b hb) (fun _ _ _ => trivial)
def SameF (f g : Fm) : Prop := ∀ (bl : Bool), (bl = true ↔ f = g) → ∀ (w : World) (kf kg : Value), RepK w TT f kf → RepK w TT g kg →
  Calls Tryd.prog 20 #[FmV f kf, FmV g kg] w fun e w' => e = .returned (.bool bl) ∧ Below w.heap.size w w'
/-- A kid in memory. -/
theorem kid_at {w : World} {op : Int} {name : Str} {cmp n : Int} {ks : List Fm} {A : Option Addr} {vn c : Nat} (h : RepK w TT (.mk op name cmp n ks) (.slice A vn c)) {j : Nat} (hj : j < ks.length) :
    ∃ (b o : Nat) (xo : Int) (xn : Str) (xc xm : Int) (xks : List Fm) (xA : Option Addr) (xcc : Nat), A = some ⟨b, o, none⟩ ∧ ks[j]? = some (.mk xo xn xc xm xks) ∧
      w.cell? ⟨b, o + j * 5, none⟩ = some (.int .i64 xo) ∧ w.cell? ⟨b, o + j * 5 + 1, none⟩ = some (.string (mkS xn)) ∧ w.cell? ⟨b, o + j * 5 + 2, none⟩ = some (.int .i64 xc) ∧ w.cell? ⟨b, o + j * 5 + 3, none⟩ = some (.int .i64 xm) ∧
      w.cell? ⟨b, o + j * 5 + 4, none⟩ = some (.slice xA xks.length xcc) ∧ RepK w TT (.mk xo xn xc xm xks) (.slice xA xks.length xcc) ∧ (⟨b, o, none⟩ : Addr).add (j * 5) = ⟨b, o + j * 5, none⟩ := by
  have hget : ks[j]? = some ks[j] := List.getElem?_eq_getElem hj
  generalize ks[j] = x at hget
  obtain ⟨xo, xn, xc, xm, xks⟩ := x
  rw [RepK] at h
  obtain ⟨A', c', he, -, -, hrow⟩ := h
  obtain ⟨b, o, rfl, -, hrow⟩ := hrow (by intro e; rw [e] at hj; simp at hj)
  simp only [Value.slice.injEq] at he
  obtain ⟨rfl, -, -⟩ := he
  obtain ⟨c0, c1, c2, c3, xkv, c4, hxk⟩ := RepRow.get _ _ _ _ _ _ _ _ hrow hget
  obtain ⟨xA, xcc, rfl, -⟩ := hxk.slice
  exact ⟨b, o, xo, xn, xc, xm, xks, xA, xcc, rfl, hget, c0, c1, c2, c3, c4, hxk, by unfold Addr.add; split <;> simp_all⟩

set_option maxRecDepth 100000 in
set_option maxHeartbeats 2000000 in
theorem sameF_step (op : Int) (name : Str) (cmp n : Int) (ks : List Fm) (ih : ∀ x ∈ ks, ∀ y, SameF x y) (g : Fm) : SameF (.mk op name cmp n ks) g := by
  obtain ⟨op', name', cmp', n', ks'⟩ := g
  intro bl hbl w kf kg hf hg
  obtain ⟨A, cc, rfl, hl, hm⟩ := hf.slice
  obtain ⟨A', cc', rfl, hl', hm'⟩ := hg.slice
  have hm3 : cc ≤ 9223372036854775807 := hm
  clear hm hm'
  have HF := Lib.hid hf; clear hf
  have HG := Lib.hid hg; clear hg
  have HIH := Lib.hid ih; clear ih
  unfold FmV
  simp only [FmC]
  by_cases h0 : op = op' ∧ name = name' ∧ cmp = cmp' ∧ n = n' ∧ ks.length = ks'.length
  · obtain ⟨rfl, rfl, rfl, rfl, hlen⟩ := h0
    have HLEN := Lib.hid hlen
    rw [← hlen] at hl' ⊢
    have HBL := Lib.hid hbl
    clear hlen hbl
    go_enter Tryd.func20, Tryd.ntmps20
    go_wp2_with fail
    have hA := heap_alloc_new w (.cells #[.int .i64 op, .string (mkS name), .int .i64 cmp, .int .i64 n, .slice A ks.length cc] 29)
    have hB := heap_alloc_new (w.alloc (.cells #[.int .i64 op, .string (mkS name), .int .i64 cmp, .int .i64 n, .slice A ks.length cc] 29)) (.cells #[.int .i64 op, .string (mkS name), .int .i64 cmp, .int .i64 n, .slice A' ks.length cc'] 29)
    rw [World.size_alloc] at hB
    have hA := below_blk (below_new _ (.cells #[.int .i64 op, .string (mkS name), .int .i64 cmp, .int .i64 n, .slice A' ks.length cc'] 29)) hA
    have hW := below_then (below_new w (.cells #[.int .i64 op, .string (mkS name), .int .i64 cmp, .int .i64 n, .slice A ks.length cc] 29)) (below_new _ (.cells #[.int .i64 op, .string (mkS name), .int .i64 cmp, .int .i64 n, .slice A' ks.length cc'] 29))
    generalize (w.alloc (.cells #[.int .i64 op, .string (mkS name), .int .i64 cmp, .int .i64 n, .slice A ks.length cc] 29)).alloc (.cells #[.int .i64 op, .string (mkS name), .int .i64 cmp, .int .i64 n, .slice A' ks.length cc'] 29) = W1 at *
    have HA := Lib.hid hA
    have HB := Lib.hid hB
    have HW := Lib.hid hW
    clear hA hB hW
    go_loopg [5] ks.length (fun k v wr => ∃ i : Nat, k + i = ks.length ∧ v = .int .i64 i ∧ Hid (Below W1.heap.size W1 wr) ∧ Hid (ks.take i = ks'.take i))
    case atStart => exact ⟨0, rfl, rfl, Lib.hid (Below.refl _ _), Lib.hid rfl⟩
    case round =>
      obtain ⟨i, hk, rfl, HR, HT⟩ := hrel
      have a4 : wr.cell? ⟨w.heap.size, 4, none⟩ = some (.slice A ks.length cc) := (blk_cell (below_blk HR.out HA.out) 4).trans rfl
      have b4 : wr.cell? ⟨w.heap.size + 1, 4, none⟩ = some (.slice A' ks.length cc') := (blk_cell (below_blk HR.out HB.out) 4).trans rfl
      by_cases hlt : i < ks.length
      · have hbw := below_then HW.out HR.out
        obtain ⟨b, o, xo, xn, xc, xm, xks, xA, xcc, rfl, hget, c0, c1, c2, c3, c4, hxk, hadd⟩ := kid_at (HF.out.belowT hbw) hlt
        obtain ⟨b', o', yo, yn, yc, ym, yks, yA, ycc, rfl, hget', d0, d1, d2, d3, d4, hyk, hadd'⟩ := kid_at (HG.out.belowT hbw) (by rw [← HLEN.out]; exact hlt)
        have hi0 : (0 : Int) ≤ (i : Int) := by omega
        have hi1 : (i : Int) < (ks.length : Int) := by omega
        have bl1 := cell_lt c0
        have bl2 := cell_lt d0
        have HGET := Lib.hid hget
        have HGET' := Lib.hid hget'
        have HXK := Lib.hid hxk
        have HYK := Lib.hid hyk
        clear hget hget' hxk hyk hbw
        go_upto_region 6 with fail
        go_still_tail 10, (by kernel_rfl)
        have hBd : Below wr.heap.size wr wr.drew := (Below.refl _ _).drew
        have hxk := HXK.out.belowT hBd
        have hyk := HYK.out.belowT hBd
        change wpList _ _ _ _ _ wr.drew
        generalize wr.drew = w2 at *
        have HBD := Lib.hid hBd
        have hmem := List.mem_of_getElem? HGET.out
        clear hBd a4 b4 c0 c1 c2 c3 c4 d0 d1 d2 d3 d4 hadd hadd' bl1 bl2 HXK HYK hi0 hi1
        by_cases hxy : Fm.mk xo xn xc xm xks = Fm.mk yo yn yc ym yks
        · have hcall := HIH.out _ hmem _ true (by simp [hxy]) w2 _ _ hxk hyk
          unfold FmV at hcall
          simp only [FmC] at hcall
          have HC := Lib.hid hcall
          have HXY := Lib.hid hxy
          clear hcall hxk hyk hxy hmem
          go_wp2_with (go_at_call 20; refine HC.out.mono ?_; rintro e w4 ⟨rfl, hB4⟩; have HB4 := Lib.hid hB4; clear hB4)
          go_roundg (ks.length - (i + 1))
          case measure => omega
          case rel => exact ⟨i + 1, by omega, by go_num, Lib.hid (below_then HR.out (below_then HBD.out HB4.out)), Lib.hid (by rw [List.take_add_one, List.take_add_one, HT.out, HGET.out, HGET'.out, HXY.out])⟩
        · have hcall := HIH.out _ hmem _ false (by simp [hxy]) w2 _ _ hxk hyk
          unfold FmV at hcall
          simp only [FmC] at hcall
          have HC := Lib.hid hcall
          have hblf : bl = false := by
            cases hb : bl with
            | false => rfl
            | true =>
              have := HBL.out.1 hb
              simp only [Fm.mk.injEq, true_and] at this
              have h1 := HGET.out
              rw [this, HGET'.out] at h1
              exact absurd (Option.some.inj h1).symm hxy
          have HBF := Lib.hid hblf
          clear hcall hxk hyk hxy hmem hblf
          go_wp2_with (go_at_call 20; refine HC.out.mono ?_; rintro e w4 ⟨rfl, hB4⟩; have HB4 := Lib.hid hB4; clear hB4)
          go_ret
          exact ⟨by rw [HBF.out]; rfl, below_then HW.out (below_then HR.out (below_then HBD.out HB4.out))⟩
      · have hi : i = ks.length := by omega
        have hblt : bl = true := by
          refine HBL.out.2 ?_
          have h1 := HT.out
          rw [hi, List.take_length, HLEN.out, List.take_length] at h1
          rw [h1]
        have HBT := Lib.hid hblt
        clear hblt
        go_wp2_with fail
        go_ret
        exact ⟨by rw [HBT.out]; rfl, below_then HW.out HR.out⟩
  · have hblf : bl = false := by
      cases hb : bl with
      | false => rfl
      | true =>
        have := hbl.1 hb
        simp only [Fm.mk.injEq] at this
        exact absurd ⟨this.1, this.2.1, this.2.2.1, this.2.2.2.1, congrArg List.length this.2.2.2.2⟩ h0
    subst hblf
    clear hbl HIH HF HG
    by_cases g0 : op = op'
    · subst g0
      by_cases g1 : name = name'
      · subst g1
        by_cases g2 : cmp = cmp'
        · subst g2
          by_cases g3 : n = n'
          · subst g3
            have g4 : ks.length ≠ ks'.length := fun e => h0 ⟨rfl, rfl, rfl, rfl, e⟩
            have hb : ((ks.length : Int) != (ks'.length : Int)) = true := by simp; omega
            clear h0 g4
            go_enter Tryd.func20, Tryd.ntmps20
            go_wp2_with fail
            go_ret
            exact ⟨rfl, below_then (below_new _ _) (below_new _ _)⟩
          · have hb : (n != n') = true := by simpa using g3
            clear h0 g3
            go_enter Tryd.func20, Tryd.ntmps20
            go_wp2_with fail
            go_ret
            exact ⟨rfl, below_then (below_new _ _) (below_new _ _)⟩
        · have hb : (cmp != cmp') = true := by simpa using g2
          clear h0 g2
          go_enter Tryd.func20, Tryd.ntmps20
          go_wp2_with fail
          go_ret
          exact ⟨rfl, below_then (below_new _ _) (below_new _ _)⟩
      · clear h0
        go_enter Tryd.func20, Tryd.ntmps20
        go_wp2_with fail
        go_ret
        exact ⟨rfl, below_then (below_new _ _) (below_new _ _)⟩
    · have hb : (op != op') = true := by simpa using g0
      clear h0 g0
      go_enter Tryd.func20, Tryd.ntmps20
      go_wp2_with fail
      go_ret
      exact ⟨rfl, below_then (below_new _ _) (below_new _ _)⟩
mutual
theorem sameF : ∀ f : Fm, ∀ g : Fm, SameF f g
  | .mk op name cmp n ks, g => sameF_step op name cmp n ks (samesF ks) g
theorem samesF : ∀ l : List Fm, ∀ f ∈ l, ∀ g : Fm, SameF f g
  | [], f, h, _ => by simp at h
  | k :: ks, f, h, g => by
    rcases List.mem_cons.1 h with h1 | h1
    · rw [h1]; exact sameF k g
    · exact samesF ks f h1 g
end
end Go.Proofs.YtlhgflnmdmifaaaDoor.Wk
namespace Go.Proofs.YtlhgflnmdmifaaaDoor.Wk
open Go.RowKit PD

theorem RepKS.all {w : World} {S : Nat → Prop} {f : St} {kv : Value} (h : RepKS w S f kv) : RepKS w TT f kv := h.to (fun _ _ _ => rfl) (fun _ _ _ => trivial)
theorem RepKS.belowT {w w' : World} {f : St} {kv : Value} (h : RepKS w TT f kv) (k : Below w.heap.size w w') : RepKS w' TT f kv := h.to (fun b hb _ => k.block b hb) (fun _ _ _ => trivial)
def SameS (f g : St) : Prop := ∀ (bl : Bool), (bl = true ↔ f = g) → ∀ (w : World) (kf kg : Value), RepKS w TT f kf → RepKS w TT g kg →
  Calls Tryd.prog 43 #[StV f kf, StV g kg] w fun e w' => e = .returned (.bool bl) ∧ Below w.heap.size w w'
/-- A kid in memory. -/
theorem kidS_at {w : World} {op : Int} {name : Str} {n : Int} {ks : List St} {A : Option Addr} {vn c : Nat} (h : RepKS w TT (.mk op name n ks) (.slice A vn c)) {j : Nat} (hj : j < ks.length) :
    ∃ (b o : Nat) (xo : Int) (xn : Str) (xm : Int) (xks : List St) (xA : Option Addr) (xcc : Nat), A = some ⟨b, o, none⟩ ∧ ks[j]? = some (.mk xo xn xm xks) ∧
      w.cell? ⟨b, o + j * 4, none⟩ = some (.int .i64 xo) ∧ w.cell? ⟨b, o + j * 4 + 1, none⟩ = some (.string (mkS xn)) ∧ w.cell? ⟨b, o + j * 4 + 2, none⟩ = some (.int .i64 xm) ∧
      w.cell? ⟨b, o + j * 4 + 3, none⟩ = some (.slice xA xks.length xcc) ∧ RepKS w TT (.mk xo xn xm xks) (.slice xA xks.length xcc) ∧ (⟨b, o, none⟩ : Addr).add (j * 4) = ⟨b, o + j * 4, none⟩ := by
  have hget : ks[j]? = some ks[j] := List.getElem?_eq_getElem hj
  generalize ks[j] = x at hget
  obtain ⟨xo, xn, xm, xks⟩ := x
  rw [RepKS] at h
  obtain ⟨A', c', he, -, -, hrow⟩ := h
  obtain ⟨b, o, rfl, -, hrow⟩ := hrow (by intro e; rw [e] at hj; simp at hj)
  simp only [Value.slice.injEq] at he
  obtain ⟨rfl, -, -⟩ := he
  obtain ⟨c0, c1, c2, xkv, c3, hxk⟩ := RepRowS.get _ _ _ _ _ _ _ hrow hget
  obtain ⟨xA, xcc, rfl, -⟩ := hxk.slice
  exact ⟨b, o, xo, xn, xm, xks, xA, xcc, rfl, hget, c0, c1, c2, c3, hxk, by unfold Addr.add; split <;> simp_all⟩

set_option maxRecDepth 100000 in
set_option maxHeartbeats 2000000 in
theorem sameSt_step (op : Int) (name : Str) (n : Int) (ks : List St) (ih : ∀ x ∈ ks, ∀ y, SameS x y) (g : St) : SameS (.mk op name n ks) g := by
  obtain ⟨op', name', n', ks'⟩ := g
  intro bl hbl w kf kg hf hg
  obtain ⟨A, cc, rfl, hl, hm⟩ := hf.slice
  obtain ⟨A', cc', rfl, hl', hm'⟩ := hg.slice
  have hm3 : cc ≤ 9223372036854775807 := hm
  clear hm hm'
  have HF := Lib.hid hf; clear hf
  have HG := Lib.hid hg; clear hg
  have HIH := Lib.hid ih; clear ih
  unfold StV
  simp only [StC]
  by_cases h0 : op = op' ∧ name = name' ∧ n = n' ∧ ks.length = ks'.length
  · obtain ⟨rfl, rfl, rfl, hlen⟩ := h0
    have HLEN := Lib.hid hlen
    rw [← hlen] at hl' ⊢
    have HBL := Lib.hid hbl
    clear hlen hbl
    go_enter Tryd.func43, Tryd.ntmps43
    go_wp2_with fail
    have hA := heap_alloc_new w (.cells #[.int .i64 op, .string (mkS name), .int .i64 n, .slice A ks.length cc] 33)
    have hB := heap_alloc_new (w.alloc (.cells #[.int .i64 op, .string (mkS name), .int .i64 n, .slice A ks.length cc] 33)) (.cells #[.int .i64 op, .string (mkS name), .int .i64 n, .slice A' ks.length cc'] 33)
    rw [World.size_alloc] at hB
    have hA := below_blk (below_new _ (.cells #[.int .i64 op, .string (mkS name), .int .i64 n, .slice A' ks.length cc'] 33)) hA
    have hW := below_then (below_new w (.cells #[.int .i64 op, .string (mkS name), .int .i64 n, .slice A ks.length cc] 33)) (below_new _ (.cells #[.int .i64 op, .string (mkS name), .int .i64 n, .slice A' ks.length cc'] 33))
    generalize (w.alloc (.cells #[.int .i64 op, .string (mkS name), .int .i64 n, .slice A ks.length cc] 33)).alloc (.cells #[.int .i64 op, .string (mkS name), .int .i64 n, .slice A' ks.length cc'] 33) = W1 at *
    have HA := Lib.hid hA
    have HB := Lib.hid hB
    have HW := Lib.hid hW
    clear hA hB hW
    go_loopg [5] ks.length (fun k v wr => ∃ i : Nat, k + i = ks.length ∧ v = .int .i64 i ∧ Hid (Below W1.heap.size W1 wr) ∧ Hid (ks.take i = ks'.take i))
    case atStart => exact ⟨0, rfl, rfl, Lib.hid (Below.refl _ _), Lib.hid rfl⟩
    case round =>
      obtain ⟨i, hk, rfl, HR, HT⟩ := hrel
      have a4 : wr.cell? ⟨w.heap.size, 3, none⟩ = some (.slice A ks.length cc) := (blk_cell (below_blk HR.out HA.out) 3).trans rfl
      have b4 : wr.cell? ⟨w.heap.size + 1, 3, none⟩ = some (.slice A' ks.length cc') := (blk_cell (below_blk HR.out HB.out) 3).trans rfl
      by_cases hlt : i < ks.length
      · have hbw := below_then HW.out HR.out
        obtain ⟨b, o, xo, xn, xm, xks, xA, xcc, rfl, hget, c0, c1, c2, c3, hxk, hadd⟩ := kidS_at (HF.out.belowT hbw) hlt
        obtain ⟨b', o', yo, yn, ym, yks, yA, ycc, rfl, hget', d0, d1, d2, d3, hyk, hadd'⟩ := kidS_at (HG.out.belowT hbw) (by rw [← HLEN.out]; exact hlt)
        have hi0 : (0 : Int) ≤ (i : Int) := by omega
        have hi1 : (i : Int) < (ks.length : Int) := by omega
        have bl1 := cell_lt c0
        have bl2 := cell_lt d0
        have HGET := Lib.hid hget
        have HGET' := Lib.hid hget'
        have HXK := Lib.hid hxk
        have HYK := Lib.hid hyk
        clear hget hget' hxk hyk hbw
        go_upto_region 6 with fail
        go_still_tail 10, (by kernel_rfl)
        have hBd : Below wr.heap.size wr wr.drew := (Below.refl _ _).drew
        have hxk := HXK.out.belowT hBd
        have hyk := HYK.out.belowT hBd
        change wpList _ _ _ _ _ wr.drew
        generalize wr.drew = w2 at *
        have HBD := Lib.hid hBd
        have hmem := List.mem_of_getElem? HGET.out
        clear hBd a4 b4 c0 c1 c2 c3 d0 d1 d2 d3 hadd hadd' bl1 bl2 HXK HYK hi0 hi1
        by_cases hxy : St.mk xo xn xm xks = St.mk yo yn ym yks
        · have hcall := HIH.out _ hmem _ true (by simp [hxy]) w2 _ _ hxk hyk
          unfold StV at hcall
          simp only [StC] at hcall
          have HC := Lib.hid hcall
          have HXY := Lib.hid hxy
          clear hcall hxk hyk hxy hmem
          go_wp2_with (go_at_call 43; refine HC.out.mono ?_; rintro e w4 ⟨rfl, hB4⟩; have HB4 := Lib.hid hB4; clear hB4)
          go_roundg (ks.length - (i + 1))
          case measure => omega
          case rel => exact ⟨i + 1, by omega, by go_num, Lib.hid (below_then HR.out (below_then HBD.out HB4.out)), Lib.hid (by rw [List.take_add_one, List.take_add_one, HT.out, HGET.out, HGET'.out, HXY.out])⟩
        · have hcall := HIH.out _ hmem _ false (by simp [hxy]) w2 _ _ hxk hyk
          unfold StV at hcall
          simp only [StC] at hcall
          have HC := Lib.hid hcall
          have hblf : bl = false := by
            cases hb : bl with
            | false => rfl
            | true =>
              have := HBL.out.1 hb
              simp only [St.mk.injEq, true_and] at this
              have h1 := HGET.out
              rw [this, HGET'.out] at h1
              exact absurd (Option.some.inj h1).symm hxy
          have HBF := Lib.hid hblf
          clear hcall hxk hyk hxy hmem hblf
          go_wp2_with (go_at_call 43; refine HC.out.mono ?_; rintro e w4 ⟨rfl, hB4⟩; have HB4 := Lib.hid hB4; clear hB4)
          go_ret
          exact ⟨by rw [HBF.out]; rfl, below_then HW.out (below_then HR.out (below_then HBD.out HB4.out))⟩
      · have hi : i = ks.length := by omega
        have hblt : bl = true := by
          refine HBL.out.2 ?_
          have h1 := HT.out
          rw [hi, List.take_length, HLEN.out, List.take_length] at h1
          rw [h1]
        have HBT := Lib.hid hblt
        clear hblt
        go_wp2_with fail
        go_ret
        exact ⟨by rw [HBT.out]; rfl, below_then HW.out HR.out⟩
  · have hblf : bl = false := by
      cases hb : bl with
      | false => rfl
      | true =>
        have := hbl.1 hb
        simp only [St.mk.injEq] at this
        exact absurd ⟨this.1, this.2.1, this.2.2.1, congrArg List.length this.2.2.2⟩ h0
    subst hblf
    clear hbl HIH HF HG
    by_cases g0 : op = op'
    · subst g0
      by_cases g1 : name = name'
      · subst g1
        by_cases g3 : n = n'
        · subst g3
          have g4 : ks.length ≠ ks'.length := fun e => h0 ⟨rfl, rfl, rfl, e⟩
          have hb : ((ks.length : Int) != (ks'.length : Int)) = true := by simp; omega
          clear h0 g4
          go_enter Tryd.func43, Tryd.ntmps43
          go_wp2_with fail
          go_ret
          exact ⟨rfl, below_then (below_new _ _) (below_new _ _)⟩
        · have hb : (n != n') = true := by simpa using g3
          clear h0 g3
          go_enter Tryd.func43, Tryd.ntmps43
          go_wp2_with fail
          go_ret
          exact ⟨rfl, below_then (below_new _ _) (below_new _ _)⟩
      · clear h0
        go_enter Tryd.func43, Tryd.ntmps43
        go_wp2_with fail
        go_ret
        exact ⟨rfl, below_then (below_new _ _) (below_new _ _)⟩
    · have hb : (op != op') = true := by simpa using g0
      clear h0 g0
      go_enter Tryd.func43, Tryd.ntmps43
      go_wp2_with fail
      go_ret
      exact ⟨rfl, below_then (below_new _ _) (below_new _ _)⟩
mutual
theorem sameSt : ∀ f : St, ∀ g : St, SameS f g
  | .mk op name n ks, g => sameSt_step op name n ks (samesSt ks) g
theorem samesSt : ∀ l : List St, ∀ f ∈ l, ∀ g : St, SameS f g
  | [], f, h, _ => by simp at h
  | k :: ks, f, h, g => by
    rcases List.mem_cons.1 h with h1 | h1
    · rw [h1]; exact sameSt k g
    · exact samesSt ks f h1 g
end
end Go.Proofs.YtlhgflnmdmifaaaDoor.Wk
