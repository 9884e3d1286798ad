-- written by starts.py
/- The size and the depth of a condition of commencement, as the bounded reader counts them. -/
import Derived.Test.YtlhgflnmdmifaaaDoorM6
import Derived.IntWalk
namespace Go.Proofs.YtlhgflnmdmifaaaDoor.Wk
open Go.RowKit PD

theorem St.sizes_take (l : List St) (j : Nat) (f : St) (h : l[j]? = some f) : St.sizes (l.take (j + 1)) = St.sizes (l.take j) + f.size := by
  induction l generalizing j with
  | nil => simp at h
  | cons x r ih =>
    cases j with
    | zero => simp only [List.getElem?_cons_zero, Option.some.injEq] at h; subst h; simp [St.sizes]
    | succ j => simp only [List.take_succ_cons, St.sizes]; rw [ih j (by simpa using h)]; omega
theorem St.depths_take (l : List St) (j : Nat) (f : St) (h : l[j]? = some f) : St.depths (l.take (j + 1)) = max (St.depths (l.take j)) f.depth := by
  induction l generalizing j with
  | nil => simp at h
  | cons x r ih =>
    cases j with
    | zero => simp only [List.getElem?_cons_zero, Option.some.injEq] at h; subst h; simp [St.depths]
    | succ j => simp only [List.take_succ_cons, St.depths]; rw [ih j (by simpa using h)]; omega
mutual
theorem St.depth_le : ∀ f : St, f.depth ≤ f.size
  | .mk _ _ _ ks => by rw [St.depth, St.size]; have := St.depths_le ks; omega
theorem St.depths_le : ∀ l : List St, St.depths l ≤ St.sizes l
  | [] => by simp [St.depths]
  | k :: ks => by rw [St.depths, St.sizes]; have := St.depth_le k; have := St.depths_le ks; omega
end
theorem St.sizes_take_le (l : List St) (j : Nat) : St.sizes (l.take j) ≤ St.sizes l := by
  induction l generalizing j with
  | nil => simp
  | cons x r ih =>
    cases j with
    | zero => simp [St.sizes]
    | succ j => simp only [List.take_succ_cons, St.sizes]; have := ih j; omega
theorem St.length_le : ∀ l : List St, l.length ≤ St.sizes l
  | [] => by simp
  | .mk _ _ _ _ :: r => by rw [St.sizes, St.size, List.length_cons]; have := St.length_le r; omega
theorem St.size_get (l : List St) (j : Nat) (f : St) (h : l[j]? = some f) : f.size ≤ St.sizes l := by
  have := St.sizes_take l j f h
  have := St.sizes_take_le l (j + 1)
  omega
/-- The j-th formula of a row. -/
theorem RepRowS.get {w : World} {S : Nat → Prop} {b : Nat} : ∀ (l : List St) (o j : Nat) (op : Int) (name : Str) (n : Int) (ks : List St), RepRowS w S b o l → l[j]? = some (.mk op name n ks) →
    w.cell? ⟨b, o + j * 4, none⟩ = some (.int .i64 op) ∧ w.cell? ⟨b, o + j * 4 + 1, none⟩ = some (.string (mkS name)) ∧ w.cell? ⟨b, o + j * 4 + 2, none⟩ = some (.int .i64 n) ∧
      ∃ kv, w.cell? ⟨b, o + j * 4 + 3, none⟩ = some kv ∧ RepKS w S (.mk op name n ks) kv
  | [], o, j, op, name, n, ks, _, h => by simp at h
  | .mk op' name' n' ks' :: r, o, 0, op, name, n, ks, hr, h => by
    simp only [List.getElem?_cons_zero, Option.some.injEq, St.mk.injEq] at h
    obtain ⟨rfl, rfl, rfl, rfl⟩ := h
    rw [RepRowS] at hr
    simpa using hr.1
  | .mk op' name' n' ks' :: r, o, j + 1, op, name, n, ks, hr, h => by
    rw [RepRowS] at hr
    have := RepRowS.get r (o + 4) j op name n ks hr.2 (by simpa using h)
    rw [show o + (j + 1) * 4 = o + 4 + j * 4 from by omega]
    exact this
set_option maxHeartbeats 1000000 in
theorem kidsS_calls (a b c e : Value) (w : World) : Calls Tryd.prog 90 #[.agg #[a, b, c, e]] w fun r w' => r = .returned e ∧ Below w.heap.size w w' := by
  go_enter Tryd.func90, Tryd.ntmps90
  go_wp2
  go_ret
  exact ⟨rfl, below_new _ _⟩
/-- What the counting closure is told: its counter, the function of the kids, itself. -/
structure CntS (w : World) (zb kb db : Nat) (sz : Int) : Prop where
  z : w.heap[zb]? = some (.cells #[.int .i64 sz] 3 (0, 0))
  k : w.heap[kb]? = some (.cells #[.func (.func 90) #[] #[]] 111 (0, 0))
  d : w.heap[db]? = some (.cells #[.func (.func 119) #[] #[.pointer (some ⟨zb, 0, none⟩), .pointer (some ⟨kb, 0, none⟩), .pointer (some ⟨db, 0, none⟩)]] 137 (0, 0))
  kz : kb ≠ zb
  dz : db ≠ zb
theorem CntS.below {w w' : World} {zb kb db : Nat} {sz : Int} (h : CntS w zb kb db sz) (k : Below w.heap.size w w') : CntS w' zb kb db sz :=
  ⟨below_blk k h.z, below_blk k h.k, below_blk k h.d, h.kz, h.dz⟩
def DeepS (f : St) : Prop := ∀ (w : World) (zb kb db : Nat) (sz : Nat) (kv : Value), CntS w zb kb db sz → RepKS w (fun b => b ≠ zb) f kv → sz + f.size ≤ 1000000000 →
  Calls Tryd.prog 119 #[StV f kv, .pointer (some ⟨zb, 0, none⟩), .pointer (some ⟨kb, 0, none⟩), .pointer (some ⟨db, 0, none⟩)] w fun e w' => e = .returned (.int .i64 f.depth) ∧ Keep zb w w' ∧ CntS w' zb kb db ((sz + f.size : Nat) : Int)
set_option maxRecDepth 100000 in
set_option maxHeartbeats 2000000 in
theorem deep_stepS (op : Int) (name : Str) (n : Int) (ks : List St) (ih : ∀ f ∈ ks, DeepS f) : DeepS (.mk op name n ks) := by
  intro w zb kb db sz kv hc hrep hb
  obtain ⟨A, cc, rfl, hl, hm⟩ := hrep.slice
  have hK := kidsS_calls (.int .i64 op) (.string (mkS name)) (.int .i64 n) (.slice A ks.length cc)
  rw [St.size] at hb
  have hlen : ks.length ≤ 1000000000 := by have := St.length_le ks; omega
  have hsz : IntKind.i64.wrap ((sz : Int) + 1) = (sz : Int) + 1 := IntWalk.i64_in _ (by omega)
  have HK := Lib.hid hK; clear hK
  have HX := Lib.hid hrep; clear hrep
  obtain ⟨z0, k0, d0⟩ := And.intro ((blk_cell hc.z 0).trans rfl) (And.intro ((blk_cell hc.k 0).trans rfl) ((blk_cell hc.d 0).trans rfl))
  have zf := blk_free hc.z 0
  have zl := heap_lt hc.z
  have kl := heap_lt hc.k
  have dl := heap_lt hc.d
  have hkz := hc.kz
  have hdz := hc.dz
  have HC := Lib.hid hc; clear hc
  have HIH := Lib.hid ih; clear ih
  have HSZ := Lib.hid hsz; clear hsz
  unfold StV
  simp only [StC]
  go_enter Tryd.func119, Tryd.ntmps119
  go_wp2_with fail
  refine (HK.out _).mono ?_
  rintro e w2 ⟨rfl, hB2⟩
  have hK0 : Keep zb w w2 := (((Keep.refl zb w).set 0 _).alloc _).trans (.of_below hB2)
  have hC2 : CntS w2 zb kb db ((sz + 1 : Nat) : Int) := by
    refine CntS.below (CntS.below ⟨?_, ?_, ?_, hkz, hdz⟩ (below_new _ _)) hB2
    · exact (blk_set HC.out.z 0 _).trans (by simp)
    · exact ((Keep.refl zb w).set 0 _).blk HC.out.k hkz
    · exact ((Keep.refl zb w).set 0 _).blk HC.out.d hdz
  have HK0 := Lib.hid hK0; clear hK0
  have HC2 := Lib.hid hC2; clear hC2
  clear hB2 z0 k0 d0 zf zl kl dl
  go_wp2_with fail
  go_loopw [6, 15] (fun m i wr => ∃ j : Nat, j ≤ ks.length ∧ i = .int .i64 j ∧ m = .int .i64 (St.depths (ks.take j)) ∧ Hid (Keep zb w wr) ∧ Hid (CntS wr zb kb db ((sz + 1 + St.sizes (ks.take j) : Nat) : Int))) (fun _ i _ => ks.length - (intOf i).toNat)
  case atStart => exact ⟨0, Nat.zero_le _, rfl, by simp [St.depths], HK0, by simpa [St.sizes] using HC2⟩
  case round =>
    obtain ⟨j, hj, rfl, rfl, HKr, HCr⟩ := hrel
    have hsl := St.sizes_take_le ks j
    have hdl := St.depths_le (ks.take j)
    by_cases hlt : j < ks.length
    · have hget : ks[j]? = some ks[j] := List.getElem?_eq_getElem hlt
      have hmem := List.mem_of_getElem? hget
      generalize ks[j] = x at hget hmem
      have hih := HIH.out x hmem
      have htk := St.sizes_take ks j x hget
      have htd := St.depths_take ks j x hget
      have hxs := St.sizes_take_le ks (j + 1)
      have hxd := St.depth_le x
      obtain ⟨xo, xn, xm, xks⟩ := x
      have hrep := HX.out
      rw [RepKS] at hrep
      obtain ⟨A', c', he, -, -, hrow⟩ := hrep
      obtain ⟨b, o, rfl, hbz, hrow⟩ := hrow (by intro e; rw [e] at hlt; simp at hlt)
      simp only [Value.slice.injEq] at he
      obtain ⟨rfl, -, -⟩ := he
      obtain ⟨c0, c1, c2, xkv, c3, hxk⟩ := RepRowS.get _ _ _ _ _ _ _ hrow hget
      obtain ⟨xA, xcc, rfl, -⟩ := hxk.slice
      replace c0 := HKr.out.cell c0 hbz
      replace c1 := HKr.out.cell c1 hbz
      replace c2 := HKr.out.cell c2 hbz
      replace c3 := HKr.out.cell c3 hbz
      have hbl := cell_lt c0
      have hadd : (⟨b, o, none⟩ : Addr).add (j * 4) = ⟨b, o + j * 4, none⟩ := by unfold Addr.add; split <;> simp_all
      have hal := below_new wr (.cells #[.int .i64 xo, .string (mkS xn), .int .i64 xm, .slice xA xks.length xcc] 33)
      have hcall := hih _ zb kb db _ (.slice xA xks.length xcc) (HCr.out.below hal) ((hxk.to (fun b _ hS => HKr.out.block b ‹_› hS) (fun _ _ hS => hS)).to (fun b hb _ => hal.block b hb) fun _ _ hS => hS) (by omega)
      have d0 := (blk_cell HCr.out.d 0).trans rfl
      have dl := heap_lt HCr.out.d
      have HT1 := Lib.hid htk; clear htk
      have HT2 := Lib.hid htd; clear htd
      have HCALL := Lib.hid hcall; clear hcall
      have HAL := Lib.hid hal; clear hal
      have HGET := Lib.hid hget; clear hget
      clear hrow hih hmem hxk
      unfold StV at HCALL
      simp only [StC] at HCALL
      go_wp2_with fail
      refine HCALL.out.mono ?_
      rintro e w4 ⟨rfl, hK4, hC4⟩
      have HK4 := Lib.hid hK4; clear hK4
      have HC4 := Lib.hid hC4; clear hC4
      clear HCALL c0 c1 c2 c3 d0 dl hadd hbl
      generalize hDA : St.depths (ks.take j) = DA at *
      generalize hDX : (St.mk xo xn xm xks).depth = DX at *
      have HDA := Lib.hid hDA; clear hDA
      have HDX := Lib.hid hDX; clear hDX
      go_wp2
      go_roundw
      case rel =>
        refine ⟨j + 1, by omega, by go_num, ?_, Lib.hid (HKr.out.trans ((Keep.of_below HAL.out).trans HK4.out)), ?_⟩
        · rw [HT2.out]
          congr 1
          first | omega | (rw [HDX.out]; omega) | (rw [HDX.out, HDA.out]; omega) | (simp only [HDX.out, HDA.out]; omega)
        · rw [HT1.out, ← Nat.add_assoc]
          exact HC4
      case measure => simp [intOf]; omega
    · obtain rfl : j = ks.length := by omega
      have hdep : (St.mk op name n ks).depth = St.depths ks + 1 := by rw [St.depth]
      have hsiz : sz + (St.mk op name n ks).size = sz + 1 + St.sizes ks := by rw [St.size]; omega
      rw [List.take_length] at hsl hdl
      have HCr' : Hid (CntS wr zb kb db ((sz + 1 + St.sizes ks : Nat) : Int)) := by rw [List.take_length] at HCr; exact HCr
      rw [List.take_length]
      have HD := Lib.hid hdep; clear hdep
      have HS := Lib.hid hsiz; clear hsiz
      clear HCr hj hsl
      go_wp2
      go_ret
      exact ⟨by rw [HD.out]; rfl, HKr.out, by rw [HS.out]; exact HCr'.out⟩
mutual
theorem deepS : ∀ f : St, DeepS f
  | .mk op name n ks => deep_stepS op name n ks (deepsS ks)
theorem deepsS : ∀ l : List St, ∀ f ∈ l, DeepS f
  | [], f, h => by simp at h
  | k :: ks, f, h => by
    rcases List.mem_cons.1 h with h1 | h1
    · rw [h1]; exact deepS k
    · exact deepsS ks f h1
end
end Go.Proofs.YtlhgflnmdmifaaaDoor.Wk
