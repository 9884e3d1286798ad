/- A part with a condition of commencement. -/
import Derived.Test.YtlhgflnmdmifaaaDoorMA
import Derived.Test.YtlhgflnmdmifaaaDoorPlain
import Derived.IntWalk
import Derived.Test.YtlhgflnmdmifaaaDoorNC
/- The size and the depth of a condition of commencement, as the bounded reader counts them. -/
namespace Go.Proofs.YtlhgflnmdmifaaaDoor.Wk
open Go.RowKit PD

theorem St.sizes_take (l : List St) (j : Nat) (f : St) (h : l[j]? = some f) : St.sizes (l.take (j + 1)) = St.sizes (l.take j) + f.size := by
  induction l generalizing j with
  | nil => simp at h
  | cons x r ih =>
    cases j with
    | zero => simp only [List.getElem?_cons_zero, Option.some.injEq] at h; subst h; simp [St.sizes]
    | succ j => simp only [List.take_succ_cons, St.sizes]; rw [ih j (by simpa using h)]; omega
theorem St.depths_take (l : List St) (j : Nat) (f : St) (h : l[j]? = some f) : St.depths (l.take (j + 1)) = max (St.depths (l.take j)) f.depth := by
  induction l generalizing j with
  | nil => simp at h
  | cons x r ih =>
    cases j with
    | zero => simp only [List.getElem?_cons_zero, Option.some.injEq] at h; subst h; simp [St.depths]
    | succ j => simp only [List.take_succ_cons, St.depths]; rw [ih j (by simpa using h)]; omega
mutual
theorem St.depth_le : ∀ f : St, f.depth ≤ f.size
  | .mk _ _ _ ks => by rw [St.depth, St.size]; have := St.depths_le ks; omega
theorem St.depths_le : ∀ l : List St, St.depths l ≤ St.sizes l
  | [] => by simp [St.depths]
  | k :: ks => by rw [St.depths, St.sizes]; have := St.depth_le k; have := St.depths_le ks; omega
end
theorem St.sizes_take_le (l : List St) (j : Nat) : St.sizes (l.take j) ≤ St.sizes l := by
  induction l generalizing j with
  | nil => simp
  | cons x r ih =>
    cases j with
    | zero => simp [St.sizes]
    | succ j => simp only [List.take_succ_cons, St.sizes]; have := ih j; omega
theorem St.length_le : ∀ l : List St, l.length ≤ St.sizes l
  | [] => by simp
  | .mk _ _ _ _ :: r => by rw [St.sizes, St.size, List.length_cons]; have := St.length_le r; omega
theorem St.size_get (l : List St) (j : Nat) (f : St) (h : l[j]? = some f) : f.size ≤ St.sizes l := by
  have := St.sizes_take l j f h
  have := St.sizes_take_le l (j + 1)
  omega
/-- The j-th formula of a row. -/
theorem RepRowS.get {w : World} {S : Nat → Prop} {b : Nat} : ∀ (l : List St) (o j : Nat) (op : Int) (name : Str) (n : Int) (ks : List St), RepRowS w S b o l → l[j]? = some (.mk op name n ks) →
    w.cell? ⟨b, o + j * 4, none⟩ = some (.int .i64 op) ∧ w.cell? ⟨b, o + j * 4 + 1, none⟩ = some (.string (mkS name)) ∧ w.cell? ⟨b, o + j * 4 + 2, none⟩ = some (.int .i64 n) ∧
      ∃ kv, w.cell? ⟨b, o + j * 4 + 3, none⟩ = some kv ∧ RepKS w S (.mk op name n ks) kv
  | [], o, j, op, name, n, ks, _, h => by simp at h
  | .mk op' name' n' ks' :: r, o, 0, op, name, n, ks, hr, h => by
    simp only [List.getElem?_cons_zero, Option.some.injEq, St.mk.injEq] at h
    obtain ⟨rfl, rfl, rfl, rfl⟩ := h
    rw [RepRowS] at hr
    simpa using hr.1
  | .mk op' name' n' ks' :: r, o, j + 1, op, name, n, ks, hr, h => by
    rw [RepRowS] at hr
    have := RepRowS.get r (o + 4) j op name n ks hr.2 (by simpa using h)
    rw [show o + (j + 1) * 4 = o + 4 + j * 4 from by omega]
    exact this
set_option maxHeartbeats 1000000 in
theorem kidsS_calls (a b c e : Value) (w : World) : Calls Tryd.prog 90 #[.agg #[a, b, c, e]] w fun r w' => r = .returned e ∧ Below w.heap.size w w' := by
  go_enter Tryd.func90, Tryd.ntmps90
  go_wp2
  go_ret
  exact ⟨rfl, below_new _ _⟩
/-- What the counting closure is told: its counter, the function of the kids, itself. -/
structure CntS (w : World) (zb kb db : Nat) (sz : Int) : Prop where
  z : w.heap[zb]? = some (.cells #[.int .i64 sz] 3 (0, 0))
  k : w.heap[kb]? = some (.cells #[.func (.func 90) #[] #[]] 111 (0, 0))
  d : w.heap[db]? = some (.cells #[.func (.func 119) #[] #[.pointer (some ⟨zb, 0, none⟩), .pointer (some ⟨kb, 0, none⟩), .pointer (some ⟨db, 0, none⟩)]] 137 (0, 0))
  kz : kb ≠ zb
  dz : db ≠ zb
theorem CntS.below {w w' : World} {zb kb db : Nat} {sz : Int} (h : CntS w zb kb db sz) (k : Below w.heap.size w w') : CntS w' zb kb db sz :=
  ⟨below_blk k h.z, below_blk k h.k, below_blk k h.d, h.kz, h.dz⟩
def DeepS (f : St) : Prop := ∀ (w : World) (zb kb db : Nat) (sz : Nat) (kv : Value), CntS w zb kb db sz → RepKS w (fun b => b ≠ zb) f kv → sz + f.size ≤ 1000000000 →
  Calls Tryd.prog 119 #[StV f kv, .pointer (some ⟨zb, 0, none⟩), .pointer (some ⟨kb, 0, none⟩), .pointer (some ⟨db, 0, none⟩)] w fun e w' => e = .returned (.int .i64 f.depth) ∧ Keep zb w w' ∧ CntS w' zb kb db ((sz + f.size : Nat) : Int)
set_option maxRecDepth 100000 in
set_option maxHeartbeats 2000000 in
theorem deep_stepS (op : Int) (name : Str) (n : Int) (ks : List St) (ih : ∀ f ∈ ks, DeepS f) : DeepS (.mk op name n ks) := by
  intro w zb kb db sz kv hc hrep hb
  obtain ⟨A, cc, rfl, hl, hm⟩ := hrep.slice
  have hK := kidsS_calls (.int .i64 op) (.string (mkS name)) (.int .i64 n) (.slice A ks.length cc)
  rw [St.size] at hb
  have hlen : ks.length ≤ 1000000000 := by have := St.length_le ks; omega
  have hsz : IntKind.i64.wrap ((sz : Int) + 1) = (sz : Int) + 1 := IntWalk.i64_in _ (by omega)
  have HK := Lib.hid hK; clear hK
  have HX := Lib.hid hrep; clear hrep
  obtain ⟨z0, k0, d0⟩ := And.intro ((blk_cell hc.z 0).trans rfl) (And.intro ((blk_cell hc.k 0).trans rfl) ((blk_cell hc.d 0).trans rfl))
  have zf := blk_free hc.z 0
  have zl := heap_lt hc.z
  have kl := heap_lt hc.k
  have dl := heap_lt hc.d
  have hkz := hc.kz
  have hdz := hc.dz
  have HC := Lib.hid hc; clear hc
  have HIH := Lib.hid ih; clear ih
  have HSZ := Lib.hid hsz; clear hsz
  unfold StV
  simp only [StC]
  go_enter Tryd.func119, Tryd.ntmps119
  go_wp2_with fail
  refine (HK.out _).mono ?_
  rintro e w2 ⟨rfl, hB2⟩
  have hK0 : Keep zb w w2 := (((Keep.refl zb w).set 0 _).alloc _).trans (.of_below hB2)
  have hC2 : CntS w2 zb kb db ((sz + 1 : Nat) : Int) := by
    refine CntS.below (CntS.below ⟨?_, ?_, ?_, hkz, hdz⟩ (below_new _ _)) hB2
    · exact (blk_set HC.out.z 0 _).trans (by simp)
    · exact ((Keep.refl zb w).set 0 _).blk HC.out.k hkz
    · exact ((Keep.refl zb w).set 0 _).blk HC.out.d hdz
  have HK0 := Lib.hid hK0; clear hK0
  have HC2 := Lib.hid hC2; clear hC2
  clear hB2 z0 k0 d0 zf zl kl dl
  go_wp2_with fail
  go_loopw [6, 15] (fun m i wr => ∃ j : Nat, j ≤ ks.length ∧ i = .int .i64 j ∧ m = .int .i64 (St.depths (ks.take j)) ∧ Hid (Keep zb w wr) ∧ Hid (CntS wr zb kb db ((sz + 1 + St.sizes (ks.take j) : Nat) : Int))) (fun _ i _ => ks.length - (intOf i).toNat)
  case atStart => exact ⟨0, Nat.zero_le _, rfl, by simp [St.depths], HK0, by simpa [St.sizes] using HC2⟩
  case round =>
    obtain ⟨j, hj, rfl, rfl, HKr, HCr⟩ := hrel
    have hsl := St.sizes_take_le ks j
    have hdl := St.depths_le (ks.take j)
    by_cases hlt : j < ks.length
    · have hget : ks[j]? = some ks[j] := List.getElem?_eq_getElem hlt
      have hmem := List.mem_of_getElem? hget
      generalize ks[j] = x at hget hmem
      have hih := HIH.out x hmem
      have htk := St.sizes_take ks j x hget
      have htd := St.depths_take ks j x hget
      have hxs := St.sizes_take_le ks (j + 1)
      have hxd := St.depth_le x
      obtain ⟨xo, xn, xm, xks⟩ := x
      have hrep := HX.out
      rw [RepKS] at hrep
      obtain ⟨A', c', he, -, -, hrow⟩ := hrep
      obtain ⟨b, o, rfl, hbz, hrow⟩ := hrow (by intro e; rw [e] at hlt; simp at hlt)
      simp only [Value.slice.injEq] at he
      obtain ⟨rfl, -, -⟩ := he
      obtain ⟨c0, c1, c2, xkv, c3, hxk⟩ := RepRowS.get _ _ _ _ _ _ _ hrow hget
      obtain ⟨xA, xcc, rfl, -⟩ := hxk.slice
      replace c0 := HKr.out.cell c0 hbz
      replace c1 := HKr.out.cell c1 hbz
      replace c2 := HKr.out.cell c2 hbz
      replace c3 := HKr.out.cell c3 hbz
      have hbl := cell_lt c0
      have hadd : (⟨b, o, none⟩ : Addr).add (j * 4) = ⟨b, o + j * 4, none⟩ := by unfold Addr.add; split <;> simp_all
      have hal := below_new wr (.cells #[.int .i64 xo, .string (mkS xn), .int .i64 xm, .slice xA xks.length xcc] 33)
      have hcall := hih _ zb kb db _ (.slice xA xks.length xcc) (HCr.out.below hal) ((hxk.to (fun b _ hS => HKr.out.block b ‹_› hS) (fun _ _ hS => hS)).to (fun b hb _ => hal.block b hb) fun _ _ hS => hS) (by omega)
      have d0 := (blk_cell HCr.out.d 0).trans rfl
      have dl := heap_lt HCr.out.d
      have HT1 := Lib.hid htk; clear htk
      have HT2 := Lib.hid htd; clear htd
      have HCALL := Lib.hid hcall; clear hcall
      have HAL := Lib.hid hal; clear hal
      have HGET := Lib.hid hget; clear hget
      clear hrow hih hmem hxk
      unfold StV at HCALL
      simp only [StC] at HCALL
      go_wp2_with fail
      refine HCALL.out.mono ?_
      rintro e w4 ⟨rfl, hK4, hC4⟩
      have HK4 := Lib.hid hK4; clear hK4
      have HC4 := Lib.hid hC4; clear hC4
      clear HCALL c0 c1 c2 c3 d0 dl hadd hbl
      generalize hDA : St.depths (ks.take j) = DA at *
      generalize hDX : (St.mk xo xn xm xks).depth = DX at *
      have HDA := Lib.hid hDA; clear hDA
      have HDX := Lib.hid hDX; clear hDX
      go_wp2
      go_roundw
      case rel =>
        refine ⟨j + 1, by omega, by go_num, ?_, Lib.hid (HKr.out.trans ((Keep.of_below HAL.out).trans HK4.out)), ?_⟩
        · rw [HT2.out]
          congr 1
          first | omega | (rw [HDX.out]; omega) | (rw [HDX.out, HDA.out]; omega) | (simp only [HDX.out, HDA.out]; omega)
        · rw [HT1.out, ← Nat.add_assoc]
          exact HC4
      case measure => simp [intOf]; omega
    · obtain rfl : j = ks.length := by omega
      have hdep : (St.mk op name n ks).depth = St.depths ks + 1 := by rw [St.depth]
      have hsiz : sz + (St.mk op name n ks).size = sz + 1 + St.sizes ks := by rw [St.size]; omega
      rw [List.take_length] at hsl hdl
      have HCr' : Hid (CntS wr zb kb db ((sz + 1 + St.sizes ks : Nat) : Int)) := by rw [List.take_length] at HCr; exact HCr
      rw [List.take_length]
      have HD := Lib.hid hdep; clear hdep
      have HS := Lib.hid hsiz; clear hsiz
      clear HCr hj hsl
      go_wp2
      go_ret
      exact ⟨by rw [HD.out]; rfl, HKr.out, by rw [HS.out]; exact HCr'.out⟩
mutual
theorem deepS : ∀ f : St, DeepS f
  | .mk op name n ks => deep_stepS op name n ks (deepsS ks)
theorem deepsS : ∀ l : List St, ∀ f ∈ l, DeepS f
  | [], f, h => by simp at h
  | k :: ks, f, h => by
    rcases List.mem_cons.1 h with h1 | h1
    · rw [h1]; exact deepS k
    · exact deepsS ks f h1
end
end Go.Proofs.YtlhgflnmdmifaaaDoor.Wk
/- A condition of commencement whose size and depth are limited. -/
namespace Go.Proofs.YtlhgflnmdmifaaaDoor.Wk
open Go.RowKit PD

def kidsSO : Obj := .cells #[.func (.func 90) #[] #[]] 111
def ReadS (F g b o c : Nat) (l : List (Tok × Nat)) (en : Nat) (read : Tr St) (w : World) (i : Nat) : Prop :=
  ∀ (w1 : World), Below w.heap.size w w1 → Par w1 g b o c l en i → Calls Tryd.prog F #[.pointer (some ⟨g, 0, none⟩)] w1 (Out (EncSt w1) (read.run (l.map (·.1)) i) g b o c l en w1)
set_option maxRecDepth 100000 in
set_option maxHeartbeats 2000000 in
theorem bounded_callsS {w : World} {g b o c : Nat} {l : List (Tok × Nat)} {en i : Nat} (h : Par w g b o c l en i) (F : Nat) (hF : ∀ (args : Array Value) (w : World), (callFunc F args).run Tryd.prog w = .ok (.enter F args) w)
    (read : Tr St) (hread : ReadS F g b o c l en read w i) (hsize : ∀ f i', read.run (l.map (·.1)) i = .ok f i' → f.size ≤ 1000000) (hout : read.run (l.map (·.1)) i ≠ .out) :
    Calls Tryd.prog 88 #[.pointer (some ⟨g, 0, none⟩), .func (.func F) #[.pointer (some ⟨g, 0, none⟩)] #[], .func (.func 90) #[] #[]] w (Out (EncSt w) ((Tr.bounded read St.size St.depth).run (l.map (·.1)) i) g b o c l en w) := by
  have hmf : ∀ (fn : Fn) (first cap : Array Value) (w : World), (Instr.makeFunc fn first cap).run Tryd.prog w = .ok (.func fn first cap) w := fun _ _ _ _ => rfl
  obtain ⟨va, vb, vc, hnv⟩ := nextV_pos l en i
  have hpos : ∃ p, posOf l en i = p := ⟨_, rfl⟩
  obtain ⟨p, hp⟩ := hpos
  rw [hp] at hnv
  have hg := h.lt
  have hrun : (Tr.bounded read St.size St.depth).run (l.map (·.1)) i = (read.run (l.map (·.1)) i).bind fun x i' => if x.depth > 20 ∨ x.size > 200 then .err 2 i else .ok x i' := by
    unfold Tr.bounded
    simp only [Tr.run]
    rw [Tr.run_bind]
    congr 1
    funext x i'
    split <;> rfl
  rw [hrun]
  clear hrun
  have hBA := below_new w kidsSO
  have hBB := below_then hBA (below_new (w.alloc kidsSO) zeroS)
  have HN := Lib.hid (next_calls (h.below hBB))
  rw [hnv] at HN
  have HRD := Lib.hid hread; clear hread
  have HP0 := Lib.hid h; clear h
  have HBB := Lib.hid hBB; clear hBB hBA
  have HP := Lib.hid hp; clear hp hnv
  unfold kidsSO zeroS at HN HBB
  cases hr : read.run (l.map (·.1)) i with
  | out => exact absurd hr hout
  | err er j =>
    simp only [PR.bind]
    have HHR := Lib.hid hr; clear hr hsize hout
    go_enter Tryd.func88, Tryd.ntmps88
    go_wp2_with fail
    refine HN.out.mono ?_
    rintro e w1 ⟨rfl, hB1⟩
    have hBw := below_then HBB.out hB1
    have HC := Lib.hid (Out.err_of HHR.out (HRD.out w1 hBw (HP0.out.below hBw)))
    have HBW := Lib.hid hBw; clear hBw hB1 HN
    have hfa := run_field_At va vb vc (.int .i64 p)
    go_wp2_with fail
    refine HC.out.mono ?_
    rintro e w2 ⟨rfl, hK⟩
    exact ⟨rfl, (Keep.of_below HBW.out).trans hK, rfl⟩
  | ok f i' =>
    simp only [PR.bind]
    have hsz := hsize f i' hr
    have HHR := Lib.hid hr; clear hr hsize hout
    generalize hR3 : (if f.depth > 20 ∨ f.size > 200 then PR.err 2 i else PR.ok f i') = r3
    have HR3 := Lib.hid hR3; clear hR3
    go_enter Tryd.func88, Tryd.ntmps88
    go_wp2_with fail
    refine HN.out.mono ?_
    rintro e w1 ⟨rfl, hB1⟩
    have hBw := below_then HBB.out hB1
    have HC := Lib.hid (Out.ok_of HHR.out (HRD.out w1 hBw (HP0.out.below hBw)))
    have hk1 : w1.heap[w.heap.size]? = some kidsSO := below_blk hB1 (below_blk (below_new _ zeroS) (heap_alloc_new w kidsSO))
    have hr1 : w1.heap[(w.alloc kidsSO).heap.size]? = some zeroS := below_blk hB1 (heap_alloc_new _ zeroS)
    have hs1 : (w.alloc kidsSO).heap.size = w.heap.size + 1 := by simp
    rw [hs1] at hr1
    have HK1 := Lib.hid hk1
    have HR1 := Lib.hid hr1
    have HBW := Lib.hid hBw
    have HB1 := Lib.hid hB1
    clear hBw hB1 HN hk1 hr1 hs1
    have hfa := run_field_At va vb vc (.int .i64 p)
    go_wp2_with fail
    refine HC.out.mono ?_
    rintro e w2 ⟨v, rfl, ⟨kv, rfl, hrep⟩, hP, hK⟩
    have hk2 := hK.blk HK1.out (by omega)
    have hr2 := hK.blk HR1.out (by omega)
    have hr1l : w.heap.size + 1 < w1.heap.size := heap_lt HR1.out
    obtain ⟨fo, fn, fm, fks⟩ := f
    obtain ⟨kA, kc, rfl, -⟩ := hrep.slice
    have HK2 := Lib.hid hk2
    have HR2 := Lib.hid hr2
    have HX := Lib.hid hrep; clear hrep
    have HP2 := Lib.hid hP; clear hP
    have HK := Lib.hid hK; clear hK
    clear HC hk2 hr2 HK1 HR1
    have hfz : (St.mk fo fn fm fks).size ≤ 1000000 := hsz
    have hBX := below_new w2 (.cells #[.int .i64 fo, .string (mkS fn), .int .i64 fm, .slice kA fks.length kc] 33)
    have hbX := heap_alloc_new w2 (.cells #[.int .i64 fo, .string (mkS fn), .int .i64 fm, .slice kA fks.length kc] 33)
    have hsX : (w2.alloc (.cells #[.int .i64 fo, .string (mkS fn), .int .i64 fm, .slice kA fks.length kc] 33)).heap.size = w2.heap.size + 1 := by simp
    have hBZ := below_new (w2.alloc (.cells #[.int .i64 fo, .string (mkS fn), .int .i64 fm, .slice kA fks.length kc] 33)) (.cells #[.int .i64 0] 3)
    have hbZ := heap_alloc_new (w2.alloc (.cells #[.int .i64 fo, .string (mkS fn), .int .i64 fm, .slice kA fks.length kc] 33)) (.cells #[.int .i64 0] 3)
    have hsZ : ((w2.alloc (.cells #[.int .i64 fo, .string (mkS fn), .int .i64 fm, .slice kA fks.length kc] 33)).alloc (.cells #[.int .i64 0] 3)).heap.size = w2.heap.size + 1 + 1 := by simp
    have hBD := below_new ((w2.alloc (.cells #[.int .i64 fo, .string (mkS fn), .int .i64 fm, .slice kA fks.length kc] 33)).alloc (.cells #[.int .i64 0] 3)) (.cells #[.func (.func 119) #[] #[.pointer (some ⟨w2.heap.size + 1, 0, none⟩), .pointer (some ⟨w.heap.size, 0, none⟩), .pointer (some ⟨w2.heap.size + 1 + 1, 0, none⟩)]] 137)
    have hbD := heap_alloc_new ((w2.alloc (.cells #[.int .i64 fo, .string (mkS fn), .int .i64 fm, .slice kA fks.length kc] 33)).alloc (.cells #[.int .i64 0] 3)) (.cells #[.func (.func 119) #[] #[.pointer (some ⟨w2.heap.size + 1, 0, none⟩), .pointer (some ⟨w.heap.size, 0, none⟩), .pointer (some ⟨w2.heap.size + 1 + 1, 0, none⟩)]] 137)
    rw [hsX] at hbZ hBZ
    rw [hsZ] at hbD hBD
    have h12 := HBW.out.size
    have h20 := HK.out.size
    have hBall : Below w2.heap.size w2 (((w2.alloc (.cells #[.int .i64 fo, .string (mkS fn), .int .i64 fm, .slice kA fks.length kc] 33)).alloc (.cells #[.int .i64 0] 3)).alloc (.cells #[.func (.func 119) #[] #[.pointer (some ⟨w2.heap.size + 1, 0, none⟩), .pointer (some ⟨w.heap.size, 0, none⟩), .pointer (some ⟨w2.heap.size + 1 + 1, 0, none⟩)]] 137)) :=
      below_then (below_then hBX (below_new _ _)) (below_new _ _)
    have hX5 := below_blk (by rw [hsZ]; exact hBD) (below_blk (by rw [hsX]; exact hBZ) hbX)
    have hZ5 := below_blk (by rw [hsZ]; exact hBD) hbZ
    have hlw : w.heap.size < w2.heap.size := heap_lt HK2.out
    have hC0 : CntS (((w2.alloc (.cells #[.int .i64 fo, .string (mkS fn), .int .i64 fm, .slice kA fks.length kc] 33)).alloc (.cells #[.int .i64 0] 3)).alloc (.cells #[.func (.func 119) #[] #[.pointer (some ⟨w2.heap.size + 1, 0, none⟩), .pointer (some ⟨w.heap.size, 0, none⟩), .pointer (some ⟨w2.heap.size + 1 + 1, 0, none⟩)]] 137))
        (w2.heap.size + 1) w.heap.size (w2.heap.size + 1 + 1) ((0 : Nat) : Int) := ⟨hZ5, below_blk hBall HK2.out, hbD, by omega, by omega⟩
    have hrep5 := HX.out.to (S' := fun b => b ≠ w2.heap.size + 1) (fun b hb _ => hBall.block b hb) (fun b hb _ => by omega)
    have HD := deepS (.mk fo fn fm fks) _ _ _ _ 0 _ hC0 hrep5 (by omega)
    unfold StV at HD
    simp only [StC, Nat.zero_add] at HD
    have HD := Lib.hid HD
    have HBALL := Lib.hid hBall; clear hBall
    have HX5 := Lib.hid hX5; clear hX5
    have HREP5 := Lib.hid hrep5; clear hrep5
    clear hBX hbX hsX hBZ hbZ hsZ hBD hbD hZ5 hC0
    unfold StV
    simp only [StC]
    go_wp2_with fail
    generalize ((w2.alloc (.cells #[.int .i64 fo, .string (mkS fn), .int .i64 fm, .slice kA fks.length kc] 33)).alloc (.cells #[.int .i64 0] 3)).alloc (.cells #[.func (.func 119) #[] #[.pointer (some ⟨w2.heap.size + 1, 0, none⟩), .pointer (some ⟨w.heap.size, 0, none⟩), .pointer (some ⟨w2.heap.size + 1 + 1, 0, none⟩)]] 137) = w5 at *
    refine HD.out.mono ?_
    rintro e w6 ⟨rfl, hK6, hC6⟩
    clear HD
    have z0 := (blk_cell hC6.z 0).trans rfl
    have zf := blk_free hC6.z 0
    have zl := heap_lt hC6.z
    have hx6 := hK6.blk HX5.out (by omega)
    have hs5 := HBALL.out.size
    have hk26 : Keep g w2 w6 := by
      have := (Keep.of_below (g := w2.heap.size + 1) HBALL.out).trans hK6
      exact ⟨this.os, this.tape, this.output, this.size, fun b hb _ => this.block b hb (by omega)⟩
    have hbr := hk26.blk HR2.out (by omega)
    have hrep6 := HX.out.to (S' := fun b => (w.alloc kidsSO).heap.size + 1 ≤ b ∧ b < w6.heap.size) (fun b hb hS => by
      have := HBW.out.size
      exact hk26.block b hb (by omega)) fun b hb hS => ⟨by have := hS.1; simp only [World.size_alloc]; omega, Nat.lt_of_lt_of_le hb hk26.size⟩
    have hP6 : Par w6 g b o c l en i' := by
      refine (HP0.out.past HP2.out ((Keep.of_below (g := w2.heap.size + 1) HBALL.out).trans hK6) (by omega))
    have hK06 : Keep g ((w.alloc kidsSO).alloc zeroS) w6 := by
      have h1 : Below ((w.alloc kidsSO).alloc zeroS).heap.size ((w.alloc kidsSO).alloc zeroS) w1 := HB1.out
      exact ((Keep.of_below h1).trans HK.out).trans hk26
    have HREP6 := Lib.hid hrep6; clear hrep6
    have HP6 := Lib.hid hP6; clear hP6
    have HK06 := Lib.hid hK06; clear hK06
    have HC6 := Lib.hid hC6; clear hC6
    have HK26 := Lib.hid hk26; clear hk26
    have HBR := Lib.hid hbr; clear hbr
    clear hK6
    obtain ⟨⟨x0, x1, x2, x3⟩, -, hltx⟩ := blk4 hx6
    obtain ⟨⟨d0, d1, d2, d3⟩, ⟨e0, e1, e2, e3⟩, hlt6⟩ := blk4 HBR.out
    have hr3 := HR3.out
    generalize hD : (St.mk fo fn fm fks).depth = D at *
    generalize hZ : (St.mk fo fn fm fks).size = Z at *
    have HDD := Lib.hid hD; clear hD
    have HZZ := Lib.hid hZ; clear hZ
    have HX6 := Lib.hid hx6; clear hx6
    by_cases hd : 20 < D
    · rw [if_pos (.inl hd)] at hr3
      subst hr3
      clear HR3
      go_wp2
      exact ⟨rfl, ((Keep.of_below HBW.out).trans HK.out).trans HK26.out, by show _ = stopped _ ↑(posOf l en i); rw [HP.out]; rfl⟩
    · by_cases hz : 200 < Z
      · rw [if_pos (.inr hz)] at hr3
        subst hr3
        clear HR3
        go_wp2
        exact ⟨rfl, ((Keep.of_below HBW.out).trans HK.out).trans HK26.out, by show _ = stopped _ ↑(posOf l en i); rw [HP.out]; rfl⟩
      · rw [if_neg (by omega)] at hr3
        subst hr3
        clear HR3
        go_wp2
        have hsA : (w.alloc kidsSO).heap.size = w.heap.size + 1 := by simp
        have hbr := HBR.out
        rw [← hsA] at hbr
        obtain ⟨⟨r0, r1, r2, r3⟩, -, -⟩ := blk4 (set4_blk hbr (.int .i64 fo) (.string (mkS fn)) (.int .i64 fm) (.slice kA fks.length kc))
        obtain ⟨q1, q2, q3⟩ := wrapS (HP0.out.below (below_new w kidsSO)) (HREP6.out.to (S' := fun b => ((w.alloc kidsSO).alloc zeroS).heap.size ≤ b ∧ b < w6.heap.size) (fun _ _ _ => rfl) (fun b _ hS => ⟨by simpa using hS.1, hS.2⟩)) HP6.out HK06.out (.int .i64 fo) (.string (mkS fn)) (.int .i64 fm) (.slice kA fks.length kc)
        rw [hsA] at r0 r1 r2 r3 q1 q2 q3
        unfold set4 at r0 r1 r2 r3 q1 q2 q3
        refine bodyPost_ret (v := StV (.mk fo fn fm fks) (.slice kA fks.length kc)) (by simp [results, Tryd.results88, go_sem, r0, r1, r2, r3, StV, StC]) rfl ⟨(Keep.of_below (below_new w kidsSO)).trans q1, _, rfl, ⟨_, rfl, q2.to (fun _ _ _ => rfl) fun b _ hS => ⟨by have := hS.1; omega, hS.2⟩⟩, q3⟩
end Go.Proofs.YtlhgflnmdmifaaaDoor.Wk
namespace Go.Proofs.YtlhgflnmdmifaaaDoor.Wk
open Go.RowKit PD

theorem bounded_out {α : Type} {read : Tr α} {size depth : α → Nat} {l : List Tok} {i : Nat} (h : (Tr.bounded read size depth).run l i ≠ .out) : read.run l i ≠ .out := by
  intro e
  apply h
  unfold Tr.bounded
  simp only [Tr.run]
  rw [Tr.run_bind, e]
  rfl

set_option maxRecDepth 100000 in
set_option maxHeartbeats 1000000 in
theorem when_calls {w : World} {g b o c : Nat} {l : List (Tok × Nat)} {en i : Nat} (h : Par w g b o c l en i) (k : Nat) (hk : k ≤ 6000) (word : Str) (od : Int) (r3 : PR St) (hr3 : (North.part k word od).run (l.map (·.1)) i = r3) (hout : r3 ≠ .out) :
    Calls Tryd.prog 63 #[.pointer (some ⟨g, 0, none⟩), .string (mkS word), .int .i64 od] w (Out (EncSt w) r3 g b o c l en w) := by
  have hmf : ∀ (fn : Fn) (first cap : Array Value) (w : World), (Instr.makeFunc fn first cap).run Tryd.prog w = .ok (.func fn first cap) w := fun _ _ _ _ => rfl
  have hg := h.lt
  have hT := take_calls ((h.below (below_new w zeroS)).below (below_new _ (.cells #[.string (mkS word)] 9))) (w.alloc zeroS).heap.size 1 1 [word] (strs_one _ word) rfl (Nat.le_refl _) (by omega)
  unfold North.part at hr3
  rw [Tr.run_bind] at hr3
  have HP0 := Lib.hid h; clear h
  rcases Tr.run_take_ok (l.map (·.1)) [word] i with ⟨j, hr, hl⟩ | hr
  · rw [hr] at hr3
    simp only [PR.bind] at hr3
    have HT := Lib.hid (Out.ok_of hr hT)
    clear hT hr
    have hbo : (North.start k).run (l.map (·.1)) (i + 1) ≠ .out := bounded_out (size := St.size) (depth := St.depth) (by rw [hr3]; exact hout)
    have HBO := Lib.hid hbo; clear hbo
    have HR3 := Lib.hid hr3; clear hr3
    unfold zeroS at HT
    go_enter Tryd.func63, Tryd.ntmps63
    go_wp2_with fail
    simp only [World.size_alloc] at HT
    refine HT.out.mono ?_
    rintro e w2 ⟨v, rfl, rfl, hP, hK⟩
    have hK1 : Keep g (w.alloc zeroS) w2 := (Keep.of_below (below_new (w.alloc zeroS) _)).trans hK
    have HC := bounded_callsS hP 89 (fun _ _ => by kernel_rfl) (North.start k) (fun w1 _ hP1 => start_calls k hk w1 g b o c l en (i + 1) hP1 HBO.out)
      (fun f i' hf => by
        have := North.start_size k _ (i + 1) (by simp at hl ⊢; omega) f i' hf
        have h2 := HP0.out.few
        rw [List.length_map] at this
        omega) HBO.out
    rw [HR3.out] at HC
    have HP := Lib.hid hP; clear hP
    have HK := Lib.hid hK1; clear hK1 hK
    clear HT
    unfold idxI
    cases r3 with
    | out => exact absurd rfl hout
    | err er je =>
      have HC := Lib.hid (Out.err_of rfl HC)
      clear hout
      go_wp2_with fail
      refine HC.out.mono ?_
      rintro e w3 ⟨rfl, hK3⟩
      exact ⟨rfl, ((Keep.of_below (below_new w zeroS)).trans HK.out).trans hK3, rfl⟩
    | ok s i' =>
      have HC := Lib.hid (Out.ok_of rfl HC)
      clear hout
      go_wp2_with fail
      refine HC.out.mono ?_
      rintro e w3 ⟨v, rfl, ⟨kv, rfl, hrep⟩, hP3, hK3⟩
      have hK13 : Keep g (w.alloc zeroS) w3 := HK.out.trans hK3
      have HB8 := Lib.hid (wrapS_blk hg hK13)
      obtain ⟨⟨d0, d1, d2, d3⟩, ⟨e0, e1, e2, e3⟩, hlt3⟩ := blk4 HB8.out
      have hX3 := hrep.to (S' := fun b => (w.alloc zeroS).heap.size ≤ b ∧ b < w3.heap.size) (fun _ _ _ => rfl) fun b hb hS => ⟨Nat.le_trans HK.out.size hS.1, hb⟩
      obtain ⟨fo, fn, fm, fks⟩ := s
      obtain ⟨kA, kc, rfl, -⟩ := hrep.slice
      have HX := Lib.hid hX3; clear hX3 hrep
      have HP3 := Lib.hid hP3; clear hP3
      have HK3 := Lib.hid hK13; clear hK13 hK3
      clear HC
      unfold StV
      simp only [StC]
      go_wp2
      obtain ⟨⟨r0, r1, r2, r3⟩, -, -⟩ := blk4 (set4_blk HB8.out (.int .i64 fo) (.string (mkS fn)) (.int .i64 fm) (.slice kA fks.length kc))
      obtain ⟨q1, q2, q3⟩ := wrapS HP0.out HX.out HP3.out HK3.out (.int .i64 fo) (.string (mkS fn)) (.int .i64 fm) (.slice kA fks.length kc)
      unfold set4 at r0 r1 r2 r3 q1 q2 q3
      exact bodyPost_ret (v := StV (.mk fo fn fm fks) (.slice kA fks.length kc)) (by simp [results, Tryd.results63, go_sem, r0, r1, r2, r3, StV, StC]) rfl ⟨q1, _, rfl, ⟨_, rfl, q2⟩, q3⟩
  · rw [hr] at hr3
    simp only [PR.bind, Tr.run] at hr3
    subst hr3
    have HT := Lib.hid (Out.ok_of hr hT)
    clear hT hr hout
    unfold zeroS at HT
    go_enter Tryd.func63, Tryd.ntmps63
    go_wp2_with fail
    simp only [World.size_alloc] at HT
    refine HT.out.mono ?_
    rintro e w2 ⟨v, rfl, rfl, hP, hK⟩
    have hK1 : Keep g (w.alloc zeroS) w2 := (Keep.of_below (below_new (w.alloc zeroS) _)).trans hK
    have HB8 := Lib.hid (wrapS_blk hg hK1)
    obtain ⟨⟨d0, d1, d2, d3⟩, ⟨e0, e1, e2, e3⟩, hlt3⟩ := blk4 HB8.out
    have HP := Lib.hid hP; clear hP
    have HK := Lib.hid hK1; clear hK1 hK
    clear HT
    unfold idxI
    go_wp2
    obtain ⟨⟨r0, r1, r2, r3⟩, -, -⟩ := blk4 (set4_blk HB8.out (.int .i64 od) (.string ⟨#[]⟩) (.int .i64 0) (.slice none 0 0))
    obtain ⟨q1, q2, q3⟩ := wrapS HP0.out (RepKS.leaf _ _ od [] 0) HP.out HK.out (.int .i64 od) (.string ⟨#[]⟩) (.int .i64 0) (.slice none 0 0)
    unfold set4 at r0 r1 r2 r3 q1 q2 q3
    exact bodyPost_ret (v := StV (North.st0 od) (.slice none 0 0)) (by simp [results, Tryd.results63, go_sem, r0, r1, r2, r3, StV, StC, North.st0, mkS_nil]) rfl ⟨q1, _, rfl, ⟨_, rfl, q2⟩, q3⟩
end Go.Proofs.YtlhgflnmdmifaaaDoor.Wk
