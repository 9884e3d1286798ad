/- The size and the depth of a formula, as the bounded reader counts them. A formula whose size and depth are limited. The names of provisions. -/
import Derived.Test.YtlhgflnmdmifaaaDoorNA
import Derived.Test.YtlhgflnmdmifaaaDoorREP
import Derived.Deep.LoopGhost
import Derived.IntWalk
import Derived.Test.YtlhgflnmdmifaaaDoorNB
import Derived.Laws.EntriesVeiled
namespace Go.Proofs.YtlhgflnmdmifaaaDoor.Wk
open Go.RowKit PD

theorem Fm.sizes_take (l : List Fm) (j : Nat) (f : Fm) (h : l[j]? = some f) : Fm.sizes (l.take (j + 1)) = Fm.sizes (l.take j) + f.size := by
  induction l generalizing j with
  | nil => simp at h
  | cons x r ih =>
    cases j with
    | zero => simp only [List.getElem?_cons_zero, Option.some.injEq] at h; subst h; simp [Fm.sizes]
    | succ j => simp only [List.take_succ_cons, Fm.sizes]; rw [ih j (by simpa using h)]; omega
theorem Fm.depths_take (l : List Fm) (j : Nat) (f : Fm) (h : l[j]? = some f) : Fm.depths (l.take (j + 1)) = max (Fm.depths (l.take j)) f.depth := by
  induction l generalizing j with
  | nil => simp at h
  | cons x r ih =>
    cases j with
    | zero => simp only [List.getElem?_cons_zero, Option.some.injEq] at h; subst h; simp [Fm.depths]
    | succ j => simp only [List.take_succ_cons, Fm.depths]; rw [ih j (by simpa using h)]; omega
mutual
theorem Fm.depth_le : ∀ f : Fm, f.depth ≤ f.size
  | .mk _ _ _ _ ks => by rw [Fm.depth, Fm.size]; have := Fm.depths_le ks; omega
theorem Fm.depths_le : ∀ l : List Fm, Fm.depths l ≤ Fm.sizes l
  | [] => by simp [Fm.depths]
  | k :: ks => by rw [Fm.depths, Fm.sizes]; have := Fm.depth_le k; have := Fm.depths_le ks; omega
end
theorem Fm.sizes_take_le (l : List Fm) (j : Nat) : Fm.sizes (l.take j) ≤ Fm.sizes l := by
  induction l generalizing j with
  | nil => simp
  | cons x r ih =>
    cases j with
    | zero => simp [Fm.sizes]
    | succ j => simp only [List.take_succ_cons, Fm.sizes]; have := ih j; omega
theorem Fm.length_le : ∀ l : List Fm, l.length ≤ Fm.sizes l
  | [] => by simp
  | .mk _ _ _ _ _ :: r => by rw [Fm.sizes, Fm.size, List.length_cons]; have := Fm.length_le r; omega
theorem Fm.size_get (l : List Fm) (j : Nat) (f : Fm) (h : l[j]? = some f) : f.size ≤ Fm.sizes l := by
  have := Fm.sizes_take l j f h
  have := Fm.sizes_take_le l (j + 1)
  omega


/-- The j-th formula of a row. -/
theorem RepRow.get {w : World} {S : Nat → Prop} {b : Nat} : ∀ (l : List Fm) (o j : Nat) (op : Int) (name : Str) (cmp n : Int) (ks : List Fm), RepRow w S b o l → l[j]? = some (.mk op name cmp n ks) →
    w.cell? ⟨b, o + j * 5, none⟩ = some (.int .i64 op) ∧ w.cell? ⟨b, o + j * 5 + 1, none⟩ = some (.string (mkS name)) ∧ w.cell? ⟨b, o + j * 5 + 2, none⟩ = some (.int .i64 cmp) ∧ w.cell? ⟨b, o + j * 5 + 3, none⟩ = some (.int .i64 n) ∧
      ∃ kv, w.cell? ⟨b, o + j * 5 + 4, none⟩ = some kv ∧ RepK w S (.mk op name cmp n ks) kv
  | [], o, j, op, name, cmp, n, ks, _, h => by simp at h
  | .mk op' name' cmp' n' ks' :: r, o, 0, op, name, cmp, n, ks, hr, h => by
    simp only [List.getElem?_cons_zero, Option.some.injEq, Fm.mk.injEq] at h
    obtain ⟨rfl, rfl, rfl, rfl, rfl⟩ := h
    rw [RepRow] at hr
    simpa using hr.1
  | .mk op' name' cmp' n' ks' :: r, o, j + 1, op, name, cmp, n, ks, hr, h => by
    rw [RepRow] at hr
    have := RepRow.get r (o + 5) j op name cmp n ks hr.2 (by simpa using h)
    rw [show o + (j + 1) * 5 = o + 5 + j * 5 from by omega]
    exact this

set_option maxHeartbeats 1000000 in
theorem kidsF_calls (a b c d e : Value) (w : World) : Calls Tryd.prog 61 #[.agg #[a, b, c, d, e]] w fun r w' => r = .returned e ∧ Below w.heap.size w w' := by
  go_enter Tryd.func61, Tryd.ntmps61
  go_wp2
  go_ret
  exact ⟨rfl, below_new _ _⟩

/-- What the counting closure is told: its counter, the function of the kids, itself. -/
structure Cnt (w : World) (zb kb db : Nat) (sz : Int) : Prop where
  z : w.heap[zb]? = some (.cells #[.int .i64 sz] 3 (0, 0))
  k : w.heap[kb]? = some (.cells #[.func (.func 61) #[] #[]] 95 (0, 0))
  d : w.heap[db]? = some (.cells #[.func (.func 83) #[] #[.pointer (some ⟨zb, 0, none⟩), .pointer (some ⟨kb, 0, none⟩), .pointer (some ⟨db, 0, none⟩)]] 106 (0, 0))
  kz : kb ≠ zb
  dz : db ≠ zb
theorem Cnt.below {w w' : World} {zb kb db : Nat} {sz : Int} (h : Cnt w zb kb db sz) (k : Below w.heap.size w w') : Cnt w' zb kb db sz :=
  ⟨below_blk k h.z, below_blk k h.k, below_blk k h.d, h.kz, h.dz⟩

def DeepF (f : Fm) : Prop := ∀ (w : World) (zb kb db : Nat) (sz : Nat) (kv : Value), Cnt w zb kb db sz → RepK w (fun b => b ≠ zb) f kv → sz + f.size ≤ 1000000000 →
  Calls Tryd.prog 83 #[FmV f kv, .pointer (some ⟨zb, 0, none⟩), .pointer (some ⟨kb, 0, none⟩), .pointer (some ⟨db, 0, none⟩)] w fun e w' => e = .returned (.int .i64 f.depth) ∧ Keep zb w w' ∧ Cnt w' zb kb db ((sz + f.size : Nat) : Int)

set_option maxRecDepth 100000 in
set_option maxHeartbeats 2000000 in
theorem deep_step (op : Int) (name : Str) (cmp n : Int) (ks : List Fm) (ih : ∀ f ∈ ks, DeepF f) : DeepF (.mk op name cmp n ks) := by
  intro w zb kb db sz kv hc hrep hb
  obtain ⟨A, cc, rfl, hl, hm⟩ := hrep.slice
  have hK := kidsF_calls (.int .i64 op) (.string (mkS name)) (.int .i64 cmp) (.int .i64 n) (.slice A ks.length cc)
  rw [Fm.size] at hb
  have hlen : ks.length ≤ 1000000000 := by have := Fm.length_le ks; omega
  have hsz : IntKind.i64.wrap ((sz : Int) + 1) = (sz : Int) + 1 := IntWalk.i64_in _ (by omega)
  have HK := Lib.hid hK; clear hK
  have HX := Lib.hid hrep; clear hrep
  obtain ⟨z0, k0, d0⟩ := And.intro ((blk_cell hc.z 0).trans rfl) (And.intro ((blk_cell hc.k 0).trans rfl) ((blk_cell hc.d 0).trans rfl))
  have zf := blk_free hc.z 0
  have zl := heap_lt hc.z
  have kl := heap_lt hc.k
  have dl := heap_lt hc.d
  have hkz := hc.kz
  have hdz := hc.dz
  have HC := Lib.hid hc; clear hc
  have HIH := Lib.hid ih; clear ih
  have HSZ := Lib.hid hsz; clear hsz
  unfold FmV
  simp only [FmC]
  go_enter Tryd.func83, Tryd.ntmps83
  go_wp2_with fail
  refine (HK.out _).mono ?_
  rintro e w2 ⟨rfl, hB2⟩
  have hK0 : Keep zb w w2 := (((Keep.refl zb w).set 0 _).alloc _).trans (.of_below hB2)
  have hC2 : Cnt w2 zb kb db ((sz + 1 : Nat) : Int) := by
    refine Cnt.below (Cnt.below ⟨?_, ?_, ?_, hkz, hdz⟩ (below_new _ _)) hB2
    · exact (blk_set HC.out.z 0 _).trans (by simp)
    · exact ((Keep.refl zb w).set 0 _).blk HC.out.k hkz
    · exact ((Keep.refl zb w).set 0 _).blk HC.out.d hdz
  have HK0 := Lib.hid hK0; clear hK0
  have HC2 := Lib.hid hC2; clear hC2
  clear hB2 z0 k0 d0 zf zl kl dl
  go_wp2_with fail
  go_loopw [6, 15] (fun m i wr => ∃ j : Nat, j ≤ ks.length ∧ i = .int .i64 j ∧ m = .int .i64 (Fm.depths (ks.take j)) ∧ Hid (Keep zb w wr) ∧ Hid (Cnt wr zb kb db ((sz + 1 + Fm.sizes (ks.take j) : Nat) : Int))) (fun _ i _ => ks.length - (intOf i).toNat)
  case atStart => exact ⟨0, Nat.zero_le _, rfl, by simp [Fm.depths], HK0, by simpa [Fm.sizes] using HC2⟩
  case round =>
    obtain ⟨j, hj, rfl, rfl, HKr, HCr⟩ := hrel
    have hsl := Fm.sizes_take_le ks j
    have hdl := Fm.depths_le (ks.take j)
    by_cases hlt : j < ks.length
    · have hget : ks[j]? = some ks[j] := List.getElem?_eq_getElem hlt
      have hmem := List.mem_of_getElem? hget
      generalize ks[j] = x at hget hmem
      have hih := HIH.out x hmem
      have htk := Fm.sizes_take ks j x hget
      have htd := Fm.depths_take ks j x hget
      have hxs := Fm.sizes_take_le ks (j + 1)
      have hxd := Fm.depth_le x
      obtain ⟨xo, xn, xc, xm, xks⟩ := x
      have hrep := HX.out
      rw [RepK] at hrep
      obtain ⟨A', c', he, -, -, hrow⟩ := hrep
      obtain ⟨b, o, rfl, hbz, hrow⟩ := hrow (by intro e; rw [e] at hlt; simp at hlt)
      simp only [Value.slice.injEq] at he
      obtain ⟨rfl, -, -⟩ := he
      obtain ⟨c0, c1, c2, c3, xkv, c4, hxk⟩ := RepRow.get _ _ _ _ _ _ _ _ hrow hget
      obtain ⟨xA, xcc, rfl, -⟩ := hxk.slice
      replace c0 := HKr.out.cell c0 hbz
      replace c1 := HKr.out.cell c1 hbz
      replace c2 := HKr.out.cell c2 hbz
      replace c3 := HKr.out.cell c3 hbz
      replace c4 := HKr.out.cell c4 hbz
      have hbl := cell_lt c0
      have hadd : (⟨b, o, none⟩ : Addr).add (j * 5) = ⟨b, o + j * 5, none⟩ := by unfold Addr.add; split <;> simp_all
      have hal := below_new wr (.cells #[.int .i64 xo, .string (mkS xn), .int .i64 xc, .int .i64 xm, .slice xA xks.length xcc] 29)
      have hcall := hih _ zb kb db _ (.slice xA xks.length xcc) (HCr.out.below hal) ((hxk.to (fun b _ hS => HKr.out.block b ‹_› hS) (fun _ _ hS => hS)).to (fun b hb _ => hal.block b hb) fun _ _ hS => hS) (by omega)
      have d0 := (blk_cell HCr.out.d 0).trans rfl
      have dl := heap_lt HCr.out.d
      have HT1 := Lib.hid htk; clear htk
      have HT2 := Lib.hid htd; clear htd
      have HCALL := Lib.hid hcall; clear hcall
      have HAL := Lib.hid hal; clear hal
      have HGET := Lib.hid hget; clear hget
      clear hrow hih hmem hxk
      unfold FmV at HCALL
      simp only [FmC] at HCALL
      go_wp2_with fail
      refine HCALL.out.mono ?_
      rintro e w4 ⟨rfl, hK4, hC4⟩
      have HK4 := Lib.hid hK4; clear hK4
      have HC4 := Lib.hid hC4; clear hC4
      clear HCALL c0 c1 c2 c3 c4 d0 dl hadd hbl
      generalize hDA : Fm.depths (ks.take j) = DA at *
      generalize hDX : (Fm.mk xo xn xc xm xks).depth = DX at *
      have HDA := Lib.hid hDA; clear hDA
      have HDX := Lib.hid hDX; clear hDX
      go_wp2
      go_roundw
      case rel =>
        refine ⟨j + 1, by omega, by go_num, ?_, Lib.hid (HKr.out.trans ((Keep.of_below HAL.out).trans HK4.out)), ?_⟩
        · rw [HT2.out]
          congr 1
          first | omega | (rw [HDX.out]; omega) | (rw [HDX.out, HDA.out]; omega) | (simp only [HDX.out, HDA.out]; omega)
        · rw [HT1.out, ← Nat.add_assoc]
          exact HC4
      case measure => simp [intOf]; omega
    · obtain rfl : j = ks.length := by omega
      have hdep : (Fm.mk op name cmp n ks).depth = Fm.depths ks + 1 := by rw [Fm.depth]
      have hsiz : sz + (Fm.mk op name cmp n ks).size = sz + 1 + Fm.sizes ks := by rw [Fm.size]; omega
      rw [List.take_length] at hsl hdl
      have HCr' : Hid (Cnt wr zb kb db ((sz + 1 + Fm.sizes ks : Nat) : Int)) := by rw [List.take_length] at HCr; exact HCr
      rw [List.take_length]
      have HD := Lib.hid hdep; clear hdep
      have HS := Lib.hid hsiz; clear hsiz
      clear HCr hj hsl
      go_wp2
      go_ret
      exact ⟨by rw [HD.out]; rfl, HKr.out, by rw [HS.out]; exact HCr'.out⟩
mutual
theorem deepF : ∀ f : Fm, DeepF f
  | .mk op name cmp n ks => deep_step op name cmp n ks (deepsF ks)
theorem deepsF : ∀ l : List Fm, ∀ f ∈ l, DeepF f
  | [], f, h => by simp at h
  | k :: ks, f, h => by
    rcases List.mem_cons.1 h with h1 | h1
    · rw [h1]; exact deepF k
    · exact deepsF ks f h1
end
end Go.Proofs.YtlhgflnmdmifaaaDoor.Wk
namespace Go.Proofs.YtlhgflnmdmifaaaDoor.Wk
open Go.RowKit PD

theorem nextV_pos (l : List (Tok × Nat)) (en i : Nat) : ∃ a b c, nextV l en i = .agg #[a, b, c, .int .i64 (posOf l en i)] := by
  unfold nextV posOf
  cases l[i]? with
  | none => exact ⟨_, _, _, rfl⟩
  | some x => exact ⟨_, _, _, rfl⟩
def kidsFO : Obj := .cells #[.func (.func 61) #[] #[]] 95
def ReadF (F g b o c : Nat) (l : List (Tok × Nat)) (en : Nat) (read : Tr Fm) (w : World) (i : Nat) : Prop :=
  ∀ (w1 : World), Below w.heap.size w w1 → Par w1 g b o c l en i → Calls Tryd.prog F #[.pointer (some ⟨g, 0, none⟩)] w1 (Out (EncFm w1) (read.run (l.map (·.1)) i) g b o c l en w1)

set_option maxRecDepth 100000 in
set_option maxHeartbeats 2000000 in
theorem bounded_callsF {w : World} {g b o c : Nat} {l : List (Tok × Nat)} {en i : Nat} (h : Par w g b o c l en i) (F : Nat) (hF : ∀ (args : Array Value) (w : World), (callFunc F args).run Tryd.prog w = .ok (.enter F args) w)
    (read : Tr Fm) (hread : ReadF F g b o c l en read w i) (hsize : ∀ f i', read.run (l.map (·.1)) i = .ok f i' → f.size ≤ 1000000) (hout : read.run (l.map (·.1)) i ≠ .out) :
    Calls Tryd.prog 59 #[.pointer (some ⟨g, 0, none⟩), .func (.func F) #[.pointer (some ⟨g, 0, none⟩)] #[], .func (.func 61) #[] #[]] w (Out (EncFm w) ((Tr.bounded read Fm.size Fm.depth).run (l.map (·.1)) i) g b o c l en w) := by
  have hmf : ∀ (fn : Fn) (first cap : Array Value) (w : World), (Instr.makeFunc fn first cap).run Tryd.prog w = .ok (.func fn first cap) w := fun _ _ _ _ => rfl
  obtain ⟨va, vb, vc, hnv⟩ := nextV_pos l en i
  have hpos : ∃ p, posOf l en i = p := ⟨_, rfl⟩
  obtain ⟨p, hp⟩ := hpos
  rw [hp] at hnv
  have hg := h.lt
  have hrun : (Tr.bounded read Fm.size Fm.depth).run (l.map (·.1)) i = (read.run (l.map (·.1)) i).bind fun x i' => if x.depth > 20 ∨ x.size > 200 then .err 2 i else .ok x i' := by
    unfold Tr.bounded
    simp only [Tr.run]
    rw [Tr.run_bind]
    congr 1
    funext x i'
    split <;> rfl
  rw [hrun]
  clear hrun
  have hBA := below_new w kidsFO
  have hBB := below_then hBA (below_new (w.alloc kidsFO) zeroF)
  have HN := Lib.hid (next_calls (h.below hBB))
  rw [hnv] at HN
  have HRD := Lib.hid hread; clear hread
  have HP0 := Lib.hid h; clear h
  have HBB := Lib.hid hBB; clear hBB hBA
  have HP := Lib.hid hp; clear hp hnv
  unfold kidsFO zeroF at HN HBB
  cases hr : read.run (l.map (·.1)) i with
  | out => exact absurd hr hout
  | err er j =>
    simp only [PR.bind]
    have HHR := Lib.hid hr; clear hr hsize hout
    go_enter Tryd.func59, Tryd.ntmps59
    go_wp2_with fail
    refine HN.out.mono ?_
    rintro e w1 ⟨rfl, hB1⟩
    have hBw := below_then HBB.out hB1
    have HC := Lib.hid (Out.err_of HHR.out (HRD.out w1 hBw (HP0.out.below hBw)))
    have HBW := Lib.hid hBw; clear hBw hB1 HN
    have hfa := run_field_At va vb vc (.int .i64 p)
    go_wp2_with fail
    refine HC.out.mono ?_
    rintro e w2 ⟨rfl, hK⟩
    exact ⟨rfl, (Keep.of_below HBW.out).trans hK, rfl⟩
  | ok f i' =>
    simp only [PR.bind]
    have hsz := hsize f i' hr
    have HHR := Lib.hid hr; clear hr hsize hout
    generalize hR3 : (if f.depth > 20 ∨ f.size > 200 then PR.err 2 i else PR.ok f i') = r3
    have HR3 := Lib.hid hR3; clear hR3
    go_enter Tryd.func59, Tryd.ntmps59
    go_wp2_with fail
    refine HN.out.mono ?_
    rintro e w1 ⟨rfl, hB1⟩
    have hBw := below_then HBB.out hB1
    have HC := Lib.hid (Out.ok_of HHR.out (HRD.out w1 hBw (HP0.out.below hBw)))
    have hk1 : w1.heap[w.heap.size]? = some kidsFO := below_blk hB1 (below_blk (below_new _ zeroF) (heap_alloc_new w kidsFO))
    have hr1 : w1.heap[(w.alloc kidsFO).heap.size]? = some zeroF := below_blk hB1 (heap_alloc_new _ zeroF)
    have hs1 : (w.alloc kidsFO).heap.size = w.heap.size + 1 := by simp
    rw [hs1] at hr1
    have HK1 := Lib.hid hk1
    have HR1 := Lib.hid hr1
    have HBW := Lib.hid hBw
    have HB1 := Lib.hid hB1
    clear hBw hB1 HN hk1 hr1 hs1
    have hfa := run_field_At va vb vc (.int .i64 p)
    go_wp2_with fail
    refine HC.out.mono ?_
    rintro e w2 ⟨v, rfl, ⟨kv, rfl, hrep⟩, hP, hK⟩
    have hk2 := hK.blk HK1.out (by omega)
    have hr2 := hK.blk HR1.out (by omega)
    have hr1l : w.heap.size + 1 < w1.heap.size := heap_lt HR1.out
    obtain ⟨fo, fn, fc, fm, fks⟩ := f
    obtain ⟨kA, kc, rfl, -⟩ := hrep.slice
    have HK2 := Lib.hid hk2
    have HR2 := Lib.hid hr2
    have HX := Lib.hid hrep; clear hrep
    have HP2 := Lib.hid hP; clear hP
    have HK := Lib.hid hK; clear hK
    clear HC hk2 hr2 HK1 HR1
    have hfz : (Fm.mk fo fn fc fm fks).size ≤ 1000000 := hsz
    have hBX := below_new w2 (.cells #[.int .i64 fo, .string (mkS fn), .int .i64 fc, .int .i64 fm, .slice kA fks.length kc] 29)
    have hbX := heap_alloc_new w2 (.cells #[.int .i64 fo, .string (mkS fn), .int .i64 fc, .int .i64 fm, .slice kA fks.length kc] 29)
    have hsX : (w2.alloc (.cells #[.int .i64 fo, .string (mkS fn), .int .i64 fc, .int .i64 fm, .slice kA fks.length kc] 29)).heap.size = w2.heap.size + 1 := by simp
    have hBZ := below_new (w2.alloc (.cells #[.int .i64 fo, .string (mkS fn), .int .i64 fc, .int .i64 fm, .slice kA fks.length kc] 29)) (.cells #[.int .i64 0] 3)
    have hbZ := heap_alloc_new (w2.alloc (.cells #[.int .i64 fo, .string (mkS fn), .int .i64 fc, .int .i64 fm, .slice kA fks.length kc] 29)) (.cells #[.int .i64 0] 3)
    have hsZ : ((w2.alloc (.cells #[.int .i64 fo, .string (mkS fn), .int .i64 fc, .int .i64 fm, .slice kA fks.length kc] 29)).alloc (.cells #[.int .i64 0] 3)).heap.size = w2.heap.size + 1 + 1 := by simp
    have hBD := below_new ((w2.alloc (.cells #[.int .i64 fo, .string (mkS fn), .int .i64 fc, .int .i64 fm, .slice kA fks.length kc] 29)).alloc (.cells #[.int .i64 0] 3)) (.cells #[.func (.func 83) #[] #[.pointer (some ⟨w2.heap.size + 1, 0, none⟩), .pointer (some ⟨w.heap.size, 0, none⟩), .pointer (some ⟨w2.heap.size + 1 + 1, 0, none⟩)]] 106)
    have hbD := heap_alloc_new ((w2.alloc (.cells #[.int .i64 fo, .string (mkS fn), .int .i64 fc, .int .i64 fm, .slice kA fks.length kc] 29)).alloc (.cells #[.int .i64 0] 3)) (.cells #[.func (.func 83) #[] #[.pointer (some ⟨w2.heap.size + 1, 0, none⟩), .pointer (some ⟨w.heap.size, 0, none⟩), .pointer (some ⟨w2.heap.size + 1 + 1, 0, none⟩)]] 106)
    rw [hsX] at hbZ hBZ
    rw [hsZ] at hbD hBD
    have h12 := HBW.out.size
    have h20 := HK.out.size
    have hBall : Below w2.heap.size w2 (((w2.alloc (.cells #[.int .i64 fo, .string (mkS fn), .int .i64 fc, .int .i64 fm, .slice kA fks.length kc] 29)).alloc (.cells #[.int .i64 0] 3)).alloc (.cells #[.func (.func 83) #[] #[.pointer (some ⟨w2.heap.size + 1, 0, none⟩), .pointer (some ⟨w.heap.size, 0, none⟩), .pointer (some ⟨w2.heap.size + 1 + 1, 0, none⟩)]] 106)) :=
      below_then (below_then hBX (below_new _ _)) (below_new _ _)
    have hX5 := below_blk (by rw [hsZ]; exact hBD) (below_blk (by rw [hsX]; exact hBZ) hbX)
    have hZ5 := below_blk (by rw [hsZ]; exact hBD) hbZ
    have hlw : w.heap.size < w2.heap.size := heap_lt HK2.out
    have hC0 : Cnt (((w2.alloc (.cells #[.int .i64 fo, .string (mkS fn), .int .i64 fc, .int .i64 fm, .slice kA fks.length kc] 29)).alloc (.cells #[.int .i64 0] 3)).alloc (.cells #[.func (.func 83) #[] #[.pointer (some ⟨w2.heap.size + 1, 0, none⟩), .pointer (some ⟨w.heap.size, 0, none⟩), .pointer (some ⟨w2.heap.size + 1 + 1, 0, none⟩)]] 106))
        (w2.heap.size + 1) w.heap.size (w2.heap.size + 1 + 1) ((0 : Nat) : Int) := ⟨hZ5, below_blk hBall HK2.out, hbD, by omega, by omega⟩
    have hrep5 := HX.out.to (S' := fun b => b ≠ w2.heap.size + 1) (fun b hb _ => hBall.block b hb) (fun b hb _ => by omega)
    have HD := deepF (.mk fo fn fc fm fks) _ _ _ _ 0 _ hC0 hrep5 (by omega)
    unfold FmV at HD
    simp only [FmC, Nat.zero_add] at HD
    have HD := Lib.hid HD
    have HBALL := Lib.hid hBall; clear hBall
    have HX5 := Lib.hid hX5; clear hX5
    have HREP5 := Lib.hid hrep5; clear hrep5
    clear hBX hbX hsX hBZ hbZ hsZ hBD hbD hZ5 hC0
    unfold FmV
    simp only [FmC]
    go_wp2_with fail
    generalize ((w2.alloc (.cells #[.int .i64 fo, .string (mkS fn), .int .i64 fc, .int .i64 fm, .slice kA fks.length kc] 29)).alloc (.cells #[.int .i64 0] 3)).alloc (.cells #[.func (.func 83) #[] #[.pointer (some ⟨w2.heap.size + 1, 0, none⟩), .pointer (some ⟨w.heap.size, 0, none⟩), .pointer (some ⟨w2.heap.size + 1 + 1, 0, none⟩)]] 106) = w5 at *
    refine HD.out.mono ?_
    rintro e w6 ⟨rfl, hK6, hC6⟩
    clear HD
    have z0 := (blk_cell hC6.z 0).trans rfl
    have zf := blk_free hC6.z 0
    have zl := heap_lt hC6.z
    have hx6 := hK6.blk HX5.out (by omega)
    have hs5 := HBALL.out.size
    have hk26 : Keep g w2 w6 := by
      have := (Keep.of_below (g := w2.heap.size + 1) HBALL.out).trans hK6
      exact ⟨this.os, this.tape, this.output, this.size, fun b hb _ => this.block b hb (by omega)⟩
    have hbr := hk26.blk HR2.out (by omega)
    have hrep6 := HX.out.to (S' := fun b => (w.alloc kidsFO).heap.size + 1 ≤ b ∧ b < w6.heap.size) (fun b hb hS => by
      have := HBW.out.size
      exact hk26.block b hb (by omega)) fun b hb hS => ⟨by have := hS.1; simp only [World.size_alloc]; omega, Nat.lt_of_lt_of_le hb hk26.size⟩
    have hP6 : Par w6 g b o c l en i' := by
      refine (HP0.out.past HP2.out ((Keep.of_below (g := w2.heap.size + 1) HBALL.out).trans hK6) (by omega))
    have hK06 : Keep g ((w.alloc kidsFO).alloc zeroF) w6 := by
      have h1 : Below ((w.alloc kidsFO).alloc zeroF).heap.size ((w.alloc kidsFO).alloc zeroF) w1 := HB1.out
      exact ((Keep.of_below h1).trans HK.out).trans hk26
    have HREP6 := Lib.hid hrep6; clear hrep6
    have HP6 := Lib.hid hP6; clear hP6
    have HK06 := Lib.hid hK06; clear hK06
    have HC6 := Lib.hid hC6; clear hC6
    have HK26 := Lib.hid hk26; clear hk26
    have HBR := Lib.hid hbr; clear hbr
    clear hK6
    obtain ⟨⟨x0, x1, x2, x3, x4⟩, -, hltx⟩ := blk5 hx6
    obtain ⟨⟨d0, d1, d2, d3, d4⟩, ⟨e0, e1, e2, e3, e4⟩, hlt6⟩ := blk5 HBR.out
    have hr3 := HR3.out
    generalize hD : (Fm.mk fo fn fc fm fks).depth = D at *
    generalize hZ : (Fm.mk fo fn fc fm fks).size = Z at *
    have HDD := Lib.hid hD; clear hD
    have HZZ := Lib.hid hZ; clear hZ
    have HX6 := Lib.hid hx6; clear hx6
    by_cases hd : 20 < D
    · rw [if_pos (.inl hd)] at hr3
      subst hr3
      clear HR3
      go_wp2
      exact ⟨rfl, ((Keep.of_below HBW.out).trans HK.out).trans HK26.out, by show _ = stopped _ ↑(posOf l en i); rw [HP.out]; rfl⟩
    · by_cases hz : 200 < Z
      · rw [if_pos (.inr hz)] at hr3
        subst hr3
        clear HR3
        go_wp2
        exact ⟨rfl, ((Keep.of_below HBW.out).trans HK.out).trans HK26.out, by show _ = stopped _ ↑(posOf l en i); rw [HP.out]; rfl⟩
      · rw [if_neg (by omega)] at hr3
        subst hr3
        clear HR3
        go_wp2
        have hsA : (w.alloc kidsFO).heap.size = w.heap.size + 1 := by simp
        have hbr := HBR.out
        rw [← hsA] at hbr
        obtain ⟨⟨r0, r1, r2, r3, r4⟩, -, -⟩ := blk5 (set5_blk hbr (.int .i64 fo) (.string (mkS fn)) (.int .i64 fc) (.int .i64 fm) (.slice kA fks.length kc))
        obtain ⟨q1, q2, q3⟩ := wrapF (HP0.out.below (below_new w kidsFO)) (HREP6.out.to (S' := fun b => ((w.alloc kidsFO).alloc zeroF).heap.size ≤ b ∧ b < w6.heap.size) (fun _ _ _ => rfl) (fun b _ hS => ⟨by simpa using hS.1, hS.2⟩)) HP6.out HK06.out (.int .i64 fo) (.string (mkS fn)) (.int .i64 fc) (.int .i64 fm) (.slice kA fks.length kc)
        rw [hsA] at r0 r1 r2 r3 r4 q1 q2 q3
        unfold set5 at r0 r1 r2 r3 r4 q1 q2 q3
        refine bodyPost_ret (v := FmV (.mk fo fn fc fm fks) (.slice kA fks.length kc)) (by simp [results, Tryd.results59, go_sem, r0, r1, r2, r3, r4, FmV, FmC]) rfl ⟨(Keep.of_below (below_new w kidsFO)).trans q1, _, rfl, ⟨_, rfl, q2.to (fun _ _ _ => rfl) fun b _ hS => ⟨by have := hS.1; omega, hS.2⟩⟩, q3⟩
end Go.Proofs.YtlhgflnmdmifaaaDoor.Wk
namespace Go.Proofs.YtlhgflnmdmifaaaDoor.Wk
open Go.RowKit PD

/-- A row of strings that was made. -/
def rowS (l : List Str) : List Value := l.map fun s => .string (mkS s)
def EncStrs (w0 w' : World) (l : List Str) (v : Value) : Prop := w'.ownsRow w0.heap.size 9 1 v l.length (rowS l)
theorem own_keep {g base : Nat} {w w' : World} {e : TypeId} {size n : Nat} {v : Value} {xs : List Value} (h : w.ownsRow base e size v n xs) (k : Keep g w w') (hg : g < base) : w'.ownsRow base e size v n xs := by
  refine ⟨h.1, ?_⟩
  rcases h.2 with h | ⟨g', cap, cur, h1, h2, h3, h4⟩
  · exact .inl h
  · exact .inr ⟨g', cap, cur, h1, h2, k.blk h3 (by omega), h4⟩
theorem own_slice {base : Nat} {w : World} {e : TypeId} {size n : Nat} {v : Value} {xs : List Value} (h : w.ownsRow base e size v n xs) : ∃ A cc, v = .slice A n cc := by
  rcases h.2 with ⟨rfl, rfl⟩ | ⟨g', cap, cur, rfl, _⟩
  · exact ⟨_, _, rfl⟩
  · exact ⟨_, _, rfl⟩
theorem info_string : (Tryd.prog.info? 9).map (fun i => (i.zero, i.size, i.bytes)) = some (some (.string ⟨#[]⟩), 1, 16) := by kernel_rfl
theorem contains_of (l : List Str) (s : Str) : Lib.containsS (l.map mkS) (mkS s) = l.contains s := by
  rw [Bool.eq_iff_iff, Lib.containsS_iff, List.contains_iff_mem, List.mem_map]
  constructor
  · rintro ⟨a, ha, e⟩; rwa [mkS_inj e] at ha
  · intro h; exact ⟨s, h, rfl⟩
theorem contains_own {base : Nat} {w : World} {v : Value} {l : List Str} (h : w.ownsRow base 9 1 v l.length (rowS l)) (s : Str) :
    Calls Tryd.prog 87 #[v, .string (mkS s)] w fun e w' => e = .returned (.bool (l.contains s)) ∧ w' = w := by
  rcases h.2 with ⟨rfl, h0⟩ | ⟨g', cap, cur, rfl, hb, h1, h2, h3, h4, h5⟩
  · obtain rfl := List.eq_nil_of_length_eq_zero h0
    exact Tryd.slices_Contains_string_empty none 0 (mkS s) w
  · have hc : ∀ j, j < (l.map mkS).length → w.cell? ⟨g', 0 + j, none⟩ = some (.string ((l.map mkS).getD j ByteArray.empty)) := by
      intro j hj
      rw [List.length_map] at hj
      have := own_cell h (j := j) (u := .string (mkS (l[j]))) (by simp [rowS, hj])
      rw [Nat.zero_add, this]
      simp [List.getD, hj]
    refine (Tryd.slices_Contains_string g' 0 l.length cap (l.map mkS) (mkS s) w (by simp) (by simpa [maxLen] using Nat.le_trans h2 h3) hc).mono ?_
    rintro e w' ⟨rfl, rfl⟩
    refine ⟨?_, rfl⟩
    rw [show l.length = (l.map mkS).length from by simp, List.take_length, contains_of]

/-- What holds at the head of the loop. -/
def LoopE (g b o c : Nat) (l : List (Tok × Nat)) (en : Nat) (w0 : World) (r : PR (List Str)) (k : Nat) (v : Value) (wr : World) : Prop :=
  ∃ (acc : List Str) (i1 : Nat), acc.length ≤ 20 ∧ wr.ownsRow w0.heap.size 9 1 v acc.length (rowS acc) ∧ Par wr g b o c l en i1 ∧ Keep g w0 wr ∧ (North.except k acc).run (l.map (·.1)) i1 = r

theorem run_except (k : Nat) (acc : List Str) (l : List Tok) (i : Nat) : (North.except (k + 1) acc).run l i = (North.nm.run l i).bind fun s i' => if acc.contains s then .err 9 i else if acc.length = 20 then .err 2 i else
    ((Tr.take [[44]]).run l i').bind fun o i2 => match o with
      | some _ => (North.except k (acc ++ [s])).run l i2
      | none => .ok (acc ++ [s]) i2 := by
  simp only [North.except, Tr.run]
  rw [Tr.run_bind]
  congr 1
  funext s i'
  split
  · rfl
  · split
    · rfl
    · rw [Tr.run_bind]
      congr 1
      funext o i2
      cases o <;> rfl

set_option maxRecDepth 100000 in
set_option maxHeartbeats 4000000 in
theorem except_calls {w : World} {g b o c : Nat} {l : List (Tok × Nat)} {en i : Nat} (h : Par w g b o c l en i) (kk : Nat) (r : PR (List Str)) (hr : (North.except kk []).run (l.map (·.1)) i = r) (hout : r ≠ .out) :
    Calls Tryd.prog 62 #[.pointer (some ⟨g, 0, none⟩)] w (Out (EncStrs w) r g b o c l en w) := by
  have hglt := h.lt
  have HREL : Hid (LoopE g b o c l en w r kk (.slice none 0 0) w) := Lib.hid ⟨[], i, by simp, ⟨rfl, .inl ⟨rfl, rfl⟩⟩, h, Keep.refl g w, hr⟩
  have HP0 := Lib.hid h; clear h hr
  have HO := Lib.hid hout; clear hout
  go_enter Tryd.func62, Tryd.ntmps62
  go_wp2_with fail
  go_loopg [3] kk (fun k v wr => LoopE g b o c l en w r k v wr)
  case atStart => exact HREL.out
  case round =>
    clear HREL
    obtain ⟨acc, i2, hlen, hown, hP, hK, hrun⟩ := hrel
    cases gk with
    | zero => exact absurd hrun.symm HO.out
    | succ k =>
      rw [run_except] at hrun
      obtain ⟨va, vb, vc, hnv⟩ := nextV_pos l en i2
      have hpos : ∃ p, posOf l en i2 = p := ⟨_, rfl⟩
      obtain ⟨p, hp⟩ := hpos
      rw [hp] at hnv
      have HN := Lib.hid (next_calls hP)
      rw [hnv] at HN
      obtain ⟨vA, vcc, rfl⟩ := own_slice hown
      have HPOS := Lib.hid hp; clear hp hnv
      have HP := Lib.hid hP; clear hP
      have HK := Lib.hid hK; clear hK
      have HOW := Lib.hid hown; clear hown
      have HRUN := Lib.hid hrun; clear hrun
      have hfa := run_field_At va vb vc (.int .i64 p)
      go_wp2_with fail
      refine HN.out.mono ?_
      rintro e w3 ⟨rfl, hB3⟩
      have HB3 := Lib.hid hB3; clear hB3 HN
      have HC := name_calls (HP.out.below HB3.out)
      cases hn : North.nm.run (l.map (·.1)) i2 with
      | out =>
        exfalso
        have := Tr.goes_name (l := l.map (·.1)) (k := North.isKey) (i := i2)
        unfold Tr.Goes at this
        have e : (Tr.name North.isKey).run (l.map (·.1)) i2 = .out := hn
        rw [e] at this
        exact this
      | err er je =>
        have h1 := HRUN.out
        simp only [PR.bind, hn] at h1
        subst h1
        have HC := Lib.hid (Out.err_of hn HC)
        clear hn HRUN
        go_wp2_with fail
        refine HC.out.mono ?_
        rintro e w4 ⟨rfl, hK4⟩
        exact ⟨rfl, (HK.out.trans (.of_below HB3.out)).trans hK4, rfl⟩
      | ok s i3 =>
        have h1 := HRUN.out
        simp only [PR.bind, hn] at h1
        have HRUN := Lib.hid h1; clear h1
        have HC := Lib.hid (Out.ok_of hn HC)
        clear hn
        go_wp2_with fail
        refine HC.out.mono ?_
        rintro e w4 ⟨v, rfl, rfl, hP4, hK4⟩
        have hK34 : Keep g wr w4 := (Keep.of_below HB3.out).trans hK4
        have ho4 := own_keep HOW.out hK34 hglt
        have HCT := Lib.hid (contains_own ho4 s)
        have HO4 := Lib.hid ho4; clear ho4
        have HP4 := Lib.hid hP4; clear hP4
        have HK4 := Lib.hid hK34; clear hK34 hK4
        clear HC
        cases hct : acc.contains s with
        | true =>
          rw [hct] at HCT
          have h1 := HRUN.out
          rw [if_pos hct] at h1
          subst h1
          clear hct HRUN
          go_wp2_with fail
          refine HCT.out.mono ?_
          rintro e w5 ⟨rfl, rfl⟩
          go_wp2
          exact ⟨rfl, HK.out.trans HK4.out, by show _ = stopped _ ↑(posOf l en i2); rw [HPOS.out]; rfl⟩
        | false =>
          rw [hct] at HCT
          have h1 := HRUN.out
          rw [if_neg (by rw [hct]; simp)] at h1
          have HRUN := Lib.hid h1; clear h1
          clear hct
          go_wp2_with fail
          refine HCT.out.mono ?_
          rintro e w5 ⟨rfl, rfl⟩
          generalize hal : acc.length = n at *
          have HAL := Lib.hid hal; clear hal
          by_cases h20 : n = 20
          · have hb20 : ((n : Int) == 20) = true := by simp [h20]
            have h1 := HRUN.out
            rw [if_pos h20] at h1
            subst h1
            clear HRUN h20
            go_wp2
            exact ⟨rfl, HK.out.trans HK4.out, by show _ = stopped _ ↑(posOf l en i2); rw [HPOS.out]; rfl⟩
          · have hb20 : ((n : Int) == 20) = false := by simp; omega
            have h1 := HRUN.out
            rw [if_neg h20] at h1
            have HRUN := Lib.hid h1; clear h1
            obtain ⟨i0, hi0, hzz⟩ := Option.map_eq_some_iff.1 info_string
            simp only [Prod.mk.injEq] at hzz
            obtain ⟨hz0, hz1, hz2⟩ := hzz
            have HI0 := Lib.hid hi0; clear hi0
            have HZ0 := Lib.hid hz0; clear hz0
            have HZ1 := Lib.hid hz1; clear hz1
            have HZ2 := Lib.hid hz2; clear hz2
            have hbase : w.heap.size ≤ w5.heap.size := Nat.le_trans HK.out.size HK4.out.size
            have hc1 : ∀ (j' : Nat) (u : Value), [Value.string (mkS s)][j']? = some u → (w5.alloc (.cells #[.string (mkS s)] 9)).cell? ((⟨w5.heap.size, 0, none⟩ : Addr).add j') = some u := by
              intro j' u hu
              rw [add_plain, blk_cell (heap_alloc_new w5 _) j']
              simpa using hu
            have hc2 : ∀ u ∈ [Value.string (mkS s)], u.oneCell' = true := by
              intro u hu
              simp only [List.mem_cons, List.not_mem_nil, or_false] at hu
              subst hu; rfl
            have hc3 : n + 1 ≤ maxLen := by simp only [maxLen]; omega
            have hc4 : (n + 1) * 16 ≤ 140737488355328 := by omega
            have hc5 : w.heap.size ≤ (w5.alloc (.cells #[.string (mkS s)] 9)).heap.size := by simp; omega
            have hnew : ∀ k, (Value.slice vA n vcc).ownBlock = some k → w.heap.size ≤ k ∧ k < w5.heap.size := fun k hk => HO4.out.lt k hk
            have HC1 := Lib.hid hc1; clear hc1
            have HC2 := Lib.hid hc2; clear hc2
            have HC3 := Lib.hid hc3; clear hc3
            have HC4 := Lib.hid hc4; clear hc4
            have HC5 := Lib.hid hc5; clear hc5
            have HNEW := Lib.hid hnew; clear hnew
            clear HCT
            go_wp2_with (at_builtin; refine wpList_append_own_at (w5.alloc (.cells #[.string (mkS s)] 9)) rfl _ _ 30 rfl w.heap.size 9 i0 _ 1 16 Tryd.underlying30 HI0.out HZ0.out HZ1.out HZ2.out rfl (by decide) (.slice vA n vcc) n (rowS acc) rfl (HO4.out.alloc _) ⟨w5.heap.size, 0, none⟩ 1 1 [.string (mkS s)] rfl rfl HC1.out HC2.out HC3.out HC4.out HC5.out ?_; intro v' w6 hown' hgrow _ hat; have HOWN' := Lib.hid hown'; have HGROW := Lib.hid hgrow; have HAT := Lib.hid hat; clear hown' hgrow hat)
            have hal := below_new w5 (.cells #[.string (mkS s)] 9)
            have hasz : (w5.alloc (.cells #[.string (mkS s)] 9)).heap.size = w5.heap.size + 1 := by simp
            generalize w5.alloc (.cells #[.string (mkS s)] 9) = w5' at *
            obtain ⟨t, ht, hKt⟩ := Keep.of_grown HGROW.out fun k hk => (HNEW.out k hk).1
            have hP6 : Par w6 g b o c l en i3 := HP0.out.past (HP4.out.below hal) hKt ht
            have hK6 : Keep g w w6 := ((HK.out.trans HK4.out).trans (.of_below hal)).newer hKt ht
            have HT := take_calls (hP6.below (below_new w6 (.cells #[.string (mkS [44])] 9))) w6.heap.size 1 1 [[44]] (strs_one w6 [44]) rfl (Nat.le_refl _) (by omega)
            have HP6 := Lib.hid hP6; clear hP6
            have HK6 := Lib.hid hK6; clear hK6
            clear hal hKt hasz
            have hown6 : w6.ownsRow w.heap.size 9 1 v' (acc ++ [s]).length (rowS (acc ++ [s])) := by
              have h1 := HOWN'.out
              rw [List.length_append, List.length_singleton, HAL.out]
              simpa [rowS] using h1
            have HO6 := Lib.hid hown6; clear hown6
            rcases Tr.run_take_ok (l.map (·.1)) [[44]] i3 with ⟨j, hr, hl2⟩ | hr
            · have h1 := HRUN.out
              rw [hr] at h1
              simp only at h1
              have HRUN := Lib.hid h1; clear h1
              have HT := Lib.hid (Out.ok_of hr HT)
              unfold mkS at HT
              clear hr hl2
              go_wp2_with fail
              refine HT.out.mono ?_
              rintro e w7 ⟨v, rfl, rfl, hP7, hK7⟩
              have HP7 := Lib.hid hP7; clear hP7
              have hK67 := (Keep.of_below (below_new w6 _)).trans hK7
              have HO7 := Lib.hid (own_keep HO6.out hK67 hglt)
              have HK7 := Lib.hid (HK6.out.trans hK67); clear hK7 hK67
              clear HT
              unfold idxI
              go_wp2
              go_roundg k
              case measure => omega
              case rel =>
                exact ⟨acc ++ [s], i3 + 1, by rw [List.length_append, HAL.out]; simp; omega, HO7.out, HP7.out, HK7.out, HRUN.out⟩
            · have h1 := HRUN.out
              rw [hr] at h1
              simp only at h1
              subst h1
              have HT := Lib.hid (Out.ok_of hr HT)
              unfold mkS at HT
              clear hr
              go_wp2_with fail
              refine HT.out.mono ?_
              rintro e w7 ⟨v, rfl, rfl, hP7, hK7⟩
              have HP7 := Lib.hid hP7; clear hP7
              have HK7 := Lib.hid ((Keep.of_below (below_new _ _)).trans hK7); clear hK7
              clear HT
              unfold idxI
              go_wp2
              go_ret
              exact ⟨HK6.out.trans HK7.out, _, rfl, own_keep HO6.out HK7.out hglt, HP7.out⟩
end Go.Proofs.YtlhgflnmdmifaaaDoor.Wk
