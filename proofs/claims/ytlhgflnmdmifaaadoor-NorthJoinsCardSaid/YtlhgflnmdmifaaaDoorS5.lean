/- The examples of the chapter: what they are read as, and the verifier's head. -/
import Derived.Test.YtlhgflnmdmifaaaDoorS4
namespace PD
namespace North
def tx1 : Str := [97, 99, 116, 32, 116, 97, 120, 49, 58, 32, 97, 110, 115, 119, 101, 114, 32, 116, 97, 120, 32, 105, 115, 32, 53, 32, 105, 102, 32, 105, 110, 99, 111, 109, 101, 32, 62, 32, 51, 32, 97, 110, 100, 32, 110, 111, 116, 32, 112, 111, 111, 114, 46]
def tx2 : Str := [98, 121, 108, 97, 119, 32, 112, 58, 32, 100, 101, 102, 105, 110, 101, 32, 112, 111, 111, 114, 32, 105, 102, 32, 105, 110, 99, 111, 109, 101, 32, 60, 32, 50, 32, 111, 114, 32, 105, 110, 99, 111, 109, 101, 32, 60, 32, 52, 32, 97, 110, 100, 32, 109, 101, 109, 98, 101, 114, 32, 61, 32, 49, 32, 102, 114, 111, 109, 32, 111, 114, 100, 101, 114, 32, 111, 49, 32, 117, 110, 116, 105, 108, 32, 100, 97, 121, 32, 53, 48, 46]
def tx3 : Str := [97, 99, 116, 32, 97, 58, 32, 97, 110, 115, 119, 101, 114, 32, 113, 32, 105, 115, 32, 49, 48, 48, 48, 48, 48, 49, 46]
def tx4 : Str := [97, 99, 116, 32, 105, 115, 58, 32, 100, 101, 102, 105, 110, 101, 32, 120, 46]
def tx5 : Str := [97, 99, 116, 32, 97, 58, 32, 100, 101, 102, 105, 110, 101, 32, 120]
def fIncome : Fm := .mk 3 [105, 110, 99, 111, 109, 101] 5 3 []
def fPoor : Fm := .mk 5 [] 0 0 [.mk 4 [112, 111, 111, 114] 0 0 []]
def sNever : St := .mk 2 [] 0 []
def pvA1 : Pv := { id := [116, 97, 120, 49], rank := 2, kind := 2, name := [116, 97, 120], value := 5, when_ := .mk 6 [] 0 0 [fIncome, fPoor], except := [], begin_ := .mk 1 [] 0 [], end_ := sNever, again := sNever }
def fBoth : Fm := .mk 6 [] 0 0 [.mk 3 [105, 110, 99, 111, 109, 101] 3 4 [], .mk 3 [109, 101, 109, 98, 101, 114] 1 1 []]
def pvA2 : Pv := { id := [112], rank := 4, kind := 1, name := [112, 111, 111, 114], value := 0, when_ := .mk 7 [] 0 0 [.mk 3 [105, 110, 99, 111, 109, 101] 3 2 [], fBoth], except := [], begin_ := .mk 4 [111, 49] 0 [], end_ := .mk 3 [] 50 [], again := sNever }
theorem rd1 : read tx1 = .ok pvA1 := by kernel_rfl
theorem rd2 : read tx2 = .ok pvA2 := by kernel_rfl
theorem rd3 : read tx3 = .error (10, 19) := by kernel_rfl
theorem rd4 : read tx4 = .error (5, 4) := by kernel_rfl
theorem rd5 : read tx5 = .error (6, 15) := by kernel_rfl
end North
end PD
namespace Go.Proofs.YtlhgflnmdmifaaaDoor.Wk
open Go.RowKit PD
/-- Parse of a given text with a provision, or with an error. -/
theorem parse_lit {s : Str} {p : Pv} (hr : North.read s = .ok p) (hs : s.length < 4611686018427387904) (w : World) {m : Int} (hm : w.cell? ⟨2, 0, none⟩ = some (.int .i64 m)) :
    Calls Tryd.prog 16 #[.string (mkS s)] w fun e w' => Below w.heap.size w w' ∧ ∃ CS : Array Value, e = .returned (.tuple #[.agg CS, .int .i64 0, .int .i64 0]) ∧ CS.size = 23 ∧ CS.all (·.oneCell') = true ∧ PvMem w' p (.agg CS) := by
  refine (parse_u s hs w hm).mono ?_
  rintro e w' ⟨hB, CS, rfl, h1, h2, h3⟩
  rw [North.pvOf, hr] at h3
  exact ⟨hB, CS, by rw [North.errOf, North.atOf, hr]; rfl, h1, h2, h3⟩
theorem parse_bad {s : Str} {er : Nat} {at_ : Int} (hr : North.read s = .error (er, at_)) (hs : s.length < 4611686018427387904) (w : World) {m : Int} (hm : w.cell? ⟨2, 0, none⟩ = some (.int .i64 m)) :
    Calls Tryd.prog 16 #[.string (mkS s)] w fun e w' => Below w.heap.size w w' ∧ ∃ CS : Array Value, e = .returned (.tuple #[.agg CS, .int .i64 er, .int .i64 at_]) ∧ CS.size = 23 ∧ CS.all (·.oneCell') = true ∧ PvMem w' North.pz (.agg CS) := by
  refine (parse_u s hs w hm).mono ?_
  rintro e w' ⟨hB, CS, rfl, h1, h2, h3⟩
  rw [North.pvOf, hr] at h3
  exact ⟨hB, CS, by rw [North.errOf, North.atOf, hr], h1, h2, h3⟩
/-- A variable of a provision is laid and filled. -/
theorem var_put {w0 w1 : World} (hB : Below w0.heap.size w0 w1) (CS : Array Value) :
    Below w0.heap.size w0 ((w1.alloc zeroP).setRow w1.heap.size CS) ∧ Below w1.heap.size w1 ((w1.alloc zeroP).setRow w1.heap.size CS) ∧ ((w1.alloc zeroP).setRow w1.heap.size CS).heap[w1.heap.size]? = some (.cells CS 35 (0, 0)) := by
  have h1 : Below w1.heap.size w1 ((w1.alloc zeroP).setRow w1.heap.size CS) := ((Keep.of_below (g := w1.heap.size) (below_new w1 zeroP)).trans (setRow_keep _ _ CS)).to_below (Nat.le_refl _)
  exact ⟨below_then hB h1, h1, setRow_blk (heap_alloc_new w1 zeroP) CS⟩
theorem repK_kids {w : World} {b c : Nat} {ks : List Fm} (op : Int) (name : Str) (cmp n : Int) (h : RepRow w TT b 0 ks) (hc : ks.length ≤ c) (hm : c ≤ capMax) : RepK w TT (.mk op name cmp n ks) (.slice (some ⟨b, 0, none⟩) ks.length c) := by
  rw [RepK]
  exact ⟨_, c, rfl, hc, hm, fun _ => ⟨b, 0, rfl, trivial, h⟩⟩
theorem row1 {w : World} {b : Nat} {op : Int} {name : Str} {cmp n : Int} {ks : List Fm} {kv : Value} {ty : TypeId} {fr : Nat × Nat} (h : w.heap[b]? = some (.cells #[.int .i64 op, .string (mkS name), .int .i64 cmp, .int .i64 n, kv] ty fr)) (hk : RepK w TT (.mk op name cmp n ks) kv) :
    RepRow w TT b 0 [.mk op name cmp n ks] := by
  rw [RepRow, RepRow]
  exact ⟨⟨(blk_cell h 0).trans rfl, (blk_cell h 1).trans rfl, (blk_cell h 2).trans rfl, (blk_cell h 3).trans rfl, kv, (blk_cell h 4).trans rfl, hk⟩, trivial⟩
theorem row2 {w : World} {b : Nat} {op : Int} {name : Str} {cmp n : Int} {ks : List Fm} {kv : Value} {op' : Int} {name' : Str} {cmp' n' : Int} {ks' : List Fm} {kv' : Value} {ty : TypeId} {fr : Nat × Nat}
    (h : w.heap[b]? = some (.cells #[.int .i64 op, .string (mkS name), .int .i64 cmp, .int .i64 n, kv, .int .i64 op', .string (mkS name'), .int .i64 cmp', .int .i64 n', kv'] ty fr)) (hk : RepK w TT (.mk op name cmp n ks) kv) (hk' : RepK w TT (.mk op' name' cmp' n' ks') kv') :
    RepRow w TT b 0 [.mk op name cmp n ks, .mk op' name' cmp' n' ks'] := by
  rw [RepRow, RepRow, RepRow]
  exact ⟨⟨(blk_cell h 0).trans rfl, (blk_cell h 1).trans rfl, (blk_cell h 2).trans rfl, (blk_cell h 3).trans rfl, kv, (blk_cell h 4).trans rfl, hk⟩, ⟨(blk_cell h 5).trans rfl, (blk_cell h 6).trans rfl, (blk_cell h 7).trans rfl, (blk_cell h 8).trans rfl, kv', (blk_cell h 9).trans rfl, hk'⟩, trivial⟩
theorem pvA1_one (b : Nat) : (pvC North.pvA1 (.slice (some ⟨b, 0, none⟩) 2 2) nilS nilS nilS nilS).toArray.all (·.oneCell') = true := by simp [pvC, FmC, StC, Value.oneCell', North.pvA1, North.sNever]
theorem pvA2_one (b : Nat) : (pvC North.pvA2 (.slice (some ⟨b, 0, none⟩) 2 2) nilS nilS nilS nilS).toArray.all (·.oneCell') = true := by simp [pvC, FmC, StC, Value.oneCell', North.pvA2, North.sNever]
theorem wpList_load_mid_g {P : Program} {ops : Array Oper} {rest : List Oper} {op : Oper} {a : Act} {w : World} {Q : Exit → Act → World → Prop} (hgd : Region.wanted op (yielded ops a.tmps) = true) (ty : TypeId) (x : Operand) (ho : op.op = .load ty x)
    (b o : Nat) (hx : a.eval x = .pointer (some ⟨b, o, none⟩)) (cs : List Value) (d : TypeDesc) (hc : w.rangeAt b o cs)
    (hu : P.underlying ty = some d) (hd : d.isRow = true) (hi : (P.info? ty).map (·.size) = some cs.length)
    (h : wpList P ops Q rest (a.put op.dst (.agg cs.toArray)) w) : wpList P ops Q (op :: rest) a w :=
  BigFrame.wpList_want hgd fun _ hK => wp_load_mid ty x ho b o hx cs d hc hu hd hi (hK _ _ h)
theorem range_of {w : World} {B : Nat} {CS : Array Value} {ty : TypeId} {fr : Nat × Nat} (h : w.heap[B]? = some (.cells CS ty fr)) : w.rangeAt B 0 CS.toList := by
  intro j v hj
  rw [Nat.zero_add, blk_cell h j]
  simpa using hj
theorem info_len {CS : Array Value} (h : CS.size = 23) : (Tryd.prog.info? 35).map (·.size) = some CS.toList.length := by rw [Array.length_toList, h]; exact info_Provision
/-- A block and a variable of a provision are laid, and the variable is filled. -/
theorem two_put (X : World) (o : Obj) (CS : Array Value) :
    Below X.heap.size X (((X.alloc o).alloc zeroP).setRow (X.heap.size + 1) CS) ∧ (((X.alloc o).alloc zeroP).setRow (X.heap.size + 1) CS).heap[X.heap.size]? = some o ∧ (((X.alloc o).alloc zeroP).setRow (X.heap.size + 1) CS).heap[X.heap.size + 1]? = some (.cells CS 35 (0, 0)) := by
  have hz := heap_alloc_new (X.alloc o) zeroP
  rw [World.size_alloc] at hz
  have hk := setRow_keep ((X.alloc o).alloc zeroP) (X.heap.size + 1) CS
  refine ⟨Keep.weak (below_then (below_new X o) (below_new _ zeroP)) hk (Nat.le_succ _), hk.blk (below_blk (below_new _ zeroP) (heap_alloc_new X o)) (by omega), setRow_blk hz CS⟩
set_option maxRecDepth 100000 in
set_option maxHeartbeats 4000000 in
theorem head_calls (w : World) {m : Int} (hm : w.cell? ⟨2, 0, none⟩ = some (.int .i64 m)) :
    Calls Tryd.prog 14 #[] w fun e w' => e = .returned (.bool true) ∧ Below w.heap.size w w' := by
  have HP1 := Lib.hid (fun (wx : World) (h : Below w.heap.size w wx) => parse_lit North.rd1 (by decide) wx (below_cell h hm))
  have HP2 := Lib.hid (fun (wx : World) (h : Below w.heap.size w wx) => parse_lit North.rd2 (by decide) wx (below_cell h hm))
  have HP3 := Lib.hid (fun (wx : World) (h : Below w.heap.size w wx) => parse_bad North.rd3 (by decide) wx (below_cell h hm))
  have HP4 := Lib.hid (fun (wx : World) (h : Below w.heap.size w wx) => parse_bad North.rd4 (by decide) wx (below_cell h hm))
  have HP5 := Lib.hid (fun (wx : World) (h : Below w.heap.size w wx) => parse_bad North.rd5 (by decide) wx (below_cell h hm))
  have HB0 := Lib.hid (Below.refl w.heap.size w)
  clear hm
  go_enter Tryd.func14, Tryd.ntmps14
  go_upto_region 2 with (first | (go_at_call 16; refine (HP1.out _ HB0.out).mono ?_; rintro e w1 ⟨hB1, CS1, rfl, hz1, hone1, hp1⟩; have HZ := Lib.hid (heap_alloc_new w1 zeroP); have HX := Lib.hid hB1; have HP := Lib.hid hp1; have HONE := Lib.hid hone1; clear hB1 hp1 hone1 HP1) | (refine wpList_store_row rfl 35 _ _ rfl w1.heap.size CS1 rfl rfl 35 (pvC (North.pv0 North.fm00) nilS nilS nilS nilS nilS).toArray HZ.out (by rw [hz1]; exact info_Provision) (by rw [hz1]; rfl) HONE.out ?_))
  have hB1 := below_then HB0.out HX.out
  obtain ⟨hv1, hv2, hv3⟩ := var_put hB1 CS1
  change Code.wp _ _ _ _ ((w1.alloc zeroP).setRow w1.heap.size CS1)
  have HM1 := Lib.hid (HP.out.below hv2)
  have HONE1 := HONE
  generalize (w1.alloc zeroP).setRow w1.heap.size CS1 = V1 at *
  have HB1 := Lib.hid hv1
  have HV1 := Lib.hid hv3
  clear hv1 hv2 hv3 hB1 HP HZ HX HONE HB0
  go_upto_region 3 with (first | (go_at_call 16; refine (HP2.out _ HB1.out).mono ?_; rintro e w2 ⟨hB2, CS2, rfl, hz2, hone2, hp2⟩; have HZ := Lib.hid (heap_alloc_new w2 zeroP); have HX := Lib.hid hB2; have HP := Lib.hid hp2; have HONE := Lib.hid hone2; clear hB2 hp2 hone2 HP2) | (refine wpList_store_row rfl 35 _ _ rfl w2.heap.size CS2 rfl rfl 35 (pvC (North.pv0 North.fm00) nilS nilS nilS nilS nilS).toArray HZ.out (by rw [hz2]; exact info_Provision) (by rw [hz2]; rfl) HONE.out ?_))
  have hB2 := below_then HB1.out HX.out
  obtain ⟨hv1, hv2, hv3⟩ := var_put hB2 CS2
  change Code.wp _ _ _ _ ((w2.alloc zeroP).setRow w2.heap.size CS2)
  have HM2 := Lib.hid (HP.out.below hv2)
  have HONE2 := HONE
  have HM1 := Lib.hid ((HM1.out.below HX.out).below hv2)
  have HV1 := Lib.hid (below_blk hv2 (below_blk HX.out HV1.out))
  generalize (w2.alloc zeroP).setRow w2.heap.size CS2 = V2 at *
  have HB2 := Lib.hid hv1
  have HV2 := Lib.hid hv3
  clear hv1 hv2 hv3 hB2 HP HZ HX HONE HB1
  go_upto_region 4 with (first | (go_at_call 16; refine (HP3.out _ HB2.out).mono ?_; rintro e w3 ⟨hB3, CS3, rfl, hz3, hone3, hp3⟩; have HZ := Lib.hid (heap_alloc_new w3 zeroP); have HX := Lib.hid hB3; have HP := Lib.hid hp3; have HONE := Lib.hid hone3; clear hB3 hp3 hone3 HP3) | (refine wpList_store_row rfl 35 _ _ rfl w3.heap.size CS3 rfl rfl 35 (pvC (North.pv0 North.fm00) nilS nilS nilS nilS nilS).toArray HZ.out (by rw [hz3]; exact info_Provision) (by rw [hz3]; rfl) HONE.out ?_))
  have hB3 := below_then HB2.out HX.out
  obtain ⟨hv1, hv2, hv3⟩ := var_put hB3 CS3
  change Code.wp _ _ _ _ ((w3.alloc zeroP).setRow w3.heap.size CS3)
  have HM1 := Lib.hid ((HM1.out.below HX.out).below hv2)
  have HV1 := Lib.hid (below_blk hv2 (below_blk HX.out HV1.out))
  have HM2 := Lib.hid ((HM2.out.below HX.out).below hv2)
  have HV2 := Lib.hid (below_blk hv2 (below_blk HX.out HV2.out))
  generalize (w3.alloc zeroP).setRow w3.heap.size CS3 = V3 at *
  have HB3 := Lib.hid hv1
  clear hv1 hv2 hv3 hB3 HP HZ HX HONE HB2
  go_upto_region 5 with (first | (go_at_call 16; refine (HP4.out _ HB3.out).mono ?_; rintro e w4 ⟨hB4, CS4, rfl, hz4, hone4, hp4⟩; have HZ := Lib.hid (heap_alloc_new w4 zeroP); have HX := Lib.hid hB4; have HP := Lib.hid hp4; have HONE := Lib.hid hone4; clear hB4 hp4 hone4 HP4) | (refine wpList_store_row rfl 35 _ _ rfl w4.heap.size CS4 rfl rfl 35 (pvC (North.pv0 North.fm00) nilS nilS nilS nilS nilS).toArray HZ.out (by rw [hz4]; exact info_Provision) (by rw [hz4]; rfl) HONE.out ?_))
  have hB4 := below_then HB3.out HX.out
  obtain ⟨hv1, hv2, hv3⟩ := var_put hB4 CS4
  change Code.wp _ _ _ _ ((w4.alloc zeroP).setRow w4.heap.size CS4)
  have HM1 := Lib.hid ((HM1.out.below HX.out).below hv2)
  have HV1 := Lib.hid (below_blk hv2 (below_blk HX.out HV1.out))
  have HM2 := Lib.hid ((HM2.out.below HX.out).below hv2)
  have HV2 := Lib.hid (below_blk hv2 (below_blk HX.out HV2.out))
  generalize (w4.alloc zeroP).setRow w4.heap.size CS4 = V4 at *
  have HB4 := Lib.hid hv1
  clear hv1 hv2 hv3 hB4 HP HZ HX HONE HB3
  go_upto_region 6 with (first | (go_at_call 16; refine (HP5.out _ HB4.out).mono ?_; rintro e w5 ⟨hB5, CS5, rfl, hz5, hone5, hp5⟩; have HZ := Lib.hid (heap_alloc_new w5 zeroP); have HX := Lib.hid hB5; have HP := Lib.hid hp5; have HONE := Lib.hid hone5; clear hB5 hp5 hone5 HP5) | (refine wpList_store_row rfl 35 _ _ rfl w5.heap.size CS5 rfl rfl 35 (pvC (North.pv0 North.fm00) nilS nilS nilS nilS nilS).toArray HZ.out (by rw [hz5]; exact info_Provision) (by rw [hz5]; rfl) HONE.out ?_))
  have hB5 := below_then HB4.out HX.out
  obtain ⟨hv1, hv2, hv3⟩ := var_put hB5 CS5
  change Code.wp _ _ _ _ ((w5.alloc zeroP).setRow w5.heap.size CS5)
  have HM1 := Lib.hid ((HM1.out.below HX.out).below hv2)
  have HV1 := Lib.hid (below_blk hv2 (below_blk HX.out HV1.out))
  have HM2 := Lib.hid ((HM2.out.below HX.out).below hv2)
  have HV2 := Lib.hid (below_blk hv2 (below_blk HX.out HV2.out))
  generalize (w5.alloc zeroP).setRow w5.heap.size CS5 = V5 at *
  have HB5 := Lib.hid hv1
  clear hv1 hv2 hv3 hB5 HP HZ HX HONE HB4
  clear hz3 hz4 hz5
  go_upto_region 9 with fail
  have e0 := heap_alloc_new V5 (.cells #[.int .i64 3, .string ⟨#[105, 110, 99, 111, 109, 101]⟩, .int .i64 5, .int .i64 3, .slice none 0 0] 29)
  have e1 := heap_alloc_new (V5.alloc (.cells #[.int .i64 3, .string ⟨#[105, 110, 99, 111, 109, 101]⟩, .int .i64 5, .int .i64 3, .slice none 0 0] 29)) (.cells #[.int .i64 4, .string ⟨#[112, 111, 111, 114]⟩, .int .i64 0, .int .i64 0, .slice none 0 0] 29)
  have e2 := heap_alloc_new ((V5.alloc (.cells #[.int .i64 3, .string ⟨#[105, 110, 99, 111, 109, 101]⟩, .int .i64 5, .int .i64 3, .slice none 0 0] 29)).alloc (.cells #[.int .i64 4, .string ⟨#[112, 111, 111, 114]⟩, .int .i64 0, .int .i64 0, .slice none 0 0] 29)) (.cells #[.int .i64 5, .string ⟨#[]⟩, .int .i64 0, .int .i64 0, .slice (some ⟨V5.heap.size + 1, 0, none⟩) 1 1] 29)
  have e3 := heap_alloc_new (((V5.alloc (.cells #[.int .i64 3, .string ⟨#[105, 110, 99, 111, 109, 101]⟩, .int .i64 5, .int .i64 3, .slice none 0 0] 29)).alloc (.cells #[.int .i64 4, .string ⟨#[112, 111, 111, 114]⟩, .int .i64 0, .int .i64 0, .slice none 0 0] 29)).alloc (.cells #[.int .i64 5, .string ⟨#[]⟩, .int .i64 0, .int .i64 0, .slice (some ⟨V5.heap.size + 1, 0, none⟩) 1 1] 29)) (.cells #[.int .i64 2, .string ⟨#[]⟩, .int .i64 0, .slice none 0 0] 33)
  simp only [World.size_alloc] at e1 e2 e3
  have e0 := below_blk (below_new _ (.cells #[.int .i64 2, .string ⟨#[]⟩, .int .i64 0, .slice none 0 0] 33)) (below_blk (below_new _ (.cells #[.int .i64 5, .string ⟨#[]⟩, .int .i64 0, .int .i64 0, .slice (some ⟨V5.heap.size + 1, 0, none⟩) 1 1] 29)) (below_blk (below_new _ (.cells #[.int .i64 4, .string ⟨#[112, 111, 111, 114]⟩, .int .i64 0, .int .i64 0, .slice none 0 0] 29)) e0))
  have e1 := below_blk (below_new _ (.cells #[.int .i64 2, .string ⟨#[]⟩, .int .i64 0, .slice none 0 0] 33)) (below_blk (below_new _ (.cells #[.int .i64 5, .string ⟨#[]⟩, .int .i64 0, .int .i64 0, .slice (some ⟨V5.heap.size + 1, 0, none⟩) 1 1] 29)) e1)
  have e2 := below_blk (below_new _ (.cells #[.int .i64 2, .string ⟨#[]⟩, .int .i64 0, .slice none 0 0] 33)) e2
  have hb4 := below_then (below_then (below_then (below_new V5 (.cells #[.int .i64 3, .string ⟨#[105, 110, 99, 111, 109, 101]⟩, .int .i64 5, .int .i64 3, .slice none 0 0] 29)) (below_new _ (.cells #[.int .i64 4, .string ⟨#[112, 111, 111, 114]⟩, .int .i64 0, .int .i64 0, .slice none 0 0] 29))) (below_new _ (.cells #[.int .i64 5, .string ⟨#[]⟩, .int .i64 0, .int .i64 0, .slice (some ⟨V5.heap.size + 1, 0, none⟩) 1 1] 29))) (below_new _ (.cells #[.int .i64 2, .string ⟨#[]⟩, .int .i64 0, .slice none 0 0] 33))
  generalize (((V5.alloc (.cells #[.int .i64 3, .string ⟨#[105, 110, 99, 111, 109, 101]⟩, .int .i64 5, .int .i64 3, .slice none 0 0] 29)).alloc (.cells #[.int .i64 4, .string ⟨#[112, 111, 111, 114]⟩, .int .i64 0, .int .i64 0, .slice none 0 0] 29)).alloc (.cells #[.int .i64 5, .string ⟨#[]⟩, .int .i64 0, .int .i64 0, .slice (some ⟨V5.heap.size + 1, 0, none⟩) 1 1] 29)).alloc (.cells #[.int .i64 2, .string ⟨#[]⟩, .int .i64 0, .slice none 0 0] 33) = X at *
  have HM1 := Lib.hid (HM1.out.below hb4)
  have HM2 := Lib.hid (HM2.out.below hb4)
  have HV1 := Lib.hid (below_blk hb4 HV1.out)
  have HV2 := Lib.hid (below_blk hb4 HV2.out)
  have HBX := Lib.hid (below_then HB5.out hb4)
  have HE0 := Lib.hid e0
  have HE1 := Lib.hid e1
  have HE2 := Lib.hid e2
  have HE3 := Lib.hid e3
  obtain ⟨⟨a0, a1, a2, a3, a4⟩, -, hl0⟩ := blk5 e0
  obtain ⟨⟨b0, b1, b2, b3, b4⟩, -, hl2⟩ := blk5 e2
  obtain ⟨⟨c0, c1, c2, c3⟩, -, hl3⟩ := blk4 e3
  generalize V5.heap.size = n5 at *
  have HZ := Lib.hid (heap_alloc_new (X.alloc (.cells #[.int .i64 3, .string ⟨#[105, 110, 99, 111, 109, 101]⟩, .int .i64 5, .int .i64 3, .slice none 0 0, .int .i64 5, .string ⟨#[]⟩, .int .i64 0, .int .i64 0, .slice (some ⟨n5 + 1, 0, none⟩) 1 1] 29)) zeroP)
  rw [World.size_alloc] at HZ
  clear e0 e1 e2 e3 hb4 HB5
  go_upto_region 10 with (refine wpList_store_row rfl 35 _ _ rfl (X.heap.size + 1) (pvC North.pvA1 (.slice (some ⟨X.heap.size, 0, none⟩) 2 2) nilS nilS nilS nilS).toArray rfl rfl 35 (pvC (North.pv0 North.fm00) nilS nilS nilS nilS nilS).toArray HZ.out info_Provision rfl (pvA1_one _) ?_)
  obtain ⟨hy1, hy2, hy3⟩ := two_put X (.cells #[.int .i64 3, .string ⟨#[105, 110, 99, 111, 109, 101]⟩, .int .i64 5, .int .i64 3, .slice none 0 0, .int .i64 5, .string ⟨#[]⟩, .int .i64 0, .int .i64 0, .slice (some ⟨n5 + 1, 0, none⟩) 1 1] 29) (pvC North.pvA1 (.slice (some ⟨X.heap.size, 0, none⟩) 2 2) nilS nilS nilS nilS).toArray
  change Code.wp _ _ _ _ (((X.alloc (.cells #[.int .i64 3, .string ⟨#[105, 110, 99, 111, 109, 101]⟩, .int .i64 5, .int .i64 3, .slice none 0 0, .int .i64 5, .string ⟨#[]⟩, .int .i64 0, .int .i64 0, .slice (some ⟨n5 + 1, 0, none⟩) 1 1] 29)).alloc zeroP).setRow (X.heap.size + 1) (pvC North.pvA1 (.slice (some ⟨X.heap.size, 0, none⟩) 2 2) nilS nilS nilS nilS).toArray)
  have hq1 := below_blk hy1 HE1.out
  have hc3 := below_blk hy1 HE3.out
  have HM1 := Lib.hid (HM1.out.below hy1)
  have HM2 := Lib.hid (HM2.out.below hy1)
  have HV1 := Lib.hid (below_blk hy1 HV1.out)
  have HV2 := Lib.hid (below_blk hy1 HV2.out)
  have HBY := Lib.hid (below_then HBX.out hy1)
  clear a0 a1 a2 a3 a4 b0 b1 b2 b3 b4 c0 c1 c2 c3 hl0 hl2 hl3 HZ HE0 HE1 HE2 HE3 HBX hy1
  generalize ((X.alloc (.cells #[.int .i64 3, .string ⟨#[105, 110, 99, 111, 109, 101]⟩, .int .i64 5, .int .i64 3, .slice none 0 0, .int .i64 5, .string ⟨#[]⟩, .int .i64 0, .int .i64 0, .slice (some ⟨n5 + 1, 0, none⟩) 1 1] 29)).alloc zeroP).setRow (X.heap.size + 1) (pvC North.pvA1 (.slice (some ⟨X.heap.size, 0, none⟩) 2 2) nilS nilS nilS nilS).toArray = Y at *
  have hmA : PvMem Y North.pvA1 (.agg (pvC North.pvA1 (.slice (some ⟨X.heap.size, 0, none⟩) 2 2) nilS nilS nilS nilS).toArray) :=
    ⟨_, nilS, nilS, nilS, nilS, rfl, repK_kids 6 [] 0 0 (row2 (op := 3) (name := [105, 110, 99, 111, 109, 101]) (cmp := 5) (n := 3) (ks := []) (op' := 5) (name' := []) (cmp' := 0) (n' := 0) (ks' := [.mk 4 [112, 111, 111, 114] 0 0 []]) hy2 (RepK.leaf _ _ _ _ _ _) (repK_kids 5 [] 0 0 (row1 (op := 4) (name := [112, 111, 111, 114]) (cmp := 0) (n := 0) (ks := []) hq1 (RepK.leaf _ _ _ _ _ _)) (Nat.le_refl _) (by decide))) (Nat.le_refl _) (by decide), strs_nil Y, RepKS.leaf _ _ _ _ _, RepKS.leaf _ _ _ _ _, RepKS.leaf _ _ _ _ _⟩
  have HMA := Lib.hid hmA
  have HVA := Lib.hid hy3
  have HE3 := Lib.hid hc3
  clear hq1 hy2 hy3 hmA hc3
  go_upto_region 11 with fail
  have e0 := heap_alloc_new Y (.cells #[.int .i64 3, .string ⟨#[105, 110, 99, 111, 109, 101]⟩, .int .i64 3, .int .i64 4, .slice none 0 0, .int .i64 3, .string ⟨#[109, 101, 109, 98, 101, 114]⟩, .int .i64 1, .int .i64 1, .slice none 0 0] 29)
  have e1 := heap_alloc_new (Y.alloc (.cells #[.int .i64 3, .string ⟨#[105, 110, 99, 111, 109, 101]⟩, .int .i64 3, .int .i64 4, .slice none 0 0, .int .i64 3, .string ⟨#[109, 101, 109, 98, 101, 114]⟩, .int .i64 1, .int .i64 1, .slice none 0 0] 29)) (.cells #[.int .i64 6, .string ⟨#[]⟩, .int .i64 0, .int .i64 0, .slice (some ⟨Y.heap.size, 0, none⟩) 2 2] 29)
  rw [World.size_alloc] at e1
  have e0 := below_blk (below_new _ (.cells #[.int .i64 6, .string ⟨#[]⟩, .int .i64 0, .int .i64 0, .slice (some ⟨Y.heap.size, 0, none⟩) 2 2] 29)) e0
  have hbz := below_then (below_new Y (.cells #[.int .i64 3, .string ⟨#[105, 110, 99, 111, 109, 101]⟩, .int .i64 3, .int .i64 4, .slice none 0 0, .int .i64 3, .string ⟨#[109, 101, 109, 98, 101, 114]⟩, .int .i64 1, .int .i64 1, .slice none 0 0] 29)) (below_new _ (.cells #[.int .i64 6, .string ⟨#[]⟩, .int .i64 0, .int .i64 0, .slice (some ⟨Y.heap.size, 0, none⟩) 2 2] 29))
  generalize (Y.alloc (.cells #[.int .i64 3, .string ⟨#[105, 110, 99, 111, 109, 101]⟩, .int .i64 3, .int .i64 4, .slice none 0 0, .int .i64 3, .string ⟨#[109, 101, 109, 98, 101, 114]⟩, .int .i64 1, .int .i64 1, .slice none 0 0] 29)).alloc (.cells #[.int .i64 6, .string ⟨#[]⟩, .int .i64 0, .int .i64 0, .slice (some ⟨Y.heap.size, 0, none⟩) 2 2] 29) = Z at *
  have e3 := below_blk hbz HE3.out
  obtain ⟨⟨b0, b1, b2, b3, b4⟩, -, hl2⟩ := blk5 e1
  obtain ⟨⟨c0, c1, c2, c3⟩, -, hl3⟩ := blk4 e3
  have HM1 := Lib.hid (HM1.out.below hbz)
  have HM2 := Lib.hid (HM2.out.below hbz)
  have HMA := Lib.hid (HMA.out.below hbz)
  have HV1 := Lib.hid (below_blk hbz HV1.out)
  have HV2 := Lib.hid (below_blk hbz HV2.out)
  have HVA := Lib.hid (below_blk hbz HVA.out)
  have HBZ := Lib.hid (below_then HBY.out hbz)
  have HE0 := Lib.hid e0
  generalize Y.heap.size = n7 at *
  generalize hn6 : X.heap.size = n6 at *
  have HZ := Lib.hid (heap_alloc_new (Z.alloc (.cells #[.int .i64 3, .string ⟨#[105, 110, 99, 111, 109, 101]⟩, .int .i64 3, .int .i64 2, .slice none 0 0, .int .i64 6, .string ⟨#[]⟩, .int .i64 0, .int .i64 0, .slice (some ⟨n7, 0, none⟩) 2 2] 29)) zeroP)
  rw [World.size_alloc] at HZ
  clear e0 e1 e3 hbz HE3 HBY hn6
  go_upto_region 12 with (refine wpList_store_row rfl 35 _ _ rfl (Z.heap.size + 1) (pvC North.pvA2 (.slice (some ⟨Z.heap.size, 0, none⟩) 2 2) nilS nilS nilS nilS).toArray rfl rfl 35 (pvC (North.pv0 North.fm00) nilS nilS nilS nilS nilS).toArray HZ.out info_Provision rfl (pvA2_one _) ?_)
  obtain ⟨hy1, hy2, hy3⟩ := two_put Z (.cells #[.int .i64 3, .string ⟨#[105, 110, 99, 111, 109, 101]⟩, .int .i64 3, .int .i64 2, .slice none 0 0, .int .i64 6, .string ⟨#[]⟩, .int .i64 0, .int .i64 0, .slice (some ⟨n7, 0, none⟩) 2 2] 29) (pvC North.pvA2 (.slice (some ⟨Z.heap.size, 0, none⟩) 2 2) nilS nilS nilS nilS).toArray
  change Code.wp _ _ _ _ (((Z.alloc (.cells #[.int .i64 3, .string ⟨#[105, 110, 99, 111, 109, 101]⟩, .int .i64 3, .int .i64 2, .slice none 0 0, .int .i64 6, .string ⟨#[]⟩, .int .i64 0, .int .i64 0, .slice (some ⟨n7, 0, none⟩) 2 2] 29)).alloc zeroP).setRow (Z.heap.size + 1) (pvC North.pvA2 (.slice (some ⟨Z.heap.size, 0, none⟩) 2 2) nilS nilS nilS nilS).toArray)
  have hq1 := below_blk hy1 HE0.out
  have HM1 := Lib.hid (HM1.out.below hy1)
  have HM2 := Lib.hid (HM2.out.below hy1)
  have HMA := Lib.hid (HMA.out.below hy1)
  have HV1 := Lib.hid (below_blk hy1 HV1.out)
  have HV2 := Lib.hid (below_blk hy1 HV2.out)
  have HVA := Lib.hid (below_blk hy1 HVA.out)
  have HBU := Lib.hid (below_then HBZ.out hy1)
  clear b0 b1 b2 b3 b4 c0 c1 c2 c3 hl2 hl3 HZ HE0 HBZ hy1
  generalize ((Z.alloc (.cells #[.int .i64 3, .string ⟨#[105, 110, 99, 111, 109, 101]⟩, .int .i64 3, .int .i64 2, .slice none 0 0, .int .i64 6, .string ⟨#[]⟩, .int .i64 0, .int .i64 0, .slice (some ⟨n7, 0, none⟩) 2 2] 29)).alloc zeroP).setRow (Z.heap.size + 1) (pvC North.pvA2 (.slice (some ⟨Z.heap.size, 0, none⟩) 2 2) nilS nilS nilS nilS).toArray = U at *
  have hmB : PvMem U North.pvA2 (.agg (pvC North.pvA2 (.slice (some ⟨Z.heap.size, 0, none⟩) 2 2) nilS nilS nilS nilS).toArray) :=
    ⟨_, nilS, nilS, nilS, nilS, rfl, repK_kids 7 [] 0 0 (row2 (op := 3) (name := [105, 110, 99, 111, 109, 101]) (cmp := 3) (n := 2) (ks := []) (op' := 6) (name' := []) (cmp' := 0) (n' := 0) (ks' := [.mk 3 [105, 110, 99, 111, 109, 101] 3 4 [], .mk 3 [109, 101, 109, 98, 101, 114] 1 1 []]) hy2 (RepK.leaf _ _ _ _ _ _) (repK_kids 6 [] 0 0 (row2 (op := 3) (name := [105, 110, 99, 111, 109, 101]) (cmp := 3) (n := 4) (ks := []) (op' := 3) (name' := [109, 101, 109, 98, 101, 114]) (cmp' := 1) (n' := 1) (ks' := []) hq1 (RepK.leaf _ _ _ _ _ _) (RepK.leaf _ _ _ _ _ _)) (Nat.le_refl _) (by decide))) (Nat.le_refl _) (by decide), strs_nil U, RepKS.leaf _ _ _ _ _, RepKS.leaf _ _ _ _ _, RepKS.leaf _ _ _ _ _⟩
  have HMB := Lib.hid hmB
  have HVB := Lib.hid hy3
  clear hq1 hy2 hy3 hmB
  generalize hn8 : Z.heap.size = n8 at *
  clear hn8
  have szA : (pvC North.pvA1 (.slice (some ⟨n6, 0, none⟩) 2 2) nilS nilS nilS nilS).toArray.size = 23 := rfl
  have szB : (pvC North.pvA2 (.slice (some ⟨n8, 0, none⟩) 2 2) nilS nilS nilS nilS).toArray.size = 23 := rfl
  generalize (pvC North.pvA1 (.slice (some ⟨n6, 0, none⟩) 2 2) nilS nilS nilS nilS).toArray = CA at *
  generalize (pvC North.pvA2 (.slice (some ⟨n8, 0, none⟩) 2 2) nilS nilS nilS nilS).toArray = CB at *
  have HR1 := Lib.hid (range_of HV1.out)
  have HRA := Lib.hid (range_of HVA.out)
  have HS1 := Lib.hid (same_calls North.pvA1 North.pvA1 true (by simp) U (.agg CS1) (.agg CA) HM1.out HMA.out)
  have HS2 := Lib.hid (fun (wx : World) (h : Below U.heap.size U wx) => same_calls North.pvA2 North.pvA2 true (by simp) wx (.agg CS2) (.agg CB) (HM2.out.below h) (HMB.out.below h))
  have HI1 := Lib.hid (info_len hz1)
  have HI2 := Lib.hid (info_len hz2)
  have HIA := Lib.hid (info_len szA)
  have HIB := Lib.hid (info_len szB)
  clear hz1 hz2 szA szB HM1 HM2 HMA HMB HONE1 HONE2
  go_wp2_with (first
    | (refine wpList_load_mid_g rfl 35 _ rfl w1.heap.size 0 rfl CS1.toList _ HR1.out Tryd.underlying35 rfl HI1.out ?_; clear HR1)
    | (refine wpList_load_mid_g rfl 35 _ rfl (n6 + 1) 0 rfl CA.toList _ HRA.out Tryd.underlying35 rfl HIA.out ?_; clear HRA)
    | (go_at_call 17; refine HS1.out.mono ?_; clear HS1; rintro e U2 ⟨rfl, hU2⟩; have HR2 := Lib.hid (range_of (below_blk hU2 HV2.out)); have HRB := Lib.hid (range_of (below_blk hU2 HVB.out)); have HU2 := Lib.hid hU2; clear hU2)
    | (refine wpList_load_mid_g rfl 35 _ rfl w2.heap.size 0 rfl CS2.toList _ HR2.out Tryd.underlying35 rfl HI2.out ?_; clear HR2)
    | (refine wpList_load_mid_g rfl 35 _ rfl (n8 + 1) 0 rfl CB.toList _ HRB.out Tryd.underlying35 rfl HIB.out ?_; clear HRB)
    | (go_at_call 17; refine (HS2.out _ HU2.out).mono ?_; clear HS2; rintro e U3 ⟨rfl, hU3⟩; have HU3 := Lib.hid hU3; clear hU3))
  go_ret
  exact ⟨rfl, below_then HBU.out (below_then HU2.out HU3.out)⟩
end Go.Proofs.YtlhgflnmdmifaaaDoor.Wk
