/- A condition of commencement without and and or. Conditions of commencement are read. -/
import Derived.Test.YtlhgflnmdmifaaaDoorNB
import Derived.Test.YtlhgflnmdmifaaaDoorREP
/- Several conditions of commencement that are joined by a word. -/
namespace Go.Proofs.YtlhgflnmdmifaaaDoor.Wk
open Go.RowKit PD

/-- A formula that was read lies in new memory. -/
def EncSt (w0 w' : World) (f : St) (v : Value) : Prop := ∃ kv, v = StV f kv ∧ RepKS w' (fun b => w0.heap.size ≤ b ∧ b < w'.heap.size) f kv
theorem info_Start : (Tryd.prog.info? 33).map (fun i => (i.zero, i.size, i.bytes)) = some (some (.agg #[.int .i64 0, .string ⟨#[]⟩, .int .i64 0, .slice none 0 0]), 4, 56) := by kernel_rfl
def OneS (F g b o c : Nat) (l : List (Tok × Nat)) (en : Nat) (one : Tr St) (w : World) (i : Nat) : Prop :=
  ∀ (w1 : World) (i1 : Nat), Keep g w w1 → Par w1 g b o c l en i1 → i ≤ i1 → one.run (l.map (·.1)) i1 ≠ .out →
    Calls Tryd.prog F #[.pointer (some ⟨g, 0, none⟩)] w1 (Out (EncSt w1) (one.run (l.map (·.1)) i1) g b o c l en w1)
def JoinS (J : Nat) (op : Int) : Prop := ∀ (w1 : World) (A : Option Addr) (n cc : Nat), Calls Tryd.prog J #[.slice A n cc] w1 fun e w' =>
  e = .returned (.agg #[.int .i64 op, .string ⟨#[]⟩, .int .i64 0, .slice A n cc]) ∧ Below w1.heap.size w1 w'
set_option maxHeartbeats 1000000 in
theorem several_errS {w : World} {g b o c : Nat} {l : List (Tok × Nat)} {en i : Nat} (h : Par w g b o c l en i) (F J : Nat) (hF : ∀ (args : Array Value) (w : World), (callFunc F args).run Tryd.prog w = .ok (.enter F args) w)
    (one : Tr St) (hone : OneS F g b o c l en one w i) (word : Str) (er j : Nat) (hr : one.run (l.map (·.1)) i = .err er j) :
    Calls Tryd.prog 120 #[.pointer (some ⟨g, 0, none⟩), .string (mkS word), .func (.func F) #[.pointer (some ⟨g, 0, none⟩)] #[], .func (.func J) #[] #[]] w fun e w' => e = stopped er (posOf l en j) ∧ Keep g w w' := by
  have hB0 : Below w.heap.size w (w.alloc (.cells #[.int .i64 0, .string ⟨#[]⟩, .int .i64 0, .slice none 0 0] 33)) := (Below.refl _ _).alloc (Nat.le_refl _) _
  have H1 := Lib.hid (Out.err_of hr (hone _ i (.of_below hB0) (h.below hB0) (Nat.le_refl _) (by rw [hr]; simp)))
  clear hr hone h
  have HB := Lib.hid hB0; clear hB0
  go_enter Tryd.func120, Tryd.ntmps120
  go_wp2_with fail
  refine H1.out.mono ?_
  rintro e w2 ⟨rfl, hK⟩
  exact ⟨rfl, rfl, (Keep.of_below HB.out).trans hK⟩
/-- What holds at the head of the loop. -/
def LoopS (g b o c : Nat) (l : List (Tok × Nat)) (en i : Nat) (one : Tr St) (word : Str) (op : Int) (kk : Nat) (w0 : World) (r : PR St) (k : Nat) (v : Value) (wr : World) : Prop :=
  ∃ (cs : List Value) (fs : List St) (i1 : Nat), fs ≠ [] ∧ k + fs.length ≤ kk + 1 ∧ wr.ownsRow w0.heap.size 33 4 v fs.length cs ∧ RepLS wr (SX w0.heap.size wr v) fs cs ∧ Par wr g b o c l en i1 ∧ i ≤ i1 ∧ Keep g w0 wr ∧
    ((Tr.more word one k fs).bind fun ls => Tr.ret (Tr.joined (fun ls => St.mk op [] 0 ls) ls)).run (l.map (·.1)) i1 = r
set_option maxRecDepth 100000 in
set_option maxHeartbeats 4000000 in
theorem several_callsS {w : World} {g b o c : Nat} {l : List (Tok × Nat)} {en i : Nat} (h : Par w g b o c l en i) (F J : Nat) (hF : ∀ (args : Array Value) (w : World), (callFunc F args).run Tryd.prog w = .ok (.enter F args) w)
    (hJ : ∀ (args : Array Value) (w : World), (callFunc J args).run Tryd.prog w = .ok (.enter J args) w) (op : Int) (hjoin : JoinS J op)
    (one : Tr St) (hone : OneS F g b o c l en one w i) (word : Str) (kk : Nat) (hkk : kk ≤ 6000) (hout : (Tr.several kk word one fun ls => .mk op [] 0 ls).run (l.map (·.1)) i ≠ .out) :
    Calls Tryd.prog 120 #[.pointer (some ⟨g, 0, none⟩), .string (mkS word), .func (.func F) #[.pointer (some ⟨g, 0, none⟩)] #[], .func (.func J) #[] #[]] w (Out (EncSt w) ((Tr.several kk word one fun ls => .mk op [] 0 ls).run (l.map (·.1)) i) g b o c l en w) := by
  unfold Tr.several at hout ⊢
  rw [Tr.run_bind] at hout ⊢
  cases hr : one.run (l.map (·.1)) i with
  | out => rw [hr] at hout; exact absurd rfl hout
  | err er j =>
    refine (several_errS h F J hF one hone word er j hr).mono ?_
    rintro e w' ⟨rfl, hK⟩
    exact ⟨hK, rfl⟩
  | ok x i1 =>
    rw [hr] at hout
    simp only [PR.bind] at hout ⊢
    generalize hR : ((Tr.more word one kk [x]).bind fun ls => Tr.ret (Tr.joined (fun ls => St.mk op [] 0 ls) ls)).run (l.map (·.1)) i1 = r at hout ⊢
    have hglt := h.lt
    have hB0 : Below w.heap.size w (w.alloc (.cells #[.int .i64 0, .string ⟨#[]⟩, .int .i64 0, .slice none 0 0] 33)) := (Below.refl _ _).alloc (Nat.le_refl _) _
    have hb8 : (w.alloc (.cells #[.int .i64 0, .string ⟨#[]⟩, .int .i64 0, .slice none 0 0] 33)).heap[w.heap.size]? = some (.cells #[.int .i64 0, .string ⟨#[]⟩, .int .i64 0, .slice none 0 0] 33 (0, 0)) := heap_alloc_new w _
    have hs0 : (w.alloc (.cells #[.int .i64 0, .string ⟨#[]⟩, .int .i64 0, .slice none 0 0] 33)).heap.size = w.heap.size + 1 := by simp
    have H1 := Lib.hid (Out.ok_of hr (hone _ i (.of_below hB0) (h.below hB0) (Nat.le_refl _) (by rw [hr]; simp)))
    have HR := Lib.hid hR; clear hR
    have HO := Lib.hid hout; clear hout
    have H1O := Lib.hid hone; clear hone
    have HJ := Lib.hid hjoin; clear hjoin
    have HP0 := Lib.hid h; clear h
    have hle : i ≤ i1 := (Tr.run_le (l.map (·.1)) one i _ i1 (by have := HP0.out.hi; simpa using this) hr).1
    clear hr
    have HB := Lib.hid hB0; clear hB0
    have HB8 := Lib.hid hb8; clear hb8
    have HS0 := Lib.hid hs0; clear hs0
    go_enter Tryd.func120, Tryd.ntmps120
    go_wp2_with fail
    refine H1.out.mono ?_
    rintro e w2 ⟨v, rfl, ⟨kv, rfl, hrep⟩, hP, hK⟩
    generalize w.alloc (.cells #[.int .i64 0, .string ⟨#[]⟩, .int .i64 0, .slice none 0 0] 33) = w0 at *
    clear H1
    have HREL : Hid (LoopS g b o c l en i one word op kk w0 r kk (.slice (some ⟨w2.heap.size, 0, none⟩) 1 1) (w2.alloc (.cells (StC x kv).toArray 33))) := by
      refine Lib.hid ⟨StC x kv, [x], i1, by simp, by simp, ?_, ?_, hP.below (below_new _ _), hle, hK.alloc _, HR.out⟩
      · have := World.ownsRow_lit (base := w0.heap.size) (e := 33) (size := 4) w2 (StC x kv).toArray 1 hK.size (by decide) (by simp [StC_length])
        simpa using this
      · refine ⟨kv, [], by simp, hrep.to (fun b hb _ => alloc_old w2 _ hb) (fun b hb hS => ⟨hS.1, by simp; omega, ?_⟩), rfl⟩
        simp [Value.ownBlock]; omega
    obtain ⟨fo, fn, fnn, fks⟩ := x
    obtain ⟨kA, kc, rfl, -⟩ := hrep.slice
    unfold StV
    simp only [StC] at HREL ⊢
    clear hrep hP hK HR
    go_wp2_with fail
    go_loopg [9] kk (fun k v wr => LoopS g b o c l en i one word op kk w0 r k v wr)
    case atStart => exact HREL.out
    case round =>
      clear HREL
      obtain ⟨cs, fs, i2, hne, hlen, hown, hrl, hP, hi2, hK, hrun⟩ := hrel
      cases gk with
      | zero => exact absurd hrun.symm HO.out
      | succ k =>
        have HS := Lib.hid (strs_one wr word)
        have HT := take_calls (hP.below (below_new wr (.cells #[.string (mkS word)] 9))) wr.heap.size 1 1 [word] HS.out rfl (Nat.le_refl _) (by omega)
        simp only [Tr.more] at hrun
        rw [Tr.run_bind, Tr.run_bind] at hrun
        rcases Tr.run_take_ok (l.map (·.1)) [word] i2 with ⟨j, hr, hl2⟩ | hr
        · -- the word: one more
          rw [hr] at hrun
          simp only [PR.bind] at hrun
          rw [Tr.run_bind] at hrun
          have HT := Lib.hid (Out.ok_of hr HT)
          clear hr
          have hvv : ∃ A n' cc, u9 = .slice A n' cc := by
            rcases hown.2 with ⟨rfl, _⟩ | ⟨g', cap, cur, rfl, _⟩
            · exact ⟨_, _, _, rfl⟩
            · exact ⟨_, _, _, rfl⟩
          obtain ⟨vA, vn, vcc, rfl⟩ := hvv
          have HP := Lib.hid hP; clear hP
          have HK := Lib.hid hK; clear hK
          have HOW := Lib.hid hown; clear hown
          have HRL := Lib.hid hrl; clear hrl
          have HRUN := Lib.hid hrun; clear hrun
          go_wp2_with fail
          refine HT.out.mono ?_
          rintro e w3 ⟨v, rfl, rfl, hP3, hK3⟩
          have HK13 := Lib.hid (show Keep g wr w3 from (Keep.of_below (below_new _ _)).trans hK3)
          have HP3 := Lib.hid hP3; clear hP3
          clear hK3 HT HS
          unfold idxI
          cases hr2 : one.run (l.map (·.1)) (i2 + 1) with
          | out =>
            have := HRUN.out
            rw [hr2] at this
            exact absurd this.symm HO.out
          | err er je =>
            have h1 := HRUN.out
            rw [hr2] at h1
            simp only [PR.bind] at h1
            subst h1
            have HC := Lib.hid (Out.err_of hr2 (H1O.out w3 (i2 + 1) ((Keep.of_below HB.out).trans (HK.out.trans HK13.out)) HP3.out (by omega) (by rw [hr2]; simp)))
            clear hr2 HRUN
            go_wp2_with fail
            refine HC.out.mono ?_
            rintro e w4 ⟨rfl, hK4⟩
            exact ⟨rfl, (((Keep.of_below HB.out).trans HK.out).trans HK13.out).trans hK4, rfl⟩
          | ok x i3 =>
            have h1 := HRUN.out
            rw [hr2] at h1
            simp only [PR.bind] at h1
            have HC := Lib.hid (Out.ok_of hr2 (H1O.out w3 (i2 + 1) ((Keep.of_below HB.out).trans (HK.out.trans HK13.out)) HP3.out (by omega) (by rw [hr2]; simp)))
            have hle3 : i2 + 1 ≤ i3 := (Tr.run_le (l.map (·.1)) one (i2 + 1) _ i3 (by simp at hl2 ⊢; omega) hr2).1
            have HR3 := Lib.hid h1; clear h1
            clear hr2 HRUN hl2
            go_wp2_with fail
            refine HC.out.mono ?_
            rintro e w4 ⟨v, rfl, ⟨kv, rfl, hrep⟩, hP4, hK4⟩
            have hK14 : Keep g wr w4 := HK13.out.trans hK4
            have ho4 : w4.ownsRow w0.heap.size 33 4 (.slice vA vn vcc) fs.length cs := by
              have ho := HOW.out
              refine ⟨ho.1, ?_⟩
              rcases ho.2 with h | ⟨g', cap, cur, h1, h2, h3, h4⟩
              · exact .inl h
              · exact .inr ⟨g', cap, cur, h1, h2, hK14.blk h3 (by have := HS0.out; omega), h4⟩
            have hr4 : RepLS w4 (SX w0.heap.size w4 (.slice vA vn vcc)) fs cs := by
              refine HRL.out.to (fun b hb hS => hK14.block b hb (by have := HS0.out; have := hS.1; omega)) fun b hb hS => ⟨hS.1, Nat.lt_of_lt_of_le hb hK14.size, hS.2.2⟩
            have hnew : ∀ k, (Value.slice vA vn vcc).ownBlock = some k → w0.heap.size ≤ k ∧ k < w3.heap.size := fun k hk => ⟨(HOW.out.lt k hk).1, Nat.lt_of_lt_of_le (HOW.out.lt k hk).2 HK13.out.size⟩
            have hlen' : fs.length ≤ 6000 := by omega
            obtain ⟨xo, xn, xm, xks⟩ := x
            obtain ⟨xA, xcc, rfl, -⟩ := hrep.slice
            have HX := Lib.hid hrep; clear hrep
            have HK14 := Lib.hid hK14; clear hK14
            have HO4 := Lib.hid ho4; clear ho4
            have HR4 := Lib.hid hr4; clear hr4
            have HP4 := Lib.hid hP4; clear hP4
            have HK4 := Lib.hid hK4; clear hK4
            have HNEW := Lib.hid hnew; clear hnew
            clear HC
            unfold StV
            simp only [StC]
            obtain ⟨i0, hi0, hzz⟩ := Option.map_eq_some_iff.1 info_Start
            simp only [Prod.mk.injEq] at hzz
            obtain ⟨hz0, hz1, hz2⟩ := hzz
            have HI0 := Lib.hid hi0; clear hi0
            have HZ0 := Lib.hid hz0; clear hz0
            have HZ1 := Lib.hid hz1; clear hz1
            have HZ2 := Lib.hid hz2; clear hz2
            have hbase : w0.heap.size ≤ w4.heap.size := Nat.le_trans HK.out.size HK14.out.size
            have hc1 : ∀ (j' : Nat) (u : Value), [Value.int .i64 xo, .string (mkS xn), .int .i64 xm, .slice xA xks.length xcc][j']? = some u → (w4.alloc (.cells #[.int .i64 xo, .string (mkS xn), .int .i64 xm, .slice xA xks.length xcc] 33)).cell? ((⟨w4.heap.size, 0, none⟩ : Addr).add j') = some u := by
              intro j' u hu
              rw [add_plain, blk_cell (heap_alloc_new w4 _) j']
              simpa using hu
            have hc2 : ∀ u ∈ [Value.int .i64 xo, .string (mkS xn), .int .i64 xm, .slice xA xks.length xcc], u.oneCell' = true := by
              intro u hu
              simp only [List.mem_cons, List.not_mem_nil, or_false] at hu
              rcases hu with rfl | rfl | rfl | rfl <;> rfl
            have hc3 : fs.length + 1 ≤ maxLen := by simp only [maxLen]; omega
            have hc4 : (fs.length + 1) * 56 ≤ 140737488355328 := by omega
            have hc5 : w0.heap.size ≤ (w4.alloc (.cells #[.int .i64 xo, .string (mkS xn), .int .i64 xm, .slice xA xks.length xcc] 33)).heap.size := by simp; omega
            have HC1 := Lib.hid hc1; clear hc1
            have HC2 := Lib.hid hc2; clear hc2
            have HC3 := Lib.hid hc3; clear hc3
            have HC4 := Lib.hid hc4; clear hc4
            have HC5 := Lib.hid hc5; clear hc5
            go_wp2_with (at_builtin; refine wpList_append_own_at (w4.alloc (.cells #[.int .i64 xo, .string (mkS xn), .int .i64 xm, .slice xA xks.length xcc] 33)) rfl _ _ 31 rfl w0.heap.size 33 i0 _ 4 56 Tryd.underlying31 HI0.out HZ0.out HZ1.out HZ2.out rfl (by decide) (.slice vA vn vcc) fs.length cs rfl (HO4.out.alloc _) ⟨w4.heap.size, 0, none⟩ 1 1 [.int .i64 xo, .string (mkS xn), .int .i64 xm, .slice xA xks.length xcc] rfl rfl HC1.out HC2.out HC3.out HC4.out HC5.out ?_; intro v' w5 hown' hgrow _ hat; have HOWN' := Lib.hid hown'; have HGROW := Lib.hid hgrow; have HAT := Lib.hid hat; clear hown' hgrow hat)
            go_roundg k
            case measure => omega
            case rel =>
              have hal := below_new w4 (.cells #[.int .i64 xo, .string (mkS xn), .int .i64 xm, .slice xA xks.length xcc] 33)
              have hasz : (w4.alloc (.cells #[.int .i64 xo, .string (mkS xn), .int .i64 xm, .slice xA xks.length xcc] 33)).heap.size = w4.heap.size + 1 := by simp
              generalize w4.alloc (.cells #[.int .i64 xo, .string (mkS xn), .int .i64 xm, .slice xA xks.length xcc] 33) = w4' at *
              obtain ⟨t, ht, hKt⟩ := Keep.of_grown HGROW.out fun k hk => (HNEW.out k hk).1
              have hto : ∀ b, b < w4.heap.size → (Value.slice vA vn vcc).ownBlock ≠ some b → w5.heap[b]? = w4.heap[b]? := fun b hb hne =>
                (HGROW.out.block b (by omega) (fun e => hne e.symm)).trans (hal.block b hb)
              have hto' : ∀ b, b < w4.heap.size → (Value.slice vA vn vcc).ownBlock ≠ some b → v'.ownBlock ≠ some b := by
                intro b hb hne
                rcases HAT.out with h1 | h1
                · rw [h1]; exact hne
                · rw [h1]; simp; omega
              have hs5 := HGROW.out.size
              refine ⟨cs ++ [.int .i64 xo, .string (mkS xn), .int .i64 xm, .slice xA xks.length xcc], fs ++ [.mk xo xn xm xks], i3, by simp, by simp; omega, ?_, ?_, ?_, by omega, ?_, by rw [Tr.run_bind]; exact HR3.out⟩
              · have := HOWN'.out
                rw [List.length_append, List.length_singleton]
                exact this
              · refine RepLS.snoc (f := .mk xo xn xm xks) (kv := .slice xA xks.length xcc) (HX.out.to (fun b hb hS => hto b hb fun e => ?_) fun b hb hS => ⟨?_, by omega, hto' b hb fun e => ?_⟩) (HR4.out.to (fun b hb hS => hto b hb hS.2.2) fun b hb hS => ⟨hS.1, by omega, hto' b hb hS.2.2⟩)
                · have := (HNEW.out b e).2; have := hS.1; omega
                · have := hS.1; have := Nat.le_trans HK.out.size HK13.out.size; omega
                · have := (HNEW.out b e).2; have := hS.1; omega
              · exact HP0.out.past (HP4.out.below hal) hKt (by have := HS0.out; omega)
              · exact ((HK.out.trans HK14.out).trans (.of_below hal)).newer hKt ht
        · -- no more
          rw [hr] at hrun
          simp only [PR.bind, Tr.run] at hrun
          have HT := Lib.hid (Out.ok_of hr HT)
          clear hr
          subst hrun
          have hb8 := hK.blk HB8.out (Nat.ne_of_gt hglt)
          have hlt8 := heap_lt hb8
          obtain ⟨f0, fr, rfl⟩ : ∃ f r, fs = f :: r := by
            cases fs with
            | nil => exact absurd rfl hne
            | cons f r => exact ⟨f, r, rfl⟩
          obtain ⟨vg, vc, rfl, hvb, hvl, hvc, hvm⟩ := own_form hown (by simp)
          have HP := Lib.hid hP; clear hP
          have HK := Lib.hid hK; clear hK
          have HOW := Lib.hid hown; clear hown
          have HRL := Lib.hid hrl; clear hrl
          have H8 := Lib.hid hb8; clear hb8
          clear hlen HO H1O hF hne
          have hvg : vg ≠ g := by have := HS0.out; omega
          have hwg : w.heap.size ≠ g := by omega
          have hwv : w.heap.size < vg := by have := HS0.out; omega
          cases fr with
          | nil =>
            go_wp2_with fail
            refine HT.out.mono ?_
            rintro e w3 ⟨v, rfl, rfl, hP3, hK3⟩
            have hK13 : Keep g wr w3 := (Keep.of_below (below_new _ _)).trans hK3
            obtain ⟨fo', fn', fnn', fks'⟩ := f0
            obtain ⟨kv, q, rfl, hrep, hq⟩ := HRL.out
            obtain ⟨kA', kc', rfl, -⟩ := hrep.slice
            obtain rfl : q = [] := hq
            have c0 := hK13.cell (own_cell HOW.out (j := 0) rfl) hvg
            have c1 := hK13.cell (own_cell HOW.out (j := 1) rfl) hvg
            have c2 := hK13.cell (own_cell HOW.out (j := 2) rfl) hvg
            have c3 := hK13.cell (own_cell HOW.out (j := 3) rfl) hvg
            have hb8 := hK13.blk H8.out hwg
            obtain ⟨⟨d0, d1, d2, d3⟩, ⟨e0, e1, e2, e3⟩, hlt3⟩ := blk4 hb8
            have HB83 := Lib.hid hb8; clear hb8
            have HREP := Lib.hid hrep; clear hrep
            have HK13 := Lib.hid hK13; clear hK13
            have HP3 := Lib.hid hP3; clear hP3
            clear hK3 HT HS
            unfold idxI
            go_wp2
            obtain ⟨⟨r0, r1, r2, r3⟩, -, -⟩ := blk4 (set4_blk HB83.out (.int .i64 fo') (.string (mkS fn')) (.int .i64 fnn') (.slice kA' fks'.length kc'))
            have hKt := set4_keep w3 w.heap.size (.int .i64 fo') (.string (mkS fn')) (.int .i64 fnn') (.slice kA' fks'.length kc')
            unfold set4 at r0 r1 r2 r3 hKt
            refine bodyPost_ret (v := StV (.mk fo' fn' fnn' fks') (.slice kA' fks'.length kc')) (by simp [results, Tryd.results120, go_sem, r0, r1, r2, r3, StV, StC]) rfl ⟨?_, _, rfl, ⟨_, rfl, ?_⟩, ?_⟩
            · exact (((Keep.of_below HB.out).trans HK.out).trans HK13.out).newer hKt (Nat.le_refl _)
            · refine HREP.out.to (fun b hb hS => ?_) fun b hb hS => ⟨?_, ?_⟩
              · have h1 := hS.1
                have := HS0.out
                exact (hKt.block b (Nat.lt_of_lt_of_le hb HK13.out.size) (by omega)).trans (HK13.out.block b hb (by omega))
              · have h1 := hS.1
                have := HS0.out
                omega
              · exact Nat.lt_of_lt_of_le hb (Nat.le_trans HK13.out.size hKt.size)
            · exact HP0.out.past HP3.out hKt (Nat.le_refl _)
          | cons f1 fr =>
            have hn1 : ((((f0 :: f1 :: fr).length : Nat) : Int) == 1) = false := by simp; omega
            have hjoined : Tr.joined (fun ls => St.mk op [] 0 ls) (f0 :: f1 :: fr) = .mk op [] 0 (f0 :: f1 :: fr) := rfl
            generalize hfs : f0 :: f1 :: fr = fs at *
            generalize hnn : fs.length = n at *
            have HN := Lib.hid hnn; clear hnn
            have HJD := Lib.hid hjoined; clear hjoined
            clear hfs
            go_wp2_with fail
            refine HT.out.mono ?_
            rintro e w3 ⟨v, rfl, rfl, hP3, hK3⟩
            have hK13 : Keep g wr w3 := (Keep.of_below (below_new _ _)).trans hK3
            have HK13 := Lib.hid hK13; clear hK13
            have HP3 := Lib.hid hP3; clear hP3
            clear hK3 HT HS
            unfold idxI
            have HJ3 := Lib.hid (HJ.out w3 (some ⟨vg, 0, none⟩) n vc)
            go_wp2_with fail
            refine HJ3.out.mono ?_
            rintro e w4 ⟨rfl, hB4⟩
            have hb8 := below_blk hB4 (HK13.out.blk H8.out hwg)
            obtain ⟨⟨d0, d1, d2, d3⟩, ⟨e0, e1, e2, e3⟩, hlt3⟩ := blk4 hb8
            have HB83 := Lib.hid hb8; clear hb8
            have HB4 := Lib.hid hB4; clear hB4
            clear HJ3
            go_wp2
            obtain ⟨⟨r0, r1, r2, r3⟩, -, -⟩ := blk4 (set4_blk HB83.out (.int .i64 op) (.string ⟨#[]⟩) (.int .i64 0) (.slice (some ⟨vg, 0, none⟩) n vc))
            have hKt := set4_keep w4 w.heap.size (.int .i64 op) (.string ⟨#[]⟩) (.int .i64 0) (.slice (some ⟨vg, 0, none⟩) n vc)
            unfold set4 at r0 r1 r2 r3 hKt
            have hnode : RepKS wr (fun b => w0.heap.size ≤ b ∧ b < wr.heap.size) (.mk op [] 0 fs) (.slice (some ⟨vg, 0, none⟩) n vc) := by
              have ho := HOW.out
              rw [← HN.out] at ho ⊢
              refine RepKS.node op [] 0 ho (HRL.out.to (fun _ _ _ => rfl) fun b hb hS => ⟨hS.1, hb⟩) fun x hx => ?_
              simp only [Value.ownBlock, Option.some.injEq] at hx
              subst hx
              exact ⟨hvb, hvl⟩
            refine bodyPost_ret (v := StV (.mk op [] 0 fs) (.slice (some ⟨vg, 0, none⟩) n vc)) (by simp [results, Tryd.results120, go_sem, r0, r1, r2, r3, StV, StC, mkS_nil]) rfl ⟨?_, _, rfl, ⟨_, by rw [HJD.out], ?_⟩, ?_⟩
            · exact ((((Keep.of_below HB.out).trans HK.out).trans HK13.out).trans (.of_below HB4.out)).newer hKt (Nat.le_refl _)
            · rw [HJD.out]
              refine hnode.to (fun b hb hS => ?_) fun b hb hS => ⟨?_, ?_⟩
              · have h1 := hS.1
                have := HS0.out
                have h2 : b < w3.heap.size := Nat.lt_of_lt_of_le hb HK13.out.size
                exact (hKt.block b (Nat.lt_of_lt_of_le h2 HB4.out.size) (by omega)).trans ((HB4.out.block b h2).trans (HK13.out.block b hb (by omega)))
              · have h1 := hS.1
                have := HS0.out
                omega
              · exact Nat.lt_of_lt_of_le hb (Nat.le_trans HK13.out.size (Nat.le_trans HB4.out.size hKt.size))
            · exact HP0.out.past (HP3.out.below HB4.out) hKt (Nat.le_refl _)
end Go.Proofs.YtlhgflnmdmifaaaDoor.Wk
/- Conditions of commencement: all, any. -/
namespace Go.Proofs.YtlhgflnmdmifaaaDoor.Wk
open Go.RowKit PD

set_option maxHeartbeats 1000000 in
theorem join_all : JoinS 131 8 := by
  intro w A n cc
  go_enter Tryd.func131, Tryd.ntmps131
  go_wp2
  refine bodyPost_ret (v := .agg #[.int .i64 8, .string ⟨#[]⟩, .int .i64 0, .slice A n cc]) (by simp [results, Tryd.results131, go_sem]) rfl ⟨rfl, ?_⟩
  exact below_new _ _
set_option maxHeartbeats 1000000 in
theorem join_any : JoinS 122 9 := by
  intro w A n cc
  go_enter Tryd.func122, Tryd.ntmps122
  go_wp2
  refine bodyPost_ret (v := .agg #[.int .i64 9, .string ⟨#[]⟩, .int .i64 0, .slice A n cc]) (by simp [results, Tryd.results122, go_sem]) rfl ⟨rfl, ?_⟩
  exact below_new _ _

/-- What a reader of conditions without and and or does. -/
def OneP (k : Nat) : Prop := ∀ (w : World) (g b o c : Nat) (l : List (Tok × Nat)) (en i : Nat), Par w g b o c l en i → (North.one k).run (l.map (·.1)) i ≠ .out →
  Calls Tryd.prog 130 #[.pointer (some ⟨g, 0, none⟩)] w (Out (EncSt w) ((North.one k).run (l.map (·.1)) i) g b o c l en w)
def AllP (k : Nat) : Prop := ∀ (w : World) (g b o c : Nat) (l : List (Tok × Nat)) (en i : Nat), Par w g b o c l en i → (North.all k).run (l.map (·.1)) i ≠ .out →
  Calls Tryd.prog 121 #[.pointer (some ⟨g, 0, none⟩)] w (Out (EncSt w) ((North.all k).run (l.map (·.1)) i) g b o c l en w)
def StartP (k : Nat) : Prop := ∀ (w : World) (g b o c : Nat) (l : List (Tok × Nat)) (en i : Nat), Par w g b o c l en i → (North.start k).run (l.map (·.1)) i ≠ .out →
  Calls Tryd.prog 89 #[.pointer (some ⟨g, 0, none⟩)] w (Out (EncSt w) ((North.start k).run (l.map (·.1)) i) g b o c l en w)

set_option maxHeartbeats 1000000 in
theorem all_of {k : Nat} (hk : k ≤ 6000) (ha : OneP k) : AllP k := by
  intro w g b o c l en i h hout
  have hmf : ∀ (fn : Fn) (first cap : Array Value) (w : World), (Instr.makeFunc fn first cap).run Tryd.prog w = .ok (.func fn first cap) w := fun _ _ _ _ => rfl
  have hg := h.lt
  have HC := several_callsS (h.below (below_new w zeroS)) 130 131 (fun _ _ => by kernel_rfl) (fun _ _ => by kernel_rfl) 8 join_all (North.one k)
    (fun w1 i1 _ hP _ ho => ha w1 g b o c l en i1 hP ho) [97, 110, 100] k hk hout
  have HP0 := Lib.hid h; clear h
  cases hr : (North.all k).run (l.map (·.1)) i with
  | out => exact absurd hr hout
  | err er j =>
    have HC := Lib.hid (Out.err_of hr HC)
    unfold mkS zeroS at HC
    clear hr hout
    go_enter Tryd.func121, Tryd.ntmps121
    go_wp2_with fail
    refine HC.out.mono ?_
    rintro e w2 ⟨rfl, hK⟩
    exact ⟨rfl, (Keep.of_below (below_new w zeroS)).trans hK, rfl⟩
  | ok f i' =>
    have HC := Lib.hid (Out.ok_of hr HC)
    unfold mkS zeroS at HC
    clear hr hout
    go_enter Tryd.func121, Tryd.ntmps121
    go_wp2_with fail
    refine HC.out.mono ?_
    rintro e w2 ⟨v, rfl, ⟨kv, rfl, hrep⟩, hP, hK⟩
    have HB8 := Lib.hid (wrapS_blk hg hK)
    obtain ⟨⟨d0, d1, d2, d3⟩, ⟨e0, e1, e2, e3⟩, hlt3⟩ := blk4 HB8.out
    obtain ⟨fo, fn, fm, fks⟩ := f
    obtain ⟨kA, kc, rfl, -⟩ := hrep.slice
    have HX := Lib.hid hrep; clear hrep
    have HP := Lib.hid hP; clear hP
    have HK := Lib.hid hK; clear hK
    clear HC
    unfold StV
    simp only [StC]
    go_wp2
    obtain ⟨⟨r0, r1, r2, r3⟩, -, -⟩ := blk4 (set4_blk HB8.out (.int .i64 fo) (.string (mkS fn)) (.int .i64 fm) (.slice kA fks.length kc))
    obtain ⟨q1, q2, q3⟩ := wrapS HP0.out HX.out HP.out HK.out (.int .i64 fo) (.string (mkS fn)) (.int .i64 fm) (.slice kA fks.length kc)
    unfold set4 at r0 r1 r2 r3 q1 q2 q3
    exact bodyPost_ret (v := StV (.mk fo fn fm fks) (.slice kA fks.length kc)) (by simp [results, Tryd.results121, go_sem, r0, r1, r2, r3, StV, StC]) rfl ⟨q1, _, rfl, ⟨_, rfl, q2⟩, q3⟩

set_option maxHeartbeats 1000000 in
theorem start_of {k : Nat} (hk : k ≤ 6000) (ha : AllP k) : StartP k := by
  intro w g b o c l en i h hout
  have hmf : ∀ (fn : Fn) (first cap : Array Value) (w : World), (Instr.makeFunc fn first cap).run Tryd.prog w = .ok (.func fn first cap) w := fun _ _ _ _ => rfl
  have hg := h.lt
  have HC := several_callsS (h.below (below_new w zeroS)) 121 122 (fun _ _ => by kernel_rfl) (fun _ _ => by kernel_rfl) 9 join_any (North.all k)
    (fun w1 i1 _ hP _ ho => ha w1 g b o c l en i1 hP ho) [111, 114] k hk hout
  have HP0 := Lib.hid h; clear h
  cases hr : (North.start k).run (l.map (·.1)) i with
  | out => exact absurd hr hout
  | err er j =>
    have HC := Lib.hid (Out.err_of hr HC)
    unfold mkS zeroS at HC
    clear hr hout
    go_enter Tryd.func89, Tryd.ntmps89
    go_wp2_with fail
    refine HC.out.mono ?_
    rintro e w2 ⟨rfl, hK⟩
    exact ⟨rfl, (Keep.of_below (below_new w zeroS)).trans hK, rfl⟩
  | ok f i' =>
    have HC := Lib.hid (Out.ok_of hr HC)
    unfold mkS zeroS at HC
    clear hr hout
    go_enter Tryd.func89, Tryd.ntmps89
    go_wp2_with fail
    refine HC.out.mono ?_
    rintro e w2 ⟨v, rfl, ⟨kv, rfl, hrep⟩, hP, hK⟩
    have HB8 := Lib.hid (wrapS_blk hg hK)
    obtain ⟨⟨d0, d1, d2, d3⟩, ⟨e0, e1, e2, e3⟩, hlt3⟩ := blk4 HB8.out
    obtain ⟨fo, fn, fm, fks⟩ := f
    obtain ⟨kA, kc, rfl, -⟩ := hrep.slice
    have HX := Lib.hid hrep; clear hrep
    have HP := Lib.hid hP; clear hP
    have HK := Lib.hid hK; clear hK
    clear HC
    unfold StV
    simp only [StC]
    go_wp2
    obtain ⟨⟨r0, r1, r2, r3⟩, -, -⟩ := blk4 (set4_blk HB8.out (.int .i64 fo) (.string (mkS fn)) (.int .i64 fm) (.slice kA fks.length kc))
    obtain ⟨q1, q2, q3⟩ := wrapS HP0.out HX.out HP.out HK.out (.int .i64 fo) (.string (mkS fn)) (.int .i64 fm) (.slice kA fks.length kc)
    unfold set4 at r0 r1 r2 r3 q1 q2 q3
    exact bodyPost_ret (v := StV (.mk fo fn fm fks) (.slice kA fks.length kc)) (by simp [results, Tryd.results89, go_sem, r0, r1, r2, r3, StV, StC]) rfl ⟨q1, _, rfl, ⟨_, rfl, q2⟩, q3⟩
end Go.Proofs.YtlhgflnmdmifaaaDoor.Wk
namespace Go.Proofs.YtlhgflnmdmifaaaDoor.Wk
open Go.RowKit PD

abbrev oneWs : List Str := [[97, 108, 119, 97, 121, 115], [110, 101, 118, 101, 114], [100, 97, 121], [40], [111, 114, 100, 101, 114], [101, 118, 101, 110, 116], [98, 101, 103, 117, 110], [111, 118, 101, 114]]
def oneRow : Obj := .cells #[.string ⟨#[97, 108, 119, 97, 121, 115]⟩, .string ⟨#[110, 101, 118, 101, 114]⟩, .string ⟨#[100, 97, 121]⟩, .string ⟨#[40]⟩, .string ⟨#[111, 114, 100, 101, 114]⟩, .string ⟨#[101, 118, 101, 110, 116]⟩, .string ⟨#[98, 101, 103, 117, 110]⟩, .string ⟨#[111, 118, 101, 114]⟩] 9
theorem one_strs (w : World) : Strs (w.alloc oneRow) w.heap.size oneWs := strs_lit w oneWs
/-- The first call. -/
theorem one_must {w : World} {g b o c : Nat} {l : List (Tok × Nat)} {en i : Nat} (h : Par w g b o c l en i) :
    Calls Tryd.prog 55 #[.pointer (some ⟨g, 0, none⟩), .slice (some ⟨(w.alloc zeroS).heap.size, 0, none⟩) 8 8] ((w.alloc zeroS).alloc oneRow) (Out EncNat ((Tr.must oneWs).run (l.map (·.1)) i) g b o c l en ((w.alloc zeroS).alloc oneRow)) :=
  must_calls ((h.below (below_new w zeroS)).below (below_new _ oneRow)) (w.alloc zeroS).heap.size 8 8 oneWs (one_strs _) rfl (Nat.le_refl _) (by omega)

set_option maxHeartbeats 1000000 in
theorem one_err {w : World} {g b o c : Nat} {l : List (Tok × Nat)} {en i : Nat} (h : Par w g b o c l en i) (er j : Nat) (hr : (Tr.must oneWs).run (l.map (·.1)) i = .err er j) :
    Calls Tryd.prog 130 #[.pointer (some ⟨g, 0, none⟩)] w (Out (EncSt w) (.err er j) g b o c l en w) := by
  have HT := Lib.hid (Out.err_of hr (one_must h))
  clear h hr
  unfold zeroS oneRow at HT
  go_enter Tryd.func130, Tryd.ntmps130
  go_wp2_with fail
  simp only [World.size_alloc] at HT
  refine HT.out.mono ?_
  rintro e w2 ⟨rfl, hK⟩
  exact ⟨rfl, ((Keep.of_below (below_new w zeroS)).trans (Keep.of_below (below_new (w.alloc zeroS) oneRow))).trans hK, rfl⟩

set_option maxHeartbeats 1000000 in
/-- always, never. -/
theorem one_const {w : World} {g b o c : Nat} {l : List (Tok × Nat)} {en i : Nat} (h : Par w g b o c l en i) (j : Nat) (hj : j = 0 ∨ j = 1) (hr : (Tr.must oneWs).run (l.map (·.1)) i = .ok j (i + 1)) :
    Calls Tryd.prog 130 #[.pointer (some ⟨g, 0, none⟩)] w (Out (EncSt w) (.ok (North.st0 (j + 1)) (i + 1)) g b o c l en w) := by
  have HT := Lib.hid (Out.ok_of hr (one_must h))
  have hg := h.lt
  have HP0 := Lib.hid h; clear h hr
  unfold zeroS oneRow at HT
  rcases hj with rfl | rfl
  all_goals
    go_enter Tryd.func130, Tryd.ntmps130
    go_wp2_with fail
    simp only [World.size_alloc] at HT
    refine HT.out.mono ?_
    rintro e w2 ⟨v, rfl, rfl, hP, hK⟩
    have hK1 : Keep g (w.alloc zeroS) w2 := (Keep.of_below (below_new (w.alloc zeroS) oneRow)).trans hK
    have HB8 := Lib.hid (wrapS_blk hg hK1)
    obtain ⟨⟨d0, d1, d2, d3⟩, ⟨e0, e1, e2, e3⟩, hlt3⟩ := blk4 HB8.out
    have HP := Lib.hid hP; clear hP
    have HK := Lib.hid hK1; clear hK1 hK
    clear HT
    go_wp2
  · obtain ⟨⟨r0, r1, r2, r3⟩, -, -⟩ := blk4 (set4_blk HB8.out (.int .i64 1) (.string ⟨#[]⟩) (.int .i64 0) (.slice none 0 0))
    obtain ⟨q1, q2, q3⟩ := wrapS HP0.out (RepKS.leaf _ _ 1 [] 0) HP.out HK.out (.int .i64 1) (.string ⟨#[]⟩) (.int .i64 0) (.slice none 0 0)
    unfold set4 at r0 r1 r2 r3 q1 q2 q3
    exact bodyPost_ret (v := StV (North.st0 1) (.slice none 0 0)) (by simp [results, Tryd.results130, go_sem, r0, r1, r2, r3, StV, StC, North.st0, mkS_nil]) rfl ⟨q1, _, rfl, ⟨_, rfl, q2⟩, q3⟩
  · obtain ⟨⟨r0, r1, r2, r3⟩, -, -⟩ := blk4 (set4_blk HB8.out (.int .i64 2) (.string ⟨#[]⟩) (.int .i64 0) (.slice none 0 0))
    obtain ⟨q1, q2, q3⟩ := wrapS HP0.out (RepKS.leaf _ _ 2 [] 0) HP.out HK.out (.int .i64 2) (.string ⟨#[]⟩) (.int .i64 0) (.slice none 0 0)
    unfold set4 at r0 r1 r2 r3 q1 q2 q3
    exact bodyPost_ret (v := StV (North.st0 2) (.slice none 0 0)) (by simp [results, Tryd.results130, go_sem, r0, r1, r2, r3, StV, StC, North.st0, mkS_nil]) rfl ⟨q1, _, rfl, ⟨_, rfl, q2⟩, q3⟩

set_option maxHeartbeats 1000000 in
/-- A day. -/
theorem one_day {w : World} {g b o c : Nat} {l : List (Tok × Nat)} {en i : Nat} (h : Par w g b o c l en i) (hr : (Tr.must oneWs).run (l.map (·.1)) i = .ok 2 (i + 1)) (r3 : PR St)
    (hr3 : (((Tr.number 1000000).run (l.map (·.1)) (i + 1)).bind fun n i' => .ok (.mk 3 [] n []) i') = r3) :
    Calls Tryd.prog 130 #[.pointer (some ⟨g, 0, none⟩)] w (Out (EncSt w) r3 g b o c l en w) := by
  have HR3 := Lib.hid hr3; clear hr3
  have HT := Lib.hid (Out.ok_of hr (one_must h))
  have hg := h.lt
  have HP0 := Lib.hid h; clear h hr
  unfold zeroS oneRow at HT
  go_enter Tryd.func130, Tryd.ntmps130
  go_wp2_with fail
  simp only [World.size_alloc] at HT
  refine HT.out.mono ?_
  rintro e w2 ⟨v, rfl, rfl, hP, hK⟩
  have hK1 : Keep g (w.alloc zeroS) w2 := (Keep.of_below (below_new (w.alloc zeroS) oneRow)).trans hK
  have HC := number_calls hP 1000000
  have HP := Lib.hid hP; clear hP
  have HK := Lib.hid hK1; clear hK1 hK
  clear HT
  cases hn : (Tr.number 1000000).run (l.map (·.1)) (i + 1) with
  | out =>
    exfalso
    have := Tr.goes_number (l := l.map (·.1)) (m := 1000000) (i := i + 1)
    unfold Tr.Goes at this
    rw [hn] at this
    exact this
  | err er j =>
    have h1 := HR3.out
    simp only [PR.bind, hn] at h1
    subst h1
    have HC := Lib.hid (Out.err_of hn HC)
    clear hn HR3
    go_wp2_with fail
    refine HC.out.mono ?_
    rintro e w3 ⟨rfl, hK3⟩
    exact ⟨rfl, ((Keep.of_below (below_new w zeroS)).trans HK.out).trans hK3, rfl⟩
  | ok n i' =>
    have h1 := HR3.out
    simp only [PR.bind, hn] at h1
    subst h1
    have HC := Lib.hid (Out.ok_of hn HC)
    clear hn HR3
    go_wp2_with fail
    refine HC.out.mono ?_
    rintro e w3 ⟨v, rfl, rfl, hP3, hK3⟩
    have hK13 : Keep g (w.alloc zeroS) w3 := HK.out.trans hK3
    have HB8 := Lib.hid (wrapS_blk hg hK13)
    obtain ⟨⟨d0, d1, d2, d3⟩, ⟨e0, e1, e2, e3⟩, hlt3⟩ := blk4 HB8.out
    have HP3 := Lib.hid hP3; clear hP3
    have HK3 := Lib.hid hK13; clear hK13 hK3
    clear HC
    go_wp2
    obtain ⟨⟨r0, r1, r2, r3⟩, -, -⟩ := blk4 (set4_blk HB8.out (.int .i64 3) (.string ⟨#[]⟩) (.int .i64 (n : Int)) (.slice none 0 0))
    obtain ⟨q1, q2, q3⟩ := wrapS HP0.out (RepKS.leaf _ _ 3 [] n) HP3.out HK3.out (.int .i64 3) (.string ⟨#[]⟩) (.int .i64 (n : Int)) (.slice none 0 0)
    unfold set4 at r0 r1 r2 r3 q1 q2 q3
    exact bodyPost_ret (v := StV (.mk 3 [] n []) (.slice none 0 0)) (by simp [results, Tryd.results130, go_sem, r0, r1, r2, r3, StV, StC, mkS_nil]) rfl ⟨q1, _, rfl, ⟨_, rfl, q2⟩, q3⟩

set_option maxHeartbeats 1000000 in
/-- An order, an event, the beginning or the end of a rule. -/
theorem one_name {w : World} {g b o c : Nat} {l : List (Tok × Nat)} {en i : Nat} (h : Par w g b o c l en i) (j : Nat) (hj4 : 4 ≤ j) (hj8 : j < 8) (hr : (Tr.must oneWs).run (l.map (·.1)) i = .ok j (i + 1)) (r3 : PR St)
    (hr3 : ((North.nm.run (l.map (·.1)) (i + 1)).bind fun s i' => .ok (.mk (4 + (j - 4 : Nat)) s 0 []) i') = r3) :
    Calls Tryd.prog 130 #[.pointer (some ⟨g, 0, none⟩)] w (Out (EncSt w) r3 g b o c l en w) := by
  have HR3 := Lib.hid hr3; clear hr3
  have HT := Lib.hid (Out.ok_of hr (one_must h))
  have hg := h.lt
  have HP0 := Lib.hid h; clear h hr
  unfold zeroS oneRow at HT
  have hj0 : ((j : Int) == 0) = false := by simp; omega
  have hj1 : ((j : Int) == 1) = false := by simp; omega
  have hj2 : ((j : Int) == 2) = false := by simp; omega
  have hj3 : ((j : Int) == 3) = false := by simp; omega
  have hop : (4 : Int) + (j : Int) - 4 = 4 + ((j - 4 : Nat) : Int) := by omega
  have HOP := Lib.hid hop; clear hop
  go_enter Tryd.func130, Tryd.ntmps130
  go_wp2_with fail
  simp only [World.size_alloc] at HT
  refine HT.out.mono ?_
  rintro e w2 ⟨v, rfl, rfl, hP, hK⟩
  have hK1 : Keep g (w.alloc zeroS) w2 := (Keep.of_below (below_new (w.alloc zeroS) oneRow)).trans hK
  have HC := name_calls hP
  have HP := Lib.hid hP; clear hP
  have HK := Lib.hid hK1; clear hK1 hK
  clear HT
  cases hn : North.nm.run (l.map (·.1)) (i + 1) with
  | out =>
    exfalso
    have := Tr.goes_name (l := l.map (·.1)) (k := North.isKey) (i := i + 1)
    unfold Tr.Goes at this
    have e : (Tr.name North.isKey).run (l.map (·.1)) (i + 1) = .out := hn
    rw [e] at this
    exact this
  | err er j =>
    have h1 := HR3.out
    simp only [PR.bind, hn] at h1
    subst h1
    have HC := Lib.hid (Out.err_of hn HC)
    clear hn HR3
    go_wp2_with fail
    refine HC.out.mono ?_
    rintro e w3 ⟨rfl, hK3⟩
    exact ⟨rfl, ((Keep.of_below (below_new w zeroS)).trans HK.out).trans hK3, rfl⟩
  | ok s i' =>
    have h1 := HR3.out
    simp only [PR.bind, hn] at h1
    subst h1
    have HC := Lib.hid (Out.ok_of hn HC)
    clear hn HR3
    go_wp2_with fail
    refine HC.out.mono ?_
    rintro e w3 ⟨v, rfl, rfl, hP3, hK3⟩
    have hK13 : Keep g (w.alloc zeroS) w3 := HK.out.trans hK3
    have HB8 := Lib.hid (wrapS_blk hg hK13)
    obtain ⟨⟨d0, d1, d2, d3⟩, ⟨e0, e1, e2, e3⟩, hlt3⟩ := blk4 HB8.out
    have HP3 := Lib.hid hP3; clear hP3
    have HK3 := Lib.hid hK13; clear hK13 hK3
    clear HC
    go_wp2
    obtain ⟨⟨r0, r1, r2, r3⟩, -, -⟩ := blk4 (set4_blk HB8.out (.int .i64 (4 + (j : Int) - 4)) (.string (mkS s)) (.int .i64 0) (.slice none 0 0))
    obtain ⟨q1, q2, q3⟩ := wrapS HP0.out (RepKS.leaf _ _ (4 + (j - 4 : Nat)) s 0) HP3.out HK3.out (.int .i64 (4 + (j : Int) - 4)) (.string (mkS s)) (.int .i64 0) (.slice none 0 0)
    unfold set4 at r0 r1 r2 r3 q1 q2 q3
    exact bodyPost_ret (v := StV (.mk (4 + (j : Int) - 4) s 0 []) (.slice none 0 0)) (by simp [results, Tryd.results130, go_sem, r0, r1, r2, r3, StV, StC]) rfl ⟨q1, _, rfl, ⟨_, by rw [HOP.out], q2⟩, q3⟩
end Go.Proofs.YtlhgflnmdmifaaaDoor.Wk
/- A condition of commencement in parentheses. -/
namespace Go.Proofs.YtlhgflnmdmifaaaDoor.Wk
open Go.RowKit PD

set_option maxHeartbeats 1000000 in
theorem one_paren {w : World} {g b o c : Nat} {l : List (Tok × Nat)} {en i k : Nat} (h : Par w g b o c l en i) (ha : StartP k) (hr : (Tr.must oneWs).run (l.map (·.1)) i = .ok 3 (i + 1)) (r : PR St) (hr1 : (North.start k).run (l.map (·.1)) (i + 1) = r) (hout : r ≠ .out) (r3 : PR St) (hr3 : (r.bind fun f i' => ((Tr.must [[41]]).run (l.map (·.1)) i').bind fun _ i2 => .ok f i2) = r3) :
    Calls Tryd.prog 130 #[.pointer (some ⟨g, 0, none⟩)] w (Out (EncSt w) r3 g b o c l en w) := by
  have HR3 := Lib.hid hr3; clear hr3
  have HT := Lib.hid (Out.ok_of hr (one_must h))
  have hg := h.lt
  have HP0 := Lib.hid h; clear h hr
  have HA : Hid (∀ w2, Par w2 g b o c l en (i + 1) → Calls Tryd.prog 89 #[.pointer (some ⟨g, 0, none⟩)] w2 (Out (EncSt w2) r g b o c l en w2)) := by
    refine Lib.hid fun w2 hP => ?_
    have := ha w2 g b o c l en (i + 1) hP (by rw [hr1]; exact hout)
    rwa [hr1] at this
  clear ha hr1
  unfold zeroS oneRow at HT
  go_enter Tryd.func130, Tryd.ntmps130
  go_wp2_with fail
  simp only [World.size_alloc] at HT
  refine HT.out.mono ?_
  rintro e w2 ⟨v, rfl, rfl, hP, hK⟩
  have hK1 : Keep g (w.alloc zeroS) w2 := (Keep.of_below (below_new (w.alloc zeroS) oneRow)).trans hK
  have HC := HA.out w2 hP
  have HP := Lib.hid hP; clear hP
  have HK := Lib.hid hK1; clear hK1 hK HA
  clear HT
  cases r with
  | out => exact absurd rfl hout
  | err er j =>
    have h1 := HR3.out
    simp only [PR.bind] at h1
    subst h1
    have HC := Lib.hid (Out.err_of rfl HC)
    clear hout
    go_wp2_with fail
    refine HC.out.mono ?_
    rintro e w3 ⟨rfl, hK3⟩
    exact ⟨rfl, ((Keep.of_below (below_new w zeroS)).trans HK.out).trans hK3, rfl⟩
  | ok f i' =>
    have HC := Lib.hid (Out.ok_of rfl HC)
    clear hout
    go_wp2_with fail
    refine HC.out.mono ?_
    rintro e w3 ⟨v, rfl, ⟨kv, rfl, hrep⟩, hP3, hK3⟩
    have hK13 : Keep g (w.alloc zeroS) w3 := HK.out.trans hK3
    have HB8 := Lib.hid (wrapS_blk hg hK13)
    have hlt3 : w.heap.size < w3.heap.size := heap_lt HB8.out
    obtain ⟨fo, fn, fm, fks⟩ := f
    obtain ⟨kA, kc, rfl, -⟩ := hrep.slice
    have hX' : RepKS w3 (fun b => (w.alloc zeroS).heap.size ≤ b ∧ b < w3.heap.size) (.mk fo fn fm fks) (.slice kA fks.length kc) :=
      hrep.to (fun _ _ _ => rfl) fun b hb hS => ⟨Nat.le_trans HK.out.size hS.1, hb⟩
    have HX := Lib.hid hX'; clear hX' hrep
    have HM := must_calls ((hP3.below (below_new w3 (.cells #[.int .i64 fo, .string (mkS fn), .int .i64 fm, .slice kA fks.length kc] 33))).below (below_new _ shutRow)) _ 1 1 [[41]] (shut_strs _) rfl (Nat.le_refl _) (by omega)
    have HP3 := Lib.hid hP3; clear hP3
    have HK3 := Lib.hid hK13; clear hK13 hK3
    clear HC
    unfold StV
    simp only [StC]
    cases hm : (Tr.must [[41]]).run (l.map (·.1)) i' with
    | out =>
      exfalso
      have := Tr.goes_must (l := l.map (·.1)) (ws := [[41]]) (i := i')
      unfold Tr.Goes at this
      rw [hm] at this
      exact this
    | err er j =>
      have h1 := HR3.out
      simp only [PR.bind, hm] at h1
      subst h1
      have HM := Lib.hid (Out.err_of hm HM)
      unfold shutRow at HM
      simp only [World.size_alloc] at HM
      clear hm
      go_wp2_with fail
      refine HM.out.mono ?_
      rintro e w5 ⟨rfl, hK5⟩
      exact ⟨rfl, (((Keep.of_below (below_new w zeroS)).trans HK3.out).trans ((Keep.of_below (below_new w3 _)).trans (.of_below (below_new _ shutRow)))).trans hK5, rfl⟩
    | ok m i2 =>
      have h1 := HR3.out
      simp only [PR.bind, hm] at h1
      subst h1
      have HM := Lib.hid (Out.ok_of hm HM)
      unfold shutRow at HM
      simp only [World.size_alloc] at HM
      clear hm
      go_wp2_with fail
      refine HM.out.mono ?_
      rintro e w5 ⟨v, rfl, rfl, hP5, hK5⟩
      have hK35 : Keep g w3 w5 := ((Keep.of_below (below_new w3 (.cells #[.int .i64 fo, .string (mkS fn), .int .i64 fm, .slice kA fks.length kc] 33))).trans (.of_below (below_new _ shutRow))).trans hK5
      have hbt : w5.heap[w3.heap.size]? = some (.cells #[.int .i64 fo, .string (mkS fn), .int .i64 fm, .slice kA fks.length kc] 33 (0, 0)) := by
        refine hK5.blk (below_blk (below_new _ shutRow) (heap_alloc_new w3 _)) ?_
        have := HP0.out.lt; omega
      obtain ⟨⟨t0, t1, t2, t3⟩, -, -⟩ := blk4 hbt
      have hb8 := hK35.blk HB8.out (by omega)
      obtain ⟨⟨d0, d1, d2, d3⟩, ⟨e0, e1, e2, e3⟩, hlt5⟩ := blk4 hb8
      have HB85 := Lib.hid hb8; clear hb8 hbt
      have hX5 : RepKS w5 (fun b => (w.alloc zeroS).heap.size ≤ b ∧ b < w5.heap.size) (.mk fo fn fm fks) (.slice kA fks.length kc) :=
        HX.out.to (fun b hb hS => hK35.block b hb (by have := HP0.out.lt; have := hS.1; simp at this; omega)) fun b hb hS => ⟨hS.1, Nat.lt_of_lt_of_le hb hK35.size⟩
      have HX5 := Lib.hid hX5; clear hX5
      have HP5 := Lib.hid hP5; clear hP5
      have HK5 := Lib.hid (HK3.out.trans hK35); clear hK35 hK5 HM
      go_wp2
      obtain ⟨⟨r0, r1, r2, r3⟩, -, -⟩ := blk4 (set4_blk HB85.out (.int .i64 fo) (.string (mkS fn)) (.int .i64 fm) (.slice kA fks.length kc))
      obtain ⟨q1, q2, q3⟩ := wrapS HP0.out HX5.out HP5.out HK5.out (.int .i64 fo) (.string (mkS fn)) (.int .i64 fm) (.slice kA fks.length kc)
      unfold set4 at r0 r1 r2 r3 q1 q2 q3
      exact bodyPost_ret (v := StV (.mk fo fn fm fks) (.slice kA fks.length kc)) (by simp [results, Tryd.results130, go_sem, r0, r1, r2, r3, StV, StC]) rfl ⟨q1, _, rfl, ⟨_, rfl, q2⟩, q3⟩
end Go.Proofs.YtlhgflnmdmifaaaDoor.Wk
namespace Go.Proofs.YtlhgflnmdmifaaaDoor.Wk
open Go.RowKit PD
/-- The reader of conditions of commencement without and and or. -/
theorem one_calls : ∀ k, k ≤ 6000 → OneP k := by
  intro k
  induction k with
  | zero => intro _ w g b o c l en i _ hout; exact absurd rfl hout
  | succ k ih =>
    intro hk w g b o c l en i h hout
    have hc := start_of (by omega) (all_of (by omega) (ih (by omega)))
    have hrun : (North.one (k + 1)).run (l.map (·.1)) i = ((Tr.must oneWs).run (l.map (·.1)) i).bind fun j i' => Tr.run (l.map (·.1)) (match j with
      | 0 => .ret (North.st0 1)
      | 1 => .ret (North.st0 2)
      | 2 => (Tr.number 1000000).bind fun n => .ret (St.mk 3 [] n [])
      | 3 => (North.start k).bind fun s => (Tr.must [[41]]).bind fun _ => .ret s
      | j => North.nm.bind fun s => .ret (St.mk (4 + (j - 4 : Nat)) s 0 []) : Tr St) i' := by
      rw [North.one, Tr.run_bind]
      rfl
    have hm : (∃ j, (Tr.must oneWs).run (l.map (·.1)) i = .ok j (i + 1) ∧ j < 8) ∨ ∃ er j, (Tr.must oneWs).run (l.map (·.1)) i = .err er j := by
      unfold Tr.must
      rw [Tr.run_bind]
      rcases Tr.run_take_ok (l.map (·.1)) oneWs i with ⟨j, hr, hl⟩ | hr
      · refine .inl ⟨j, by rw [hr]; rfl, ?_⟩
        have h2 := hr
        rw [Tr.run_take] at h2
        cases hx : (l.map (·.1))[i]? with
        | none => rw [hx] at h2; simp at h2
        | some t =>
          rw [hx] at h2
          simp only at h2
          split at h2
          · simp only [PR.ok.injEq] at h2; exact (idx_some _ _ _ h2.1).1
          · simp at h2
      · exact .inr ⟨_, _, by rw [hr]; rfl⟩
    rcases hm with ⟨j, hr, hj8⟩ | ⟨er, j, hr⟩
    · rw [hr] at hrun
      simp only [PR.bind] at hrun
      rw [hrun] at hout ⊢
      rcases Nat.lt_or_ge j 4 with hj4 | hj4
      · have hcase : j = 0 ∨ j = 1 ∨ j = 2 ∨ j = 3 := by omega
        rcases hcase with rfl | rfl | rfl | rfl
        · exact one_const h 0 (.inl rfl) hr
        · exact one_const h 1 (.inr rfl) hr
        · simp only [Tr.run_bind] at hout ⊢
          exact one_day h hr _ rfl
        · simp only [Tr.run_bind] at hout ⊢
          exact one_paren h hc hr _ rfl (fun e => hout (by rw [e]; rfl)) _ rfl
      · refine one_name h j hj4 hj8 hr _ ?_
        match j, hj4, hj8 with
        | 4, _, _ => simp only [Tr.run_bind]; rfl
        | 5, _, _ => simp only [Tr.run_bind]; rfl
        | 6, _, _ => simp only [Tr.run_bind]; rfl
        | 7, _, _ => simp only [Tr.run_bind]; rfl
    · rw [hrun, hr]
      exact one_err h er j hr
theorem start_calls (k : Nat) (hk : k ≤ 6000) : StartP k := start_of hk (all_of hk (one_calls k hk))
end Go.Proofs.YtlhgflnmdmifaaaDoor.Wk
