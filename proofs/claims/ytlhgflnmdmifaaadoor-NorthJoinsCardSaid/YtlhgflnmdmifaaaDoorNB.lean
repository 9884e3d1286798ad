/- Several conditions that are joined by a word. Conditions: and, or. A condition without and and or: the ways that call nothing more, and names. A condition without and and or: not. A condition without and and or: in parentheses. A condition without and and or: a name alone, or compared. -/
import Derived.Test.YtlhgflnmdmifaaaDoorNA
import Derived.Test.YtlhgflnmdmifaaaDoorREP
import Derived.Deep.LoopGhost
namespace Go.Proofs.YtlhgflnmdmifaaaDoor.Wk
open Go.RowKit PD

/-- A formula that was read lies in new memory. -/
def EncFm (w0 w' : World) (f : Fm) (v : Value) : Prop := ∃ kv, v = FmV f kv ∧ RepK w' (fun b => w0.heap.size ≤ b ∧ b < w'.heap.size) f kv
theorem info_Formula : (Tryd.prog.info? 29).map (fun i => (i.zero, i.size, i.bytes)) = some (some (.agg #[.int .i64 0, .string ⟨#[]⟩, .int .i64 0, .int .i64 0, .slice none 0 0]), 5, 64) := by kernel_rfl

def OneF (F g b o c : Nat) (l : List (Tok × Nat)) (en : Nat) (one : Tr Fm) (w : World) (i : Nat) : Prop :=
  ∀ (w1 : World) (i1 : Nat), Keep g w w1 → Par w1 g b o c l en i1 → i ≤ i1 → one.run (l.map (·.1)) i1 ≠ .out →
    Calls Tryd.prog F #[.pointer (some ⟨g, 0, none⟩)] w1 (Out (EncFm w1) (one.run (l.map (·.1)) i1) g b o c l en w1)
def JoinF (J : Nat) (op : Int) : Prop := ∀ (w1 : World) (A : Option Addr) (n cc : Nat), Calls Tryd.prog J #[.slice A n cc] w1 fun e w' =>
  e = .returned (.agg #[.int .i64 op, .string ⟨#[]⟩, .int .i64 0, .int .i64 0, .slice A n cc]) ∧ Below w1.heap.size w1 w'

set_option maxHeartbeats 1000000 in
theorem several_errF {w : World} {g b o c : Nat} {l : List (Tok × Nat)} {en i : Nat} (h : Par w g b o c l en i) (F J : Nat) (hF : ∀ (args : Array Value) (w : World), (callFunc F args).run Tryd.prog w = .ok (.enter F args) w)
    (one : Tr Fm) (hone : OneF F g b o c l en one w i) (word : Str) (er j : Nat) (hr : one.run (l.map (·.1)) i = .err er j) :
    Calls Tryd.prog 84 #[.pointer (some ⟨g, 0, none⟩), .string (mkS word), .func (.func F) #[.pointer (some ⟨g, 0, none⟩)] #[], .func (.func J) #[] #[]] w fun e w' => e = stopped er (posOf l en j) ∧ Keep g w w' := by
  have hB0 : Below w.heap.size w (w.alloc (.cells #[.int .i64 0, .string ⟨#[]⟩, .int .i64 0, .int .i64 0, .slice none 0 0] 29)) := (Below.refl _ _).alloc (Nat.le_refl _) _
  have H1 := Lib.hid (Out.err_of hr (hone _ i (.of_below hB0) (h.below hB0) (Nat.le_refl _) (by rw [hr]; simp)))
  clear hr hone h
  have HB := Lib.hid hB0; clear hB0
  go_enter Tryd.func84, Tryd.ntmps84
  go_wp2_with fail
  refine H1.out.mono ?_
  rintro e w2 ⟨rfl, hK⟩
  exact ⟨rfl, rfl, (Keep.of_below HB.out).trans hK⟩

/-- Blocks that lie beyond B and are not the row's own. -/
def SX (B : Nat) (w : World) (v : Value) (b : Nat) : Prop := B ≤ b ∧ b < w.heap.size ∧ v.ownBlock ≠ some b

/-- What holds at the head of the loop. -/
def LoopF (g b o c : Nat) (l : List (Tok × Nat)) (en i : Nat) (one : Tr Fm) (word : Str) (op : Int) (kk : Nat) (w0 : World) (r : PR Fm) (k : Nat) (v : Value) (wr : World) : Prop :=
  ∃ (cs : List Value) (fs : List Fm) (i1 : Nat), fs ≠ [] ∧ k + fs.length ≤ kk + 1 ∧ wr.ownsRow w0.heap.size 29 5 v fs.length cs ∧ RepL wr (SX w0.heap.size wr v) fs cs ∧ Par wr g b o c l en i1 ∧ i ≤ i1 ∧ Keep g w0 wr ∧
    ((Tr.more word one k fs).bind fun ls => Tr.ret (Tr.joined (fun ls => Fm.mk op [] 0 0 ls) ls)).run (l.map (·.1)) i1 = r

theorem grown_keep {w w' : World} {row : Option Nat} (h : w.grownBy w' row) {b : Nat} (hb : b < w.heap.size) (hr : some b ≠ row) : w'.heap[b]? = w.heap[b]? := h.block b hb hr
theorem strs_one (w : World) (s : Str) : Strs (w.alloc (.cells #[.string (mkS s)] 9)) w.heap.size [s] := by
  intro j x hj
  cases j with
  | zero => simp at hj; subst hj; exact (blk_cell (heap_alloc_new w _) 0).trans rfl
  | succ j => simp at hj

set_option maxRecDepth 100000 in
set_option maxHeartbeats 4000000 in
theorem several_callsF {w : World} {g b o c : Nat} {l : List (Tok × Nat)} {en i : Nat} (h : Par w g b o c l en i) (F J : Nat) (hF : ∀ (args : Array Value) (w : World), (callFunc F args).run Tryd.prog w = .ok (.enter F args) w)
    (hJ : ∀ (args : Array Value) (w : World), (callFunc J args).run Tryd.prog w = .ok (.enter J args) w) (op : Int) (hjoin : JoinF J op)
    (one : Tr Fm) (hone : OneF F g b o c l en one w i) (word : Str) (kk : Nat) (hkk : kk ≤ 6000) (hout : (Tr.several kk word one fun ls => .mk op [] 0 0 ls).run (l.map (·.1)) i ≠ .out) :
    Calls Tryd.prog 84 #[.pointer (some ⟨g, 0, none⟩), .string (mkS word), .func (.func F) #[.pointer (some ⟨g, 0, none⟩)] #[], .func (.func J) #[] #[]] w (Out (EncFm w) ((Tr.several kk word one fun ls => .mk op [] 0 0 ls).run (l.map (·.1)) i) g b o c l en w) := by
  unfold Tr.several at hout ⊢
  rw [Tr.run_bind] at hout ⊢
  cases hr : one.run (l.map (·.1)) i with
  | out => rw [hr] at hout; exact absurd rfl hout
  | err er j =>
    refine (several_errF h F J hF one hone word er j hr).mono ?_
    rintro e w' ⟨rfl, hK⟩
    exact ⟨hK, rfl⟩
  | ok x i1 =>
    rw [hr] at hout
    simp only [PR.bind] at hout ⊢
    generalize hR : ((Tr.more word one kk [x]).bind fun ls => Tr.ret (Tr.joined (fun ls => Fm.mk op [] 0 0 ls) ls)).run (l.map (·.1)) i1 = r at hout ⊢
    have hglt := h.lt
    have hB0 : Below w.heap.size w (w.alloc (.cells #[.int .i64 0, .string ⟨#[]⟩, .int .i64 0, .int .i64 0, .slice none 0 0] 29)) := (Below.refl _ _).alloc (Nat.le_refl _) _
    have hb8 : (w.alloc (.cells #[.int .i64 0, .string ⟨#[]⟩, .int .i64 0, .int .i64 0, .slice none 0 0] 29)).heap[w.heap.size]? = some (.cells #[.int .i64 0, .string ⟨#[]⟩, .int .i64 0, .int .i64 0, .slice none 0 0] 29 (0, 0)) := heap_alloc_new w _
    have hs0 : (w.alloc (.cells #[.int .i64 0, .string ⟨#[]⟩, .int .i64 0, .int .i64 0, .slice none 0 0] 29)).heap.size = w.heap.size + 1 := by simp
    have H1 := Lib.hid (Out.ok_of hr (hone _ i (.of_below hB0) (h.below hB0) (Nat.le_refl _) (by rw [hr]; simp)))
    have HR := Lib.hid hR; clear hR
    have HO := Lib.hid hout; clear hout
    have H1O := Lib.hid hone; clear hone
    have HJ := Lib.hid hjoin; clear hjoin
    have HP0 := Lib.hid h; clear h
    have hle : i ≤ i1 := (Tr.run_le (l.map (·.1)) one i _ i1 (by have := HP0.out.hi; simpa using this) hr).1
    clear hr
    have HB := Lib.hid hB0; clear hB0
    have HB8 := Lib.hid hb8; clear hb8
    have HS0 := Lib.hid hs0; clear hs0
    go_enter Tryd.func84, Tryd.ntmps84
    go_wp2_with fail
    refine H1.out.mono ?_
    rintro e w2 ⟨v, rfl, ⟨kv, rfl, hrep⟩, hP, hK⟩
    generalize w.alloc (.cells #[.int .i64 0, .string ⟨#[]⟩, .int .i64 0, .int .i64 0, .slice none 0 0] 29) = w0 at *
    clear H1
    have HREL : Hid (LoopF g b o c l en i one word op kk w0 r kk (.slice (some ⟨w2.heap.size, 0, none⟩) 1 1) (w2.alloc (.cells (FmC x kv).toArray 29))) := by
      refine Lib.hid ⟨FmC x kv, [x], i1, by simp, by simp, ?_, ?_, hP.below (below_new _ _), hle, hK.alloc _, HR.out⟩
      · have := World.ownsRow_lit (base := w0.heap.size) (e := 29) (size := 5) w2 (FmC x kv).toArray 1 hK.size (by decide) (by simp [FmC_length])
        simpa using this
      · refine ⟨kv, [], by simp, hrep.to (fun b hb _ => alloc_old w2 _ hb) (fun b hb hS => ⟨hS.1, by simp; omega, ?_⟩), rfl⟩
        simp [Value.ownBlock]; omega
    obtain ⟨fo, fn, fc, fnn, fks⟩ := x
    obtain ⟨kA, kc, rfl, -⟩ := hrep.slice
    unfold FmV
    simp only [FmC] at HREL ⊢
    clear hrep hP hK HR
    go_wp2_with fail
    go_loopg [9] kk (fun k v wr => LoopF g b o c l en i one word op kk w0 r k v wr)
    case atStart => exact HREL.out
    case round =>
      clear HREL
      obtain ⟨cs, fs, i2, hne, hlen, hown, hrl, hP, hi2, hK, hrun⟩ := hrel
      cases gk with
      | zero => exact absurd hrun.symm HO.out
      | succ k =>
        have HS := Lib.hid (strs_one wr word)
        have HT := take_calls (hP.below (below_new wr (.cells #[.string (mkS word)] 9))) wr.heap.size 1 1 [word] HS.out rfl (Nat.le_refl _) (by omega)
        simp only [Tr.more] at hrun
        rw [Tr.run_bind, Tr.run_bind] at hrun
        rcases Tr.run_take_ok (l.map (·.1)) [word] i2 with ⟨j, hr, hl2⟩ | hr
        · -- the word: one more
          rw [hr] at hrun
          simp only [PR.bind] at hrun
          rw [Tr.run_bind] at hrun
          have HT := Lib.hid (Out.ok_of hr HT)
          clear hr
          have hvv : ∃ A n' cc, u9 = .slice A n' cc := by
            rcases hown.2 with ⟨rfl, _⟩ | ⟨g', cap, cur, rfl, _⟩
            · exact ⟨_, _, _, rfl⟩
            · exact ⟨_, _, _, rfl⟩
          obtain ⟨vA, vn, vcc, rfl⟩ := hvv
          have HP := Lib.hid hP; clear hP
          have HK := Lib.hid hK; clear hK
          have HOW := Lib.hid hown; clear hown
          have HRL := Lib.hid hrl; clear hrl
          have HRUN := Lib.hid hrun; clear hrun
          go_wp2_with fail
          refine HT.out.mono ?_
          rintro e w3 ⟨v, rfl, rfl, hP3, hK3⟩
          have HK13 := Lib.hid (show Keep g wr w3 from (Keep.of_below (below_new _ _)).trans hK3)
          have HP3 := Lib.hid hP3; clear hP3
          clear hK3 HT HS
          unfold idxI
          cases hr2 : one.run (l.map (·.1)) (i2 + 1) with
          | out =>
            have := HRUN.out
            rw [hr2] at this
            exact absurd this.symm HO.out
          | err er je =>
            have h1 := HRUN.out
            rw [hr2] at h1
            simp only [PR.bind] at h1
            subst h1
            have HC := Lib.hid (Out.err_of hr2 (H1O.out w3 (i2 + 1) ((Keep.of_below HB.out).trans (HK.out.trans HK13.out)) HP3.out (by omega) (by rw [hr2]; simp)))
            clear hr2 HRUN
            go_wp2_with fail
            refine HC.out.mono ?_
            rintro e w4 ⟨rfl, hK4⟩
            exact ⟨rfl, (((Keep.of_below HB.out).trans HK.out).trans HK13.out).trans hK4, rfl⟩
          | ok x i3 =>
            have h1 := HRUN.out
            rw [hr2] at h1
            simp only [PR.bind] at h1
            have HC := Lib.hid (Out.ok_of hr2 (H1O.out w3 (i2 + 1) ((Keep.of_below HB.out).trans (HK.out.trans HK13.out)) HP3.out (by omega) (by rw [hr2]; simp)))
            have hle3 : i2 + 1 ≤ i3 := (Tr.run_le (l.map (·.1)) one (i2 + 1) _ i3 (by simp at hl2 ⊢; omega) hr2).1
            have HR3 := Lib.hid h1; clear h1
            clear hr2 HRUN hl2
            go_wp2_with fail
            refine HC.out.mono ?_
            rintro e w4 ⟨v, rfl, ⟨kv, rfl, hrep⟩, hP4, hK4⟩
            have hK14 : Keep g wr w4 := HK13.out.trans hK4
            have ho4 : w4.ownsRow w0.heap.size 29 5 (.slice vA vn vcc) fs.length cs := by
              have ho := HOW.out
              refine ⟨ho.1, ?_⟩
              rcases ho.2 with h | ⟨g', cap, cur, h1, h2, h3, h4⟩
              · exact .inl h
              · exact .inr ⟨g', cap, cur, h1, h2, hK14.blk h3 (by have := HS0.out; omega), h4⟩
            have hr4 : RepL w4 (SX w0.heap.size w4 (.slice vA vn vcc)) fs cs := by
              refine HRL.out.to (fun b hb hS => hK14.block b hb (by have := HS0.out; have := hS.1; omega)) fun b hb hS => ⟨hS.1, Nat.lt_of_lt_of_le hb hK14.size, hS.2.2⟩
            have hnew : ∀ k, (Value.slice vA vn vcc).ownBlock = some k → w0.heap.size ≤ k ∧ k < w3.heap.size := fun k hk => ⟨(HOW.out.lt k hk).1, Nat.lt_of_lt_of_le (HOW.out.lt k hk).2 HK13.out.size⟩
            have hlen' : fs.length ≤ 6000 := by omega
            obtain ⟨xo, xn, xc, xm, xks⟩ := x
            obtain ⟨xA, xcc, rfl, -⟩ := hrep.slice
            have HX := Lib.hid hrep; clear hrep
            have HK14 := Lib.hid hK14; clear hK14
            have HO4 := Lib.hid ho4; clear ho4
            have HR4 := Lib.hid hr4; clear hr4
            have HP4 := Lib.hid hP4; clear hP4
            have HK4 := Lib.hid hK4; clear hK4
            have HNEW := Lib.hid hnew; clear hnew
            clear HC
            unfold FmV
            simp only [FmC]
            obtain ⟨i0, hi0, hzz⟩ := Option.map_eq_some_iff.1 info_Formula
            simp only [Prod.mk.injEq] at hzz
            obtain ⟨hz0, hz1, hz2⟩ := hzz
            have HI0 := Lib.hid hi0; clear hi0
            have HZ0 := Lib.hid hz0; clear hz0
            have HZ1 := Lib.hid hz1; clear hz1
            have HZ2 := Lib.hid hz2; clear hz2
            have hbase : w0.heap.size ≤ w4.heap.size := Nat.le_trans HK.out.size HK14.out.size
            have hc1 : ∀ (j' : Nat) (u : Value), [Value.int .i64 xo, .string (mkS xn), .int .i64 xc, .int .i64 xm, .slice xA xks.length xcc][j']? = some u → (w4.alloc (.cells #[.int .i64 xo, .string (mkS xn), .int .i64 xc, .int .i64 xm, .slice xA xks.length xcc] 29)).cell? ((⟨w4.heap.size, 0, none⟩ : Addr).add j') = some u := by
              intro j' u hu
              rw [add_plain, blk_cell (heap_alloc_new w4 _) j']
              simpa using hu
            have hc2 : ∀ u ∈ [Value.int .i64 xo, .string (mkS xn), .int .i64 xc, .int .i64 xm, .slice xA xks.length xcc], u.oneCell' = true := by
              intro u hu
              simp only [List.mem_cons, List.not_mem_nil, or_false] at hu
              rcases hu with rfl | rfl | rfl | rfl | rfl <;> rfl
            have hc3 : fs.length + 1 ≤ maxLen := by simp only [maxLen]; omega
            have hc4 : (fs.length + 1) * 64 ≤ 140737488355328 := by omega
            have hc5 : w0.heap.size ≤ (w4.alloc (.cells #[.int .i64 xo, .string (mkS xn), .int .i64 xc, .int .i64 xm, .slice xA xks.length xcc] 29)).heap.size := by simp; omega
            have HC1 := Lib.hid hc1; clear hc1
            have HC2 := Lib.hid hc2; clear hc2
            have HC3 := Lib.hid hc3; clear hc3
            have HC4 := Lib.hid hc4; clear hc4
            have HC5 := Lib.hid hc5; clear hc5
            go_wp2_with (at_builtin; refine wpList_append_own_at (w4.alloc (.cells #[.int .i64 xo, .string (mkS xn), .int .i64 xc, .int .i64 xm, .slice xA xks.length xcc] 29)) rfl _ _ 27 rfl w0.heap.size 29 i0 _ 5 64 Tryd.underlying27 HI0.out HZ0.out HZ1.out HZ2.out rfl (by decide) (.slice vA vn vcc) fs.length cs rfl (HO4.out.alloc _) ⟨w4.heap.size, 0, none⟩ 1 1 [.int .i64 xo, .string (mkS xn), .int .i64 xc, .int .i64 xm, .slice xA xks.length xcc] rfl rfl HC1.out HC2.out HC3.out HC4.out HC5.out ?_; intro v' w5 hown' hgrow _ hat; have HOWN' := Lib.hid hown'; have HGROW := Lib.hid hgrow; have HAT := Lib.hid hat; clear hown' hgrow hat)
            go_roundg k
            case measure => omega
            case rel =>
              have hal := below_new w4 (.cells #[.int .i64 xo, .string (mkS xn), .int .i64 xc, .int .i64 xm, .slice xA xks.length xcc] 29)
              have hasz : (w4.alloc (.cells #[.int .i64 xo, .string (mkS xn), .int .i64 xc, .int .i64 xm, .slice xA xks.length xcc] 29)).heap.size = w4.heap.size + 1 := by simp
              generalize w4.alloc (.cells #[.int .i64 xo, .string (mkS xn), .int .i64 xc, .int .i64 xm, .slice xA xks.length xcc] 29) = w4' at *
              obtain ⟨t, ht, hKt⟩ := Keep.of_grown HGROW.out fun k hk => (HNEW.out k hk).1
              have hto : ∀ b, b < w4.heap.size → (Value.slice vA vn vcc).ownBlock ≠ some b → w5.heap[b]? = w4.heap[b]? := fun b hb hne =>
                (HGROW.out.block b (by omega) (fun e => hne e.symm)).trans (hal.block b hb)
              have hto' : ∀ b, b < w4.heap.size → (Value.slice vA vn vcc).ownBlock ≠ some b → v'.ownBlock ≠ some b := by
                intro b hb hne
                rcases HAT.out with h1 | h1
                · rw [h1]; exact hne
                · rw [h1]; simp; omega
              have hs5 := HGROW.out.size
              refine ⟨cs ++ [.int .i64 xo, .string (mkS xn), .int .i64 xc, .int .i64 xm, .slice xA xks.length xcc], fs ++ [.mk xo xn xc xm xks], i3, by simp, by simp; omega, ?_, ?_, ?_, by omega, ?_, by rw [Tr.run_bind]; exact HR3.out⟩
              · have := HOWN'.out
                rw [List.length_append, List.length_singleton]
                exact this
              · refine RepL.snoc (f := .mk xo xn xc xm xks) (kv := .slice xA xks.length xcc) (HX.out.to (fun b hb hS => hto b hb fun e => ?_) fun b hb hS => ⟨?_, by omega, hto' b hb fun e => ?_⟩) (HR4.out.to (fun b hb hS => hto b hb hS.2.2) fun b hb hS => ⟨hS.1, by omega, hto' b hb hS.2.2⟩)
                · have := (HNEW.out b e).2; have := hS.1; omega
                · have := hS.1; have := Nat.le_trans HK.out.size HK13.out.size; omega
                · have := (HNEW.out b e).2; have := hS.1; omega
              · exact HP0.out.past (HP4.out.below hal) hKt (by have := HS0.out; omega)
              · exact ((HK.out.trans HK14.out).trans (.of_below hal)).newer hKt ht
        · -- no more
          rw [hr] at hrun
          simp only [PR.bind, Tr.run] at hrun
          have HT := Lib.hid (Out.ok_of hr HT)
          clear hr
          subst hrun
          have hb8 := hK.blk HB8.out (Nat.ne_of_gt hglt)
          have hlt8 := heap_lt hb8
          obtain ⟨f0, fr, rfl⟩ : ∃ f r, fs = f :: r := by
            cases fs with
            | nil => exact absurd rfl hne
            | cons f r => exact ⟨f, r, rfl⟩
          obtain ⟨vg, vc, rfl, hvb, hvl, hvc, hvm⟩ := own_form hown (by simp)
          have HP := Lib.hid hP; clear hP
          have HK := Lib.hid hK; clear hK
          have HOW := Lib.hid hown; clear hown
          have HRL := Lib.hid hrl; clear hrl
          have H8 := Lib.hid hb8; clear hb8
          clear hlen HO H1O hF hne
          have hvg : vg ≠ g := by have := HS0.out; omega
          have hwg : w.heap.size ≠ g := by omega
          have hwv : w.heap.size < vg := by have := HS0.out; omega
          cases fr with
          | nil =>
            go_wp2_with fail
            refine HT.out.mono ?_
            rintro e w3 ⟨v, rfl, rfl, hP3, hK3⟩
            have hK13 : Keep g wr w3 := (Keep.of_below (below_new _ _)).trans hK3
            obtain ⟨fo', fn', fc', fnn', fks'⟩ := f0
            obtain ⟨kv, q, rfl, hrep, hq⟩ := HRL.out
            obtain ⟨kA', kc', rfl, -⟩ := hrep.slice
            obtain rfl : q = [] := hq
            have c0 := hK13.cell (own_cell HOW.out (j := 0) rfl) hvg
            have c1 := hK13.cell (own_cell HOW.out (j := 1) rfl) hvg
            have c2 := hK13.cell (own_cell HOW.out (j := 2) rfl) hvg
            have c3 := hK13.cell (own_cell HOW.out (j := 3) rfl) hvg
            have c4 := hK13.cell (own_cell HOW.out (j := 4) rfl) hvg
            have hb8 := hK13.blk H8.out hwg
            obtain ⟨⟨d0, d1, d2, d3, d4⟩, ⟨e0, e1, e2, e3, e4⟩, hlt3⟩ := blk5 hb8
            have HB83 := Lib.hid hb8; clear hb8
            have HREP := Lib.hid hrep; clear hrep
            have HK13 := Lib.hid hK13; clear hK13
            have HP3 := Lib.hid hP3; clear hP3
            clear hK3 HT HS
            unfold idxI
            go_wp2
            obtain ⟨⟨r0, r1, r2, r3, r4⟩, -, -⟩ := blk5 (set5_blk HB83.out (.int .i64 fo') (.string (mkS fn')) (.int .i64 fc') (.int .i64 fnn') (.slice kA' fks'.length kc'))
            have hKt := set5_keep w3 w.heap.size (.int .i64 fo') (.string (mkS fn')) (.int .i64 fc') (.int .i64 fnn') (.slice kA' fks'.length kc')
            unfold set5 at r0 r1 r2 r3 r4 hKt
            refine bodyPost_ret (v := FmV (.mk fo' fn' fc' fnn' fks') (.slice kA' fks'.length kc')) (by simp [results, Tryd.results84, go_sem, r0, r1, r2, r3, r4, FmV, FmC]) rfl ⟨?_, _, rfl, ⟨_, rfl, ?_⟩, ?_⟩
            · exact (((Keep.of_below HB.out).trans HK.out).trans HK13.out).newer hKt (Nat.le_refl _)
            · refine HREP.out.to (fun b hb hS => ?_) fun b hb hS => ⟨?_, ?_⟩
              · have h1 := hS.1
                have := HS0.out
                exact (hKt.block b (Nat.lt_of_lt_of_le hb HK13.out.size) (by omega)).trans (HK13.out.block b hb (by omega))
              · have h1 := hS.1
                have := HS0.out
                omega
              · exact Nat.lt_of_lt_of_le hb (Nat.le_trans HK13.out.size hKt.size)
            · exact HP0.out.past HP3.out hKt (Nat.le_refl _)
          | cons f1 fr =>
            have hn1 : ((((f0 :: f1 :: fr).length : Nat) : Int) == 1) = false := by simp; omega
            have hjoined : Tr.joined (fun ls => Fm.mk op [] 0 0 ls) (f0 :: f1 :: fr) = .mk op [] 0 0 (f0 :: f1 :: fr) := rfl
            generalize hfs : f0 :: f1 :: fr = fs at *
            generalize hnn : fs.length = n at *
            have HN := Lib.hid hnn; clear hnn
            have HJD := Lib.hid hjoined; clear hjoined
            clear hfs
            go_wp2_with fail
            refine HT.out.mono ?_
            rintro e w3 ⟨v, rfl, rfl, hP3, hK3⟩
            have hK13 : Keep g wr w3 := (Keep.of_below (below_new _ _)).trans hK3
            have HK13 := Lib.hid hK13; clear hK13
            have HP3 := Lib.hid hP3; clear hP3
            clear hK3 HT HS
            unfold idxI
            have HJ3 := Lib.hid (HJ.out w3 (some ⟨vg, 0, none⟩) n vc)
            go_wp2_with fail
            refine HJ3.out.mono ?_
            rintro e w4 ⟨rfl, hB4⟩
            have hb8 := below_blk hB4 (HK13.out.blk H8.out hwg)
            obtain ⟨⟨d0, d1, d2, d3, d4⟩, ⟨e0, e1, e2, e3, e4⟩, hlt3⟩ := blk5 hb8
            have HB83 := Lib.hid hb8; clear hb8
            have HB4 := Lib.hid hB4; clear hB4
            clear HJ3
            go_wp2
            obtain ⟨⟨r0, r1, r2, r3, r4⟩, -, -⟩ := blk5 (set5_blk HB83.out (.int .i64 op) (.string ⟨#[]⟩) (.int .i64 0) (.int .i64 0) (.slice (some ⟨vg, 0, none⟩) n vc))
            have hKt := set5_keep w4 w.heap.size (.int .i64 op) (.string ⟨#[]⟩) (.int .i64 0) (.int .i64 0) (.slice (some ⟨vg, 0, none⟩) n vc)
            unfold set5 at r0 r1 r2 r3 r4 hKt
            have hnode : RepK wr (fun b => w0.heap.size ≤ b ∧ b < wr.heap.size) (.mk op [] 0 0 fs) (.slice (some ⟨vg, 0, none⟩) n vc) := by
              have ho := HOW.out
              rw [← HN.out] at ho ⊢
              refine RepK.node op [] 0 0 ho (HRL.out.to (fun _ _ _ => rfl) fun b hb hS => ⟨hS.1, hb⟩) fun x hx => ?_
              simp only [Value.ownBlock, Option.some.injEq] at hx
              subst hx
              exact ⟨hvb, hvl⟩
            refine bodyPost_ret (v := FmV (.mk op [] 0 0 fs) (.slice (some ⟨vg, 0, none⟩) n vc)) (by simp [results, Tryd.results84, go_sem, r0, r1, r2, r3, r4, FmV, FmC, mkS_nil]) rfl ⟨?_, _, rfl, ⟨_, by rw [HJD.out], ?_⟩, ?_⟩
            · exact ((((Keep.of_below HB.out).trans HK.out).trans HK13.out).trans (.of_below HB4.out)).newer hKt (Nat.le_refl _)
            · rw [HJD.out]
              refine hnode.to (fun b hb hS => ?_) fun b hb hS => ⟨?_, ?_⟩
              · have h1 := hS.1
                have := HS0.out
                have h2 : b < w3.heap.size := Nat.lt_of_lt_of_le hb HK13.out.size
                exact (hKt.block b (Nat.lt_of_lt_of_le h2 HB4.out.size) (by omega)).trans ((HB4.out.block b h2).trans (HK13.out.block b hb (by omega)))
              · have h1 := hS.1
                have := HS0.out
                omega
              · exact Nat.lt_of_lt_of_le hb (Nat.le_trans HK13.out.size (Nat.le_trans HB4.out.size hKt.size))
            · exact HP0.out.past (HP3.out.below HB4.out) hKt (Nat.le_refl _)
end Go.Proofs.YtlhgflnmdmifaaaDoor.Wk
namespace Go.Proofs.YtlhgflnmdmifaaaDoor.Wk
open Go.RowKit PD

set_option maxHeartbeats 1000000 in
theorem join_and : JoinF 118 6 := by
  intro w A n cc
  go_enter Tryd.func118, Tryd.ntmps118
  go_wp2
  refine bodyPost_ret (v := .agg #[.int .i64 6, .string ⟨#[]⟩, .int .i64 0, .int .i64 0, .slice A n cc]) (by simp [results, Tryd.results118, go_sem]) rfl ⟨rfl, ?_⟩
  exact below_new _ _
set_option maxHeartbeats 1000000 in
theorem join_or : JoinF 86 7 := by
  intro w A n cc
  go_enter Tryd.func86, Tryd.ntmps86
  go_wp2
  refine bodyPost_ret (v := .agg #[.int .i64 7, .string ⟨#[]⟩, .int .i64 0, .int .i64 0, .slice A n cc]) (by simp [results, Tryd.results86, go_sem]) rfl ⟨rfl, ?_⟩
  exact below_new _ _

/-- What a reader of conditions without and and or does. -/
def AtomP (k : Nat) : Prop := ∀ (w : World) (g b o c : Nat) (l : List (Tok × Nat)) (en i : Nat), Par w g b o c l en i → (North.atom k).run (l.map (·.1)) i ≠ .out →
  Calls Tryd.prog 117 #[.pointer (some ⟨g, 0, none⟩)] w (Out (EncFm w) ((North.atom k).run (l.map (·.1)) i) g b o c l en w)
def AndP (k : Nat) : Prop := ∀ (w : World) (g b o c : Nat) (l : List (Tok × Nat)) (en i : Nat), Par w g b o c l en i → (North.and_ k).run (l.map (·.1)) i ≠ .out →
  Calls Tryd.prog 85 #[.pointer (some ⟨g, 0, none⟩)] w (Out (EncFm w) ((North.and_ k).run (l.map (·.1)) i) g b o c l en w)
def CondP (k : Nat) : Prop := ∀ (w : World) (g b o c : Nat) (l : List (Tok × Nat)) (en i : Nat), Par w g b o c l en i → (North.cond k).run (l.map (·.1)) i ≠ .out →
  Calls Tryd.prog 60 #[.pointer (some ⟨g, 0, none⟩)] w (Out (EncFm w) ((North.cond k).run (l.map (·.1)) i) g b o c l en w)

set_option maxHeartbeats 1000000 in
theorem and_of {k : Nat} (hk : k ≤ 6000) (ha : AtomP k) : AndP k := by
  intro w g b o c l en i h hout
  have hmf : ∀ (fn : Fn) (first cap : Array Value) (w : World), (Instr.makeFunc fn first cap).run Tryd.prog w = .ok (.func fn first cap) w := fun _ _ _ _ => rfl
  have hg := h.lt
  have HC := several_callsF (h.below (below_new w zeroF)) 117 118 (fun _ _ => by kernel_rfl) (fun _ _ => by kernel_rfl) 6 join_and (North.atom k)
    (fun w1 i1 _ hP _ ho => ha w1 g b o c l en i1 hP ho) [97, 110, 100] k hk hout
  have HP0 := Lib.hid h; clear h
  cases hr : (North.and_ k).run (l.map (·.1)) i with
  | out => exact absurd hr hout
  | err er j =>
    have HC := Lib.hid (Out.err_of hr HC)
    unfold mkS zeroF at HC
    clear hr hout
    go_enter Tryd.func85, Tryd.ntmps85
    go_wp2_with fail
    refine HC.out.mono ?_
    rintro e w2 ⟨rfl, hK⟩
    exact ⟨rfl, (Keep.of_below (below_new w zeroF)).trans hK, rfl⟩
  | ok f i' =>
    have HC := Lib.hid (Out.ok_of hr HC)
    unfold mkS zeroF at HC
    clear hr hout
    go_enter Tryd.func85, Tryd.ntmps85
    go_wp2_with fail
    refine HC.out.mono ?_
    rintro e w2 ⟨v, rfl, ⟨kv, rfl, hrep⟩, hP, hK⟩
    have HB8 := Lib.hid (wrapF_blk hg hK)
    obtain ⟨⟨d0, d1, d2, d3, d4⟩, ⟨e0, e1, e2, e3, e4⟩, hlt3⟩ := blk5 HB8.out
    obtain ⟨fo, fn, fc, fm, fks⟩ := f
    obtain ⟨kA, kc, rfl, -⟩ := hrep.slice
    have HX := Lib.hid hrep; clear hrep
    have HP := Lib.hid hP; clear hP
    have HK := Lib.hid hK; clear hK
    clear HC
    unfold FmV
    simp only [FmC]
    go_wp2
    obtain ⟨⟨r0, r1, r2, r3, r4⟩, -, -⟩ := blk5 (set5_blk HB8.out (.int .i64 fo) (.string (mkS fn)) (.int .i64 fc) (.int .i64 fm) (.slice kA fks.length kc))
    obtain ⟨q1, q2, q3⟩ := wrapF HP0.out HX.out HP.out HK.out (.int .i64 fo) (.string (mkS fn)) (.int .i64 fc) (.int .i64 fm) (.slice kA fks.length kc)
    unfold set5 at r0 r1 r2 r3 r4 q1 q2 q3
    exact bodyPost_ret (v := FmV (.mk fo fn fc fm fks) (.slice kA fks.length kc)) (by simp [results, Tryd.results85, go_sem, r0, r1, r2, r3, r4, FmV, FmC]) rfl ⟨q1, _, rfl, ⟨_, rfl, q2⟩, q3⟩

set_option maxHeartbeats 1000000 in
theorem cond_of {k : Nat} (hk : k ≤ 6000) (ha : AndP k) : CondP k := by
  intro w g b o c l en i h hout
  have hmf : ∀ (fn : Fn) (first cap : Array Value) (w : World), (Instr.makeFunc fn first cap).run Tryd.prog w = .ok (.func fn first cap) w := fun _ _ _ _ => rfl
  have hg := h.lt
  have HC := several_callsF (h.below (below_new w zeroF)) 85 86 (fun _ _ => by kernel_rfl) (fun _ _ => by kernel_rfl) 7 join_or (North.and_ k)
    (fun w1 i1 _ hP _ ho => ha w1 g b o c l en i1 hP ho) [111, 114] k hk hout
  have HP0 := Lib.hid h; clear h
  cases hr : (North.cond k).run (l.map (·.1)) i with
  | out => exact absurd hr hout
  | err er j =>
    have HC := Lib.hid (Out.err_of hr HC)
    unfold mkS zeroF at HC
    clear hr hout
    go_enter Tryd.func60, Tryd.ntmps60
    go_wp2_with fail
    refine HC.out.mono ?_
    rintro e w2 ⟨rfl, hK⟩
    exact ⟨rfl, (Keep.of_below (below_new w zeroF)).trans hK, rfl⟩
  | ok f i' =>
    have HC := Lib.hid (Out.ok_of hr HC)
    unfold mkS zeroF at HC
    clear hr hout
    go_enter Tryd.func60, Tryd.ntmps60
    go_wp2_with fail
    refine HC.out.mono ?_
    rintro e w2 ⟨v, rfl, ⟨kv, rfl, hrep⟩, hP, hK⟩
    have HB8 := Lib.hid (wrapF_blk hg hK)
    obtain ⟨⟨d0, d1, d2, d3, d4⟩, ⟨e0, e1, e2, e3, e4⟩, hlt3⟩ := blk5 HB8.out
    obtain ⟨fo, fn, fc, fm, fks⟩ := f
    obtain ⟨kA, kc, rfl, -⟩ := hrep.slice
    have HX := Lib.hid hrep; clear hrep
    have HP := Lib.hid hP; clear hP
    have HK := Lib.hid hK; clear hK
    clear HC
    unfold FmV
    simp only [FmC]
    go_wp2
    obtain ⟨⟨r0, r1, r2, r3, r4⟩, -, -⟩ := blk5 (set5_blk HB8.out (.int .i64 fo) (.string (mkS fn)) (.int .i64 fc) (.int .i64 fm) (.slice kA fks.length kc))
    obtain ⟨q1, q2, q3⟩ := wrapF HP0.out HX.out HP.out HK.out (.int .i64 fo) (.string (mkS fn)) (.int .i64 fc) (.int .i64 fm) (.slice kA fks.length kc)
    unfold set5 at r0 r1 r2 r3 r4 q1 q2 q3
    exact bodyPost_ret (v := FmV (.mk fo fn fc fm fks) (.slice kA fks.length kc)) (by simp [results, Tryd.results60, go_sem, r0, r1, r2, r3, r4, FmV, FmC]) rfl ⟨q1, _, rfl, ⟨_, rfl, q2⟩, q3⟩
end Go.Proofs.YtlhgflnmdmifaaaDoor.Wk
namespace Go.Proofs.YtlhgflnmdmifaaaDoor.Wk
open Go.RowKit PD

abbrev atomWs : List Str := [[110, 111, 116], [40], [116, 114, 117, 101], [102, 97, 108, 115, 101]]
def atomRow : Obj := .cells #[.string ⟨#[110, 111, 116]⟩, .string ⟨#[40]⟩, .string ⟨#[116, 114, 117, 101]⟩, .string ⟨#[102, 97, 108, 115, 101]⟩] 9
theorem atom_strs (w : World) : Strs (w.alloc atomRow) w.heap.size atomWs := strs_lit w atomWs
/-- The first call of an atom. -/
theorem atom_take {w : World} {g b o c : Nat} {l : List (Tok × Nat)} {en i : Nat} (h : Par w g b o c l en i) :
    Calls Tryd.prog 58 #[.pointer (some ⟨g, 0, none⟩), .slice (some ⟨(w.alloc zeroF).heap.size, 0, none⟩) 4 4] ((w.alloc zeroF).alloc atomRow) (Out EncIdx ((Tr.take atomWs).run (l.map (·.1)) i) g b o c l en ((w.alloc zeroF).alloc atomRow)) :=
  take_calls ((h.below (below_new w zeroF)).below (below_new _ atomRow)) (w.alloc zeroF).heap.size 4 4 atomWs (atom_strs _) rfl (Nat.le_refl _) (by omega)

set_option maxHeartbeats 1000000 in
/-- true, false. -/
theorem atom_const {w : World} {g b o c : Nat} {l : List (Tok × Nat)} {en i : Nat} (h : Par w g b o c l en i) (j : Nat) (hj : j = 2 ∨ j = 3) (hr : (Tr.take atomWs).run (l.map (·.1)) i = .ok (some j) (i + 1)) :
    Calls Tryd.prog 117 #[.pointer (some ⟨g, 0, none⟩)] w (Out (EncFm w) (.ok (North.fm0 (j - 1)) (i + 1)) g b o c l en w) := by
  have HT := Lib.hid (Out.ok_of hr (atom_take h))
  have hg := h.lt
  have HP0 := Lib.hid h; clear h hr
  unfold zeroF atomRow at HT
  rcases hj with rfl | rfl
  all_goals
    go_enter Tryd.func117, Tryd.ntmps117
    go_wp2_with fail
    simp only [World.size_alloc] at HT
    refine HT.out.mono ?_
    rintro e w2 ⟨v, rfl, rfl, hP, hK⟩
    have hK1 : Keep g (w.alloc zeroF) w2 := (Keep.of_below (below_new (w.alloc zeroF) atomRow)).trans hK
    have HB8 := Lib.hid (wrapF_blk hg hK1)
    obtain ⟨⟨d0, d1, d2, d3, d4⟩, ⟨e0, e1, e2, e3, e4⟩, hlt3⟩ := blk5 HB8.out
    have HP := Lib.hid hP; clear hP
    have HK := Lib.hid hK1; clear hK1 hK
    clear HT
    unfold idxI
    go_wp2
  · obtain ⟨⟨r0, r1, r2, r3, r4⟩, -, -⟩ := blk5 (set5_blk HB8.out (.int .i64 1) (.string ⟨#[]⟩) (.int .i64 0) (.int .i64 0) (.slice none 0 0))
    obtain ⟨q1, q2, q3⟩ := wrapF HP0.out (RepK.leaf _ _ 1 [] 0 0) HP.out HK.out (.int .i64 1) (.string ⟨#[]⟩) (.int .i64 0) (.int .i64 0) (.slice none 0 0)
    unfold set5 at r0 r1 r2 r3 r4 q1 q2 q3
    exact bodyPost_ret (v := FmV (North.fm0 1) (.slice none 0 0)) (by simp [results, Tryd.results117, go_sem, r0, r1, r2, r3, r4, FmV, FmC, North.fm0, mkS_nil]) rfl ⟨q1, _, rfl, ⟨_, rfl, q2⟩, q3⟩
  · obtain ⟨⟨r0, r1, r2, r3, r4⟩, -, -⟩ := blk5 (set5_blk HB8.out (.int .i64 2) (.string ⟨#[]⟩) (.int .i64 0) (.int .i64 0) (.slice none 0 0))
    obtain ⟨q1, q2, q3⟩ := wrapF HP0.out (RepK.leaf _ _ 2 [] 0 0) HP.out HK.out (.int .i64 2) (.string ⟨#[]⟩) (.int .i64 0) (.int .i64 0) (.slice none 0 0)
    unfold set5 at r0 r1 r2 r3 r4 q1 q2 q3
    exact bodyPost_ret (v := FmV (North.fm0 2) (.slice none 0 0)) (by simp [results, Tryd.results117, go_sem, r0, r1, r2, r3, r4, FmV, FmC, North.fm0, mkS_nil]) rfl ⟨q1, _, rfl, ⟨_, rfl, q2⟩, q3⟩
end Go.Proofs.YtlhgflnmdmifaaaDoor.Wk
namespace Go.Proofs.YtlhgflnmdmifaaaDoor.Wk
open Go.RowKit PD

set_option maxHeartbeats 1000000 in
theorem atom_not {w : World} {g b o c : Nat} {l : List (Tok × Nat)} {en i k : Nat} (h : Par w g b o c l en i) (ha : AtomP k) (hr : (Tr.take atomWs).run (l.map (·.1)) i = .ok (some 0) (i + 1)) (r : PR Fm) (hr1 : (North.atom k).run (l.map (·.1)) (i + 1) = r) (hout : r ≠ .out) :
    Calls Tryd.prog 117 #[.pointer (some ⟨g, 0, none⟩)] w (Out (EncFm w) (r.bind fun f i' => .ok (.mk 5 [] 0 0 [f]) i') g b o c l en w) := by
  have HT := Lib.hid (Out.ok_of hr (atom_take h))
  have hg := h.lt
  have HP0 := Lib.hid h; clear h hr
  have HA : Hid (∀ w2, Par w2 g b o c l en (i + 1) → Calls Tryd.prog 117 #[.pointer (some ⟨g, 0, none⟩)] w2 (Out (EncFm w2) r g b o c l en w2)) := by
    refine Lib.hid fun w2 hP => ?_
    have := ha w2 g b o c l en (i + 1) hP (by rw [hr1]; exact hout)
    rwa [hr1] at this
  clear ha hr1
  unfold zeroF atomRow at HT
  go_enter Tryd.func117, Tryd.ntmps117
  go_wp2_with fail
  simp only [World.size_alloc] at HT
  refine HT.out.mono ?_
  rintro e w2 ⟨v, rfl, rfl, hP, hK⟩
  have hK1 : Keep g (w.alloc zeroF) w2 := (Keep.of_below (below_new (w.alloc zeroF) atomRow)).trans hK
  have HC := HA.out w2 hP
  have HP := Lib.hid hP; clear hP
  have HK := Lib.hid hK1; clear hK1 hK HA
  clear HT
  unfold idxI
  cases r with
  | out => exact absurd rfl hout
  | err er j =>
    have HC := Lib.hid (Out.err_of rfl HC)
    clear hout
    go_wp2_with fail
    refine HC.out.mono ?_
    rintro e w3 ⟨rfl, hK3⟩
    exact ⟨rfl, ((Keep.of_below (below_new w zeroF)).trans HK.out).trans hK3, rfl⟩
  | ok f i' =>
    have HC := Lib.hid (Out.ok_of rfl HC)
    clear hout
    go_wp2_with fail
    refine HC.out.mono ?_
    rintro e w3 ⟨v, rfl, ⟨kv, rfl, hrep⟩, hP3, hK3⟩
    have hK13 : Keep g (w.alloc zeroF) w3 := HK.out.trans hK3
    have HB8 := Lib.hid (wrapF_blk hg hK13)
    obtain ⟨⟨d0, d1, d2, d3, d4⟩, ⟨e0, e1, e2, e3, e4⟩, hlt3⟩ := blk5 HB8.out
    obtain ⟨fo, fn, fc, fm, fks⟩ := f
    obtain ⟨kA, kc, rfl, -⟩ := hrep.slice
    have HX := Lib.hid hrep; clear hrep
    have HP3 := Lib.hid hP3; clear hP3
    have HK3 := Lib.hid hK13; clear hK13
    have HK23 := Lib.hid hK3; clear hK3
    clear HC
    unfold FmV
    simp only [FmC]
    go_wp2
    have hX' : RepK w3 (fun b => (w.alloc zeroF).heap.size ≤ b ∧ b < w3.heap.size) (.mk fo fn fc fm fks) (.slice kA fks.length kc) :=
      HX.out.to (fun _ _ _ => rfl) fun b hb hS => ⟨Nat.le_trans HK.out.size hS.1, hb⟩
    obtain ⟨⟨r0, r1, r2, r3, r4⟩, -, -⟩ := blk5 (set5_blk HB8.out (.int .i64 5) (.string ⟨#[]⟩) (.int .i64 0) (.int .i64 0) (.slice (some ⟨w3.heap.size, 0, none⟩) 1 1))
    obtain ⟨q1, q2, q3⟩ := wrapF HP0.out hX' HP3.out HK3.out (.int .i64 5) (.string ⟨#[]⟩) (.int .i64 0) (.int .i64 0) (.slice (some ⟨w3.heap.size, 0, none⟩) 1 1)
    have hsz := set5_size w3 w.heap.size (.int .i64 5) (.string ⟨#[]⟩) (.int .i64 0) (.int .i64 0) (.slice (some ⟨w3.heap.size, 0, none⟩) 1 1)
    have hs8 := hlt3
    unfold set5 at r0 r1 r2 r3 r4 q1 q2 q3 hsz
    generalize hW : ((((w3.setCell ⟨w.heap.size, 0, none⟩ (.int .i64 5)).setCell ⟨w.heap.size, 1, none⟩ (.string ⟨#[]⟩)).setCell ⟨w.heap.size, 2, none⟩ (.int .i64 0)).setCell ⟨w.heap.size, 3, none⟩ (.int .i64 0)).setCell ⟨w.heap.size, 4, none⟩ (.slice (some ⟨w3.heap.size, 0, none⟩) 1 1) = W at *
    have hn := q2.node1 5 [] 0 0 w3.heap.size hsz.symm
    have hb := below_new W (.cells (FmC (.mk fo fn fc fm fks) (.slice kA fks.length kc)).toArray 29)
    simp only [FmC] at hn hb
    have z0 := below_cell hb r0
    have z1 := below_cell hb r1
    have z2 := below_cell hb r2
    have z3 := below_cell hb r3
    have z4 := below_cell hb r4
    refine bodyPost_ret (v := FmV (.mk 5 [] 0 0 [.mk fo fn fc fm fks]) (.slice (some ⟨w3.heap.size, 0, none⟩) 1 1)) (by simp [results, Tryd.results117, go_sem, z0, z1, z2, z3, z4, FmV, FmC, mkS_nil]) rfl ⟨q1.trans (.of_below hb), _, rfl, ⟨_, rfl, hn.to (fun _ _ _ => rfl) fun b hb2 hS => ?_⟩, q3.below hb⟩
    have := hb.size
    rcases hS with ⟨hS, _⟩ | rfl
    · exact ⟨hS.1, hb2⟩
    · exact ⟨by omega, hb2⟩
end Go.Proofs.YtlhgflnmdmifaaaDoor.Wk
namespace Go.Proofs.YtlhgflnmdmifaaaDoor.Wk
open Go.RowKit PD

def shutRow : Obj := .cells #[.string ⟨#[41]⟩] 9
theorem shut_strs (w : World) : Strs (w.alloc shutRow) w.heap.size [[41]] := strs_lit w [[41]]

set_option maxHeartbeats 1000000 in
theorem atom_paren {w : World} {g b o c : Nat} {l : List (Tok × Nat)} {en i k : Nat} (h : Par w g b o c l en i) (ha : CondP k) (hr : (Tr.take atomWs).run (l.map (·.1)) i = .ok (some 1) (i + 1)) (r : PR Fm) (hr1 : (North.cond k).run (l.map (·.1)) (i + 1) = r) (hout : r ≠ .out) (r3 : PR Fm) (hr3 : (r.bind fun f i' => ((Tr.must [[41]]).run (l.map (·.1)) i').bind fun _ i2 => .ok f i2) = r3) :
    Calls Tryd.prog 117 #[.pointer (some ⟨g, 0, none⟩)] w (Out (EncFm w) r3 g b o c l en w) := by
  have HR3 := Lib.hid hr3; clear hr3
  have HT := Lib.hid (Out.ok_of hr (atom_take h))
  have hg := h.lt
  have HP0 := Lib.hid h; clear h hr
  have HA : Hid (∀ w2, Par w2 g b o c l en (i + 1) → Calls Tryd.prog 60 #[.pointer (some ⟨g, 0, none⟩)] w2 (Out (EncFm w2) r g b o c l en w2)) := by
    refine Lib.hid fun w2 hP => ?_
    have := ha w2 g b o c l en (i + 1) hP (by rw [hr1]; exact hout)
    rwa [hr1] at this
  clear ha hr1
  unfold zeroF atomRow at HT
  go_enter Tryd.func117, Tryd.ntmps117
  go_wp2_with fail
  simp only [World.size_alloc] at HT
  refine HT.out.mono ?_
  rintro e w2 ⟨v, rfl, rfl, hP, hK⟩
  have hK1 : Keep g (w.alloc zeroF) w2 := (Keep.of_below (below_new (w.alloc zeroF) atomRow)).trans hK
  have HC := HA.out w2 hP
  have HP := Lib.hid hP; clear hP
  have HK := Lib.hid hK1; clear hK1 hK HA
  clear HT
  unfold idxI
  cases r with
  | out => exact absurd rfl hout
  | err er j =>
    have h1 := HR3.out
    simp only [PR.bind] at h1
    subst h1
    have HC := Lib.hid (Out.err_of rfl HC)
    clear hout
    go_wp2_with fail
    refine HC.out.mono ?_
    rintro e w3 ⟨rfl, hK3⟩
    exact ⟨rfl, ((Keep.of_below (below_new w zeroF)).trans HK.out).trans hK3, rfl⟩
  | ok f i' =>
    have HC := Lib.hid (Out.ok_of rfl HC)
    clear hout
    go_wp2_with fail
    refine HC.out.mono ?_
    rintro e w3 ⟨v, rfl, ⟨kv, rfl, hrep⟩, hP3, hK3⟩
    have hK13 : Keep g (w.alloc zeroF) w3 := HK.out.trans hK3
    have HB8 := Lib.hid (wrapF_blk hg hK13)
    have hlt3 : w.heap.size < w3.heap.size := heap_lt HB8.out
    obtain ⟨fo, fn, fc, fm, fks⟩ := f
    obtain ⟨kA, kc, rfl, -⟩ := hrep.slice
    have hX' : RepK w3 (fun b => (w.alloc zeroF).heap.size ≤ b ∧ b < w3.heap.size) (.mk fo fn fc fm fks) (.slice kA fks.length kc) :=
      hrep.to (fun _ _ _ => rfl) fun b hb hS => ⟨Nat.le_trans HK.out.size hS.1, hb⟩
    have HX := Lib.hid hX'; clear hX' hrep
    have HM := must_calls ((hP3.below (below_new w3 (.cells #[.int .i64 fo, .string (mkS fn), .int .i64 fc, .int .i64 fm, .slice kA fks.length kc] 29))).below (below_new _ shutRow)) _ 1 1 [[41]] (shut_strs _) rfl (Nat.le_refl _) (by omega)
    have HP3 := Lib.hid hP3; clear hP3
    have HK3 := Lib.hid hK13; clear hK13 hK3
    clear HC
    unfold FmV
    simp only [FmC]
    cases hm : (Tr.must [[41]]).run (l.map (·.1)) i' with
    | out =>
      exfalso
      have := Tr.goes_must (l := l.map (·.1)) (ws := [[41]]) (i := i')
      unfold Tr.Goes at this
      rw [hm] at this
      exact this
    | err er j =>
      have h1 := HR3.out
      simp only [PR.bind, hm] at h1
      subst h1
      have HM := Lib.hid (Out.err_of hm HM)
      unfold shutRow at HM
      simp only [World.size_alloc] at HM
      clear hm
      go_wp2_with fail
      refine HM.out.mono ?_
      rintro e w5 ⟨rfl, hK5⟩
      exact ⟨rfl, (((Keep.of_below (below_new w zeroF)).trans HK3.out).trans ((Keep.of_below (below_new w3 _)).trans (.of_below (below_new _ shutRow)))).trans hK5, rfl⟩
    | ok m i2 =>
      have h1 := HR3.out
      simp only [PR.bind, hm] at h1
      subst h1
      have HM := Lib.hid (Out.ok_of hm HM)
      unfold shutRow at HM
      simp only [World.size_alloc] at HM
      clear hm
      go_wp2_with fail
      refine HM.out.mono ?_
      rintro e w5 ⟨v, rfl, rfl, hP5, hK5⟩
      have hK35 : Keep g w3 w5 := ((Keep.of_below (below_new w3 (.cells #[.int .i64 fo, .string (mkS fn), .int .i64 fc, .int .i64 fm, .slice kA fks.length kc] 29))).trans (.of_below (below_new _ shutRow))).trans hK5
      have hbt : w5.heap[w3.heap.size]? = some (.cells #[.int .i64 fo, .string (mkS fn), .int .i64 fc, .int .i64 fm, .slice kA fks.length kc] 29 (0, 0)) := by
        refine hK5.blk (below_blk (below_new _ shutRow) (heap_alloc_new w3 _)) ?_
        have := HP0.out.lt; omega
      obtain ⟨⟨t0, t1, t2, t3, t4⟩, -, -⟩ := blk5 hbt
      have hb8 := hK35.blk HB8.out (by omega)
      obtain ⟨⟨d0, d1, d2, d3, d4⟩, ⟨e0, e1, e2, e3, e4⟩, hlt5⟩ := blk5 hb8
      have HB85 := Lib.hid hb8; clear hb8 hbt
      have hX5 : RepK w5 (fun b => (w.alloc zeroF).heap.size ≤ b ∧ b < w5.heap.size) (.mk fo fn fc fm fks) (.slice kA fks.length kc) :=
        HX.out.to (fun b hb hS => hK35.block b hb (by have := HP0.out.lt; have := hS.1; simp at this; omega)) fun b hb hS => ⟨hS.1, Nat.lt_of_lt_of_le hb hK35.size⟩
      have HX5 := Lib.hid hX5; clear hX5
      have HP5 := Lib.hid hP5; clear hP5
      have HK5 := Lib.hid (HK3.out.trans hK35); clear hK35 hK5 HM
      go_wp2
      obtain ⟨⟨r0, r1, r2, r3, r4⟩, -, -⟩ := blk5 (set5_blk HB85.out (.int .i64 fo) (.string (mkS fn)) (.int .i64 fc) (.int .i64 fm) (.slice kA fks.length kc))
      obtain ⟨q1, q2, q3⟩ := wrapF HP0.out HX5.out HP5.out HK5.out (.int .i64 fo) (.string (mkS fn)) (.int .i64 fc) (.int .i64 fm) (.slice kA fks.length kc)
      unfold set5 at r0 r1 r2 r3 r4 q1 q2 q3
      exact bodyPost_ret (v := FmV (.mk fo fn fc fm fks) (.slice kA fks.length kc)) (by simp [results, Tryd.results117, go_sem, r0, r1, r2, r3, r4, FmV, FmC]) rfl ⟨q1, _, rfl, ⟨_, rfl, q2⟩, q3⟩
end Go.Proofs.YtlhgflnmdmifaaaDoor.Wk
namespace Go.Proofs.YtlhgflnmdmifaaaDoor.Wk
open Go.RowKit PD

abbrev cmpWs : List Str := [[61], [33, 61], [60], [60, 61], [62], [62, 61]]
def cmpRow : Obj := .cells #[.string ⟨#[61]⟩, .string ⟨#[33, 61]⟩, .string ⟨#[60]⟩, .string ⟨#[60, 61]⟩, .string ⟨#[62]⟩, .string ⟨#[62, 61]⟩] 9
theorem cmp_strs (w : World) : Strs (w.alloc cmpRow) w.heap.size cmpWs := strs_lit w cmpWs
def termO (s : Str) : Obj := .cells #[.int .i64 4, .string (mkS s), .int .i64 0, .int .i64 0, .slice none 0 0] 29

set_option maxHeartbeats 1000000 in
theorem atom_name {w : World} {g b o c : Nat} {l : List (Tok × Nat)} {en i : Nat} (h : Par w g b o c l en i) (hr : (Tr.take atomWs).run (l.map (·.1)) i = .ok none i) (r3 : PR Fm)
    (hr3 : ((North.nm.run (l.map (·.1)) i).bind fun s i' => ((Tr.take cmpWs).run (l.map (·.1)) i').bind fun oc i2 => match oc with
      | some cc => ((Tr.number 1000000).run (l.map (·.1)) i2).bind fun n i3 => .ok (.mk 3 s (1 + cc) n []) i3
      | none => .ok (.mk 4 s 0 0 []) i2) = r3) :
    Calls Tryd.prog 117 #[.pointer (some ⟨g, 0, none⟩)] w (Out (EncFm w) r3 g b o c l en w) := by
  have HR3 := Lib.hid hr3; clear hr3
  have HT := Lib.hid (Out.ok_of hr (atom_take h))
  have hg := h.lt
  have HP0 := Lib.hid h; clear h hr
  unfold zeroF atomRow at HT
  go_enter Tryd.func117, Tryd.ntmps117
  go_wp2_with fail
  simp only [World.size_alloc] at HT
  refine HT.out.mono ?_
  rintro e w2 ⟨v, rfl, rfl, hP, hK⟩
  have hK1 : Keep g (w.alloc zeroF) w2 := (Keep.of_below (below_new (w.alloc zeroF) atomRow)).trans hK
  have HC := name_calls hP
  have HP := Lib.hid hP; clear hP
  have HK := Lib.hid hK1; clear hK1 hK
  clear HT
  unfold idxI
  cases hn : North.nm.run (l.map (·.1)) i with
  | out =>
    exfalso
    have := Tr.goes_name (l := l.map (·.1)) (k := North.isKey) (i := i)
    unfold Tr.Goes at this
    have e : (Tr.name North.isKey).run (l.map (·.1)) i = .out := hn
    rw [e] at this
    exact this
  | err er j =>
    have h1 := HR3.out
    simp only [PR.bind, hn] at h1
    subst h1
    have HC := Lib.hid (Out.err_of hn HC)
    clear hn HR3
    go_wp2_with fail
    refine HC.out.mono ?_
    rintro e w3 ⟨rfl, hK3⟩
    exact ⟨rfl, ((Keep.of_below (below_new w zeroF)).trans HK.out).trans hK3, rfl⟩
  | ok s i' =>
    have HC := Lib.hid (Out.ok_of hn HC)
    have h1 := HR3.out
    simp only [PR.bind, hn] at h1
    have HR3 := Lib.hid h1; clear h1
    clear hn
    go_wp2_with fail
    refine HC.out.mono ?_
    rintro e w3 ⟨v, rfl, rfl, hP3, hK3⟩
    have hK13 : Keep g (w.alloc zeroF) w3 := HK.out.trans hK3
    have HB8 := Lib.hid (wrapF_blk hg hK13)
    have hlt3 : w.heap.size < w3.heap.size := heap_lt HB8.out
    have HM := take_calls ((hP3.below (below_new w3 (termO s))).below (below_new _ cmpRow)) _ 6 6 cmpWs (cmp_strs _) rfl (Nat.le_refl _) (by omega)
    have HP3 := Lib.hid hP3; clear hP3
    have HK3 := Lib.hid hK13; clear hK13 hK3
    clear HC
    rcases Tr.run_take_ok (l.map (·.1)) cmpWs i' with ⟨j, hm, hl⟩ | hm
    · -- compared
      have h1 := HR3.out
      rw [hm] at h1
      simp only at h1
      have HR3 := Lib.hid h1; clear h1
      have HM := Lib.hid (Out.ok_of hm HM)
      have hj6 : j < 6 := by
        have h2 := hm
        rw [Tr.run_take] at h2
        cases hx : (l.map (·.1))[i']? with
        | none => rw [hx] at h2; simp at h2
        | some t =>
          rw [hx] at h2
          simp only at h2
          split at h2
          · simp only [PR.ok.injEq] at h2; exact (idx_some _ _ _ h2.1).1
          · simp at h2
      unfold cmpRow termO at HM
      simp only [World.size_alloc] at HM
      clear hm hl
      go_wp2_with fail
      refine HM.out.mono ?_
      rintro e w5 ⟨v, rfl, rfl, hP5, hK5⟩
      have hK35 : Keep g w3 w5 := ((Keep.of_below (below_new w3 (termO s))).trans (.of_below (below_new _ cmpRow))).trans hK5
      have hbt : w5.heap[w3.heap.size]? = some (termO s) := by
        refine hK5.blk (below_blk (below_new _ cmpRow) (heap_alloc_new w3 _)) ?_
        have := HP0.out.lt; omega
      have HBT := Lib.hid hbt; clear hbt
      have HB85 := Lib.hid (hK35.blk HB8.out (by omega))
      have HN := number_calls hP5 1000000
      have HP5 := Lib.hid hP5; clear hP5
      have HK5 := Lib.hid (HK3.out.trans hK35)
      have hs35 := hK35.size
      clear hK35 hK5 HM
      unfold idxI
      cases hn : (Tr.number 1000000).run (l.map (·.1)) (i' + 1) with
      | out =>
        exfalso
        have := Tr.goes_number (l := l.map (·.1)) (m := 1000000) (i := i' + 1)
        unfold Tr.Goes at this
        rw [hn] at this
        exact this
      | err er je =>
        have h1 := HR3.out
        rw [hn] at h1
        simp only at h1
        subst h1
        have HN := Lib.hid (Out.err_of hn HN)
        clear hn HR3
        go_wp2_with fail
        refine HN.out.mono ?_
        rintro e w6 ⟨rfl, hK6⟩
        exact ⟨rfl, ((Keep.of_below (below_new w zeroF)).trans HK5.out).trans hK6, rfl⟩
      | ok n i3 =>
        have h1 := HR3.out
        rw [hn] at h1
        simp only at h1
        subst h1
        have HN := Lib.hid (Out.ok_of hn HN)
        clear hn HR3
        go_wp2_with fail
        refine HN.out.mono ?_
        rintro e w6 ⟨v, rfl, rfl, hP6, hK6⟩
        have hbt := hK6.blk HBT.out (by omega)
        unfold termO at hbt
        obtain ⟨⟨t0, t1, t2, t3, t4⟩, ⟨f0, f1, f2, f3, f4⟩, hltt⟩ := blk5 hbt
        have HBT6 := Lib.hid hbt; clear hbt
        have hb8 := hK6.blk HB85.out (by omega)
        obtain ⟨⟨d0, d1, d2, d3, d4⟩, ⟨e0, e1, e2, e3, e4⟩, hlt6⟩ := blk5 hb8
        have HB86 := Lib.hid hb8; clear hb8
        have hne : ¬ w3.heap.size = w.heap.size := by omega
        have hne' : ¬ w.heap.size = w3.heap.size := by omega
        have HP6 := Lib.hid hP6; clear hP6
        have HK6 := Lib.hid (HK5.out.trans hK6); clear hK6 HN
        go_wp2
        have hKu : Keep w3.heap.size w6 (((w6.setCell ⟨w3.heap.size, 0, none⟩ (.int .i64 3)).setCell ⟨w3.heap.size, 2, none⟩ (.int .i64 (1 + (j : Int)))).setCell ⟨w3.heap.size, 3, none⟩ (.int .i64 (n : Int))) :=
          (((Keep.refl w3.heap.size w6).set 0 _).set 2 _).set 3 _
        generalize ((w6.setCell ⟨w3.heap.size, 0, none⟩ (.int .i64 3)).setCell ⟨w3.heap.size, 2, none⟩ (.int .i64 (1 + (j : Int)))).setCell ⟨w3.heap.size, 3, none⟩ (.int .i64 (n : Int)) = W at *
        have hb8 := hKu.blk HB86.out hne'
        have hKW : Keep g (w.alloc zeroF) W := HK6.out.newer hKu HK3.out.size
        have hPW := HP0.out.past HP6.out hKu (by omega)
        obtain ⟨⟨r0, r1, r2, r3, r4⟩, -, -⟩ := blk5 (set5_blk hb8 (.int .i64 3) (.string (mkS s)) (.int .i64 (1 + (j : Int))) (.int .i64 (n : Int)) (.slice none 0 0))
        obtain ⟨q1, q2, q3⟩ := wrapF HP0.out (RepK.leaf _ _ 3 s (1 + (j : Int)) n) hPW hKW (.int .i64 3) (.string (mkS s)) (.int .i64 (1 + (j : Int))) (.int .i64 (n : Int)) (.slice none 0 0)
        unfold set5 at r0 r1 r2 r3 r4 q1 q2 q3
        exact bodyPost_ret (v := FmV (.mk 3 s (1 + (j : Int)) n []) (.slice none 0 0)) (by simp [results, Tryd.results117, go_sem, r0, r1, r2, r3, r4, FmV, FmC]) rfl ⟨q1, _, rfl, ⟨_, rfl, q2⟩, q3⟩
    · -- alone
      have h1 := HR3.out
      rw [hm] at h1
      simp only at h1
      subst h1
      have HM := Lib.hid (Out.ok_of hm HM)
      unfold cmpRow termO at HM
      simp only [World.size_alloc] at HM
      clear hm HR3
      go_wp2_with fail
      refine HM.out.mono ?_
      rintro e w5 ⟨v, rfl, rfl, hP5, hK5⟩
      have hK35 : Keep g w3 w5 := ((Keep.of_below (below_new w3 (termO s))).trans (.of_below (below_new _ cmpRow))).trans hK5
      have hbt : w5.heap[w3.heap.size]? = some (termO s) := by
        refine hK5.blk (below_blk (below_new _ cmpRow) (heap_alloc_new w3 _)) ?_
        have := HP0.out.lt; omega
      unfold termO at hbt
      obtain ⟨⟨t0, t1, t2, t3, t4⟩, -, -⟩ := blk5 hbt
      have hb8 := hK35.blk HB8.out (by omega)
      obtain ⟨⟨d0, d1, d2, d3, d4⟩, ⟨e0, e1, e2, e3, e4⟩, hlt5⟩ := blk5 hb8
      have HB85 := Lib.hid hb8; clear hb8 hbt
      have HP5 := Lib.hid hP5; clear hP5
      have HK5 := Lib.hid (HK3.out.trans hK35); clear hK35 hK5 HM
      unfold idxI
      go_wp2
      obtain ⟨⟨r0, r1, r2, r3, r4⟩, -, -⟩ := blk5 (set5_blk HB85.out (.int .i64 4) (.string (mkS s)) (.int .i64 0) (.int .i64 0) (.slice none 0 0))
      obtain ⟨q1, q2, q3⟩ := wrapF HP0.out (RepK.leaf _ _ 4 s 0 0) HP5.out HK5.out (.int .i64 4) (.string (mkS s)) (.int .i64 0) (.int .i64 0) (.slice none 0 0)
      unfold set5 at r0 r1 r2 r3 r4 q1 q2 q3
      exact bodyPost_ret (v := FmV (.mk 4 s 0 0 []) (.slice none 0 0)) (by simp [results, Tryd.results117, go_sem, r0, r1, r2, r3, r4, FmV, FmC]) rfl ⟨q1, _, rfl, ⟨_, rfl, q2⟩, q3⟩

/-- The reader of conditions without and and or. -/
theorem atom_calls : ∀ k, k ≤ 6000 → AtomP k := by
  intro k
  induction k with
  | zero => intro _ w g b o c l en i _ hout; exact absurd rfl hout
  | succ k ih =>
    intro hk w g b o c l en i h hout
    have ha := ih (by omega)
    have hc := cond_of (by omega) (and_of (by omega) ha)
    have hrun : (North.atom (k + 1)).run (l.map (·.1)) i = ((Tr.take atomWs).run (l.map (·.1)) i).bind fun o i' => Tr.run (l.map (·.1)) (match o with
      | some 0 => (North.atom k).bind fun f => .ret (Fm.mk 5 [] 0 0 [f])
      | some 1 => (North.cond k).bind fun f => (Tr.must [[41]]).bind fun _ => .ret f
      | some 2 => .ret (North.fm0 1)
      | some 3 => .ret (North.fm0 2)
      | _ => North.nm.bind fun s => (Tr.take cmpWs).bind fun
        | some c => (Tr.number 1000000).bind fun n => .ret (Fm.mk 3 s (1 + c) n [])
        | none => .ret (Fm.mk 4 s 0 0 []) : Tr Fm) i' := by
      rw [North.atom, Tr.run_bind]
      congr 1
    rcases Tr.run_take_ok (l.map (·.1)) atomWs i with ⟨j, hr, hl⟩ | hr
    · have hj4 : j < 4 := by
        have h2 := hr
        rw [Tr.run_take] at h2
        cases hx : (l.map (·.1))[i]? with
        | none => rw [hx] at h2; simp at h2
        | some t =>
          rw [hx] at h2
          simp only at h2
          split at h2
          · simp only [PR.ok.injEq] at h2; exact (idx_some _ _ _ h2.1).1
          · simp at h2
      rw [hr] at hrun
      simp only [PR.bind] at hrun
      rw [hrun] at hout ⊢
      have hcase : j = 0 ∨ j = 1 ∨ j = 2 ∨ j = 3 := by omega
      rcases hcase with rfl | rfl | rfl | rfl
      · simp only [Tr.run_bind] at hout ⊢
        exact atom_not h ha hr _ rfl fun e => hout (by rw [e]; rfl)
      · simp only [Tr.run_bind] at hout ⊢
        exact atom_paren h hc hr _ rfl (fun e => hout (by rw [e]; rfl)) _ rfl
      · exact atom_const h 2 (.inl rfl) hr
      · exact atom_const h 3 (.inr rfl) hr
    · rw [hr] at hrun
      simp only [PR.bind] at hrun
      rw [hrun]
      simp only [Tr.run_bind]
      refine atom_name h hr _ ?_
      congr 1
      funext s i'
      congr 1
      funext oc i2
      cases oc with
      | none => rfl
      | some c => simp only [Tr.run_bind]; rfl
theorem cond_calls (k : Nat) (hk : k ≤ 6000) : CondP k := cond_of hk (and_of hk (atom_calls k hk))
end Go.Proofs.YtlhgflnmdmifaaaDoor.Wk
