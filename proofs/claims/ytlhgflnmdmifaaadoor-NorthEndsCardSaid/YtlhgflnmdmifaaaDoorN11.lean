/- A condition without and and or: a name alone, or compared. -/
import Derived.Test.YtlhgflnmdmifaaaDoorN10
namespace Go.Proofs.YtlhgflnmdmifaaaDoor.Wk
open Go.RowKit PD

abbrev cmpWs : List Str := [[61], [33, 61], [60], [60, 61], [62], [62, 61]]
def cmpRow : Obj := .cells #[.string ⟨#[61]⟩, .string ⟨#[33, 61]⟩, .string ⟨#[60]⟩, .string ⟨#[60, 61]⟩, .string ⟨#[62]⟩, .string ⟨#[62, 61]⟩] 9
theorem cmp_strs (w : World) : Strs (w.alloc cmpRow) w.heap.size cmpWs := strs_lit w cmpWs
def termO (s : Str) : Obj := .cells #[.int .i64 4, .string (mkS s), .int .i64 0, .int .i64 0, .slice none 0 0] 29

set_option maxHeartbeats 1000000 in
theorem atom_name {w : World} {g b o c : Nat} {l : List (Tok × Nat)} {en i : Nat} (h : Par w g b o c l en i) (hr : (Tr.take atomWs).run (l.map (·.1)) i = .ok none i) (r3 : PR Fm)
    (hr3 : ((North.nm.run (l.map (·.1)) i).bind fun s i' => ((Tr.take cmpWs).run (l.map (·.1)) i').bind fun oc i2 => match oc with
      | some cc => ((Tr.number 1000000).run (l.map (·.1)) i2).bind fun n i3 => .ok (.mk 3 s (1 + cc) n []) i3
      | none => .ok (.mk 4 s 0 0 []) i2) = r3) :
    Calls Tryd.prog 117 #[.pointer (some ⟨g, 0, none⟩)] w (Out (EncFm w) r3 g b o c l en w) := by
  have HR3 := Lib.hid hr3; clear hr3
  have HT := Lib.hid (Out.ok_of hr (atom_take h))
  have hg := h.lt
  have HP0 := Lib.hid h; clear h hr
  unfold zeroF atomRow at HT
  go_enter Tryd.func117, Tryd.ntmps117
  go_wp2_with fail
  simp only [World.size_alloc] at HT
  refine HT.out.mono ?_
  rintro e w2 ⟨v, rfl, rfl, hP, hK⟩
  have hK1 : Keep g (w.alloc zeroF) w2 := (Keep.of_below (below_new (w.alloc zeroF) atomRow)).trans hK
  have HC := name_calls hP
  have HP := Lib.hid hP; clear hP
  have HK := Lib.hid hK1; clear hK1 hK
  clear HT
  unfold idxI
  cases hn : North.nm.run (l.map (·.1)) i with
  | out =>
    exfalso
    have := Tr.goes_name (l := l.map (·.1)) (k := North.isKey) (i := i)
    unfold Tr.Goes at this
    have e : (Tr.name North.isKey).run (l.map (·.1)) i = .out := hn
    rw [e] at this
    exact this
  | err er j =>
    have h1 := HR3.out
    simp only [PR.bind, hn] at h1
    subst h1
    have HC := Lib.hid (Out.err_of hn HC)
    clear hn HR3
    go_wp2_with fail
    refine HC.out.mono ?_
    rintro e w3 ⟨rfl, hK3⟩
    exact ⟨rfl, ((Keep.of_below (below_new w zeroF)).trans HK.out).trans hK3, rfl⟩
  | ok s i' =>
    have HC := Lib.hid (Out.ok_of hn HC)
    have h1 := HR3.out
    simp only [PR.bind, hn] at h1
    have HR3 := Lib.hid h1; clear h1
    clear hn
    go_wp2_with fail
    refine HC.out.mono ?_
    rintro e w3 ⟨v, rfl, rfl, hP3, hK3⟩
    have hK13 : Keep g (w.alloc zeroF) w3 := HK.out.trans hK3
    have HB8 := Lib.hid (wrapF_blk hg hK13)
    have hlt3 : w.heap.size < w3.heap.size := heap_lt HB8.out
    have HM := take_calls ((hP3.below (below_new w3 (termO s))).below (below_new _ cmpRow)) _ 6 6 cmpWs (cmp_strs _) rfl (Nat.le_refl _) (by omega)
    have HP3 := Lib.hid hP3; clear hP3
    have HK3 := Lib.hid hK13; clear hK13 hK3
    clear HC
    rcases Tr.run_take_ok (l.map (·.1)) cmpWs i' with ⟨j, hm, hl⟩ | hm
    · -- compared
      have h1 := HR3.out
      rw [hm] at h1
      simp only at h1
      have HR3 := Lib.hid h1; clear h1
      have HM := Lib.hid (Out.ok_of hm HM)
      have hj6 : j < 6 := by
        have h2 := hm
        rw [Tr.run_take] at h2
        cases hx : (l.map (·.1))[i']? with
        | none => rw [hx] at h2; simp at h2
        | some t =>
          rw [hx] at h2
          simp only at h2
          split at h2
          · simp only [PR.ok.injEq] at h2; exact (idx_some _ _ _ h2.1).1
          · simp at h2
      unfold cmpRow termO at HM
      simp only [World.size_alloc] at HM
      clear hm hl
      go_wp2_with fail
      refine HM.out.mono ?_
      rintro e w5 ⟨v, rfl, rfl, hP5, hK5⟩
      have hK35 : Keep g w3 w5 := ((Keep.of_below (below_new w3 (termO s))).trans (.of_below (below_new _ cmpRow))).trans hK5
      have hbt : w5.heap[w3.heap.size]? = some (termO s) := by
        refine hK5.blk (below_blk (below_new _ cmpRow) (heap_alloc_new w3 _)) ?_
        have := HP0.out.lt; omega
      have HBT := Lib.hid hbt; clear hbt
      have HB85 := Lib.hid (hK35.blk HB8.out (by omega))
      have HN := number_calls hP5 1000000
      have HP5 := Lib.hid hP5; clear hP5
      have HK5 := Lib.hid (HK3.out.trans hK35)
      have hs35 := hK35.size
      clear hK35 hK5 HM
      unfold idxI
      cases hn : (Tr.number 1000000).run (l.map (·.1)) (i' + 1) with
      | out =>
        exfalso
        have := Tr.goes_number (l := l.map (·.1)) (m := 1000000) (i := i' + 1)
        unfold Tr.Goes at this
        rw [hn] at this
        exact this
      | err er je =>
        have h1 := HR3.out
        rw [hn] at h1
        simp only at h1
        subst h1
        have HN := Lib.hid (Out.err_of hn HN)
        clear hn HR3
        go_wp2_with fail
        refine HN.out.mono ?_
        rintro e w6 ⟨rfl, hK6⟩
        exact ⟨rfl, ((Keep.of_below (below_new w zeroF)).trans HK5.out).trans hK6, rfl⟩
      | ok n i3 =>
        have h1 := HR3.out
        rw [hn] at h1
        simp only at h1
        subst h1
        have HN := Lib.hid (Out.ok_of hn HN)
        clear hn HR3
        go_wp2_with fail
        refine HN.out.mono ?_
        rintro e w6 ⟨v, rfl, rfl, hP6, hK6⟩
        have hbt := hK6.blk HBT.out (by omega)
        unfold termO at hbt
        obtain ⟨⟨t0, t1, t2, t3, t4⟩, ⟨f0, f1, f2, f3, f4⟩, hltt⟩ := blk5 hbt
        have HBT6 := Lib.hid hbt; clear hbt
        have hb8 := hK6.blk HB85.out (by omega)
        obtain ⟨⟨d0, d1, d2, d3, d4⟩, ⟨e0, e1, e2, e3, e4⟩, hlt6⟩ := blk5 hb8
        have HB86 := Lib.hid hb8; clear hb8
        have hne : ¬ w3.heap.size = w.heap.size := by omega
        have hne' : ¬ w.heap.size = w3.heap.size := by omega
        have HP6 := Lib.hid hP6; clear hP6
        have HK6 := Lib.hid (HK5.out.trans hK6); clear hK6 HN
        go_wp2
        have hKu : Keep w3.heap.size w6 (((w6.setCell ⟨w3.heap.size, 0, none⟩ (.int .i64 3)).setCell ⟨w3.heap.size, 2, none⟩ (.int .i64 (1 + (j : Int)))).setCell ⟨w3.heap.size, 3, none⟩ (.int .i64 (n : Int))) :=
          (((Keep.refl w3.heap.size w6).set 0 _).set 2 _).set 3 _
        generalize ((w6.setCell ⟨w3.heap.size, 0, none⟩ (.int .i64 3)).setCell ⟨w3.heap.size, 2, none⟩ (.int .i64 (1 + (j : Int)))).setCell ⟨w3.heap.size, 3, none⟩ (.int .i64 (n : Int)) = W at *
        have hb8 := hKu.blk HB86.out hne'
        have hKW : Keep g (w.alloc zeroF) W := HK6.out.newer hKu HK3.out.size
        have hPW := HP0.out.past HP6.out hKu (by omega)
        obtain ⟨⟨r0, r1, r2, r3, r4⟩, -, -⟩ := blk5 (set5_blk hb8 (.int .i64 3) (.string (mkS s)) (.int .i64 (1 + (j : Int))) (.int .i64 (n : Int)) (.slice none 0 0))
        obtain ⟨q1, q2, q3⟩ := wrapF HP0.out (RepK.leaf _ _ 3 s (1 + (j : Int)) n) hPW hKW (.int .i64 3) (.string (mkS s)) (.int .i64 (1 + (j : Int))) (.int .i64 (n : Int)) (.slice none 0 0)
        unfold set5 at r0 r1 r2 r3 r4 q1 q2 q3
        exact bodyPost_ret (v := FmV (.mk 3 s (1 + (j : Int)) n []) (.slice none 0 0)) (by simp [results, Tryd.results117, go_sem, r0, r1, r2, r3, r4, FmV, FmC]) rfl ⟨q1, _, rfl, ⟨_, rfl, q2⟩, q3⟩
    · -- alone
      have h1 := HR3.out
      rw [hm] at h1
      simp only at h1
      subst h1
      have HM := Lib.hid (Out.ok_of hm HM)
      unfold cmpRow termO at HM
      simp only [World.size_alloc] at HM
      clear hm HR3
      go_wp2_with fail
      refine HM.out.mono ?_
      rintro e w5 ⟨v, rfl, rfl, hP5, hK5⟩
      have hK35 : Keep g w3 w5 := ((Keep.of_below (below_new w3 (termO s))).trans (.of_below (below_new _ cmpRow))).trans hK5
      have hbt : w5.heap[w3.heap.size]? = some (termO s) := by
        refine hK5.blk (below_blk (below_new _ cmpRow) (heap_alloc_new w3 _)) ?_
        have := HP0.out.lt; omega
      unfold termO at hbt
      obtain ⟨⟨t0, t1, t2, t3, t4⟩, -, -⟩ := blk5 hbt
      have hb8 := hK35.blk HB8.out (by omega)
      obtain ⟨⟨d0, d1, d2, d3, d4⟩, ⟨e0, e1, e2, e3, e4⟩, hlt5⟩ := blk5 hb8
      have HB85 := Lib.hid hb8; clear hb8 hbt
      have HP5 := Lib.hid hP5; clear hP5
      have HK5 := Lib.hid (HK3.out.trans hK35); clear hK35 hK5 HM
      unfold idxI
      go_wp2
      obtain ⟨⟨r0, r1, r2, r3, r4⟩, -, -⟩ := blk5 (set5_blk HB85.out (.int .i64 4) (.string (mkS s)) (.int .i64 0) (.int .i64 0) (.slice none 0 0))
      obtain ⟨q1, q2, q3⟩ := wrapF HP0.out (RepK.leaf _ _ 4 s 0 0) HP5.out HK5.out (.int .i64 4) (.string (mkS s)) (.int .i64 0) (.int .i64 0) (.slice none 0 0)
      unfold set5 at r0 r1 r2 r3 r4 q1 q2 q3
      exact bodyPost_ret (v := FmV (.mk 4 s 0 0 []) (.slice none 0 0)) (by simp [results, Tryd.results117, go_sem, r0, r1, r2, r3, r4, FmV, FmC]) rfl ⟨q1, _, rfl, ⟨_, rfl, q2⟩, q3⟩

/-- The reader of conditions without and and or. -/
theorem atom_calls : ∀ k, k ≤ 6000 → AtomP k := by
  intro k
  induction k with
  | zero => intro _ w g b o c l en i _ hout; exact absurd rfl hout
  | succ k ih =>
    intro hk w g b o c l en i h hout
    have ha := ih (by omega)
    have hc := cond_of (by omega) (and_of (by omega) ha)
    have hrun : (North.atom (k + 1)).run (l.map (·.1)) i = ((Tr.take atomWs).run (l.map (·.1)) i).bind fun o i' => Tr.run (l.map (·.1)) (match o with
      | some 0 => (North.atom k).bind fun f => .ret (Fm.mk 5 [] 0 0 [f])
      | some 1 => (North.cond k).bind fun f => (Tr.must [[41]]).bind fun _ => .ret f
      | some 2 => .ret (North.fm0 1)
      | some 3 => .ret (North.fm0 2)
      | _ => North.nm.bind fun s => (Tr.take cmpWs).bind fun
        | some c => (Tr.number 1000000).bind fun n => .ret (Fm.mk 3 s (1 + c) n [])
        | none => .ret (Fm.mk 4 s 0 0 []) : Tr Fm) i' := by
      rw [North.atom, Tr.run_bind]
      congr 1
    rcases Tr.run_take_ok (l.map (·.1)) atomWs i with ⟨j, hr, hl⟩ | hr
    · have hj4 : j < 4 := by
        have h2 := hr
        rw [Tr.run_take] at h2
        cases hx : (l.map (·.1))[i]? with
        | none => rw [hx] at h2; simp at h2
        | some t =>
          rw [hx] at h2
          simp only at h2
          split at h2
          · simp only [PR.ok.injEq] at h2; exact (idx_some _ _ _ h2.1).1
          · simp at h2
      rw [hr] at hrun
      simp only [PR.bind] at hrun
      rw [hrun] at hout ⊢
      have hcase : j = 0 ∨ j = 1 ∨ j = 2 ∨ j = 3 := by omega
      rcases hcase with rfl | rfl | rfl | rfl
      · simp only [Tr.run_bind] at hout ⊢
        exact atom_not h ha hr _ rfl fun e => hout (by rw [e]; rfl)
      · simp only [Tr.run_bind] at hout ⊢
        exact atom_paren h hc hr _ rfl (fun e => hout (by rw [e]; rfl)) _ rfl
      · exact atom_const h 2 (.inl rfl) hr
      · exact atom_const h 3 (.inr rfl) hr
    · rw [hr] at hrun
      simp only [PR.bind] at hrun
      rw [hrun]
      simp only [Tr.run_bind]
      refine atom_name h hr _ ?_
      congr 1
      funext s i'
      congr 1
      funext oc i2
      cases oc with
      | none => rfl
      | some c => simp only [Tr.run_bind]; rfl
theorem cond_calls (k : Nat) (hk : k ≤ 6000) : CondP k := cond_of hk (and_of hk (atom_calls k hk))
end Go.Proofs.YtlhgflnmdmifaaaDoor.Wk
