/- A whole provision. -/
import Derived.Test.YtlhgflnmdmifaaaDoorN15
namespace Go.Proofs.YtlhgflnmdmifaaaDoor.Wk
open Go.RowKit PD
def kindRow : Obj := .cells #[.string ⟨#[100, 101, 102, 105, 110, 101]⟩, .string ⟨#[97, 110, 115, 119, 101, 114]⟩] 9
set_option maxHeartbeats 20000000 in
set_option maxRecDepth 100000 in
theorem provision_calls {w : World} {g b o c : Nat} {l : List (Tok × Nat)} {en : Nat} (h : Par w g b o c l en 0) (k : Nat) (hk : k ≤ 6000) (r : PR Pv) (hr : Rest l (North.pvR k) 0 r) (hout : r ≠ .out) :
    Calls Tryd.prog 42 #[.pointer (some ⟨g, 0, none⟩)] w (Out (EncPv w) r g b o c l en w) := by
  have hg := h.lt
  have HP0 := Lib.hid h; clear h
  have HR := Lib.hid hr; clear hr
  have HO := Lib.hid hout; clear hout
  go_enter Tryd.func42, Tryd.ntmps42
  go_upto_region 1 with fail
  go_cut [3] from 4 to 71 (fun v3 wx => v3 = .pointer (some ⟨w.heap.size + 1, 0, none⟩) ∧ Hid (PSt w g b o c l en 0 (North.pv0 (North.fm0 1)) wx))
  case first =>
    have hz := heap_alloc_new (w.alloc zeroP) zeroP
    rw [World.size_alloc] at hz
    go_wp2_with (refine wpList_store_row rfl 35 _ _ rfl (w.heap.size + 1) (pvC (North.pv0 (North.fm0 1)) nilS nilS nilS nilS nilS).toArray rfl rfl 35 (pvC (North.pv0 North.fm00) nilS nilS nilS nilS nilS).toArray hz info_Provision rfl one_first ?_)
    go_meet
    case rel =>
      refine ⟨rfl, Lib.hid ?_⟩
      have e : ((w.alloc zeroP).alloc zeroP).setRow (w.heap.size + 1) (pvC (North.pv0 (North.fm0 1)) nilS nilS nilS nilS nilS).toArray = (w.alloc zeroP).alloc (.cells (pvC (North.pv0 (North.fm0 1)) nilS nilS nilS nilS nilS).toArray 35) := by
        have := World.setRow_alloc_new (w.alloc zeroP) (pvC (North.pv0 North.fm00) nilS nilS nilS nilS nilS).toArray (pvC (North.pv0 (North.fm0 1)) nilS nilS nilS nilS nilS).toArray 35
        rwa [World.size_alloc] at this
      have e2 : PSt w g b o c l en 0 (North.pv0 (North.fm0 1)) (((w.alloc zeroP).alloc zeroP).setRow (w.heap.size + 1) (pvC (North.pv0 (North.fm0 1)) nilS nilS nilS nilS nilS).toArray) := by
        rw [e]
        have hz2 := heap_alloc_new (w.alloc zeroP) (.cells (pvC (North.pv0 (North.fm0 1)) nilS nilS nilS nilS nilS).toArray 35)
        rw [World.size_alloc] at hz2
        exact ⟨(HP0.out.below (below_new _ _)).below (below_new _ _), (Keep.of_below (below_new _ _)).trans (.of_below (below_new _ _)), below_blk (below_new _ _) (heap_alloc_new w zeroP), nilS, nilS, nilS, nilS, nilS, hz2,
          RepK.leaf _ _ _ _ _ _, ⟨rfl, .inl ⟨rfl, rfl⟩⟩, RepKS.leaf _ _ _ _ _, RepKS.leaf _ _ _ _ _, RepKS.leaf _ _ _ _ _⟩
      exact e2
  obtain ⟨rfl, HS⟩ := hcut
  go_upto_region 2 with fail
  go_cut [] from 4 to 71 (fun wx => ∃ (i1 : Nat) (p : Pv), Hid (PSt w g b o c l en i1 p wx) ∧ Hid (p.when_ = North.fm0 1 ∧ p.except = []) ∧ Hid (Rest l (North.pvI k p) i1 r))
  case first =>
    have HM := must_calls (HS.out.par.below (below_new wc keyRow)) wc.heap.size 4 4 keyWs (key_strs wc) rfl (Nat.le_refl _) (by omega)
    cases hm : (Tr.must keyWs).run (l.map (·.1)) 0 with
    | out => exact absurd hm (must_goes _ _ _)
    | err er j =>
      obtain rfl := HR.out.err hm
      have HM := Lib.hid (Out.err_of hm HM)
      unfold keyRow at HM
      clear hm HR
      go_wp2_with fail
      refine HM.out.mono ?_
      rintro e w2 ⟨rfl, hK⟩
      exact ⟨rfl, (HS.out.keep.trans (.of_below (below_new _ _))).trans hK, rfl⟩
    | ok n i1 =>
      have hn4 : n < 4 := (must_lt hm).1
      have HR1 := Lib.hid (HR.out.ok hm)
      have HM := Lib.hid (Out.ok_of hm HM)
      unfold keyRow at HM
      clear hm HR
      go_wp2_with fail
      refine HM.out.mono ?_
      rintro e w2 ⟨v, rfl, rfl, hP, hK⟩
      have HS2 := Lib.hid (HS.out.step hg ((Keep.of_below (below_new _ _)).trans hK) hP)
      clear hP hK HM
      obtain ⟨⟨c0, c1, c2, c3, c4⟩, f0, hl⟩ := HS2.out.cells
      go_wp2
      go_meet
      case rel => exact ⟨i1, _, Lib.hid (HS2.out.put_rank HP0.out _), Lib.hid ⟨rfl, rfl⟩, HR1⟩
  clear HR HS
  obtain ⟨i, p, HS, HQ, HR⟩ := hcut
  go_upto_region 3 with fail
  go_cut [] from 4 to 71 (fun wx => ∃ (i1 : Nat) (p : Pv), Hid (PSt w g b o c l en i1 p wx) ∧ Hid (p.when_ = North.fm0 1 ∧ p.except = []) ∧ Hid (Rest l (North.pvS k p) i1 r))
  case first =>
    have HM := name_calls HS.out.par
    cases hm : North.nm.run (l.map (·.1)) i with
    | out => exact absurd hm (nm_goes _ _)
    | err er j =>
      obtain rfl := HR.out.err hm
      have HM := Lib.hid (Out.err_of hm HM)
      clear hm HR
      go_wp2_with fail
      refine HM.out.mono ?_
      rintro e w2 ⟨rfl, hK⟩
      exact ⟨rfl, HS.out.keep.trans hK, rfl⟩
    | ok s i1 =>
      have HR1 := Lib.hid (HR.out.ok hm)
      have HM := Lib.hid (Out.ok_of hm HM)
      clear hm HR
      go_wp2_with fail
      refine HM.out.mono ?_
      rintro e w2 ⟨v, rfl, rfl, hP, hK⟩
      have HS2 := Lib.hid (HS.out.step hg hK hP)
      clear hP hK HM
      obtain ⟨⟨c0, c1, c2, c3, c4⟩, f0, hl⟩ := HS2.out.cells
      go_wp2
      go_meet
      case rel => exact ⟨i1, _, Lib.hid (HS2.out.put_id HP0.out _), Lib.hid HQ.out, HR1⟩
  clear HR HS HQ
  obtain ⟨i, p, HS, HQ, HR⟩ := hcut
  go_upto_region 4 with fail
  go_cut [] from 4 to 71 (fun wx => ∃ (i1 : Nat) (p : Pv), Hid (PSt w g b o c l en i1 p wx) ∧ Hid (p.when_ = North.fm0 1 ∧ p.except = []) ∧ Hid (Rest l (North.pvK k p) i1 r))
  case first =>
    have HM := must_calls (HS.out.par.below (below_new wc (.cells #[.string (mkS [58])] 9))) wc.heap.size 1 1 [[58]] (strs_one wc [58]) rfl (Nat.le_refl _) (by omega)
    cases hm : (Tr.must [[58]]).run (l.map (·.1)) i with
    | out => exact absurd hm (must_goes _ _ _)
    | err er j =>
      obtain rfl := HR.out.err hm
      have HM := Lib.hid (Out.err_of hm HM)
      unfold mkS at HM
      clear hm HR
      go_wp2_with fail
      refine HM.out.mono ?_
      rintro e w2 ⟨rfl, hK⟩
      exact ⟨rfl, (HS.out.keep.trans (.of_below (below_new _ _))).trans hK, rfl⟩
    | ok n i1 =>
      have HR1 := Lib.hid (HR.out.ok hm)
      have HM := Lib.hid (Out.ok_of hm HM)
      unfold mkS at HM
      clear hm HR
      go_wp2_with fail
      refine HM.out.mono ?_
      rintro e w2 ⟨v, rfl, rfl, hP, hK⟩
      have HS2 := Lib.hid (HS.out.step hg ((Keep.of_below (below_new _ _)).trans hK) hP)
      clear hP hK HM
      go_wp2
      go_meet
      case rel => exact ⟨i1, p, HS2, HQ, HR1⟩
  clear HR HS HQ
  obtain ⟨i, p, HS, HQ, HR⟩ := hcut
  go_upto_region 5 with fail
  go_cut [20] from 4 to 71 (fun v20 wx => ∃ (i1 : Nat) (p : Pv) (t : Bool), v20 = .bool t ∧ Hid (PSt w g b o c l en i1 p wx) ∧ Hid (p.when_ = North.fm0 1 ∧ p.except = []) ∧ Hid (Rest l (if t = true then North.pvD k p else North.pvA k p) i1 r))
  case first =>
    have HM := must_calls (HS.out.par.below (below_new wc kindRow)) wc.heap.size 2 2 [[100, 101, 102, 105, 110, 101], [97, 110, 115, 119, 101, 114]] (strs_lit wc [[100, 101, 102, 105, 110, 101], [97, 110, 115, 119, 101, 114]]) rfl (Nat.le_refl _) (by omega)
    cases hm : (Tr.must [[100, 101, 102, 105, 110, 101], [97, 110, 115, 119, 101, 114]]).run (l.map (·.1)) i with
    | out => exact absurd hm (must_goes _ _ _)
    | err er j =>
      obtain rfl := HR.out.err hm
      have HM := Lib.hid (Out.err_of hm HM)
      unfold kindRow at HM
      clear hm HR
      go_wp2_with fail
      refine HM.out.mono ?_
      rintro e w2 ⟨rfl, hK⟩
      exact ⟨rfl, (HS.out.keep.trans (.of_below (below_new _ _))).trans hK, rfl⟩
    | ok n i1 =>
      have hn2 : n < 2 := (must_lt hm).1
      have HR1 := Lib.hid (HR.out.ok hm)
      have HM := Lib.hid (Out.ok_of hm HM)
      unfold kindRow at HM
      clear hm HR
      have hn : n = 0 ∨ n = 1 := by omega
      clear hn2
      rcases hn with rfl | rfl
      · go_wp2_with fail
        refine HM.out.mono ?_
        rintro e w2 ⟨v, rfl, rfl, hP, hK⟩
        have HS2 := Lib.hid (HS.out.step hg ((Keep.of_below (below_new _ _)).trans hK) hP)
        clear hP hK HM
        go_wp2
        go_meet
        case rel => exact ⟨i1, p, true, rfl, HS2, HQ, HR1⟩
      · go_wp2_with fail
        refine HM.out.mono ?_
        rintro e w2 ⟨v, rfl, rfl, hP, hK⟩
        have HS2 := Lib.hid (HS.out.step hg ((Keep.of_below (below_new _ _)).trans hK) hP)
        clear hP hK HM
        go_wp2
        go_meet
        case rel => exact ⟨i1, p, false, rfl, HS2, HQ, HR1⟩
  clear HR HS HQ
  obtain ⟨i, p, t, rfl, HS, HQ, HR⟩ := hcut
  go_upto_if 20 with fail
  go_cut [] from 4 to 71 (fun wx => ∃ (i1 : Nat) (p : Pv), Hid (PSt w g b o c l en i1 p wx) ∧ Hid (p.when_ = North.fm0 1 ∧ p.except = []) ∧ Hid (Rest l (North.pvW k p) i1 r))
  case first =>
    cases t with
    | true =>
      rw [if_pos rfl] at HR
      have HM := name_calls HS.out.par
      cases hm : North.nm.run (l.map (·.1)) i with
      | out => exact absurd hm (nm_goes _ _)
      | err er j =>
        obtain rfl := HR.out.err hm
        have HM := Lib.hid (Out.err_of hm HM)
        clear hm HR
        go_wp2_with fail
        refine HM.out.mono ?_
        rintro e w2 ⟨rfl, hK⟩
        exact ⟨rfl, HS.out.keep.trans hK, rfl⟩
      | ok s i1 =>
        have HR1 := Lib.hid (HR.out.ok hm)
        have HM := Lib.hid (Out.ok_of hm HM)
        clear hm HR
        go_wp2_with fail
        refine HM.out.mono ?_
        rintro e w2 ⟨v, rfl, rfl, hP, hK⟩
        have HS2 := Lib.hid (HS.out.step hg hK hP)
        clear hP hK HM HS
        obtain ⟨⟨c0, c1, c2, c3, c4⟩, f0, hl⟩ := HS2.out.cells
        go_wp2
        go_meet
        case rel => exact ⟨i1, _, Lib.hid ((HS2.out.put_kind HP0.out 1).put_name HP0.out s), Lib.hid HQ.out, HR1⟩
    | false =>
      rw [if_neg (by simp)] at HR
      have HM := name_calls HS.out.par
      cases hm : North.nm.run (l.map (·.1)) i with
      | out => exact absurd hm (nm_goes _ _)
      | err er j =>
        obtain rfl := HR.out.err hm
        have HM := Lib.hid (Out.err_of hm HM)
        clear hm HR
        go_wp2_with fail
        refine HM.out.mono ?_
        rintro e w2 ⟨rfl, hK⟩
        exact ⟨rfl, HS.out.keep.trans hK, rfl⟩
      | ok s i1 =>
        have HR1 := Lib.hid (HR.out.ok hm)
        have HM := Lib.hid (Out.ok_of hm HM)
        clear hm HR
        go_wp2_with fail
        refine HM.out.mono ?_
        rintro e w2 ⟨v, rfl, rfl, hP, hK⟩
        have HS2 := Lib.hid (HS.out.step hg hK hP)
        clear hP hK HM HS
        obtain ⟨⟨c0, c1, c2, c3, c4⟩, f0, hl⟩ := HS2.out.cells
        have hS3 := (HS2.out.put_kind HP0.out 2).put_name HP0.out s
        go_wp2_with fail
        have hs3 : ((w2.setCell ⟨w.heap.size + 1, 2, none⟩ (.int .i64 2)).setCell ⟨w.heap.size + 1, 3, none⟩ (.string (mkS s))).heap.size = w2.heap.size := by simp [World.setCell]
        generalize (w2.setCell ⟨w.heap.size + 1, 2, none⟩ (.int .i64 2)).setCell ⟨w.heap.size + 1, 3, none⟩ (.string (mkS s)) = w3 at *
        clear c0 c1 c2 c3 c4 f0 hl HS2
        have HM := must_calls (hS3.par.below (below_new w3 (.cells #[.string (mkS [105, 115])] 9))) w3.heap.size 1 1 [[105, 115]] (strs_one w3 [105, 115]) rfl (Nat.le_refl _) (by omega)
        rw [hs3] at HM
        have HS3 := Lib.hid hS3; clear hS3
        cases hm : (Tr.must [[105, 115]]).run (l.map (·.1)) i1 with
        | out => exact absurd hm (must_goes _ _ _)
        | err er j =>
          obtain rfl := HR1.out.err hm
          have HM := Lib.hid (Out.err_of hm HM)
          unfold mkS at HM
          clear hm HR1
          refine HM.out.mono ?_
          rintro e w4 ⟨rfl, hK⟩
          exact ⟨rfl, (HS3.out.keep.trans (.of_below (below_new _ _))).trans hK, rfl⟩
        | ok n i2 =>
          have HR2 := Lib.hid (HR1.out.ok hm)
          have HM := Lib.hid (Out.ok_of hm HM)
          unfold mkS at HM
          clear hm HR1
          refine HM.out.mono ?_
          rintro e w4 ⟨v, rfl, rfl, hP, hK⟩
          have HS4 := Lib.hid (HS3.out.step hg ((Keep.of_below (below_new _ _)).trans hK) hP)
          clear hP hK HM HS3
          have HM := number_calls HS4.out.par 1000000
          cases hm : (Tr.number 1000000).run (l.map (·.1)) i2 with
          | out => exact absurd hm (number_goes _ _ _)
          | err er j =>
            obtain rfl := HR2.out.err hm
            have HM := Lib.hid (Out.err_of hm HM)
            clear hm HR2
            go_wp2_with fail
            refine HM.out.mono ?_
            rintro e w5 ⟨rfl, hK⟩
            exact ⟨rfl, HS4.out.keep.trans hK, rfl⟩
          | ok v i3 =>
            have HR3 := Lib.hid (HR2.out.ok hm)
            have HM := Lib.hid (Out.ok_of hm HM)
            clear hm HR2
            go_wp2_with fail
            refine HM.out.mono ?_
            rintro e w5 ⟨v, rfl, rfl, hP, hK⟩
            have HS5 := Lib.hid (HS4.out.step hg hK hP)
            clear hP hK HM HS4
            obtain ⟨⟨c0, c1, c2, c3, c4⟩, f0, hl⟩ := HS5.out.cells
            go_wp2
            go_meet
            case rel => exact ⟨i3, _, Lib.hid (HS5.out.put_value HP0.out _), Lib.hid HQ.out, HR3⟩
  clear HR HS HQ
  obtain ⟨i, p, HS, HQ, HR⟩ := hcut
  go_upto_region 10 with fail
  go_cut [38] from 4 to 71 (fun v38 wx => ∃ (i1 : Nat) (p : Pv) (t : Bool), v38 = .bool t ∧ Hid (PSt w g b o c l en i1 p wx) ∧ Hid (p.when_ = North.fm0 1 ∧ p.except = []) ∧ Hid (Rest l ((if t = true then Tr.bounded (North.cond k) Fm.size Fm.depth else .ret (North.fm0 1)).bind fun w => North.pvX k { p with when_ := w }) i1 r))
  case first =>
    have HM := take_calls (HS.out.par.below (below_new wc (.cells #[.string (mkS [105, 102])] 9))) wc.heap.size 1 1 [[105, 102]] (strs_one wc [105, 102]) rfl (Nat.le_refl _) (by omega)
    rcases Tr.run_take_ok (l.map (·.1)) [[105, 102]] i with ⟨j, hr, hl⟩ | hr
    all_goals
      have HR1 := Lib.hid (HR.out.ok2 hr)
      have HM := Lib.hid (Out.ok_of hr HM)
      unfold mkS at HM
      clear hr HR
      go_wp2_with fail
      refine HM.out.mono ?_
      rintro e w2 ⟨v, rfl, rfl, hP, hK⟩
      have HS2 := Lib.hid (HS.out.step hg ((Keep.of_below (below_new _ _)).trans hK) hP)
      clear hP hK HM
      unfold idxI
      go_wp2
      go_meet
    case rel => exact ⟨_, p, true, rfl, HS2, HQ, HR1⟩
    case rel => exact ⟨_, p, false, rfl, HS2, HQ, HR1⟩
  clear HR HS HQ
  obtain ⟨i, p, t, rfl, HS, HQ, HR⟩ := hcut
  go_upto_if 38 with fail
  go_cut [] from 4 to 71 (fun wx => ∃ (i1 : Nat) (p : Pv), Hid (PSt w g b o c l en i1 p wx) ∧ Hid (p.except = []) ∧ Hid (Rest l (North.pvX k p) i1 r))
  case first =>
    cases t with
    | false =>
      rw [if_neg (by simp)] at HR
      go_wp2
      go_meet
      case rel =>
        refine ⟨i, p, HS, Lib.hid HQ.out.2, Lib.hid ?_⟩
        have h1 : Rest l (North.pvX k { p with when_ := North.fm0 1 }) i r := HR.out
        rw [← HQ.out.1] at h1
        exact h1
    | true =>
      rw [if_pos rfl] at HR
      have hbo : (Tr.bounded (North.cond k) Fm.size Fm.depth).run (l.map (·.1)) i ≠ .out := fun e => HO.out (HR.out.out e)
      have hco := bounded_out hbo
      have HC := bounded_callsF HS.out.par 60 (fun _ _ => by kernel_rfl) (North.cond k) (fun w1 _ hP1 => cond_calls k hk w1 g b o c l en i hP1 hco)
        (fun f i' hf => by
          have := North.cond_size k _ i (by simpa using HS.out.par.hi) f i' hf
          have h2 := HP0.out.few
          rw [List.length_map] at this
          omega) hco
      clear hco
      cases hm : (Tr.bounded (North.cond k) Fm.size Fm.depth).run (l.map (·.1)) i with
      | out => exact absurd hm hbo
      | err er j =>
        obtain rfl := HR.out.err hm
        have HC := Lib.hid (Out.err_of hm HC)
        clear hm HR hbo
        go_wp2_with fail
        refine HC.out.mono ?_
        rintro e w2 ⟨rfl, hK⟩
        exact ⟨rfl, HS.out.keep.trans hK, rfl⟩
      | ok f i1 =>
        have HR1 := Lib.hid (HR.out.ok hm)
        have HC := Lib.hid (Out.ok_of hm HC)
        clear hm HR hbo
        go_wp2_with fail
        refine HC.out.mono ?_
        rintro e w2 ⟨v, rfl, ⟨kv, rfl, hrep⟩, hP, hK⟩
        have HS2 := Lib.hid (HS.out.step hg hK hP)
        obtain ⟨-, f0, hl⟩ := HS.out.cells
        have hX := hrep.to (S' := SP w w2) (fun _ _ _ => rfl) fun b hb hS => ⟨by have := hS.1; omega, hb⟩
        clear f0 hl
        obtain ⟨fo, fn, fc, fm, fks⟩ := f
        obtain ⟨kA, kc, rfl, -⟩ := hrep.slice
        have HX := Lib.hid hX
        clear hP hK HC hX hrep HS
        obtain ⟨-, f0, hl⟩ := HS2.out.cells
        obtain ⟨a5, a6, a7, a8, a9, c5, c6, c7, c8, c9⟩ := HS2.out.cells5
        unfold FmV
        simp only [FmC]
        go_wp2
        go_meet
        case rel => exact ⟨i1, _, Lib.hid (HS2.out.put_when HP0.out _ _ _ _ _ _ HX.out), Lib.hid HQ.out.2, HR1⟩
  clear HR HS HQ
  obtain ⟨i, p, HS, HQ, HR⟩ := hcut
  go_upto_region 12 with fail
  go_cut [47] from 4 to 71 (fun v47 wx => ∃ (i1 : Nat) (p : Pv) (t : Bool), v47 = .bool t ∧ Hid (PSt w g b o c l en i1 p wx) ∧ Hid (p.except = []) ∧ Hid (Rest l ((if t = true then North.except k [] else .ret []).bind fun x => North.pvB k { p with except := x }) i1 r))
  case first =>
    have HM := take_calls (HS.out.par.below (below_new wc (.cells #[.string (mkS [110, 111, 116, 119, 105, 116, 104, 115, 116, 97, 110, 100, 105, 110, 103])] 9))) wc.heap.size 1 1 [[110, 111, 116, 119, 105, 116, 104, 115, 116, 97, 110, 100, 105, 110, 103]] (strs_one wc [110, 111, 116, 119, 105, 116, 104, 115, 116, 97, 110, 100, 105, 110, 103]) rfl (Nat.le_refl _) (by omega)
    rcases Tr.run_take_ok (l.map (·.1)) [[110, 111, 116, 119, 105, 116, 104, 115, 116, 97, 110, 100, 105, 110, 103]] i with ⟨j, hr, hl⟩ | hr
    all_goals
      have HR1 := Lib.hid (HR.out.ok2 hr)
      have HM := Lib.hid (Out.ok_of hr HM)
      unfold mkS at HM
      clear hr HR
      go_wp2_with fail
      refine HM.out.mono ?_
      rintro e w2 ⟨v, rfl, rfl, hP, hK⟩
      have HS2 := Lib.hid (HS.out.step hg ((Keep.of_below (below_new _ _)).trans hK) hP)
      clear hP hK HM
      unfold idxI
      go_wp2
      go_meet
    case rel => exact ⟨_, p, true, rfl, HS2, HQ, HR1⟩
    case rel => exact ⟨_, p, false, rfl, HS2, HQ, HR1⟩
  clear HR HS HQ
  obtain ⟨i, p, t, rfl, HS, HQ, HR⟩ := hcut
  go_upto_if 47 with fail
  go_cut [] from 4 to 71 (fun wx => ∃ (i1 : Nat) (p : Pv), Hid (PSt w g b o c l en i1 p wx) ∧ Hid (Rest l (North.pvB k p) i1 r))
  case first =>
    cases t with
    | false =>
      rw [if_neg (by simp)] at HR
      go_wp2
      go_meet
      case rel =>
        refine ⟨i, p, HS, Lib.hid ?_⟩
        have h1 : Rest l (North.pvB k { p with except := [] }) i r := HR.out
        rw [← HQ.out] at h1
        exact h1
    | true =>
      rw [if_pos rfl] at HR
      have hbo : (North.except k []).run (l.map (·.1)) i ≠ .out := fun e => HO.out (HR.out.out e)
      have HC := except_calls HS.out.par k _ rfl hbo
      cases hm : (North.except k []).run (l.map (·.1)) i with
      | out => exact absurd hm hbo
      | err er j =>
        obtain rfl := HR.out.err hm
        have HC := Lib.hid (Out.err_of hm HC)
        clear hm HR hbo
        go_wp2_with fail
        refine HC.out.mono ?_
        rintro e w2 ⟨rfl, hK⟩
        exact ⟨rfl, HS.out.keep.trans hK, rfl⟩
      | ok x i1 =>
        have HR1 := Lib.hid (HR.out.ok hm)
        have HC := Lib.hid (Out.ok_of hm HC)
        clear hm HR hbo
        go_wp2_with fail
        refine HC.out.mono ?_
        rintro e w2 ⟨v, rfl, hown, hP, hK⟩
        have HS2 := Lib.hid (HS.out.step hg hK hP)
        obtain ⟨-, f0, hl⟩ := HS.out.cells
        have hX := own_base hown (show w.heap.size + 2 ≤ wc.heap.size by omega)
        obtain ⟨vA, vcc, rfl⟩ := own_slice hown
        clear f0 hl
        have HX := Lib.hid hX
        clear hP hK HC hX hown HS
        obtain ⟨-, f0, hl⟩ := HS2.out.cells
        obtain ⟨a10, c10⟩ := HS2.out.cell10
        generalize hxl : x.length = xl at *
        have HXL := Lib.hid hxl; clear hxl
        go_wp2
        go_meet
        case rel =>
          have hX := HX.out
          rw [← HXL.out] at hX
          exact ⟨i1, _, Lib.hid (HXL.out ▸ HS2.out.put_except HP0.out x _ hX), HR1⟩
  clear HR HS HQ
  obtain ⟨i, p, HS, HR⟩ := hcut
  go_upto_region 14 with fail
  go_cut [] from 4 to 71 (fun wx => ∃ (i1 : Nat) (p : Pv), Hid (PSt w g b o c l en i1 p wx) ∧ Hid (Rest l (North.pvE p) i1 r))
  case first =>
    have hp1 : (North.part k [102, 114, 111, 109] 1).run (l.map (·.1)) i ≠ .out := fun e => HO.out (HR.out.out e)
    have HC := when_calls HS.out.par k hk [102, 114, 111, 109] 1 _ rfl hp1
    cases hm : (North.part k [102, 114, 111, 109] 1).run (l.map (·.1)) i with
    | out => exact absurd hm hp1
    | err er j =>
      obtain rfl := HR.out.err hm
      have HC := Lib.hid (Out.err_of hm HC)
      unfold mkS at HC
      clear hm HR hp1
      go_wp2_with fail
      refine HC.out.mono ?_
      rintro e w' ⟨rfl, hK⟩
      exact ⟨rfl, HS.out.keep.trans hK, rfl⟩
    | ok s1 i1 =>
      have HR1 := Lib.hid (HR.out.ok hm)
      have HC := Lib.hid (Out.ok_of hm HC)
      unfold mkS at HC
      clear hm HR hp1
      go_wp2_with fail
      refine HC.out.mono ?_
      rintro e w1 ⟨v, rfl, ⟨kv1, rfl, hrep⟩, hP, hK⟩
      have HS1 := Lib.hid (HS.out.step hg hK hP)
      obtain ⟨-, f0, hl⟩ := HS.out.cells
      have hX := hrep.to (S' := SP w w1) (fun _ _ _ => rfl) fun b hb hS => ⟨by have := hS.1; omega, hb⟩
      clear f0 hl
      obtain ⟨so1, sn1, sd1, sk1⟩ := s1
      obtain ⟨sA1, sc1, rfl, -⟩ := hrep.slice
      have HX1 := Lib.hid hX
      clear hP hK HC hX hrep HS
      unfold StV
      simp only [StC]
      have hp2 : (North.part k [117, 110, 116, 105, 108] 2).run (l.map (·.1)) i1 ≠ .out := fun e => HO.out (HR1.out.out e)
      have HC := when_calls HS1.out.par k hk [117, 110, 116, 105, 108] 2 _ rfl hp2
      cases hm : (North.part k [117, 110, 116, 105, 108] 2).run (l.map (·.1)) i1 with
      | out => exact absurd hm hp2
      | err er j =>
        obtain rfl := HR1.out.err hm
        have HC := Lib.hid (Out.err_of hm HC)
        unfold mkS at HC
        clear hm HR1 hp2
        go_wp2_with fail
        refine HC.out.mono ?_
        rintro e w' ⟨rfl, hK⟩
        exact ⟨rfl, HS1.out.keep.trans hK, rfl⟩
      | ok s2 i2 =>
        have HR2 := Lib.hid (HR1.out.ok hm)
        have HC := Lib.hid (Out.ok_of hm HC)
        unfold mkS at HC
        clear hm HR1 hp2
        go_wp2_with fail
        refine HC.out.mono ?_
        rintro e w2 ⟨v, rfl, ⟨kv2, rfl, hrep⟩, hP, hK⟩
        have HS2 := Lib.hid (HS1.out.step hg hK hP)
        obtain ⟨-, f0, hl⟩ := HS1.out.cells
        have hX := hrep.to (S' := SP w w2) (fun _ _ _ => rfl) fun b hb hS => ⟨by have := hS.1; omega, hb⟩
        clear f0 hl
        obtain ⟨so2, sn2, sd2, sk2⟩ := s2
        obtain ⟨sA2, sc2, rfl, -⟩ := hrep.slice
        have HX2 := Lib.hid hX
        have HX1' := Lib.hid (HX1.out.to (S' := SP w w2) (fun b hb hS => hK.block b hb (by have := hS.1; omega)) fun b hb hS => ⟨hS.1, Nat.lt_of_lt_of_le hb hK.size⟩)
        clear HX1
        have HX1 := HX1'
        clear HX1'
        clear hP hK HC hX hrep HS1
        unfold StV
        simp only [StC]
        have hp3 : (North.part k [97, 103, 97, 105, 110] 2).run (l.map (·.1)) i2 ≠ .out := fun e => HO.out (HR2.out.out e)
        have HC := when_calls HS2.out.par k hk [97, 103, 97, 105, 110] 2 _ rfl hp3
        cases hm : (North.part k [97, 103, 97, 105, 110] 2).run (l.map (·.1)) i2 with
        | out => exact absurd hm hp3
        | err er j =>
          obtain rfl := HR2.out.err hm
          have HC := Lib.hid (Out.err_of hm HC)
          unfold mkS at HC
          clear hm HR2 hp3
          go_wp2_with fail
          refine HC.out.mono ?_
          rintro e w' ⟨rfl, hK⟩
          exact ⟨rfl, HS2.out.keep.trans hK, rfl⟩
        | ok s3 i3 =>
          have HR3 := Lib.hid (HR2.out.ok hm)
          have HC := Lib.hid (Out.ok_of hm HC)
          unfold mkS at HC
          clear hm HR2 hp3
          go_wp2_with fail
          refine HC.out.mono ?_
          rintro e w3 ⟨v, rfl, ⟨kv3, rfl, hrep⟩, hP, hK⟩
          have HS3 := Lib.hid (HS2.out.step hg hK hP)
          obtain ⟨-, f0, hl⟩ := HS2.out.cells
          have hX := hrep.to (S' := SP w w3) (fun _ _ _ => rfl) fun b hb hS => ⟨by have := hS.1; omega, hb⟩
          clear f0 hl
          obtain ⟨so3, sn3, sd3, sk3⟩ := s3
          obtain ⟨sA3, sc3, rfl, -⟩ := hrep.slice
          have HX3 := Lib.hid hX
          have HX1' := Lib.hid (HX1.out.to (S' := SP w w3) (fun b hb hS => hK.block b hb (by have := hS.1; omega)) fun b hb hS => ⟨hS.1, Nat.lt_of_lt_of_le hb hK.size⟩)
          clear HX1
          have HX1 := HX1'
          clear HX1'
          have HX2' := Lib.hid (HX2.out.to (S' := SP w w3) (fun b hb hS => hK.block b hb (by have := hS.1; omega)) fun b hb hS => ⟨hS.1, Nat.lt_of_lt_of_le hb hK.size⟩)
          clear HX2
          have HX2 := HX2'
          clear HX2'
          clear hP hK HC hX hrep HS2
          unfold StV
          simp only [StC]
          obtain ⟨-, f0, hl⟩ := HS3.out.cells
          obtain ⟨a11, c11⟩ := HS3.out.cell 11 (by omega)
          obtain ⟨a12, c12⟩ := HS3.out.cell 12 (by omega)
          obtain ⟨a13, c13⟩ := HS3.out.cell 13 (by omega)
          obtain ⟨a14, c14⟩ := HS3.out.cell 14 (by omega)
          obtain ⟨a15, c15⟩ := HS3.out.cell 15 (by omega)
          obtain ⟨a16, c16⟩ := HS3.out.cell 16 (by omega)
          obtain ⟨a17, c17⟩ := HS3.out.cell 17 (by omega)
          obtain ⟨a18, c18⟩ := HS3.out.cell 18 (by omega)
          obtain ⟨a19, c19⟩ := HS3.out.cell 19 (by omega)
          obtain ⟨a20, c20⟩ := HS3.out.cell 20 (by omega)
          obtain ⟨a21, c21⟩ := HS3.out.cell 21 (by omega)
          obtain ⟨a22, c22⟩ := HS3.out.cell 22 (by omega)
          go_wp2
          go_meet
          case rel => exact ⟨i3, _, Lib.hid (HS3.out.put_three HP0.out _ _ _ _ _ _ _ _ _ _ _ _ _ _ _ HX1.out HX2.out HX3.out), HR3⟩
  clear HR HS
  obtain ⟨i, p, HS, HR⟩ := hcut
  go_upto_region 15 with fail
  go_cut [] from 4 to 71 (fun wx => ∃ (i1 : Nat) (p : Pv), Hid (PSt w g b o c l en i1 p wx) ∧ Hid ((if i1 < l.length then .err 5 i1 else .ok p i1) = r))
  case first =>
    have HM := must_calls (HS.out.par.below (below_new wc (.cells #[.string (mkS [46])] 9))) wc.heap.size 1 1 [[46]] (strs_one wc [46]) rfl (Nat.le_refl _) (by omega)
    cases hm : (Tr.must [[46]]).run (l.map (·.1)) i with
    | out => exact absurd hm (must_goes _ _ _)
    | err er j =>
      obtain rfl := HR.out.err hm
      have HM := Lib.hid (Out.err_of hm HM)
      unfold mkS at HM
      clear hm HR
      go_wp2_with fail
      refine HM.out.mono ?_
      rintro e w2 ⟨rfl, hK⟩
      exact ⟨rfl, (HS.out.keep.trans (.of_below (below_new _ _))).trans hK, rfl⟩
    | ok n i1 =>
      have HR1 := Lib.hid (HR.out.ok hm)
      have HM := Lib.hid (Out.ok_of hm HM)
      unfold mkS at HM
      clear hm HR
      go_wp2_with fail
      refine HM.out.mono ?_
      rintro e w2 ⟨v, rfl, rfl, hP, hK⟩
      have HS2 := Lib.hid (HS.out.step hg ((Keep.of_below (below_new _ _)).trans hK) hP)
      clear hP hK HM
      go_wp2
      go_meet
      case rel => exact ⟨i1, p, HS2, HR1⟩
  clear HR HS
  obtain ⟨i, p, HS, HR⟩ := hcut
  go_upto_region 16 with fail
  obtain ⟨pA, hpA, hblk⟩ := HS.out.par.blk
  have g0 := (blk_cell hblk 0).trans rfl
  have hi := HS.out.par.hi
  clear hpA hblk
  by_cases hlt : i < l.length
  · have h0 : 0 < l.length - i := by omega
    have hr := HR.out
    rw [if_pos hlt] at hr
    subst hr
    have HF := fail_calls HS.out.par
    have hbad : Tr.badAt (l.map (·.1)) i = 5 := by simp [Tr.badAt, hlt]
    rw [hbad] at HF
    have HF := Lib.hid HF
    clear HR hlt hbad
    generalize l.length - i = m at *
    go_wp2_with fail
    refine HF.out.mono ?_
    rintro e w2 ⟨rfl, hB⟩
    exact ⟨rfl, HS.out.keep.trans (.of_below hB), rfl⟩
  · have h0 : l.length - i = 0 := by omega
    have hr := HR.out
    rw [if_neg hlt] at hr
    subst hr
    rw [h0] at g0
    clear HR hlt h0
    go_upto_region 18 with fail
    obtain ⟨wk, ex, bk, ek, ak, hv, hin⟩ := HS.out.var
    have hrange : wc.rangeAt (w.heap.size + 1) 0 (pvC p wk ex bk ek ak) := by
      intro j v hj
      rw [Nat.zero_add, blk_cell hv j]
      simpa using hj
    have hone := all_oneCell_toArray (pvC_one hin)
    have hinfo : (Tryd.prog.info? 35).map (·.size) = some (pvC p wk ex bk ek ak).length := by rw [pvC_length]; exact info_Provision
    have hinfo' : (Tryd.prog.info? 35).map (·.size) = some (pvC p wk ex bk ek ak).toArray.size := by rw [List.size_toArray, pvC_length]; exact info_Provision
    have hold : (pvC (North.pv0 North.fm00) nilS nilS nilS nilS nilS).toArray.size = (pvC p wk ex bk ek ak).toArray.size := by rw [List.size_toArray, List.size_toArray, pvC_length, pvC_length]
    have hdone := HS.out.done HP0.out hv hin
    have hres := HS.out.res
    unfold zeroP at hres
    generalize hcs : pvC p wk ex bk ek ak = cs at *
    have H1 := Lib.hid hrange
    have H2 := Lib.hid hone
    have H3 := Lib.hid hinfo
    have H4 := Lib.hid hinfo'
    have H5 := Lib.hid hold
    have H6 := Lib.hid hdone
    have H7 := Lib.hid hres
    clear hrange hone hinfo hinfo' hold hdone hres hcs hv hin g0 hi HS
    go_wp2_with (first | (refine wpList_load_mid rfl 35 _ rfl (w.heap.size + 1) 0 rfl cs _ H1.out Tryd.underlying35 rfl H3.out ?_) | (refine wpList_store_row rfl 35 _ _ rfl w.heap.size cs.toArray rfl rfl 35 (pvC (North.pv0 North.fm00) nilS nilS nilS nilS nilS).toArray H7.out H4.out H5.out H2.out ?_))
    refine bodyPost_ret (v := .agg cs.toArray) ?_ rfl H6.out.2
    exact results_one Tryd.results42 _ _ (by rfl) (run_loadVar_row _ w.heap.size 35 35 cs.toArray (0, 0) _ H6.out.1 Tryd.underlying35 rfl H4.out)

end Go.Proofs.YtlhgflnmdmifaaaDoor.Wk
