/- A whole provision. Errors are caught at Parse's door. Parse, by the lexer's contract. Parse, where the lexer has tokens. -/
import Derived.Test.YtlhgflnmdmifaaaDoorN15
import Derived.Defers
import Derived.Recover
import Derived.OrdersHeld
namespace Go.Proofs.YtlhgflnmdmifaaaDoor.Wk
open Go.RowKit PD
def kindRow : Obj := .cells #[.string ⟨#[100, 101, 102, 105, 110, 101]⟩, .string ⟨#[97, 110, 115, 119, 101, 114]⟩] 9
set_option maxHeartbeats 20000000 in
set_option maxRecDepth 100000 in
theorem provision_calls {w : World} {g b o c : Nat} {l : List (Tok × Nat)} {en : Nat} (h : Par w g b o c l en 0) (k : Nat) (hk : k ≤ 6000) (r : PR Pv) (hr : Rest l (North.pvR k) 0 r) (hout : r ≠ .out) :
    Calls Tryd.prog 42 #[.pointer (some ⟨g, 0, none⟩)] w (Out (EncPv w) r g b o c l en w) := by
  have hg := h.lt
  have HP0 := Lib.hid h; clear h
  have HR := Lib.hid hr; clear hr
  have HO := Lib.hid hout; clear hout
  go_enter Tryd.func42, Tryd.ntmps42
  go_upto_region 1 with fail
  go_cut [3] from 4 to 71 (fun v3 wx => v3 = .pointer (some ⟨w.heap.size + 1, 0, none⟩) ∧ Hid (PSt w g b o c l en 0 (North.pv0 (North.fm0 1)) wx))
  case first =>
    have hz := heap_alloc_new (w.alloc zeroP) zeroP
    rw [World.size_alloc] at hz
    go_wp2_with (refine wpList_store_row rfl 35 _ _ rfl (w.heap.size + 1) (pvC (North.pv0 (North.fm0 1)) nilS nilS nilS nilS nilS).toArray rfl rfl 35 (pvC (North.pv0 North.fm00) nilS nilS nilS nilS nilS).toArray hz info_Provision rfl one_first ?_)
    go_meet
    case rel =>
      refine ⟨rfl, Lib.hid ?_⟩
      have e : ((w.alloc zeroP).alloc zeroP).setRow (w.heap.size + 1) (pvC (North.pv0 (North.fm0 1)) nilS nilS nilS nilS nilS).toArray = (w.alloc zeroP).alloc (.cells (pvC (North.pv0 (North.fm0 1)) nilS nilS nilS nilS nilS).toArray 35) := by
        have := World.setRow_alloc_new (w.alloc zeroP) (pvC (North.pv0 North.fm00) nilS nilS nilS nilS nilS).toArray (pvC (North.pv0 (North.fm0 1)) nilS nilS nilS nilS nilS).toArray 35
        rwa [World.size_alloc] at this
      have e2 : PSt w g b o c l en 0 (North.pv0 (North.fm0 1)) (((w.alloc zeroP).alloc zeroP).setRow (w.heap.size + 1) (pvC (North.pv0 (North.fm0 1)) nilS nilS nilS nilS nilS).toArray) := by
        rw [e]
        have hz2 := heap_alloc_new (w.alloc zeroP) (.cells (pvC (North.pv0 (North.fm0 1)) nilS nilS nilS nilS nilS).toArray 35)
        rw [World.size_alloc] at hz2
        exact ⟨(HP0.out.below (below_new _ _)).below (below_new _ _), (Keep.of_below (below_new _ _)).trans (.of_below (below_new _ _)), below_blk (below_new _ _) (heap_alloc_new w zeroP), nilS, nilS, nilS, nilS, nilS, hz2,
          RepK.leaf _ _ _ _ _ _, ⟨rfl, .inl ⟨rfl, rfl⟩⟩, RepKS.leaf _ _ _ _ _, RepKS.leaf _ _ _ _ _, RepKS.leaf _ _ _ _ _⟩
      exact e2
  obtain ⟨rfl, HS⟩ := hcut
  go_upto_region 2 with fail
  go_cut [] from 4 to 71 (fun wx => ∃ (i1 : Nat) (p : Pv), Hid (PSt w g b o c l en i1 p wx) ∧ Hid (p.when_ = North.fm0 1 ∧ p.except = []) ∧ Hid (Rest l (North.pvI k p) i1 r))
  case first =>
    have HM := must_calls (HS.out.par.below (below_new wc keyRow)) wc.heap.size 4 4 keyWs (key_strs wc) rfl (Nat.le_refl _) (by omega)
    cases hm : (Tr.must keyWs).run (l.map (·.1)) 0 with
    | out => exact absurd hm (must_goes _ _ _)
    | err er j =>
      obtain rfl := HR.out.err hm
      have HM := Lib.hid (Out.err_of hm HM)
      unfold keyRow at HM
      clear hm HR
      go_wp2_with fail
      refine HM.out.mono ?_
      rintro e w2 ⟨rfl, hK⟩
      exact ⟨rfl, (HS.out.keep.trans (.of_below (below_new _ _))).trans hK, rfl⟩
    | ok n i1 =>
      have hn4 : n < 4 := (must_lt hm).1
      have HR1 := Lib.hid (HR.out.ok hm)
      have HM := Lib.hid (Out.ok_of hm HM)
      unfold keyRow at HM
      clear hm HR
      go_wp2_with fail
      refine HM.out.mono ?_
      rintro e w2 ⟨v, rfl, rfl, hP, hK⟩
      have HS2 := Lib.hid (HS.out.step hg ((Keep.of_below (below_new _ _)).trans hK) hP)
      clear hP hK HM
      obtain ⟨⟨c0, c1, c2, c3, c4⟩, f0, hl⟩ := HS2.out.cells
      go_wp2
      go_meet
      case rel => exact ⟨i1, _, Lib.hid (HS2.out.put_rank HP0.out _), Lib.hid ⟨rfl, rfl⟩, HR1⟩
  clear HR HS
  obtain ⟨i, p, HS, HQ, HR⟩ := hcut
  go_upto_region 3 with fail
  go_cut [] from 4 to 71 (fun wx => ∃ (i1 : Nat) (p : Pv), Hid (PSt w g b o c l en i1 p wx) ∧ Hid (p.when_ = North.fm0 1 ∧ p.except = []) ∧ Hid (Rest l (North.pvS k p) i1 r))
  case first =>
    have HM := name_calls HS.out.par
    cases hm : North.nm.run (l.map (·.1)) i with
    | out => exact absurd hm (nm_goes _ _)
    | err er j =>
      obtain rfl := HR.out.err hm
      have HM := Lib.hid (Out.err_of hm HM)
      clear hm HR
      go_wp2_with fail
      refine HM.out.mono ?_
      rintro e w2 ⟨rfl, hK⟩
      exact ⟨rfl, HS.out.keep.trans hK, rfl⟩
    | ok s i1 =>
      have HR1 := Lib.hid (HR.out.ok hm)
      have HM := Lib.hid (Out.ok_of hm HM)
      clear hm HR
      go_wp2_with fail
      refine HM.out.mono ?_
      rintro e w2 ⟨v, rfl, rfl, hP, hK⟩
      have HS2 := Lib.hid (HS.out.step hg hK hP)
      clear hP hK HM
      obtain ⟨⟨c0, c1, c2, c3, c4⟩, f0, hl⟩ := HS2.out.cells
      go_wp2
      go_meet
      case rel => exact ⟨i1, _, Lib.hid (HS2.out.put_id HP0.out _), Lib.hid HQ.out, HR1⟩
  clear HR HS HQ
  obtain ⟨i, p, HS, HQ, HR⟩ := hcut
  go_upto_region 4 with fail
  go_cut [] from 4 to 71 (fun wx => ∃ (i1 : Nat) (p : Pv), Hid (PSt w g b o c l en i1 p wx) ∧ Hid (p.when_ = North.fm0 1 ∧ p.except = []) ∧ Hid (Rest l (North.pvK k p) i1 r))
  case first =>
    have HM := must_calls (HS.out.par.below (below_new wc (.cells #[.string (mkS [58])] 9))) wc.heap.size 1 1 [[58]] (strs_one wc [58]) rfl (Nat.le_refl _) (by omega)
    cases hm : (Tr.must [[58]]).run (l.map (·.1)) i with
    | out => exact absurd hm (must_goes _ _ _)
    | err er j =>
      obtain rfl := HR.out.err hm
      have HM := Lib.hid (Out.err_of hm HM)
      unfold mkS at HM
      clear hm HR
      go_wp2_with fail
      refine HM.out.mono ?_
      rintro e w2 ⟨rfl, hK⟩
      exact ⟨rfl, (HS.out.keep.trans (.of_below (below_new _ _))).trans hK, rfl⟩
    | ok n i1 =>
      have HR1 := Lib.hid (HR.out.ok hm)
      have HM := Lib.hid (Out.ok_of hm HM)
      unfold mkS at HM
      clear hm HR
      go_wp2_with fail
      refine HM.out.mono ?_
      rintro e w2 ⟨v, rfl, rfl, hP, hK⟩
      have HS2 := Lib.hid (HS.out.step hg ((Keep.of_below (below_new _ _)).trans hK) hP)
      clear hP hK HM
      go_wp2
      go_meet
      case rel => exact ⟨i1, p, HS2, HQ, HR1⟩
  clear HR HS HQ
  obtain ⟨i, p, HS, HQ, HR⟩ := hcut
  go_upto_region 5 with fail
  go_cut [20] from 4 to 71 (fun v20 wx => ∃ (i1 : Nat) (p : Pv) (t : Bool), v20 = .bool t ∧ Hid (PSt w g b o c l en i1 p wx) ∧ Hid (p.when_ = North.fm0 1 ∧ p.except = []) ∧ Hid (Rest l (if t = true then North.pvD k p else North.pvA k p) i1 r))
  case first =>
    have HM := must_calls (HS.out.par.below (below_new wc kindRow)) wc.heap.size 2 2 [[100, 101, 102, 105, 110, 101], [97, 110, 115, 119, 101, 114]] (strs_lit wc [[100, 101, 102, 105, 110, 101], [97, 110, 115, 119, 101, 114]]) rfl (Nat.le_refl _) (by omega)
    cases hm : (Tr.must [[100, 101, 102, 105, 110, 101], [97, 110, 115, 119, 101, 114]]).run (l.map (·.1)) i with
    | out => exact absurd hm (must_goes _ _ _)
    | err er j =>
      obtain rfl := HR.out.err hm
      have HM := Lib.hid (Out.err_of hm HM)
      unfold kindRow at HM
      clear hm HR
      go_wp2_with fail
      refine HM.out.mono ?_
      rintro e w2 ⟨rfl, hK⟩
      exact ⟨rfl, (HS.out.keep.trans (.of_below (below_new _ _))).trans hK, rfl⟩
    | ok n i1 =>
      have hn2 : n < 2 := (must_lt hm).1
      have HR1 := Lib.hid (HR.out.ok hm)
      have HM := Lib.hid (Out.ok_of hm HM)
      unfold kindRow at HM
      clear hm HR
      have hn : n = 0 ∨ n = 1 := by omega
      clear hn2
      rcases hn with rfl | rfl
      · go_wp2_with fail
        refine HM.out.mono ?_
        rintro e w2 ⟨v, rfl, rfl, hP, hK⟩
        have HS2 := Lib.hid (HS.out.step hg ((Keep.of_below (below_new _ _)).trans hK) hP)
        clear hP hK HM
        go_wp2
        go_meet
        case rel => exact ⟨i1, p, true, rfl, HS2, HQ, HR1⟩
      · go_wp2_with fail
        refine HM.out.mono ?_
        rintro e w2 ⟨v, rfl, rfl, hP, hK⟩
        have HS2 := Lib.hid (HS.out.step hg ((Keep.of_below (below_new _ _)).trans hK) hP)
        clear hP hK HM
        go_wp2
        go_meet
        case rel => exact ⟨i1, p, false, rfl, HS2, HQ, HR1⟩
  clear HR HS HQ
  obtain ⟨i, p, t, rfl, HS, HQ, HR⟩ := hcut
  go_upto_if 20 with fail
  go_cut [] from 4 to 71 (fun wx => ∃ (i1 : Nat) (p : Pv), Hid (PSt w g b o c l en i1 p wx) ∧ Hid (p.when_ = North.fm0 1 ∧ p.except = []) ∧ Hid (Rest l (North.pvW k p) i1 r))
  case first =>
    cases t with
    | true =>
      rw [if_pos rfl] at HR
      have HM := name_calls HS.out.par
      cases hm : North.nm.run (l.map (·.1)) i with
      | out => exact absurd hm (nm_goes _ _)
      | err er j =>
        obtain rfl := HR.out.err hm
        have HM := Lib.hid (Out.err_of hm HM)
        clear hm HR
        go_wp2_with fail
        refine HM.out.mono ?_
        rintro e w2 ⟨rfl, hK⟩
        exact ⟨rfl, HS.out.keep.trans hK, rfl⟩
      | ok s i1 =>
        have HR1 := Lib.hid (HR.out.ok hm)
        have HM := Lib.hid (Out.ok_of hm HM)
        clear hm HR
        go_wp2_with fail
        refine HM.out.mono ?_
        rintro e w2 ⟨v, rfl, rfl, hP, hK⟩
        have HS2 := Lib.hid (HS.out.step hg hK hP)
        clear hP hK HM HS
        obtain ⟨⟨c0, c1, c2, c3, c4⟩, f0, hl⟩ := HS2.out.cells
        go_wp2
        go_meet
        case rel => exact ⟨i1, _, Lib.hid ((HS2.out.put_kind HP0.out 1).put_name HP0.out s), Lib.hid HQ.out, HR1⟩
    | false =>
      rw [if_neg (by simp)] at HR
      have HM := name_calls HS.out.par
      cases hm : North.nm.run (l.map (·.1)) i with
      | out => exact absurd hm (nm_goes _ _)
      | err er j =>
        obtain rfl := HR.out.err hm
        have HM := Lib.hid (Out.err_of hm HM)
        clear hm HR
        go_wp2_with fail
        refine HM.out.mono ?_
        rintro e w2 ⟨rfl, hK⟩
        exact ⟨rfl, HS.out.keep.trans hK, rfl⟩
      | ok s i1 =>
        have HR1 := Lib.hid (HR.out.ok hm)
        have HM := Lib.hid (Out.ok_of hm HM)
        clear hm HR
        go_wp2_with fail
        refine HM.out.mono ?_
        rintro e w2 ⟨v, rfl, rfl, hP, hK⟩
        have HS2 := Lib.hid (HS.out.step hg hK hP)
        clear hP hK HM HS
        obtain ⟨⟨c0, c1, c2, c3, c4⟩, f0, hl⟩ := HS2.out.cells
        have hS3 := (HS2.out.put_kind HP0.out 2).put_name HP0.out s
        go_wp2_with fail
        have hs3 : ((w2.setCell ⟨w.heap.size + 1, 2, none⟩ (.int .i64 2)).setCell ⟨w.heap.size + 1, 3, none⟩ (.string (mkS s))).heap.size = w2.heap.size := by simp [World.setCell]
        generalize (w2.setCell ⟨w.heap.size + 1, 2, none⟩ (.int .i64 2)).setCell ⟨w.heap.size + 1, 3, none⟩ (.string (mkS s)) = w3 at *
        clear c0 c1 c2 c3 c4 f0 hl HS2
        have HM := must_calls (hS3.par.below (below_new w3 (.cells #[.string (mkS [105, 115])] 9))) w3.heap.size 1 1 [[105, 115]] (strs_one w3 [105, 115]) rfl (Nat.le_refl _) (by omega)
        rw [hs3] at HM
        have HS3 := Lib.hid hS3; clear hS3
        cases hm : (Tr.must [[105, 115]]).run (l.map (·.1)) i1 with
        | out => exact absurd hm (must_goes _ _ _)
        | err er j =>
          obtain rfl := HR1.out.err hm
          have HM := Lib.hid (Out.err_of hm HM)
          unfold mkS at HM
          clear hm HR1
          refine HM.out.mono ?_
          rintro e w4 ⟨rfl, hK⟩
          exact ⟨rfl, (HS3.out.keep.trans (.of_below (below_new _ _))).trans hK, rfl⟩
        | ok n i2 =>
          have HR2 := Lib.hid (HR1.out.ok hm)
          have HM := Lib.hid (Out.ok_of hm HM)
          unfold mkS at HM
          clear hm HR1
          refine HM.out.mono ?_
          rintro e w4 ⟨v, rfl, rfl, hP, hK⟩
          have HS4 := Lib.hid (HS3.out.step hg ((Keep.of_below (below_new _ _)).trans hK) hP)
          clear hP hK HM HS3
          have HM := number_calls HS4.out.par 1000000
          cases hm : (Tr.number 1000000).run (l.map (·.1)) i2 with
          | out => exact absurd hm (number_goes _ _ _)
          | err er j =>
            obtain rfl := HR2.out.err hm
            have HM := Lib.hid (Out.err_of hm HM)
            clear hm HR2
            go_wp2_with fail
            refine HM.out.mono ?_
            rintro e w5 ⟨rfl, hK⟩
            exact ⟨rfl, HS4.out.keep.trans hK, rfl⟩
          | ok v i3 =>
            have HR3 := Lib.hid (HR2.out.ok hm)
            have HM := Lib.hid (Out.ok_of hm HM)
            clear hm HR2
            go_wp2_with fail
            refine HM.out.mono ?_
            rintro e w5 ⟨v, rfl, rfl, hP, hK⟩
            have HS5 := Lib.hid (HS4.out.step hg hK hP)
            clear hP hK HM HS4
            obtain ⟨⟨c0, c1, c2, c3, c4⟩, f0, hl⟩ := HS5.out.cells
            go_wp2
            go_meet
            case rel => exact ⟨i3, _, Lib.hid (HS5.out.put_value HP0.out _), Lib.hid HQ.out, HR3⟩
  clear HR HS HQ
  obtain ⟨i, p, HS, HQ, HR⟩ := hcut
  go_upto_region 10 with fail
  go_cut [38] from 4 to 71 (fun v38 wx => ∃ (i1 : Nat) (p : Pv) (t : Bool), v38 = .bool t ∧ Hid (PSt w g b o c l en i1 p wx) ∧ Hid (p.when_ = North.fm0 1 ∧ p.except = []) ∧ Hid (Rest l ((if t = true then Tr.bounded (North.cond k) Fm.size Fm.depth else .ret (North.fm0 1)).bind fun w => North.pvX k { p with when_ := w }) i1 r))
  case first =>
    have HM := take_calls (HS.out.par.below (below_new wc (.cells #[.string (mkS [105, 102])] 9))) wc.heap.size 1 1 [[105, 102]] (strs_one wc [105, 102]) rfl (Nat.le_refl _) (by omega)
    rcases Tr.run_take_ok (l.map (·.1)) [[105, 102]] i with ⟨j, hr, hl⟩ | hr
    all_goals
      have HR1 := Lib.hid (HR.out.ok2 hr)
      have HM := Lib.hid (Out.ok_of hr HM)
      unfold mkS at HM
      clear hr HR
      go_wp2_with fail
      refine HM.out.mono ?_
      rintro e w2 ⟨v, rfl, rfl, hP, hK⟩
      have HS2 := Lib.hid (HS.out.step hg ((Keep.of_below (below_new _ _)).trans hK) hP)
      clear hP hK HM
      unfold idxI
      go_wp2
      go_meet
    case rel => exact ⟨_, p, true, rfl, HS2, HQ, HR1⟩
    case rel => exact ⟨_, p, false, rfl, HS2, HQ, HR1⟩
  clear HR HS HQ
  obtain ⟨i, p, t, rfl, HS, HQ, HR⟩ := hcut
  go_upto_if 38 with fail
  go_cut [] from 4 to 71 (fun wx => ∃ (i1 : Nat) (p : Pv), Hid (PSt w g b o c l en i1 p wx) ∧ Hid (p.except = []) ∧ Hid (Rest l (North.pvX k p) i1 r))
  case first =>
    cases t with
    | false =>
      rw [if_neg (by simp)] at HR
      go_wp2
      go_meet
      case rel =>
        refine ⟨i, p, HS, Lib.hid HQ.out.2, Lib.hid ?_⟩
        have h1 : Rest l (North.pvX k { p with when_ := North.fm0 1 }) i r := HR.out
        rw [← HQ.out.1] at h1
        exact h1
    | true =>
      rw [if_pos rfl] at HR
      have hbo : (Tr.bounded (North.cond k) Fm.size Fm.depth).run (l.map (·.1)) i ≠ .out := fun e => HO.out (HR.out.out e)
      have hco := bounded_out hbo
      have HC := bounded_callsF HS.out.par 60 (fun _ _ => by kernel_rfl) (North.cond k) (fun w1 _ hP1 => cond_calls k hk w1 g b o c l en i hP1 hco)
        (fun f i' hf => by
          have := North.cond_size k _ i (by simpa using HS.out.par.hi) f i' hf
          have h2 := HP0.out.few
          rw [List.length_map] at this
          omega) hco
      clear hco
      cases hm : (Tr.bounded (North.cond k) Fm.size Fm.depth).run (l.map (·.1)) i with
      | out => exact absurd hm hbo
      | err er j =>
        obtain rfl := HR.out.err hm
        have HC := Lib.hid (Out.err_of hm HC)
        clear hm HR hbo
        go_wp2_with fail
        refine HC.out.mono ?_
        rintro e w2 ⟨rfl, hK⟩
        exact ⟨rfl, HS.out.keep.trans hK, rfl⟩
      | ok f i1 =>
        have HR1 := Lib.hid (HR.out.ok hm)
        have HC := Lib.hid (Out.ok_of hm HC)
        clear hm HR hbo
        go_wp2_with fail
        refine HC.out.mono ?_
        rintro e w2 ⟨v, rfl, ⟨kv, rfl, hrep⟩, hP, hK⟩
        have HS2 := Lib.hid (HS.out.step hg hK hP)
        obtain ⟨-, f0, hl⟩ := HS.out.cells
        have hX := hrep.to (S' := SP w w2) (fun _ _ _ => rfl) fun b hb hS => ⟨by have := hS.1; omega, hb⟩
        clear f0 hl
        obtain ⟨fo, fn, fc, fm, fks⟩ := f
        obtain ⟨kA, kc, rfl, -⟩ := hrep.slice
        have HX := Lib.hid hX
        clear hP hK HC hX hrep HS
        obtain ⟨-, f0, hl⟩ := HS2.out.cells
        obtain ⟨a5, a6, a7, a8, a9, c5, c6, c7, c8, c9⟩ := HS2.out.cells5
        unfold FmV
        simp only [FmC]
        go_wp2
        go_meet
        case rel => exact ⟨i1, _, Lib.hid (HS2.out.put_when HP0.out _ _ _ _ _ _ HX.out), Lib.hid HQ.out.2, HR1⟩
  clear HR HS HQ
  obtain ⟨i, p, HS, HQ, HR⟩ := hcut
  go_upto_region 12 with fail
  go_cut [47] from 4 to 71 (fun v47 wx => ∃ (i1 : Nat) (p : Pv) (t : Bool), v47 = .bool t ∧ Hid (PSt w g b o c l en i1 p wx) ∧ Hid (p.except = []) ∧ Hid (Rest l ((if t = true then North.except k [] else .ret []).bind fun x => North.pvB k { p with except := x }) i1 r))
  case first =>
    have HM := take_calls (HS.out.par.below (below_new wc (.cells #[.string (mkS [110, 111, 116, 119, 105, 116, 104, 115, 116, 97, 110, 100, 105, 110, 103])] 9))) wc.heap.size 1 1 [[110, 111, 116, 119, 105, 116, 104, 115, 116, 97, 110, 100, 105, 110, 103]] (strs_one wc [110, 111, 116, 119, 105, 116, 104, 115, 116, 97, 110, 100, 105, 110, 103]) rfl (Nat.le_refl _) (by omega)
    rcases Tr.run_take_ok (l.map (·.1)) [[110, 111, 116, 119, 105, 116, 104, 115, 116, 97, 110, 100, 105, 110, 103]] i with ⟨j, hr, hl⟩ | hr
    all_goals
      have HR1 := Lib.hid (HR.out.ok2 hr)
      have HM := Lib.hid (Out.ok_of hr HM)
      unfold mkS at HM
      clear hr HR
      go_wp2_with fail
      refine HM.out.mono ?_
      rintro e w2 ⟨v, rfl, rfl, hP, hK⟩
      have HS2 := Lib.hid (HS.out.step hg ((Keep.of_below (below_new _ _)).trans hK) hP)
      clear hP hK HM
      unfold idxI
      go_wp2
      go_meet
    case rel => exact ⟨_, p, true, rfl, HS2, HQ, HR1⟩
    case rel => exact ⟨_, p, false, rfl, HS2, HQ, HR1⟩
  clear HR HS HQ
  obtain ⟨i, p, t, rfl, HS, HQ, HR⟩ := hcut
  go_upto_if 47 with fail
  go_cut [] from 4 to 71 (fun wx => ∃ (i1 : Nat) (p : Pv), Hid (PSt w g b o c l en i1 p wx) ∧ Hid (Rest l (North.pvB k p) i1 r))
  case first =>
    cases t with
    | false =>
      rw [if_neg (by simp)] at HR
      go_wp2
      go_meet
      case rel =>
        refine ⟨i, p, HS, Lib.hid ?_⟩
        have h1 : Rest l (North.pvB k { p with except := [] }) i r := HR.out
        rw [← HQ.out] at h1
        exact h1
    | true =>
      rw [if_pos rfl] at HR
      have hbo : (North.except k []).run (l.map (·.1)) i ≠ .out := fun e => HO.out (HR.out.out e)
      have HC := except_calls HS.out.par k _ rfl hbo
      cases hm : (North.except k []).run (l.map (·.1)) i with
      | out => exact absurd hm hbo
      | err er j =>
        obtain rfl := HR.out.err hm
        have HC := Lib.hid (Out.err_of hm HC)
        clear hm HR hbo
        go_wp2_with fail
        refine HC.out.mono ?_
        rintro e w2 ⟨rfl, hK⟩
        exact ⟨rfl, HS.out.keep.trans hK, rfl⟩
      | ok x i1 =>
        have HR1 := Lib.hid (HR.out.ok hm)
        have HC := Lib.hid (Out.ok_of hm HC)
        clear hm HR hbo
        go_wp2_with fail
        refine HC.out.mono ?_
        rintro e w2 ⟨v, rfl, hown, hP, hK⟩
        have HS2 := Lib.hid (HS.out.step hg hK hP)
        obtain ⟨-, f0, hl⟩ := HS.out.cells
        have hX := own_base hown (show w.heap.size + 2 ≤ wc.heap.size by omega)
        obtain ⟨vA, vcc, rfl⟩ := own_slice hown
        clear f0 hl
        have HX := Lib.hid hX
        clear hP hK HC hX hown HS
        obtain ⟨-, f0, hl⟩ := HS2.out.cells
        obtain ⟨a10, c10⟩ := HS2.out.cell10
        generalize hxl : x.length = xl at *
        have HXL := Lib.hid hxl; clear hxl
        go_wp2
        go_meet
        case rel =>
          have hX := HX.out
          rw [← HXL.out] at hX
          exact ⟨i1, _, Lib.hid (HXL.out ▸ HS2.out.put_except HP0.out x _ hX), HR1⟩
  clear HR HS HQ
  obtain ⟨i, p, HS, HR⟩ := hcut
  go_upto_region 14 with fail
  go_cut [] from 4 to 71 (fun wx => ∃ (i1 : Nat) (p : Pv), Hid (PSt w g b o c l en i1 p wx) ∧ Hid (Rest l (North.pvE p) i1 r))
  case first =>
    have hp1 : (North.part k [102, 114, 111, 109] 1).run (l.map (·.1)) i ≠ .out := fun e => HO.out (HR.out.out e)
    have HC := when_calls HS.out.par k hk [102, 114, 111, 109] 1 _ rfl hp1
    cases hm : (North.part k [102, 114, 111, 109] 1).run (l.map (·.1)) i with
    | out => exact absurd hm hp1
    | err er j =>
      obtain rfl := HR.out.err hm
      have HC := Lib.hid (Out.err_of hm HC)
      unfold mkS at HC
      clear hm HR hp1
      go_wp2_with fail
      refine HC.out.mono ?_
      rintro e w' ⟨rfl, hK⟩
      exact ⟨rfl, HS.out.keep.trans hK, rfl⟩
    | ok s1 i1 =>
      have HR1 := Lib.hid (HR.out.ok hm)
      have HC := Lib.hid (Out.ok_of hm HC)
      unfold mkS at HC
      clear hm HR hp1
      go_wp2_with fail
      refine HC.out.mono ?_
      rintro e w1 ⟨v, rfl, ⟨kv1, rfl, hrep⟩, hP, hK⟩
      have HS1 := Lib.hid (HS.out.step hg hK hP)
      obtain ⟨-, f0, hl⟩ := HS.out.cells
      have hX := hrep.to (S' := SP w w1) (fun _ _ _ => rfl) fun b hb hS => ⟨by have := hS.1; omega, hb⟩
      clear f0 hl
      obtain ⟨so1, sn1, sd1, sk1⟩ := s1
      obtain ⟨sA1, sc1, rfl, -⟩ := hrep.slice
      have HX1 := Lib.hid hX
      clear hP hK HC hX hrep HS
      unfold StV
      simp only [StC]
      have hp2 : (North.part k [117, 110, 116, 105, 108] 2).run (l.map (·.1)) i1 ≠ .out := fun e => HO.out (HR1.out.out e)
      have HC := when_calls HS1.out.par k hk [117, 110, 116, 105, 108] 2 _ rfl hp2
      cases hm : (North.part k [117, 110, 116, 105, 108] 2).run (l.map (·.1)) i1 with
      | out => exact absurd hm hp2
      | err er j =>
        obtain rfl := HR1.out.err hm
        have HC := Lib.hid (Out.err_of hm HC)
        unfold mkS at HC
        clear hm HR1 hp2
        go_wp2_with fail
        refine HC.out.mono ?_
        rintro e w' ⟨rfl, hK⟩
        exact ⟨rfl, HS1.out.keep.trans hK, rfl⟩
      | ok s2 i2 =>
        have HR2 := Lib.hid (HR1.out.ok hm)
        have HC := Lib.hid (Out.ok_of hm HC)
        unfold mkS at HC
        clear hm HR1 hp2
        go_wp2_with fail
        refine HC.out.mono ?_
        rintro e w2 ⟨v, rfl, ⟨kv2, rfl, hrep⟩, hP, hK⟩
        have HS2 := Lib.hid (HS1.out.step hg hK hP)
        obtain ⟨-, f0, hl⟩ := HS1.out.cells
        have hX := hrep.to (S' := SP w w2) (fun _ _ _ => rfl) fun b hb hS => ⟨by have := hS.1; omega, hb⟩
        clear f0 hl
        obtain ⟨so2, sn2, sd2, sk2⟩ := s2
        obtain ⟨sA2, sc2, rfl, -⟩ := hrep.slice
        have HX2 := Lib.hid hX
        have HX1' := Lib.hid (HX1.out.to (S' := SP w w2) (fun b hb hS => hK.block b hb (by have := hS.1; omega)) fun b hb hS => ⟨hS.1, Nat.lt_of_lt_of_le hb hK.size⟩)
        clear HX1
        have HX1 := HX1'
        clear HX1'
        clear hP hK HC hX hrep HS1
        unfold StV
        simp only [StC]
        have hp3 : (North.part k [97, 103, 97, 105, 110] 2).run (l.map (·.1)) i2 ≠ .out := fun e => HO.out (HR2.out.out e)
        have HC := when_calls HS2.out.par k hk [97, 103, 97, 105, 110] 2 _ rfl hp3
        cases hm : (North.part k [97, 103, 97, 105, 110] 2).run (l.map (·.1)) i2 with
        | out => exact absurd hm hp3
        | err er j =>
          obtain rfl := HR2.out.err hm
          have HC := Lib.hid (Out.err_of hm HC)
          unfold mkS at HC
          clear hm HR2 hp3
          go_wp2_with fail
          refine HC.out.mono ?_
          rintro e w' ⟨rfl, hK⟩
          exact ⟨rfl, HS2.out.keep.trans hK, rfl⟩
        | ok s3 i3 =>
          have HR3 := Lib.hid (HR2.out.ok hm)
          have HC := Lib.hid (Out.ok_of hm HC)
          unfold mkS at HC
          clear hm HR2 hp3
          go_wp2_with fail
          refine HC.out.mono ?_
          rintro e w3 ⟨v, rfl, ⟨kv3, rfl, hrep⟩, hP, hK⟩
          have HS3 := Lib.hid (HS2.out.step hg hK hP)
          obtain ⟨-, f0, hl⟩ := HS2.out.cells
          have hX := hrep.to (S' := SP w w3) (fun _ _ _ => rfl) fun b hb hS => ⟨by have := hS.1; omega, hb⟩
          clear f0 hl
          obtain ⟨so3, sn3, sd3, sk3⟩ := s3
          obtain ⟨sA3, sc3, rfl, -⟩ := hrep.slice
          have HX3 := Lib.hid hX
          have HX1' := Lib.hid (HX1.out.to (S' := SP w w3) (fun b hb hS => hK.block b hb (by have := hS.1; omega)) fun b hb hS => ⟨hS.1, Nat.lt_of_lt_of_le hb hK.size⟩)
          clear HX1
          have HX1 := HX1'
          clear HX1'
          have HX2' := Lib.hid (HX2.out.to (S' := SP w w3) (fun b hb hS => hK.block b hb (by have := hS.1; omega)) fun b hb hS => ⟨hS.1, Nat.lt_of_lt_of_le hb hK.size⟩)
          clear HX2
          have HX2 := HX2'
          clear HX2'
          clear hP hK HC hX hrep HS2
          unfold StV
          simp only [StC]
          obtain ⟨-, f0, hl⟩ := HS3.out.cells
          obtain ⟨a11, c11⟩ := HS3.out.cell 11 (by omega)
          obtain ⟨a12, c12⟩ := HS3.out.cell 12 (by omega)
          obtain ⟨a13, c13⟩ := HS3.out.cell 13 (by omega)
          obtain ⟨a14, c14⟩ := HS3.out.cell 14 (by omega)
          obtain ⟨a15, c15⟩ := HS3.out.cell 15 (by omega)
          obtain ⟨a16, c16⟩ := HS3.out.cell 16 (by omega)
          obtain ⟨a17, c17⟩ := HS3.out.cell 17 (by omega)
          obtain ⟨a18, c18⟩ := HS3.out.cell 18 (by omega)
          obtain ⟨a19, c19⟩ := HS3.out.cell 19 (by omega)
          obtain ⟨a20, c20⟩ := HS3.out.cell 20 (by omega)
          obtain ⟨a21, c21⟩ := HS3.out.cell 21 (by omega)
          obtain ⟨a22, c22⟩ := HS3.out.cell 22 (by omega)
          go_wp2
          go_meet
          case rel => exact ⟨i3, _, Lib.hid (HS3.out.put_three HP0.out _ _ _ _ _ _ _ _ _ _ _ _ _ _ _ HX1.out HX2.out HX3.out), HR3⟩
  clear HR HS
  obtain ⟨i, p, HS, HR⟩ := hcut
  go_upto_region 15 with fail
  go_cut [] from 4 to 71 (fun wx => ∃ (i1 : Nat) (p : Pv), Hid (PSt w g b o c l en i1 p wx) ∧ Hid ((if i1 < l.length then .err 5 i1 else .ok p i1) = r))
  case first =>
    have HM := must_calls (HS.out.par.below (below_new wc (.cells #[.string (mkS [46])] 9))) wc.heap.size 1 1 [[46]] (strs_one wc [46]) rfl (Nat.le_refl _) (by omega)
    cases hm : (Tr.must [[46]]).run (l.map (·.1)) i with
    | out => exact absurd hm (must_goes _ _ _)
    | err er j =>
      obtain rfl := HR.out.err hm
      have HM := Lib.hid (Out.err_of hm HM)
      unfold mkS at HM
      clear hm HR
      go_wp2_with fail
      refine HM.out.mono ?_
      rintro e w2 ⟨rfl, hK⟩
      exact ⟨rfl, (HS.out.keep.trans (.of_below (below_new _ _))).trans hK, rfl⟩
    | ok n i1 =>
      have HR1 := Lib.hid (HR.out.ok hm)
      have HM := Lib.hid (Out.ok_of hm HM)
      unfold mkS at HM
      clear hm HR
      go_wp2_with fail
      refine HM.out.mono ?_
      rintro e w2 ⟨v, rfl, rfl, hP, hK⟩
      have HS2 := Lib.hid (HS.out.step hg ((Keep.of_below (below_new _ _)).trans hK) hP)
      clear hP hK HM
      go_wp2
      go_meet
      case rel => exact ⟨i1, p, HS2, HR1⟩
  clear HR HS
  obtain ⟨i, p, HS, HR⟩ := hcut
  go_upto_region 16 with fail
  obtain ⟨pA, hpA, hblk⟩ := HS.out.par.blk
  have g0 := (blk_cell hblk 0).trans rfl
  have hi := HS.out.par.hi
  clear hpA hblk
  by_cases hlt : i < l.length
  · have h0 : 0 < l.length - i := by omega
    have hr := HR.out
    rw [if_pos hlt] at hr
    subst hr
    have HF := fail_calls HS.out.par
    have hbad : Tr.badAt (l.map (·.1)) i = 5 := by simp [Tr.badAt, hlt]
    rw [hbad] at HF
    have HF := Lib.hid HF
    clear HR hlt hbad
    generalize l.length - i = m at *
    go_wp2_with fail
    refine HF.out.mono ?_
    rintro e w2 ⟨rfl, hB⟩
    exact ⟨rfl, HS.out.keep.trans (.of_below hB), rfl⟩
  · have h0 : l.length - i = 0 := by omega
    have hr := HR.out
    rw [if_neg hlt] at hr
    subst hr
    rw [h0] at g0
    clear HR hlt h0
    go_upto_region 18 with fail
    obtain ⟨wk, ex, bk, ek, ak, hv, hin⟩ := HS.out.var
    have hrange : wc.rangeAt (w.heap.size + 1) 0 (pvC p wk ex bk ek ak) := by
      intro j v hj
      rw [Nat.zero_add, blk_cell hv j]
      simpa using hj
    have hone := all_oneCell_toArray (pvC_one hin)
    have hinfo : (Tryd.prog.info? 35).map (·.size) = some (pvC p wk ex bk ek ak).length := by rw [pvC_length]; exact info_Provision
    have hinfo' : (Tryd.prog.info? 35).map (·.size) = some (pvC p wk ex bk ek ak).toArray.size := by rw [List.size_toArray, pvC_length]; exact info_Provision
    have hold : (pvC (North.pv0 North.fm00) nilS nilS nilS nilS nilS).toArray.size = (pvC p wk ex bk ek ak).toArray.size := by rw [List.size_toArray, List.size_toArray, pvC_length, pvC_length]
    have hdone := HS.out.done HP0.out hv hin
    have hres := HS.out.res
    unfold zeroP at hres
    generalize hcs : pvC p wk ex bk ek ak = cs at *
    have H1 := Lib.hid hrange
    have H2 := Lib.hid hone
    have H3 := Lib.hid hinfo
    have H4 := Lib.hid hinfo'
    have H5 := Lib.hid hold
    have H6 := Lib.hid hdone
    have H7 := Lib.hid hres
    clear hrange hone hinfo hinfo' hold hdone hres hcs hv hin g0 hi HS
    go_wp2_with (first | (refine wpList_load_mid rfl 35 _ rfl (w.heap.size + 1) 0 rfl cs _ H1.out Tryd.underlying35 rfl H3.out ?_) | (refine wpList_store_row rfl 35 _ _ rfl w.heap.size cs.toArray rfl rfl 35 (pvC (North.pv0 North.fm00) nilS nilS nilS nilS nilS).toArray H7.out H4.out H5.out H2.out ?_))
    refine bodyPost_ret (v := .agg cs.toArray) ?_ rfl H6.out.2
    exact results_one Tryd.results42 _ _ (by rfl) (run_loadVar_row _ w.heap.size 35 35 cs.toArray (0, 0) _ H6.out.1 Tryd.underlying35 rfl H4.out)

end Go.Proofs.YtlhgflnmdmifaaaDoor.Wk
namespace Go.Proofs.YtlhgflnmdmifaaaDoor.Wk
open Go.RowKit PD

theorem catch_idle (a b c : Addr) (w : World) :
    CallsD Tryd.prog 41 #[.pointer (some a), .pointer (some b), .pointer (some c)] .returning w fun e u' w' => e = .returned (.tuple #[]) ∧ u' = .returning ∧ w' = w := by
  refine callsD_of_wpS Tryd.func41 rfl fun c₀ cs hu => ?_
  simp only [Tryd.ntmps41, List.size_toArray, List.length_cons, List.length_nil, Nat.reduceAdd, Nat.reduceSub, Array.replicate_succ, Array.replicate_zero, List.push_toArray, List.append_toArray, List.nil_append, List.cons_append]
  apply wpS_seq
  apply wpS_region
  simp [wpOpsS, go_sem, recoverD, hu, Exit.thenS]
  apply wpS_seq
  apply wpS_region
  simp [wpOpsS, go_sem, Exit.thenS]
  refine wpS_cond (t := false) (by simp [Act.eval]) ?_
  simp only [Bool.false_eq_true, if_false]
  refine wpS_of_wp (wp_skip ?_)
  cases c₀
  simp_all [bodyPostS, results, Tryd.results41]
theorem assert_stop (e at_ : Int) (w : World) : (Instr.typeAssert (stopV e at_) 20 68 true).run Tryd.prog w = .ok (.tuple #[.agg #[.int .i64 e, .int .i64 at_], .bool true]) w := by kernel_rfl
theorem run_build_op {P : Program} {a : Act} {op : Oper} {t : TypeId} {cells : Array Value} (ho : op.op = .build t #[]) (hb : P.built t [] = some cells) (w : World) : (execOp a.eval op).run P w = .ok (.value (.agg cells)) w := by
  unfold execOp
  have hr : (Instr.build t (#[].map fun ((i, x) : Nat × Operand) => (i, a.eval x))).run P w = .ok (.agg cells) w := run_build w t _ cells (by simpa using hb)
  simp only [ho, Sem.run_bind]
  rw [hr]
  rfl
theorem held_from {P : Program} {md : Region.Mode} {ops : Array Oper} {Q : Exit → Act → World → Prop} {S : World → Prop} {fuel : Nat} {listed : Array Bool} {a : Act} {w : World} (F : World → Prop) (hF : F w) (h : ∀ V, F V → wpAnyH P md ops Q S fuel listed a V) : wpAnyH P md ops Q S fuel listed a w := h w hF
theorem held_one {P : Program} {md : Region.Mode} {ops : Array Oper} {Q : Exit → Act → World → Prop} {S : World → Prop} {fuel : Nat} {listed : Array Bool} {a : Act} {w : World} (i : Nat) (hr : Region.ready md ops listed = [i])
    (h : wpOp P ops Q i (fun a' w' => S w' ∧ wpAnyH P md ops Q S fuel (listed.setIfInBounds i true) a' w') a w) : wpAnyH P md ops Q S (fuel + 1) listed a w :=
  wpAnyH_all hr (by simp) fun j hj => by
    have : j = i := by simpa using hj
    rw [this]; exact h
theorem wp_of_run {P : Program} {Q : Exit → Act → World → Prop} {o : Oper} {K : Act → World → Prop} {a : Act} {w w' : World} (hr : (execOp a.eval o).run P w = .ok .skip w') (h : K (a.put o.dst undef) w') : o.wp P a w K Q := by
  unfold Oper.wp
  rw [hr]
  exact h
theorem wpOp_of {P : Program} {ops : Array Oper} {Q : Exit → Act → World → Prop} {i : Nat} {o : Oper} {K : Act → World → Prop} {a : Act} {w : World} (hi : ops[i]? = some o) (hw : Region.wanted o (yielded ops a.tmps) = true) (h : o.wp P a w K Q) : wpOp P ops Q i K a w := by
  unfold wpOp
  simp only [hi, hw, if_true]
  exact .inl h
attribute [local irreducible] Oper.wp wpAnyH wpOp in
set_option maxHeartbeats 2000000 in
set_option maxRecDepth 100000 in
theorem catch_panicking (R : Nat) (e at_ : Int) (older : List PanicEntry) (w : World) (cs0 : Array Value) (h0 : w.heap[R]? = some (.cells cs0 35 (0, 0))) (hs : cs0.size = 23) (x1 x2 : Value) (h1 : w.heap[R + 1]? = some (.cells #[x1] 24 (0, 0))) (h2 : w.heap[R + 2]? = some (.cells #[x2] 3 (0, 0))) :
    CallsD Tryd.prog 41 #[.pointer (some ⟨R, 0, none⟩), .pointer (some ⟨R + 1, 0, none⟩), .pointer (some ⟨R + 2, 0, none⟩)] (.panicking ({ v := stopV e at_, recovered := false } :: older)) w fun en u' w' =>
      en = .returned (.tuple #[]) ∧ u' = .panicking ({ v := stopV e at_, recovered := true } :: older) ∧ Below R w w' ∧ w'.heap[R]? = some zeroP ∧ w'.heap[R + 1]? = some (.cells #[.int .i64 e] 24 (0, 0)) ∧ w'.heap[R + 2]? = some (.cells #[.int .i64 at_] 3 (0, 0)) := by
  refine callsD_of_wpS Tryd.func41 rfl fun c₀ cs hu => ?_
  simp only [Tryd.ntmps41, List.size_toArray, List.length_cons, List.length_nil, Nat.reduceAdd, Nat.reduceSub, Array.replicate_succ, Array.replicate_zero, List.push_toArray, List.append_toArray, List.nil_append, List.cons_append]
  have hty := assert_stop e at_
  unfold stopV at hu hty ⊢
  apply wpS_seq
  apply wpS_region
  simp [wpOpsS, go_sem, recoverD, hu, Exit.thenS]
  refine wpS_of_wp ?_
  go_upto_region 5 with fail
  have hc0 : (w.alloc (.cells #[.int .i64 e, .int .i64 at_] 68)).cell? ⟨w.heap.size, 0, none⟩ = some (.int .i64 e) := (blk_cell (heap_alloc_new w _) 0).trans rfl
  have hc1 : (w.alloc (.cells #[.int .i64 e, .int .i64 at_] 68)).cell? ⟨w.heap.size, 1, none⟩ = some (.int .i64 at_) := (blk_cell (heap_alloc_new w _) 1).trans rfl
  have hRw : R < w.heap.size := heap_lt h0
  have hRw1 : R + 1 < w.heap.size := heap_lt h1
  have hRw2 : R + 2 < w.heap.size := heap_lt h2
  have hal := below_new w (.cells #[.int .i64 e, .int .i64 at_] 68)
  have g0 := below_blk hal h0
  have g1 := below_blk hal h1
  have g2 := below_blk hal h2
  have hbuilt : Tryd.prog.built 35 [] = some (pvC (North.pv0 North.fm00) nilS nilS nilS nilS nilS).toArray := by kernel_rfl
  refine wp_region_held (S := fun w' => w'.cell? ⟨w.heap.size, 0, none⟩ = some (.int .i64 e) ∧ w'.cell? ⟨w.heap.size, 1, none⟩ = some (.int .i64 at_)) (by kernel_rfl) ?_
  refine held_from (fun V => Below w.heap.size w V ∧ V.heap[R]? = some (.cells cs0 35 (0, 0)) ∧ V.heap[R + 1]? = some (.cells #[x1] 24 (0, 0)) ∧ V.heap[R + 2]? = some (.cells #[x2] 3 (0, 0)) ∧ (V.cell? ⟨w.heap.size, 0, none⟩ = some (.int .i64 e) ∧ V.cell? ⟨w.heap.size, 1, none⟩ = some (.int .i64 at_)))
    ⟨⟨hal.os, hal.tape, hal.output, hal.size, hal.block⟩, g0, g1, g2, hc0, hc1⟩ ?_
  clear hal g0 g1 g2 hc0 hc1 h0 h1 h2 hty
  rintro V ⟨hal, h0, h1, h2, hS⟩
  refine wpAnyH_take (i := 0) (v := .agg (pvC (North.pv0 North.fm00) nilS nilS nilS nilS nilS).toArray) rfl (by kernel_rfl) (by kernel_rfl) (by kernel_rfl) (fun _ _ _ h => h) (.inl ⟨by kernel_rfl, fun w' _ => run_build_op rfl hbuilt w'⟩) hS ?_
  refine wpAnyH_take (i := 1) (v := .pointer (some ⟨w.heap.size, 0, none⟩)) rfl (by kernel_rfl) (by kernel_rfl) (by kernel_rfl) (fun _ _ _ h => h) (.inl ⟨by kernel_rfl, fun w' _ => by go_simp⟩) hS ?_
  refine wpAnyH_take (i := 2) (v := .int .i64 e) rfl (by kernel_rfl) (by kernel_rfl) (by kernel_rfl) (fun _ _ _ h => h) (.inl ⟨by kernel_rfl, fun w' hw' => by obtain ⟨q0, q1⟩ := hw'; go_simp⟩) hS ?_
  refine wpAnyH_take (i := 3) (v := .pointer (some ⟨w.heap.size, 1, none⟩)) rfl (by kernel_rfl) (by kernel_rfl) (by kernel_rfl) (fun _ _ _ h => h) (.inl ⟨by kernel_rfl, fun w' _ => by go_simp⟩) hS ?_
  refine wpAnyH_take (i := 4) (v := .int .i64 at_) rfl (by kernel_rfl) (by kernel_rfl) (by kernel_rfl) (fun _ _ _ h => h) (.inl ⟨by kernel_rfl, fun w' hw' => by obtain ⟨q0, q1⟩ := hw'; go_simp⟩) hS ?_
  refine held_one 5 (by kernel_rfl) ?_
  have hk := setRow_keep V R (pvC (North.pv0 North.fm00) nilS nilS nilS nilS nilS).toArray
  refine wpOp_of rfl (by kernel_rfl) (wp_store_row 35 _ _ rfl R (pvC (North.pv0 North.fm00) nilS nilS nilS nilS nilS).toArray (by kernel_rfl) (by kernel_rfl) 35 cs0 h0 info_Provision (by rw [hs]; rfl) (by decide +kernel) ⟨⟨hk.cell hS.1 (by omega), hk.cell hS.2 (by omega)⟩, ?_⟩)
  refine held_from (fun V => Below R w V ∧ V.heap[R]? = some zeroP ∧ V.heap[R + 1]? = some (.cells #[x1] 24 (0, 0)) ∧ V.heap[R + 2]? = some (.cells #[x2] 3 (0, 0)) ∧ (V.cell? ⟨w.heap.size, 0, none⟩ = some (.int .i64 e) ∧ V.cell? ⟨w.heap.size, 1, none⟩ = some (.int .i64 at_)))
    ⟨⟨hk.os.trans hal.os, hk.tape.trans hal.tape, hk.output.trans hal.output, Nat.le_trans hal.size hk.size, fun j hj => (hk.block j (by have := hal.size; omega) (by omega)).trans (hal.block j (by omega))⟩, setRow_blk h0 _, hk.blk h1 (by omega), hk.blk h2 (by omega), hk.cell hS.1 (by omega), hk.cell hS.2 (by omega)⟩ ?_
  clear hk hal h0 h1 h2 hS V
  rintro V ⟨hal, h0, h1, h2, hS⟩
  refine held_one 6 (by kernel_rfl) ?_
  have c1 := (blk_cell h1 0).trans rfl
  have f1 := blk_free h1 0
  have hk : Keep (R + 1) V (V.setCell ⟨R + 1, 0, none⟩ (.int .i64 e)) := (Keep.refl _ V).set 0 _
  refine wpOp_of rfl (by kernel_rfl) (wp_of_run (w' := V.setCell ⟨R + 1, 0, none⟩ (.int .i64 e)) (by clear hal hbuilt hS hk h0 h1 h2 hu; go_simp) ⟨⟨hk.cell hS.1 (by omega), hk.cell hS.2 (by omega)⟩, ?_⟩)
  refine held_from (fun V => Below R w V ∧ V.heap[R]? = some zeroP ∧ V.heap[R + 1]? = some (.cells #[.int .i64 e] 24 (0, 0)) ∧ V.heap[R + 2]? = some (.cells #[x2] 3 (0, 0)) ∧ (V.cell? ⟨w.heap.size, 0, none⟩ = some (.int .i64 e) ∧ V.cell? ⟨w.heap.size, 1, none⟩ = some (.int .i64 at_)))
    ⟨⟨hk.os.trans hal.os, hk.tape.trans hal.tape, hk.output.trans hal.output, Nat.le_trans hal.size hk.size, fun j hj => (hk.block j (by have := hal.size; omega) (by omega)).trans (hal.block j (by omega))⟩, hk.blk h0 (by omega), (blk_set h1 0 _).trans rfl, hk.blk h2 (by omega), hk.cell hS.1 (by omega), hk.cell hS.2 (by omega)⟩ ?_
  clear hk hal h0 h1 h2 hS c1 f1 V
  rintro V ⟨hal, h0, h1, h2, hS⟩
  refine held_one 7 (by kernel_rfl) ?_
  have c1 := (blk_cell h2 0).trans rfl
  have f1 := blk_free h2 0
  have hk : Keep (R + 2) V (V.setCell ⟨R + 2, 0, none⟩ (.int .i64 at_)) := (Keep.refl _ V).set 0 _
  refine wpOp_of rfl (by kernel_rfl) (wp_of_run (w' := V.setCell ⟨R + 2, 0, none⟩ (.int .i64 at_)) (by clear hal hbuilt hS hk h0 h1 h2 hu; go_simp) ⟨⟨hk.cell hS.1 (by omega), hk.cell hS.2 (by omega)⟩, ?_⟩)
  refine wpAnyH_done (by kernel_rfl) ?_ _
  refine ⟨rfl, _, rfl, .tuple #[], ?_, rfl, rfl, ⟨hk.os.trans hal.os, hk.tape.trans hal.tape, hk.output.trans hal.output, Nat.le_trans hal.size hk.size, fun j hj => (hk.block j (by have := hal.size; omega) (by omega)).trans (hal.block j (by omega))⟩, hk.blk h0 (by omega), hk.blk h1 (by omega), (blk_set h2 0 _).trans rfl⟩
  simp [results, Tryd.results41]
end Go.Proofs.YtlhgflnmdmifaaaDoor.Wk
namespace Go.Proofs.YtlhgflnmdmifaaaDoor.Wk
open Go.RowKit PD

/-- What the lexer hands back. -/
def LexOut (s : Str) (w : World) (e : Ending) (w' : World) : Prop :=
  Below w.heap.size w w' ∧ ∃ A n c, e = .returned (.tuple #[.slice A n c, .int .i64 (Lex.lex s).2.1, .int .i64 (Lex.lex s).2.2]) ∧
    ((Lex.lex s).2.1 = 0 → n = (Lex.lex s).1.length ∧ n ≤ c ∧ (0 < n → ∃ b, A = some ⟨b, 0, none⟩ ∧ w.heap.size ≤ b ∧ Toks w' b 0 (Lex.lex s).1))
def LexP : Prop := ∀ (s : Str) (w : World), s.length < 4611686018427387904 → Calls Tryd.prog 15 #[.string (mkS s)] w (LexOut s w)

theorem results_three {P : Program} {fn : Func} {t0 t1 t2 : Tmp} {y0 y1 y2 : TypeId} (h : fn.results = #[.cell t0 y0, .cell t1 y1, .cell t2 y2]) (a : Act) (w : World) {a0 a1 a2 : Addr} {v0 v1 v2 : Value}
    (h0 : a.tmps.getD t0 undef = .pointer (some a0)) (h1 : a.tmps.getD t1 undef = .pointer (some a1)) (h2 : a.tmps.getD t2 undef = .pointer (some a2))
    (l0 : (loadVar y0 a0).run P w = .ok v0 w) (l1 : (loadVar y1 a1).run P w = .ok v1 w) (l2 : (loadVar y2 a2).run P w = .ok v2 w) : (results fn a.tmps).run P w = .ok (.tuple #[v0, v1, v2]) w := by
  have h0' : a.tmps[t0]?.getD undef = .pointer (some a0) := by rw [← h0]; simp
  have h1' : a.tmps[t1]?.getD undef = .pointer (some a1) := by rw [← h1]; simp
  have h2' : a.tmps[t2]?.getD undef = .pointer (some a2) := by rw [← h2]; simp
  simp only [results, h]
  simp [h0', h1', h2', l0, l1, l2, asAddr]
theorem load_errno (w : World) (b : Nat) (x : Int) (h : w.cell? ⟨b, 0, none⟩ = some (.int .i64 x)) : (loadVar 24 ⟨b, 0, none⟩).run Tryd.prog w = .ok (.int .i64 x) w := by go_simp
theorem load_int (w : World) (b : Nat) (x : Int) (h : w.cell? ⟨b, 0, none⟩ = some (.int .i64 x)) : (loadVar 3 ⟨b, 0, none⟩).run Tryd.prog w = .ok (.int .i64 x) w := by go_simp
set_option maxRecDepth 100000 in
theorem parse_lexerr (HL : LexP) (s : Str) (hs : s.length < 4611686018427387904) (w : World) (er : Nat) (he : (Lex.lex s).2.1 = er) (hne : er ≠ 0) (at_ : Int) (ha : (Lex.lex s).2.2 = at_) :
    Calls Tryd.prog 16 #[.string (mkS s)] w fun e w' => e = .returned (.tuple #[.agg (pvC (North.pv0 North.fm00) nilS nilS nilS nilS nilS).toArray, .int .i64 er, .int .i64 at_]) ∧ Below w.heap.size w w' := by
  have hmf : ∀ (fn : Fn) (first cap : Array Value) (w : World), (Instr.makeFunc fn first cap).run Tryd.prog w = .ok (.func fn first cap) w := fun _ _ _ _ => rfl
  have hb : ((er : Int) != 0) = true := by simp; omega
  have H := Lib.hid HL; clear HL
  have HE := Lib.hid he; clear he
  have HA := Lib.hid ha; clear ha
  have HS := Lib.hid hs; clear hs
  go_enter_defers Tryd.func16, Tryd.ntmps16
  go_wp2_with fail
  refine (H.out s _ HS.out).mono ?_
  rintro e w2 ⟨hB, A, n, c, rfl, -⟩
  rw [HE.out, HA.out]
  have hR : w2.heap[w.heap.size]? = some zeroP := below_blk hB (below_blk (below_new _ _) (below_blk (below_new _ _) (heap_alloc_new w zeroP)))
  have hE0 := heap_alloc_new (w.alloc zeroP) (.cells #[.int .i64 0] 24)
  rw [World.size_alloc] at hE0
  have hE : w2.heap[w.heap.size + 1]? = some (.cells #[.int .i64 0] 24 (0, 0)) := below_blk hB (below_blk (below_new _ _) hE0)
  have hN0 := heap_alloc_new ((w.alloc zeroP).alloc (.cells #[.int .i64 0] 24)) (.cells #[.int .i64 0] 3)
  rw [World.size_alloc, World.size_alloc] at hN0
  have hN : w2.heap[w.heap.size + 1 + 1]? = some (.cells #[.int .i64 0] 3 (0, 0)) := below_blk hB hN0
  have hBw : Below w.heap.size w w2 := below_then (below_then (below_then (below_new w zeroP) (below_new _ (.cells #[.int .i64 0] 24))) (below_new _ (.cells #[.int .i64 0] 3))) hB
  clear hE0 hN0
  have HBW := Lib.hid hBw
  clear hB hBw H HS HE HA
  have hrange : w2.rangeAt w.heap.size 0 (pvC (North.pv0 North.fm00) nilS nilS nilS nilS nilS) := by
    intro j v hj
    rw [Nat.zero_add, blk_cell hR j]
    simpa using hj
  have H1 := Lib.hid hrange; clear hrange
  have H2 := Lib.hid hR; clear hR
  have H3 := Lib.hid hE
  have H4 := Lib.hid hN
  have c1 : w2.cell? ⟨w.heap.size + 1, 0, none⟩ = some (.int .i64 0) := (blk_cell hE 0).trans rfl
  have c2 : w2.cell? ⟨w.heap.size + 1 + 1, 0, none⟩ = some (.int .i64 0) := (blk_cell hN 0).trans rfl
  have f1 := blk_free hE 0
  have f2 := blk_free hN 0
  clear hE hN
  have hk := setRow_keep w2 w.heap.size (pvC (North.pv0 North.fm00) nilS nilS nilS nilS nilS).toArray
  have hcell := hk.cell c1 (by omega)
  have hcell2 := hk.cell c2 (by omega)
  have hfr : (w2.setRow w.heap.size (pvC (North.pv0 North.fm00) nilS nilS nilS nilS nilS).toArray).frozen? ⟨w.heap.size + 1, 0, none⟩ = false := blk_free (hk.blk H3.out (by omega)) 0
  have hfr2 : (w2.setRow w.heap.size (pvC (North.pv0 North.fm00) nilS nilS nilS nilS nilS).toArray).frozen? ⟨w.heap.size + 1 + 1, 0, none⟩ = false := blk_free (hk.blk H4.out (by omega)) 0
  have HK := Lib.hid hk; clear hk
  clear c1 c2 f1 f2
  go_wp2_with (first | (refine wpList_load_mid rfl 35 _ rfl w.heap.size 0 rfl (pvC (North.pv0 North.fm00) nilS nilS nilS nilS nilS) _ H1.out Tryd.underlying35 rfl info_Provision ?_) | (refine wpList_store_row rfl 35 _ _ rfl w.heap.size (pvC (North.pv0 North.fm00) nilS nilS nilS nilS nilS).toArray rfl rfl 35 (pvC (North.pv0 North.fm00) nilS nilS nilS nilS nilS).toArray H2.out info_Provision rfl (by decide +kernel) ?_))
  have hb1 := HK.out.blk H3.out (by omega)
  have hb2 := HK.out.blk H4.out (by omega)
  have hb0 := setRow_blk H2.out (pvC (North.pv0 North.fm00) nilS nilS nilS nilS nilS).toArray
  have HKO := HK.out
  clear hcell hcell2 hfr hfr2 HK
  generalize w2.setRow w.heap.size (pvC (North.pv0 North.fm00) nilS nilS nilS nilS nilS).toArray = V at *
  have k1 : Keep (w.heap.size + 1) V (V.setCell ⟨w.heap.size + 1, 0, none⟩ (.int .i64 er)) := (Keep.refl _ V).set 0 _
  have m1 := (blk_set hb1 0 (.int .i64 er)).trans rfl
  have m0 := k1.blk hb0 (by omega)
  have m2 := k1.blk hb2 (by omega)
  generalize V.setCell ⟨w.heap.size + 1, 0, none⟩ (.int .i64 er) = V1 at *
  have k2 : Keep (w.heap.size + 1 + 1) V1 (V1.setCell ⟨w.heap.size + 1 + 1, 0, none⟩ (.int .i64 at_)) := (Keep.refl _ V1).set 0 _
  have n2 := (blk_set m2 0 (.int .i64 at_)).trans rfl
  have n0 := k2.blk m0 (by omega)
  have n1 := k2.blk m1 (by omega)
  generalize V1.setCell ⟨w.heap.size + 1 + 1, 0, none⟩ (.int .i64 at_) = V2 at *
  have hfin : Below w.heap.size w V2 := by
    have h1 := (((Keep.of_below (g := w.heap.size) HBW.out).newer HKO (Nat.le_refl _)).newer k1 (by omega)).newer k2 (by omega)
    exact h1.to_below (Nat.le_refl _)
  have hres := results_three Tryd.results16 { tmps := #[.string (mkS s), undef, .pointer (some ⟨w.heap.size, 0, none⟩), .pointer (some ⟨w.heap.size + 1, 0, none⟩), .pointer (some ⟨w.heap.size + 1 + 1, 0, none⟩), .slice A n c, .int .i64 er, .int .i64 at_, undef, .tuple #[.slice A n c, .int .i64 er, .int .i64 at_], .string (mkS s), .tuple #[.slice A n c, .int .i64 er, .int .i64 at_], .slice A n c, .int .i64 er, .int .i64 at_, .int .i64 er, .bool true, .agg (pvC (North.pv0 North.fm00) nilS nilS nilS nilS nilS).toArray, .int .i64 er, .int .i64 at_, undef, undef, undef, undef, undef, undef, undef, undef], defers := [] } V2 (P := Tryd.prog)
    (a0 := ⟨w.heap.size, 0, none⟩) (a1 := ⟨w.heap.size + 1, 0, none⟩) (a2 := ⟨w.heap.size + 1 + 1, 0, none⟩) rfl rfl rfl
    (run_loadVar_row V2 w.heap.size 35 35 _ (0, 0) _ n0 Tryd.underlying35 rfl info_Provision) (load_errno V2 _ er ((blk_cell n1 0).trans rfl)) (load_int V2 _ at_ ((blk_cell n2 0).trans rfl))
  exact ⟨_, hres, rfl, hfin⟩
/-- The tokens that the lexer hands back serve the parser. -/
theorem par_of {w : World} {A : Option Addr} {n c : Nat} {l : List (Tok × Nat)} {en : Nat} {B : Nat} (hn : n = l.length) (hc : n ≤ c) (hA : 0 < n → ∃ b, A = some ⟨b, 0, none⟩ ∧ B ≤ b ∧ Toks w b 0 l) (hok : ∀ x ∈ l, Lex.TokOk x.1) (hfew : l.length ≤ 5000) {m : Int} (hm : w.cell? ⟨2, 0, none⟩ = some (.int .i64 m)) :
    ∃ b, Par (w.alloc (.cells #[.slice A n c, .int .i64 en] 72)) w.heap.size b 0 c l en 0 := by
  subst hn
  have hml := below_cell (below_new w (.cells #[.slice A l.length c, .int .i64 en] 72)) hm
  have hmlt : 2 < w.heap.size := cell_lt hm
  rcases Nat.eq_zero_or_pos l.length with h0 | h0
  · have hl := List.eq_nil_of_length_eq_zero h0
    subst hl
    refine ⟨w.heap.size + 1, by simp, hc, ⟨A, fun h => by simp at h, by simpa using heap_alloc_new w _⟩, ⟨fun j t p e => by simp at e, fun j t p e => by simp at e, fun j t p e => by simp at e, fun j t p e => by simp at e⟩, by omega, hok, by simp, ⟨m, hml⟩, by omega⟩
  · obtain ⟨b, rfl, _, ht⟩ := hA h0
    have hb : b < w.heap.size := by
      have e : l[0]? = some l[0] := List.getElem?_eq_getElem h0
      exact cell_lt (ht.kind 0 _ _ e)
    exact ⟨b, by simp, hc, ⟨_, fun _ => rfl, by simpa using heap_alloc_new w _⟩, ht.below (below_new w _), by omega, hok, hfew, ⟨m, hml⟩, by omega⟩
end Go.Proofs.YtlhgflnmdmifaaaDoor.Wk
namespace Go.Proofs.YtlhgflnmdmifaaaDoor.Wk
open Go.RowKit PD

theorem PvIn.base {w0 w1 w : World} {p : Pv} {wk ex bk ek ak : Value} (h : PvIn w0 w p wk ex bk ek ak) (hb : w1.heap.size ≤ w0.heap.size) : PvIn w1 w p wk ex bk ek ak := by
  obtain ⟨q1, q2, q3, q4, q5⟩ := h
  exact ⟨q1.to (fun _ _ _ => rfl) fun b _ hS => ⟨by have := hS.1; omega, hS.2⟩, own_base q2 (by omega), q3.to (fun _ _ _ => rfl) fun b _ hS => ⟨by have := hS.1; omega, hS.2⟩, q4.to (fun _ _ _ => rfl) fun b _ hS => ⟨by have := hS.1; omega, hS.2⟩, q5.to (fun _ _ _ => rfl) fun b _ hS => ⟨by have := hS.1; omega, hS.2⟩⟩
set_option maxHeartbeats 2000000 in
set_option maxRecDepth 100000 in
theorem parse_err (HL : LexP) (s : Str) (hs : s.length < 4611686018427387904) (w : World) (he : (Lex.lex s).2.1 = 0) (l : List (Tok × Nat)) (hl : (Lex.lex s).1 = l) (hok : ∀ x ∈ l, Lex.TokOk x.1) (hfew : l.length ≤ 5000) {m : Int} (hm : w.cell? ⟨2, 0, none⟩ = some (.int .i64 m))
    (er j : Nat) (hr : Rest l (North.pvR (l.length + 1)) 0 (.err er j)) :
    Calls Tryd.prog 16 #[.string (mkS s)] w fun e w' => e = .returned (.tuple #[.agg (pvC (North.pv0 North.fm00) nilS nilS nilS nilS nilS).toArray, .int .i64 er, .int .i64 (posOf l s.length j)]) ∧ Below w.heap.size w w' := by
  have hmf : ∀ (fn : Fn) (first cap : Array Value) (w : World), (Instr.makeFunc fn first cap).run Tryd.prog w = .ok (.func fn first cap) w := fun _ _ _ _ => rfl
  have H := Lib.hid (HL s); clear HL
  have HE := Lib.hid he; clear he
  have HT := Lib.hid hl; clear hl
  have HS := Lib.hid hs; clear hs
  have HOK := Lib.hid hok; clear hok
  have HM := Lib.hid hm; clear hm
  have HR := Lib.hid hr; clear hr
  have hsz := mkS_size s
  go_enter_defers Tryd.func16, Tryd.ntmps16
  go_wp2_with fail
  refine (H.out _ HS.out).mono ?_
  rintro e w2 ⟨hB, A, n, c, rfl, hA⟩
  replace hA := hA HE.out
  rw [HE.out]
  rw [HT.out] at hA
  have hR : w2.heap[w.heap.size]? = some zeroP := below_blk hB (below_blk (below_new _ _) (below_blk (below_new _ _) (heap_alloc_new w zeroP)))
  have hE0 := heap_alloc_new (w.alloc zeroP) (.cells #[.int .i64 0] 24)
  rw [World.size_alloc] at hE0
  have hE : w2.heap[w.heap.size + 1]? = some (.cells #[.int .i64 0] 24 (0, 0)) := below_blk hB (below_blk (below_new _ _) hE0)
  have hN0 := heap_alloc_new ((w.alloc zeroP).alloc (.cells #[.int .i64 0] 24)) (.cells #[.int .i64 0] 3)
  rw [World.size_alloc, World.size_alloc] at hN0
  have hN : w2.heap[w.heap.size + 1 + 1]? = some (.cells #[.int .i64 0] 3 (0, 0)) := below_blk hB hN0
  have hBw : Below w.heap.size w w2 := below_then (below_then (below_then (below_new w zeroP) (below_new _ (.cells #[.int .i64 0] 24))) (below_new _ (.cells #[.int .i64 0] 3))) hB
  obtain ⟨b, hpar⟩ := par_of (en := s.length) hA.1 hA.2.1 hA.2.2 HOK.out hfew (below_cell hBw HM.out)
  have hlt2 := heap_lt hN
  have HC := provision_calls hpar (l.length + 1) (by omega) _ HR.out (by simp)
  have HC := Lib.hid (Out.err_of rfl HC)
  have HBW := Lib.hid hBw
  have H2 := Lib.hid hR
  have H3 := Lib.hid hE
  have H4 := Lib.hid hN
  clear hE0 hN0 hB hBw hA hpar H HS HE hR hE hN
  go_wp2_with fail
  refine HC.out.mono ?_
  rintro e w4 ⟨rfl, hK⟩
  have hK24 : Keep w2.heap.size w2 w4 := (Keep.of_below (below_new w2 _)).trans hK
  refine leaves_cons (f := 41) (args := #[.pointer (some ⟨w.heap.size, 0, none⟩), .pointer (some ⟨w.heap.size + 1, 0, none⟩), .pointer (some ⟨w.heap.size + 1 + 1, 0, none⟩)]) (by simp) (by simp [go_sem]) ?_
  refine (catch_panicking w.heap.size er (posOf l s.length j) [] w4 _ (hK24.blk H2.out (by omega)) (by rfl) _ _ (hK24.blk H3.out (by omega)) (hK24.blk H4.out (by omega))).mono ?_
  rintro e u' w5 ⟨rfl, rfl, hB5, n0, n1, n2⟩
  have hfin : Below w.heap.size w w5 := by
    have h1 := (HBW.out.trans ((hK24.to_below (Nat.le_refl _)).mono HBW.out.size)).trans hB5
    exact h1
  exact ⟨_, results_three Tryd.results16 _ w5 rfl rfl rfl (run_loadVar_row w5 w.heap.size 35 35 _ (0, 0) _ n0 Tryd.underlying35 rfl info_Provision) (load_errno w5 _ er ((blk_cell n1 0).trans rfl)) (load_int w5 _ (posOf l s.length j) ((blk_cell n2 0).trans rfl)), rfl, hfin⟩

set_option maxHeartbeats 2000000 in
set_option maxRecDepth 100000 in
theorem parse_ok (HL : LexP) (s : Str) (hs : s.length < 4611686018427387904) (w : World) (he : (Lex.lex s).2.1 = 0) (l : List (Tok × Nat)) (hl : (Lex.lex s).1 = l) (hok : ∀ x ∈ l, Lex.TokOk x.1) (hfew : l.length ≤ 5000) {m : Int} (hm : w.cell? ⟨2, 0, none⟩ = some (.int .i64 m))
    (p : Pv) (i : Nat) (hr : Rest l (North.pvR (l.length + 1)) 0 (.ok p i)) :
    Calls Tryd.prog 16 #[.string (mkS s)] w fun e w' => (∃ v, e = .returned (.tuple #[v, .int .i64 0, .int .i64 0]) ∧ EncPv w w' p v) ∧ Below w.heap.size w w' := by
  have hmf : ∀ (fn : Fn) (first cap : Array Value) (w : World), (Instr.makeFunc fn first cap).run Tryd.prog w = .ok (.func fn first cap) w := fun _ _ _ _ => rfl
  have H := Lib.hid (HL s); clear HL
  have HE := Lib.hid he; clear he
  have HT := Lib.hid hl; clear hl
  have HS := Lib.hid hs; clear hs
  have HOK := Lib.hid hok; clear hok
  have HM := Lib.hid hm; clear hm
  have HR := Lib.hid hr; clear hr
  have hsz := mkS_size s
  go_enter_defers Tryd.func16, Tryd.ntmps16
  go_wp2_with fail
  refine (H.out _ HS.out).mono ?_
  rintro e w2 ⟨hB, A, n, c, rfl, hA⟩
  replace hA := hA HE.out
  rw [HE.out]
  rw [HT.out] at hA
  have hR : w2.heap[w.heap.size]? = some zeroP := below_blk hB (below_blk (below_new _ _) (below_blk (below_new _ _) (heap_alloc_new w zeroP)))
  have hE0 := heap_alloc_new (w.alloc zeroP) (.cells #[.int .i64 0] 24)
  rw [World.size_alloc] at hE0
  have hE : w2.heap[w.heap.size + 1]? = some (.cells #[.int .i64 0] 24 (0, 0)) := below_blk hB (below_blk (below_new _ _) hE0)
  have hN0 := heap_alloc_new ((w.alloc zeroP).alloc (.cells #[.int .i64 0] 24)) (.cells #[.int .i64 0] 3)
  rw [World.size_alloc, World.size_alloc] at hN0
  have hN : w2.heap[w.heap.size + 1 + 1]? = some (.cells #[.int .i64 0] 3 (0, 0)) := below_blk hB hN0
  have hBw : Below w.heap.size w w2 := below_then (below_then (below_then (below_new w zeroP) (below_new _ (.cells #[.int .i64 0] 24))) (below_new _ (.cells #[.int .i64 0] 3))) hB
  obtain ⟨b, hpar⟩ := par_of (en := s.length) hA.1 hA.2.1 hA.2.2 HOK.out hfew (below_cell hBw HM.out)
  have hlt2 := heap_lt hN
  have HC := provision_calls hpar (l.length + 1) (by omega) _ HR.out (by simp)
  have HC := Lib.hid (Out.ok_of rfl HC)
  have HBW := Lib.hid hBw
  have H2 := Lib.hid hR
  have H3 := Lib.hid hE
  have H4 := Lib.hid hN
  clear hE0 hN0 hB hBw hA hpar H HS HE hR hE hN
  go_wp2_with fail
  refine HC.out.mono ?_
  rintro e w4 ⟨v, rfl, ⟨wk, ex, bk, ek, ak, rfl, hin⟩, -, hK⟩
  have hK24 : Keep w2.heap.size w2 w4 := (Keep.of_below (below_new w2 _)).trans hK
  have g0 := hK24.blk H2.out (by omega)
  have g1 := hK24.blk H3.out (by omega)
  have g2 := hK24.blk H4.out (by omega)
  have hone := all_oneCell_toArray (pvC_one hin)
  have hinfo : (Tryd.prog.info? 35).map (·.size) = some (pvC p wk ex bk ek ak).toArray.size := by rw [List.size_toArray, pvC_length]; exact info_Provision
  have hold : (pvC (North.pv0 North.fm00) nilS nilS nilS nilS nilS).toArray.size = (pvC p wk ex bk ek ak).toArray.size := by rw [List.size_toArray, List.size_toArray, pvC_length, pvC_length]
  have hs24 := hK24.size
  have hz : (w2.alloc (.cells #[.slice A n c, .int .i64 s.length] 72)).heap.size = w2.heap.size + 1 := by simp
  have hk := setRow_keep w4 w.heap.size (pvC p wk ex bk ek ak).toArray
  have b0 := setRow_blk g0 (pvC p wk ex bk ek ak).toArray
  have b1 := hk.blk g1 (by omega)
  have b2 := hk.blk g2 (by omega)
  have H5 := Lib.hid hone; have H6 := Lib.hid hinfo; have H7 := Lib.hid hold; have H8 := Lib.hid hin; have HZ := Lib.hid hz; have H9 := Lib.hid hk
  have G0 := Lib.hid g0; have B0 := Lib.hid b0; have B1 := Lib.hid b1; have B2 := Lib.hid b2; have HK24 := Lib.hid hK24
  have c1 := (blk_cell b1 0).trans rfl
  have c2 := (blk_cell b2 0).trans rfl
  have f1 := blk_free b1 0
  have f2 := blk_free b2 0
  clear hone hinfo hold hin hz hk g0 g1 g2 b0 b1 b2 HC hK24 hK
  generalize hcs : pvC p wk ex bk ek ak = cs at *
  have HCS := Lib.hid hcs; clear hcs
  go_wp2_with (first | (refine wpList_store_row rfl 35 _ _ rfl w.heap.size cs.toArray rfl rfl 35 (pvC (North.pv0 North.fm00) nilS nilS nilS nilS nilS).toArray G0.out H6.out H7.out H5.out ?_))
  have b0 := B0.out
  have b1 := B1.out
  have b2 := B2.out
  have hk := H9.out
  clear c1 c2 f1 f2
  generalize w4.setRow w.heap.size cs.toArray = V at *
  have k1 : Keep (w.heap.size + 1) V (V.setCell ⟨w.heap.size + 1, 0, none⟩ (.int .i64 0)) := (Keep.refl _ V).set 0 _
  have m1 := (blk_set b1 0 (.int .i64 0)).trans rfl
  have m0 := k1.blk b0 (by omega)
  have m2 := k1.blk b2 (by omega)
  generalize V.setCell ⟨w.heap.size + 1, 0, none⟩ (.int .i64 0) = V1 at *
  have k2 : Keep (w.heap.size + 1 + 1) V1 (V1.setCell ⟨w.heap.size + 1 + 1, 0, none⟩ (.int .i64 0)) := (Keep.refl _ V1).set 0 _
  have n2 := (blk_set m2 0 (.int .i64 0)).trans rfl
  have n0 := k2.blk m0 (by omega)
  have n1 := k2.blk m1 (by omega)
  generalize V1.setCell ⟨w.heap.size + 1 + 1, 0, none⟩ (.int .i64 0) = V2 at *
  have hfin : Below w.heap.size w V2 := by
    have h0 := HBW.out.trans ((HK24.out.to_below (Nat.le_refl _)).mono HBW.out.size)
    have h1 := (((Keep.of_below (g := w.heap.size) h0).newer hk (Nat.le_refl _)).newer k1 (by omega)).newer k2 (by omega)
    exact h1.to_below (Nat.le_refl _)
  have hinV : PvIn w V2 p wk ex bk ek ak := by
    have z1 := hk.size
    have z2 := k1.size
    have z3 := k2.size
    refine (H8.out.move (by omega) fun b hb hS => ?_).base (by rw [HZ.out]; omega)
    rw [HZ.out] at hS
    exact (k2.block b (by omega) (by omega)).trans ((k1.block b (by omega) (by omega)).trans (hk.block b hb (by omega)))
  refine leaves_cons (f := 41) (args := #[.pointer (some ⟨w.heap.size, 0, none⟩), .pointer (some ⟨w.heap.size + 1, 0, none⟩), .pointer (some ⟨w.heap.size + 1 + 1, 0, none⟩)]) (by simp) (by simp [go_sem]) ?_
  refine (catch_idle _ _ _ V2).mono ?_
  rintro e u' w5 ⟨rfl, rfl, rfl⟩
  have hsz0 : (Tryd.prog.info? 35).map (·.size) = some cs.toArray.size := H6.out
  exact ⟨_, results_three Tryd.results16 _ w5 rfl rfl rfl (run_loadVar_row w5 w.heap.size 35 35 _ (0, 0) _ n0 Tryd.underlying35 rfl hsz0) (load_errno w5 _ 0 ((blk_cell n1 0).trans rfl)) (load_int w5 _ 0 ((blk_cell n2 0).trans rfl)), ⟨_, rfl, wk, ex, bk, ek, ak, by rw [HCS.out], hinV⟩, hfin⟩
end Go.Proofs.YtlhgflnmdmifaaaDoor.Wk
