/- The names of provisions. -/
import Derived.Test.YtlhgflnmdmifaaaDoorN13
namespace Go.Proofs.YtlhgflnmdmifaaaDoor.Wk
open Go.RowKit PD

/-- A row of strings that was made. -/
def rowS (l : List Str) : List Value := l.map fun s => .string (mkS s)
def EncStrs (w0 w' : World) (l : List Str) (v : Value) : Prop := w'.ownsRow w0.heap.size 9 1 v l.length (rowS l)
theorem own_keep {g base : Nat} {w w' : World} {e : TypeId} {size n : Nat} {v : Value} {xs : List Value} (h : w.ownsRow base e size v n xs) (k : Keep g w w') (hg : g < base) : w'.ownsRow base e size v n xs := by
  refine ⟨h.1, ?_⟩
  rcases h.2 with h | ⟨g', cap, cur, h1, h2, h3, h4⟩
  · exact .inl h
  · exact .inr ⟨g', cap, cur, h1, h2, k.blk h3 (by omega), h4⟩
theorem own_slice {base : Nat} {w : World} {e : TypeId} {size n : Nat} {v : Value} {xs : List Value} (h : w.ownsRow base e size v n xs) : ∃ A cc, v = .slice A n cc := by
  rcases h.2 with ⟨rfl, rfl⟩ | ⟨g', cap, cur, rfl, _⟩
  · exact ⟨_, _, rfl⟩
  · exact ⟨_, _, rfl⟩
theorem info_string : (Tryd.prog.info? 9).map (fun i => (i.zero, i.size, i.bytes)) = some (some (.string ⟨#[]⟩), 1, 16) := by kernel_rfl
theorem contains_of (l : List Str) (s : Str) : Lib.containsS (l.map mkS) (mkS s) = l.contains s := by
  rw [Bool.eq_iff_iff, Lib.containsS_iff, List.contains_iff_mem, List.mem_map]
  constructor
  · rintro ⟨a, ha, e⟩; rwa [mkS_inj e] at ha
  · intro h; exact ⟨s, h, rfl⟩
theorem contains_own {base : Nat} {w : World} {v : Value} {l : List Str} (h : w.ownsRow base 9 1 v l.length (rowS l)) (s : Str) :
    Calls Tryd.prog 87 #[v, .string (mkS s)] w fun e w' => e = .returned (.bool (l.contains s)) ∧ w' = w := by
  rcases h.2 with ⟨rfl, h0⟩ | ⟨g', cap, cur, rfl, hb, h1, h2, h3, h4, h5⟩
  · obtain rfl := List.eq_nil_of_length_eq_zero h0
    exact Tryd.slices_Contains_string_empty none 0 (mkS s) w
  · have hc : ∀ j, j < (l.map mkS).length → w.cell? ⟨g', 0 + j, none⟩ = some (.string ((l.map mkS).getD j ByteArray.empty)) := by
      intro j hj
      rw [List.length_map] at hj
      have := own_cell h (j := j) (u := .string (mkS (l[j]))) (by simp [rowS, hj])
      rw [Nat.zero_add, this]
      simp [List.getD, hj]
    refine (Tryd.slices_Contains_string g' 0 l.length cap (l.map mkS) (mkS s) w (by simp) (by simpa [maxLen] using Nat.le_trans h2 h3) hc).mono ?_
    rintro e w' ⟨rfl, rfl⟩
    refine ⟨?_, rfl⟩
    rw [show l.length = (l.map mkS).length from by simp, List.take_length, contains_of]

/-- What holds at the head of the loop. -/
def LoopE (g b o c : Nat) (l : List (Tok × Nat)) (en : Nat) (w0 : World) (r : PR (List Str)) (k : Nat) (v : Value) (wr : World) : Prop :=
  ∃ (acc : List Str) (i1 : Nat), acc.length ≤ 20 ∧ wr.ownsRow w0.heap.size 9 1 v acc.length (rowS acc) ∧ Par wr g b o c l en i1 ∧ Keep g w0 wr ∧ (North.except k acc).run (l.map (·.1)) i1 = r

theorem run_except (k : Nat) (acc : List Str) (l : List Tok) (i : Nat) : (North.except (k + 1) acc).run l i = (North.nm.run l i).bind fun s i' => if acc.contains s then .err 9 i else if acc.length = 20 then .err 2 i else
    ((Tr.take [[44]]).run l i').bind fun o i2 => match o with
      | some _ => (North.except k (acc ++ [s])).run l i2
      | none => .ok (acc ++ [s]) i2 := by
  simp only [North.except, Tr.run]
  rw [Tr.run_bind]
  congr 1
  funext s i'
  split
  · rfl
  · split
    · rfl
    · rw [Tr.run_bind]
      congr 1
      funext o i2
      cases o <;> rfl

set_option maxRecDepth 100000 in
set_option maxHeartbeats 4000000 in
theorem except_calls {w : World} {g b o c : Nat} {l : List (Tok × Nat)} {en i : Nat} (h : Par w g b o c l en i) (kk : Nat) (r : PR (List Str)) (hr : (North.except kk []).run (l.map (·.1)) i = r) (hout : r ≠ .out) :
    Calls Tryd.prog 62 #[.pointer (some ⟨g, 0, none⟩)] w (Out (EncStrs w) r g b o c l en w) := by
  have hglt := h.lt
  have HREL : Hid (LoopE g b o c l en w r kk (.slice none 0 0) w) := Lib.hid ⟨[], i, by simp, ⟨rfl, .inl ⟨rfl, rfl⟩⟩, h, Keep.refl g w, hr⟩
  have HP0 := Lib.hid h; clear h hr
  have HO := Lib.hid hout; clear hout
  go_enter Tryd.func62, Tryd.ntmps62
  go_wp2_with fail
  go_loopg [3] kk (fun k v wr => LoopE g b o c l en w r k v wr)
  case atStart => exact HREL.out
  case round =>
    clear HREL
    obtain ⟨acc, i2, hlen, hown, hP, hK, hrun⟩ := hrel
    cases gk with
    | zero => exact absurd hrun.symm HO.out
    | succ k =>
      rw [run_except] at hrun
      obtain ⟨va, vb, vc, hnv⟩ := nextV_pos l en i2
      have hpos : ∃ p, posOf l en i2 = p := ⟨_, rfl⟩
      obtain ⟨p, hp⟩ := hpos
      rw [hp] at hnv
      have HN := Lib.hid (next_calls hP)
      rw [hnv] at HN
      obtain ⟨vA, vcc, rfl⟩ := own_slice hown
      have HPOS := Lib.hid hp; clear hp hnv
      have HP := Lib.hid hP; clear hP
      have HK := Lib.hid hK; clear hK
      have HOW := Lib.hid hown; clear hown
      have HRUN := Lib.hid hrun; clear hrun
      have hfa := run_field_At va vb vc (.int .i64 p)
      go_wp2_with fail
      refine HN.out.mono ?_
      rintro e w3 ⟨rfl, hB3⟩
      have HB3 := Lib.hid hB3; clear hB3 HN
      have HC := name_calls (HP.out.below HB3.out)
      cases hn : North.nm.run (l.map (·.1)) i2 with
      | out =>
        exfalso
        have := Tr.goes_name (l := l.map (·.1)) (k := North.isKey) (i := i2)
        unfold Tr.Goes at this
        have e : (Tr.name North.isKey).run (l.map (·.1)) i2 = .out := hn
        rw [e] at this
        exact this
      | err er je =>
        have h1 := HRUN.out
        simp only [PR.bind, hn] at h1
        subst h1
        have HC := Lib.hid (Out.err_of hn HC)
        clear hn HRUN
        go_wp2_with fail
        refine HC.out.mono ?_
        rintro e w4 ⟨rfl, hK4⟩
        exact ⟨rfl, (HK.out.trans (.of_below HB3.out)).trans hK4, rfl⟩
      | ok s i3 =>
        have h1 := HRUN.out
        simp only [PR.bind, hn] at h1
        have HRUN := Lib.hid h1; clear h1
        have HC := Lib.hid (Out.ok_of hn HC)
        clear hn
        go_wp2_with fail
        refine HC.out.mono ?_
        rintro e w4 ⟨v, rfl, rfl, hP4, hK4⟩
        have hK34 : Keep g wr w4 := (Keep.of_below HB3.out).trans hK4
        have ho4 := own_keep HOW.out hK34 hglt
        have HCT := Lib.hid (contains_own ho4 s)
        have HO4 := Lib.hid ho4; clear ho4
        have HP4 := Lib.hid hP4; clear hP4
        have HK4 := Lib.hid hK34; clear hK34 hK4
        clear HC
        cases hct : acc.contains s with
        | true =>
          rw [hct] at HCT
          have h1 := HRUN.out
          rw [if_pos hct] at h1
          subst h1
          clear hct HRUN
          go_wp2_with fail
          refine HCT.out.mono ?_
          rintro e w5 ⟨rfl, rfl⟩
          go_wp2
          exact ⟨rfl, HK.out.trans HK4.out, by show _ = stopped _ ↑(posOf l en i2); rw [HPOS.out]; rfl⟩
        | false =>
          rw [hct] at HCT
          have h1 := HRUN.out
          rw [if_neg (by rw [hct]; simp)] at h1
          have HRUN := Lib.hid h1; clear h1
          clear hct
          go_wp2_with fail
          refine HCT.out.mono ?_
          rintro e w5 ⟨rfl, rfl⟩
          generalize hal : acc.length = n at *
          have HAL := Lib.hid hal; clear hal
          by_cases h20 : n = 20
          · have hb20 : ((n : Int) == 20) = true := by simp [h20]
            have h1 := HRUN.out
            rw [if_pos h20] at h1
            subst h1
            clear HRUN h20
            go_wp2
            exact ⟨rfl, HK.out.trans HK4.out, by show _ = stopped _ ↑(posOf l en i2); rw [HPOS.out]; rfl⟩
          · have hb20 : ((n : Int) == 20) = false := by simp; omega
            have h1 := HRUN.out
            rw [if_neg h20] at h1
            have HRUN := Lib.hid h1; clear h1
            obtain ⟨i0, hi0, hzz⟩ := Option.map_eq_some_iff.1 info_string
            simp only [Prod.mk.injEq] at hzz
            obtain ⟨hz0, hz1, hz2⟩ := hzz
            have HI0 := Lib.hid hi0; clear hi0
            have HZ0 := Lib.hid hz0; clear hz0
            have HZ1 := Lib.hid hz1; clear hz1
            have HZ2 := Lib.hid hz2; clear hz2
            have hbase : w.heap.size ≤ w5.heap.size := Nat.le_trans HK.out.size HK4.out.size
            have hc1 : ∀ (j' : Nat) (u : Value), [Value.string (mkS s)][j']? = some u → (w5.alloc (.cells #[.string (mkS s)] 9)).cell? ((⟨w5.heap.size, 0, none⟩ : Addr).add j') = some u := by
              intro j' u hu
              rw [add_plain, blk_cell (heap_alloc_new w5 _) j']
              simpa using hu
            have hc2 : ∀ u ∈ [Value.string (mkS s)], u.oneCell' = true := by
              intro u hu
              simp only [List.mem_cons, List.not_mem_nil, or_false] at hu
              subst hu; rfl
            have hc3 : n + 1 ≤ maxLen := by simp only [maxLen]; omega
            have hc4 : (n + 1) * 16 ≤ 140737488355328 := by omega
            have hc5 : w.heap.size ≤ (w5.alloc (.cells #[.string (mkS s)] 9)).heap.size := by simp; omega
            have hnew : ∀ k, (Value.slice vA n vcc).ownBlock = some k → w.heap.size ≤ k ∧ k < w5.heap.size := fun k hk => HO4.out.lt k hk
            have HC1 := Lib.hid hc1; clear hc1
            have HC2 := Lib.hid hc2; clear hc2
            have HC3 := Lib.hid hc3; clear hc3
            have HC4 := Lib.hid hc4; clear hc4
            have HC5 := Lib.hid hc5; clear hc5
            have HNEW := Lib.hid hnew; clear hnew
            clear HCT
            go_wp2_with (at_builtin; refine wpList_append_own_at (w5.alloc (.cells #[.string (mkS s)] 9)) rfl _ _ 30 rfl w.heap.size 9 i0 _ 1 16 Tryd.underlying30 HI0.out HZ0.out HZ1.out HZ2.out rfl (by decide) (.slice vA n vcc) n (rowS acc) rfl (HO4.out.alloc _) ⟨w5.heap.size, 0, none⟩ 1 1 [.string (mkS s)] rfl rfl HC1.out HC2.out HC3.out HC4.out HC5.out ?_; intro v' w6 hown' hgrow _ hat; have HOWN' := Lib.hid hown'; have HGROW := Lib.hid hgrow; have HAT := Lib.hid hat; clear hown' hgrow hat)
            have hal := below_new w5 (.cells #[.string (mkS s)] 9)
            have hasz : (w5.alloc (.cells #[.string (mkS s)] 9)).heap.size = w5.heap.size + 1 := by simp
            generalize w5.alloc (.cells #[.string (mkS s)] 9) = w5' at *
            obtain ⟨t, ht, hKt⟩ := Keep.of_grown HGROW.out fun k hk => (HNEW.out k hk).1
            have hP6 : Par w6 g b o c l en i3 := HP0.out.past (HP4.out.below hal) hKt ht
            have hK6 : Keep g w w6 := ((HK.out.trans HK4.out).trans (.of_below hal)).newer hKt ht
            have HT := take_calls (hP6.below (below_new w6 (.cells #[.string (mkS [44])] 9))) w6.heap.size 1 1 [[44]] (strs_one w6 [44]) rfl (Nat.le_refl _) (by omega)
            have HP6 := Lib.hid hP6; clear hP6
            have HK6 := Lib.hid hK6; clear hK6
            clear hal hKt hasz
            have hown6 : w6.ownsRow w.heap.size 9 1 v' (acc ++ [s]).length (rowS (acc ++ [s])) := by
              have h1 := HOWN'.out
              rw [List.length_append, List.length_singleton, HAL.out]
              simpa [rowS] using h1
            have HO6 := Lib.hid hown6; clear hown6
            rcases Tr.run_take_ok (l.map (·.1)) [[44]] i3 with ⟨j, hr, hl2⟩ | hr
            · have h1 := HRUN.out
              rw [hr] at h1
              simp only at h1
              have HRUN := Lib.hid h1; clear h1
              have HT := Lib.hid (Out.ok_of hr HT)
              unfold mkS at HT
              clear hr hl2
              go_wp2_with fail
              refine HT.out.mono ?_
              rintro e w7 ⟨v, rfl, rfl, hP7, hK7⟩
              have HP7 := Lib.hid hP7; clear hP7
              have hK67 := (Keep.of_below (below_new w6 _)).trans hK7
              have HO7 := Lib.hid (own_keep HO6.out hK67 hglt)
              have HK7 := Lib.hid (HK6.out.trans hK67); clear hK7 hK67
              clear HT
              unfold idxI
              go_wp2
              go_roundg k
              case measure => omega
              case rel =>
                exact ⟨acc ++ [s], i3 + 1, by rw [List.length_append, HAL.out]; simp; omega, HO7.out, HP7.out, HK7.out, HRUN.out⟩
            · have h1 := HRUN.out
              rw [hr] at h1
              simp only at h1
              subst h1
              have HT := Lib.hid (Out.ok_of hr HT)
              unfold mkS at HT
              clear hr
              go_wp2_with fail
              refine HT.out.mono ?_
              rintro e w7 ⟨v, rfl, rfl, hP7, hK7⟩
              have HP7 := Lib.hid hP7; clear hP7
              have HK7 := Lib.hid ((Keep.of_below (below_new _ _)).trans hK7); clear hK7
              clear HT
              unfold idxI
              go_wp2
              go_ret
              exact ⟨HK6.out.trans HK7.out, _, rfl, own_keep HO6.out HK7.out hglt, HP7.out⟩
end Go.Proofs.YtlhgflnmdmifaaaDoor.Wk
