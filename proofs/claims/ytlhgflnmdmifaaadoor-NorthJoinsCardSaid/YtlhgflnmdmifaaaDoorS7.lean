/- The verifier's Gaps, at a text without tokens. -/
import Derived.Test.YtlhgflnmdmifaaaDoorLB
import Derived.Test.YtlhgflnmdmifaaaDoorP2
namespace PD
namespace Lex
theorem gap_of {s : List UInt8} {i k pos : Nat} {c : UInt8} {r : List UInt8} (hd : s.drop i = c :: r) (hk : (s.drop i).length ≤ k) (h : scan k pos (s.drop i) = ([], none)) :
    ∃ n, head c r = .gap n ∧ 1 ≤ n ∧ i + n ≤ s.length ∧ ∃ k' pos', (s.drop (i + n)).length ≤ k' ∧ scan k' pos' (s.drop (i + n)) = ([], none) := by
  have hl := drop_len hd
  rw [hd] at h hk
  obtain ⟨k, rfl⟩ : ∃ u, k = u + 1 := ⟨k - 1, by simp at hk; omega⟩
  simp only [scan] at h
  cases hh : head c r with
  | gap n =>
    rw [hh] at h
    obtain ⟨g1, g2⟩ := head_gap hh
    refine ⟨n, rfl, g1, by omega, k, pos + n, ?_, ?_⟩
    · simp only [List.length_drop, List.length_cons] at hk ⊢; omega
    · rw [drop_more hd g1]; exact h
  | tok t => rw [hh] at h; simp at h
  | err e => rw [hh] at h; simp at h
theorem blank_cls (b : UInt8) : cls b = 1 ↔ [32, 9, 10].contains b = true := by
  have := byte_all (fun b => (cls b == 1) == [32, 9, 10].contains b) (by decide +kernel) b
  have := eq_of_beq this
  rw [← this]
  simp
end Lex
end PD
namespace Go.Proofs.YtlhgflnmdmifaaaDoor.Wk
open Go.RowKit PD
set_option maxRecDepth 100000 in
set_option maxHeartbeats 2000000 in
theorem has_calls (u : Str) (hu : u.length ≤ 100) (b : UInt8) (t : Bool) (ht : u.contains b = t) (w : World) :
    Calls Tryd.prog 67 #[.string (mkS u), .int .u8 b.toNat] w fun e w' => e = .returned (.bool t) ∧ w = w' := by
  have hsz := mkS_size u
  have HT := Lib.hid ht
  clear ht
  go_enter Tryd.func67, Tryd.ntmps67
  go_wp2_with fail
  go_loopg [5] u.length (fun k v5 wx => ∃ i : Nat, k + i = u.length ∧ v5 = .int .i64 i ∧ Hid (∀ j, j < i → u[j]? ≠ some b) ∧ w = wx)
  case atStart => exact ⟨0, rfl, rfl, Lib.hid (fun j hj => by omega), rfl⟩
  case round =>
    obtain ⟨i, hk, rfl, HN, rfl⟩ := hrel
    by_cases hlt : i < u.length
    · have hlt2 : i < (mkS u).size := by rw [hsz]; exact hlt
      have hg : (mkS u)[i] = u[i] := by simp [mkS, ByteArray.getElem_eq_getElem_data]; rfl
      have hb := List.getElem?_eq_getElem hlt
      by_cases he : u[i] = b
      · have hv : (((mkS u)[i].toNat : Int) == (b.toNat : Int)) = true := by rw [hg, he]; simp
        have htt : t = true := by rw [← HT.out]; rw [List.contains_iff_mem]; rw [← he]; exact List.getElem_mem hlt
        have HTT := Lib.hid htt
        clear hg hb he htt
        go_wp2_with fail
        go_ret
        exact ⟨by rw [HTT.out]; rfl, rfl⟩
      · have hv : (((mkS u)[i].toNat : Int) == (b.toNat : Int)) = false := by
          rw [hg]
          simp only [beq_eq_false_iff_ne, ne_eq]
          intro e
          exact he (UInt8.toNat_inj.1 (by omega))
        have HB := Lib.hid hb
        have HE := Lib.hid he
        clear hg hb he
        go_wp2_with fail
        go_roundg (u.length - (i + 1))
        case measure => omega
        case rel => exact ⟨i + 1, by omega, by go_num, Lib.hid (fun j hj => by
          rcases Nat.lt_or_ge j i with h | h
          · exact HN.out j h
          · obtain rfl : j = i := by omega
            rw [HB.out]
            exact fun e => HE.out (Option.some.inj e)), rfl⟩
    · have htf : t = false := by
        rw [← HT.out]
        cases hc : u.contains b with
        | false => rfl
        | true =>
          obtain ⟨j, hj, he⟩ := List.getElem_of_mem (List.contains_iff_mem.1 hc)
          exact absurd (by rw [List.getElem?_eq_getElem hj, he]) (HN.out j (by omega))
      have HTF := Lib.hid htf
      clear htf
      go_wp2_with fail
      go_ret
      exact ⟨by rw [HTF.out]; rfl, rfl⟩
set_option maxRecDepth 100000 in
set_option maxHeartbeats 4000000 in
theorem gap_calls (s : Str) (hs : s.length ≤ 20000) (hg : ∃ pos k, s.length ≤ k ∧ Lex.scan k pos s = ([], none)) (w : World) :
    Calls Tryd.prog 46 #[.string (mkS s), .int .i64 0] w fun e w' => e = .returned (.int .i64 s.length) ∧ w = w' := by
  have hsz := mkS_size s
  have HG := Lib.hid hg
  clear hg
  go_enter Tryd.func46, Tryd.ntmps46
  go_wp2_with fail
  go_loopg [1] s.length (fun k v1 wx => ∃ i : Nat, k + i = s.length ∧ v1 = .int .i64 i ∧ Hid (∃ k' pos, (s.drop i).length ≤ k' ∧ Lex.scan k' pos (s.drop i) = ([], none)) ∧ w = wx)
  case atStart => exact ⟨0, rfl, rfl, Lib.hid (by obtain ⟨pos, k, h1, h2⟩ := HG.out; exact ⟨k, pos, h1, h2⟩), rfl⟩
  case round =>
    obtain ⟨i, hk, rfl, HS, rfl⟩ := hrel
    by_cases hlt : i < s.length
    · obtain ⟨c, r, hd⟩ : ∃ c r, s.drop i = c :: r := by
        cases hd : s.drop i with
        | nil => have := congrArg List.length hd; simp at this; omega
        | cons c r => exact ⟨c, r, rfl⟩
      obtain ⟨k', pos', h1, h2⟩ := HS.out
      obtain ⟨n, hh, hn1, hn2, hnext⟩ := Lex.gap_of hd h1 h2
      have hlt2 : i < (mkS s).size := by rw [hsz]; exact hlt
      have hb : (mkS s)[i] = s[i] := by simp [mkS, ByteArray.getElem_eq_getElem_data]; rfl
      have hc : s[i] = c := by
        have := Lex.get_drop hd 0
        rw [Nat.add_zero, List.getElem?_eq_getElem hlt] at this
        exact Option.some.inj this
      rw [hc] at hb
      have hdl := Lex.drop_len hd
      have HD := Lib.hid hd
      have HN := Lib.hid hnext
      have HH := Lib.hid hh
      clear h1 h2 hd hnext hh hc HS
      by_cases h1 : Lex.cls c = 1
      · have hn : n = 1 := by have := HH.out; rw [Lex.head_1 h1] at this; cases this; rfl
        have HAS := Lib.hid (has_calls [32, 9, 10] (by decide) (mkS s)[i] true (by rw [hb]; exact (Lex.blank_cls c).1 h1) w)
        subst hn
        clear h1 hb
        go_wp2_with (go_at_call 67; refine HAS.out.mono ?_; rintro e w' ⟨rfl, rfl⟩)
        go_roundg (s.length - (i + 1))
        case measure => omega
        case rel => exact ⟨i + 1, by omega, by go_num, HN, rfl⟩
      · have h2 : Lex.cls c = 2 := by
          rcases Lex.head_cases c r with ⟨h, _⟩ | ⟨h, _⟩ | ⟨_, h⟩ | ⟨_, h⟩ | ⟨_, h⟩ | ⟨_, _, h⟩ | ⟨_, _, h⟩ | h
          · exact absurd h h1
          · exact h
          · rw [HH.out] at h; exact absurd h.symm Lex.nameItem_gap
          · rw [HH.out] at h; exact absurd h.symm Lex.numItem_gap
          · rw [HH.out] at h; cases h
          · rw [HH.out] at h; cases h
          · rw [HH.out] at h; cases h
          · rw [HH.out] at h; cases h
        have hc35 := Lex.hash_cls c h2
        have hn : n = ((c :: r).takeWhile (· != 10)).length := by have := HH.out; rw [Lex.head_2 h2] at this; cases this; rfl
        have HAS := Lib.hid (has_calls [32, 9, 10] (by decide) (mkS s)[i] false (by rw [hb, hc35]; rfl) w)
        have hv : (((mkS s)[i].toNat : Int) == 35) = true := by rw [hb, hc35]; rfl
        have hon : ∀ m, m ≤ n → (m < n ↔ ∃ b, s[i + m]? = some b ∧ b ≠ 10) := by
          intro m hm; rw [hn] at hm ⊢; exact Lex.hash_on HD.out hm
        have HON := Lib.hid hon
        clear h1 h2 hb hc35 hn hon
        go_wp2_with (go_at_call 67; refine HAS.out.mono ?_; rintro e w' ⟨rfl, rfl⟩)
        go_loopg [1] n (fun k v1 wx => ∃ m : Nat, k + m = n ∧ v1 = .int .i64 ((i + m : Nat) : Int) ∧ w = wx)
        case atStart => exact ⟨0, rfl, rfl, rfl⟩
        case round =>
          obtain ⟨m, hkm, rfl, rfl⟩ := hrel
          by_cases hltm : i + m < s.length
          · have hltm2 : i + m < (mkS s).size := by rw [hsz]; exact hltm
            have hbm : s[i + m]? = some s[i + m] := List.getElem?_eq_getElem hltm
            have hgm : (mkS s)[i + m] = s[i + m] := by simp [mkS, ByteArray.getElem_eq_getElem_data]; rfl
            by_cases h10 : s[i + m] = 10
            · have hmL : m = n := by
                have := HON.out m (by omega)
                rw [hbm] at this
                have h2 : ¬ m < n := fun h => by obtain ⟨b, e, hne⟩ := this.1 h; cases e; exact hne h10
                omega
              have hvm : (((mkS s)[i + m].toNat : Int) != 10) = false := by rw [hgm, h10]; rfl
              clear hgm hbm h10
              rw [← hmL] at HN
              have hm1 : 1 ≤ m := by omega
              clear hmL
              go_wp2_with fail
              go_roundg (s.length - (i + m))
              case measure => omega
              case rel => exact ⟨i + m, by omega, by go_num, HN, rfl⟩
            · have hmL : m < n := (HON.out m (by omega)).2 ⟨_, hbm, h10⟩
              have hvm : (((mkS s)[i + m].toNat : Int) != 10) = true := by
                rw [hgm]
                simp only [bne_iff_ne, ne_eq]
                intro e
                exact h10 (UInt8.toNat_inj.1 (by show _ = 10; omega))
              clear hgm hbm h10
              go_wp2_with fail
              go_roundg (n - (m + 1))
              case measure => omega
              case rel => exact ⟨m + 1, by omega, by go_num, rfl⟩
          · have hmL : m = n := by
              have := HON.out m (by omega)
              have h2 : ¬ m < n := fun h => by obtain ⟨b, e, hne⟩ := this.1 h; rw [List.getElem?_eq_none (by omega)] at e; cases e
              omega
            rw [← hmL] at HN
            have hm1 : 1 ≤ m := by omega
            clear hmL
            go_wp2_with fail
            go_roundg (s.length - (i + m))
            case measure => omega
            case rel => exact ⟨i + m, by omega, by go_num, HN, rfl⟩
    · have hi : i = s.length := by omega
      have HI := Lib.hid hi
      clear hi
      go_wp2_with fail
      go_ret
      exact ⟨by rw [HI.out]; rfl, rfl⟩
set_option maxRecDepth 100000 in
theorem gaps_calls (s : Str) (hs : s.length ≤ 20000) (hg : ∃ pos k, s.length ≤ k ∧ Lex.scan k pos s = ([], none)) (w : World) :
    Calls Tryd.prog 30 #[.string (mkS s)] w fun e w' => e = .returned (.bool true) ∧ w = w' := by
  have hsz := mkS_size s
  have HC := Lib.hid (gap_calls s hs hg w)
  clear hg
  go_enter Tryd.func30, Tryd.ntmps30
  go_wp2_with (go_at_call 46; refine HC.out.mono ?_; rintro e w' ⟨rfl, rfl⟩)
  go_ret
  exact ⟨rfl, rfl⟩
end Go.Proofs.YtlhgflnmdmifaaaDoor.Wk
