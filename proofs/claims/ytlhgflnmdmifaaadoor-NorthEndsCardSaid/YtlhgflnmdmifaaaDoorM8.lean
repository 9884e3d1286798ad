/- A condition of commencement without and and or. -/
import Derived.Test.YtlhgflnmdmifaaaDoorM7
import Derived.Test.YtlhgflnmdmifaaaDoorN10
namespace Go.Proofs.YtlhgflnmdmifaaaDoor.Wk
open Go.RowKit PD

abbrev oneWs : List Str := [[97, 108, 119, 97, 121, 115], [110, 101, 118, 101, 114], [100, 97, 121], [40], [111, 114, 100, 101, 114], [101, 118, 101, 110, 116], [98, 101, 103, 117, 110], [111, 118, 101, 114]]
def oneRow : Obj := .cells #[.string ⟨#[97, 108, 119, 97, 121, 115]⟩, .string ⟨#[110, 101, 118, 101, 114]⟩, .string ⟨#[100, 97, 121]⟩, .string ⟨#[40]⟩, .string ⟨#[111, 114, 100, 101, 114]⟩, .string ⟨#[101, 118, 101, 110, 116]⟩, .string ⟨#[98, 101, 103, 117, 110]⟩, .string ⟨#[111, 118, 101, 114]⟩] 9
theorem one_strs (w : World) : Strs (w.alloc oneRow) w.heap.size oneWs := strs_lit w oneWs
/-- The first call. -/
theorem one_must {w : World} {g b o c : Nat} {l : List (Tok × Nat)} {en i : Nat} (h : Par w g b o c l en i) :
    Calls Tryd.prog 55 #[.pointer (some ⟨g, 0, none⟩), .slice (some ⟨(w.alloc zeroS).heap.size, 0, none⟩) 8 8] ((w.alloc zeroS).alloc oneRow) (Out EncNat ((Tr.must oneWs).run (l.map (·.1)) i) g b o c l en ((w.alloc zeroS).alloc oneRow)) :=
  must_calls ((h.below (below_new w zeroS)).below (below_new _ oneRow)) (w.alloc zeroS).heap.size 8 8 oneWs (one_strs _) rfl (Nat.le_refl _) (by omega)

set_option maxHeartbeats 1000000 in
theorem one_err {w : World} {g b o c : Nat} {l : List (Tok × Nat)} {en i : Nat} (h : Par w g b o c l en i) (er j : Nat) (hr : (Tr.must oneWs).run (l.map (·.1)) i = .err er j) :
    Calls Tryd.prog 130 #[.pointer (some ⟨g, 0, none⟩)] w (Out (EncSt w) (.err er j) g b o c l en w) := by
  have HT := Lib.hid (Out.err_of hr (one_must h))
  clear h hr
  unfold zeroS oneRow at HT
  go_enter Tryd.func130, Tryd.ntmps130
  go_wp2_with fail
  simp only [World.size_alloc] at HT
  refine HT.out.mono ?_
  rintro e w2 ⟨rfl, hK⟩
  exact ⟨rfl, ((Keep.of_below (below_new w zeroS)).trans (Keep.of_below (below_new (w.alloc zeroS) oneRow))).trans hK, rfl⟩

set_option maxHeartbeats 1000000 in
/-- always, never. -/
theorem one_const {w : World} {g b o c : Nat} {l : List (Tok × Nat)} {en i : Nat} (h : Par w g b o c l en i) (j : Nat) (hj : j = 0 ∨ j = 1) (hr : (Tr.must oneWs).run (l.map (·.1)) i = .ok j (i + 1)) :
    Calls Tryd.prog 130 #[.pointer (some ⟨g, 0, none⟩)] w (Out (EncSt w) (.ok (North.st0 (j + 1)) (i + 1)) g b o c l en w) := by
  have HT := Lib.hid (Out.ok_of hr (one_must h))
  have hg := h.lt
  have HP0 := Lib.hid h; clear h hr
  unfold zeroS oneRow at HT
  rcases hj with rfl | rfl
  all_goals
    go_enter Tryd.func130, Tryd.ntmps130
    go_wp2_with fail
    simp only [World.size_alloc] at HT
    refine HT.out.mono ?_
    rintro e w2 ⟨v, rfl, rfl, hP, hK⟩
    have hK1 : Keep g (w.alloc zeroS) w2 := (Keep.of_below (below_new (w.alloc zeroS) oneRow)).trans hK
    have HB8 := Lib.hid (wrapS_blk hg hK1)
    obtain ⟨⟨d0, d1, d2, d3⟩, ⟨e0, e1, e2, e3⟩, hlt3⟩ := blk4 HB8.out
    have HP := Lib.hid hP; clear hP
    have HK := Lib.hid hK1; clear hK1 hK
    clear HT
    go_wp2
  · obtain ⟨⟨r0, r1, r2, r3⟩, -, -⟩ := blk4 (set4_blk HB8.out (.int .i64 1) (.string ⟨#[]⟩) (.int .i64 0) (.slice none 0 0))
    obtain ⟨q1, q2, q3⟩ := wrapS HP0.out (RepKS.leaf _ _ 1 [] 0) HP.out HK.out (.int .i64 1) (.string ⟨#[]⟩) (.int .i64 0) (.slice none 0 0)
    unfold set4 at r0 r1 r2 r3 q1 q2 q3
    exact bodyPost_ret (v := StV (North.st0 1) (.slice none 0 0)) (by simp [results, Tryd.results130, go_sem, r0, r1, r2, r3, StV, StC, North.st0, mkS_nil]) rfl ⟨q1, _, rfl, ⟨_, rfl, q2⟩, q3⟩
  · obtain ⟨⟨r0, r1, r2, r3⟩, -, -⟩ := blk4 (set4_blk HB8.out (.int .i64 2) (.string ⟨#[]⟩) (.int .i64 0) (.slice none 0 0))
    obtain ⟨q1, q2, q3⟩ := wrapS HP0.out (RepKS.leaf _ _ 2 [] 0) HP.out HK.out (.int .i64 2) (.string ⟨#[]⟩) (.int .i64 0) (.slice none 0 0)
    unfold set4 at r0 r1 r2 r3 q1 q2 q3
    exact bodyPost_ret (v := StV (North.st0 2) (.slice none 0 0)) (by simp [results, Tryd.results130, go_sem, r0, r1, r2, r3, StV, StC, North.st0, mkS_nil]) rfl ⟨q1, _, rfl, ⟨_, rfl, q2⟩, q3⟩

set_option maxHeartbeats 1000000 in
/-- A day. -/
theorem one_day {w : World} {g b o c : Nat} {l : List (Tok × Nat)} {en i : Nat} (h : Par w g b o c l en i) (hr : (Tr.must oneWs).run (l.map (·.1)) i = .ok 2 (i + 1)) (r3 : PR St)
    (hr3 : (((Tr.number 1000000).run (l.map (·.1)) (i + 1)).bind fun n i' => .ok (.mk 3 [] n []) i') = r3) :
    Calls Tryd.prog 130 #[.pointer (some ⟨g, 0, none⟩)] w (Out (EncSt w) r3 g b o c l en w) := by
  have HR3 := Lib.hid hr3; clear hr3
  have HT := Lib.hid (Out.ok_of hr (one_must h))
  have hg := h.lt
  have HP0 := Lib.hid h; clear h hr
  unfold zeroS oneRow at HT
  go_enter Tryd.func130, Tryd.ntmps130
  go_wp2_with fail
  simp only [World.size_alloc] at HT
  refine HT.out.mono ?_
  rintro e w2 ⟨v, rfl, rfl, hP, hK⟩
  have hK1 : Keep g (w.alloc zeroS) w2 := (Keep.of_below (below_new (w.alloc zeroS) oneRow)).trans hK
  have HC := number_calls hP 1000000
  have HP := Lib.hid hP; clear hP
  have HK := Lib.hid hK1; clear hK1 hK
  clear HT
  cases hn : (Tr.number 1000000).run (l.map (·.1)) (i + 1) with
  | out =>
    exfalso
    have := Tr.goes_number (l := l.map (·.1)) (m := 1000000) (i := i + 1)
    unfold Tr.Goes at this
    rw [hn] at this
    exact this
  | err er j =>
    have h1 := HR3.out
    simp only [PR.bind, hn] at h1
    subst h1
    have HC := Lib.hid (Out.err_of hn HC)
    clear hn HR3
    go_wp2_with fail
    refine HC.out.mono ?_
    rintro e w3 ⟨rfl, hK3⟩
    exact ⟨rfl, ((Keep.of_below (below_new w zeroS)).trans HK.out).trans hK3, rfl⟩
  | ok n i' =>
    have h1 := HR3.out
    simp only [PR.bind, hn] at h1
    subst h1
    have HC := Lib.hid (Out.ok_of hn HC)
    clear hn HR3
    go_wp2_with fail
    refine HC.out.mono ?_
    rintro e w3 ⟨v, rfl, rfl, hP3, hK3⟩
    have hK13 : Keep g (w.alloc zeroS) w3 := HK.out.trans hK3
    have HB8 := Lib.hid (wrapS_blk hg hK13)
    obtain ⟨⟨d0, d1, d2, d3⟩, ⟨e0, e1, e2, e3⟩, hlt3⟩ := blk4 HB8.out
    have HP3 := Lib.hid hP3; clear hP3
    have HK3 := Lib.hid hK13; clear hK13 hK3
    clear HC
    go_wp2
    obtain ⟨⟨r0, r1, r2, r3⟩, -, -⟩ := blk4 (set4_blk HB8.out (.int .i64 3) (.string ⟨#[]⟩) (.int .i64 (n : Int)) (.slice none 0 0))
    obtain ⟨q1, q2, q3⟩ := wrapS HP0.out (RepKS.leaf _ _ 3 [] n) HP3.out HK3.out (.int .i64 3) (.string ⟨#[]⟩) (.int .i64 (n : Int)) (.slice none 0 0)
    unfold set4 at r0 r1 r2 r3 q1 q2 q3
    exact bodyPost_ret (v := StV (.mk 3 [] n []) (.slice none 0 0)) (by simp [results, Tryd.results130, go_sem, r0, r1, r2, r3, StV, StC, mkS_nil]) rfl ⟨q1, _, rfl, ⟨_, rfl, q2⟩, q3⟩

set_option maxHeartbeats 1000000 in
/-- An order, an event, the beginning or the end of a rule. -/
theorem one_name {w : World} {g b o c : Nat} {l : List (Tok × Nat)} {en i : Nat} (h : Par w g b o c l en i) (j : Nat) (hj4 : 4 ≤ j) (hj8 : j < 8) (hr : (Tr.must oneWs).run (l.map (·.1)) i = .ok j (i + 1)) (r3 : PR St)
    (hr3 : ((North.nm.run (l.map (·.1)) (i + 1)).bind fun s i' => .ok (.mk (4 + (j - 4 : Nat)) s 0 []) i') = r3) :
    Calls Tryd.prog 130 #[.pointer (some ⟨g, 0, none⟩)] w (Out (EncSt w) r3 g b o c l en w) := by
  have HR3 := Lib.hid hr3; clear hr3
  have HT := Lib.hid (Out.ok_of hr (one_must h))
  have hg := h.lt
  have HP0 := Lib.hid h; clear h hr
  unfold zeroS oneRow at HT
  have hj0 : ((j : Int) == 0) = false := by simp; omega
  have hj1 : ((j : Int) == 1) = false := by simp; omega
  have hj2 : ((j : Int) == 2) = false := by simp; omega
  have hj3 : ((j : Int) == 3) = false := by simp; omega
  have hop : (4 : Int) + (j : Int) - 4 = 4 + ((j - 4 : Nat) : Int) := by omega
  have HOP := Lib.hid hop; clear hop
  go_enter Tryd.func130, Tryd.ntmps130
  go_wp2_with fail
  simp only [World.size_alloc] at HT
  refine HT.out.mono ?_
  rintro e w2 ⟨v, rfl, rfl, hP, hK⟩
  have hK1 : Keep g (w.alloc zeroS) w2 := (Keep.of_below (below_new (w.alloc zeroS) oneRow)).trans hK
  have HC := name_calls hP
  have HP := Lib.hid hP; clear hP
  have HK := Lib.hid hK1; clear hK1 hK
  clear HT
  cases hn : North.nm.run (l.map (·.1)) (i + 1) with
  | out =>
    exfalso
    have := Tr.goes_name (l := l.map (·.1)) (k := North.isKey) (i := i + 1)
    unfold Tr.Goes at this
    have e : (Tr.name North.isKey).run (l.map (·.1)) (i + 1) = .out := hn
    rw [e] at this
    exact this
  | err er j =>
    have h1 := HR3.out
    simp only [PR.bind, hn] at h1
    subst h1
    have HC := Lib.hid (Out.err_of hn HC)
    clear hn HR3
    go_wp2_with fail
    refine HC.out.mono ?_
    rintro e w3 ⟨rfl, hK3⟩
    exact ⟨rfl, ((Keep.of_below (below_new w zeroS)).trans HK.out).trans hK3, rfl⟩
  | ok s i' =>
    have h1 := HR3.out
    simp only [PR.bind, hn] at h1
    subst h1
    have HC := Lib.hid (Out.ok_of hn HC)
    clear hn HR3
    go_wp2_with fail
    refine HC.out.mono ?_
    rintro e w3 ⟨v, rfl, rfl, hP3, hK3⟩
    have hK13 : Keep g (w.alloc zeroS) w3 := HK.out.trans hK3
    have HB8 := Lib.hid (wrapS_blk hg hK13)
    obtain ⟨⟨d0, d1, d2, d3⟩, ⟨e0, e1, e2, e3⟩, hlt3⟩ := blk4 HB8.out
    have HP3 := Lib.hid hP3; clear hP3
    have HK3 := Lib.hid hK13; clear hK13 hK3
    clear HC
    go_wp2
    obtain ⟨⟨r0, r1, r2, r3⟩, -, -⟩ := blk4 (set4_blk HB8.out (.int .i64 (4 + (j : Int) - 4)) (.string (mkS s)) (.int .i64 0) (.slice none 0 0))
    obtain ⟨q1, q2, q3⟩ := wrapS HP0.out (RepKS.leaf _ _ (4 + (j - 4 : Nat)) s 0) HP3.out HK3.out (.int .i64 (4 + (j : Int) - 4)) (.string (mkS s)) (.int .i64 0) (.slice none 0 0)
    unfold set4 at r0 r1 r2 r3 q1 q2 q3
    exact bodyPost_ret (v := StV (.mk (4 + (j : Int) - 4) s 0 []) (.slice none 0 0)) (by simp [results, Tryd.results130, go_sem, r0, r1, r2, r3, StV, StC]) rfl ⟨q1, _, rfl, ⟨_, by rw [HOP.out], q2⟩, q3⟩
end Go.Proofs.YtlhgflnmdmifaaaDoor.Wk
