/- A condition without and and or: the ways that call nothing more, and names. -/
import Derived.Test.YtlhgflnmdmifaaaDoorN7
namespace Go.Proofs.YtlhgflnmdmifaaaDoor.Wk
open Go.RowKit PD

abbrev atomWs : List Str := [[110, 111, 116], [40], [116, 114, 117, 101], [102, 97, 108, 115, 101]]
def atomRow : Obj := .cells #[.string ⟨#[110, 111, 116]⟩, .string ⟨#[40]⟩, .string ⟨#[116, 114, 117, 101]⟩, .string ⟨#[102, 97, 108, 115, 101]⟩] 9
theorem atom_strs (w : World) : Strs (w.alloc atomRow) w.heap.size atomWs := strs_lit w atomWs
/-- The first call of an atom. -/
theorem atom_take {w : World} {g b o c : Nat} {l : List (Tok × Nat)} {en i : Nat} (h : Par w g b o c l en i) :
    Calls Tryd.prog 58 #[.pointer (some ⟨g, 0, none⟩), .slice (some ⟨(w.alloc zeroF).heap.size, 0, none⟩) 4 4] ((w.alloc zeroF).alloc atomRow) (Out EncIdx ((Tr.take atomWs).run (l.map (·.1)) i) g b o c l en ((w.alloc zeroF).alloc atomRow)) :=
  take_calls ((h.below (below_new w zeroF)).below (below_new _ atomRow)) (w.alloc zeroF).heap.size 4 4 atomWs (atom_strs _) rfl (Nat.le_refl _) (by omega)

set_option maxHeartbeats 1000000 in
/-- true, false. -/
theorem atom_const {w : World} {g b o c : Nat} {l : List (Tok × Nat)} {en i : Nat} (h : Par w g b o c l en i) (j : Nat) (hj : j = 2 ∨ j = 3) (hr : (Tr.take atomWs).run (l.map (·.1)) i = .ok (some j) (i + 1)) :
    Calls Tryd.prog 117 #[.pointer (some ⟨g, 0, none⟩)] w (Out (EncFm w) (.ok (North.fm0 (j - 1)) (i + 1)) g b o c l en w) := by
  have HT := Lib.hid (Out.ok_of hr (atom_take h))
  have hg := h.lt
  have HP0 := Lib.hid h; clear h hr
  unfold zeroF atomRow at HT
  rcases hj with rfl | rfl
  all_goals
    go_enter Tryd.func117, Tryd.ntmps117
    go_wp2_with fail
    simp only [World.size_alloc] at HT
    refine HT.out.mono ?_
    rintro e w2 ⟨v, rfl, rfl, hP, hK⟩
    have hK1 : Keep g (w.alloc zeroF) w2 := (Keep.of_below (below_new (w.alloc zeroF) atomRow)).trans hK
    have HB8 := Lib.hid (wrapF_blk hg hK1)
    obtain ⟨⟨d0, d1, d2, d3, d4⟩, ⟨e0, e1, e2, e3, e4⟩, hlt3⟩ := blk5 HB8.out
    have HP := Lib.hid hP; clear hP
    have HK := Lib.hid hK1; clear hK1 hK
    clear HT
    unfold idxI
    go_wp2
  · obtain ⟨⟨r0, r1, r2, r3, r4⟩, -, -⟩ := blk5 (set5_blk HB8.out (.int .i64 1) (.string ⟨#[]⟩) (.int .i64 0) (.int .i64 0) (.slice none 0 0))
    obtain ⟨q1, q2, q3⟩ := wrapF HP0.out (RepK.leaf _ _ 1 [] 0 0) HP.out HK.out (.int .i64 1) (.string ⟨#[]⟩) (.int .i64 0) (.int .i64 0) (.slice none 0 0)
    unfold set5 at r0 r1 r2 r3 r4 q1 q2 q3
    exact bodyPost_ret (v := FmV (North.fm0 1) (.slice none 0 0)) (by simp [results, Tryd.results117, go_sem, r0, r1, r2, r3, r4, FmV, FmC, North.fm0, mkS_nil]) rfl ⟨q1, _, rfl, ⟨_, rfl, q2⟩, q3⟩
  · obtain ⟨⟨r0, r1, r2, r3, r4⟩, -, -⟩ := blk5 (set5_blk HB8.out (.int .i64 2) (.string ⟨#[]⟩) (.int .i64 0) (.int .i64 0) (.slice none 0 0))
    obtain ⟨q1, q2, q3⟩ := wrapF HP0.out (RepK.leaf _ _ 2 [] 0 0) HP.out HK.out (.int .i64 2) (.string ⟨#[]⟩) (.int .i64 0) (.int .i64 0) (.slice none 0 0)
    unfold set5 at r0 r1 r2 r3 r4 q1 q2 q3
    exact bodyPost_ret (v := FmV (North.fm0 2) (.slice none 0 0)) (by simp [results, Tryd.results117, go_sem, r0, r1, r2, r3, r4, FmV, FmC, North.fm0, mkS_nil]) rfl ⟨q1, _, rfl, ⟨_, rfl, q2⟩, q3⟩
end Go.Proofs.YtlhgflnmdmifaaaDoor.Wk
