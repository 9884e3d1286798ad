/- The first reader's small steps. -/
import Derived.Test.YtlhgflnmdmifaaaDoorBase
namespace Go.Proofs.YtlhgflnmdmifaaaDoor.Wk
open Go.RowKit PD

theorem nextV_lt {l : List (Tok × Nat)} {en i : Nat} (h : i < l.length) : nextV l en i = tokV (l[i]).1 (l[i]).2 := by
  simp [nextV, List.getElem?_eq_getElem h]
theorem nextV_end {l : List (Tok × Nat)} {en i : Nat} (h : l.length ≤ i) : nextV l en i = .agg #[.int .i64 0, .string ⟨#[]⟩, .int .i64 0, .int .i64 en] := by
  simp [nextV, List.getElem?_eq_none h]

set_option maxHeartbeats 400000 in
theorem next_calls {w : World} {g b o c : Nat} {l : List (Tok × Nat)} {en i : Nat} (h : Par w g b o c l en i) :
    Calls Tryd.prog 80 #[.pointer (some ⟨g, 0, none⟩)] w fun e w' => e = .returned (nextV l en i) ∧ Below w.heap.size w w' := by
  have hlt := h.lt
  obtain ⟨A, hA, hb⟩ := h.blk
  have hc := h.hc
  have hi := h.hi
  have h0 := blk_cell hb 0
  have h1 := blk_cell hb 1
  simp only [List.getElem?_toArray, List.getElem?_cons_zero, List.getElem?_cons_succ] at h0 h1
  clear hb
  rcases Nat.lt_or_ge i l.length with hl | hl
  · obtain rfl := hA hl
    have e : l[i]? = some ((l[i]).1, (l[i]).2) := List.getElem?_eq_getElem hl
    have t0 := h.toks.kind i _ _ e
    have t1 := h.toks.text i _ _ e
    have t2 := h.toks.n i _ _ e
    have t3 := h.toks.at_ i _ _ e
    have hbl := cell_lt t0
    have hz : (((l.length - i : Nat) : Int) == 0) = false := by simp; omega
    have hn := nextV_lt (en := en) hl
    generalize nextV l en i = nv at hn ⊢
    generalize (l[i]).1 = t at *
    generalize (l[i]).2 = p at *
    clear e h
    generalize hm : l.length - i = m at *
    have hm0 : 0 < m := by omega
    clear hm
    have HN := Lib.hid hn; clear hn
    go_enter Tryd.func80, Tryd.ntmps80
    go_wp2
    refine bodyPost_ret (v := tokV t p) (by simp [results, Tryd.results80, go_sem, tokV]) rfl ⟨by rw [HN.out], ?_⟩
    exact (Below.refl _ _).alloc (Nat.le_refl _) _
  · have hz : l.length - i = 0 := by omega
    rw [hz] at h0
    have hn := nextV_end (en := en) hl
    generalize nextV l en i = nv at hn ⊢
    have HN := Lib.hid hn; clear hn
    clear h hz
    go_enter Tryd.func80, Tryd.ntmps80
    go_wp2
    refine bodyPost_ret (v := .agg #[.int .i64 0, .string ⟨#[]⟩, .int .i64 0, .int .i64 en]) (by simp [results, Tryd.results80, go_sem]) rfl ⟨by rw [HN.out], ?_⟩
    exact (Below.refl _ _).alloc (Nat.le_refl _) _
end Go.Proofs.YtlhgflnmdmifaaaDoor.Wk
