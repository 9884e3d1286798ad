/- The class of a byte of the text: the closure 'at'. -/
import Derived.Test.YtlhgflnmdmifaaaDoorL1
import Derived.Test.YtlhgflnmdmifaaaDoorL2
namespace Go.Proofs.YtlhgflnmdmifaaaDoor.Wk
open Go.RowKit PD

theorem clsT_get (b : UInt8) : clsT.toArray[b.toNat]? = some (.int .u8 (Lex.cls b)) := by
  simp only [clsT, List.getElem?_toArray, List.getElem?_map]
  rw [List.getElem?_range b.toNat_lt]
  simp
/-- What the closures over a text have: the text and the table of classes. -/
structure TextAt (w : World) (s : Str) (T C : Nat) : Prop where
  text : w.cell? ⟨T, 0, none⟩ = some (.string (mkS s))
  cls : w.heap[C]? = some (.cells clsT.toArray 82 (0, 0))
set_option maxRecDepth 100000 in
theorem at_calls (s : Str) (hs : s.length ≤ 20000) (T C i : Nat) (hi : i < 4611686018427387904) (w : World) (h : TextAt w s T C) :
    Calls Tryd.prog 52 #[.int .i64 i, .pointer (some ⟨T, 0, none⟩), .pointer (some ⟨C, 0, none⟩)] w fun e w' => e = .returned (.int .u8 (Lex.clsAt s i)) ∧ w = w' := by
  have hT := h.text
  have hsz := mkS_size s
  by_cases hlt : i < s.length
  · have hb : s[i]? = some s[i] := List.getElem?_eq_getElem hlt
    have hlt2 : i < (mkS s).size := by rw [hsz]; exact hlt
    have hg : (mkS s)[i] = s[i] := by simp [mkS, ByteArray.getElem_eq_getElem_data]; rfl
    have hc : w.cell? ⟨C, (mkS s)[i].toNat, none⟩ = some (.int .u8 (Lex.cls s[i])) := by rw [hg]; exact (blk_cell h.cls _).trans (clsT_get _)
    have ha : Lex.clsAt s i = Lex.cls s[i] := by rw [Lex.clsAt, hb]; rfl
    have hu := (mkS s)[i].toNat_lt
    clear hg hb h
    have HA := Lib.hid ha; clear ha
    have HS := Lib.hid hs; clear hs
    go_enter Tryd.func52, Tryd.ntmps52
    go_wp2_with fail
    go_ret
    exact ⟨by rw [HA.out]; rfl, rfl⟩
  · have hge : s.length ≤ i := by omega
    clear hlt
    have ha : Lex.clsAt s i = 0 := by rw [Lex.clsAt, List.getElem?_eq_none (by omega)]
    have HA := Lib.hid ha; clear ha
    go_enter Tryd.func52, Tryd.ntmps52
    go_wp2_with fail
    go_ret
    exact ⟨by rw [HA.out]; rfl, rfl⟩
end Go.Proofs.YtlhgflnmdmifaaaDoor.Wk
