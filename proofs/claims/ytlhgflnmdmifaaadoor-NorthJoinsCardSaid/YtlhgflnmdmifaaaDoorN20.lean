/- Parse, at every text, at whatever world. -/
import Derived.Test.YtlhgflnmdmifaaaDoorND
import Derived.Test.YtlhgflnmdmifaaaDoorPA
import Derived.Test.YtlhgflnmdmifaaaDoorL6
namespace Go.Proofs.YtlhgflnmdmifaaaDoor.Wk
open Go.RowKit PD

theorem posOf_at (l : List (Tok × Nat)) (en i : Nat) : posOf l en i = posAt l en i := rfl
abbrev zeroPv : Value := .agg (pvC (North.pv0 North.fm00) nilS nilS nilS nilS nilS).toArray
/-- What north.Parse returns. -/
def ParseOut (s : Str) (w : World) (e : Ending) (w' : World) : Prop :=
  Below w.heap.size w w' ∧ match North.read s with
    | .ok p => ∃ v, e = .returned (.tuple #[v, .int .i64 0, .int .i64 0]) ∧ EncPv w w' p v
    | .error (er, at_) => e = .returned (.tuple #[zeroPv, .int .i64 er, .int .i64 at_]) ∧ er ≠ 0
theorem parse_rest {l : List (Tok × Nat)} : Rest l (North.pvR (l.length + 1)) 0 (North.parse (l.map (·.1))) := by
  unfold Rest North.parse
  rw [List.length_map, ← North.pvR_eq]
  cases (North.provision (l.length + 1)).run (l.map (·.1)) 0 <;> rfl
theorem parse_calls (s : Str) (hs : s.length < 4611686018427387904) (w : World) {m : Int} (hm : w.cell? ⟨2, 0, none⟩ = some (.int .i64 m)) :
    Calls Tryd.prog 16 #[.string (mkS s)] w (ParseOut s w) := by
  by_cases he : (Lex.lex s).2.1 = 0
  · obtain ⟨hok, hfew⟩ := Lex.lex_ok he
    cases hp : North.parse ((Lex.lex s).1.map (·.1)) with
    | ok p i =>
      refine (parse_ok lex_calls s hs w he _ rfl hok hfew hm p i (hp ▸ parse_rest)).mono ?_
      rintro e w' ⟨⟨v, rfl, hv⟩, hB⟩
      refine ⟨hB, ?_⟩
      rw [North.read_ok he hp]
      exact ⟨v, rfl, hv⟩
    | err er j =>
      refine (parse_err lex_calls s hs w he _ rfl hok hfew hm er j (hp ▸ parse_rest)).mono ?_
      rintro e w' ⟨rfl, hB⟩
      refine ⟨hB, ?_⟩
      rw [North.read_err he hp]
      exact ⟨rfl, (North.read_bad (North.read_err he hp)).1⟩
    | out => exact absurd hp (North.parse_ends _)
  · refine (parse_lexerr lex_calls s hs w _ rfl he _ rfl).mono ?_
    rintro e w' ⟨rfl, hB⟩
    refine ⟨hB, ?_⟩
    rw [North.read_lexerr he]
    exact ⟨rfl, he⟩
end Go.Proofs.YtlhgflnmdmifaaaDoor.Wk
