/-
  DERIVED. GIVEN WITH THE SEED: THE CARDS: each row of YtlhgflnmdmifaaaDoorRows.lean that lists a variable, with what it lists TIED to the program's text (the seventh form; the later family's looks); each row that meets fmt, with fmt's text TOLD by the authors' own Lean function (tested against real Go, not proved from fmt's source: count such statements apart). THE CARD IS WHAT COUNTS. Prove the row's statement (the work); the ties are given (YtlhgflnmdmifaaaDoorTie.lean); close each card by the builder's one call (the guide's Derived/Test/ToyasCard.lean, 'card_holds'). Laid BY PROGRAM, IN A SANDBOX (cutbox-door.mjs). By AI agents, Wed Nov 11 2026. No macro, syntax, notation, axiom, sorry.
-/
import Derived.Test.YtlhgflnmdmifaaaDoorRows
import GoSem.ClaimSeven
namespace Go.Proofs.YtlhgflnmdmifaaaDoor
namespace Rows

/-- THE TIED CARD OF 'pandectlaw08.NorthGaps'. -/
def northGapsCard : Claim7 := { stood := { row := northGapsRow, standIns := [], harness := (true, "e6115ff4d060949328c84dffe046c38393cfee46a0abed83d6bb6ce34e6a50bb"), looks := true }, kinds := [], alts := [], laidByText := true, laidKinds := [.data, .data, .data, .sentinel, .sentinel], laidTests := true, laidLooks := .later }
def NorthGapsCardSaid : Prop := Claim7.holds Tryd.pinned (.plain (OpenSpec.ofChange northGapsSpec)) northGapsCard

/-- THE TIED CARD OF 'pandectlaw08.NorthFirstError'. -/
def northFirstErrorCard : Claim7 := { stood := { row := northFirstErrorRow, standIns := [], harness := (true, "e6115ff4d060949328c84dffe046c38393cfee46a0abed83d6bb6ce34e6a50bb"), looks := true }, kinds := [], alts := [], laidByText := true, laidKinds := [.data, .data, .data, .sentinel, .sentinel], laidTests := true, laidLooks := .later }
def NorthFirstErrorCardSaid : Prop := Claim7.holds Tryd.pinned (.plain (OpenSpec.ofChange northFirstErrorSpec)) northFirstErrorCard

/-- THE TIED CARD OF 'pandectlaw08.NorthJoins'. -/
def northJoinsCard : Claim7 := { stood := { row := northJoinsRow, standIns := [], harness := (true, "e6115ff4d060949328c84dffe046c38393cfee46a0abed83d6bb6ce34e6a50bb"), looks := true }, kinds := [], alts := [], laidByText := true, laidKinds := [.data, .data, .data, .sentinel, .sentinel], laidTests := true, laidLooks := .later }
def NorthJoinsCardSaid : Prop := Claim7.holds Tryd.pinned (.plain (OpenSpec.ofChange northJoinsSpec)) northJoinsCard

/-- THE TIED CARD OF 'pandectlaw08.NorthAbsent'. -/
def northAbsentCard : Claim7 := { stood := { row := northAbsentRow, standIns := [], harness := (true, "e6115ff4d060949328c84dffe046c38393cfee46a0abed83d6bb6ce34e6a50bb"), looks := true }, kinds := [], alts := [], laidByText := true, laidKinds := [.data, .data, .data, .sentinel, .sentinel], laidTests := true, laidLooks := .later }
def NorthAbsentCardSaid : Prop := Claim7.holds Tryd.pinned (.plain (OpenSpec.ofChange northAbsentSpec)) northAbsentCard

/-- THE TIED CARD OF 'pandectlaw08.NorthResults'. -/
def northResultsCard : Claim7 := { stood := { row := northResultsRow, standIns := [], harness := (true, "e6115ff4d060949328c84dffe046c38393cfee46a0abed83d6bb6ce34e6a50bb"), looks := true }, kinds := [], alts := [], laidByText := true, laidKinds := [.data, .data, .data, .sentinel, .sentinel], laidTests := true, laidLooks := .later }
def NorthResultsCardSaid : Prop := Claim7.holds Tryd.pinned (.plain (OpenSpec.ofChange northResultsSpec)) northResultsCard

/-- THE TIED CARD OF 'pandectlaw08.NorthEnds'. -/
def northEndsCard : Claim7 := { stood := { row := northEndsRow, standIns := [], harness := (true, "e6115ff4d060949328c84dffe046c38393cfee46a0abed83d6bb6ce34e6a50bb"), looks := true }, kinds := [], alts := [], laidByText := true, laidKinds := [.data, .data, .data, .sentinel, .sentinel], laidTests := true, laidLooks := .later }
def NorthEndsCardSaid : Prop := Claim7.holds Tryd.pinned (.plain (OpenSpec.ofChange northEndsSpec)) northEndsCard

/-- THE TIED CARD OF 'pandectlaw09.SouthGaps'. -/
def southGapsCard : Claim7 := { stood := { row := southGapsRow, standIns := [], harness := (true, "e6115ff4d060949328c84dffe046c38393cfee46a0abed83d6bb6ce34e6a50bb"), looks := true }, kinds := [], alts := [], laidByText := true, laidKinds := [.data, .data, .data, .sentinel, .sentinel], laidTests := true, laidLooks := .later }
def SouthGapsCardSaid : Prop := Claim7.holds Tryd.pinned (.plain (OpenSpec.ofChange southGapsSpec)) southGapsCard

/-- THE TIED CARD OF 'pandectlaw09.SouthFirst'. -/
def southFirstCard : Claim7 := { stood := { row := southFirstRow, standIns := [], harness := (true, "e6115ff4d060949328c84dffe046c38393cfee46a0abed83d6bb6ce34e6a50bb"), looks := true }, kinds := [], alts := [], laidByText := true, laidKinds := [.data, .data, .data, .sentinel, .sentinel], laidTests := true, laidLooks := .later }
def SouthFirstCardSaid : Prop := Claim7.holds Tryd.pinned (.plain (OpenSpec.ofChange southFirstSpec)) southFirstCard

/-- THE TIED CARD OF 'pandectlaw09.SouthPostfix'. -/
def southPostfixCard : Claim7 := { stood := { row := southPostfixRow, standIns := [], harness := (true, "e6115ff4d060949328c84dffe046c38393cfee46a0abed83d6bb6ce34e6a50bb"), looks := true }, kinds := [], alts := [], laidByText := true, laidKinds := [.data, .data, .data, .sentinel, .sentinel], laidTests := true, laidLooks := .later }
def SouthPostfixCardSaid : Prop := Claim7.holds Tryd.pinned (.plain (OpenSpec.ofChange southPostfixSpec)) southPostfixCard

/-- THE TIED CARD OF 'pandectlaw09.SouthParts'. -/
def southPartsCard : Claim7 := { stood := { row := southPartsRow, standIns := [], harness := (true, "e6115ff4d060949328c84dffe046c38393cfee46a0abed83d6bb6ce34e6a50bb"), looks := true }, kinds := [], alts := [], laidByText := true, laidKinds := [.data, .data, .data, .sentinel, .sentinel], laidTests := true, laidLooks := .later }
def SouthPartsCardSaid : Prop := Claim7.holds Tryd.pinned (.plain (OpenSpec.ofChange southPartsSpec)) southPartsCard

/-- THE TIED CARD OF 'pandectlaw09.SouthForm'. -/
def southFormCard : Claim7 := { stood := { row := southFormRow, standIns := [], harness := (true, "e6115ff4d060949328c84dffe046c38393cfee46a0abed83d6bb6ce34e6a50bb"), looks := true }, kinds := [], alts := [], laidByText := true, laidKinds := [.data, .data, .data, .sentinel, .sentinel], laidTests := true, laidLooks := .later }
def SouthFormCardSaid : Prop := Claim7.holds Tryd.pinned (.plain (OpenSpec.ofChange southFormSpec)) southFormCard

/-- THE SECOND FORM's CARD OF 'pandectlaw08.NorthGaps'. -/
def northGapsUptoCard : Claim7 := { stood := { row := northGapsUptoRow, standIns := [], harness := (true, "e6115ff4d060949328c84dffe046c38393cfee46a0abed83d6bb6ce34e6a50bb"), looks := true }, kinds := [], alts := [], laidByText := true, laidKinds := [.data, .data, .data, .sentinel, .sentinel], laidTests := true, laidLooks := .later }
def NorthGapsUptoCardSaid : Prop := Claim7.holds Tryd.pinned (.plain (OpenSpec.upto northGapsSpec)) northGapsUptoCard

/-- THE SECOND FORM's CARD OF 'pandectlaw08.NorthFirstError'. -/
def northFirstErrorUptoCard : Claim7 := { stood := { row := northFirstErrorUptoRow, standIns := [], harness := (true, "e6115ff4d060949328c84dffe046c38393cfee46a0abed83d6bb6ce34e6a50bb"), looks := true }, kinds := [], alts := [], laidByText := true, laidKinds := [.data, .data, .data, .sentinel, .sentinel], laidTests := true, laidLooks := .later }
def NorthFirstErrorUptoCardSaid : Prop := Claim7.holds Tryd.pinned (.plain (OpenSpec.upto northFirstErrorSpec)) northFirstErrorUptoCard

/-- THE SECOND FORM's CARD OF 'pandectlaw08.NorthJoins'. -/
def northJoinsUptoCard : Claim7 := { stood := { row := northJoinsUptoRow, standIns := [], harness := (true, "e6115ff4d060949328c84dffe046c38393cfee46a0abed83d6bb6ce34e6a50bb"), looks := true }, kinds := [], alts := [], laidByText := true, laidKinds := [.data, .data, .data, .sentinel, .sentinel], laidTests := true, laidLooks := .later }
def NorthJoinsUptoCardSaid : Prop := Claim7.holds Tryd.pinned (.plain (OpenSpec.upto northJoinsSpec)) northJoinsUptoCard

/-- THE SECOND FORM's CARD OF 'pandectlaw08.NorthAbsent'. -/
def northAbsentUptoCard : Claim7 := { stood := { row := northAbsentUptoRow, standIns := [], harness := (true, "e6115ff4d060949328c84dffe046c38393cfee46a0abed83d6bb6ce34e6a50bb"), looks := true }, kinds := [], alts := [], laidByText := true, laidKinds := [.data, .data, .data, .sentinel, .sentinel], laidTests := true, laidLooks := .later }
def NorthAbsentUptoCardSaid : Prop := Claim7.holds Tryd.pinned (.plain (OpenSpec.upto northAbsentSpec)) northAbsentUptoCard

/-- THE SECOND FORM's CARD OF 'pandectlaw08.NorthResults'. -/
def northResultsUptoCard : Claim7 := { stood := { row := northResultsUptoRow, standIns := [], harness := (true, "e6115ff4d060949328c84dffe046c38393cfee46a0abed83d6bb6ce34e6a50bb"), looks := true }, kinds := [], alts := [], laidByText := true, laidKinds := [.data, .data, .data, .sentinel, .sentinel], laidTests := true, laidLooks := .later }
def NorthResultsUptoCardSaid : Prop := Claim7.holds Tryd.pinned (.plain (OpenSpec.upto northResultsSpec)) northResultsUptoCard

/-- THE SECOND FORM's CARD OF 'pandectlaw08.NorthEnds'. -/
def northEndsUptoCard : Claim7 := { stood := { row := northEndsUptoRow, standIns := [], harness := (true, "e6115ff4d060949328c84dffe046c38393cfee46a0abed83d6bb6ce34e6a50bb"), looks := true }, kinds := [], alts := [], laidByText := true, laidKinds := [.data, .data, .data, .sentinel, .sentinel], laidTests := true, laidLooks := .later }
def NorthEndsUptoCardSaid : Prop := Claim7.holds Tryd.pinned (.plain (OpenSpec.upto northEndsSpec)) northEndsUptoCard

/-- THE SECOND FORM's CARD OF 'pandectlaw09.SouthGaps'. -/
def southGapsUptoCard : Claim7 := { stood := { row := southGapsUptoRow, standIns := [], harness := (true, "e6115ff4d060949328c84dffe046c38393cfee46a0abed83d6bb6ce34e6a50bb"), looks := true }, kinds := [], alts := [], laidByText := true, laidKinds := [.data, .data, .data, .sentinel, .sentinel], laidTests := true, laidLooks := .later }
def SouthGapsUptoCardSaid : Prop := Claim7.holds Tryd.pinned (.plain (OpenSpec.upto southGapsSpec)) southGapsUptoCard

/-- THE SECOND FORM's CARD OF 'pandectlaw09.SouthFirst'. -/
def southFirstUptoCard : Claim7 := { stood := { row := southFirstUptoRow, standIns := [], harness := (true, "e6115ff4d060949328c84dffe046c38393cfee46a0abed83d6bb6ce34e6a50bb"), looks := true }, kinds := [], alts := [], laidByText := true, laidKinds := [.data, .data, .data, .sentinel, .sentinel], laidTests := true, laidLooks := .later }
def SouthFirstUptoCardSaid : Prop := Claim7.holds Tryd.pinned (.plain (OpenSpec.upto southFirstSpec)) southFirstUptoCard

/-- THE SECOND FORM's CARD OF 'pandectlaw09.SouthPostfix'. -/
def southPostfixUptoCard : Claim7 := { stood := { row := southPostfixUptoRow, standIns := [], harness := (true, "e6115ff4d060949328c84dffe046c38393cfee46a0abed83d6bb6ce34e6a50bb"), looks := true }, kinds := [], alts := [], laidByText := true, laidKinds := [.data, .data, .data, .sentinel, .sentinel], laidTests := true, laidLooks := .later }
def SouthPostfixUptoCardSaid : Prop := Claim7.holds Tryd.pinned (.plain (OpenSpec.upto southPostfixSpec)) southPostfixUptoCard

/-- THE SECOND FORM's CARD OF 'pandectlaw09.SouthParts'. -/
def southPartsUptoCard : Claim7 := { stood := { row := southPartsUptoRow, standIns := [], harness := (true, "e6115ff4d060949328c84dffe046c38393cfee46a0abed83d6bb6ce34e6a50bb"), looks := true }, kinds := [], alts := [], laidByText := true, laidKinds := [.data, .data, .data, .sentinel, .sentinel], laidTests := true, laidLooks := .later }
def SouthPartsUptoCardSaid : Prop := Claim7.holds Tryd.pinned (.plain (OpenSpec.upto southPartsSpec)) southPartsUptoCard

/-- THE SECOND FORM's CARD OF 'pandectlaw09.SouthForm'. -/
def southFormUptoCard : Claim7 := { stood := { row := southFormUptoRow, standIns := [], harness := (true, "e6115ff4d060949328c84dffe046c38393cfee46a0abed83d6bb6ce34e6a50bb"), looks := true }, kinds := [], alts := [], laidByText := true, laidKinds := [.data, .data, .data, .sentinel, .sentinel], laidTests := true, laidLooks := .later }
def SouthFormUptoCardSaid : Prop := Claim7.holds Tryd.pinned (.plain (OpenSpec.upto southFormSpec)) southFormUptoCard
end Rows
end Go.Proofs.YtlhgflnmdmifaaaDoor
