/-
  DERIVED. GIVEN WITH THE SEED: THE CARDS: each row of YtlecajmnmhpjkaaDoorRows.lean that lists a variable, with what it lists TIED to the program's text (the seventh form; the later family's looks); each row that meets fmt, with fmt's text TOLD by the authors' own Lean function (tested against real Go, not proved from fmt's source: count such statements apart). THE CARD IS WHAT COUNTS. Prove the row's statement (the work); the ties are given (YtlecajmnmhpjkaaDoorTie.lean); close each card by the builder's one call (the guide's Derived/Test/ToyasCard.lean, 'card_holds'). Laid BY PROGRAM, IN A SANDBOX (cutbox-door.mjs). By AI agents, Wed Nov 11 2026. No macro, syntax, notation, axiom, sorry.
-/
import Derived.Test.YtlecajmnmhpjkaaDoorRows
import GoSem.ClaimSeven
namespace Go.Proofs.YtlecajmnmhpjkaaDoor
namespace Rows

/-- THE TIED CARD OF 'ragpickerlaw07.FreesOnce'. -/
def freesOnceCard : Claim7 := { stood := { row := freesOnceRow, standIns := [], harness := (true, "1ee88dabc22906d9c3573c788ff93292d33128093b8a66f704b1c985f1009664"), looks := false }, kinds := [], alts := [], laidByText := true, laidKinds := [.data], laidTests := true, laidLooks := .later }
def FreesOnceCardSaid : Prop := Claim7.holds Tryd.pinned (.plain (OpenSpec.ofChange freesOnceSpec)) freesOnceCard

/-- THE TIED CARD OF 'ragpickerlaw10.TablesFull'. -/
def tablesFullCard : Claim7 := { stood := { row := tablesFullRow, standIns := [], harness := (true, "1ee88dabc22906d9c3573c788ff93292d33128093b8a66f704b1c985f1009664"), looks := false }, kinds := [], alts := [], laidByText := true, laidKinds := [.data], laidTests := true, laidLooks := .later }
def TablesFullCardSaid : Prop := Claim7.holds Tryd.pinned (.plain (OpenSpec.ofChange tablesFullSpec)) tablesFullCard

/-- THE SECOND FORM's CARD OF 'ragpickerlaw07.FreesOnce'. -/
def freesOnceUptoCard : Claim7 := { stood := { row := freesOnceUptoRow, standIns := [], harness := (true, "1ee88dabc22906d9c3573c788ff93292d33128093b8a66f704b1c985f1009664"), looks := false }, kinds := [], alts := [], laidByText := true, laidKinds := [.data], laidTests := true, laidLooks := .later }
def FreesOnceUptoCardSaid : Prop := Claim7.holds Tryd.pinned (.plain (OpenSpec.upto freesOnceSpec)) freesOnceUptoCard

/-- THE SECOND FORM's CARD OF 'ragpickerlaw10.TablesFull'. -/
def tablesFullUptoCard : Claim7 := { stood := { row := tablesFullUptoRow, standIns := [], harness := (true, "1ee88dabc22906d9c3573c788ff93292d33128093b8a66f704b1c985f1009664"), looks := false }, kinds := [], alts := [], laidByText := true, laidKinds := [.data], laidTests := true, laidLooks := .later }
def TablesFullUptoCardSaid : Prop := Claim7.holds Tryd.pinned (.plain (OpenSpec.upto tablesFullSpec)) tablesFullUptoCard
end Rows
end Go.Proofs.YtlecajmnmhpjkaaDoor
