/-
  DERIVED. GIVEN WITH THE SEED: THE CARDS: each row of YtghkdkdlbkmicaaDoorRows.lean that lists a variable, with what it lists TIED to the program's text (the seventh form; the later family's looks); each row that meets fmt, with fmt's text TOLD by the authors' own Lean function (tested against real Go, not proved from fmt's source: count such statements apart). THE CARD IS WHAT COUNTS. Prove the row's statement (the work); the ties are given (YtghkdkdlbkmicaaDoorTie.lean); close each card by the builder's one call (the guide's Derived/Test/ToyasCard.lean, 'card_holds'). Laid BY PROGRAM, IN A SANDBOX (cutbox-door.mjs). By AI agents, Wed Nov 11 2026. No macro, syntax, notation, axiom, sorry.
-/
import Derived.Test.YtghkdkdlbkmicaaDoorRows
import GoSem.ClaimSeven
namespace Go.Proofs.YtghkdkdlbkmicaaDoor
namespace Rows

/-- THE TIED CARD OF 'ragpickerlaw10.TablesFull'. -/
def tablesFullCard : Claim7 := { stood := { row := tablesFullRow, standIns := [], harness := (true, "fbed9baec28960542e4807ce64d6164fe0f44be99b8b3d7686814e532c0af763"), looks := false }, kinds := [], alts := [], laidByText := true, laidKinds := [.data], laidTests := true, laidLooks := .later }
def TablesFullCardSaid : Prop := Claim7.holds Tryd.pinned (.plain (OpenSpec.ofChange tablesFullSpec)) tablesFullCard

/-- THE TIED CARD OF 'ragpickerlaw12.OrphansOnce'. -/
def orphansOnceCard : Claim7 := { stood := { row := orphansOnceRow, standIns := [], harness := (true, "fbed9baec28960542e4807ce64d6164fe0f44be99b8b3d7686814e532c0af763"), looks := false }, kinds := [], alts := [], laidByText := true, laidKinds := [.data], laidTests := true, laidLooks := .later }
def OrphansOnceCardSaid : Prop := Claim7.holds Tryd.pinned (.plain (OpenSpec.ofChange orphansOnceSpec)) orphansOnceCard

/-- THE TIED CARD OF 'ragpickerlaw12.OrphansOrder'. -/
def orphansOrderCard : Claim7 := { stood := { row := orphansOrderRow, standIns := [], harness := (true, "fbed9baec28960542e4807ce64d6164fe0f44be99b8b3d7686814e532c0af763"), looks := false }, kinds := [], alts := [], laidByText := true, laidKinds := [.data], laidTests := true, laidLooks := .later }
def OrphansOrderCardSaid : Prop := Claim7.holds Tryd.pinned (.plain (OpenSpec.ofChange orphansOrderSpec)) orphansOrderCard

/-- THE TIED CARD OF 'ragpickerlaw12.OrphansVoid'. -/
def orphansVoidCard : Claim7 := { stood := { row := orphansVoidRow, standIns := [], harness := (true, "fbed9baec28960542e4807ce64d6164fe0f44be99b8b3d7686814e532c0af763"), looks := false }, kinds := [], alts := [], laidByText := true, laidKinds := [.data], laidTests := true, laidLooks := .later }
def OrphansVoidCardSaid : Prop := Claim7.holds Tryd.pinned (.plain (OpenSpec.ofChange orphansVoidSpec)) orphansVoidCard

/-- THE TIED CARD OF 'ragpickerlaw12.OrphansRound'. -/
def orphansRoundCard : Claim7 := { stood := { row := orphansRoundRow, standIns := [], harness := (true, "fbed9baec28960542e4807ce64d6164fe0f44be99b8b3d7686814e532c0af763"), looks := false }, kinds := [], alts := [], laidByText := true, laidKinds := [.data], laidTests := true, laidLooks := .later }
def OrphansRoundCardSaid : Prop := Claim7.holds Tryd.pinned (.plain (OpenSpec.ofChange orphansRoundSpec)) orphansRoundCard

/-- THE TIED CARD OF 'ragpickerlaw11.BlocksTable'. -/
def blocksTableCard : Claim7 := { stood := { row := blocksTableRow, standIns := [], harness := (true, "fbed9baec28960542e4807ce64d6164fe0f44be99b8b3d7686814e532c0af763"), looks := false }, kinds := [], alts := [], laidByText := true, laidKinds := [.data], laidTests := true, laidLooks := .later }
def BlocksTableCardSaid : Prop := Claim7.holds Tryd.pinned (.plain (OpenSpec.ofChange blocksTableSpec)) blocksTableCard

/-- THE SECOND FORM's CARD OF 'ragpickerlaw10.TablesFull'. -/
def tablesFullUptoCard : Claim7 := { stood := { row := tablesFullUptoRow, standIns := [], harness := (true, "fbed9baec28960542e4807ce64d6164fe0f44be99b8b3d7686814e532c0af763"), looks := false }, kinds := [], alts := [], laidByText := true, laidKinds := [.data], laidTests := true, laidLooks := .later }
def TablesFullUptoCardSaid : Prop := Claim7.holds Tryd.pinned (.plain (OpenSpec.upto tablesFullSpec)) tablesFullUptoCard

/-- THE SECOND FORM's CARD OF 'ragpickerlaw12.OrphansOnce'. -/
def orphansOnceUptoCard : Claim7 := { stood := { row := orphansOnceUptoRow, standIns := [], harness := (true, "fbed9baec28960542e4807ce64d6164fe0f44be99b8b3d7686814e532c0af763"), looks := false }, kinds := [], alts := [], laidByText := true, laidKinds := [.data], laidTests := true, laidLooks := .later }
def OrphansOnceUptoCardSaid : Prop := Claim7.holds Tryd.pinned (.plain (OpenSpec.upto orphansOnceSpec)) orphansOnceUptoCard

/-- THE SECOND FORM's CARD OF 'ragpickerlaw12.OrphansOrder'. -/
def orphansOrderUptoCard : Claim7 := { stood := { row := orphansOrderUptoRow, standIns := [], harness := (true, "fbed9baec28960542e4807ce64d6164fe0f44be99b8b3d7686814e532c0af763"), looks := false }, kinds := [], alts := [], laidByText := true, laidKinds := [.data], laidTests := true, laidLooks := .later }
def OrphansOrderUptoCardSaid : Prop := Claim7.holds Tryd.pinned (.plain (OpenSpec.upto orphansOrderSpec)) orphansOrderUptoCard

/-- THE SECOND FORM's CARD OF 'ragpickerlaw12.OrphansVoid'. -/
def orphansVoidUptoCard : Claim7 := { stood := { row := orphansVoidUptoRow, standIns := [], harness := (true, "fbed9baec28960542e4807ce64d6164fe0f44be99b8b3d7686814e532c0af763"), looks := false }, kinds := [], alts := [], laidByText := true, laidKinds := [.data], laidTests := true, laidLooks := .later }
def OrphansVoidUptoCardSaid : Prop := Claim7.holds Tryd.pinned (.plain (OpenSpec.upto orphansVoidSpec)) orphansVoidUptoCard

/-- THE SECOND FORM's CARD OF 'ragpickerlaw12.OrphansRound'. -/
def orphansRoundUptoCard : Claim7 := { stood := { row := orphansRoundUptoRow, standIns := [], harness := (true, "fbed9baec28960542e4807ce64d6164fe0f44be99b8b3d7686814e532c0af763"), looks := false }, kinds := [], alts := [], laidByText := true, laidKinds := [.data], laidTests := true, laidLooks := .later }
def OrphansRoundUptoCardSaid : Prop := Claim7.holds Tryd.pinned (.plain (OpenSpec.upto orphansRoundSpec)) orphansRoundUptoCard

/-- THE SECOND FORM's CARD OF 'ragpickerlaw11.BlocksTable'. -/
def blocksTableUptoCard : Claim7 := { stood := { row := blocksTableUptoRow, standIns := [], harness := (true, "fbed9baec28960542e4807ce64d6164fe0f44be99b8b3d7686814e532c0af763"), looks := false }, kinds := [], alts := [], laidByText := true, laidKinds := [.data], laidTests := true, laidLooks := .later }
def BlocksTableUptoCardSaid : Prop := Claim7.holds Tryd.pinned (.plain (OpenSpec.upto blocksTableSpec)) blocksTableUptoCard
end Rows
end Go.Proofs.YtghkdkdlbkmicaaDoor
