/-
  DERIVED. GIVEN WITH THE SEED: THE CARDS: each row of YtbncdbgeckcobaaDoorRows.lean that lists a variable, with what it lists TIED to the program's text (the seventh form; the later family's looks); each row that meets fmt, with fmt's text TOLD by the authors' own Lean function (tested against real Go, not proved from fmt's source: count such statements apart). THE CARD IS WHAT COUNTS. Prove the row's statement (the work); the ties are given (YtbncdbgeckcobaaDoorTie.lean); close each card by the builder's one call (the guide's Derived/Test/ToyasCard.lean, 'card_holds'). Laid BY PROGRAM, IN A SANDBOX (cutbox-door.mjs). By AI agents, Wed Nov 11 2026. No macro, syntax, notation, axiom, sorry.
-/
import Derived.Test.YtbncdbgeckcobaaDoorRows
import GoSem.ClaimSeven
namespace Go.Proofs.YtbncdbgeckcobaaDoor
namespace Rows

/-- THE TIED CARD OF 'ragpickerlaw07.FreesOnce'. -/
def freesOnceCard : Claim7 := { stood := { row := freesOnceRow, standIns := [], harness := (true, "f8872b4a6cfb942649b3a313d05ee05b901b507ed883d18e2dbda67ba978be2f"), looks := true }, kinds := [], alts := [], laidByText := true, laidKinds := [.data], laidTests := true, laidLooks := .later }
def FreesOnceCardSaid : Prop := Claim7.holds Tryd.pinned (.plain (OpenSpec.ofChange freesOnceSpec)) freesOnceCard

/-- THE TIED CARD OF 'ragpickerlaw07.FreesStack'. -/
def freesStackCard : Claim7 := { stood := { row := freesStackRow, standIns := [], harness := (true, "f8872b4a6cfb942649b3a313d05ee05b901b507ed883d18e2dbda67ba978be2f"), looks := true }, kinds := [], alts := [], laidByText := true, laidKinds := [.data], laidTests := true, laidLooks := .later }
def FreesStackCardSaid : Prop := Claim7.holds Tryd.pinned (.plain (OpenSpec.ofChange freesStackSpec)) freesStackCard

/-- THE TIED CARD OF 'ragpickerlaw10.TablesFull'. -/
def tablesFullCard : Claim7 := { stood := { row := tablesFullRow, standIns := [], harness := (true, "f8872b4a6cfb942649b3a313d05ee05b901b507ed883d18e2dbda67ba978be2f"), looks := true }, kinds := [], alts := [], laidByText := true, laidKinds := [.data], laidTests := true, laidLooks := .later }
def TablesFullCardSaid : Prop := Claim7.holds Tryd.pinned (.plain (OpenSpec.ofChange tablesFullSpec)) tablesFullCard

/-- THE TIED CARD OF 'ragpickerlaw12.OrphansOnce'. -/
def orphansOnceCard : Claim7 := { stood := { row := orphansOnceRow, standIns := [], harness := (true, "f8872b4a6cfb942649b3a313d05ee05b901b507ed883d18e2dbda67ba978be2f"), looks := true }, kinds := [], alts := [], laidByText := true, laidKinds := [.data], laidTests := true, laidLooks := .later }
def OrphansOnceCardSaid : Prop := Claim7.holds Tryd.pinned (.plain (OpenSpec.ofChange orphansOnceSpec)) orphansOnceCard

/-- THE TIED CARD OF 'ragpickerlaw12.OrphansOrder'. -/
def orphansOrderCard : Claim7 := { stood := { row := orphansOrderRow, standIns := [], harness := (true, "f8872b4a6cfb942649b3a313d05ee05b901b507ed883d18e2dbda67ba978be2f"), looks := true }, kinds := [], alts := [], laidByText := true, laidKinds := [.data], laidTests := true, laidLooks := .later }
def OrphansOrderCardSaid : Prop := Claim7.holds Tryd.pinned (.plain (OpenSpec.ofChange orphansOrderSpec)) orphansOrderCard

/-- THE TIED CARD OF 'ragpickerlaw12.OrphansVoid'. -/
def orphansVoidCard : Claim7 := { stood := { row := orphansVoidRow, standIns := [], harness := (true, "f8872b4a6cfb942649b3a313d05ee05b901b507ed883d18e2dbda67ba978be2f"), looks := true }, kinds := [], alts := [], laidByText := true, laidKinds := [.data], laidTests := true, laidLooks := .later }
def OrphansVoidCardSaid : Prop := Claim7.holds Tryd.pinned (.plain (OpenSpec.ofChange orphansVoidSpec)) orphansVoidCard

/-- THE TIED CARD OF 'ragpickerlaw12.OrphansRound'. -/
def orphansRoundCard : Claim7 := { stood := { row := orphansRoundRow, standIns := [], harness := (true, "f8872b4a6cfb942649b3a313d05ee05b901b507ed883d18e2dbda67ba978be2f"), looks := true }, kinds := [], alts := [], laidByText := true, laidKinds := [.data], laidTests := true, laidLooks := .later }
def OrphansRoundCardSaid : Prop := Claim7.holds Tryd.pinned (.plain (OpenSpec.ofChange orphansRoundSpec)) orphansRoundCard

/-- THE TIED CARD OF 'ragpickerlaw11.BlocksTable'. -/
def blocksTableCard : Claim7 := { stood := { row := blocksTableRow, standIns := [], harness := (true, "f8872b4a6cfb942649b3a313d05ee05b901b507ed883d18e2dbda67ba978be2f"), looks := true }, kinds := [], alts := [], laidByText := true, laidKinds := [.data], laidTests := true, laidLooks := .later }
def BlocksTableCardSaid : Prop := Claim7.holds Tryd.pinned (.plain (OpenSpec.ofChange blocksTableSpec)) blocksTableCard

/-- THE TIED CARD OF 'ragpickerlaw08.AllocsOnce'. -/
def allocsOnceCard : Claim7 := { stood := { row := allocsOnceRow, standIns := [], harness := (true, "f8872b4a6cfb942649b3a313d05ee05b901b507ed883d18e2dbda67ba978be2f"), looks := true }, kinds := [], alts := [], laidByText := true, laidKinds := [.data], laidTests := true, laidLooks := .later }
def AllocsOnceCardSaid : Prop := Claim7.holds Tryd.pinned (.plain (OpenSpec.ofChange allocsOnceSpec)) allocsOnceCard

/-- THE TIED CARD OF 'ragpickerlaw08.AllocsRound'. -/
def allocsRoundCard : Claim7 := { stood := { row := allocsRoundRow, standIns := [], harness := (true, "f8872b4a6cfb942649b3a313d05ee05b901b507ed883d18e2dbda67ba978be2f"), looks := true }, kinds := [], alts := [], laidByText := true, laidKinds := [.data], laidTests := true, laidLooks := .later }
def AllocsRoundCardSaid : Prop := Claim7.holds Tryd.pinned (.plain (OpenSpec.ofChange allocsRoundSpec)) allocsRoundCard

/-- THE TIED CARD OF 'ragpickerlaw16.HazardsMay'. -/
def hazardsMayCard : Claim7 := { stood := { row := hazardsMayRow, standIns := [], harness := (true, "f8872b4a6cfb942649b3a313d05ee05b901b507ed883d18e2dbda67ba978be2f"), looks := true }, kinds := [], alts := [], laidByText := true, laidKinds := [.data], laidTests := true, laidLooks := .later }
def HazardsMayCardSaid : Prop := Claim7.holds Tryd.pinned (.plain (OpenSpec.ofChange hazardsMaySpec)) hazardsMayCard

/-- THE TIED CARD OF 'ragpickerlaw16.HazardsHeld'. -/
def hazardsHeldCard : Claim7 := { stood := { row := hazardsHeldRow, standIns := [], harness := (true, "f8872b4a6cfb942649b3a313d05ee05b901b507ed883d18e2dbda67ba978be2f"), looks := true }, kinds := [], alts := [], laidByText := true, laidKinds := [.data], laidTests := true, laidLooks := .later }
def HazardsHeldCardSaid : Prop := Claim7.holds Tryd.pinned (.plain (OpenSpec.ofChange hazardsHeldSpec)) hazardsHeldCard

/-- THE TIED CARD OF 'ragpickerlaw22.BarriersAll'. -/
def barriersAllCard : Claim7 := { stood := { row := barriersAllRow, standIns := [], harness := (true, "f8872b4a6cfb942649b3a313d05ee05b901b507ed883d18e2dbda67ba978be2f"), looks := true }, kinds := [], alts := [], laidByText := true, laidKinds := [.data], laidTests := true, laidLooks := .later }
def BarriersAllCardSaid : Prop := Claim7.holds Tryd.pinned (.plain (OpenSpec.ofChange barriersAllSpec)) barriersAllCard

/-- THE TIED CARD OF 'ragpickerlaw16.HazardsKeep'. -/
def hazardsKeepCard : Claim7 := { stood := { row := hazardsKeepRow, standIns := [], harness := (true, "f8872b4a6cfb942649b3a313d05ee05b901b507ed883d18e2dbda67ba978be2f"), looks := true }, kinds := [], alts := [], laidByText := true, laidKinds := [.data], laidTests := true, laidLooks := .later }
def HazardsKeepCardSaid : Prop := Claim7.holds Tryd.pinned (.plain (OpenSpec.ofChange hazardsKeepSpec)) hazardsKeepCard

/-- THE SECOND FORM's CARD OF 'ragpickerlaw07.FreesOnce'. -/
def freesOnceUptoCard : Claim7 := { stood := { row := freesOnceUptoRow, standIns := [], harness := (true, "f8872b4a6cfb942649b3a313d05ee05b901b507ed883d18e2dbda67ba978be2f"), looks := true }, kinds := [], alts := [], laidByText := true, laidKinds := [.data], laidTests := true, laidLooks := .later }
def FreesOnceUptoCardSaid : Prop := Claim7.holds Tryd.pinned (.plain (OpenSpec.upto freesOnceSpec)) freesOnceUptoCard

/-- THE SECOND FORM's CARD OF 'ragpickerlaw07.FreesStack'. -/
def freesStackUptoCard : Claim7 := { stood := { row := freesStackUptoRow, standIns := [], harness := (true, "f8872b4a6cfb942649b3a313d05ee05b901b507ed883d18e2dbda67ba978be2f"), looks := true }, kinds := [], alts := [], laidByText := true, laidKinds := [.data], laidTests := true, laidLooks := .later }
def FreesStackUptoCardSaid : Prop := Claim7.holds Tryd.pinned (.plain (OpenSpec.upto freesStackSpec)) freesStackUptoCard

/-- THE SECOND FORM's CARD OF 'ragpickerlaw10.TablesFull'. -/
def tablesFullUptoCard : Claim7 := { stood := { row := tablesFullUptoRow, standIns := [], harness := (true, "f8872b4a6cfb942649b3a313d05ee05b901b507ed883d18e2dbda67ba978be2f"), looks := true }, kinds := [], alts := [], laidByText := true, laidKinds := [.data], laidTests := true, laidLooks := .later }
def TablesFullUptoCardSaid : Prop := Claim7.holds Tryd.pinned (.plain (OpenSpec.upto tablesFullSpec)) tablesFullUptoCard

/-- THE SECOND FORM's CARD OF 'ragpickerlaw12.OrphansOnce'. -/
def orphansOnceUptoCard : Claim7 := { stood := { row := orphansOnceUptoRow, standIns := [], harness := (true, "f8872b4a6cfb942649b3a313d05ee05b901b507ed883d18e2dbda67ba978be2f"), looks := true }, kinds := [], alts := [], laidByText := true, laidKinds := [.data], laidTests := true, laidLooks := .later }
def OrphansOnceUptoCardSaid : Prop := Claim7.holds Tryd.pinned (.plain (OpenSpec.upto orphansOnceSpec)) orphansOnceUptoCard

/-- THE SECOND FORM's CARD OF 'ragpickerlaw12.OrphansOrder'. -/
def orphansOrderUptoCard : Claim7 := { stood := { row := orphansOrderUptoRow, standIns := [], harness := (true, "f8872b4a6cfb942649b3a313d05ee05b901b507ed883d18e2dbda67ba978be2f"), looks := true }, kinds := [], alts := [], laidByText := true, laidKinds := [.data], laidTests := true, laidLooks := .later }
def OrphansOrderUptoCardSaid : Prop := Claim7.holds Tryd.pinned (.plain (OpenSpec.upto orphansOrderSpec)) orphansOrderUptoCard

/-- THE SECOND FORM's CARD OF 'ragpickerlaw12.OrphansVoid'. -/
def orphansVoidUptoCard : Claim7 := { stood := { row := orphansVoidUptoRow, standIns := [], harness := (true, "f8872b4a6cfb942649b3a313d05ee05b901b507ed883d18e2dbda67ba978be2f"), looks := true }, kinds := [], alts := [], laidByText := true, laidKinds := [.data], laidTests := true, laidLooks := .later }
def OrphansVoidUptoCardSaid : Prop := Claim7.holds Tryd.pinned (.plain (OpenSpec.upto orphansVoidSpec)) orphansVoidUptoCard

/-- THE SECOND FORM's CARD OF 'ragpickerlaw12.OrphansRound'. -/
def orphansRoundUptoCard : Claim7 := { stood := { row := orphansRoundUptoRow, standIns := [], harness := (true, "f8872b4a6cfb942649b3a313d05ee05b901b507ed883d18e2dbda67ba978be2f"), looks := true }, kinds := [], alts := [], laidByText := true, laidKinds := [.data], laidTests := true, laidLooks := .later }
def OrphansRoundUptoCardSaid : Prop := Claim7.holds Tryd.pinned (.plain (OpenSpec.upto orphansRoundSpec)) orphansRoundUptoCard

/-- THE SECOND FORM's CARD OF 'ragpickerlaw11.BlocksTable'. -/
def blocksTableUptoCard : Claim7 := { stood := { row := blocksTableUptoRow, standIns := [], harness := (true, "f8872b4a6cfb942649b3a313d05ee05b901b507ed883d18e2dbda67ba978be2f"), looks := true }, kinds := [], alts := [], laidByText := true, laidKinds := [.data], laidTests := true, laidLooks := .later }
def BlocksTableUptoCardSaid : Prop := Claim7.holds Tryd.pinned (.plain (OpenSpec.upto blocksTableSpec)) blocksTableUptoCard

/-- THE SECOND FORM's CARD OF 'ragpickerlaw08.AllocsOnce'. -/
def allocsOnceUptoCard : Claim7 := { stood := { row := allocsOnceUptoRow, standIns := [], harness := (true, "f8872b4a6cfb942649b3a313d05ee05b901b507ed883d18e2dbda67ba978be2f"), looks := true }, kinds := [], alts := [], laidByText := true, laidKinds := [.data], laidTests := true, laidLooks := .later }
def AllocsOnceUptoCardSaid : Prop := Claim7.holds Tryd.pinned (.plain (OpenSpec.upto allocsOnceSpec)) allocsOnceUptoCard

/-- THE SECOND FORM's CARD OF 'ragpickerlaw08.AllocsRound'. -/
def allocsRoundUptoCard : Claim7 := { stood := { row := allocsRoundUptoRow, standIns := [], harness := (true, "f8872b4a6cfb942649b3a313d05ee05b901b507ed883d18e2dbda67ba978be2f"), looks := true }, kinds := [], alts := [], laidByText := true, laidKinds := [.data], laidTests := true, laidLooks := .later }
def AllocsRoundUptoCardSaid : Prop := Claim7.holds Tryd.pinned (.plain (OpenSpec.upto allocsRoundSpec)) allocsRoundUptoCard

/-- THE SECOND FORM's CARD OF 'ragpickerlaw16.HazardsMay'. -/
def hazardsMayUptoCard : Claim7 := { stood := { row := hazardsMayUptoRow, standIns := [], harness := (true, "f8872b4a6cfb942649b3a313d05ee05b901b507ed883d18e2dbda67ba978be2f"), looks := true }, kinds := [], alts := [], laidByText := true, laidKinds := [.data], laidTests := true, laidLooks := .later }
def HazardsMayUptoCardSaid : Prop := Claim7.holds Tryd.pinned (.plain (OpenSpec.upto hazardsMaySpec)) hazardsMayUptoCard

/-- THE SECOND FORM's CARD OF 'ragpickerlaw16.HazardsHeld'. -/
def hazardsHeldUptoCard : Claim7 := { stood := { row := hazardsHeldUptoRow, standIns := [], harness := (true, "f8872b4a6cfb942649b3a313d05ee05b901b507ed883d18e2dbda67ba978be2f"), looks := true }, kinds := [], alts := [], laidByText := true, laidKinds := [.data], laidTests := true, laidLooks := .later }
def HazardsHeldUptoCardSaid : Prop := Claim7.holds Tryd.pinned (.plain (OpenSpec.upto hazardsHeldSpec)) hazardsHeldUptoCard

/-- THE SECOND FORM's CARD OF 'ragpickerlaw22.BarriersAll'. -/
def barriersAllUptoCard : Claim7 := { stood := { row := barriersAllUptoRow, standIns := [], harness := (true, "f8872b4a6cfb942649b3a313d05ee05b901b507ed883d18e2dbda67ba978be2f"), looks := true }, kinds := [], alts := [], laidByText := true, laidKinds := [.data], laidTests := true, laidLooks := .later }
def BarriersAllUptoCardSaid : Prop := Claim7.holds Tryd.pinned (.plain (OpenSpec.upto barriersAllSpec)) barriersAllUptoCard

/-- THE SECOND FORM's CARD OF 'ragpickerlaw16.HazardsKeep'. -/
def hazardsKeepUptoCard : Claim7 := { stood := { row := hazardsKeepUptoRow, standIns := [], harness := (true, "f8872b4a6cfb942649b3a313d05ee05b901b507ed883d18e2dbda67ba978be2f"), looks := true }, kinds := [], alts := [], laidByText := true, laidKinds := [.data], laidTests := true, laidLooks := .later }
def HazardsKeepUptoCardSaid : Prop := Claim7.holds Tryd.pinned (.plain (OpenSpec.upto hazardsKeepSpec)) hazardsKeepUptoCard
end Rows
end Go.Proofs.YtbncdbgeckcobaaDoor
