/-
  NARROWER THAN 'FOR EVERY INPUT', by the rows' own cells (each row's printed sentence says how): TablesFull: laid · OrphansOnce: laid · OrphansOrder: laid · OrphansVoid: laid · OrphansRound: laid · BlocksTable: laid.
  DERIVED. THE GIVEN ROWS OF THIS SEAT. 6 by the template 'for every input the law returns true; each argument reads behind the call as it read before'; 0 by the template 'total and deterministic' (their statements: YtghkdkdlbkmicaaDoorTotals.lean).
  GIVEN WITH THE SEED: the statements are not yours to turn. If you find one false, say at which input.
  Laid BY PROGRAM, IN A SANDBOX (cutbox-rows.mjs): the forced cells as the released guide's own fill.sh prints them over the translation ebe65fd705e909b6… (all of the seat's roots in one cut). By AI agents, Wed Nov 11 2026. No macro, syntax, notation, axiom, sorry.
-/
import Derived.Test.YtghkdkdlbkmicaaDoorChecked
import GoSem.Claim
import GoSem.ClaimJoined
import GoSem.ClaimMapViews
import Derived.JoinedTies
import Derived.KernelRfl
namespace Go.Proofs.YtghkdkdlbkmicaaDoor
/- THE CELL 'sum', in the pinned program and in every row, IS THE sha256 OF THE DUMP (.gsa) THAT YtghkdkdlbkmicaaDoorProg.lean LOADS. Nothing in Lean hashes anything: it is a label: what it is worth is what the hold of that sum in a sandbox is worth. -/
noncomputable def Tryd.pinned : Pinned := { name := "ytghkdkdlbkmicaadoor", sum := "ebe65fd705e909b635bf0040d2342073d912ac5794dd37505ade4c522ac68b3a", checked := Tryd.checked }
namespace Rows
def none {H : Type} : Left H := { results := [], args := [] }

/- WHAT THE LISTED PACKAGE-LEVEL VARIABLES READ AS WHEN THE CALL BEGINS. Each datum BY PROGRAM (the guide's laid-datum.mjs) off the statement by which the dump's own 'gosem.cut.vars' lays the variable. In a bare row this is a premise. The card (YtghkdkdlbkmicaaDoorCards.lean) ties it to the program's text. -/
def laid_ragpicker_words_fields {H : Type} : DataW H := .agg [.agg [.lit (.int .u64 0), .lit (.int .u64 16)], .agg [.lit (.int .u64 16), .lit (.int .u64 32)], .agg [.lit (.int .u64 16), .lit (.int .u64 48)], .agg [.lit (.int .u64 0), .lit (.int .u64 3)], .agg [.lit (.int .u64 3), .lit (.int .u64 32)], .agg [.lit (.int .u64 0), .lit (.int .u64 3)], .agg [.lit (.int .u64 3), .lit (.int .u64 3)], .agg [.lit (.int .u64 6), .lit (.int .u64 3)], .agg [.lit (.int .u64 16), .lit (.int .u64 48)], .agg [.lit (.int .u64 0), .lit (.int .u64 32)], .agg [.lit (.int .u64 32), .lit (.int .u64 1)]]

/-- 'ragpickerlaw10.TablesFull': WHATEVER THE INPUT: true; the input reads as it did. -/
def tablesFullSpec : ChangeSpec := { name := "tablesFull", fn := fun _ => fun
  | [d1, d2, d3] => { results := [.lit (.bool true)], args := [d1, d2, d3] }
  | _ => none }
def tablesFullRow : OpenClaim := { program := "ytghkdkdlbkmicaadoor", sum := "ebe65fd705e909b635bf0040d2342073d912ac5794dd37505ade4c522ac68b3a", func := "ragpicker/ragpickerlaw10.TablesFull", spec := "tablesFull", unfollowed := true, recurses := true, named := ["ragpicker/words.fields"], plainKeys := false, apart := false, laid := [("ragpicker/words.fields", laid_ragpicker_words_fields)] }
def TablesFullSaid : Prop := tablesFullRow.holds Tryd.pinned (OpenSpec.ofChange tablesFullSpec)

/-- ITS FALSE NEIGHBOUR: 'it returns false'. Refute it at one input. -/
def tablesFullWrong : ChangeSpec := { name := "tablesFull", fn := fun _ => fun
  | [d1, d2, d3] => { results := [.lit (.bool false)], args := [d1, d2, d3] }
  | _ => none }
def TablesFullWrongFalsely : Prop := tablesFullRow.holds Tryd.pinned (OpenSpec.ofChange tablesFullWrong)

/-- 'ragpickerlaw12.OrphansOnce': WHATEVER THE INPUT: true; the input reads as it did. -/
def orphansOnceSpec : ChangeSpec := { name := "orphansOnce", fn := fun _ => fun
  | [d1, d2] => { results := [.lit (.bool true)], args := [d1, d2] }
  | _ => none }
def orphansOnceRow : OpenClaim := { program := "ytghkdkdlbkmicaadoor", sum := "ebe65fd705e909b635bf0040d2342073d912ac5794dd37505ade4c522ac68b3a", func := "ragpicker/ragpickerlaw12.OrphansOnce", spec := "orphansOnce", unfollowed := true, recurses := true, named := ["ragpicker/words.fields"], plainKeys := false, apart := false, laid := [("ragpicker/words.fields", laid_ragpicker_words_fields)] }
def OrphansOnceSaid : Prop := orphansOnceRow.holds Tryd.pinned (OpenSpec.ofChange orphansOnceSpec)

/-- ITS FALSE NEIGHBOUR: 'it returns false'. Refute it at one input. -/
def orphansOnceWrong : ChangeSpec := { name := "orphansOnce", fn := fun _ => fun
  | [d1, d2] => { results := [.lit (.bool false)], args := [d1, d2] }
  | _ => none }
def OrphansOnceWrongFalsely : Prop := orphansOnceRow.holds Tryd.pinned (OpenSpec.ofChange orphansOnceWrong)

/-- 'ragpickerlaw12.OrphansOrder': WHATEVER THE INPUT: true; the input reads as it did. -/
def orphansOrderSpec : ChangeSpec := { name := "orphansOrder", fn := fun _ => fun
  | [d1, d2] => { results := [.lit (.bool true)], args := [d1, d2] }
  | _ => none }
def orphansOrderRow : OpenClaim := { program := "ytghkdkdlbkmicaadoor", sum := "ebe65fd705e909b635bf0040d2342073d912ac5794dd37505ade4c522ac68b3a", func := "ragpicker/ragpickerlaw12.OrphansOrder", spec := "orphansOrder", unfollowed := true, recurses := true, named := ["ragpicker/words.fields"], plainKeys := false, apart := false, laid := [("ragpicker/words.fields", laid_ragpicker_words_fields)] }
def OrphansOrderSaid : Prop := orphansOrderRow.holds Tryd.pinned (OpenSpec.ofChange orphansOrderSpec)

/-- ITS FALSE NEIGHBOUR: 'it returns false'. Refute it at one input. -/
def orphansOrderWrong : ChangeSpec := { name := "orphansOrder", fn := fun _ => fun
  | [d1, d2] => { results := [.lit (.bool false)], args := [d1, d2] }
  | _ => none }
def OrphansOrderWrongFalsely : Prop := orphansOrderRow.holds Tryd.pinned (OpenSpec.ofChange orphansOrderWrong)

/-- 'ragpickerlaw12.OrphansVoid': WHATEVER THE INPUT: true; the input reads as it did. -/
def orphansVoidSpec : ChangeSpec := { name := "orphansVoid", fn := fun _ => fun
  | [d1, d2] => { results := [.lit (.bool true)], args := [d1, d2] }
  | _ => none }
def orphansVoidRow : OpenClaim := { program := "ytghkdkdlbkmicaadoor", sum := "ebe65fd705e909b635bf0040d2342073d912ac5794dd37505ade4c522ac68b3a", func := "ragpicker/ragpickerlaw12.OrphansVoid", spec := "orphansVoid", unfollowed := true, recurses := true, named := ["ragpicker/words.fields"], plainKeys := false, apart := false, laid := [("ragpicker/words.fields", laid_ragpicker_words_fields)] }
def OrphansVoidSaid : Prop := orphansVoidRow.holds Tryd.pinned (OpenSpec.ofChange orphansVoidSpec)

/-- ITS FALSE NEIGHBOUR: 'it returns false'. Refute it at one input. -/
def orphansVoidWrong : ChangeSpec := { name := "orphansVoid", fn := fun _ => fun
  | [d1, d2] => { results := [.lit (.bool false)], args := [d1, d2] }
  | _ => none }
def OrphansVoidWrongFalsely : Prop := orphansVoidRow.holds Tryd.pinned (OpenSpec.ofChange orphansVoidWrong)

/-- 'ragpickerlaw12.OrphansRound': WHATEVER THE INPUT: true; the input reads as it did. -/
def orphansRoundSpec : ChangeSpec := { name := "orphansRound", fn := fun _ => fun
  | [d] => { results := [.lit (.bool true)], args := [d] }
  | _ => none }
def orphansRoundRow : OpenClaim := { program := "ytghkdkdlbkmicaadoor", sum := "ebe65fd705e909b635bf0040d2342073d912ac5794dd37505ade4c522ac68b3a", func := "ragpicker/ragpickerlaw12.OrphansRound", spec := "orphansRound", unfollowed := true, recurses := true, named := ["ragpicker/words.fields"], plainKeys := false, apart := false, laid := [("ragpicker/words.fields", laid_ragpicker_words_fields)] }
def OrphansRoundSaid : Prop := orphansRoundRow.holds Tryd.pinned (OpenSpec.ofChange orphansRoundSpec)

/-- ITS FALSE NEIGHBOUR: 'it returns false'. Refute it at one input. -/
def orphansRoundWrong : ChangeSpec := { name := "orphansRound", fn := fun _ => fun
  | [d] => { results := [.lit (.bool false)], args := [d] }
  | _ => none }
def OrphansRoundWrongFalsely : Prop := orphansRoundRow.holds Tryd.pinned (OpenSpec.ofChange orphansRoundWrong)

/-- 'ragpickerlaw11.BlocksTable': WHATEVER THE INPUT: true; the input reads as it did. -/
def blocksTableSpec : ChangeSpec := { name := "blocksTable", fn := fun _ => fun
  | [d1, d2] => { results := [.lit (.bool true)], args := [d1, d2] }
  | _ => none }
def blocksTableRow : OpenClaim := { program := "ytghkdkdlbkmicaadoor", sum := "ebe65fd705e909b635bf0040d2342073d912ac5794dd37505ade4c522ac68b3a", func := "ragpicker/ragpickerlaw11.BlocksTable", spec := "blocksTable", unfollowed := true, recurses := true, named := ["ragpicker/words.fields"], plainKeys := false, apart := false, laid := [("ragpicker/words.fields", laid_ragpicker_words_fields)] }
def BlocksTableSaid : Prop := blocksTableRow.holds Tryd.pinned (OpenSpec.ofChange blocksTableSpec)

/-- ITS FALSE NEIGHBOUR: 'it returns false'. Refute it at one input. -/
def blocksTableWrong : ChangeSpec := { name := "blocksTable", fn := fun _ => fun
  | [d1, d2] => { results := [.lit (.bool false)], args := [d1, d2] }
  | _ => none }
def BlocksTableWrongFalsely : Prop := blocksTableRow.holds Tryd.pinned (OpenSpec.ofChange blocksTableWrong)

/- THE SECOND FORM. 'bulk': how many values and letters a reading holds, each counted each time it is reached (what is shared counts as often as it is met; a slice's spare places count too). A statement '..UptoSaid' is the law's where the arguments, and the package variables that the reading takes, are together of bulk at most 1048576: NARROWER than '..Said'. Prove '..Said' where nothing that the law and all that it calls make is longer than what came in: it says more and counts as full. Else prove '..UptoSaid'. A law counts once. -/
mutual
def uptoBulk {H : Type} : DataW H → Nat
  | .lit (.string bytes) => bytes.length + 1
  | .lit _ => 1
  | .nil => 1
  | .ptr d => uptoBulk d + 1
  | .slice elems spare => uptoBulkAll elems + uptoBulkAll spare + 1
  | .agg parts => uptoBulkAll parts + 1
  | .iface _ d => uptoBulk d + 1
  | .map entries => uptoBulkEntries entries + 1
  | .held _ => 1
def uptoBulkAll {H : Type} : List (DataW H) → Nat
  | [] => 0
  | d :: r => uptoBulk d + uptoBulkAll r
def uptoBulkEntries {H : Type} : List (Lit × DataW H) → Nat
  | [] => 0
  | x :: r => uptoBulkEntry x + uptoBulkEntries r
def uptoBulkEntry {H : Type} : Lit × DataW H → Nat
  | (.string bytes, d) => bytes.length + uptoBulk d + 1
  | (_, d) => uptoBulk d + 1
 end
def uptoSmall : (H : Type) → List (DataW H) → Bool := fun _ ds => decide (uptoBulkAll ds ≤ 1048576)
def OpenSpec.upto (s : _root_.Go.ChangeSpec) : _root_.Go.OpenSpec := { _root_.Go.OpenSpec.ofChange s with cond := some uptoSmall }

/-- 'ragpickerlaw10.TablesFull', WHERE WHAT IT READS IS OF BULK AT MOST 1048576: true; the input reads as it did. -/
def tablesFullUptoRow : OpenClaim := { program := "ytghkdkdlbkmicaadoor", sum := "ebe65fd705e909b635bf0040d2342073d912ac5794dd37505ade4c522ac68b3a", func := "ragpicker/ragpickerlaw10.TablesFull", spec := "tablesFull", unfollowed := true, recurses := true, named := ["ragpicker/words.fields"], plainKeys := false, apart := false, laid := [("ragpicker/words.fields", laid_ragpicker_words_fields)], narrowed := true }
def TablesFullUptoSaid : Prop := tablesFullUptoRow.holds Tryd.pinned (OpenSpec.upto tablesFullSpec)

/-- 'ragpickerlaw12.OrphansOnce', WHERE WHAT IT READS IS OF BULK AT MOST 1048576: true; the input reads as it did. -/
def orphansOnceUptoRow : OpenClaim := { program := "ytghkdkdlbkmicaadoor", sum := "ebe65fd705e909b635bf0040d2342073d912ac5794dd37505ade4c522ac68b3a", func := "ragpicker/ragpickerlaw12.OrphansOnce", spec := "orphansOnce", unfollowed := true, recurses := true, named := ["ragpicker/words.fields"], plainKeys := false, apart := false, laid := [("ragpicker/words.fields", laid_ragpicker_words_fields)], narrowed := true }
def OrphansOnceUptoSaid : Prop := orphansOnceUptoRow.holds Tryd.pinned (OpenSpec.upto orphansOnceSpec)

/-- 'ragpickerlaw12.OrphansOrder', WHERE WHAT IT READS IS OF BULK AT MOST 1048576: true; the input reads as it did. -/
def orphansOrderUptoRow : OpenClaim := { program := "ytghkdkdlbkmicaadoor", sum := "ebe65fd705e909b635bf0040d2342073d912ac5794dd37505ade4c522ac68b3a", func := "ragpicker/ragpickerlaw12.OrphansOrder", spec := "orphansOrder", unfollowed := true, recurses := true, named := ["ragpicker/words.fields"], plainKeys := false, apart := false, laid := [("ragpicker/words.fields", laid_ragpicker_words_fields)], narrowed := true }
def OrphansOrderUptoSaid : Prop := orphansOrderUptoRow.holds Tryd.pinned (OpenSpec.upto orphansOrderSpec)

/-- 'ragpickerlaw12.OrphansVoid', WHERE WHAT IT READS IS OF BULK AT MOST 1048576: true; the input reads as it did. -/
def orphansVoidUptoRow : OpenClaim := { program := "ytghkdkdlbkmicaadoor", sum := "ebe65fd705e909b635bf0040d2342073d912ac5794dd37505ade4c522ac68b3a", func := "ragpicker/ragpickerlaw12.OrphansVoid", spec := "orphansVoid", unfollowed := true, recurses := true, named := ["ragpicker/words.fields"], plainKeys := false, apart := false, laid := [("ragpicker/words.fields", laid_ragpicker_words_fields)], narrowed := true }
def OrphansVoidUptoSaid : Prop := orphansVoidUptoRow.holds Tryd.pinned (OpenSpec.upto orphansVoidSpec)

/-- 'ragpickerlaw12.OrphansRound', WHERE WHAT IT READS IS OF BULK AT MOST 1048576: true; the input reads as it did. -/
def orphansRoundUptoRow : OpenClaim := { program := "ytghkdkdlbkmicaadoor", sum := "ebe65fd705e909b635bf0040d2342073d912ac5794dd37505ade4c522ac68b3a", func := "ragpicker/ragpickerlaw12.OrphansRound", spec := "orphansRound", unfollowed := true, recurses := true, named := ["ragpicker/words.fields"], plainKeys := false, apart := false, laid := [("ragpicker/words.fields", laid_ragpicker_words_fields)], narrowed := true }
def OrphansRoundUptoSaid : Prop := orphansRoundUptoRow.holds Tryd.pinned (OpenSpec.upto orphansRoundSpec)

/-- 'ragpickerlaw11.BlocksTable', WHERE WHAT IT READS IS OF BULK AT MOST 1048576: true; the input reads as it did. -/
def blocksTableUptoRow : OpenClaim := { program := "ytghkdkdlbkmicaadoor", sum := "ebe65fd705e909b635bf0040d2342073d912ac5794dd37505ade4c522ac68b3a", func := "ragpicker/ragpickerlaw11.BlocksTable", spec := "blocksTable", unfollowed := true, recurses := true, named := ["ragpicker/words.fields"], plainKeys := false, apart := false, laid := [("ragpicker/words.fields", laid_ragpicker_words_fields)], narrowed := true }
def BlocksTableUptoSaid : Prop := blocksTableUptoRow.holds Tryd.pinned (OpenSpec.upto blocksTableSpec)

end Rows
end Go.Proofs.YtghkdkdlbkmicaaDoor
