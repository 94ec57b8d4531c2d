/- The closed facts of FreesStack's row, one by one. -/
import Derived.Test.YtbncdbgeckcobaaDoorCards
import Derived.JoinedCond
import Derived.KernelRfl
namespace Go.Proofs.YtbncdbgeckcobaaDoor.freesStack
open Go

theorem and_true_of {a b : Bool} (ha : a = true) (hb : b = true) : (a && b) = true := by rw [ha, hb]; rfl

set_option maxRecDepth 100000 in
set_option maxHeartbeats 8000000 in
theorem facts : joinedFacts Tryd.pinned.checked.prog 4 Tryd.f4 (OpenSpec.ofChange Rows.freesStackSpec).bare Rows.freesStackRow = true := by
  unfold joinedFacts
  repeat' (with_reducible apply and_true_of)
  all_goals as_aux_lemma => kernel_rfl

end Go.Proofs.YtbncdbgeckcobaaDoor.freesStack
