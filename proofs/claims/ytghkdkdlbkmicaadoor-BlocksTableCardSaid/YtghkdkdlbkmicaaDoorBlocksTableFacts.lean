/- The closed facts of BlocksTable's row, one by one. -/
import Derived.Test.YtghkdkdlbkmicaaDoorCards
import Derived.JoinedCond
import Derived.KernelRfl
namespace Go.Proofs.YtghkdkdlbkmicaaDoor.blocksTable
open Go

theorem and_true_of {a b : Bool} (ha : a = true) (hb : b = true) : (a && b) = true := by rw [ha, hb]; rfl

set_option maxRecDepth 100000 in
set_option maxHeartbeats 8000000 in
theorem facts : joinedFacts Tryd.pinned.checked.prog 8 Tryd.f8 (OpenSpec.ofChange Rows.blocksTableSpec).bare Rows.blocksTableRow = true := by
  unfold joinedFacts
  repeat' (with_reducible apply and_true_of)
  all_goals as_aux_lemma => kernel_rfl

end Go.Proofs.YtghkdkdlbkmicaaDoor.blocksTable
