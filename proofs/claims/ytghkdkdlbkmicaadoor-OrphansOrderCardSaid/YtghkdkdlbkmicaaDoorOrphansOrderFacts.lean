/- The closed facts of OrphansOrder's row, one by one. -/
import Derived.Test.YtghkdkdlbkmicaaDoorCards
import Derived.JoinedCond
import Derived.KernelRfl
namespace Go.Proofs.YtghkdkdlbkmicaaDoor.orphansOrder
open Go

theorem and_true_of {a b : Bool} (ha : a = true) (hb : b = true) : (a && b) = true := by rw [ha, hb]; rfl

set_option maxRecDepth 100000 in
set_option maxHeartbeats 8000000 in
theorem facts : joinedFacts Tryd.pinned.checked.prog 5 Tryd.f5 (OpenSpec.ofChange Rows.orphansOrderSpec).bare Rows.orphansOrderRow = true := by
  unfold joinedFacts
  repeat' (with_reducible apply and_true_of)
  all_goals as_aux_lemma => kernel_rfl

end Go.Proofs.YtghkdkdlbkmicaaDoor.orphansOrder
