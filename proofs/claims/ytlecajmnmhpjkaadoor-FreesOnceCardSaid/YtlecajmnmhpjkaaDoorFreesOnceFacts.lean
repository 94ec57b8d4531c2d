/- The closed facts of FreesOnce's row, one by one. -/
import Derived.Test.YtlecajmnmhpjkaaDoorCards
import Derived.JoinedCond
import Derived.KernelRfl
namespace Go.Proofs.YtlecajmnmhpjkaaDoor.freesOnce
open Go

theorem and_true_of {a b : Bool} (ha : a = true) (hb : b = true) : (a && b) = true := by rw [ha, hb]; rfl

set_option maxRecDepth 100000 in
set_option maxHeartbeats 8000000 in
theorem facts : joinedFacts Tryd.pinned.checked.prog 3 Tryd.f3 (OpenSpec.ofChange Rows.freesOnceSpec).bare Rows.freesOnceRow = true := by
  unfold joinedFacts
  repeat' (with_reducible apply and_true_of)
  all_goals as_aux_lemma => kernel_rfl

end Go.Proofs.YtlecajmnmhpjkaaDoor.freesOnce
