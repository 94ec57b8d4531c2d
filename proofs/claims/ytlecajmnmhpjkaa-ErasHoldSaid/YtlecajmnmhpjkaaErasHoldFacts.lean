/- The closed facts of ErasHold's row, one by one. -/
import Derived.Test.YtlecajmnmhpjkaaRows
import Derived.JoinedCond
import Derived.KernelRfl
namespace Go.Proofs.Ytlecajmnmhpjkaa.erasHold
open Go

theorem and_true_of {a b : Bool} (ha : a = true) (hb : b = true) : (a && b) = true := by rw [ha, hb]; rfl

set_option maxRecDepth 100000 in
set_option maxHeartbeats 8000000 in
theorem facts : joinedFacts Try.pinned.checked.prog 3 Try.f3 (OpenSpec.ofChange Rows.erasHoldSpec).bare Rows.erasHoldRow = true := by
  unfold joinedFacts
  repeat' (with_reducible apply and_true_of)
  all_goals as_aux_lemma => kernel_rfl

end Go.Proofs.Ytlecajmnmhpjkaa.erasHold
