/- hustingsref15.Ints: whether two rows of numbers are the same. -/
import Derived.Test.YtnpmimjhpnhdkaaBase
namespace Go.Proofs.Ytnpmimjhpnhdkaa
open Go.RowKit

theorem ints_same (l1 l2 : List Int) (k : Nat) (he : l1.length = l2.length) (hk : l1.take k = l2.take k) (hlt : k < l1.length) (h2 : k < l2.length) :
    (l1[k] = l2[k] → l1.take (k + 1) = l2.take (k + 1)) ∧ (l1[k] ≠ l2[k] → decide (l1 = l2) = false) := by
  refine ⟨fun e => ?_, fun e => ?_⟩
  · rw [List.take_succ_eq_append_getElem hlt, List.take_succ_eq_append_getElem h2, hk, e]
  · simp only [decide_eq_false_iff_not]; rintro rfl; exact e rfl

end Go.Proofs.Ytnpmimjhpnhdkaa
