/- Package tally: two choices, compared. -/
import Derived.Test.YtffjighohloifaaBoxHas21
import Derived.Test.YtffjighohloifaaStepPush
namespace Go.Proofs.Ytffjighohloifaa
open Go.RowKit

theorem choice_eql (v1 v2 : Bool) (k1 k2 : ByteArray) (w : World) : (binOp .eql 73 (.agg #[.bool v1, .string k1]) (.agg #[.bool v2, .string k2])).run Try.prog w = .ok (.bool (decide (v1 = v2 ∧ k1 = k2))) w := by
  refine eql_struct (fs := [("voted", 4, 0), ("key", 9, 1)]) (by kernel_rfl) (by kernel_rfl) (by kernel_rfl) ?_
  rw [eqF3_bool (by decide) Try.underlying4 rfl rfl, eqF3_string (by decide) Try.underlying9 rfl rfl]
  by_cases h1 : v1 = v2
  · by_cases h2 : k1 = k2
    · simp [h1, h2, eqF3, Sem.run_pure]
    · simp [h1, h2]
  · simp [h1]
theorem choice_neq (v1 v2 : Bool) (k1 k2 : ByteArray) (w : World) : (binOp .neq 73 (.agg #[.bool v1, .string k1]) (.agg #[.bool v2, .string k2])).run Try.prog w = .ok (.bool (!decide (v1 = v2 ∧ k1 = k2))) w := by
  refine neq_struct (fs := [("voted", 4, 0), ("key", 9, 1)]) (by kernel_rfl) (by kernel_rfl) (by kernel_rfl) ?_
  rw [eqF3_bool (by decide) Try.underlying4 rfl rfl, eqF3_string (by decide) Try.underlying9 rfl rfl]
  by_cases h1 : v1 = v2
  · by_cases h2 : k1 = k2
    · simp [h1, h2, eqF3, Sem.run_pure]
    · simp [h1, h2]
  · simp [h1]
end Go.Proofs.Ytffjighohloifaa
