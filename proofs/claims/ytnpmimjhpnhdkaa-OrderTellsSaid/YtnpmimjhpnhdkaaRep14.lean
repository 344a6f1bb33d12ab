/- What the law's 'of' tells, compared. -/
import Derived.Test.YtnpmimjhpnhdkaaRepLawPlain
import Derived.Test.YtnpmimjhpnhdkaaFlat
namespace Go.Proofs.Ytnpmimjhpnhdkaa
open Go.RowKit

/-- But for when it is back. -/
def One.still (x : One) : One := { x with till := 0 }
theorem fields_told : (Try.prog.fieldsOf 93).toList.map (fun f => (f.name, f.type, f.offset)) = [("Score", 3, 0), ("Agree", 3, 1), ("Dissent", 3, 2), ("Silent", 3, 3), ("Rests", 4, 4), ("Trial", 4, 5), ("Until", 2, 6)] := by kernel_rfl
theorem eqF3_told (x y : One) (w : World) : (eqF3 9999 #[.int .i64 x.score, .int .i64 x.agree, .int .i64 x.dissent, .int .i64 x.silent, .bool x.rests, .bool x.trial, .int .i64 0] #[.int .i64 y.score, .int .i64 y.agree, .int .i64 y.dissent, .int .i64 y.silent, .bool y.rests, .bool y.trial, .int .i64 0]
    [("Score", 3, 0), ("Agree", 3, 1), ("Dissent", 3, 2), ("Silent", 3, 3), ("Rests", 4, 4), ("Trial", 4, 5), ("Until", 2, 6)]).run Try.prog w = .ok (decide (x.still = y.still)) w := by
  rw [eqF3_int (d := 9998) (by decide) Try.underlying3 rfl rfl, eqF3_int (d := 9998) (by decide) Try.underlying3 rfl rfl, eqF3_int (d := 9998) (by decide) Try.underlying3 rfl rfl, eqF3_int (d := 9998) (by decide) Try.underlying3 rfl rfl,
    eqF3_bool (d := 9998) (by decide) Try.underlying4 rfl rfl, eqF3_bool (d := 9998) (by decide) Try.underlying4 rfl rfl, eqF3_int (d := 9998) (by decide) Try.underlying2 rfl rfl]
  simp only [eqF3, Sem.run_pure, One.still, One.mk.injEq, true_and, if_true]
  by_cases h1 : x.score = y.score <;> by_cases h2 : x.agree = y.agree <;> by_cases h3 : x.dissent = y.dissent <;> by_cases h4 : x.silent = y.silent <;> by_cases h5 : x.rests = y.rests <;> by_cases h6 : x.trial = y.trial <;> simp [h1, h2, h3, h4, h5, h6]
theorem told_neq (x y : One) (r : Bool) (hr : decide (x.still = y.still) = r) (w : World) : (binOp .neq 93 (.agg #[.int .i64 x.score, .int .i64 x.agree, .int .i64 x.dissent, .int .i64 x.silent, .bool x.rests, .bool x.trial, .int .i64 0]) (.agg #[.int .i64 y.score, .int .i64 y.agree, .int .i64 y.dissent, .int .i64 y.silent, .bool y.rests, .bool y.trial, .int .i64 0])).run Try.prog w = .ok (.bool (!r)) w :=
  hr ▸ neq_struct (by kernel_rfl) (by kernel_rfl) fields_told (eqF3_told x y w)
theorem told_eql (x y : One) (r : Bool) (hr : decide (x.still = y.still) = r) (w : World) : (binOp .eql 93 (.agg #[.int .i64 x.score, .int .i64 x.agree, .int .i64 x.dissent, .int .i64 x.silent, .bool x.rests, .bool x.trial, .int .i64 0]) (.agg #[.int .i64 y.score, .int .i64 y.agree, .int .i64 y.dissent, .int .i64 y.silent, .bool y.rests, .bool y.trial, .int .i64 0])).run Try.prog w = .ok (.bool r) w :=
  hr ▸ eql_struct (by kernel_rfl) (by kernel_rfl) fields_told (eqF3_told x y w)
end Go.Proofs.Ytnpmimjhpnhdkaa
