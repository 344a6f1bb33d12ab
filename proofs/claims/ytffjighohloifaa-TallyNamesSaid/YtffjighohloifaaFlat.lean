/- Structs of numbers and truth values, compared. -/
import Derived.Test.YtffjighohloifaaBase
import Derived.Laws.StructEq
namespace Go.Proofs.Ytffjighohloifaa
open Go.RowKit

/-- The fields' comparing over what counts of them alone. -/
def eqF3 (d : Nat) (xs ys : Array Value) : List (String × TypeId × Nat) → Sem Bool
  | [] => pure true
  | (n, t, o) :: fs =>
    if n ≠ "_" then do
      let a ← part t xs o
      let b ← part t ys o
      let r ← Op.equalIn d t a b
      if (!r) = true then pure false else eqF3 d xs ys fs
    else eqF3 d xs ys fs
theorem eqFields_map (d : Nat) (xs ys : Array Value) (fs : List Field) : Op.eqFields d xs ys fs = eqF3 d xs ys (fs.map fun f => (f.name, f.type, f.offset)) := by
  induction fs with
  | nil => rfl
  | cons f fs ih => simp only [Op.eqFields, eqF3, List.map_cons, ih]
section
variable {P : Program} {w : World} {d : Nat} {xs ys : Array Value} {n : String} {t : TypeId} {o : Nat} {fs : List (String × TypeId × Nat)}
theorem part_at (hu : (∃ k, P.underlying t = some (.int k)) ∨ P.underlying t = some .bool) {v : Value} (hx : xs[o]? = some v) : (part t xs o).run P w = .ok v w := by
  rcases hu with ⟨k, hu⟩ | hu <;> simp [part, isAgg, run_underlying hu, hx]
theorem eqF3_int {k : IntKind} {a b : Int} (hn : n ≠ "_") (hu : P.underlying t = some (.int k)) (hx : xs[o]? = some (.int k a)) (hy : ys[o]? = some (.int k b)) :
    (eqF3 (d + 1) xs ys ((n, t, o) :: fs)).run P w = if a = b then (eqF3 (d + 1) xs ys fs).run P w else .ok false w := by
  simp only [eqF3, if_pos hn, Sem.run_bind, part_at (.inl ⟨k, hu⟩) hx, part_at (.inl ⟨k, hu⟩) hy, Result.andThen_ok, run_equalIn_int w d t k k a b hu]
  by_cases h : a = b <;> simp [h]
theorem eqF3_bool {a b : Bool} (hn : n ≠ "_") (hu : P.underlying t = some .bool) (hx : xs[o]? = some (.bool a)) (hy : ys[o]? = some (.bool b)) :
    (eqF3 (d + 1) xs ys ((n, t, o) :: fs)).run P w = if a = b then (eqF3 (d + 1) xs ys fs).run P w else .ok false w := by
  simp only [eqF3, if_pos hn, Sem.run_bind, part_at (.inr hu) hx, part_at (.inr hu) hy, Result.andThen_ok, run_equalIn_bool' w d t a b hu]
  cases a <;> cases b <;> simp
theorem neq_struct (ht : P.underlying t = some (.struct (P.fieldsOf t))) (hp : P.stoodInHeld t = false) (hf : (P.fieldsOf t).toList.map (fun f => (f.name, f.type, f.offset)) = fs) {r : Bool}
    (h : (eqF3 9999 xs ys fs).run P w = .ok r w) : (binOp .neq t (.agg xs) (.agg ys)).run P w = .ok (.bool (!r)) w := by
  rw [run_neq_struct, run_equalIn_agg _ 9999 _ _ _ ht hp, eqFields_map, hf, h]; rfl
theorem eql_struct (ht : P.underlying t = some (.struct (P.fieldsOf t))) (hp : P.stoodInHeld t = false) (hf : (P.fieldsOf t).toList.map (fun f => (f.name, f.type, f.offset)) = fs) {r : Bool}
    (h : (eqF3 9999 xs ys fs).run P w = .ok r w) : (binOp .eql t (.agg xs) (.agg ys)).run P w = .ok (.bool r) w := by
  rw [run_eql_struct, run_equalIn_agg _ 9999 _ _ _ ht hp, eqFields_map, hf, h]; rfl
end
end Go.Proofs.Ytffjighohloifaa
