/- Package order: who is ahead; cmp.Compare. -/
import Derived.Test.YtnpmimjhpnhdkaaRef19e
import Derived.Test.YtnpmimjhpnhdkaaSortPlain
namespace Go.Proofs.Ytnpmimjhpnhdkaa
open Go.RowKit

/-- An upstream that may be asked. -/
structure Cand where
  u : Int
  trial : Bool
  score : Int
  deriving Inhabited, DecidableEq
def Cand.cells (c : Cand) : List Value := [.int .i64 c.u, .bool c.trial, .int .i64 c.score]
theorem Cand.cells_length (c : Cand) : c.cells.length = 3 := rfl
/-- Where it stands: the lesser, the further ahead. -/
def Cand.key (c : Cand) : Int := (if c.trial then 1000 else 0) - c.score
def Cand.ok (c : Cand) : Prop := 0 ≤ c.score ∧ c.score ≤ 100
def cmpI (x y : Int) : Int := if x < y then -1 else if y < x then 1 else 0
def Cand.against (a b : Cand) : Int := if a.trial = b.trial then cmpI b.score a.score else if a.trial then 1 else -1
theorem against_key {a b : Cand} (ha : a.ok) (hb : b.ok) : a.against b < 0 ↔ a.key < b.key := by
  unfold Cand.against Cand.key cmpI
  unfold Cand.ok at ha hb
  cases a.trial <;> cases b.trial <;> simp <;> (try split) <;> (try split) <;> omega
set_option maxRecDepth 100000 in
theorem isnan_any (x : Int) (w : World) : Calls Try.prog 62 #[.int .i64 x] w fun e w' => e = .returned (.bool false) ∧ w = w' := by
  have h : (x != x) = false := by simp
  go_enter Try.func62, Try.ntmps62
  go_wp2_with fail
  go_ret
  exact ⟨rfl, rfl⟩
set_option maxRecDepth 100000 in
theorem compare_any (x y : Int) (w : World) : Calls Try.prog 52 #[.int .i64 x, .int .i64 y] w fun e w' => e = .returned (.int .i64 (cmpI x y)) ∧ w = w' := by
  have hways : (decide (x < y) = true ∧ cmpI x y = -1) ∨ (decide (x < y) = false ∧ decide (y < x) = true ∧ cmpI x y = 1) ∨ (decide (x < y) = false ∧ decide (y < x) = false ∧ cmpI x y = 0) := by
    unfold cmpI
    simp only [decide_eq_true_eq, decide_eq_false_iff_not]
    split
    · omega
    · split <;> omega
  rcases hways with ⟨g1, g2⟩ | ⟨g1, g2, g3⟩ | ⟨g1, g2, g3⟩
  · rw [g2]
    clear g2
    go_enter Try.func52, Try.ntmps52
    go_wp2_with fail
    refine (isnan_any _ _).mono ?_
    rintro e w' ⟨rfl, rfl⟩
    go_wp2_with fail
    refine (isnan_any _ _).mono ?_
    rintro e w' ⟨rfl, rfl⟩
    go_wp2_with fail
    go_ret
    exact ⟨rfl, rfl⟩
  all_goals
    rw [g3]
    clear g3
    go_enter Try.func52, Try.ntmps52
    go_wp2_with fail
    refine (isnan_any _ _).mono ?_
    rintro e w' ⟨rfl, rfl⟩
    go_wp2_with fail
    refine (isnan_any _ _).mono ?_
    rintro e w' ⟨rfl, rfl⟩
    go_wp2_with fail
    go_ret
    exact ⟨rfl, rfl⟩
set_option maxRecDepth 100000 in
theorem against_any (a b : Cand) (r : Int) (hr : a.against b = r) (w : World) : Calls Try.prog 38 #[.agg #[.int .i64 a.u, .bool a.trial, .int .i64 a.score], .agg #[.int .i64 b.u, .bool b.trial, .int .i64 b.score]] w fun e w' => e = .returned (.int .i64 r) ∧ Kept (fun _ => False) w w' := by
  obtain ⟨au, atr, asc⟩ := a
  obtain ⟨bu, btr, bsc⟩ := b
  have K := Lib.hid (((Kept.refl (M := fun _ => False) w).alloc (.cells #[.int .i64 au, .bool atr, .int .i64 asc] 72)).alloc (.cells #[.int .i64 bu, .bool btr, .int .i64 bsc] 72))
  subst hr
  unfold Cand.against
  cases atr <;> cases btr
  case false.false | true.true =>
    simp only [if_true]
    go_enter Try.func38, Try.ntmps38
    go_wp2_with fail
    refine (compare_any _ _ _).mono ?_
    rintro e w' ⟨rfl, rfl⟩
    go_wp2_with fail
    go_ret
    exact ⟨rfl, K.out⟩
  all_goals
    simp only [Bool.false_eq_true, Bool.true_eq_false, if_false, if_true]
    go_enter Try.func38, Try.ntmps38
    go_wp2_with fail
    go_ret
    exact ⟨rfl, K.out⟩
end Go.Proofs.Ytnpmimjhpnhdkaa
