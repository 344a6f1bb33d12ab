/- What the laws of order ask first: is a case long? -/
import Derived.Test.YtnpmimjhpnhdkaaOrd5
namespace Go.Proofs.Ytnpmimjhpnhdkaa
open Go.RowKit

theorem long20_any (ups limit rest seed : Int) (a f : Option Addr) (la ca lf cf : Nat) (r : Bool) (hr : (decide (500 < la) || decide (500 < lf)) = r) (w : World) :
    Calls Try.prog 8 #[.agg #[.int .i64 ups, .int .i64 limit, .int .i64 rest, .slice a la ca, .int .u64 seed, .slice f lf cf]] w fun e w' => e = .returned (.bool r) ∧ Kept (fun _ => False) w w' := by
  subst hr
  by_cases h1 : 500 < la
  · have b1 : decide (500 < (la : Int)) = true := by simp; omega
    have e1 : (decide (500 < la) || decide (500 < lf)) = true := by simp [h1]
    rw [e1]
    go_enter Try.func8, Try.ntmps8
    go_wp2_with fail
    go_ret
    exact ⟨rfl, (Kept.refl _).alloc _⟩
  · have b1 : decide (500 < (la : Int)) = false := by simp; omega
    by_cases h2 : 500 < lf
    · have b2 : decide (500 < (lf : Int)) = true := by simp; omega
      have e1 : (decide (500 < la) || decide (500 < lf)) = true := by simp [h2]
      rw [e1]
      go_enter Try.func8, Try.ntmps8
      go_wp2_with fail
      go_ret
      exact ⟨rfl, (Kept.refl _).alloc _⟩
    · have b2 : decide (500 < (lf : Int)) = false := by simp; omega
      have e1 : (decide (500 < la) || decide (500 < lf)) = false := by simp [h1, h2]
      rw [e1]
      go_enter Try.func8, Try.ntmps8
      go_wp2_with fail
      go_ret
      exact ⟨rfl, (Kept.refl _).alloc _⟩
end Go.Proofs.Ytnpmimjhpnhdkaa
