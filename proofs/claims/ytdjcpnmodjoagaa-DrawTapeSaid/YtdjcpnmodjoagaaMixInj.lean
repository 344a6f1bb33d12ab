/- The mixing of a seed takes unlike numbers to unlike numbers. Plain arithmetic. -/
import Derived.Test.YtdjcpnmodjoagaaDrawPlain
namespace Go.Proofs.Ytdjcpnmodjoagaa
open Go.RowKit

theorem xorshift_inj (s : Nat) (hs : 1 ≤ s) (x y : Nat) (hx : x < 2 ^ 64) (hy : y < 2 ^ 64) (h : x ^^^ x / 2 ^ s = y ^^^ y / 2 ^ s) : x = y := by
  have key : ∀ n i, 64 ≤ i + n → x.testBit i = y.testBit i := by
    intro n
    induction n with
    | zero =>
      intro i hi
      rw [Nat.testBit_lt_two_pow (Nat.lt_of_lt_of_le hx (Nat.pow_le_pow_right (by decide) (by omega))), Nat.testBit_lt_two_pow (Nat.lt_of_lt_of_le hy (Nat.pow_le_pow_right (by decide) (by omega)))]
    | succ n ih =>
      intro i hi
      have h1 := ih (i + s) (by omega)
      have h2 : (x ^^^ x / 2 ^ s).testBit i = (y ^^^ y / 2 ^ s).testBit i := by rw [h]
      simp only [Nat.testBit_xor, Nat.testBit_div_two_pow, Nat.add_comm] at h2
      simp only [Nat.add_comm] at h1
      rw [h1] at h2
      revert h2
      cases x.testBit i <;> cases y.testBit i <;> cases y.testBit (s + i) <;> simp
  exact Nat.eq_of_testBit_eq fun i => key 64 i (by omega)

theorem mul_inj (c d : Nat) (hcd : c * d % 2 ^ 64 = 1) (x y : Nat) (hx : x < 2 ^ 64) (hy : y < 2 ^ 64) (h : x * c % 2 ^ 64 = y * c % 2 ^ 64) : x = y := by
  have back : ∀ z, z < 2 ^ 64 → (z * c % 2 ^ 64) * d % 2 ^ 64 = z := fun z hz => by
    rw [Nat.mod_mul_mod, Nat.mul_assoc, ← Nat.mul_mod_mod, hcd, Nat.mul_one, Nat.mod_eq_of_lt hz]
  rw [← back x hx, ← back y hy, h]

/-- The mixing, over naturals. -/
def mixN (n : Nat) : Nat :=
  let a := (n ^^^ n / 2 ^ 30) * 13787848793156543929 % 2 ^ 64
  let b := (a ^^^ a / 2 ^ 27) * 10723151780598845931 % 2 ^ 64
  b ^^^ b / 2 ^ 31

theorem xor_lt (n s : Nat) (h : n < 2 ^ 64) : n ^^^ n / 2 ^ s < 2 ^ 64 := Nat.xor_lt_two_pow h (Nat.lt_of_le_of_lt (Nat.div_le_self _ _) h)

theorem mixN_inj (x y : Nat) (hx : x < 2 ^ 64) (hy : y < 2 ^ 64) (h : mixN x = mixN y) : x = y := by
  unfold mixN at h
  have m : ∀ n, n % 2 ^ 64 < 2 ^ 64 := fun n => Nat.mod_lt _ (by decide)
  have h1 := xorshift_inj 31 (by decide) _ _ (m _) (m _) h
  have h2 := mul_inj 10723151780598845931 (3573116690164977347) (by decide) _ _ (xor_lt _ 27 (m _)) (xor_lt _ 27 (m _)) h1
  have h3 := xorshift_inj 27 (by decide) _ _ (m _) (m _) h2
  have h4 := mul_inj 13787848793156543929 (10871156337175269513) (by decide) _ _ (xor_lt _ 30 hx) (xor_lt _ 30 hy) h3
  exact xorshift_inj 30 (by decide) _ _ hx hy h4

theorem mixI_nat (n : Nat) (h : n < 2 ^ 64) : mixI (n : Int) = (mixN n : Nat) := by
  have m : ∀ n : Nat, n % 18446744073709551616 < 18446744073709551616 := fun n => Nat.mod_lt _ (by decide)
  have e1 := xorShift_u64 n 1073741824 (by simpa using h)
  have w : ∀ (k c : Nat), IntKind.u64.wrap ((k : Int) * (c : Int)) = ((k * c % 18446744073709551616 : Nat) : Int) := fun k c => by
    rw [IntKind.wrap_u64]; omega
  have e2 := w (n ^^^ n / 1073741824) 13787848793156543929
  have e3 := xorShift_u64 ((n ^^^ n / 1073741824) * 13787848793156543929 % 18446744073709551616) 134217728 (m _)
  have e4 := w (((n ^^^ n / 1073741824) * 13787848793156543929 % 18446744073709551616) ^^^ ((n ^^^ n / 1073741824) * 13787848793156543929 % 18446744073709551616) / 134217728) 10723151780598845931
  have e5 := xorShift_u64 ((((n ^^^ n / 1073741824) * 13787848793156543929 % 18446744073709551616) ^^^ ((n ^^^ n / 1073741824) * 13787848793156543929 % 18446744073709551616) / 134217728) * 10723151780598845931 % 18446744073709551616) 2147483648 (m _)
  simp only [Int.cast_ofNat_Int] at e1 e2 e3 e4 e5
  unfold mixI mixN
  rw [e1, e2, e3, e4, e5]

theorem mixI_inj (x y : Int) (hx : U64 x) (hy : U64 y) (h : mixI x = mixI y) : x = y := by
  obtain ⟨a, rfl⟩ := Int.eq_ofNat_of_zero_le hx.1
  obtain ⟨b, rfl⟩ := Int.eq_ofNat_of_zero_le hy.1
  have ha : a < 2 ^ 64 := by have := hx.2; simp; omega
  have hb : b < 2 ^ 64 := by have := hy.2; simp; omega
  rw [mixI_nat a ha, mixI_nat b hb] at h
  exact_mod_cast mixN_inj a b ha hb (by exact_mod_cast h)

theorem stepI_inj (x y : Int) (hx : U64 x) (hy : U64 y) (h : stepI x = stepI y) : x = y := by
  unfold stepI at h
  rw [IntKind.wrap_u64, IntKind.wrap_u64] at h
  unfold U64 at hx hy
  omega

theorem draw_seed (x y : Int) (hx : U64 x) (hy : U64 y) : mixI (stepI x) = mixI (stepI y) ↔ x = y :=
  ⟨fun h => stepI_inj x y hx hy (mixI_inj _ _ (u64_step _) (u64_step _) h), fun h => by rw [h]⟩
theorem seed_iff (x y : Int) (hx : U64 x) (hy : U64 y) : stepI x = stepI y ↔ x = y := ⟨stepI_inj x y hx hy, fun h => by rw [h]⟩
end Go.Proofs.Ytdjcpnmodjoagaa
