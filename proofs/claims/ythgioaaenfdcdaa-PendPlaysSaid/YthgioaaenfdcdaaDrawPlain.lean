/- Package draw, plainly: the numbers that a tape yields. No program in sight. -/
import Derived.Test.YthgioaaenfdcdaaBase
namespace Go.Proofs.Ythgioaaenfdcdaa
open Go.RowKit

/-- A number, mixed (as the walk spells it). -/
def mixI (n : Int) : Int :=
  bits BinOp.xor IntKind.u64
    (IntKind.u64.wrap (bits BinOp.xor IntKind.u64 (IntKind.u64.wrap (bits BinOp.xor IntKind.u64 n (n / 1073741824) * 13787848793156543929))
      (IntKind.u64.wrap (bits BinOp.xor IntKind.u64 n (n / 1073741824) * 13787848793156543929) / 134217728) * 10723151780598845931))
    (IntKind.u64.wrap (bits BinOp.xor IntKind.u64 (IntKind.u64.wrap (bits BinOp.xor IntKind.u64 n (n / 1073741824) * 13787848793156543929))
      (IntKind.u64.wrap (bits BinOp.xor IntKind.u64 n (n / 1073741824) * 13787848793156543929) / 134217728) * 10723151780598845931) / 2147483648)

def stepI (n : Int) : Int := IntKind.u64.wrap (n + 11400714819323198485)

/-- What is in range of a uint64. -/
def U64 (n : Int) : Prop := 0 ≤ n ∧ n ≤ 18446744073709551615

structure TapeS where
  seed : Int
  first : List Int
  used : Nat

def TapeS.draw (s : TapeS) : Int := match s.first with
  | [] => mixI (stepI s.seed)
  | x :: _ => x
def TapeS.next (s : TapeS) : TapeS := match s.first with
  | [] => ⟨stepI s.seed, [], s.used + 1⟩
  | _ :: r => ⟨s.seed, r, s.used + 1⟩
def TapeS.ok (s : TapeS) : Prop := U64 s.seed ∧ ∀ x ∈ s.first, U64 x

theorem u64_wrap (n : Int) : U64 (IntKind.u64.wrap n) := by
  rw [IntKind.wrap_u64]; unfold U64; omega

theorem u64_xorshift (n : Int) (h : U64 n) (s : Nat) : U64 (bits .xor .u64 n (n / (s : Int))) := by
  obtain ⟨k, rfl⟩ := Int.eq_ofNat_of_zero_le h.1
  have hk : k < 18446744073709551616 := by have := h.2; omega
  show U64 (bits .xor .u64 (k : Int) ((k : Int) / (s : Int)))
  rw [xorShift_u64 k s hk]
  have : k / s < 2 ^ 64 := Nat.lt_of_le_of_lt (Nat.div_le_self _ _) (by simpa using hk)
  have := Nat.xor_lt_two_pow (n := 64) (x := k) (y := k / s) (by simpa using hk) this
  unfold U64; omega

theorem u64_mix (n : Int) : U64 (mixI n) := by
  unfold mixI
  exact u64_xorshift _ (u64_wrap _) 2147483648

theorem u64_step (n : Int) : U64 (stepI n) := u64_wrap _

theorem TapeS.next_used (s : TapeS) : s.next.used = s.used + 1 := by unfold TapeS.next; split <;> rfl
theorem TapeS.ok_next {s : TapeS} (h : s.ok) : s.next.ok := by
  unfold TapeS.next
  split
  · exact ⟨u64_step _, by simp⟩
  · rename_i x r e; exact ⟨h.1, fun y hy => h.2 y (by rw [e]; exact List.mem_cons_of_mem _ hy)⟩
theorem TapeS.ok_draw {s : TapeS} (h : s.ok) : U64 s.draw := by
  unfold TapeS.draw
  split
  · exact u64_mix _
  · rename_i x r e; exact h.2 x (by rw [e]; exact List.mem_cons_self)

/-! Shuffling. -/
def swapL (l : List Int) (i k : Nat) : List Int := (l.set i (l.getD k 0)).set k (l.getD i 0)
def shufGo : Nat → List Int → TapeS → List Int × TapeS
  | 0, l, s => (l, s)
  | i + 1, l, s => shufGo i (swapL l (i + 1) (s.draw % ((i : Int) + 2)).toNat) s.next
def uptoL (n : Nat) : List Int := (List.range n).map Int.ofNat
def shuffleL (n : Nat) (s : TapeS) : List Int × TapeS := shufGo (n - 1) (uptoL n) s
theorem swapL_length (l : List Int) (i k : Nat) : (swapL l i k).length = l.length := by simp [swapL]
theorem shufGo_succ (i : Nat) (l : List Int) (s : TapeS) : shufGo (i + 1) l s = shufGo i (swapL l (i + 1) (s.draw % ((i : Int) + 2)).toNat) s.next := rfl
theorem shufGo_pos (i : Nat) (h : 0 < i) (l : List Int) (s : TapeS) : shufGo i l s = shufGo (i - 1) (swapL l i (s.draw % ((i : Int) + 1)).toNat) s.next := by
  obtain ⟨j, rfl⟩ : ∃ j, i = j + 1 := ⟨i - 1, by omega⟩
  rw [shufGo_succ, show (((j + 1 : Nat) : Int) + 1) = (j : Int) + 2 by omega]; rfl
/-- The tape behind so many draws, the first one first. -/
def TapeS.after' (s : TapeS) : Nat → TapeS
  | 0 => s
  | k + 1 => s.next.after' k
theorem TapeS.after'_used (k : Nat) : ∀ s : TapeS, (s.after' k).used = s.used + k := by
  induction k with
  | zero => intro s; rfl
  | succ k ih => intro s; rw [TapeS.after', ih, TapeS.next_used]; omega
theorem uptoL_length (n : Nat) : (uptoL n).length = n := by simp [uptoL]
/-- The first k places of a row of zeros written. -/
def fillL (n k : Nat) : List Int := (List.range k).map Int.ofNat ++ List.replicate (n - k) 0
theorem fillL_zero (n : Nat) : fillL n 0 = List.replicate n 0 := by simp [fillL]
theorem fillL_full (n : Nat) : fillL n n = uptoL n := by simp [fillL, uptoL]
theorem fillL_length (n k : Nat) (h : k ≤ n) : (fillL n k).length = n := by simp [fillL]; omega
theorem fillL_set (n k : Nat) (h : k < n) : (fillL n k).set k (k : Int) = fillL n (k + 1) := by
  unfold fillL
  obtain ⟨m, rfl⟩ : ∃ m, n = k + 1 + m := ⟨n - k - 1, by omega⟩
  rw [show k + 1 + m - k = m + 1 by omega, show k + 1 + m - (k + 1) = m by omega, List.replicate_succ, List.range_succ]
  rw [List.set_append_right _ _ (by simp)]
  simp
end Go.Proofs.Ythgioaaenfdcdaa
