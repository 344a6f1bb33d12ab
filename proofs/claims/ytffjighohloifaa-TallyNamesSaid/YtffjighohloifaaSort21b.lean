/- slices.Sort at rows of int, of at most 9 numbers. -/
import Derived.Test.YtffjighohloifaaSort21
namespace Go.Proofs.Ytffjighohloifaa
open Go.RowKit

def SomeI (e : Ending) : Prop := ∃ k : Int, e = .returned (.int .i64 k)
set_option maxRecDepth 100000 in
theorem len64_any (n : Nat) (hn : n ≤ 9) (w : World) : Calls Try.prog 94 #[.int .u64 n] w fun e w' => SomeI e ∧ w = w' := by
  have h : n = 0 ∨ n = 1 ∨ n = 2 ∨ n = 3 ∨ n = 4 ∨ n = 5 ∨ n = 6 ∨ n = 7 ∨ n = 8 ∨ n = 9 := by omega
  rcases h with rfl | rfl | rfl | rfl | rfl | rfl | rfl | rfl | rfl | rfl
  all_goals
    go_enter Try.func94, Try.ntmps94
    go_wp2_with fail
    go_ret
    exact ⟨⟨_, rfl⟩, rfl⟩
set_option maxRecDepth 100000 in
theorem bitsLen_any (n : Nat) (hn : n ≤ 9) (w : World) : Calls Try.prog 68 #[.int .u64 n] w fun e w' => SomeI e ∧ w = w' := by
  go_enter Try.func68, Try.ntmps68
  go_wp2_with fail
  refine (len64_any n hn w).mono ?_
  rintro e w' ⟨⟨k, rfl⟩, rfl⟩
  go_wp2_with fail
  go_ret
  exact ⟨⟨k, rfl⟩, rfl⟩
set_option maxRecDepth 100000 in
theorem pdq_any (g n : Nat) (l : List Int) (cap : Nat) (k : Int) (w : World) (h : IRow w g l) (hn : l.length = n) (hn9 : n ≤ 9) (hn1 : 1 ≤ n) :
    Calls Try.prog 67 #[.slice (some ⟨g, 0, none⟩) n cap, .int .i64 0, .int .i64 n, .int .i64 k] w fun e w' => e = .returned (.tuple #[]) ∧ IRow w' g (sunk keyI l (n - 1)) ∧ Kept (· = g) w w' := by
  have H := Lib.hid (isortI_any g n l cap w h hn hn9 hn1)
  clear h hn
  go_enter Try.func67, Try.ntmps67
  go_wp2_with fail
  refine wp_loop_rounds 1 ?_
  rw [rounds_succ]
  go_wp2_with fail
  refine H.out.mono ?_
  rintro e w1 ⟨rfl, h1, h2⟩
  have H1 := Lib.hid (And.intro h1 h2)
  clear h1 h2
  go_wp2_with fail
  exact bodyPost_ret (v := .tuple #[]) (by simp [results, Try.results67, go_sem]) rfl ⟨rfl, H1.out.1, H1.out.2⟩
set_option maxRecDepth 100000 in
theorem sortI_any (g n : Nat) (l : List Int) (cap : Nat) (w : World) (h : IRow w g l) (hn : l.length = n) (hn9 : n ≤ 9) (hn1 : 1 ≤ n) :
    Calls Try.prog 42 #[.slice (some ⟨g, 0, none⟩) n cap] w fun e w' => e = .returned (.tuple #[]) ∧ IRow w' g (sortK keyI l) ∧ Kept (· = g) w w' := by
  have H := Lib.hid (fun k => pdq_any g n l cap k w h hn hn9 hn1)
  have HS := Lib.hid (show sunk keyI l (n - 1) = sortK keyI l from by rw [← hn]; exact sunk_all l)
  clear h hn
  go_enter Try.func42, Try.ntmps42
  go_wp2_with fail
  refine (bitsLen_any n hn9 w).mono ?_
  rintro e w1 ⟨⟨k, rfl⟩, rfl⟩
  go_wp2_with fail
  refine (H.out k).mono ?_
  rintro e w1 ⟨rfl, h1, h2⟩
  rw [HS.out] at h1
  have H1 := Lib.hid (And.intro h1 h2)
  clear h1 h2
  go_wp2_with fail
  go_end0
  exact ⟨rfl, H1.out.1, H1.out.2⟩
end Go.Proofs.Ytffjighohloifaa
