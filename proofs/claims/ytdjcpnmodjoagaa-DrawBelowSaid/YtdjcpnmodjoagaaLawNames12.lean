/- DrawNames, walked: a closed statement, call by call. -/
import Derived.Test.YtdjcpnmodjoagaaLawRow
namespace Go.Proofs.Ytdjcpnmodjoagaa
open Go.RowKit

theorem Tape.look {w w' : World} {b : Nat} {s : TapeS} {L : List Nat} (h : Tape w b s L) (k : Kept (fun _ => False) w w') : Tape w' b s L := h.kept k id (fun _ _ h => h.elim)

set_option maxRecDepth 100000 in
set_option maxHeartbeats 1000000 in
theorem drawNames_walk (w : World) : Calls Try.prog 7 #[] w fun e w' => e = .returned (.bool true) ∧ Kept (fun _ => False) w w' := by
  have hnn : ∀ w, (binOp .neq 32 (.slice none 0 0) (.slice none 0 0)).run Try.prog w = .ok (.bool false) w := fun _ => by kernel_rfl
  go_enter Try.func7, Try.ntmps7
  go_wp2_with fail
  refine (awake_any _).mono ?_
  rintro e w1 ⟨rfl, hk1⟩
  have K1 := Lib.hid (hk1.alloc (.cells #[.int .u64 18446744073709551615] 22))
  clear hk1
  go_wp2_with fail
  refine (new_any 1 _ [18446744073709551615] 1 (fun _ => True) [] _ (by simp) (RowU.of_blk (new_blk _ _) trivial (by decide) (by decide)) (by unfold U64; decide) (by decide)).mono ?_
  rintro e w2 ⟨b, rfl, hb, ht, hk⟩
  have K2 := Lib.hid (K1.out.trans hk)
  have hwb : w.heap.size ≤ b := by have := K1.out.size; simp at hb this; omega
  have T2 := Lib.hid ht
  clear ht hk K1 hb
  go_wp2_with fail
  refine (below_low b 0 (by decide) w2).mono ?_
  rintro e w' ⟨rfl, rfl⟩
  go_wp2_with fail
  refine (below_low b (-5) (by decide) w2).mono ?_
  rintro e w' ⟨rfl, rfl⟩
  go_wp2_with fail
  refine (shuffle_none b 0 (by decide) w2).mono ?_
  rintro e w' ⟨rfl, rfl⟩
  go_wp2_with fail
  refine (shuffle_none b (-1) (by decide) w2).mono ?_
  rintro e w' ⟨rfl, rfl⟩
  go_wp2_with fail
  refine (shuffle_none b 257 (by decide) w2).mono ?_
  rintro e w' ⟨rfl, rfl⟩
  go_wp2_with fail
  refine (shuffle_none b 4611686018427387904 (by decide) w2).mono ?_
  rintro e w' ⟨rfl, rfl⟩
  go_wp2_with fail
  refine (used_any b _ [b] w2 T2.out).mono ?_
  rintro e w' ⟨rfl, rfl⟩
  rw [show (((0 : Nat) : Int)) = 0 from rfl]
  go_wp2_with fail
  refine (shuffle_any b 1 (by decide) (by decide) _ [b] w2 T2.out (by simpa using T2.out.lt) (by decide)).mono ?_
  rintro e w3 ⟨rfl, hb3, ht, hk⟩
  have K3 := Lib.hid ((K2.out.new hk hwb).alloc (.cells #[.int .i64 0] 3))
  have T3 := Lib.hid (ht.look ((Kept.refl (M := fun _ => False) w3).alloc (.cells #[.int .i64 0] 3)))
  have hlt3 := hb3.lt
  have B3 := Lib.hid hb3
  clear ht hk K2 T2 hb3
  go_wp2_with fail
  refine (ints_any _ _ [0] [0] 1 1 _ ?_ ?_ (by decide) (by decide)).mono ?_
  · exact (show Blk w3 w2.heap.size 3 [.int .i64 0] from B3.out).alloc _ |>.cells_all trivial
  · exact (show Blk (w3.alloc (.cells #[.int .i64 0] 3)) w3.heap.size 3 [.int .i64 0] from new_blk _ _).cells_all trivial
  rintro e w4 ⟨rfl, hk⟩
  have T4 := Lib.hid (T3.out.look hk)
  have K4 := Lib.hid (K3.out.trans hk)
  have hL4 : ∀ k ∈ [w2.heap.size, b], k < w4.heap.size := by have := T4.out.lt; have := hk.size; simp at this ⊢; omega
  clear hk T3 K3 B3
  rw [show decide (([0] : List Int) = [0]) = true from rfl]
  go_wp2_with fail
  refine (used_any b _ _ w4 T4.out).mono ?_
  rintro e w' ⟨rfl, rfl⟩
  rw [show (((shuffleL 1 ⟨1, [18446744073709551615], 0⟩).2.used : Nat) : Int) = 0 from rfl]
  go_wp2_with fail
  refine (below_any b 1 (by decide) (by decide) _ _ w4 T4.out hL4 (by decide)).mono ?_
  rintro e w5 ⟨rfl, ht, hk⟩
  rw [show (shuffleL 1 ⟨1, [18446744073709551615], 0⟩).2.draw % 1 = 0 from rfl]
  have T5 := Lib.hid ht
  have K5 := Lib.hid (K4.out.new hk hwb)
  have hL5 : ∀ k ∈ [w2.heap.size, b], k < w5.heap.size := fun k hm => hk.lt (hL4 k hm)
  clear ht hk T4 K4 hL4
  go_wp2_with fail
  refine (used_any b _ _ w5 T5.out).mono ?_
  rintro e w' ⟨rfl, rfl⟩
  rw [show (((shuffleL 1 ⟨1, [18446744073709551615], 0⟩).2.next.used : Nat) : Int) = 1 from rfl]
  go_wp2_with fail
  refine (shuffle_any b 256 (by decide) (by decide) _ _ w5 T5.out hL5 (by decide)).mono ?_
  rintro e w6 ⟨rfl, hb6, ht, hk⟩
  have hu6 : (shuffleL 256 (shuffleL 1 ⟨1, [18446744073709551615], 0⟩).2.next).2.used = 256 := by
    rw [(shuffleL_law 256 _).2.2.2, TapeS.after'_used]; rfl
  have U6 := used_any b _ _ w6 ht
  rw [hu6] at U6
  have V6 := Lib.hid U6
  have K6 := Lib.hid ((K5.out.new hk hwb).alloc (.cells #[.int .u64 18446744073709551615] 22))
  clear hb6 ht hk hu6 U6 T5 K5
  go_wp2_with fail
  refine V6.out.mono ?_
  rintro e w' ⟨rfl, rfl⟩
  rw [show ((256 : Nat) : Int) = 256 from rfl]
  clear V6
  go_wp2_with fail
  refine (new_any 0 _ [18446744073709551615] 1 (fun _ => True) [] _ (by simp) (RowU.of_blk (new_blk _ _) trivial (by decide) (by decide)) (by unfold U64; decide) (by decide)).mono ?_
  rintro e w7 ⟨c, rfl, hc, ht, hk⟩
  have hwc : w.heap.size ≤ c := by have := K6.out.size; simp at hc this; omega
  have K7 := Lib.hid (K6.out.trans hk)
  have T7 := Lib.hid ht
  clear ht hk K6 hc
  go_wp2_with fail
  refine (below_any c 4611686018427387904 (by decide) (by decide) _ [c] w7 T7.out (by simpa using T7.out.lt) (by decide)).mono ?_
  rintro e w8 ⟨rfl, ht, hk⟩
  rw [show TapeS.draw ⟨0, [18446744073709551615], 0⟩ % 4611686018427387904 = 4611686018427387903 from rfl]
  have K8 := Lib.hid (K7.out.new hk hwc)
  clear ht hk K7 T7
  go_wp2_with fail
  have htape : Tape (w8.alloc (.cells #[.nilFunc, .int .i64 0] 51)) w8.heap.size ⟨0, [], 0⟩ [w8.heap.size] :=
    ⟨_, new_blk _ _, ⟨by unfold U64; decide, by simp⟩, by simp, .inr ⟨rfl, rfl, rfl⟩⟩
  refine (next_any w8.heap.size _ [w8.heap.size] _ htape (by simp) (by decide)).mono ?_
  rintro e w9 ⟨rfl, ht, hk⟩
  rw [show TapeS.draw ⟨0, [], 0⟩ = _ from mix_at1]
  have hle8 := K8.out.size
  have K9 := Lib.hid ((K8.out.alloc (.cells #[.nilFunc, .int .i64 0] 51)).new hk hle8)
  have T9 := Lib.hid ht
  clear htape ht hk K8
  go_wp2_with fail
  refine (used_any _ _ _ w9 T9.out).mono ?_
  rintro e w' ⟨rfl, rfl⟩
  rw [show (((TapeS.next ⟨0, [], 0⟩).used : Nat) : Int) = 1 from rfl]
  clear T9
  go_wp2_with fail
  refine (next_nil w9).mono ?_
  rintro e w' ⟨rfl, rfl⟩
  go_wp2_with fail
  refine (below_nil 5 w9).mono ?_
  rintro e w' ⟨rfl, rfl⟩
  go_wp2_with fail
  refine (shuffle_nil 5 w9).mono ?_
  rintro e w' ⟨rfl, rfl⟩
  go_wp2_with fail
  refine (used_nil w9).mono ?_
  rintro e w' ⟨rfl, rfl⟩
  go_wp2_with fail
  refine (copy_nil w9).mono ?_
  rintro e w' ⟨rfl, rfl⟩
  go_wp2_with fail
  go_ret
  exact ⟨rfl, K9.out⟩
end Go.Proofs.Ytdjcpnmodjoagaa
