/- hustingslaw12.awake: the examples are as they are told. -/
import Derived.Test.YtdjcpnmodjoagaaDrawShuf
import Derived.Test.YtdjcpnmodjoagaaInts12
namespace Go.Proofs.Ytdjcpnmodjoagaa
open Go.RowKit

theorem RowU.of_blk {w : World} {g cap : Nat} {l : List Int} {P : Nat → Prop} (h : Blk w g 22 (l.map (.int .u64))) (hp : P g) (hl : l.length ≤ cap) (hc : cap ≤ maxLen) : RowU w (some ⟨g, 0, none⟩) l cap P := by
  refine ⟨hl, hc, .inr ⟨g, 0, rfl, hp, fun i hi => ?_⟩⟩
  rw [Nat.zero_add, h.cell]; simp [hi]

theorem mix_at1 : mixI (stepI 0) = 16294208416658607535 := by decide +kernel
theorem mix_at2 : mixI (stepI (stepI 0)) = 7960286522194355700 := by decide +kernel
theorem shuffle_at : (shuffleL 3 ⟨0, [0, 0], 0⟩).1 = [1, 2, 0] := by decide +kernel

theorem awake_any (w : World) : Calls Try.prog 12 #[] w fun e w' => e = .returned (.bool true) ∧ Kept (fun _ => False) w w' := by
  have hs3 := Lib.hid shuffle_at
  go_enter Try.func12, Try.ntmps12
  go_wp2_with fail
  refine (new_any 0 _ [7, 9] 2 (fun _ => True) [] _ (by simp) (RowU.of_blk (new_blk _ _) trivial (by decide) (by decide)) (by unfold U64; decide) (by decide)).mono ?_
  rintro e w1 ⟨b, rfl, hb, ht, hk⟩
  have K := Lib.hid (((Kept.refl (M := fun _ => False) w).alloc _).trans hk)
  have T0 := Lib.hid ht
  clear hk ht
  go_wp2_with fail
  refine (next_any b _ [b] w1 T0.out (by simpa using T0.out.lt) (by decide)).mono ?_
  rintro e w2 ⟨rfl, ht, hk⟩
  have K2 := Lib.hid hk
  have T1 := Lib.hid ht
  clear hk ht
  rw [show TapeS.draw ⟨0, [7, 9], 0⟩ = 7 from rfl]
  go_wp2_with fail
  refine (next_any b _ [b] w2 T1.out (by simpa using T1.out.lt) (by decide)).mono ?_
  rintro e w3 ⟨rfl, ht, hk⟩
  have K3 := Lib.hid hk
  have T2 := Lib.hid ht
  clear hk ht
  rw [show TapeS.draw (TapeS.next ⟨0, [7, 9], 0⟩) = 9 from rfl]
  go_wp2_with fail
  refine (next_any b _ [b] w3 T2.out (by simpa using T2.out.lt) (by decide)).mono ?_
  rintro e w4 ⟨rfl, ht, hk⟩
  have K4 := Lib.hid hk
  have T3 := Lib.hid ht
  clear hk ht
  rw [show TapeS.draw (TapeS.next (TapeS.next ⟨0, [7, 9], 0⟩)) = _ from mix_at1]
  go_wp2_with fail
  refine (next_any b _ [b] w4 T3.out (by simpa using T3.out.lt) (by decide)).mono ?_
  rintro e w5 ⟨rfl, ht, hk⟩
  have K5 := Lib.hid hk
  clear hk ht
  rw [show TapeS.draw (TapeS.next (TapeS.next (TapeS.next ⟨0, [7, 9], 0⟩))) = _ from mix_at2]
  go_wp2_with fail
  refine (new_any 0 _ [47] 1 (fun _ => True) [] _ (by simp) (RowU.of_blk (new_blk _ _) trivial (by decide) (by decide)) (by unfold U64; decide) (by decide)).mono ?_
  rintro e w6 ⟨b6, rfl, hb6, ht, hk⟩
  have K6 := Lib.hid (((Kept.refl (M := fun _ => False) w5).alloc _).trans hk)
  have T6 := Lib.hid ht
  clear hk ht
  go_wp2_with fail
  refine (below_any b6 10 (by decide) (by decide) _ [b6] w6 T6.out (by simpa using T6.out.lt) (by decide)).mono ?_
  rintro e w7 ⟨rfl, ht, hk⟩
  have K7 := Lib.hid hk
  clear hk ht
  rw [show TapeS.draw ⟨0, [47], 0⟩ % 10 = 7 from rfl]
  go_wp2_with fail
  refine (new_any 0 _ [0, 0] 2 (fun _ => True) [] _ (by simp) (RowU.of_blk (new_blk _ _) trivial (by decide) (by decide)) (by unfold U64; decide) (by decide)).mono ?_
  rintro e w8 ⟨b8, rfl, hb8, ht, hk⟩
  have K8 := Lib.hid (((Kept.refl (M := fun _ => False) w7).alloc _).trans hk)
  have T8 := Lib.hid ht
  clear hk ht
  go_wp2_with fail
  refine (shuffle_any b8 3 (by decide) (by decide) _ [b8] w8 T8.out (by simpa using T8.out.lt) (by decide)).mono ?_
  rintro e w9 ⟨rfl, hbl, ht, hk⟩
  have K9 := Lib.hid hk
  have B9 := Lib.hid hbl
  clear hk ht hbl
  go_wp2_with fail
  refine (ints_any _ _ [1, 2, 0] [1, 2, 0] 3 3 _ ?_ ?_ (by decide) (by decide)).mono ?_
  · have := B9.out
    rw [hs3.out] at this
    exact (this.alloc _).cells_all trivial
  · exact (show Blk (w9.alloc (.cells #[.int .i64 1, .int .i64 2, .int .i64 0] 3)) w9.heap.size 3 [.int .i64 1, .int .i64 2, .int .i64 0] from new_blk _ _).cells_all trivial
  rintro e w10 ⟨rfl, hk⟩
  have K10 := Lib.hid hk
  clear hk
  go_wp2_with fail
  go_ret
  refine ⟨rfl, ?_⟩
  have hb' : w.heap.size ≤ b := by simp at hb; omega
  have a1 := (((K.out.new K2.out hb').new K3.out hb').new K4.out hb').new K5.out hb'
  have a2 := a1.trans K6.out
  have a3 := a2.new K7.out (by have := a1.size; simp at hb6; omega)
  have a4 := a3.trans K8.out
  have a5 := a4.new K9.out (by have := a3.size; simp at hb8; omega)
  exact (a5.alloc _).trans K10.out
end Go.Proofs.Ytdjcpnmodjoagaa
