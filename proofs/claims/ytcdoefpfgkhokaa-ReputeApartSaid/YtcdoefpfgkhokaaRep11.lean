/- hustingslaw19.awake: the examples are as they are told. -/
import Derived.Test.YtcdoefpfgkhokaaRep10
namespace Go.Proofs.Ytcdoefpfgkhokaa
open Go.RowKit

def aw0 : BookS := newB 3 95 10
def aw1 : BookS := aw0.dissentI 0 4
def aw2 : BookS := aw1.dissentI 1 5
def aw3 : BookS := aw2.back 13
def aw4 : BookS := aw3.back 14
def agN : Nat → BookS → BookS
  | 0, s => s
  | k + 1, s => (agN k s).agreeI 0

theorem awake_any (w : World) : Calls Try.prog 9 #[] w fun e w' => e = .returned (.bool true) ∧ Kept (fun _ => False) w w' := by
  have H := Lib.hid (Kept.refl (M := fun _ => False) w)
  go_enter Try.func9, Try.ntmps9
  go_wp2_with fail
  refine (own_new H 3 95 10 (by unfold newOk; decide)).mono ?_
  rintro e w1 ⟨b, g, rfl, ho, -⟩
  replace H := Lib.hid (show Own w w1 b g aw0 from ho)
  clear ho
  go_wp2_with fail
  (refine (own_dissent H 0 4 0 (by kernel_rfl)).mono ?_; rintro e _ ⟨rfl, ho, -⟩; replace H := Lib.hid ho; clear ho; go_wp2_with fail)
  (refine (own_score H 0 90 (by kernel_rfl)).mono ?_; rintro e _ ⟨rfl, ho, -⟩; replace H := Lib.hid ho; clear ho; go_wp2_with fail)
  (refine (own_rests H 0 true (by kernel_rfl)).mono ?_; rintro e _ ⟨rfl, ho, -⟩; replace H := Lib.hid ho; clear ho; go_wp2_with fail)
  (refine (own_dissent H 1 5 0 (by kernel_rfl)).mono ?_; rintro e _ ⟨rfl, ho, -⟩; replace H := Lib.hid ho; clear ho; go_wp2_with fail)
  (refine (own_score H 1 90 (by kernel_rfl)).mono ?_; rintro e _ ⟨rfl, ho, -⟩; replace H := Lib.hid ho; clear ho; go_wp2_with fail)
  (refine (own_rests H 1 false (by kernel_rfl)).mono ?_; rintro e _ ⟨rfl, ho, -⟩; replace H := Lib.hid ho; clear ho; go_wp2_with fail)
  refine (own_back H 13 [] (by kernel_rfl)).mono ?_
  rintro e w8 ⟨ao1, cap1, rfl, -, ho, -⟩
  replace H := Lib.hid ho
  clear ho
  go_wp2_with fail
  refine (own_back H 14 [0] (by kernel_rfl)).mono ?_
  rintro e w9 ⟨ao2, cap2, rfl, hr, ho, -⟩
  replace H := Lib.hid (ho.look ((Kept.refl _).alloc (.cells #[.int .i64 0] 3)))
  have HR := Lib.hid (hr.look ((Kept.refl _).alloc (.cells #[.int .i64 0] 3)))
  clear ho hr
  go_wp2_with fail
  refine (ints_any _ _ [0] [0] cap2 1 _ (HR.out.cells.2.mono (fun _ _ => trivial)) ?_ (by decide) (by decide)).mono ?_
  · exact (show Blk (w9.alloc (.cells #[.int .i64 0] 3)) w9.heap.size 3 [.int .i64 0] from new_blk _ _).cells_all trivial
  rintro e w10 ⟨rfl, hk⟩
  replace H := Lib.hid (H.out.look hk)
  clear hk
  go_wp2_with fail
  (refine (own_trial H 0 true (by kernel_rfl)).mono ?_; rintro e _ ⟨rfl, ho, -⟩; replace H := Lib.hid ho; clear ho; go_wp2_with fail)
  (refine (own_score H 0 95 (by kernel_rfl)).mono ?_; rintro e _ ⟨rfl, ho, -⟩; replace H := Lib.hid ho; clear ho; go_wp2_with fail)
  go_loopw [3] (fun c wr => ∃ k : Nat, k ≤ 5 ∧ c = .int .i64 k ∧ Own w wr b g (agN k aw4)) (fun c _ => 5 - (intOf c).toNat)
  case atStart => exact ⟨0, by omega, rfl, H.out⟩
  case round =>
    obtain ⟨k, hk, rfl, ho⟩ := hrel
    replace H := Lib.hid ho
    clear ho
    by_cases hlt : k < 5
    · go_wp2_with fail
      refine (own_agree H 0 0 (have h : ∀ k, k < 5 → errI ((agN k aw4).valid 0) = 0 := (by decide +kernel); h k hlt)).mono ?_
      rintro e w2 ⟨rfl, ho, -⟩
      replace H := Lib.hid ho
      clear ho
      go_wp2_with fail
      go_roundw
      case rel => exact ⟨k + 1, by omega, by go_num, H.out⟩
      case measure => simp [intOf]; omega
    · obtain rfl : k = 5 := by omega
      go_wp2_with fail
      (refine (own_score H 0 100 (by kernel_rfl)).mono ?_; rintro e _ ⟨rfl, ho, -⟩; replace H := Lib.hid ho; clear ho; go_wp2_with fail)
      (refine (own_trial H 0 false (by kernel_rfl)).mono ?_; rintro e _ ⟨rfl, ho, -⟩; replace H := Lib.hid ho; clear ho; go_wp2_with fail)
      go_ret
      exact ⟨rfl, H.out.kp⟩
end Go.Proofs.Ytcdoefpfgkhokaa
