/- OrderNames, walked. (The lines are printed by gen_names20.py.) -/
import Derived.Test.YtnpmimjhpnhdkaaOrd5
namespace Go.Proofs.Ytnpmimjhpnhdkaa
open Go.RowKit

set_option maxRecDepth 100000 in
theorem may_fresh (b : Nat) (w : World) (c : w.cell? ⟨b, 2, none⟩ = some (.slice none 0 0)) : Calls Try.prog 11 #[.pointer (some ⟨b, 0, none⟩)] w fun e w' => e = .returned (.slice none 0 0) ∧ w = w' := by
  go_enter Try.func11, Try.ntmps11
  go_wp2_with fail
  go_loop [3, 13] (fun v c => c = .int .i64 0 ∧ v = .slice none 0 0) (fun _ _ => 0)
  case atStart => exact ⟨rfl, rfl⟩
  case round =>
    obtain ⟨rfl, rfl⟩ := hrel
    go_wp2_with fail
    go_ret
    exact ⟨rfl, rfl⟩
set_option maxRecDepth 100000 in
set_option maxHeartbeats 2000000 in
theorem order_fresh (b tb : Nat) (w : World) (c : w.cell? ⟨b, 2, none⟩ = some (.slice none 0 0)) : Calls Try.prog 12 #[.pointer (some ⟨b, 0, none⟩), .pointer (some ⟨tb, 0, none⟩)] w fun e w' => e = .returned (.slice none 0 0) ∧ w = w' := by
  have C := Lib.hid c
  clear c
  go_enter Try.func12, Try.ntmps12
  go_wp2_with fail
  refine (may_fresh b w C.out).mono ?_
  rintro e _ ⟨rfl, rfl⟩
  go_wp2_with fail
  refine (shuffle_none tb _ (.inl (by decide)) w).mono ?_
  rintro e _ ⟨rfl, rfl⟩
  go_wp2_with fail
  go_loop [6, 26] (fun v c => c = .int .i64 0 ∧ v = .slice none 0 0) (fun _ _ => 0)
  case atStart => exact ⟨rfl, rfl⟩
  case round =>
    obtain ⟨rfl, rfl⟩ := hrel
    go_wp2_with fail
    refine (sstable_any none _ 0 0 (by decide) w (fun w' => w = w') (Lib.hid ((isort_nil _ _ w).mono (fun e w' h => h)))).mono ?_
    rintro e _ ⟨rfl, rfl⟩
    go_wp2_with fail
    go_loop [10, 50] (fun v c => c = .int .i64 0 ∧ v = .slice none 0 0) (fun _ _ => 0)
    case atStart => exact ⟨rfl, rfl⟩
    case round =>
      obtain ⟨rfl, rfl⟩ := hrel
      go_wp2_with fail
      go_ret
      exact ⟨rfl, rfl⟩
def n20a : BookS := (newB 3 95 10).dissentI 0 100
def n20b : BookS := n20a.back 110
def n20c : BookS := n20b.dissentI 2 110
def n20d : BookS := n20c.dissentI 2 110
theorem n20_1 : orderL (newB 1 1 1) ⟨0, [5], 0⟩ = [0] := by kernel_rfl
theorem n20_t : (shuffleL (mayL (newB 1 1 1).l).length ⟨0, [5], 0⟩).2 = ⟨0, [5], 0⟩ := by kernel_rfl
theorem n20_e1 : errI ((newB 3 95 10).takes 0 100) = 0 := by kernel_rfl
theorem n20_r : (n20a.of 0).rests = true := by kernel_rfl
theorem n20_2 : orderL n20a ⟨0, [1], 0⟩ = [1, 2] := by kernel_rfl
theorem n20_3 : orderL n20a ⟨0, [0], 0⟩ = [2, 1] := by kernel_rfl
theorem n20_b : n20a.backL 110 = [0] := by kernel_rfl
theorem n20_e2 : errI (n20b.takes 2 110) = 0 := by kernel_rfl
theorem n20_e3 : errI (n20c.takes 2 110) = 0 := by kernel_rfl
theorem n20_tr : (n20d.of 0).trial = true := by kernel_rfl
theorem n20_sc : (n20d.of 0).score = 95 := by kernel_rfl
theorem n20_4 : orderL n20d ⟨0, [1, 1], 0⟩ = [1, 0] := by kernel_rfl
theorem n20_r2 : (n20d.of 2).rests = true := by kernel_rfl

set_option maxRecDepth 100000 in
set_option maxHeartbeats 4000000 in
theorem names20_walk (w : World) : Calls Try.prog 4 #[] w fun e w' => e = .returned (.bool true) ∧ Kept (fun _ => False) w w' := by
  go_enter Try.func4, Try.ntmps4
  go_wp2_with fail
  refine (awake20_any w).mono ?_
  rintro e w1 ⟨rfl, hk⟩
  have K := Lib.hid hk
  clear hk
  go_wp2_with fail
  refine (own_new K 1 1 1 (by decide)).mono ?_
  rintro e w1 ⟨b, g, rfl, ho, -, -, -, -⟩
  have HO := Lib.hid ho
  clear ho
  go_wp2_with fail
  have hb := HO.out.bk.ltb
  have hg := HO.out.bk.ltg
  have KA := Lib.hid ((Kept.refl (M := fun _ => False) w1).alloc (.cells #[.int .u64 5] 23))
  refine (new_any 0 _ [5] 1 (fun _ => True) [] _ (by simp) (RowU.of_blk (new_blk _ _) trivial (by decide) (by decide)) (by unfold U64; decide) (by decide)).mono ?_
  rintro e w2 ⟨tb, rfl, htb, ht, hk2⟩
  replace HO := Lib.hid ((HO.out.look KA.out).look hk2)
  have HT := Lib.hid (show Tape w2 tb ⟨0, [5], 0⟩ [tb] ∧ (∀ k ∈ [tb], k < w2.heap.size) ∧ b ≠ tb ∧ g ≠ tb ∧ w.heap.size ≤ tb ∧ (0 : Nat) + 9 < 9223372036854775807 from ⟨ht, by simpa using ht.lt, by simp at htb; omega, by simp at htb; omega, by have := HO.out.hb; simp at htb; omega, by decide⟩)
  clear ht hk2 htb KA hb hg
  go_wp2_with fail
  refine (order_own HO tb _ _ HT [0] n20_1).mono ?_
  rintro e w3 ⟨ao, cap, rfl, hc, ho, ⟨L', ht, -, hL'⟩, hk3⟩
  rw [n20_t] at ht
  have HTO := Lib.hid (show TOwn w w3 tb ⟨0, [5], 0⟩ L' from ⟨ht, hL', ho.kp, HT.out.2.2.2.2.1⟩)
  clear ht hL' hk3
  have HC := Lib.hid hc
  replace HO := Lib.hid ho
  clear hc ho HT
  go_wp2_with fail
  refine (ints_any ao _ [0] [0] cap 1 _ (HC.out.kept ((Kept.refl (M := fun _ => False) w3).alloc _) (fun _ _ _ h => h)) (Blk.cells_all (t := 3) (new_blk _ _) trivial) (by decide) (by decide)).mono ?_
  rintro e w1 ⟨rfl, hk4⟩
  replace HO := Lib.hid ((HO.out.look ((Kept.refl (M := fun _ => False) w3).alloc _)).look hk4)
  replace HTO := Lib.hid ((HTO.out.look ((Kept.refl (M := fun _ => False) w3).alloc _)).look hk4)
  clear hk4 HC
  go_wp2_with fail
  refine (town_used HTO 0 rfl).mono ?_
  rintro e _ ⟨rfl, rfl⟩
  go_wp2_with fail
  refine (order_nil1 _ _).mono ?_
  rintro e _ ⟨rfl, rfl⟩
  go_wp2_with fail
  refine (order_nil2 _ _).mono ?_
  rintro e _ ⟨rfl, rfl⟩
  go_wp2_with fail
  refine (order_fresh _ _ _ (by rw [cell_blk (new_blk _ _)]; rfl)).mono ?_
  rintro e _ ⟨rfl, rfl⟩
  replace HTO := Lib.hid (HTO.out.look ((Kept.refl (M := fun _ => False) w1).alloc (.cells #[.int .i64 0, .int .i64 0, .slice none 0 0] 50)))
  have K5 := Lib.hid (HO.out.kp.alloc (.cells #[.int .i64 0, .int .i64 0, .slice none 0 0] 50))
  clear HO
  go_wp2_with fail
  refine (town_used HTO 0 rfl).mono ?_
  rintro e _ ⟨rfl, rfl⟩
  go_wp2_with fail
  clear HTO
  refine (own_new K5 3 95 10 (by decide)).mono ?_
  rintro e w1 ⟨b, g, rfl, ho, -, -, -, -⟩
  have HO := Lib.hid ho
  clear ho
  go_wp2_with fail
  refine (own_dissent HO 0 100 0 n20_e1).mono ?_
  rintro e w1 ⟨rfl, ho, -⟩
  replace HO := Lib.hid (show Own w w1 b g n20a from ho)
  clear ho
  go_wp2_with fail
  refine (own_rests HO 0 true n20_r).mono ?_
  rintro e w1 ⟨rfl, ho, -⟩
  replace HO := Lib.hid ho
  clear ho
  go_wp2_with fail
  have hb := HO.out.bk.ltb
  have hg := HO.out.bk.ltg
  have KA := Lib.hid ((Kept.refl (M := fun _ => False) w1).alloc (.cells #[.int .u64 1] 23))
  refine (new_any 0 _ [1] 1 (fun _ => True) [] _ (by simp) (RowU.of_blk (new_blk _ _) trivial (by decide) (by decide)) (by unfold U64; decide) (by decide)).mono ?_
  rintro e w2 ⟨tb, rfl, htb, ht, hk2⟩
  replace HO := Lib.hid ((HO.out.look KA.out).look hk2)
  have HT := Lib.hid (show Tape w2 tb ⟨0, [1], 0⟩ [tb] ∧ (∀ k ∈ [tb], k < w2.heap.size) ∧ b ≠ tb ∧ g ≠ tb ∧ w.heap.size ≤ tb ∧ (0 : Nat) + 9 < 9223372036854775807 from ⟨ht, by simpa using ht.lt, by simp at htb; omega, by simp at htb; omega, by have := HO.out.hb; simp at htb; omega, by decide⟩)
  clear ht hk2 htb KA hb hg
  go_wp2_with fail
  refine (order_own HO tb _ _ HT [1, 2] n20_2).mono ?_
  rintro e w3 ⟨ao, cap, rfl, hc, ho, -, -⟩
  have HC := Lib.hid hc
  replace HO := Lib.hid ho
  clear hc ho HT
  go_wp2_with fail
  refine (ints_any ao _ [1, 2] [1, 2] cap 2 _ (HC.out.kept ((Kept.refl (M := fun _ => False) w3).alloc _) (fun _ _ _ h => h)) (Blk.cells_all (t := 3) (new_blk _ _) trivial) (by decide) (by decide)).mono ?_
  rintro e w1 ⟨rfl, hk4⟩
  replace HO := Lib.hid ((HO.out.look ((Kept.refl (M := fun _ => False) w3).alloc _)).look hk4)
  clear hk4 HC
  go_wp2_with fail
  have hb := HO.out.bk.ltb
  have hg := HO.out.bk.ltg
  have KA := Lib.hid ((Kept.refl (M := fun _ => False) w1).alloc (.cells #[.int .u64 0] 23))
  refine (new_any 0 _ [0] 1 (fun _ => True) [] _ (by simp) (RowU.of_blk (new_blk _ _) trivial (by decide) (by decide)) (by unfold U64; decide) (by decide)).mono ?_
  rintro e w2 ⟨tb, rfl, htb, ht, hk2⟩
  replace HO := Lib.hid ((HO.out.look KA.out).look hk2)
  have HT := Lib.hid (show Tape w2 tb ⟨0, [0], 0⟩ [tb] ∧ (∀ k ∈ [tb], k < w2.heap.size) ∧ b ≠ tb ∧ g ≠ tb ∧ w.heap.size ≤ tb ∧ (0 : Nat) + 9 < 9223372036854775807 from ⟨ht, by simpa using ht.lt, by simp at htb; omega, by simp at htb; omega, by have := HO.out.hb; simp at htb; omega, by decide⟩)
  clear ht hk2 htb KA hb hg
  go_wp2_with fail
  refine (order_own HO tb _ _ HT [2, 1] n20_3).mono ?_
  rintro e w3 ⟨ao, cap, rfl, hc, ho, -, -⟩
  have HC := Lib.hid hc
  replace HO := Lib.hid ho
  clear hc ho HT
  go_wp2_with fail
  refine (ints_any ao _ [2, 1] [2, 1] cap 2 _ (HC.out.kept ((Kept.refl (M := fun _ => False) w3).alloc _) (fun _ _ _ h => h)) (Blk.cells_all (t := 3) (new_blk _ _) trivial) (by decide) (by decide)).mono ?_
  rintro e w1 ⟨rfl, hk4⟩
  replace HO := Lib.hid ((HO.out.look ((Kept.refl (M := fun _ => False) w3).alloc _)).look hk4)
  clear hk4 HC
  go_wp2_with fail
  refine (own_back HO 110 [0] n20_b).mono ?_
  rintro e w1 ⟨ao, cap, rfl, -, ho, -⟩
  replace HO := Lib.hid (show Own w w1 b g n20b from ho)
  clear ho
  go_wp2_with fail
  refine (own_dissent HO 2 110 0 n20_e2).mono ?_
  rintro e w1 ⟨rfl, ho, -⟩
  replace HO := Lib.hid (show Own w w1 b g n20c from ho)
  clear ho
  go_wp2_with fail
  refine (own_dissent HO 2 110 0 n20_e3).mono ?_
  rintro e w1 ⟨rfl, ho, -⟩
  replace HO := Lib.hid (show Own w w1 b g n20d from ho)
  clear ho
  go_wp2_with fail
  refine (own_trial HO 0 true n20_tr).mono ?_
  rintro e w1 ⟨rfl, ho, -⟩
  replace HO := Lib.hid ho
  clear ho
  go_wp2_with fail
  refine (own_score HO 0 95 n20_sc).mono ?_
  rintro e w1 ⟨rfl, ho, -⟩
  replace HO := Lib.hid ho
  clear ho
  go_wp2_with fail
  have hb := HO.out.bk.ltb
  have hg := HO.out.bk.ltg
  have KA := Lib.hid ((Kept.refl (M := fun _ => False) w1).alloc (.cells #[.int .u64 1, .int .u64 1] 23))
  refine (new_any 0 _ [1, 1] 2 (fun _ => True) [] _ (by simp) (RowU.of_blk (new_blk _ _) trivial (by decide) (by decide)) (by unfold U64; decide) (by decide)).mono ?_
  rintro e w2 ⟨tb, rfl, htb, ht, hk2⟩
  replace HO := Lib.hid ((HO.out.look KA.out).look hk2)
  have HT := Lib.hid (show Tape w2 tb ⟨0, [1, 1], 0⟩ [tb] ∧ (∀ k ∈ [tb], k < w2.heap.size) ∧ b ≠ tb ∧ g ≠ tb ∧ w.heap.size ≤ tb ∧ (0 : Nat) + 9 < 9223372036854775807 from ⟨ht, by simpa using ht.lt, by simp at htb; omega, by simp at htb; omega, by have := HO.out.hb; simp at htb; omega, by decide⟩)
  clear ht hk2 htb KA hb hg
  go_wp2_with fail
  refine (order_own HO tb _ _ HT [1, 0] n20_4).mono ?_
  rintro e w3 ⟨ao, cap, rfl, hc, ho, -, -⟩
  have HC := Lib.hid hc
  replace HO := Lib.hid ho
  clear hc ho HT
  go_wp2_with fail
  refine (own_rests HO 2 true n20_r2).mono ?_
  rintro e w4 ⟨rfl, ho, hk4⟩
  replace HO := Lib.hid ho
  replace HC := Lib.hid (HC.out.kept hk4 (fun _ _ _ h => h))
  clear ho hk4
  go_wp2_with fail
  refine (ints_any ao _ [1, 0] [1, 0] cap 2 _ (HC.out.kept ((Kept.refl (M := fun _ => False) w4).alloc _) (fun _ _ _ h => h)) (Blk.cells_all (t := 3) (new_blk _ _) trivial) (by decide) (by decide)).mono ?_
  rintro e w1 ⟨rfl, hk4⟩
  replace HO := Lib.hid ((HO.out.look ((Kept.refl (M := fun _ => False) w4).alloc _)).look hk4)
  clear hk4 HC
  go_wp2_with fail
  go_ret
  exact ⟨rfl, HO.out.kp⟩
end Go.Proofs.Ytnpmimjhpnhdkaa
