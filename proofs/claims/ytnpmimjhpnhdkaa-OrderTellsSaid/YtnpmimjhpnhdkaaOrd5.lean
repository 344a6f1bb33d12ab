/- The examples, as they are told. -/
import Derived.Test.YtnpmimjhpnhdkaaOrd4
import Derived.Test.YtnpmimjhpnhdkaaInts12
import Derived.Test.YtnpmimjhpnhdkaaTapeArgs
namespace Go.Proofs.Ytnpmimjhpnhdkaa
open Go.RowKit

theorem order_own {W w : World} {b g : Nat} {s : BookS} (H : Hid (Own W w b g s)) (tb : Nat) (t : TapeS) (L : List Nat) (HT : Hid (Tape w tb t L ∧ (∀ k ∈ L, k < w.heap.size) ∧ b ≠ tb ∧ g ≠ tb ∧ W.heap.size ≤ tb ∧ t.used + 9 < 9223372036854775807)) (l : List Int) (hl : orderL s t = l) :
    Calls Try.prog 12 #[.pointer (some ⟨b, 0, none⟩), .pointer (some ⟨tb, 0, none⟩)] w fun e w' => ∃ ao cap, e = .returned (.slice ao l.length cap) ∧ Cells w' ao (l.map (.int .i64)) (fun _ => True) ∧ Own W w' b g s ∧
      (∃ L', Tape w' tb (shuffleL (mayL s.l).length t).2 L' ∧ (∀ k ∈ L', k ∈ L ∨ w.heap.size ≤ k) ∧ (∀ k ∈ L, k ∈ L') ∧ ∀ k ∈ L', k < w'.heap.size) ∧ Kept (· = tb) w w' := by
  subst hl
  obtain ⟨h1, h2, h3, h4, h5, h6⟩ := HT.out
  refine (order_any b g tb s t L w H.out.bk H.out.ok h1 h2 h3 h4 h6).mono ?_
  rintro e w' ⟨ao, cap, rfl, ho, ht, hk⟩
  refine ⟨ao, cap, rfl, ?_, H.out.aside hk h3 h4 h5, ht, hk⟩
  rcases ho.cells.2 with h | ⟨x, o, q1, q2, q3⟩
  · exact .inl h
  · exact .inr ⟨x, o, q1, trivial, q3⟩
theorem ord20a : orderL (newB 3 50 10) ⟨0, [0, 0], 0⟩ = [1, 2, 0] := by kernel_rfl
theorem ord20b : orderL ((newB 3 50 10).dissentI 1 5) ⟨0, [0, 0], 0⟩ = [2, 0, 1] := by kernel_rfl
theorem err20 : errI ((newB 3 50 10).takes 1 5) = 0 := by kernel_rfl

set_option maxRecDepth 100000 in
set_option maxHeartbeats 2000000 in
theorem awake20_any (w : World) : Calls Try.prog 9 #[] w fun e w' => e = .returned (.bool true) ∧ Kept (fun _ => False) w w' := by
  go_enter Try.func9, Try.ntmps9
  go_wp2_with fail
  refine (own_new (Lib.hid (Kept.refl w)) 3 50 10 (by decide)).mono ?_
  rintro e w1 ⟨b, g, rfl, ho, -, -, hb, hg⟩
  have HO := Lib.hid ho
  clear ho
  go_wp2_with fail
  have KA := Lib.hid ((Kept.refl (M := fun _ => False) w1).alloc (.cells #[.int .u64 0, .int .u64 0] 23))
  refine (new_any 0 _ [0, 0] 2 (fun _ => True) [] _ (by simp) (RowU.of_blk (new_blk _ _) trivial (by decide) (by decide)) (by unfold U64; decide) (by decide)).mono ?_
  rintro e w2 ⟨tb, rfl, htb, ht, hk2⟩
  have hz := KA.out.size
  replace HO := Lib.hid ((HO.out.look KA.out).look hk2)
  have HT := Lib.hid (show Tape w2 tb ⟨0, [0, 0], 0⟩ [tb] ∧ (∀ k ∈ [tb], k < w2.heap.size) ∧ b ≠ tb ∧ g ≠ tb ∧ w.heap.size ≤ tb ∧ (0 : Nat) + 9 < 9223372036854775807 from ⟨ht, by simpa using ht.lt, by simp at htb; omega, by simp at htb; omega, by have := HO.out.hb; simp at htb; omega, by decide⟩)
  have hb2 := HO.out.bk.ltb
  have hg2 := HO.out.bk.ltg
  clear ht hk2 htb KA hz hb hg
  go_wp2_with fail
  refine (order_own HO tb _ _ HT [1, 2, 0] ord20a).mono ?_
  rintro e w3 ⟨ao, cap, rfl, hc, ho, -, -⟩
  have HC := Lib.hid hc
  replace HO := Lib.hid ho
  clear hc ho HT
  go_wp2_with fail
  refine (ints_any ao _ [1, 2, 0] [1, 2, 0] cap 3 _ (HC.out.kept ((Kept.refl (M := fun _ => False) w3).alloc _) (fun _ _ _ h => h)) (Blk.cells_all (t := 3) (new_blk _ _) trivial) (by decide) (by decide)).mono ?_
  rintro e w4 ⟨rfl, hk4⟩
  replace HO := Lib.hid ((HO.out.look ((Kept.refl (M := fun _ => False) w3).alloc _)).look hk4)
  clear hk4 HC
  go_wp2_with fail
  refine (own_dissent HO 1 5 0 err20).mono ?_
  rintro e w1 ⟨rfl, ho, -⟩
  replace HO := Lib.hid ho
  clear ho
  have hb := HO.out.bk.ltb
  have hg := HO.out.bk.ltg
  go_wp2_with fail
  have KA := Lib.hid ((Kept.refl (M := fun _ => False) w1).alloc (.cells #[.int .u64 0, .int .u64 0] 23))
  refine (new_any 0 _ [0, 0] 2 (fun _ => True) [] _ (by simp) (RowU.of_blk (new_blk _ _) trivial (by decide) (by decide)) (by unfold U64; decide) (by decide)).mono ?_
  rintro e w2 ⟨tb, rfl, htb, ht, hk2⟩
  replace HO := Lib.hid ((HO.out.look KA.out).look hk2)
  have HT := Lib.hid (show Tape w2 tb ⟨0, [0, 0], 0⟩ [tb] ∧ (∀ k ∈ [tb], k < w2.heap.size) ∧ b ≠ tb ∧ g ≠ tb ∧ w.heap.size ≤ tb ∧ (0 : Nat) + 9 < 9223372036854775807 from ⟨ht, by simpa using ht.lt, by simp at htb; omega, by simp at htb; omega, by have := HO.out.hb; simp at htb; omega, by decide⟩)
  clear ht hk2 htb KA hb hg
  go_wp2_with fail
  refine (order_own HO tb _ _ HT [2, 0, 1] ord20b).mono ?_
  rintro e w3 ⟨ao, cap, rfl, hc, ho, -, -⟩
  have HC := Lib.hid hc
  replace HO := Lib.hid ho
  clear hc ho HT
  go_wp2_with fail
  refine (ints_any ao _ [2, 0, 1] [2, 0, 1] cap 3 _ (HC.out.kept ((Kept.refl (M := fun _ => False) w3).alloc _) (fun _ _ _ h => h)) (Blk.cells_all (t := 3) (new_blk _ _) trivial) (by decide) (by decide)).mono ?_
  rintro e w4 ⟨rfl, hk4⟩
  have HF := Lib.hid (((HO.out.look ((Kept.refl (M := fun _ => False) w3).alloc _)).look hk4).kp)
  clear hk4 HC
  go_wp2_with fail
  go_ret
  exact ⟨rfl, HF.out⟩
end Go.Proofs.Ytnpmimjhpnhdkaa
