/- Package repute, walked: New, Copy, Due. -/
import Derived.Test.YtnpmimjhpnhdkaaRep6
import Derived.Test.YtnpmimjhpnhdkaaOwnL
namespace Go.Proofs.Ytnpmimjhpnhdkaa
open Go.RowKit

def One.fresh : One := ⟨100, 0, 0, 0, false, 0, false⟩
def newB (ups : Nat) (limit rest : Int) : BookS := ⟨limit, rest, List.replicate ups One.fresh, ups⟩
def newOk (ups limit rest : Int) : Prop := (1 ≤ ups ∧ ups ≤ 9 ∧ ups % 2 = 1) ∧ (1 ≤ limit ∧ limit ≤ 100) ∧ 1 ≤ rest ∧ rest ≤ 100000
instance (a b c : Int) : Decidable (newOk a b c) := by unfold newOk; exact inferInstance
theorem newB_ok {ups : Nat} {limit rest : Int} (h : newOk ups limit rest) : (newB ups limit rest).ok := by
  obtain ⟨h1, h2, h3⟩ := h
  refine ⟨h2.1, h2.2, h3.1, h3.2, by simp [newB]; omega, fun x hx => ?_⟩
  rw [List.eq_of_mem_replicate hx]
  simp [One.ok, One.fresh]

set_option maxRecDepth 100000 in
theorem rnew_bad (ups limit rest : Int) (w : World) (h : ¬ newOk ups limit rest) : Calls Try.prog 19 #[.int .i64 ups, .int .i64 limit, .int .i64 rest] w fun e w' => e = .returned (.tuple #[.pointer none, .int .i64 1]) ∧ w = w' := by
  unfold newOk at h
  by_cases g0 : ups < 1
  · have e0 : decide (ups < 1) = true := by simpa using g0
    go_enter Try.func19, Try.ntmps19
    go_wp2_with fail
    go_ret2
    exact ⟨rfl, rfl⟩
  have e0 : decide (ups < 1) = false := by simpa using g0
  by_cases g1 : 9 < ups
  · have e1 : decide (9 < ups) = true := by simpa using g1
    go_enter Try.func19, Try.ntmps19
    go_wp2_with fail
    go_ret2
    exact ⟨rfl, rfl⟩
  have e1 : decide (9 < ups) = false := by simpa using g1
  by_cases g2 : ups % 2 = 0
  · have e2 : (ups % 2 == 0) = true := by simpa using g2
    go_enter Try.func19, Try.ntmps19
    go_wp2_with fail
    go_ret2
    exact ⟨rfl, rfl⟩
  have e2 : (ups % 2 == 0) = false := by simpa using g2
  by_cases g3 : limit < 1
  · have e3 : decide (limit < 1) = true := by simpa using g3
    go_enter Try.func19, Try.ntmps19
    go_wp2_with fail
    go_ret2
    exact ⟨rfl, rfl⟩
  have e3 : decide (limit < 1) = false := by simpa using g3
  by_cases g4 : 100 < limit
  · have e4 : decide (100 < limit) = true := by simpa using g4
    go_enter Try.func19, Try.ntmps19
    go_wp2_with fail
    go_ret2
    exact ⟨rfl, rfl⟩
  have e4 : decide (100 < limit) = false := by simpa using g4
  by_cases g5 : rest < 1
  · have e5 : decide (rest < 1) = true := by simpa using g5
    go_enter Try.func19, Try.ntmps19
    go_wp2_with fail
    go_ret2
    exact ⟨rfl, rfl⟩
  have e5 : decide (rest < 1) = false := by simpa using g5
  have e6 : decide (100000 < rest) = true := by simp; omega
  go_enter Try.func19, Try.ntmps19
  go_wp2_with fail
  go_ret2
  exact ⟨rfl, rfl⟩

theorem info_one : (Try.prog.info? 69).map (fun i => (i.zero, i.size, i.bytes)) = some (some (.agg One.none.cells.toArray), 7, 56) := by kernel_rfl

/-- The first k scores are laid. -/
def laidL (n k : Nat) : List One := List.replicate k One.fresh ++ List.replicate (n - k) One.none
theorem laidL_length (n k : Nat) (h : k ≤ n) : (laidL n k).length = n := by simp [laidL]; omega
theorem laidL_at (n k : Nat) (_h : k < n) (h' : k < (laidL n k).length) : (laidL n k)[k] = One.none := by
  simp only [laidL]; rw [List.getElem_append_right (by simp)]; simp
theorem laidL_set (n k : Nat) (h : k < n) : (laidL n k).set k One.fresh = laidL n (k + 1) := by
  unfold laidL
  obtain ⟨m, rfl⟩ : ∃ m, n = k + 1 + m := ⟨n - k - 1, by omega⟩
  rw [show k + 1 + m - k = m + 1 by omega, show k + 1 + m - (k + 1) = m by omega, List.replicate_succ, List.set_append_right _ _ (by simp), List.replicate_succ']
  simp

set_option maxRecDepth 100000 in
theorem rnew_any (ups : Nat) (limit rest : Int) (w : World) (h : newOk ups limit rest) : Calls Try.prog 19 #[.int .i64 ups, .int .i64 limit, .int .i64 rest] w fun e w' =>
    e = .returned (.tuple #[.pointer (some ⟨w.heap.size + 1, 0, none⟩), .int .i64 0]) ∧ Book w' (w.heap.size + 1) w.heap.size (newB ups limit rest) ∧ Kept (fun _ => False) w w' := by
  obtain ⟨⟨h1, h2, h3⟩, ⟨h4, h5⟩, h6, h7⟩ := h
  have e0 : decide ((ups : Int) < 1) = false := by simp; omega
  have e1 : decide (9 < (ups : Int)) = false := by simp; omega
  have e2 : ((ups : Int) % 2 == 0) = false := by simp; omega
  have e3 : decide (limit < 1) = false := by simp; omega
  have e4 : decide (100 < limit) = false := by simp; omega
  have e5 : decide (rest < 1) = false := by simp; omega
  have e6 : decide (100000 < rest) = false := by simp; omega
  obtain ⟨i0, hi, hz0, hz1, hz2⟩ := info_parts info_one
  clear h3
  go_enter Try.func19, Try.ntmps19
  go_wp2_with (at_make; go_must (refine wpList_make_tab rfl _ _ _ rfl 69 i0 (.agg One.none.cells.toArray) 7 56 Try.underlying48 hi hz0 hz1 hz2 rfl (by decide) One.cells One.none rfl ups rfl rfl (by omega) (by omega) ?_); intro w1 hb hk hsz)
  clear hi hz0 hz1 hz2
  have hbk : (w1.alloc (.cells #[.int .i64 limit, .int .i64 rest, .slice (some ⟨w.heap.size, 0, none⟩) ups ups] 50)).heap[w.heap.size + 1]? = some (.cells #[.int .i64 limit, .int .i64 rest, .slice (some ⟨w.heap.size, 0, none⟩) ups ups] 50 (0, 0)) := new_at hsz.symm
  have HBK := Lib.hid hbk
  have HTB := Lib.hid (hb.kept ((Kept.refl (M := fun _ => False) w1).alloc (.cells #[.int .i64 limit, .int .i64 rest, .slice (some ⟨w.heap.size, 0, none⟩) ups ups] 50)) id)
  have HK := Lib.hid (hk.alloc (.cells #[.int .i64 limit, .int .i64 rest, .slice (some ⟨w.heap.size, 0, none⟩) ups ups] 50))
  clear hbk hb hk hsz
  go_loopw [48] (fun c wr => ∃ k : Nat, k ≤ ups ∧ c = .int .i64 k ∧ wr.heap[w.heap.size + 1]? = some (.cells #[.int .i64 limit, .int .i64 rest, .slice (some ⟨w.heap.size, 0, none⟩) ups ups] 50 (0, 0)) ∧
      Tab wr w.heap.size 69 7 One.cells (laidL ups k) ∧ Kept (fun _ => False) w wr) (fun c _ => ups - (intOf c).toNat)
  case atStart => exact ⟨0, by omega, rfl, HBK.out, by simpa [laidL] using HTB.out, HK.out⟩
  case round =>
    obtain ⟨k, hk, rfl, hb, ht, hkr⟩ := hrel
    have HB := Lib.hid hb
    have HT := Lib.hid ht
    have KR := Lib.hid hkr
    have c2 := cell_blk hb 2
    simp at c2
    clear hkr HBK HTB HK hb
    by_cases hlt : k < ups
    · have hl : k < (laidL ups k).length := by rw [laidL_length _ _ hk]; exact hlt
      have t0 := ht.cell0 k hl (by decide)
      have f0 := ht.free (k * 7)
      rw [laidL_at ups k hlt hl] at t0
      simp only [One.cells, One.none, List.getElem?_cons_zero] at t0
      clear ht
      go_wp2_with fail
      go_roundw
      case rel => exact ⟨k + 1, by omega, by go_num, set_other HB.out _ _ (by simp), by rw [← laidL_set ups k hlt]; exact HT.out.set0 k hl (by decide) _ One.fresh (by rw [laidL_at ups k hlt hl]; rfl), KR.out.fresh (Nat.le_refl _) _ _⟩
      case measure => simp [intOf]; omega
    · obtain rfl : k = ups := by omega
      clear ht
      go_wp2_with fail
      go_ret2
      exact ⟨rfl, ⟨by simpa [newB] using HB.out, by simpa [laidL, newB] using HT.out, by simp⟩, KR.out⟩
end Go.Proofs.Ytnpmimjhpnhdkaa
