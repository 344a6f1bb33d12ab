/- Package repute, walked. -/
import Derived.Test.YtnpmimjhpnhdkaaRepPlain
namespace Go.Proofs.Ytnpmimjhpnhdkaa
open Go.RowKit

/-- Block b is a book whose upstreams lie in block g. -/
def Book (w : World) (b g : Nat) (s : BookS) : Prop :=
  w.heap[b]? = some (.cells #[.int .i64 s.limit, .int .i64 s.rest, .slice (some ⟨g, 0, none⟩) s.l.length s.cap] 50 (0, 0)) ∧ Tab w g 69 7 One.cells s.l ∧ b ≠ g

set_option maxRecDepth 100000 in
set_option maxHeartbeats 1000000 in
theorem change_any (b g u : Nat) (lim : Int) (x : One) (by' : Int) (w : World) (hlim : w.cell? ⟨b, 0, none⟩ = some (.int .i64 lim)) (hl0 : 0 ≤ lim) (hl1 : lim ≤ 100) (hb0 : -1000 ≤ by') (hb1 : by' ≤ 1000) (h0 : 0 ≤ x.score) (h1 : x.score ≤ 100)
    (hbg : b ≠ g) (c0 : w.cell? ⟨g, u * 7, none⟩ = some (.int .i64 x.score)) (c6 : w.cell? ⟨g, u * 7 + 6, none⟩ = some (.bool x.trial)) (f0 : w.frozen? ⟨g, u * 7, none⟩ = false) (f6 : w.frozen? ⟨g, u * 7 + 6, none⟩ = false) :
    Calls Try.prog 43 #[.pointer (some ⟨b, 0, none⟩), .pointer (some ⟨g, u * 7, none⟩), .int .i64 by'] w fun e w' => e = .returned (.tuple #[]) ∧
      ((w.setCell ⟨g, u * 7, none⟩ (.int .i64 (x.change lim by').score)).setCell ⟨g, u * 7 + 6, none⟩ (.bool (x.change lim by').trial)).drew = w' := by
  obtain ⟨m1, hm1⟩ : ∃ m1, (if x.score + by' < 100 then x.score + by' else 100) = m1 := ⟨_, rfl⟩
  obtain ⟨m2, hm2⟩ : ∃ m2, (if 0 < m1 then m1 else 0) = m2 := ⟨_, rfl⟩
  obtain ⟨bd, hbd⟩ : ∃ bd, (if lim + 10 < 100 then lim + 10 else 100) = bd := ⟨_, rfl⟩
  have hsc : (x.change lim by').score = m2 := by simp only [One.change]; rw [← hm2, ← hm1]; split <;> split <;> omega
  have hbd2 : min 100 (lim + 10) = bd := by rw [← hbd]; split <;> omega
  have htr : (x.change lim by').trial = (x.trial && decide (m2 < bd)) := by
    rw [← hsc, ← hbd2]; rfl
  rw [hsc, htr]
  have hw : IntKind.i64.wrap (lim + 10) = lim + 10 := by rw [IntKind.wrap_i64]; omega
  have d0 := cell_set_eq (u := .int .i64 m2) c0
  have d6 := cell_set_ne (a := g) (o := u * 7) (u := .int .i64 m2) c6 (.inr (by omega))
  have dl := cell_set_ne (a := g) (o := u * 7) (u := .int .i64 m2) hlim (.inl (fun e => hbg e.symm))
  have e6 := free_set (p := ⟨g, u * 7, none⟩) (u := .int .i64 m2) f6
  clear hsc htr hbd2
  obtain ⟨w1, hw1⟩ : ∃ w1, w.setCell ⟨g, u * 7, none⟩ (.int .i64 m2) = w1 := ⟨_, rfl⟩
  rw [hw1] at d0 d6 dl e6 ⊢
  have HW := Lib.hid hw1
  clear hw1
  cases htx : x.trial with
  | true =>
    rw [htx] at d6
    go_enter Try.func43, Try.ntmps43
    go_wp2_with fail
    rw [HW.out]
    go_still_tail 20, (by kernel_rfl)
    change wpList _ _ _ _ _ w1.drew
    go_wp2_with fail
    go_end0
    exact ⟨rfl, rfl⟩
  | false =>
    rw [htx] at d6
    go_enter Try.func43, Try.ntmps43
    go_wp2_with fail
    rw [HW.out]
    go_region
    all_goals go_end0
    all_goals exact ⟨rfl, rfl⟩
end Go.Proofs.Ytnpmimjhpnhdkaa
