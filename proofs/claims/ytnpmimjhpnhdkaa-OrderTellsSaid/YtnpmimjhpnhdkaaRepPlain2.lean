/- Package repute, plainly: Back, round by round. -/
import Derived.Test.YtnpmimjhpnhdkaaRepPlain
namespace Go.Proofs.Ytnpmimjhpnhdkaa
open Go.RowKit

/-! Behind k rounds of Back. -/
def BookS.backed (s : BookS) (now : Int) (k : Nat) : BookS := { s with l := (s.l.take k).map (One.back s.limit now) ++ s.l.drop k }
theorem backed_length (s : BookS) (now : Int) (k : Nat) : (s.backed now k).l.length = s.l.length := by simp [BookS.backed]; omega
theorem backed_zero (s : BookS) (now : Int) : s.backed now 0 = s := by simp [BookS.backed]
theorem backed_full (s : BookS) (now : Int) : s.backed now s.l.length = s.back now := by simp [BookS.backed, BookS.back]
theorem backed_at (s : BookS) (now : Int) (k : Nat) (h : k < s.l.length) (h' : k < (s.backed now k).l.length) : (s.backed now k).l[k] = s.l[k] := by
  simp only [BookS.backed]
  rw [List.getElem_append_right (by simp; omega)]
  simp [Nat.min_eq_left (Nat.le_of_lt h)]
theorem backed_succ (s : BookS) (now : Int) (k : Nat) (h : k < s.l.length) : { s with l := (s.backed now k).l.set k (s.l[k].back s.limit now) } = s.backed now (k + 1) := by
  simp only [BookS.backed]
  congr 1
  rw [List.set_append_right _ _ (by simp; omega)]
  simp only [List.length_map, List.length_take, Nat.min_eq_left (Nat.le_of_lt h), Nat.sub_self]
  rw [List.drop_eq_getElem_cons h, List.set_cons_zero, List.take_succ_eq_append_getElem h, List.map_append, List.append_assoc]
  rfl
theorem backFrom_append (now : Int) (i : Nat) (a b : List One) : backFrom now i (a ++ b) = backFrom now i a ++ backFrom now (i + a.length) b := by
  induction a generalizing i with
  | nil => simp [backFrom]
  | cons x r ih =>
    simp only [List.cons_append, backFrom, ih, List.length_cons]
    rw [show i + 1 + r.length = i + (r.length + 1) by omega]
    split <;> simp
theorem back_take (now : Int) (l : List One) (k : Nat) (h : k < l.length) : backFrom now 0 (l.take (k + 1)) = backFrom now 0 (l.take k) ++ if (l[k]).backs now then [(k : Int)] else [] := by
  rw [List.take_succ_eq_append_getElem h, backFrom_append]
  simp only [List.length_take, Nat.min_eq_left (Nat.le_of_lt h), backFrom, Nat.zero_add]
theorem backFrom_len (now : Int) (i : Nat) (l : List One) : (backFrom now i l).length ≤ l.length := by
  induction l generalizing i with
  | nil => simp [backFrom]
  | cons x r ih => simp only [backFrom]; split <;> simp <;> have := ih (i + 1) <;> omega
end Go.Proofs.Ytnpmimjhpnhdkaa
