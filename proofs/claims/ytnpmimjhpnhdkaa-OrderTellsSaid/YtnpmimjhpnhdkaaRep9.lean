/- Package repute, walked: Due. -/
import Derived.Test.YtnpmimjhpnhdkaaRep8
namespace Go.Proofs.Ytnpmimjhpnhdkaa
open Go.RowKit

def minL : List Int → Int
  | [] => 0
  | x :: r => r.foldl (fun m y => if y < m then y else m) x
theorem minL_take (l : List Int) (k : Nat) (h0 : 0 < k) (h : k < l.length) : minL (l.take (k + 1)) = if l[k] < minL (l.take k) then l[k] else minL (l.take k) := by
  cases l with
  | nil => simp at h
  | cons x r =>
    obtain ⟨j, rfl⟩ : ∃ j, k = j + 1 := ⟨k - 1, by omega⟩
    simp only [List.take_succ_cons, minL, List.getElem_cons_succ]
    rw [List.take_succ_eq_append_getElem (by simpa using h), List.foldl_append]; rfl

def duesL (l : List One) : List Int := (l.filter (·.rests)).map (·.till)
theorem dues_take (l : List One) (k : Nat) (h : k < l.length) : duesL (l.take (k + 1)) = duesL (l.take k) ++ if (l[k]).rests then [(l[k]).till] else [] := by
  unfold duesL
  rw [List.take_succ_eq_append_getElem h, List.filter_append, List.map_append]
  cases hr : (l[k]).rests <;> simp [hr]
theorem dues_len (l : List One) : (duesL l).length ≤ l.length := by unfold duesL; simp; exact List.length_filter_le _ _

end Go.Proofs.Ytnpmimjhpnhdkaa
