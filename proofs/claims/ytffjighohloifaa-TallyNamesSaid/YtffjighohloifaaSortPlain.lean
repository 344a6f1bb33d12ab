/- Insertion, and the order that it makes, plainly. -/
import Derived.Test.YtffjighohloifaaBase
namespace Go.Proofs.Ytffjighohloifaa
open Go.RowKit

section
variable {α : Type}
/-- Into a row that stands the last one first: x behind all that it does not belong ahead of. -/
def insR (key : α → Int) (x : α) : List α → List α
  | [] => [x]
  | y :: r => if key x < key y then y :: insR key x r else x :: y :: r
def sortR (key : α → Int) (l : List α) : List α := l.foldl (fun acc x => insR key x acc) []
/-- The row, sorted: of equals the first one stays first. -/
def sortK (key : α → Int) (l : List α) : List α := (sortR key l).reverse
variable {key : α → Int}
theorem insR_perm (x : α) (l : List α) : (insR key x l).Perm (x :: l) := by
  induction l with
  | nil => exact .refl _
  | cons y r ih =>
    simp only [insR]
    split
    · exact (ih.cons y).trans (.swap x y r)
    · exact .refl _
theorem sortR_snoc (l : List α) (x : α) : sortR key (l ++ [x]) = insR key x (sortR key l) := by simp [sortR]
theorem list_snoc_ind {P : List α → Prop} (h0 : P []) (h1 : ∀ l x, P l → P (l ++ [x])) (l : List α) : P l := by
  have : ∀ r : List α, P r.reverse := by
    intro r
    induction r with
    | nil => exact h0
    | cons x r ih => rw [List.reverse_cons]; exact h1 _ _ ih
  have := this l.reverse
  rwa [List.reverse_reverse] at this
theorem sortR_perm (l : List α) : (sortR key l).Perm l := by
  induction l using list_snoc_ind with
  | h0 => exact .refl _
  | h1 l x ih => rw [sortR_snoc]; exact (insR_perm x _).trans ((ih.cons x).trans (List.perm_append_singleton x l).symm)
theorem sortK_perm (l : List α) : (sortK key l).Perm l := (List.reverse_perm _).trans (sortR_perm l)
theorem sortK_len (l : List α) : (sortK key l).length = l.length := (sortK_perm l).length_eq
theorem insR_sorted {x : α} {l : List α} (h : l.Pairwise (fun a b => key b ≤ key a)) : (insR key x l).Pairwise (fun a b => key b ≤ key a) := by
  induction l with
  | nil => simp [insR]
  | cons y r ih =>
    simp only [List.pairwise_cons] at h
    simp only [insR]
    split
    · rename_i hlt
      simp only [List.pairwise_cons]
      refine ⟨fun z hz => ?_, ih h.2⟩
      have := (insR_perm (key := key) x r).mem_iff.1 hz
      rcases List.mem_cons.1 this with rfl | hz
      · omega
      · exact h.1 z hz
    · rename_i hlt
      simp only [List.pairwise_cons, List.mem_cons, forall_eq_or_imp]
      exact ⟨⟨by omega, fun z hz => by have := h.1 z hz; omega⟩, h.1, h.2⟩
theorem sortR_sorted (l : List α) : (sortR key l).Pairwise (fun a b => key b ≤ key a) := by
  induction l using list_snoc_ind with
  | h0 => exact .nil
  | h1 l x ih => rw [sortR_snoc]; exact insR_sorted ih
theorem sortK_sorted (l : List α) : (sortK key l).Pairwise (fun a b => key a ≤ key b) := by unfold sortK; rw [List.pairwise_reverse]; exact sortR_sorted l
theorem insR_filter {x : α} {l : List α} (h : l.Pairwise (fun a b => key b ≤ key a)) (c : Int) : (insR key x l).filter (fun a => decide (key a = c)) = if key x = c then x :: l.filter (fun a => decide (key a = c)) else l.filter (fun a => decide (key a = c)) := by
  induction l with
  | nil =>
    simp only [insR]
    by_cases e : key x = c <;> simp [e]
  | cons y r ih =>
    simp only [List.pairwise_cons] at h
    simp only [insR]
    split
    · rename_i hlt
      by_cases e : key x = c
      · rw [if_pos e, List.filter_cons_of_neg (by simp; omega), ih h.2, if_pos e, List.filter_cons_of_neg (by simp; omega)]
      · rw [if_neg e, List.filter_cons, ih h.2, if_neg e, List.filter_cons]
    · by_cases e : key x = c
      · rw [if_pos e, List.filter_cons_of_pos (by simpa using e)]
      · rw [if_neg e, List.filter_cons_of_neg (by simpa using e)]
theorem sortR_filter (l : List α) (c : Int) : (sortR key l).filter (fun a => decide (key a = c)) = (l.filter (fun a => decide (key a = c))).reverse := by
  induction l using list_snoc_ind with
  | h0 => rfl
  | h1 l x ih =>
    rw [sortR_snoc, insR_filter (sortR_sorted l), ih, List.filter_append]
    by_cases e : key x = c
    · rw [if_pos e, List.filter_cons_of_pos (by simpa using e)]; simp
    · rw [if_neg e, List.filter_cons_of_neg (by simpa using e)]; simp
theorem sortK_filter (l : List α) (c : Int) : (sortK key l).filter (fun a => decide (key a = c)) = l.filter (fun a => decide (key a = c)) := by
  unfold sortK
  rw [List.filter_reverse, sortR_filter, List.reverse_reverse]
/-- A sorted row is told by those of each key. -/
theorem sorted_unique : ∀ {a b : List α}, a.Pairwise (fun x y => key x ≤ key y) → b.Pairwise (fun x y => key x ≤ key y) → (∀ c, a.filter (fun x => decide (key x = c)) = b.filter (fun x => decide (key x = c))) → a = b
  | [], b, _, _, h => by
    cases b with
    | nil => rfl
    | cons y r => have := h (key y); simp at this
  | x :: r, b, ha, hb, h => by
    cases b with
    | nil => have := h (key x); simp at this
    | cons y s =>
      simp only [List.pairwise_cons] at ha hb
      have hxy : key x ≤ key y := by
        have : y ∈ (x :: r).filter (fun z => decide (key z = key y)) := by rw [h]; simp
        rcases List.mem_cons.1 (List.mem_filter.1 this).1 with e | e
        · rw [e]; exact Int.le_refl _
        · exact ha.1 y e
      have hyx : key y ≤ key x := by
        have : x ∈ (y :: s).filter (fun z => decide (key z = key x)) := by rw [← h]; simp
        rcases List.mem_cons.1 (List.mem_filter.1 this).1 with e | e
        · rw [e]; exact Int.le_refl _
        · exact hb.1 x e
      have hk : key x = key y := by omega
      have h1 := h (key x)
      rw [List.filter_cons_of_pos (by simp), List.filter_cons_of_pos (by simp [hk])] at h1
      injection h1 with h1 h2
      subst h1
      have := sorted_unique ha.2 hb.2 (fun c => by
        have := h c
        by_cases e : key x = c
        · rw [List.filter_cons_of_pos (by simpa using e), List.filter_cons_of_pos (by simpa using e)] at this
          injection this
        · rwa [List.filter_cons_of_neg (by simpa using e), List.filter_cons_of_neg (by simpa using e)] at this)
      rw [this]
/-! As the program does it: each sinks to its place by exchanges. -/
variable [Inhabited α]
def sink (key : α → Int) : Nat → List α → List α
  | 0, l => l
  | j + 1, l => if key (l.getD (j + 1) default) < key (l.getD j default) then sink key j ((l.set (j + 1) (l.getD j default)).set j (l.getD (j + 1) default)) else l
/-- Behind the sinking of the first ones. -/
def sunk (key : α → Int) (l : List α) : Nat → List α
  | 0 => l
  | k + 1 => sink key (k + 1) (sunk key l k)
theorem sink_len (j : Nat) (l : List α) : (sink key j l).length = l.length := by
  induction j generalizing l with
  | zero => rfl
  | succ j ih => simp only [sink]; split
                 · rw [ih]; simp
                 · rfl
theorem sunk_len (l : List α) (k : Nat) : (sunk key l k).length = l.length := by
  induction k with
  | zero => rfl
  | succ k ih => simp only [sunk]; rw [sink_len, ih]
theorem sink_ins (x : α) : ∀ (p s : List α), sink key p.length (p.reverse ++ x :: s) = (insR key x p).reverse ++ s
  | [], s => rfl
  | y :: r, s => by
    have e1 : ((y :: r).reverse ++ x :: s).getD (r.length + 1) default = x := by
      rw [List.getD_eq_getElem?_getD, List.getElem?_append_right (by simp)]; simp
    have e2 : ((y :: r).reverse ++ x :: s).getD r.length default = y := by
      rw [List.getD_eq_getElem?_getD, List.getElem?_append_left (by simp)]; simp
    simp only [List.length_cons, sink, e1, e2, insR]
    split
    · have e3 : (((y :: r).reverse ++ x :: s).set (r.length + 1) y).set r.length x = r.reverse ++ x :: y :: s := by
        rw [List.set_append_right _ _ (by simp), List.reverse_cons, List.append_assoc, List.set_append_right _ _ (by simp)]
        simp
      rw [e3, sink_ins x r (y :: s)]; simp
    · simp
theorem sunk_sort (l : List α) (k : Nat) (h : k < l.length) : sunk key l k = (sortR key (l.take (k + 1))).reverse ++ l.drop (k + 1) := by
  induction k with
  | zero =>
    cases l with
    | nil => simp at h
    | cons x r => simp [sunk, sortR, insR]
  | succ k ih =>
    have ih := ih (by omega)
    simp only [sunk]
    rw [ih, List.drop_eq_getElem_cons h, List.take_succ_eq_append_getElem h, sortR_snoc]
    have hl : (sortR key (l.take (k + 1))).length = k + 1 := by rw [(sortR_perm _).length_eq]; simp; omega
    have := sink_ins (key := key) l[k + 1] (sortR key (l.take (k + 1))) (l.drop (k + 1 + 1))
    rw [hl] at this
    exact this
theorem sunk_all (l : List α) : sunk key l (l.length - 1) = sortK key l := by
  cases l with
  | nil => rfl
  | cons x r =>
    have := sunk_sort (key := key) (x :: r) r.length (by simp)
    simp only [List.length_cons, Nat.add_sub_cancel]
    rw [this]
    have e : (x :: r).take (r.length + 1) = x :: r := List.take_of_length_le (by simp)
    rw [e]; simp [sortK]
end
end Go.Proofs.Ytffjighohloifaa
