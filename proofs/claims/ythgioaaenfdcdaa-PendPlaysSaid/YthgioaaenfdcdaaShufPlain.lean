/- What shuffling does, plainly: a permutation; how many draws; two rows of draws whose answer is told. -/
import Derived.Test.YthgioaaenfdcdaaDrawPlain
namespace Go.Proofs.Ythgioaaenfdcdaa
open Go.RowKit

theorem swapL_get? (l : List Int) (i k : Nat) (hi : i < l.length) (hk : k < l.length) (j : Nat) (hj : j < l.length) :
    (swapL l i k)[j]? = some (if j = k then l[i] else if j = i then l[k] else l[j]) := by
  have e1 : l.getD i 0 = l[i] := by simp [hi]
  have e2 : l.getD k 0 = l[k] := by simp [hk]
  unfold swapL
  rw [e1, e2, List.getElem?_set, List.getElem?_set, List.length_set]
  by_cases h1 : k = j
  · subst h1; simp [hk]
  · rw [if_neg h1, if_neg (fun h : j = k => h1 h.symm)]
    by_cases h2 : i = j
    · subst h2; simp [hi]
    · rw [if_neg h2, if_neg (fun h : j = i => h2 h.symm)]; simp [hj]
theorem swapL_get (l : List Int) (i k : Nat) (hi : i < l.length) (hk : k < l.length) (j : Nat) (hj : j < l.length) :
    (swapL l i k)[j]'(by rw [swapL_length]; exact hj) = if j = k then l[i] else if j = i then l[k] else l[j] := by
  have := swapL_get? l i k hi hk j hj
  exact (List.getElem?_eq_some_iff.1 this).2

theorem swapL_mem (l : List Int) (i k : Nat) (hi : i < l.length) (hk : k < l.length) (x : Int) (hx : x ∈ swapL l i k) : x ∈ l := by
  obtain ⟨j, hj, rfl⟩ := List.getElem_of_mem hx
  rw [swapL_get l i k hi hk j (by rw [swapL_length] at hj; exact hj)]
  split
  · exact List.getElem_mem _
  · split <;> exact List.getElem_mem _

/-- No two places hold the same. -/
def Apart (l : List Int) : Prop := ∀ i j (hi : i < l.length) (hj : j < l.length), l[i] = l[j] → i = j
def swapAt (i k j : Nat) : Nat := if j = k then i else if j = i then k else j
theorem swapAt_lt {n i k j : Nat} (hi : i < n) (hk : k < n) (hj : j < n) : swapAt i k j < n := by unfold swapAt; split; exact hi; split; exact hk; exact hj
theorem swapAt_inj {i k a b : Nat} (h : swapAt i k a = swapAt i k b) : a = b := by unfold swapAt at h; split at h <;> split at h <;> (try split at h) <;> (try split at h) <;> omega
theorem swapL_at (l : List Int) (i k : Nat) (hi : i < l.length) (hk : k < l.length) (j : Nat) (hj : j < l.length) :
    (swapL l i k)[j]'(by rw [swapL_length]; exact hj) = l[swapAt i k j]'(swapAt_lt hi hk hj) := by
  rw [swapL_get l i k hi hk j hj]
  by_cases h1 : j = k
  · subst h1; simp [swapAt]
  · by_cases h2 : j = i
    · subst h2; simp [swapAt, h1]
    · simp [swapAt, h1, h2]
theorem swapL_apart (l : List Int) (i k : Nat) (hi : i < l.length) (hk : k < l.length) (h : Apart l) : Apart (swapL l i k) := by
  intro a b ha hb hab
  rw [swapL_length] at ha hb
  rw [swapL_at l i k hi hk a ha, swapL_at l i k hi hk b hb] at hab
  exact swapAt_inj (h _ _ _ _ hab)

theorem shufGo_law (i : Nat) : ∀ (l : List Int) (s : TapeS), i < l.length ∨ i = 0 → Apart l →
    (shufGo i l s).1.length = l.length ∧ Apart (shufGo i l s).1 ∧ (∀ x ∈ (shufGo i l s).1, x ∈ l) ∧ (shufGo i l s).2 = s.after' i := by
  induction i with
  | zero => intro l s _ h; exact ⟨rfl, h, fun x hx => hx, rfl⟩
  | succ i ih =>
    intro l s hi h
    have hi : i + 1 < l.length := by omega
    have hd0 : 0 ≤ s.draw % ((i : Int) + 2) := Int.emod_nonneg _ (by omega)
    have hd1 : s.draw % ((i : Int) + 2) < (i : Int) + 2 := Int.emod_lt_of_pos _ (by omega)
    have hk : (s.draw % ((i : Int) + 2)).toNat < l.length := by omega
    rw [shufGo_succ]
    have := ih (swapL l (i + 1) (s.draw % ((i : Int) + 2)).toNat) s.next (by rw [swapL_length]; omega) (swapL_apart l _ _ hi hk h)
    rw [swapL_length] at this
    exact ⟨this.1, this.2.1, fun x hx => swapL_mem l _ _ hi hk x (this.2.2.1 x hx), this.2.2.2⟩

theorem uptoL_get (n i : Nat) (h : i < n) : (uptoL n)[i]'(by rw [uptoL_length]; exact h) = (i : Int) := by simp [uptoL]
theorem uptoL_apart (n : Nat) : Apart (uptoL n) := by
  intro i j hi hj h
  rw [uptoL_length] at hi hj
  rw [uptoL_get n i hi, uptoL_get n j hj] at h
  omega
theorem uptoL_mem (n : Nat) (x : Int) (h : x ∈ uptoL n) : 0 ≤ x ∧ x < n := by
  simp [uptoL] at h
  obtain ⟨a, h1, rfl⟩ := h
  omega

theorem shuffleL_law (n : Nat) (s : TapeS) : (shuffleL n s).1.length = n ∧ Apart (shuffleL n s).1 ∧ (∀ x ∈ (shuffleL n s).1, 0 ≤ x ∧ x < n) ∧ (shuffleL n s).2 = s.after' (n - 1) := by
  have := shufGo_law (n - 1) (uptoL n) s (by rw [uptoL_length]; omega) (uptoL_apart n)
  rw [uptoL_length] at this
  exact ⟨this.1, this.2.1, fun x hx => uptoL_mem n x (this.2.2.1 x hx), this.2.2.2⟩

/-! Draws that are each its place. -/
def downL : Nat → List Int
  | 0 => []
  | i + 1 => ((i + 1 : Nat) : Int) :: downL i
theorem downL_pos (i : Nat) (h : 0 < i) : (i : Int) :: downL (i - 1) = downL i := by
  obtain ⟨j, rfl⟩ : ∃ j, i = j + 1 := ⟨i - 1, by omega⟩
  rfl
theorem downL_length (i : Nat) : (downL i).length = i := by induction i with
  | zero => rfl
  | succ i ih => simp [downL, ih]
theorem downL_u64 (i : Nat) (h : i < 100000) : ∀ x ∈ downL i, U64 x := by
  induction i with
  | zero => simp [downL]
  | succ i ih =>
    intro x hx
    simp only [downL, List.mem_cons] at hx
    rcases hx with rfl | hx
    · unfold U64; omega
    · exact ih (by omega) x hx
theorem swapL_self (l : List Int) (i : Nat) (h : i < l.length) : swapL l i i = l := by
  refine List.ext_getElem (swapL_length _ _ _) fun j h1 h2 => ?_
  rw [swapL_get l i i h h j h2]
  split
  · rename_i e; subst e; rfl
  · rfl
theorem shufGo_down (i : Nat) : ∀ (l : List Int) (sd : Int) (u : Nat), i < l.length ∨ i = 0 → (shufGo i l ⟨sd, downL i, u⟩).1 = l := by
  induction i with
  | zero => intro l sd u _; rfl
  | succ i ih =>
    intro l sd u h
    have e : (((i + 1 : Nat) : Int) % ((i : Int) + 2)).toNat = i + 1 := by
      rw [Int.emod_eq_of_lt (by omega) (by omega)]; omega
    have e2 : TapeS.draw ⟨sd, downL (i + 1), u⟩ = ((i + 1 : Nat) : Int) := rfl
    have e3 : TapeS.next ⟨sd, downL (i + 1), u⟩ = ⟨sd, downL i, u + 1⟩ := rfl
    rw [shufGo_succ, e2, e3, e, swapL_self l (i + 1) (by omega)]
    exact ih l sd (u + 1) (by omega)
theorem shuffle_down (n : Nat) (sd : Int) : (shuffleL n ⟨sd, downL (n - 1), 0⟩).1 = uptoL n := shufGo_down _ _ _ _ (by rw [uptoL_length]; omega)

/-! Draws that are all 0. -/
def rndL (n j : Nat) : List Int := (List.range n).map fun i => if i = 0 then (((j + 1) % n : Nat) : Int) else if i ≤ j then (i : Int) else (((i + 1) % n : Nat) : Int)
theorem rndL_length (n j : Nat) : (rndL n j).length = n := by simp [rndL]
theorem rndL_get (n j i : Nat) (h : i < n) : (rndL n j)[i]'(by rw [rndL_length]; exact h) = if i = 0 then (((j + 1) % n : Nat) : Int) else if i ≤ j then (i : Int) else (((i + 1) % n : Nat) : Int) := by simp [rndL]
theorem rndL_step (n j : Nat) (h : j + 1 < n) : swapL (rndL n (j + 1)) (j + 1) 0 = rndL n j := by
  refine List.ext_getElem (by rw [swapL_length, rndL_length, rndL_length]) fun i h1 h2 => ?_
  rw [rndL_length] at h2
  rw [swapL_get _ _ _ (by rw [rndL_length]; omega) (by rw [rndL_length]; omega) i (by rw [rndL_length]; omega)]
  rw [rndL_get n j i h2, rndL_get n (j + 1) (j + 1) h, rndL_get n (j + 1) 0 (by omega), rndL_get n (j + 1) i h2]
  have : (j + 1) % n = j + 1 := Nat.mod_eq_of_lt h
  by_cases h0 : i = 0
  · simp [h0, this]
  · by_cases h1 : i = j + 1
    · subst h1; simp; intro h; omega
    · simp only [h0, h1, if_false]
      by_cases h2 : i ≤ j
      · rw [if_pos h2, if_pos (by omega)]
      · rw [if_neg h2, if_neg (by omega)]
theorem rndL_start (n : Nat) (h : 1 ≤ n) : rndL n (n - 1) = uptoL n := by
  refine List.ext_getElem (by rw [uptoL_length, rndL_length]) fun i h1 h2 => ?_
  rw [uptoL_length] at h2
  rw [rndL_get n _ i h2, uptoL_get n i h2]
  by_cases h0 : i = 0
  · simp [h0, show n - 1 + 1 = n by omega]
  · simp [h0, show i ≤ n - 1 by omega]
theorem shufGo_round (n j : Nat) : ∀ (sd : Int) (m u : Nat), j ≤ m → j < n → (shufGo j (rndL n j) ⟨sd, List.replicate m 0, u⟩).1 = rndL n 0 := by
  induction j with
  | zero => intro sd m u _ _; rfl
  | succ j ih =>
    intro sd m u hm hj
    obtain ⟨m, rfl⟩ : ∃ k, m = k + 1 := ⟨m - 1, by omega⟩
    have e2 : TapeS.draw ⟨sd, List.replicate (m + 1) 0, u⟩ = 0 := rfl
    have e3 : TapeS.next ⟨sd, List.replicate (m + 1) 0, u⟩ = ⟨sd, List.replicate m 0, u + 1⟩ := rfl
    rw [shufGo_succ, e2, e3, Int.zero_emod, Int.toNat_zero, rndL_step n j hj]
    exact ih sd m (u + 1) (by omega) (by omega)
theorem shuffle_round (n : Nat) (h : 1 ≤ n) (sd : Int) : (shuffleL n ⟨sd, List.replicate n 0, 0⟩).1 = rndL n 0 := by
  unfold shuffleL
  rw [← rndL_start n h]
  exact shufGo_round n (n - 1) sd n 0 (by omega) (by omega)
theorem rndL_zero (n i : Nat) (h : i < n) : (rndL n 0)[i]'(by rw [rndL_length]; exact h) = ((i : Int) + 1) % n := by
  rw [rndL_get n 0 i h]
  by_cases h0 : i = 0
  · subst h0; simp
  · rw [if_neg h0, if_neg (by omega)]; push_cast; rfl
end Go.Proofs.Ythgioaaenfdcdaa
