/- Package repute, plainly: enough may be asked. -/
import Derived.Test.YtnpmimjhpnhdkaaRep13
namespace Go.Proofs.Ytnpmimjhpnhdkaa
open Go.RowKit

def restsC (l : List One) : Nat := l.countP (·.rests)
theorem mayFrom_count (i : Nat) (l : List One) : (mayFrom i l).length + restsC l = l.length := by
  induction l generalizing i with
  | nil => rfl
  | cons x r ih =>
    have := ih (i + 1)
    unfold restsC at *
    simp only [mayFrom, List.countP_cons]
    cases x.rests <;> simp <;> omega
theorem may_count (l : List One) : (mayL l).length + restsC l = l.length := mayFrom_count 0 l
theorem mayFrom_at (i : Nat) (l : List One) : ∀ x ∈ mayFrom i l, ∃ (u : Nat) (h : u < l.length), x = ((i + u : Nat) : Int) ∧ l[u].rests = false := by
  induction l generalizing i with
  | nil => intro x hx; simp [mayFrom] at hx
  | cons y r ih =>
    intro x hx
    simp only [mayFrom] at hx
    have key : x ∈ mayFrom (i + 1) r → ∃ (u : Nat) (h : u < (y :: r).length), x = ((i + u : Nat) : Int) ∧ (y :: r)[u].rests = false := by
      intro hx
      obtain ⟨u, h, e, hr⟩ := ih (i + 1) x hx
      exact ⟨u + 1, by simp; omega, by rw [e]; congr 1; omega, by simpa using hr⟩
    cases hy : y.rests with
    | true => rw [hy] at hx; exact key (by simpa using hx)
    | false =>
      rw [hy] at hx
      simp at hx
      rcases hx with rfl | hx
      · exact ⟨0, by simp, by simp, by simpa using hy⟩
      · exact key hx
theorem mayFrom_rise (i : Nat) (l : List One) : (mayFrom i l).Pairwise (· < ·) := by
  induction l generalizing i with
  | nil => exact .nil
  | cons y r ih =>
    simp only [mayFrom]
    cases y.rests with
    | true => simpa using ih (i + 1)
    | false =>
      simp
      refine ⟨fun x hx => ?_, ih (i + 1)⟩
      obtain ⟨u, _, e, _⟩ := mayFrom_at (i + 1) r x hx
      omega
theorem may_at {l : List One} {k : Nat} (h : k < (mayL l).length) : ∃ (u : Nat) (h' : u < l.length), (mayL l)[k] = (u : Int) ∧ l[u].rests = false := by
  obtain ⟨u, h', e, hr⟩ := mayFrom_at 0 l _ (List.getElem_mem h)
  exact ⟨u, h', by rw [e]; simp, hr⟩
theorem may_rise {l : List One} {k j : Nat} (hj : j < k) (h : k < (mayL l).length) : (mayL l)[j] < (mayL l)[k] :=
  List.pairwise_iff_getElem.1 (mayFrom_rise 0 l) j k (Nat.lt_trans hj h) h hj

theorem countP_set_le {α : Type} (p : α → Bool) (l : List α) (u : Nat) (x : α) (h : ∀ (hu : u < l.length), p x = true → p l[u] = true) : (l.set u x).countP p ≤ l.countP p := by
  induction l generalizing u with
  | nil => simp
  | cons y r ih =>
    cases u with
    | zero =>
      have := h (by simp)
      simp only [List.set_cons_zero, List.countP_cons]
      simp at this
      cases hx : p x <;> simp
      simp [this hx]
    | succ u =>
      have := ih u (fun hu hp => by have := h (by simp; omega) hp; simpa using this)
      simp only [List.set_cons_succ, List.countP_cons]; omega
theorem countP_set_le1 {α : Type} (p : α → Bool) (l : List α) (u : Nat) (x : α) : (l.set u x).countP p ≤ l.countP p + 1 := by
  induction l generalizing u with
  | nil => simp
  | cons y r ih =>
    cases u with
    | zero => simp only [List.set_cons_zero, List.countP_cons]; split <;> split <;> omega
    | succ u => have := ih u; simp only [List.set_cons_succ, List.countP_cons]; omega

/-- F and 1 at least may be asked. -/
def Enough (s : BookS) : Prop := s.l.length / 2 + 1 + restsC s.l ≤ s.l.length
theorem enough_new {n : Nat} {lo ti : Int} (h : newOk n lo ti) : Enough (newB n lo ti) := by
  have : restsC (newB n lo ti).l = 0 := by
    unfold restsC newB
    simp only
    rw [List.countP_eq_zero]
    intro x hx
    rw [List.eq_of_mem_replicate hx]; decide
  unfold Enough
  rw [this]
  unfold newOk at h
  simp [newB]; omega
theorem enough_set {s : BookS} (h : Enough s) (u : Nat) (x : One) (hx : ∀ (hu : u < s.l.length), x.rests = true → s.l[u].rests = true) : Enough { s with l := s.l.set u x } := by
  unfold Enough restsC at *
  have := countP_set_le (·.rests) s.l u x hx
  simp only [List.length_set]; omega
theorem enough_act {s : BookS} (h : Enough s) (a : ActS) : Enough (s.act a) := by
  unfold BookS.act
  split
  · unfold BookS.agreeI
    split
    · unfold BookS.agree
      cases hu : s.l[a.u.toNat]? with
      | none => exact h
      | some x =>
        obtain ⟨hl, rfl⟩ := List.getElem?_eq_some_iff.1 hu
        exact enough_set h _ _ (fun _ e => e)
    · exact h
  split
  · unfold BookS.dissentI
    split
    · unfold BookS.dissent
      cases hu : s.l[a.u.toNat]? with
      | none => exact h
      | some x =>
        obtain ⟨hl, rfl⟩ := List.getElem?_eq_some_iff.1 hu
        simp only
        split
        · rename_i hg
          have hd := enough_set h a.u.toNat (s.l[a.u.toNat].dissents s.limit) (fun _ e => e)
          obtain ⟨y, hy⟩ : ∃ y, s.l[a.u.toNat].dissents s.limit = y := ⟨_, rfl⟩
          rw [hy] at hd hg ⊢
          simp only [BookS.goes, Bool.and_eq_true, decide_eq_true_eq, Bool.not_eq_true'] at hg
          have h1 := may_count (s.l.set a.u.toNat y)
          have h2 := countP_set_le1 (·.rests) (s.l.set a.u.toNat y) a.u.toNat (y.resting (a.n + s.rest))
          unfold Enough restsC at *
          simp only [List.length_set] at *
          omega
        · exact enough_set h _ _ (fun _ e => e)
    · exact h
  split
  · unfold BookS.silentI
    split
    · unfold BookS.silent
      cases hu : s.l[a.u.toNat]? with
      | none => exact h
      | some x =>
        obtain ⟨hl, rfl⟩ := List.getElem?_eq_some_iff.1 hu
        exact enough_set h _ _ (fun _ e => e)
    · exact h
  split
  · unfold Enough restsC BookS.back at *
    simp only [List.length_map, List.countP_map]
    have : s.l.countP ((fun x => x.rests) ∘ One.back s.limit a.n) ≤ s.l.countP (·.rests) := by
      refine List.countP_mono_left fun x _ hx => ?_
      simp only [Function.comp_apply] at hx
      unfold One.back at hx
      split at hx
      · simp [One.change] at hx
      · exact hx
    omega
  · exact h
theorem enough_acts {s : BookS} (h : Enough s) (l : List ActS) : Enough (s.acts l) := by
  induction l generalizing s with
  | nil => exact h
  | cons a r ih => exact ih (enough_act h a)
theorem restsC_take (l : List One) (k : Nat) (h : k < l.length) : restsC (l.take (k + 1)) = restsC (l.take k) + if l[k].rests then 1 else 0 := by
  unfold restsC
  rw [List.take_succ_eq_append_getElem h, List.countP_append]
  cases hr : l[k].rests <;> simp [hr]
end Go.Proofs.Ytnpmimjhpnhdkaa
