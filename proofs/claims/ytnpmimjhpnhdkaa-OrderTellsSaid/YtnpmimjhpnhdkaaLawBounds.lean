/- ReputeBounds: the plain law, and the walk. -/
import Derived.Test.YtnpmimjhpnhdkaaRep14
namespace Go.Proofs.Ytnpmimjhpnhdkaa
open Go.RowKit

theorem of_lt {s : BookS} {u : Nat} (h : u < s.l.length) : s.of (u : Int) = s.l[u] := by unfold BookS.of; rw [if_pos (by omega)]; simp [h]
theorem of_set {s : BookS} {v : Nat} {x : One} {u : Nat} (h : u < s.l.length) : ({ s with l := s.l.set v x } : BookS).of (u : Int) = if v = u then x else s.of (u : Int) := by
  rw [of_lt (by simpa using h), of_lt h]
  simp only [List.getElem_set]
/-- What an act that is no Back makes of a book: nothing, or one is another. -/
def Move (s : BookS) (a : ActS) (t : BookS) : Prop := t = s ∨ ∃ (v : Nat) (h : v < s.l.length) (y : One), (v : Int) = a.u ∧ t = { s with l := s.l.set v y } ∧ s.l[v].agree ≤ y.agree ∧ s.l[v].dissent ≤ y.dissent ∧ s.l[v].silent ≤ y.silent ∧ (a.k = 0 → s.l[v].score ≤ y.score) ∧ (a.k ≠ 0 → y.score ≤ s.l[v].score)
theorem move_act {s : BookS} (hs : s.ok) (a : ActS) (hk : a.k = 0 ∨ a.k = 1 ∨ a.k = 2) : Move s a (s.act a) := by
  unfold BookS.act
  split
  · rename_i h0
    unfold BookS.agreeI
    split
    · rename_i hv
      unfold BookS.valid at hv
      have hl : a.u.toNat < s.l.length := by omega
      have hx := BookS.ok_at hs hl
      unfold One.ok at hx
      unfold BookS.agree
      rw [List.getElem?_eq_getElem hl]
      refine .inr ⟨a.u.toNat, hl, _, by omega, rfl, ?_, ?_, ?_, ?_, ?_⟩ <;> simp only [One.agrees, One.change] <;> omega
    · exact .inl rfl
  split
  · rename_i h0 h1
    unfold BookS.dissentI
    split
    · rename_i hv
      unfold BookS.takes BookS.valid at hv
      have hl : a.u.toNat < s.l.length := by omega
      have hx := BookS.ok_at hs hl
      unfold One.ok at hx
      unfold BookS.dissent
      rw [List.getElem?_eq_getElem hl]
      simp only
      split
      · refine .inr ⟨a.u.toNat, hl, _, by omega, by rw [List.set_set], ?_, ?_, ?_, ?_, ?_⟩ <;> simp only [One.resting, One.dissents, One.change] <;> omega
      · refine .inr ⟨a.u.toNat, hl, _, by omega, rfl, ?_, ?_, ?_, ?_, ?_⟩ <;> simp only [One.dissents, One.change] <;> omega
    · exact .inl rfl
  split
  · rename_i h0 h1 h2
    unfold BookS.silentI
    split
    · rename_i hv
      unfold BookS.valid at hv
      have hl : a.u.toNat < s.l.length := by omega
      have hx := BookS.ok_at hs hl
      unfold One.ok at hx
      unfold BookS.silent
      rw [List.getElem?_eq_getElem hl]
      refine .inr ⟨a.u.toNat, hl, _, by omega, rfl, ?_, ?_, ?_, ?_, ?_⟩ <;> simp only [One.silents, One.change] <;> omega
    · exact .inl rfl
  · omega
theorem bounds_plain {s : BookS} (hs : s.ok) (a : ActS) (hk : a.k = 0 ∨ a.k = 1 ∨ a.k = 2) {u : Nat} (hu : u < s.l.length) :
    ((s.act a).of u).ok ∧ (s.of u).agree ≤ ((s.act a).of u).agree ∧ (s.of u).dissent ≤ ((s.act a).of u).dissent ∧ (s.of u).silent ≤ ((s.act a).of u).silent ∧ ((u : Int) ≠ a.u → (s.of u).still = ((s.act a).of u).still) ∧
    ((u : Int) = a.u → a.k = 0 → (s.of u).score ≤ ((s.act a).of u).score) ∧ ((u : Int) = a.u → a.k ≠ 0 → ((s.act a).of u).score ≤ (s.of u).score) := by
  refine ⟨?_, ?_⟩
  · rw [of_lt (by rw [len_act]; exact hu)]; exact BookS.ok_at (ok_act hs a) _
  · rcases move_act hs a hk with h | ⟨v, hv, y, e, h, h1, h2, h3, h4, h5⟩
    · rw [h]; exact ⟨Int.le_refl _, Int.le_refl _, Int.le_refl _, fun _ => rfl, fun _ _ => Int.le_refl _, fun _ _ => Int.le_refl _⟩
    · rw [h, of_set hu]
      by_cases hvu : v = u
      · subst hvu
        rw [if_pos rfl, of_lt hv]
        exact ⟨h1, h2, h3, fun h => absurd e h, fun _ => h4, fun _ => h5⟩
      · rw [if_neg hvu]
        exact ⟨Int.le_refl _, Int.le_refl _, Int.le_refl _, fun _ => rfl, fun _ _ => Int.le_refl _, fun _ _ => Int.le_refl _⟩

/-- The spare places are no matter. -/
theorem act_cap (s : BookS) (c : Nat) (a : ActS) : ({ s with cap := c } : BookS).act a = { s.act a with cap := c } := by
  obtain ⟨lim, rst, l, cp⟩ := s
  unfold BookS.act
  split
  · unfold BookS.agreeI
    by_cases h : (⟨lim, rst, l, cp⟩ : BookS).valid a.u
    · rw [if_pos (show (⟨lim, rst, l, c⟩ : BookS).valid a.u from h), if_pos h]
      unfold BookS.agree
      simp only
      cases l[a.u.toNat]? <;> rfl
    · rw [if_neg (show ¬ (⟨lim, rst, l, c⟩ : BookS).valid a.u from h), if_neg h]
  split
  · unfold BookS.dissentI
    by_cases h : (⟨lim, rst, l, cp⟩ : BookS).takes a.u a.n
    · rw [if_pos (show (⟨lim, rst, l, c⟩ : BookS).takes a.u a.n from h), if_pos h]
      unfold BookS.dissent
      simp only
      cases l[a.u.toNat]? with
      | none => rfl
      | some x =>
        have e : ∀ y l', BookS.goes ⟨lim, rst, l, c⟩ y l' = BookS.goes ⟨lim, rst, l, cp⟩ y l' := fun _ _ => rfl
        simp only [e]
        cases BookS.goes ⟨lim, rst, l, cp⟩ (One.dissents lim x) (l.set a.u.toNat (One.dissents lim x)) <;> rfl
    · rw [if_neg (show ¬ (⟨lim, rst, l, c⟩ : BookS).takes a.u a.n from h), if_neg h]
  split
  · unfold BookS.silentI
    by_cases h : (⟨lim, rst, l, cp⟩ : BookS).valid a.u
    · rw [if_pos (show (⟨lim, rst, l, c⟩ : BookS).valid a.u from h), if_pos h]
      unfold BookS.silent
      simp only
      cases l[a.u.toNat]? <;> rfl
    · rw [if_neg (show ¬ (⟨lim, rst, l, c⟩ : BookS).valid a.u from h), if_neg h]
  split <;> rfl
theorem acts_cap (s : BookS) (c : Nat) (l : List ActS) : ({ s with cap := c } : BookS).acts l = { s.acts l with cap := c } := by
  induction l generalizing s with
  | nil => rfl
  | cons a r ih =>
    have := ih (s.act a)
    simp only [BookS.acts, List.foldl_cons] at this ⊢
    rw [act_cap]; exact this

/-- One act that came in by value. -/
theorem act_of {H : Type} {enc : TypeId × Value → H} {w : World} {cs : Array Value} (h : Reads enc Try.prog w 65 cs.toList) : ∃ x : ActS, cs = #[.int .u8 x.k, .int .i64 x.u, .int .i64 x.n] ∧ 0 ≤ x.k ∧ x.k ≤ 255 := by
  obtain ⟨hl, hf⟩ := h.fields (ts := [5, 3, 2]) (by kernel_rfl)
  obtain ⟨v0, e0, r0⟩ := hf 0 _ rfl
  obtain ⟨v1, e1, r1⟩ := hf 1 _ rfl
  obtain ⟨v2, e2, r2⟩ := hf 2 _ rfl
  obtain ⟨n0, h0, g0⟩ := r0.int Try.underlying5
  obtain ⟨n1, h1, g1⟩ := r1.int Try.underlying3
  obtain ⟨n2, h2, g2⟩ := r2.int Try.underlying2
  simp only [List.cons.injEq, and_true] at h0 h1 h2
  subst h0 h1 h2
  refine ⟨⟨n0, n1, n2⟩, ?_, u8_of_wf g0⟩
  obtain ⟨cs⟩ := cs
  simp only at hl e0 e1 e2
  match cs, hl with
  | [a, b, c], _ => simp at e0 e1 e2; simp [e0, e1, e2]
end Go.Proofs.Ytnpmimjhpnhdkaa
