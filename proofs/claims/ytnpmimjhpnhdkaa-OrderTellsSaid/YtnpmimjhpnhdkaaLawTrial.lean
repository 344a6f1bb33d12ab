/- ReputeTrial: the plain law. -/
import Derived.Test.YtnpmimjhpnhdkaaLawBounds
namespace Go.Proofs.Ytnpmimjhpnhdkaa
open Go.RowKit

/-- What an act makes of each. -/
def Does (lim : Int) (x y : One) : Prop := y = x ∨ y = x.agrees lim ∨ y = x.dissents lim ∨ (∃ t, y = (x.dissents lim).resting t) ∨ y = x.silents lim ∨ ∃ now, y = x.back lim now
theorem act_limit (s : BookS) (a : ActS) : (s.act a).limit = s.limit := by
  unfold BookS.act
  split
  · unfold BookS.agreeI; split
    · unfold BookS.agree; split <;> rfl
    · rfl
  split
  · unfold BookS.dissentI; split
    · unfold BookS.dissent; split
      · rfl
      · simp only; split <;> rfl
    · rfl
  split
  · unfold BookS.silentI; split
    · unfold BookS.silent; split <;> rfl
    · rfl
  split <;> rfl
theorem act_does (s : BookS) (a : ActS) {u : Nat} (hu : u < s.l.length) : Does s.limit (s.of u) ((s.act a).of u) := by
  have hset : ∀ (v : Nat) (y : One) (c : BookS), c = { s with l := s.l.set v y } → (∀ h : v < s.l.length, Does s.limit s.l[v] y) → Does s.limit (s.of u) (c.of u) := by
    intro v y c hc h
    subst hc
    rw [of_set hu]
    split
    · rename_i e; subst e; rw [of_lt hu]; exact h hu
    · exact .inl rfl
  unfold BookS.act
  split
  · unfold BookS.agreeI
    split
    · unfold BookS.agree
      split
      · exact .inl rfl
      · rename_i x hx
        obtain ⟨hl, rfl⟩ := List.getElem?_eq_some_iff.1 hx
        exact hset _ _ _ rfl (fun _ => .inr (.inl rfl))
    · exact .inl rfl
  split
  · unfold BookS.dissentI
    split
    · unfold BookS.dissent
      split
      · exact .inl rfl
      · rename_i x hx
        obtain ⟨hl, rfl⟩ := List.getElem?_eq_some_iff.1 hx
        simp only
        split
        · exact hset _ _ _ (by rw [List.set_set]) (fun _ => .inr (.inr (.inr (.inl ⟨_, rfl⟩))))
        · exact hset _ _ _ rfl (fun _ => .inr (.inr (.inl rfl)))
    · exact .inl rfl
  split
  · unfold BookS.silentI
    split
    · unfold BookS.silent
      split
      · exact .inl rfl
      · rename_i x hx
        obtain ⟨hl, rfl⟩ := List.getElem?_eq_some_iff.1 hx
        exact hset _ _ _ rfl (fun _ => .inr (.inr (.inr (.inr (.inl rfl)))))
    · exact .inl rfl
  split
  · rw [of_lt (s := s.back a.n) (by rw [len_back]; exact hu), of_lt hu]
    simp only [BookS.back, List.getElem_map]
    exact .inr (.inr (.inr (.inr (.inr ⟨_, rfl⟩))))
  · exact .inl rfl
/-- Who is on trial may be asked, and stands below the bound. -/
def Tried (lim : Int) (x : One) : Prop := x.trial = true → x.rests = false ∧ x.score < min 100 (lim + 10)
theorem tried_change {lim by' : Int} {x y : One} (h : Tried lim x) (_ : y.score = max 0 (min 100 (x.score + by'))) (ht : y.trial = (x.trial && decide (y.score < min 100 (lim + 10)))) (hr : y.rests = x.rests) :
    Tried lim y ∧ (y.trial = true → x.trial = false → x.rests = true) ∧ (x.trial = true → y.trial = false → y.rests = false → min 100 (lim + 10) ≤ y.score) := by
  unfold Tried at *
  generalize min 100 (lim + 10) = bd at *
  refine ⟨fun h1 => ?_, fun h1 h2 => ?_, fun h1 h2 _ => ?_⟩
  · rw [ht] at h1
    simp only [Bool.and_eq_true, decide_eq_true_eq] at h1
    exact ⟨by rw [hr]; exact (h h1.1).1, h1.2⟩
  · rw [ht, h2] at h1; cases h1
  · rw [ht, h1] at h2
    simpa using h2
theorem tried_does {lim : Int} {x y : One} (h0 : 0 ≤ x.score) (h : Tried lim x) (hd : Does lim x y) : Tried lim y ∧ (y.trial = true → x.trial = false → x.rests = true) ∧ (x.trial = true → y.trial = false → y.rests = false → min 100 (lim + 10) ≤ y.score) := by
  have hdis : Tried lim (x.dissents lim) ∧ ((x.dissents lim).trial = true → x.trial = false → x.rests = true) ∧ (x.trial = true → (x.dissents lim).trial = false → (x.dissents lim).rests = false → min 100 (lim + 10) ≤ (x.dissents lim).score) := by
    obtain ⟨h1, h2, h3⟩ := tried_change (by' := -8) (y := ({ x with dissent := min 65535 (x.dissent + 1) } : One).change lim (-8)) h rfl rfl rfl
    obtain ⟨g1, g2, g3⟩ := tried_change (by' := -2) (y := x.dissents lim) h1 rfl rfl rfl
    refine ⟨g1, fun a b => ?_, fun a b c => ?_⟩
    · refine h2 ?_ b
      have : (x.dissents lim).trial = ((({ x with dissent := min 65535 (x.dissent + 1) } : One).change lim (-8)).trial && decide ((x.dissents lim).score < min 100 (lim + 10))) := rfl
      rw [this] at a
      simp at a; exact a.1
    · refine g3 ?_ b c
      cases e : (({ x with dissent := min 65535 (x.dissent + 1) } : One).change lim (-8)).trial with
      | true => rfl
      | false =>
        have q := h3 a e c
        have r := (h a).2
        simp only [One.change] at q
        omega
  rcases hd with rfl | rfl | rfl | ⟨t, rfl⟩ | rfl | ⟨now, rfl⟩
  · exact ⟨h, fun a b => by simp_all, fun a b => by simp_all⟩
  · exact tried_change (by' := 1) h rfl rfl rfl
  · exact hdis
  · exact ⟨fun a => by simp [One.resting] at a, fun a => by simp [One.resting] at a, fun _ _ a => by simp [One.resting] at a⟩
  · exact tried_change (by' := -2) h rfl rfl rfl
  · unfold One.back
    split
    · rename_i hb
      unfold One.backs at hb
      simp only [Bool.and_eq_true] at hb
      refine ⟨fun a => ⟨rfl, ?_⟩, fun _ _ => hb.1, fun a => ?_⟩
      · simp only [One.change, Bool.true_and, decide_eq_true_eq] at a ⊢; exact a
      · rw [(h a).1] at hb; exact absurd hb.1 (by simp)
    · exact ⟨h, fun a b => by simp_all, fun a b => by simp_all⟩
def TriedB (s : BookS) : Prop := ∀ u : Nat, u < s.l.length → Tried s.limit (s.of u)
theorem triedB_new {n : Nat} {lo ti : Int} : TriedB (newB n lo ti) := by
  intro u hu h
  rw [of_lt hu] at h
  simp [newB, One.fresh] at h
theorem of_ok {s : BookS} (hs : s.ok) {u : Nat} (hu : u < s.l.length) : (s.of u).ok := by rw [of_lt hu]; exact BookS.ok_at hs hu
theorem triedB_act {s : BookS} (hs : s.ok) (h : TriedB s) (a : ActS) : TriedB (s.act a) := by
  intro u hu
  rw [len_act] at hu
  rw [act_limit]
  exact (tried_does (of_ok hs hu).1 (h u hu) (act_does s a hu)).1
theorem triedB_acts {s : BookS} (hs : s.ok) (h : TriedB s) (l : List ActS) : TriedB (s.acts l) := by
  induction l generalizing s with
  | nil => exact h
  | cons a r ih => exact ih (ok_act hs a) (triedB_act hs h a)
theorem acts_limit (s : BookS) (l : List ActS) : (s.acts l).limit = s.limit := by
  induction l generalizing s with
  | nil => rfl
  | cons a r ih => exact (ih (s.act a)).trans (act_limit s a)
/-- The ways that the law's round can go. -/
theorem trial_ways {s : BookS} (hs : s.ok) (h : TriedB s) (a : ActS) {u : Nat} (hu : u < s.l.length) {bd : Int} (hb : min 100 (s.limit + 10) = bd) {x y : One} (hx : s.of u = x) (hy : (s.act a).of u = y) :
    (y.trial = true ∧ x.trial = true ∧ y.rests = false ∧ decide (bd ≤ y.score) = false) ∨ (y.trial = true ∧ x.trial = false ∧ y.rests = false ∧ x.rests = true ∧ decide (bd ≤ y.score) = false) ∨ (y.trial = false ∧ x.trial = false) ∨
    (y.trial = false ∧ x.trial = true ∧ y.rests = true) ∨ (y.trial = false ∧ x.trial = true ∧ y.rests = false ∧ decide (y.score < bd) = false) := by
  have ht := tried_does (of_ok hs hu).1 (h u hu) (act_does s a hu)
  rw [hx, hy] at ht
  obtain ⟨h1, h2, h3⟩ := ht
  unfold Tried at h1
  rw [hb] at h1 h3
  cases hyt : y.trial with
  | true =>
    obtain ⟨g1, g2⟩ := h1 hyt
    cases hxt : x.trial with
    | true => exact .inl ⟨rfl, rfl, g1, by simpa using g2⟩
    | false => exact .inr (.inl ⟨rfl, rfl, g1, h2 hyt hxt, by simpa using g2⟩)
  | false =>
    cases hxt : x.trial with
    | false => exact .inr (.inr (.inl ⟨rfl, rfl⟩))
    | true =>
      cases hyr : y.rests with
      | true => exact .inr (.inr (.inr (.inl ⟨rfl, rfl, rfl⟩)))
      | false => exact .inr (.inr (.inr (.inr ⟨rfl, rfl, rfl, by have := h3 hxt hyt hyr; simpa using this⟩)))
end Go.Proofs.Ytnpmimjhpnhdkaa
