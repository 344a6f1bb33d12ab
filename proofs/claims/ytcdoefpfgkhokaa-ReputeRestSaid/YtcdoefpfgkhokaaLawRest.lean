/- ReputeRest: the plain law. -/
import Derived.Test.YtcdoefpfgkhokaaLawTrial
namespace Go.Proofs.Ytcdoefpfgkhokaa
open Go.RowKit

/-- Nobody rests. -/
def Up (l : List One) : Prop := ∀ x ∈ l, x.rests = false
theorem up_may {l : List One} (h : Up l) : (mayL l).length = l.length := by
  have := may_count l
  have h0 : restsC l = 0 := by unfold restsC; rw [List.countP_eq_zero]; intro x hx; rw [h x hx]; decide
  omega
theorem up_set {l : List One} (h : Up l) (u : Nat) {x : One} (hx : x.rests = false) : Up (l.set u x) := by
  intro y hy
  rcases List.mem_or_eq_of_mem_set hy with hy | rfl
  · exact h y hy
  · exact hx
theorem up_dues {l : List One} (h : Up l) : duesL l = [] := by
  unfold duesL
  rw [List.filter_eq_nil_iff.2 (fun x hx => by rw [h x hx]; decide)]; rfl
theorem up_dues_set {l : List One} (h : Up l) {u : Nat} (hu : u < l.length) {z : One} (hz : z.rests = true) : duesL (l.set u z) = [z.till] := by
  induction l generalizing u with
  | nil => simp at hu
  | cons y r ih =>
    have hr : Up r := fun x hx => h x (List.mem_cons_of_mem _ hx)
    have hy := h y List.mem_cons_self
    cases u with
    | zero =>
      have := up_dues hr
      unfold duesL at this ⊢
      simp only [List.set_cons_zero, List.filter_cons, hz, if_true, List.map_cons, this]
    | succ u =>
      have := ih hr (u := u) (by simpa using hu)
      unfold duesL at this ⊢
      simp only [List.set_cons_succ, List.filter_cons, hy]
      simpa using this
theorem up_back {l : List One} (h : Up l) (now : Int) (i : Nat) : backFrom now i l = [] := by
  induction l generalizing i with
  | nil => rfl
  | cons y r ih =>
    have hy := h y List.mem_cons_self
    simp only [backFrom, One.backs, hy, Bool.false_and]
    simpa using ih (fun x hx => h x (List.mem_cons_of_mem _ hx)) (i + 1)
theorem up_back_set {l : List One} (h : Up l) {u : Nat} (hu : u < l.length) {z : One} (now : Int) (i : Nat) : backFrom now i (l.set u z) = if z.backs now then [((i + u : Nat) : Int)] else [] := by
  induction l generalizing u i with
  | nil => simp at hu
  | cons y r ih =>
    have hr : Up r := fun x hx => h x (List.mem_cons_of_mem _ hx)
    have hy := h y List.mem_cons_self
    cases u with
    | zero => simp only [List.set_cons_zero, backFrom, up_back hr, Nat.add_zero]
    | succ u =>
      have := ih hr (u := u) (by simpa using hu) (i + 1)
      simp only [List.set_cons_succ, backFrom, One.backs, hy, Bool.false_and]
      rw [show i + (u + 1) = i + 1 + u by omega]
      simpa [One.backs] using this
theorem up_map {l : List One} (h : Up l) (lim now : Int) : l.map (One.back lim now) = l := by
  conv => rhs; rw [← List.map_id l]
  refine List.map_congr_left fun x hx => ?_
  unfold One.back One.backs
  rw [h x hx]; rfl
theorem back_up {s : BookS} (hs : s.ok) : Up (s.back 4398046511104).l := by
  intro y hy
  simp only [BookS.back, List.mem_map] at hy
  obtain ⟨x, hx, rfl⟩ := hy
  have ho := hs.2.2.2.2.2 x hx
  unfold One.ok at ho
  unfold One.back One.backs
  cases hr : x.rests with
  | true =>
    have ht : decide (x.till ≤ 4398046511104) = true := by simp; omega
    rw [ht]; simp [One.change]
  | false => simp [hr]
/-- One dissents where nobody rests. -/
theorem dissent_up {s : BookS} (hs : s.ok) (h : Up s.l) {u : Nat} (hu : u < s.l.length) {now : Int} (h0 : 0 ≤ now) (h1 : now ≤ 549755813888) :
    ∃ y : One, y.score = max 0 ((s.of u).score - 10) ∧
      ((s.l.length / 2 + 1 < s.l.length ∧ y.score < s.limit ∧ y.rests = true ∧ y.till = now + s.rest ∧ y.trial = false) ∨ ((decide (s.l.length / 2 + 1 < s.l.length) && decide (y.score < s.limit)) = false ∧ y.rests = false)) ∧
      s.dissentI u now = { s with l := s.l.set u y } := by
  have hx := of_ok hs hu
  rw [of_lt hu] at hx ⊢
  unfold One.ok at hx
  have hxr : s.l[u].rests = false := h _ (List.getElem_mem _)
  have hsc : (s.l[u].dissents s.limit).score = max 0 (s.l[u].score - 10) := by simp only [One.dissents, One.change]; omega
  have hdr : (s.l[u].dissents s.limit).rests = false := hxr
  have hm := up_may (up_set h u hdr)
  have hgo : s.goes (s.l[u].dissents s.limit) (s.l.set u (s.l[u].dissents s.limit)) = (decide (s.l.length / 2 + 1 < s.l.length) && decide ((s.l[u].dissents s.limit).score < s.limit)) := by
    unfold BookS.goes
    rw [hm, hdr, List.length_set, Bool.eq_iff_iff]
    simp
    omega
  have htk : s.takes (u : Int) now := ⟨⟨by omega, by omega⟩, h0, by omega⟩
  unfold BookS.dissentI
  rw [if_pos htk]
  unfold BookS.dissent
  rw [Int.toNat_natCast, List.getElem?_eq_getElem hu]
  simp only [hgo]
  generalize s.l[u].dissents s.limit = dd at hsc hdr ⊢
  cases hg : (decide (s.l.length / 2 + 1 < s.l.length) && decide (dd.score < s.limit)) with
  | true =>
    simp only [Bool.and_eq_true, decide_eq_true_eq] at hg
    refine ⟨dd.resting (now + s.rest), hsc, .inl ⟨hg.1, hg.2, rfl, rfl, rfl⟩, ?_⟩
    simp only [if_true, List.set_set]
  | false =>
    refine ⟨dd, hsc, .inr ⟨hg, hdr⟩, ?_⟩
    simp only [Bool.false_eq_true, if_false]
/-- Who rests dissents. -/
theorem dissent_rests {s : BookS} {l : List One} {u : Nat} (hu : u < l.length) {y : One} (hl : s.l = l.set u y) (hy : y.rests = true) (_ : y.trial = false) {now : Int} (h0 : 0 ≤ now) (h1 : now ≤ 549755813888) :
    ∃ z : One, z.rests = true ∧ z.till = y.till ∧ s.dissentI u now = { s with l := l.set u z } := by
  have hlen : s.l.length = l.length := by rw [hl, List.length_set]
  have htk : s.takes (u : Int) now := ⟨⟨by omega, by omega⟩, h0, by omega⟩
  unfold BookS.dissentI
  rw [if_pos htk]
  unfold BookS.dissent
  have hat : s.l[u]? = some y := by rw [hl]; simp [hu]
  rw [Int.toNat_natCast, hat]
  have hgo : s.goes (y.dissents s.limit) (s.l.set u (y.dissents s.limit)) = false := by
    unfold BookS.goes
    have : (y.dissents s.limit).rests = true := hy
    rw [this]; simp
  refine ⟨y.dissents s.limit, hy, rfl, ?_⟩
  simp only [hgo, Bool.false_eq_true, if_false]
  rw [hl, List.set_set]
theorem back_one {s : BookS} {l : List One} (h : Up l) {u : Nat} (_ : u < l.length) {z : One} (hl : s.l = l.set u z) (now : Int) : s.back now = { s with l := l.set u (z.back s.limit now) } := by
  unfold BookS.back
  rw [hl, List.map_set, up_map h]
theorem backL_one {s : BookS} {l : List One} (h : Up l) {u : Nat} (hu : u < l.length) {z : One} (hl : s.l = l.set u z) (now : Int) : s.backL now = if z.backs now then [(u : Int)] else [] := by
  unfold BookS.backL
  rw [hl, up_back_set h hu, Nat.zero_add]
theorem of_one {s : BookS} {l : List One} {u : Nat} (hu : u < l.length) {z : One} (hl : s.l = l.set u z) : s.of (u : Int) = z := by
  rw [of_lt (by rw [hl]; simpa using hu)]
  simp [hl]
theorem back_due {lim : Int} (h1 : 1 ≤ lim) (h2 : lim ≤ 100) {z : One} (hz : z.rests = true) : (z.back lim z.till).rests = false ∧ (z.back lim z.till).score = lim ∧ (z.back lim z.till).trial = decide (lim < 100) := by
  unfold One.back One.backs
  rw [hz]
  simp [One.change]
  omega
theorem back_no {lim : Int} {z : One} {now : Int} (h : now < z.till) : z.back lim now = z := by
  unfold One.back One.backs
  have : decide (z.till ≤ now) = false := by simp; omega
  rw [this]; simp
theorem acts_rest (s : BookS) (l : List ActS) : (s.acts l).rest = s.rest := by
  have hone : ∀ (s : BookS) (a : ActS), (s.act a).rest = s.rest := by
    intro s a
    unfold BookS.act
    split
    · unfold BookS.agreeI; split
      · unfold BookS.agree; split <;> rfl
      · rfl
    split
    · unfold BookS.dissentI; split
      · unfold BookS.dissent; split
        · rfl
        · simp only; split <;> rfl
      · rfl
    split
    · unfold BookS.silentI; split
      · unfold BookS.silent; split <;> rfl
      · rfl
    split <;> rfl
  induction l generalizing s with
  | nil => rfl
  | cons a r ih => exact (ih (s.act a)).trans (hone s a)
end Go.Proofs.Ytcdoefpfgkhokaa
