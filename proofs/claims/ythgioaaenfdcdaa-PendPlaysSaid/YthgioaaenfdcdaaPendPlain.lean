/- Package pend, plainly: which IDs are out, for which slots. -/
import Derived.Test.YthgioaaenfdcdaaBase
namespace Go.Proofs.Ythgioaaenfdcdaa
open Go.RowKit

def U16 (n : Int) : Prop := 0 ≤ n ∧ n ≤ 65535
def I64 (n : Int) : Prop := -9223372036854775808 ≤ n ∧ n ≤ 9223372036854775807
/-- IDs that are out, each with its slot. -/
abbrev Outs := List (Int × Int)
def look : Outs → Int → Option Int
  | [], _ => none
  | p :: r, k => if p.1 = k then some p.2 else look r k
def Outs.Good (m : Outs) : Prop := (m.map (·.1)).Nodup ∧ ∀ p ∈ m, U16 p.1 ∧ I64 p.2
theorem look_mem {m : Outs} {k v : Int} (h : look m k = some v) : (k, v) ∈ m := by
  induction m with
  | nil => simp [look] at h
  | cons p r ih =>
    simp only [look] at h
    split at h
    · rename_i e; subst e; simp at h; subst h; exact List.mem_cons_self
    · exact List.mem_cons_of_mem _ (ih h)
theorem look_none {m : Outs} {k : Int} : look m k = none ↔ ∀ p ∈ m, p.1 ≠ k := by
  induction m with
  | nil => simp [look]
  | cons p r ih =>
    simp only [look, List.mem_cons, forall_eq_or_imp]
    split
    · rename_i e; simp [e]
    · rename_i e; rw [ih]; simp [e]
theorem look_of_mem {m : Outs} (hm : (m.map (·.1)).Nodup) {k v : Int} (h : (k, v) ∈ m) : look m k = some v := by
  induction m with
  | nil => simp at h
  | cons p r ih =>
    simp only [List.map_cons, List.nodup_cons] at hm
    simp only [look]
    rcases List.mem_cons.1 h with rfl | h
    · simp
    · rw [if_neg, ih hm.2 h]
      intro e
      exact hm.1 (List.mem_map.2 ⟨_, h, e.symm⟩)
theorem look_filter {m : Outs} (hm : (m.map (·.1)).Nodup) (q : Int × Int → Bool) (k : Int) : look (m.filter q) k = (look m k).filter (fun v => q (k, v)) := by
  cases h : look m k with
  | none =>
    rw [look_none] at h
    simp only [Option.filter]
    rw [look_none]
    intro p hp
    exact h p (List.mem_filter.1 hp).1
  | some v =>
    have hv := look_mem h
    have hn : ((m.filter q).map (·.1)).Nodup := hm.sublist (List.Sublist.map _ List.filter_sublist)
    cases hq : q (k, v) with
    | true => rw [look_of_mem hn (List.mem_filter.2 ⟨hv, hq⟩)]; simp [Option.filter, hq]
    | false =>
      simp only [Option.filter, hq]
      rw [if_neg (by simp), look_none]
      rintro p hp rfl
      have hp' := List.mem_filter.1 hp
      have := look_of_mem hm (k := p.1) (v := p.2) hp'.1
      rw [h] at this
      injection this with this
      rw [this] at hq
      rw [hp'.2] at hq
      cases hq
theorem look_snoc {m : Outs} {k v : Int} (h : look m k = none) (x : Int) : look (m ++ [(k, v)]) x = if x = k then some v else look m x := by
  induction m with
  | nil =>
    simp only [List.nil_append, look]
    by_cases e : x = k
    · rw [if_pos e, if_pos e.symm]
    · rw [if_neg e, if_neg (fun h => e h.symm)]
  | cons p r ih =>
    simp only [look] at h
    simp only [List.cons_append, look]
    split at h
    · cases h
    · rename_i e
      rw [ih h]
      split
      · rename_i e2; rw [if_neg (by intro e3; exact e (e2.trans e3))]
      · rfl
theorem good_nil : Outs.Good [] := ⟨by simp, by simp⟩
theorem good_filter {m : Outs} (h : m.Good) (q : Int × Int → Bool) : Outs.Good (m.filter q) :=
  ⟨h.1.sublist (List.Sublist.map _ List.filter_sublist), fun p hp => h.2 p (List.mem_filter.1 hp).1⟩
theorem good_snoc {m : Outs} (h : m.Good) {k v : Int} (hk : look m k = none) (h1 : U16 k) (h2 : I64 v) : Outs.Good (m ++ [(k, v)]) := by
  refine ⟨?_, fun p hp => ?_⟩
  · rw [List.map_append, List.nodup_append]
    refine ⟨h.1, by simp, ?_⟩
    intro a ha b hb
    simp at hb
    subst hb
    obtain ⟨p, hp, rfl⟩ := List.mem_map.1 ha
    exact look_none.1 hk p hp
  · rcases List.mem_append.1 hp with hp | hp
    · exact h.2 p hp
    · simp at hp; subst hp; exact ⟨h1, h2⟩
theorem nodup_len_le {α : Type} [DecidableEq α] : ∀ (a b : List α), a.Nodup → (∀ x ∈ a, x ∈ b) → a.length ≤ b.length
  | [], b, _, _ => Nat.zero_le _
  | x :: r, b, hn, hs => by
    simp only [List.nodup_cons] at hn
    have hx := hs x List.mem_cons_self
    have := nodup_len_le r (b.erase x) hn.2 (fun y hy => (List.mem_erase_of_ne (by rintro rfl; exact hn.1 hy)).2 (hs y (List.mem_cons_of_mem _ hy)))
    rw [List.length_erase_of_mem hx] at this
    have := List.length_pos_of_mem hx
    simp only [List.length_cons]; omega
theorem good_len {m : Outs} (h : m.Good) : m.length ≤ 65536 := by
  have := nodup_len_le (m.map (·.1)) ((List.range 65536).map Int.ofNat) h.1 (fun x hx => by
    obtain ⟨p, hp, rfl⟩ := List.mem_map.1 hx
    have := (h.2 p hp).1
    unfold U16 at this
    exact List.mem_map.2 ⟨p.1.toNat, List.mem_range.2 (by omega), by simp; omega⟩)
  simpa using this
theorem all_out {m : Outs} (h : ∀ k : Nat, k < 65536 → (look m (k : Int)).isSome = true) : 65536 ≤ m.length := by
  have := nodup_len_le ((List.range 65536).map Int.ofNat) (m.map (·.1)) (by
      rw [List.nodup_iff_pairwise_ne, List.pairwise_map]
      have := List.nodup_range (n := 65536)
      rw [List.nodup_iff_pairwise_ne] at this
      exact this.imp (fun hne e => hne (Int.ofNat.inj e))) (fun x hx => by
    obtain ⟨k, hk, rfl⟩ := List.mem_map.1 hx
    have := h k (List.mem_range.1 hk)
    obtain ⟨v, hv⟩ := Option.isSome_iff_exists.1 this
    exact List.mem_map.2 ⟨_, look_mem hv, rfl⟩)
  simpa using this
/-- The k-th number behind x, counted round. -/
def roundAt (x : Int) (k : Nat) : Int := (x + k) % 65536
theorem roundAt_u16 (x : Int) (k : Nat) : U16 (roundAt x k) := by unfold U16 roundAt; omega
theorem roundAt_succ (x : Int) (k : Nat) : (roundAt x k + 1) % 65536 = roundAt x (k + 1) := by unfold roundAt; push_cast; omega
theorem roundAt_zero {x : Int} (h : U16 x) : roundAt x 0 = x := by unfold U16 at h; unfold roundAt; omega
theorem least_of {p : Nat → Prop} [DecidablePred p] : ∀ n, p n → ∃ j, j ≤ n ∧ p j ∧ ∀ i, i < j → ¬ p i
  | 0, h => ⟨0, Nat.le_refl _, h, fun i hi => absurd hi (by omega)⟩
  | n + 1, h => by
    by_cases hex : ∃ k, k ≤ n ∧ p k
    · obtain ⟨k, hk, hpk⟩ := hex
      obtain ⟨j, h1, h2, h3⟩ := least_of k hpk
      exact ⟨j, by omega, h2, h3⟩
    · exact ⟨n + 1, Nat.le_refl _, h, fun i hi hp => hex ⟨i, by omega, hp⟩⟩
theorem first_free {m : Outs} (hl : m.length < 65536) (x : Int) : ∃ j, j < 65536 ∧ look m (roundAt x j) = none ∧ ∀ i, i < j → (look m (roundAt x i)).isSome = true := by
  have hex : ∃ k : Nat, k < 65536 ∧ look m (roundAt x k) = none := by
    by_cases h : ∃ k : Nat, k < 65536 ∧ look m (roundAt x k) = none
    · exact h
    · exfalso
      have := all_out (m := m) (fun k hk => by
        cases hv : look m (k : Int) with
        | some v => rfl
        | none =>
          refine absurd ⟨(((k : Int) - x) % 65536).toNat, by omega, ?_⟩ h
          have : roundAt x (((k : Int) - x) % 65536).toNat = k := by unfold roundAt; omega
          rw [this]; exact hv)
      omega
  obtain ⟨k, hk, hf⟩ := hex
  obtain ⟨j, h1, h2, h3⟩ := least_of (p := fun j => look m (roundAt x j) = none) k hf
  refine ⟨j, by omega, h2, fun i hi => ?_⟩
  have := h3 i hi
  cases hv : look m (roundAt x i) with
  | none => exact absurd hv this
  | some v => rfl
/-- What is left when a slot's are freed. -/
def Outs.free (s : Int) (m : Outs) : Outs := m.filter (fun p => decide (p.2 ≠ s))
def Outs.freed (s : Int) (m : Outs) : Nat := m.length - (m.free s).length
theorem free_le (s : Int) (m : Outs) : (m.free s).length ≤ m.length := List.length_filter_le _ _
theorem good_free {m : Outs} (h : m.Good) (s : Int) : Outs.Good (m.free s) := good_filter h _
end Go.Proofs.Ythgioaaenfdcdaa
