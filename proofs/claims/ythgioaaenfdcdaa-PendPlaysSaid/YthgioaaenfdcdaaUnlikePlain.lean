/- PendUnlike, plain: a book of what is out, and the table. -/
import Derived.Test.YthgioaaenfdcdaaPend6
namespace Go.Proofs.Ythgioaaenfdcdaa
open Go.RowKit

/-- One that is out: where, for which slot, by which ID. -/
structure DRec where
  u : Int
  s : Int
  id : Int
def DRel (D : List DRec) (T : List Outs) : Prop := (∀ r ∈ D, 0 ≤ r.u ∧ r.u < T.length) ∧ ∀ u : Nat, u < T.length → T.getD u [] = (D.filter (fun r => decide (r.u = (u : Int)))).map (fun r => (r.id, r.s))
theorem drel_start (n : Nat) : DRel [] (List.replicate n []) := ⟨by simp, fun u hu => by simp at hu; simp [hu]⟩
theorem drel_at {D : List DRec} {T : List Outs} (h : DRel D T) {u : Int} (h0 : 0 ≤ u ∧ u < T.length) : atT T u = (D.filter (fun r => decide (r.u = u))).map (fun r => (r.id, r.s)) := by
  obtain ⟨k, rfl⟩ := Int.eq_ofNat_of_zero_le h0.1
  rw [atT_nat]
  exact h.2 k (by omega)
theorem getD_set' (T : List Outs) (i u : Nat) (x : Outs) (hu : u < T.length) : (T.set i x).getD u [] = if i = u then x else T.getD u [] := by
  rw [List.getD_eq_getElem?_getD, List.getD_eq_getElem?_getD]
  by_cases h : i = u
  · subst h; simp [hu]
  · rw [List.getElem?_set_ne h, if_neg h]
theorem drel_draw {D : List DRec} {T : List Outs} (h : DRel D T) {u slot id : Int} (hok : 0 ≤ u ∧ u < T.length) : DRel (D ++ [⟨u, slot, id⟩]) (drawT T u slot id) := by
  refine ⟨fun r hr => ?_, fun k hk => ?_⟩
  · unfold drawT
    rw [List.length_set]
    rcases List.mem_append.1 hr with hr | hr
    · exact h.1 r hr
    · simp at hr; subst hr; exact hok
  · unfold drawT at hk ⊢
    rw [List.length_set] at hk
    rw [getD_set' _ _ _ _ hk, List.filter_append, List.map_append]
    by_cases hku : u.toNat = k
    · rw [if_pos hku]
      have hu : u = (k : Int) := by omega
      rw [drel_at h hok, hu]
      simp
    · rw [if_neg hku, h.2 k hk]
      have hu : ¬ u = (k : Int) := by omega
      simp [hu]
theorem drel_free {D : List DRec} {T : List Outs} (h : DRel D T) (q : Int) : DRel (D.filter (fun r => decide (r.s ≠ q))) (T.map (Outs.free q)) := by
  refine ⟨fun r hr => by rw [List.length_map]; exact h.1 r (List.mem_filter.1 hr).1, fun u hu => ?_⟩
  rw [List.length_map] at hu
  have h1 : (T.map (Outs.free q)).getD u [] = Outs.free q (T.getD u []) := by simp [hu]
  rw [h1, h.2 u hu]
  unfold Outs.free
  rw [List.filter_map, List.filter_filter, List.filter_filter]
  congr 1
  refine List.filter_congr fun r _ => ?_
  simp [Bool.and_comm]
theorem drel_freeAt {D : List DRec} {T : List Outs} (h : DRel D T) (q u0 : Int) : DRel (D.filter (fun r => !(decide (r.s = q) && decide (r.u = u0)))) (freeAtT q u0 T) := by
  have hlen := freeAtT_len q u0 T
  refine ⟨fun r hr => by rw [hlen]; exact h.1 r (List.mem_filter.1 hr).1, fun u hu => ?_⟩
  rw [hlen] at hu
  by_cases h0 : 0 ≤ u0
  · obtain ⟨k, rfl⟩ := Int.eq_ofNat_of_zero_le h0
    rw [freeAtT_nat, getD_set' _ _ _ _ hu, List.filter_filter]
    by_cases hku : k = u
    · subst hku
      rw [if_pos rfl, h.2 k hu]
      unfold Outs.free
      rw [List.filter_map, List.filter_filter]
      congr 1
      refine List.filter_congr fun r _ => ?_
      by_cases hr : r.u = (k : Int) <;> simp [hr]
    · rw [if_neg hku, h.2 u hu]
      congr 1
      refine List.filter_congr fun r _ => ?_
      by_cases hr : r.u = (u : Int)
      · have : ¬ (u : Int) = (k : Int) := by omega
        simp [hr, this]
      · simp [hr]
  · rw [freeAtT_no (.inl (by omega)), h.2 u hu, List.filter_filter]
    congr 1
    refine List.filter_congr fun r _ => ?_
    by_cases hr : r.u = (u : Int)
    · have : ¬ (u : Int) = u0 := by omega
      simp [hr, this]
    · simp [hr]
/-- Is a record gone behind an act that frees? -/
def goneB (a : PAct) (r : DRec) : Bool := (decide (a.k = 1) && decide (r.s = a.s)) || (decide (a.k = 2) && decide (r.s = a.s) && decide (r.u = a.u))
def afterD (a : PAct) (D : List DRec) : List DRec := D.filter (fun r => !goneB a r)
theorem drel_act {D : List DRec} {T : List Outs} {s : TapeS} (h : DRel D T) (a : PAct) (h0 : a.k ≠ 0) : DRel (afterD a D) (actS (T, s) a).1 := by
  unfold actS afterD goneB
  rw [if_neg h0]
  by_cases h1 : a.k = 1
  · rw [if_pos h1]
    have := drel_free h a.s
    simpa [h1] using this
  · rw [if_neg h1]
    by_cases h2 : a.k = 2
    · rw [if_pos h2]
      have := drel_freeAt h a.s a.u
      simpa [h2] using this
    · rw [if_neg h2]
      rw [List.filter_eq_self.2 (fun r _ => by simp [h1, h2])]
      exact h
theorem drel_find {D : List DRec} {T : List Outs} (h : DRel D T) {r : DRec} (hr : r ∈ D) (hg : ((atT T r.u).map (·.1)).Nodup) : look (atT T r.u) r.id = some r.s := by
  refine look_of_mem hg ?_
  rw [drel_at h (h.1 r hr)]
  exact List.mem_map.2 ⟨r, List.mem_filter.2 ⟨hr, by simp⟩, rfl⟩
theorem drel_fresh {D : List DRec} {T : List Outs} (h : DRel D T) {u id : Int} (hl : look (atT T u) id = none) {r : DRec} (hr : r ∈ D) (hu : r.u = u) (hid : r.id = id) : False := by
  subst hu hid
  rw [drel_at h (h.1 r hr)] at hl
  exact look_none.1 hl (r.id, r.s) (List.mem_map.2 ⟨r, List.mem_filter.2 ⟨hr, by simp⟩, rfl⟩) rfl
theorem drel_len {D : List DRec} {T : List Outs} (h : DRel D T) {u : Nat} (hu : u < T.length) : (atT T u).length = D.countP (fun r => decide (r.u = (u : Int))) := by
  rw [drel_at h (by omega), List.length_map, List.countP_eq_length_filter]
theorem drawR_yes {T : List Outs} {s : TapeS} {u q : Int} (h : drawOk T u q) (hl : (atT T u).length ≠ 65536) : drawR T s u q = (idOf (atT T u) (s.draw % 65536), 0) ∧ actD T s u q = (drawT T u q (idOf (atT T u) (s.draw % 65536)), s.next) := by
  unfold drawR actD
  rw [if_pos h, if_neg hl, if_pos ⟨h, hl⟩]
  exact ⟨rfl, rfl⟩
theorem drawR_no {T : List Outs} {s : TapeS} {u q : Int} (h : ¬ drawOk T u q) : drawR T s u q = (0, 1) ∧ actD T s u q = (T, s) := by
  unfold drawR actD
  rw [if_neg h, if_neg (fun hh => h hh.1)]
  exact ⟨rfl, rfl⟩
theorem drel_short {D : List DRec} {T : List Outs} (h : DRel D T) {u : Int} (h0 : 0 ≤ u ∧ u < T.length) : (atT T u).length ≤ D.length := by
  rw [drel_at h h0, List.length_map]
  exact List.length_filter_le _ _
end Go.Proofs.Ythgioaaenfdcdaa
