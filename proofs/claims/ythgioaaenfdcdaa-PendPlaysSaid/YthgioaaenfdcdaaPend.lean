/- Package pend, walked: at, Find, Len. -/
import Derived.Test.YthgioaaenfdcdaaMapU
import Derived.Test.YthgioaaenfdcdaaOwnS
namespace Go.Proofs.Ythgioaaenfdcdaa
open Go.RowKit

/-- Where a table lies: its block, its slice, its maps' blocks. -/
structure TblS where
  b : Nat
  ao : Option Addr
  cap : Nat
  bs : List Nat
/-- A table, in memory. -/
structure Tbl (w : World) (S : TblS) (T : List Outs) : Prop where
  blk : w.heap[S.b]? = some (.cells #[.slice S.ao T.length S.cap] 55 (0, 0))
  row : OwnsS w 0 69 1 (fun k : Nat => [Value.map (some k)]) (.slice S.ao T.length S.cap) S.bs
  len : S.bs.length = T.length
  maps : ∀ u, u < T.length → MapU w (S.bs.getD u 0) (T.getD u [])
  nd : S.bs.Nodup
/-- The blocks of a table. -/
def TblS.foot (S : TblS) (k : Nat) : Prop := k = S.b ∨ (∃ o, S.ao = some ⟨k, o, none⟩) ∨ k ∈ S.bs
section
variable {w w' : World} {S : TblS} {T : List Outs}
theorem Tbl.c0 (h : Tbl w S T) : w.cell? ⟨S.b, 0, none⟩ = some (.slice S.ao T.length S.cap) := by rw [cell_blk h.blk]; rfl
theorem Tbl.kept {M : Nat → Prop} (h : Tbl w S T) (k : Kept M w w') (hm : ∀ x, S.foot x → ¬ M x) : Tbl w' S T := by
  refine ⟨k.heap h.blk (hm _ (.inl rfl)), h.row.keepAt k (fun g hg => ?_), h.len, fun u hu => (h.maps u hu).kept k (hm _ (.inr (.inr ?_))), h.nd⟩
  · cases hao : S.ao with
    | none => rw [hao] at hg; simp [Value.ownBlock] at hg
    | some a =>
      have hr := h.row.2
      rw [hao] at hg hr
      simp only [Value.ownBlock, Option.some.injEq] at hg
      rcases hr with ⟨h1, _⟩ | ⟨g', c', cur, h1, _⟩
      · simp at h1
      · simp at h1
        obtain ⟨h1, _⟩ := h1
        subst h1
        exact hm g (.inr (.inl ⟨0, by rw [hao, ← hg]⟩))
  · have hl := h.len
    rw [List.getD_eq_getElem?_getD, List.getElem?_eq_getElem (by omega)]
    exact List.getElem_mem _
theorem Tbl.look (h : Tbl w S T) (k : Kept (fun _ => False) w w') : Tbl w' S T := h.kept k (fun _ _ => id)
theorem Tbl.at (h : Tbl w S T) {u : Nat} (hu : u < T.length) : ∃ g, S.ao = some ⟨g, 0, none⟩ ∧ w.cell? ⟨g, u, none⟩ = some (.map (some (S.bs.getD u 0))) := by
  have hl := h.len
  obtain ⟨g, h1, _, _, h2⟩ := h.row.at (fun _ => rfl) (i := u) (by omega)
  have := h2 0 (by decide)
  simp only [Nat.mul_one, Nat.add_zero, List.getElem?_cons_zero] at this
  exact ⟨g, h1, by rw [this, List.getD_eq_getElem?_getD, List.getElem?_eq_getElem (by omega)]; rfl⟩
theorem Tbl.foot_lt (h : Tbl w S T) {k : Nat} (hk : S.foot k) : k < w.heap.size := by
  have hl := h.len
  rcases hk with rfl | ⟨o, hk⟩ | hk
  · exact lt_of_block h.blk
  · have hr := h.row.2
    rw [hk] at hr
    rcases hr with ⟨h1, _⟩ | ⟨g', c', cur, h1, _, h2, _⟩
    · simp at h1
    · simp at h1
      obtain ⟨⟨h1, _⟩, _⟩ := h1
      subst h1
      exact lt_of_block h2
  · obtain ⟨u, hu, rfl⟩ := List.getElem_of_mem hk
    have := (h.maps u (by omega)).lt
    rw [List.getD_eq_getElem?_getD, List.getElem?_eq_getElem hu] at this
    exact this
/-- One of its maps was written. -/
theorem Tbl.write (h : Tbl w S T) {u : Nat} (hu : u < T.length) {m : Outs} (k : Kept (· = S.bs.getD u 0) w w') (hm : MapU w' (S.bs.getD u 0) m) : Tbl w' S (T.set u m) := by
  have hl := h.len
  obtain ⟨es, clock, hobj⟩ := (h.maps u hu).obj
  have hb : S.b ≠ S.bs.getD u 0 := by
    intro e
    have := h.blk
    rw [e, hobj] at this; cases this
  refine ⟨by rw [List.length_set]; exact k.heap h.blk hb, ?_, by rw [List.length_set]; exact h.len, fun v hv => ?_, h.nd⟩
  · rw [List.length_set]
    refine h.row.keepAt k (fun g hg e => ?_)
    have hr := h.row.2
    rcases hr with ⟨h1, _⟩ | ⟨g', c', cur, h1, _, h2, _⟩
    · rw [h1] at hg; simp [Value.ownBlock] at hg
    · rw [h1] at hg
      simp [Value.ownBlock] at hg
      subst hg
      rw [e, hobj] at h2; cases h2
  · rw [List.length_set] at hv
    by_cases e : v = u
    · subst e
      rw [show (T.set v m).getD v [] = m by simp [List.getD_eq_getElem?_getD, hv]]; exact hm
    · rw [show (T.set u m).getD v [] = T.getD v [] by simp [List.getD_eq_getElem?_getD, Ne.symm e]]
      refine (h.maps v hv).kept k (fun e2 => e ?_)
      have hnd := h.nd
      rw [List.getD_eq_getElem?_getD, List.getElem?_eq_getElem (by omega), List.getD_eq_getElem?_getD, List.getElem?_eq_getElem (by omega)] at e2
      exact (List.getElem_inj hnd).1 e2
end

theorem at_nil (u : Int) (w : World) : Calls Try.prog 30 #[.pointer none, .int .i64 u] w fun e w' => e = .returned (.tuple #[.map none, .bool false]) ∧ w = w' := by
  go_enter Try.func30, Try.ntmps30
  go_wp2_with fail
  go_ret2
  exact ⟨rfl, rfl⟩
theorem at_no (b n : Nat) (ao : Option Addr) (cap : Nat) (u : Int) (hu : u < 0 ∨ n ≤ u) (w : World) (c : w.cell? ⟨b, 0, none⟩ = some (.slice ao n cap)) :
    Calls Try.prog 30 #[.pointer (some ⟨b, 0, none⟩), .int .i64 u] w fun e w' => e = .returned (.tuple #[.map none, .bool false]) ∧ w = w' := by
  by_cases h0 : u < 0
  · have d0 : decide (u < 0) = true := by simpa using h0
    go_enter Try.func30, Try.ntmps30
    go_wp2_with fail
    go_ret2
    exact ⟨rfl, rfl⟩
  · have d0 : decide (u < 0) = false := by simpa using h0
    have d1 : decide ((n : Int) ≤ u) = true := by simp; omega
    go_enter Try.func30, Try.ntmps30
    go_wp2_with fail
    go_ret2
    exact ⟨rfl, rfl⟩
theorem at_yes (S : TblS) (T : List Outs) (u : Nat) (hu : u < T.length) (_ : T.length ≤ 1000) (w : World) (h : Tbl w S T) :
    Calls Try.prog 30 #[.pointer (some ⟨S.b, 0, none⟩), .int .i64 u] w fun e w' => e = .returned (.tuple #[.map (some (S.bs.getD u 0)), .bool true]) ∧ w = w' := by
  have c0 := h.c0
  obtain ⟨g, hg, cu⟩ := h.at hu
  have d0 : decide ((u : Int) < 0) = false := by simp
  have d1 : decide ((T.length : Int) ≤ (u : Int)) = false := by simp; omega
  have d2 : (0 : Int) ≤ (u : Int) := by omega
  have d3 : (u : Int) < (T.length : Int) := by omega
  rw [hg] at c0
  clear h hg
  go_enter Try.func30, Try.ntmps30
  go_wp2_with fail
  go_ret2
  exact ⟨rfl, rfl⟩
end Go.Proofs.Ythgioaaenfdcdaa
