/- PendNames: the plain law. -/
import Derived.Test.YthgioaaenfdcdaaLawDraw29
namespace Go.Proofs.Ythgioaaenfdcdaa
open Go.RowKit Go.Maps

/-- The first IDs, out for a slot each. -/
def fullN (k : Nat) : Outs := (List.range k).map (fun i : Nat => ((i : Int), (i : Int) % 32))
theorem fullN_succ (k : Nat) : fullN (k + 1) = fullN k ++ [((k : Int), (k : Int) % 32)] := by simp [fullN, List.range_succ]
theorem fullN_len (k : Nat) : (fullN k).length = k := by simp [fullN]
theorem fullN_look (k i : Nat) : look (fullN k) (i : Int) = if i < k then some ((i : Int) % 32) else none := by
  induction k with
  | zero => rfl
  | succ k ih =>
    rw [fullN_succ]
    have hn : look (fullN k) (k : Int) = none := by
      rw [look_none]
      intro p hp
      simp only [fullN, List.mem_map, List.mem_range] at hp
      obtain ⟨j, hj, rfl⟩ := hp
      simp only; omega
    rw [look_snoc hn, ih]
    by_cases e : i = k
    · subst e; simp
    · rw [if_neg (by omega)]
      by_cases h : i < k
      · rw [if_pos h, if_pos (by omega)]
      · rw [if_neg h, if_neg (by omega)]
theorem fullN_nodup (k : Nat) : ((fullN k).map (·.1)).Nodup := by
  unfold fullN
  rw [List.map_map, List.nodup_iff_pairwise_ne, List.pairwise_map]
  have hn := List.nodup_range (n := k)
  rw [List.nodup_iff_pairwise_ne] at hn
  exact hn.imp (fun hne e => hne (by simp only [Function.comp_apply] at e; omega))
def nT (k : Nat) : List Outs := [[], [], [], [], [], [], [], [], fullN k]
theorem nT_at (k : Nat) : atT (nT k) 8 = fullN k := rfl
def nS (k : Nat) : TapeS := ⟨0, [(k : Int)], 0⟩
theorem nT_len (k : Nat) : (nT k).length = 9 := rfl
theorem nT_ok (k : Nat) : drawOk (nT k) 8 ((k : Int) % 32) := ⟨⟨by decide, by rw [nT_len]; decide⟩, by omega, by omega⟩
theorem nT_step (k : Nat) (h : k < 65536) : drawR (nT k) (nS k) 8 ((k : Int) % 32) = ((k : Int), 0) ∧ (actD (nT k) (nS k) 8 ((k : Int) % 32)).1 = nT (k + 1) := by
  have hx : roundAt ((nS k).draw % 65536) 0 = (k : Int) := by unfold roundAt; simp only [nS, TapeS.draw]; omega
  have hd := draw_at (T := nT k) (s := nS k) (u := 8) (slot := (k : Int) % 32) 0 (nT_ok k) (by rw [nT_at, fullN_len]; omega) (by omega) (by rw [nT_at, hx, fullN_look, if_neg (by omega)]) (fun i hi => absurd hi (by omega))
  rw [hx] at hd
  refine ⟨hd.1, ?_⟩
  rw [hd.2, nT_at, ← fullN_succ]; rfl
theorem nT_full (s : TapeS) : drawR (nT 65536) s 8 0 = (0, 9) ∧ actD (nT 65536) s 8 0 = (nT 65536, s) := by
  have hok : drawOk (nT 65536) 8 0 := ⟨⟨by decide, by rw [nT_len]; decide⟩, by decide, by decide⟩
  have hl : (atT (nT 65536) 8).length = 65536 := by rw [nT_at, fullN_len]
  unfold drawR actD
  exact ⟨by rw [if_pos hok, if_pos hl], by rw [if_neg (fun h => h.2 hl)]⟩
theorem free31_len (c : Nat) : ((fullN (32 * c)).free 31).length = 31 * c := by
  induction c with
  | zero => rfl
  | succ c ih =>
    have e : fullN (32 * (c + 1)) = fullN (32 * c) ++ (List.range 32).map (fun i : Nat => (((32 * c + i : Nat) : Int), ((32 * c + i : Nat) : Int) % 32)) := by
      unfold fullN
      rw [show 32 * (c + 1) = 32 * c + 32 by omega, List.range_add, List.map_append, List.map_map]; rfl
    have e2 : ((List.range 32).map (fun i : Nat => (((32 * c + i : Nat) : Int), ((32 * c + i : Nat) : Int) % 32))) = (List.range 32).map (fun i : Nat => (((32 * c + i : Nat) : Int), (i : Int))) := by
      refine List.map_congr_left fun i hi => ?_
      have := List.mem_range.1 hi
      congr 1; omega
    unfold Outs.free at ih ⊢
    rw [e, e2, List.filter_append, List.length_append, ih, List.filter_map, List.length_map]
    have : ((List.range 32).filter ((fun p : Int × Int => decide (p.2 ≠ 31)) ∘ fun i : Nat => (((32 * c + i : Nat) : Int), (i : Int)))).length = 31 := by
      have hc : ((fun p : Int × Int => decide (p.2 ≠ 31)) ∘ fun i : Nat => (((32 * c + i : Nat) : Int), (i : Int))) = fun i : Nat => decide ((i : Int) ≠ 31) := rfl
      rw [hc]; decide
    rw [this]; omega
def freeT31 : List Outs := [[], [], [], [], [], [], [], [], (fullN 65536).free 31]
theorem nT_free31 : (nT 65536).map (Outs.free 31) = freeT31 := by unfold nT freeT31; generalize fullN 65536 = F; rfl
theorem freed31 : freedN 31 (nT 65536) = 2048 := by
  have h := free31_len 2048
  have e : freedN 31 (nT 65536) = (fullN 65536).freed 31 := by
    unfold freedN nT
    generalize fullN 65536 = F
    simp [Outs.freed, Outs.free]
  rw [e]
  unfold Outs.freed
  rw [show (65536 : Nat) = 32 * 2048 by rfl, h, fullN_len]
theorem atT9 (F : Outs) : atT [[], [], [], [], [], [], [], [], F] 8 = F := rfl
theorem freeT31_at : atT freeT31 8 = (fullN 65536).free 31 := by unfold freeT31; rw [atT9]
theorem freeT31_len : (atT freeT31 8).length = 63488 := by
  have h := free31_len 2048
  rw [show 32 * 2048 = 65536 by decide, show 31 * 2048 = 63488 by decide] at h
  rw [freeT31_at, h]
theorem freeAt9 (F : Outs) : freeAtT 31 7 [[], [], [], [], [], [], [], [], F] = [[], [], [], [], [], [], [], [], F] := rfl
theorem freeAt31 : freeAtT 31 7 (nT 65536) = nT 65536 := by unfold nT; rw [freeAt9]
theorem freeM1 : Outs.free (-1) ((fullN 65536).free 31) = (fullN 65536).free 31 := by
  unfold Outs.free
  rw [List.filter_eq_self]
  intro p hp
  have := (List.mem_filter.1 hp).1
  simp only [fullN, List.mem_map] at this
  obtain ⟨i, _, rfl⟩ := this
  simp only [ne_eq, decide_eq_true_eq]; omega
theorem freeT31_m1 : freeT31.map (Outs.free (-1)) = freeT31 := by
  unfold freeT31
  simp only [List.map_cons, List.map_nil, freeM1]; rfl
theorem freedM1 : freedN (-1) freeT31 = 0 := by
  have h := freeM1
  unfold freedN freeT31
  generalize (fullN 65536).free 31 = F at h ⊢
  have hf : Outs.freed (-1) F = 0 := by unfold Outs.freed; rw [h]; omega
  simp only [List.map_cons, List.map_nil, hf, List.sum_cons, List.sum_nil]
  rfl
theorem next31 : drawR freeT31 (nS 0) 8 4 = (31, 0) := by
  have hx : ∀ i : Nat, i < 32 → roundAt ((nS 0).draw % 65536) i = (i : Int) := fun i hi => by unfold roundAt; simp only [nS, TapeS.draw]; omega
  have hlk : ∀ i : Nat, i < 32 → look (atT freeT31 8) (i : Int) = if i = 31 then none else some (i : Int) := fun i hi => by
    have e : atT freeT31 8 = (fullN 65536).filter (fun p => decide (p.2 ≠ 31)) := freeT31_at
    rw [e, look_filter (fullN_nodup _), fullN_look, if_pos (by omega)]
    by_cases h : i = 31
    · subst h; rfl
    · rw [if_neg h]
      have h3 : (i : Int) % 32 = i := by omega
      rw [h3]
      simp [Option.filter]; omega
  have hd := draw_at (T := freeT31) (s := nS 0) (u := 8) (slot := 4) 31 ⟨⟨by decide, by rw [show freeT31.length = 9 by unfold freeT31; generalize (fullN 65536).free 31 = F; rfl]; decide⟩, by decide, by decide⟩ (by rw [freeT31_len]; decide) (by decide) (by rw [hx 31 (by omega), hlk 31 (by omega)]; rfl)
    (fun i hi => by rw [hx i (by omega), hlk i (by omega), if_neg (by omega)]; rfl)
  rw [hx 31 (by omega)] at hd
  exact hd.1
end Go.Proofs.Ythgioaaenfdcdaa
