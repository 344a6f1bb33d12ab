/- Package tally, walked: Copy, Votes. -/
import Derived.Test.YtffjighohloifaaBoxMost21
namespace Go.Proofs.Ytffjighohloifaa
open Go.RowKit

theorem keep2c {M : Nat → Prop} {w w' : World} {a b : Addr} {x y : Value} (k : Kept M w w') (ha : ¬ M a.block) (hb : ¬ M b.block) (h : w.cell? a = some x ∧ w.cell? b = some y) : w'.cell? a = some x ∧ w'.cell? b = some y := ⟨k.cell h.1 ha, k.cell h.2 hb⟩
theorem flat_one {lm : List BalM} : ∀ u ∈ (lm.map BalM.cells).flatten, u.oneCell' = true := by
  intro u hu
  obtain ⟨r, hr, hu⟩ := List.mem_flatten.1 hu
  obtain ⟨x, _, rfl⟩ := List.mem_map.1 hr
  exact x.one u hu
theorem own_news {w : World} {base sz n cap : Nat} {E : TypeId} {ao : Option Addr} {cs : List Value} (h : w.ownsRow base E sz (.slice ao n cap) n cs) : n = 0 ∨ ∃ ad, ao = some ad ∧ ∀ j u, cs[j]? = some u → w.cell? (ad.add j) = some u := by
  rcases h.2 with ⟨_, h0⟩ | ⟨g, c, cur, hv, _, hg, _, _, _, htk⟩
  · exact .inl h0
  · simp only [Value.slice.injEq] at hv
    refine .inr ⟨_, hv.1, fun j u hu => ?_⟩
    rw [addr_add, Nat.zero_add, cell_blk hg]
    rw [← htk, List.getElem?_take] at hu
    split at hu
    · simpa using hu
    · cases hu
theorem own_widen {w : World} {base base' sz n : Nat} {E : TypeId} {v : Value} {cs : List Value} (h : w.ownsRow base E sz v n cs) (hb : base' ≤ base) : w.ownsRow base' E sz v n cs :=
  ⟨h.1, h.2.imp id (fun ⟨g, c, cur, h1, h2, h3⟩ => ⟨g, c, cur, h1, Nat.le_trans hb h2, h3⟩)⟩
def ownL (ao : Option Addr) : List Nat := match (Value.slice ao 0 0).ownBlock with
  | some g => [g]
  | none => []
theorem mem_ownL {ao : Option Addr} {g : Nat} : g ∈ ownL ao ↔ (Value.slice ao 0 0).ownBlock = some g := by
  unfold ownL
  cases h : (Value.slice ao 0 0).ownBlock with
  | none => simp
  | some x => simp [eq_comm]
set_option maxRecDepth 100000 in
set_option maxHeartbeats 2000000 in
theorem bcopy_any {w : World} {b : Nat} {ao : Option Addr} {B : BoxS} {L : List Nat} (H : Hid (BoxAt w b ao B L)) (hl : (B.l.length : Int) ≤ 1000) (hyl : (B.by_.length : Int) ≤ 1000) :
    Calls Try.prog 25 #[.pointer (some ⟨b, 0, none⟩)] w fun e w' => ∃ (c : Nat) (ao' : Option Addr) (L' : List Nat), e = .returned (.pointer (some ⟨c, 0, none⟩)) ∧ BoxAt w' c ao' B L' ∧ BoxAt w' b ao B L' ∧ (∀ k ∈ L, k ∈ L') ∧ (∀ k ∈ L', k ∈ L ∨ w.heap.size ≤ k) ∧ (∀ k, FB c ao' k → w.heap.size ≤ k) ∧ Kept (fun _ => False) w w' := by
  obtain ⟨cap, ay, cy, lm, hb, ho, hlm, ha, hy, hbL, hgL, hLt⟩ := H.out
  have hbl := lt_of_block hb
  have hne : b ≠ w.heap.size := by omega
  have c0 := cell_blk hb 0
  have c1 := cell_blk hb 1
  have c2 := cell_blk hb 2
  have c3 := cell_blk hb 3
  have c4 := cell_blk hb 4
  have c5 := cell_blk hb 5
  simp at c0 c1 c2 c3 c4 c5
  obtain ⟨w0, hw0⟩ : ∃ w0, w.alloc (.cells #[.int .i64 B.want, .slice ao B.l.length cap, .bool B.won, .string B.wonK, .slice ay B.by_.length cy, .int .u32 B.time] 75) = w0 := ⟨_, rfl⟩
  have HCB := Lib.hid (show w0.heap[w.heap.size]? = some (.cells #[.int .i64 B.want, .slice ao B.l.length cap, .bool B.won, .string B.wonK, .slice ay B.by_.length cy, .int .u32 B.time] 75 (0, 0)) from by rw [← hw0]; exact new_blk _ _)
  have K0 := Lib.hid (show Kept (fun _ => False) w w0 from by rw [← hw0]; exact (Kept.refl _).alloc _)
  have HW0 := Lib.hid hw0
  have HO := Lib.hid ho
  have HLM := Lib.hid hlm
  have HA := Lib.hid ha
  have HY := Lib.hid hy
  have HLT := Lib.hid hLt
  have hfl : ((lm.map BalM.cells).flatten).length = B.l.length * 7 := ho.1
  have HFL := Lib.hid hfl
  have HN1 := Lib.hid (own_news ho)
  have HS : w0.drew.cell? ⟨b, 1, none⟩ = some (.slice ao B.l.length cap) ∧ w0.drew.cell? ⟨b, 4, none⟩ = some (.slice ay B.by_.length cy) := ⟨K0.out.cell c1 id, K0.out.cell c4 id⟩
  clear hw0 hb ho hlm ha hy hLt hbL hgL hfl
  go_enter Try.func25, Try.ntmps25
  go_upto_region 4 with (fail)
  rw [HW0.out]
  go_region_held3 (fun w' => w'.cell? ⟨b, 1, none⟩ = some (.slice ao B.l.length cap) ∧ w'.cell? ⟨b, 4, none⟩ = some (.slice ay B.by_.length cy))
    (first | exact HS | exact HS1 | exact HS2 | exact HS3 | exact HS4 | go_keep)
    (first
      | (go_at_call 45; refine (cloneBal_any ao B.l.length cap ((lm.map BalM.cells).flatten) _ HFL.out ?_ flat_one (by omega)).mono ?_; (rcases HN1.out with h | ⟨ad, e, h⟩; (exact .inl h); exact .inr ⟨ad, e, fun j u hu => K0.out.drew.cell (h j u hu) id⟩); rintro e w1 ⟨a1, p1, rfl, ho1, hk1⟩; have HS1 := keep2c hk1 id id HS; have K1 := Lib.hid (K0.out.trans hk1.of_drew); have HC1 := Lib.hid (hk1.of_drew.heap HCB.out id); have HO1 := Lib.hid ho1; have hz1 : w0.heap.size ≤ w1.heap.size := hk1.of_drew.size; clear ho1 hk1)
      | (go_at_call 38; refine (cloneInt_any ay B.by_.length cy (B.by_.map (.int .i64)) _ (by simp) ?_ (by intro u hu; obtain ⟨z, _, rfl⟩ := List.mem_map.1 hu; rfl) (by omega)).mono ?_; (rcases HY.out with h | ⟨a, off, e, _, hc⟩; (exact .inl (by simpa using congrArg List.length h)); exact .inr ⟨_, e, fun j u hu => by rw [addr_add]; exact K1.out.cell (by rw [hc j (List.getElem?_eq_some_iff.1 hu).1, hu]) id⟩); rintro e w2 ⟨a2, p2, rfl, ho2, hk2⟩; have HS2 := keep2c hk2 id id HS1; have K2 := Lib.hid (K1.out.trans hk2); have HC2 := Lib.hid (hk2.heap HC1.out id); have HO2 := Lib.hid ho2; have hz2 : w1.heap.size ≤ w2.heap.size := hk2.size; have HO12 := Lib.hid (own_far HO1.out (fun y hy => hk2.block y (World.ownsRow.lt HO1.out y hy).2 id)); have x1 := cell_blk HC2.out 1; have x4 := cell_blk HC2.out 4; have f1 := free_blk HC2.out 1; have f4 := free_blk HC2.out 4; simp at x1 x4; have KB1 : Kept (· = w.heap.size) w2 (w2.setCell ⟨w.heap.size, 1, none⟩ (.slice a1 B.l.length p1)) := ((Kept.refl _).own _ _); have KB2 := KB1.own 4 (.slice a2 B.by_.length p2); have HS3 := keep2c KB1 hne hne HS2; have HS4 := keep2c KB2 hne hne HS2; clear ho2 hk2))
  go_wp2_with fail
  go_ret
  have hcf := set_blk (set_blk HC2.out 1 (.slice a1 B.l.length p1)) 4 (.slice a2 B.by_.length p2)
  obtain ⟨wf, hwf⟩ : ∃ wf, (w2.setCell ⟨w.heap.size, 1, none⟩ (.slice a1 B.l.length p1)).setCell ⟨w.heap.size, 4, none⟩ (.slice a2 B.by_.length p2) = wf := ⟨_, rfl⟩
  rw [hwf] at hcf KB2 ⊢
  have KF : Kept (fun _ => False) w wf := K2.out.new KB2 (Nat.le_refl _)
  have hz0 : w.heap.size < w0.heap.size := lt_of_block HCB.out
  have hz0' : w0.drew.heap.size = w0.heap.size := rfl
  have hL1 : ∀ x ∈ ownL a1, w.heap.size < x ∧ x < w1.heap.size := fun x hx => by
    have := World.ownsRow.lt HO1.out x (by rw [own_slice']; exact mem_ownL.1 hx)
    rw [hz0'] at this
    omega
  have hL : ∀ x ∈ ownL a1 ++ w.heap.size :: L, x ∈ L ∨ w.heap.size ≤ x := fun x hx => by
    rcases List.mem_append.1 hx with h | h
    · have := hL1 x h; exact .inr (by omega)
    · rcases List.mem_cons.1 h with rfl | h
      · exact .inr (Nat.le_refl _)
      · exact .inl h
  have hLf : ∀ x ∈ ownL a1 ++ w.heap.size :: L, x < w1.heap.size := fun x hx => by
    rcases List.mem_append.1 hx with h | h
    · exact (hL1 x h).2
    · rcases List.mem_cons.1 h with rfl | h
      · omega
      · have := HLT.out x h; omega
  have hLw : ∀ x ∈ ownL a1 ++ w.heap.size :: L, x < wf.heap.size := fun x hx => by
    have h1 := hLf x hx
    have h2 : w1.heap.size ≤ w2.heap.size := hz2
    have h3 := KB2.size
    omega
  refine ⟨w.heap.size, a1, ownL a1 ++ w.heap.size :: L, rfl, ⟨p1, a2, p2, lm, by simpa using hcf, ?_, HLM.out, fun x hx => (HA.out x hx).toL KF (fun _ _ h => h.elim) hL, ?_, by simp, fun g hg => List.mem_append_left _ (mem_ownL.2 hg), hLw⟩,
    H.out.more KF (fun _ _ => id) (fun _ _ h => h.elim) _ (fun x hx => by simp [hx]) hL hLw, fun x hx => by simp [hx], hL, fun x hx => ?_, KF⟩
  · refine own_widen (own_far HO12.out (fun y hy => KB2.block y (World.ownsRow.lt HO12.out y hy).2 (fun e => ?_))) (Nat.zero_le _)
    have := (World.ownsRow.lt HO12.out y hy).1
    rw [hz0'] at this
    omega
  · refine ((Cells.of_own1 HO2.out).kept' KB2 (fun c _ hc e => by omega)).mono' (fun c _ hc hm => ?_)
    have := hLf c hm
    omega
  · rcases hx with rfl | hx
    · exact Nat.le_refl _
    · have := hL1 x (mem_ownL.2 hx); omega
end Go.Proofs.Ytffjighohloifaa
