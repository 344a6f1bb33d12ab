/- tally.own: a verdict in memory of its own. -/
import Derived.Test.YtffjighohloifaaOwn21
namespace Go.Proofs.Ytffjighohloifaa
open Go.RowKit

set_option maxRecDepth 100000 in
set_option maxHeartbeats 2000000 in
theorem own_any (v : Value) (V : Verd) (w : World) (hv : VerdAt w v V (fun _ => True)) (hl : (V.sets.length : Int) ≤ 1000000 ∧ (V.soa.length : Int) ≤ 1000000 ∧ (∀ s ∈ V.sets, (s.data.length : Int) ≤ 1000000) ∧ ∀ s ∈ V.soa, (s.data.length : Int) ≤ 1000000) :
    Calls Try.prog 37 #[v] w fun e w' => ∃ v', e = .returned v' ∧ VerdAt w' v' V (w.heap.size ≤ ·) ∧ Kept (fun _ => False) w w' := by
  obtain ⟨a1, c1, a2, c2, rfl, h1, h2⟩ := hv
  obtain ⟨l1, l2, d1, d2⟩ := hl
  have H1 := Lib.hid h1
  have H2 := Lib.hid h2
  have D1 := Lib.hid d1
  have D2 := Lib.hid d2
  have K0 := Lib.hid (((Kept.refl (M := fun _ => False) w).alloc (.cells #[.int .u8 V.code, .slice a1 V.sets.length c1, .slice a2 V.soa.length c2] 29)).alloc (.cells #[.int .u8 0, .slice none 0 0, .slice none 0 0] 29))
  have hsb := old_blk (new_blk w (.cells #[.int .u8 V.code, .slice a1 V.sets.length c1, .slice a2 V.soa.length c2] 29)) (.cells #[.int .u8 0, .slice none 0 0, .slice none 0 0] 29)
  have hsr := new_blk (w.alloc (.cells #[.int .u8 V.code, .slice a1 V.sets.length c1, .slice a2 V.soa.length c2] 29)) (.cells #[.int .u8 0, .slice none 0 0, .slice none 0 0] 29)
  obtain ⟨w0, hw0⟩ : ∃ w0, (w.alloc (.cells #[.int .u8 V.code, .slice a1 V.sets.length c1, .slice a2 V.soa.length c2] 29)).alloc (.cells #[.int .u8 0, .slice none 0 0, .slice none 0 0] 29) = w0 := ⟨_, rfl⟩
  rw [hw0] at hsb hsr K0
  have HW0 := Lib.hid hw0
  simp at hsr
  have HSB := Lib.hid hsb
  have HSR := Lib.hid hsr
  have x1 := cell_blk hsb 1
  have x2 := cell_blk hsb 2
  simp at x1 x2
  have HOB := Lib.hid hsb
  clear h1 h2 d1 d2 hw0 hsb hsr
  go_enter Try.func37, Try.ntmps37
  go_wp2_with fail
  rw [HW0.out]
  have H1d := Lib.hid (H1.out.look (K0.out.drew))
  have H2d := Lib.hid (H2.out.look (K0.out.drew))
  go_region_with (first
    | (go_at_call 61; ((with_reducible refine (own1_any a1 V.sets c1 _ ?_ l1 D1.out).mono ?_); exact H1d.out; rintro e w1 ⟨b1, e1, rfl, s1, k1⟩; have S1 := Lib.hid s1; have KA := Lib.hid k1.of_drew; have y1 := KA.out.cell x1 id; have y2 := KA.out.cell x2 id; have H2e := Lib.hid (H2d.out.look k1); clear s1 k1))
    | (go_at_call 61; ((with_reducible refine (own1_any a2 V.soa c2 _ ?_ l2 D2.out).mono ?_); exact H2e.out; rintro e w2 ⟨b2, e2, rfl, s2, k2⟩; have S2 := Lib.hid s2; have KB := Lib.hid (KA.out.trans k2); have S1' := Lib.hid (S1.out.look k2); have z1 := k2.cell y1 id; have z2 := k2.cell y2 id; have g1 := free_blk (KB.out.heap HSB.out id) 1; have g2 := free_blk (KB.out.heap HSB.out id) 2; clear s2 k2)))
  all_goals
    have hBl := lt_of_block HSB.out
    have hRl := lt_of_block HSR.out
    have hB := set_blk (set_blk (KB.out.heap HSB.out id) 1 (.slice b1 V.sets.length e1)) 2 (.slice b2 V.soa.length e2)
    have hR := set_other (set_other (KB.out.heap HSR.out id) ⟨w.heap.size, 1, none⟩ (.slice b1 V.sets.length e1) (by simp)) ⟨w.heap.size, 2, none⟩ (.slice b2 V.soa.length e2) (by simp)
    have KS : Kept (· = w.heap.size) w2 ((w2.setCell ⟨w.heap.size, 1, none⟩ (.slice b1 V.sets.length e1)).setCell ⟨w.heap.size, 2, none⟩ (.slice b2 V.soa.length e2)) := ((Kept.refl _).own _ _).own _ _
    obtain ⟨w4, hw4⟩ : ∃ w4, (w2.setCell ⟨w.heap.size, 1, none⟩ (.slice b1 V.sets.length e1)).setCell ⟨w.heap.size, 2, none⟩ (.slice b2 V.soa.length e2) = w4 := ⟨_, rfl⟩
    rw [hw4] at hB hR KS ⊢
    have T1 := Lib.hid (S1'.out.kept KS (fun b _ hb e => by simp at hb; omega))
    have hz1 := KA.out.size
    have T2 := Lib.hid (S2.out.kept KS (fun b _ hb e => by omega))
    have K4 := Lib.hid ((K0.out.trans KB.out).new KS (Nat.le_refl _))
    have hz0 := K0.out.size
    simp at hB
    have p0 := cell_blk hB 0
    have p1 := cell_blk hB 1
    have p2 := cell_blk hB 2
    have r0 := cell_blk hR 0
    have r1 := cell_blk hR 1
    have r2 := cell_blk hR 2
    have f0 := free_blk hR 0
    have f1 := free_blk hR 1
    have f2 := free_blk hR 2
    simp at p0 p1 p2 r0 r1 r2
    clear hB hR KS hw4 x1 x2 y1 y2 z1 z2 g1 g2 S1 S1' S2 KA KB H2e H1d H2d HOB HSB HSR HW0 D1 D2 H1 H2
    go_wp2_with fail
    have KF : Kept (· = w.heap.size + 1) w4 (((w4.setCell ⟨w.heap.size + 1, 0, none⟩ (.int .u8 V.code)).setCell ⟨w.heap.size + 1, 1, none⟩ (.slice b1 V.sets.length e1)).setCell ⟨w.heap.size + 1, 2, none⟩ (.slice b2 V.soa.length e2)) := (((Kept.refl _).own _ _).own _ _).own _ _
    refine bodyPost_ret (v := .agg #[.int .u8 V.code, .slice b1 V.sets.length e1, .slice b2 V.soa.length e2]) (by simp [results, Try.results37, go_sem, r0, r1, r2]) rfl ⟨_, rfl, ⟨b1, e1, b2, e2, rfl, ?_, ?_⟩, K4.out.new KF (by omega)⟩
    · exact (T1.out.kept KF (fun b _ hb e => by simp at hb; omega)).mono (fun b _ hb => by simp at hb; omega)
    · exact (T2.out.kept KF (fun b _ hb e => by omega)).mono (fun b _ hb => by omega)
end Go.Proofs.Ytffjighohloifaa
