/- hustingslaw21.said; a box that is nil. -/
import Derived.Test.YtffjighohloifaaRefSame3
import Derived.Test.YtffjighohloifaaBoxVotes21
namespace Go.Proofs.Ytffjighohloifaa
open Go.RowKit

def saidV (s : ByteArray) : Verd := ⟨0, [⟨⟨#[0]⟩, 16, 1, 0, [s]⟩], []⟩
set_option maxRecDepth 100000 in
set_option maxHeartbeats 2000000 in
theorem said_any (s : ByteArray) (w : World) : Calls Try.prog 21 #[.string s] w fun e w' => ∃ v, e = .returned v ∧ VerdAt w' v (saidV s) (w.heap.size ≤ ·) ∧ Kept (fun _ => False) w w' := by
  go_enter Try.func21, Try.ntmps21
  go_wp2_with fail
  obtain ⟨w3, hw3⟩ : ∃ w3, ((w.alloc (.cells #[.int .u8 0, .slice (some ⟨w.heap.size + 1 + 1, 0, none⟩) 1 1, .slice none 0 0] 29)).alloc (.cells #[.string s] 9)).alloc (.cells #[.string ⟨#[0]⟩, .int .u16 16, .int .u16 1, .int .u32 0, .slice (some ⟨w.heap.size + 1, 0, none⟩) 1 1] 103) = w3 := ⟨_, rfl⟩
  rw [hw3]
  have B0 : w3.heap[w.heap.size]? = some (.cells #[.int .u8 0, .slice (some ⟨w.heap.size + 1 + 1, 0, none⟩) 1 1, .slice none 0 0] 29 (0, 0)) := by rw [← hw3]; exact old_blk (old_blk (new_blk _ _) _) _
  have B1 : w3.heap[w.heap.size + 1]? = some (.cells #[.string s] 9 (0, 0)) := by rw [← hw3]; exact old_blk (new_at (by simp)) _
  have B2 : w3.heap[w.heap.size + 1 + 1]? = some (.cells #[.string ⟨#[0]⟩, .int .u16 16, .int .u16 1, .int .u32 0, .slice (some ⟨w.heap.size + 1, 0, none⟩) 1 1] 103 (0, 0)) := by rw [← hw3]; exact new_at (by simp)
  have K : Kept (fun _ => False) w w3 := by rw [← hw3]; exact (((Kept.refl _).alloc _).alloc _).alloc _
  have r0 := cell_blk B0 0
  have r1 := cell_blk B0 1
  have r2 := cell_blk B0 2
  simp at r0 r1 r2
  refine bodyPost_ret (v := .agg #[.int .u8 0, .slice (some ⟨w.heap.size + 1 + 1, 0, none⟩) 1 1, .slice none 0 0]) (by simp [results, Try.results21, go_sem, r0, r1, r2]) rfl ⟨_, rfl, ⟨some ⟨w.heap.size + 1 + 1, 0, none⟩, 1, none, 0, rfl, ?_, SetsAt.nil _ _ _⟩, K⟩
  intro i hi
  obtain rfl : i = 0 := by simp [saidV] at hi; omega
  refine ⟨_, 0, some ⟨w.heap.size + 1, 0, none⟩, 1, rfl, by omega, fun j hj => ?_, .inr ⟨_, 0, rfl, by omega, fun k hk => ?_⟩⟩
  · rw [show 0 + 0 * 5 + j = j from by omega, cell_blk B2 j]
    rcases j with _ | _ | _ | _ | _ | j
    · rfl
    · rfl
    · rfl
    · rfl
    · rfl
    · omega
  · obtain rfl : k = 0 := by simp [saidV] at hk; omega
    rw [cell_blk B1 _]; rfl
set_option maxRecDepth 100000 in
theorem nil_won (w : World) : Calls Try.prog 13 #[.pointer none] w fun e w' => e = .returned (.tuple #[.agg #[.int .u8 0, .slice none 0 0, .slice none 0 0], .int .u32 0, .slice none 0 0, .bool false]) ∧ Kept (fun _ => False) w w' := by
  go_enter Try.func13, Try.ntmps13
  go_wp2_with fail
  refine bodyPost_ret (v := .tuple #[.agg #[.int .u8 0, .slice none 0 0, .slice none 0 0], .int .u32 0, .slice none 0 0, .bool false]) (by simp [results, Try.results13, go_sem]) rfl ⟨rfl, ((Kept.refl _).alloc _).alloc _⟩
set_option maxRecDepth 100000 in
theorem nil_put (x : BalM) (u : Int) (w : World) : Calls Try.prog 40 #[.pointer none, .int .i64 u, .agg (xCells x)] w fun e w' => e = .returned (.int .i64 2) ∧ Kept (fun _ => False) w w' := by
  go_enter Try.func40, Try.ntmps40
  go_wp2_with fail
  go_ret
  exact ⟨rfl, (Kept.refl _).alloc _⟩
set_option maxRecDepth 100000 in
theorem nil_pass (u : Int) (w : World) : Calls Try.prog 20 #[.pointer none, .int .i64 u] w fun e w' => e = .returned (.int .i64 2) ∧ Kept (fun _ => False) w w' := by
  go_enter Try.func20, Try.ntmps20
  go_wp2_with fail
  refine (nil_put ⟨Bal.pass u, none, 0, none, 0⟩ u _).mono ?_
  rintro e w' ⟨rfl, hs⟩
  have HS := Lib.hid hs
  clear hs
  go_wp2_with fail
  go_ret
  exact ⟨rfl, HS.out⟩
set_option maxRecDepth 100000 in
theorem nil_against (w : World) : Calls Try.prog 22 #[.pointer none] w fun e w' => e = .returned (.slice none 0 0) ∧ Kept (fun _ => False) w w' := by
  go_enter Try.func22, Try.ntmps22
  go_wp2_with fail
  go_ret
  exact ⟨rfl, Kept.refl _⟩
set_option maxRecDepth 100000 in
theorem nil_votes (w : World) : Calls Try.prog 23 #[.pointer none] w fun e w' => e = .returned (.slice none 0 0) ∧ Kept (fun _ => False) w w' := by
  go_enter Try.func23, Try.ntmps23
  go_wp2_with fail
  go_ret
  exact ⟨rfl, Kept.refl _⟩
set_option maxRecDepth 100000 in
theorem nil_most (w : World) : Calls Try.prog 15 #[.pointer none] w fun e w' => e = .returned (.int .i64 0) ∧ Kept (fun _ => False) w w' := by
  go_enter Try.func15, Try.ntmps15
  go_wp2_with fail
  go_ret
  exact ⟨rfl, Kept.refl _⟩
set_option maxRecDepth 100000 in
theorem nil_has (u : Int) (w : World) : Calls Try.prog 24 #[.pointer none, .int .i64 u] w fun e w' => e = .returned (.bool false) ∧ Kept (fun _ => False) w w' := by
  go_enter Try.func24, Try.ntmps24
  go_wp2_with fail
  go_ret
  exact ⟨rfl, (Kept.refl _).alloc _⟩
set_option maxRecDepth 100000 in
theorem nil_copy (w : World) : Calls Try.prog 25 #[.pointer none] w fun e w' => e = .returned (.pointer none) ∧ Kept (fun _ => False) w w' := by
  go_enter Try.func25, Try.ntmps25
  go_wp2_with fail
  go_ret
  exact ⟨rfl, Kept.refl _⟩
set_option maxRecDepth 100000 in
set_option maxHeartbeats 2000000 in
theorem nil_cast (w : World) (u t : Int) (V : Verd) (hV : V.ok) (a1 : Option Addr) (c1 : Nat) (a2 : Option Addr) (c2 : Nat) (h1 : SetsAt w a1 V.sets (fun _ => True)) (h2 : SetsAt w a2 V.soa (fun _ => True)) :
    Calls Try.prog 19 #[.pointer none, .agg #[.int .i64 u, .int .u8 V.code, .slice a1 V.sets.length c1, .slice a2 V.soa.length c2, .int .u32 t]] w fun e w' => e = .returned (.int .i64 2) ∧ Kept (fun _ => False) w w' := by
  have HV := Lib.hid hV
  have K0 := Lib.hid ((Kept.refl (M := fun _ => False) w).alloc (.cells #[.int .i64 u, .int .u8 V.code, .slice a1 V.sets.length c1, .slice a2 V.soa.length c2, .int .u32 t] 65))
  have hsb := new_blk w (.cells #[.int .i64 u, .int .u8 V.code, .slice a1 V.sets.length c1, .slice a2 V.soa.length c2, .int .u32 t] 65)
  have HVA := Lib.hid (show VerdAt w (.agg #[.int .u8 V.code, .slice a1 V.sets.length c1, .slice a2 V.soa.length c2]) V (fun _ => True) from ⟨a1, c1, a2, c2, rfl, h1, h2⟩)
  have HSB := Lib.hid hsb
  clear hV h1 h2 hsb
  go_enter Try.func19, Try.ntmps19
  go_wp2_with fail
  refine (own_any _ V _ (HVA.out.look K0.out) HV.out.lens).mono ?_
  rintro e w1 ⟨v1, rfl, hv1, hk1⟩
  obtain ⟨b1, e1, b2, e2, rfl, s1, s2⟩ := hv1
  have hs1 := hk1.heap HSB.out id
  have q0 := cell_blk hs1 0
  have q1 := cell_blk hs1 1
  have q2 := cell_blk hs1 2
  have q3 := cell_blk hs1 3
  have q4 := cell_blk hs1 4
  have f1 := free_blk hs1 1
  have f2 := free_blk hs1 2
  have f3 := free_blk hs1 3
  simp at q0 q1 q2 q3 q4
  have HS1 := Lib.hid hs1
  have HK1 := Lib.hid hk1
  have HT := Lib.hid (And.intro s1 s2)
  clear hk1 s1 s2 hs1
  go_wp2_with fail
  have KS : Kept (· = w.heap.size) w1 (((w1.setCell ⟨w.heap.size, 1, none⟩ (.int .u8 V.code)).setCell ⟨w.heap.size, 2, none⟩ (.slice b1 V.sets.length e1)).setCell ⟨w.heap.size, 3, none⟩ (.slice b2 V.soa.length e2)) := (((Kept.refl _).own _ _).own _ _).own _ _
  have hb3 := set_blk (set_blk (set_blk HS1.out 1 (.int .u8 V.code)) 2 (.slice b1 V.sets.length e1)) 3 (.slice b2 V.soa.length e2)
  obtain ⟨w3, hw3⟩ : ∃ w3, ((w1.setCell ⟨w.heap.size, 1, none⟩ (.int .u8 V.code)).setCell ⟨w.heap.size, 2, none⟩ (.slice b1 V.sets.length e1)).setCell ⟨w.heap.size, 3, none⟩ (.slice b2 V.soa.length e2) = w3 := ⟨_, rfl⟩
  rw [hw3] at KS hb3 ⊢
  have K3 := Lib.hid (show Kept (fun _ => False) w w3 from (K0.out.trans HK1.out).new KS (Nat.le_refl _))
  have hz0 : w.heap.size < w1.heap.size := lt_of_block HS1.out
  have hlb : w.heap.size + 1 ≤ (w.alloc (.cells #[.int .i64 u, .int .u8 V.code, .slice a1 V.sets.length c1, .slice a2 V.soa.length c2, .int .u32 t] 65)).heap.size := by simp
  have T1 := (HT.out.1.kept KS (fun c _ hc e => by omega)).look ((Kept.refl _).drew)
  have T2 := (HT.out.2.kept KS (fun c _ hc e => by omega)).look ((Kept.refl _).drew)
  have HT1 := Lib.hid (T1.mono (Q := fun c => w.heap.size ≤ c) (fun c _ hc => by omega))
  have HT2 := Lib.hid (T2.mono (Q := fun c => w.heap.size ≤ c) (fun c _ hc => by omega))
  have HVD := Lib.hid (show VerdAt w3.drew (.agg #[.int .u8 V.code, .slice b1 V.sets.length e1, .slice b2 V.soa.length e2]) V (fun _ => True) from ⟨b1, e1, b2, e2, rfl, HT1.out.mono (fun _ _ _ => trivial), HT2.out.mono (fun _ _ _ => trivial)⟩)
  simp at hb3
  have p0 := cell_blk hb3 0
  have p1 := cell_blk hb3 1
  have p2 := cell_blk hb3 2
  have p3 := cell_blk hb3 3
  have p4 := cell_blk hb3 4
  simp at p0 p1 p2 p3 p4
  have HS3 : w3.cell? ⟨w.heap.size, 0, none⟩ = some (.int .i64 u) ∧ w3.cell? ⟨w.heap.size, 1, none⟩ = some (.int .u8 V.code) ∧ w3.cell? ⟨w.heap.size, 2, none⟩ = some (.slice b1 V.sets.length e1) ∧ w3.cell? ⟨w.heap.size, 3, none⟩ = some (.slice b2 V.soa.length e2) ∧ w3.cell? ⟨w.heap.size, 4, none⟩ = some (.int .u32 t) := ⟨p0, p1, p2, p3, p4⟩
  have HS3d : w3.drew.cell? ⟨w.heap.size, 0, none⟩ = some (.int .i64 u) ∧ w3.drew.cell? ⟨w.heap.size, 1, none⟩ = some (.int .u8 V.code) ∧ w3.drew.cell? ⟨w.heap.size, 2, none⟩ = some (.slice b1 V.sets.length e1) ∧ w3.drew.cell? ⟨w.heap.size, 3, none⟩ = some (.slice b2 V.soa.length e2) ∧ w3.drew.cell? ⟨w.heap.size, 4, none⟩ = some (.int .u32 t) := HS3
  clear q0 q1 q2 q3 q4 f1 f2 f3 KS hb3 hw3 hlb T1 T2 HS1 HK1 HT HSB HVA
  go_region_held3 (fun w' => w'.cell? ⟨w.heap.size, 0, none⟩ = some (.int .i64 u) ∧ w'.cell? ⟨w.heap.size, 1, none⟩ = some (.int .u8 V.code) ∧ w'.cell? ⟨w.heap.size, 2, none⟩ = some (.slice b1 V.sets.length e1) ∧ w'.cell? ⟨w.heap.size, 3, none⟩ = some (.slice b2 V.soa.length e2) ∧ w'.cell? ⟨w.heap.size, 4, none⟩ = some (.int .u32 t))
    (first | exact HS3d | go_keep | exact HS4 | exact HS5)
    (first
      | (go_at_call 41; refine (key_any _ V _ HV.out ?_).mono ?_; exact HVD.out; rintro e w4 ⟨rfl, hk4⟩; have HS4 := keep5 hk4 HS3d; have K4 := Lib.hid (K3.out.trans hk4.of_drew); clear hk4)
      | (go_at_call 40; refine (nil_put ⟨Bal.vote u V t, b1, e1, b2, e2⟩ u _).mono ?_; rintro e w5 ⟨rfl, hk5⟩; have HS5 := keep5 hk5 HS4; have HST := Lib.hid (K4.out.trans hk5); clear hk5))
  go_wp2_with fail
  go_ret
  exact ⟨rfl, HST.out⟩
end Go.Proofs.Ytffjighohloifaa
