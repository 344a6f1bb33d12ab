/- hustingsref11.Same. -/
import Derived.Test.YtffjighohloifaaRefSame2
import Derived.Test.YtffjighohloifaaKey3
namespace Go.Proofs.Ytffjighohloifaa
open Go.RowKit

/-- What Same asks of a verdict: its rows are few. -/
structure Verd.few (v : Verd) : Prop where
  l1 : (v.sets.length : Int) ≤ 1000000
  d1 : ∀ s ∈ v.sets, (s.data.length : Int) ≤ 1000000
  l2 : (v.soa.length : Int) ≤ 1000000
  d2 : ∀ s ∈ v.soa, (s.data.length : Int) ≤ 1000000
set_option maxRecDepth 100000 in
set_option maxHeartbeats 2000000 in
theorem same11_any {va vb : Value} {a b : Verd} {P Q : Nat → Prop} {w : World} (ha : VerdAt w va a P) (hb : VerdAt w vb b Q) (fa : a.few) (fb : b.few) (res : Bool) (hres : res = true ↔ a = b) :
    Calls Try.prog 14 #[va, vb] w fun e w' => e = .returned (.bool res) ∧ Kept (fun _ => False) w w' := by
  obtain ⟨a1, c1, a2, c2, rfl, h1, h2⟩ := ha
  obtain ⟨b1, e1, b2, e2, rfl, g1, g2⟩ := hb
  obtain ⟨w0, hw0⟩ : ∃ w0, (w.alloc (.cells #[.int .u8 a.code, .slice a1 a.sets.length c1, .slice a2 a.soa.length c2] 29)).alloc (.cells #[.int .u8 b.code, .slice b1 b.sets.length e1, .slice b2 b.soa.length e2] 29) = w0 := ⟨_, rfl⟩
  have HA := Lib.hid (show w0.heap[w.heap.size]? = some (.cells #[.int .u8 a.code, .slice a1 a.sets.length c1, .slice a2 a.soa.length c2] 29 (0, 0)) from by rw [← hw0]; exact old_blk (new_blk w _) _)
  have HB := Lib.hid (show w0.heap[w.heap.size + 1]? = some (.cells #[.int .u8 b.code, .slice b1 b.sets.length e1, .slice b2 b.soa.length e2] 29 (0, 0)) from by rw [← hw0]; exact new_at (by simp))
  have K0 := Lib.hid (show Kept (fun _ => False) w w0 from by rw [← hw0]; exact ((Kept.refl _).alloc _).alloc _)
  have HW0 := Lib.hid hw0
  have x0 := cell_blk HA.out 0
  have x1 := cell_blk HA.out 1
  have x2 := cell_blk HA.out 2
  have y0 := cell_blk HB.out 0
  have y1 := cell_blk HB.out 1
  have y2 := cell_blk HB.out 2
  simp at x0 x1 x2 y0 y1 y2
  have S1 := Lib.hid ((h1.look K0.out).mono (Q := fun _ => True) (fun _ _ _ => trivial))
  have S2 := Lib.hid ((h2.look K0.out).mono (Q := fun _ => True) (fun _ _ _ => trivial))
  have T1 := Lib.hid ((g1.look K0.out).mono (Q := fun _ => True) (fun _ _ _ => trivial))
  have T2 := Lib.hid ((g2.look K0.out).mono (Q := fun _ => True) (fun _ _ _ => trivial))
  have FA := Lib.hid fa
  have FB := Lib.hid fb
  have HRES := Lib.hid hres
  have HX := Lib.hid (show a = b ↔ a.code = b.code ∧ a.sets = b.sets ∧ a.soa = b.soa from by cases a; cases b; simp)
  clear hw0 h1 h2 g1 g2 fa fb hres
  by_cases hc : a.code = b.code
  · have hcb : (a.code == b.code) = true := by simpa using hc
    have HC := Lib.hid hc
    clear hc
    obtain ⟨r1, hr1⟩ : ∃ r1 : Bool, r1 = true ↔ a.sets = b.sets := by
      by_cases h : a.sets = b.sets
      · exact ⟨true, by simp [h]⟩
      · exact ⟨false, by simp [h]⟩
    obtain ⟨r2, hr2⟩ : ∃ r2 : Bool, r2 = true ↔ a.soa = b.soa := by
      by_cases h : a.soa = b.soa
      · exact ⟨true, by simp [h]⟩
      · exact ⟨false, by simp [h]⟩
    have R1 := Lib.hid hr1
    have R2 := Lib.hid hr2
    clear hr1 hr2
    go_enter Try.func14, Try.ntmps14
    go_upto_region 1 with (fail)
    rw [HW0.out]
    go_wp2_with fail
    refine (sameAll_any a.sets b.sets a1 b1 c1 e1 w0 S1.out T1.out FA.out.l1 FA.out.d1 FB.out.d1 r1 R1.out).mono ?_
    rintro e w1 ⟨rfl, hk1⟩
    have x2 := hk1.cell x2 id
    have y2 := hk1.cell y2 id
    have K1 := Lib.hid hk1
    clear hk1 x0 x1 y0 y1
    cases hr : r1 with
    | false =>
      have HF := Lib.hid (show res = false from by
        cases hq : res with
        | false => rfl
        | true => exact absurd (R1.out.2 (HX.out.1 (HRES.out.1 hq)).2.1) (by rw [hr]; decide))
      go_wp2_with fail
      go_ret
      exact ⟨by rw [HF.out]; rfl, K0.out.trans K1.out⟩
    | true =>
      have HE := Lib.hid (show res = r2 from by
        have h1 := HX.out
        have h2 := HRES.out
        have h3 := R2.out
        rw [h1] at h2
        have h4 := R1.out.1 hr
        rw [Bool.eq_iff_iff, h2, h3]
        exact ⟨fun h => h.2.2, fun h => ⟨HC.out, h4, h⟩⟩)
      go_wp2_with fail
      refine (sameAll_any a.soa b.soa a2 b2 c2 e2 w1 (S2.out.look K1.out) (T2.out.look K1.out) FA.out.l2 FA.out.d2 FB.out.d2 r2 R2.out).mono ?_
      rintro e w2 ⟨rfl, hk2⟩
      have K2 := Lib.hid hk2
      clear hk2
      go_wp2_with fail
      go_ret
      refine ⟨?_, (K0.out.trans K1.out).trans K2.out⟩
      rw [HE.out]; rfl
  · have hcb : (a.code == b.code) = false := by simpa using hc
    have HF := Lib.hid (show res = false from by
      cases hq : res with
      | false => rfl
      | true => exact absurd (HX.out.1 (HRES.out.1 hq)).1 hc)
    clear hc
    go_enter Try.func14, Try.ntmps14
    go_upto_region 1 with (fail)
    rw [HW0.out]
    go_wp2_with fail
    go_ret
    exact ⟨by rw [HF.out]; rfl, K0.out⟩
end Go.Proofs.Ytffjighohloifaa
