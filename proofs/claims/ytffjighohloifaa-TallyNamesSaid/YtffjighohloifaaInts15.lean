/- hustingsref15.Ints: whether two rows of numbers are the same. -/
import Derived.Test.YtffjighohloifaaBase
namespace Go.Proofs.Ytffjighohloifaa
open Go.RowKit

theorem ints_same (l1 l2 : List Int) (k : Nat) (he : l1.length = l2.length) (hk : l1.take k = l2.take k) (hlt : k < l1.length) (h2 : k < l2.length) :
    (l1[k] = l2[k] → l1.take (k + 1) = l2.take (k + 1)) ∧ (l1[k] ≠ l2[k] → decide (l1 = l2) = false) := by
  refine ⟨fun e => ?_, fun e => ?_⟩
  · rw [List.take_succ_eq_append_getElem hlt, List.take_succ_eq_append_getElem h2, hk, e]
  · simp only [decide_eq_false_iff_not]; rintro rfl; exact e rfl

set_option maxRecDepth 100000 in
theorem ints_any (a1 a2 : Option Addr) (l1 l2 : List Int) (c1 c2 : Nat) (w : World) (h1 : Cells w a1 (l1.map (.int .i64)) (fun _ => True)) (h2 : Cells w a2 (l2.map (.int .i64)) (fun _ => True))
    (hl1 : l1.length ≤ 9223372036854775806) (hl2 : l2.length ≤ 9223372036854775806) :
    Calls Try.prog 17 #[.slice a1 l1.length c1, .slice a2 l2.length c2] w fun e w' => e = .returned (.bool (decide (l1 = l2))) ∧ Kept (fun _ => False) w w' := by
  by_cases he : l1.length = l2.length
  · have hle : ((l1.length : Int) != l2.length) = false := by rw [he]; simp
    have HE := Lib.hid he
    clear he
    go_enter Try.func17, Try.ntmps17
    go_wp2_with fail
    go_loopw [5] (fun c wr => ∃ k : Nat, k ≤ l1.length ∧ c = .int .i64 k ∧ l1.take k = l2.take k ∧ Kept (fun _ => False) w wr) (fun c _ => l1.length - (intOf c).toNat)
    case atStart => exact ⟨0, Nat.zero_le _, rfl, by simp, Kept.refl _⟩
    case round =>
      obtain ⟨k, hk, rfl, ht, hkr⟩ := hrel
      by_cases hlt : k < l1.length
      · have hlt2 : k < l2.length := by have := HE.out; omega
        obtain ⟨b1, o1, rfl, _, g1⟩ := h1.at (i := k) (v := .int .i64 l1[k]) (by simp [hlt])
        obtain ⟨b2, o2, rfl, _, g2⟩ := h2.at (i := k) (v := .int .i64 l2[k]) (by simp [hlt2])
        have d1 := hkr.cell g1 id
        have d2 := hkr.cell g2 id
        have hs := ints_same l1 l2 k HE.out ht hlt hlt2
        have HS := Lib.hid hs
        have HT := Lib.hid ht
        clear hs ht h1 h2
        go_wp2_with fail
        go_quiet (fail)
        by_cases hx : l1[k] = l2[k]
        · have hx' : (l1[k] != l2[k]) = false := by simpa using hx
          have HX := Lib.hid hx
          clear hx
          go_wp2_with fail
          go_roundw
          case rel => exact ⟨k + 1, by omega, by go_num, HS.out.1 HX.out, hkr.drewN _⟩
          case measure => simp [intOf]; omega
        · have hx' : (l1[k] != l2[k]) = true := by simpa using hx
          have HX := Lib.hid hx
          clear hx
          go_wp2_with fail
          go_ret
          exact ⟨by rw [HS.out.2 HX.out]; rfl, hkr.drewN _⟩
      · obtain rfl : k = l1.length := by omega
        have hx : decide (l1 = l2) = true := by
          rw [List.take_length, HE.out, List.take_length] at ht
          simp [ht]
        have HX := Lib.hid hx
        clear hx ht h1 h2
        go_wp2_with fail
        go_ret
        exact ⟨by rw [HX.out]; rfl, hkr⟩
  · have hle : ((l1.length : Int) != l2.length) = true := by simp; omega
    have hx : decide (l1 = l2) = false := by simp only [decide_eq_false_iff_not]; rintro rfl; exact he rfl
    have HX := Lib.hid hx
    clear hx h1 h2 he
    go_enter Try.func17, Try.ntmps17
    go_wp2_with fail
    go_ret
    exact ⟨by rw [HX.out]; rfl, Kept.refl _⟩
end Go.Proofs.Ytffjighohloifaa
