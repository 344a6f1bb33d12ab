/- DrawUnlike, walked: of two seeds that are unlike all draws, one by one, are unlike. -/
import Derived.Test.YtdjcpnmodjoagaaAwake12
import Derived.Test.YtdjcpnmodjoagaaMixInj
namespace Go.Proofs.Ytdjcpnmodjoagaa
open Go.RowKit

theorem RowU.nil (w : World) (P : Nat → Prop) : RowU w none [] 0 P := ⟨Nat.le_refl _, by unfold maxLen; omega, .inl rfl⟩

/-- What holds of the two tapes at each round's head. -/
def TwoTapes (w : World) (a b : Int) (x y k : Nat) : Prop :=
  ∃ s t : TapeS, Tape w x s [x, y] ∧ Tape w y t [x, y] ∧ s.first = [] ∧ t.first = [] ∧ s.used = k ∧ t.used = k ∧ (s.seed = t.seed ↔ a = b)

theorem two_start {w1 w2 : World} {a b : Int} {x y : Nat} (h1 : Tape w1 x ⟨a, [], 0⟩ [x]) (h2 : Tape w2 y ⟨b, [], 0⟩ [y, x]) (hk : Kept (fun _ => False) w1 w2) (hy : w1.heap.size ≤ y) : TwoTapes w2 a b x y 0 := by
  refine ⟨_, _, (h1.more [x, y] (fun k hk => ?_) (by simp)).kept hk id (fun _ _ h => h.elim), h2.more [x, y] (fun k hk => ?_) (by simp), rfl, rfl, rfl, rfl, Iff.rfl⟩
  · simp at hk; rcases hk with rfl | rfl
    · simp
    · exact .inr hy
  · simp at hk ⊢; omega

theorem two_next {w1 w2 : World} {a b : Int} {x y k : Nat} {s t : TapeS} (hxy : x ≠ y) (hs : s.first = []) (ht : t.first = []) (hsk : s.used = k) (htk : t.used = k) (hab : s.seed = t.seed ↔ a = b) (os : s.ok) (ot : t.ok)
    (h1 : Tape w1 x s.next [x, y]) (h2 : Tape w2 y t.next [x, y]) (k2 : Kept (· = y) w1 w2) : TwoTapes w2 a b x y (k + 1) ∧ (s.draw = t.draw ↔ a = b) := by
  refine ⟨⟨s.next, t.next, h1.kept k2 hxy (fun i _ e => by rw [e]; simp), h2, ?_, ?_, by rw [TapeS.next_used, hsk], by rw [TapeS.next_used, htk], ?_⟩, ?_⟩
  · simp [TapeS.next, hs]
  · simp [TapeS.next, ht]
  · simp only [TapeS.next, hs, ht]; rw [seed_iff _ _ os.1 ot.1]; exact hab
  · simp only [TapeS.draw, hs, ht]; rw [draw_seed _ _ os.1 ot.1]; exact hab

theorem unlike_walk (a b : Int) (ha : U64 a) (hb : U64 b) (w : World) :
    Calls Try.prog 3 #[.int .u64 a, .int .u64 b] w fun e w' => e = .returned (.bool true) ∧ Kept (fun _ => False) w w' := by
  go_enter Try.func3, Try.ntmps3
  go_wp2_with fail
  refine (new_any a none [] 0 (fun _ => True) [] w (by simp) (RowU.nil _ _) ⟨ha, by simp⟩ (by decide)).mono ?_
  rintro e w1 ⟨x, rfl, hx, h1, hk1⟩
  have K1 := Lib.hid hk1
  have T1 := Lib.hid h1
  clear h1 hk1
  go_wp2_with fail
  refine (new_any b none [] 0 (fun _ => True) [x] w1 (by simpa using T1.out.lt) (RowU.nil _ _) ⟨hb, by simp⟩ (by decide)).mono ?_
  rintro e w2 ⟨y, rfl, hy, h2, hk2⟩
  have hxy := T1.out.lt
  have ht := Lib.hid (two_start T1.out h2 hk2 hy)
  have K2 := Lib.hid (K1.out.trans hk2)
  have hne : x ≠ y := by omega
  have hwy : w.heap.size ≤ y := by have := K1.out.size; omega
  clear h2 hk2 ha hb hy
  go_wp2_with fail
  go_loopw [7] (fun c wr => ∃ k : Nat, k ≤ 30 ∧ c = .int .i64 k ∧ TwoTapes wr a b x y k ∧ Kept (fun _ => False) w wr) (fun c _ => 30 - (intOf c).toNat)
  case atStart => exact ⟨0, by omega, rfl, ht.out, K2.out⟩
  case round =>
    obtain ⟨k, hk, rfl, hT, hkr⟩ := hrel
    have KR := Lib.hid hkr
    by_cases hlt : k < 30
    · obtain ⟨s, t, h1, h2, hs, htt, hsk, htk, hab⟩ := hT
      have os : s.ok := by obtain ⟨_, _, h, _⟩ := h1; exact h
      have ot : t.ok := by obtain ⟨_, _, h, _⟩ := h2; exact h
      have hL : ∀ i ∈ [x, y], i < wr.heap.size := by have := h1.lt; have := h2.lt; simp; omega
      have N1 := Lib.hid (next_any x s [x, y] wr h1 hL (by omega))
      have FN := Lib.hid (fun (w1 w2 : World) => two_next (w1 := w1) (w2 := w2) hne hs htt hsk htk hab os ot)
      have H2 := Lib.hid h2
      have HK := Lib.hid htk
      clear h1 h2 hs htt hsk htk hab os ot hkr
      go_wp2_with fail
      refine N1.out.mono ?_
      rintro e w3 ⟨rfl, h3, hk3⟩
      have K3 := Lib.hid hk3
      have T3 := Lib.hid h3
      have N2 := Lib.hid (next_any y t [x, y] w3 (H2.out.kept hk3 (fun e => hne e.symm) (fun i _ e => by rw [e]; simp)) (fun i hi => hk3.lt (hL i hi)) (by have := HK.out; omega))
      clear h3 hk3
      go_wp2_with fail
      refine N2.out.mono ?_
      rintro e w4 ⟨rfl, h4, hk4⟩
      have F := FN.out w3 w4 T3.out h4 hk4
      have FF := Lib.hid F
      have K4 := Lib.hid hk4
      have hd := F.2
      clear F h4 hk4
      by_cases hab : a = b
      · have e1 : (a == b) = true := by simpa using hab
        have e2 : (s.draw == t.draw) = true := by simpa using hd.2 hab
        clear hd hab
        go_wp2_with fail
        go_roundw
        case rel => exact ⟨k + 1, by omega, by go_num, FF.out.1, (KR.out.new K3.out (by omega)).new K4.out (by omega)⟩
        case measure => simp [intOf]; omega
      · have e1 : (a == b) = false := by simpa using hab
        have e2 : (s.draw == t.draw) = false := by simpa using fun h => hab (hd.1 h)
        clear hd hab
        go_wp2_with fail
        go_roundw
        case rel => exact ⟨k + 1, by omega, by go_num, FF.out.1, (KR.out.new K3.out (by omega)).new K4.out (by omega)⟩
        case measure => simp [intOf]; omega
    · obtain rfl : k = 30 := by omega
      clear hT
      go_wp2_with fail
      refine (awake_any _).mono ?_
      rintro e w3 ⟨rfl, hk3⟩
      go_wp2_with fail
      go_ret
      exact ⟨rfl, hkr.trans hk3⟩

theorem u64_of_wf {n : Int} (h : (Lit.int .u64 n).wf = true) : U64 n := by
  simp only [Lit.wf, IntKind.min, IntKind.max, IntKind.signed, IntKind.bits, Bool.and_eq_true] at h
  unfold U64
  simp at h
  omega
theorem drawUnlike_walk (w : World) (a : Int) (ha : (Lit.int .u64 a).wf = true) (b : Int) (hb : (Lit.int .u64 b).wf = true) :
    Calls Try.prog 3 #[.int .u64 a, .int .u64 b] w fun e w' => e = .returned (.bool true) ∧ Kept (fun _ => False) w w' :=
  unlike_walk a b (u64_of_wf ha) (u64_of_wf hb) w
end Go.Proofs.Ytdjcpnmodjoagaa
