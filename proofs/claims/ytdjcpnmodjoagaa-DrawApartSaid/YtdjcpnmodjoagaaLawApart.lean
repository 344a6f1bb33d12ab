/- DrawApart, walked. -/
import Derived.Test.YtdjcpnmodjoagaaLawBelow
namespace Go.Proofs.Ytdjcpnmodjoagaa
open Go.RowKit

theorem TapeS.after_succ (s : TapeS) (k : Nat) : (s.after k).next = s.after (k + 1) := rfl

/-- Tapes of one list of blocks, each as s. -/
def All (w : World) (s : TapeS) (L : List Nat) (bs : List Nat) : Prop := ∀ b ∈ bs, Tape w b s L
theorem All.kept {M : Nat → Prop} {w w' : World} {s : TapeS} {L bs : List Nat} (h : All w s L bs) (k : Kept M w w') (hb : ∀ b ∈ bs, ¬ M b) (hd : ∀ b, b < w.heap.size → M b → b ∈ L) : All w' s L bs := fun b hm => (h b hm).kept k (hb b hm) hd

set_option maxRecDepth 100000 in
set_option maxHeartbeats 1000000 in
theorem drawApart_walk (w : World) (seed : Int) (hsd : (Lit.int .u64 seed).wf = true) (a : Option Addr) (len cap : Nat) (zs : List Int) (hrow : IsRow .u64 w a len cap zs) (n : Int) (_hn : (Lit.int .i64 n).wf = true) (m : Int) (_hm : (Lit.int .i64 m).wf = true) :
    Calls Try.prog 9 #[.int .u64 seed, .slice a len cap, .int .i64 n, .int .i64 m] w fun e w' => e = .returned (.bool true) ∧ Kept (fun _ => False) w w' := by
  obtain ⟨l, rfl, hr, hl⟩ := rowU_of_isRow hrow
  have hs := u64_of_wf hsd
  have HR := Lib.hid hr
  have HL := Lib.hid hl
  clear hrow hr hl hsd
  by_cases hlen : 2000 < l.length
  · have hb : decide (2000 < (l.length : Int)) = true := by simp; omega
    clear hlen
    go_enter Try.func9, Try.ntmps9
    go_wp2_with fail
    refine (awake_any _).mono ?_
    rintro e w1 ⟨rfl, hk⟩
    go_wp2_with fail
    go_ret
    exact ⟨rfl, hk⟩
  · have hb : decide (2000 < (l.length : Int)) = false := by simp; omega
    have g0 : 0 ≤ IntKind.u64.wrap n := (u64_wrap n).1
    have g1 : 0 ≤ IntKind.u64.wrap m := (u64_wrap m).1
    obtain ⟨p, hp, hp2⟩ : ∃ p : Nat, IntKind.u64.wrap n % 50 = (p : Int) ∧ p < 50 := ⟨(IntKind.u64.wrap n % 50).toNat, by omega, by omega⟩
    obtain ⟨q, hq, hq2⟩ : ∃ q : Nat, IntKind.u64.wrap m % 50 = (q : Int) ∧ q < 50 := ⟨(IntKind.u64.wrap m % 50).toNat, by omega, by omega⟩
    go_enter Try.func9, Try.ntmps9
    go_wp2_with fail
    refine (awake_any _).mono ?_
    rintro e w1 ⟨rfl, hk1⟩
    have K1 := Lib.hid hk1
    clear hk1
    go_wp2_with fail
    refine (new_any seed a l cap (fun _ => True) [] w1 (by simp) (HR.out.kept K1.out (fun _ _ _ => id)) ⟨hs, HL.out⟩ (by omega)).mono ?_
    rintro e w2 ⟨x, rfl, hx, h1, hk2⟩
    have K2 := Lib.hid (K1.out.trans hk2)
    have T1 := Lib.hid h1
    have hwx : w.heap.size ≤ x := by have := K1.out.size; omega
    clear h1 hk2 hx
    go_wp2_with fail
    refine (new_any seed a l cap (fun _ => True) [x] w2 (by simpa using T1.out.lt) (HR.out.kept K2.out (fun _ _ _ => id)) ⟨hs, HL.out⟩ (by omega)).mono ?_
    rintro e w3 ⟨y, rfl, hy, h2, hk3⟩
    have hxl := T1.out.lt
    have TT := Lib.hid (two_more T1.out h2 hk3 hy)
    have KK := Lib.hid (K2.out.trans hk3)
    have hwy : w.heap.size ≤ y := by have := K2.out.size; omega
    have hne : x ≠ y := by omega
    clear h2 hk3 hs hy hxl T1 K2 K1 HR HL
    go_wp2_with fail
    obtain ⟨s0, hs0⟩ : ∃ s0 : TapeS, s0 = ⟨seed, l, 0⟩ := ⟨_, rfl⟩
    rw [← hs0] at TT
    have hu0 : s0.used = 0 := by rw [hs0]
    clear hs0
    have HU := Lib.hid hu0
    clear hu0
    go_loopw [11] (fun c wr => ∃ k : Nat, k ≤ p ∧ c = .int .i64 k ∧ Tape wr x (s0.after k) [x, y] ∧ Tape wr y (s0.after k) [x, y] ∧ Kept (fun _ => False) w wr) (fun c _ => p - (intOf c).toNat)
    case atStart => exact ⟨0, by omega, rfl, TT.out.1, TT.out.2, KK.out⟩
    case round =>
      obtain ⟨k, hk, rfl, hx1, hy1, hkr⟩ := hrel
      have KR := Lib.hid hkr
      have TX := Lib.hid hx1
      have TY := Lib.hid hy1
      have hL : ∀ i ∈ [x, y], i < wr.heap.size := by have := hx1.lt; have := hy1.lt; simp; omega
      clear hkr hx1 hy1 TT KK
      have hu : (s0.after k).used < 9223372036854775807 := by rw [TapeS.after_used, HU.out]; omega
      have HUk := Lib.hid hu
      clear hu
      by_cases hlt : k < p
      · go_wp2_with fail
        refine (next_any x _ [x, y] wr TX.out hL HUk.out).mono ?_
        rintro e w4 ⟨rfl, h4, hk4⟩
        have T4 := Lib.hid h4
        have Y4 := Lib.hid (TY.out.kept hk4 (fun e => hne e.symm) (fun i _ e => by rw [e]; simp))
        have K4 := Lib.hid (KR.out.new hk4 hwx)
        have hL4 : ∀ i ∈ [x, y], i < w4.heap.size := fun i hi => hk4.lt (hL i hi)
        clear h4 hk4
        go_wp2_with fail
        refine (next_any y _ [x, y] w4 Y4.out hL4 HUk.out).mono ?_
        rintro e w5 ⟨rfl, h5, hk5⟩
        have T5 := Lib.hid h5
        have X5 := Lib.hid (T4.out.kept hk5 hne (fun i _ e => by rw [e]; simp))
        have K5 := Lib.hid (K4.out.new hk5 hwy)
        clear h5 hk5
        go_wp2_with fail
        go_roundw
        case rel => exact ⟨k + 1, by omega, by go_num, X5.out, T5.out, K5.out⟩
        case measure => simp [intOf]; omega
      · obtain rfl : k = p := by omega
        clear hlt hk
        go_wp2_with fail
        refine (copy_any x _ [x, y] wr TX.out).mono ?_
        rintro e w6 ⟨rfl, h6, hk6, hsz6⟩
        obtain ⟨σ, hσ⟩ : ∃ σ, σ = s0.after k := ⟨_, rfl⟩
        rw [← hσ] at TX TY HUk h6
        have hus : σ.used ≤ 50 := by rw [hσ, TapeS.after_used, HU.out]; omega
        have hX6 := (TX.out.more [wr.heap.size, x, y] (by simp) (by simp)).kept hk6 id (fun _ _ h => h.elim)
        have hY6 := (TY.out.more [wr.heap.size, x, y] (by simp) (by simp)).kept hk6 id (fun _ _ h => h.elim)
        have hcx : x ≠ wr.heap.size := Nat.ne_of_lt (hL x (by simp))
        have hcy : y ≠ wr.heap.size := Nat.ne_of_lt (hL y (by simp))
        have hwc := KR.out.size
        have K6 := Lib.hid (KR.out.trans hk6)
        generalize wr.heap.size = c at *
        have X6 := Lib.hid hX6
        have Y6 := Lib.hid hY6
        have C6 := Lib.hid h6
        clear hX6 hY6 h6 hk6 hsz6 hσ KR TX TY HUk hL hp hp2 HU
        go_wp2_with fail
        go_loopw [13] (fun i wr => ∃ (j : Nat) (t : TapeS), j ≤ q ∧ i = .int .i64 j ∧ t.used ≤ 50 + j ∧ Tape wr c t [c, x, y] ∧ Tape wr x σ [c, x, y] ∧ Tape wr y σ [c, x, y] ∧ Kept (fun _ => False) w wr) (fun i _ => q - (intOf i).toNat)
        case atStart => exact ⟨0, σ, by omega, rfl, by omega, C6.out, X6.out, Y6.out, K6.out⟩
        case round =>
          obtain ⟨j, t, hj, rfl, hut, hc1, hx1, hy1, hkr⟩ := hrel
          have KR := Lib.hid hkr
          have TC := Lib.hid hc1
          have TX := Lib.hid hx1
          have TY := Lib.hid hy1
          have hL : ∀ i ∈ [c, x, y], i < wr.heap.size := by have := hx1.lt; have := hy1.lt; have := hc1.lt; simp; omega
          clear hkr hc1 hx1 hy1 C6 X6 Y6 K6
          by_cases hlt : j < q
          · go_wp2_with fail
            refine (next_any c t [c, x, y] wr TC.out hL (by omega)).mono ?_
            rintro e w7 ⟨rfl, h7, hk7⟩
            have C7 := Lib.hid h7
            have X7 := Lib.hid (TX.out.kept hk7 hcx (fun i _ e => by rw [e]; simp))
            have Y7 := Lib.hid (TY.out.kept hk7 hcy (fun i _ e => by rw [e]; simp))
            have K7 := Lib.hid (KR.out.new hk7 hwc)
            clear h7 hk7
            go_wp2_with fail
            go_roundw
            case rel => exact ⟨j + 1, t.next, by omega, by go_num, by rw [TapeS.next_used]; omega, C7.out, X7.out, Y7.out, K7.out⟩
            case measure => simp [intOf]; omega
          · obtain rfl : j = q := by omega
            clear hlt hj
            go_wp2_with fail
            refine (shuffle_any c 7 (by decide) (by decide) t [c, x, y] wr TC.out hL (by omega)).mono ?_
            rintro e w8 ⟨rfl, hb8, h8, hk8⟩
            have X8 := Lib.hid (TX.out.kept hk8 hcx (fun i _ e => by rw [e]; simp))
            have Y8 := Lib.hid (TY.out.kept hk8 hcy (fun i _ e => by rw [e]; simp))
            have K8 := Lib.hid (KR.out.new hk8 hwc)
            have hcl8 : c < w8.heap.size := hk8.lt (hL c (by simp))
            clear hb8 h8 hk8 TX TY TC KR hL
            go_wp2_with fail
            refine (copy_any x σ [c, x, y] w8 X8.out).mono ?_
            rintro e w9 ⟨rfl, h9, hk9, hsz9⟩
            have hX9 := (X8.out.more [w8.heap.size, c, x, y] (fun k hk => by simp at hk ⊢; omega) (by simp)).kept hk9 id (fun _ _ h => h.elim)
            have hY9 := (Y8.out.more [w8.heap.size, c, x, y] (fun k hk => by simp at hk ⊢; omega) (by simp)).kept hk9 id (fun _ _ h => h.elim)
            have hdx : x ≠ w8.heap.size := Nat.ne_of_lt X8.out.lt
            have hdy : y ≠ w8.heap.size := Nat.ne_of_lt Y8.out.lt
            have hcl : c < w9.heap.size := hk9.lt hcl8
            have hwd := K8.out.size
            have K9 := Lib.hid (K8.out.trans hk9)
            generalize w8.heap.size = d at *
            have X9 := Lib.hid hX9
            have Y9 := Lib.hid hY9
            have D9 := Lib.hid h9
            clear hX9 hY9 h9 hk9 hsz9 X8 Y8 K8 hq hq2
            go_wp2_with fail
            go_loopw [15, 16] (fun i _ wr => ∃ (r : Nat) (t : TapeS), r ≤ 20 ∧ i = .int .i64 r ∧ t.used ≤ 50 + r ∧ Tape wr d t [d, c, x, y] ∧ Tape wr x t [d, c, x, y] ∧ Tape wr y t [d, c, x, y] ∧ c < wr.heap.size ∧ Kept (fun _ => False) w wr) (fun i _ _ => 20 - (intOf i).toNat)
            case atStart => exact ⟨0, σ, by omega, rfl, by omega, D9.out, X9.out, Y9.out, hcl, K9.out⟩
            case round =>
              obtain ⟨r, t, hr, rfl, hut, hd1, hx1, hy1, hcl, hkr⟩ := hrel
              have KR := Lib.hid hkr
              have TD := Lib.hid hd1
              have TX := Lib.hid hx1
              have TY := Lib.hid hy1
              have hL : ∀ i ∈ [d, c, x, y], i < wr.heap.size := by have := hx1.lt; have := hy1.lt; have := hd1.lt; simp; omega
              clear hkr hd1 hx1 hy1 D9 X9 Y9 K9
              by_cases hlt : r < 20
              · have e1 : (t.draw != t.draw) = false := by simp
                go_wp2_with fail
                refine (next_any x t [d, c, x, y] wr TX.out hL (by omega)).mono ?_
                rintro e v1 ⟨rfl, h7, hk7⟩
                have X7 := Lib.hid h7
                have D7 := Lib.hid (TD.out.kept hk7 (fun e => hdx e.symm) (fun i _ e => by rw [e]; simp))
                have Y7 := Lib.hid (TY.out.kept hk7 (fun e => hne e.symm) (fun i _ e => by rw [e]; simp))
                have K7 := Lib.hid (KR.out.new hk7 hwx)
                have hL7 : ∀ i ∈ [d, c, x, y], i < v1.heap.size := fun i hi => hk7.lt (hL i hi)
                clear h7 hk7 TX TD TY KR
                go_wp2_with fail
                refine (next_any y t [d, c, x, y] v1 Y7.out hL7 (by omega)).mono ?_
                rintro e v2 ⟨rfl, h8, hk8⟩
                have Y8 := Lib.hid h8
                have D8 := Lib.hid (D7.out.kept hk8 (fun e => hdy e.symm) (fun i _ e => by rw [e]; simp))
                have X8 := Lib.hid (X7.out.kept hk8 hne (fun i _ e => by rw [e]; simp))
                have K8 := Lib.hid (K7.out.new hk8 hwy)
                have hL8 : ∀ i ∈ [d, c, x, y], i < v2.heap.size := fun i hi => hk8.lt (hL7 i hi)
                clear h8 hk8 X7 D7 Y7 K7
                go_wp2_with fail
                refine (next_any d t [d, c, x, y] v2 D8.out hL8 (by omega)).mono ?_
                rintro e v3 ⟨rfl, h9, hk9⟩
                have D9 := Lib.hid h9
                have X9 := Lib.hid (X8.out.kept hk9 hdx (fun i _ e => by rw [e]; simp))
                have Y9 := Lib.hid (Y8.out.kept hk9 hdy (fun i _ e => by rw [e]; simp))
                have K9 := Lib.hid (K8.out.new hk9 hwd)
                have hcl9 : c < v3.heap.size := hk9.lt (hL8 c (by simp))
                clear h9 hk9 X8 D8 Y8 K8
                go_wp2_with fail
                go_roundw
                case rel => exact ⟨r + 1, t.next, by omega, by go_num, by rw [TapeS.next_used]; omega, D9.out, X9.out, Y9.out, hcl9, K9.out⟩
                case measure => simp [intOf]; omega
              · obtain rfl : r = 20 := by omega
                have e1 : ((t.used : Int) == (t.used : Int)) = true := by simp
                go_wp2_with fail
                refine (used_any x t _ wr TX.out).mono ?_
                rintro e w' ⟨rfl, rfl⟩
                go_wp2_with fail
                refine (used_any y t _ wr TY.out).mono ?_
                rintro e w' ⟨rfl, rfl⟩
                go_wp2_with fail
                refine (used_any d t _ wr TD.out).mono ?_
                rintro e w' ⟨rfl, rfl⟩
                go_wp2_with fail
                refine (used_any x t _ wr TX.out).mono ?_
                rintro e w' ⟨rfl, rfl⟩
                go_wp2_with fail
                go_ret
                exact ⟨rfl, KR.out⟩
end Go.Proofs.Ytdjcpnmodjoagaa
