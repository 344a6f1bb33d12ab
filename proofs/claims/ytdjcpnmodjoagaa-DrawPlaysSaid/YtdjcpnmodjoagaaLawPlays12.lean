/- DrawPlays, walked. (Written by a small program of mine: the end of a round is alike on every way.) -/
import Derived.Test.YtdjcpnmodjoagaaDrawRef2
import Derived.Test.YtdjcpnmodjoagaaArgs
namespace Go.Proofs.Ytdjcpnmodjoagaa
open Go.RowKit

theorem u8_of_wf {n : Int} (h : (Lit.int .u8 n).wf = true) : 0 ≤ n ∧ n ≤ 255 := by
  simp only [Lit.wf, IntKind.min, IntKind.max, IntKind.signed, IntKind.bits, Bool.and_eq_true] at h
  simp at h
  omega

theorem acts_of {H : Type} {enc : TypeId × Value → H} {w : World} {a : Option Addr} {len cap : Nat} (h : Reads enc Try.prog w 36 [.slice a len cap]) :
    ∃ A N : Nat → Int, ∀ i, i < len → ∃ b o, a = some ⟨b, o, none⟩ ∧ b < w.heap.size ∧ w.cell? ⟨b, o + i * 2, none⟩ = some (.int .u8 (A i)) ∧ w.cell? ⟨b, o + i * 2 + 1, none⟩ = some (.int .i64 (N i)) ∧ (0 ≤ A i ∧ A i ≤ 255) ∧ -9223372036854775808 ≤ N i ∧ N i ≤ 9223372036854775807 := by
  obtain ⟨_, _, E, hE⟩ := h.slice Try.underlying36 (n := 2) (by kernel_rfl) (by decide)
  have key : ∀ i, ∃ an : Int × Int, i < len → ∃ b o, a = some ⟨b, o, none⟩ ∧ b < w.heap.size ∧ w.cell? ⟨b, o + i * 2, none⟩ = some (.int .u8 an.1) ∧ w.cell? ⟨b, o + i * 2 + 1, none⟩ = some (.int .i64 an.2) ∧ (0 ≤ an.1 ∧ an.1 ≤ 255) ∧ -9223372036854775808 ≤ an.2 ∧ an.2 ≤ 9223372036854775807 := by
    intro i
    by_cases hlt : i < len
    · obtain ⟨_, ⟨b, o, ha, hb, hc⟩, hr⟩ := hE i hlt
      obtain ⟨_, hf⟩ := hr.fields (ts := [5, 3]) (by kernel_rfl)
      obtain ⟨v0, e0, r0⟩ := hf 0 _ rfl
      obtain ⟨v1, e1, r1⟩ := hf 1 _ rfl
      obtain ⟨n0, h0, g0⟩ := r0.int Try.underlying5
      obtain ⟨n1, h1, g1⟩ := r1.int Try.underlying3
      simp only [List.cons.injEq, and_true] at h0 h1
      subst h0 h1
      exact ⟨(n0, n1), fun _ => ⟨b, o, ha, hb, by rw [← e0]; exact hc 0 (by decide), by rw [← e1]; exact hc 1 (by decide), u8_of_wf g0, i64_of_wf g1⟩⟩
    · exact ⟨(0, 0), fun h => absurd h hlt⟩
  exact ⟨fun i => (Classical.choose (key i)).1, fun i => (Classical.choose (key i)).2, fun i hlt => Classical.choose_spec (key i) hlt⟩

theorem ints_len (a1 a2 : Option Addr) (l1 l2 : List Int) (n1 n2 c1 c2 : Nat) (e1 : l1.length = n1) (e2 : l2.length = n2) (w : World) (h1 : Cells w a1 (l1.map (.int .i64)) (fun _ => True)) (h2 : Cells w a2 (l2.map (.int .i64)) (fun _ => True))
    (hl1 : n1 ≤ 9223372036854775806) (hl2 : n2 ≤ 9223372036854775806) :
    Calls Try.prog 20 #[.slice a1 n1 c1, .slice a2 n2 c2] w fun e w' => e = .returned (.bool (decide (l1 = l2))) ∧ Kept (fun _ => False) w w' := by
  subst e1 e2
  exact ints_any a1 a2 l1 l2 c1 c2 w h1 h2 hl1 hl2

theorem acts_shuf_used (n : Nat) (s : TapeS) (h : n ≤ 256) : (shuffleL n s).2.used ≤ s.used + 256 := by
  rw [(shuffleL_law n s).2.2.2, TapeS.after'_used]; omega

/-- The slice may be written, place by place; its block is one of gs. -/
def InRow (w : World) (ao : Option Addr) (n : Nat) (gs : List Nat) : Prop := n = 0 ∨ ∃ g c, ao = some ⟨g, 0, none⟩ ∧ g ∈ gs ∧ w.heap[g]? = some (.cells c 22 (0, 0)) ∧ n ≤ c.size
theorem InRow.keep {M : Nat → Prop} {w w' : World} {ao : Option Addr} {n : Nat} {gs : List Nat} (h : InRow w ao n gs) (k : Kept M w w') (hm : ∀ g ∈ gs, ¬ M g) : InRow w' ao n gs := by
  rcases h with h | ⟨g, c, e, hg, hh, hn⟩
  · exact .inl h
  · exact .inr ⟨g, c, e, hg, k.heap hh (hm g hg), hn⟩
theorem inRow_of {w : World} {base n cap : Nat} {ao : Option Addr} {xs : List Value} (h : w.ownsRow base 22 1 (.slice ao n cap) n xs) : ∃ gs : List Nat, (∀ k ∈ gs, base ≤ k ∧ k < w.heap.size) ∧ InRow w ao n gs := by
  rcases h.2 with ⟨h1, h2⟩ | ⟨g, c, cur, hv, hb, hg, hn, _, hs, _⟩
  · exact ⟨[], by simp, .inl h2⟩
  · simp at hv
    obtain ⟨rfl, rfl⟩ := hv
    exact ⟨[g], by simp; exact ⟨hb, lt_of_block hg⟩, .inr ⟨g, cur, rfl, by simp, hg, by omega⟩⟩

set_option maxRecDepth 100000 in
set_option maxHeartbeats 4000000 in
theorem drawPlays_walk {H : Type} {enc : TypeId × Value → H} {d : DataW H} {p : List MemPlace} (w : World) (seed : Int) (hsd : (Lit.int .u64 seed).wf = true) (a : Option Addr) (len cap : Nat) (zs : List Int) (hrow : IsRow .u64 w a len cap zs)
    (a2 : Option Addr) (len2 cap2 : Nat) (hk : DataW.Trod enc Try.prog w 0 (fun _ => true) true 36 (.slice a2 len2 cap2) d p) :
    Calls Try.prog 6 #[.int .u64 seed, .slice a len cap, .slice a2 len2 cap2] w fun e w' => e = .returned (.bool true) ∧ Kept (fun _ => False) w w' := by
  obtain ⟨l, rfl, hr, hl⟩ := rowU_of_isRow hrow
  obtain ⟨A, N, hacts⟩ := acts_of (Reads.of hk)
  have hs := u64_of_wf hsd
  have HR := Lib.hid hr
  have HL := Lib.hid hl
  have HA := Lib.hid hacts
  clear hrow hr hl hsd hk hacts
  by_cases h1 : 2000 < l.length
  · have hb : decide (2000 < (l.length : Int)) = true := by simp; omega
    clear h1
    go_enter Try.func6, Try.ntmps6
    go_wp2_with fail
    refine (awake_any _).mono ?_
    rintro e w1 ⟨rfl, hk⟩
    go_wp2_with fail
    go_ret
    exact ⟨rfl, hk⟩
  by_cases h2 : 200 < len2
  · have hb : decide (2000 < (l.length : Int)) = false := by simp; omega
    have hb2 : decide (200 < (len2 : Int)) = true := by simp; omega
    clear h1 h2
    go_enter Try.func6, Try.ntmps6
    go_wp2_with fail
    refine (awake_any _).mono ?_
    rintro e w1 ⟨rfl, hk⟩
    go_wp2_with fail
    go_ret
    exact ⟨rfl, hk⟩
  have hb : decide (2000 < (l.length : Int)) = false := by simp; omega
  have hb2 : decide (200 < (len2 : Int)) = false := by simp; omega
  obtain ⟨i0, hi, hz0, hz1, hz2⟩ := info_parts info_u64
  obtain ⟨ao', cap', w1, hrun, hown, hk⟩ := cloneU_run i0 hi hz0 hz1 hz2 w HR.out (by omega)
  obtain ⟨_, hr'⟩ := rowU_of_owns (P := fun k => w.heap.size ≤ k) hown (fun _ h => h)
  obtain ⟨gs, hgs, hin⟩ := inRow_of hown
  have HIN := Lib.hid hin
  have HGS := Lib.hid hgs
  have HRI := Lib.hid hr'
  have K1 := Lib.hid hk
  have HRUN := Lib.hid hrun
  clear hrun hown hr' hk hin hgs hi hz0 hz1 hz2 i0
  go_enter Try.func6, Try.ntmps6
  go_wp2_with (at_builtin; go_must (refine wpList_append_run rfl _ _ _ _ rfl _ _ rfl rfl HRUN.out ?_))
  refine (new_any seed ao' l cap' (fun k => w.heap.size ≤ k) gs w1 (fun k hk => (HGS.out k hk).2) HRI.out ⟨hs, HL.out⟩ (by omega)).mono ?_
  rintro e w2 ⟨x, rfl, hx, ht, hk2⟩
  have T2 := Lib.hid ht
  have K2 := Lib.hid (K1.out.trans hk2)
  have hwx : w.heap.size ≤ x := by have := K1.out.size; omega
  have IN2 := Lib.hid (HIN.out.keep hk2 (fun _ _ => id))
  have GS2 := Lib.hid (fun k hk => hk2.lt (HGS.out k hk).2 : ∀ k ∈ gs, k < w2.heap.size)
  have GSX := Lib.hid (fun k hk e => by have := (HGS.out k hk).2; omega : ∀ k ∈ gs, ¬ k = x)
  have GSW := Lib.hid (fun k hk => (HGS.out k hk).1 : ∀ k ∈ gs, w.heap.size ≤ k)
  clear ht hk2 HRUN HRI HIN
  go_wp2_with fail
  refine (rnew_any seed a l cap (fun _ => True) (x :: gs) w2 (fun k hk => by rcases List.mem_cons.1 hk with rfl | hk; exact T2.out.lt; exact GS2.out k hk) (HR.out.kept K2.out (fun _ _ _ => id)) ⟨hs, HL.out⟩ (by omega)).mono ?_
  rintro e w3 ⟨y, rfl, hy, ht, hk3⟩
  have hxl := T2.out.lt
  have hxy : x ≠ y := by omega
  have hwy : w.heap.size ≤ y := by have := K2.out.size; omega
  have R3 := Lib.hid (ht.more (x :: y :: gs) (fun k hk => by simp at hk ⊢; rcases hk with h | h | h <;> simp [h]) (by simp))
  have T3 := Lib.hid ((T2.out.more (x :: y :: gs) (fun k hk => by simp at hk ⊢; rcases hk with h | h | h; exact .inl (.inl h); exact .inr (by omega); exact .inl (.inr h)) (by simp)).kept hk3 id (fun _ _ h => h.elim))
  have K3 := Lib.hid (K2.out.trans hk3)
  have IN3 := Lib.hid (IN2.out.keep hk3 (fun _ _ => id))
  have GSY := Lib.hid (fun k hk e => by have := GS2.out k hk; omega : ∀ k ∈ gs, ¬ k = y)
  clear ht hk3 hxl T2 K2 K1 hs HR HL IN2 hx hy GS2 HGS
  go_wp2_with fail
  go_loopw [10] (fun c wr => ∃ i : Nat, i ≤ l.length ∧ c = .int .i64 i ∧ InRow wr ao' l.length gs ∧ Tape wr x ⟨seed, l, 0⟩ (x :: y :: gs) ∧ RTape wr y ⟨seed, l, 0⟩ (x :: y :: gs) ∧ Kept (fun _ => False) w wr) (fun c _ => l.length - (intOf c).toNat)
  case atStart => exact ⟨0, by omega, rfl, IN3.out, T3.out, R3.out, K3.out⟩
  case round =>
    obtain ⟨i, hi, rfl, hin, ht, hr, hkr⟩ := hrel
    have KR := Lib.hid hkr
    have TR := Lib.hid ht
    have RR := Lib.hid hr
    clear hkr ht hr IN3 T3 R3 K3
    by_cases hlt : i < l.length
    · obtain ⟨g, c, rfl, hg, hh, hn⟩ : ∃ g c, ao' = some ⟨g, 0, none⟩ ∧ g ∈ gs ∧ wr.heap[g]? = some (.cells c 22 (0, 0)) ∧ l.length ≤ c.size := by
        rcases hin with h | h
        · omega
        · exact h
      have hci := cell_blk hh i
      have hfi := free_blk hh i
      rw [Array.getElem?_eq_getElem (show i < c.size by omega)] at hci
      obtain ⟨v, hv⟩ : ∃ v, v = c[i]'(by omega) := ⟨_, rfl⟩
      rw [← hv] at hci
      have HH := Lib.hid hh
      clear hv hh
      go_wp2_with fail
      go_roundw
      case rel => exact ⟨i + 1, by omega, by go_num, .inr ⟨g, _, rfl, hg, set_blk HH.out i _, by simp; exact hn⟩, TR.out.kept ((Kept.refl (M := (· = g)) wr).own i _) (fun e => GSX.out g hg e.symm) (fun k _ e => by rw [show k = g from e]; simp [hg]),
        RR.out.kept ((Kept.refl (M := (· = g)) wr).own i _) (fun e => GSY.out g hg e.symm) (fun k _ e => by rw [show k = g from e]; simp [hg]), KR.out.fresh (GSW.out g hg) _ _⟩
      case measure => simp [intOf]; omega
    · have T4 := Lib.hid (TR.out.more [x, y] (by simp) (by simp))
      have R4 := Lib.hid (RR.out.more [x, y] (by simp) (by simp))
      obtain rfl : i = l.length := by omega
      clear hin hlt hi TR RR GSX GSY GSW
      go_wp2_with fail
      go_loopw [8, 9, 11] (fun v8 v9 c wr => ∃ (k : Nat) (s : TapeS) (x y : Nat), k ≤ len2 ∧ v8 = .pointer (some ⟨x, 0, none⟩) ∧ v9 = .pointer (some ⟨y, 0, none⟩) ∧ c = .int .i64 k ∧ Tape wr x s [x, y] ∧ RTape wr y s [x, y] ∧ x ≠ y ∧ w.heap.size ≤ x ∧ w.heap.size ≤ y ∧ s.used ≤ 300 * k ∧ Kept (fun _ => False) w wr) (fun _ _ c _ => len2 - (intOf c).toNat)
      case atStart => exact ⟨0, _, x, y, by omega, rfl, rfl, rfl, T4.out, R4.out, hxy, hwx, hwy, by simp, KR.out⟩
      case round =>
        clear T4 R4 KR hxy hwx hwy
        obtain ⟨k, s, x, y, hk, rfl, rfl, rfl, ht, hr, hxy, hwx, hwy, hus, hkr⟩ := hrel
        have KR := Lib.hid hkr
        have TR := Lib.hid ht
        have RR := Lib.hid hr
        have hyx : y ≠ x := fun e => hxy e.symm
        have hL : ∀ i ∈ [x, y], i < wr.heap.size := by have := ht.lt; have := hr.lt; simp; omega
        clear hkr ht hr
        by_cases hlt : k < len2
        · obtain ⟨b2, o2, rfl, hb2w, hc1, hc2, ⟨ha0, ha1⟩, hn0, hn1⟩ := HA.out k hlt
          have d1 := KR.out.cell hc1 id
          have d2 := KR.out.cell hc2 id
          obtain ⟨av, hav⟩ : ∃ av, av = A k := ⟨_, rfl⟩
          obtain ⟨n, hnv⟩ : ∃ n, n = N k := ⟨_, rfl⟩
          rw [← hav] at d1 ha0 ha1
          rw [← hnv] at d2 hn0 hn1
          have hbx : ¬ b2 = x := by omega
          have hby : ¬ b2 = y := by omega
          clear hav hnv hc1 hc2
          by_cases a0 : av = 0
          · subst a0
            have ed : (s.draw != s.draw) = false := by simp
            go_wp2_with fail
            refine (next_any x s [x, y] wr TR.out hL (by omega)).mono ?_
            rintro e w4 ⟨rfl, ht, hk4⟩
            have T5 := Lib.hid ht
            have R5 := Lib.hid (RR.out.kept hk4 hyx (fun i _ e => by rw [e]; simp))
            have K5 := Lib.hid (KR.out.new hk4 hwx)
            clear ht hk4
            go_wp2_with fail
            refine (rnext_any y s [x, y] w4 R5.out (by omega)).mono ?_
            rintro e w5 ⟨rfl, hr, hk5⟩
            have R6 := Lib.hid hr
            have T6 := Lib.hid (T5.out.kept hk5 hxy (fun i _ e => by rw [e]; simp))
            have K6 := Lib.hid (K5.out.new hk5 hwy)
            clear hr hk5 T5 R5 K5 TR RR KR
            go_wp2_with fail

            have eu : ((s.next.used : Int) != (s.next.used : Int)) = false := by simp
            obtain ⟨fs, ra, rc, hr1, _⟩ := R6.out
            have cN := cell_blk hr1 2
            simp at cN
            clear hr1
            go_wp2_with fail
            go_region_held3 (fun w' => w'.cell? ⟨y, 2, none⟩ = some (.int .i64 s.next.used)) (go_keep)
              ((go_at_call 13; refine (used_any x s.next [x, y] _ ?_).mono ?_; exact T6.out; rintro e w' ⟨rfl, rfl⟩))
            go_wp2_with fail
            go_roundw
            case rel => exact ⟨k + 1, s.next, x, y, by omega, rfl, rfl, by go_num, T6.out.more [x, y] (by simp) (by simp), R6.out.more [x, y] (by simp) (by simp), hxy, hwx, hwy, by rw [TapeS.next_used]; omega, K6.out.drew⟩
            case measure => simp [intOf]; omega
          by_cases a1 : av = 1
          · subst a1
            by_cases h1n : n < 1
            · have KD := Lib.hid KR.out.drew
              have TD : Hid (Tape wr.drew x s [x, y]) := TR.out
              have RD : Hid (RTape wr.drew y s [x, y]) := RR.out
              go_wp2_with fail
              go_region_held3 (fun w' => w'.cell? ⟨b2, o2 + k * 2 + 1, none⟩ = some (.int .i64 n)) (go_keep)
                (first
                  | (go_at_call 17; refine (below_low x n h1n _).mono ?_; rintro e w' ⟨rfl, rfl⟩)
                  | (go_at_call 18; refine (rbelow_low y n h1n _).mono ?_; rintro e w' ⟨rfl, rfl⟩))
              clear TR RR KR

              have eu : ((s.used : Int) != (s.used : Int)) = false := by simp
              obtain ⟨fs, ra, rc, hr1, _⟩ := RD.out
              have cN := cell_blk hr1 2
              simp at cN
              clear hr1
              go_wp2_with fail
              go_region_held3 (fun w' => w'.cell? ⟨y, 2, none⟩ = some (.int .i64 s.used)) (go_keep)
                ((go_at_call 13; refine (used_any x s [x, y] _ ?_).mono ?_; exact TD.out; rintro e w' ⟨rfl, rfl⟩))
              go_wp2_with fail
              go_roundw
              case rel => exact ⟨k + 1, s, x, y, by omega, rfl, rfl, by go_num, TD.out.more [x, y] (by simp) (by simp), RD.out.more [x, y] (by simp) (by simp), hxy, hwx, hwy, by omega, KD.out.drew⟩
              case measure => simp [intOf]; omega
            · have hnp : 1 ≤ n := by omega
              have ed : (s.draw % n != s.draw % n) = false := by simp
              go_wp2_with fail
              go_region_held3 (fun w' => w'.cell? ⟨b2, o2 + k * 2 + 1, none⟩ = some (.int .i64 n)) (first | go_keep | exact d4 | exact d5)
                (first
                  | (go_at_call 17; refine (below_any x n hnp hn1 s [x, y] _ ?_ ?_ ?_).mono ?_; exact TR.out; exact hL; omega; rintro e w4 ⟨rfl, ht, hk4⟩; have d4 := hk4.cell d2 hbx; have T5 := Lib.hid ht; have R5 := Lib.hid (RR.out.kept hk4.of_drew hyx (fun i _ e => by rw [e]; simp)); have K5 := Lib.hid (KR.out.new hk4.of_drew hwx); clear ht hk4)
                  | (go_at_call 18; refine (rbelow_any y n hnp hn1 s [x, y] _ ?_ ?_).mono ?_; exact R5.out; omega; rintro e w5 ⟨rfl, hr, hk5⟩; have d5 := hk5.cell d4 hby; have R6 := Lib.hid hr; have T6 := Lib.hid (T5.out.kept hk5 hxy (fun i _ e => by rw [e]; simp)); have K6 := Lib.hid (K5.out.new hk5 hwy); clear hr hk5))
              clear T5 R5 K5 TR RR KR

              have eu : ((s.next.used : Int) != (s.next.used : Int)) = false := by simp
              obtain ⟨fs, ra, rc, hr1, _⟩ := R6.out
              have cN := cell_blk hr1 2
              simp at cN
              clear hr1
              go_wp2_with fail
              go_region_held3 (fun w' => w'.cell? ⟨y, 2, none⟩ = some (.int .i64 s.next.used)) (go_keep)
                ((go_at_call 13; refine (used_any x s.next [x, y] _ ?_).mono ?_; exact T6.out; rintro e w' ⟨rfl, rfl⟩))
              go_wp2_with fail
              go_roundw
              case rel => exact ⟨k + 1, s.next, x, y, by omega, rfl, rfl, by go_num, T6.out.more [x, y] (by simp) (by simp), R6.out.more [x, y] (by simp) (by simp), hxy, hwx, hwy, by rw [TapeS.next_used]; omega, K6.out.drew⟩
              case measure => simp [intOf]; omega
          by_cases a2 : av = 2
          · subst a2
            by_cases hout : n < 1 ∨ 256 < n
            · have KD := Lib.hid KR.out.drew
              have TD : Hid (Tape wr.drew x s [x, y]) := TR.out
              have RD : Hid (RTape wr.drew y s [x, y]) := RR.out
              go_wp2_with fail
              go_region_held3 (fun w' => w'.cell? ⟨b2, o2 + k * 2 + 1, none⟩ = some (.int .i64 n)) (go_keep)
                (first
                  | (go_at_call 14; refine (shuffle_none x n hout _).mono ?_; rintro e w' ⟨rfl, rfl⟩)
                  | (go_at_call 19; refine (rshuffle_none y n hout _).mono ?_; rintro e w' ⟨rfl, rfl⟩))
              clear TR RR KR
              go_wp2_with fail
              refine (ints_len none none [] [] 0 0 0 0 rfl rfl _ (.inl rfl) (.inl rfl) (by decide) (by decide)).mono ?_
              rintro e w5 ⟨rfl, hk5⟩
              rw [show decide (([] : List Int) = []) = true from rfl]
              have T6 := Lib.hid (TD.out.look hk5)
              have R6 := Lib.hid (RD.out.kept hk5 id (fun _ _ h => h.elim))
              have K6 := Lib.hid (KD.out.trans hk5)
              clear hk5 TD RD KD
              go_wp2_with fail
              go_loopw [14] (fun c wx => c = .int .i64 0 ∧ wx = w5) (fun _ _ => 0)
              case atStart => exact ⟨rfl, rfl⟩
              case round =>
                obtain ⟨rfl, rfl⟩ := hrel
                go_wp2_with fail

                have eu : ((s.used : Int) != (s.used : Int)) = false := by simp
                obtain ⟨fs, ra, rc, hr1, _⟩ := R6.out
                have cN := cell_blk hr1 2
                simp at cN
                clear hr1
                go_wp2_with fail
                go_region_held3 (fun w' => w'.cell? ⟨y, 2, none⟩ = some (.int .i64 s.used)) (go_keep)
                  ((go_at_call 13; refine (used_any x s [x, y] _ ?_).mono ?_; exact T6.out; rintro e w' ⟨rfl, rfl⟩))
                go_wp2_with fail
                go_roundw
                case rel => exact ⟨k + 1, s, x, y, by omega, rfl, rfl, by go_num, T6.out.more [x, y] (by simp) (by simp), R6.out.more [x, y] (by simp) (by simp), hxy, hwx, hwy, by omega, K6.out.drew⟩
                case measure => simp [intOf]; omega
            · obtain ⟨m, rfl⟩ := Int.eq_ofNat_of_zero_le (show 0 ≤ n by omega)
              have hm1 : 1 ≤ m := by omega
              have hm2 : m ≤ 256 := by omega
              have hgx : x ≠ wr.heap.size := Nat.ne_of_lt (hL x (by simp))
              have hgy : y ≠ wr.heap.size := Nat.ne_of_lt (hL y (by simp))
              have hgw := KR.out.size
              have hus2 := acts_shuf_used m s hm2
              have hrow := (shuffleL_law m s).1
              obtain ⟨row, st⟩ : ∃ q, q = shuffleL m s := ⟨_, rfl⟩
              have d3 : wr.drew.cell? ⟨b2, o2 + k * 2 + 1, none⟩ = some (.int .i64 m) := d2
              go_wp2_with fail
              go_region_held3 (fun w' => w'.cell? ⟨b2, o2 + k * 2 + 1, none⟩ = some (.int .i64 m)) (first | go_keep | exact d4 | exact d5)
                (first
                  | (go_at_call 14; refine (shuffle_any x m hm1 hm2 s [x, y] _ ?_ ?_ ?_).mono ?_; exact TR.out; exact hL; omega; rintro e w4 ⟨rfl, hb, ht, hk4⟩; have d4 := hk4.cell d2 hbx; have T5 := Lib.hid ht; have B5 := Lib.hid hb; have R5 := Lib.hid ((RR.out.more [wr.heap.size, x, y] (by simp) (by simp)).kept hk4.of_drew hyx (fun i _ e => by rw [e]; simp)); have K5 := Lib.hid (KR.out.new hk4.of_drew hwx); clear ht hk4 hb)
                  | (go_at_call 19; refine (rshuffle_any y m hm1 hm2 s [wr.heap.size, x, y] _ ?_ ?_).mono ?_; exact R5.out; omega; rintro e w5 ⟨rfl, hb, hr, hk5⟩; have d5 := hk5.cell d4 hby; have R6 := Lib.hid hr; have C6 := Lib.hid hb; have B6 := Lib.hid (B5.out.kept hk5 (fun e => hgy e.symm)); have T6 := Lib.hid (T5.out.kept hk5 hxy (fun i _ e => by rw [e]; simp)); have K6 := Lib.hid (K5.out.new hk5 hwy); clear hr hk5 hb))
              have R7 := Lib.hid (R6.out.more [wr.heap.size, x, y] (by simp) (by simp))
              clear T5 R5 K5 B5 TR RR KR R6
              have B7 : Hid (Blk w5 wr.heap.size 3 ((shuffleL m s).1.map (.int .i64))) := B6
              have T7 : Hid (Tape w5 x (shuffleL m s).2 [wr.heap.size, x, y]) := T6
              clear B6 T6 st row d3 d4
              go_wp2_with fail
              refine (ints_len _ _ (shuffleL m s).1 (shuffleL m s).1 m m m m hrow hrow _ (B7.out.cells_all trivial) (C6.out.cells_all trivial) (by omega) (by omega)).mono ?_
              rintro e w6 ⟨rfl, hk6⟩
              rw [show decide ((shuffleL m s).1 = (shuffleL m s).1) = true by simp]
              have B8 := Lib.hid (B7.out.kept hk6 id)
              have T8 := Lib.hid (T7.out.look hk6)
              have R8 := Lib.hid (R7.out.kept hk6 id (fun _ _ h => h.elim))
              have K8 := Lib.hid (K6.out.trans hk6)
              clear hk6 B7 T7 R7 K6 C6
              generalize wr.heap.size = g at *
              go_wp2_with fail
              go_loopw [14] (fun c wx => ∃ (j : Nat) (cs : List Value), j ≤ m ∧ c = .int .i64 j ∧ cs.length = m ∧ Blk wx g 3 cs ∧ Tape wx x (shuffleL m s).2 [g, x, y] ∧ RTape wx y (shuffleL m s).2 [g, x, y] ∧ Kept (fun _ => False) w wx) (fun c _ => m - (intOf c).toNat)
              case atStart => exact ⟨0, _, by omega, rfl, by rw [List.length_map]; exact hrow, B8.out, T8.out, R8.out, K8.out⟩
              case round =>
                obtain ⟨j, cs, hj, rfl, hcs, hbk, ht, hr, hkr⟩ := hrel
                have KR := Lib.hid hkr
                have TR := Lib.hid ht
                have RR := Lib.hid hr
                have BR := Lib.hid hbk
                clear hkr ht hr B8 T8 R8 K8
                by_cases hjm : j < m
                · have hcj := hbk.cell j
                  have hfj := hbk.free j
                  rw [List.getElem?_eq_getElem (by rw [hcs]; exact hjm)] at hcj
                  obtain ⟨v, hv⟩ : ∃ v, v = cs[j]'(by rw [hcs]; exact hjm) := ⟨_, rfl⟩
                  rw [← hv] at hcj
                  have HCS := Lib.hid hcs
                  clear hv hcs hbk
                  go_wp2_with fail
                  go_roundw
                  case rel => exact ⟨j + 1, cs.set j (.int .i64 77), by omega, by go_num, by rw [List.length_set]; exact HCS.out, BR.out.set j _, TR.out.kept ((Kept.refl (M := (· = g)) _).own j _) hgx (fun i _ e => by rw [e]; simp), RR.out.kept ((Kept.refl (M := (· = g)) _).own j _) hgy (fun i _ e => by rw [e]; simp), KR.out.fresh hgw _ _⟩
                  case measure => simp [intOf]; omega
                · obtain rfl : j = m := by omega
                  obtain ⟨s2, hs2⟩ : ∃ s2, s2 = (shuffleL j s).2 := ⟨_, rfl⟩
                  rw [← hs2] at TR RR hus2
                  have TG := Lib.hid (TR.out.more [x, y] (by simp) (by simp))
                  have RG := Lib.hid (RR.out.more [x, y] (by simp) (by simp))
                  clear hbk hs2 hrow hjm hj hcs TR RR BR
                  go_wp2_with fail

                  have eu : ((s2.used : Int) != (s2.used : Int)) = false := by simp
                  obtain ⟨fs, ra, rc, hr1, _⟩ := RG.out
                  have cN := cell_blk hr1 2
                  simp at cN
                  clear hr1
                  go_wp2_with fail
                  go_region_held3 (fun w' => w'.cell? ⟨y, 2, none⟩ = some (.int .i64 s2.used)) (go_keep)
                    ((go_at_call 13; refine (used_any x s2 [x, y] _ ?_).mono ?_; exact TG.out; rintro e w' ⟨rfl, rfl⟩))
                  go_wp2_with fail
                  go_roundw
                  case rel => exact ⟨k + 1, s2, x, y, by omega, rfl, rfl, by go_num, TG.out.more [x, y] (by simp) (by simp), RG.out.more [x, y] (by simp) (by simp), hxy, hwx, hwy, by omega, KR.out.drew⟩
                  case measure => simp [intOf]; omega
          · have f0 : (av == 0) = false := by simpa using a0
            have f1 : (av == 1) = false := by simpa using a1
            have f2 : (av == 2) = false := by simpa using a2
            go_wp2_with fail
            refine (copy_any x s [x, y] wr TR.out).mono ?_
            rintro e w4 ⟨rfl, hc, hk4, hsz4⟩
            have X4 := (TR.out.more [wr.heap.size, x, y] (by simp) (by simp)).kept hk4 id (fun _ _ h => h.elim)
            have R4 := (RR.out.more [wr.heap.size, x, y] (by simp) (by simp)).kept hk4 id (fun _ _ h => h.elim)
            have hcx : wr.heap.size ≠ x := Nat.ne_of_gt (hL x (by simp))
            have hcy : wr.heap.size ≠ y := Nat.ne_of_gt (hL y (by simp))
            have hwc := KR.out.size
            have hL4 : ∀ i ∈ [wr.heap.size, x, y], i < w4.heap.size := by have := hc.lt; have := X4.lt; have := R4.lt; simp; omega
            have K4 := Lib.hid (KR.out.trans hk4)
            clear hsz4 hk4
            generalize wr.heap.size = c at *
            have TC4 := Lib.hid hc
            have TX4 := Lib.hid X4
            have TY4 := Lib.hid R4
            clear hc X4 R4 TR RR KR
            go_wp2_with fail
            refine (next_any x s [c, x, y] w4 TX4.out hL4 (by omega)).mono ?_
            rintro e w5 ⟨rfl, ht, hk5⟩
            have TC5 := Lib.hid (TC4.out.kept hk5 hcx (fun i _ e => by rw [e]; simp))
            have TX5 := Lib.hid ht
            have TY5 := Lib.hid (TY4.out.kept hk5 hyx (fun i _ e => by rw [e]; simp))
            have K5 := Lib.hid (K4.out.new hk5 hwx)
            have hL5 : ∀ i ∈ [c, x, y], i < w5.heap.size := fun i hi => hk5.lt (hL4 i hi)
            clear ht hk5 TC4 TX4 TY4 K4
            go_wp2_with fail
            refine (shuffle_any x 3 (by decide) (by decide) s.next [c, x, y] w5 TX5.out hL5 (by rw [TapeS.next_used]; omega)).mono ?_
            rintro e w6 ⟨rfl, _, _, hk6⟩
            have TC6 := Lib.hid (TC5.out.kept hk6 hcx (fun i _ e => by rw [e]; simp))
            have TY6 := Lib.hid (TY5.out.kept hk6 hyx (fun i _ e => by rw [e]; simp))
            have K6 := Lib.hid (K5.out.new hk6 hwx)
            clear hk6 TC5 TX5 TY5 K5
            go_wp2_with fail
            refine (rcopy_any y s [c, x, y] w6 TY6.out).mono ?_
            rintro e w7 ⟨rfl, hr, hk7, hsz7⟩
            have hcd : c ≠ w6.heap.size := Nat.ne_of_lt TC6.out.lt
            have hwd := K6.out.size
            have C7 := (TC6.out.more [c, w6.heap.size] (by simp) (by simp)).kept hk7 id (fun _ _ h => h.elim)
            have K7 := Lib.hid (K6.out.trans hk7)
            clear hsz7 hk7 TY6 K6
            clear TC6
            generalize w6.heap.size = d at *
            have T7 := Lib.hid C7
            have R7 := Lib.hid (hr.more [c, d] (by simp) (by simp))
            clear C7 hr hxy hyx hwx hwy hbx hby

            have eu : ((s.used : Int) != (s.used : Int)) = false := by simp
            obtain ⟨fs, ra, rc, hr1, _⟩ := R7.out
            have cN := cell_blk hr1 2
            simp at cN
            clear hr1
            go_wp2_with fail
            go_region_held3 (fun w' => w'.cell? ⟨d, 2, none⟩ = some (.int .i64 s.used)) (go_keep)
              ((go_at_call 13; refine (used_any c s [c, d] _ ?_).mono ?_; exact T7.out; rintro e w' ⟨rfl, rfl⟩))
            go_wp2_with fail
            go_roundw
            case rel => exact ⟨k + 1, s, c, d, by omega, rfl, rfl, by go_num, T7.out.more [c, d] (by simp) (by simp), R7.out.more [c, d] (by simp) (by simp), hcd, hwc, hwd, by omega, K7.out.drew⟩
            case measure => simp [intOf]; omega
        · obtain rfl : k = len2 := by omega
          have ed : (s.draw == s.draw) = true := by simp
          go_wp2_with fail
          refine (next_any x s [x, y] wr TR.out hL (by omega)).mono ?_
          rintro e w4 ⟨rfl, ht, hk4⟩
          have R5 := Lib.hid (RR.out.kept hk4 hyx (fun i _ e => by rw [e]; simp))
          have K5 := Lib.hid (KR.out.new hk4 hwx)
          clear ht hk4
          go_wp2_with fail
          refine (rnext_any y s [x, y] w4 R5.out (by omega)).mono ?_
          rintro e w5 ⟨rfl, hr, hk5⟩
          have K6 := Lib.hid (K5.out.new hk5 hwy)
          clear hr hk5 R5 K5
          go_wp2_with fail
          refine (awake_any _).mono ?_
          rintro e w6 ⟨rfl, hk⟩
          go_wp2_with fail
          go_ret
          exact ⟨rfl, K6.out.trans hk⟩
end Go.Proofs.Ytdjcpnmodjoagaa
