/- DrawTape, walked. -/
import Derived.Test.YtdjcpnmodjoagaaUnlike
namespace Go.Proofs.Ytdjcpnmodjoagaa
open Go.RowKit

/-- A slice of uint64 that came in. -/
theorem rowU_of_isRow {w : World} {a : Option Addr} {len cap : Nat} {zs : List Int} (h : IsRow .u64 w a len cap zs) :
    ∃ l : List Int, len = l.length ∧ RowU w a l cap (fun _ => True) ∧ ∀ x ∈ l, U64 x := by
  rcases h with ⟨rfl, rfl, rfl, rfl⟩ | ⟨x, rfl, h1, h2, h3, h4, h5⟩
  · exact ⟨[], rfl, RowU.nil _ _, by simp⟩
  · refine ⟨zs.take len, by simp; omega, ⟨by simp; omega, h2, ?_⟩, fun y hy => u64_of_wf (h5 y (List.mem_of_mem_take hy))⟩
    by_cases hl : len = 0
    · left; subst hl; simp
    · right
      have h0 := h4 0 (by omega)
      obtain ⟨b, o, sp⟩ := x
      have hsp : sp = none := by
        cases sp with
        | none => rfl
        | some v => simp [Addr.add, World.cell?] at h0; split at h0 <;> simp at h0
      subst hsp
      refine ⟨b, o, rfl, trivial, fun i hi => ?_⟩
      simp at hi
      have := h4 i (by omega)
      rw [addr_add] at this
      rw [this]
      simp [show i < len by omega]

/-- The tape behind so many draws. -/
def TapeS.after (s : TapeS) : Nat → TapeS
  | 0 => s
  | k + 1 => (s.after k).next
theorem TapeS.after_used (s : TapeS) (k : Nat) : (s.after k).used = s.used + k := by
  induction k with
  | zero => rfl
  | succ k ih => simp only [TapeS.after, TapeS.next_used, ih]; omega
theorem TapeS.after_first (s : TapeS) (k : Nat) : (s.after k).first = s.first.drop k := by
  induction k with
  | zero => rfl
  | succ k ih =>
    simp only [TapeS.after, TapeS.next]
    split
    · rename_i h; rw [ih] at h; simp at h; simp; omega
    · rename_i x r h; rw [ih] at h; simp only; rw [← List.tail_drop, h]; rfl
theorem TapeS.after_seed (s : TapeS) (k : Nat) (h : k ≤ s.first.length) : (s.after k).seed = s.seed := by
  induction k with
  | zero => rfl
  | succ k ih =>
    have hf := s.after_first k
    simp only [TapeS.after, TapeS.next]
    split
    · rename_i h'; rw [hf] at h'; simp at h'; omega
    · exact ih (by omega)
theorem TapeS.after_draw (s : TapeS) (k : Nat) (h : k < s.first.length) : (s.after k).draw = s.first[k] := by
  have hf := s.after_first k
  simp only [TapeS.draw]
  split
  · rename_i h'; rw [hf] at h'; simp at h'; omega
  · rename_i x r h'; rw [hf, List.drop_eq_getElem_cons h] at h'; injection h' with h1 h2; exact h1.symm

theorem two_more {w1 w2 : World} {x y : Nat} {s t : TapeS} (h1 : Tape w1 x s [x]) (h2 : Tape w2 y t [y, x]) (hk : Kept (fun _ => False) w1 w2) (hy : w1.heap.size ≤ y) : Tape w2 x s [x, y] ∧ Tape w2 y t [x, y] := by
  refine ⟨(h1.more [x, y] (fun k hk => ?_) (by simp)).kept hk id (fun _ _ h => h.elim), h2.more [x, y] (fun k hk => ?_) (by simp)⟩
  · simp at hk; rcases hk with rfl | rfl
    · simp
    · exact .inr hy
  · simp at hk ⊢; omega

def TwoSame (w : World) (x y i j : Nat) : Prop :=
  ∃ s t : TapeS, Tape w x s [x, y] ∧ Tape w y t [x, y] ∧ s.first = [] ∧ t.first = [] ∧ s.seed = t.seed ∧ s.used = i ∧ t.used = j
theorem two_same {w : World} {x y : Nat} {seed : Int} {l : List Int} (h1 : Tape w x (TapeS.after ⟨seed, l, 0⟩ l.length) [x, y]) (h2 : Tape w y ⟨seed, [], 0⟩ [x, y]) : TwoSame w x y (l.length + 0) 0 :=
  ⟨_, _, h1, h2, by rw [TapeS.after_first]; simp, rfl, TapeS.after_seed _ _ (Nat.le_refl _), by rw [TapeS.after_used]; simp, rfl⟩
theorem same_next {w1 w2 : World} {x y i j : Nat} {s t : TapeS} (hxy : x ≠ y) (hs : s.first = []) (ht : t.first = []) (hst : s.seed = t.seed) (hsk : s.used = i) (htk : t.used = j)
    (h1 : Tape w1 x s.next [x, y]) (h2 : Tape w2 y t.next [x, y]) (k2 : Kept (· = y) w1 w2) : TwoSame w2 x y (i + 1) (j + 1) ∧ s.draw = t.draw := by
  refine ⟨⟨s.next, t.next, h1.kept k2 hxy (fun i _ e => by rw [e]; simp), h2, ?_, ?_, ?_, by rw [TapeS.next_used, hsk], by rw [TapeS.next_used, htk]⟩, ?_⟩
  · simp [TapeS.next, hs]
  · simp [TapeS.next, ht]
  · simp only [TapeS.next, hs, ht, hst]
  · simp only [TapeS.draw, hs, ht, hst]

theorem drawTape_walk (w : World) (seed : Int) (hsd : (Lit.int .u64 seed).wf = true) (a : Option Addr) (len cap : Nat) (zs : List Int) (hrow : IsRow .u64 w a len cap zs) :
    Calls Try.prog 4 #[.int .u64 seed, .slice a len cap] w fun e w' => e = .returned (.bool true) ∧ Kept (fun _ => False) w w' := by
  obtain ⟨l, rfl, hr, hl⟩ := rowU_of_isRow hrow
  have hs := u64_of_wf hsd
  have HR := Lib.hid hr
  have HL := Lib.hid hl
  clear hrow hr hl hsd
  by_cases hlen : 2000 < l.length
  · have hb : decide (2000 < (l.length : Int)) = true := by simp; omega
    clear hlen
    go_enter Try.func4, Try.ntmps4
    go_wp2_with fail
    refine (awake_any _).mono ?_
    rintro e w1 ⟨rfl, hk⟩
    go_wp2_with fail
    go_ret
    exact ⟨rfl, hk⟩
  · have hb : decide (2000 < (l.length : Int)) = false := by simp; omega
    go_enter Try.func4, Try.ntmps4
    go_wp2_with fail
    refine (awake_any _).mono ?_
    rintro e w1 ⟨rfl, hk1⟩
    have K1 := Lib.hid hk1
    clear hk1
    go_wp2_with fail
    have hr1 := HR.out.kept K1.out (fun _ _ _ => id)
    refine (new_any seed a l cap (fun _ => True) [] w1 (by simp) hr1 ⟨hs, HL.out⟩ (by omega)).mono ?_
    rintro e w2 ⟨x, rfl, hx, h1, hk2⟩
    have K2 := Lib.hid hk2
    have T1 := Lib.hid h1
    clear h1 hk2 hr1
    go_wp2_with fail
    refine (new_any seed none [] 0 (fun _ => True) [x] w2 (by simpa using T1.out.lt) (RowU.nil _ _) ⟨hs, by simp⟩ (by decide)).mono ?_
    rintro e w3 ⟨y, rfl, hy, h2, hk3⟩
    have hxl := T1.out.lt
    have TT := Lib.hid (two_more T1.out h2 hk3 hy)
    have KK := Lib.hid ((K1.out.trans K2.out).trans hk3)
    have hwx : w.heap.size ≤ x := by have := K1.out.size; omega
    have hwy : w.heap.size ≤ y := by have := K2.out.size; omega
    have hne : x ≠ y := by omega
    clear h2 hk3 hs hx hy hxl
    go_wp2_with fail
    go_loopw [7] (fun c wr => ∃ k : Nat, k ≤ l.length ∧ c = .int .i64 k ∧ Tape wr x (TapeS.after ⟨seed, l, 0⟩ k) [x, y] ∧ Tape wr y ⟨seed, [], 0⟩ [x, y] ∧ Kept (fun _ => False) w wr) (fun c _ => l.length - (intOf c).toNat)
    case atStart => exact ⟨0, by omega, rfl, TT.out.1, TT.out.2, KK.out⟩
    case round =>
      obtain ⟨k, hk, rfl, h1, h2, hkr⟩ := hrel
      have KR := Lib.hid hkr
      have hL : ∀ i ∈ [x, y], i < wr.heap.size := by have := h1.lt; have := h2.lt; simp; omega
      by_cases hlt : k < l.length
      · have hu : (TapeS.after ⟨seed, l, 0⟩ k).used < 9223372036854775807 := by rw [TapeS.after_used]; simp only; omega
        have hd : (TapeS.after ⟨seed, l, 0⟩ k).draw = l[k] := TapeS.after_draw _ k hlt
        have H1 := Lib.hid h1
        have H2 := Lib.hid h2
        have HD := Lib.hid hd
        have HU := Lib.hid hu
        obtain ⟨b, o, rfl, hbw, hc⟩ : ∃ b o, a = some ⟨b, o, none⟩ ∧ b < w.heap.size ∧ wr.cell? ⟨b, o + k, none⟩ = some (.int .u64 l[k]) := by
          rcases HR.out.2.2 with h | ⟨b, o, e, _, hc⟩
          · simp [h] at hlt
          · have h := hc k hlt
            rw [show l.getD k 0 = l[k] by simp [hlt]] at h
            exact ⟨b, o, e, World.block_lt_of_cell? _ _ h, KR.out.cell h id⟩
        have hbx : ¬ b = x := by omega
        have i0 : (0 : Int) ≤ (k : Int) := Int.natCast_nonneg _
        have i1 : (k : Int) < (l.length : Int) := by omega
        have e1 : (l[k] != l[k]) = false := by simp
        clear h1 h2 hd hu hkr
        go_wp2_with fail
        go_region_held3 (fun w' => w'.cell? ⟨b, o + k, none⟩ = some (.int .u64 l[k])) (first | go_keep | exact kx)
          ((go_at_call 11; refine (next_any x (TapeS.after ⟨seed, l, 0⟩ k) [x, y] _ ?_ ?_ ?_).mono ?_; exact H1.out; exact hL; exact HU.out; rintro e w4 ⟨rfl, ht4, hk4⟩; rw [HD.out]; have kx := hk4.cell hc hbx))
        have T4 := Lib.hid ht4
        have K4 := Lib.hid hk4
        clear ht4 hk4
        go_wp2_with fail
        go_roundw
        case rel => exact ⟨k + 1, by omega, by go_num, T4.out, H2.out.kept K4.out.of_drew (fun e => hne e.symm) (fun i _ e => by rw [e]; simp), KR.out.new K4.out.of_drew hwx⟩
        case measure => simp [intOf]; omega
      · obtain rfl : k = l.length := by omega
        have hp := two_same h1 h2
        have HP := Lib.hid hp
        clear hp h1 h2 hkr
        go_wp2_with fail
        go_loopw [8] (fun c wr => ∃ k : Nat, k ≤ 20 ∧ c = .int .i64 k ∧ TwoSame wr x y (l.length + k) k ∧ Kept (fun _ => False) w wr) (fun c _ => 20 - (intOf c).toNat)
        case atStart => exact ⟨0, by omega, rfl, HP.out, KR.out⟩
        case round =>
          obtain ⟨k, hk, rfl, hT, hkr⟩ := hrel
          have KR2 := Lib.hid hkr
          obtain ⟨s, t, h1, h2, hs1, ht1, hst, hu1, hu2⟩ := hT
          by_cases hlt : k < 20
          · have hL : ∀ i ∈ [x, y], i < wr.heap.size := by have := h1.lt; have := h2.lt; simp; omega
            have N1 := Lib.hid (next_any x s [x, y] wr h1 hL (by omega))
            have FN := Lib.hid (fun (w1 w2 : World) => same_next (w1 := w1) (w2 := w2) hne hs1 ht1 hst hu1 hu2)
            have H2 := Lib.hid h2
            have HK := Lib.hid hu2
            clear h1 h2 hs1 ht1 hst hu1 hu2 hkr
            go_wp2_with fail
            refine N1.out.mono ?_
            rintro e w3 ⟨rfl, h3, hk3⟩
            have K3 := Lib.hid hk3
            have T3 := Lib.hid h3
            have N2 := Lib.hid (next_any y t [x, y] w3 (H2.out.kept hk3 (fun e => hne e.symm) (fun i _ e => by rw [e]; simp)) (fun i hi => hk3.lt (hL i hi)) (by have := HK.out; omega))
            clear h3 hk3
            go_wp2_with fail
            refine N2.out.mono ?_
            rintro e w4 ⟨rfl, h4, hk4⟩
            have F := FN.out w3 w4 T3.out h4 hk4
            have e2 : (s.draw != t.draw) = false := by simpa using F.2
            have FF := Lib.hid F
            have K4 := Lib.hid hk4
            clear F h4 hk4
            go_wp2_with fail
            go_roundw
            case rel => exact ⟨k + 1, by omega, by go_num, FF.out.1, (KR2.out.new K3.out hwx).new K4.out hwy⟩
            case measure => simp [intOf]; omega
          · obtain rfl : k = 20 := by omega
            have U1 := used_any x s [x, y] wr h1
            have U2 := used_any y t [x, y] wr h2
            rw [hu1] at U1
            rw [hu2] at U2
            have V1 := Lib.hid U1
            have V2 := Lib.hid U2
            have e1 : (((l.length + 20 : Nat) : Int) == (l.length : Int) + 20) = true := by simp
            clear U1 U2 h1 h2 hs1 ht1 hst hu1 hu2 hkr
            go_wp2_with fail
            refine V1.out.mono ?_
            rintro e w3 ⟨rfl, rfl⟩
            go_wp2_with fail
            refine V2.out.mono ?_
            rintro e w3 ⟨rfl, rfl⟩
            go_wp2_with fail
            go_ret
            exact ⟨rfl, KR2.out⟩
end Go.Proofs.Ytdjcpnmodjoagaa
