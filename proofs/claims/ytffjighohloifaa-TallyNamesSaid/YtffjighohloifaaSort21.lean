/- slices.Sort at rows of int, of 1 to 9 numbers: insertion. -/
import Derived.Test.YtffjighohloifaaSortPlain
import Derived.Test.YtffjighohloifaaOwnI
namespace Go.Proofs.Ytffjighohloifaa
open Go.RowKit

/-- Block g holds these numbers, and whatever spare places behind them. -/
def IRow (w : World) (g : Nat) (l : List Int) : Prop := ∃ tail, Blk w g 3 (l.map (Value.int .i64) ++ tail)
section
variable {w w' : World} {g : Nat} {l : List Int} {M : Nat → Prop}
theorem IRow.cell (h : IRow w g l) {i : Nat} (hi : i < l.length) : w.cell? ⟨g, i, none⟩ = some (.int .i64 l[i]) := by
  obtain ⟨tail, h⟩ := h
  rw [h.cell, List.getElem?_append_left (by simpa using hi)]; simp [hi]
theorem IRow.free (h : IRow w g l) (i : Nat) : w.frozen? ⟨g, i, none⟩ = false := by obtain ⟨_, h⟩ := h; exact h.free i
theorem IRow.lt (h : IRow w g l) : g < w.heap.size := by obtain ⟨_, h⟩ := h; exact h.lt
theorem IRow.kept (h : IRow w g l) (k : Kept M w w') (hm : ¬ M g) : IRow w' g l := by obtain ⟨tail, h⟩ := h; exact ⟨tail, h.kept k hm⟩
theorem IRow.set (h : IRow w g l) {i : Nat} (hi : i < l.length) (x : Int) : IRow (w.setCell ⟨g, i, none⟩ (.int .i64 x)) g (l.set i x) := by
  obtain ⟨tail, h⟩ := h
  refine ⟨tail, ?_⟩
  have := h.set i (.int .i64 x)
  rw [List.set_append_left _ _ (by simpa using hi)] at this
  rw [List.map_set]; exact this
theorem IRow.of_own {base n cap : Nat} {ao : Option Addr} (h : OwnsI w base (.slice ao n cap) l) (hn : 0 < n) : ∃ g, ao = some ⟨g, 0, none⟩ ∧ base ≤ g ∧ n = l.length ∧ IRow w g l := by
  rcases h.2 with ⟨h1, h2⟩ | ⟨g, c, cur, hv, hb, hg, _, hc, hs, ht⟩
  · simp at h1; omega
  · simp at hv
    obtain ⟨rfl, hn', rfl⟩ := hv
    refine ⟨g, rfl, hb, hn', cur.toList.drop l.length, ?_⟩
    unfold Blk
    rw [← ht, Nat.mul_one, List.take_append_drop]
    simpa using hg
theorem IRow.cells (h : IRow w g l) {P : Nat → Prop} (hp : P g) : Cells w (some ⟨g, 0, none⟩) (l.map (.int .i64)) P :=
  .inr ⟨g, 0, rfl, hp, fun i hi => by rw [Nat.zero_add, h.cell (by simpa using hi)]; simp at hi; simp [hi]⟩
end
def keyI (n : Int) : Int := n
set_option maxRecDepth 100000 in
theorem less_any (a b : Int) (r : Bool) (hr : decide (a < b) = r) (w : World) : Calls Try.prog 90 #[.int .i64 a, .int .i64 b] w fun e w' => e = .returned (.bool r) ∧ w = w' := by
  have HR := Lib.hid hr
  have e1 : (a != a) = false := by simp
  have e2 : (b != b) = false := by simp
  have hN : ∀ (x : Int) (w : World), Calls Try.prog 106 #[.int .i64 x] w fun e w' => e = .returned (.bool false) ∧ w = w' := by
    intro x w
    have e : (x != x) = false := by simp
    go_enter Try.func106, Try.ntmps106
    go_wp2_with fail
    go_ret
    exact ⟨rfl, rfl⟩
  have HN := Lib.hid hN
  clear hr hN
  go_enter Try.func90, Try.ntmps90
  go_wp2_with fail
  refine (HN.out a w).mono ?_
  rintro e w' ⟨rfl, rfl⟩
  go_wp2_with fail
  go_ret
  rw [← HR.out]
  exact ⟨rfl, rfl⟩
set_option maxRecDepth 100000 in
set_option maxHeartbeats 2000000 in
theorem isortI_any (g n : Nat) (l : List Int) (cap : Nat) (w : World) (h : IRow w g l) (hn : l.length = n) (hn9 : n ≤ 9) (hn1 : 1 ≤ n) :
    Calls Try.prog 84 #[.slice (some ⟨g, 0, none⟩) n cap, .int .i64 0, .int .i64 n] w fun e w' => e = .returned (.tuple #[]) ∧ IRow w' g (sunk keyI l (n - 1)) ∧ Kept (· = g) w w' := by
  have H := Lib.hid h
  have HN := Lib.hid hn
  clear h hn
  go_enter Try.func84, Try.ntmps84
  go_wp2_with fail
  go_loopw [6] (fun c wr => ∃ i : Nat, 1 ≤ i ∧ i ≤ n ∧ c = .int .i64 i ∧ IRow wr g (sunk keyI l (i - 1)) ∧ Kept (· = g) w wr) (fun c _ => n - (intOf c).toNat)
  case atStart => exact ⟨1, by omega, by omega, rfl, H.out, Kept.refl _⟩
  case round =>
    obtain ⟨i, hi1, hin, rfl, ht, hk⟩ := hrel
    have HT := Lib.hid ht
    have HK := Lib.hid hk
    clear ht hk
    by_cases hlt : i < n
    · go_wp2_with fail
      obtain ⟨R, hR⟩ : ∃ R, sunk keyI l i = R := ⟨_, rfl⟩
      have hR0 : sink keyI i (sunk keyI l (i - 1)) = R := by rw [← hR]; obtain ⟨j, rfl⟩ : ∃ j, i = j + 1 := ⟨i - 1, by omega⟩; rfl
      have HR := Lib.hid hR
      have HR0 := Lib.hid hR0
      have hl0 : (sunk keyI l (i - 1)).length = n := by rw [sunk_len, HN.out]
      have HL0 := Lib.hid hl0
      clear hR hR0 hl0
      obtain ⟨wo, hwo⟩ : ∃ wo : World, wo = wr := ⟨_, rfl⟩
      go_loopw [7] (fun c wi => ∃ (j : Nat) (m : List Int), j ≤ i ∧ c = .int .i64 j ∧ IRow wi g m ∧ m.length = n ∧ sink keyI j m = R ∧ Kept (· = g) w wi) (fun c _ => (intOf c).toNat)
      case atStart => exact ⟨i, _, by omega, rfl, HT.out, HL0.out, HR0.out, HK.out⟩
      case round =>
        obtain ⟨j, m, hj, rfl, ht, hml, hsk, hkw⟩ := hrel
        have HTI := Lib.hid ht
        have HSK := Lib.hid hsk
        have HKW := Lib.hid hkw
        have HML := Lib.hid hml
        clear ht hsk hkw hml
        by_cases hj0 : j = 0
        · subst hj0
          have hd : decide ((0 : Int) < (0 : Int)) = false := by decide
          have hm : m = R := HSK.out
          have HMR := Lib.hid hm
          clear hm
          rw [show ((0 : Nat) : Int) = 0 from rfl]
          go_wp2_with fail
          go_quiet (fail)
          go_wp2_with fail
          go_roundw
          case rel => exact ⟨i + 1, by omega, by omega, by go_num, by rw [show i + 1 - 1 = i by omega, HR.out, ← HMR.out]; exact HTI.out.kept ((Kept.refl (M := fun _ => False) _).drewN _) id, HKW.out.drewN _⟩
          case measure => simp [intOf]; omega
        · obtain ⟨q, rfl⟩ : ∃ q, j = q + 1 := ⟨j - 1, by omega⟩
          have hjn : q + 1 < m.length := by rw [HML.out]; omega
          have hA0 := HTI.out.cell hjn
          have hB0 := HTI.out.cell (show q < m.length by omega)
          obtain ⟨A, hA⟩ : ∃ A, m[q + 1] = A := ⟨_, rfl⟩
          obtain ⟨B, hB⟩ : ∃ B, m[q]'(by omega) = B := ⟨_, rfl⟩
          rw [hA] at hA0
          rw [hB] at hB0
          have hsk : (if A < B then sink keyI q ((m.set (q + 1) B).set q A) else m) = R := by
            have := HSK.out
            simp only [sink] at this
            rwa [List.getD_eq_getElem?_getD, List.getD_eq_getElem?_getD, List.getElem?_eq_getElem hjn, List.getElem?_eq_getElem (show q < m.length by omega), hA, hB] at this
          have HSK2 := Lib.hid hsk
          clear hsk hA hB
          have i0 : (0 : Int) ≤ ((q : Int) + 1) := by omega
          have i1 : ((q : Int) + 1) < (n : Int) := by rw [HML.out] at hjn; omega
          have i2 : (0 : Int) ≤ (q : Int) := by omega
          have i3 : (q : Int) < (n : Int) := by omega
          have d0 : decide ((0 : Int) < (q : Int) + 1) = true := decide_eq_true (by omega)
          have e1 : IntKind.i64.wrap ((q : Int) + 1 - 1) = (q : Int) := by rw [IntKind.wrap_i64]; omega
          have e2 : IntKind.i64.wrap (q : Int) = (q : Int) := by rw [IntKind.wrap_i64]; omega
          rw [show ((q + 1 : Nat) : Int) = (q : Int) + 1 from by omega]
          obtain ⟨r, hr⟩ : ∃ r, decide (A < B) = r := ⟨_, rfl⟩
          have HRR := Lib.hid hr
          clear hr
          go_wp2_with fail
          go_region_held3 (fun w' => w'.cell? ⟨g, q + 1, none⟩ = some (.int .i64 A) ∧ w'.cell? ⟨g, q, none⟩ = some (.int .i64 B))
            (go_keep)
            ((go_at_call 90; refine (less_any A B r HRR.out _).mono ?_; rintro e wc ⟨rfl, rfl⟩))
          have HTC := Lib.hid (HTI.out.kept ((Kept.refl (M := fun _ => False) wr).drew) id)
          have HKC := Lib.hid (HKW.out.drew)
          by_cases hr0 : A < B
          · have hd : r = true := by rw [← HRR.out]; simpa using hr0
            have hsk := HSK2.out
            rw [if_pos hr0] at hsk
            have HSK3 := Lib.hid hsk
            have v0 := HTC.out.free (q + 1)
            have v1 := HTC.out.free q
            have hA1 : wr.drew.cell? ⟨g, q + 1, none⟩ = some (.int .i64 A) := hA0
            have hB1 : wr.drew.cell? ⟨g, q, none⟩ = some (.int .i64 B) := hB0
            have ne00 : q + 1 ≠ q := by omega
            subst hd
            obtain ⟨wd, hwd⟩ : ∃ wd, wr.drew = wd := ⟨_, rfl⟩
            rw [hwd] at HTC HKC hA1 hB1 v0 v1 ⊢
            clear hr0 hsk hA0 hB0 hwd
            go_wp2_with fail
            go_region
            have T1 := HTC.out.set (i := q + 1) (by rw [HML.out]; omega) B
            have T2 := T1.set (i := q) (by simp only [List.length_set]; rw [HML.out]; omega) A
            have KS := (((HKC.out.own (q + 1) (.int .i64 B)).own q (.int .i64 A))).drew
            have T2D := Lib.hid (T2.kept ((Kept.refl (M := fun _ => False) _).drew) id)
            have KSD := Lib.hid KS
            have HMLn := Lib.hid (show ((m.set (q + 1) B).set q A).length = n by simp only [List.length_set]; exact HML.out)
            clear T1 T2 KS hA1 hB1 v0 v1
            go_wp2_with fail
            go_roundw
            case rel => exact ⟨q, _, by omega, rfl, T2D.out, HMLn.out, HSK3.out, KSD.out⟩
            case measure => simp [intOf]
          · have hd : r = false := by rw [← HRR.out]; simpa using hr0
            have hmr : m = R := by have := HSK2.out; rwa [if_neg hr0] at this
            have HMR := Lib.hid hmr
            subst hd
            clear hA0 hB0 hr0 hmr
            go_wp2_with fail
            go_roundw
            case rel => exact ⟨i + 1, by omega, by omega, by go_num, by rw [show i + 1 - 1 = i by omega, HR.out, ← HMR.out]; exact HTC.out, HKC.out⟩
            case measure => simp [intOf]; omega
    · obtain rfl : i = n := by omega
      go_wp2_with fail
      go_end0
      exact ⟨rfl, HT.out, HK.out⟩
end Go.Proofs.Ytffjighohloifaa
