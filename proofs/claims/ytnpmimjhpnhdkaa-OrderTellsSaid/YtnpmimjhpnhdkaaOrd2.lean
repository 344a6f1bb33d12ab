/- slices.SortStableFunc at the rows of package order: insertion. -/
import Derived.Test.YtnpmimjhpnhdkaaOrd
namespace Go.Proofs.Ytnpmimjhpnhdkaa
open Go.RowKit

theorem Tab.set3 {w : World} {g : Nat} {t : TypeId} {l : List Cand} (h : Tab w g t 3 Cand.cells l) {u : Nat} (hu : u < l.length) (c : Cand) :
    Tab (((w.setCell ⟨g, u * 3, none⟩ (.int .i64 c.u)).setCell ⟨g, u * 3 + 1, none⟩ (.bool c.trial)).setCell ⟨g, u * 3 + 2, none⟩ (.int .i64 c.score)) g t 3 Cand.cells (l.set u c) := by
  have h1 := h.set0 u hu (by decide) (.int .i64 c.u) { l[u] with u := c.u } rfl
  have h2 := h1.set u 1 (by simpa using hu) (by decide) (.bool c.trial) { l[u] with u := c.u, trial := c.trial } (by simp only [List.getElem_set_self]; rfl)
  simp only [List.set_set] at h2
  have h3 := h2.set u 2 (by simpa using hu) (by decide) (.int .i64 c.score) c (by simp only [List.getElem_set_self]; rfl)
  simpa only [List.set_set] using h3
theorem set3_kept {w : World} {g : Nat} (u : Nat) (a b c : Value) : Kept (· = g) w (((w.setCell ⟨g, u * 3, none⟩ a).setCell ⟨g, u * 3 + 1, none⟩ b).setCell ⟨g, u * 3 + 2, none⟩ c) := (((Kept.refl _).own _ _).own _ _).own _ _

set_option maxRecDepth 100000 in
set_option maxHeartbeats 2000000 in
theorem isort_any (g n : Nat) (l : List Cand) (cap : Nat) (w : World) (h : Tab w g 72 3 Cand.cells l) (hn : l.length = n) (hn9 : n ≤ 9) (hn1 : 1 ≤ n) (hok : ∀ c ∈ l, c.ok) :
    Calls Try.prog 60 #[.slice (some ⟨g, 0, none⟩) n cap, .int .i64 0, .int .i64 n, .func (.func 38) #[] #[]] w fun e w' => e = .returned (.tuple #[]) ∧ Tab w' g 72 3 Cand.cells (sunk Cand.key l (n - 1)) ∧ Kept (· = g) w w' := by
  have H := Lib.hid h
  have HN := Lib.hid hn
  have HOK := Lib.hid hok
  clear h hn hok
  go_enter Try.func60, Try.ntmps60
  go_wp2_with fail
  go_loopw [8] (fun c wr => ∃ i : Nat, 1 ≤ i ∧ i ≤ n ∧ c = .int .i64 i ∧ Tab wr g 72 3 Cand.cells (sunk Cand.key l (i - 1)) ∧ Kept (· = g) w wr) (fun c _ => n - (intOf c).toNat)
  case atStart => exact ⟨1, by omega, by omega, rfl, H.out, Kept.refl _⟩
  case round =>
    obtain ⟨i, hi1, hin, rfl, ht, hk⟩ := hrel
    have HT := Lib.hid ht
    have HK := Lib.hid hk
    clear ht hk
    by_cases hlt : i < n
    · go_wp2_with fail
      obtain ⟨R, hR⟩ : ∃ R, sunk Cand.key l i = R := ⟨_, rfl⟩
      have hR0 : sink Cand.key i (sunk Cand.key l (i - 1)) = R := by rw [← hR]; obtain ⟨j, rfl⟩ : ∃ j, i = j + 1 := ⟨i - 1, by omega⟩; rfl
      have HR := Lib.hid hR
      have HR0 := Lib.hid hR0
      have hl0 : (sunk Cand.key l (i - 1)).length = n := by rw [sunk_len, HN.out]
      have HL0 := Lib.hid hl0
      have HMEM := Lib.hid (show ∀ c ∈ sunk Cand.key l (i - 1), c.ok from fun c hc => HOK.out c ((show (sunk Cand.key l (i - 1)).Perm l by
        rw [sunk_sort l (i - 1) (by rw [HN.out]; omega)]
        have h1 := (List.reverse_perm _).trans (sortR_perm (key := Cand.key) (l.take (i - 1 + 1)))
        have h2 := h1.append_right (l.drop (i - 1 + 1))
        rwa [List.take_append_drop] at h2).mem_iff.1 hc))
      clear hR hR0 hl0
      obtain ⟨wo, hwo⟩ : ∃ wo : World, wo = wr := ⟨_, rfl⟩
      go_loopw [9] (fun c wi => ∃ (j : Nat) (m : List Cand), j ≤ i ∧ c = .int .i64 j ∧ Tab wi g 72 3 Cand.cells m ∧ m.length = n ∧ (∀ c ∈ m, c.ok) ∧ sink Cand.key j m = R ∧ Kept (· = g) w wi) (fun c _ => (intOf c).toNat)
      case atStart => exact ⟨i, _, by omega, rfl, HT.out, HL0.out, HMEM.out, HR0.out, HK.out⟩
      case round =>
        obtain ⟨j, m, hj, rfl, ht, hml, hmo, hsk, hkw⟩ := hrel
        have HTI := Lib.hid ht
        have HMO := Lib.hid hmo
        have HSK := Lib.hid hsk
        have HKW := Lib.hid hkw
        have HML := Lib.hid hml
        clear ht hmo hsk hkw hml
        by_cases hj0 : j = 0
        · subst hj0
          have hd : decide ((0 : Int) < (0 : Int)) = false := by decide
          have hm : m = R := HSK.out
          have HMR := Lib.hid hm
          clear hm
          rw [show ((0 : Nat) : Int) = 0 from rfl]
          go_wp2_with fail
          go_quiet (fail)
          go_wp2_with fail
          go_roundw
          case rel => exact ⟨i + 1, by omega, by omega, by go_num, by rw [show i + 1 - 1 = i by omega, HR.out, ← HMR.out]; exact HTI.out.kept ((Kept.refl (M := fun _ => False) _).drewN _) id, HKW.out.drewN _⟩
          case measure => simp [intOf]; omega
        · obtain ⟨q, rfl⟩ : ∃ q, j = q + 1 := ⟨j - 1, by omega⟩
          have hjn : q + 1 < m.length := by rw [HML.out]; omega
          have hA0 := HTI.out.cell0 (q + 1) hjn (by decide)
          have hA1 := HTI.out.cell (q + 1) 1 hjn (by decide)
          have hA2 := HTI.out.cell (q + 1) 2 hjn (by decide)
          have hB0 := HTI.out.cell0 q (by omega) (by decide)
          have hB1 := HTI.out.cell q 1 (by omega) (by decide)
          have hB2 := HTI.out.cell q 2 (by omega) (by decide)
          obtain ⟨A, hA⟩ : ∃ A, m[q + 1] = A := ⟨_, rfl⟩
          obtain ⟨B, hB⟩ : ∃ B, m[q]'(by omega) = B := ⟨_, rfl⟩
          have hAo : A.ok := by rw [← hA]; exact HMO.out _ (List.getElem_mem _)
          have hBo : B.ok := by rw [← hB]; exact HMO.out _ (List.getElem_mem _)
          rw [hA] at hA0 hA1 hA2
          rw [hB] at hB0 hB1 hB2
          simp [Cand.cells] at hA0 hA1 hA2 hB0 hB1 hB2
          have hsk : (if A.key < B.key then sink Cand.key q ((m.set (q + 1) B).set q A) else m) = R := by
            have := HSK.out
            simp only [sink] at this
            rwa [List.getD_eq_getElem?_getD, List.getD_eq_getElem?_getD, List.getElem?_eq_getElem hjn, List.getElem?_eq_getElem (show q < m.length by omega), hA, hB] at this
          obtain ⟨r, hr⟩ : ∃ r, A.against B = r := ⟨_, rfl⟩
          have hrk : r < 0 ↔ A.key < B.key := by rw [← hr]; exact against_key hAo hBo
          have HAG := Lib.hid hr
          have HSK2 := Lib.hid hsk
          have HRK := Lib.hid hrk
          have HAO := Lib.hid hAo
          have HBO := Lib.hid hBo
          clear hr hsk hrk hA hB hAo hBo
          have i0 : (0 : Int) ≤ ((q : Int) + 1) := by omega
          have i1 : ((q : Int) + 1) < (n : Int) := by rw [HML.out] at hjn; omega
          have i2 : (0 : Int) ≤ (q : Int) := by omega
          have i3 : (q : Int) < (n : Int) := by omega
          have d0 : decide ((0 : Int) < (q : Int) + 1) = true := decide_eq_true (by omega)
          have e1 : IntKind.i64.wrap ((q : Int) + 1 - 1) = (q : Int) := by rw [IntKind.wrap_i64]; omega
          have e2 : IntKind.i64.wrap (q : Int) = (q : Int) := by rw [IntKind.wrap_i64]; omega
          rw [show ((q + 1 : Nat) : Int) = (q : Int) + 1 from by omega]
          go_wp2_with fail
          go_region_held3 (fun w' => w'.cell? ⟨g, (q + 1) * 3, none⟩ = some (.int .i64 A.u) ∧ w'.cell? ⟨g, (q + 1) * 3 + 1, none⟩ = some (.bool A.trial) ∧ w'.cell? ⟨g, (q + 1) * 3 + 2, none⟩ = some (.int .i64 A.score) ∧ w'.cell? ⟨g, q * 3, none⟩ = some (.int .i64 B.u) ∧ w'.cell? ⟨g, q * 3 + 1, none⟩ = some (.bool B.trial) ∧ w'.cell? ⟨g, q * 3 + 2, none⟩ = some (.int .i64 B.score))
            (first | go_keep | exact ⟨hkc.cell hA0 id, hkc.cell hA1 id, hkc.cell hA2 id, hkc.cell hB0 id, hkc.cell hB1 id, hkc.cell hB2 id⟩)
            ((go_at_call 38; refine (against_any A B r HAG.out _).mono ?_; rintro e wc ⟨rfl, hkc⟩))
          have HTC := Lib.hid (HTI.out.kept hkc.of_drew id)
          have HKC := Lib.hid (HKW.out.trans (hkc.of_drew.any (M := (· = g))))
          by_cases hr0 : r < 0
          · have hd : decide (r < 0) = true := by simpa using hr0
            have hkey := HRK.out.1 hr0
            have hsk := HSK2.out
            rw [if_pos hkey] at hsk
            have HSK3 := Lib.hid hsk
            have b0 := hkc.cell hA0 id
            have b1 := hkc.cell hA1 id
            have b2 := hkc.cell hA2 id
            have b3 := hkc.cell hB0 id
            have b4 := hkc.cell hB1 id
            have b5 := hkc.cell hB2 id
            have v0 := HTC.out.free ((q + 1) * 3)
            have v1 := HTC.out.free ((q + 1) * 3 + 1)
            have v2 := HTC.out.free ((q + 1) * 3 + 2)
            have v3 := HTC.out.free (q * 3)
            have v4 := HTC.out.free (q * 3 + 1)
            have v5 := HTC.out.free (q * 3 + 2)
            have ne00 : (q + 1) * 3 ≠ q * 3 := by omega
            have ne01 : (q + 1) * 3 ≠ q * 3 + 1 := by omega
            have ne02 : (q + 1) * 3 ≠ q * 3 + 2 := by omega
            have ne10 : (q + 1) * 3 + 1 ≠ q * 3 := by omega
            have ne11 : (q + 1) * 3 + 1 ≠ q * 3 + 1 := by omega
            have ne12 : (q + 1) * 3 + 1 ≠ q * 3 + 2 := by omega
            have ne20 : (q + 1) * 3 + 2 ≠ q * 3 := by omega
            have ne21 : (q + 1) * 3 + 2 ≠ q * 3 + 1 := by omega
            have ne22 : (q + 1) * 3 + 2 ≠ q * 3 + 2 := by omega
            clear hA0 hA1 hA2 hB0 hB1 hB2 hkc hr0 hkey hsk
            rw [hd]
            go_wp2_with fail
            go_region
            have T1 := HTC.out.set3 (u := q + 1) (by rw [HML.out]; omega) B
            have T2 := T1.set3 (u := q) (by simp only [List.length_set]; rw [HML.out]; omega) A
            have KS := ((HKC.out.trans (set3_kept (q + 1) (.int .i64 B.u) (.bool B.trial) (.int .i64 B.score))).trans (set3_kept q (.int .i64 A.u) (.bool A.trial) (.int .i64 A.score))).drew
            have T2D := Lib.hid T2.drew
            have KSD := Lib.hid KS
            have HMO2 := Lib.hid (show ∀ c ∈ (m.set (q + 1) B).set q A, c.ok from fun c hc => by
              rcases List.mem_or_eq_of_mem_set hc with hc | rfl
              · rcases List.mem_or_eq_of_mem_set hc with hc | rfl
                · exact HMO.out c hc
                · exact HBO.out
              · exact HAO.out)
            have HMLn := Lib.hid (show ((m.set (q + 1) B).set q A).length = n by simp only [List.length_set]; exact HML.out)
            clear T1 T2 KS b0 b1 b2 b3 b4 b5 v0 v1 v2 v3 v4 v5
            go_wp2_with fail
            go_roundw
            case rel => exact ⟨q, _, by omega, rfl, T2D.out, HMLn.out, HMO2.out, HSK3.out, KSD.out⟩
            case measure => simp [intOf]
          · have hd : decide (r < 0) = false := by simpa using hr0
            have hkey : ¬ A.key < B.key := fun h => hr0 (HRK.out.2 h)
            have hmr : m = R := by have := HSK2.out; rwa [if_neg hkey] at this
            have HMR := Lib.hid hmr
            clear hA0 hA1 hA2 hB0 hB1 hB2 hkc hr0 hkey hmr
            rw [hd]
            go_wp2_with fail
            go_roundw
            case rel => exact ⟨i + 1, by omega, by omega, by go_num, by rw [show i + 1 - 1 = i by omega, HR.out, ← HMR.out]; exact HTC.out, HKC.out⟩
            case measure => simp [intOf]; omega
    · obtain rfl : i = n := by omega
      go_wp2_with fail
      go_end0
      exact ⟨rfl, HT.out, HK.out⟩
end Go.Proofs.Ytnpmimjhpnhdkaa
