/- Package repute, walked: Due. -/
import Derived.Test.YtcdoefpfgkhokaaRep8
namespace Go.Proofs.Ytcdoefpfgkhokaa
open Go.RowKit

def minL : List Int → Int
  | [] => 0
  | x :: r => r.foldl (fun m y => if y < m then y else m) x
theorem minL_take (l : List Int) (k : Nat) (h0 : 0 < k) (h : k < l.length) : minL (l.take (k + 1)) = if l[k] < minL (l.take k) then l[k] else minL (l.take k) := by
  cases l with
  | nil => simp at h
  | cons x r =>
    obtain ⟨j, rfl⟩ : ∃ j, k = j + 1 := ⟨k - 1, by omega⟩
    simp only [List.take_succ_cons, minL, List.getElem_cons_succ]
    rw [List.take_succ_eq_append_getElem (by simpa using h), List.foldl_append]; rfl

theorem min_any (ao : Option Addr) (l : List Int) (cap : Nat) (P : Nat → Prop) (h0 : 0 < l.length) (hn : l.length ≤ 1000) (w : World) (hc : Cells w ao (l.map (.int .i64)) P) :
    Calls Try.prog 31 #[.slice ao l.length cap] w fun e w' => e = .returned (.int .i64 (minL l)) ∧ w = w' := by
  rcases hc with hc | ⟨a, off, rfl, -, hc⟩
  · simp at hc; subst hc; simp at h0
  have hc1 : ∀ i (h : i < l.length), w.cell? ⟨a, off + i, none⟩ = some (.int .i64 l[i]) := fun i h => by rw [hc i (by simpa using h)]; simp [h]
  have d0 : decide ((l.length : Int) < 1) = false := by simp; omega
  have c0 := hc1 0 h0
  rw [Nat.add_zero] at c0
  have HC := Lib.hid hc1
  have hml : minL (l.take 1) = l[0] := by cases l with
    | nil => simp at h0
    | cons x r => rfl
  have HML := Lib.hid hml
  clear hml hc hc1
  go_enter Try.func31, Try.ntmps31
  go_wp2_with fail
  go_loopw [3, 4] (fun m c wr => ∃ k : Nat, 1 ≤ k ∧ k ≤ l.length ∧ c = .int .i64 k ∧ m = .int .i64 (minL (l.take k)) ∧ wr = w) (fun _ c _ => l.length - (intOf c).toNat)
  case atStart => exact ⟨1, by omega, by omega, rfl, by rw [HML.out], rfl⟩
  case round =>
    obtain ⟨k, hk1, hk, rfl, rfl, rfl⟩ := hrel
    by_cases hlt : k < l.length
    · have ck := HC.out k hlt
      obtain ⟨m', hm⟩ : ∃ m', minL (l.take (k + 1)) = m' := ⟨_, rfl⟩
      have hm2 := hm
      rw [minL_take l k (by omega) hlt] at hm2
      obtain ⟨x, hx⟩ : ∃ x, l[k] = x := ⟨_, rfl⟩
      obtain ⟨m0, hm0⟩ : ∃ m0, minL (l.take k) = m0 := ⟨_, rfl⟩
      rw [hx] at hm2 ck
      rw [hm0] at hm2 ⊢
      have HM := Lib.hid hm
      clear hm hx hm0 c0
      go_wp2_with fail
      go_roundw
      case rel => exact ⟨k + 1, by omega, by omega, by go_num, by rw [HM.out], trivial⟩
      case measure => simp [intOf]; omega
    · obtain rfl : k = l.length := by omega
      go_wp2_with fail
      go_ret
      exact ⟨by first | rfl | (rw [List.take_length]; rfl), rfl⟩

theorem due_nil (w : World) : Calls Try.prog 19 #[.pointer none] w fun e w' => e = .returned (.tuple #[.int .i64 0, .bool false]) ∧ w = w' := by
  go_enter Try.func19, Try.ntmps19
  go_wp2_with fail
  go_ret2
  exact ⟨rfl, rfl⟩

def duesL (l : List One) : List Int := (l.filter (·.rests)).map (·.till)
theorem dues_take (l : List One) (k : Nat) (h : k < l.length) : duesL (l.take (k + 1)) = duesL (l.take k) ++ if (l[k]).rests then [(l[k]).till] else [] := by
  unfold duesL
  rw [List.take_succ_eq_append_getElem h, List.filter_append, List.map_append]
  cases hr : (l[k]).rests <;> simp [hr]
theorem dues_len (l : List One) : (duesL l).length ≤ l.length := by unfold duesL; simp; exact List.length_filter_le _ _

theorem due_any (b g : Nat) (s : BookS) (hn : s.l.length ≤ 1000) (w : World) (h : Book w b g s) :
    Calls Try.prog 19 #[.pointer (some ⟨b, 0, none⟩)] w fun e w' => e = .returned (.tuple #[.int .i64 (minL (duesL s.l)), .bool (decide (duesL s.l ≠ []))]) ∧ Kept (fun _ => False) w w' := by
  have c2 := h.c2
  have H := Lib.hid h
  clear h
  go_enter Try.func19, Try.ntmps19
  go_wp2_with fail
  go_loopw [4, 14] (fun v c wr => ∃ k : Nat, k ≤ s.l.length ∧ c = .int .i64 k ∧ OwnsL wr w.heap.size v (duesL (s.l.take k)) ∧ Kept (fun _ => False) w wr) (fun _ c _ => s.l.length - (intOf c).toNat)
  case atStart => exact ⟨0, by omega, rfl, World.ownsRow_nil _ _ _ _, Kept.refl _⟩
  case round =>
    obtain ⟨k, hk, rfl, hown, hkr⟩ := hrel
    have KR := Lib.hid hkr
    have HO := Lib.hid hown
    clear hkr hown
    by_cases hlt : k < s.l.length
    · obtain ⟨x0, x1, x2, x3, x4, x5, x6⟩ := (H.out.look KR.out).at hlt
      have hm := dues_take s.l k hlt
      have hg := (H.out.look KR.out).ltg
      have hgn : g ≠ wr.heap.size := by omega
      have hpl : (duesL (s.l.take k)).length ≤ k := by have := dues_len (s.l.take k); simp at this; omega
      have hsz := KR.out.size
      obtain ⟨x, hx⟩ : ∃ x, x = s.l[k] := ⟨_, rfl⟩
      rw [← hx] at x0 x1 x2 x3 x4 x5 x6 hm
      have HM := Lib.hid hm
      clear hx hm
      cases hr : x.rests with
      | false =>
        rw [hr] at x4
        have HR := Lib.hid hr
        clear hr
        go_wp2_with fail
        go_roundw
        case rel => exact ⟨k + 1, by omega, by go_num, by rw [HM.out, HR.out]; simpa using HO.out.look ((Kept.refl _).alloc _), KR.out.alloc _⟩
        case measure => simp [intOf]; omega
      | true =>
        rw [hr] at x4
        have HR := Lib.hid hr
        clear hr
        have HO2 := Lib.hid (HO.out.look ((Kept.refl (M := fun _ => False) wr).alloc (.cells #[.int .i64 x.score, .int .i64 x.agree, .int .i64 x.dissent, .int .i64 x.silent, .bool true, .int .i64 x.till, .bool x.trial] 62)))
        go_wp2_with (at_builtin; go_must (refine wpList_pushL rfl (.tmp 20) (.tmp 23) rfl w.heap.size _ (duesL (s.l.take k)) x.till rfl HO2.out _ rfl (by simp) (by omega) (by simp; omega) ?_); intro v' w' ho' hg' hv')
        have HO3 := Lib.hid ho'
        have HG3 := Lib.hid (hg'.1 _ _ (KR.out.alloc _) (Nat.le_refl _))
        clear ho' hg' hv'
        go_wp2_with fail
        go_roundw
        case rel => exact ⟨k + 1, by omega, by go_num, by rw [HM.out, HR.out]; exact HO3.out, HG3.out⟩
        case measure => simp [intOf]; omega
    · obtain rfl : k = s.l.length := by omega
      rw [List.take_length] at HO
      obtain ⟨ao, cap, rfl⟩ := HO.out.slice
      have hdl := dues_len s.l
      by_cases h0 : (duesL s.l).length = 0
      · have e0 : (((duesL s.l).length : Int) == 0) = true := by simpa using h0
        have HE := Lib.hid (List.eq_nil_of_length_eq_zero h0)
        clear h0
        go_wp2_with fail
        go_ret2
        exact ⟨by rw [HE.out]; rfl, KR.out⟩
      · have e0 : (((duesL s.l).length : Int) == 0) = false := by simp; intro e; rw [e] at h0; simp at h0
        have HE := Lib.hid (show decide (duesL s.l ≠ []) = true by simp; intro e; rw [e] at h0; simp at h0)
        go_wp2_with fail
        refine (min_any ao (duesL s.l) cap _ (by omega) (by omega) _ HO.out.cells.2).mono ?_
        rintro e w' ⟨rfl, rfl⟩
        go_wp2_with fail
        go_ret2
        exact ⟨by rw [HE.out]; rfl, KR.out⟩
end Go.Proofs.Ytcdoefpfgkhokaa
