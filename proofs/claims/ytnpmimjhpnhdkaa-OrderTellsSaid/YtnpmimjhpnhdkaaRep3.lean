/- Package repute, walked: May, Len, spare, Due, Copy. -/
import Derived.Test.YtnpmimjhpnhdkaaRep2
import Derived.Test.YtnpmimjhpnhdkaaOwnI
namespace Go.Proofs.Ytnpmimjhpnhdkaa
open Go.RowKit

set_option maxRecDepth 100000 in
theorem len_any (b g : Nat) (s : BookS) (w : World) (h : Book w b g s) : Calls Try.prog 27 #[.pointer (some ⟨b, 0, none⟩)] w fun e w' => e = .returned (.int .i64 s.l.length) ∧ w = w' := by
  have c2 := h.c2
  clear h
  go_enter Try.func27, Try.ntmps27
  go_wp2_with fail
  go_ret
  exact ⟨rfl, rfl⟩
set_option maxRecDepth 100000 in
theorem len_nil (w : World) : Calls Try.prog 27 #[.pointer none] w fun e w' => e = .returned (.int .i64 0) ∧ w = w' := by
  go_enter Try.func27, Try.ntmps27
  go_wp2_with fail
  go_ret
  exact ⟨rfl, rfl⟩
set_option maxRecDepth 100000 in
theorem may_nil (w : World) : Calls Try.prog 11 #[.pointer none] w fun e w' => e = .returned (.slice none 0 0) ∧ w = w' := by
  go_enter Try.func11, Try.ntmps11
  go_wp2_with fail
  go_ret
  exact ⟨rfl, rfl⟩

set_option maxRecDepth 100000 in
theorem may_any (b g : Nat) (s : BookS) (hn : s.l.length ≤ 1000) (w : World) (h : Book w b g s) :
    Calls Try.prog 11 #[.pointer (some ⟨b, 0, none⟩)] w fun e w' => ∃ v, e = .returned v ∧ OwnsI w' w.heap.size v (mayL s.l) ∧ Kept (fun _ => False) w w' := by
  have c2 := h.c2
  have H := Lib.hid h
  clear h
  go_enter Try.func11, Try.ntmps11
  go_wp2_with fail
  go_loopw [3, 13] (fun v c wr => ∃ k : Nat, k ≤ s.l.length ∧ c = .int .i64 k ∧ OwnsI wr w.heap.size v (mayL (s.l.take k)) ∧ Kept (fun _ => False) w wr) (fun _ c _ => s.l.length - (intOf c).toNat)
  case atStart => exact ⟨0, by omega, rfl, World.ownsRow_nil _ _ _ _, Kept.refl _⟩
  case round =>
    obtain ⟨k, hk, rfl, hown, hkr⟩ := hrel
    have KR := Lib.hid hkr
    have HO := Lib.hid hown
    clear hkr hown
    by_cases hlt : k < s.l.length
    · obtain ⟨x0, x1, x2, x3, x4, x5, x6⟩ := (H.out.look KR.out).at hlt
      have hm := may_take s.l k hlt
      have hg := (H.out.look KR.out).ltg
      have hgn : g ≠ wr.heap.size := by omega
      have hpl : (mayL (s.l.take k)).length ≤ k := by have := may_len (s.l.take k); simp at this; omega
      have hsz := KR.out.size
      obtain ⟨x, hx⟩ : ∃ x, x = s.l[k] := ⟨_, rfl⟩
      rw [← hx] at x0 x1 x2 x3 x4 x5 x6 hm
      have HM := Lib.hid hm
      clear hx hm
      cases hr : x.rests with
      | true =>
        rw [hr] at x4
        have HR := Lib.hid hr
        clear hr
        go_wp2_with fail
        go_roundw
        case rel => exact ⟨k + 1, by omega, by go_num, by rw [HM.out, HR.out]; simp only [if_true, List.append_nil]; exact HO.out.look ((Kept.refl _).alloc _), KR.out.alloc _⟩
        case measure => simp [intOf]; omega
      | false =>
        rw [hr] at x4
        have HR := Lib.hid hr
        clear hr
        have HO2 := Lib.hid (HO.out.look ((Kept.refl (M := fun _ => False) wr).alloc (.cells #[.int .i64 x.score, .int .i64 x.agree, .int .i64 x.dissent, .int .i64 x.silent, .bool false, .int .i64 x.till, .bool x.trial] 69)))
        go_wp2_with (at_builtin; go_must (refine wpList_pushI rfl (.tmp 21) (.tmp 23) rfl w.heap.size _ (mayL (s.l.take k)) k rfl HO2.out _ rfl (by simp) (by omega) (by simp; omega) ?_); intro v' w' ho' hg' hv')
        have HO3 := Lib.hid ho'
        have HG3 := Lib.hid (hg'.1 _ _ (KR.out.alloc _) (Nat.le_refl _))
        clear ho' hg' hv'
        go_wp2_with fail
        go_roundw
        case rel => exact ⟨k + 1, by omega, by go_num, by rw [HM.out, HR.out]; exact HO3.out, HG3.out⟩
        case measure => simp [intOf]; omega
    · obtain rfl : k = s.l.length := by omega
      rw [List.take_length] at HO
      go_wp2_with fail
      go_ret
      exact ⟨_, rfl, HO.out, KR.out⟩
end Go.Proofs.Ytnpmimjhpnhdkaa
