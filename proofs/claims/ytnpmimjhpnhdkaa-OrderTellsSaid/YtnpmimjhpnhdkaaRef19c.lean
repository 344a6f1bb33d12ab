/- Package hustingsref19, walked: May, Back. -/
import Derived.Test.YtnpmimjhpnhdkaaRef19b
namespace Go.Proofs.Ytnpmimjhpnhdkaa
open Go.RowKit

set_option maxRecDepth 100000 in
theorem rmay_any (b g : Nat) (s : BookS) (hn : s.l.length ≤ 1000) (w : World) (h : RBook w b g s) :
    Calls Try.prog 44 #[.pointer (some ⟨b, 0, none⟩)] w fun e w' => ∃ v, e = .returned v ∧ OwnsI w' w.heap.size v (mayL s.l) ∧ Kept (fun _ => False) w w' := by
  have c2 := h.c2
  have H := Lib.hid h
  clear h
  go_enter Try.func44, Try.ntmps44
  go_wp2_with fail
  go_loopw [3, 4] (fun v c wr => ∃ k : Nat, k ≤ s.l.length ∧ c = .int .i64 k ∧ OwnsI wr w.heap.size v (mayL (s.l.take k)) ∧ Kept (fun _ => False) w wr) (fun _ c _ => s.l.length - (intOf c).toNat)
  case atStart => exact ⟨0, by omega, rfl, World.ownsRow_nil _ _ _ _, Kept.refl _⟩
  case round =>
    obtain ⟨k, hk, rfl, hown, hkr⟩ := hrel
    have KR := Lib.hid hkr
    have HO := Lib.hid hown
    clear hkr hown
    have y2 := (H.out.look KR.out).c2
    by_cases hlt : k < s.l.length
    · obtain ⟨x0, x1, x2, x3, x4, x5, x6⟩ := (H.out.look KR.out).at hlt
      have hm := may_take s.l k hlt
      have hg := (H.out.look KR.out).ltg
      have hgn : g ≠ wr.heap.size := by omega
      have hpl : (mayL (s.l.take k)).length ≤ k := by have := may_len (s.l.take k); simp at this; omega
      have hsz := KR.out.size
      obtain ⟨x, hx⟩ : ∃ x, x = s.l[k] := ⟨_, rfl⟩
      rw [← hx] at x0 x1 x2 x3 x4 x5 x6 hm
      have HM := Lib.hid hm
      clear hx hm
      cases hr : x.rests with
      | true =>
        rw [hr] at x4
        have HR := Lib.hid hr
        clear hr
        go_wp2_with fail
        go_roundw
        case rel => exact ⟨k + 1, by omega, by go_num, by rw [HM.out, HR.out]; simp only [if_true, List.append_nil]; exact HO.out, KR.out⟩
        case measure => simp [intOf]; omega
      | false =>
        rw [hr] at x4
        have HR := Lib.hid hr
        clear hr
        have HO2 := HO
        go_wp2_with (at_builtin; go_must (refine wpList_pushI rfl (.tmp 23) (.tmp 25) rfl w.heap.size _ (mayL (s.l.take k)) k rfl HO2.out _ rfl rfl (by omega) (by omega) ?_); intro v' w' ho' hg' hv')
        have HO3 := Lib.hid ho'
        have HG3 := Lib.hid (hg'.1 _ _ KR.out (Nat.le_refl _))
        clear ho' hg' hv'
        go_wp2_with fail
        go_roundw
        case rel => exact ⟨k + 1, by omega, by go_num, by rw [HM.out, HR.out]; exact HO3.out, HG3.out⟩
        case measure => simp [intOf]; omega
    · obtain rfl : k = s.l.length := by omega
      rw [List.take_length] at HO
      go_wp2_with fail
      go_ret
      exact ⟨_, rfl, HO.out, KR.out⟩
set_option maxRecDepth 100000 in
set_option maxHeartbeats 2000000 in
theorem rback_any (b g : Nat) (s : BookS) (now : Int) (w : World) (h : RBook w b g s) (hok : s.ok) :
    Calls Try.prog 36 #[.pointer (some ⟨b, 0, none⟩), .int .i64 now] w fun e w' => ∃ v, e = .returned v ∧ OwnsI w' w.heap.size v (s.backL now) ∧ RBook w' b g (s.back now) ∧ Kept (· = g) w w' := by
  have c2 := h.c2
  have hlen := hok.2.2.2.2.1
  have hgw := h.ltg
  have hbw := h.ltb
  have H := Lib.hid h
  have HOK := Lib.hid hok
  clear h hok
  go_enter Try.func36, Try.ntmps36
  go_wp2_with fail
  go_loopw [5, 6] (fun v c wr => ∃ k : Nat, k ≤ s.l.length ∧ c = .int .i64 k ∧ OwnsI wr w.heap.size v (backFrom now 0 (s.l.take k)) ∧ RBook wr b g (s.backed now k) ∧ Kept (· = g) w wr) (fun _ c _ => s.l.length - (intOf c).toNat)
  case atStart => exact ⟨0, by omega, rfl, World.ownsRow_nil _ _ _ _, by rw [backed_zero]; exact H.out, Kept.refl _⟩
  case round =>
    obtain ⟨k, hk, rfl, hown, hb, hkr⟩ := hrel
    have KR := Lib.hid hkr
    have HO := Lib.hid hown
    have HB := Lib.hid hb
    have hsz := hkr.size
    clear hkr hown H
    by_cases hlt : k < s.l.length
    · have hkl : k < (s.backed now k).l.length := by rw [backed_length]; exact hlt
      obtain ⟨x0, x1, x2, x3, x4, x5, x6⟩ := hb.at hkl
      rw [backed_at s now k hlt hkl] at x0 x4 x5 x6
      have y2 := hb.c2
      have y0 := hb.c0
      rw [backed_length] at y2
      have hbg := hb.2.2
      have hfr := fun o => hb.2.1.free o
      have hpl : (backFrom now 0 (s.l.take k)).length ≤ k := by have := backFrom_len now 0 (s.l.take k); simp at this; omega
      have hbt := back_take now s.l k hlt
      have hsucc := backed_succ s now k hlt
      have hxo := BookS.ok_at HOK.out hlt
      have y0' : wr.cell? ⟨b, 0, none⟩ = some (.int .i64 s.limit) := y0
      clear y0
      obtain ⟨x, hx⟩ : ∃ x, x = s.l[k] := ⟨_, rfl⟩
      have HXX := Lib.hid hx
      rw [← hx] at x0 x4 x5 x6 hbt hsucc hxo
      have HBT := Lib.hid hbt
      have HSU := Lib.hid hsucc
      have HXO := Lib.hid hxo
      have f4 := hfr (k * 7 + 4)
      have f5 := hfr (k * 7 + 5)
      have f0 := hfr (k * 7)
      have f6 := hfr (k * 7 + 6)
      clear hx hbt hsucc hxo hb x1 x2 x3 hfr
      by_cases hbk : x.backs now = true
      · have hr : x.rests = true ∧ x.till ≤ now := by simpa [One.backs] using hbk
        rw [hr.1] at x4
        have htn := hr.2
        have dt : decide (x.till ≤ now) = true := by simpa using htn
        have HXB := Lib.hid (show ({ x with rests := false, till := 0, score := s.limit, trial := true } : One).looks s.limit = x.back s.limit now by
          unfold One.back
          rw [if_pos hbk]
          unfold One.looks One.change
          have h1 := HOK.out.1
          have h2 := HOK.out.2.1
          simp only [One.mk.injEq, true_and]
          exact ⟨by omega, by rw [show max 0 (min 100 (s.limit + 0)) = s.limit by omega]⟩)
        have HBK := Lib.hid hbk
        have hxz : ({ x with rests := false, till := 0, score := s.limit, trial := true } : One).ok := ⟨by have := HOK.out.1; simp only; omega, HOK.out.2.1, HXO.out.2.2.1, HXO.out.2.2.2.1, HXO.out.2.2.2.2.1, by simp only; omega⟩
        have HXZ := Lib.hid hxz
        have hg1 : (s.backed now k).l[k] = x := by rw [backed_at s now k hlt hkl]; exact HXX.out.symm
        have B1 := HB.out.set hkl (j := 4) (by decide) (.bool false) { x with rests := false } (by rw [hg1]; rfl)
        have B2 := B1.set (u := k) (by simp only [List.length_set]; exact hkl) (j := 6) (by decide) (.int .i64 0) { x with rests := false, till := 0 } (by simp only [List.getElem_set_self]; rfl)
        simp only [List.set_set] at B2
        have KW := ((Kept.refl (M := (· = g)) wr).own (k * 7 + 4) (.bool false)).own (k * 7 + 6) (.int .i64 0)
        obtain ⟨wa, hwa⟩ : ∃ wa : World, (wr.setCell ⟨g, k * 7 + 4, none⟩ (.bool false)).setCell ⟨g, k * 7 + 6, none⟩ (.int .i64 0) = wa := ⟨_, rfl⟩
        rw [hwa] at B2 KW
        have q2 := B2.c2
        have q0 := B2.c0
        simp only [List.length_set] at q2
        rw [backed_length] at q2
        rw [show (s.backed now k).limit = s.limit from rfl] at q0
        have p0 := B2.2.1.free (k * 7)
        have p5 := B2.2.1.free (k * 7 + 5)
        have l0 := B2.2.1.cell0 k (by simp only [List.length_set]; exact hkl) (by decide)
        have l5 := B2.2.1.cell k 5 (by simp only [List.length_set]; exact hkl) (by decide)
        simp only [List.getElem_set_self] at l0 l5
        have l0' : wa.cell? ⟨g, k * 7, none⟩ = some (.int .i64 x.score) := l0
        have l5' : wa.cell? ⟨g, k * 7 + 5, none⟩ = some (.bool x.trial) := l5
        have B3 := B2.set0 (u := k) (by simp only [List.length_set]; exact hkl) (.int .i64 s.limit) { x with rests := false, till := 0, score := s.limit } (by simp only [List.getElem_set_self]; rfl)
        simp only [List.set_set] at B3
        have B4 := B3.set (u := k) (by simp only [List.length_set]; exact hkl) (j := 5) (by decide) (.bool true) { x with rests := false, till := 0, score := s.limit, trial := true } (by simp only [List.getElem_set_self]; rfl)
        simp only [List.set_set] at B4
        have HB4 := Lib.hid B4
        have HKW := Lib.hid KW
        have HWA := Lib.hid hwa
        obtain ⟨z, hz⟩ : ∃ z : One, z = { x with rests := false, till := 0, score := s.limit, trial := true } := ⟨_, rfl⟩
        rw [← hz] at HXB HXZ HB4
        clear hbk hr htn hxz hz B1 B2 B3 B4 KW hwa hg1 l0 l5
        go_wp2_with fail
        rw [HWA.out]
        clear x0 x4 x5 x6 f0 f4 f5 f6 y2 y0'
        go_still_tail 11, (by kernel_rfl)
        go_wp2_with fail
        refine (rlook_any b g k { (s.backed now k) with l := (s.backed now k).l.set k z } (ok_count (ok_backed HOK.out now k) HXZ.out) (by simp only [List.length_set]; exact hkl) _ (HB4.out.look ((Kept.refl (M := fun _ => False) _).drew))).mono ?_
        rintro e w1 ⟨rfl, hb1, hk1⟩
        simp only [List.getElem_set_self, List.set_set] at hb1
        rw [show (s.backed now k).limit = s.limit from rfl, HXB.out] at hb1
        have HB1 := Lib.hid hb1
        have K1 := Lib.hid (((((KR.out.trans HKW.out).own _ _).own _ _).drew).trans hk1)
        have HO1 := Lib.hid (HO.out.keep ((((HKW.out.own _ _).own _ _).drew).trans hk1) (fun y hy e => by have e2 : y = g := e; omega))
        have hsz1 := K1.out.size
        clear hb1 hk1 q2 q0 p0 p5 l0' l5'
        go_wp2_with (at_builtin; go_must (refine wpList_pushI rfl (.tmp 71) (.tmp 73) rfl w.heap.size _ _ k rfl HO1.out _ rfl (by simp) (by omega) (by omega) ?_); intro v' w' ho' hg' hv')
        have HO3 := Lib.hid ho'
        have HB3 := Lib.hid (HB1.out.kept hg'.2 (fun e => by have e2 : w.heap.size ≤ b := e; omega) (fun e => by have e2 : w.heap.size ≤ g := e; omega))
        have K3 := Lib.hid (hg'.1 _ _ K1.out (Nat.le_refl _))
        clear ho' hg' hv'
        go_wp2_with fail
        go_roundw
        case rel => exact ⟨k + 1, by omega, by go_num, by rw [HBT.out, HBK.out]; exact HO3.out, by rw [← HSU.out]; exact HB3.out, K3.out⟩
        case measure => simp [intOf]; omega
      · have hbk : x.backs now = false := by simpa using hbk
        have hxb : x.back s.limit now = x := by unfold One.back; rw [if_neg (by simp [hbk])]
        have hsame : s.backed now k = s.backed now (k + 1) := by
          rw [← HSU.out, hxb]
          have e := backed_at s now k hlt hkl
          have e2 : (s.backed now k).l.set k s.l[k] = (s.backed now k).l := by rw [← e]; exact List.set_getElem_self _
          rw [HXX.out, e2]; rfl
        have HS := Lib.hid hsame
        have HBK := Lib.hid hbk
        clear hsame hxb
        cases hr : x.rests with
        | false =>
          rw [hr] at x4
          clear hbk hr
          go_wp2_with fail
          go_roundw
          case rel => exact ⟨k + 1, by omega, by go_num, by rw [HBT.out, HBK.out]; simpa using HO.out, by rw [← HS.out]; exact HB.out, KR.out⟩
          case measure => simp [intOf]; omega
        | true =>
          have dt : decide (x.till ≤ now) = false := by simpa [One.backs, hr] using hbk
          rw [hr] at x4
          clear hbk hr
          go_wp2_with fail
          go_roundw
          case rel => exact ⟨k + 1, by omega, by go_num, by rw [HBT.out, HBK.out]; simpa using HO.out, by rw [← HS.out]; exact HB.out, KR.out⟩
          case measure => simp [intOf]; omega
    · obtain rfl : k = s.l.length := by omega
      rw [List.take_length] at HO
      have y2 := hb.c2
      rw [backed_length] at y2
      rw [backed_full] at HB
      clear hb
      go_wp2_with fail
      go_ret
      exact ⟨_, rfl, HO.out, HB.out, KR.out⟩
end Go.Proofs.Ytnpmimjhpnhdkaa
