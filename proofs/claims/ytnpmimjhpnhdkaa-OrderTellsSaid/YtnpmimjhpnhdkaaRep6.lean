/- Package repute, walked: the exported calls over 'does', and Back. -/
import Derived.Test.YtnpmimjhpnhdkaaRep5
import Derived.Test.YtnpmimjhpnhdkaaRepPlain2
namespace Go.Proofs.Ytnpmimjhpnhdkaa
open Go.RowKit

def BookS.valid (s : BookS) (u : Int) : Prop := 0 ≤ u ∧ u < s.l.length
instance (s : BookS) (u : Int) : Decidable (s.valid u) := by unfold BookS.valid; exact inferInstance
def BookS.agreeI (s : BookS) (u : Int) : BookS := if s.valid u then s.agree u.toNat else s
def BookS.silentI (s : BookS) (u : Int) : BookS := if s.valid u then s.silent u.toNat else s
def BookS.takes (s : BookS) (u now : Int) : Prop := s.valid u ∧ 0 ≤ now ∧ now ≤ 1099511627776
instance (s : BookS) (u now : Int) : Decidable (s.takes u now) := by unfold BookS.takes; exact inferInstance
def BookS.dissentI (s : BookS) (u now : Int) : BookS := if s.takes u now then s.dissent u.toNat now else s
def errI (p : Prop) [Decidable p] : Int := if p then 0 else 1

set_option maxRecDepth 100000 in
theorem agree_any (b g : Nat) (s : BookS) (u : Int) (w : World) (h : Book w b g s) (hok : s.ok) :
    Calls Try.prog 31 #[.pointer (some ⟨b, 0, none⟩), .int .i64 u] w fun e w' => e = .returned (.int .i64 (errI (s.valid u))) ∧ Book w' b g (s.agreeI u) ∧ Kept (· = g) w w' := by
  have H : Hid (Calls Try.prog 42 #[.pointer (some ⟨b, 0, none⟩), .int .i64 u, .int .i64 0, .int .i64 0] w fun e w' => e = .returned (.int .i64 (errI (s.valid u))) ∧ Book w' b g (s.agreeI u) ∧ Kept (· = g) w w') := by
    refine Lib.hid ?_
    unfold errI BookS.agreeI
    by_cases hv : s.valid u
    · simp only [hv, if_true]
      obtain ⟨k, rfl⟩ := Int.eq_ofNat_of_zero_le hv.1
      exact does_agree b g k s 0 w h hok (by have := hv.2; omega) (by decide) (by decide)
    · simp only [hv, if_false]
      refine (does_no b s.l.length _ u 0 0 w (by unfold BookS.valid at hv; omega) h.c2).mono ?_
      rintro e w' ⟨rfl, rfl⟩
      exact ⟨rfl, h, Kept.refl _⟩
  clear h hok
  go_enter Try.func31, Try.ntmps31
  go_wp2_with fail
  refine H.out.mono ?_
  rintro e w' ⟨rfl, hb, hk⟩
  go_wp2_with fail
  go_ret
  exact ⟨rfl, hb, hk⟩
set_option maxRecDepth 100000 in
theorem silent_any (b g : Nat) (s : BookS) (u : Int) (w : World) (h : Book w b g s) (hok : s.ok) :
    Calls Try.prog 34 #[.pointer (some ⟨b, 0, none⟩), .int .i64 u] w fun e w' => e = .returned (.int .i64 (errI (s.valid u))) ∧ Book w' b g (s.silentI u) ∧ Kept (· = g) w w' := by
  have H : Hid (Calls Try.prog 42 #[.pointer (some ⟨b, 0, none⟩), .int .i64 u, .int .i64 2, .int .i64 0] w fun e w' => e = .returned (.int .i64 (errI (s.valid u))) ∧ Book w' b g (s.silentI u) ∧ Kept (· = g) w w') := by
    refine Lib.hid ?_
    unfold errI BookS.silentI
    by_cases hv : s.valid u
    · simp only [hv, if_true]
      obtain ⟨k, rfl⟩ := Int.eq_ofNat_of_zero_le hv.1
      exact does_silent b g k s 0 w h hok (by have := hv.2; omega) (by decide) (by decide)
    · simp only [hv, if_false]
      refine (does_no b s.l.length _ u 2 0 w (by unfold BookS.valid at hv; omega) h.c2).mono ?_
      rintro e w' ⟨rfl, rfl⟩
      exact ⟨rfl, h, Kept.refl _⟩
  clear h hok
  go_enter Try.func34, Try.ntmps34
  go_wp2_with fail
  refine H.out.mono ?_
  rintro e w' ⟨rfl, hb, hk⟩
  go_wp2_with fail
  go_ret
  exact ⟨rfl, hb, hk⟩
set_option maxRecDepth 100000 in
theorem dissent_any (b g : Nat) (s : BookS) (u now : Int) (w : World) (h : Book w b g s) (hok : s.ok) :
    Calls Try.prog 21 #[.pointer (some ⟨b, 0, none⟩), .int .i64 u, .int .i64 now] w fun e w' => e = .returned (.int .i64 (errI (s.takes u now))) ∧ Book w' b g (s.dissentI u now) ∧ Kept (· = g) w w' := by
  have H : Hid (Calls Try.prog 42 #[.pointer (some ⟨b, 0, none⟩), .int .i64 u, .int .i64 1, .int .i64 now] w fun e w' => e = .returned (.int .i64 (errI (s.takes u now))) ∧ Book w' b g (s.dissentI u now) ∧ Kept (· = g) w w') := by
    refine Lib.hid ?_
    unfold errI BookS.dissentI
    by_cases ht : s.takes u now
    · simp only [ht, if_true]
      obtain ⟨k, rfl⟩ := Int.eq_ofNat_of_zero_le ht.1.1
      exact does_dissent b g k s now w h hok (by have := ht.1.2; omega) ht.2.1 ht.2.2
    · simp only [ht, if_false]
      by_cases hv : s.valid u
      · obtain ⟨k, rfl⟩ := Int.eq_ofNat_of_zero_le hv.1
        have hno : ¬ (0 ≤ now ∧ now ≤ 1099511627776) := fun h => ht ⟨hv, h⟩
        refine (does_late b s.l.length k _ 1 now w (by have := hv.2; omega) (by have := hok.2.2.2.2.1; omega) (by omega) h.c2).mono ?_
        rintro e w' ⟨rfl, rfl⟩
        exact ⟨rfl, h, Kept.refl _⟩
      · refine (does_no b s.l.length _ u 1 now w (by unfold BookS.valid at hv; omega) h.c2).mono ?_
        rintro e w' ⟨rfl, rfl⟩
        exact ⟨rfl, h, Kept.refl _⟩
  clear h hok
  go_enter Try.func21, Try.ntmps21
  go_wp2_with fail
  refine H.out.mono ?_
  rintro e w' ⟨rfl, hb, hk⟩
  go_wp2_with fail
  go_ret
  exact ⟨rfl, hb, hk⟩

set_option maxRecDepth 100000 in
theorem back_nil (now : Int) (w : World) : Calls Try.prog 23 #[.pointer none, .int .i64 now] w fun e w' => e = .returned (.slice none 0 0) ∧ w = w' := by
  go_enter Try.func23, Try.ntmps23
  go_wp2_with fail
  go_ret
  exact ⟨rfl, rfl⟩
theorem ok_back {x : One} {s : BookS} (hx : x.ok) (_hs : 1 ≤ s.limit ∧ s.limit ≤ 100) (now : Int) : (x.back s.limit now).ok := by
  obtain ⟨h1, h2, h3, h4, h5, h6⟩ := hx
  unfold One.back
  split
  · exact ⟨by simp only [One.change]; omega, by simp only [One.change]; omega, h3, h4, h5, by simp only [One.change]; omega⟩
  · exact ⟨h1, h2, h3, h4, h5, h6⟩
theorem ok_backed {s : BookS} (hs : s.ok) (now : Int) (k : Nat) : (s.backed now k).ok := by
  refine ⟨hs.1, hs.2.1, hs.2.2.1, hs.2.2.2.1, by rw [backed_length]; exact hs.2.2.2.2.1, fun x hx => ?_⟩
  rcases List.mem_append.1 hx with hx | hx
  · obtain ⟨y, hy, rfl⟩ := List.mem_map.1 hx
    exact ok_back (hs.2.2.2.2.2 y (List.mem_of_mem_take hy)) ⟨hs.1, hs.2.1⟩ now
  · exact hs.2.2.2.2.2 x (List.mem_of_mem_drop hx)

theorem back_book {w : World} {b g k : Nat} {s : BookS} {z : One} (h : Book w b g s) (hk : k < s.l.length) (hz : s.l[k] = z) :
    Book ((((w.setCell ⟨g, k * 7 + 4, none⟩ (.bool false)).setCell ⟨g, k * 7 + 5, none⟩ (.int .i64 0)).setCell ⟨g, k * 7, none⟩ (.int .i64 s.limit)).setCell ⟨g, k * 7 + 6, none⟩ (.bool true)) b g { s with l := s.l.set k { z with rests := false, till := 0, score := s.limit, trial := true } } := by
  refine ⟨?_, ?_, h.2.2⟩
  · have := set_other (set_other (set_other (set_other h.1 ⟨g, k * 7 + 4, none⟩ (.bool false) (fun e => h.2.2 e.symm)) ⟨g, k * 7 + 5, none⟩ (.int .i64 0) (fun e => h.2.2 e.symm)) ⟨g, k * 7, none⟩ (.int .i64 s.limit) (fun e => h.2.2 e.symm)) ⟨g, k * 7 + 6, none⟩ (.bool true) (fun e => h.2.2 e.symm)
    simpa only [List.length_set] using this
  · have t1 := h.2.1.set k 4 hk (by decide) (.bool false) { z with rests := false } (by rw [hz]; rfl)
    have t2 := t1.set k 5 (by simp only [List.length_set]; exact hk) (by decide) (.int .i64 0) { z with rests := false, till := 0 } (by simp only [List.getElem_set_self]; rfl)
    simp only [List.set_set] at t2
    have t3 := t2.set0 k (by simp only [List.length_set]; exact hk) (by decide) (.int .i64 s.limit) { z with rests := false, till := 0, score := s.limit } (by simp only [List.getElem_set_self]; rfl)
    simp only [List.set_set] at t3
    have t4 := t3.set k 6 (by simp only [List.length_set]; exact hk) (by decide) (.bool true) { z with rests := false, till := 0, score := s.limit, trial := true } (by simp only [List.getElem_set_self]; rfl)
    simpa only [List.set_set] using t4

set_option maxRecDepth 100000 in
set_option maxHeartbeats 1000000 in
theorem back_any (b g : Nat) (s : BookS) (now : Int) (w : World) (h : Book w b g s) (hok : s.ok) :
    Calls Try.prog 23 #[.pointer (some ⟨b, 0, none⟩), .int .i64 now] w fun e w' => ∃ v, e = .returned v ∧ OwnsI w' w.heap.size v (s.backL now) ∧ Book w' b g (s.back now) ∧ Kept (· = g) w w' := by
  have c2 := h.c2
  have hlen := hok.2.2.2.2.1
  have hgw := h.ltg
  have hbw := h.ltb
  have H := Lib.hid h
  have HOK := Lib.hid hok
  clear h hok
  go_enter Try.func23, Try.ntmps23
  go_wp2_with fail
  go_loopw [5, 15] (fun v c wr => ∃ k : Nat, k ≤ s.l.length ∧ c = .int .i64 k ∧ OwnsI wr w.heap.size v (backFrom now 0 (s.l.take k)) ∧ Book wr b g (s.backed now k) ∧ Kept (· = g) w wr) (fun _ c _ => s.l.length - (intOf c).toNat)
  case atStart => exact ⟨0, by omega, rfl, World.ownsRow_nil _ _ _ _, by rw [backed_zero]; exact H.out, Kept.refl _⟩
  case round =>
    obtain ⟨k, hk, rfl, hown, hb, hkr⟩ := hrel
    have KR := Lib.hid hkr
    have HO := Lib.hid hown
    have HB := Lib.hid hb
    have hsz := hkr.size
    clear hkr hown H
    by_cases hlt : k < s.l.length
    · have hkl : k < (s.backed now k).l.length := by rw [backed_length]; exact hlt
      obtain ⟨x0, x1, x2, x3, x4, x5, x6⟩ := hb.at hkl
      rw [backed_at s now k hlt hkl] at x0 x4 x5 x6
      have y2 := hb.c2
      have y0 := hb.c0
      rw [backed_length] at y2
      have hbg := hb.2.2
      have hfr := fun o => hb.2.1.free o
      have hpl : (backFrom now 0 (s.l.take k)).length ≤ k := by have := backFrom_len now 0 (s.l.take k); simp at this; omega
      have hbt := back_take now s.l k hlt
      have hsucc := backed_succ s now k hlt
      have hxo := BookS.ok_at HOK.out hlt
      have BB := Lib.hid (back_book hb hkl (backed_at s now k hlt hkl))
      rw [show (s.backed now k).limit = s.limit from rfl] at BB y0
      obtain ⟨x, hx⟩ : ∃ x, x = s.l[k] := ⟨_, rfl⟩
      have HXX := Lib.hid hx
      rw [← hx] at x0 x4 x5 x6 hbt hsucc hxo BB
      have HBT := Lib.hid hbt
      have HSU := Lib.hid hsucc
      have HXO := Lib.hid hxo
      have f4 := hfr (k * 7 + 4)
      have f5 := hfr (k * 7 + 5)
      have f0 := hfr (k * 7)
      have f6 := hfr (k * 7 + 6)
      clear hx hbt hsucc hxo hb x1 x2 x3 hfr
      by_cases hbk : x.backs now = true
      · have hr : x.rests = true ∧ x.till ≤ now := by simpa [One.backs] using hbk
        rw [hr.1] at x4
        have htn := hr.2
        have dt : decide (x.till ≤ now) = true := by simpa using htn
        have HXB := Lib.hid (show ({ x with rests := false, till := 0, score := s.limit, trial := true } : One).change s.limit 0 = x.back s.limit now by unfold One.back; rw [if_pos hbk])
        have HBK := Lib.hid hbk
        have hxz : ({ x with rests := false, till := 0, score := s.limit, trial := true } : One).ok := ⟨by have := HOK.out.1; simp only; omega, HOK.out.2.1, HXO.out.2.2.1, HXO.out.2.2.2.1, HXO.out.2.2.2.2.1, by simp only; omega⟩
        have HXZ := Lib.hid hxz
        obtain ⟨z, hz⟩ : ∃ z : One, z = { x with rests := false, till := 0, score := s.limit, trial := true } := ⟨_, rfl⟩
        rw [← hz] at HXB HXZ BB
        clear hbk hr htn hxz hz
        go_wp2_with fail
        refine (change_book b g k { (s.backed now k) with l := (s.backed now k).l.set k z } 0 _ BB.out (ok_count (ok_backed HOK.out now k) HXZ.out) (by simp only [List.length_set]; exact hkl) (by decide) (by decide)).mono ?_
        rintro e w1 ⟨rfl, hb1, hk1⟩
        simp only [List.getElem_set_self, List.set_set] at hb1
        rw [show (s.backed now k).limit = s.limit from rfl, HXB.out] at hb1
        have HB1 := Lib.hid hb1
        have K1 := Lib.hid (((((KR.out.own _ _).own _ _).own _ _).own _ _).trans hk1)
        have HO1 := Lib.hid (HO.out.keep ((((((Kept.refl (M := (· = g)) _).own _ _).own _ _).own _ _).own _ _).trans hk1) (fun y hy e => by have e2 : y = g := e; omega))
        have hsz1 := K1.out.size
        clear hb1 hk1
        go_wp2_with (at_builtin; go_must (refine wpList_pushI rfl (.tmp 55) (.tmp 57) rfl w.heap.size _ _ k rfl HO1.out _ rfl (by simp) (by omega) (by omega) ?_); intro v' w' ho' hg' hv')
        have HO3 := Lib.hid ho'
        have HB3 := Lib.hid (HB1.out.kept hg'.2 (fun e => by have e2 : w.heap.size ≤ b := e; omega) (fun e => by have e2 : w.heap.size ≤ g := e; omega))
        have K3 := Lib.hid (hg'.1 _ _ K1.out (Nat.le_refl _))
        clear ho' hg' hv'
        go_wp2_with fail
        go_roundw
        case rel => exact ⟨k + 1, by omega, by go_num, by rw [HBT.out, HBK.out]; exact HO3.out, by rw [← HSU.out]; exact HB3.out, K3.out⟩
        case measure => simp [intOf]; omega
      · have hbk : x.backs now = false := by simpa using hbk
        have hxb : x.back s.limit now = x := by unfold One.back; rw [if_neg (by simp [hbk])]
        have hsame : s.backed now k = s.backed now (k + 1) := by
          rw [← HSU.out, hxb]
          have e := backed_at s now k hlt hkl
          have e2 : (s.backed now k).l.set k s.l[k] = (s.backed now k).l := by rw [← e]; exact List.set_getElem_self _
          rw [HXX.out, e2]; rfl
        have HS := Lib.hid hsame
        have HBK := Lib.hid hbk
        clear hsame hxb
        cases hr : x.rests with
        | false =>
          rw [hr] at x4
          clear hbk hr
          go_wp2_with fail
          go_roundw
          case rel => exact ⟨k + 1, by omega, by go_num, by rw [HBT.out, HBK.out]; simpa using HO.out, by rw [← HS.out]; exact HB.out, KR.out⟩
          case measure => simp [intOf]; omega
        | true =>
          have dt : decide (x.till ≤ now) = false := by simpa [One.backs, hr] using hbk
          rw [hr] at x4
          clear hbk hr
          go_wp2_with fail
          go_roundw
          case rel => exact ⟨k + 1, by omega, by go_num, by rw [HBT.out, HBK.out]; simpa using HO.out, by rw [← HS.out]; exact HB.out, KR.out⟩
          case measure => simp [intOf]; omega
    · obtain rfl : k = s.l.length := by omega
      rw [List.take_length] at HO
      rw [backed_full] at HB
      clear hb
      go_wp2_with fail
      go_ret
      exact ⟨_, rfl, HO.out, HB.out, KR.out⟩
end Go.Proofs.Ytnpmimjhpnhdkaa
