/- Package hustingsref19, walked: Dissent. -/
import Derived.Test.YtnpmimjhpnhdkaaRef19c
namespace Go.Proofs.Ytnpmimjhpnhdkaa
open Go.RowKit

/-- What a dissent makes of a score and a count alone, where a trial is not ended by it. -/
theorem dissents_eq {s : BookS} (hs : s.ok) (ht : TriedB s) {v : Nat} (hu : v < s.l.length) : s.l[v].dissents s.limit = { s.l[v] with dissent := min 65535 (s.l[v].dissent + 1), score := max 0 (s.l[v].score - 10) } := by
  have ho := BookS.ok_at hs hu
  have htr := ht v hu
  rw [of_lt hu] at htr
  obtain ⟨x, hx⟩ : ∃ x, x = s.l[v] := ⟨_, rfl⟩
  rw [← hx] at ho htr ⊢
  unfold One.ok at ho
  unfold One.dissents One.change
  simp only [One.mk.injEq, true_and]
  refine ⟨by omega, ?_⟩
  cases e : x.trial with
  | false => simp
  | true => have := (htr e).2; simp; omega
/-- The tail of Dissent: who begins to rest. -/
theorem dissent_out {s : BookS} {v : Nat} (hu : v < s.l.length) {now : Int} (hn : s.takes (v : Int) now) {y : One} (hy : s.l[v].dissents s.limit = y) :
    s.dissentI (v : Int) now = if s.goes y (s.l.set v y) then { s with l := s.l.set v (y.resting (now + s.rest)) } else { s with l := s.l.set v y } := by
  unfold BookS.dissentI
  rw [if_pos hn]
  unfold BookS.dissent
  rw [Int.toNat_natCast, List.getElem?_eq_getElem hu]
  simp only [hy, List.set_set]

set_option maxRecDepth 100000 in
set_option maxHeartbeats 4000000 in
theorem rdissent_any (b g : Nat) (s : BookS) (u now : Int) (hs : s.ok) (ht : TriedB s) (hodd : s.l.length % 2 = 1) (w : World) (h : RBook w b g s) :
    Calls Try.prog 33 #[.pointer (some ⟨b, 0, none⟩), .int .i64 u, .int .i64 now] w fun e w' => (∃ r, e = .returned (.int .i64 r)) ∧ RBook w' b g (s.dissentI u now) ∧ Kept (· = g) w w' := by
  have H := Lib.hid h
  have hlen : s.l.length ≤ 9 := hs.2.2.2.2.1
  by_cases hv : ¬ s.takes u now
  · have hf : s.dissentI u now = s := by unfold BookS.dissentI; rw [if_neg hv]
    rw [hf]
    obtain ⟨r, hr⟩ : ∃ r, s.is u = r := ⟨_, rfl⟩
    have HIS := Lib.hid hr
    have hways : r = false ∨ (r = true ∧ decide (now < 0) = true) ∨ (r = true ∧ decide (now < 0) = false ∧ decide (1099511627776 < now) = true) := by
      unfold BookS.takes BookS.valid at hv
      unfold BookS.is at hr
      cases r with
      | false => exact .inl rfl
      | true =>
        simp only [Bool.and_eq_true, decide_eq_true_eq] at hr
        by_cases g : now < 0
        · exact .inr (.inl ⟨rfl, by simpa using g⟩)
        · exact .inr (.inr ⟨rfl, by simpa using g, by simp; omega⟩)
    clear h hs ht hf hv hr hodd
    rcases hways with rfl | ⟨rfl, g1⟩ | ⟨rfl, g1, g2⟩
    all_goals
      go_enter Try.func33, Try.ntmps33
      go_wp2_with fail
      refine (ris_any b g s u (by omega) w H.out _ HIS.out).mono ?_
      rintro e w' ⟨rfl, rfl⟩
      go_wp2_with fail
      go_ret
      exact ⟨⟨_, rfl⟩, H.out, Kept.refl _⟩
  replace hv : s.takes u now := Classical.not_not.1 hv
  obtain ⟨v, rfl⟩ := Int.eq_ofNat_of_zero_le hv.1.1
  have hu : v < s.l.length := by have := hv.1.2; omega
  have n1 : decide (now < 0) = false := by have := hv.2.1; simp; omega
  have n2 : decide (1099511627776 < now) = false := by have := hv.2.2; simp; omega
  have n0 : 0 ≤ now := hv.2.1
  have n3 : now ≤ 1099511627776 := hv.2.2
  have hdo := dissent_out hu hv (dissents_eq hs ht hu)
  have his : s.is (v : Int) = true := by unfold BookS.is; simp; omega
  have HIS := Lib.hid his
  have ho := BookS.ok_at hs hu
  obtain ⟨x0, x1, x2, x3, x4, x5, x6⟩ := h.at hu
  have c2 := h.c2
  have hbg := h.2.2
  have i0 : (0 : Int) ≤ (v : Int) := by omega
  have i1 : (v : Int) < (s.l.length : Int) := by omega
  obtain ⟨x, hx⟩ : ∃ x, x = s.l[v] := ⟨_, rfl⟩
  rw [← hx] at x0 x1 x2 x3 x4 x5 x6 ho hdo
  have HX := Lib.hid hx
  unfold One.ok at ho
  obtain ⟨m1, hm1⟩ : ∃ m1, min 65535 (x.dissent + 1) = m1 := ⟨_, rfl⟩
  obtain ⟨m2, hm2⟩ : ∃ m2, max 0 (x.score - 10) = m2 := ⟨_, rfl⟩
  rw [hm1, hm2] at hdo
  have b1 := ho.2.2.2.1.1
  have b2 := ho.2.2.2.1.2
  have b3 := ho.1
  have b4 := ho.2.1
  have w1 : IntKind.i64.wrap (x.dissent + 1) = x.dissent + 1 := by rw [IntKind.wrap_i64]; omega
  have w2 : IntKind.i64.wrap (x.score - 10) = x.score - 10 := by rw [IntKind.wrap_i64]; omega
  have hm1a : (if x.dissent + 1 < 65535 then x.dissent + 1 else 65535) = m1 := by rw [← hm1]; split <;> omega
  have hm1b : (if x.dissent < 65534 then x.dissent + 1 else 65535) = m1 := by rw [← hm1]; split <;> omega
  have hm2a : (if 0 < x.score - 10 then x.score - 10 else 0) = m2 := by rw [← hm2]; split <;> omega
  have hm2b : (if 10 < x.score then x.score - 10 else 0) = m2 := by rw [← hm2]; split <;> omega
  have hy1 : ({ x with dissent := m1 } : One).rcells = s.l[v].rcells.set 2 (.int .i64 m1) := by rw [← hx]; rfl
  have R1 := Lib.hid (H.out.set hu (by decide) (.int .i64 m1) _ hy1)
  have hl1 : v < (s.l.set v { x with dissent := m1 }).length := by simpa using hu
  have hy2 : ({ x with dissent := m1, score := m2 } : One).rcells = ((s.l.set v { x with dissent := m1 })[v]'hl1).rcells.set 0 (.int .i64 m2) := by simp [One.rcells]
  have HY2 := Lib.hid hy2
  have f2 := h.2.1.free (v * 7 + 2)
  have HS := Lib.hid hs
  have HM := Lib.hid (And.intro hm1 hm2)
  clear h hs ht hv his hx hy1 hy2 hm1 hm2 x1 x3 x5 x6 x4
  go_enter Try.func33, Try.ntmps33
  go_wp2_with fail
  refine (ris_any b g s v (by omega) w H.out true HIS.out).mono ?_
  rintro e w' ⟨rfl, rfl⟩
  go_wp2_with fail
  go_still_tail 17, (by kernel_rfl)
  go_wp2_with fail
  obtain ⟨wa, hwa⟩ : ∃ wa : World, (w.setCell ⟨g, v * 7 + 2, none⟩ (.int .i64 m1)).drew = wa := ⟨_, rfl⟩
  have R1a : RBook wa b g { s with l := s.l.set v { x with dissent := m1 } } := by rw [← hwa]; exact R1.out.drew
  have K1A := Lib.hid (show Kept (· = g) w wa by rw [← hwa]; exact ((Kept.refl (M := (· = g)) w).own (v * 7 + 2) (.int .i64 m1)).drew)
  have R2 := Lib.hid (R1a.set0 (u := v) (by simpa using hu) (.int .i64 m2) _ HY2.out)
  rw [rset2] at R2
  have q2 := R1a.c2
  simp only [List.length_set] at q2
  have q0 := (R1a.at (u := v) (by simpa using hu)).1
  simp only [List.getElem_set_self] at q0
  have p0 := R1a.2.1.free (v * 7)
  rw [hwa]
  clear hwa c2 x0 x2 f2 R1a
  go_still_tail 17, (by kernel_rfl)
  go_wp2_with fail
  clear w1 w2 hm1a hm1b hm2a hm2b
  obtain ⟨y, hy⟩ : ∃ y : One, y = { x with dissent := m1, score := m2 } := ⟨_, rfl⟩
  rw [← hy] at R2 hdo
  have hy4 : x.rests = y.rests := by rw [hy]
  have hy0 : m2 = y.score := by rw [hy]
  have hyt : y.ok := by
    obtain ⟨e1, e2⟩ := HM.out
    rw [hy]
    exact ⟨by simp only; omega, by simp only; omega, by simp only; exact ho.2.2.1, by simp only; omega, ho.2.2.2.2⟩
  obtain ⟨wb, hwb⟩ : ∃ wb : World, (wa.setCell ⟨g, v * 7, none⟩ (.int .i64 m2)).drew = wb := ⟨_, rfl⟩
  have RB : RBook wb b g { s with l := s.l.set v y } := by rw [← hwb]; exact R2.out.drew
  have KB := Lib.hid (show Kept (· = g) w wb by rw [← hwb]; exact (K1A.out.own (v * 7) (.int .i64 m2)).drew)
  rw [hwb]
  obtain ⟨t0, t1, t2, t3, t4, t5, t6⟩ := RB.at (u := v) (by simpa using hu)
  simp only [List.getElem_set_self] at t0 t4
  have q2b := RB.c2
  have q0b := RB.c0
  have q1b := RB.c1
  simp only [List.length_set] at q2b
  simp only at q0b q1b
  have HRB := Lib.hid RB
  have HYO := Lib.hid hyt
  have HDO := Lib.hid hdo
  clear hwb hy hy4 hy0 q2 q0 p0 R1 R2 RB K1A HY2 hyt hdo t1 t2 t3 t5 t6
  have hf1 : ((s.l.length : Int) - 1) / 2 = (s.l.length : Int) / 2 := by omega
  obtain ⟨ys, hys⟩ : ∃ ys, y.score = ys := ⟨_, rfl⟩
  rw [hys] at t0
  by_cases k1 : ¬ ys < s.limit
  · have d1 : decide (ys < s.limit) = false := by simpa using k1
    have hg : s.goes y (s.l.set v y) = false := by unfold BookS.goes; rw [hys, d1]; simp
    have HF := Lib.hid (show s.dissentI (v : Int) now = { s with l := s.l.set v y } by rw [HDO.out, hg]; rfl)
    clear hg k1 hys
    go_quiet (fail)
    go_wp2_with fail
    go_ret
    exact ⟨⟨_, rfl⟩, by rw [HF.out]; exact HRB.out.look ((Kept.refl _).drewN _), KB.out.drewN _⟩
  have d1 : decide (ys < s.limit) = true := by simpa using k1
  cases hyr : y.rests with
  | true =>
    rw [hyr] at t4
    have hg : s.goes y (s.l.set v y) = false := by unfold BookS.goes; rw [hyr]; simp
    have HF := Lib.hid (show s.dissentI (v : Int) now = { s with l := s.l.set v y } by rw [HDO.out, hg]; rfl)
    clear hg k1 hys hyr
    go_quiet (fail)
    go_wp2_with fail
    go_ret
    exact ⟨⟨_, rfl⟩, by rw [HF.out]; exact HRB.out.look ((Kept.refl _).drewN _), KB.out.drewN _⟩
  | false =>
    rw [hyr] at t4
    obtain ⟨nm, hnm⟩ : ∃ nm, (mayL (s.l.set v y)).length = nm := ⟨_, rfl⟩
    have hnl : nm ≤ s.l.length := by rw [← hnm]; have := may_len (s.l.set v y); simpa using this
    obtain ⟨cnd, hcnd⟩ : ∃ cnd, decide ((s.l.length : Int) / 2 + 1 ≤ (nm : Int) - 1) = cnd := ⟨_, rfl⟩
    have hg : s.goes y (s.l.set v y) = cnd := by
      unfold BookS.goes
      rw [hys, d1, hyr, List.length_set, hnm, ← hcnd]
      simp only [Bool.not_false, Bool.and_self, Bool.true_and]
      rw [decide_eq_decide]; omega
    have HG := Lib.hid hg
    have HNM := Lib.hid hnm
    have e1 : IntKind.i64.wrap ((nm : Int) - 1) = (nm : Int) - 1 := by rw [IntKind.wrap_i64]; omega
    have e2 : IntKind.i64.wrap ((s.l.length : Int) / 2 + 1) = (s.l.length : Int) / 2 + 1 := by rw [IntKind.wrap_i64]; omega
    clear hg k1 hys hyr hnm
    go_region_held3 (fun w' => w'.cell? ⟨b, 2, none⟩ = some (.slice (some ⟨g, 0, none⟩) s.l.length s.cap) ∧ w'.cell? ⟨b, 0, none⟩ = some (.int .i64 s.limit) ∧ w'.cell? ⟨g, v * 7, none⟩ = some (.int .i64 ys) ∧ w'.cell? ⟨g, v * 7 + 4, none⟩ = some (.bool false))
      (first | go_keep | exact ⟨hkc.cell q2b id, hkc.cell q0b id, hkc.cell t0 id, hkc.cell t4 id⟩)
      ((go_at_call 44; refine (rmay_any b g { s with l := s.l.set v y } (by simp only [List.length_set]; omega) _ (HRB.out.look ((Kept.refl (M := fun _ => False) wb).drew))).mono ?_; rintro e wc ⟨vv, rfl, hown, hkc⟩; obtain ⟨ao, cp, rfl⟩ := hown.slice; rw [HNM.out]))
    have RC := HRB.out.look hkc.of_drew
    have HKC := Lib.hid (KB.out.trans (hkc.of_drew.any (M := (· = g))))
    have HRC := Lib.hid RC
    have g4 := RC.2.1.free (v * 7 + 4)
    have g5 := RC.2.1.free (v * 7 + 5)
    have r2 := RC.c2
    have r1 := RC.c1
    have r4 := (RC.at (u := v) (by simpa using hu)).2.2.2.2.1
    have r5 := (RC.at (u := v) (by simpa using hu)).2.2.2.2.2.1
    simp only [List.length_set] at r2
    simp only [List.getElem_set_self] at r4 r5
    clear hkc hown RC t0 t4 q2b q0b q1b
    cases cnd with
    | false =>
      go_wp2_with fail
      go_ret
      refine ⟨⟨_, rfl⟩, ?_, HKC.out⟩
      rw [HDO.out, HG.out]
      exact HRC.out
    | true =>
      have hrs := HS.out.2.2.2.1
      have hrs1 := HS.out.2.2.1
      have e3 : IntKind.i64.wrap (now + s.rest) = now + s.rest := by rw [IntKind.wrap_i64]; omega
      have B1 := HRC.out.set (u := v) (by simpa using hu) (j := 4) (by decide) (.bool true) { y with rests := true } (by simp only [List.getElem_set_self]; rfl)
      simp only [List.set_set] at B1
      have B2 := B1.set (u := v) (by simpa using hu) (j := 5) (by decide) (.bool false) { y with rests := true, trial := false } (by simp only [List.getElem_set_self]; rfl)
      simp only [List.set_set] at B2
      obtain ⟨wd, hwd⟩ : ∃ wd : World, (wc.setCell ⟨g, v * 7 + 4, none⟩ (.bool true)).setCell ⟨g, v * 7 + 5, none⟩ (.bool false) = wd := ⟨_, rfl⟩
      have HWD := Lib.hid hwd
      have KD := Lib.hid (show Kept (· = g) w wd by rw [← hwd]; exact (HKC.out.own (v * 7 + 4) (.bool true)).own (v * 7 + 5) (.bool false))
      rw [hwd] at B2
      have s2 := B2.c2
      have s1 := B2.c1
      have s6 := B2.2.1.free (v * 7 + 6)
      have s7 := (B2.at (u := v) (by simpa using hu)).2.2.2.2.2.2
      simp only [List.length_set] at s2
      simp only [List.getElem_set_self] at s7
      have B3 := Lib.hid (B2.set (u := v) (by simpa using hu) (j := 6) (by decide) (.int .i64 (now + s.rest)) (y.resting (now + s.rest)) (by simp only [List.getElem_set_self]; rfl))
      simp only [List.set_set] at B3
      clear B1 B2 hwd
      go_wp2_with fail
      rw [HWD.out]
      clear r2 r1 r4 r5 g4 g5
      go_still_tail 13, (by kernel_rfl)
      go_wp2_with fail
      go_ret
      refine ⟨⟨_, rfl⟩, ?_, (KD.out.own (v * 7 + 6) (.int .i64 (now + s.rest))).drew⟩
      rw [HDO.out, HG.out]
      exact B3.out.drew
end Go.Proofs.Ytnpmimjhpnhdkaa
