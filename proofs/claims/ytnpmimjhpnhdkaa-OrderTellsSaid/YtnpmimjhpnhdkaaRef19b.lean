/- Package hustingsref19, walked: Agree, Silent. -/
import Derived.Test.YtnpmimjhpnhdkaaRef19
namespace Go.Proofs.Ytnpmimjhpnhdkaa
open Go.RowKit

theorem RBook.set0 {w : World} {b g : Nat} {s : BookS} (h : RBook w b g s) {u : Nat} (hu : u < s.l.length) (v : Value) (y : One) (hy : y.rcells = s.l[u].rcells.set 0 v) :
    RBook (w.setCell ⟨g, u * 7, none⟩ v) b g { s with l := s.l.set u y } := h.set hu (j := 0) (by decide) v y hy
theorem rset2 {s : BookS} {u : Nat} {y z : One} : ({ ({ s with l := s.l.set u y } : BookS) with l := (s.l.set u y).set u z } : BookS) = { s with l := s.l.set u z } := by simp
set_option maxRecDepth 100000 in
set_option maxHeartbeats 1000000 in
theorem ragree_any (b g : Nat) (s : BookS) (u : Int) (hs : s.ok) (w : World) (h : RBook w b g s) :
    Calls Try.prog 32 #[.pointer (some ⟨b, 0, none⟩), .int .i64 u] w fun e w' => (∃ r, e = .returned (.int .i64 r)) ∧ RBook w' b g (s.agreeI u) ∧ Kept (· = g) w w' := by
  have H := Lib.hid h
  have hlen : s.l.length ≤ 9 := hs.2.2.2.2.1
  by_cases hv : s.valid u
  · obtain ⟨v, rfl⟩ := Int.eq_ofNat_of_zero_le hv.1
    have hu : v < s.l.length := by have := hv.2; omega
    have hf : s.agreeI (v : Int) = { s with l := s.l.set v (s.l[v].agrees s.limit) } := by
      unfold BookS.agreeI; rw [if_pos hv]; unfold BookS.agree; rw [Int.toNat_natCast, List.getElem?_eq_getElem hu]
    rw [hf]
    have his : s.is (v : Int) = true := by unfold BookS.is; simp; omega
    have HIS := Lib.hid his
    have ho := BookS.ok_at hs hu
    obtain ⟨x0, x1, x2, x3, x4, x5, x6⟩ := h.at hu
    have c2 := h.c2
    have f0 := h.2.1.free (v * 7)
    have f1 := h.2.1.free (v * 7 + 1)
    have hbg := h.2.2
    have i0 : (0 : Int) ≤ (v : Int) := by omega
    have i1 : (v : Int) < (s.l.length : Int) := by omega
    obtain ⟨x, hx⟩ : ∃ x, x = s.l[v] := ⟨_, rfl⟩
    rw [← hx] at x0 x1 x2 x3 x4 x5 x6 ho ⊢
    have HX := Lib.hid hx
    unfold One.ok at ho
    obtain ⟨m1, hm1⟩ : ∃ m1, (if x.agree + 1 < 65535 then x.agree + 1 else 65535) = m1 := ⟨_, rfl⟩
    obtain ⟨m2, hm2⟩ : ∃ m2, (if x.score + 1 < 100 then x.score + 1 else 100) = m2 := ⟨_, rfl⟩
    have b1 := ho.2.2.1.1
    have b2 := ho.2.2.1.2
    have b3 := ho.1
    have b4 := ho.2.1
    have w1 : IntKind.i64.wrap (x.agree + 1) = x.agree + 1 := by rw [IntKind.wrap_i64]; omega
    have w2 : IntKind.i64.wrap (x.score + 1) = x.score + 1 := by rw [IntKind.wrap_i64]; omega
    have hm1b : (if x.agree < 65534 then x.agree + 1 else 65535) = m1 := by rw [← hm1]; split <;> split <;> omega
    have hm2b : (if x.score < 99 then x.score + 1 else 100) = m2 := by rw [← hm2]; split <;> split <;> omega
    have hm1' : m1 = min 65535 (x.agree + 1) := by rw [← hm1]; split <;> omega
    have hm2' : m2 = max 0 (min 100 (x.score + 1)) := by rw [← hm2]; split <;> omega
    have hy1 : ({ x with agree := m1 } : One).rcells = s.l[v].rcells.set 1 (.int .i64 m1) := by rw [← hx]; rfl
    have R1 := Lib.hid (H.out.set hu (by decide) (.int .i64 m1) _ hy1)
    have hl1 : v < (s.l.set v { x with agree := m1 }).length := by simpa using hu
    have hy2 : ({ x with agree := m1, score := m2 } : One).rcells = ((s.l.set v { x with agree := m1 })[v]'hl1).rcells.set 0 (.int .i64 m2) := by simp [One.rcells]
    have HY2 := Lib.hid hy2
    have hok2 : ({ s with l := s.l.set v { x with agree := m1, score := m2 } } : BookS).ok := ok_set hs ⟨by simp only; omega, by simp only; omega, by simp only; omega, ho.2.2.2⟩
    have hfin : ({ x with agree := m1, score := m2 } : One).looks s.limit = x.agrees s.limit := by
      unfold One.looks One.agrees One.change; simp only [hm1', hm2']
    have HFIN := Lib.hid hfin
    have HOK2 := Lib.hid hok2
    have d2 := cell_set_ne (a := g) (o := v * 7 + 1) (u := .int .i64 m1) c2 (.inl (fun e => hbg e.symm))
    have d0 := cell_set_ne (a := g) (o := v * 7 + 1) (u := .int .i64 m1) x0 (.inr (by omega))
    have e0 := free_set (p := ⟨g, v * 7 + 1, none⟩) (u := .int .i64 m1) f0
    clear h hs hv hf his hx ho hm1' hm2' hy1 hy2 hok2 hfin x2 x3 x4 x5 x6
    go_enter Try.func32, Try.ntmps32
    go_wp2_with fail
    refine (ris_any b g s v (by omega) w H.out true HIS.out).mono ?_
    rintro e w' ⟨rfl, rfl⟩
    go_wp2_with fail
    go_still_tail 17, (by kernel_rfl)
    go_wp2_with fail
    obtain ⟨wa, hwa⟩ : ∃ wa : World, (w.setCell ⟨g, v * 7 + 1, none⟩ (.int .i64 m1)).drew = wa := ⟨_, rfl⟩
    have R1a : RBook wa b g { s with l := s.l.set v { x with agree := m1 } } := by rw [← hwa]; exact R1.out.drew
    have K1a : Kept (· = g) w wa := by rw [← hwa]; exact ((Kept.refl (M := (· = g)) w).own (v * 7 + 1) (.int .i64 m1)).drew
    have R2 := Lib.hid (R1a.set0 (u := v) (by simpa using hu) (.int .i64 m2) _ HY2.out)
    rw [rset2] at R2
    have q2 : wa.cell? ⟨b, 2, none⟩ = some (.slice (some ⟨g, 0, none⟩) s.l.length s.cap) := by rw [← hwa]; exact d2
    have q0 : wa.cell? ⟨g, v * 7, none⟩ = some (.int .i64 x.score) := by rw [← hwa]; exact d0
    have p0 : wa.frozen? ⟨g, v * 7, none⟩ = false := by rw [← hwa]; exact e0
    have K1A := Lib.hid K1a
    rw [hwa]
    clear hwa d2 d0 e0 c2 x0 x1 f0 f1 R1a K1a
    go_still_tail 17, (by kernel_rfl)
    go_wp2_with fail
    refine (rlook_any b g v _ HOK2.out (by simpa using hu) _ (R2.out.look ((Kept.refl (M := fun _ => False) _).drew))).mono ?_
    rintro e w9 ⟨rfl, hr, hk9⟩
    have K9 := ((K1A.out.own (v * 7) (.int .i64 m2)).drew).trans hk9
    have HR9 := Lib.hid hr
    have HK9 := Lib.hid K9
    clear hr hk9 K9
    go_wp2_with fail
    go_ret
    refine ⟨⟨_, rfl⟩, ?_, HK9.out⟩
    have hr := HR9.out
    simp only [List.getElem_set_self, HFIN.out, List.set_set] at hr
    exact hr
  · have hf : s.agreeI u = s := by unfold BookS.agreeI; rw [if_neg hv]
    rw [hf]
    have his : s.is u = false := by unfold BookS.is BookS.valid at *; simp only [Bool.and_eq_false_imp, decide_eq_true_eq, decide_eq_false_iff_not]; omega
    have HIS := Lib.hid his
    clear h hs his hf hv
    go_enter Try.func32, Try.ntmps32
    go_wp2_with fail
    refine (ris_any b g s u (by omega) w H.out false HIS.out).mono ?_
    rintro e w' ⟨rfl, rfl⟩
    go_wp2_with fail
    go_ret
    exact ⟨⟨_, rfl⟩, H.out, Kept.refl _⟩
set_option maxRecDepth 100000 in
set_option maxHeartbeats 1000000 in
theorem rsilent_any (b g : Nat) (s : BookS) (u : Int) (hs : s.ok) (ht : TriedB s) (w : World) (h : RBook w b g s) :
    Calls Try.prog 35 #[.pointer (some ⟨b, 0, none⟩), .int .i64 u] w fun e w' => (∃ r, e = .returned (.int .i64 r)) ∧ RBook w' b g (s.silentI u) ∧ Kept (· = g) w w' := by
  have H := Lib.hid h
  have hlen : s.l.length ≤ 9 := hs.2.2.2.2.1
  by_cases hv : s.valid u
  · obtain ⟨v, rfl⟩ := Int.eq_ofNat_of_zero_le hv.1
    have hu : v < s.l.length := by have := hv.2; omega
    have hf : s.silentI (v : Int) = { s with l := s.l.set v (s.l[v].silents s.limit) } := by
      unfold BookS.silentI; rw [if_pos hv]; unfold BookS.silent; rw [Int.toNat_natCast, List.getElem?_eq_getElem hu]
    rw [hf]
    have his : s.is (v : Int) = true := by unfold BookS.is; simp; omega
    have HIS := Lib.hid his
    have ho := BookS.ok_at hs hu
    obtain ⟨x0, x1, x2, x3, x4, x5, x6⟩ := h.at hu
    have c2 := h.c2
    have f0 := h.2.1.free (v * 7)
    have f1 := h.2.1.free (v * 7 + 3)
    have hbg := h.2.2
    have i0 : (0 : Int) ≤ (v : Int) := by omega
    have i1 : (v : Int) < (s.l.length : Int) := by omega
    obtain ⟨x, hx⟩ : ∃ x, x = s.l[v] := ⟨_, rfl⟩
    rw [← hx] at x0 x1 x2 x3 x4 x5 x6 ho ⊢
    have HX := Lib.hid hx
    unfold One.ok at ho
    obtain ⟨m1, hm1⟩ : ∃ m1, (if x.silent + 1 < 65535 then x.silent + 1 else 65535) = m1 := ⟨_, rfl⟩
    obtain ⟨m2, hm2⟩ : ∃ m2, (if 0 < x.score - 2 then x.score - 2 else 0) = m2 := ⟨_, rfl⟩
    have b1 := ho.2.2.2.2.1.1
    have b2 := ho.2.2.2.2.1.2
    have b3 := ho.1
    have b4 := ho.2.1
    have w1 : IntKind.i64.wrap (x.silent + 1) = x.silent + 1 := by rw [IntKind.wrap_i64]; omega
    have w2 : IntKind.i64.wrap (x.score - 2) = x.score - 2 := by rw [IntKind.wrap_i64]; omega
    have hm1b : (if x.silent < 65534 then x.silent + 1 else 65535) = m1 := by rw [← hm1]; split <;> split <;> omega
    have hm2b : (if 2 < x.score then x.score - 2 else 0) = m2 := by rw [← hm2]; split <;> split <;> omega
    have hm1' : m1 = min 65535 (x.silent + 1) := by rw [← hm1]; split <;> omega
    have hm2' : m2 = max 0 (min 100 (x.score - 2)) := by rw [← hm2]; split <;> omega
    have hy1 : ({ x with silent := m1 } : One).rcells = s.l[v].rcells.set 3 (.int .i64 m1) := by rw [← hx]; rfl
    have R1 := Lib.hid (H.out.set hu (by decide) (.int .i64 m1) _ hy1)
    have hl1 : v < (s.l.set v { x with silent := m1 }).length := by simpa using hu
    have hy2 : ({ x with silent := m1, score := m2 } : One).rcells = ((s.l.set v { x with silent := m1 })[v]'hl1).rcells.set 0 (.int .i64 m2) := by simp [One.rcells]
    have HY2 := Lib.hid hy2
    have htr := ht v hu
    rw [of_lt hu, ← hx] at htr
    have hfin : ({ x with silent := m1, score := m2 } : One) = x.silents s.limit := by
      unfold One.silents One.change
      simp only [hm1', hm2', One.mk.injEq, true_and]
      refine ⟨by omega, ?_⟩
      cases e : x.trial with
      | false => simp
      | true => have := (htr e).2; simp; omega
    have HFIN := Lib.hid hfin
    have d2 := cell_set_ne (a := g) (o := v * 7 + 3) (u := .int .i64 m1) c2 (.inl (fun e => hbg e.symm))
    have d0 := cell_set_ne (a := g) (o := v * 7 + 3) (u := .int .i64 m1) x0 (.inr (by omega))
    have e0 := free_set (p := ⟨g, v * 7 + 3, none⟩) (u := .int .i64 m1) f0
    clear h hs ht htr hv hf his hx ho hm1' hm2' hy1 hy2 hfin x1 x2 x4 x5 x6
    go_enter Try.func35, Try.ntmps35
    go_wp2_with fail
    refine (ris_any b g s v (by omega) w H.out true HIS.out).mono ?_
    rintro e w' ⟨rfl, rfl⟩
    go_wp2_with fail
    go_still_tail 17, (by kernel_rfl)
    go_wp2_with fail
    obtain ⟨wa, hwa⟩ : ∃ wa : World, (w.setCell ⟨g, v * 7 + 3, none⟩ (.int .i64 m1)).drew = wa := ⟨_, rfl⟩
    have R1a : RBook wa b g { s with l := s.l.set v { x with silent := m1 } } := by rw [← hwa]; exact R1.out.drew
    have K1a : Kept (· = g) w wa := by rw [← hwa]; exact ((Kept.refl (M := (· = g)) w).own (v * 7 + 3) (.int .i64 m1)).drew
    have R2 := Lib.hid (R1a.set0 (u := v) (by simpa using hu) (.int .i64 m2) _ HY2.out)
    rw [rset2] at R2
    have q2 : wa.cell? ⟨b, 2, none⟩ = some (.slice (some ⟨g, 0, none⟩) s.l.length s.cap) := by rw [← hwa]; exact d2
    have q0 : wa.cell? ⟨g, v * 7, none⟩ = some (.int .i64 x.score) := by rw [← hwa]; exact d0
    have p0 : wa.frozen? ⟨g, v * 7, none⟩ = false := by rw [← hwa]; exact e0
    have K1A := Lib.hid K1a
    rw [hwa]
    clear hwa d2 d0 e0 c2 x0 x3 f0 f1 R1a K1a
    go_still_tail 17, (by kernel_rfl)
    go_wp2_with fail
    go_ret
    refine ⟨⟨_, rfl⟩, ?_, (K1A.out.own (v * 7) (.int .i64 m2)).drew⟩
    have hr := R2.out
    rw [HFIN.out] at hr
    exact hr.drew
  · have hf : s.silentI u = s := by unfold BookS.silentI; rw [if_neg hv]
    rw [hf]
    have his : s.is u = false := by unfold BookS.is BookS.valid at *; simp only [Bool.and_eq_false_imp, decide_eq_true_eq, decide_eq_false_iff_not]; omega
    have HIS := Lib.hid his
    clear h hs ht his hf hv
    go_enter Try.func35, Try.ntmps35
    go_wp2_with fail
    refine (ris_any b g s u (by omega) w H.out false HIS.out).mono ?_
    rintro e w' ⟨rfl, rfl⟩
    go_wp2_with fail
    go_ret
    exact ⟨⟨_, rfl⟩, H.out, Kept.refl _⟩
end Go.Proofs.Ytnpmimjhpnhdkaa
