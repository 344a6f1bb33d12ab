/- ReputeRest, walked. -/
import Derived.Test.YtcdoefpfgkhokaaLawRest
namespace Go.Proofs.Ytcdoefpfgkhokaa
open Go.RowKit

set_option maxRecDepth 100000 in
set_option maxHeartbeats 4000000 in
theorem rest_walk {H : Type} {enc : TypeId × Value → H} {d : DataW H} {p : List MemPlace} (w : World) (ups : Int) (_ : (Lit.int .i64 ups).wf = true) (limit : Int) (_ : (Lit.int .i64 limit).wf = true) (rest : Int) (_ : (Lit.int .i64 rest).wf = true)
    (a : Option Addr) (len cap : Nat) (hk : DataW.Trod enc Try.prog w 0 (fun _ => true) true 22 (.slice a len cap) d p) (u0 : Int) (_ : (Lit.int .i64 u0).wf = true) (now : Int) (_ : (Lit.int .i64 now).wf = true) (ag : Int) (_ : (Lit.int .i64 ag).wf = true) :
    Calls Try.prog 7 #[.int .i64 ups, .int .i64 limit, .int .i64 rest, .slice a len cap, .int .i64 u0, .int .i64 now, .int .i64 ag] w fun e w' => e = .returned (.bool true) ∧ Kept (fun _ => False) w w' := by
  obtain ⟨l, rfl, hacts⟩ := acts_of (Reads.of hk)
  have HA := Lib.hid hacts
  clear hk hacts
  by_cases hall : 600 < l.length ∨ now < 0 ∨ 549755813888 < now ∨ ag < 0 ∨ 549755813888 < ag
  · have hways : decide (600 < (l.length : Int)) = true ∨ (decide (600 < (l.length : Int)) = false ∧ decide (now < 0) = true) ∨ (decide (600 < (l.length : Int)) = false ∧ decide (now < 0) = false ∧ decide (549755813888 < now) = true) ∨
        (decide (600 < (l.length : Int)) = false ∧ decide (now < 0) = false ∧ decide (549755813888 < now) = false ∧ decide (ag < 0) = true) ∨ (decide (600 < (l.length : Int)) = false ∧ decide (now < 0) = false ∧ decide (549755813888 < now) = false ∧ decide (ag < 0) = false ∧ decide (549755813888 < ag) = true) := by
      simp only [decide_eq_true_eq, decide_eq_false_iff_not]; omega
    clear hall
    rcases hways with g1 | ⟨g1, g2⟩ | ⟨g1, g2, g3⟩ | ⟨g1, g2, g3, g4⟩ | ⟨g1, g2, g3, g4, g5⟩
    all_goals
      go_enter Try.func7, Try.ntmps7
      go_wp2_with fail
      refine (awake_any _).mono ?_
      rintro e w1 ⟨rfl, hk⟩
      go_wp2_with fail
      go_ret
      exact ⟨rfl, hk⟩
  have g1 : decide (600 < (l.length : Int)) = false := by simp; omega
  have g2 : decide (now < 0) = false := by simp; omega
  have g3 : decide (549755813888 < now) = false := by simp; omega
  have g4 : decide (ag < 0) = false := by simp; omega
  have g5 : decide (549755813888 < ag) = false := by simp; omega
  have n0 : 0 ≤ now := by omega
  have n1 : now ≤ 549755813888 := by omega
  have a0 : 0 ≤ ag := by omega
  have a1 : ag ≤ 549755813888 := by omega
  obtain ⟨U1, hU1⟩ : ∃ U, IntKind.u64.wrap u0 = U := ⟨_, rfl⟩
  have p1 : 0 ≤ U1 := by rw [← hU1, IntKind.wrap_u64]; omega
  go_enter Try.func7, Try.ntmps7
  go_wp2_with fail
  refine (awake_any _).mono ?_
  rintro e w1 ⟨rfl, hk1⟩
  have K1 := Lib.hid hk1
  clear hk1
  go_wp2_with fail
  refine (made_any w1 ups limit rest a l cap (by omega) (Lib.hid (HA.out.kept K1.out))).mono ?_
  rintro e w2 ⟨n, lo, ti, b, g, hok, rfl, ho⟩
  have HO := Lib.hid (ho.base K1.out)
  have hn9 : n ≤ 9 := by have := hok.1.2.1; omega
  have hn1 : 1 ≤ n := by have := hok.1.1; omega
  have lo1 : 1 ≤ lo := hok.2.1.1
  have lo2 : lo ≤ 100 := hok.2.1.2
  have ti1 : 1 ≤ ti := hok.2.2.1
  have ti2 : ti ≤ 100000 := hok.2.2.2
  obtain ⟨S, hS⟩ : ∃ S, (newB n lo ti).acts l = S := ⟨_, rfl⟩
  have hlen : S.l.length = n := by rw [← hS, len_acts]; simp [newB]
  have hlim : S.limit = lo := by rw [← hS, acts_limit]; rfl
  have hrst : S.rest = ti := by rw [← hS, acts_rest]; rfl
  rw [hS] at HO
  have HLEN := Lib.hid hlen
  have HLIM := Lib.hid hlim
  have HRST := Lib.hid hrst
  clear hok ho hS hlen hlim hrst hall
  go_wp2_with fail
  obtain ⟨u, hu⟩ : ∃ u : Nat, wrap64 (U1 % (n : Int)) = u := by
    have h1 := Int.emod_nonneg U1 (b := (n : Int)) (by omega)
    have h2 := Int.emod_lt_of_pos U1 (b := (n : Int)) (by omega)
    exact ⟨(U1 % (n : Int)).toNat, by unfold wrap64; omega⟩
  have hun : u < n := by
    have h1 := Int.emod_nonneg U1 (b := (n : Int)) (by omega)
    have h2 := Int.emod_lt_of_pos U1 (b := (n : Int)) (by omega)
    unfold wrap64 at hu; omega
  rw [hu]
  clear hu
  refine (own_back HO 4398046511104 _ rfl).mono ?_
  rintro e w3 ⟨ao3, cap3, rfl, -, ho, -⟩
  obtain ⟨T, hT⟩ : ∃ T, S.back 4398046511104 = T := ⟨_, rfl⟩
  have hup : Up T.l := by rw [← hT]; exact back_up HO.out.ok
  have hlen : T.l.length = n := by rw [← hT, len_back]; exact HLEN.out
  have hlim : T.limit = lo := by rw [← hT]; exact HLIM.out
  have hrst : T.rest = ti := by rw [← hT]; exact HRST.out
  rw [hT] at ho
  have hmay : (mayL T.l).length = n := by rw [up_may hup, hlen]
  obtain ⟨y, hys, hyw, hyd⟩ := dissent_up ho.ok hup (u := u) (by omega) n0 n1
  have htk : errI (T.takes (u : Int) now) = 0 := by unfold errI; rw [if_pos ⟨⟨by omega, by omega⟩, n0, by omega⟩]
  obtain ⟨x, hx⟩ : ∃ x, T.of (u : Int) = x := ⟨_, rfl⟩
  have hxr : x.rests = false := by rw [← hx, of_lt (by omega)]; exact hup _ (List.getElem_mem _)
  rw [hx] at hys
  rw [hlen, hlim, hrst] at hyw
  obtain ⟨V, hV⟩ : ∃ V : BookS, { T with l := T.l.set u y } = V := ⟨_, rfl⟩
  have hVl : V.l = T.l.set u y := by rw [← hV]
  have hVlim : V.limit = lo := by rw [← hV]; exact hlim
  have hVu : V.of (u : Int) = y := of_one (by omega) hVl
  rw [hV] at hyd
  obtain ⟨xs, hxs⟩ : ∃ xs, x.score = xs := ⟨_, rfl⟩
  obtain ⟨ys, hyss⟩ : ∃ ys, y.score = ys := ⟨_, rfl⟩
  rw [hxs, hyss] at hys
  rw [hyss] at hyw
  have ox := of_ok ho.ok (u := u) (by omega)
  rw [hx] at ox
  have ox0 : 0 ≤ xs := by rw [← hxs]; exact ox.1
  have ox1 : xs ≤ 100 := by rw [← hxs]; exact ox.2.1
  have hmax : (if xs - 10 < 0 then 0 else xs - 10) = ys := by rw [hys]; split <;> omega
  have hmax' : (if 10 < xs then xs - 10 else 0) = ys := by rw [hys]; split <;> omega
  have HMAX := Lib.hid (And.intro hmax hmax')
  have HMAY := Lib.hid hmay
  have HUP := Lib.hid hup
  have HYD := Lib.hid hyd
  have HTK := Lib.hid htk
  have HXR := Lib.hid (show (T.of (u : Int)).rests = false by rw [hx]; exact hxr)
  have HXS := Lib.hid (show (T.of (u : Int)).score = xs by rw [hx]; exact hxs)
  have HYS := Lib.hid (show (V.of (u : Int)).score = ys by rw [hVu]; exact hyss)
  have HVU := Lib.hid hVu
  have HVL := Lib.hid hVl
  have HVI := Lib.hid hVlim
  have HTL := Lib.hid hlen
  replace HO := Lib.hid ho
  have hyr : y.rests = true ∨ y.rests = false := by cases y.rests <;> simp
  clear ho hT hup hlen hlim hrst hmay hyd htk hx hxr hxs hyss hys hmax hmax' ox HLEN HLIM HRST hV hVl hVlim hVu
  have hways : (decide ((n : Int) / 2 + 1 < (n : Int)) = true ∧ decide (ys < lo) = true ∧ Hid (y.rests = true ∧ y.till = now + ti ∧ y.trial = false)) ∨ (decide ((n : Int) / 2 + 1 < (n : Int)) = false ∧ Hid (y.rests = false)) ∨ (decide ((n : Int) / 2 + 1 < (n : Int)) = true ∧ decide (ys < lo) = false ∧ Hid (y.rests = false)) := by
    rcases hyw with ⟨h1, h2, h3⟩ | ⟨h1, h2⟩
    · exact .inl ⟨by simp; omega, by simpa using h2, Lib.hid h3⟩
    · have HH := Lib.hid h2
      simp only [Bool.and_eq_false_imp, decide_eq_true_eq, decide_eq_false_iff_not] at h1
      by_cases hr : n / 2 + 1 < n
      · exact .inr (.inr ⟨by simp; omega, by simpa using h1 hr, HH⟩)
      · exact .inr (.inl ⟨by simp; omega, HH⟩)
  clear hyw hyr
  rcases hways with ⟨r1, r2, HY⟩ | hways
  · go_wp2_with fail
    refine (own_may HO _ rfl).mono ?_
    rintro e w4 ⟨ao4, cp4, rfl, -, ho, -⟩
    rw [HMAY.out]
    replace HO := Lib.hid ho
    clear ho
    go_wp2_with fail
    (refine (own_score HO u xs HXS.out).mono ?_; rintro e _ ⟨rfl, ho, -⟩; replace HO := Lib.hid ho; clear ho; go_wp2_with fail)
    (refine (own_rests HO u false HXR.out).mono ?_; rintro e _ ⟨rfl, ho, -⟩; replace HO := Lib.hid ho; clear ho; go_wp2_with fail)
    (refine (own_dissent HO u now 0 HTK.out).mono ?_; rintro e _ ⟨rfl, ho, -⟩; rw [HYD.out] at ho; replace HO := Lib.hid ho; clear ho; go_wp2_with fail)
    obtain ⟨hm1, hm2⟩ := HMAX.out
    (refine (own_score HO u ys HYS.out).mono ?_; rintro e _ ⟨rfl, ho, -⟩; replace HO := Lib.hid ho; clear ho; go_wp2_with fail)
    clear hm1 hm2
    have hvr : (V.of (u : Int)).rests = true := by rw [HVU.out]; exact HY.out.1
    have hvt : (V.of (u : Int)).trial = false := by rw [HVU.out]; exact HY.out.2.2
    have hdu : duesL V.l = [now + ti] := by rw [HVL.out, up_dues_set HUP.out (by rw [HTL.out]; exact hun) HY.out.1, HY.out.2.1]
    obtain ⟨z, hz1, hz2, hz3⟩ := dissent_rests (by rw [HTL.out]; exact hun) HVL.out HY.out.1 HY.out.2.2 a0 a1
    have htk : errI (V.takes (u : Int) ag) = 0 := by unfold errI; rw [if_pos ⟨⟨by omega, by rw [HVL.out, List.length_set, HTL.out]; omega⟩, a0, by omega⟩]
    obtain ⟨Z, hZ⟩ : ∃ Z : BookS, { V with l := T.l.set u z } = Z := ⟨_, rfl⟩
    have hZl : Z.l = T.l.set u z := by rw [← hZ]
    have hZlim : Z.limit = lo := by rw [← hZ]; exact HVI.out
    have hzt : z.till = now + ti := by rw [hz2]; exact HY.out.2.1
    rw [hZ] at hz3
    have hzr : (Z.of (u : Int)).rests = true := by rw [of_one (by rw [HTL.out]; exact hun) hZl]; exact hz1
    have hdz : duesL Z.l = [now + ti] := by rw [hZl, up_dues_set HUP.out (by rw [HTL.out]; exact hun) hz1, hzt]
    have hb1 : Z.back (now + ti - 1) = Z := by
      rw [back_one HUP.out (by rw [HTL.out]; exact hun) hZl, back_no (by omega)]; rw [← hZl]
    have hb1l : Z.backL (now + ti - 1) = [] := by
      rw [backL_one HUP.out (by rw [HTL.out]; exact hun) hZl]
      unfold One.backs
      rw [show decide (z.till ≤ now + ti - 1) = false by simp; omega]; simp
    have hb2l : Z.backL (now + ti) = [(u : Int)] := by
      rw [backL_one HUP.out (by rw [HTL.out]; exact hun) hZl]
      unfold One.backs
      rw [hz1, show decide (z.till ≤ now + ti) = true by simp; omega]; simp
    obtain ⟨q1, q2, q3⟩ := back_due lo1 lo2 hz1
    obtain ⟨E, hE⟩ : ∃ E : BookS, Z.back (now + ti) = E := ⟨_, rfl⟩
    have hEu : E.of (u : Int) = z.back lo z.till := by
      refine of_one (l := T.l) (by rw [HTL.out]; exact hun) ?_
      rw [← hE, back_one HUP.out (by rw [HTL.out]; exact hun) hZl, hZlim, hzt]
    have he1 : (E.of (u : Int)).rests = false := by rw [hEu]; exact q1
    have he2 : (E.of (u : Int)).score = lo := by rw [hEu]; exact q2
    have he3 : (E.of (u : Int)).trial = decide (lo < 100) := by rw [hEu]; exact q3
    have HVR := Lib.hid hvr
    have HVT := Lib.hid hvt
    have HDU := Lib.hid hdu
    have HZ3 := Lib.hid hz3
    have HTK2 := Lib.hid htk
    have HZR := Lib.hid hzr
    have HDZ := Lib.hid hdz
    have HB1 := Lib.hid hb1
    have HB1L := Lib.hid hb1l
    have HB2L := Lib.hid hb2l
    have HE := Lib.hid hE
    have HE1 := Lib.hid he1
    have HE2 := Lib.hid he2
    have HE3 := Lib.hid he3
    clear hvr hvt hdu hz1 hz2 hz3 htk hZ hZl hZlim hzt hzr hdz hb1 hb1l hb2l q1 q2 q3 hE hEu he1 he2 he3
    (refine (own_rests HO u true HVR.out).mono ?_; rintro e _ ⟨rfl, ho, -⟩; replace HO := Lib.hid ho; clear ho; go_wp2_with fail)
    (refine (own_score HO u ys HYS.out).mono ?_; rintro e _ ⟨rfl, ho, -⟩; replace HO := Lib.hid ho; clear ho; go_wp2_with fail)
    (refine (own_rests HO u true HVR.out).mono ?_; rintro e _ ⟨rfl, ho, -⟩; replace HO := Lib.hid ho; clear ho; go_wp2_with fail)
    (refine (own_due HO [now + ti] HDU.out).mono ?_; rintro e _ ⟨rfl, ho, -⟩; replace HO := Lib.hid ho; clear ho; go_wp2_with fail)
    (refine (own_trial HO u false HVT.out).mono ?_; rintro e _ ⟨rfl, ho, -⟩; replace HO := Lib.hid ho; clear ho; go_wp2_with fail)
    (refine (own_dissent HO u ag 0 HTK2.out).mono ?_; rintro e _ ⟨rfl, ho, -⟩; rw [HZ3.out] at ho; replace HO := Lib.hid ho; clear ho; go_wp2_with fail)
    (refine (own_rests HO u true HZR.out).mono ?_; rintro e _ ⟨rfl, ho, -⟩; replace HO := Lib.hid ho; clear ho; go_wp2_with fail)
    (refine (own_due HO [now + ti] HDZ.out).mono ?_; rintro e _ ⟨rfl, ho, -⟩; replace HO := Lib.hid ho; clear ho; go_wp2_with fail)
    refine (own_back HO (now + ti - 1) [] HB1L.out).mono ?_
    rintro e w8 ⟨ao1, cap1, rfl, -, ho, -⟩
    rw [HB1.out] at ho
    replace HO := Lib.hid ho
    clear ho
    go_wp2_with fail
    refine (own_back HO (now + ti) [(u : Int)] HB2L.out).mono ?_
    rintro e w9 ⟨ao2, cap2, rfl, hr, ho, -⟩
    rw [HE.out] at ho
    replace HO := Lib.hid (ho.look ((Kept.refl _).alloc (.cells #[.int .i64 u] 3)))
    have HR := Lib.hid (hr.look ((Kept.refl _).alloc (.cells #[.int .i64 u] 3)))
    clear ho hr
    go_wp2_with fail
    refine (ints_any _ _ [(u : Int)] [(u : Int)] cap2 1 _ (HR.out.cells.2.mono (fun _ _ => trivial)) ?_ (by simp) (by simp)).mono ?_
    · exact (show Blk (w9.alloc (.cells #[.int .i64 u] 3)) w9.heap.size 3 [.int .i64 u] from new_blk _ _).cells_all trivial
    rintro e w10 ⟨rfl, hk⟩
    replace HO := Lib.hid (HO.out.look hk)
    clear hk
    go_wp2_with fail
    (refine (own_rests HO u false HE1.out).mono ?_; rintro e _ ⟨rfl, ho, -⟩; replace HO := Lib.hid ho; clear ho; go_wp2_with fail)
    (refine (own_score HO u lo HE2.out).mono ?_; rintro e _ ⟨rfl, ho, -⟩; replace HO := Lib.hid ho; clear ho; go_wp2_with fail)
    (refine (own_trial HO u (decide (lo < 100)) HE3.out).mono ?_; rintro e _ ⟨rfl, ho, -⟩; replace HO := Lib.hid ho; clear ho; go_wp2_with fail)
    go_ret
    exact ⟨by simp, HO.out.kp⟩
  · rcases hways with ⟨r1, HY⟩ | ⟨r1, r2, HY⟩
    all_goals
      have HVR := Lib.hid (show (V.of (u : Int)).rests = false by rw [HVU.out]; exact HY.out)
      go_wp2_with fail
      refine (own_may HO _ rfl).mono ?_
      rintro e w4 ⟨ao4, cp4, rfl, -, ho, -⟩
      rw [HMAY.out]
      replace HO := Lib.hid ho
      clear ho
      go_wp2_with fail
      (refine (own_score HO u xs HXS.out).mono ?_; rintro e _ ⟨rfl, ho, -⟩; replace HO := Lib.hid ho; clear ho; go_wp2_with fail)
      (refine (own_rests HO u false HXR.out).mono ?_; rintro e _ ⟨rfl, ho, -⟩; replace HO := Lib.hid ho; clear ho; go_wp2_with fail)
      (refine (own_dissent HO u now 0 HTK.out).mono ?_; rintro e _ ⟨rfl, ho, -⟩; rw [HYD.out] at ho; replace HO := Lib.hid ho; clear ho; go_wp2_with fail)
      obtain ⟨hm1, hm2⟩ := HMAX.out
      (refine (own_score HO u ys HYS.out).mono ?_; rintro e _ ⟨rfl, ho, -⟩; replace HO := Lib.hid ho; clear ho; go_wp2_with fail)
      (refine (own_rests HO u false HVR.out).mono ?_; rintro e _ ⟨rfl, ho, -⟩; replace HO := Lib.hid ho; clear ho; go_wp2_with fail)
      clear hm1 hm2
      try (refine (own_score HO u ys HYS.out).mono ?_; rintro e _ ⟨rfl, ho, -⟩; replace HO := Lib.hid ho; clear ho; go_wp2_with fail)
      (refine (own_rests HO u false HVR.out).mono ?_; rintro e _ ⟨rfl, ho, -⟩; replace HO := Lib.hid ho; clear ho; go_wp2_with fail)
      go_ret
      exact ⟨rfl, HO.out.kp⟩
end Go.Proofs.Ytcdoefpfgkhokaa
