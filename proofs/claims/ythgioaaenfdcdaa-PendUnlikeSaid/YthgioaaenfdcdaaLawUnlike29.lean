/- PendUnlike, walked. -/
import Derived.Test.YthgioaaenfdcdaaRows3b
import Derived.Test.YthgioaaenfdcdaaPend8
namespace Go.Proofs.Ythgioaaenfdcdaa
open Go.RowKit Go.Maps

set_option maxRecDepth 100000 in
set_option maxHeartbeats 4000000 in
theorem unlike29_walk {H : Type} {enc : TypeId × Value → H} {d : DataW H} {p : List MemPlace} (w : World) (ups : Int) (_ : (Lit.int .i64 ups).wf = true) (seed : Int) (hseed : (Lit.int .u64 seed).wf = true) (ao : Option Addr) (lenf capf : Nat) (zs : List Int) (hzs : IsRow .u64 w ao lenf capf zs)
    (a : Option Addr) (len cap : Nat) (hk : DataW.Trod enc Try.prog w 0 (fun _ => true) true 24 (.slice a len cap) d p) :
    Calls Try.prog 3 #[.int .i64 ups, .int .u64 seed, .slice ao lenf capf, .slice a len cap] w fun e w' => e = .returned (.bool true) ∧ Kept (fun _ => False) w w' := by
  obtain ⟨l, rfl, hacts⟩ := pacts_of (Reads.of hk)
  obtain ⟨first, rfl, hrow, hf64⟩ := rowU_of_isRow hzs
  have HA := Lib.hid hacts
  have HF := Lib.hid hrow
  have HOKU := Lib.hid (And.intro (u64_of_wf hseed) hf64)
  clear hk hacts hzs hrow hf64 hseed
  by_cases h0 : 200 < l.length
  · have hb0 : decide (200 < (l.length : Int)) = true := by simp; omega
    clear h0
    go_enter Try.func3, Try.ntmps3
    go_wp2_with fail
    refine (pawake_any _).mono ?_
    rintro e w1 ⟨rfl, hk⟩
    go_wp2_with fail
    go_ret
    exact ⟨rfl, hk⟩
  have hb0 : decide (200 < (l.length : Int)) = false := by simp; omega
  by_cases h1 : 300 < first.length
  · have hb1 : decide (300 < (first.length : Int)) = true := by simp; omega
    clear h0 h1
    go_enter Try.func3, Try.ntmps3
    go_wp2_with fail
    refine (pawake_any _).mono ?_
    rintro e w1 ⟨rfl, hk⟩
    go_wp2_with fail
    go_ret
    exact ⟨rfl, hk⟩
  have hb1 : decide (300 < (first.length : Int)) = false := by simp; omega
  go_enter Try.func3, Try.ntmps3
  go_wp2_with fail
  refine (pawake_any _).mono ?_
  rintro e w1 ⟨rfl, hk1⟩
  have K1 := Lib.hid hk1
  clear hk1
  go_wp2_with fail
  refine (pmade_any w1 ups seed ao first capf (fun _ => True) none [] 0 (by simp) (Lib.hid (HF.out.kept K1.out (fun _ _ _ => id))) HOKU.out (by omega) (Lib.hid (IsPActs.nil _))).mono ?_
  rintro e w2 ⟨S, b, L, hn, rfl, ho, ht, hSL, hnf⟩
  obtain ⟨n, hnn⟩ : ∃ n, nOf ups = n := ⟨_, rfl⟩
  rw [hnn] at hn ho ht
  rw [hnn]
  replace ho : POwn w1 w2 S (List.replicate n []) := ho
  replace ht : TOwn w1 w2 b ⟨seed, first, 0⟩ L := ht
  have HO := Lib.hid ho
  have HB := Lib.hid (tbeside_nil ht hSL)
  have HAT := Lib.hid (HA.out.kept K1.out)
  have hbl := ht.tp.lt
  have HFT := Lib.hid (show ∀ x, S.foot x → x < w2.heap.size from fun x hx => ho.lt hx)
  have HNF := Lib.hid hnf
  have hz12 := ho.kp.size
  clear hb0 hb1 hnn ho ht hSL hnf HF HOKU HA
  go_wp2_with fail
  go_loopw [12, 13, 14, 15, 16, 17, 18, 19, 20, 21, 22, 23, 24] (fun v12 v13 v14 v15 _ _ _ _ _ _ _ _ _ wr => ∃ (i : Nat) (T : List Outs) (s : TapeS) (D : List DRec), i ≤ l.length ∧ v15 = .int .i64 i ∧ s.used ≤ i ∧ T.length = n ∧ DRel D T ∧ D.length ≤ i ∧ POwn w1 wr S T ∧ TBeside w1 wr b s S.bs v12 v13 v14 ∧ Lot wr w2.heap.size (rows3 v12 v13 v14 D) ∧ w2.heap.size ≤ wr.heap.size) (fun _ _ _ v15 _ _ _ _ _ _ _ _ _ _ => l.length - (intOf v15).toNat)
  case atStart => exact ⟨0, List.replicate n [], ⟨seed, first, 0⟩, [], by omega, rfl, by simp, by simp, drel_start n, by simp, HO.out, HB.out, lot3_nil _, Nat.le_refl _⟩
  case round =>
    obtain ⟨i, T, s, D, hi, rfl, hsu, hTn, hdr, hDi, ho, htb, hlot, hzr⟩ := hrel
    clear HO HB
    have HO := Lib.hid ho
    have HTB := Lib.hid htb
    have HLOT := Lib.hid hlot
    have HDR := Lib.hid hdr
    obtain ⟨x1, c1, e1⟩ := hlot.slice (i := 0) rfl
    obtain ⟨x2, c2, e2⟩ := hlot.slice (i := 1) rfl
    obtain ⟨x3, c3, e3⟩ := hlot.slice (i := 2) rfl
    simp only [rowU', rowI', List.length_map] at e1 e2 e3
    subst e1 e2 e3
    have hla := HAT.out.kept ho.kp
    clear ho htb hlot hdr
    by_cases hlt : i < l.length
    · obtain ⟨ba, oa, rfl, hba, d0, d1, d2, hk8, hu64, hs64⟩ := hla i hlt
      obtain ⟨x, hx⟩ : ∃ x, l[i] = x := ⟨_, rfl⟩
      rw [hx] at d0 d1 d2 hk8 hu64 hs64
      obtain ⟨xk, xu, xs⟩ := x
      simp only at d0 d1 d2 hk8 hu64 hs64
      have HIN := Lib.hid (show ∀ x, In3 (.slice x1 D.length c1) (.slice x2 D.length c2) (.slice x3 D.length c3) x → x < wr.heap.size from fun x hx => (lot_in3 HLOT.out hx).2)
      have hka := (Kept.refl (M := fun _ => False) wr).alloc (.cells #[.int .u8 xk, .int .i64 xu, .int .i64 xs] 33)
      have hsb := new_blk wr (.cells #[.int .u8 xk, .int .i64 xu, .int .i64 xs] 33)
      replace HO := Lib.hid (HO.out.look hka)
      replace HTB := Lib.hid (HTB.out.look hka)
      replace HLOT := Lib.hid (HLOT.out.look hka)
      obtain ⟨sb, hsbe⟩ : ∃ sb, wr.heap.size = sb := ⟨_, rfl⟩
      have hz5 := hka.size
      rw [hsbe] at hsb HIN
      obtain ⟨w5, hw5⟩ : ∃ w5, wr.alloc (.cells #[.int .u8 xk, .int .i64 xu, .int .i64 xs] 33) = w5 := ⟨_, rfl⟩
      rw [hw5] at HO HTB HLOT hsb hz5
      have HSB := Lib.hid hsb
      have hsb5 := lt_of_block hsb
      have q0 := cell_blk hsb 0
      have q1 := cell_blk hsb 1
      have q2 := cell_blk hsb 2
      simp at q0 q1 q2
      have hl200 : D.length ≤ 200 := by omega
      clear hx hla hka hsb hba
      by_cases hk0 : xk = 0
      · subst hk0
        by_cases hok : drawOk T xu xs
        · have hin : 0 ≤ xu ∧ xu < T.length := hok.1
          have hsh := drel_short HDR.out hin
          obtain ⟨hr1, hr2⟩ := drawR_yes (s := s) hok (by omega)
          have hfr := idOf_free (m := atT T xu) (by omega) (s.draw % 65536)
          have hu16 := idOf_u16 (atT T xu) (s.draw % 65536)
          obtain ⟨nid, hid⟩ : ∃ nid, idOf (atT T xu) (s.draw % 65536) = nid := ⟨_, rfl⟩
          rw [hid] at hr1 hr2 hfr hu16
          have HR2 := Lib.hid hr2
          have HFR := Lib.hid (fun (r : DRec) (hr : r ∈ D) (h1 : r.u = xu) (h2 : r.id = nid) => drel_fresh HDR.out hfr hr h1 h2)
          have HR1 := Lib.hid hr1
          clear hr1 hr2 hfr hid hsh
          go_wp2_with fail
          obtain ⟨L5, ht5, hbs5, hin5⟩ := HTB.out
          refine (pown_draw HO (Lib.hid ht5) hbs5 HNF.out (by omega) xu xs nid 0 HR1.out).mono ?_
          rintro e w6 ⟨rfl, ho6, ht6, hk6⟩
          rw [HR2.out] at ho6 ht6
          have hfoot := HFT.out
          have hM : ∀ x, w2.heap.size ≤ x → ¬ (x = b ∨ x ∈ S.bs) := fun x hx h => by
            rcases h with h | h
            · omega
            · have := hfoot x (foot_bs h); omega
          have HO6 := Lib.hid ho6
          have HTB6 := Lib.hid (show TBeside w1 w6 b s.next S.bs _ _ _ from ⟨L5, ht6, hbs5, hin5⟩)
          have HLOT6 := Lib.hid (HLOT.out.kept hk6 hM)
          have hsb6 := hk6.heap HSB.out (hM sb (by omega))
          have HSB6 := Lib.hid hsb6
          have hz6 := hk6.size
          clear ht5 hbs5 hin5 ho6 ht6 hk6 hfoot hM HO HTB HLOT HSB hsb6 hw5 q0 q1 q2
          go_wp2_with fail
          go_loopw [19] (fun c wx => ∃ k : Nat, k ≤ D.length ∧ c = .int .i64 k ∧ Kept (fun _ => False) w6 wx) (fun c _ => D.length - (intOf c).toNat)
          case atStart => exact ⟨0, by omega, rfl, Kept.refl _⟩
          case round =>
            obtain ⟨k, hk, rfl, hkx⟩ := hrel
            have KX := Lib.hid hkx
            have hCB := hkx.heap HSB6.out id
            have q1 := cell_blk hCB 1
            simp at q1
            clear hkx hCB
            by_cases hkD : k < D.length
            · obtain ⟨rec, hrec⟩ : ∃ rec, D[k] = rec := ⟨_, rfl⟩
              have hrm : rec ∈ D := by rw [← hrec]; exact List.getElem_mem hkD
              obtain ⟨g1, g2, g3, rfl, rfl, rfl, y1, -, y3⟩ := lot3_at (HLOT6.out.look KX.out) (k := k) (r := rec) (by rw [List.getElem?_eq_getElem hkD, hrec])
              obtain ⟨ru, rs, rid⟩ := rec
              simp only at y1 y3
              have hne : ru = xu → rid ≠ nid := fun h1 h2 => HFR.out _ hrm h1 h2
              clear hrec hrm
              by_cases hux : ru = xu
              · subst hux
                have n1 : (rid == nid) = false := by simpa using hne rfl
                clear hne
                go_wp2_with fail
                go_quiet (fail)
                go_wp2_with fail
                go_roundw
                case measure => simp [intOf]; omega
                case rel => exact ⟨k + 1, by omega, by go_num, KX.out.drewN _⟩
              · have n0 : (ru == xu) = false := by simpa using hux
                clear hne hux
                go_wp2_with fail
                go_quiet (fail)
                go_wp2_with fail
                go_roundw
                case measure => simp [intOf]; omega
                case rel => exact ⟨k + 1, by omega, by go_num, KX.out.drewN _⟩
            · obtain rfl : k = D.length := by omega
              clear hkD hk
              have HLr := Lib.hid (HLOT6.out.look KX.out)
              have HSBr := Lib.hid (KX.out.heap HSB6.out id)
              have hzr := KX.out.size
              have HOK := Lib.hid (show (push3 (.slice x1 D.length c1) (.slice x2 D.length c2) (.slice x3 D.length c3) D ⟨xu, xs, nid⟩ 3 8 12 4 9 13 14 15 16).ok from push3_ok (by omega) (by decide))
              have HNO := Lib.hid (show ¬ (push3 (.slice x1 D.length c1) (.slice x2 D.length c2) (.slice x3 D.length c3) D ⟨xu, xs, nid⟩ 3 8 12 4 9 13 14 15 16).old sb from fun h => by have := HIN.out sb ((push3_old sb).1 h); omega)
              go_wp2_with fail
              refine wp_region_rel ((some ?av0) :: (some ?av1) :: (some ?av2) :: (none) :: (none) :: (some ?av5) :: (some ?av6) :: (some ?av7) :: (none) :: (none) :: (some ?av10) :: (some ?av11) :: (none) :: (none) :: (none) :: (none) :: (none) :: []) (P3 (push3 (.slice x1 D.length c1) (.slice x2 D.length c2) (.slice x3 D.length c3) D ⟨xu, xs, nid⟩ 3 8 12 4 9 13 14 15 16) wr w2.heap.size) (fun j => j == 14 || j == 15 || j == 16) (by kernel_rfl) (by kernel_rfl) [some 97, some 98, some 99, some 100, some 101, some 102, some 103, some 104, some 105, some 106, some 107, some 108, some 109, some 110, some 12, some 13, some 14] rfl rfl ?aA ?aAp ?ahA ?ahAp ?ah0 ?aH ?ahQ
              case ahA => intro F; simp only [valsFrom, Option.getD_some, Option.getD_none, Nat.zero_add, Nat.reduceAdd, laidAll, Act.put, List.setIfInBounds_toArray, List.set_cons_zero, List.set_cons_succ]; try rfl
              case ahAp => intro F; change laidAll _ [some 97, some 98, some 99, some 100, some 101, some 102, some 103, some 104, some 105, some 106, some 107, some 108, some 109, some 110, none, none, none] _ = _; simp only [valsFrom, Option.getD_some, Option.getD_none, Nat.zero_add, Nat.reduceAdd, laidAll, Act.put, List.setIfInBounds_toArray, List.set_cons_zero, List.set_cons_succ]; try rfl
              case ah0 => exact push3_start HLr.out (by omega)
              case aH =>
                intro F g wx hJ hF
                refine ⟨fun hp => ?_, ?_⟩
                · first | (refine RelStep.yields hJ (Or.inl ⟨by rfl, ?_⟩); intro w; go_simp; (try with_reducible rfl); done) | (refine RelStep.reads hJ (by rfl) ?_; have qa := hJ.kp.heap HSBr.out HNO.out; have q1 := cell_blk qa 1; have q2 := cell_blk qa 2; simp at q1 q2; go_simp; (try with_reducible rfl); done)
                refine ⟨fun hp => ?_, ?_⟩
                · first | (refine RelStep.yields hJ (Or.inl ⟨by rfl, ?_⟩); intro w; go_simp; (try with_reducible rfl); done) | (refine RelStep.reads hJ (by rfl) ?_; have qa := hJ.kp.heap HSBr.out HNO.out; have q1 := cell_blk qa 1; have q2 := cell_blk qa 2; simp at q1 q2; go_simp; (try with_reducible rfl); done)
                refine ⟨fun hp => ?_, ?_⟩
                · first | (refine RelStep.yields hJ (Or.inl ⟨by rfl, ?_⟩); intro w; go_simp; (try with_reducible rfl); done) | (refine RelStep.reads hJ (by rfl) ?_; have qa := hJ.kp.heap HSBr.out HNO.out; have q1 := cell_blk qa 1; have q2 := cell_blk qa 2; simp at q1 q2; go_simp; (try with_reducible rfl); done)
                refine ⟨fun hp => ?_, ?_⟩
                · refine RelStep.finds (by rfl) _ _ ?ar3 (p3_build HOK.out hJ (i := 0) (by decide))
                  case ar3 => go_simp; try rfl
                refine ⟨fun hp => ?_, ?_⟩
                · obtain ⟨x1, h1⟩ := hp ⟨3, .data⟩ (by simp) rfl rfl
                  refine RelStep.append rfl (.tmp 97) (.tmp 100) 30 30 rfl _ _ rfl (by show F 3 = _; exact hF 3 x1 h1) (fun hn => p3_push HOK.out hJ (i := 0) (by decide) h1 hn 30 30 Try.underlying30 (z := .int .i64 0) (bytes := 8) (by kernel_rfl) rfl (by decide))
                refine ⟨fun hp => ?_, ?_⟩
                · first | (refine RelStep.yields hJ (Or.inl ⟨by rfl, ?_⟩); intro w; go_simp; (try with_reducible rfl); done) | (refine RelStep.reads hJ (by rfl) ?_; have qa := hJ.kp.heap HSBr.out HNO.out; have q1 := cell_blk qa 1; have q2 := cell_blk qa 2; simp at q1 q2; go_simp; (try with_reducible rfl); done)
                refine ⟨fun hp => ?_, ?_⟩
                · first | (refine RelStep.yields hJ (Or.inl ⟨by rfl, ?_⟩); intro w; go_simp; (try with_reducible rfl); done) | (refine RelStep.reads hJ (by rfl) ?_; have qa := hJ.kp.heap HSBr.out HNO.out; have q1 := cell_blk qa 1; have q2 := cell_blk qa 2; simp at q1 q2; go_simp; (try with_reducible rfl); done)
                refine ⟨fun hp => ?_, ?_⟩
                · first | (refine RelStep.yields hJ (Or.inl ⟨by rfl, ?_⟩); intro w; go_simp; (try with_reducible rfl); done) | (refine RelStep.reads hJ (by rfl) ?_; have qa := hJ.kp.heap HSBr.out HNO.out; have q1 := cell_blk qa 1; have q2 := cell_blk qa 2; simp at q1 q2; go_simp; (try with_reducible rfl); done)
                refine ⟨fun hp => ?_, ?_⟩
                · refine RelStep.finds (by rfl) _ _ ?ar8 (p3_build HOK.out hJ (i := 1) (by decide))
                  case ar8 => go_simp; try rfl
                refine ⟨fun hp => ?_, ?_⟩
                · obtain ⟨x1, h1⟩ := hp ⟨8, .data⟩ (by simp) rfl rfl
                  refine RelStep.append rfl (.tmp 102) (.tmp 105) 30 30 rfl _ _ rfl (by show F 8 = _; exact hF 8 x1 h1) (fun hn => p3_push HOK.out hJ (i := 1) (by decide) h1 hn 30 30 Try.underlying30 (z := .int .i64 0) (bytes := 8) (by kernel_rfl) rfl (by decide))
                refine ⟨fun hp => ?_, ?_⟩
                · first | (refine RelStep.yields hJ (Or.inl ⟨by rfl, ?_⟩); intro w; go_simp; (try with_reducible rfl); done) | (refine RelStep.reads hJ (by rfl) ?_; have qa := hJ.kp.heap HSBr.out HNO.out; have q1 := cell_blk qa 1; have q2 := cell_blk qa 2; simp at q1 q2; go_simp; (try with_reducible rfl); done)
                refine ⟨fun hp => ?_, ?_⟩
                · first | (refine RelStep.yields hJ (Or.inl ⟨by rfl, ?_⟩); intro w; go_simp; (try with_reducible rfl); done) | (refine RelStep.reads hJ (by rfl) ?_; have qa := hJ.kp.heap HSBr.out HNO.out; have q1 := cell_blk qa 1; have q2 := cell_blk qa 2; simp at q1 q2; go_simp; (try with_reducible rfl); done)
                refine ⟨fun hp => ?_, ?_⟩
                · refine RelStep.finds (by rfl) _ _ ?ar12 (p3_build HOK.out hJ (i := 2) (by decide))
                  case ar12 => go_simp; try rfl
                refine ⟨fun hp => ?_, ?_⟩
                · obtain ⟨x1, h1⟩ := hp ⟨12, .data⟩ (by simp) rfl rfl
                  refine RelStep.append rfl (.tmp 107) (.tmp 109) 31 31 rfl _ _ rfl (by show F 12 = _; exact hF 12 x1 h1) (fun hn => p3_push HOK.out hJ (i := 2) (by decide) h1 hn 31 31 Try.underlying31 (z := .int .u16 0) (bytes := 2) (by kernel_rfl) rfl (by decide))
                refine ⟨fun hp => ?_, ?_⟩
                · obtain ⟨x1, h1⟩ := hp ⟨4, .data⟩ (by simp) rfl rfl
                  refine RelStep.finds (by rfl) (F 4) wx ?ar14 (by rw [hF 4 x1 h1]; exact p3_set HOK.out hJ (i := 0) (by decide) h1)
                  case ar14 => go_simp
                refine ⟨fun hp => ?_, ?_⟩
                · obtain ⟨x1, h1⟩ := hp ⟨9, .data⟩ (by simp) rfl rfl
                  refine RelStep.finds (by rfl) (F 9) wx ?ar15 (by rw [hF 9 x1 h1]; exact p3_set HOK.out hJ (i := 1) (by decide) h1)
                  case ar15 => go_simp
                refine ⟨fun hp => ?_, ?_⟩
                · obtain ⟨x1, h1⟩ := hp ⟨13, .data⟩ (by simp) rfl rfl
                  refine RelStep.finds (by rfl) (F 13) wx ?ar16 (by rw [hF 13 x1 h1]; exact p3_set HOK.out hJ (i := 2) (by decide) h1)
                  case ar16 => go_simp
                exact trivial
              case ahQ =>
                intro F w8 hJ
                have hE : Pushed3 wr w8 w2.heap.size (.slice x1 D.length c1) (.slice x2 D.length c2) (.slice x3 D.length c3) (F 14) (F 15) (F 16) (D ++ [⟨xu, xs, nid⟩]) := push3_end hJ rfl rfl rfl
                have hlo := fun x hx => (lot_in3 HLr.out (x := x) hx).1
                have hfoot := HFT.out
                have HO8 := Lib.hid ((HO6.out.look KX.out).aside hE.kp (fun x hx h => by have := hlo x h; have := hfoot x hx; omega) (fun x hx h => by have := hlo x h; omega))
                have HTB8 := Lib.hid ((HTB6.out.look KX.out).push hE.kp hE.new (fun x hx => (lot_in3 hE.lot hx).2) (fun h => by have := hlo b h; omega) (fun x h => by have := hlo x h; omega))
                have HL8 := Lib.hid hE.lot
                have hz8 := hE.kp.size
                have HD8 := Lib.hid (drel_draw HDR.out (slot := xs) (id := nid) hin)
                have hsn : s.next.used ≤ i + 1 := by rw [TapeS.next_used]; omega
                have hTl : (drawT T xu xs nid).length = n := by unfold drawT; rw [List.length_set]; exact hTn
                clear hE hlo hfoot hJ HLr HO6 HTB6 HLOT6 HSB6 HSBr KX HOK HNO HIN HDR
                go_wp2_with fail
                go_roundw
                case measure => simp [intOf]; omega
                case rel => exact ⟨i + 1, drawT T xu xs nid, s.next, D ++ [⟨xu, xs, nid⟩], by omega, by go_num, hsn, hTl, HD8.out, by simp; omega, HO8.out, HTB8.out, HL8.out, by omega⟩
        · obtain ⟨hr1, hr2⟩ := drawR_no (T := T) (s := s) hok
          have HR1 := Lib.hid hr1
          have HR2 := Lib.hid hr2
          clear hr1 hr2
          go_wp2_with fail
          obtain ⟨L5, ht5, hbs5, hin5⟩ := HTB.out
          refine (pown_draw HO (Lib.hid ht5) hbs5 HNF.out (by omega) xu xs 0 1 HR1.out).mono ?_
          rintro e w6 ⟨rfl, ho6, ht6, hk6⟩
          rw [HR2.out] at ho6 ht6
          have hfoot := HFT.out
          have hM : ∀ x, w2.heap.size ≤ x → ¬ (x = b ∨ x ∈ S.bs) := fun x hx h => by
            rcases h with h | h
            · omega
            · have := hfoot x (foot_bs h); omega
          have HO6 := Lib.hid ho6
          have HTB6 := Lib.hid (show TBeside w1 w6 b s S.bs _ _ _ from ⟨L5, ht6, hbs5, hin5⟩)
          have HLOT6 := Lib.hid (HLOT.out.kept hk6 hM)
          have hz6 := hk6.size
          clear ht5 hbs5 hin5 ho6 ht6 hk6 hfoot hM HO HTB HLOT HSB hw5 q0 q1 q2
          go_wp2_with fail
          go_roundw
          case measure => simp [intOf]; omega
          case rel => exact ⟨i + 1, T, s, D, by omega, by go_num, by omega, hTn, HDR.out, by omega, HO6.out, HTB6.out, HLOT6.out, by omega⟩
      · have b0 : (xk == 0) = false := by simpa using hk0
        obtain ⟨Y, hY⟩ : ∃ Y, actS (T, s) ⟨xk, xu, xs⟩ = Y := ⟨_, rfl⟩
        have hTl := actS_len (T, s) ⟨xk, xu, xs⟩
        have hus := actS_used (T, s) ⟨xk, xu, xs⟩
        have hdr2 := drel_act (s := s) HDR.out ⟨xk, xu, xs⟩ hk0
        rw [hY] at hTl hus hdr2
        obtain ⟨T', s'⟩ := Y
        simp only at hTl hus hdr2
        have HY := Lib.hid hY
        have HDR2 := Lib.hid hdr2
        clear hY hdr2
        go_wp2_with fail
        obtain ⟨L5, ht5, hbs5, hin5⟩ := HTB.out
        refine (pdoes_any HO (Lib.hid ht5) hbs5 HNF.out (by omega) ⟨xk, xu, xs⟩).mono ?_
        rintro e w6 ⟨rfl, ho6, ht6, hk6⟩
        rw [HY.out] at ho6 ht6
        have hfoot := HFT.out
        have hM : ∀ x, w2.heap.size ≤ x → ¬ (x = b ∨ x ∈ S.bs) := fun x hx h => by
          rcases h with h | h
          · omega
          · have := hfoot x (foot_bs h); omega
        have HO6 := Lib.hid ho6
        have HTN := Lib.hid (tbeside_nil ht6 hbs5)
        have HLOT6 := Lib.hid (HLOT.out.kept hk6 hM)
        have hsb6 := hk6.heap HSB.out (hM sb (by omega))
        have HSB6 := Lib.hid hsb6
        have hz6 := hk6.size
        clear ht5 hbs5 hin5 ho6 ht6 hk6 hfoot hM HO HTB HLOT HSB hsb6 hw5 q0 q1 q2 HDR HY
        go_wp2_with fail
        go_loopw [20, 21, 22, 23, 24] (fun v20 v21 v22 v23 _ wx => ∃ (k : Nat) (D2 : List DRec), k ≤ D.length ∧ v23 = .int .i64 k ∧ D2 = afterD ⟨xk, xu, xs⟩ (D.take k) ∧ Lot wx w6.heap.size (rows3 v20 v21 v22 D2) ∧ TBeside w1 wx b s' S.bs v20 v21 v22 ∧ Kept (fun _ => False) w6 wx) (fun _ _ _ v23 _ _ => D.length - (intOf v23).toNat)
        case atStart => exact ⟨0, [], by omega, rfl, rfl, lot3_nil _, HTN.out, Kept.refl _⟩
        case round =>
          obtain ⟨k, D2, hk, rfl, hD2, hl2, ht2, hkx⟩ := hrel
          clear HTN
          have HL := Lib.hid hl2
          have HT := Lib.hid ht2
          have KX := Lib.hid hkx
          have hD2l : D2.length ≤ k := by rw [hD2]; have := List.length_filter_le (fun r => !goneB ⟨xk, xu, xs⟩ r) (D.take k); simp at this; unfold afterD; omega
          obtain ⟨z1, e1, f1⟩ := hl2.slice (i := 0) rfl
          obtain ⟨z2, e2, f2⟩ := hl2.slice (i := 1) rfl
          obtain ⟨z3, e3, f3⟩ := hl2.slice (i := 2) rfl
          simp only [rowU', rowI', List.length_map] at f1 f2 f3
          subst f1 f2 f3
          have HNEW := Lib.hid (show ∀ x, In3 (.slice z1 D2.length e1) (.slice z2 D2.length e2) (.slice z3 D2.length e3) x → w6.heap.size ≤ x from fun x hx => (lot_in3 hl2 hx).1)
          have hCB := hkx.heap HSB6.out id
          have q0 := cell_blk hCB 0
          have q1 := cell_blk hCB 1
          have q2 := cell_blk hCB 2
          simp at q0 q1 q2
          have hzx := hkx.size
          clear hl2 ht2 hCB
          by_cases hkD : k < D.length
          · obtain ⟨rec, hrec⟩ : ∃ rec, D[k] = rec := ⟨_, rfl⟩
            have hST : afterD ⟨xk, xu, xs⟩ (D.take (k + 1)) = D2 ++ if goneB ⟨xk, xu, xs⟩ rec then [] else [rec] := by
              rw [hD2, List.take_succ_eq_append_getElem hkD, hrec]
              unfold afterD
              rw [List.filter_append]
              cases hg : goneB ⟨xk, xu, xs⟩ rec <;> simp [hg]
            obtain ⟨g1, g2, g3, rfl, rfl, rfl, y1, y2, y3⟩ := lot3_at (HLOT6.out.look hkx) (k := k) (r := rec) (by rw [List.getElem?_eq_getElem hkD, hrec])
            have hg1 := (lot_in3 HLOT6.out (x := g1) (.inl rfl)).2
            have hg2 := (lot_in3 HLOT6.out (x := g2) (.inr (.inl rfl))).2
            have hg3 := (lot_in3 HLOT6.out (x := g3) (.inr (.inr rfl))).2
            obtain ⟨ru, rs, rid⟩ := rec
            simp only [goneB] at hST
            simp only at y1 y2 y3
            clear hrec hkx hD2
            by_cases a1 : xk = 1
            · by_cases a3 : rs = xs
              · have n1 : (xk == 1) = true := by simpa using a1
                have n3 : (rs == xs) = true := by simpa using a3
                have HST := Lib.hid (show afterD ⟨xk, xu, xs⟩ (D.take (k + 1)) = D2 ++ [] by rw [hST]; simp [a1, a3])
                clear hST a1 a3 b0
                go_wp2_with fail
                go_quiet (fail)
                have hk7 := (Kept.refl (M := fun _ => False) wr).drewN nq
                go_wp2_with fail
                go_roundw
                case measure => simp [intOf]; omega
                case rel => exact ⟨k + 1, D2, by omega, by go_num, by rw [HST.out, List.append_nil], HL.out.look hk7, HT.out.look hk7, KX.out.trans hk7⟩
              · have n1 : (xk == 1) = true := by simpa using a1
                have n2 : (xk == 2) = false := by simp [a1]
                have n3 : (rs == xs) = false := by simpa using a3
                have HST := Lib.hid (show afterD ⟨xk, xu, xs⟩ (D.take (k + 1)) = D2 ++ [⟨ru, rs, rid⟩] by rw [hST]; simp [a1, a3])
                clear hST a1 a3 b0
                have HOK := Lib.hid (show (push3 (.slice z1 D2.length e1) (.slice z2 D2.length e2) (.slice z3 D2.length e3) D2 ⟨ru, rs, rid⟩ 5 12 19 6 13 20 21 22 23).ok from push3_ok (by omega) (by decide))
                have HNOa := Lib.hid (show ¬ (push3 (.slice z1 D2.length e1) (.slice z2 D2.length e2) (.slice z3 D2.length e3) D2 ⟨ru, rs, rid⟩ 5 12 19 6 13 20 21 22 23).old g1 ∧ ¬ (push3 (.slice z1 D2.length e1) (.slice z2 D2.length e2) (.slice z3 D2.length e3) D2 ⟨ru, rs, rid⟩ 5 12 19 6 13 20 21 22 23).old g2 ∧ ¬ (push3 (.slice z1 D2.length e1) (.slice z2 D2.length e2) (.slice z3 D2.length e3) D2 ⟨ru, rs, rid⟩ 5 12 19 6 13 20 21 22 23).old g3 from ⟨fun h => by have := HNEW.out g1 ((push3_old g1).1 h); omega, fun h => by have := HNEW.out g2 ((push3_old g2).1 h); omega, fun h => by have := HNEW.out g3 ((push3_old g3).1 h); omega⟩)
                go_wp2_with fail
                go_quiet (fail)
                obtain ⟨w7, hw7⟩ : ∃ w7, wr.drewN nq = w7 := ⟨_, rfl⟩
                have hk7 : Kept (fun _ => False) wr w7 := by rw [← hw7]; exact (Kept.refl _).drewN _
                rw [hw7]
                have HL7 := Lib.hid (HL.out.look hk7)
                have HT7 := Lib.hid (HT.out.look hk7)
                have K7 := Lib.hid (KX.out.trans hk7)
                have Y7 := Lib.hid (And.intro (hk7.cell y1 id) (And.intro (hk7.cell y2 id) (hk7.cell y3 id)))
                have hz7 := hk7.size
                clear hw7 hk7 HL HT KX
                go_wp2_with fail
                refine wp_region_rel ((some ?cv0) :: (some ?cv1) :: (some ?cv2) :: (some ?cv3) :: (some ?cv4) :: (none) :: (none) :: (some ?cv7) :: (some ?cv8) :: (some ?cv9) :: (some ?cv10) :: (some ?cv11) :: (none) :: (none) :: (some ?cv14) :: (some ?cv15) :: (some ?cv16) :: (some ?cv17) :: (some ?cv18) :: (none) :: (none) :: (none) :: (none) :: (none) :: []) (P3 (push3 (.slice z1 D2.length e1) (.slice z2 D2.length e2) (.slice z3 D2.length e3) D2 ⟨ru, rs, rid⟩ 5 12 19 6 13 20 21 22 23) w7 w6.heap.size) (fun j => j == 21 || j == 22 || j == 23) (by kernel_rfl) (by kernel_rfl) [some 158, some 159, some 160, some 161, some 162, some 163, some 164, some 165, some 166, some 167, some 168, some 169, some 170, some 171, some 172, some 173, some 174, some 175, some 176, some 177, some 178, some 20, some 21, some 22] rfl rfl ?cA ?cAp ?chA ?chAp ?ch0 ?cH ?chQ
                case chA => intro F; simp only [valsFrom, Option.getD_some, Option.getD_none, Nat.zero_add, Nat.reduceAdd, laidAll, Act.put, List.setIfInBounds_toArray, List.set_cons_zero, List.set_cons_succ]; try rfl
                case chAp => intro F; change laidAll _ [some 158, some 159, some 160, some 161, some 162, some 163, some 164, some 165, some 166, some 167, some 168, some 169, some 170, some 171, some 172, some 173, some 174, some 175, some 176, some 177, some 178, none, none, none] _ = _; simp only [valsFrom, Option.getD_some, Option.getD_none, Nat.zero_add, Nat.reduceAdd, laidAll, Act.put, List.setIfInBounds_toArray, List.set_cons_zero, List.set_cons_succ]; try rfl
                case ch0 => exact push3_start HL7.out (by omega)
                case cH =>
                  intro F g wx hJ hF
                  refine ⟨fun hp => ?_, ?_⟩
                  · first | (refine RelStep.yields hJ (Or.inl ⟨by rfl, ?_⟩); intro w; go_simp; (try with_reducible rfl); done) | (refine RelStep.reads hJ (by rfl) ?_; have qa := hJ.kp.cell Y7.out.1 HNOa.out.1; have qb := hJ.kp.cell Y7.out.2.1 HNOa.out.2.1; have qc := hJ.kp.cell Y7.out.2.2 HNOa.out.2.2; go_simp; (try with_reducible rfl); done)
                  refine ⟨fun hp => ?_, ?_⟩
                  · first | (refine RelStep.yields hJ (Or.inl ⟨by rfl, ?_⟩); intro w; go_simp; (try with_reducible rfl); done) | (refine RelStep.reads hJ (by rfl) ?_; have qa := hJ.kp.cell Y7.out.1 HNOa.out.1; have qb := hJ.kp.cell Y7.out.2.1 HNOa.out.2.1; have qc := hJ.kp.cell Y7.out.2.2 HNOa.out.2.2; go_simp; (try with_reducible rfl); done)
                  refine ⟨fun hp => ?_, ?_⟩
                  · first | (refine RelStep.yields hJ (Or.inl ⟨by rfl, ?_⟩); intro w; go_simp; (try with_reducible rfl); done) | (refine RelStep.reads hJ (by rfl) ?_; have qa := hJ.kp.cell Y7.out.1 HNOa.out.1; have qb := hJ.kp.cell Y7.out.2.1 HNOa.out.2.1; have qc := hJ.kp.cell Y7.out.2.2 HNOa.out.2.2; go_simp; (try with_reducible rfl); done)
                  refine ⟨fun hp => ?_, ?_⟩
                  · first | (refine RelStep.yields hJ (Or.inl ⟨by rfl, ?_⟩); intro w; go_simp; (try with_reducible rfl); done) | (refine RelStep.reads hJ (by rfl) ?_; have qa := hJ.kp.cell Y7.out.1 HNOa.out.1; have qb := hJ.kp.cell Y7.out.2.1 HNOa.out.2.1; have qc := hJ.kp.cell Y7.out.2.2 HNOa.out.2.2; go_simp; (try with_reducible rfl); done)
                  refine ⟨fun hp => ?_, ?_⟩
                  · first | (refine RelStep.yields hJ (Or.inl ⟨by rfl, ?_⟩); intro w; go_simp; (try with_reducible rfl); done) | (refine RelStep.reads hJ (by rfl) ?_; have qa := hJ.kp.cell Y7.out.1 HNOa.out.1; have qb := hJ.kp.cell Y7.out.2.1 HNOa.out.2.1; have qc := hJ.kp.cell Y7.out.2.2 HNOa.out.2.2; go_simp; (try with_reducible rfl); done)
                  refine ⟨fun hp => ?_, ?_⟩
                  · refine RelStep.finds (by rfl) _ _ ?cr5 (p3_build HOK.out hJ (i := 0) (by decide))
                    case cr5 => go_simp; try rfl
                  refine ⟨fun hp => ?_, ?_⟩
                  · obtain ⟨x1, h1⟩ := hp ⟨5, .data⟩ (by simp) rfl rfl
                    refine RelStep.append rfl (.tmp 158) (.tmp 163) 30 30 rfl _ _ rfl (by show F 5 = _; exact hF 5 x1 h1) (fun hn => p3_push HOK.out hJ (i := 0) (by decide) h1 hn 30 30 Try.underlying30 (z := .int .i64 0) (bytes := 8) (by kernel_rfl) rfl (by decide))
                  refine ⟨fun hp => ?_, ?_⟩
                  · first | (refine RelStep.yields hJ (Or.inl ⟨by rfl, ?_⟩); intro w; go_simp; (try with_reducible rfl); done) | (refine RelStep.reads hJ (by rfl) ?_; have qa := hJ.kp.cell Y7.out.1 HNOa.out.1; have qb := hJ.kp.cell Y7.out.2.1 HNOa.out.2.1; have qc := hJ.kp.cell Y7.out.2.2 HNOa.out.2.2; go_simp; (try with_reducible rfl); done)
                  refine ⟨fun hp => ?_, ?_⟩
                  · first | (refine RelStep.yields hJ (Or.inl ⟨by rfl, ?_⟩); intro w; go_simp; (try with_reducible rfl); done) | (refine RelStep.reads hJ (by rfl) ?_; have qa := hJ.kp.cell Y7.out.1 HNOa.out.1; have qb := hJ.kp.cell Y7.out.2.1 HNOa.out.2.1; have qc := hJ.kp.cell Y7.out.2.2 HNOa.out.2.2; go_simp; (try with_reducible rfl); done)
                  refine ⟨fun hp => ?_, ?_⟩
                  · first | (refine RelStep.yields hJ (Or.inl ⟨by rfl, ?_⟩); intro w; go_simp; (try with_reducible rfl); done) | (refine RelStep.reads hJ (by rfl) ?_; have qa := hJ.kp.cell Y7.out.1 HNOa.out.1; have qb := hJ.kp.cell Y7.out.2.1 HNOa.out.2.1; have qc := hJ.kp.cell Y7.out.2.2 HNOa.out.2.2; go_simp; (try with_reducible rfl); done)
                  refine ⟨fun hp => ?_, ?_⟩
                  · first | (refine RelStep.yields hJ (Or.inl ⟨by rfl, ?_⟩); intro w; go_simp; (try with_reducible rfl); done) | (refine RelStep.reads hJ (by rfl) ?_; have qa := hJ.kp.cell Y7.out.1 HNOa.out.1; have qb := hJ.kp.cell Y7.out.2.1 HNOa.out.2.1; have qc := hJ.kp.cell Y7.out.2.2 HNOa.out.2.2; go_simp; (try with_reducible rfl); done)
                  refine ⟨fun hp => ?_, ?_⟩
                  · first | (refine RelStep.yields hJ (Or.inl ⟨by rfl, ?_⟩); intro w; go_simp; (try with_reducible rfl); done) | (refine RelStep.reads hJ (by rfl) ?_; have qa := hJ.kp.cell Y7.out.1 HNOa.out.1; have qb := hJ.kp.cell Y7.out.2.1 HNOa.out.2.1; have qc := hJ.kp.cell Y7.out.2.2 HNOa.out.2.2; go_simp; (try with_reducible rfl); done)
                  refine ⟨fun hp => ?_, ?_⟩
                  · refine RelStep.finds (by rfl) _ _ ?cr12 (p3_build HOK.out hJ (i := 1) (by decide))
                    case cr12 => go_simp; try rfl
                  refine ⟨fun hp => ?_, ?_⟩
                  · obtain ⟨x1, h1⟩ := hp ⟨12, .data⟩ (by simp) rfl rfl
                    refine RelStep.append rfl (.tmp 165) (.tmp 170) 30 30 rfl _ _ rfl (by show F 12 = _; exact hF 12 x1 h1) (fun hn => p3_push HOK.out hJ (i := 1) (by decide) h1 hn 30 30 Try.underlying30 (z := .int .i64 0) (bytes := 8) (by kernel_rfl) rfl (by decide))
                  refine ⟨fun hp => ?_, ?_⟩
                  · first | (refine RelStep.yields hJ (Or.inl ⟨by rfl, ?_⟩); intro w; go_simp; (try with_reducible rfl); done) | (refine RelStep.reads hJ (by rfl) ?_; have qa := hJ.kp.cell Y7.out.1 HNOa.out.1; have qb := hJ.kp.cell Y7.out.2.1 HNOa.out.2.1; have qc := hJ.kp.cell Y7.out.2.2 HNOa.out.2.2; go_simp; (try with_reducible rfl); done)
                  refine ⟨fun hp => ?_, ?_⟩
                  · first | (refine RelStep.yields hJ (Or.inl ⟨by rfl, ?_⟩); intro w; go_simp; (try with_reducible rfl); done) | (refine RelStep.reads hJ (by rfl) ?_; have qa := hJ.kp.cell Y7.out.1 HNOa.out.1; have qb := hJ.kp.cell Y7.out.2.1 HNOa.out.2.1; have qc := hJ.kp.cell Y7.out.2.2 HNOa.out.2.2; go_simp; (try with_reducible rfl); done)
                  refine ⟨fun hp => ?_, ?_⟩
                  · first | (refine RelStep.yields hJ (Or.inl ⟨by rfl, ?_⟩); intro w; go_simp; (try with_reducible rfl); done) | (refine RelStep.reads hJ (by rfl) ?_; have qa := hJ.kp.cell Y7.out.1 HNOa.out.1; have qb := hJ.kp.cell Y7.out.2.1 HNOa.out.2.1; have qc := hJ.kp.cell Y7.out.2.2 HNOa.out.2.2; go_simp; (try with_reducible rfl); done)
                  refine ⟨fun hp => ?_, ?_⟩
                  · first | (refine RelStep.yields hJ (Or.inl ⟨by rfl, ?_⟩); intro w; go_simp; (try with_reducible rfl); done) | (refine RelStep.reads hJ (by rfl) ?_; have qa := hJ.kp.cell Y7.out.1 HNOa.out.1; have qb := hJ.kp.cell Y7.out.2.1 HNOa.out.2.1; have qc := hJ.kp.cell Y7.out.2.2 HNOa.out.2.2; go_simp; (try with_reducible rfl); done)
                  refine ⟨fun hp => ?_, ?_⟩
                  · first | (refine RelStep.yields hJ (Or.inl ⟨by rfl, ?_⟩); intro w; go_simp; (try with_reducible rfl); done) | (refine RelStep.reads hJ (by rfl) ?_; have qa := hJ.kp.cell Y7.out.1 HNOa.out.1; have qb := hJ.kp.cell Y7.out.2.1 HNOa.out.2.1; have qc := hJ.kp.cell Y7.out.2.2 HNOa.out.2.2; go_simp; (try with_reducible rfl); done)
                  refine ⟨fun hp => ?_, ?_⟩
                  · refine RelStep.finds (by rfl) _ _ ?cr19 (p3_build HOK.out hJ (i := 2) (by decide))
                    case cr19 => go_simp; try rfl
                  refine ⟨fun hp => ?_, ?_⟩
                  · obtain ⟨x1, h1⟩ := hp ⟨19, .data⟩ (by simp) rfl rfl
                    refine RelStep.append rfl (.tmp 172) (.tmp 177) 31 31 rfl _ _ rfl (by show F 19 = _; exact hF 19 x1 h1) (fun hn => p3_push HOK.out hJ (i := 2) (by decide) h1 hn 31 31 Try.underlying31 (z := .int .u16 0) (bytes := 2) (by kernel_rfl) rfl (by decide))
                  refine ⟨fun hp => ?_, ?_⟩
                  · obtain ⟨x1, h1⟩ := hp ⟨6, .data⟩ (by simp) rfl rfl
                    refine RelStep.finds (by rfl) (F 6) wx ?cr21 (by rw [hF 6 x1 h1]; exact p3_set HOK.out hJ (i := 0) (by decide) h1)
                    case cr21 => go_simp
                  refine ⟨fun hp => ?_, ?_⟩
                  · obtain ⟨x1, h1⟩ := hp ⟨13, .data⟩ (by simp) rfl rfl
                    refine RelStep.finds (by rfl) (F 13) wx ?cr22 (by rw [hF 13 x1 h1]; exact p3_set HOK.out hJ (i := 1) (by decide) h1)
                    case cr22 => go_simp
                  refine ⟨fun hp => ?_, ?_⟩
                  · obtain ⟨x1, h1⟩ := hp ⟨20, .data⟩ (by simp) rfl rfl
                    refine RelStep.finds (by rfl) (F 20) wx ?cr23 (by rw [hF 20 x1 h1]; exact p3_set HOK.out hJ (i := 2) (by decide) h1)
                    case cr23 => go_simp
                  exact trivial
                case chQ =>
                  intro F w8 hJ
                  have hE : Pushed3 w7 w8 w6.heap.size (.slice z1 D2.length e1) (.slice z2 D2.length e2) (.slice z3 D2.length e3) (F 21) (F 22) (F 23) (D2 ++ [⟨ru, rs, rid⟩]) := push3_end hJ rfl rfl rfl
                  have hlo := HNEW.out
                  have HT8 := Lib.hid (HT7.out.push hE.kp hE.new (fun x hx => (lot_in3 hE.lot hx).2) (fun h => by have := hlo b h; omega) (fun x h => by have := hlo x h; omega))
                  have HL8 := Lib.hid hE.lot
                  have K8 := Lib.hid (K7.out.then hE.kp (fun x hx h => by have := hlo x h; omega))
                  clear hE hlo hJ HL7 HT7 K7 HOK HNOa
                  go_wp2_with fail
                  go_roundw
                  case measure => simp [intOf]; omega
                  case rel => exact ⟨k + 1, D2 ++ [⟨ru, rs, rid⟩], by omega, by go_num, by rw [HST.out], HL8.out, HT8.out, K8.out⟩
            · have n1 : (xk == 1) = false := by simpa using a1
              by_cases a2 : xk = 2
              · have n2 : (xk == 2) = true := by simpa using a2
                by_cases a3 : rs = xs
                · have n3 : (rs == xs) = true := by simpa using a3
                  by_cases a4 : ru = xu
                  · have n4 : (ru == xu) = true := by simpa using a4
                    have HST := Lib.hid (show afterD ⟨xk, xu, xs⟩ (D.take (k + 1)) = D2 ++ [] by rw [hST]; simp [a1, a2, a3, a4])
                    clear hST a1 a2 a3 a4 b0
                    go_wp2_with fail
                    go_quiet (fail)
                    have hk7 := (Kept.refl (M := fun _ => False) wr).drewN nq
                    go_wp2_with fail
                    go_roundw
                    case measure => simp [intOf]; omega
                    case rel => exact ⟨k + 1, D2, by omega, by go_num, by rw [HST.out, List.append_nil], HL.out.look hk7, HT.out.look hk7, KX.out.trans hk7⟩
                  · have n4 : (ru == xu) = false := by simpa using a4
                    have HST := Lib.hid (show afterD ⟨xk, xu, xs⟩ (D.take (k + 1)) = D2 ++ [⟨ru, rs, rid⟩] by rw [hST]; simp [a1, a2, a3, a4])
                    clear hST a1 a2 a3 a4 b0
                    have HOK := Lib.hid (show (push3 (.slice z1 D2.length e1) (.slice z2 D2.length e2) (.slice z3 D2.length e3) D2 ⟨ru, rs, rid⟩ 5 12 19 6 13 20 21 22 23).ok from push3_ok (by omega) (by decide))
                    have HNOa := Lib.hid (show ¬ (push3 (.slice z1 D2.length e1) (.slice z2 D2.length e2) (.slice z3 D2.length e3) D2 ⟨ru, rs, rid⟩ 5 12 19 6 13 20 21 22 23).old g1 ∧ ¬ (push3 (.slice z1 D2.length e1) (.slice z2 D2.length e2) (.slice z3 D2.length e3) D2 ⟨ru, rs, rid⟩ 5 12 19 6 13 20 21 22 23).old g2 ∧ ¬ (push3 (.slice z1 D2.length e1) (.slice z2 D2.length e2) (.slice z3 D2.length e3) D2 ⟨ru, rs, rid⟩ 5 12 19 6 13 20 21 22 23).old g3 from ⟨fun h => by have := HNEW.out g1 ((push3_old g1).1 h); omega, fun h => by have := HNEW.out g2 ((push3_old g2).1 h); omega, fun h => by have := HNEW.out g3 ((push3_old g3).1 h); omega⟩)
                    go_wp2_with fail
                    go_quiet (fail)
                    obtain ⟨w7, hw7⟩ : ∃ w7, wr.drewN nq = w7 := ⟨_, rfl⟩
                    have hk7 : Kept (fun _ => False) wr w7 := by rw [← hw7]; exact (Kept.refl _).drewN _
                    rw [hw7]
                    have HL7 := Lib.hid (HL.out.look hk7)
                    have HT7 := Lib.hid (HT.out.look hk7)
                    have K7 := Lib.hid (KX.out.trans hk7)
                    have Y7 := Lib.hid (And.intro (hk7.cell y1 id) (And.intro (hk7.cell y2 id) (hk7.cell y3 id)))
                    have hz7 := hk7.size
                    clear hw7 hk7 HL HT KX
                    go_wp2_with fail
                    refine wp_region_rel ((some ?fv0) :: (some ?fv1) :: (some ?fv2) :: (some ?fv3) :: (some ?fv4) :: (none) :: (none) :: (some ?fv7) :: (some ?fv8) :: (some ?fv9) :: (some ?fv10) :: (some ?fv11) :: (none) :: (none) :: (some ?fv14) :: (some ?fv15) :: (some ?fv16) :: (some ?fv17) :: (some ?fv18) :: (none) :: (none) :: (none) :: (none) :: (none) :: []) (P3 (push3 (.slice z1 D2.length e1) (.slice z2 D2.length e2) (.slice z3 D2.length e3) D2 ⟨ru, rs, rid⟩ 5 12 19 6 13 20 21 22 23) w7 w6.heap.size) (fun j => j == 21 || j == 22 || j == 23) (by kernel_rfl) (by kernel_rfl) [some 158, some 159, some 160, some 161, some 162, some 163, some 164, some 165, some 166, some 167, some 168, some 169, some 170, some 171, some 172, some 173, some 174, some 175, some 176, some 177, some 178, some 20, some 21, some 22] rfl rfl ?fA ?fAp ?fhA ?fhAp ?fh0 ?fH ?fhQ
                    case fhA => intro F; simp only [valsFrom, Option.getD_some, Option.getD_none, Nat.zero_add, Nat.reduceAdd, laidAll, Act.put, List.setIfInBounds_toArray, List.set_cons_zero, List.set_cons_succ]; try rfl
                    case fhAp => intro F; change laidAll _ [some 158, some 159, some 160, some 161, some 162, some 163, some 164, some 165, some 166, some 167, some 168, some 169, some 170, some 171, some 172, some 173, some 174, some 175, some 176, some 177, some 178, none, none, none] _ = _; simp only [valsFrom, Option.getD_some, Option.getD_none, Nat.zero_add, Nat.reduceAdd, laidAll, Act.put, List.setIfInBounds_toArray, List.set_cons_zero, List.set_cons_succ]; try rfl
                    case fh0 => exact push3_start HL7.out (by omega)
                    case fH =>
                      intro F g wx hJ hF
                      refine ⟨fun hp => ?_, ?_⟩
                      · first | (refine RelStep.yields hJ (Or.inl ⟨by rfl, ?_⟩); intro w; go_simp; (try with_reducible rfl); done) | (refine RelStep.reads hJ (by rfl) ?_; have qa := hJ.kp.cell Y7.out.1 HNOa.out.1; have qb := hJ.kp.cell Y7.out.2.1 HNOa.out.2.1; have qc := hJ.kp.cell Y7.out.2.2 HNOa.out.2.2; go_simp; (try with_reducible rfl); done)
                      refine ⟨fun hp => ?_, ?_⟩
                      · first | (refine RelStep.yields hJ (Or.inl ⟨by rfl, ?_⟩); intro w; go_simp; (try with_reducible rfl); done) | (refine RelStep.reads hJ (by rfl) ?_; have qa := hJ.kp.cell Y7.out.1 HNOa.out.1; have qb := hJ.kp.cell Y7.out.2.1 HNOa.out.2.1; have qc := hJ.kp.cell Y7.out.2.2 HNOa.out.2.2; go_simp; (try with_reducible rfl); done)
                      refine ⟨fun hp => ?_, ?_⟩
                      · first | (refine RelStep.yields hJ (Or.inl ⟨by rfl, ?_⟩); intro w; go_simp; (try with_reducible rfl); done) | (refine RelStep.reads hJ (by rfl) ?_; have qa := hJ.kp.cell Y7.out.1 HNOa.out.1; have qb := hJ.kp.cell Y7.out.2.1 HNOa.out.2.1; have qc := hJ.kp.cell Y7.out.2.2 HNOa.out.2.2; go_simp; (try with_reducible rfl); done)
                      refine ⟨fun hp => ?_, ?_⟩
                      · first | (refine RelStep.yields hJ (Or.inl ⟨by rfl, ?_⟩); intro w; go_simp; (try with_reducible rfl); done) | (refine RelStep.reads hJ (by rfl) ?_; have qa := hJ.kp.cell Y7.out.1 HNOa.out.1; have qb := hJ.kp.cell Y7.out.2.1 HNOa.out.2.1; have qc := hJ.kp.cell Y7.out.2.2 HNOa.out.2.2; go_simp; (try with_reducible rfl); done)
                      refine ⟨fun hp => ?_, ?_⟩
                      · first | (refine RelStep.yields hJ (Or.inl ⟨by rfl, ?_⟩); intro w; go_simp; (try with_reducible rfl); done) | (refine RelStep.reads hJ (by rfl) ?_; have qa := hJ.kp.cell Y7.out.1 HNOa.out.1; have qb := hJ.kp.cell Y7.out.2.1 HNOa.out.2.1; have qc := hJ.kp.cell Y7.out.2.2 HNOa.out.2.2; go_simp; (try with_reducible rfl); done)
                      refine ⟨fun hp => ?_, ?_⟩
                      · refine RelStep.finds (by rfl) _ _ ?fr5 (p3_build HOK.out hJ (i := 0) (by decide))
                        case fr5 => go_simp; try rfl
                      refine ⟨fun hp => ?_, ?_⟩
                      · obtain ⟨x1, h1⟩ := hp ⟨5, .data⟩ (by simp) rfl rfl
                        refine RelStep.append rfl (.tmp 158) (.tmp 163) 30 30 rfl _ _ rfl (by show F 5 = _; exact hF 5 x1 h1) (fun hn => p3_push HOK.out hJ (i := 0) (by decide) h1 hn 30 30 Try.underlying30 (z := .int .i64 0) (bytes := 8) (by kernel_rfl) rfl (by decide))
                      refine ⟨fun hp => ?_, ?_⟩
                      · first | (refine RelStep.yields hJ (Or.inl ⟨by rfl, ?_⟩); intro w; go_simp; (try with_reducible rfl); done) | (refine RelStep.reads hJ (by rfl) ?_; have qa := hJ.kp.cell Y7.out.1 HNOa.out.1; have qb := hJ.kp.cell Y7.out.2.1 HNOa.out.2.1; have qc := hJ.kp.cell Y7.out.2.2 HNOa.out.2.2; go_simp; (try with_reducible rfl); done)
                      refine ⟨fun hp => ?_, ?_⟩
                      · first | (refine RelStep.yields hJ (Or.inl ⟨by rfl, ?_⟩); intro w; go_simp; (try with_reducible rfl); done) | (refine RelStep.reads hJ (by rfl) ?_; have qa := hJ.kp.cell Y7.out.1 HNOa.out.1; have qb := hJ.kp.cell Y7.out.2.1 HNOa.out.2.1; have qc := hJ.kp.cell Y7.out.2.2 HNOa.out.2.2; go_simp; (try with_reducible rfl); done)
                      refine ⟨fun hp => ?_, ?_⟩
                      · first | (refine RelStep.yields hJ (Or.inl ⟨by rfl, ?_⟩); intro w; go_simp; (try with_reducible rfl); done) | (refine RelStep.reads hJ (by rfl) ?_; have qa := hJ.kp.cell Y7.out.1 HNOa.out.1; have qb := hJ.kp.cell Y7.out.2.1 HNOa.out.2.1; have qc := hJ.kp.cell Y7.out.2.2 HNOa.out.2.2; go_simp; (try with_reducible rfl); done)
                      refine ⟨fun hp => ?_, ?_⟩
                      · first | (refine RelStep.yields hJ (Or.inl ⟨by rfl, ?_⟩); intro w; go_simp; (try with_reducible rfl); done) | (refine RelStep.reads hJ (by rfl) ?_; have qa := hJ.kp.cell Y7.out.1 HNOa.out.1; have qb := hJ.kp.cell Y7.out.2.1 HNOa.out.2.1; have qc := hJ.kp.cell Y7.out.2.2 HNOa.out.2.2; go_simp; (try with_reducible rfl); done)
                      refine ⟨fun hp => ?_, ?_⟩
                      · first | (refine RelStep.yields hJ (Or.inl ⟨by rfl, ?_⟩); intro w; go_simp; (try with_reducible rfl); done) | (refine RelStep.reads hJ (by rfl) ?_; have qa := hJ.kp.cell Y7.out.1 HNOa.out.1; have qb := hJ.kp.cell Y7.out.2.1 HNOa.out.2.1; have qc := hJ.kp.cell Y7.out.2.2 HNOa.out.2.2; go_simp; (try with_reducible rfl); done)
                      refine ⟨fun hp => ?_, ?_⟩
                      · refine RelStep.finds (by rfl) _ _ ?fr12 (p3_build HOK.out hJ (i := 1) (by decide))
                        case fr12 => go_simp; try rfl
                      refine ⟨fun hp => ?_, ?_⟩
                      · obtain ⟨x1, h1⟩ := hp ⟨12, .data⟩ (by simp) rfl rfl
                        refine RelStep.append rfl (.tmp 165) (.tmp 170) 30 30 rfl _ _ rfl (by show F 12 = _; exact hF 12 x1 h1) (fun hn => p3_push HOK.out hJ (i := 1) (by decide) h1 hn 30 30 Try.underlying30 (z := .int .i64 0) (bytes := 8) (by kernel_rfl) rfl (by decide))
                      refine ⟨fun hp => ?_, ?_⟩
                      · first | (refine RelStep.yields hJ (Or.inl ⟨by rfl, ?_⟩); intro w; go_simp; (try with_reducible rfl); done) | (refine RelStep.reads hJ (by rfl) ?_; have qa := hJ.kp.cell Y7.out.1 HNOa.out.1; have qb := hJ.kp.cell Y7.out.2.1 HNOa.out.2.1; have qc := hJ.kp.cell Y7.out.2.2 HNOa.out.2.2; go_simp; (try with_reducible rfl); done)
                      refine ⟨fun hp => ?_, ?_⟩
                      · first | (refine RelStep.yields hJ (Or.inl ⟨by rfl, ?_⟩); intro w; go_simp; (try with_reducible rfl); done) | (refine RelStep.reads hJ (by rfl) ?_; have qa := hJ.kp.cell Y7.out.1 HNOa.out.1; have qb := hJ.kp.cell Y7.out.2.1 HNOa.out.2.1; have qc := hJ.kp.cell Y7.out.2.2 HNOa.out.2.2; go_simp; (try with_reducible rfl); done)
                      refine ⟨fun hp => ?_, ?_⟩
                      · first | (refine RelStep.yields hJ (Or.inl ⟨by rfl, ?_⟩); intro w; go_simp; (try with_reducible rfl); done) | (refine RelStep.reads hJ (by rfl) ?_; have qa := hJ.kp.cell Y7.out.1 HNOa.out.1; have qb := hJ.kp.cell Y7.out.2.1 HNOa.out.2.1; have qc := hJ.kp.cell Y7.out.2.2 HNOa.out.2.2; go_simp; (try with_reducible rfl); done)
                      refine ⟨fun hp => ?_, ?_⟩
                      · first | (refine RelStep.yields hJ (Or.inl ⟨by rfl, ?_⟩); intro w; go_simp; (try with_reducible rfl); done) | (refine RelStep.reads hJ (by rfl) ?_; have qa := hJ.kp.cell Y7.out.1 HNOa.out.1; have qb := hJ.kp.cell Y7.out.2.1 HNOa.out.2.1; have qc := hJ.kp.cell Y7.out.2.2 HNOa.out.2.2; go_simp; (try with_reducible rfl); done)
                      refine ⟨fun hp => ?_, ?_⟩
                      · first | (refine RelStep.yields hJ (Or.inl ⟨by rfl, ?_⟩); intro w; go_simp; (try with_reducible rfl); done) | (refine RelStep.reads hJ (by rfl) ?_; have qa := hJ.kp.cell Y7.out.1 HNOa.out.1; have qb := hJ.kp.cell Y7.out.2.1 HNOa.out.2.1; have qc := hJ.kp.cell Y7.out.2.2 HNOa.out.2.2; go_simp; (try with_reducible rfl); done)
                      refine ⟨fun hp => ?_, ?_⟩
                      · refine RelStep.finds (by rfl) _ _ ?fr19 (p3_build HOK.out hJ (i := 2) (by decide))
                        case fr19 => go_simp; try rfl
                      refine ⟨fun hp => ?_, ?_⟩
                      · obtain ⟨x1, h1⟩ := hp ⟨19, .data⟩ (by simp) rfl rfl
                        refine RelStep.append rfl (.tmp 172) (.tmp 177) 31 31 rfl _ _ rfl (by show F 19 = _; exact hF 19 x1 h1) (fun hn => p3_push HOK.out hJ (i := 2) (by decide) h1 hn 31 31 Try.underlying31 (z := .int .u16 0) (bytes := 2) (by kernel_rfl) rfl (by decide))
                      refine ⟨fun hp => ?_, ?_⟩
                      · obtain ⟨x1, h1⟩ := hp ⟨6, .data⟩ (by simp) rfl rfl
                        refine RelStep.finds (by rfl) (F 6) wx ?fr21 (by rw [hF 6 x1 h1]; exact p3_set HOK.out hJ (i := 0) (by decide) h1)
                        case fr21 => go_simp
                      refine ⟨fun hp => ?_, ?_⟩
                      · obtain ⟨x1, h1⟩ := hp ⟨13, .data⟩ (by simp) rfl rfl
                        refine RelStep.finds (by rfl) (F 13) wx ?fr22 (by rw [hF 13 x1 h1]; exact p3_set HOK.out hJ (i := 1) (by decide) h1)
                        case fr22 => go_simp
                      refine ⟨fun hp => ?_, ?_⟩
                      · obtain ⟨x1, h1⟩ := hp ⟨20, .data⟩ (by simp) rfl rfl
                        refine RelStep.finds (by rfl) (F 20) wx ?fr23 (by rw [hF 20 x1 h1]; exact p3_set HOK.out hJ (i := 2) (by decide) h1)
                        case fr23 => go_simp
                      exact trivial
                    case fhQ =>
                      intro F w8 hJ
                      have hE : Pushed3 w7 w8 w6.heap.size (.slice z1 D2.length e1) (.slice z2 D2.length e2) (.slice z3 D2.length e3) (F 21) (F 22) (F 23) (D2 ++ [⟨ru, rs, rid⟩]) := push3_end hJ rfl rfl rfl
                      have hlo := HNEW.out
                      have HT8 := Lib.hid (HT7.out.push hE.kp hE.new (fun x hx => (lot_in3 hE.lot hx).2) (fun h => by have := hlo b h; omega) (fun x h => by have := hlo x h; omega))
                      have HL8 := Lib.hid hE.lot
                      have K8 := Lib.hid (K7.out.then hE.kp (fun x hx h => by have := hlo x h; omega))
                      clear hE hlo hJ HL7 HT7 K7 HOK HNOa
                      go_wp2_with fail
                      go_roundw
                      case measure => simp [intOf]; omega
                      case rel => exact ⟨k + 1, D2 ++ [⟨ru, rs, rid⟩], by omega, by go_num, by rw [HST.out], HL8.out, HT8.out, K8.out⟩
                · have n3 : (rs == xs) = false := by simpa using a3
                  have HST := Lib.hid (show afterD ⟨xk, xu, xs⟩ (D.take (k + 1)) = D2 ++ [⟨ru, rs, rid⟩] by rw [hST]; simp [a1, a2, a3])
                  clear hST a1 a2 a3 b0
                  have HOK := Lib.hid (show (push3 (.slice z1 D2.length e1) (.slice z2 D2.length e2) (.slice z3 D2.length e3) D2 ⟨ru, rs, rid⟩ 5 12 19 6 13 20 21 22 23).ok from push3_ok (by omega) (by decide))
                  have HNOa := Lib.hid (show ¬ (push3 (.slice z1 D2.length e1) (.slice z2 D2.length e2) (.slice z3 D2.length e3) D2 ⟨ru, rs, rid⟩ 5 12 19 6 13 20 21 22 23).old g1 ∧ ¬ (push3 (.slice z1 D2.length e1) (.slice z2 D2.length e2) (.slice z3 D2.length e3) D2 ⟨ru, rs, rid⟩ 5 12 19 6 13 20 21 22 23).old g2 ∧ ¬ (push3 (.slice z1 D2.length e1) (.slice z2 D2.length e2) (.slice z3 D2.length e3) D2 ⟨ru, rs, rid⟩ 5 12 19 6 13 20 21 22 23).old g3 from ⟨fun h => by have := HNEW.out g1 ((push3_old g1).1 h); omega, fun h => by have := HNEW.out g2 ((push3_old g2).1 h); omega, fun h => by have := HNEW.out g3 ((push3_old g3).1 h); omega⟩)
                  go_wp2_with fail
                  go_quiet (fail)
                  obtain ⟨w7, hw7⟩ : ∃ w7, wr.drewN nq = w7 := ⟨_, rfl⟩
                  have hk7 : Kept (fun _ => False) wr w7 := by rw [← hw7]; exact (Kept.refl _).drewN _
                  rw [hw7]
                  have HL7 := Lib.hid (HL.out.look hk7)
                  have HT7 := Lib.hid (HT.out.look hk7)
                  have K7 := Lib.hid (KX.out.trans hk7)
                  have Y7 := Lib.hid (And.intro (hk7.cell y1 id) (And.intro (hk7.cell y2 id) (hk7.cell y3 id)))
                  have hz7 := hk7.size
                  clear hw7 hk7 HL HT KX
                  go_wp2_with fail
                  refine wp_region_rel ((some ?hv0) :: (some ?hv1) :: (some ?hv2) :: (some ?hv3) :: (some ?hv4) :: (none) :: (none) :: (some ?hv7) :: (some ?hv8) :: (some ?hv9) :: (some ?hv10) :: (some ?hv11) :: (none) :: (none) :: (some ?hv14) :: (some ?hv15) :: (some ?hv16) :: (some ?hv17) :: (some ?hv18) :: (none) :: (none) :: (none) :: (none) :: (none) :: []) (P3 (push3 (.slice z1 D2.length e1) (.slice z2 D2.length e2) (.slice z3 D2.length e3) D2 ⟨ru, rs, rid⟩ 5 12 19 6 13 20 21 22 23) w7 w6.heap.size) (fun j => j == 21 || j == 22 || j == 23) (by kernel_rfl) (by kernel_rfl) [some 158, some 159, some 160, some 161, some 162, some 163, some 164, some 165, some 166, some 167, some 168, some 169, some 170, some 171, some 172, some 173, some 174, some 175, some 176, some 177, some 178, some 20, some 21, some 22] rfl rfl ?hA ?hAp ?hhA ?hhAp ?hh0 ?hH ?hhQ
                  case hhA => intro F; simp only [valsFrom, Option.getD_some, Option.getD_none, Nat.zero_add, Nat.reduceAdd, laidAll, Act.put, List.setIfInBounds_toArray, List.set_cons_zero, List.set_cons_succ]; try rfl
                  case hhAp => intro F; change laidAll _ [some 158, some 159, some 160, some 161, some 162, some 163, some 164, some 165, some 166, some 167, some 168, some 169, some 170, some 171, some 172, some 173, some 174, some 175, some 176, some 177, some 178, none, none, none] _ = _; simp only [valsFrom, Option.getD_some, Option.getD_none, Nat.zero_add, Nat.reduceAdd, laidAll, Act.put, List.setIfInBounds_toArray, List.set_cons_zero, List.set_cons_succ]; try rfl
                  case hh0 => exact push3_start HL7.out (by omega)
                  case hH =>
                    intro F g wx hJ hF
                    refine ⟨fun hp => ?_, ?_⟩
                    · first | (refine RelStep.yields hJ (Or.inl ⟨by rfl, ?_⟩); intro w; go_simp; (try with_reducible rfl); done) | (refine RelStep.reads hJ (by rfl) ?_; have qa := hJ.kp.cell Y7.out.1 HNOa.out.1; have qb := hJ.kp.cell Y7.out.2.1 HNOa.out.2.1; have qc := hJ.kp.cell Y7.out.2.2 HNOa.out.2.2; go_simp; (try with_reducible rfl); done)
                    refine ⟨fun hp => ?_, ?_⟩
                    · first | (refine RelStep.yields hJ (Or.inl ⟨by rfl, ?_⟩); intro w; go_simp; (try with_reducible rfl); done) | (refine RelStep.reads hJ (by rfl) ?_; have qa := hJ.kp.cell Y7.out.1 HNOa.out.1; have qb := hJ.kp.cell Y7.out.2.1 HNOa.out.2.1; have qc := hJ.kp.cell Y7.out.2.2 HNOa.out.2.2; go_simp; (try with_reducible rfl); done)
                    refine ⟨fun hp => ?_, ?_⟩
                    · first | (refine RelStep.yields hJ (Or.inl ⟨by rfl, ?_⟩); intro w; go_simp; (try with_reducible rfl); done) | (refine RelStep.reads hJ (by rfl) ?_; have qa := hJ.kp.cell Y7.out.1 HNOa.out.1; have qb := hJ.kp.cell Y7.out.2.1 HNOa.out.2.1; have qc := hJ.kp.cell Y7.out.2.2 HNOa.out.2.2; go_simp; (try with_reducible rfl); done)
                    refine ⟨fun hp => ?_, ?_⟩
                    · first | (refine RelStep.yields hJ (Or.inl ⟨by rfl, ?_⟩); intro w; go_simp; (try with_reducible rfl); done) | (refine RelStep.reads hJ (by rfl) ?_; have qa := hJ.kp.cell Y7.out.1 HNOa.out.1; have qb := hJ.kp.cell Y7.out.2.1 HNOa.out.2.1; have qc := hJ.kp.cell Y7.out.2.2 HNOa.out.2.2; go_simp; (try with_reducible rfl); done)
                    refine ⟨fun hp => ?_, ?_⟩
                    · first | (refine RelStep.yields hJ (Or.inl ⟨by rfl, ?_⟩); intro w; go_simp; (try with_reducible rfl); done) | (refine RelStep.reads hJ (by rfl) ?_; have qa := hJ.kp.cell Y7.out.1 HNOa.out.1; have qb := hJ.kp.cell Y7.out.2.1 HNOa.out.2.1; have qc := hJ.kp.cell Y7.out.2.2 HNOa.out.2.2; go_simp; (try with_reducible rfl); done)
                    refine ⟨fun hp => ?_, ?_⟩
                    · refine RelStep.finds (by rfl) _ _ ?hr5 (p3_build HOK.out hJ (i := 0) (by decide))
                      case hr5 => go_simp; try rfl
                    refine ⟨fun hp => ?_, ?_⟩
                    · obtain ⟨x1, h1⟩ := hp ⟨5, .data⟩ (by simp) rfl rfl
                      refine RelStep.append rfl (.tmp 158) (.tmp 163) 30 30 rfl _ _ rfl (by show F 5 = _; exact hF 5 x1 h1) (fun hn => p3_push HOK.out hJ (i := 0) (by decide) h1 hn 30 30 Try.underlying30 (z := .int .i64 0) (bytes := 8) (by kernel_rfl) rfl (by decide))
                    refine ⟨fun hp => ?_, ?_⟩
                    · first | (refine RelStep.yields hJ (Or.inl ⟨by rfl, ?_⟩); intro w; go_simp; (try with_reducible rfl); done) | (refine RelStep.reads hJ (by rfl) ?_; have qa := hJ.kp.cell Y7.out.1 HNOa.out.1; have qb := hJ.kp.cell Y7.out.2.1 HNOa.out.2.1; have qc := hJ.kp.cell Y7.out.2.2 HNOa.out.2.2; go_simp; (try with_reducible rfl); done)
                    refine ⟨fun hp => ?_, ?_⟩
                    · first | (refine RelStep.yields hJ (Or.inl ⟨by rfl, ?_⟩); intro w; go_simp; (try with_reducible rfl); done) | (refine RelStep.reads hJ (by rfl) ?_; have qa := hJ.kp.cell Y7.out.1 HNOa.out.1; have qb := hJ.kp.cell Y7.out.2.1 HNOa.out.2.1; have qc := hJ.kp.cell Y7.out.2.2 HNOa.out.2.2; go_simp; (try with_reducible rfl); done)
                    refine ⟨fun hp => ?_, ?_⟩
                    · first | (refine RelStep.yields hJ (Or.inl ⟨by rfl, ?_⟩); intro w; go_simp; (try with_reducible rfl); done) | (refine RelStep.reads hJ (by rfl) ?_; have qa := hJ.kp.cell Y7.out.1 HNOa.out.1; have qb := hJ.kp.cell Y7.out.2.1 HNOa.out.2.1; have qc := hJ.kp.cell Y7.out.2.2 HNOa.out.2.2; go_simp; (try with_reducible rfl); done)
                    refine ⟨fun hp => ?_, ?_⟩
                    · first | (refine RelStep.yields hJ (Or.inl ⟨by rfl, ?_⟩); intro w; go_simp; (try with_reducible rfl); done) | (refine RelStep.reads hJ (by rfl) ?_; have qa := hJ.kp.cell Y7.out.1 HNOa.out.1; have qb := hJ.kp.cell Y7.out.2.1 HNOa.out.2.1; have qc := hJ.kp.cell Y7.out.2.2 HNOa.out.2.2; go_simp; (try with_reducible rfl); done)
                    refine ⟨fun hp => ?_, ?_⟩
                    · first | (refine RelStep.yields hJ (Or.inl ⟨by rfl, ?_⟩); intro w; go_simp; (try with_reducible rfl); done) | (refine RelStep.reads hJ (by rfl) ?_; have qa := hJ.kp.cell Y7.out.1 HNOa.out.1; have qb := hJ.kp.cell Y7.out.2.1 HNOa.out.2.1; have qc := hJ.kp.cell Y7.out.2.2 HNOa.out.2.2; go_simp; (try with_reducible rfl); done)
                    refine ⟨fun hp => ?_, ?_⟩
                    · refine RelStep.finds (by rfl) _ _ ?hr12 (p3_build HOK.out hJ (i := 1) (by decide))
                      case hr12 => go_simp; try rfl
                    refine ⟨fun hp => ?_, ?_⟩
                    · obtain ⟨x1, h1⟩ := hp ⟨12, .data⟩ (by simp) rfl rfl
                      refine RelStep.append rfl (.tmp 165) (.tmp 170) 30 30 rfl _ _ rfl (by show F 12 = _; exact hF 12 x1 h1) (fun hn => p3_push HOK.out hJ (i := 1) (by decide) h1 hn 30 30 Try.underlying30 (z := .int .i64 0) (bytes := 8) (by kernel_rfl) rfl (by decide))
                    refine ⟨fun hp => ?_, ?_⟩
                    · first | (refine RelStep.yields hJ (Or.inl ⟨by rfl, ?_⟩); intro w; go_simp; (try with_reducible rfl); done) | (refine RelStep.reads hJ (by rfl) ?_; have qa := hJ.kp.cell Y7.out.1 HNOa.out.1; have qb := hJ.kp.cell Y7.out.2.1 HNOa.out.2.1; have qc := hJ.kp.cell Y7.out.2.2 HNOa.out.2.2; go_simp; (try with_reducible rfl); done)
                    refine ⟨fun hp => ?_, ?_⟩
                    · first | (refine RelStep.yields hJ (Or.inl ⟨by rfl, ?_⟩); intro w; go_simp; (try with_reducible rfl); done) | (refine RelStep.reads hJ (by rfl) ?_; have qa := hJ.kp.cell Y7.out.1 HNOa.out.1; have qb := hJ.kp.cell Y7.out.2.1 HNOa.out.2.1; have qc := hJ.kp.cell Y7.out.2.2 HNOa.out.2.2; go_simp; (try with_reducible rfl); done)
                    refine ⟨fun hp => ?_, ?_⟩
                    · first | (refine RelStep.yields hJ (Or.inl ⟨by rfl, ?_⟩); intro w; go_simp; (try with_reducible rfl); done) | (refine RelStep.reads hJ (by rfl) ?_; have qa := hJ.kp.cell Y7.out.1 HNOa.out.1; have qb := hJ.kp.cell Y7.out.2.1 HNOa.out.2.1; have qc := hJ.kp.cell Y7.out.2.2 HNOa.out.2.2; go_simp; (try with_reducible rfl); done)
                    refine ⟨fun hp => ?_, ?_⟩
                    · first | (refine RelStep.yields hJ (Or.inl ⟨by rfl, ?_⟩); intro w; go_simp; (try with_reducible rfl); done) | (refine RelStep.reads hJ (by rfl) ?_; have qa := hJ.kp.cell Y7.out.1 HNOa.out.1; have qb := hJ.kp.cell Y7.out.2.1 HNOa.out.2.1; have qc := hJ.kp.cell Y7.out.2.2 HNOa.out.2.2; go_simp; (try with_reducible rfl); done)
                    refine ⟨fun hp => ?_, ?_⟩
                    · first | (refine RelStep.yields hJ (Or.inl ⟨by rfl, ?_⟩); intro w; go_simp; (try with_reducible rfl); done) | (refine RelStep.reads hJ (by rfl) ?_; have qa := hJ.kp.cell Y7.out.1 HNOa.out.1; have qb := hJ.kp.cell Y7.out.2.1 HNOa.out.2.1; have qc := hJ.kp.cell Y7.out.2.2 HNOa.out.2.2; go_simp; (try with_reducible rfl); done)
                    refine ⟨fun hp => ?_, ?_⟩
                    · refine RelStep.finds (by rfl) _ _ ?hr19 (p3_build HOK.out hJ (i := 2) (by decide))
                      case hr19 => go_simp; try rfl
                    refine ⟨fun hp => ?_, ?_⟩
                    · obtain ⟨x1, h1⟩ := hp ⟨19, .data⟩ (by simp) rfl rfl
                      refine RelStep.append rfl (.tmp 172) (.tmp 177) 31 31 rfl _ _ rfl (by show F 19 = _; exact hF 19 x1 h1) (fun hn => p3_push HOK.out hJ (i := 2) (by decide) h1 hn 31 31 Try.underlying31 (z := .int .u16 0) (bytes := 2) (by kernel_rfl) rfl (by decide))
                    refine ⟨fun hp => ?_, ?_⟩
                    · obtain ⟨x1, h1⟩ := hp ⟨6, .data⟩ (by simp) rfl rfl
                      refine RelStep.finds (by rfl) (F 6) wx ?hr21 (by rw [hF 6 x1 h1]; exact p3_set HOK.out hJ (i := 0) (by decide) h1)
                      case hr21 => go_simp
                    refine ⟨fun hp => ?_, ?_⟩
                    · obtain ⟨x1, h1⟩ := hp ⟨13, .data⟩ (by simp) rfl rfl
                      refine RelStep.finds (by rfl) (F 13) wx ?hr22 (by rw [hF 13 x1 h1]; exact p3_set HOK.out hJ (i := 1) (by decide) h1)
                      case hr22 => go_simp
                    refine ⟨fun hp => ?_, ?_⟩
                    · obtain ⟨x1, h1⟩ := hp ⟨20, .data⟩ (by simp) rfl rfl
                      refine RelStep.finds (by rfl) (F 20) wx ?hr23 (by rw [hF 20 x1 h1]; exact p3_set HOK.out hJ (i := 2) (by decide) h1)
                      case hr23 => go_simp
                    exact trivial
                  case hhQ =>
                    intro F w8 hJ
                    have hE : Pushed3 w7 w8 w6.heap.size (.slice z1 D2.length e1) (.slice z2 D2.length e2) (.slice z3 D2.length e3) (F 21) (F 22) (F 23) (D2 ++ [⟨ru, rs, rid⟩]) := push3_end hJ rfl rfl rfl
                    have hlo := HNEW.out
                    have HT8 := Lib.hid (HT7.out.push hE.kp hE.new (fun x hx => (lot_in3 hE.lot hx).2) (fun h => by have := hlo b h; omega) (fun x h => by have := hlo x h; omega))
                    have HL8 := Lib.hid hE.lot
                    have K8 := Lib.hid (K7.out.then hE.kp (fun x hx h => by have := hlo x h; omega))
                    clear hE hlo hJ HL7 HT7 K7 HOK HNOa
                    go_wp2_with fail
                    go_roundw
                    case measure => simp [intOf]; omega
                    case rel => exact ⟨k + 1, D2 ++ [⟨ru, rs, rid⟩], by omega, by go_num, by rw [HST.out], HL8.out, HT8.out, K8.out⟩
              · have n2 : (xk == 2) = false := by simpa using a2
                have HST := Lib.hid (show afterD ⟨xk, xu, xs⟩ (D.take (k + 1)) = D2 ++ [⟨ru, rs, rid⟩] by rw [hST]; simp [a1, a2])
                clear hST a1 a2 b0
                have HOK := Lib.hid (show (push3 (.slice z1 D2.length e1) (.slice z2 D2.length e2) (.slice z3 D2.length e3) D2 ⟨ru, rs, rid⟩ 5 12 19 6 13 20 21 22 23).ok from push3_ok (by omega) (by decide))
                have HNOa := Lib.hid (show ¬ (push3 (.slice z1 D2.length e1) (.slice z2 D2.length e2) (.slice z3 D2.length e3) D2 ⟨ru, rs, rid⟩ 5 12 19 6 13 20 21 22 23).old g1 ∧ ¬ (push3 (.slice z1 D2.length e1) (.slice z2 D2.length e2) (.slice z3 D2.length e3) D2 ⟨ru, rs, rid⟩ 5 12 19 6 13 20 21 22 23).old g2 ∧ ¬ (push3 (.slice z1 D2.length e1) (.slice z2 D2.length e2) (.slice z3 D2.length e3) D2 ⟨ru, rs, rid⟩ 5 12 19 6 13 20 21 22 23).old g3 from ⟨fun h => by have := HNEW.out g1 ((push3_old g1).1 h); omega, fun h => by have := HNEW.out g2 ((push3_old g2).1 h); omega, fun h => by have := HNEW.out g3 ((push3_old g3).1 h); omega⟩)
                go_wp2_with fail
                go_quiet (fail)
                obtain ⟨w7, hw7⟩ : ∃ w7, wr.drewN nq = w7 := ⟨_, rfl⟩
                have hk7 : Kept (fun _ => False) wr w7 := by rw [← hw7]; exact (Kept.refl _).drewN _
                rw [hw7]
                have HL7 := Lib.hid (HL.out.look hk7)
                have HT7 := Lib.hid (HT.out.look hk7)
                have K7 := Lib.hid (KX.out.trans hk7)
                have Y7 := Lib.hid (And.intro (hk7.cell y1 id) (And.intro (hk7.cell y2 id) (hk7.cell y3 id)))
                have hz7 := hk7.size
                clear hw7 hk7 HL HT KX
                go_wp2_with fail
                refine wp_region_rel ((some ?mv0) :: (some ?mv1) :: (some ?mv2) :: (some ?mv3) :: (some ?mv4) :: (none) :: (none) :: (some ?mv7) :: (some ?mv8) :: (some ?mv9) :: (some ?mv10) :: (some ?mv11) :: (none) :: (none) :: (some ?mv14) :: (some ?mv15) :: (some ?mv16) :: (some ?mv17) :: (some ?mv18) :: (none) :: (none) :: (none) :: (none) :: (none) :: []) (P3 (push3 (.slice z1 D2.length e1) (.slice z2 D2.length e2) (.slice z3 D2.length e3) D2 ⟨ru, rs, rid⟩ 5 12 19 6 13 20 21 22 23) w7 w6.heap.size) (fun j => j == 21 || j == 22 || j == 23) (by kernel_rfl) (by kernel_rfl) [some 158, some 159, some 160, some 161, some 162, some 163, some 164, some 165, some 166, some 167, some 168, some 169, some 170, some 171, some 172, some 173, some 174, some 175, some 176, some 177, some 178, some 20, some 21, some 22] rfl rfl ?mA ?mAp ?mhA ?mhAp ?mh0 ?mH ?mhQ
                case mhA => intro F; simp only [valsFrom, Option.getD_some, Option.getD_none, Nat.zero_add, Nat.reduceAdd, laidAll, Act.put, List.setIfInBounds_toArray, List.set_cons_zero, List.set_cons_succ]; try rfl
                case mhAp => intro F; change laidAll _ [some 158, some 159, some 160, some 161, some 162, some 163, some 164, some 165, some 166, some 167, some 168, some 169, some 170, some 171, some 172, some 173, some 174, some 175, some 176, some 177, some 178, none, none, none] _ = _; simp only [valsFrom, Option.getD_some, Option.getD_none, Nat.zero_add, Nat.reduceAdd, laidAll, Act.put, List.setIfInBounds_toArray, List.set_cons_zero, List.set_cons_succ]; try rfl
                case mh0 => exact push3_start HL7.out (by omega)
                case mH =>
                  intro F g wx hJ hF
                  refine ⟨fun hp => ?_, ?_⟩
                  · first | (refine RelStep.yields hJ (Or.inl ⟨by rfl, ?_⟩); intro w; go_simp; (try with_reducible rfl); done) | (refine RelStep.reads hJ (by rfl) ?_; have qa := hJ.kp.cell Y7.out.1 HNOa.out.1; have qb := hJ.kp.cell Y7.out.2.1 HNOa.out.2.1; have qc := hJ.kp.cell Y7.out.2.2 HNOa.out.2.2; go_simp; (try with_reducible rfl); done)
                  refine ⟨fun hp => ?_, ?_⟩
                  · first | (refine RelStep.yields hJ (Or.inl ⟨by rfl, ?_⟩); intro w; go_simp; (try with_reducible rfl); done) | (refine RelStep.reads hJ (by rfl) ?_; have qa := hJ.kp.cell Y7.out.1 HNOa.out.1; have qb := hJ.kp.cell Y7.out.2.1 HNOa.out.2.1; have qc := hJ.kp.cell Y7.out.2.2 HNOa.out.2.2; go_simp; (try with_reducible rfl); done)
                  refine ⟨fun hp => ?_, ?_⟩
                  · first | (refine RelStep.yields hJ (Or.inl ⟨by rfl, ?_⟩); intro w; go_simp; (try with_reducible rfl); done) | (refine RelStep.reads hJ (by rfl) ?_; have qa := hJ.kp.cell Y7.out.1 HNOa.out.1; have qb := hJ.kp.cell Y7.out.2.1 HNOa.out.2.1; have qc := hJ.kp.cell Y7.out.2.2 HNOa.out.2.2; go_simp; (try with_reducible rfl); done)
                  refine ⟨fun hp => ?_, ?_⟩
                  · first | (refine RelStep.yields hJ (Or.inl ⟨by rfl, ?_⟩); intro w; go_simp; (try with_reducible rfl); done) | (refine RelStep.reads hJ (by rfl) ?_; have qa := hJ.kp.cell Y7.out.1 HNOa.out.1; have qb := hJ.kp.cell Y7.out.2.1 HNOa.out.2.1; have qc := hJ.kp.cell Y7.out.2.2 HNOa.out.2.2; go_simp; (try with_reducible rfl); done)
                  refine ⟨fun hp => ?_, ?_⟩
                  · first | (refine RelStep.yields hJ (Or.inl ⟨by rfl, ?_⟩); intro w; go_simp; (try with_reducible rfl); done) | (refine RelStep.reads hJ (by rfl) ?_; have qa := hJ.kp.cell Y7.out.1 HNOa.out.1; have qb := hJ.kp.cell Y7.out.2.1 HNOa.out.2.1; have qc := hJ.kp.cell Y7.out.2.2 HNOa.out.2.2; go_simp; (try with_reducible rfl); done)
                  refine ⟨fun hp => ?_, ?_⟩
                  · refine RelStep.finds (by rfl) _ _ ?mr5 (p3_build HOK.out hJ (i := 0) (by decide))
                    case mr5 => go_simp; try rfl
                  refine ⟨fun hp => ?_, ?_⟩
                  · obtain ⟨x1, h1⟩ := hp ⟨5, .data⟩ (by simp) rfl rfl
                    refine RelStep.append rfl (.tmp 158) (.tmp 163) 30 30 rfl _ _ rfl (by show F 5 = _; exact hF 5 x1 h1) (fun hn => p3_push HOK.out hJ (i := 0) (by decide) h1 hn 30 30 Try.underlying30 (z := .int .i64 0) (bytes := 8) (by kernel_rfl) rfl (by decide))
                  refine ⟨fun hp => ?_, ?_⟩
                  · first | (refine RelStep.yields hJ (Or.inl ⟨by rfl, ?_⟩); intro w; go_simp; (try with_reducible rfl); done) | (refine RelStep.reads hJ (by rfl) ?_; have qa := hJ.kp.cell Y7.out.1 HNOa.out.1; have qb := hJ.kp.cell Y7.out.2.1 HNOa.out.2.1; have qc := hJ.kp.cell Y7.out.2.2 HNOa.out.2.2; go_simp; (try with_reducible rfl); done)
                  refine ⟨fun hp => ?_, ?_⟩
                  · first | (refine RelStep.yields hJ (Or.inl ⟨by rfl, ?_⟩); intro w; go_simp; (try with_reducible rfl); done) | (refine RelStep.reads hJ (by rfl) ?_; have qa := hJ.kp.cell Y7.out.1 HNOa.out.1; have qb := hJ.kp.cell Y7.out.2.1 HNOa.out.2.1; have qc := hJ.kp.cell Y7.out.2.2 HNOa.out.2.2; go_simp; (try with_reducible rfl); done)
                  refine ⟨fun hp => ?_, ?_⟩
                  · first | (refine RelStep.yields hJ (Or.inl ⟨by rfl, ?_⟩); intro w; go_simp; (try with_reducible rfl); done) | (refine RelStep.reads hJ (by rfl) ?_; have qa := hJ.kp.cell Y7.out.1 HNOa.out.1; have qb := hJ.kp.cell Y7.out.2.1 HNOa.out.2.1; have qc := hJ.kp.cell Y7.out.2.2 HNOa.out.2.2; go_simp; (try with_reducible rfl); done)
                  refine ⟨fun hp => ?_, ?_⟩
                  · first | (refine RelStep.yields hJ (Or.inl ⟨by rfl, ?_⟩); intro w; go_simp; (try with_reducible rfl); done) | (refine RelStep.reads hJ (by rfl) ?_; have qa := hJ.kp.cell Y7.out.1 HNOa.out.1; have qb := hJ.kp.cell Y7.out.2.1 HNOa.out.2.1; have qc := hJ.kp.cell Y7.out.2.2 HNOa.out.2.2; go_simp; (try with_reducible rfl); done)
                  refine ⟨fun hp => ?_, ?_⟩
                  · first | (refine RelStep.yields hJ (Or.inl ⟨by rfl, ?_⟩); intro w; go_simp; (try with_reducible rfl); done) | (refine RelStep.reads hJ (by rfl) ?_; have qa := hJ.kp.cell Y7.out.1 HNOa.out.1; have qb := hJ.kp.cell Y7.out.2.1 HNOa.out.2.1; have qc := hJ.kp.cell Y7.out.2.2 HNOa.out.2.2; go_simp; (try with_reducible rfl); done)
                  refine ⟨fun hp => ?_, ?_⟩
                  · refine RelStep.finds (by rfl) _ _ ?mr12 (p3_build HOK.out hJ (i := 1) (by decide))
                    case mr12 => go_simp; try rfl
                  refine ⟨fun hp => ?_, ?_⟩
                  · obtain ⟨x1, h1⟩ := hp ⟨12, .data⟩ (by simp) rfl rfl
                    refine RelStep.append rfl (.tmp 165) (.tmp 170) 30 30 rfl _ _ rfl (by show F 12 = _; exact hF 12 x1 h1) (fun hn => p3_push HOK.out hJ (i := 1) (by decide) h1 hn 30 30 Try.underlying30 (z := .int .i64 0) (bytes := 8) (by kernel_rfl) rfl (by decide))
                  refine ⟨fun hp => ?_, ?_⟩
                  · first | (refine RelStep.yields hJ (Or.inl ⟨by rfl, ?_⟩); intro w; go_simp; (try with_reducible rfl); done) | (refine RelStep.reads hJ (by rfl) ?_; have qa := hJ.kp.cell Y7.out.1 HNOa.out.1; have qb := hJ.kp.cell Y7.out.2.1 HNOa.out.2.1; have qc := hJ.kp.cell Y7.out.2.2 HNOa.out.2.2; go_simp; (try with_reducible rfl); done)
                  refine ⟨fun hp => ?_, ?_⟩
                  · first | (refine RelStep.yields hJ (Or.inl ⟨by rfl, ?_⟩); intro w; go_simp; (try with_reducible rfl); done) | (refine RelStep.reads hJ (by rfl) ?_; have qa := hJ.kp.cell Y7.out.1 HNOa.out.1; have qb := hJ.kp.cell Y7.out.2.1 HNOa.out.2.1; have qc := hJ.kp.cell Y7.out.2.2 HNOa.out.2.2; go_simp; (try with_reducible rfl); done)
                  refine ⟨fun hp => ?_, ?_⟩
                  · first | (refine RelStep.yields hJ (Or.inl ⟨by rfl, ?_⟩); intro w; go_simp; (try with_reducible rfl); done) | (refine RelStep.reads hJ (by rfl) ?_; have qa := hJ.kp.cell Y7.out.1 HNOa.out.1; have qb := hJ.kp.cell Y7.out.2.1 HNOa.out.2.1; have qc := hJ.kp.cell Y7.out.2.2 HNOa.out.2.2; go_simp; (try with_reducible rfl); done)
                  refine ⟨fun hp => ?_, ?_⟩
                  · first | (refine RelStep.yields hJ (Or.inl ⟨by rfl, ?_⟩); intro w; go_simp; (try with_reducible rfl); done) | (refine RelStep.reads hJ (by rfl) ?_; have qa := hJ.kp.cell Y7.out.1 HNOa.out.1; have qb := hJ.kp.cell Y7.out.2.1 HNOa.out.2.1; have qc := hJ.kp.cell Y7.out.2.2 HNOa.out.2.2; go_simp; (try with_reducible rfl); done)
                  refine ⟨fun hp => ?_, ?_⟩
                  · first | (refine RelStep.yields hJ (Or.inl ⟨by rfl, ?_⟩); intro w; go_simp; (try with_reducible rfl); done) | (refine RelStep.reads hJ (by rfl) ?_; have qa := hJ.kp.cell Y7.out.1 HNOa.out.1; have qb := hJ.kp.cell Y7.out.2.1 HNOa.out.2.1; have qc := hJ.kp.cell Y7.out.2.2 HNOa.out.2.2; go_simp; (try with_reducible rfl); done)
                  refine ⟨fun hp => ?_, ?_⟩
                  · refine RelStep.finds (by rfl) _ _ ?mr19 (p3_build HOK.out hJ (i := 2) (by decide))
                    case mr19 => go_simp; try rfl
                  refine ⟨fun hp => ?_, ?_⟩
                  · obtain ⟨x1, h1⟩ := hp ⟨19, .data⟩ (by simp) rfl rfl
                    refine RelStep.append rfl (.tmp 172) (.tmp 177) 31 31 rfl _ _ rfl (by show F 19 = _; exact hF 19 x1 h1) (fun hn => p3_push HOK.out hJ (i := 2) (by decide) h1 hn 31 31 Try.underlying31 (z := .int .u16 0) (bytes := 2) (by kernel_rfl) rfl (by decide))
                  refine ⟨fun hp => ?_, ?_⟩
                  · obtain ⟨x1, h1⟩ := hp ⟨6, .data⟩ (by simp) rfl rfl
                    refine RelStep.finds (by rfl) (F 6) wx ?mr21 (by rw [hF 6 x1 h1]; exact p3_set HOK.out hJ (i := 0) (by decide) h1)
                    case mr21 => go_simp
                  refine ⟨fun hp => ?_, ?_⟩
                  · obtain ⟨x1, h1⟩ := hp ⟨13, .data⟩ (by simp) rfl rfl
                    refine RelStep.finds (by rfl) (F 13) wx ?mr22 (by rw [hF 13 x1 h1]; exact p3_set HOK.out hJ (i := 1) (by decide) h1)
                    case mr22 => go_simp
                  refine ⟨fun hp => ?_, ?_⟩
                  · obtain ⟨x1, h1⟩ := hp ⟨20, .data⟩ (by simp) rfl rfl
                    refine RelStep.finds (by rfl) (F 20) wx ?mr23 (by rw [hF 20 x1 h1]; exact p3_set HOK.out hJ (i := 2) (by decide) h1)
                    case mr23 => go_simp
                  exact trivial
                case mhQ =>
                  intro F w8 hJ
                  have hE : Pushed3 w7 w8 w6.heap.size (.slice z1 D2.length e1) (.slice z2 D2.length e2) (.slice z3 D2.length e3) (F 21) (F 22) (F 23) (D2 ++ [⟨ru, rs, rid⟩]) := push3_end hJ rfl rfl rfl
                  have hlo := HNEW.out
                  have HT8 := Lib.hid (HT7.out.push hE.kp hE.new (fun x hx => (lot_in3 hE.lot hx).2) (fun h => by have := hlo b h; omega) (fun x h => by have := hlo x h; omega))
                  have HL8 := Lib.hid hE.lot
                  have K8 := Lib.hid (K7.out.then hE.kp (fun x hx h => by have := hlo x h; omega))
                  clear hE hlo hJ HL7 HT7 K7 HOK HNOa
                  go_wp2_with fail
                  go_roundw
                  case measure => simp [intOf]; omega
                  case rel => exact ⟨k + 1, D2 ++ [⟨ru, rs, rid⟩], by omega, by go_num, by rw [HST.out], HL8.out, HT8.out, K8.out⟩
          · obtain rfl : k = D.length := by omega
            have hD3 : D2 = afterD ⟨xk, xu, xs⟩ D := by rw [hD2, List.take_length]
            subst hD3
            have HO8 := Lib.hid (HO6.out.look hkx)
            clear hkD hkx hD2 HLOT6 HSB6 HNEW q0 q1 q2 HO6 KX
            go_wp2_with fail
            go_roundw
            case measure => simp [intOf]; omega
            case rel => exact ⟨i + 1, T', s', afterD ⟨xk, xu, xs⟩ D, by omega, by go_num, by omega, by omega, HDR2.out, by omega, HO8.out, HT.out, HL.out.widen (by omega), by omega⟩
    · obtain rfl : i = l.length := by omega
      clear hlt hla HAT HTB HFT HNF
      have hok := HO.out.tb
      have HGD := Lib.hid (show ∀ u : Nat, u < T.length → (T.getD u []).Good from fun u hu => (hok.maps u hu).1)
      clear hok
      obtain ⟨W0, hW0⟩ : ∃ W0, wr = W0 := ⟨_, rfl⟩
      have KR := Lib.hid (Kept.refl (M := fun _ => False) W0)
      rw [hW0] at HO HLOT ⊢
      clear hW0
      go_wp2_with fail
      go_loopw [25, 26, 27, 28, 29] (fun v25 _ _ _ _ wx => ∃ u : Nat, u ≤ n ∧ v25 = .int .i64 u ∧ Kept (fun _ => False) W0 wx) (fun v25 _ _ _ _ _ => n - (intOf v25).toNat)
      case atStart => exact ⟨0, by omega, rfl, KR.out⟩
      case round =>
        obtain ⟨u, hu, rfl, hkx⟩ := hrel
        clear KR
        have KU := Lib.hid hkx
        clear hkx
        by_cases hun : u < n
        · go_wp2_with fail
          go_loopw [26, 27, 28, 29] (fun v26 v27 _ _ wx => ∃ k : Nat, k ≤ D.length ∧ v27 = .int .i64 k ∧ v26 = .int .i64 ((D.take k).countP (fun r => decide (r.u = (u : Int)))) ∧ Kept (fun _ => False) W0 wx) (fun _ v27 _ _ _ => D.length - (intOf v27).toNat)
          case atStart => exact ⟨0, by omega, rfl, by simp, KU.out⟩
          case round =>
            obtain ⟨k, hk, rfl, rfl, hkx⟩ := hrel
            have KX := Lib.hid hkx
            by_cases hkD : k < D.length
            · obtain ⟨rec, hrec⟩ : ∃ rec, D[k] = rec := ⟨_, rfl⟩
              have hrm : rec ∈ D := by rw [← hrec]; exact List.getElem_mem hkD
              have hct : (D.take (k + 1)).countP (fun r => decide (r.u = (u : Int))) = (D.take k).countP (fun r => decide (r.u = (u : Int))) + if rec.u = (u : Int) then 1 else 0 := by
                rw [List.take_succ_eq_append_getElem hkD, hrec, List.countP_append, List.countP_singleton]
                by_cases h : rec.u = (u : Int) <;> simp [h]
              obtain ⟨g1, g2, g3, rfl, rfl, rfl, y1, y2, y3⟩ := lot3_at (HLOT.out.look hkx) (k := k) (r := rec) (by rw [List.getElem?_eq_getElem hkD, hrec])
              have hin := HDR.out.1 rec hrm
              have hgd : (atT T rec.u).Good := by
                obtain ⟨q, hq⟩ := Int.eq_ofNat_of_zero_le hin.1
                rw [hq, atT_nat]
                exact HGD.out q (by omega)
              have hfd := drel_find HDR.out hrm hgd.1
              have hu16 := (hgd.2 _ (look_mem hfd)).1
              obtain ⟨ru, rs, rid⟩ := rec
              simp only at hfd hu16 y1 y2 y3 hct
              have HFD := Lib.hid hfd
              have HU16 := Lib.hid hu16
              have Y := Lib.hid (And.intro y1 y3)
              have Y2 := Lib.hid y2
              obtain ⟨N, hN⟩ : ∃ N, (D.take k).countP (fun r => decide (r.u = (u : Int))) = N := ⟨_, rfl⟩
              rw [hN] at hct ⊢
              have hNk : N ≤ k := by rw [← hN]; have := List.countP_le_length (p := fun r : DRec => decide (r.u = (u : Int))) (l := D.take k); simp at this; omega
              have HCT := Lib.hid hct
              clear hrec hrm hin hgd hfd hu16 y1 y2 y3 hkx hN hct
              go_wp2_with fail
              refine wp_region_inv (?t0 :: ?t1 :: ?t2 :: ?t3 :: ?t4 :: ?t5 :: ?t6 :: ?t7 :: ?t8 :: ?t9 :: ?t10 :: ?t11 :: ?t12 :: ?t13 :: ?t14 :: []) (fun wq => Kept (fun _ => False) wr wq) (by kernel_rfl) (by kernel_rfl) [some 194, some 195, some 196, some 197, some 198, some 199, some 200, some 201, some 202, some 203, some 193, some 204, some 205, some 28, some 29] rfl rfl ?tA ?thA ?th0 ?tH ?thQ
              case thA => simp only [laidAll, Act.put, List.setIfInBounds_toArray, List.set_cons_zero, List.set_cons_succ]; exact rfl
              case tH =>
                iterate 9 (refine ⟨?_, ?_⟩; · first | (refine OpStep.yields (Or.inr ⟨by rfl, ?_⟩); rfl) | (refine OpStep.yields (Or.inl ⟨by rfl, ?_⟩); intro w; go_simp; (try with_reducible rfl); done) | (refine OpStep.reads (by rfl) ?_; intro wx hI; have qa := hI.cell Y.out.1 id; have qb := hI.cell Y.out.2 id; go_simp; (try with_reducible rfl); done))
                refine ⟨?_, ?_⟩
                · refine OpStep.calls ?tf9 ?tg9 (by rfl) ?tr9 ?tc9
                  case tr9 => intro w _; go_simp; first | (refine ⟨?_, ?_⟩ <;> with_reducible rfl) | with_reducible rfl
                  case tc9 =>
                    intro wx hI
                    refine (pown_find (Lib.hid (HO.out.look (KX.out.trans hI))) ru rid HU16.out (some rs) HFD.out).mono ?_
                    rintro e w' ⟨rfl, rfl⟩
                    refine ⟨?_, hI⟩
                    with_reducible rfl
                iterate 5 (refine ⟨?_, ?_⟩; · first | (refine OpStep.yields (Or.inr ⟨by rfl, ?_⟩); rfl) | (refine OpStep.yields (Or.inl ⟨by rfl, ?_⟩); intro w; go_simp; (try with_reducible rfl); done) | (refine OpStep.reads (by rfl) ?_; intro wx hI; have qa := hI.cell Y.out.1 id; have qb := hI.cell Y.out.2 id; go_simp; (try with_reducible rfl); done))
                exact trivial
              case th0 => exact (Kept.refl (M := fun _ => False) wr).drew
              case thQ =>
                intro wz hz
                have y1 := hz.cell Y.out.1 id
                have y2 := hz.cell Y2.out id
                have n0 : (rs != rs) = false := by simp
                have KZ := Lib.hid (KX.out.trans hz)
                clear hz
                by_cases hru : ru = (u : Int)
                · subst hru
                  have HC2 := Lib.hid (show (D.take (k + 1)).countP (fun r => decide (r.u = (u : Int))) = N + 1 by rw [HCT.out]; simp)
                  have n1 : ((u : Int) == (u : Int)) = true := by simp
                  go_wp2_with fail
                  go_roundw
                  case measure => simp [intOf]; omega
                  case rel => exact ⟨k + 1, by omega, by go_num, by rw [HC2.out]; go_num, KZ.out⟩
                · have n1 : (ru == (u : Int)) = false := by simpa using hru
                  have HC2 := Lib.hid (show (D.take (k + 1)).countP (fun r => decide (r.u = (u : Int))) = N by rw [HCT.out]; simp [hru])
                  clear hru
                  go_wp2_with fail
                  go_roundw
                  case measure => simp [intOf]; omega
                  case rel => exact ⟨k + 1, by omega, by go_num, by rw [HC2.out], KZ.out⟩
            · obtain rfl : k = D.length := by omega
              have hln := drel_len HDR.out (u := u) (by omega)
              rw [List.take_length]
              obtain ⟨N, hN⟩ : ∃ N, D.countP (fun r => decide (r.u = (u : Int))) = N := ⟨_, rfl⟩
              rw [hN] at hln ⊢
              have HLN := Lib.hid hln
              obtain ⟨NI, hNI⟩ : ∃ NI : Int, (N : Int) = NI := ⟨_, rfl⟩
              have n0 : (NI != NI) = false := by simp
              rw [hNI]
              clear hln hN hkx
              go_wp2_with fail
              refine (pown_len (Lib.hid (HO.out.look KX.out)) u N HLN.out).mono ?_
              rintro e wz ⟨rfl, rfl⟩
              rw [hNI]
              clear hNI
              go_wp2_with fail
              go_roundw
              case measure => simp [intOf]; omega
              case rel => exact ⟨u + 1, by omega, by go_num, KX.out⟩
        · obtain rfl : u = n := by omega
          go_wp2_with fail
          go_ret
          exact ⟨rfl, (K1.out.trans HO.out.kp).trans KU.out⟩
end Go.Proofs.Ythgioaaenfdcdaa
