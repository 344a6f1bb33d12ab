/- TallyNames, walked. -/
import Derived.Test.YtffjighohloifaaAwake21
namespace Go.Proofs.Ytffjighohloifaa
open Go.RowKit

set_option maxRecDepth 100000 in
set_option maxHeartbeats 2000000 in
theorem names21_walk (w : World) : Calls Try.prog 5 #[] w fun e w' => e = .returned (.bool true) ∧ Kept (fun _ => False) w w' := by
  go_enter Try.func5, Try.ntmps5
  go_wp2_with fail
  refine (awake21_any _).mono ?_
  rintro e w1 ⟨rfl, hk⟩
  have K := Lib.hid hk
  clear hk
  go_wp2_with fail
  refine (tnew_no 0 (by decide) _).mono ?_
  rintro e w2 ⟨rfl, rfl⟩
  go_wp2_with fail
  refine (tnew_no 10 (by decide) _).mono ?_
  rintro e w2 ⟨rfl, rfl⟩
  go_wp2_with fail
  refine (tnew_in K.out 9 (by decide) (by decide)).mono ?_
  rintro e w2 ⟨rfl, h1⟩
  obtain ⟨b, hb⟩ : ∃ b, w1.heap.size = b := ⟨_, rfl⟩
  rw [hb] at h1 ⊢
  have H := Lib.hid (show BoxIn w w2 b (nineB 0) from h1)
  clear h1 hb K
  go_wp2_with fail
  refine (cast_in H.out (-1) 0 Verd.none none_ok none 0 none 0 (SetsAt.nil _ _ _) (SetsAt.nil _ _ _) 1 nine_args.1 (nineB 0) nine_args.2.1).mono ?_
  rintro e w3 ⟨rfl, h3⟩
  have H := Lib.hid h3
  clear h3
  go_wp2_with fail
  refine (cast_in H.out 9 0 Verd.none none_ok none 0 none 0 (SetsAt.nil _ _ _) (SetsAt.nil _ _ _) 1 nine_args.2.2.1 (nineB 0) nine_args.2.2.2.1).mono ?_
  rintro e w3 ⟨rfl, h3⟩
  have H := Lib.hid h3
  clear h3
  go_wp2_with fail
  refine (pass_in H.out 9 1 nine_args.2.2.1 (nineB 0) nine_args.2.2.2.2).mono ?_
  rintro e w3 ⟨rfl, h3⟩
  have H := Lib.hid h3
  clear h3
  go_wp2_with fail
  go_loopw [7, 8, 9, 10, 11] (fun c _ _ _ _ wr => ∃ k : Nat, k ≤ 9 ∧ c = .int .i64 k ∧ BoxIn w wr b (nineB k)) (fun c _ _ _ _ _ => 9 - (intOf c).toNat)
  case atStart => exact ⟨0, by omega, rfl, H.out⟩
  case round =>
    obtain ⟨k, hk, rfl, hbox⟩ := hrel
    have HK := Lib.hid hbox
    clear hbox H
    by_cases hlt : k < 9
    · have i0 : (0 : Int) ≤ (k : Int) := Int.natCast_nonneg _
      have i1 : (k : Int) < 9 := by omega
      have hf := nineB_facts k hlt
      have HF := Lib.hid hf
      have hw32 : IntKind.u32.wrap (20 - (k : Int)) = 20 - (k : Int) := by rw [IntKind.wrap_u32]; omega
      clear hf
      go_wp2_with fail
      refine (won_no_in HK.out HF.out.1).mono ?_
      rintro e w4 ⟨rfl, hk4⟩
      have H := Lib.hid (HK.out.look hk4)
      clear hk4 HK
      go_wp2_with fail
      refine (said_any tX _).mono ?_
      rintro e w5 ⟨v, rfl, hv, hk5⟩
      obtain ⟨a1, c1, a2, c2, rfl, s1, s2⟩ := hv
      have H2 := Lib.hid ((H.out.look ((Kept.refl _).alloc _)).look hk5)
      have HS := Lib.hid (And.intro s1 s2)
      clear hk5 s1 s2 H
      go_wp2_with fail
      refine (cast_in H2.out (8 - (k : Int)) (20 - (k : Int)) (saidV tX) said_ok.1 a1 c1 a2 c2 (HS.out.1.mono (fun _ _ _ => trivial)) (HS.out.2.mono (fun _ _ _ => trivial)) 0 HF.out.2 (nineB (k + 1)) rfl).mono ?_
      rintro e w6 ⟨rfl, h3⟩
      have H := Lib.hid h3
      clear h3 H2 HS
      go_wp2_with fail
      go_roundw
      case measure => simp [intOf]; omega
      case rel => exact ⟨k + 1, by omega, by go_num, H.out⟩
    · obtain rfl : k = 9 := by omega
      have H := HK
      clear HK
      go_wp2_with fail
      refine (won_in H.out 12 nine_facts.2.1 l9 nine_by (by decide) nine_facts.1 (saidV tX) nine_facts').mono ?_
      rintro e w10 ⟨a1, c1, a2, c2, ay, cy, rfl, -, hy, hk⟩
      have HY := Lib.hid hy
      have HB := Lib.hid (H.out.look hk)
      clear hy hk H
      rw [show l9.length = 9 from rfl]
      go_wp2_with fail
      obtain ⟨w11, hw11⟩ : ∃ w11, w10.alloc (.cells #[.int .u8 (saidV tX).code, .slice a1 (saidV tX).sets.length c1, .slice a2 (saidV tX).soa.length c2] 29) = w11 := ⟨_, rfl⟩
      have K11 := Lib.hid (show Kept (fun _ => False) w10 w11 from by rw [← hw11]; exact (Kept.refl _).alloc _)
      have e11 : w11.heap.size = w10.heap.size + 1 := by rw [← hw11]; simp
      rw [hw11]
      clear hw11
      obtain ⟨w12, hw12⟩ : ∃ w12, w11.alloc (.cells #[.int .i64 0, .int .i64 1, .int .i64 2, .int .i64 3, .int .i64 4, .int .i64 5, .int .i64 6, .int .i64 7, .int .i64 8] 3) = w12 := ⟨_, rfl⟩
      have K12 := Lib.hid (show Kept (fun _ => False) w10 w12 from by rw [← hw12]; exact K11.out.alloc _)
      have R1 := Lib.hid (row9_old (cy := cy) HY.out K12.out)
      have R2 := Lib.hid (show RowT l9 w12 (.slice (some ⟨w10.heap.size + 1, 0, none⟩) 9 9) from by rw [← hw12, ← e11]; exact row9_new w11)
      have H := Lib.hid (HB.out.look K12.out)
      rw [hw12]
      clear hw12 HB HY e11
      refine (ints_yes R1.out R2.out (by decide)).mono ?_
      rintro e w13 ⟨rfl, hk⟩
      have H2 := Lib.hid (H.out.look hk)
      clear hk H R1 R2 K12 K11
      go_wp2_with fail
      refine (most_in H2.out 9 nine_facts.2.2.2.1).mono ?_
      rintro e w14 ⟨rfl, hk⟩
      have H := Lib.hid (H2.out.look hk)
      clear hk H2
      go_wp2_with fail
      refine (pass_in H.out 3 7 nine_facts.2.2.2.2 (nineB 9) nine_pass).mono ?_
      rintro e w3 ⟨rfl, h3⟩
      have H := Lib.hid h3
      clear h3
      go_wp2_with fail
      refine (tnew_in H.out.2.1 1 (by decide) (by decide)).mono ?_
      rintro e w14 ⟨rfl, h1⟩
      clear H
      have H := Lib.hid h1
      obtain ⟨y, hy⟩ : ∃ y, w3.heap.size = y := ⟨_, rfl⟩
      rw [hy] at H ⊢
      clear h1 hy
      go_wp2_with fail
      refine (pass_in H.out 4 0 one_putE.1 _ rfl).mono ?_
      rintro e w3 ⟨rfl, h3⟩
      have H := Lib.hid h3
      clear h3
      go_wp2_with fail
      refine (said_any tA _).mono ?_
      rintro e w2 ⟨v, rfl, hv, hk⟩
      obtain ⟨a1, c1, a2, c2, rfl, s1, s2⟩ := hv
      have H2 := Lib.hid (H.out.look hk)
      have HS := Lib.hid (And.intro s1 s2)
      clear hk s1 s2 H
      go_wp2_with fail
      refine (cast_in H2.out 5 7 (saidV tA) said_ok.2.2.1 a1 c1 a2 c2 (HS.out.1.mono (fun _ _ _ => trivial)) (HS.out.2.mono (fun _ _ _ => trivial)) 0 one_putE.2.1 _ rfl).mono ?_
      rintro e w3 ⟨rfl, h3⟩
      have H := Lib.hid h3
      clear h3 H2 HS
      go_wp2_with fail
      refine (said_any tB _).mono ?_
      rintro e w2 ⟨v, rfl, hv, hk⟩
      obtain ⟨a1, c1, a2, c2, rfl, s1, s2⟩ := hv
      have H2 := Lib.hid (H.out.look hk)
      have HS := Lib.hid (And.intro s1 s2)
      clear hk s1 s2 H
      go_wp2_with fail
      refine (cast_in H2.out 1 1 (saidV tB) said_ok.2.2.2 a1 c1 a2 c2 (HS.out.1.mono (fun _ _ _ => trivial)) (HS.out.2.mono (fun _ _ _ => trivial)) 0 one_putE.2.2.1 _ rfl).mono ?_
      rintro e w3 ⟨rfl, h3⟩
      have H := Lib.hid h3
      clear h3 H2 HS
      go_wp2_with fail
      refine (said_any tA _).mono ?_
      rintro e w2 ⟨v, rfl, hv, hk⟩
      obtain ⟨a1, c1, a2, c2, rfl, s1, s2⟩ := hv
      have H2 := Lib.hid (H.out.look hk)
      have HS := Lib.hid (And.intro s1 s2)
      clear hk s1 s2 H
      go_wp2_with fail
      refine (cast_in H2.out 2 2 (saidV tA) said_ok.2.2.1 a1 c1 a2 c2 (HS.out.1.mono (fun _ _ _ => trivial)) (HS.out.2.mono (fun _ _ _ => trivial)) 0 one_putE.2.2.2 oneBox rfl).mono ?_
      rintro e w3 ⟨rfl, h3⟩
      have H := Lib.hid h3
      clear h3 H2 HS
      go_wp2_with fail
      refine (won_in H.out 7 one_facts.2.1 [5] one_facts.2.2.1 (by decide) one_facts.1 (saidV tA) one_find).mono ?_
      rintro e w10 ⟨a1, c1, a2, c2, ay, cy, rfl, hv, hy, hk⟩
      have HV := Lib.hid hv
      have HY := Lib.hid hy
      have HB := Lib.hid (H.out.look hk)
      clear hv hy hk H
      go_upto_region 21 with (fail)
      obtain ⟨w11, hw11⟩ : ∃ w11, w10.alloc (.cells #[.int .u8 (saidV tA).code, .slice a1 (saidV tA).sets.length c1, .slice a2 (saidV tA).soa.length c2] 29) = w11 := ⟨_, rfl⟩
      have HC := Lib.hid (show w11.heap[w10.heap.size]? = some (.cells #[.int .u8 (saidV tA).code, .slice a1 (saidV tA).sets.length c1, .slice a2 (saidV tA).soa.length c2] 29 (0, 0)) from by rw [← hw11]; exact new_blk _ _)
      have K11 := Lib.hid (show Kept (fun _ => False) w10 w11 from by rw [← hw11]; exact (Kept.refl _).alloc _)
      rw [hw11]
      clear hw11
      obtain ⟨vb, hvb⟩ : ∃ vb, w10.heap.size = vb := ⟨_, rfl⟩
      rw [hvb] at HC ⊢
      have HI := Lib.hid (show SayI w y oneBox vb (saidV tA) a1 c1 a2 c2 ay [5] w11.drew from ⟨(HB.out.look K11.out).look (Kept.refl _).drew, ⟨by have := cell_blk HC.out 0; exact this, by have := cell_blk HC.out 1; exact this, by have := cell_blk HC.out 2; exact this⟩,
        (by obtain ⟨_, _, _, _, e, s1, s2⟩ := HV.out
            simp only [Value.agg.injEq, Array.mk.injEq, List.cons.injEq, Value.slice.injEq] at e
            obtain ⟨-, ⟨rfl, -, rfl⟩, ⟨rfl, -, rfl⟩, -⟩ := e
            exact ⟨((s1.mono (Q := fun _ => True) (fun _ _ _ => trivial)).look K11.out).look (Kept.refl _).drew, ((s2.mono (Q := fun _ => True) (fun _ _ _ => trivial)).look K11.out).look (Kept.refl _).drew⟩),
        (HY.out.mono' (Q := fun _ => True) (fun _ _ _ => trivial)).kept' K11.out.drew (fun _ _ _ => id)⟩)
      clear HB HV HY HC K11 hvb
      refine wp_region_rel ((some ?av0) :: (some ?av1) :: (some ?av2) :: (some ?av3) :: (some ?av4) :: (some ?av5) :: (some ?av6) :: (some ?av7) :: (none) :: (some ?av9) :: (some ?av10) :: (some ?av11) :: (some ?av12) :: (some ?av13) :: (none) :: (some ?av15) :: (some ?av16) :: (some ?av17) :: (some ?av18) :: (some ?av19) :: (none) :: (none) :: (some ?av22) :: (some ?av23) :: (some ?av24) :: (some ?av25) :: (some ?av26) :: (some ?av27) :: (some ?av28) :: (some ?av29) :: (some ?av30) :: (some ?av31) :: (none) :: (some ?av33) :: (some ?av34) :: (some ?av35) :: []) (FoundJ (SayI w y oneBox vb (saidV tA) a1 c1 a2 c2 ay [5]) NameT) (fun j => false) (by kernel_rfl) (by kernel_rfl) [some 156, some 157, some 158, some 159, some 160, some 161, some 162, some 163, some 164, some 165, some 166, some 167, some 168, some 169, some 170, some 171, some 172, some 173, some 174, some 175, some 176, some 177, some 178, some 179, some 180, some 181, some 182, some 183, some 184, some 185, some 186, some 187, some 188, some 189, some 190, some 191] rfl rfl ?aA ?aAp ?ahA ?ahAp ?ah0 ?aH ?ahQ
      case ahA => intro F; simp only [valsFrom, Option.getD_some, Option.getD_none, Nat.zero_add, Nat.reduceAdd, laidAll, Act.put, List.setIfInBounds_toArray, List.set_cons_zero, List.set_cons_succ]; try rfl
      case ahAp => intro F; change laidAll _ [some 156, some 157, some 158, some 159, some 160, some 161, some 162, some 163, some 164, some 165, some 166, some 167, some 168, some 169, some 170, some 171, some 172, some 173, some 174, some 175, some 176, some 177, some 178, some 179, some 180, some 181, some 182, some 183, some 184, some 185, some 186, some 187, some 188, some 189, some 190, some 191] _ = _; simp only [valsFrom, Option.getD_some, Option.getD_none, Nat.zero_add, Nat.reduceAdd, laidAll, Act.put, List.setIfInBounds_toArray, List.set_cons_zero, List.set_cons_succ]; try rfl
      case ah0 => exact ⟨HI.out, fun i v hv => by cases hv⟩
      case aH =>
        intro F g wx hJ hF
        iterate 8 (refine ⟨fun hp => ?_, ?_⟩; · first | (refine RelStep.yields hJ (Or.inr ⟨by rfl, ?_⟩); rfl) | (refine RelStep.yields hJ (Or.inl ⟨by rfl, ?_⟩); intro w; go_simp; (try with_reducible rfl); done) | (refine RelStep.reads hJ (by rfl) ?_; have q0 := hJ.1.2.1.1; have q1 := hJ.1.2.1.2.1; have q2 := hJ.1.2.1.2.2; go_simp; (try with_reducible rfl); done))
        refine ⟨fun hp => ?_, ?_⟩
        · refine RelStep.finds (by rfl) (.slice (some ⟨wx.heap.size, 0, none⟩) 1 1) (wx.alloc (.cells #[.int .i64 5] 3)) ?ar8 ?aj8
          case ar8 => go_simp
          case aj8 => exact (hJ.look SayI.lasts NameT.lasts ((Kept.refl _).alloc _)).add 8 _ ⟨⟨fun e => absurd e (by decide), by first | exact (fun _ => ⟨_, _, rfl, Cells.one (l := [.int .i64 5]) trivial⟩) | exact (fun e => absurd e (by decide)), by first | exact (fun _ => ⟨_, _, rfl, Cells.one (l := [.int .i64 5]) trivial⟩) | exact (fun e => absurd e (by decide)), by first | exact (fun _ => ⟨_, _, rfl, Cells.one (l := [.int .i64 5]) trivial⟩) | exact (fun e => absurd e (by decide))⟩, fun e => absurd e (by decide)⟩
        refine ⟨fun hp => ?_, ?_⟩
        · refine RelStep.calls ?af9 ?ag9 (by rfl) ?ar9 ?ac9
          case ar9 => go_simp; first | (refine ⟨?_, ?_⟩ <;> with_reducible rfl) | with_reducible rfl
          case ac9 =>
            obtain ⟨x1, h1⟩ := hp ⟨8, .data⟩ (by simp) rfl rfl
            have hv := (hJ.2 8 x1 h1).1.2.1 rfl
            rw [← hF 8 x1 h1] at hv
            refine (ints_yes (l := [5]) ⟨ay, cy, rfl, hJ.1.2.2.2⟩ hv (by decide)).mono ?_
            rintro e w' ⟨rfl, hk⟩
            refine ⟨?_, hJ.look SayI.lasts NameT.lasts hk⟩
            with_reducible rfl
        iterate 4 (refine ⟨fun hp => ?_, ?_⟩; · first | (refine RelStep.yields hJ (Or.inr ⟨by rfl, ?_⟩); rfl) | (refine RelStep.yields hJ (Or.inl ⟨by rfl, ?_⟩); intro w; go_simp; (try with_reducible rfl); done) | (refine RelStep.reads hJ (by rfl) ?_; have q0 := hJ.1.2.1.1; have q1 := hJ.1.2.1.2.1; have q2 := hJ.1.2.1.2.2; go_simp; (try with_reducible rfl); done))
        refine ⟨fun hp => ?_, ?_⟩
        · refine RelStep.callsF ?af14 ?ag14 (by rfl) ?ar14 ?ac14
          case ar14 => go_simp; first | (refine ⟨?_, ?_⟩ <;> with_reducible rfl) | with_reducible rfl
          case ac14 =>
            intro _
            refine (said_any tA _).mono ?_
            rintro e w' ⟨v, rfl, hv, hk⟩
            exact ⟨v, rfl, (hJ.look SayI.lasts NameT.lasts hk).add 14 v ⟨⟨fun _ => hv.mono (fun _ _ _ => trivial), fun e => absurd e (by decide), fun e => absurd e (by decide), fun e => absurd e (by decide)⟩, fun e => absurd e (by decide)⟩⟩
        refine ⟨fun hp => ?_, ?_⟩
        · refine RelStep.calls ?af15 ?ag15 (by rfl) ?ar15 ?ac15
          case ar15 => go_simp; first | (refine ⟨?_, ?_⟩ <;> with_reducible rfl) | with_reducible rfl
          case ac15 =>
            obtain ⟨x1, h1⟩ := hp ⟨14, .data⟩ (by simp) rfl rfl
            have hv := (hJ.2 14 x1 h1).1.1 rfl
            rw [← hF 14 x1 h1] at hv
            refine (same_yes ⟨a1, c1, a2, c2, rfl, hJ.1.2.2.1.1, hJ.1.2.2.1.2⟩ hv).mono ?_
            rintro e w' ⟨rfl, hk⟩
            refine ⟨?_, hJ.look SayI.lasts NameT.lasts hk⟩
            with_reducible rfl
        iterate 4 (refine ⟨fun hp => ?_, ?_⟩; · first | (refine RelStep.yields hJ (Or.inr ⟨by rfl, ?_⟩); rfl) | (refine RelStep.yields hJ (Or.inl ⟨by rfl, ?_⟩); intro w; go_simp; (try with_reducible rfl); done) | (refine RelStep.reads hJ (by rfl) ?_; have q0 := hJ.1.2.1.1; have q1 := hJ.1.2.1.2.1; have q2 := hJ.1.2.1.2.2; go_simp; (try with_reducible rfl); done))
        refine ⟨fun hp => ?_, ?_⟩
        · refine RelStep.callsF ?af20 ?ag20 (by rfl) ?ar20 ?ac20
          case ar20 => go_simp; first | (refine ⟨?_, ?_⟩ <;> with_reducible rfl) | with_reducible rfl
          case ac20 =>
            intro _
            refine (against_in hJ.1.1 one_facts.1 [1] one_facts.2.2.2.1).mono ?_
            rintro e w' ⟨ao', cap', rfl, hc, hk⟩
            exact ⟨_, rfl, (hJ.look SayI.lasts NameT.lasts hk).add 20 _ ⟨⟨fun e => absurd e (by decide), fun e => absurd e (by decide), fun _ => ⟨ao', cap', rfl, hc.mono' (fun _ _ _ => trivial)⟩, fun e => absurd e (by decide)⟩, fun e => absurd e (by decide)⟩⟩
        refine ⟨fun hp => ?_, ?_⟩
        · refine RelStep.finds (by rfl) (.slice (some ⟨wx.heap.size, 0, none⟩) 1 1) (wx.alloc (.cells #[.int .i64 1] 3)) ?ar21 ?aj21
          case ar21 => go_simp
          case aj21 => exact (hJ.look SayI.lasts NameT.lasts ((Kept.refl _).alloc _)).add 21 _ ⟨⟨fun e => absurd e (by decide), by first | exact (fun _ => ⟨_, _, rfl, Cells.one (l := [.int .i64 1]) trivial⟩) | exact (fun e => absurd e (by decide)), by first | exact (fun _ => ⟨_, _, rfl, Cells.one (l := [.int .i64 1]) trivial⟩) | exact (fun e => absurd e (by decide)), by first | exact (fun _ => ⟨_, _, rfl, Cells.one (l := [.int .i64 1]) trivial⟩) | exact (fun e => absurd e (by decide))⟩, fun e => absurd e (by decide)⟩
        refine ⟨fun hp => ?_, ?_⟩
        · refine RelStep.calls ?af22 ?ag22 (by rfl) ?ar22 ?ac22
          case ar22 => go_simp; first | (refine ⟨?_, ?_⟩ <;> with_reducible rfl) | with_reducible rfl
          case ac22 =>
            obtain ⟨x1, h1⟩ := hp ⟨20, .data⟩ (by simp) rfl rfl
            have hv := (hJ.2 20 x1 h1).1.2.2.1 rfl
            rw [← hF 20 x1 h1] at hv
            obtain ⟨x2, h2⟩ := hp ⟨21, .data⟩ (by simp) rfl rfl
            have hu := (hJ.2 21 x2 h2).1.2.2.2 rfl
            rw [← hF 21 x2 h2] at hu
            refine (ints_yes (l := [1]) hv hu (by decide)).mono ?_
            rintro e w' ⟨rfl, hk⟩
            refine ⟨?_, hJ.look SayI.lasts NameT.lasts hk⟩
            with_reducible rfl
        iterate 4 (refine ⟨fun hp => ?_, ?_⟩; · first | (refine RelStep.yields hJ (Or.inr ⟨by rfl, ?_⟩); rfl) | (refine RelStep.yields hJ (Or.inl ⟨by rfl, ?_⟩); intro w; go_simp; (try with_reducible rfl); done) | (refine RelStep.reads hJ (by rfl) ?_; have q0 := hJ.1.2.1.1; have q1 := hJ.1.2.1.2.1; have q2 := hJ.1.2.1.2.2; go_simp; (try with_reducible rfl); done))
        refine ⟨fun hp => ?_, ?_⟩
        · refine RelStep.calls ?af27 ?ag27 (by rfl) ?ar27 ?ac27
          case ar27 => go_simp; first | (refine ⟨?_, ?_⟩ <;> with_reducible rfl) | with_reducible rfl
          case ac27 =>
            refine (most_in hJ.1.1 2 one_facts.2.2.2.2.1).mono ?_
            rintro e w' ⟨rfl, hk⟩
            refine ⟨?_, hJ.look SayI.lasts NameT.lasts hk⟩
            with_reducible rfl
        iterate 4 (refine ⟨fun hp => ?_, ?_⟩; · first | (refine RelStep.yields hJ (Or.inr ⟨by rfl, ?_⟩); rfl) | (refine RelStep.yields hJ (Or.inl ⟨by rfl, ?_⟩); intro w; go_simp; (try with_reducible rfl); done) | (refine RelStep.reads hJ (by rfl) ?_; have q0 := hJ.1.2.1.1; have q1 := hJ.1.2.1.2.1; have q2 := hJ.1.2.1.2.2; go_simp; (try with_reducible rfl); done))
        refine ⟨fun hp => ?_, ?_⟩
        · refine RelStep.callsF ?af32 ?ag32 (by rfl) ?ar32 ?ac32
          case ar32 => go_simp; first | (refine ⟨?_, ?_⟩ <;> with_reducible rfl) | with_reducible rfl
          case ac32 =>
            intro _
            refine (votes_in hJ.1.1 3 one_facts.2.2.2.2.2).mono ?_
            rintro e w' ⟨ao', cap', rfl, hk⟩
            exact ⟨_, rfl, (hJ.look SayI.lasts NameT.lasts hk).add 32 _ ⟨⟨fun e => absurd e (by decide), fun e => absurd e (by decide), fun e => absurd e (by decide), fun e => absurd e (by decide)⟩, fun _ => ⟨ao', cap', rfl⟩⟩⟩
        refine ⟨fun hp => ?_, ?_⟩
        · refine RelStep.reads hJ (by rfl) ?_
          obtain ⟨x1, h1⟩ := hp ⟨32, .data⟩ (by simp) rfl rfl
          obtain ⟨a3, c3, e⟩ := (hJ.2 32 x1 h1).2 rfl
          have e2 : F 32 = .slice a3 3 c3 := (hF 32 x1 h1).trans e
          go_simp
          with_reducible rfl
        iterate 2 (refine ⟨fun hp => ?_, ?_⟩; · first | (refine RelStep.yields hJ (Or.inr ⟨by rfl, ?_⟩); rfl) | (refine RelStep.yields hJ (Or.inl ⟨by rfl, ?_⟩); intro w; go_simp; (try with_reducible rfl); done) | (refine RelStep.reads hJ (by rfl) ?_; have q0 := hJ.1.2.1.1; have q1 := hJ.1.2.1.2.1; have q2 := hJ.1.2.1.2.2; go_simp; (try with_reducible rfl); done))
        exact trivial

      case ahQ =>
        intro F wx hJ
        have K := Lib.hid hJ.1.1.2.1
        clear hJ HI
        go_wp2_with fail
        have H := Lib.hid (fresh_in K.out)
        clear K
        obtain ⟨w11, hw11⟩ : ∃ w11, wx.alloc (.cells #[.int .i64 0, .slice none 0 0, .bool false, .string ⟨#[]⟩, .slice none 0 0, .int .u32 0] 75) = w11 := ⟨_, rfl⟩
        obtain ⟨f, hf⟩ : ∃ f, wx.heap.size = f := ⟨_, rfl⟩
        rw [hw11, hf] at H
        rw [hw11, hf]
        clear hw11 hf
        refine (nil_won _).mono ?_
        rintro e w4 ⟨rfl, hk⟩
        have H2 := Lib.hid (H.out.look hk)
        clear hk H
        have H := H2
        clear H2
        go_wp2_with fail
        refine (nil_cast _ 0 0 Verd.none none_ok none 0 none 0 (SetsAt.nil _ _ _) (SetsAt.nil _ _ _)).mono ?_
        rintro e w4 ⟨rfl, hk⟩
        have H2 := Lib.hid (H.out.look hk)
        clear hk H
        have H := H2
        clear H2
        go_wp2_with fail
        refine (nil_pass 0 _).mono ?_
        rintro e w4 ⟨rfl, hk⟩
        have H2 := Lib.hid (H.out.look hk)
        clear hk H
        have H := H2
        clear H2
        go_wp2_with fail
        refine (nil_against _).mono ?_
        rintro e w4 ⟨rfl, hk⟩
        have H2 := Lib.hid (H.out.look hk)
        clear hk H
        have H := H2
        clear H2
        go_wp2_with fail
        refine (nil_votes _).mono ?_
        rintro e w4 ⟨rfl, hk⟩
        have H2 := Lib.hid (H.out.look hk)
        clear hk H
        have H := H2
        clear H2
        go_wp2_with fail
        refine (nil_most _).mono ?_
        rintro e w4 ⟨rfl, hk⟩
        have H2 := Lib.hid (H.out.look hk)
        clear hk H
        have H := H2
        clear H2
        go_wp2_with fail
        refine (nil_has 0 _).mono ?_
        rintro e w4 ⟨rfl, hk⟩
        have H2 := Lib.hid (H.out.look hk)
        clear hk H
        have H := H2
        clear H2
        go_wp2_with fail
        refine (nil_copy _).mono ?_
        rintro e w4 ⟨rfl, hk⟩
        have H2 := Lib.hid (H.out.look hk)
        clear hk H
        have H := H2
        clear H2
        go_wp2_with fail
        refine (cast_in H.out 1 0 Verd.none none_ok none 0 none 0 (SetsAt.nil _ _ _) (SetsAt.nil _ _ _) 0 fresh_facts.1 freshBox rfl).mono ?_
        rintro e w4 ⟨rfl, h3⟩
        clear H
        have H := Lib.hid h3
        clear h3
        go_wp2_with fail
        refine (won_no_in H.out fresh_facts.2.1).mono ?_
        rintro e w4 ⟨rfl, hk⟩
        have H2 := Lib.hid (H.out.look hk)
        clear hk H
        have H := H2
        clear H2
        go_wp2_with fail
        refine (has_in H.out 1 true fresh_facts.2.2.2).mono ?_
        rintro e w4 ⟨rfl, hk⟩
        have H2 := Lib.hid (H.out.look hk)
        clear hk H
        have H := H2
        clear H2
        go_wp2_with fail
        refine (most_in H.out 1 fresh_facts.2.2.1).mono ?_
        rintro e w4 ⟨rfl, hk⟩
        have H2 := Lib.hid (H.out.look hk)
        clear hk H
        have H := H2
        clear H2
        go_wp2_with fail
        go_ret
        exact ⟨rfl, H.out.2.1⟩
end Go.Proofs.Ytffjighohloifaa
