/- The closure that OrderAlike makes: are two alike? -/
import Derived.Test.YtnpmimjhpnhdkaaCase20
import Derived.Test.YtnpmimjhpnhdkaaRegInv
import Derived.Test.YtnpmimjhpnhdkaaAlikePlain
namespace Go.Proofs.Ytnpmimjhpnhdkaa
open Go.RowKit

set_option maxRecDepth 100000 in
set_option maxHeartbeats 4000000 in
theorem same_any {W w : World} {b g : Nat} {S : BookS} (H : Hid (Own W w b g S)) (cb : Nat) (HC : Hid (w.cell? ⟨cb, 0, none⟩ = some (.pointer (some ⟨b, 0, none⟩)))) (u v : Int) (r : Bool)
    (hr : (decide ((S.of u).trial = (S.of v).trial) && decide ((S.of u).score = (S.of v).score)) = r) :
    Calls Try.prog 15 #[.int .i64 u, .int .i64 v, .pointer (some ⟨cb, 0, none⟩)] w fun e w' => e = .returned (.bool r) ∧ Kept (fun _ => False) w w' := by
  obtain ⟨s0, hs0⟩ : ∃ s0, (S.of u).score = s0 := ⟨_, rfl⟩
  obtain ⟨s1, hs1⟩ : ∃ s1, (S.of v).score = s1 := ⟨_, rfl⟩
  obtain ⟨t0, ht0⟩ : ∃ t0, (S.of u).trial = t0 := ⟨_, rfl⟩
  obtain ⟨t1, ht1⟩ : ∃ t1, (S.of v).trial = t1 := ⟨_, rfl⟩
  rw [hs0, hs1, ht0, ht1] at hr
  have HS0 := Lib.hid hs0
  have HS1 := Lib.hid hs1
  have HT0 := Lib.hid ht0
  have HT1 := Lib.hid ht1
  have HR := Lib.hid hr
  clear hs0 hs1 ht0 ht1 hr
  cases t0 <;> cases t1
  · go_enter Try.func15, Try.ntmps15
    go_wp2_with fail
    refine wp_region_inv (?a0 :: ?a1 :: ?a2 :: ?a3 :: ?a4 :: ?a5 :: ?a6 :: ?a7 :: ?a8 :: ?a9 :: ?a10 :: ?a11 :: ?a12 :: ?a13 :: ?a14 :: ?a15 :: ?a16 :: []) (fun wx => Kept (fun _ => False) w wx) (by kernel_rfl) (by kernel_rfl) [some 6, some 7, some 8, some 9, some 10, some 11, some 12, some 13, some 14, some 15, some 16, some 17, some 18, some 19, some 20, some 21, some 5] rfl rfl ?aA ?ahA ?ah0 ?aH ?ahQ
    case ahA => simp only [laidAll, Act.put, List.setIfInBounds_toArray, List.set_cons_zero, List.set_cons_succ]; exact rfl
    case aH =>
      iterate 2 (refine ⟨?_, ?_⟩; · first | (refine OpStep.yields (Or.inr ⟨by rfl, ?_⟩); rfl) | (refine OpStep.yields (Or.inl ⟨by rfl, ?_⟩); intro w; go_simp; (try with_reducible rfl); done) | (refine OpStep.reads (by rfl) ?_; intro wx hI; have q0 := hI.cell HC.out id; go_simp; (try with_reducible rfl); done))
      refine ⟨?_, ?_⟩
      · refine OpStep.calls ?af2 ?ag2 (by rfl) ?ar2 ?ac2
        case ar2 => intro w _; go_simp; first | (refine ⟨?_, ?_⟩ <;> with_reducible rfl) | with_reducible rfl
        case ac2 =>
          intro wx hI
          refine (own_trial (Lib.hid (H.out.look hI)) _ false HT0.out).mono ?_
          rintro e w' ⟨rfl, -, hk⟩
          refine ⟨?_, hI.trans hk⟩
          with_reducible rfl
      iterate 2 (refine ⟨?_, ?_⟩; · first | (refine OpStep.yields (Or.inr ⟨by rfl, ?_⟩); rfl) | (refine OpStep.yields (Or.inl ⟨by rfl, ?_⟩); intro w; go_simp; (try with_reducible rfl); done) | (refine OpStep.reads (by rfl) ?_; intro wx hI; have q0 := hI.cell HC.out id; go_simp; (try with_reducible rfl); done))
      refine ⟨?_, ?_⟩
      · refine OpStep.calls ?af5 ?ag5 (by rfl) ?ar5 ?ac5
        case ar5 => intro w _; go_simp; first | (refine ⟨?_, ?_⟩ <;> with_reducible rfl) | with_reducible rfl
        case ac5 =>
          intro wx hI
          refine (own_trial (Lib.hid (H.out.look hI)) _ false HT1.out).mono ?_
          rintro e w' ⟨rfl, -, hk⟩
          refine ⟨?_, hI.trans hk⟩
          with_reducible rfl
      iterate 4 (refine ⟨?_, ?_⟩; · first | (refine OpStep.yields (Or.inr ⟨by rfl, ?_⟩); rfl) | (refine OpStep.yields (Or.inl ⟨by rfl, ?_⟩); intro w; go_simp; (try with_reducible rfl); done) | (refine OpStep.reads (by rfl) ?_; intro wx hI; have q0 := hI.cell HC.out id; go_simp; (try with_reducible rfl); done))
      refine ⟨?_, ?_⟩
      · refine OpStep.calls ?af10 ?ag10 (by rfl) ?ar10 ?ac10
        case ar10 => intro w _; go_simp; first | (refine ⟨?_, ?_⟩ <;> with_reducible rfl) | with_reducible rfl
        case ac10 =>
          intro wx hI
          refine (own_score (Lib.hid (H.out.look hI)) _ s0 HS0.out).mono ?_
          rintro e w' ⟨rfl, -, hk⟩
          refine ⟨?_, hI.trans hk⟩
          with_reducible rfl
      iterate 2 (refine ⟨?_, ?_⟩; · first | (refine OpStep.yields (Or.inr ⟨by rfl, ?_⟩); rfl) | (refine OpStep.yields (Or.inl ⟨by rfl, ?_⟩); intro w; go_simp; (try with_reducible rfl); done) | (refine OpStep.reads (by rfl) ?_; intro wx hI; have q0 := hI.cell HC.out id; go_simp; (try with_reducible rfl); done))
      refine ⟨?_, ?_⟩
      · refine OpStep.calls ?af13 ?ag13 (by rfl) ?ar13 ?ac13
        case ar13 => intro w _; go_simp; first | (refine ⟨?_, ?_⟩ <;> with_reducible rfl) | with_reducible rfl
        case ac13 =>
          intro wx hI
          refine (own_score (Lib.hid (H.out.look hI)) _ s1 HS1.out).mono ?_
          rintro e w' ⟨rfl, -, hk⟩
          refine ⟨?_, hI.trans hk⟩
          with_reducible rfl
      iterate 3 (refine ⟨?_, ?_⟩; · first | (refine OpStep.yields (Or.inr ⟨by rfl, ?_⟩); rfl) | (refine OpStep.yields (Or.inl ⟨by rfl, ?_⟩); intro w; go_simp; (try with_reducible rfl); done) | (refine OpStep.reads (by rfl) ?_; intro wx hI; have q0 := hI.cell HC.out id; go_simp; (try with_reducible rfl); done))
      exact trivial
    case ah0 => exact (Kept.refl w).drew
    case ahQ =>
      intro wz hz
      go_wp2_with fail
      go_ret
      have hr := HR.out
      simp at hr
      exact ⟨by rw [← hr]; try rfl, hz⟩
  · go_enter Try.func15, Try.ntmps15
    go_wp2_with fail
    refine wp_region_inv (?b0 :: ?b1 :: ?b2 :: ?b3 :: ?b4 :: ?b5 :: ?b6 :: ?b7 :: ?b8 :: ?b9 :: ?b10 :: ?b11 :: ?b12 :: ?b13 :: ?b14 :: ?b15 :: ?b16 :: []) (fun wx => Kept (fun _ => False) w wx) (by kernel_rfl) (by kernel_rfl) [some 6, some 7, some 8, some 9, some 10, some 11, some 12, some 13, some 14, some 15, some 16, some 17, some 18, some 19, some 20, some 21, some 5] rfl rfl ?bA ?bhA ?bh0 ?bH ?bhQ
    case bhA => simp only [laidAll, Act.put, List.setIfInBounds_toArray, List.set_cons_zero, List.set_cons_succ]; exact rfl
    case bH =>
      iterate 2 (refine ⟨?_, ?_⟩; · first | (refine OpStep.yields (Or.inr ⟨by rfl, ?_⟩); rfl) | (refine OpStep.yields (Or.inl ⟨by rfl, ?_⟩); intro w; go_simp; (try with_reducible rfl); done) | (refine OpStep.reads (by rfl) ?_; intro wx hI; have q0 := hI.cell HC.out id; go_simp; (try with_reducible rfl); done))
      refine ⟨?_, ?_⟩
      · refine OpStep.calls ?bf2 ?bg2 (by rfl) ?br2 ?bc2
        case br2 => intro w _; go_simp; first | (refine ⟨?_, ?_⟩ <;> with_reducible rfl) | with_reducible rfl
        case bc2 =>
          intro wx hI
          refine (own_trial (Lib.hid (H.out.look hI)) _ false HT0.out).mono ?_
          rintro e w' ⟨rfl, -, hk⟩
          refine ⟨?_, hI.trans hk⟩
          with_reducible rfl
      iterate 2 (refine ⟨?_, ?_⟩; · first | (refine OpStep.yields (Or.inr ⟨by rfl, ?_⟩); rfl) | (refine OpStep.yields (Or.inl ⟨by rfl, ?_⟩); intro w; go_simp; (try with_reducible rfl); done) | (refine OpStep.reads (by rfl) ?_; intro wx hI; have q0 := hI.cell HC.out id; go_simp; (try with_reducible rfl); done))
      refine ⟨?_, ?_⟩
      · refine OpStep.calls ?bf5 ?bg5 (by rfl) ?br5 ?bc5
        case br5 => intro w _; go_simp; first | (refine ⟨?_, ?_⟩ <;> with_reducible rfl) | with_reducible rfl
        case bc5 =>
          intro wx hI
          refine (own_trial (Lib.hid (H.out.look hI)) _ true HT1.out).mono ?_
          rintro e w' ⟨rfl, -, hk⟩
          refine ⟨?_, hI.trans hk⟩
          with_reducible rfl
      iterate 11 (refine ⟨?_, ?_⟩; · first | (refine OpStep.yields (Or.inr ⟨by rfl, ?_⟩); rfl) | (refine OpStep.yields (Or.inl ⟨by rfl, ?_⟩); intro w; go_simp; (try with_reducible rfl); done) | (refine OpStep.reads (by rfl) ?_; intro wx hI; have q0 := hI.cell HC.out id; go_simp; (try with_reducible rfl); done))
      exact trivial
    case bh0 => exact (Kept.refl w).drew
    case bhQ =>
      intro wz hz
      go_wp2_with fail
      go_ret
      have hr := HR.out
      simp at hr
      exact ⟨by rw [← hr]; try rfl, hz⟩
  · go_enter Try.func15, Try.ntmps15
    go_wp2_with fail
    refine wp_region_inv (?c0 :: ?c1 :: ?c2 :: ?c3 :: ?c4 :: ?c5 :: ?c6 :: ?c7 :: ?c8 :: ?c9 :: ?c10 :: ?c11 :: ?c12 :: ?c13 :: ?c14 :: ?c15 :: ?c16 :: []) (fun wx => Kept (fun _ => False) w wx) (by kernel_rfl) (by kernel_rfl) [some 6, some 7, some 8, some 9, some 10, some 11, some 12, some 13, some 14, some 15, some 16, some 17, some 18, some 19, some 20, some 21, some 5] rfl rfl ?cA ?chA ?ch0 ?cH ?chQ
    case chA => simp only [laidAll, Act.put, List.setIfInBounds_toArray, List.set_cons_zero, List.set_cons_succ]; exact rfl
    case cH =>
      iterate 2 (refine ⟨?_, ?_⟩; · first | (refine OpStep.yields (Or.inr ⟨by rfl, ?_⟩); rfl) | (refine OpStep.yields (Or.inl ⟨by rfl, ?_⟩); intro w; go_simp; (try with_reducible rfl); done) | (refine OpStep.reads (by rfl) ?_; intro wx hI; have q0 := hI.cell HC.out id; go_simp; (try with_reducible rfl); done))
      refine ⟨?_, ?_⟩
      · refine OpStep.calls ?cf2 ?cg2 (by rfl) ?cr2 ?cc2
        case cr2 => intro w _; go_simp; first | (refine ⟨?_, ?_⟩ <;> with_reducible rfl) | with_reducible rfl
        case cc2 =>
          intro wx hI
          refine (own_trial (Lib.hid (H.out.look hI)) _ true HT0.out).mono ?_
          rintro e w' ⟨rfl, -, hk⟩
          refine ⟨?_, hI.trans hk⟩
          with_reducible rfl
      iterate 2 (refine ⟨?_, ?_⟩; · first | (refine OpStep.yields (Or.inr ⟨by rfl, ?_⟩); rfl) | (refine OpStep.yields (Or.inl ⟨by rfl, ?_⟩); intro w; go_simp; (try with_reducible rfl); done) | (refine OpStep.reads (by rfl) ?_; intro wx hI; have q0 := hI.cell HC.out id; go_simp; (try with_reducible rfl); done))
      refine ⟨?_, ?_⟩
      · refine OpStep.calls ?cf5 ?cg5 (by rfl) ?cr5 ?cc5
        case cr5 => intro w _; go_simp; first | (refine ⟨?_, ?_⟩ <;> with_reducible rfl) | with_reducible rfl
        case cc5 =>
          intro wx hI
          refine (own_trial (Lib.hid (H.out.look hI)) _ false HT1.out).mono ?_
          rintro e w' ⟨rfl, -, hk⟩
          refine ⟨?_, hI.trans hk⟩
          with_reducible rfl
      iterate 11 (refine ⟨?_, ?_⟩; · first | (refine OpStep.yields (Or.inr ⟨by rfl, ?_⟩); rfl) | (refine OpStep.yields (Or.inl ⟨by rfl, ?_⟩); intro w; go_simp; (try with_reducible rfl); done) | (refine OpStep.reads (by rfl) ?_; intro wx hI; have q0 := hI.cell HC.out id; go_simp; (try with_reducible rfl); done))
      exact trivial
    case ch0 => exact (Kept.refl w).drew
    case chQ =>
      intro wz hz
      go_wp2_with fail
      go_ret
      have hr := HR.out
      simp at hr
      exact ⟨by rw [← hr]; try rfl, hz⟩
  · go_enter Try.func15, Try.ntmps15
    go_wp2_with fail
    refine wp_region_inv (?d0 :: ?d1 :: ?d2 :: ?d3 :: ?d4 :: ?d5 :: ?d6 :: ?d7 :: ?d8 :: ?d9 :: ?d10 :: ?d11 :: ?d12 :: ?d13 :: ?d14 :: ?d15 :: ?d16 :: []) (fun wx => Kept (fun _ => False) w wx) (by kernel_rfl) (by kernel_rfl) [some 6, some 7, some 8, some 9, some 10, some 11, some 12, some 13, some 14, some 15, some 16, some 17, some 18, some 19, some 20, some 21, some 5] rfl rfl ?dA ?dhA ?dh0 ?dH ?dhQ
    case dhA => simp only [laidAll, Act.put, List.setIfInBounds_toArray, List.set_cons_zero, List.set_cons_succ]; exact rfl
    case dH =>
      iterate 2 (refine ⟨?_, ?_⟩; · first | (refine OpStep.yields (Or.inr ⟨by rfl, ?_⟩); rfl) | (refine OpStep.yields (Or.inl ⟨by rfl, ?_⟩); intro w; go_simp; (try with_reducible rfl); done) | (refine OpStep.reads (by rfl) ?_; intro wx hI; have q0 := hI.cell HC.out id; go_simp; (try with_reducible rfl); done))
      refine ⟨?_, ?_⟩
      · refine OpStep.calls ?df2 ?dg2 (by rfl) ?dr2 ?dc2
        case dr2 => intro w _; go_simp; first | (refine ⟨?_, ?_⟩ <;> with_reducible rfl) | with_reducible rfl
        case dc2 =>
          intro wx hI
          refine (own_trial (Lib.hid (H.out.look hI)) _ true HT0.out).mono ?_
          rintro e w' ⟨rfl, -, hk⟩
          refine ⟨?_, hI.trans hk⟩
          with_reducible rfl
      iterate 2 (refine ⟨?_, ?_⟩; · first | (refine OpStep.yields (Or.inr ⟨by rfl, ?_⟩); rfl) | (refine OpStep.yields (Or.inl ⟨by rfl, ?_⟩); intro w; go_simp; (try with_reducible rfl); done) | (refine OpStep.reads (by rfl) ?_; intro wx hI; have q0 := hI.cell HC.out id; go_simp; (try with_reducible rfl); done))
      refine ⟨?_, ?_⟩
      · refine OpStep.calls ?df5 ?dg5 (by rfl) ?dr5 ?dc5
        case dr5 => intro w _; go_simp; first | (refine ⟨?_, ?_⟩ <;> with_reducible rfl) | with_reducible rfl
        case dc5 =>
          intro wx hI
          refine (own_trial (Lib.hid (H.out.look hI)) _ true HT1.out).mono ?_
          rintro e w' ⟨rfl, -, hk⟩
          refine ⟨?_, hI.trans hk⟩
          with_reducible rfl
      iterate 4 (refine ⟨?_, ?_⟩; · first | (refine OpStep.yields (Or.inr ⟨by rfl, ?_⟩); rfl) | (refine OpStep.yields (Or.inl ⟨by rfl, ?_⟩); intro w; go_simp; (try with_reducible rfl); done) | (refine OpStep.reads (by rfl) ?_; intro wx hI; have q0 := hI.cell HC.out id; go_simp; (try with_reducible rfl); done))
      refine ⟨?_, ?_⟩
      · refine OpStep.calls ?df10 ?dg10 (by rfl) ?dr10 ?dc10
        case dr10 => intro w _; go_simp; first | (refine ⟨?_, ?_⟩ <;> with_reducible rfl) | with_reducible rfl
        case dc10 =>
          intro wx hI
          refine (own_score (Lib.hid (H.out.look hI)) _ s0 HS0.out).mono ?_
          rintro e w' ⟨rfl, -, hk⟩
          refine ⟨?_, hI.trans hk⟩
          with_reducible rfl
      iterate 2 (refine ⟨?_, ?_⟩; · first | (refine OpStep.yields (Or.inr ⟨by rfl, ?_⟩); rfl) | (refine OpStep.yields (Or.inl ⟨by rfl, ?_⟩); intro w; go_simp; (try with_reducible rfl); done) | (refine OpStep.reads (by rfl) ?_; intro wx hI; have q0 := hI.cell HC.out id; go_simp; (try with_reducible rfl); done))
      refine ⟨?_, ?_⟩
      · refine OpStep.calls ?df13 ?dg13 (by rfl) ?dr13 ?dc13
        case dr13 => intro w _; go_simp; first | (refine ⟨?_, ?_⟩ <;> with_reducible rfl) | with_reducible rfl
        case dc13 =>
          intro wx hI
          refine (own_score (Lib.hid (H.out.look hI)) _ s1 HS1.out).mono ?_
          rintro e w' ⟨rfl, -, hk⟩
          refine ⟨?_, hI.trans hk⟩
          with_reducible rfl
      iterate 3 (refine ⟨?_, ?_⟩; · first | (refine OpStep.yields (Or.inr ⟨by rfl, ?_⟩); rfl) | (refine OpStep.yields (Or.inl ⟨by rfl, ?_⟩); intro w; go_simp; (try with_reducible rfl); done) | (refine OpStep.reads (by rfl) ?_; intro wx hI; have q0 := hI.cell HC.out id; go_simp; (try with_reducible rfl); done))
      exact trivial
    case dh0 => exact (Kept.refl w).drew
    case dhQ =>
      intro wz hz
      go_wp2_with fail
      go_ret
      have hr := HR.out
      simp at hr
      exact ⟨by rw [← hr]; try rfl, hz⟩
end Go.Proofs.Ytnpmimjhpnhdkaa
