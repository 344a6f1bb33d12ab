/- ReputeNames, walked. (The lines are printed by gen_names19.py.) -/
import Derived.Test.YtcdoefpfgkhokaaRep14
namespace Go.Proofs.Ytcdoefpfgkhokaa
open Go.RowKit

theorem agree_nil (u : Int) (w : World) : Calls Try.prog 24 #[.pointer none, .int .i64 u] w fun e w' => e = .returned (.int .i64 2) ∧ w = w' := by
  go_enter Try.func24, Try.ntmps24
  go_wp2_with fail
  refine (does_nil _ _ _ _).mono ?_
  rintro e w' ⟨rfl, rfl⟩
  go_wp2_with fail
  go_ret
  exact ⟨rfl, rfl⟩
theorem silent_nil (u : Int) (w : World) : Calls Try.prog 23 #[.pointer none, .int .i64 u] w fun e w' => e = .returned (.int .i64 2) ∧ w = w' := by
  go_enter Try.func23, Try.ntmps23
  go_wp2_with fail
  refine (does_nil _ _ _ _).mono ?_
  rintro e w' ⟨rfl, rfl⟩
  go_wp2_with fail
  go_ret
  exact ⟨rfl, rfl⟩
theorem dissent_nil (u now : Int) (w : World) : Calls Try.prog 18 #[.pointer none, .int .i64 u, .int .i64 now] w fun e w' => e = .returned (.int .i64 2) ∧ w = w' := by
  go_enter Try.func18, Try.ntmps18
  go_wp2_with fail
  refine (does_nil _ _ _ _).mono ?_
  rintro e w' ⟨rfl, rfl⟩
  go_wp2_with fail
  go_ret
  exact ⟨rfl, rfl⟩
theorem agree_fresh (b : Nat) (u : Int) (hu : 0 ≤ u) (w : World) (c : w.cell? ⟨b, 2, none⟩ = some (.slice none 0 0)) : Calls Try.prog 24 #[.pointer (some ⟨b, 0, none⟩), .int .i64 u] w fun e w' => e = .returned (.int .i64 1) ∧ w = w' := by
  have C := Lib.hid c
  clear c
  go_enter Try.func24, Try.ntmps24
  go_wp2_with fail
  refine (does_no b 0 none u _ _ _ (.inr (by omega)) C.out).mono ?_
  rintro e w' ⟨rfl, rfl⟩
  go_wp2_with fail
  go_ret
  exact ⟨rfl, rfl⟩
theorem len_fresh (b : Nat) (w : World) (c : w.cell? ⟨b, 2, none⟩ = some (.slice none 0 0)) : Calls Try.prog 26 #[.pointer (some ⟨b, 0, none⟩)] w fun e w' => e = .returned (.int .i64 0) ∧ w = w' := by
  go_enter Try.func26, Try.ntmps26
  go_wp2_with fail
  go_ret
  exact ⟨rfl, rfl⟩
theorem may_fresh (b : Nat) (w : World) (c : w.cell? ⟨b, 2, none⟩ = some (.slice none 0 0)) : Calls Try.prog 12 #[.pointer (some ⟨b, 0, none⟩)] w fun e w' => e = .returned (.slice none 0 0) ∧ w = w' := by
  go_enter Try.func12, Try.ntmps12
  go_wp2_with fail
  go_loop [3, 13] (fun v c => v = .slice none 0 0 ∧ c = .int .i64 0) (fun _ _ => 0)
  case atStart => exact ⟨rfl, rfl⟩
  case round =>
    obtain ⟨rfl, rfl⟩ := hrel
    go_wp2_with fail
    go_ret
    exact ⟨rfl, rfl⟩
/-- One that is silent over and over. -/
def quietB (k : Nat) : BookS := ⟨100, 100000, [⟨max 0 (89 - 2 * (k : Int)), 1, 1, min 65535 (1 + (k : Int)), false, 0, false⟩], 1⟩
theorem quietB_succ (k : Nat) : (quietB k).silentI 0 = quietB (k + 1) := by
  have hv : (quietB k).valid 0 := ⟨by decide, by simp [quietB]⟩
  unfold BookS.silentI
  rw [if_pos hv]
  simp only [BookS.silent, quietB, One.silents, One.change, Int.toNat_zero, List.getElem?_cons_zero, List.set_cons_zero, Bool.false_and, BookS.mk.injEq, List.cons.injEq, One.mk.injEq, and_true, true_and]
  omega
def itB (f : BookS → BookS) : Nat → BookS → BookS
  | 0, s => s
  | k + 1, s => f (itB f k s)
def nb0 : BookS := newB 1 100 100000
def nb1 : BookS := ((nb0.dissentI 0 5).silentI 0).agreeI 0
theorem nb1_quiet : nb1 = quietB 0 := by kernel_rfl
def nb3 : BookS := (quietB 65537).dissentI 0 1099511627776
def nc0 : BookS := newB 3 100 7
def nc1 : BookS := nc0.dissentI 2 1
def nc2 : BookS := nc1.back 8
def ng0 : BookS := newB 3 50 1
def ng1 : BookS := itB (fun s => s.dissentI 1 0) 6 ng0
def ng2 : BookS := itB (fun s => s.agreeI 1) 60 ng1
def ng3 : BookS := ng2.back 1
def ng4 : BookS := ng3.dissentI 1 9

set_option maxRecDepth 100000 in
set_option maxHeartbeats 4000000 in
theorem names19_walk (w : World) : Calls Try.prog 8 #[] w fun e w' => e = .returned (.bool true) ∧ Kept (fun _ => False) w w' := by
  go_enter Try.func8, Try.ntmps8
  go_wp2_with fail
  refine (awake_any _).mono ?_
  rintro e w1 ⟨rfl, hk1⟩
  have K := Lib.hid hk1
  clear hk1
  go_wp2_with fail
  have HB := Lib.hid (new_blk w1 (.cells #[.int .i64 0, .int .i64 1, .int .i64 1, .int .i64 2, .int .i64 1, .int .i64 1, .int .i64 11, .int .i64 1, .int .i64 1, .int .i64 (-1), .int .i64 1, .int .i64 1, .int .i64 3, .int .i64 0, .int .i64 1, .int .i64 3, .int .i64 101, .int .i64 1, .int .i64 3, .int .i64 1, .int .i64 0, .int .i64 3, .int .i64 1, .int .i64 100001] 50))
  replace K := Lib.hid (K.out.alloc (.cells #[.int .i64 0, .int .i64 1, .int .i64 1, .int .i64 2, .int .i64 1, .int .i64 1, .int .i64 11, .int .i64 1, .int .i64 1, .int .i64 (-1), .int .i64 1, .int .i64 1, .int .i64 3, .int .i64 0, .int .i64 1, .int .i64 3, .int .i64 101, .int .i64 1, .int .i64 3, .int .i64 1, .int .i64 0, .int .i64 3, .int .i64 1, .int .i64 100001] 50))
  have h1z := lt_of_block HB.out
  go_loopw [41] (fun c wr => ∃ k : Nat, k ≤ 8 ∧ c = .int .i64 k ∧ Kept (fun _ => False) w wr ∧ wr.heap[w1.heap.size]? = some (.cells #[.int .i64 0, .int .i64 1, .int .i64 1, .int .i64 2, .int .i64 1, .int .i64 1, .int .i64 11, .int .i64 1, .int .i64 1, .int .i64 (-1), .int .i64 1, .int .i64 1, .int .i64 3, .int .i64 0, .int .i64 1, .int .i64 3, .int .i64 101, .int .i64 1, .int .i64 3, .int .i64 1, .int .i64 0, .int .i64 3, .int .i64 1, .int .i64 100001] 50 (0, 0))) (fun c _ => 8 - (intOf c).toNat)
  case atStart => exact ⟨0, by omega, rfl, K.out, HB.out⟩
  case round =>
    obtain ⟨k, hk, rfl, hkp, hbk⟩ := hrel
    replace K := Lib.hid hkp
    replace HB := Lib.hid hbk
    clear hkp hbk
    by_cases hlt : k < 8
    · have hc := fun o => cell_blk HB.out o
      have c0 := hc 0
      have c1 := hc 1
      have c2 := hc 2
      have c3 := hc 3
      have c4 := hc 4
      have c5 := hc 5
      have c6 := hc 6
      have c7 := hc 7
      have c8 := hc 8
      have c9 := hc 9
      have c10 := hc 10
      have c11 := hc 11
      have c12 := hc 12
      have c13 := hc 13
      have c14 := hc 14
      have c15 := hc 15
      have c16 := hc 16
      have c17 := hc 17
      have c18 := hc 18
      have c19 := hc 19
      have c20 := hc 20
      have c21 := hc 21
      have c22 := hc 22
      have c23 := hc 23
      simp at c0 c1 c2 c3 c4 c5 c6 c7 c8 c9 c10 c11 c12 c13 c14 c15 c16 c17 c18 c19 c20 c21 c22 c23
      clear hc
      have hways : k = 0 ∨ k = 1 ∨ k = 2 ∨ k = 3 ∨ k = 4 ∨ k = 5 ∨ k = 6 ∨ k = 7 := by omega
      rcases hways with rfl | rfl | rfl | rfl | rfl | rfl | rfl | rfl
      all_goals
        go_wp2_with fail
        refine (rnew_bad _ _ _ _ (by unfold newOk; decide)).mono ?_
        rintro e w2 ⟨rfl, rfl⟩
        go_wp2_with fail
        go_roundw
        case rel => exact ⟨_, by decide, rfl, K.out.alloc _, old_blk HB.out _⟩
        case measure => simp [intOf]
    · obtain rfl : k = 8 := by omega
      go_wp2_with fail
      clear HB hlt hk h1z
      refine (own_new (Lib.hid K.out) 1 100 100000 (by unfold newOk; decide)).mono ?_
      rintro e wn ⟨b, g, rfl, ho, -⟩
      have H := Lib.hid (show Own w wn b g nb0 from ho)
      clear ho
      go_wp2_with fail
      (refine (own_dissent H 0 5 0 (by kernel_rfl)).mono ?_; rintro e _ ⟨rfl, ho, -⟩; replace H := Lib.hid ho; clear ho; go_wp2_with fail)
      (refine (own_score H 0 90 (by kernel_rfl)).mono ?_; rintro e _ ⟨rfl, ho, -⟩; replace H := Lib.hid ho; clear ho; go_wp2_with fail)
      (refine (own_rests H 0 false (by kernel_rfl)).mono ?_; rintro e _ ⟨rfl, ho, -⟩; replace H := Lib.hid ho; clear ho; go_wp2_with fail)
      (refine (own_silent H 0 0 (by kernel_rfl)).mono ?_; rintro e _ ⟨rfl, ho, -⟩; replace H := Lib.hid ho; clear ho; go_wp2_with fail)
      (refine (own_score H 0 88 (by kernel_rfl)).mono ?_; rintro e _ ⟨rfl, ho, -⟩; replace H := Lib.hid ho; clear ho; go_wp2_with fail)
      (refine (own_agree H 0 0 (by kernel_rfl)).mono ?_; rintro e _ ⟨rfl, ho, -⟩; replace H := Lib.hid ho; clear ho; go_wp2_with fail)
      replace H := Lib.hid (show Own w _ b g (quietB 0) from nb1_quiet ▸ (show Own w _ b g nb1 from H.out))
      (refine (own_score H 0 89 (by kernel_rfl)).mono ?_; rintro e _ ⟨rfl, ho, -⟩; replace H := Lib.hid ho; clear ho; go_wp2_with fail)
      go_loopw [7] (fun c wr => ∃ k : Nat, k ≤ 65537 ∧ c = .int .i64 k ∧ Own w wr b g (quietB k)) (fun c _ => 65537 - (intOf c).toNat)
      case atStart => exact ⟨0, by omega, rfl, H.out⟩
      case round =>
        obtain ⟨k, hk, rfl, ho⟩ := hrel
        replace H := Lib.hid ho
        clear ho
        have HK := Lib.hid hk
        by_cases hlt : k < 65537
        · have hb : decide ((k : Int) < 65537) = true := by simp; omega
          have hb1 : (k : Int) ≤ 100000 := by omega
          have HLT := Lib.hid hlt
          clear hk hlt
          go_wp2_with fail
          refine (own_silent H 0 _ rfl).mono ?_
          rintro e w2 ⟨rfl, ho, -⟩
          rw [quietB_succ] at ho
          replace H := Lib.hid ho
          clear ho
          go_wp2_with fail
          go_roundw
          case rel => exact ⟨k + 1, by have := HLT.out; omega, by go_num, H.out⟩
          case measure => have := HLT.out; simp [intOf]; omega
        · obtain rfl : k = 65537 := by omega
          have hb : decide (((65537 : Nat) : Int) < 65537) = false := by simp
          clear hlt hk HK
          go_wp2_with fail
          clear hb
          (refine (own_counts H 0 ⟨0, 1, 1, 65535, false, 0, false⟩ (by kernel_rfl)).mono ?_; rintro e _ ⟨rfl, ho, -⟩; replace H := Lib.hid ho; clear ho; go_wp2_with fail)
          (refine (own_score H 0 0 (by kernel_rfl)).mono ?_; rintro e _ ⟨rfl, ho, -⟩; replace H := Lib.hid ho; clear ho; go_wp2_with fail)
          (refine (own_agree H 1 1 (by kernel_rfl)).mono ?_; rintro e _ ⟨rfl, ho, -⟩; replace H := Lib.hid ho; clear ho; go_wp2_with fail)
          (refine (own_silent H (-1) 1 (by kernel_rfl)).mono ?_; rintro e _ ⟨rfl, ho, -⟩; replace H := Lib.hid ho; clear ho; go_wp2_with fail)
          (refine (own_dissent H 1 0 1 (by kernel_rfl)).mono ?_; rintro e _ ⟨rfl, ho, -⟩; replace H := Lib.hid ho; clear ho; go_wp2_with fail)
          (refine (own_dissent H 0 (-1) 1 (by kernel_rfl)).mono ?_; rintro e _ ⟨rfl, ho, -⟩; replace H := Lib.hid ho; clear ho; go_wp2_with fail)
          (refine (own_dissent H 0 1099511627777 1 (by kernel_rfl)).mono ?_; rintro e _ ⟨rfl, ho, -⟩; replace H := Lib.hid ho; clear ho; go_wp2_with fail)
          (refine (own_dissent H 0 1099511627776 0 (by kernel_rfl)).mono ?_; rintro e _ ⟨rfl, ho, -⟩; replace H := Lib.hid ho; clear ho; go_wp2_with fail)
          replace K := Lib.hid H.out.kp
          clear H
          refine (own_new (Lib.hid K.out) 3 100 7 (by unfold newOk; decide)).mono ?_
          rintro e wn ⟨b, g, rfl, ho, -⟩
          have H := Lib.hid (show Own w wn b g nc0 from ho)
          clear ho
          go_wp2_with fail
          (refine (own_dissent H 2 1 0 (by kernel_rfl)).mono ?_; rintro e _ ⟨rfl, ho, -⟩; replace H := Lib.hid ho; clear ho; go_wp2_with fail)
          (refine (own_rests H 2 true (by kernel_rfl)).mono ?_; rintro e _ ⟨rfl, ho, -⟩; replace H := Lib.hid ho; clear ho; go_wp2_with fail)
          refine (own_back H 8 [2] (by kernel_rfl)).mono ?_
          rintro e wb ⟨ao2, cap2, rfl, hr, ho, -⟩
          replace H := Lib.hid (ho.look ((Kept.refl _).alloc (.cells #[.int .i64 2] 3)))
          have HR := Lib.hid (hr.look ((Kept.refl _).alloc (.cells #[.int .i64 2] 3)))
          clear ho hr
          go_wp2_with fail
          refine (ints_any _ _ [2] [2] cap2 1 _ (HR.out.cells.2.mono (fun _ _ => trivial)) ?_ (by decide) (by decide)).mono ?_
          · exact (show Blk (wb.alloc (.cells #[.int .i64 2] 3)) wb.heap.size 3 [.int .i64 2] from new_blk _ _).cells_all trivial
          rintro e w10 ⟨rfl, hk⟩
          replace H := Lib.hid (H.out.look hk)
          clear hk HR
          go_wp2_with fail
          (refine (own_trial H 2 false (by kernel_rfl)).mono ?_; rintro e _ ⟨rfl, ho, -⟩; replace H := Lib.hid ho; clear ho; go_wp2_with fail)
          (refine (own_score H 2 100 (by kernel_rfl)).mono ?_; rintro e _ ⟨rfl, ho, -⟩; replace H := Lib.hid ho; clear ho; go_wp2_with fail)
          replace K := Lib.hid H.out.kp
          clear H
          refine (own_new (Lib.hid K.out) 3 50 1 (by unfold newOk; decide)).mono ?_
          rintro e wn ⟨b, g, rfl, ho, -⟩
          have H := Lib.hid (show Own w wn b g ng0 from ho)
          clear ho
          go_wp2_with fail
          go_loopw [15] (fun c wr => ∃ k : Nat, k ≤ 6 ∧ c = .int .i64 k ∧ Own w wr b g (itB (fun s => s.dissentI 1 0) k ng0)) (fun c _ => 6 - (intOf c).toNat)
          case atStart => exact ⟨0, by omega, rfl, H.out⟩
          case round =>
            obtain ⟨k, hk, rfl, ho⟩ := hrel
            replace H := Lib.hid ho
            clear ho
            by_cases hlt : k < 6
            · go_wp2_with fail
              refine (own_dissent H 1 0 _ rfl).mono ?_
              rintro e w2 ⟨rfl, ho, -⟩
              replace H := Lib.hid ho
              clear ho
              go_wp2_with fail
              go_roundw
              case rel => exact ⟨k + 1, by omega, by go_num, H.out⟩
              case measure => simp [intOf]; omega
            · obtain rfl : k = 6 := by omega
              clear hlt hk
              go_wp2_with fail
              (refine (own_score H 1 40 (by kernel_rfl)).mono ?_; rintro e _ ⟨rfl, ho, -⟩; replace H := Lib.hid ho; clear ho; go_wp2_with fail)
              (refine (own_rests H 1 true (by kernel_rfl)).mono ?_; rintro e _ ⟨rfl, ho, -⟩; replace H := Lib.hid ho; clear ho; go_wp2_with fail)
              replace H := Lib.hid (show Own w _ b g ng1 from H.out)
              go_loopw [16] (fun c wr => ∃ k : Nat, k ≤ 60 ∧ c = .int .i64 k ∧ Own w wr b g (itB (fun s => s.agreeI 1) k ng1)) (fun c _ => 60 - (intOf c).toNat)
              case atStart => exact ⟨0, by omega, rfl, H.out⟩
              case round =>
                obtain ⟨k, hk, rfl, ho⟩ := hrel
                replace H := Lib.hid ho
                clear ho
                by_cases hlt : k < 60
                · go_wp2_with fail
                  refine (own_agree H 1 _ rfl).mono ?_
                  rintro e w2 ⟨rfl, ho, -⟩
                  replace H := Lib.hid ho
                  clear ho
                  go_wp2_with fail
                  go_roundw
                  case rel => exact ⟨k + 1, by omega, by go_num, H.out⟩
                  case measure => simp [intOf]; omega
                · obtain rfl : k = 60 := by omega
                  clear hlt hk
                  go_wp2_with fail
                  (refine (own_score H 1 100 (by kernel_rfl)).mono ?_; rintro e _ ⟨rfl, ho, -⟩; replace H := Lib.hid ho; clear ho; go_wp2_with fail)
                  refine (own_back H 1 [1] (by kernel_rfl)).mono ?_
                  rintro e wb ⟨ao2, cap2, rfl, hr, ho, -⟩
                  replace H := Lib.hid (ho.look ((Kept.refl _).alloc (.cells #[.int .i64 1] 3)))
                  have HR := Lib.hid (hr.look ((Kept.refl _).alloc (.cells #[.int .i64 1] 3)))
                  clear ho hr
                  go_wp2_with fail
                  refine (ints_any _ _ [1] [1] cap2 1 _ (HR.out.cells.2.mono (fun _ _ => trivial)) ?_ (by decide) (by decide)).mono ?_
                  · exact (show Blk (wb.alloc (.cells #[.int .i64 1] 3)) wb.heap.size 3 [.int .i64 1] from new_blk _ _).cells_all trivial
                  rintro e w10 ⟨rfl, hk⟩
                  replace H := Lib.hid (H.out.look hk)
                  clear hk HR
                  go_wp2_with fail
                  (refine (own_score H 1 50 (by kernel_rfl)).mono ?_; rintro e _ ⟨rfl, ho, -⟩; replace H := Lib.hid ho; clear ho; go_wp2_with fail)
                  (refine (own_trial H 1 true (by kernel_rfl)).mono ?_; rintro e _ ⟨rfl, ho, -⟩; replace H := Lib.hid ho; clear ho; go_wp2_with fail)
                  (refine (own_dissent H 1 9 0 (by kernel_rfl)).mono ?_; rintro e _ ⟨rfl, ho, -⟩; replace H := Lib.hid ho; clear ho; go_wp2_with fail)
                  (refine (own_rests H 1 true (by kernel_rfl)).mono ?_; rintro e _ ⟨rfl, ho, -⟩; replace H := Lib.hid ho; clear ho; go_wp2_with fail)
                  (refine (own_trial H 1 false (by kernel_rfl)).mono ?_; rintro e wk ⟨rfl, ho, -⟩; replace H := Lib.hid ho; clear ho; go_wp2_with fail)
                  replace K := Lib.hid H.out.kp
                  clear H
                  have C := Lib.hid (new_blk wk (.cells #[.int .i64 0, .int .i64 0, .slice none 0 0] 59))
                  replace K := Lib.hid (K.out.alloc (.cells #[.int .i64 0, .int .i64 0, .slice none 0 0] 59))
                  (refine (due_nil _).mono ?_; rintro e _ ⟨rfl, rfl⟩; go_wp2_with fail)
                  (refine (agree_nil _ _).mono ?_; rintro e _ ⟨rfl, rfl⟩; go_wp2_with fail)
                  (refine (dissent_nil _ _ _).mono ?_; rintro e _ ⟨rfl, rfl⟩; go_wp2_with fail)
                  (refine (silent_nil _ _).mono ?_; rintro e _ ⟨rfl, rfl⟩; go_wp2_with fail)
                  (refine (back_nil _ _).mono ?_; rintro e _ ⟨rfl, rfl⟩; go_wp2_with fail)
                  (refine (may_nil _).mono ?_; rintro e _ ⟨rfl, rfl⟩; go_wp2_with fail)
                  have hnq := told_eql One.none One.none true (by simp)
                  simp only [One.none] at hnq
                  refine (lof_nil _ _).mono ?_
                  rintro e wl ⟨rfl, hk⟩
                  replace C := Lib.hid (hk.heap C.out id)
                  replace K := Lib.hid (K.out.trans hk)
                  clear hk
                  simp only [One.none, One.told]
                  go_wp2_with fail
                  clear hnq
                  (refine (len_nil _).mono ?_; rintro e _ ⟨rfl, rfl⟩; go_wp2_with fail)
                  (refine (copy_nil _).mono ?_; rintro e _ ⟨rfl, rfl⟩; go_wp2_with fail)
                  have c2 := cell_blk C.out 2
                  simp at c2
                  have C2 := Lib.hid c2
                  clear c2
                  (refine (agree_fresh _ 0 (by decide) _ C2.out).mono ?_; rintro e _ ⟨rfl, rfl⟩; go_wp2_with fail)
                  (refine (may_fresh _ _ C2.out).mono ?_; rintro e _ ⟨rfl, rfl⟩; go_wp2_with fail)
                  (refine (len_fresh _ _ C2.out).mono ?_; rintro e _ ⟨rfl, rfl⟩; go_wp2_with fail)
                  go_ret
                  exact ⟨rfl, K.out⟩
end Go.Proofs.Ytcdoefpfgkhokaa
