/- PendNames, walked. -/
import Derived.Test.YthgioaaenfdcdaaLawNames29
namespace Go.Proofs.Ythgioaaenfdcdaa
open Go.RowKit Go.Maps

theorem TOwn.more {W w : World} {b : Nat} {s : TapeS} {L : List Nat} (h : TOwn W w b s L) (y : Nat) (hy : y < w.heap.size) (hn : y ∈ L ∨ ∃ w0 : World, Tape w0 b s L ∧ Kept (fun _ => False) w0 w ∧ w0.heap.size ≤ y) : TOwn W w b s (y :: L) := by
  have hbL : b ∈ L := by obtain ⟨_, _, _, h3, _⟩ := h.tp; exact h3
  refine ⟨?_, fun x hx => ?_, h.kp, h.lo⟩
  · rcases hn with hn | ⟨w0, h0, hk, hy0⟩
    · exact h.tp.more (y :: L) (fun k hk => by
        rcases List.mem_cons.1 hk with rfl | hk
        · exact .inl hn
        · exact .inl hk) (List.mem_cons_of_mem _ hbL)
    · exact (h0.more (y :: L) (fun k hk => by
        rcases List.mem_cons.1 hk with rfl | hk
        · exact .inr hy0
        · exact .inl hk) (List.mem_cons_of_mem _ hbL)).kept hk id (fun _ _ h => h.elim)
  · rcases List.mem_cons.1 hx with rfl | hx
    · exact hy
    · exact h.lt x hx
theorem nodraw {S : TblS} {T : List Outs} {s : TapeS} {u q : Int} (h : ¬ drawOk T u q) : drawR T s u q = (0, 1) ∧ actD T s u q = (T, s) ∧ S = S := ⟨by unfold drawR; rw [if_neg h], by unfold actD; rw [if_neg (fun hh => h hh.1)], rfl⟩
def n7 : TapeS := ⟨3, [], 0⟩

set_option maxRecDepth 100000 in
set_option maxHeartbeats 4000000 in
theorem names29_walk (w : World) : Calls Try.prog 6 #[] w fun e w' => e = .returned (.bool true) ∧ Kept (fun _ => False) w w' := by
  go_enter Try.func6, Try.ntmps6
  go_wp2_with fail
  refine (pawake_any _).mono ?_
  rintro e w1 ⟨rfl, hk1⟩
  have K := Lib.hid hk1
  clear hk1
  go_wp2_with fail
  refine (pnew_bad 0 (.inl (by decide)) _).mono ?_
  rintro e _ ⟨rfl, rfl⟩
  go_wp2_with fail
  refine (pnew_bad 10 (.inr (by decide)) _).mono ?_
  rintro e _ ⟨rfl, rfl⟩
  go_wp2_with fail
  refine (pown_new K 9 (by decide) (by decide)).mono ?_
  rintro e w2 ⟨S, rfl, ho, hf, hk2⟩
  have HO := Lib.hid (show POwn w w2 S (nT 0) from ho)
  have HFL := Lib.hid (fun k (hk : k ∈ S.bs) => ho.lt (foot_bs hk))
  replace K := Lib.hid (K.out.trans hk2)
  clear ho hk2 hf
  go_wp2_with fail
  refine (new_any 3 none [] 0 (fun _ => True) S.bs w2 HFL.out (RowU.nil _ _) (by unfold U64; decide) (by decide)).mono ?_
  rintro e w3 ⟨b, rfl, hb, ht, hk3⟩
  have hnf : ¬ S.foot b := fun h => by have := HO.out.lt h; omega
  have HT := Lib.hid (show TOwn w w3 b n7 (b :: S.bs) from ⟨ht, fun x hx => by
    rcases List.mem_cons.1 hx with rfl | hx
    · exact ht.lt
    · exact hk3.lt (HFL.out x hx), K.out.trans hk3, by have := K.out.size; omega⟩)
  have HSL := Lib.hid (fun k (hk : k ∈ S.bs) => List.mem_cons_of_mem b hk)
  replace HO := Lib.hid (HO.out.look hk3)
  replace K := Lib.hid (K.out.trans hk3)
  clear ht hk3 hb
  go_wp2_with fail
  have HB := Lib.hid (new_blk w3 (.cells #[.int .i64 (-1), .int .i64 0, .int .i64 9, .int .i64 0, .int .i64 0, .int .i64 (-1), .int .i64 0, .int .i64 32] 50))
  have KB := Lib.hid ((Kept.refl (M := fun _ => False) w3).alloc (.cells #[.int .i64 (-1), .int .i64 0, .int .i64 9, .int .i64 0, .int .i64 0, .int .i64 (-1), .int .i64 0, .int .i64 32] 50))
  have HB3 := Lib.hid (fun x (hx : S.foot x ∨ x = b) => (by
    rcases hx with hx | rfl
    · exact HO.out.lt hx
    · exact HT.out.tp.lt : x < w3.heap.size))
  replace HO := Lib.hid (HO.out.look KB.out)
  replace HT := Lib.hid (HT.out.look KB.out)
  go_loopw [64] (fun c wr => ∃ k : Nat, k ≤ 4 ∧ c = .int .i64 k ∧ POwn w wr S (nT 0) ∧ TOwn w wr b n7 (b :: S.bs) ∧ wr.heap[w3.heap.size]? = some (.cells #[.int .i64 (-1), .int .i64 0, .int .i64 9, .int .i64 0, .int .i64 0, .int .i64 (-1), .int .i64 0, .int .i64 32] 50 (0, 0))) (fun c _ => 4 - (intOf c).toNat)
  case atStart => exact ⟨0, by omega, rfl, HO.out, HT.out, HB.out⟩
  case round =>
    obtain ⟨k, hk, rfl, ho, ht, hbk⟩ := hrel
    replace HO := Lib.hid ho
    replace HT := Lib.hid ht
    replace HB := Lib.hid hbk
    clear ho ht hbk
    by_cases hlt : k < 4
    · have hc := fun o => cell_blk HB.out o
      have c0 := hc 0
      have c1 := hc 1
      have c2 := hc 2
      have c3 := hc 3
      have c4 := hc 4
      have c5 := hc 5
      have c6 := hc 6
      have c7 := hc 7
      simp at c0 c1 c2 c3 c4 c5 c6 c7
      have hwl := lt_of_block HB.out
      clear hc
      have hways : k = 0 ∨ k = 1 ∨ k = 2 ∨ k = 3 := by omega
      rcases hways with rfl | rfl | rfl | rfl
      all_goals
        go_wp2_with fail
        refine (pown_draw (Lib.hid (HO.out.look ((Kept.refl (M := fun _ => False) wr).alloc _))) (Lib.hid (HT.out.look ((Kept.refl (M := fun _ => False) wr).alloc _))) HSL.out hnf (by decide) _ _ 0 1 (nodraw (S := S) (by unfold drawOk; decide)).1).mono ?_
        rintro e w4 ⟨rfl, ho, ht, hk4⟩
        rw [(nodraw (S := S) (by unfold drawOk; decide)).2.1] at ho ht
        replace HO := Lib.hid ho
        replace HT := Lib.hid ht
        replace HB := Lib.hid (hk4.heap (old_blk HB.out _) (fun e => by
          rcases e with e | e
          · have := HB3.out _ (.inr e); omega
          · have := HB3.out _ (.inl (foot_bs e)); omega))
        clear ho ht hk4
        go_wp2_with fail
        refine (town_used HT 0 rfl).mono ?_
        rintro e _ ⟨rfl, rfl⟩
        go_wp2_with fail
        go_roundw
        case rel => exact ⟨_, by decide, rfl, HO.out, HT.out, HB.out⟩
        case measure => simp [intOf]
    · obtain rfl : k = 4 := by omega
      clear HB hlt hk
      rw [show ((4 : Nat) : Int) = 4 from rfl]
      go_wp2_with fail
      go_loopw [12] (fun c wr => ∃ k : Nat, k ≤ 65536 ∧ c = .int .i64 k ∧ POwn w wr S (nT k) ∧ ∃ L : List Nat, TOwn w wr b n7 L ∧ ∀ x ∈ S.bs, x ∈ L) (fun c _ => 65536 - (intOf c).toNat)
      case atStart => exact ⟨0, by omega, rfl, HO.out, _, HT.out, HSL.out⟩
      case round =>
        obtain ⟨k, hk, rfl, ho, L, ht, hsl⟩ := hrel
        replace HO := Lib.hid ho
        replace HT := Lib.hid ht
        replace HSL := Lib.hid hsl
        have HK := Lib.hid hk
        clear ho ht hsl
        by_cases hlt : k < 65536
        · have hb0 : decide ((k : Int) < 65536) = true := by simp; omega
          have hb1 : (k : Int) ≤ 100000 := by omega
          have hcv : IntKind.u64.wrap (k : Int) = (k : Int) := by rw [IntKind.wrap_u64]; omega
          have hku : U64 (k : Int) := by unfold U64; omega
          have HST := Lib.hid (nT_step k hlt)
          have HLT := Lib.hid hlt
          have HKU := Lib.hid hku
          clear hk hlt hku
          go_wp2_with fail
          have KA := Lib.hid ((Kept.refl (M := fun _ => False) wr).alloc (.cells #[.int .u64 k] 22))
          refine (new_any 0 _ [(k : Int)] 1 (fun _ => True) S.bs _ (fun x hx => KA.out.lt (HO.out.lt (foot_bs hx))) (RowU.of_blk (new_blk _ _) trivial (by simp) (by decide)) ⟨by unfold U64; decide, by simpa using HKU.out⟩ (by simp)).mono ?_
          rintro e w4 ⟨b', rfl, hb', ht', hk4⟩
          have K4 := Lib.hid (KA.out.trans hk4)
          have hbs : wr.heap.size < b' := by simp at hb'; omega
          have hnf' : ¬ S.foot b' := fun h => by have := HO.out.lt h; omega
          have HT' := Lib.hid (show TOwn w w4 b' (nS k) (b' :: S.bs) from ⟨ht', fun x hx => by
            rcases List.mem_cons.1 hx with rfl | hx
            · exact ht'.lt
            · exact K4.out.lt (HO.out.lt (foot_bs hx)), HO.out.kp.trans K4.out, by have := HO.out.kp.size; omega⟩)
          have HT4 := Lib.hid ((HT.out.look K4.out).more b' ht'.lt (.inr ⟨wr, HT.out.tp, K4.out, by omega⟩))
          have hbb : b ≠ b' := by have := HT.out.tp.lt; omega
          replace HO := Lib.hid (HO.out.look K4.out)
          clear ht' hk4 hb' KA
          go_wp2_with fail
          refine (pown_draw HO HT' (fun x hx => List.mem_cons_of_mem _ hx) hnf' (by show (0 : Nat) < _; decide) 8 ((k : Int) % 32) k 0 HST.out.1).mono ?_
          rintro e w5 ⟨rfl, ho, -, hk5⟩
          rw [HST.out.2] at ho
          have hW : ∀ x, x < w.heap.size → ¬ (x = b' ∨ x ∈ S.bs) := fun x hx h => by
            rcases h with rfl | h
            · have := HT'.out.lo; omega
            · exact HO.out.bsW x hx h
          replace HT := Lib.hid (HT4.out.aside hk5 (fun h => by
            rcases h with h | h
            · exact hbb h
            · exact hnf (foot_bs h)) (fun x h => by
            rcases h with rfl | h
            · exact List.mem_cons_self
            · exact List.mem_cons_of_mem _ (HSL.out x h)) hW)
          replace HSL := Lib.hid (fun x (hx : x ∈ S.bs) => List.mem_cons_of_mem b' (HSL.out x hx))
          replace HO := Lib.hid ho
          clear ho hk5 hW HT' HT4 K4
          go_wp2_with fail
          go_roundw
          case rel => exact ⟨k + 1, by have := HLT.out; omega, by go_num, HO.out, _, HT.out, HSL.out⟩
          case measure => have := HLT.out; simp [intOf]; omega
        · obtain rfl : k = 65536 := by omega
          have hb0 : decide (((65536 : Nat) : Int) < 65536) = false := by simp
          clear hlt hk HK
          go_wp2_with fail
          clear hb0
          refine (pown_draw HO HT HSL.out hnf (by decide) 8 0 0 9 (nT_full n7).1).mono ?_
          rintro e w4 ⟨rfl, ho, ht, -⟩
          rw [(nT_full n7).2] at ho ht
          replace HO := Lib.hid ho
          replace HT := Lib.hid ht
          clear ho ht
          go_wp2_with fail
          refine (town_used HT 0 rfl).mono ?_
          rintro e _ ⟨rfl, rfl⟩
          go_wp2_with fail
          refine (pown_len HO 8 65536 (by rw [nT_at, fullN_len])).mono ?_
          rintro e _ ⟨rfl, rfl⟩
          go_wp2_with fail
          refine (pown_len HO 7 0 (by unfold nT; generalize fullN 65536 = F; rfl)).mono ?_
          rintro e _ ⟨rfl, rfl⟩
          go_wp2_with fail
          refine (pown_freeAt HO 31 7 0 (by unfold nT; generalize fullN 65536 = F; rfl)).mono ?_
          rintro e w5 ⟨rfl, ho, hk5⟩
          rw [freeAt31] at ho
          replace HT := Lib.hid (HT.out.aside hk5 (fun h => hnf (foot_bs h)) HSL.out HO.out.bsW)
          replace HO := Lib.hid ho
          clear ho hk5
          go_wp2_with fail
          refine (pown_free HO 31 2048 freed31).mono ?_
          rintro e w6 ⟨rfl, ho, hk6⟩
          rw [nT_free31] at ho
          replace HT := Lib.hid (HT.out.aside hk6 (fun h => hnf (foot_bs h)) HSL.out HO.out.bsW)
          replace HO := Lib.hid ho
          clear ho hk6
          go_wp2_with fail
          refine (pown_len HO 8 63488 freeT31_len).mono ?_
          rintro e _ ⟨rfl, rfl⟩
          go_wp2_with fail
          refine (pown_free HO (-1) 0 freedM1).mono ?_
          rintro e w7 ⟨rfl, ho, hk7⟩
          rw [freeT31_m1] at ho
          replace HO := Lib.hid ho
          clear ho hk7 HT
          go_wp2_with fail
          have KA := Lib.hid ((Kept.refl (M := fun _ => False) w7).alloc (.cells #[.int .u64 0] 22))
          refine (new_any 0 _ [0] 1 (fun _ => True) S.bs _ (fun x hx => KA.out.lt (HO.out.lt (foot_bs hx))) (RowU.of_blk (new_blk _ _) trivial (by simp) (by decide)) (by unfold U64; decide) (by simp)).mono ?_
          rintro e w8 ⟨b', rfl, hb', ht', hk8⟩
          have K8 := Lib.hid (KA.out.trans hk8)
          have hbs : w7.heap.size < b' := by simp at hb'; omega
          have hnf' : ¬ S.foot b' := fun h => by have := HO.out.lt h; omega
          have HT' := Lib.hid (show TOwn w w8 b' (nS 0) (b' :: S.bs) from ⟨ht', fun x hx => by
            rcases List.mem_cons.1 hx with rfl | hx
            · exact ht'.lt
            · exact K8.out.lt (HO.out.lt (foot_bs hx)), HO.out.kp.trans K8.out, by have := HO.out.kp.size; omega⟩)
          replace HO := Lib.hid (HO.out.look K8.out)
          clear ht' hk8 hb' KA K8
          go_wp2_with fail
          refine (pown_draw HO HT' (fun x hx => List.mem_cons_of_mem _ hx) hnf' (by show (0 : Nat) < _; decide) 8 4 31 0 next31).mono ?_
          rintro e w9 ⟨rfl, ho, -, -⟩
          have KK := Lib.hid ho.kp
          clear ho HO HT'
          go_wp2_with fail
          have C := Lib.hid (new_blk w9 (.cells #[.slice none 0 0] 55))
          have C0 := Lib.hid (show (w9.alloc (.cells #[.slice none 0 0] 55)).cell? ⟨w9.heap.size, 0, none⟩ = some (.slice none 0 0) from cell_blk C.out 0)
          replace KK := Lib.hid (KK.out.alloc (.cells #[.slice none 0 0] 55))
          obtain ⟨wa, hwa⟩ : ∃ wa, w9.alloc (.cells #[.slice none 0 0] 55) = wa := ⟨_, rfl⟩
          rw [hwa] at KK C0 C ⊢
          obtain ⟨fb, hfb⟩ : ∃ fb, w9.heap.size = fb := ⟨_, rfl⟩
          rw [hfb] at C C0 ⊢
          clear hwa hfb
          (refine (draw_nil1 _ _ _ _).mono ?_; rintro e _ ⟨rfl, rfl⟩; go_wp2_with fail)
          (refine (draw_nil2 _ _ _ _).mono ?_; rintro e _ ⟨rfl, rfl⟩; go_wp2_with fail)
          (refine (find_no _ 0 0 (by unfold U16; decide) _ (at_nil _ _)).mono ?_; rintro e _ ⟨rfl, rfl⟩; go_wp2_with fail)
          (refine (draw_no fb 0 none 0 0 0 b (.inr (by decide)) _ C0.out).mono ?_; rintro e _ ⟨rfl, rfl⟩; go_wp2_with fail)
          (refine (free_nil _ _).mono ?_; rintro e _ ⟨rfl, rfl⟩; go_wp2_with fail)
          refine (freeAt_no _ 0 0 _ (at_nil _ _)).mono ?_
          rintro e wb ⟨rfl, hk⟩
          replace C0 := Lib.hid (hk.cell C0.out id)
          replace KK := Lib.hid (KK.out.trans hk)
          clear hk C
          go_wp2_with fail
          (refine (plen_no _ 0 _ (at_nil _ _)).mono ?_; rintro e _ ⟨rfl, rfl⟩; go_wp2_with fail)
          (refine (pcopy_nil _).mono ?_; rintro e _ ⟨rfl, rfl⟩; go_wp2_with fail)
          (refine (plen_no _ 0 _ (at_no fb 0 none 0 0 (.inr (by decide)) _ C0.out)).mono ?_; rintro e _ ⟨rfl, rfl⟩; go_wp2_with fail)
          go_ret
          exact ⟨rfl, KK.out⟩
end Go.Proofs.Ythgioaaenfdcdaa
