/- hustingslaw29.awake. -/
import Derived.Test.YthgioaaenfdcdaaPend7
namespace Go.Proofs.Ythgioaaenfdcdaa
open Go.RowKit Go.Maps

theorem draw_at {T : List Outs} {s : TapeS} {u slot : Int} (j : Nat) (h : drawOk T u slot) (hl : (atT T u).length ≠ 65536) (hj : j < 65536) (hn : look (atT T u) (roundAt (s.draw % 65536) j) = none) (hi : ∀ i, i < j → (look (atT T u) (roundAt (s.draw % 65536) i)).isSome = true) :
    drawR T s u slot = (roundAt (s.draw % 65536) j, 0) ∧ actD T s u slot = (T.set u.toNat (atT T u ++ [(roundAt (s.draw % 65536) j, slot)]), s.next) := by
  have e := idOf_eq hj hn hi
  refine ⟨?_, ?_⟩
  · unfold drawR; rw [if_pos h, if_neg hl, e]
  · unfold actD; rw [if_pos ⟨h, hl⟩, e]; rfl

def awT : Nat → List Outs
  | 0 => [[], []]
  | 1 => [[(5, 1)], []]
  | 2 => [[(5, 1), (6, 2)], []]
  | 3 => [[(5, 1), (6, 2), (65535, 3)], []]
  | _ => [[(5, 1), (6, 2), (65535, 3), (0, 4)], []]
def awS : Nat → TapeS
  | 0 => ⟨0, [5, 65541, 65535, 131071, 5], 0⟩
  | 1 => ⟨0, [65541, 65535, 131071, 5], 1⟩
  | 2 => ⟨0, [65535, 131071, 5], 2⟩
  | 3 => ⟨0, [131071, 5], 3⟩
  | _ => ⟨0, [5], 4⟩
def awW : Nat → Int
  | 0 => 5
  | 1 => 6
  | 2 => 65535
  | _ => 0
theorem aw_step (k : Nat) (h : k < 4) : drawR (awT k) (awS k) 0 ((k : Int) + 1) = (awW k, 0) ∧ actD (awT k) (awS k) 0 ((k : Int) + 1) = (awT (k + 1), awS (k + 1)) := by
  have hk : k = 0 ∨ k = 1 ∨ k = 2 ∨ k = 3 := by omega
  rcases hk with rfl | rfl | rfl | rfl
  · exact draw_at (T := awT 0) (s := awS 0) (u := 0) (slot := 1) 0 (by unfold drawOk; decide) (by decide) (by decide) (by decide) (fun i hi => absurd hi (by omega))
  · exact draw_at (T := awT 1) (s := awS 1) (u := 0) (slot := 2) 1 (by unfold drawOk; decide) (by decide) (by decide) (by decide) (fun i hi => by obtain rfl : i = 0 := (by omega); decide)
  · exact draw_at (T := awT 2) (s := awS 2) (u := 0) (slot := 3) 0 (by unfold drawOk; decide) (by decide) (by decide) (by decide) (fun i hi => absurd hi (by omega))
  · exact draw_at (T := awT 3) (s := awS 3) (u := 0) (slot := 4) 1 (by unfold drawOk; decide) (by decide) (by decide) (by decide) (fun i hi => by obtain rfl : i = 0 := (by omega); decide)
theorem aw_last : drawR ((awT 4).map (Outs.free 2)) (awS 4) 0 9 = (6, 0) ∧ actD ((awT 4).map (Outs.free 2)) (awS 4) 0 9 = ([[(5, 1), (65535, 3), (0, 4), (6, 9)], []], (awS 4).next) :=
  draw_at (T := (awT 4).map (Outs.free 2)) (s := awS 4) (u := 0) (slot := 9) 1 (by unfold drawOk; decide) (by decide) (by decide) (by decide) (fun i hi => by obtain rfl : i = 0 := (by omega); decide)

set_option maxRecDepth 100000 in
set_option maxHeartbeats 1000000 in
theorem pawake_any (w : World) : Calls Try.prog 9 #[] w fun e w' => e = .returned (.bool true) ∧ Kept (fun _ => False) w w' := by
  have K := Lib.hid (Kept.refl (M := fun _ => False) w)
  go_enter Try.func9, Try.ntmps9
  go_wp2_with fail
  refine (pown_new K 2 (by decide) (by decide)).mono ?_
  rintro e w1 ⟨S, rfl, ho, hf, hk1⟩
  have HO := Lib.hid (show POwn w w1 S (awT 0) from ho)
  have HFL := Lib.hid (fun k (hk : k ∈ S.bs) => ho.lt (foot_bs hk))
  replace K := Lib.hid hk1
  clear ho hk1 hf
  go_wp2_with fail
  have KA := Lib.hid ((Kept.refl (M := fun _ => False) w1).alloc (.cells #[.int .u64 5, .int .u64 65541, .int .u64 65535, .int .u64 131071, .int .u64 5] 22))
  refine (new_any 0 _ [5, 65541, 65535, 131071, 5] 5 (fun _ => True) S.bs _ (fun k hk => KA.out.lt (HFL.out k hk)) (RowU.of_blk (new_blk _ _) trivial (by decide) (by decide)) (by unfold U64; decide) (by decide)).mono ?_
  rintro e w2 ⟨b, rfl, hb, ht, hk2⟩
  have hnf : ¬ S.foot b := fun h => by have := HO.out.lt h; simp at hb; omega
  have K2 := Lib.hid (KA.out.trans hk2)
  have HT := Lib.hid (show TOwn w w2 b (awS 0) (b :: S.bs) from ⟨ht, fun x hx => by
    rcases List.mem_cons.1 hx with rfl | hx
    · exact ht.lt
    · exact K2.out.lt (HFL.out x hx), K.out.trans K2.out, by have := K.out.size; simp at hb; omega⟩)
  replace HO := Lib.hid (HO.out.look K2.out)
  have HSL := Lib.hid (fun k (hk : k ∈ S.bs) => List.mem_cons_of_mem b hk)
  replace K := Lib.hid (K.out.trans K2.out)
  have hbl := ht.lt
  have HBS := Lib.hid (fun x (hx : x ∈ S.bs) => K2.out.lt (HFL.out x hx))
  clear ht hk2 hb K2 KA
  go_wp2_with fail
  have KB := Lib.hid ((Kept.refl (M := fun _ => False) w2).alloc (.cells #[.int .u16 5, .int .u16 6, .int .u16 65535, .int .u16 0] 34))
  have CB := Lib.hid (new_blk w2 (.cells #[.int .u16 5, .int .u16 6, .int .u16 65535, .int .u16 0] 34))
  replace HO := Lib.hid (HO.out.look KB.out)
  replace HT := Lib.hid (HT.out.look KB.out)
  replace K := Lib.hid (K.out.trans KB.out)
  go_wp2_with fail
  go_loopw [28] (fun c wr => ∃ k : Nat, k ≤ 4 ∧ c = .int .i64 k ∧ POwn w wr S (awT k) ∧ TOwn w wr b (awS k) (b :: S.bs) ∧ wr.heap[w2.heap.size]? = some (.cells #[.int .u16 5, .int .u16 6, .int .u16 65535, .int .u16 0] 34 (0, 0))) (fun c _ => 4 - (intOf c).toNat)
  case atStart => exact ⟨0, by omega, rfl, HO.out, HT.out, CB.out⟩
  case round =>
    obtain ⟨k, hk, rfl, ho, ht, hc⟩ := hrel
    replace HO := Lib.hid ho
    replace HT := Lib.hid ht
    replace CB := Lib.hid hc
    clear ho ht hc
    by_cases hlt : k < 4
    · have c := cell_blk CB.out k
      have hcw : (#[Value.int .u16 5, .int .u16 6, .int .u16 65535, .int .u16 0] : Array Value)[k]? = some (.int .u16 (awW k)) := by
        have h4 : k = 0 ∨ k = 1 ∨ k = 2 ∨ k = 3 := by omega
        rcases h4 with rfl | rfl | rfl | rfl <;> rfl
      rw [hcw] at c
      obtain ⟨hd1, hd2⟩ := aw_step k hlt
      have HD1 := Lib.hid hd1
      have HD2 := Lib.hid hd2
      have hus : (awS k).used < 9223372036854775807 := by
        have h4 : k = 0 ∨ k = 1 ∨ k = 2 ∨ k = 3 := by omega
        rcases h4 with rfl | rfl | rfl | rfl <;> decide
      obtain ⟨V, hV⟩ : ∃ V, awW k = V := ⟨_, rfl⟩
      rw [hV] at c HD1
      clear hcw hd1 hd2 hV
      go_wp2_with fail
      refine (pown_draw HO HT HSL.out hnf hus 0 ((k : Int) + 1) V 0 HD1.out).mono ?_
      rintro e w3 ⟨rfl, ho, ht, hk3⟩
      rw [HD2.out] at ho ht
      replace HO := Lib.hid ho
      replace HT := Lib.hid ht
      replace CB := Lib.hid (hk3.heap CB.out (fun e => by
        rcases e with e | e
        · omega
        · have := HBS.out _ e; omega))
      clear ho ht hk3 c
      go_wp2_with fail
      go_roundw
      case rel => exact ⟨k + 1, by omega, by go_num, HO.out, HT.out, CB.out⟩
      case measure => simp [intOf]; omega
    · obtain rfl : k = 4 := by omega
      clear hlt hk CB
      go_wp2_with fail
      refine (pown_find HO 0 6 (by unfold U16; decide) (some 2) (by decide)).mono ?_
      rintro e _ ⟨rfl, rfl⟩
      go_wp2_with fail
      refine (pown_find HO 1 6 (by unfold U16; decide) none (by decide)).mono ?_
      rintro e _ ⟨rfl, rfl⟩
      go_wp2_with fail
      refine (pown_free HO 2 1 (by decide)).mono ?_
      rintro e w3 ⟨rfl, ho, hk3⟩
      replace HT := Lib.hid (HT.out.aside hk3 (fun h => hnf (foot_bs h)) HSL.out HO.out.bsW)
      replace HO := Lib.hid ho
      clear ho hk3
      go_wp2_with fail
      refine (pown_draw HO HT HSL.out hnf (by decide) 0 9 6 0 aw_last.1).mono ?_
      rintro e w4 ⟨rfl, ho, -, -⟩
      rw [aw_last.2] at ho
      replace HO := Lib.hid ho
      clear ho
      go_wp2_with fail
      refine (pown_len HO 0 4 (by decide)).mono ?_
      rintro e _ ⟨rfl, rfl⟩
      go_wp2_with fail
      go_ret
      exact ⟨rfl, HO.out.kp⟩
end Go.Proofs.Ythgioaaenfdcdaa
