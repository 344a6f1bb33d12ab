/- Package draw, walked: Shuffle. -/
import Derived.Test.YtnpmimjhpnhdkaaDraw
namespace Go.Proofs.Ytnpmimjhpnhdkaa
open Go.RowKit

theorem info_int12 : (Try.prog.info? 3).map (fun i => (i.zero, i.size, i.bytes)) = some (some (.int .i64 0), 1, 8) := by kernel_rfl

set_option maxRecDepth 100000 in
theorem shuffle_nil (n : Int) (w : World) : Calls Try.prog 14 #[.pointer none, .int .i64 n] w fun e w' => e = .returned (.slice none 0 0) ∧ w = w' := by
  go_enter Try.func14, Try.ntmps14
  go_wp2_with fail
  go_ret
  exact ⟨rfl, rfl⟩
set_option maxRecDepth 100000 in
theorem shuffle_none (b : Nat) (n : Int) (hn : n < 1 ∨ 256 < n) (w : World) : Calls Try.prog 14 #[.pointer (some ⟨b, 0, none⟩), .int .i64 n] w fun e w' => e = .returned (.slice none 0 0) ∧ w = w' := by
  rcases hn with hn | hn
  · go_enter Try.func14, Try.ntmps14
    go_wp2_with fail
    go_ret
    exact ⟨rfl, rfl⟩
  · have hn' : ¬ n < 1 := by omega
    go_enter Try.func14, Try.ntmps14
    go_wp2_with fail
    go_ret
    exact ⟨rfl, rfl⟩

theorem shuf_step {g b i q k : Nat} {l : List Int} {s : TapeS} {L : List Nat} {w wr w2 : World} (hl : l.length = k) (hi : i < k) (hq : q < k)
    (hb : Blk w2 g 3 (l.map (.int .i64))) (ht : Tape w2 b s (g :: L)) (hk : Kept (· = b) wr w2) (hx : Kept (· = b) w wr) (hbg : b ≠ g) (hg : w.heap.size ≤ g) :
    (swapL l i q).length = k ∧ Blk (((w2.setCell ⟨g, i, none⟩ (.int .i64 (l[q]'(by omega)))).setCell ⟨g, q, none⟩ (.int .i64 (l[i]'(by omega)))).drew) g 3 ((swapL l i q).map (.int .i64)) ∧
    Tape (((w2.setCell ⟨g, i, none⟩ (.int .i64 (l[q]'(by omega)))).setCell ⟨g, q, none⟩ (.int .i64 (l[i]'(by omega)))).drew) b s (g :: L) ∧
    Kept (· = b) w (((w2.setCell ⟨g, i, none⟩ (.int .i64 (l[q]'(by omega)))).setCell ⟨g, q, none⟩ (.int .i64 (l[i]'(by omega)))).drew) := by
  subst hl
  refine ⟨swapL_length _ _ _, ?_, ?_, ?_⟩
  · have := ((hb.set i (.int .i64 l[q])).set q (.int .i64 l[i])).drew
    rw [← List.map_set, ← List.map_set] at this
    unfold swapL
    simpa [hi, hq] using this
  · have K : Kept (· = g) w2 (((w2.setCell ⟨g, i, none⟩ (.int .i64 (l[q]'(by omega)))).setCell ⟨g, q, none⟩ (.int .i64 (l[i]'(by omega)))).drew) := (((Kept.refl _).own _ _).own _ _).drew
    exact ht.kept K hbg (fun x _ hx => by rw [hx]; exact List.mem_cons_self)
  · exact (((hx.trans hk).fresh hg _ _).fresh hg _ _).drew

set_option maxRecDepth 100000 in
/-- (*Tape).Shuffle. -/
theorem shuffle_any (b n : Nat) (h1 : 1 ≤ n) (h2 : n ≤ 256) (s : TapeS) (L : List Nat) (w : World) (h : Tape w b s L) (hL : ∀ k ∈ L, k < w.heap.size) (hu : s.used + n < 9223372036854775807) :
    Calls Try.prog 14 #[.pointer (some ⟨b, 0, none⟩), .int .i64 n] w fun e w' =>
      e = .returned (.slice (some ⟨w.heap.size, 0, none⟩) n n) ∧ Blk w' w.heap.size 3 ((shuffleL n s).1.map (.int .i64)) ∧ Tape w' b (shuffleL n s).2 (w.heap.size :: L) ∧ Kept (· = b) w w' := by
  obtain ⟨i0, hi, hz0, hz1, hz2⟩ := info_parts info_int12
  have hn1 : ¬ (n : Int) < 1 := by omega
  have hn2 : ¬ 256 < (n : Int) := by omega
  have H := Lib.hid h
  clear h
  go_enter Try.func14, Try.ntmps14
  go_wp2_with (at_make; go_must (refine wpList_make_blk rfl _ _ _ rfl 3 i0 (.int .i64 0) 8 Try.underlying33 hi hz0 hz1 hz2 rfl n rfl rfl (by omega) (by omega) ?_); intro w1 hb hk hsz)
  clear hi hz0 hz1 hz2
  have HB := Lib.hid hb
  clear hb
  go_loopw [6, 23] (fun _ c wr => ∃ k : Nat, k ≤ n ∧ c = .int .i64 k ∧ Blk wr w.heap.size 3 ((fillL n k).map (.int .i64)) ∧ Kept (fun _ => False) w wr) (fun _ c _ => n - (intOf c).toNat)
  case atStart => exact ⟨0, Nat.zero_le _, rfl, by rw [fillL_zero, List.map_replicate]; exact HB.out, hk⟩
  case round =>
    obtain ⟨k, hkn, rfl, hb, hkr⟩ := hrel
    by_cases hlt : k < n
    · have hc := hb.cell k
      have hf := hb.free k
      simp only [List.getElem?_map, List.getElem?_eq_getElem (show k < (fillL n k).length by rw [fillL_length _ _ hkn]; exact hlt), Option.map_some] at hc
      have HB2 := Lib.hid hb
      clear hb
      go_wp2_with fail
      go_roundw
      case rel => exact ⟨k + 1, by omega, by go_num, by have := HB2.out.set k (.int .i64 k); rw [← List.map_set, fillL_set n k hlt] at this; exact this, hkr.fresh (Nat.le_refl _) _ _⟩
      case measure => simp [intOf]; omega
    · obtain rfl : k = n := by omega
      have ht := (H.out.more (w.heap.size :: L) (fun x hx => by rcases List.mem_cons.1 hx with rfl | hx; exact .inr (Nat.le_refl _); exact .inl hx) (List.mem_cons_of_mem _ (by obtain ⟨_, _, _, h, _⟩ := H.out; exact h))).kept hkr id (fun _ _ h => h.elim)
      have HT := Lib.hid ht
      have HB2 := Lib.hid hb
      clear ht hb
      have hk0 := Lib.hid ((hkr.any : Kept (· = b) w wr))
      have hin : (k : Int) - 1 = ((k - 1 : Nat) : Int) := by omega
      have Hin := Lib.hid hin
      clear hin hk hkr
      go_wp2_with fail
      go_loopw [7, 8] (fun c _ wx => ∃ (i : Nat) (l : List Int) (s' : TapeS), c = .int .i64 i ∧ i < k ∧ l.length = k ∧ Blk wx w.heap.size 3 (l.map (.int .i64)) ∧ Tape wx b s' (w.heap.size :: L) ∧ shufGo i l s' = shuffleL k s ∧ s'.used + i ≤ s.used + k ∧ Kept (· = b) w wx) (fun c _ _ => (intOf c).toNat)
      case atStart => exact ⟨k - 1, uptoL k, s, by rw [Hin.out], by omega, uptoL_length k, by rw [← fillL_full]; exact HB2.out, HT.out, rfl, by omega, hk0.out⟩
      case round =>
        clear hk0 HB2 HT Hin hlt hsz HB hkn
        obtain ⟨i, l, s', rfl, hik, hll, hb, ht, hgo, hus, hkx⟩ := hrel
        by_cases h0 : 0 < i
        · have hbel := below_any b ((i : Int) + 1) (by omega) (by omega) s' (w.heap.size :: L) wr ht (fun x hx => by rcases List.mem_cons.1 hx with rfl | hx; exact hb.lt; exact Nat.lt_of_lt_of_le (hL x hx) hkx.size) (by omega)
          have hbg : b ≠ w.heap.size := Nat.ne_of_lt (by have := H.out.lt; exact this)
          have hd0 : 0 ≤ s'.draw % ((i : Int) + 1) := Int.emod_nonneg _ (by omega)
          have hd1 : s'.draw % ((i : Int) + 1) < (i : Int) + 1 := Int.emod_lt_of_pos _ (by omega)
          obtain ⟨q, hq⟩ := Int.eq_ofNat_of_zero_le hd0
          have hq1 : q < i + 1 := by omega
          rw [hq] at hbel
          rw [shufGo_pos i h0, hq, Int.toNat_natCast] at hgo
          have HBel := Lib.hid hbel
          have HG := Lib.hid hgo
          have HB := Lib.hid hb
          have HL := Lib.hid hll
          clear hq hbel hgo hb hll ht hd0 hd1
          go_wp2_with fail
          refine HBel.out.mono ?_
          rintro e w2 ⟨rfl, ht2, hk2⟩
          have hb2 := HB.out.kept hk2 (fun h => hbg h.symm)
          have ci := hb2.cell i
          have cq := hb2.cell q
          have fi := hb2.free i
          have fq := hb2.free q
          simp only [List.getElem?_map, List.getElem?_eq_getElem (show i < l.length by rw [HL.out]; exact hik), List.getElem?_eq_getElem (show q < l.length by rw [HL.out]; omega), Option.map_some] at ci cq
          have HB2 := Lib.hid hb2
          have HT2 := Lib.hid ht2
          have HK2 := Lib.hid hk2
          have HX := Lib.hid hkx
          clear hb2 ht2 hk2 hkx
          have fin := shuf_step HL.out hik (show q < k by omega) HB2.out HT2.out HK2.out HX.out hbg (Nat.le_refl _)
          have HF := Lib.hid fin
          clear fin
          by_cases hqi : q = i
          · subst hqi
            go_wp2_with fail
            go_region
            all_goals go_wp2_with fail
            all_goals exact ⟨⟨q - 1, _, _, by go_num, by omega, HF.out.1, HF.out.2.1, HF.out.2.2.1, HG.out, by rw [TapeS.next_used]; omega, HF.out.2.2.2⟩, by simp [intOf]; omega⟩
          · have hqi2 : ¬ i = q := fun h => hqi h.symm
            go_wp2_with fail
            go_region
            all_goals go_wp2_with fail
            all_goals exact ⟨⟨i - 1, _, _, by go_num, by omega, HF.out.1, HF.out.2.1, HF.out.2.2.1, HG.out, by rw [TapeS.next_used]; omega, HF.out.2.2.2⟩, by simp [intOf]; omega⟩
        · obtain rfl : i = 0 := by omega
          have e : shuffleL k s = (l, s') := hgo.symm
          have HE := Lib.hid e
          have HB := Lib.hid hb
          have HT := Lib.hid ht
          clear e hb ht hgo hll
          go_wp2_with fail
          go_ret
          exact ⟨rfl, by rw [HE.out]; exact HB.out, by rw [HE.out]; exact HT.out, hkx⟩
end Go.Proofs.Ytnpmimjhpnhdkaa
