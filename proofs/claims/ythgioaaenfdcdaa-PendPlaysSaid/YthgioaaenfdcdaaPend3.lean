/- Package pend, walked: Free, New. -/
import Derived.Test.YthgioaaenfdcdaaPend2
namespace Go.Proofs.Ythgioaaenfdcdaa
open Go.RowKit Go.Maps

/-- How many of a slot's are freed at the first ones; what a table is then. -/
def freedN (s : Int) (T : List Outs) : Nat := (T.map (Outs.freed s)).sum
def freeN (s : Int) (k : Nat) (T : List Outs) : List Outs := (T.take k).map (Outs.free s) ++ T.drop k
theorem freeN_zero (s : Int) (T : List Outs) : freeN s 0 T = T := by simp [freeN]
theorem freeN_full (s : Int) (T : List Outs) : freeN s T.length T = T.map (Outs.free s) := by simp [freeN]
theorem freeN_len (s : Int) (k : Nat) (T : List Outs) : (freeN s k T).length = T.length := by simp [freeN]; omega
theorem freeN_get (s : Int) {k : Nat} {T : List Outs} (h : k < T.length) : (freeN s k T).getD k [] = T.getD k [] := by
  unfold freeN
  rw [List.getD_eq_getElem?_getD, List.getElem?_append_right (by simp; omega)]
  simp [Nat.min_eq_left (Nat.le_of_lt h), List.getD_eq_getElem?_getD]
theorem freeN_succ (s : Int) {k : Nat} {T : List Outs} (h : k < T.length) : freeAtT s (k : Int) (freeN s k T) = freeN s (k + 1) T := by
  rw [freeAtT_nat, freeN_get s h]
  unfold freeN
  rw [List.set_append_right _ _ (by simp; omega)]
  simp only [List.length_map, List.length_take, Nat.min_eq_left (Nat.le_of_lt h), Nat.sub_self]
  rw [List.drop_eq_getElem_cons h, List.set_cons_zero, List.take_succ_eq_append_getElem h, List.map_append, List.append_assoc]
  simp [List.getD_eq_getElem?_getD, h]
theorem freedN_succ (s : Int) {k : Nat} {T : List Outs} (h : k < T.length) : freedN s (T.take (k + 1)) = freedN s (T.take k) + (T.getD k []).freed s := by
  unfold freedN
  rw [List.take_succ_eq_append_getElem h, List.map_append, List.sum_append, List.getD_eq_getElem?_getD, List.getElem?_eq_getElem h]
  simp only [List.map_cons, List.map_nil, List.sum_cons, List.sum_nil, Option.getD_some, Nat.add_zero]
theorem freedN_le (s : Int) (T : List Outs) (h : ∀ m ∈ T, m.length ≤ 65536) : freedN s T ≤ T.length * 65536 := by
  induction T with
  | nil => simp [freedN]
  | cons m r ih =>
    have := ih (fun x hx => h x (List.mem_cons_of_mem _ hx))
    have h1 := h m List.mem_cons_self
    unfold freedN at *
    simp only [List.map_cons, List.sum_cons, List.length_cons]
    rw [Nat.succ_mul]
    have h2 : Outs.freed s m ≤ m.length := Nat.sub_le _ _
    omega
theorem Tbl.lens {w : World} {S : TblS} {T : List Outs} (h : Tbl w S T) : ∀ m ∈ T, m.length ≤ 65536 := by
  intro m hm
  obtain ⟨u, hu, rfl⟩ := List.getElem_of_mem hm
  have := good_len (h.maps u hu).1
  rwa [List.getD_eq_getElem?_getD, List.getElem?_eq_getElem hu] at this

theorem free_nil (s : Int) (w : World) : Calls Try.prog 17 #[.pointer none, .int .i64 s] w fun e w' => e = .returned (.int .i64 0) ∧ w = w' := by
  go_enter Try.func17, Try.ntmps17
  go_wp2_with fail
  go_ret
  exact ⟨rfl, rfl⟩
theorem free_any (S : TblS) (T : List Outs) (s : Int) (hT : T.length ≤ 1000) (w : World) (h : Tbl w S T) :
    Calls Try.prog 17 #[.pointer (some ⟨S.b, 0, none⟩), .int .i64 s] w fun e w' => e = .returned (.int .i64 (freedN s T)) ∧ Tbl w' S (T.map (Outs.free s)) ∧ Kept (· ∈ S.bs) w w' := by
  have c0 := h.c0
  have H := Lib.hid h
  have hls := Lib.hid h.lens
  clear h
  go_enter Try.func17, Try.ntmps17
  go_wp2_with fail
  clear c0
  go_loopw [5, 14] (fun n c wr => ∃ k : Nat, k ≤ T.length ∧ c = .int .i64 k ∧ n = .int .i64 (freedN s (T.take k)) ∧ Tbl wr S (freeN s k T) ∧ Kept (· ∈ S.bs) w wr) (fun _ c _ => T.length - (intOf c).toNat)
  case atStart => exact ⟨0, by omega, rfl, rfl, by rw [freeN_zero]; exact H.out, Kept.refl _⟩
  case round =>
    obtain ⟨k, hk, rfl, rfl, ht, hkw⟩ := hrel
    have HT := Lib.hid ht
    have HK := Lib.hid hkw
    have hb : freedN s (T.take k) ≤ 65536000 := by
      have h1 := freedN_le s (T.take k) (fun m hm => hls.out m (List.mem_of_mem_take hm))
      have h2 : (T.take k).length ≤ 1000 := by simp; omega
      have := Nat.mul_le_mul_right 65536 h2
      omega
    clear ht hkw
    by_cases hlt : k < T.length
    · have hn := Lib.hid (freedN_succ s hlt)
      have hs := Lib.hid (freeN_succ s hlt)
      have hgt := Lib.hid (freeN_get s hlt)
      have hfb : (T.getD k []).freed s ≤ 65536 := by
        have := hls.out (T.getD k []) (by rw [List.getD_eq_getElem?_getD, List.getElem?_eq_getElem hlt]; exact List.getElem_mem _)
        unfold Outs.freed; omega
      obtain ⟨q, hq⟩ : ∃ q, q = (T.getD k []).freed s := ⟨_, rfl⟩
      have HQ := Lib.hid hq
      rw [← hq] at hfb hn
      clear hq
      go_wp2_with fail
      refine (freeAt_any S (freeN s k T) s k (by rw [freeN_len]; exact hT) _ HT.out).mono ?_
      rintro e w2 ⟨rfl, ht, hk2⟩
      rw [atT_nat, hgt.out, ← HQ.out]
      rw [hs.out] at ht
      have HT2 := Lib.hid ht
      have HK2 := Lib.hid (HK.out.trans hk2)
      clear ht hk2
      go_wp2_with fail
      go_roundw
      case rel => exact ⟨k + 1, by omega, by go_num, by rw [hn.out]; go_num, HT2.out, HK2.out⟩
      case measure => simp [intOf]; omega
    · obtain rfl : k = T.length := by omega
      have hfu := freeN_full s T
      rw [hfu] at HT
      rw [List.take_length] at hb ⊢
      clear hfu hlt
      go_wp2_with fail
      go_ret
      exact ⟨rfl, HT.out, HK.out⟩
theorem pnew_bad (n : Int) (hn : n < 1 ∨ 9 < n) (w : World) : Calls Try.prog 19 #[.int .i64 n] w fun e w' => e = .returned (.tuple #[.pointer none, .int .i64 1]) ∧ w = w' := by
  by_cases h0 : n < 1
  · have d0 : decide (n < 1) = true := by simpa using h0
    go_enter Try.func19, Try.ntmps19
    go_wp2_with fail
    go_ret2
    exact ⟨rfl, rfl⟩
  · have d0 : decide (n < 1) = false := by simpa using h0
    have d1 : decide (9 < n) = true := by simp; omega
    go_enter Try.func19, Try.ntmps19
    go_wp2_with fail
    go_ret2
    exact ⟨rfl, rfl⟩
theorem info_map : (Try.prog.info? 69).map (fun i => (i.zero, i.size, i.bytes)) = some (some (.map none), 1, 8) := by kernel_rfl
theorem getD_snoc {α : Type} (l : List α) (x d : α) (u : Nat) : (l ++ [x]).getD u d = if u < l.length then l.getD u d else if u = l.length then x else d := by
  rw [List.getD_eq_getElem?_getD]
  split
  · rename_i h; rw [List.getElem?_append_left h, List.getD_eq_getElem?_getD]
  · rename_i h
    rw [List.getElem?_append_right (by omega)]
    split
    · rename_i e; subst e; simp
    · rw [List.getElem?_eq_none (by simp; omega)]; rfl
set_option maxHeartbeats 1000000 in
theorem pnew_any (n : Nat) (h1 : 1 ≤ n) (h9 : n ≤ 9) (w : World) : Calls Try.prog 19 #[.int .i64 n] w fun e w' => ∃ S : TblS, e = .returned (.tuple #[.pointer (some ⟨S.b, 0, none⟩), .int .i64 0]) ∧ Tbl w' S (List.replicate n []) ∧ (∀ x, S.foot x → w.heap.size ≤ x) ∧ Kept (fun _ => False) w w' := by
  have d0 : decide ((n : Int) < 1) = false := by simp; omega
  have d1 : decide (9 < (n : Int)) = false := by simp; omega
  have hmm := @run_makeMap Try.prog
  have hB := Lib.hid (new_blk w (.cells #[.slice none 0 0] 55))
  go_enter Try.func19, Try.ntmps19
  go_wp2_with fail
  go_loopw [14] (fun c wr => ∃ (k : Nat) (bs : List Nat) (ao : Option Addr) (cap : Nat), k ≤ n ∧ c = .int .i64 k ∧ bs.length = k ∧ wr.heap[w.heap.size]? = some (.cells #[.slice ao k cap] 55 (0, 0)) ∧
      OwnsS wr (w.heap.size + 1) 69 1 (fun k : Nat => [Value.map (some k)]) (.slice ao k cap) bs ∧ (∀ x ∈ bs, w.heap.size < x ∧ MapU wr x []) ∧ bs.Nodup ∧ Kept (fun _ => False) w wr) (fun c _ => n - (intOf c).toNat)
  case atStart => exact ⟨0, [], none, 0, by omega, rfl, rfl, hB.out, OwnsS.nil (by simp), by simp, by simp, (Kept.refl _).alloc _⟩
  case round =>
    obtain ⟨k, bs, ao, cap, hk, rfl, hbl, hblk, hown, hmaps, hnd, hkw⟩ := hrel
    have hw1 : w.heap.size < wr.heap.size := lt_of_block hblk
    have HW := Lib.hid hblk
    have HO := Lib.hid hown
    have HM := Lib.hid hmaps
    have HN := Lib.hid hnd
    have HK := Lib.hid hkw
    have HBL := Lib.hid hbl
    clear hblk hown hmaps hnd hkw hbl hB
    by_cases hlt : k < n
    · have c0 := cell_blk HW.out 0
      have f0 := free_blk HW.out 0
      simp at c0
      have hK1 := Lib.hid ((Kept.refl (M := fun _ => False) wr).alloc (.map #[] 0))
      have HO1 := Lib.hid (HO.out.look hK1.out)
      have hne : w.heap.size ≠ wr.heap.size := by omega
      have hne1 : w.heap.size ≠ wr.heap.size + 1 := by omega
      go_wp2_with (first | (at_builtin; refine wpList_pushS (E := 69) (sz := 1) (f := fun k : Nat => [Value.map (some k)]) (base := w.heap.size + 1) (v := .slice ao k cap) (l := bs) (w := wr.alloc (.map #[] 0)) rfl _ _ 53 rfl Try.underlying53 info_map rfl (by decide) (by decide) wr.heap.size rfl HO1.out _ rfl _ rfl (by simp) (by rw [HBL.out]; omega) (by simp; omega) rfl (by simp [Value.oneCell']) ?_; rintro v5 w5 ho5 ⟨hk5, hk5b, hk5'⟩ ⟨ao5, cp5, hv5⟩; subst hv5; have HB5 := Lib.hid (hk5b.heap (old_blk HW.out _) (by omega)); have c5 := cell_blk HB5.out 0; have f5 := free_blk HB5.out 0; simp at c5))
      have hset := set_blk HB5.out 0 (.slice ao5 (bs ++ [wr.heap.size]).length cp5)
      rw [show (bs ++ [wr.heap.size]).length = k + 1 by simp [HBL.out]] at ho5 hset
      rw [HBL.out]
      have K5 := hk5 _ _ (HK.out.trans hK1.out) (by omega)
      have hs5 := hk5'.size
      simp at hset hs5
      obtain ⟨wf, hwf⟩ : ∃ wf, w5.setCell ⟨w.heap.size, 0, none⟩ (.slice ao5 (k + 1) cp5) = wf := ⟨_, rfl⟩
      have K6 : Kept (· = w.heap.size) w5 wf := by rw [← hwf]; exact (Kept.refl (M := (· = w.heap.size)) w5).own 0 _
      have K7 : Kept (fun _ => False) w wf := by rw [← hwf]; exact K5.fresh (Nat.le_refl _) 0 _
      rw [hwf] at hset ⊢
      clear hwf
      go_roundw
      case rel =>
        refine ⟨k + 1, bs ++ [wr.heap.size], ao5, cp5, by omega, by go_num, by simp [HBL.out], hset, ho5.keep K6 (by omega), fun x hx => ?_, ?_, K7⟩
        · have hmk : MapU (wr.alloc (.map #[] 0)) x [] := by
            rcases List.mem_append.1 hx with hx | hx
            · exact (HM.out x hx).2.kept hK1.out id
            · simp at hx; subst hx; exact MapU.new wr
          have hlx : w.heap.size < x := by
            rcases List.mem_append.1 hx with hx | hx
            · exact (HM.out x hx).1
            · simp at hx; omega
          refine ⟨hlx, (hmk.kept hk5' ?_).kept K6 (by omega)⟩
          intro e
          have hr := HO1.out.2
          rcases hr with ⟨h1, _⟩ | ⟨g', c', cur, h1, _, h2, _⟩
          · rw [h1] at e; simp [Value.ownBlock] at e
          · rw [h1] at e
            simp [Value.ownBlock] at e
            subst e
            obtain ⟨es, cl, hobj⟩ := hmk.obj
            rw [hobj] at h2; cases h2
        · rw [List.nodup_append]
          refine ⟨HN.out, by simp, fun a ha b hb => ?_⟩
          simp at hb
          have := (HM.out a ha).2.lt
          omega
      case measure => simp [intOf]; omega
    · obtain rfl : k = n := by omega
      clear hlt hk
      go_wp2_with fail
      go_ret2
      refine ⟨⟨w.heap.size, ao, cap, bs⟩, rfl, ⟨by rw [List.length_replicate]; exact HW.out, ?_, by simp [HBL.out], fun u hu => ?_, HN.out⟩, fun x hx => ?_, HK.out⟩
      · rw [List.length_replicate]
        exact ⟨HO.out.1, HO.out.2.imp id (fun ⟨g, c, cur, h1, h2, h3⟩ => ⟨g, c, cur, h1, Nat.zero_le _, h3⟩)⟩
      · have hbl := HBL.out
        simp at hu
        rw [List.getD_eq_getElem?_getD, List.getElem?_eq_getElem (by simp; omega), List.getD_eq_getElem?_getD, List.getElem?_eq_getElem (by simp; omega)]
        simp
        exact (HM.out _ (List.getElem_mem _)).2
      · rcases hx with rfl | ⟨o, hx⟩ | hx
        · exact Nat.le_refl _
        · have hr := HO.out.2
          simp only at hx
          rw [hx] at hr
          rcases hr with ⟨h1, _⟩ | ⟨g', c', cur, h1, h2, _⟩
          · simp at h1
          · simp at h1; omega
        · have := (HM.out x hx).1; omega
end Go.Proofs.Ythgioaaenfdcdaa
