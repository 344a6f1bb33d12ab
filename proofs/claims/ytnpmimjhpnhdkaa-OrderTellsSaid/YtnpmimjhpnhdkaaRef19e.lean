/- Package hustingsref19, walked: New. -/
import Derived.Test.YtnpmimjhpnhdkaaRef19d
import Derived.Test.YtnpmimjhpnhdkaaOwnS
namespace Go.Proofs.Ytnpmimjhpnhdkaa
open Go.RowKit

theorem info_rone : (Try.prog.info? 93).map (fun i => (i.zero, i.size, i.bytes)) = some (some (.agg #[.int .i64 0, .int .i64 0, .int .i64 0, .int .i64 0, .bool false, .bool false, .int .i64 0]), 7, 48) := by kernel_rfl
/-- A row of structs that the call owns is a block of them. -/
theorem OwnsS.tab {α : Type} {w : World} {base sz : Nat} {E : TypeId} {f : α → List Value} {ao : Option Addr} {n cap : Nat} {l : List α} (h : OwnsS w base E sz f (.slice ao n cap) l) (hf : ∀ x, (f x).length = sz) (hl : 0 < l.length) : ∃ g, ao = some ⟨g, 0, none⟩ ∧ base ≤ g ∧ n = l.length ∧ Tab w g E sz f l := by
  rcases h.2 with ⟨_, h2⟩ | ⟨g, c, cur, hv, hb, hg, hn, hc, hs, ht⟩
  · omega
  · simp at hv
    obtain ⟨rfl, rfl, rfl⟩ := hv
    refine ⟨g, rfl, hb, rfl, cur.toList.drop (l.length * sz), ?_, fun x _ => hf x⟩
    unfold Blk
    rw [← ht, List.take_append_drop]; exact hg
set_option maxRecDepth 100000 in
theorem rnew19_bad (ups limit rest : Int) (w : World) (h : ¬ newOk ups limit rest) (h0 : -9223372036854775808 ≤ ups ∧ ups ≤ 9223372036854775807) : Calls Try.prog 30 #[.int .i64 ups, .int .i64 limit, .int .i64 rest] w fun e w' => e = .returned (.tuple #[.pointer none, .int .i64 1]) ∧ w = w' := by
  unfold newOk at h
  have hways : decide (ups < 1) = true ∨ (decide (ups < 1) = false ∧ decide (9 < ups) = true) ∨ (decide (ups < 1) = false ∧ decide (9 < ups) = false ∧ (ups % 2 != 1) = true ∧ 0 ≤ ups) ∨
      (decide (ups < 1) = false ∧ decide (9 < ups) = false ∧ (ups % 2 != 1) = false ∧ 0 ≤ ups ∧ decide (limit < 1) = true) ∨ (decide (ups < 1) = false ∧ decide (9 < ups) = false ∧ (ups % 2 != 1) = false ∧ 0 ≤ ups ∧ decide (limit < 1) = false ∧ decide (100 < limit) = true) ∨
      (decide (ups < 1) = false ∧ decide (9 < ups) = false ∧ (ups % 2 != 1) = false ∧ 0 ≤ ups ∧ decide (limit < 1) = false ∧ decide (100 < limit) = false ∧ decide (rest < 1) = true) ∨
      (decide (ups < 1) = false ∧ decide (9 < ups) = false ∧ (ups % 2 != 1) = false ∧ 0 ≤ ups ∧ decide (limit < 1) = false ∧ decide (100 < limit) = false ∧ decide (rest < 1) = false ∧ decide (100000 < rest) = true) := by
    simp only [decide_eq_true_eq, decide_eq_false_iff_not, bne_iff_ne, ne_eq, bne_eq_false_iff_eq]
    omega
  clear h
  rcases hways with g1 | ⟨g1, g2⟩ | ⟨g1, g2, g3, g0⟩ | ⟨g1, g2, g3, g0, g4⟩ | ⟨g1, g2, g3, g0, g4, g5⟩ | ⟨g1, g2, g3, g0, g4, g5, g6⟩ | ⟨g1, g2, g3, g0, g4, g5, g6, g7⟩
  all_goals
    go_enter Try.func30, Try.ntmps30
    go_wp2_with fail
    go_ret2
    exact ⟨rfl, rfl⟩
set_option maxRecDepth 100000 in
set_option maxHeartbeats 1000000 in
theorem rnew19_any (n : Nat) (limit rest : Int) (w : World) (h : newOk n limit rest) : Calls Try.prog 30 #[.int .i64 n, .int .i64 limit, .int .i64 rest] w fun e w' => ∃ b g cap,
    e = .returned (.tuple #[.pointer (some ⟨b, 0, none⟩), .int .i64 0]) ∧ RBook w' b g { newB n limit rest with cap := cap } ∧ w.heap.size ≤ b ∧ w.heap.size ≤ g ∧ Kept (fun _ => False) w w' := by
  obtain ⟨⟨h1, h2, h3⟩, ⟨h4, h5⟩, h6, h7⟩ := h
  have d1 : decide ((n : Int) < 1) = false := by simp; omega
  have d2 : decide (9 < (n : Int)) = false := by simp; omega
  have d3 : ((n : Int) % 2 != 1) = false := by simp; omega
  have d4 : decide (limit < 1) = false := by simp; omega
  have d5 : decide (100 < limit) = false := by simp; omega
  have d6 : decide (rest < 1) = false := by simp; omega
  have d7 : decide (100000 < rest) = false := by simp; omega
  have hB := Lib.hid (new_blk w (.cells #[.int .i64 limit, .int .i64 rest, .slice none 0 0] 91))
  have H3 := Lib.hid h3
  clear h3
  go_enter Try.func30, Try.ntmps30
  go_wp2_with fail
  go_loopw [9] (fun c wr => ∃ (k : Nat) (ao : Option Addr) (cap : Nat), k ≤ n ∧ c = .int .i64 k ∧ wr.heap[w.heap.size]? = some (.cells #[.int .i64 limit, .int .i64 rest, .slice ao k cap] 91 (0, 0)) ∧
      OwnsS wr (w.heap.size + 1) 93 7 One.rcells (.slice ao k cap) (List.replicate k One.fresh) ∧ Kept (fun _ => False) w wr) (fun c _ => n - (intOf c).toNat)
  case atStart => exact ⟨0, none, 0, by omega, rfl, hB.out, OwnsS.nil (by simp), (Kept.refl _).alloc _⟩
  case round =>
    obtain ⟨k, ao, cap, hk, rfl, hblk, hown, hkw⟩ := hrel
    have hw1 : w.heap.size < wr.heap.size := lt_of_block hblk
    have HW := Lib.hid hblk
    have HO := Lib.hid hown
    have HK := Lib.hid hkw
    clear hblk hown hkw hB
    by_cases hlt : k < n
    · have hc := fun o => cell_blk HW.out o
      have c2 := hc 2
      have f2 := free_blk HW.out 2
      simp at c2
      have hne : w.heap.size ≠ wr.heap.size := by omega
      clear hc
      obtain ⟨r, hr⟩ : ∃ r, r = List.replicate k One.fresh := ⟨_, rfl⟩
      have hrl : r.length = k := by rw [hr]; simp
      have HR := Lib.hid hr
      rw [← hr] at HO
      clear hr
      go_wp2_with (first | (at_builtin; refine wpList_pushS (E := 93) (sz := 7) (f := One.rcells) (base := w.heap.size + 1) (v := .slice ao k cap) (l := r) (w := wr) rfl _ _ 89 rfl Try.underlying89 info_rone rfl (by decide) (by decide) One.fresh rfl HO.out _ rfl _ rfl rfl (by rw [hrl]; omega) (by omega) rfl (by simp [One.rcells, Value.oneCell']) ?_; rintro v5 w5 ho5 ⟨hk5, hk5b, -⟩ ⟨ao5, cp5, hv5⟩; subst hv5; have HB5 := Lib.hid (hk5b.heap HW.out (by omega)); have hc5 := fun o => cell_blk HB5.out o; have c5 := hc5 2; have f5 := free_blk HB5.out 2; simp at c5; clear hc5))
      have hset := set_blk HB5.out 2 (.slice ao5 (r ++ [One.fresh]).length cp5)
      rw [show (r ++ [One.fresh]).length = k + 1 by simp [hrl]] at ho5 hset
      simp at hset
      have K5 := hk5 _ _ HK.out (by omega)
      have hs5 := hk5b.size
      try rw [hrl]
      obtain ⟨wf, hwf⟩ : ∃ wf, w5.setCell ⟨w.heap.size, 2, none⟩ (.slice ao5 (k + 1) cp5) = wf := ⟨_, rfl⟩
      have K6 : Kept (· = w.heap.size) w5 wf := by rw [← hwf]; exact (Kept.refl (M := (· = w.heap.size)) w5).own 2 _
      have K7 : Kept (fun _ => False) w wf := by rw [← hwf]; exact K5.fresh (Nat.le_refl _) 2 _
      rw [hwf] at hset ⊢
      have hrr : r ++ [One.fresh] = List.replicate (k + 1) One.fresh := by rw [HR.out, List.replicate_succ']
      rw [hrr] at ho5
      have HSET := Lib.hid hset
      clear hwf hset c5 f5 c2 f2 hrr
      go_roundw
      case rel => exact ⟨k + 1, ao5, cp5, by omega, by go_num, HSET.out, ho5.keep K6 (by omega), K7⟩
      case measure => simp [intOf]; omega
    · obtain rfl : k = n := by omega
      clear hlt hk
      go_wp2_with fail
      go_ret2
      obtain ⟨g, rfl, hg, -, htab⟩ := HO.out.tab (fun x => One.rcells_length x) (by simp; omega)
      refine ⟨w.heap.size, g, cap, rfl, ⟨?_, htab, by omega⟩, Nat.le_refl _, by omega, HK.out⟩
      simp only [newB, List.length_replicate]
      exact HW.out
end Go.Proofs.Ytnpmimjhpnhdkaa
