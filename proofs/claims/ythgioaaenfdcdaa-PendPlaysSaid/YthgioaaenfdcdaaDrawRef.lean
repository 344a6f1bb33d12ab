/- hustingsref12, walked: the reference's tape yields the same as the plain one. -/
import Derived.Test.YthgioaaenfdcdaaDrawShuf
import Derived.Test.YthgioaaenfdcdaaShufPlain
namespace Go.Proofs.Ythgioaaenfdcdaa
open Go.RowKit

set_option maxRecDepth 100000 in
theorem low_any (n : Int) (p : Nat) (d : Int) (hd : (2 : Int) ^ p = d) (h0 : 0 ≤ n) (h1 : n ≤ 18446744073709551615) (hp : p ≤ 1000) (w : World) :
    Calls Try.prog 40 #[.int .u64 n, .int .i64 p] w fun e w' => e = .returned (.int .u64 (n / d)) ∧ w = w' := by
  have HD := Lib.hid hd
  clear hd
  go_enter Try.func40, Try.ntmps40
  go_wp2_with fail
  go_loop [0, 5] (fun v c => ∃ k : Nat, k ≤ p ∧ c = .int .i64 k ∧ v = .int .u64 (n / 2 ^ k)) (fun _ c => p - (intOf c).toNat)
  case atStart => exact ⟨0, by omega, rfl, by simp⟩
  case round =>
    obtain ⟨k, hk, rfl, rfl⟩ := hrel
    have e1 : n / 2 ^ k / 2 = n / 2 ^ (k + 1) := by rw [Int.pow_succ, Int.ediv_ediv_of_nonneg (by exact Int.pow_nonneg (by decide))]
    have b0 : 0 ≤ n / 2 ^ k := Int.ediv_nonneg h0 (Int.pow_nonneg (by decide))
    have b1 : n / 2 ^ k ≤ n := Int.ediv_le_self _ h0
    obtain ⟨q, hq⟩ : ∃ q, q = n / 2 ^ k := ⟨_, rfl⟩
    rw [← hq] at e1 b0 b1 ⊢
    have b2 : q ≤ 18446744073709551615 := by omega
    have HE := Lib.hid e1
    have HQ := Lib.hid hq
    clear e1 hq
    by_cases hlt : k < p
    · go_wp2_with fail
      go_round
      case rel => exact ⟨k + 1, by omega, by go_num, by rw [HE.out]⟩
      case measure => simp [intOf]; omega
    · obtain rfl : k = p := by omega
      go_wp2_with fail
      go_ret
      exact ⟨by rw [← HD.out, ← HQ.out]; rfl, rfl⟩

theorem cloneU_run (i0 : TypeInfo) (hi : Try.prog.info? 22 = some i0) (hz0 : i0.zero = some (.int .u64 0)) (hz1 : i0.size = 1) (hz2 : i0.bytes = 8) {ao : Option Addr} {l : List Int} {cap : Nat} {P : Nat → Prop} (w : World) (hr : RowU w ao l cap P) (hl : l.length ≤ 10000000000000) :
    ∃ ao' cap' w1, (Builtin.append_ #[23, 23] 23 #[.slice (some ⟨w.heap.size, 0, none⟩) 0 0, .slice ao l.length cap]).run Try.prog (w.alloc (.cells #[] 22)) = .ok (.slice ao' l.length cap') w1 ∧
      w1.ownsRow w.heap.size 22 1 (.slice ao' l.length cap') l.length (l.map (Value.int .u64)) ∧ Kept (fun _ => False) w w1 :=
  clone_run (ty := 23) Try.underlying23 hi hz0 hz1 hz2 rfl (by decide) ao l.length cap (l.map (Value.int .u64)) w (by simp)
    (by
      rcases hr.2.2 with rfl | ⟨a, off, rfl, _, hc⟩
      · exact .inl rfl
      · refine .inr ⟨_, rfl, fun j u hu => ?_⟩
        simp only [List.getElem?_map, Option.map_eq_some_iff] at hu
        obtain ⟨x, hx, rfl⟩ := hu
        obtain ⟨hj, rfl⟩ := List.getElem?_eq_some_iff.1 hx
        rw [addr_add, hc j hj]; simp [hj])
    (by intro u hu; simp only [List.mem_map] at hu; obtain ⟨x, _, rfl⟩ := hu; rfl) (by unfold maxLen; omega) (by omega)

/-- Block b is the reference's tape that yields what s yields. -/
def RTape (w : World) (b : Nat) (s : TapeS) (L : List Nat) : Prop :=
  ∃ fs ao cap, w.heap[b]? = some (.cells #[.int .u64 s.seed, .slice ao fs.length cap, .int .i64 s.used] 63 (0, 0)) ∧ RowU w ao fs cap (· ∉ L) ∧ b ∈ L ∧ s.ok ∧ s.first = fs.drop s.used ∧ fs.length ≤ 10000000000000

theorem RTape.kept {M : Nat → Prop} {L : List Nat} {w w' : World} {b : Nat} {s : TapeS} (h : RTape w b s L) (k : Kept M w w') (hb : ¬ M b) (hd : ∀ b, b < w.heap.size → M b → b ∈ L) : RTape w' b s L := by
  obtain ⟨fs, ao, cap, h1, h2, h3, h4, h5⟩ := h
  exact ⟨fs, ao, cap, k.heap h1 hb, h2.kept k (fun x hx hp hm => hp (hd x hx hm)), h3, h4, h5⟩
theorem RTape.lt {L : List Nat} {w : World} {b : Nat} {s : TapeS} (h : RTape w b s L) : b < w.heap.size := by
  obtain ⟨_, _, _, h1, _⟩ := h; exact lt_of_block h1
theorem RowU.here {P : Nat → Prop} {w : World} {ao : Option Addr} {l : List Int} {cap : Nat} (h : RowU w ao l cap P) : RowU w ao l cap (fun k => P k ∧ k < w.heap.size) := by
  refine ⟨h.1, h.2.1, ?_⟩
  rcases h.2.2 with e | ⟨a, off, ea, hp, hc⟩
  · exact .inl e
  · by_cases hl : l = []
    · exact .inl hl
    · exact .inr ⟨a, off, ea, ⟨hp, World.block_lt_of_cell? _ _ (hc 0 (List.length_pos_iff.2 hl))⟩, hc⟩
theorem RTape.more {L : List Nat} {w : World} {b : Nat} {s : TapeS} (h : RTape w b s L) (L' : List Nat) (hL : ∀ k ∈ L', k ∈ L ∨ w.heap.size ≤ k) (hb : b ∈ L') : RTape w b s L' := by
  obtain ⟨fs, ao, cap, h1, h2, h3, h4, h5⟩ := h
  refine ⟨fs, ao, cap, h1, h2.here.mono fun k hk hm => ?_, hb, h4, h5⟩
  rcases hL k hm with h | h
  · exact hk.1 h
  · have := hk.2; omega

theorem drop_split {fs : List Int} {u : Nat} {x : Int} {r : List Int} (h : x :: r = fs.drop u) : u < fs.length ∧ fs.getD u 0 = x ∧ r = fs.drop (u + 1) := by
  have hu : u < fs.length := by
    have := congrArg List.length h
    simp at this; omega
  rw [List.drop_eq_getElem_cons hu] at h
  injection h with h1 h2
  exact ⟨hu, by simp [hu, h1], h2⟩

set_option maxRecDepth 100000 in
set_option maxHeartbeats 400000 in
theorem rnext_any (b : Nat) (s : TapeS) (L : List Nat) (w : World) (h : RTape w b s L) (hu : s.used < 9223372036854775807) :
    Calls Try.prog 34 #[.pointer (some ⟨b, 0, none⟩)] w fun e w' =>
      e = .returned (.int .u64 s.draw) ∧ RTape w' b s.next L ∧ Kept (· = b) w w' := by
  obtain ⟨fs, ao, cap, h1, h2, h3, h4, h5, h6⟩ := h
  have c0 := cell_blk h1 0
  have c1 := cell_blk h1 1
  have c2 := cell_blk h1 2
  have f0 := free_blk h1 0
  have f2 := free_blk h1 2
  simp at c0 c1 c2
  have hn : (s.used : Int) + 1 ≤ 9223372036854775807 := by omega
  obtain ⟨sd, fi, us⟩ := s
  have H1 := Lib.hid h1
  have H2 := Lib.hid h2
  cases fi with
  | cons x r =>
    obtain ⟨g1, g2, g3⟩ := drop_split h5
    obtain ⟨a, o, rfl, hp, hc⟩ : ∃ a o, ao = some ⟨a, o, none⟩ ∧ a ∉ L ∧ w.cell? ⟨a, o + us, none⟩ = some (.int .u64 x) := by
      rcases h2.2.2 with e | ⟨a, o, e, hp, hc⟩
      · subst e; simp at g1
      · exact ⟨a, o, e, hp, by have := hc us g1; rw [g2] at this; exact this⟩
    have hne : a ≠ b := fun e => hp (e ▸ h3)
    have hb1 : ((us : Int) + 1 ≤ (fs.length : Int)) := by simp only at g1; omega
    have G3 := Lib.hid g3
    have H4 := Lib.hid h4
    clear h1 h2 h5 g1 g2 g3 h4 hu
    simp only at c0 c2 hn
    go_enter Try.func34, Try.ntmps34
    go_wp2_with fail
    go_quiet (fail)
    obtain ⟨n1, rfl⟩ : ∃ n1, n1 = nq := ⟨_, rfl⟩
    go_wp2_with fail
    have ew : IntKind.i64.wrap (us : Int) = us := by rw [IntKind.wrap_i64]; omega
    have i0 : (0 : Int) ≤ (us : Int) := Int.natCast_nonneg _
    have i1 : (us : Int) < (fs.length : Int) := by omega
    have ic : ((us : Int)).toNat = us := by omega
    go_quiet (fail)
    go_wp2_with fail
    go_ret
    have K : Kept (· = b) w (((w.setCell ⟨b, 2, none⟩ (.int .i64 ((us : Int) + 1))).drewN n1).drewN nq) := (((Kept.refl _).own _ _).drewN _).drewN _
    exact ⟨rfl, ⟨fs, _, cap, by exact set_blk H1.out 2 _, H2.out.kept K (fun k _ hk e => hk (by rw [show k = b from e]; exact h3)), h3, TapeS.ok_next H4.out, G3.out, h6⟩, K⟩
  | nil =>
    have hl : fs.length ≤ us := by have := congrArg List.length h5; simp at this; omega
    have hb1 : decide ((us : Int) + 1 ≤ (fs.length : Int)) = false := by simp; omega
    have hst := u64_step sd
    have H4 := Lib.hid h4
    have H5 := Lib.hid h5
    clear h1 h2 h5 h4 hu
    simp only at c0 c2 hn
    obtain ⟨z, hz⟩ : ∃ z, stepI sd = z := ⟨_, rfl⟩
    rw [hz] at hst
    have HZ := Lib.hid hz
    have HST := Lib.hid hst
    clear hz hst
    go_enter Try.func34, Try.ntmps34
    go_wp2_with fail
    go_quiet (fail)
    go_wp2_with fail
    rw [show IntKind.u64.wrap (sd + 11400714819323198485) = z from HZ.out]
    refine (low_any z 30 1073741824 (by decide) HST.out.1 HST.out.2 (by decide) _).mono ?_
    rintro e w' ⟨rfl, rfl⟩
    go_wp2_with fail
    obtain ⟨z2, hz2⟩ : ∃ z2, IntKind.u64.wrap (bits BinOp.xor IntKind.u64 z (z / 1073741824) * 13787848793156543929) = z2 := ⟨_, rfl⟩
    have hs2 := Lib.hid (u64_wrap (bits BinOp.xor IntKind.u64 z (z / 1073741824) * 13787848793156543929))
    rw [hz2] at hs2 ⊢
    have HZ2 := Lib.hid hz2
    clear hz2
    refine (low_any z2 27 134217728 (by decide) hs2.out.1 hs2.out.2 (by decide) _).mono ?_
    rintro e w' ⟨rfl, rfl⟩
    go_wp2_with fail
    obtain ⟨z3, hz3⟩ : ∃ z3, IntKind.u64.wrap (bits BinOp.xor IntKind.u64 z2 (z2 / 134217728) * 10723151780598845931) = z3 := ⟨_, rfl⟩
    have hs3 := Lib.hid (u64_wrap (bits BinOp.xor IntKind.u64 z2 (z2 / 134217728) * 10723151780598845931))
    rw [hz3] at hs3 ⊢
    have HZ3 := Lib.hid hz3
    clear hz3
    refine (low_any z3 31 2147483648 (by decide) hs3.out.1 hs3.out.2 (by decide) _).mono ?_
    rintro e w' ⟨rfl, rfl⟩
    go_wp2_with fail
    go_ret
    have K : Kept (· = b) w (((w.setCell ⟨b, 2, none⟩ (.int .i64 ((us : Int) + 1))).drewN nq).setCell ⟨b, 0, none⟩ (.int .u64 z)) := (((Kept.refl _).own _ _).drewN _).own _ _
    have hm : mixI (stepI sd) = bits BinOp.xor IntKind.u64 z3 (z3 / 2147483648) := by
      rw [HZ.out]; unfold mixI; rw [HZ2.out, HZ3.out]
    refine ⟨by show _ = Ending.returned (.int .u64 (mixI (stepI sd))); rw [hm]; rfl, ⟨fs, ao, cap, ?_, H2.out.kept K (fun k _ hk e => hk (by rw [show k = b from e]; exact h3)), h3, TapeS.ok_next H4.out, ?_, h6⟩, K⟩
    · have e1 := set_blk (w := (w.setCell ⟨b, 2, none⟩ (.int .i64 ((us : Int) + 1))).drewN nq) (set_blk H1.out 2 (.int .i64 ((us : Int) + 1))) 0 (.int .u64 z)
      rw [e1]
      show some (Obj.cells #[.int .u64 z, .slice ao fs.length cap, .int .i64 ((us : Int) + 1)] _ _) = some (Obj.cells #[.int .u64 (stepI sd), _, _] _ _)
      rw [HZ.out]; rfl
    · show [] = fs.drop (us + 1)
      rw [List.drop_eq_nil_of_le (by omega)]

set_option maxRecDepth 100000 in
/-- hustingsref12.New. -/
theorem tnew_any (seed : Int) (ao : Option Addr) (l : List Int) (cap : Nat) (P : Nat → Prop) (L : List Nat) (w : World) (hL : ∀ k ∈ L, k < w.heap.size) (hr : RowU w ao l cap P) (hok : U64 seed ∧ ∀ x ∈ l, U64 x) (hl : l.length ≤ 10000000000000) :
    Calls Try.prog 22 #[.int .u64 seed, .slice ao l.length cap] w fun e w' =>
      ∃ b, e = .returned (.pointer (some ⟨b, 0, none⟩)) ∧ w.heap.size ≤ b ∧ RTape w' b ⟨seed, l, 0⟩ (b :: L) ∧ Kept (fun _ => False) w w' := by
  obtain ⟨i0, hi, hz0, hz1, hz2⟩ := info_parts info_u64
  obtain ⟨ao', cap', w1, hrun, hown, hk⟩ := cloneU_run i0 hi hz0 hz1 hz2 w hr hl
  obtain ⟨_, hr'⟩ := rowU_of_owns (P := fun k => w.heap.size ≤ k) hown (fun _ h => h)
  have H := Lib.hid hr'
  have hmk := Lib.hid hk
  have HR := Lib.hid hrun
  clear hrun hown hr hr' hk hi hz0 hz1 hz2
  go_enter Try.func22, Try.ntmps22
  go_wp2_with (at_builtin; go_must (refine wpList_append_run rfl _ _ _ _ rfl _ _ rfl rfl HR.out ?_))
  go_ret
  have hsz := hmk.out.size
  have K := (Kept.refl (M := fun _ => False) w1).alloc (.cells #[.int .u64 seed, .slice ao' l.length cap', .int .i64 0] 63)
  refine ⟨_, rfl, hsz, ⟨l, ao', cap', new_blk _ _, (H.out.here.mono (fun k hk hm => ?_)).kept K (fun _ _ _ h => h), List.mem_cons_self, hok, rfl, hl⟩, hmk.out.alloc _⟩
  rcases List.mem_cons.1 hm with h | h
  · have := hk.2
    omega
  · have := hL k h
    have := hk.1
    omega
end Go.Proofs.Ythgioaaenfdcdaa
