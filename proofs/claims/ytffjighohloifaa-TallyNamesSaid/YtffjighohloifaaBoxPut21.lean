/- Package tally, walked: put. -/
import Derived.Test.YtffjighohloifaaBoxEq21
import Derived.Deep.DeepCutAuto
namespace Go.Proofs.Ytffjighohloifaa
open Go.RowKit

/-- Is a ballot's choice the same as x's? -/
def sameB (x y : Bal) : Bool := decide (y.voted = x.voted ∧ y.key = x.key)
def timeOf (t : Int) (l : List Bal) : Int := l.foldl (fun t y => if y.time < t then y.time else t) t
def BoxS.tally (B : BoxS) (x : Bal) : BoxS :=
  if B.won = true ∨ x.voted = false then { B with l := B.l ++ [x] }
  else if (((B.l ++ [x]).filter (sameB x)).length : Int) = B.want then { B with l := B.l ++ [x], won := x.voted, wonK := x.key, by_ := sortK keyI (((B.l ++ [x]).filter (sameB x)).map (·.up)), time := timeOf x.time ((B.l ++ [x]).filter (sameB x)) }
  else { B with l := B.l ++ [x] }
theorem filter_take_succ {α : Type} (p : α → Bool) (l : List α) {k : Nat} (h : k < l.length) : (l.take (k + 1)).filter p = (l.take k).filter p ++ if p l[k] = true then [l[k]] else [] := by
  rw [List.take_succ_eq_append_getElem h, List.filter_append]
  congr 1
  simp [List.filter_cons]
theorem timeOf_snoc (t : Int) (l : List Bal) (y : Bal) : timeOf t (l ++ [y]) = if y.time < timeOf t l then y.time else timeOf t l := by unfold timeOf; rw [List.foldl_append]; rfl
abbrev xCells (x : BalM) : Array Value := #[.bool x.b.voted, .string x.b.key, .int .i64 x.b.up, .int .u8 x.b.v.code, .slice x.a1 x.b.v.sets.length x.c1, .slice x.a2 x.b.v.soa.length x.c2, .int .u32 x.b.time]
set_option maxRecDepth 100000 in
theorem put_arg {w : World} {b : Nat} (x : BalM) (hu : x.b.up < 0 ∨ 9 ≤ x.b.up) :
    Calls Try.prog 40 #[.pointer (some ⟨b, 0, none⟩), .int .i64 x.b.up, .agg (xCells x)] w fun e w' => e = .returned (.int .i64 1) ∧ Kept (fun _ => False) w w' := by
  have hways : decide (x.b.up < 0) = true ∨ (decide (x.b.up < 0) = false ∧ decide (9 ≤ x.b.up) = true) := by
    simp only [decide_eq_true_eq, decide_eq_false_iff_not]; omega
  clear hu
  rcases hways with g1 | ⟨g1, g2⟩
  all_goals
    go_enter Try.func40, Try.ntmps40
    go_wp2_with fail
    go_ret
    exact ⟨rfl, (Kept.refl _).alloc _⟩
set_option maxRecDepth 100000 in
theorem put_have {w : World} {b : Nat} {ao : Option Addr} {B : BoxS} {L : List Nat} (H : Hid (BoxAt w b ao B L)) (hl : B.l.length ≤ 1000) (x : BalM) (hu : 0 ≤ x.b.up ∧ x.b.up < 9) (hh : hasB B.l x.b.up = true) :
    Calls Try.prog 40 #[.pointer (some ⟨b, 0, none⟩), .int .i64 x.b.up, .agg (xCells x)] w fun e w' => e = .returned (.int .i64 7) ∧ Kept (fun _ => False) w w' := by
  have g1 : decide (x.b.up < 0) = false := by simp; omega
  have g2 : decide (9 ≤ x.b.up) = false := by simp; omega
  have K0 := Lib.hid ((Kept.refl (M := fun _ => False) w).alloc (.cells (xCells x) 94))
  have H1 := Lib.hid (H.out.look K0.out)
  have HH := Lib.hid hh
  clear hu hh
  go_enter Try.func40, Try.ntmps40
  go_wp2_with fail
  refine (has_any H1 hl x.b.up true HH.out).mono ?_
  rintro e w2 ⟨rfl, hk2⟩
  have K2 := Lib.hid (K0.out.trans hk2)
  clear hk2
  go_wp2_with fail
  go_ret
  exact ⟨rfl, K2.out⟩
set_option maxRecDepth 100000 in
set_option maxHeartbeats 4000000 in
theorem put_ok {w : World} {b : Nat} {ao : Option Addr} {B : BoxS} {L : List Nat} (H : Hid (BoxAt w b ao B L)) (hl : B.l.length ≤ 8) (x : BalM) (hx : x.at w (· ∉ L)) (hu : 0 ≤ x.b.up ∧ x.b.up < 9) (hh : hasB B.l x.b.up = false) :
    Calls Try.prog 40 #[.pointer (some ⟨b, 0, none⟩), .int .i64 x.b.up, .agg (xCells x)] w fun e w' => ∃ (ao' : Option Addr) (L' : List Nat), e = .returned (.int .i64 0) ∧ BoxAt w' b ao' (B.tally x.b) L' ∧ (∀ k ∈ L, k ∈ L') ∧ (∀ k ∈ L', k ∈ L ∨ w.heap.size ≤ k) ∧ Kept (FB b ao) w w' := by
  have g1 : decide (x.b.up < 0) = false := by simp; omega
  have g2 : decide (9 ≤ x.b.up) = false := by simp; omega
  have K0 := Lib.hid ((Kept.refl (M := fun _ => False) w).alloc (.cells (xCells x) 94))
  have H1 := Lib.hid (H.out.look K0.out)
  have HXB := Lib.hid (new_blk w (.cells (xCells x) 94))
  have HH := Lib.hid hh
  have HX := Lib.hid hx
  clear hu hh hx
  go_enter Try.func40, Try.ntmps40
  go_wp2_with fail
  refine (has_any H1 (by omega) x.b.up false HH.out).mono ?_
  rintro e w2 ⟨rfl, hk2⟩
  have K2 := Lib.hid (K0.out.trans hk2)
  have HXB2 := Lib.hid (hk2.heap HXB.out id)
  obtain ⟨cap, ay, cy, lm, hb, ho, hlm, ha, hy, hbL, hgL, hLt⟩ := H1.out.look hk2
  have hwb := H.out.lt (.inl rfl)
  have hz2 := K2.out.size
  have hln : lm.length = B.l.length := by rw [← hlm]; simp
  have hbg : ¬ (Value.slice ao B.l.length cap).ownBlock = some b := fun e => by
    rcases ho.2 with ⟨h1, _⟩ | ⟨g, c, cur, h1, _, h2, _⟩
    · rw [h1] at e; cases e
    · rw [h1] at e
      simp [Value.ownBlock] at e
      subst e
      rw [hb] at h2
      cases h2
  have hxg : ¬ (Value.slice ao B.l.length cap).ownBlock = some w.heap.size := fun e => by
    rw [own_slice'] at e
    have := H.out.lt (.inr e)
    omega
  have HB := Lib.hid hb
  have HO := Lib.hid (show w2.ownsRow 0 94 7 (.slice ao B.l.length cap) B.l.length (lm.map BalM.cells).flatten from ho)
  have HLM := Lib.hid hlm
  have HAT := Lib.hid ha
  have HY := Lib.hid hy
  have HBL := Lib.hid hbL
  have HGL := Lib.hid hgL
  have HLT := Lib.hid hLt
  have HBG := Lib.hid hbg
  have HXG := Lib.hid hxg
  have hxb : w.heap.size < w2.heap.size := lt_of_block HXB2.out
  have c1 := cell_blk hb 1
  have x0 := cell_blk HXB2.out 0
  have x1 := cell_blk HXB2.out 1
  have x2 := cell_blk HXB2.out 2
  have x3 := cell_blk HXB2.out 3
  have x4 := cell_blk HXB2.out 4
  have x5 := cell_blk HXB2.out 5
  have x6 := cell_blk HXB2.out 6
  simp at c1 x0 x1 x2 x3 x4 x5 x6
  have hbn : b ≠ w2.heap.size := by omega
  have c1a : (w2.alloc (.cells #[.bool x.b.voted, .string x.b.key, .int .i64 x.b.up, .int .u8 x.b.v.code, .slice x.a1 x.b.v.sets.length x.c1, .slice x.a2 x.b.v.soa.length x.c2, .int .u32 x.b.time] 94)).cell? ⟨b, 1, none⟩ = some (.slice ao B.l.length cap) := (World.cell?_alloc_old _ _ _ hbn).trans c1
  obtain ⟨n, hn⟩ : ∃ n, B.l.length = n := ⟨_, rfl⟩
  have HN := Lib.hid hn
  rw [hn] at c1 c1a HB HO HBG HXG hl hln
  clear hk2 hb ho hlm ha hy hbL hgL hLt hbg hxg H1 HXB hn
  go_upto_region 7 with (fail)
  go_cut [] (fun wx => ∃ g cap', wx.heap[b]? = some (.cells #[.int .i64 B.want, .slice (some ⟨g, 0, none⟩) (n + 1) cap', .bool B.won, .string B.wonK, .slice ay B.by_.length cy, .int .u32 B.time] 75 (0, 0)) ∧ wx.heap[w.heap.size]? = some (.cells (xCells x) 94 (0, 0)) ∧
      wx.ownsRow 0 94 7 (.slice (some ⟨g, 0, none⟩) (n + 1) cap') (n + 1) ((lm ++ [x]).map BalM.cells).flatten ∧ Kept (FB b ao) w2 wx ∧ ((Value.slice ao 0 0).ownBlock = some g ∨ w2.heap.size ≤ g) ∧ g < wx.heap.size)
  case first =>
    go_region_law (first
      | (refine step_push1d (E := 94) (sz := 7) (base := 0) (v := .slice ao n cap) (n := n) (w := w2) (by rfl) _ _ 71 (by rfl) Try.underlying71 info_ballot' rfl (by decide) (by decide) (by rfl) HO.out (xCells x) _ (by rfl) (by rfl) (by omega) (Nat.zero_le _) rfl (fun u hu => x.one u hu) ?_; intro g5 cap5 w5 ho5 hk5 hg5 hl5; have HB5 := Lib.hid (hk5.heap HB.out HBG.out); have HX5 := Lib.hid (hk5.heap HXB2.out HXG.out); have c5 := cell_blk HB5.out 1; have f5 := free_blk HB5.out 1; simp at c5; have HO5 := Lib.hid ho5; have HK5 := Lib.hid hk5; have HG5 := Lib.hid hg5; have HL5 := Lib.hid hl5; clear ho5 hk5 hg5 hl5; go_simp))
    all_goals
      go_wp2_with fail
      go_meet
      have KS : Kept (· = b) w5 (w5.setCell ⟨b, 1, none⟩ (.slice (some ⟨g5, 0, none⟩) (n + 1) cap5)) := (Kept.refl _).own _ _
      have hbw : b < w2.heap.size := lt_of_block HB.out
      have hg5b : g5 ≠ b := fun e => by
        rcases HG5.out with h | h
        · exact HBG.out (e ▸ h)
        · omega
      refine ⟨g5, cap5, ?_, set_other HX5.out _ _ (by simp; omega), ?_, ?_, ?_, ?_⟩
      · have := set_blk HB5.out 1 (.slice (some ⟨g5, 0, none⟩) (n + 1) cap5)
        simpa using this
      · have ho5 := HO5.out
        have e : ((lm ++ [x]).map BalM.cells).flatten = (lm.map BalM.cells).flatten ++ (xCells x).toList := by simp [BalM.cells]
        rw [e]
        refine ⟨ho5.1, ho5.2.imp id ?_⟩
        rintro ⟨g, c, cur, hv, hg, hh, r⟩
        refine ⟨g, c, cur, hv, hg, KS.heap hh ?_, r⟩
        simp only [Value.slice.injEq, Option.some.injEq, Addr.mk.injEq] at hv
        rw [← hv.1.1]; exact hg5b
      · refine (HK5.out.mono (fun y _ hy => ?_)).trans (KS.mono (fun y _ hy => .inl hy))
        rw [own_slice'] at hy
        exact .inr hy
      · rcases HG5.out with h | h
        · rw [own_slice'] at h; exact .inl h
        · exact .inr h
      · have := HL5.out; simp; exact this
  case rest =>
    obtain ⟨g, cap', hb, hxb2, ho, hk, hg, hgl⟩ := hcut
    have hFL : ∀ y, FB b ao y → y ∈ L := fun y hy => by
      rcases hy with rfl | hy
      · exact HBL.out
      · exact HGL.out y hy
    have hL2 : ∀ y ∈ g :: L, y ∈ L ∨ w2.heap.size ≤ y := fun y hy => by
      rcases List.mem_cons.1 hy with rfl | hy
      · exact hg.imp (fun h => HGL.out _ h) id
      · exact .inl hy
    have hLw : ∀ y ∈ g :: L, y < wc.heap.size := fun y hy => by
      rcases List.mem_cons.1 hy with rfl | hy
      · exact hgl
      · exact hk.lt (HLT.out y hy)
    have hnl : (B.l ++ [x.b]).length = n + 1 := by rw [List.length_append, HN.out]; rfl
    have hxat : x.at wc (· ∉ g :: L) := (HX.out.kept K2.out (fun _ _ _ => id)).toL hk (fun y _ hy => hFL y hy) hL2
    have hbox : BoxAt wc b (some ⟨g, 0, none⟩) { B with l := B.l ++ [x.b] } (g :: L) := by
      refine ⟨cap', ay, cy, lm ++ [x], by rw [show ({ B with l := B.l ++ [x.b] } : BoxS).l.length = n + 1 from hnl]; exact hb, by rw [show ({ B with l := B.l ++ [x.b] } : BoxS).l.length = n + 1 from hnl]; exact ho, by rw [List.map_append, HLM.out]; rfl, fun y hy => ?_, HY.out.toL hk (fun y _ hy => hFL y hy) hL2, List.mem_cons_of_mem _ HBL.out, fun y hy => ?_, hLw⟩
      · rcases List.mem_append.1 hy with hy | hy
        · exact (HAT.out y hy).toL hk (fun y _ hy => hFL y hy) hL2
        · simp at hy; subst hy; exact hxat
      · simp [Value.ownBlock] at hy
        subst hy
        exact List.mem_cons_self
    have KC := Lib.hid ((K2.out.any (M := FB b ao)).trans hk)
    have HLL := Lib.hid (show ∀ y ∈ g :: L, y ∈ L ∨ w.heap.size ≤ y from fun y hy => (hL2 y hy).imp id (fun h => by omega))
    have HBX := Lib.hid hbox
    have HLM2 := Lib.hid (show (lm ++ [x]).map (·.b) = B.l ++ [x.b] from by rw [List.map_append, HLM.out]; rfl)
    have HOC := Lib.hid ho
    have HBC := Lib.hid hb
    have HXC := Lib.hid hxb2
    have HNL := Lib.hid hnl
    have HLW := Lib.hid hLw
    have HWX := Lib.hid (show ∀ y ∈ g :: L, FB b ao y ∨ ¬ FB b ao y from fun y _ => Classical.em _)
    have c1 := cell_blk hb 1
    have c2 := cell_blk hb 2
    have c0 := cell_blk hb 0
    have x0 := cell_blk hxb2 0
    have x1 := cell_blk hxb2 1
    have x6 := cell_blk hxb2 6
    simp at c0 c1 c2 x0 x1 x6
    clear hb hxb2 ho hk hg hgl hFL hL2 hLw hnl hxat hbox HB HO HLM HAT HY HGL HLT HBG HXG HXB2 x2 x3 x4 x5 c1a HWX
    by_cases hw1 : B.won = true
    · rw [hw1] at c2
      go_wp2_with fail
      go_ret
      exact ⟨some ⟨g, 0, none⟩, g :: L, rfl, by unfold BoxS.tally; rw [if_pos (.inl hw1)]; exact HBX.out, fun y hy => List.mem_cons_of_mem _ hy, HLL.out, KC.out⟩
    have hw1' : B.won = false := by simpa using hw1
    rw [hw1'] at c2
    by_cases hv1 : x.b.voted = false
    · rw [hv1] at x0
      have HV1 := Lib.hid hv1
      clear hv1
      go_wp2_with fail
      go_ret
      exact ⟨some ⟨g, 0, none⟩, g :: L, rfl, by unfold BoxS.tally; rw [if_pos (.inr HV1.out)]; exact HBX.out, fun y hy => List.mem_cons_of_mem _ hy, HLL.out, KC.out⟩
    have hv1' : x.b.voted = true := by simpa using hv1
    rw [hv1'] at x0
    have HNW := Lib.hid (show ¬ (B.won = true ∨ x.b.voted = false) from fun h => by
      rcases h with h | h
      · exact hw1 h
      · exact hv1 h)
    have HV := Lib.hid hv1'
    clear hw1 hw1' hv1 hv1'
    go_wp2_with fail
    go_loopw [7, 8, 10, 54] (fun v7 v8 _ c wr => ∃ (k : Nat) (ao2 : Option Addr) (cap2 : Nat), k ≤ n + 1 ∧ c = .int .i64 k ∧ v7 = .slice ao2 (((B.l ++ [x.b]).take k).filter (sameB x.b)).length cap2 ∧ v8 = .int .u32 (timeOf x.b.time (((B.l ++ [x.b]).take k).filter (sameB x.b))) ∧
        wr.ownsRow wc.heap.size 3 1 (.slice ao2 (((B.l ++ [x.b]).take k).filter (sameB x.b)).length cap2) (((B.l ++ [x.b]).take k).filter (sameB x.b)).length (((((B.l ++ [x.b]).take k).filter (sameB x.b)).map (·.up)).map (.int .i64)) ∧ Kept (fun _ => False) wc wr) (fun _ _ _ c _ => n + 1 - (intOf c).toNat)
    case atStart => exact ⟨0, none, 0, by omega, rfl, rfl, rfl, ⟨by simp, .inl ⟨rfl, rfl⟩⟩, Kept.refl _⟩
    case round =>
      obtain ⟨k, ao2, cap2, hk, rfl, rfl, rfl, hown, hkw⟩ := hrel
      have HOW := Lib.hid hown
      have KW := Lib.hid hkw
      have hfl : (((B.l ++ [x.b]).take k).filter (sameB x.b)).length ≤ 9 := by
        have := List.length_filter_le (sameB x.b) ((B.l ++ [x.b]).take k)
        rw [List.length_take] at this
        omega
      have HFS := Lib.hid (fun h : k < (B.l ++ [x.b]).length => filter_take_succ (sameB x.b) (B.l ++ [x.b]) h)
      obtain ⟨F, hF⟩ : ∃ F, ((B.l ++ [x.b]).take k).filter (sameB x.b) = F := ⟨_, rfl⟩
      have HFE := Lib.hid hF
      rw [hF] at HOW hfl HFS ⊢
      obtain ⟨t, ht⟩ : ∃ t, timeOf x.b.time F = t := ⟨_, rfl⟩
      have HTE := Lib.hid ht
      rw [ht]
      have hzc := hkw.size
      have d0 := hkw.cell c0 id
      have d1 := hkw.cell c1 id
      have y0 := hkw.cell x0 id
      have y1 := hkw.cell x1 id
      have y6 := hkw.cell x6 id
      clear hown hkw hF ht x0 x1 x6 c0 c1 c2
      by_cases hlt : k < n + 1
      · obtain ⟨y, hy⟩ : ∃ y, (lm ++ [x])[k]? = some y := ⟨_, List.getElem?_eq_getElem (by simp; omega)⟩
        obtain ⟨g', hgg, -, z0, z1, z2, z3, z4, z5, z6⟩ := bal_cells HOC.out hlt y hy
        simp only [Option.some.injEq, Addr.mk.injEq, and_true] at hgg
        subst hgg
        have z0 := KW.out.cell z0 id
        have z1 := KW.out.cell z1 id
        have z2 := KW.out.cell z2 id
        have z3 := KW.out.cell z3 id
        have z4 := KW.out.cell z4 id
        have z5 := KW.out.cell z5 id
        have z6 := KW.out.cell z6 id
        have i0 : (0 : Int) ≤ (k : Int) := Int.natCast_nonneg _
        have i1 : (k : Int) < (n : Int) + 1 := by omega
        have hyb : k < (B.l ++ [x.b]).length ∧ (B.l ++ [x.b])[k]? = some y.b := by
          have h1 := HLM2.out
          rw [← h1]
          obtain ⟨h2, h3⟩ := List.getElem?_eq_some_iff.1 hy
          exact ⟨by simpa using h2, by rw [List.getElem?_map, hy]; rfl⟩
        have HFS2 := Lib.hid (show ((B.l ++ [x.b]).take (k + 1)).filter (sameB x.b) = F ++ if sameB x.b y.b = true then [y.b] else [] from by
          have := HFS.out hyb.1
          rwa [(List.getElem?_eq_some_iff.1 hyb.2).2] at this)
        obtain ⟨r, hr⟩ : ∃ r, decide (y.b.voted = true ∧ y.b.key = x.b.key) = r := ⟨_, rfl⟩
        have hsb : sameB x.b y.b = r := by unfold sameB; rw [HV.out]; exact hr
        have heq := fun w => choice_eql y.b.voted true y.b.key x.b.key w
        rw [hr] at heq
        rw [hsb] at HFS2
        have hyx : w.heap.size ≠ wr.heap.size := by have := World.block_lt_of_cell? _ _ y0; simp at this; omega
        obtain ⟨w6, hw6⟩ : ∃ w6, wr.alloc (.cells #[.bool y.b.voted, .string y.b.key, .int .i64 y.b.up, .int .u8 y.b.v.code, .slice y.a1 y.b.v.sets.length y.c1, .slice y.a2 y.b.v.soa.length y.c2, .int .u32 y.b.time] 94) = w6 := ⟨_, rfl⟩
        have HYB := Lib.hid (new_blk wr (.cells #[.bool y.b.voted, .string y.b.key, .int .i64 y.b.up, .int .u8 y.b.v.code, .slice y.a1 y.b.v.sets.length y.c1, .slice y.a2 y.b.v.soa.length y.c2, .int .u32 y.b.time] 94))
        have KA := Lib.hid ((Kept.refl (M := fun _ => False) wr).alloc (.cells #[.bool y.b.voted, .string y.b.key, .int .i64 y.b.up, .int .u8 y.b.v.code, .slice y.a1 y.b.v.sets.length y.c1, .slice y.a2 y.b.v.soa.length y.c2, .int .u32 y.b.time] 94))
        have xx0 := KA.out.cell y0 id
        have xx1 := KA.out.cell y1 id
        have HW6 := Lib.hid hw6
        have HY := Lib.hid hy
        clear hr hsb hy hyb hw6 HFS
        have q2 : w6.cell? ⟨wr.heap.size, 2, none⟩ = some (.int .i64 y.b.up) := by rw [← HW6.out, cell_blk HYB.out]; rfl
        have q6 : w6.cell? ⟨wr.heap.size, 6, none⟩ = some (.int .u32 y.b.time) := by rw [← HW6.out, cell_blk HYB.out]; rfl
        have HO6 := Lib.hid (show w6.ownsRow wc.heap.size 3 1 (.slice ao2 F.length cap2) F.length ((F.map (·.up)).map (.int .i64)) from by rw [← HW6.out]; exact World.ownsRow.alloc HOW.out _)
        have K6 := Lib.hid (show Kept (fun _ => False) wc w6 from by rw [← HW6.out]; exact KW.out.trans KA.out)
        have hz6 : w6.heap.size = wr.heap.size + 1 := by rw [← HW6.out]; simp
        have HOWN := Lib.hid (show ¬ (Value.slice ao2 F.length cap2).ownBlock = some wr.heap.size from fun e => by have := (World.ownsRow.lt HOW.out _ e).2; omega)
        cases r with
        | false =>
          go_wp2_with fail
          go_roundw
          case measure => simp [intOf]; omega
          case rel =>
            rw [HW6.out]
            refine ⟨k + 1, ao2, cap2, by omega, by go_num, ?_, ?_, ?_, K6.out⟩
            all_goals
              have h := HFS2.out
              rw [if_neg (by decide), List.append_nil] at h
              rw [h]
            · rw [HTE.out]
            · exact HO6.out
        | true =>
          have q2a : (w6.alloc (.cells #[.int .i64 y.b.up] 3)).cell? ⟨wr.heap.size, 2, none⟩ = some (.int .i64 y.b.up) := (World.cell?_alloc_old _ _ _ (show wr.heap.size ≠ w6.heap.size by omega)).trans q2
          have q6a : (w6.alloc (.cells #[.int .i64 y.b.up] 3)).cell? ⟨wr.heap.size, 6, none⟩ = some (.int .u32 y.b.time) := (World.cell?_alloc_old _ _ _ (show wr.heap.size ≠ w6.heap.size by omega)).trans q6
          obtain ⟨tm, htm⟩ : ∃ tm, (if y.b.time < t then y.b.time else t) = tm := ⟨_, rfl⟩
          have HTM := Lib.hid htm
          go_wp2_with fail
          rw [HW6.out]
          go_region_held3 (fun w' => w'.cell? ⟨wr.heap.size, 2, none⟩ = some (.int .i64 y.b.up) ∧ w'.cell? ⟨wr.heap.size, 6, none⟩ = some (.int .u32 y.b.time)) (first | go_keep | exact ⟨q2a, q6a⟩ | exact ⟨p2, p6⟩)
            ((refine step_push1d (E := 3) (sz := 1) (base := wc.heap.size) (v := .slice ao2 F.length cap2) (n := F.length) (w := w6) (by rfl) _ _ 52 (by rfl) Try.underlying52 info_int rfl (by decide) (by decide) (by rfl) HO6.out #[.int .i64 y.b.up] _ (by rfl) (by omega) (by omega) (by omega) rfl (by simp [Value.oneCell']) ?_; intro g7 cap7 w7 ho7 hk7 hg7 hl7; have p2 := hk7.cell q2 HOWN.out; have p6 := hk7.cell q6 HOWN.out; have HO7 := Lib.hid ho7; have HK7 := Lib.hid hk7; clear ho7 hk7 hg7 hl7))
          all_goals
            go_wp2_with fail
            go_roundw
            case measure => simp [intOf]; omega
            case rel =>
              have h := HFS2.out
              rw [if_pos trivial] at h
              refine ⟨k + 1, some ⟨g7, 0, none⟩, cap7, by omega, by go_num, by rw [h, List.length_append]; rfl, by rw [h, timeOf_snoc, HTE.out, HTM.out], ?_, K6.out.then HK7.out (fun i hi e => by have := (World.ownsRow.lt HO6.out i e).1; omega)⟩
              have ho7 := HO7.out
              rw [h, List.map_append, List.map_append, List.length_append]
              exact ho7
      · obtain rfl : k = n + 1 := by omega
        have hfull : ((B.l ++ [x.b]).take (n + 1)) = B.l ++ [x.b] := List.take_of_length_le (by have := HNL.out; omega)
        have hFF : (B.l ++ [x.b]).filter (sameB x.b) = F := by have := HFE.out; rwa [hfull] at this
        have HFF := Lib.hid hFF
        have HBR := Lib.hid (HBX.out.look KW.out)
        have hgL : ∀ y ∈ g :: L, y < wc.heap.size := HLW.out
        have HGL := Lib.hid hgL
        have hbc : b < wc.heap.size := HBX.out.lt (.inl rfl)
        have HKR := Lib.hid (KC.out.trans (KW.out.any (M := FB b ao)))
        by_cases hcnt : (F.length : Int) = B.want
        · have hxF : x.b ∈ F := by
            rw [← hFF]
            exact List.mem_filter.2 ⟨by simp, by simp [sameB]⟩
          have hm1 : 1 ≤ F.length := List.length_pos_of_mem hxF
          obtain ⟨g7, rfl, hg7, hml, hrow⟩ := IRow.of_own (l := F.map (·.up)) (base := wc.heap.size) (n := F.length) (cap := cap2) (ao := ao2) (w := wr) (by unfold OwnsI; rw [List.length_map]; exact HOW.out) hm1
          have hcb : ((F.length : Int) == B.want) = true := by simpa using hcnt
          have HROW := Lib.hid hrow
          have HCN := Lib.hid hcnt
          have hb7 : b ≠ g7 := by omega
          obtain ⟨cap3, ay3, cy3, lm3, hb3, ho3, hl3, ha3, hy3, hbL3, hgL3, hLt3⟩ := HBX.out
          clear hfull hFF hgL hrow hcnt hxF hml
          go_wp2_with fail
          refine (sortI_any g7 F.length (F.map (·.up)) cap2 wr HROW.out (by simp) hfl hm1).mono ?_
          rintro e ws ⟨rfl, hsr, hks⟩
          have hwg : ∀ y, y < wc.heap.size → ¬ y = g7 := fun y hy e => by omega
          have hbs := hks.heap (KW.out.heap hb3 id) (hwg b hbc)
          have hxs := hks.cell y0 (hwg w.heap.size (lt_of_block HXC.out))
          have hxs1 := hks.cell y1 (hwg w.heap.size (lt_of_block HXC.out))
          have e2 := cell_blk hbs 2
          have e3 := cell_blk hbs 3
          have e4 := cell_blk hbs 4
          have e5 := cell_blk hbs 5
          have f2 := free_blk hbs 2
          have f3 := free_blk hbs 3
          have f4 := free_blk hbs 4
          have f5 := free_blk hbs 5
          simp at e2 e3 e4 e5
          have hne : b ≠ w.heap.size := by omega
          have HS1 := Lib.hid (And.intro hbs (And.intro hsr hks))
          have HOB := Lib.hid (own_type ho3 hb3 (by decide))
          have H3 := Lib.hid (And.intro ho3 (And.intro hl3 (And.intro ha3 (And.intro hbL3 hgL3))))
          clear hbs hsr hks hb3 ho3 hl3 ha3 hy3 hbL3 hgL3 hLt3
          go_wp2_with fail
          go_ret
          obtain ⟨hbs, hsr, hks⟩ := HS1.out
          obtain ⟨ho3, hl3, ha3, hbL3, hgL3⟩ := H3.out
          have KB : Kept (· = b) ws ((((ws.setCell ⟨b, 2, none⟩ (.bool true)).setCell ⟨b, 3, none⟩ (.string x.b.key)).setCell ⟨b, 4, none⟩ (.slice (some ⟨g7, 0, none⟩) F.length cap2)).setCell ⟨b, 5, none⟩ (.int .u32 t)) := ((((Kept.refl _).own _ _).own _ _).own _ _).own _ _
          have hbf := set_blk (set_blk (set_blk (set_blk hbs 2 (.bool true)) 3 (.string x.b.key)) 4 (.slice (some ⟨g7, 0, none⟩) F.length cap2)) 5 (.int .u32 t)
          obtain ⟨wf, hwf⟩ : ∃ wf, (((ws.setCell ⟨b, 2, none⟩ (.bool true)).setCell ⟨b, 3, none⟩ (.string x.b.key)).setCell ⟨b, 4, none⟩ (.slice (some ⟨g7, 0, none⟩) F.length cap2)).setCell ⟨b, 5, none⟩ (.int .u32 t) = wf := ⟨_, rfl⟩
          rw [hwf] at KB hbf ⊢
          have K : Kept (· = b) wc wf := ((KW.out.new hks hg7).any).trans KB
          simp at hbf
          have hsl : (sortK keyI (F.map (·.up))).length = F.length := by rw [sortK_len, List.length_map]
          refine ⟨some ⟨g, 0, none⟩, g :: L, rfl, ?_, fun y hy => List.mem_cons_of_mem _ hy, HLL.out, KC.out.trans (K.mono (fun y _ e => .inl e))⟩
          unfold BoxS.tally
          rw [if_neg HNW.out, HFF.out, if_pos HCN.out, HTE.out, HV.out]
          refine ⟨cap3, some ⟨g7, 0, none⟩, cap2, lm3, ?_, own_far ho3 (fun y hy => K.block y (World.ownsRow.lt ho3 y hy).2 (fun e => HOB.out (e ▸ hy))), hl3, fun y hy => (ha3 y hy).kept K (fun c _ hc e => hc (by rw [show c = b from e]; exact hbL3)), ?_, hbL3, hgL3, fun y hy => K.lt (HLW.out y hy)⟩
          · simp only [hsl]
            simpa using hbf
          · exact (hsr.kept KB (fun e => hb7 e.symm)).cells (fun hm => by have := HLW.out _ hm; omega)
        · have hcb : ((F.length : Int) == B.want) = false := by simpa using hcnt
          have HCN := Lib.hid hcnt
          clear hfull hFF hgL hcnt
          go_wp2_with fail
          go_ret
          exact ⟨some ⟨g, 0, none⟩, g :: L, rfl, by unfold BoxS.tally; rw [if_neg HNW.out, HFF.out, if_neg HCN.out]; exact HBR.out, fun y hy => List.mem_cons_of_mem _ hy, HLL.out, HKR.out⟩
end Go.Proofs.Ytffjighohloifaa
