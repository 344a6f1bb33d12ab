/- Package tally, walked: Won. -/
import Derived.Test.YtffjighohloifaaBoxCast21
namespace Go.Proofs.Ytffjighohloifaa
open Go.RowKit

set_option maxRecDepth 100000 in
theorem won1_any (x : BalM) (tb b : Nat) (wk : ByteArray) (wv : Bool) (r : Bool) (hr : decide (x.b.voted = wv ∧ x.b.key = wk) = r) (w : World) (ht : w.cell? ⟨tb, 0, none⟩ = some (.pointer (some ⟨b, 0, none⟩))) (h2 : w.cell? ⟨b, 2, none⟩ = some (.bool wv)) (h3 : w.cell? ⟨b, 3, none⟩ = some (.string wk)) :
    Calls Try.prog 36 #[.agg (xCells x), .pointer (some ⟨tb, 0, none⟩)] w fun e w' => e = .returned (.bool r) ∧ Kept (fun _ => False) w w' := by
  have heq := fun w => choice_eql x.b.voted wv x.b.key wk w
  rw [hr] at heq
  have K0 := Lib.hid ((Kept.refl (M := fun _ => False) w).alloc (.cells (xCells x) 94))
  have g1 := K0.out.cell ht id
  have g2 := K0.out.cell h2 id
  have g3 := K0.out.cell h3 id
  clear hr ht h2 h3
  go_enter Try.func36, Try.ntmps36
  go_wp2_with fail
  go_quiet (fail)
  go_wp2_with fail
  go_ret
  exact ⟨rfl, K0.out.drewN _⟩
/-- The ballot by which a box is won. -/
def wonB (B : BoxS) (y : Bal) : Bool := decide (y.voted = B.won ∧ y.key = B.wonK)
theorem keep9 {w w' : World} {a b c d e f g : Addr} {x y z u v p q : Value} (k : Kept (fun _ => False) w w')
    (hh : w.cell? a = some x ∧ w.cell? b = some y ∧ w.cell? c = some z ∧ w.cell? d = some u ∧ w.cell? e = some v ∧ w.cell? f = some p ∧ w.cell? g = some q) : w'.cell? a = some x ∧ w'.cell? b = some y ∧ w'.cell? c = some z ∧ w'.cell? d = some u ∧ w'.cell? e = some v ∧ w'.cell? f = some p ∧ w'.cell? g = some q :=
  ⟨k.cell hh.1 id, k.cell hh.2.1 id, k.cell hh.2.2.1 id, k.cell hh.2.2.2.1 id, k.cell hh.2.2.2.2.1 id, k.cell hh.2.2.2.2.2.1 id, k.cell hh.2.2.2.2.2.2 id⟩
theorem keep9M {M : Nat → Prop} {w w' : World} {a b c d e f g : Addr} {x y z u v p q : Value} (k : Kept M w w') (ha : ¬ M a.block) (hb : ¬ M b.block) (hc : ¬ M c.block) (hd : ¬ M d.block) (he : ¬ M e.block) (hf : ¬ M f.block) (hg : ¬ M g.block)
    (hh : w.cell? a = some x ∧ w.cell? b = some y ∧ w.cell? c = some z ∧ w.cell? d = some u ∧ w.cell? e = some v ∧ w.cell? f = some p ∧ w.cell? g = some q) : w'.cell? a = some x ∧ w'.cell? b = some y ∧ w'.cell? c = some z ∧ w'.cell? d = some u ∧ w'.cell? e = some v ∧ w'.cell? f = some p ∧ w'.cell? g = some q :=
  ⟨k.cell hh.1 ha, k.cell hh.2.1 hb, k.cell hh.2.2.1 hc, k.cell hh.2.2.2.1 hd, k.cell hh.2.2.2.2.1 he, k.cell hh.2.2.2.2.2.1 hf, k.cell hh.2.2.2.2.2.2 hg⟩
set_option maxRecDepth 100000 in
theorem won_no {w : World} {b : Nat} {ao : Option Addr} {B : BoxS} {L : List Nat} (H : Hid (BoxAt w b ao B L)) (hw : B.won = false) :
    Calls Try.prog 13 #[.pointer (some ⟨b, 0, none⟩)] w fun e w' => e = .returned (.tuple #[.agg #[.int .u8 0, .slice none 0 0, .slice none 0 0], .int .u32 0, .slice none 0 0, .bool false]) ∧ Kept (fun _ => False) w w' := by
  obtain ⟨cap, ay, cy, lm, hb, -⟩ := H.out
  have hbl := lt_of_block hb
  have hne : b ≠ w.heap.size := by omega
  have hne2 : b ≠ w.heap.size + 1 := by omega
  have c2 := cell_blk hb 2
  simp at c2
  rw [hw] at c2
  clear hb hw
  go_enter Try.func13, Try.ntmps13
  go_wp2_with fail
  refine bodyPost_ret (v := .tuple #[.agg #[.int .u8 0, .slice none 0 0, .slice none 0 0], .int .u32 0, .slice none 0 0, .bool false]) (by simp [results, Try.results13, go_sem]) rfl ⟨rfl, ((Kept.refl _).alloc _).alloc _⟩
theorem Cells.of_own1 {w : World} {base n cap : Nat} {E : TypeId} {ao : Option Addr} {cs : List Value} (h : w.ownsRow base E 1 (.slice ao n cap) n cs) : Cells w ao cs (base ≤ ·) := by
  rcases h.2 with ⟨_, h2⟩ | ⟨g, c, cur, hv, hb, hg, hn, hc, hs, ht⟩
  · have := h.1
    exact .inl (List.eq_nil_of_length_eq_zero (by omega))
  · simp at hv
    obtain ⟨rfl, rfl⟩ := hv
    refine .inr ⟨g, 0, rfl, hb, fun i hi => ?_⟩
    have := h.1
    rw [cell_blk hg, ← ht, List.getElem?_take, if_pos (by omega), Nat.zero_add]; simp
theorem find_idx {l : List Bal} {q : Bal → Bool} {y : Bal} (h : l.find? q = some y) : ∃ k, k < l.length ∧ l[k]? = some y ∧ q y = true ∧ ∀ (i : Nat) (z : Bal), i < k → l[i]? = some z → q z = false := by
  rw [List.find?_eq_some_iff_getElem] at h
  obtain ⟨hq, k, hk, he, hall⟩ := h
  refine ⟨k, hk, by rw [List.getElem?_eq_getElem hk, he], hq, fun i z hi hz => ?_⟩
  have := hall i hi
  obtain ⟨hi', e⟩ := List.getElem?_eq_some_iff.1 hz
  rw [e] at this
  simpa using this
set_option maxRecDepth 100000 in
set_option maxHeartbeats 4000000 in
theorem won_yes {w : World} {b : Nat} {ao : Option Addr} {B : BoxS} {L : List Nat} (H : Hid (BoxAt w b ao B L)) (hl : B.l.length ≤ 1000) (hbyl : (B.by_.length : Int) ≤ 1000) (hw : B.won = true) (y : Bal) (hy : B.l.find? (wonB B) = some y) (hV : y.v.ok) :
    Calls Try.prog 13 #[.pointer (some ⟨b, 0, none⟩)] w fun e w' => ∃ vv ay cy, e = .returned (.tuple #[vv, .int .u32 B.time, .slice ay B.by_.length cy, .bool true]) ∧ VerdAt w' vv y.v (w.heap.size ≤ ·) ∧ Cells w' ay (B.by_.map (.int .i64)) (w.heap.size ≤ ·) ∧ Kept (fun _ => False) w w' := by
  obtain ⟨k, hk, hyk, hq, hbefore⟩ := find_idx hy
  obtain ⟨cap, ay, cy, lm, hb, ho, hlm, ha, hby, -, -, -⟩ := H.out
  have hbl := lt_of_block hb
  have hln : lm.length = B.l.length := by rw [← hlm]; simp
  obtain ⟨x, hx⟩ : ∃ x, lm[k]? = some x := ⟨_, List.getElem?_eq_getElem (by omega)⟩
  have hxb : x.b = y := by
    have := hyk
    rw [← hlm, List.getElem?_map, hx] at this
    simpa using this
  have hxm : x ∈ lm := List.mem_of_getElem? hx
  have hidx : idxP (fun i => ((lm[i]?).map (fun z => wonB B z.b)).getD false) B.l.length = k := by
    refine idxP_at hk (by rw [hx]; simp [hxb, hq]) (fun i hi => ?_)
    obtain ⟨z, hz⟩ : ∃ z, lm[i]? = some z := ⟨_, List.getElem?_eq_getElem (by omega)⟩
    rw [hz]
    exact hbefore i z.b hi (by rw [← hlm, List.getElem?_map, hz]; rfl)
  have HIDX := Lib.hid hidx
  obtain ⟨n, hn⟩ : ∃ n, B.l.length = n := ⟨_, rfl⟩
  rw [hn] at hb ho hln hl hk HIDX
  obtain ⟨g, rfl, -, z0, z1, z2, z3, z4, z5, z6⟩ := bal_cells ho hk x hx
  rw [hxb] at z3 z4 z5
  obtain ⟨w0, hw0⟩ : ∃ w0, (w.alloc (.cells #[.pointer (some ⟨b, 0, none⟩)] 49)).alloc (.cells #[.int .u8 0, .slice none 0 0, .slice none 0 0] 29) = w0 := ⟨_, rfl⟩
  have K0 := Lib.hid (show Kept (fun _ => False) w w0 from by rw [← hw0]; exact ((Kept.refl _).alloc _).alloc _)
  have HT1 := Lib.hid (show w0.heap[w.heap.size]? = some (.cells #[.pointer (some ⟨b, 0, none⟩)] 49 (0, 0)) from by rw [← hw0]; exact old_blk (new_blk w _) _)
  have HT2 := Lib.hid (show w0.heap[w.heap.size + 1]? = some (.cells #[.int .u8 0, .slice none 0 0, .slice none 0 0] 29 (0, 0)) from by rw [← hw0]; exact new_at (by simp))
  have HW0 := Lib.hid hw0
  have HO0 := Lib.hid (own_far ho (fun y hy => K0.out.block y (World.ownsRow.lt ho y hy).2 id))
  have HB0 := Lib.hid (K0.out.heap hb id)
  have HC := Lib.hid (show ∀ (i : Nat) (z : BalM), lm[i]? = some z → ∀ wx, Kept (fun _ => False) w0 wx → Calls Try.prog 36 #[.agg (xCells z), .pointer (some ⟨w.heap.size, 0, none⟩)] wx fun e w' => e = .returned (.bool (((lm[i]?).map (fun z => wonB B z.b)).getD false)) ∧ Kept (fun _ => False) wx w' from
    fun i z hz wx kx => won1_any z w.heap.size b B.wonK B.won _ (by rw [hz]; rfl) wx (by rw [cell_blk (kx.heap HT1.out id)]; rfl) (by rw [cell_blk (kx.heap HB0.out id)]; rfl) (by rw [cell_blk (kx.heap HB0.out id)]; rfl))
  have hxa := ha x hxm
  have HVX := Lib.hid (show VerdAt w (.agg #[.int .u8 y.v.code, .slice x.a1 y.v.sets.length x.c1, .slice x.a2 y.v.soa.length x.c2]) y.v (fun _ => True) from ⟨x.a1, x.c1, x.a2, x.c2, rfl, by rw [← hxb]; exact hxa.1.mono (fun _ _ _ => trivial), by rw [← hxb]; exact hxa.2.mono (fun _ _ _ => trivial)⟩)
  have HBY := Lib.hid (hby.mono' (Q := fun _ => True) (fun _ _ _ => trivial))
  have HV := Lib.hid hV
  have c1 := cell_blk HB0.out 1
  have c2 := cell_blk HB0.out 2
  have t1 := cell_blk HT1.out 0
  simp at c1 c2 t1
  rw [hw] at c2
  have HZ := Lib.hid (And.intro z3 (And.intro z4 z5))
  clear hb ho ha hby hy hyk hq hbefore hx hxb hxm hidx hxa hV z0 z1 z2 z3 z4 z5 z6 hlm hw hw0 hn
  go_enter Try.func13, Try.ntmps13
  go_upto_region 1 with (fail)
  rw [HW0.out]
  go_wp2_with fail
  refine (idxWon_any (.pointer (some ⟨w.heap.size, 0, none⟩)) _ (some ⟨g, 0, none⟩) n cap lm hln hl w0 HO0.out HC).mono ?_
  rintro e w1 ⟨rfl, hk1⟩
  rw [HIDX.out]
  have K1 := Lib.hid (K0.out.trans hk1)
  have q1 := hk1.cell c1 id
  have qt := hk1.cell t1 id
  have HB1 := Lib.hid (hk1.heap HB0.out id)
  have HT3 := Lib.hid (hk1.heap HT2.out id)
  have q3 := K1.out.cell HZ.out.1 id
  have q4 := K1.out.cell HZ.out.2.1 id
  have q5 := K1.out.cell HZ.out.2.2 id
  have b4 := cell_blk HB1.out 4
  have b5 := cell_blk HB1.out 5
  simp at b4 b5
  have i0 : (0 : Int) ≤ (k : Int) := Int.natCast_nonneg _
  have i1 : (k : Int) < (n : Int) := by omega
  clear hk1 c1 c2 t1
  go_wp2_with fail
  have HVD := Lib.hid (HVX.out.look K1.out.drew)
  have HYD := Lib.hid (HBY.out.kept' K1.out (fun _ _ _ => id))
  have r0 := cell_blk HT3.out 0
  have r1 := cell_blk HT3.out 1
  have r2 := cell_blk HT3.out 2
  simp at r0 r1 r2
  have hgw : g < w.heap.size := by have := World.block_lt_of_cell? _ _ HZ.out.1; simpa using this
  have n1 : b ≠ w.heap.size + 1 := by omega
  have n2 : g ≠ w.heap.size + 1 := by omega
  have n3 : w.heap.size ≠ w.heap.size + 1 := by omega
  have HS : w1.drew.cell? ⟨w.heap.size, 0, none⟩ = some (.pointer (some ⟨b, 0, none⟩)) ∧ w1.drew.cell? ⟨b, 1, none⟩ = some (.slice (some ⟨g, 0, none⟩) n cap) ∧ w1.drew.cell? ⟨g, k * 7 + 3, none⟩ = some (.int .u8 y.v.code) ∧ w1.drew.cell? ⟨g, k * 7 + 4, none⟩ = some (.slice x.a1 y.v.sets.length x.c1) ∧ w1.drew.cell? ⟨g, k * 7 + 5, none⟩ = some (.slice x.a2 y.v.soa.length x.c2) ∧ w1.drew.cell? ⟨b, 4, none⟩ = some (.slice ay B.by_.length cy) ∧ w1.drew.cell? ⟨b, 5, none⟩ = some (.int .u32 B.time) := ⟨qt, q1, q3, q4, q5, b4, b5⟩
  have i2 : (k : Int) * 7 + 3 = ((k * 7 + 3 : Nat) : Int) := by omega
  clear i2
  go_region_held3 (fun w' => w'.cell? ⟨w.heap.size, 0, none⟩ = some (.pointer (some ⟨b, 0, none⟩)) ∧ w'.cell? ⟨b, 1, none⟩ = some (.slice (some ⟨g, 0, none⟩) n cap) ∧ w'.cell? ⟨g, k * 7 + 3, none⟩ = some (.int .u8 y.v.code) ∧ w'.cell? ⟨g, k * 7 + 4, none⟩ = some (.slice x.a1 y.v.sets.length x.c1) ∧ w'.cell? ⟨g, k * 7 + 5, none⟩ = some (.slice x.a2 y.v.soa.length x.c2) ∧ w'.cell? ⟨b, 4, none⟩ = some (.slice ay B.by_.length cy) ∧ w'.cell? ⟨b, 5, none⟩ = some (.int .u32 B.time))
    (first | exact HS | exact HS2 | exact HS3 | exact HS4 | go_keep)
    (first
      | (go_at_call 37; refine (own_any _ y.v _ ?_ HV.out.lens).mono ?_; exact HVD.out; rintro e w2 ⟨v2, rfl, hv2, hk2⟩; obtain ⟨b1, e1, b2, e2, rfl, s1, s2⟩ := hv2; have HS2 := keep9 hk2 HS; have K2 := Lib.hid (K1.out.trans hk2.of_drew); have S12 := Lib.hid (And.intro s1 s2); have HT4 := Lib.hid (hk2.of_drew.heap HT3.out id); have HY2 := Lib.hid (HYD.out.kept' hk2.of_drew (fun _ _ _ => id)); clear s1 s2 hk2)
      | (go_at_call 38; refine (cloneInt_any ay B.by_.length cy (B.by_.map (.int .i64)) _ (by simp) ?_ (by intro u hu; obtain ⟨z, _, rfl⟩ := List.mem_map.1 hu; rfl) (by omega)).mono ?_; (rcases HY2.out with h | ⟨a, off, e, _, hc⟩; (exact .inl (by simpa using congrArg List.length h)); exact .inr ⟨_, e, fun j u hu => by rw [addr_add, hc j (List.getElem?_eq_some_iff.1 hu).1, hu]⟩); rintro e w3 ⟨ay3, cy3, rfl, ho3, hk3⟩; have HS3 := keep9 hk3 HS2; have K3 := Lib.hid (K2.out.trans hk3); have S13 := Lib.hid (And.intro (S12.out.1.look hk3) (S12.out.2.look hk3)); have HT5 := Lib.hid (hk3.heap HT4.out id); have r0 := cell_blk HT5.out 0; have r1 := cell_blk HT5.out 1; have r2 := cell_blk HT5.out 2; have f0 := free_blk HT5.out 0; have f1 := free_blk HT5.out 1; have f2 := free_blk HT5.out 2; simp at r0 r1 r2; have HO3 := Lib.hid ho3; have KB : Kept (· = w.heap.size + 1) w3 (((w3.setCell ⟨w.heap.size + 1, 0, none⟩ (.int .u8 y.v.code)).setCell ⟨w.heap.size + 1, 1, none⟩ (.slice b1 y.v.sets.length e1)).setCell ⟨w.heap.size + 1, 2, none⟩ (.slice b2 y.v.soa.length e2)) := ((((Kept.refl _).own _ _).own _ _).own _ _); have HS4 := keep9M KB n3 n1 n2 n2 n2 n1 n1 HS3; clear ho3 hk3))
  go_wp2_with fail
  have hz1 := K1.out.size
  have hz2 := K2.out.size
  have hn3 := lt_of_block HT3.out
  refine bodyPost_ret (v := .tuple #[.agg #[.int .u8 y.v.code, .slice b1 y.v.sets.length e1, .slice b2 y.v.soa.length e2], .int .u32 B.time, .slice ay3 B.by_.length cy3, .bool true]) (by simp [results, Try.results13, go_sem, r0, r1, r2]) rfl
    ⟨_, ay3, cy3, rfl, ⟨b1, e1, b2, e2, rfl, (S13.out.1.kept KB (fun c _ hc e => by simp at hc; omega)).mono (fun c _ hc => by simp at hc; omega), (S13.out.2.kept KB (fun c _ hc e => by simp at hc; omega)).mono (fun c _ hc => by simp at hc; omega)⟩,
     ((Cells.of_own1 HO3.out).kept' KB (fun c _ hc e => by have := HT4.out; have := lt_of_block this; omega)).mono' (fun c _ hc => by omega), K3.out.new KB (Nat.le_succ _)⟩
end Go.Proofs.Ytffjighohloifaa
