/- hustingslaw21.awake. -/
import Derived.Test.YtffjighohloifaaBoxIn21
namespace Go.Proofs.Ytffjighohloifaa
open Go.RowKit

/-- What stands in a region that draws: a fact of the world, and one of each found value. -/
def FoundJ (I : World → Prop) (T : Nat → World → Value → Prop) (g : Nat → Option Value) (w : World) : Prop := I w ∧ ∀ i v, g i = some v → T i w v
def Lasts (I : World → Prop) : Prop := ∀ w w', Kept (fun _ => False) w w' → I w → I w'
theorem FoundJ.look {I : World → Prop} {T : Nat → World → Value → Prop} {g : Nat → Option Value} {w w' : World} (h : FoundJ I T g w) (hI : Lasts I) (hT : ∀ i v, Lasts (fun w => T i w v)) (k : Kept (fun _ => False) w w') : FoundJ I T g w' := ⟨hI _ _ k h.1, fun i v hv => hT i v _ _ k (h.2 i v hv)⟩
theorem FoundJ.add {I : World → Prop} {T : Nat → World → Value → Prop} {g : Nat → Option Value} {w : World} (h : FoundJ I T g w) (i : Nat) (x : Value) (hx : T i w x) : FoundJ I T (updG g i x) w := by
  refine ⟨h.1, fun j v hv => ?_⟩
  by_cases hj : j = i
  · subst hj
    rw [updG_same] at hv
    cases hv
    exact hx
  · rw [updG_ne hj] at hv
    exact h.2 j v hv
theorem Cells.one {w : World} {l : List Value} {t : TypeId} {P : Nat → Prop} (hP : P w.heap.size) : Cells (w.alloc (.cells l.toArray t)) (some ⟨w.heap.size, 0, none⟩) l P := by
  refine .inr ⟨_, 0, rfl, hP, fun i hi => ?_⟩
  rw [cell_blk (new_blk _ _)]
  simp
def SayI (w0 : World) (b : Nat) (B : BoxS) (c : Nat) (V : Verd) (a1 : Option Addr) (c1 : Nat) (a2 : Option Addr) (c2 : Nat) (ay : Option Addr) (l : List Int) (w : World) : Prop := BoxIn w0 w b B ∧
  (w.cell? ⟨c, 0, none⟩ = some (.int .u8 V.code) ∧ w.cell? ⟨c, 1, none⟩ = some (.slice a1 V.sets.length c1) ∧ w.cell? ⟨c, 2, none⟩ = some (.slice a2 V.soa.length c2)) ∧ (SetsAt w a1 V.sets (fun _ => True) ∧ SetsAt w a2 V.soa (fun _ => True)) ∧ Cells w ay (l.map (.int .i64)) (fun _ => True)
theorem SayI.lasts {w0 : World} {b : Nat} {B : BoxS} {c : Nat} {V : Verd} {a1 : Option Addr} {c1 : Nat} {a2 : Option Addr} {c2 : Nat} {ay : Option Addr} {l : List Int} : Lasts (SayI w0 b B c V a1 c1 a2 c2 ay l) := fun _ _ k h =>
  ⟨h.1.look k, ⟨k.cell h.2.1.1 id, k.cell h.2.1.2.1 id, k.cell h.2.1.2.2 id⟩, ⟨h.2.2.1.1.look k, h.2.2.1.2.look k⟩, h.2.2.2.kept' k (fun _ _ _ => id)⟩
def RowT (l : List Int) (w : World) (v : Value) : Prop := ∃ a c, v = .slice a l.length c ∧ Cells w a (l.map (.int .i64)) (fun _ => True)
/-- Found: at s a verdict that is said, at p, q, r rows of numbers. -/
def SayT (s : Nat) (V : Verd) (p : Nat) (lp : List Int) (q : Nat) (lq : List Int) (r : Nat) (lr : List Int) (i : Nat) (w : World) (v : Value) : Prop := (i = s → VerdAt w v V (fun _ => True)) ∧ (i = p → RowT lp w v) ∧ (i = q → RowT lq w v) ∧ (i = r → RowT lr w v)
theorem RowT.lasts {l : List Int} {v : Value} : Lasts (fun w => RowT l w v) := fun _ _ k ⟨a, c, e, h⟩ => ⟨a, c, e, h.kept' k (fun _ _ _ => id)⟩
theorem SayT.lasts {s : Nat} {V : Verd} {p : Nat} {lp : List Int} {q : Nat} {lq : List Int} {r : Nat} {lr : List Int} : ∀ i v, Lasts (fun w => SayT s V p lp q lq r lr i w v) := fun _ _ w w' k h =>
  ⟨fun e => (h.1 e).look k, fun e => RowT.lasts w w' k (h.2.1 e), fun e => RowT.lasts w w' k (h.2.2.1 e), fun e => RowT.lasts w w' k (h.2.2.2 e)⟩
theorem ints_yes {x y : Value} {l : List Int} {w : World} (hx : RowT l w x) (hy : RowT l w y) (hl : l.length ≤ 1000) : Calls Try.prog 17 #[x, y] w fun e w' => e = .returned (.bool true) ∧ Kept (fun _ => False) w w' := by
  obtain ⟨a1, c1, rfl, h1⟩ := hx
  obtain ⟨a2, c2, rfl, h2⟩ := hy
  refine (ints_any a1 a2 l l c1 c2 w h1 h2 (by omega) (by omega)).mono ?_
  rintro e w' ⟨rfl, hk⟩
  exact ⟨by simp, hk⟩
theorem same_yes {x y : Value} {s : ByteArray} {w : World} (hx : VerdAt w x (saidV s) (fun _ => True)) (hy : VerdAt w y (saidV s) (fun _ => True)) : Calls Try.prog 14 #[x, y] w fun e w' => e = .returned (.bool true) ∧ Kept (fun _ => False) w w' :=
  same11_any hx hy (said_few s) (said_few s) true (by simp)
set_option maxRecDepth 100000 in
set_option maxHeartbeats 4000000 in
theorem awake21_any (w : World) : Calls Try.prog 10 #[] w fun e w' => e = .returned (.bool true) ∧ Kept (fun _ => False) w w' := by
  obtain ⟨pb0, pb1, pb2, pb3⟩ := two_putE
  have P0 := Lib.hid pb0
  have P1 := Lib.hid pb1
  have P2 := Lib.hid pb2
  have P3 := Lib.hid pb3
  clear pb0 pb1 pb2 pb3
  go_enter Try.func10, Try.ntmps10
  go_wp2_with fail
  refine (tnew_in (Kept.refl w) 2 (by decide) (by decide)).mono ?_
  rintro e w1 ⟨rfl, h1⟩
  have H := Lib.hid h1
  clear h1
  obtain ⟨b, hb⟩ : ∃ b, w.heap.size = b := ⟨_, rfl⟩
  rw [hb] at H ⊢
  clear hb
  go_wp2_with fail
  refine (said_any tX _).mono ?_
  rintro e w2 ⟨v, rfl, hv, hk⟩
  obtain ⟨a1, c1, a2, c2, rfl, s1, s2⟩ := hv
  have H2 := Lib.hid (H.out.look hk)
  have HS := Lib.hid (And.intro s1 s2)
  clear hk s1 s2 H
  go_wp2_with fail
  refine (cast_in H2.out 0 9 (saidV tX) said_ok.1 a1 c1 a2 c2 (HS.out.1.mono (fun _ _ _ => trivial)) (HS.out.2.mono (fun _ _ _ => trivial)) 0 P0.out _ rfl).mono ?_
  rintro e w3 ⟨rfl, h3⟩
  have H := Lib.hid h3
  clear h3 H2 HS
  go_wp2_with fail
  refine (said_any tY _).mono ?_
  rintro e w4 ⟨v, rfl, hv, hk⟩
  obtain ⟨a1, c1, a2, c2, rfl, s1, s2⟩ := hv
  have H2 := Lib.hid (H.out.look hk)
  have HS := Lib.hid (And.intro s1 s2)
  clear hk s1 s2 H
  go_wp2_with fail
  refine (cast_in H2.out 1 3 (saidV tY) said_ok.2.1 a1 c1 a2 c2 (HS.out.1.mono (fun _ _ _ => trivial)) (HS.out.2.mono (fun _ _ _ => trivial)) 0 P1.out _ rfl).mono ?_
  rintro e w5 ⟨rfl, h3⟩
  have H := Lib.hid h3
  clear h3 H2 HS
  go_wp2_with fail
  refine (said_any tX _).mono ?_
  rintro e w6 ⟨v, rfl, hv, hk⟩
  obtain ⟨a1, c1, a2, c2, rfl, s1, s2⟩ := hv
  have H2 := Lib.hid (H.out.look hk)
  have HS := Lib.hid (And.intro s1 s2)
  clear hk s1 s2 H
  go_wp2_with fail
  refine (cast_in H2.out 2 5 (saidV tX) said_ok.1 a1 c1 a2 c2 (HS.out.1.mono (fun _ _ _ => trivial)) (HS.out.2.mono (fun _ _ _ => trivial)) 0 P2.out twoBox rfl).mono ?_
  rintro e w7 ⟨rfl, h3⟩
  have H := Lib.hid h3
  clear h3 H2 HS
  go_wp2_with fail
  refine (said_any tX _).mono ?_
  rintro e w8 ⟨v, rfl, hv, hk⟩
  obtain ⟨a1, c1, a2, c2, rfl, s1, s2⟩ := hv
  have H2 := Lib.hid (H.out.look hk)
  have HS := Lib.hid (And.intro s1 s2)
  clear hk s1 s2 H
  go_wp2_with fail
  refine (cast_in H2.out 1 0 (saidV tX) said_ok.1 a1 c1 a2 c2 (HS.out.1.mono (fun _ _ _ => trivial)) (HS.out.2.mono (fun _ _ _ => trivial)) 7 P3.out twoBox two_same).mono ?_
  rintro e w9 ⟨rfl, h3⟩
  have H := Lib.hid h3
  clear h3 H2 HS
  go_wp2_with fail
  refine (won_in H.out 5 two_facts.2.1 [0, 2] two_facts.2.2.1 (by decide) two_facts.1 (saidV tX) two_find).mono ?_
  rintro e w10 ⟨a1, c1, a2, c2, ay, cy, rfl, hv, hy, hk⟩
  have HV := Lib.hid hv
  have HY := Lib.hid hy
  have HB := Lib.hid (H.out.look hk)
  clear hv hy hk H
  go_upto_region 5 with (fail)
  obtain ⟨w11, hw11⟩ : ∃ w11, w10.alloc (.cells #[.int .u8 (saidV tX).code, .slice a1 (saidV tX).sets.length c1, .slice a2 (saidV tX).soa.length c2] 29) = w11 := ⟨_, rfl⟩
  have HC := Lib.hid (show w11.heap[w10.heap.size]? = some (.cells #[.int .u8 (saidV tX).code, .slice a1 (saidV tX).sets.length c1, .slice a2 (saidV tX).soa.length c2] 29 (0, 0)) from by rw [← hw11]; exact new_blk _ _)
  have K11 := Lib.hid (show Kept (fun _ => False) w10 w11 from by rw [← hw11]; exact (Kept.refl _).alloc _)
  rw [hw11]
  clear hw11
  obtain ⟨vb, hvb⟩ : ∃ vb, w10.heap.size = vb := ⟨_, rfl⟩
  rw [hvb] at HC ⊢
  have HI := Lib.hid (show SayI w b twoBox vb (saidV tX) a1 c1 a2 c2 ay [0, 2] w11.drew from ⟨(HB.out.look K11.out).look (Kept.refl _).drew, ⟨by have := cell_blk HC.out 0; exact this, by have := cell_blk HC.out 1; exact this, by have := cell_blk HC.out 2; exact this⟩,
    (by obtain ⟨_, _, _, _, e, s1, s2⟩ := HV.out
        simp only [Value.agg.injEq, Array.mk.injEq, List.cons.injEq, Value.slice.injEq] at e
        obtain ⟨-, ⟨rfl, -, rfl⟩, ⟨rfl, -, rfl⟩, -⟩ := e
        exact ⟨((s1.mono (Q := fun _ => True) (fun _ _ _ => trivial)).look K11.out).look (Kept.refl _).drew, ((s2.mono (Q := fun _ => True) (fun _ _ _ => trivial)).look K11.out).look (Kept.refl _).drew⟩),
    (HY.out.mono' (Q := fun _ => True) (fun _ _ _ => trivial)).kept' K11.out.drew (fun _ _ _ => id)⟩)
  clear HB HV HY HC K11 hvb P0 P1 P2 P3
  refine wp_region_rel ((some ?av0) :: (some ?av1) :: (some ?av2) :: (none) :: (some ?av4) :: (some ?av5) :: (some ?av6) :: (some ?av7) :: (some ?av8) :: (some ?av9) :: (some ?av10) :: (some ?av11) :: (none) :: (some ?av13) :: (some ?av14) :: (some ?av15) :: (some ?av16) :: (none) :: (none) :: (some ?av19) :: (some ?av20) :: (some ?av21) :: (some ?av22) :: (some ?av23) :: (some ?av24) :: (some ?av25) :: (some ?av26) :: []) (FoundJ (SayI w b twoBox vb (saidV tX) a1 c1 a2 c2 ay [0, 2]) (SayT 3 (saidV tX) 12 [0, 2] 17 [1] 18 [1])) (fun j => false) (by kernel_rfl) (by kernel_rfl) [some 48, some 49, some 50, some 51, some 52, some 53, some 54, some 55, some 56, some 57, some 58, some 59, some 60, some 61, some 62, some 63, some 64, some 65, some 66, some 67, some 68, some 69, some 70, some 71, some 72, some 73, some 0] rfl rfl ?aA ?aAp ?ahA ?ahAp ?ah0 ?aH ?ahQ
  case ahA => intro F; simp only [valsFrom, Option.getD_some, Option.getD_none, Nat.zero_add, Nat.reduceAdd, laidAll, Act.put, List.setIfInBounds_toArray, List.set_cons_zero, List.set_cons_succ]; try rfl
  case ahAp => intro F; change laidAll _ [some 48, some 49, some 50, some 51, some 52, some 53, some 54, some 55, some 56, some 57, some 58, some 59, some 60, some 61, some 62, some 63, some 64, some 65, some 66, some 67, some 68, some 69, some 70, some 71, some 72, some 73, some 0] _ = _; simp only [valsFrom, Option.getD_some, Option.getD_none, Nat.zero_add, Nat.reduceAdd, laidAll, Act.put, List.setIfInBounds_toArray, List.set_cons_zero, List.set_cons_succ]; try rfl
  case ah0 => exact ⟨HI.out, fun i v hv => by cases hv⟩
  case aH =>
    intro F g wx hJ hF
    iterate 3 (refine ⟨fun hp => ?_, ?_⟩; · first | (refine RelStep.yields hJ (Or.inr ⟨by rfl, ?_⟩); rfl) | (refine RelStep.yields hJ (Or.inl ⟨by rfl, ?_⟩); intro w; go_simp; (try with_reducible rfl); done) | (refine RelStep.reads hJ (by rfl) ?_; have q0 := hJ.1.2.1.1; have q1 := hJ.1.2.1.2.1; have q2 := hJ.1.2.1.2.2; go_simp; (try with_reducible rfl); done))
    refine ⟨fun hp => ?_, ?_⟩
    · refine RelStep.callsF ?af3 ?ag3 (by rfl) ?ar3 ?ac3
      case ar3 => go_simp; first | (refine ⟨?_, ?_⟩ <;> with_reducible rfl) | with_reducible rfl
      case ac3 =>
        intro _
        refine (said_any tX _).mono ?_
        rintro e w' ⟨v, rfl, hv, hk⟩
        exact ⟨v, rfl, (hJ.look SayI.lasts SayT.lasts hk).add 3 v ⟨fun _ => hv.mono (fun _ _ _ => trivial), fun e => absurd e (by decide), fun e => absurd e (by decide), fun e => absurd e (by decide)⟩⟩
    refine ⟨fun hp => ?_, ?_⟩
    · refine RelStep.calls ?af4 ?ag4 (by rfl) ?ar4 ?ac4
      case ar4 => go_simp; first | (refine ⟨?_, ?_⟩ <;> with_reducible rfl) | with_reducible rfl
      case ac4 =>
        obtain ⟨x1, h1⟩ := hp ⟨3, .data⟩ (by simp) rfl rfl
        have hv := (hJ.2 3 x1 h1).1 rfl
        rw [← hF 3 x1 h1] at hv
        refine (same_yes ⟨a1, c1, a2, c2, rfl, hJ.1.2.2.1.1, hJ.1.2.2.1.2⟩ hv).mono ?_
        rintro e w' ⟨rfl, hk⟩
        refine ⟨?_, hJ.look SayI.lasts SayT.lasts hk⟩
        with_reducible rfl
    iterate 7 (refine ⟨fun hp => ?_, ?_⟩; · first | (refine RelStep.yields hJ (Or.inr ⟨by rfl, ?_⟩); rfl) | (refine RelStep.yields hJ (Or.inl ⟨by rfl, ?_⟩); intro w; go_simp; (try with_reducible rfl); done) | (refine RelStep.reads hJ (by rfl) ?_; have q0 := hJ.1.2.1.1; have q1 := hJ.1.2.1.2.1; have q2 := hJ.1.2.1.2.2; go_simp; (try with_reducible rfl); done))
    refine ⟨fun hp => ?_, ?_⟩
    · refine RelStep.finds (by rfl) (.slice (some ⟨wx.heap.size, 0, none⟩) 2 2) (wx.alloc (.cells #[.int .i64 0, .int .i64 2] 3)) ?ar12 ?aj12
      case ar12 => go_simp
      case aj12 => exact (hJ.look SayI.lasts SayT.lasts ((Kept.refl _).alloc _)).add 12 _ ⟨fun e => absurd e (by decide), by first | exact (fun _ => ⟨_, _, rfl, Cells.one (l := [.int .i64 0, .int .i64 2]) trivial⟩) | exact (fun e => absurd e (by decide)), by first | exact (fun _ => ⟨_, _, rfl, Cells.one (l := [.int .i64 0, .int .i64 2]) trivial⟩) | exact (fun e => absurd e (by decide)), by first | exact (fun _ => ⟨_, _, rfl, Cells.one (l := [.int .i64 0, .int .i64 2]) trivial⟩) | exact (fun e => absurd e (by decide))⟩
    refine ⟨fun hp => ?_, ?_⟩
    · refine RelStep.calls ?af13 ?ag13 (by rfl) ?ar13 ?ac13
      case ar13 => go_simp; first | (refine ⟨?_, ?_⟩ <;> with_reducible rfl) | with_reducible rfl
      case ac13 =>
        obtain ⟨x1, h1⟩ := hp ⟨12, .data⟩ (by simp) rfl rfl
        have hv := (hJ.2 12 x1 h1).2.1 rfl
        rw [← hF 12 x1 h1] at hv
        refine (ints_yes (l := [0, 2]) ⟨ay, cy, rfl, hJ.1.2.2.2⟩ hv (by decide)).mono ?_
        rintro e w' ⟨rfl, hk⟩
        refine ⟨?_, hJ.look SayI.lasts SayT.lasts hk⟩
        with_reducible rfl
    iterate 3 (refine ⟨fun hp => ?_, ?_⟩; · first | (refine RelStep.yields hJ (Or.inr ⟨by rfl, ?_⟩); rfl) | (refine RelStep.yields hJ (Or.inl ⟨by rfl, ?_⟩); intro w; go_simp; (try with_reducible rfl); done) | (refine RelStep.reads hJ (by rfl) ?_; have q0 := hJ.1.2.1.1; have q1 := hJ.1.2.1.2.1; have q2 := hJ.1.2.1.2.2; go_simp; (try with_reducible rfl); done))
    refine ⟨fun hp => ?_, ?_⟩
    · refine RelStep.callsF ?af17 ?ag17 (by rfl) ?ar17 ?ac17
      case ar17 => go_simp; first | (refine ⟨?_, ?_⟩ <;> with_reducible rfl) | with_reducible rfl
      case ac17 =>
        intro _
        refine (against_in hJ.1.1 two_facts.1 [1] two_facts.2.2.2.1).mono ?_
        rintro e w' ⟨ao', cap', rfl, hc, hk⟩
        exact ⟨_, rfl, (hJ.look SayI.lasts SayT.lasts hk).add 17 _ ⟨fun e => absurd e (by decide), fun e => absurd e (by decide), fun _ => ⟨ao', cap', rfl, hc.mono' (fun _ _ _ => trivial)⟩, fun e => absurd e (by decide)⟩⟩
    refine ⟨fun hp => ?_, ?_⟩
    · refine RelStep.finds (by rfl) (.slice (some ⟨wx.heap.size, 0, none⟩) 1 1) (wx.alloc (.cells #[.int .i64 1] 3)) ?ar18 ?aj18
      case ar18 => go_simp
      case aj18 => exact (hJ.look SayI.lasts SayT.lasts ((Kept.refl _).alloc _)).add 18 _ ⟨fun e => absurd e (by decide), by first | exact (fun _ => ⟨_, _, rfl, Cells.one (l := [.int .i64 1]) trivial⟩) | exact (fun e => absurd e (by decide)), by first | exact (fun _ => ⟨_, _, rfl, Cells.one (l := [.int .i64 1]) trivial⟩) | exact (fun e => absurd e (by decide)), by first | exact (fun _ => ⟨_, _, rfl, Cells.one (l := [.int .i64 1]) trivial⟩) | exact (fun e => absurd e (by decide))⟩
    refine ⟨fun hp => ?_, ?_⟩
    · refine RelStep.calls ?af19 ?ag19 (by rfl) ?ar19 ?ac19
      case ar19 => go_simp; first | (refine ⟨?_, ?_⟩ <;> with_reducible rfl) | with_reducible rfl
      case ac19 =>
        obtain ⟨x1, h1⟩ := hp ⟨17, .data⟩ (by simp) rfl rfl
        have hv := (hJ.2 17 x1 h1).2.2.1 rfl
        rw [← hF 17 x1 h1] at hv
        obtain ⟨x2, h2⟩ := hp ⟨18, .data⟩ (by simp) rfl rfl
        have hu := (hJ.2 18 x2 h2).2.2.2 rfl
        rw [← hF 18 x2 h2] at hu
        refine (ints_yes (l := [1]) hv hu (by decide)).mono ?_
        rintro e w' ⟨rfl, hk⟩
        refine ⟨?_, hJ.look SayI.lasts SayT.lasts hk⟩
        with_reducible rfl
    iterate 3 (refine ⟨fun hp => ?_, ?_⟩; · first | (refine RelStep.yields hJ (Or.inr ⟨by rfl, ?_⟩); rfl) | (refine RelStep.yields hJ (Or.inl ⟨by rfl, ?_⟩); intro w; go_simp; (try with_reducible rfl); done) | (refine RelStep.reads hJ (by rfl) ?_; have q0 := hJ.1.2.1.1; have q1 := hJ.1.2.1.2.1; have q2 := hJ.1.2.1.2.2; go_simp; (try with_reducible rfl); done))
    refine ⟨fun hp => ?_, ?_⟩
    · refine RelStep.calls ?af23 ?ag23 (by rfl) ?ar23 ?ac23
      case ar23 => go_simp; first | (refine ⟨?_, ?_⟩ <;> with_reducible rfl) | with_reducible rfl
      case ac23 =>
        refine (most_in hJ.1.1 2 two_facts.2.2.2.2).mono ?_
        rintro e w' ⟨rfl, hk⟩
        refine ⟨?_, hJ.look SayI.lasts SayT.lasts hk⟩
        with_reducible rfl
    iterate 3 (refine ⟨fun hp => ?_, ?_⟩; · first | (refine RelStep.yields hJ (Or.inr ⟨by rfl, ?_⟩); rfl) | (refine RelStep.yields hJ (Or.inl ⟨by rfl, ?_⟩); intro w; go_simp; (try with_reducible rfl); done) | (refine RelStep.reads hJ (by rfl) ?_; have q0 := hJ.1.2.1.1; have q1 := hJ.1.2.1.2.1; have q2 := hJ.1.2.1.2.2; go_simp; (try with_reducible rfl); done))
    exact trivial

  case ahQ =>
    intro F wx hJ
    have KI := Lib.hid hJ.1.1.2.1
    clear hJ
    go_wp2_with fail
    go_ret
    exact ⟨rfl, KI.out⟩
def NameT (i : Nat) (w : World) (v : Value) : Prop := SayT 14 (saidV tA) 8 [5] 20 [1] 21 [1] i w v ∧ (i = 32 → ∃ a c, v = .slice a 3 c)
theorem NameT.lasts : ∀ i v, Lasts (fun w => NameT i w v) := fun i v w w' k h => ⟨SayT.lasts i v w w' k h.1, h.2⟩
def l9 : List Int := [0, 1, 2, 3, 4, 5, 6, 7, 8]
theorem row9_new (w : World) : RowT l9 (w.alloc (.cells #[.int .i64 0, .int .i64 1, .int .i64 2, .int .i64 3, .int .i64 4, .int .i64 5, .int .i64 6, .int .i64 7, .int .i64 8] 3)) (.slice (some ⟨w.heap.size, 0, none⟩) 9 9) := ⟨_, 9, rfl, Cells.one (l := l9.map (.int .i64)) trivial⟩
theorem row9_old {w w' : World} {ay : Option Addr} {cy : Nat} {P : Nat → Prop} (h : Cells w ay (l9.map (.int .i64)) P) (k : Kept (fun _ => False) w w') : RowT l9 w' (.slice ay 9 cy) := ⟨ay, cy, rfl, (h.mono' (Q := fun _ => True) (fun _ _ _ => trivial)).kept' k (fun _ _ _ => id)⟩
theorem nine_by : (nineB 9).by_ = l9 := nine_facts.2.2.1
end Go.Proofs.Ytffjighohloifaa
