/- Package hustingsref29, walked: Draw, Copy. -/
import Derived.Test.YthgioaaenfdcdaaRef29b
import Derived.Deep.RegionLaw
namespace Go.Proofs.Ythgioaaenfdcdaa
open Go.RowKit

theorem find_map {α β : Type} (f : α → β) (q : β → Bool) : ∀ l : List α, (l.map f).find? q = (l.find? (fun x => q (f x))).map f := by
  intro l
  induction l with
  | nil => rfl
  | cons a r ih =>
    simp only [List.map_cons, List.find?_cons]
    split <;> simp_all
theorem look_find (m : Outs) (k : Int) : look m k = (m.find? (fun p => decide (p.1 = k))).map (·.2) := by
  induction m with
  | nil => rfl
  | cons p r ih =>
    simp only [look, List.find?_cons]
    by_cases h : p.1 = k
    · simp [h]
    · simp [h, ih]
/-- The reference finds what the table says. -/
theorem findR_look {D : List DRec} {T : List Outs} (h : DRel D T) (u id : Int) : findR D u id = look (atT T u) id := by
  by_cases hu : 0 ≤ u ∧ u < T.length
  · rw [drel_at h hu, look_find, find_map, Option.map_map]
    unfold findR
    rw [List.find?_filter]
    congr 1
    refine congrArg (fun q => List.find? q D) (funext fun r => ?_)
    simp [Bool.decide_and]
  · rw [atT_no (by omega), findR_none]
    · rfl
    · intro r hr e _
      exact hu (e ▸ h.1 r hr)
theorem lenR_at {D : List DRec} {T : List Outs} (h : DRel D T) (u : Int) : lenR D u = (atT T u).length := by
  by_cases hu : 0 ≤ u ∧ u < T.length
  · rw [drel_at h hu, List.length_map, ← List.countP_eq_length_filter]; rfl
  · rw [atT_no (by omega)]
    unfold lenR
    rw [List.countP_eq_zero.2]
    · rfl
    · intro r hr
      have := h.1 r hr
      simp; omega
theorem rdraw29_bad (b n : Nat) (ao : Option Addr) (D : List DRec) (u slot : Int) (p : Value) (hb : ¬ ((0 ≤ u ∧ u < n) ∧ 0 ≤ slot ∧ slot < 32)) (w : World) (h : RTbl w b ao n D) :
    Calls Try.prog 23 #[.pointer (some ⟨b, 0, none⟩), .int .i64 u, .int .i64 slot, p] w fun e w' => e = .returned (.tuple #[.int .u16 0, .int .i64 1]) ∧ w = w' := by
  obtain ⟨cap, hb0, -⟩ := h
  have c0 := cell_blk hb0 0
  simp at c0
  clear hb0
  have hways : decide (u < 0) = true ∨ (decide (u < 0) = false ∧ decide ((n : Int) ≤ u) = true) ∨ (decide (u < 0) = false ∧ decide ((n : Int) ≤ u) = false ∧ decide (slot < 0) = true) ∨ (decide (u < 0) = false ∧ decide ((n : Int) ≤ u) = false ∧ decide (slot < 0) = false ∧ decide (32 ≤ slot) = true) := by
    simp only [decide_eq_true_eq, decide_eq_false_iff_not]; omega
  clear hb
  rcases hways with g1 | ⟨g1, g2⟩ | ⟨g1, g2, g3⟩ | ⟨g1, g2, g3, g4⟩
  all_goals
    go_enter Try.func23, Try.ntmps23
    go_wp2_with fail
    go_ret2
    exact ⟨rfl, rfl⟩
set_option maxRecDepth 100000 in
set_option maxHeartbeats 2000000 in
theorem rdraw29_ok (b rb n : Nat) (ao : Option Addr) (D : List DRec) (T : List Outs) (s : TapeS) (L : List Nat) (u slot : Int) (hr : DRel D T) (hn : T.length = n) (hok : drawOk T u slot) (hl : D.length ≤ 1000) (hsu : s.used < 9223372036854775807) (hne : ¬ RFoot b ao rb) (hbL : b ∈ L)
    (w : World) (h : RTbl w b ao n D) (ht : RTape w rb s L) :
    Calls Try.prog 23 #[.pointer (some ⟨b, 0, none⟩), .int .i64 u, .int .i64 slot, .pointer (some ⟨rb, 0, none⟩)] w fun e w' => ∃ ao', e = .returned (.tuple #[.int .u16 (idOf (atT T u) (s.draw % 65536)), .int .i64 0]) ∧
      RTbl w' b ao' n (D ++ [⟨u, slot, idOf (atT T u) (s.draw % 65536)⟩]) ∧ RTape w' rb s.next L ∧ (∀ x, (Value.slice ao' 0 0).ownBlock = some x → w.heap.size ≤ x) ∧ Kept (fun x => x = b ∨ x = rb) w w' := by
  obtain ⟨⟨h1, h2⟩, h3, h4⟩ := hok
  rw [hn] at h2
  have g1 : decide (u < 0) = false := by simp; omega
  have g2 : decide ((n : Int) ≤ u) = false := by simp; omega
  have g3 : decide (slot < 0) = false := by simp; omega
  have g4 : decide (32 ≤ slot) = false := by simp; omega
  have hlen := lenR_at hr u
  have hle : (atT T u).length ≤ 1000 := by rw [← hlen]; exact Nat.le_trans (lenR_le D u) hl
  have hmax : (atT T u).length < 65536 := by omega
  obtain ⟨j, j1, j2, j3⟩ := first_free hmax (s.draw % 65536)
  rw [idOf_eq j1 j2 j3]
  have hx0 : U16 (s.draw % 65536) := by unfold U16; omega
  have hok2 := TapeS.ok_draw (s := s) (by obtain ⟨_, _, _, _, _, _, h, _⟩ := ht; exact h)
  have hd0 := hok2.1
  have HFD := Lib.hid (fun id => findR_look hr u id)
  have hwr : IntKind.u16.wrap (s.draw % 65536) = s.draw % 65536 := by rw [IntKind.wrap_u16]; omega
  obtain ⟨x, hx⟩ : ∃ x, s.draw % 65536 = x := ⟨_, rfl⟩
  rw [hx] at hwr hx0 j2 j3 ⊢
  obtain ⟨m, hm⟩ : ∃ m, atT T u = m := ⟨_, rfl⟩
  rw [hm] at hlen hle HFD j2 j3
  have HLEN := Lib.hid hlen
  have g5 : decide ((65536 : Int) ≤ (m.length : Int)) = false := by simp; omega
  have hbl := h.lt (.inl rfl)
  have HR := Lib.hid h
  have HT := Lib.hid ht
  have HX := Lib.hid hx
  have HBL := Lib.hid hbL
  have HNE := Lib.hid hne
  have HSM := Lib.hid (show ∀ i, i ≤ j → (findR D u (roundAt x i)).isSome = decide (i < j) from fun i hi => by
    rw [HFD.out]
    by_cases e : i < j
    · rw [j3 i e]; simp [e]
    · obtain rfl : i = j := by omega
      rw [j2]; simp)
  have HJ := Lib.hid j1
  have hz0 : (0 : Int) ≤ x := hx0.1
  have c0 : w.cell? ⟨b, 0, none⟩ = some (.int .i64 n) := by
    obtain ⟨cap, hb0, -⟩ := h
    have := cell_blk hb0 0
    simpa using this
  clear hlen hm hx h ht hr hok2 HFD j2 j3 hbL hne hn hwr j1 hmax
  go_enter Try.func23, Try.ntmps23
  go_wp2_with fail
  refine (rlen29_any b n ao D u hl w HR.out).mono ?_
  rintro e w1 ⟨rfl, rfl⟩
  rw [HLEN.out]
  go_wp2_with fail
  refine (rnext_any rb s L w HT.out hsu).mono ?_
  rintro e w1 ⟨rfl, ht1, hk1⟩
  have HT1 := Lib.hid ht1
  have HK1 := Lib.hid hk1
  have HR1 := Lib.hid (HR.out.kept hk1 (fun y hy e => HNE.out (e ▸ hy)))
  have hz1 := hk1.size
  clear ht1 hk1 c0
  go_wp2_with fail
  rw [HX.out]
  go_loop [10, 11, 12, 13] (fun id c _ _ => ∃ i : Nat, i ≤ j ∧ id = .int .u16 (roundAt x i) ∧ c = .int .i64 i) (fun _ c _ _ => j - (intOf c).toNat)
  case atStart => exact ⟨0, Nat.zero_le _, by rw [roundAt_zero hx0], rfl⟩
  case round =>
    obtain ⟨i, hi, rfl, rfl⟩ := hrel
    have hw : IntKind.u16.wrap (roundAt x i + 1) = roundAt x (i + 1) := by rw [IntKind.wrap_u16, roundAt_succ]
    have HSI := Lib.hid (HSM.out i hi)
    have e6 : decide ((i : Int) < 65536) = true := by have := HJ.out; simp; omega
    have e7 : (i : Int) ≤ 65535 := by have := HJ.out; omega
    have hzu := roundAt_u16 x i
    obtain ⟨y, hy⟩ : ∃ y, roundAt x (i + 1) = y := ⟨_, rfl⟩
    obtain ⟨z, hz⟩ : ∃ z, roundAt x i = z := ⟨_, rfl⟩
    rw [hy, hz] at hw
    have HY := Lib.hid hy
    rw [hz] at HSI hzu ⊢
    have hza : 0 ≤ z := hzu.1
    have hzb : z ≤ 65535 := hzu.2
    have HFR := Lib.hid (rfind29_any b n ao D u z hl w1 HR1.out)
    obtain ⟨q, hq⟩ : ∃ q, findR D u z = q := ⟨_, rfl⟩
    rw [hq] at HSI HFR
    have HZ := Lib.hid hz
    clear hy hz hq
    by_cases hlt : i < j
    · have e1 : q.isSome = true := by rw [HSI.out]; simpa using hlt
      have E1 := Lib.hid e1
      clear e1
      go_wp2_with fail
      refine HFR.out.mono ?_
      rintro e w2 ⟨rfl, rfl⟩
      rw [E1.out]
      go_wp2_with fail
      go_round
      case rel => exact ⟨i + 1, by omega, by rw [HY.out], by go_num⟩
      case measure => simp [intOf]; omega
    · have e1 : q.isSome = false := by rw [HSI.out]; simpa using hlt
      have E1 := Lib.hid e1
      obtain rfl : i = j := by omega
      have hz32 := hlt
      clear e1 hlt hi hw HSM
      go_wp2_with fail
      refine HFR.out.mono ?_
      rintro e w2 ⟨rfl, rfl⟩
      rw [E1.out]
      obtain ⟨cap, hb0, hrow⟩ := HR1.out
      have c1 := cell_blk hb0 1
      simp at c1
      obtain ⟨ao2, cap2, w2, hrun, hown2, hk2⟩ := cloneS_run (t := 78) (ty := 78) Try.underlying78 info_out rfl (by decide) (by decide) hrow (fun _ _ => rfl) (by intro r _; simp [rOut, Value.oneCell']) (by omega)
      have HRUN := Lib.hid hrun
      have HO2 := Lib.hid hown2
      have HK2 := Lib.hid hk2
      have HB2 := Lib.hid (hk2.heap hb0 id)
      have hz2 := hk2.size
      have c1' := hk2.cell c1 id
      have hnb : b ≠ w1.heap.size := by omega
      have c1a : (w1.alloc (.cells #[] 82)).cell? ⟨b, 1, none⟩ = some (.slice ao D.length cap) := (World.cell?_alloc_old _ _ _ hnb).trans c1
      clear hrun hown2 hk2 hb0 hrow c1 c1'
      go_wp2_with (first
        | (at_builtin; refine wpList_append_run rfl _ _ _ _ rfl _ _ rfl rfl HRUN.out ?_)
        | (at_builtin; refine wpList_pushS (E := 82) (sz := 3) (f := rOut) (base := w1.heap.size) (v := .slice ao2 D.length cap2) (l := D) (w := w2) rfl _ _ 78 rfl Try.underlying78 info_out rfl (by decide) (by decide) ⟨u, slot, z⟩ rfl HO2.out _ rfl _ rfl rfl (by omega) hz2 rfl (by simp [rOut, Value.oneCell']) ?_; rintro v5 w5 ho5 ⟨hk5, hk5b, -⟩ ⟨ao5, cp5, hv5⟩; subst hv5; have HB5 := Lib.hid (hk5b.heap HB2.out (by omega)); have HO5 := Lib.hid ho5; have c5 := cell_blk HB5.out 1; have f5 := free_blk HB5.out 1; simp at c5; have K5 := Lib.hid (hk5 _ _ HK2.out (Nat.le_refl _)); clear ho5 hk5 hk5b))
      go_ret2
      rw [HZ.out]
      have K : Kept (· = b) w5 (w5.setCell ⟨b, 1, none⟩ (.slice ao5 (D.length + 1) cp5)) := (Kept.refl _).own _ _
      have ho5 := HO5.out
      rw [List.length_append, List.length_singleton] at ho5
      refine ⟨ao5, rfl, ⟨cp5, ?_, ?_⟩, (HT1.out.kept K5.out id (fun _ _ h => h.elim)).kept K (fun e => HNE.out (.inl e)) (fun y _ e => by rw [e]; exact HBL.out), fun y hy => ?_, ?_⟩
      · have := set_blk HB5.out 1 (.slice ao5 (D.length + 1) cp5)
        rw [List.length_append, List.length_singleton]
        simpa using this
      · rw [List.length_append, List.length_singleton]
        refine (ho5.keepAt K (fun g hg e => ?_)).widen (Nat.zero_le _)
        have := (World.ownsRow.lt ho5 g hg).1
        omega
      · rw [← own_slice ao5 (D.length + 1) cp5] at hy
        have := (World.ownsRow.lt ho5 y hy).1
        omega
      · exact (HK1.out.mono (fun _ _ e => Or.inr e)).trans (K5.out.any.trans (K.mono (fun _ _ e => Or.inl e)))
theorem rcopy29_any (b n : Nat) (ao : Option Addr) (D : List DRec) (hl : D.length ≤ 1000) (w : World) (h : RTbl w b ao n D) :
    Calls Try.prog 26 #[.pointer (some ⟨b, 0, none⟩)] w fun e w' => ∃ c ao', e = .returned (.pointer (some ⟨c, 0, none⟩)) ∧ RTbl w' c ao' n D ∧ (∀ x, RFoot c ao' x → w.heap.size ≤ x) ∧ Kept (fun _ => False) w w' := by
  obtain ⟨cap, hb0, hrow⟩ := h
  have c0 := cell_blk hb0 0
  have c1 := cell_blk hb0 1
  simp at c0 c1
  have hbl := lt_of_block hb0
  have hnb : b ≠ w.heap.size := by omega
  have hrow' : OwnsS w.drew 0 82 3 rOut (.slice ao D.length cap) D := hrow
  obtain ⟨ao2, cap2, w2, hrun, hown2, hk2⟩ := cloneS_run (t := 78) (ty := 78) Try.underlying78 info_out rfl (by decide) (by decide) hrow' (fun _ _ => rfl) (by intro r _; simp [rOut, Value.oneCell']) (by omega)
  have HRUN := Lib.hid hrun
  have HO2 := Lib.hid hown2
  have HK2 := Lib.hid hk2.of_drew
  have c0' := hk2.of_drew.cell c0 id
  have c1' := hk2.of_drew.cell c1 id
  have c0a : (w.drew.alloc (.cells #[] 82)).cell? ⟨b, 0, none⟩ = some (.int .i64 n) := (World.cell?_alloc_old _ _ _ hnb).trans c0
  have c1a : (w.drew.alloc (.cells #[] 82)).cell? ⟨b, 1, none⟩ = some (.slice ao D.length cap) := (World.cell?_alloc_old _ _ _ hnb).trans c1
  clear hrun hown2 hk2 hrow hrow' hb0
  go_enter Try.func26, Try.ntmps26
  go_wp2_with fail
  go_region_held3 (fun w' => w'.cell? ⟨b, 0, none⟩ = some (.int .i64 n) ∧ w'.cell? ⟨b, 1, none⟩ = some (.slice ao D.length cap)) (first | go_keep | exact ⟨c0a, c1a⟩ | exact ⟨c0', c1'⟩) ((refine stepA_run (by rfl) _ _ _ _ (by rfl) _ _ (by rfl) (by rfl) HRUN.out ?_))
  go_wp2_with fail
  go_ret
  have K := (Kept.refl (M := fun _ => False) w2).alloc (.cells #[.int .i64 n, .slice ao2 D.length cap2] 80)
  refine ⟨_, ao2, rfl, ⟨cap2, new_blk _ _, (HO2.out.look K).widen (Nat.zero_le _)⟩, fun x hx => ?_, HK2.out.trans K⟩
  rcases hx with rfl | hx
  · exact HK2.out.size
  · rw [← own_slice ao2 D.length cap2] at hx
    exact (World.ownsRow.lt HO2.out x hx).1
end Go.Proofs.Ythgioaaenfdcdaa
