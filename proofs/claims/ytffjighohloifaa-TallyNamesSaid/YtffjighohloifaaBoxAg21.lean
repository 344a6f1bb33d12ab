/- Package tally, walked: Against. -/
import Derived.Test.YtffjighohloifaaBoxWon21
namespace Go.Proofs.Ytffjighohloifaa
open Go.RowKit

set_option maxRecDepth 100000 in
theorem sort0_any (ao : Option Addr) (cap : Nat) (w : World) : Calls Try.prog 42 #[.slice ao 0 cap] w fun e w' => e = .returned (.tuple #[]) ∧ w = w' := by
  have hI : ∀ w : World, Calls Try.prog 84 #[.slice ao 0 cap, .int .i64 0, .int .i64 0] w fun e w' => e = .returned (.tuple #[]) ∧ w = w' := by
    intro w
    go_enter Try.func84, Try.ntmps84
    go_wp2_with fail
    refine wp_loop_rounds 1 ?_
    rw [rounds_succ]
    go_wp2_with fail
    go_end0
    exact ⟨rfl, rfl⟩
  have HI := Lib.hid hI
  clear hI
  have hP : ∀ (k : Int) (w : World), Calls Try.prog 67 #[.slice ao 0 cap, .int .i64 0, .int .i64 0, .int .i64 k] w fun e w' => e = .returned (.tuple #[]) ∧ w = w' := by
    intro k w
    go_enter Try.func67, Try.ntmps67
    go_wp2_with fail
    refine wp_loop_rounds 1 ?_
    rw [rounds_succ]
    go_wp2_with fail
    refine (HI.out w).mono ?_
    rintro e w1 ⟨rfl, rfl⟩
    go_wp2_with fail
    exact bodyPost_ret (v := .tuple #[]) (by simp [results, Try.results67, go_sem]) rfl ⟨rfl, rfl⟩
  have HP := Lib.hid hP
  clear hP
  go_enter Try.func42, Try.ntmps42
  go_wp2_with fail
  refine (bitsLen_any 0 (by decide) w).mono ?_
  rintro e w1 ⟨⟨k, rfl⟩, rfl⟩
  go_wp2_with fail
  refine (HP.out k w).mono ?_
  rintro e w1 ⟨rfl, rfl⟩
  go_wp2_with fail
  go_end0
  exact ⟨rfl, rfl⟩
/-- Who voted otherwise. -/
def againstB (B : BoxS) (y : Bal) : Bool := y.voted && !wonB B y
def BoxS.against (B : BoxS) : List Int := sortK keyI ((B.l.filter (againstB B)).map (·.up))
set_option maxRecDepth 100000 in
theorem against_no {w : World} {b : Nat} {ao : Option Addr} {B : BoxS} {L : List Nat} (H : Hid (BoxAt w b ao B L)) (hw : B.won = false) :
    Calls Try.prog 22 #[.pointer (some ⟨b, 0, none⟩)] w fun e w' => e = .returned (.slice none 0 0) ∧ w = w' := by
  obtain ⟨cap, ay, cy, lm, hb, -⟩ := H.out
  have c2 := cell_blk hb 2
  simp at c2
  rw [hw] at c2
  clear hb hw
  go_enter Try.func22, Try.ntmps22
  go_wp2_with fail
  go_ret
  exact ⟨rfl, rfl⟩
set_option maxRecDepth 100000 in
set_option maxHeartbeats 4000000 in
theorem against_yes {w : World} {b : Nat} {ao : Option Addr} {B : BoxS} {L : List Nat} (H : Hid (BoxAt w b ao B L)) (hl : B.l.length ≤ 9) (hw : B.won = true) :
    Calls Try.prog 22 #[.pointer (some ⟨b, 0, none⟩)] w fun e w' => ∃ ao' cap', e = .returned (.slice ao' B.against.length cap') ∧ Cells w' ao' (B.against.map (.int .i64)) (w.heap.size ≤ ·) ∧ Kept (fun _ => False) w w' := by
  obtain ⟨cap, ay, cy, lm, hb, ho, hlm, -⟩ := H.out
  have hln : lm.length = B.l.length := by rw [← hlm]; simp
  have c1 := cell_blk hb 1
  have c2 := cell_blk hb 2
  have c3 := cell_blk hb 3
  simp at c1 c2 c3
  rw [hw] at c2
  obtain ⟨n, hn⟩ : ∃ n, B.l.length = n := ⟨_, rfl⟩
  rw [hn] at c1 ho hln hl
  have HO := Lib.hid ho
  have HLM := Lib.hid hlm
  have HN := Lib.hid hn
  have HW := Lib.hid hw
  have HAG := Lib.hid (show ∀ F, B.l.filter (againstB B) = F → B.against = sortK keyI (F.map (·.up)) from fun F h => by unfold BoxS.against; rw [h])
  clear hb ho hlm hn hw
  go_enter Try.func22, Try.ntmps22
  go_wp2_with fail
  go_loopw [3, 5, 21] (fun v3 _ c wr => ∃ (k : Nat) (ao2 : Option Addr) (cap2 : Nat), k ≤ n ∧ c = .int .i64 k ∧ v3 = .slice ao2 ((B.l.take k).filter (againstB B)).length cap2 ∧ OwnsI wr w.heap.size (.slice ao2 ((B.l.take k).filter (againstB B)).length cap2) (((B.l.take k).filter (againstB B)).map (·.up)) ∧ Kept (fun _ => False) w wr) (fun _ _ c _ => n - (intOf c).toNat)
  case atStart => exact ⟨0, none, 0, by omega, rfl, rfl, ⟨by simp, .inl ⟨rfl, rfl⟩⟩, Kept.refl _⟩
  case round =>
    obtain ⟨k, ao2, cap2, hk, rfl, rfl, hown, hkw⟩ := hrel
    have HOW := Lib.hid hown
    have KW := Lib.hid hkw
    have hfl : ((B.l.take k).filter (againstB B)).length ≤ 9 := by
      have := List.length_filter_le (againstB B) (B.l.take k)
      rw [List.length_take] at this
      omega
    have HFS := Lib.hid (fun h : k < B.l.length => filter_take_succ (againstB B) B.l h)
    obtain ⟨F, hF⟩ : ∃ F, (B.l.take k).filter (againstB B) = F := ⟨_, rfl⟩
    have HFE := Lib.hid hF
    rw [hF] at HOW hfl HFS ⊢
    have hz := hkw.size
    have d1 := hkw.cell c1 id
    have d2 := hkw.cell c2 id
    have d3 := hkw.cell c3 id
    clear hown hkw hF c1 c2 c3
    by_cases hlt : k < n
    · obtain ⟨y, hy⟩ : ∃ y, lm[k]? = some y := ⟨_, List.getElem?_eq_getElem (by omega)⟩
      obtain ⟨g, rfl, -, z0, z1, z2, z3, z4, z5, z6⟩ := bal_cells HO.out hlt y hy
      have z0 := KW.out.cell z0 id
      have z1 := KW.out.cell z1 id
      have z2 := KW.out.cell z2 id
      have z3 := KW.out.cell z3 id
      have z4 := KW.out.cell z4 id
      have z5 := KW.out.cell z5 id
      have z6 := KW.out.cell z6 id
      have i0 : (0 : Int) ≤ (k : Int) := Int.natCast_nonneg _
      have i1 : (k : Int) < (n : Int) := by omega
      have hyb : k < B.l.length ∧ B.l[k]? = some y.b := by
        have h1 := HLM.out
        have h2 : B.l[k]? = some y.b := by rw [← h1, List.getElem?_map, hy]; rfl
        exact ⟨(List.getElem?_eq_some_iff.1 h2).1, h2⟩
      have HFS2 := Lib.hid (show (B.l.take (k + 1)).filter (againstB B) = F ++ if againstB B y.b = true then [y.b] else [] from by
        have := HFS.out hyb.1
        rwa [(List.getElem?_eq_some_iff.1 hyb.2).2] at this)
      obtain ⟨w6, hw6⟩ : ∃ w6, wr.alloc (.cells (xCells y) 94) = w6 := ⟨_, rfl⟩
      have HYB := Lib.hid (show w6.heap[wr.heap.size]? = some (.cells (xCells y) 94 (0, 0)) from by rw [← hw6]; exact new_blk _ _)
      have KA := Lib.hid (show Kept (fun _ => False) wr w6 from by rw [← hw6]; exact (Kept.refl _).alloc _)
      have HW6 := Lib.hid hw6
      have HO6 := Lib.hid (HOW.out.look KA.out)
      have e2 := KA.out.cell d2 id
      have e3 := KA.out.cell d3 id
      have q0 : w6.cell? ⟨wr.heap.size, 0, none⟩ = some (.bool y.b.voted) := by rw [cell_blk HYB.out]; rfl
      have q1 : w6.cell? ⟨wr.heap.size, 1, none⟩ = some (.string y.b.key) := by rw [cell_blk HYB.out]; rfl
      have q2 : w6.cell? ⟨wr.heap.size, 2, none⟩ = some (.int .i64 y.b.up) := by rw [cell_blk HYB.out]; rfl
      have hz6 : wr.heap.size + 1 ≤ w6.heap.size := lt_of_block HYB.out
      have K6 := Lib.hid (KW.out.trans KA.out)
      by_cases hv : y.b.voted = false
      · have hag : ¬ againstB B y.b = true := by unfold againstB; rw [hv]; simp
        have HNA := Lib.hid hag
        rw [hv] at q0
        clear hy hyb hw6 hag hv HFS
        go_upto_region 7 with (fail)
        rw [show wr.alloc (.cells #[.bool y.b.voted, .string y.b.key, .int .i64 y.b.up, .int .u8 y.b.v.code, .slice y.a1 y.b.v.sets.length y.c1, .slice y.a2 y.b.v.soa.length y.c2, .int .u32 y.b.time] 94) = w6 from HW6.out]
        go_quiet (fail)
        go_wp2_with fail
        go_roundw
        case measure => simp [intOf]; omega
        case rel =>
          have h := HFS2.out
          rw [if_neg HNA.out, List.append_nil] at h
          refine ⟨k + 1, ao2, cap2, by omega, by go_num, by rw [h], by rw [h]; exact HO6.out.look ((Kept.refl _).drewN _), K6.out.drewN _⟩
      · have hv' : y.b.voted = true := by simpa using hv
        have heq := fun w => choice_neq true true y.b.key B.wonK w
        have hww : wonB B y.b = decide (true = true ∧ y.b.key = B.wonK) := by unfold wonB; rw [hv', HW.out]
        obtain ⟨r, hr⟩ : ∃ r, decide (true = true ∧ y.b.key = B.wonK) = r := ⟨_, rfl⟩
        rw [hr] at heq hww
        have hag : againstB B y.b = !r := by unfold againstB; rw [hv', hww]; rfl
        rw [hag] at HFS2
        rw [hv'] at q0
        clear hy hyb hw6 hag hv hv' hww hr HFS
        go_upto_region 7 with (fail)
        rw [show wr.alloc (.cells #[.bool y.b.voted, .string y.b.key, .int .i64 y.b.up, .int .u8 y.b.v.code, .slice y.a1 y.b.v.sets.length y.c1, .slice y.a2 y.b.v.soa.length y.c2, .int .u32 y.b.time] 94) = w6 from HW6.out]
        go_quiet (fail)
        obtain ⟨w7, hw7⟩ : ∃ w7, w6.drewN nq = w7 := ⟨_, rfl⟩
        have K67 := Lib.hid (show Kept (fun _ => False) w6 w7 from by rw [← hw7]; exact (Kept.refl _).drewN _)
        rw [hw7]
        have p2 := K67.out.cell q2 id
        have HO7 := Lib.hid (HO6.out.look K67.out)
        have K7 := Lib.hid (K6.out.trans K67.out)
        have hz7 := K67.out.size
        clear hw7
        cases r with
        | true =>
          go_wp2_with fail
          go_roundw
          case measure => simp [intOf]; omega
          case rel =>
            have h := HFS2.out
            simp only [Bool.not_true, Bool.false_eq_true, if_false, List.append_nil] at h
            exact ⟨k + 1, ao2, cap2, by omega, by go_num, by rw [h], by rw [h]; exact HO7.out, K7.out⟩
        | false =>
          go_wp2_with (first | (at_builtin; refine wpList_pushI (w := w7) rfl _ _ rfl w.heap.size (.slice ao2 F.length cap2) (F.map (·.up)) y.b.up rfl HO7.out _ rfl rfl (by rw [List.length_map]; omega) (by omega) ?_; rintro v5 w5 ho5 ⟨hk5, -⟩ ⟨ao5, cp5, hv5⟩; subst hv5))
          have K5 := Lib.hid (hk5 _ _ K7.out (Nat.le_refl _))
          have HO5 := Lib.hid ho5
          clear hk5 ho5
          go_wp2_with fail
          go_roundw
          case measure => simp [intOf]; omega
          case rel =>
            have h := HFS2.out
            simp only [Bool.not_false, if_true] at h
            have ho5 := HO5.out
            have e : (F ++ [y.b]).map (·.up) = F.map (·.up) ++ [y.b.up] := by simp
            have e2 : (F.map (·.up) ++ [y.b.up]).length = (F ++ [y.b]).length := by simp
            rw [e2] at ho5
            refine ⟨k + 1, ao5, cp5, by omega, by go_num, by rw [h, List.length_append]; rfl, by rw [h, e]; exact ho5, K5.out⟩
    · obtain rfl : k = n := by omega
      have hfull : B.l.take k = B.l := List.take_of_length_le (by have := HN.out; omega)
      have hFF : B.l.filter (againstB B) = F := by have := HFE.out; rwa [hfull] at this
      have HRES := Lib.hid (HAG.out F hFF)
      by_cases hm : F = []
      · subst hm
        clear hfull hFF
        go_wp2_with fail
        refine (sort0_any ao2 cap2 wr).mono ?_
        rintro e w2 ⟨rfl, rfl⟩
        go_wp2_with fail
        go_ret
        exact ⟨ao2, cap2, by rw [HRES.out]; rfl, by rw [HRES.out]; exact .inl rfl, KW.out⟩
      · have hm1 : 1 ≤ F.length := List.length_pos_iff.2 hm
        obtain ⟨g7, rfl, hg7, hml, hrow⟩ := IRow.of_own HOW.out hm1
        have HROW := Lib.hid hrow
        have hsl : (sortK keyI (F.map (·.up))).length = F.length := by rw [sortK_len, List.length_map]
        have HSL := Lib.hid hsl
        clear hfull hFF hml hrow hsl
        go_wp2_with fail
        refine (sortI_any g7 F.length (F.map (·.up)) cap2 wr HROW.out (by simp) hfl hm1).mono ?_
        rintro e ws ⟨rfl, hsr, hks⟩
        have HSR := Lib.hid hsr
        have HKS := Lib.hid hks
        clear hsr hks
        go_wp2_with fail
        go_ret
        refine ⟨some ⟨g7, 0, none⟩, cap2, by rw [HRES.out, HSL.out]; rfl, ?_, KW.out.new HKS.out hg7⟩
        rw [HRES.out]
        exact HSR.out.cells hg7
end Go.Proofs.Ytffjighohloifaa
