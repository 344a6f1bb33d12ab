/- Package verdict, walked: sets' bytes, a verdict's key. -/
import Derived.Test.YtffjighohloifaaKey2
import Derived.Test.YtffjighohloifaaRegRel
namespace Go.Proofs.Ytffjighohloifaa
open Go.RowKit

theorem setB_pos (s : SetV) : 1 ≤ (setB s).length := by
  simp only [setB, List.length_append, twoB_len]; omega
theorem setsB_len (l : List SetV) : (setsB l).length = 1 + (l.map setB).flatten.length := by simp [setsB]; omega
set_option maxRecDepth 100000 in
set_option maxHeartbeats 1000000 in
theorem putSets_any (ao : Option Addr) (l : List SetV) (cap : Nat) (w : World) (h : SetsAt w ao l (fun _ => True)) (hok : ∀ s ∈ l, s.ok) (hl : ((setsB l).length : Int) ≤ 1000000) :
    Calls Try.prog 65 #[.slice ao l.length cap, .int .i64 1, .func (.func 66) #[] #[]] w fun e w' => e = .returned (strB (setsB l)) ∧ Kept (fun _ => False) w w' := by
  have H := Lib.hid h
  have HOK := Lib.hid hok
  have hll : (l.length : Int) ≤ 1000000 := by
    have := flatten_len_ge setB l (fun s _ => setB_pos s)
    have := setsB_len l
    omega
  clear h hok
  go_enter Try.func65, Try.ntmps65
  go_wp2_with fail
  refine (two_any l.length w).mono ?_
  rintro e w1 ⟨rfl, hk⟩
  have K := Lib.hid hk
  have hsz : (twoB l.length).length = 2 := rfl
  have hx : (⟨(twoB l.length).toArray⟩ : ByteArray).extract 1 2 = ⟨[UInt8.ofNat l.length].toArray⟩ := rfl
  clear hk
  go_wp2_with fail
  go_loopw [7, 9, 18] (fun v _ c wr => ∃ k : Nat, k ≤ l.length ∧ c = .int .i64 k ∧ v = strB (UInt8.ofNat l.length :: ((l.take k).map setB).flatten) ∧ Kept (fun _ => False) w wr) (fun _ _ c _ => l.length - (intOf c).toNat)
  case atStart => exact ⟨0, by omega, rfl, rfl, K.out⟩
  case round =>
    obtain ⟨k, hk, rfl, rfl, hkr⟩ := hrel
    have KR := Lib.hid hkr
    have hb := flatten_take_le setB l k
    have hlen : (((UInt8.ofNat l.length :: ((l.take k).map setB).flatten).length : Nat) : Int) ≤ 1000000 := by
      rw [setsB_len] at hl
      rw [List.length_cons]
      omega
    have HF := Lib.hid (fun hlt : k < l.length => flatten_take_succ setB l hlt)
    obtain ⟨F, hF⟩ : ∃ F, UInt8.ofNat l.length :: ((l.take k).map setB).flatten = F := ⟨_, rfl⟩
    rw [hF] at hlen ⊢
    have HFE := Lib.hid hF
    clear hkr hb hF
    by_cases hlt : k < l.length
    · obtain ⟨g, o, ad, cd, rfl, -, c0, c1, c2, c3, c4, hst⟩ := (H.out.look KR.out).at hlt
      have i0 : (0 : Int) ≤ (k : Int) := Int.natCast_nonneg _
      have i1 : (k : Int) < (l.length : Int) := by omega
      have hok1 := HOK.out l[k] (List.getElem_mem hlt)
      obtain ⟨x, hx⟩ : ∃ x, l[k] = x := ⟨_, rfl⟩
      have HF2 := Lib.hid (HF.out hlt)
      rw [hx] at c0 c1 c2 c3 c4 hst hok1 HF2
      have hsl := hok1.len
      have HS := Lib.hid hst
      have HOKx := Lib.hid hok1
      clear hx HF hst hok1
      go_wp2_with fail
      refine (putSet_any x ad cd _ HOKx.out ?_).mono ?_
      · exact HS.out.look ((Kept.refl _).alloc _)
      rintro e w2 ⟨rfl, hk2⟩
      have K2 := Lib.hid ((KR.out.alloc _).trans hk2)
      clear hk2
      go_wp2_with fail
      go_roundw
      case rel => exact ⟨k + 1, by omega, by go_num, by rw [HF2.out, ← List.cons_append, HFE.out, add_bytes], K2.out⟩
      case measure => simp [intOf]; omega
    · obtain rfl : k = l.length := by omega
      go_wp2_with fail
      go_ret
      have := HFE.out
      rw [List.take_length] at this
      rw [← this]
      exact ⟨rfl, KR.out⟩
/-- A verdict's value in memory. -/
def VerdAt (w : World) (v : Value) (V : Verd) (P : Nat → Prop) : Prop := ∃ a1 c1 a2 c2, v = .agg #[.int .u8 V.code, .slice a1 V.sets.length c1, .slice a2 V.soa.length c2] ∧ SetsAt w a1 V.sets P ∧ SetsAt w a2 V.soa P
theorem VerdAt.kept {w w' : World} {v : Value} {V : Verd} {P M : Nat → Prop} (h : VerdAt w v V P) (k : Kept M w w') (hd : ∀ b, b < w.heap.size → P b → ¬ M b) : VerdAt w' v V P := by
  obtain ⟨a1, c1, a2, c2, e, h1, h2⟩ := h
  exact ⟨a1, c1, a2, c2, e, h1.kept k hd, h2.kept k hd⟩
theorem VerdAt.look {w w' : World} {v : Value} {V : Verd} {P : Nat → Prop} (h : VerdAt w v V P) (k : Kept (fun _ => False) w w') : VerdAt w' v V P := h.kept k (fun _ _ _ => id)
theorem VerdAt.mono {w : World} {v : Value} {V : Verd} {P Q : Nat → Prop} (h : VerdAt w v V P) (hd : ∀ b, b < w.heap.size → P b → Q b) : VerdAt w v V Q := by
  obtain ⟨a1, c1, a2, c2, e, h1, h2⟩ := h
  exact ⟨a1, c1, a2, c2, e, h1.mono hd, h2.mono hd⟩
structure Verd.ok (v : Verd) : Prop where
  code : 0 ≤ v.code ∧ v.code ≤ 255
  sets : ∀ s ∈ v.sets, s.ok
  soa : ∀ s ∈ v.soa, s.ok
  len : ((keyB v).length : Int) ≤ 1000000
theorem keep3 {w w' : World} {a b c : Addr} {x y z : Value} (k : Kept (fun _ => False) w w') (h : w.cell? a = some x ∧ w.cell? b = some y ∧ w.cell? c = some z) : w'.cell? a = some x ∧ w'.cell? b = some y ∧ w'.cell? c = some z :=
  ⟨k.cell h.1 id, k.cell h.2.1 id, k.cell h.2.2 id⟩
theorem keyB_len (v : Verd) : (keyB v).length = 1 + (setsB v.sets).length + (setsB v.soa).length := by simp [keyB]; omega
theorem conv1_at (B : Nat) (a : Int) (w : World) (h : w.cell? ⟨B, 0, none⟩ = some (.int .u8 a)) : (convert 129 9 (.slice (some ⟨B, 0, none⟩) 1 1)).run Try.prog w = .ok (strB [UInt8.ofNat a.toNat]) w :=
  run_convert_bytes_arg (P := Try.prog) _ 129 5 Try.underlying129 Try.underlying5 B 0 1 1 [a] rfl (fun i hi => by
    obtain rfl : i = 0 := by omega
    exact h) 9 Try.underlying9
/-- In the region: all is kept; the one byte lies where it was found. -/
def KeyJ (w0 : World) (a : Int) (g : Nat → Option Value) (wx : World) : Prop := Kept (fun _ => False) w0 wx ∧ ∀ x, g 2 = some x → ∃ B, x = .slice (some ⟨B, 0, none⟩) 1 1 ∧ wx.cell? ⟨B, 0, none⟩ = some (.int .u8 a)
theorem KeyJ.look {w0 wx w' : World} {a : Int} {g : Nat → Option Value} (h : KeyJ w0 a g wx) (k : Kept (fun _ => False) wx w') : KeyJ w0 a g w' :=
  ⟨h.1.trans k, fun x hx => by obtain ⟨B, e, c⟩ := h.2 x hx; exact ⟨B, e, k.cell c id⟩⟩
set_option maxRecDepth 100000 in
set_option maxHeartbeats 2000000 in
theorem key_any (v : Value) (V : Verd) (w : World) (hok : V.ok) (hv : VerdAt w v V (fun _ => True)) : Calls Try.prog 41 #[v] w fun e w' => e = .returned (strB (keyB V)) ∧ Kept (fun _ => False) w w' := by
  obtain ⟨a1, c1, a2, c2, rfl, h1, h2⟩ := hv
  obtain ⟨⟨k0, k1⟩, hs1, hs2, hlen⟩ := hok
  rw [keyB_len] at hlen
  have H1 := Lib.hid h1
  have H2 := Lib.hid h2
  have HS1 := Lib.hid hs1
  have HS2 := Lib.hid hs2
  have hl1 : ((setsB V.sets).length : Int) ≤ 1000000 := by omega
  have hl2 : ((setsB V.soa).length : Int) ≤ 1000000 := by omega
  have h6 : ¬ (9223372036854775807 < 1 + (setsB V.sets).length) := by omega
  have h7 : ¬ (9223372036854775807 < 1 + (setsB V.sets).length + (setsB V.soa).length) := by omega
  have K0 := Lib.hid ((Kept.refl (M := fun _ => False) w).alloc (.cells #[.int .u8 V.code, .slice a1 V.sets.length c1, .slice a2 V.soa.length c2] 29))
  have hsb := new_blk w (.cells #[.int .u8 V.code, .slice a1 V.sets.length c1, .slice a2 V.soa.length c2] 29)
  obtain ⟨w0, hw0⟩ : ∃ w0, w.alloc (.cells #[.int .u8 V.code, .slice a1 V.sets.length c1, .slice a2 V.soa.length c2] 29) = w0 := ⟨_, rfl⟩
  rw [hw0] at hsb K0
  have c0 := cell_blk hsb 0
  have c1' := cell_blk hsb 1
  have c2' := cell_blk hsb 2
  simp at c0 c1' c2'
  have HW0 := Lib.hid hw0
  have HB := Lib.hid (show strB (keyB V) = strB ([UInt8.ofNat V.code.toNat] ++ setsB V.sets ++ setsB V.soa) from rfl)
  obtain ⟨X, hX⟩ : ∃ X, setsB V.sets = X := ⟨_, rfl⟩
  obtain ⟨Y, hY⟩ : ∃ Y, setsB V.soa = Y := ⟨_, rfl⟩
  rw [hX] at hl1 h6 h7 HB
  rw [hY] at hl2 h7 HB
  have HX := Lib.hid hX
  have HY := Lib.hid hY
  clear h1 h2 hs1 hs2 hw0 hsb hlen hX hY
  go_enter Try.func41, Try.ntmps41
  go_wp2_with fail
  rw [HW0.out]
  refine wp_region_rel ((some ?av0) :: (some ?av1) :: (none) :: (some ?av3) :: (some ?av4) :: (some ?av5) :: (some ?av6) :: (some ?av7) :: (some ?av8) :: (some ?av9) :: (some ?av10) :: (some ?av11) :: (some ?av12) :: []) (KeyJ w0 V.code) (fun j => false) (by kernel_rfl) (by kernel_rfl) [some 3, some 4, some 5, some 6, some 7, some 8, some 9, some 10, some 11, some 12, some 13, some 14, some 2] rfl rfl ?aA ?aAp ?ahA ?ahAp ?ah0 ?aH ?ahQ
  case ahA => intro F; simp only [valsFrom, Option.getD_some, Option.getD_none, Nat.zero_add, Nat.reduceAdd, laidAll, Act.put, List.setIfInBounds_toArray, List.set_cons_zero, List.set_cons_succ]; try rfl
  case ahAp => intro F; change laidAll _ [some 3, some 4, some 5, some 6, some 7, some 8, some 9, some 10, some 11, some 12, some 13, some 14, some 2] _ = _; simp only [valsFrom, Option.getD_some, Option.getD_none, Nat.zero_add, Nat.reduceAdd, laidAll, Act.put, List.setIfInBounds_toArray, List.set_cons_zero, List.set_cons_succ]; try rfl
  case ah0 => exact ⟨(Kept.refl _).drew, fun x hx => by cases hx⟩
  case aH =>
    intro F g wx hJ hF
    iterate 2 (refine ⟨fun hp => ?_, ?_⟩; · first | (refine RelStep.yields hJ (Or.inr ⟨by rfl, ?_⟩); rfl) | (refine RelStep.yields hJ (Or.inl ⟨by rfl, ?_⟩); intro w; go_simp; (try with_reducible rfl); done) | (refine RelStep.reads hJ (by rfl) ?_; have q0 := hJ.1.cell c0 id; have q1 := hJ.1.cell c1' id; have q2 := hJ.1.cell c2' id; go_simp; (try with_reducible rfl); done))
    refine ⟨fun hp => ?_, ?_⟩
    · refine RelStep.finds (by rfl) (.slice (some ⟨wx.heap.size, 0, none⟩) 1 1) (wx.alloc (.cells #[.int .u8 V.code] 5)) ?ar2 ?aj2
      case ar2 => go_simp
      case aj2 =>
        refine ⟨hJ.1.alloc _, ?_⟩
        intro x hx
        rw [updG_same] at hx
        simp only [Option.some.injEq] at hx
        subst hx
        exact ⟨_, rfl, by rw [cell_blk (new_blk _ _)]; rfl⟩
    refine ⟨fun hp => ?_, ?_⟩
    · refine RelStep.reads hJ (by rfl) ?_
      obtain ⟨x1, h1⟩ := hp ⟨2, .data⟩ (by simp) rfl rfl
      obtain ⟨B, e, c⟩ := hJ.2 x1 h1
      have e2 : F 2 = .slice (some ⟨B, 0, none⟩) 1 1 := (hF 2 x1 h1).trans e
      have hcv := conv1_at B V.code wx c
      go_simp
      with_reducible rfl
    iterate 2 (refine ⟨fun hp => ?_, ?_⟩; · first | (refine RelStep.yields hJ (Or.inr ⟨by rfl, ?_⟩); rfl) | (refine RelStep.yields hJ (Or.inl ⟨by rfl, ?_⟩); intro w; go_simp; (try with_reducible rfl); done) | (refine RelStep.reads hJ (by rfl) ?_; have q0 := hJ.1.cell c0 id; have q1 := hJ.1.cell c1' id; have q2 := hJ.1.cell c2' id; go_simp; (try with_reducible rfl); done))
    refine ⟨fun hp => ?_, ?_⟩
    · refine RelStep.calls ?af6 ?ag6 (by rfl) ?ar6 ?ac6
      case ar6 => go_simp; first | (refine ⟨?_, ?_⟩ <;> with_reducible rfl) | with_reducible rfl
      case ac6 =>
        refine (putSets_any a1 V.sets c1 _ ((H1.out.look K0.out).look hJ.1) HS1.out (by rw [HX.out]; exact hl1)).mono ?_
        rintro e w' ⟨rfl, hk⟩
        rw [HX.out]
        refine ⟨?_, hJ.look hk⟩
        with_reducible rfl
    iterate 3 (refine ⟨fun hp => ?_, ?_⟩; · first | (refine RelStep.yields hJ (Or.inr ⟨by rfl, ?_⟩); rfl) | (refine RelStep.yields hJ (Or.inl ⟨by rfl, ?_⟩); intro w; go_simp; (try with_reducible rfl); done) | (refine RelStep.reads hJ (by rfl) ?_; have q0 := hJ.1.cell c0 id; have q1 := hJ.1.cell c1' id; have q2 := hJ.1.cell c2' id; go_simp; (try with_reducible rfl); done))
    refine ⟨fun hp => ?_, ?_⟩
    · refine RelStep.calls ?af10 ?ag10 (by rfl) ?ar10 ?ac10
      case ar10 => go_simp; first | (refine ⟨?_, ?_⟩ <;> with_reducible rfl) | with_reducible rfl
      case ac10 =>
        refine (putSets_any a2 V.soa c2 _ ((H2.out.look K0.out).look hJ.1) HS2.out (by rw [HY.out]; exact hl2)).mono ?_
        rintro e w' ⟨rfl, hk⟩
        rw [HY.out]
        refine ⟨?_, hJ.look hk⟩
        with_reducible rfl
    iterate 2 (refine ⟨fun hp => ?_, ?_⟩; · first | (refine RelStep.yields hJ (Or.inr ⟨by rfl, ?_⟩); rfl) | (refine RelStep.yields hJ (Or.inl ⟨by rfl, ?_⟩); intro w; go_simp; (try with_reducible rfl); done) | (refine RelStep.reads hJ (by rfl) ?_; have q0 := hJ.1.cell c0 id; have q1 := hJ.1.cell c1' id; have q2 := hJ.1.cell c2' id; go_simp; (try with_reducible rfl); done))
    exact trivial
  case ahQ =>
    intro F wx hJ
    have KI := Lib.hid hJ.1
    clear hJ
    go_wp2_with fail
    go_ret
    refine ⟨?_, K0.out.trans KI.out⟩
    rw [HB.out]
    show Ending.returned (Value.string _) = Ending.returned (Value.string ⟨([UInt8.ofNat V.code.toNat] ++ X ++ Y).toArray⟩)
    rw [← add_bytes, ← add_bytes]
end Go.Proofs.Ytffjighohloifaa
