/- Package hustingsref29, walked: free, Free, FreeAt. -/
import Derived.Test.YthgioaaenfdcdaaRef29
import Derived.Test.YthgioaaenfdcdaaCloneS
namespace Go.Proofs.Ythgioaaenfdcdaa
open Go.RowKit

def keepR (s u : Int) (r : DRec) : Bool := decide (r.s ≠ s) || (decide (0 ≤ u) && decide (r.u ≠ u))
theorem keepR_bne (s u : Int) (r : DRec) : keepR s u r = ((r.s != s) || (decide (0 ≤ u) && (r.u != u))) := by unfold keepR; simp [bne, Bool.beq_eq_decide_eq]
def freeR (s u : Int) (D : List DRec) : List DRec := D.filter (keepR s u)
theorem freeR_le (s u : Int) (D : List DRec) : (freeR s u D).length ≤ D.length := List.length_filter_le _ _
theorem freeR_take (s u : Int) (D : List DRec) {k : Nat} (h : k < D.length) : freeR s u (D.take (k + 1)) = freeR s u (D.take k) ++ if keepR s u D[k] = true then [D[k]] else [] := by
  unfold freeR
  rw [List.take_succ_eq_append_getElem h, List.filter_append]
  congr 1
  simp [List.filter_cons]
set_option maxHeartbeats 2000000 in
theorem rfree29_raw (b n : Nat) (ao : Option Addr) (D : List DRec) (slot u : Int) (hl : D.length ≤ 1000) (w : World) (h : RTbl w b ao n D) :
    Calls Try.prog 36 #[.pointer (some ⟨b, 0, none⟩), .int .i64 slot, .int .i64 u] w fun e w' => ∃ ao', e = .returned (.int .i64 ((D.length : Int) - (freeR slot u D).length)) ∧
      RTbl w' b ao' n (freeR slot u D) ∧ (∀ x, (Value.slice ao' 0 0).ownBlock = some x → w.heap.size ≤ x) ∧ Kept (· = b) w w' := by
  have H := Lib.hid h
  have hbl := h.lt (.inl rfl)
  clear h
  go_enter Try.func36, Try.ntmps36
  go_wp2_with fail
  go_loopw [7, 8] (fun v7 c wr => ∃ (k : Nat) (ao' : Option Addr) (cap' : Nat), k ≤ D.length ∧ c = .int .i64 k ∧ v7 = .slice ao' (freeR slot u (D.take k)).length cap' ∧
      OwnsS wr w.heap.size 82 3 rOut (.slice ao' (freeR slot u (D.take k)).length cap') (freeR slot u (D.take k)) ∧ Kept (fun _ => False) w wr) (fun _ c _ => D.length - (intOf c).toNat)
  case atStart => exact ⟨0, none, 0, by omega, rfl, rfl, OwnsS.nil (by simp), Kept.refl _⟩
  case round =>
    obtain ⟨k, ao', cap', hk, rfl, rfl, hown, hkw⟩ := hrel
    have HO := Lib.hid hown
    have HK := Lib.hid hkw
    have HR := Lib.hid (H.out.look hkw)
    have hz := hkw.size
    have hle := freeR_le slot u (D.take k)
    rw [List.length_take] at hle
    obtain ⟨cap, hb, -⟩ := HR.out
    have c1 := cell_blk hb 1
    simp at c1
    clear hb hown hkw
    by_cases hlt : k < D.length
    · obtain ⟨g, rfl, x0, x1, x2⟩ := HR.out.at hlt
      have i0 : (0 : Int) ≤ (k : Int) := Int.natCast_nonneg _
      have i1 : (k : Int) < (D.length : Int) := by omega
      have HF := Lib.hid (freeR_take slot u D hlt)
      obtain ⟨r, hr⟩ : ∃ r, D[k] = r := ⟨_, rfl⟩
      rw [hr] at x0 x1 x2 HF
      obtain ⟨ru, rs, rid⟩ := r
      simp only at x0 x1 x2
      obtain ⟨F, hF⟩ : ∃ F, freeR slot u (D.take k) = F := ⟨_, rfl⟩
      rw [hF] at HO HF hle ⊢
      clear hr hF
      have hways : (rs != slot) = true ∨ ((rs != slot) = false ∧ decide (0 ≤ u) = true ∧ (ru != u) = true) ∨ ((rs != slot) = false ∧ decide (0 ≤ u) = false) ∨ ((rs != slot) = false ∧ decide (0 ≤ u) = true ∧ (ru != u) = false) := by
        simp only [bne_iff_ne, bne_eq_false_iff_eq, decide_eq_true_eq, decide_eq_false_iff_not]
        omega
      rcases hways with g1 | ⟨g1, g2, g3⟩ | ⟨g1, g2⟩ | ⟨g1, g2, g3⟩
      iterate 2
        · have hkp : keepR slot u ⟨ru, rs, rid⟩ = true := by
            first | (simp [keepR_bne, g1]; done) | (simp [keepR_bne, g1, g2, g3]; done)
          rw [if_pos hkp] at HF
          have HKP := Lib.hid hkp
          clear hkp
          go_wp2_with (first | (at_builtin; refine wpList_pushS (E := 82) (sz := 3) (f := rOut) (base := w.heap.size) (v := .slice ao' F.length cap') (l := F) (w := wr) rfl _ _ 78 rfl Try.underlying78 info_out rfl (by decide) (by decide) ⟨ru, rs, rid⟩ rfl HO.out _ rfl _ rfl rfl (by omega) hz rfl (by simp [rOut, Value.oneCell']) ?_; rintro v5 w5 ho5 ⟨hk5, -, -⟩ ⟨ao5, cp5, hv5⟩; subst hv5))
          have K5 := hk5 _ _ HK.out (Nat.le_refl _)
          go_roundw
          case rel => exact ⟨k + 1, ao5, cp5, by omega, by go_num, by rw [HF.out, List.length_append]; rfl, by rw [HF.out]; exact ho5, K5⟩
          case measure => simp [intOf]; omega
      all_goals
        have hkp : ¬ keepR slot u ⟨ru, rs, rid⟩ = true := by
          first | (simp [keepR_bne, g1, g2]; done) | (simp [keepR_bne, g1, g2, g3]; done)
        rw [if_neg hkp, List.append_nil] at HF
        have HKP := Lib.hid hkp
        clear hkp
        go_wp2_with fail
        go_roundw
        case rel => exact ⟨k + 1, ao', cap', by omega, by go_num, by rw [HF.out], by rw [HF.out]; exact HO.out, HK.out⟩
        case measure => simp [intOf]; omega
    · obtain rfl : k = D.length := by omega
      rw [List.take_length] at HO hle ⊢
      obtain ⟨F, hF⟩ : ∃ F, freeR slot u D = F := ⟨_, rfl⟩
      rw [hF] at HO hle ⊢
      have HFF := Lib.hid hF
      obtain ⟨capx, hbx, -⟩ := HR.out
      have f1 := free_blk hbx 1
      clear hbx hF
      go_wp2_with fail
      go_ret
      rw [HFF.out]
      have K : Kept (· = b) wr (wr.setCell ⟨b, 1, none⟩ (.slice ao' F.length cap')) := (Kept.refl _).own _ _
      refine ⟨ao', rfl, ⟨cap', ?_, (HO.out.keepAt K (fun g hg e => ?_)).widen (Nat.zero_le _)⟩, fun x hx => ?_, HK.out.any.trans K⟩
      · obtain ⟨cap, hb, -⟩ := HR.out
        have := set_blk hb 1 (.slice ao' F.length cap')
        simpa using this
      · have := (World.ownsRow.lt HO.out g hg).1; omega
      · rw [← own_slice ao' F.length cap'] at hx
        exact (World.ownsRow.lt HO.out x hx).1
theorem rfree29_any (b n : Nat) (ao : Option Addr) (D : List DRec) (slot : Int) (hl : D.length ≤ 1000) (w : World) (h : RTbl w b ao n D) :
    Calls Try.prog 24 #[.pointer (some ⟨b, 0, none⟩), .int .i64 slot] w fun e w' => ∃ ao', e = .returned (.int .i64 ((D.length : Int) - (freeR slot (-1) D).length)) ∧
      RTbl w' b ao' n (freeR slot (-1) D) ∧ (∀ x, (Value.slice ao' 0 0).ownBlock = some x → w.heap.size ≤ x) ∧ Kept (· = b) w w' := by
  have H := Lib.hid (rfree29_raw b n ao D slot (-1) hl w h)
  clear h
  go_enter Try.func24, Try.ntmps24
  go_wp2_with fail
  refine H.out.mono ?_
  rintro e w1 ⟨ao', rfl, h1, h2, h3⟩
  have H1 := Lib.hid (And.intro h1 (And.intro h2 h3))
  clear h1 h2 h3
  go_wp2_with fail
  go_ret
  exact ⟨ao', rfl, H1.out.1, H1.out.2.1, H1.out.2.2⟩
/-- What is left by FreeAt. -/
def freeAtR (s u : Int) (D : List DRec) : List DRec := if u < 0 then D else freeR s u D
theorem rfreeAt29_any (b n : Nat) (ao : Option Addr) (D : List DRec) (slot u : Int) (hl : D.length ≤ 1000) (w : World) (h : RTbl w b ao n D) :
    Calls Try.prog 25 #[.pointer (some ⟨b, 0, none⟩), .int .i64 slot, .int .i64 u] w fun e w' => ∃ ao', e = .returned (.int .i64 ((D.length : Int) - (freeAtR slot u D).length)) ∧
      RTbl w' b ao' n (freeAtR slot u D) ∧ (∀ x, (Value.slice ao' 0 0).ownBlock = some x → (Value.slice ao 0 0).ownBlock = some x ∨ w.heap.size ≤ x) ∧ Kept (· = b) w w' := by
  by_cases hu : u < 0
  · have d0 : decide (u < 0) = true := by simpa using hu
    have H := Lib.hid h
    have HF := Lib.hid (show freeAtR slot u D = D from by unfold freeAtR; rw [if_pos hu])
    clear h
    go_enter Try.func25, Try.ntmps25
    go_wp2_with fail
    go_ret
    rw [HF.out]
    exact ⟨ao, by rw [Int.sub_self]; rfl, H.out, fun x hx => .inl hx, Kept.refl _⟩
  · have d0 : decide (u < 0) = false := by simpa using hu
    have HF := Lib.hid (show freeAtR slot u D = freeR slot u D from by unfold freeAtR; rw [if_neg hu])
    have H := Lib.hid (rfree29_raw b n ao D slot u hl w h)
    clear h
    go_enter Try.func25, Try.ntmps25
    go_wp2_with fail
    refine H.out.mono ?_
    rintro e w1 ⟨ao', rfl, h1, h2, h3⟩
    have H1 := Lib.hid (And.intro h1 (And.intro h2 h3))
    clear h1 h2 h3
    go_wp2_with fail
    go_ret
    rw [HF.out]
    exact ⟨ao', rfl, H1.out.1, fun x hx => .inr (H1.out.2.1 x hx), H1.out.2.2⟩
end Go.Proofs.Ythgioaaenfdcdaa
