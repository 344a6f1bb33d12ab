/- hustingsref08.SameAll, hustingsref11.Same. -/
import Derived.Test.YtffjighohloifaaRefSame
namespace Go.Proofs.Ytffjighohloifaa
open Go.RowKit

theorem sameS_iff (a b : SetV) : sameS a b = true ↔ a = b := by
  cases a; cases b; unfold sameS; simp
set_option maxRecDepth 100000 in
set_option maxHeartbeats 2000000 in
theorem sameAll_any (l1 l2 : List SetV) (ao bo : Option Addr) (ca cb : Nat) (w : World) (h1 : SetsAt w ao l1 (fun _ => True)) (h2 : SetsAt w bo l2 (fun _ => True)) (hl1 : (l1.length : Int) ≤ 1000000)
    (hd1 : ∀ s ∈ l1, (s.data.length : Int) ≤ 1000000) (hd2 : ∀ s ∈ l2, (s.data.length : Int) ≤ 1000000) (res : Bool) (hres : res = true ↔ l1 = l2) :
    Calls Try.prog 39 #[.slice ao l1.length ca, .slice bo l2.length cb] w fun e w' => e = .returned (.bool res) ∧ Kept (fun _ => False) w w' := by
  have H1 := Lib.hid h1
  have H2 := Lib.hid h2
  have HD1 := Lib.hid hd1
  have HD2 := Lib.hid hd2
  have HRES := Lib.hid hres
  clear h1 h2 hd1 hd2 hres
  by_cases hne : l1.length ≠ l2.length
  · have g : ((l1.length : Int) != (l2.length : Int)) = true := by simp only [bne_iff_ne]; omega
    have HF := Lib.hid (show res = false from by
      cases hr : res with
      | false => rfl
      | true => exact absurd (congrArg List.length (HRES.out.1 hr)) hne)
    clear hne
    go_enter Try.func39, Try.ntmps39
    go_wp2_with fail
    go_ret
    exact ⟨by rw [HF.out]; rfl, Kept.refl _⟩
  have g : ((l1.length : Int) != (l2.length : Int)) = false := by simp only [bne_eq_false_iff_eq]; omega
  have HLL := Lib.hid (show l1.length = l2.length from by omega)
  clear hne
  go_enter Try.func39, Try.ntmps39
  go_wp2_with fail
  go_loopw [5] (fun c wr => ∃ k : Nat, k ≤ l1.length ∧ c = .int .i64 k ∧ Hid (l1.take k = l2.take k) ∧ Kept (fun _ => False) w wr) (fun c _ => l1.length - (intOf c).toNat)
  case atStart => exact ⟨0, by omega, rfl, Lib.hid (by simp), Kept.refl _⟩
  case round =>
    obtain ⟨k, hk, rfl, ht, hkw⟩ := hrel
    have KW := Lib.hid hkw
    clear hkw
    by_cases hlt : k < l1.length
    · have hlt2 : k < l2.length := by have := HLL.out; omega
      obtain ⟨ga, oa, ad, cd, rfl, -, c0, c1, c2, c3, c4, hst⟩ := (H1.out.look KW.out).at hlt
      obtain ⟨gb, ob, bd, ce, rfl, -, d0, d1, d2, d3, d4, hsu⟩ := (H2.out.look KW.out).at hlt2
      have hs := take_same l1 l2 k HLL.out ht.out hlt hlt2
      have hda := HD1.out l1[k] (List.getElem_mem hlt)
      have hdb := HD2.out l2[k] (List.getElem_mem hlt2)
      have i0 : (0 : Int) ≤ (k : Int) := Int.natCast_nonneg _
      have i1 : (k : Int) < (l1.length : Int) := by omega
      have i2 : (k : Int) < (l2.length : Int) := by omega
      obtain ⟨x, hx⟩ : ∃ x, l1[k] = x := ⟨_, rfl⟩
      obtain ⟨y, hy⟩ : ∃ y, l2[k] = y := ⟨_, rfl⟩
      rw [hx] at c0 c1 c2 c3 c4 hst hs hda
      rw [hy] at d0 d1 d2 d3 d4 hsu hs hdb
      have HX := Lib.hid hst
      have HY := Lib.hid hsu
      have HS := Lib.hid hs
      have HL := Lib.hid (And.intro hda hdb)
      obtain ⟨r, hr⟩ : ∃ r, sameS x y = r := ⟨_, rfl⟩
      have HR := Lib.hid hr
      clear hst hsu hs hda hdb hx hy hr
      go_upto_region 6 with (fail)
      refine wp_region_inv (?v0 :: ?v1 :: ?v2 :: ?v3 :: ?v4 :: ?v5 :: ?v6 :: ?v7 :: ?v8 :: ?v9 :: []) (fun wx => Kept (fun _ => False) wr wx) (by kernel_rfl) (by kernel_rfl) [some 17, some 18, some 19, some 20, some 21, some 22, some 23, some 24, some 25, some 26] rfl rfl ?vA ?vhA ?vh0 ?vH ?vhQ
      case vhA => simp only [laidAll, Act.put, List.setIfInBounds_toArray, List.set_cons_zero, List.set_cons_succ]; exact rfl
      case vH =>
        iterate 8 (refine ⟨?_, ?_⟩; · first | (refine OpStep.yields (Or.inr ⟨by rfl, ?_⟩); rfl) | (refine OpStep.yields (Or.inl ⟨by rfl, ?_⟩); intro w; go_simp; (try with_reducible rfl); done) | (refine OpStep.reads (by rfl) ?_; intro wx hI; have q0 := hI.cell c0 id; have q1 := hI.cell c1 id; have q2 := hI.cell c2 id; have q3 := hI.cell c3 id; have q4 := hI.cell c4 id; have p0 := hI.cell d0 id; have p1 := hI.cell d1 id; have p2 := hI.cell d2 id; have p3 := hI.cell d3 id; have p4 := hI.cell d4 id; go_simp; (try with_reducible rfl); done))
        refine ⟨?_, ?_⟩
        · refine OpStep.calls ?vf8 ?vg8 (by rfl) ?vr8 ?vc8
          case vr8 => intro w _; go_simp; first | (refine ⟨?_, ?_⟩ <;> with_reducible rfl) | with_reducible rfl
          case vc8 =>
            intro wx hI
            refine (same08_any x y ad bd cd ce _ (HX.out.look hI) (HY.out.look hI) HL.out r HR.out).mono ?_
            rintro e w' ⟨rfl, hk⟩
            refine ⟨?_, hI.trans hk⟩
            with_reducible rfl
        iterate 1 (refine ⟨?_, ?_⟩; · first | (refine OpStep.yields (Or.inr ⟨by rfl, ?_⟩); rfl) | (refine OpStep.yields (Or.inl ⟨by rfl, ?_⟩); intro w; go_simp; (try with_reducible rfl); done) | (refine OpStep.reads (by rfl) ?_; intro wx hI; have q0 := hI.cell c0 id; have q1 := hI.cell c1 id; have q2 := hI.cell c2 id; have q3 := hI.cell c3 id; have q4 := hI.cell c4 id; have p0 := hI.cell d0 id; have p1 := hI.cell d1 id; have p2 := hI.cell d2 id; have p3 := hI.cell d3 id; have p4 := hI.cell d4 id; go_simp; (try with_reducible rfl); done))
        exact trivial
      case vh0 => exact (Kept.refl _).drew
      case vhQ =>
        intro wx hI
        have KI := Lib.hid (KW.out.trans hI)
        clear hI c0 c1 c2 c3 c4 d0 d1 d2 d3 d4
        cases hrb : r with
        | false =>
          have HX2 := Lib.hid (HS.out.2 (fun e => by have := (sameS_iff x y).2 e; rw [HR.out, hrb] at this; cases this))
          go_wp2_with fail
          go_ret
          refine ⟨?_, KI.out⟩
          rw [show res = false from by
            cases hq : res with
            | false => rfl
            | true => exact absurd (HRES.out.1 hq) HX2.out]; rfl
        | true =>
          have HX2 := Lib.hid (HS.out.1 ((sameS_iff x y).1 (by rw [HR.out, hrb])))
          go_wp2_with fail
          go_roundw
          case measure => simp [intOf]; omega
          case rel => exact ⟨k + 1, by omega, by go_num, HX2, KI.out⟩
    · obtain rfl : k = l1.length := by omega
      have HX := Lib.hid (show l1 = l2 from by have := ht.out; rwa [List.take_length, HLL.out, List.take_length] at this)
      go_wp2_with fail
      go_ret
      refine ⟨?_, KW.out⟩
      rw [HRES.out.2 HX.out]; rfl
end Go.Proofs.Ytffjighohloifaa
