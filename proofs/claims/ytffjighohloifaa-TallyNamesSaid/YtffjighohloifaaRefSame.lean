/- hustingsref08.Same, SameAll; hustingsref11.Same. -/
import Derived.Test.YtffjighohloifaaKey2
import Derived.Test.YtffjighohloifaaStepPush
import Derived.Deep.DeepCutAuto
namespace Go.Proofs.Ytffjighohloifaa
open Go.RowKit

theorem str_eqB (a b : ByteArray) : (a.toList == b.toList) = decide (a = b) := by
  by_cases h : a = b
  · subst h; simp
  · have : a.toList ≠ b.toList := fun e => h (bytes_ext e)
    simp [h, this]
theorem str_neq (a b : ByteArray) (w : World) : (binOp .neq 9 (.string a) (.string b)).run Try.prog w = .ok (.bool (!decide (a = b))) w := by
  have h : (binOp .neq 9 (.string a) (.string b)).run Try.prog w = .ok (.bool (!(a.toList == b.toList))) w := by
    go_simp
  rw [h, str_eqB]
theorem str_eql (a b : ByteArray) (w : World) : (binOp .eql 9 (.string a) (.string b)).run Try.prog w = .ok (.bool (decide (a = b))) w := by
  have h : (binOp .eql 9 (.string a) (.string b)).run Try.prog w = .ok (.bool (a.toList == b.toList)) w := by
    go_simp
  rw [h, str_eqB]
def sameS (a b : SetV) : Bool := decide (a.name = b.name ∧ a.ty = b.ty ∧ a.cl = b.cl ∧ a.ttl = b.ttl ∧ a.data = b.data)
theorem take_same {α : Type} (l1 l2 : List α) (k : Nat) (he : l1.length = l2.length) (hk : l1.take k = l2.take k) (hlt : k < l1.length) (h2 : k < l2.length) :
    (l1[k] = l2[k] → l1.take (k + 1) = l2.take (k + 1)) ∧ (l1[k] ≠ l2[k] → l1 ≠ l2) := by
  refine ⟨fun e => ?_, fun e => ?_⟩
  · rw [List.take_succ_eq_append_getElem hlt, List.take_succ_eq_append_getElem h2, hk, e]
  · rintro rfl; exact e rfl
abbrev sCells (s : SetV) (ad : Option Addr) (cd : Nat) : Array Value := #[.string s.name, .int .u16 s.ty, .int .u16 s.cl, .int .u32 s.ttl, .slice ad s.data.length cd]
set_option maxRecDepth 100000 in
set_option maxHeartbeats 2000000 in
theorem same08_any (a b : SetV) (ad bd : Option Addr) (ca cb : Nat) (w : World) (ha : StrsAt w ad a.data (fun _ => True)) (hb : StrsAt w bd b.data (fun _ => True)) (hl : (a.data.length : Int) ≤ 1000000 ∧ (b.data.length : Int) ≤ 1000000) (r : Bool) (hr : sameS a b = r) :
    Calls Try.prog 64 #[.agg (sCells a ad ca), .agg (sCells b bd cb)] w fun e w' => e = .returned (.bool r) ∧ Kept (fun _ => False) w w' := by
  obtain ⟨hl1, hl2⟩ := hl
  obtain ⟨w0, hw0⟩ : ∃ w0, (w.alloc (.cells (sCells a ad ca) 103)).alloc (.cells (sCells b bd cb) 103) = w0 := ⟨_, rfl⟩
  have HA := Lib.hid (show w0.heap[w.heap.size]? = some (.cells (sCells a ad ca) 103 (0, 0)) from by rw [← hw0]; exact old_blk (new_blk w _) _)
  have HB := Lib.hid (show w0.heap[w.heap.size + 1]? = some (.cells (sCells b bd cb) 103 (0, 0)) from by rw [← hw0]; exact new_at (by simp))
  have K0 := Lib.hid (show Kept (fun _ => False) w w0 from by rw [← hw0]; exact ((Kept.refl _).alloc _).alloc _)
  have HW0 := Lib.hid (show (w.alloc (.cells #[.string a.name, .int .u16 a.ty, .int .u16 a.cl, .int .u32 a.ttl, .slice ad a.data.length ca] 103)).alloc (.cells #[.string b.name, .int .u16 b.ty, .int .u16 b.cl, .int .u32 b.ttl, .slice bd b.data.length cb] 103) = w0 from hw0)
  have a0 := cell_blk HA.out 0
  have a1 := cell_blk HA.out 1
  have a2 := cell_blk HA.out 2
  have a3 := cell_blk HA.out 3
  have a4 := cell_blk HA.out 4
  have b0 := cell_blk HB.out 0
  have b1 := cell_blk HB.out 1
  have b2 := cell_blk HB.out 2
  have b3 := cell_blk HB.out 3
  have b4 := cell_blk HB.out 4
  simp at a0 a1 a2 a3 a4 b0 b1 b2 b3 b4
  have HSA := Lib.hid (ha.look K0.out)
  have HSB := Lib.hid (hb.look K0.out)
  have HR := Lib.hid hr
  clear hw0 ha hb hr
  by_cases hn : ¬ a.name = b.name
  · have hq := fun w => str_neq a.name b.name w
    rw [show decide (a.name = b.name) = false from by simpa using hn] at hq
    have hq2 : (a.name.toList == b.name.toList) = false := by rw [str_eqB]; simpa using hn
    have HF := Lib.hid (show r = false from by rw [← HR.out]; unfold sameS; simp [hn])
    clear hn
    go_enter Try.func64, Try.ntmps64
    go_upto_region 1 with (fail)
    rw [HW0.out]
    go_wp2_with fail
    go_ret
    exact ⟨by rw [HF.out]; rfl, K0.out⟩
  have hn := Classical.not_not.1 hn
  have hq := fun w => str_neq a.name b.name w
  rw [show decide (a.name = b.name) = true from by simpa using hn] at hq
  have hq2 : (a.name.toList == b.name.toList) = true := by rw [str_eqB]; simpa using hn
  have HNE := Lib.hid hn
  clear hn
  have hways : (a.ty != b.ty) = true ∨ ((a.ty != b.ty) = false ∧ (a.cl != b.cl) = true) ∨ ((a.ty != b.ty) = false ∧ (a.cl != b.cl) = false ∧ (a.ttl != b.ttl) = true) ∨
      ((a.ty != b.ty) = false ∧ (a.cl != b.cl) = false ∧ (a.ttl != b.ttl) = false ∧ ((a.data.length : Int) != (b.data.length : Int)) = true) ∨
      ((a.ty != b.ty) = false ∧ (a.cl != b.cl) = false ∧ (a.ttl != b.ttl) = false ∧ ((a.data.length : Int) != (b.data.length : Int)) = false) := by
    simp only [bne_iff_ne, bne_eq_false_iff_eq]
    omega
  have HWAYS := Lib.hid (show ((a.ty != b.ty) = true ∨ (a.cl != b.cl) = true ∨ (a.ttl != b.ttl) = true ∨ ((a.data.length : Int) != (b.data.length : Int)) = true) → r = false from fun h => by
    rw [← HR.out]
    unfold sameS
    simp only [bne_iff_ne] at h
    simp only [decide_eq_false_iff_not]
    rintro ⟨_, h1, h2, h3, h4⟩
    rw [h4] at h
    omega)
  rcases hways with g1 | ⟨g1, g2⟩ | ⟨g1, g2, g3⟩ | ⟨g1, g2, g3, g4⟩ | ⟨g1, g2, g3, g4⟩
  · have HF := Lib.hid (HWAYS.out (.inl g1))
    go_enter Try.func64, Try.ntmps64
    go_upto_region 1 with (fail)
    rw [HW0.out]
    go_wp2_with fail
    go_ret
    exact ⟨by rw [HF.out]; rfl, K0.out⟩
  · have HF := Lib.hid (HWAYS.out (.inr (.inl g2)))
    go_enter Try.func64, Try.ntmps64
    go_upto_region 1 with (fail)
    rw [HW0.out]
    go_wp2_with fail
    go_ret
    exact ⟨by rw [HF.out]; rfl, K0.out⟩
  · have HF := Lib.hid (HWAYS.out (.inr (.inr (.inl g3))))
    go_enter Try.func64, Try.ntmps64
    go_upto_region 1 with (fail)
    rw [HW0.out]
    go_wp2_with fail
    go_ret
    exact ⟨by rw [HF.out]; rfl, K0.out⟩
  · have HF := Lib.hid (HWAYS.out (.inr (.inr (.inr g4))))
    go_enter Try.func64, Try.ntmps64
    go_upto_region 1 with (fail)
    rw [HW0.out]
    go_wp2_with fail
    go_ret
    exact ⟨by rw [HF.out]; rfl, K0.out⟩
  · have hll : a.data.length = b.data.length := by
      simp only [bne_eq_false_iff_eq] at g4; omega
    have HE := Lib.hid (show r = decide (a.data = b.data) from by
      simp only [bne_eq_false_iff_eq] at g1 g2 g3
      rw [← HR.out]
      unfold sameS
      simp [HNE.out, g1, g2, g3])
    obtain ⟨l1, hl1e⟩ : ∃ l, a.data = l := ⟨_, rfl⟩
    obtain ⟨l2, hl2e⟩ : ∃ l, b.data = l := ⟨_, rfl⟩
    rw [hl1e] at hll HE HSA a4 hl1 g4
    rw [hl2e] at hll HE HSB b4 hl2 g4
    have HLL := Lib.hid hll
    have HL1 := Lib.hid hl1e
    have HL2 := Lib.hid hl2e
    clear hll hl1e hl2e HWAYS
    go_enter Try.func64, Try.ntmps64
    go_upto_region 1 with (fail)
    rw [HW0.out]
    go_wp2_with fail
    go_loopw [5] (fun c wr => ∃ k : Nat, k ≤ l1.length ∧ c = .int .i64 k ∧ Hid (l1.take k = l2.take k) ∧ Kept (fun _ => False) w0 wr) (fun c _ => l1.length - (intOf c).toNat)
    case atStart => exact ⟨0, by omega, rfl, Lib.hid (by simp), Kept.refl _⟩
    case round =>
      obtain ⟨k, hk, rfl, ht, hkw⟩ := hrel
      have KW := Lib.hid hkw
      have a4 := hkw.cell a4 id
      have b4 := hkw.cell b4 id
      clear hkw a0 a1 a2 a3 b0 b1 b2 b3
      by_cases hlt : k < l1.length
      · have hlt2 : k < l2.length := by have := HLL.out; omega
        obtain ⟨ga, oa, rfl, -, x1⟩ := HSA.out.at (i := k) (v := .string l1[k]) (by simp [hlt])
        obtain ⟨gb, ob, rfl, -, x2⟩ := HSB.out.at (i := k) (v := .string l2[k]) (by simp [hlt2])
        have x1 := KW.out.cell x1 id
        have x2 := KW.out.cell x2 id
        have hs := take_same l1 l2 k HLL.out ht.out hlt hlt2
        have hq3 := fun w => str_neq l1[k] l2[k] w
        have i0 : (0 : Int) ≤ (k : Int) := Int.natCast_nonneg _
        have i1 : (k : Int) < (l1.length : Int) := by omega
        have i2 : (k : Int) < (l2.length : Int) := by omega
        obtain ⟨s1, h1⟩ : ∃ s, l1[k] = s := ⟨_, rfl⟩
        obtain ⟨s2, h2⟩ : ∃ s, l2[k] = s := ⟨_, rfl⟩
        rw [h1] at x1 hs hq3
        rw [h2] at x2 hs hq3
        have HS := Lib.hid hs
        clear hs h1 h2
        clear hq3
        go_wp2_with fail
        go_quiet (fail)
        go_wp2_with fail
        · rename_i hx
          have HX := Lib.hid (HS.out.2 (by rw [str_eqB] at hx; simpa using hx))
          go_ret
          refine ⟨?_, (K0.out.trans KW.out).drewN _⟩
          rw [HE.out, show decide (l1 = l2) = false from by simpa using HX.out]; rfl
        · rename_i hx
          have HX := Lib.hid (HS.out.1 (by rw [str_eqB] at hx; simpa using hx))
          go_roundw
          case measure => simp [intOf]; omega
          case rel => exact ⟨k + 1, by omega, by go_num, HX, KW.out.drewN _⟩
      · obtain rfl : k = l1.length := by omega
        have HX := Lib.hid (show l1 = l2 from by have := ht.out; rwa [List.take_length, HLL.out, List.take_length] at this)
        go_wp2_with fail
        go_ret
        refine ⟨?_, K0.out.trans KW.out⟩
        rw [HE.out, show decide (l1 = l2) = true from by simpa using HX.out]; rfl
end Go.Proofs.Ytffjighohloifaa
