/- hustingslaw29.alike. -/
import Derived.Test.YthgioaaenfdcdaaPInv29
namespace Go.Proofs.Ythgioaaenfdcdaa
open Go.RowKit

set_option maxRecDepth 100000 in
set_option maxHeartbeats 2000000 in
theorem ralike29_any {W w : World} {S : TblS} {T : List Outs} {tb : Nat} {s : TapeS} {b : Nat} {ao : Option Addr} {n : Nat} {D : List DRec} {rb : Nat} {s2 : TapeS} {L : List Nat} (H : Hid (PInv W w S T tb s b ao n D rb s2 L)) (HD : Hid (DRel D T)) (hn9 : n ≤ 9) (hl : D.length ≤ 1000) :
    Calls Try.prog 27 #[.pointer (some ⟨S.b, 0, none⟩), .pointer (some ⟨b, 0, none⟩)] w fun e w' => e = .returned (.bool true) ∧ Kept (fun _ => False) w w' := by
  obtain ⟨cap, hb, -⟩ := H.out.rt
  have c0 := cell_blk hb 0
  have c1 := cell_blk hb 1
  simp at c0 c1
  clear hb
  go_enter Try.func27, Try.ntmps27
  go_wp2_with fail
  go_loop [5] (fun c => ∃ x : Int, -1 ≤ x ∧ x ≤ n + 1 ∧ c = .int .i64 x) (fun c => ((n : Int) + 1 - intOf c).toNat)
  case atStart => exact ⟨-1, by omega, by omega, rfl⟩
  case round =>
    obtain ⟨x, hx1, hx2, rfl⟩ := hrel
    by_cases hlt : x ≤ n
    · have HPO := Lib.hid H.out.po
      have HL := Lib.hid (lenR_at HD.out x)
      obtain ⟨m, hm⟩ : ∃ m, (atT T x).length = m := ⟨_, rfl⟩
      rw [hm] at HL
      have HM := Lib.hid hm
      have e1 : ((m : Int) != (m : Int)) = false := by simp
      clear hm
      go_wp2_with fail
      refine (pown_len HPO x m HM.out).mono ?_
      rintro e w1 ⟨rfl, rfl⟩
      go_wp2_with fail
      refine (rlen29_any b n ao D x hl w H.out.rt).mono ?_
      rintro e w1 ⟨rfl, rfl⟩
      rw [HL.out]
      go_wp2_with fail
      go_round
      case rel => exact ⟨x + 1, by omega, by omega, by go_num⟩
      case measure => simp [intOf]; omega
    · have hlt' : ¬ x ≤ (n : Int) := hlt
      clear hlt hx1 hx2
      go_wp2_with fail
      go_loopw [6, 7, 8] (fun c _ _ wr => ∃ k : Nat, k ≤ D.length ∧ c = .int .i64 k ∧ Kept (fun _ => False) w wr) (fun c _ _ _ => D.length - (intOf c).toNat)
      case atStart => exact ⟨0, by omega, rfl, Kept.refl _⟩
      case round =>
        obtain ⟨k, hk, rfl, hkw⟩ := hrel
        have K := Lib.hid hkw
        have c1' := hkw.cell c1 id
        clear hkw c0 c1
        by_cases hkD : k < D.length
        · obtain ⟨rec, hrec⟩ : ∃ rec, D[k] = rec := ⟨_, rfl⟩
          have hrm : rec ∈ D := by rw [← hrec]; exact List.getElem_mem hkD
          obtain ⟨g, hg, x0, x1, x2⟩ := (H.out.rt.look K.out).at hkD
          rw [hrec] at x0 x1 x2
          rw [hg] at c1'
          have i0 : (0 : Int) ≤ (k : Int) := Int.natCast_nonneg _
          have i1 : (k : Int) < (D.length : Int) := by omega
          have HPD := Lib.hid (H.out.po.look (K.out.drew))
          have hu := HD.out.1 rec hrm
          have hgd : Outs.Good (atT T rec.u) := by
            obtain ⟨q, hq⟩ := Int.eq_ofNat_of_zero_le hu.1
            rw [hq, atT_nat]
            exact (H.out.po.tb.maps q (by omega)).1
          have HFD := Lib.hid (drel_find HD.out hrm hgd.1)
          have h16 : U16 rec.id := (hgd.2 (rec.id, rec.s) (look_mem HFD.out)).1
          obtain ⟨ru, rs, rid⟩ := rec
          simp only at x0 x1 x2 h16
          have e2 : (rs != rs) = false := by simp
          clear hrec hrm hg hu hgd
          go_wp2_with fail
          go_region_held3 (fun w' => w'.cell? ⟨b, 1, none⟩ = some (.slice (some ⟨g, 0, none⟩) D.length cap) ∧ w'.cell? ⟨g, k * 3, none⟩ = some (.int .i64 ru) ∧ w'.cell? ⟨g, k * 3 + 2, none⟩ = some (.int .u16 rid)) (go_keep)
            ((go_at_call 13; refine (pown_find HPD ru rid h16 (some rs) HFD.out).mono ?_; rintro e w' ⟨rfl, rfl⟩))
          go_wp2_with fail
          go_roundw
          case rel => exact ⟨k + 1, by omega, by go_num, K.out.drew⟩
          case measure => simp [intOf]; omega
        · obtain rfl : k = D.length := by omega
          go_wp2_with fail
          go_ret
          exact ⟨rfl, K.out⟩
end Go.Proofs.Ythgioaaenfdcdaa
