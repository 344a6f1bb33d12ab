/- Package verdict, walked: a verdict's key. -/
import Derived.Test.YtffjighohloifaaKeyPlain
namespace Go.Proofs.Ytffjighohloifaa
open Go.RowKit

theorem conv_new2 (w : World) (a b : Int) : (convert 129 9 (.slice (some ⟨w.heap.size, 0, none⟩) 2 2)).run Try.prog (w.alloc (.cells #[.int .u8 a, .int .u8 b] 5)) = .ok (.string ⟨#[UInt8.ofNat a.toNat, UInt8.ofNat b.toNat]⟩) (w.alloc (.cells #[.int .u8 a, .int .u8 b] 5)) :=
  run_convert_bytes_arg (P := Try.prog) _ 129 5 Try.underlying129 Try.underlying5 w.heap.size 0 2 2 [a, b] rfl (fun i hi => by
    rw [cell_blk (new_blk _ _)]
    have : i = 0 ∨ i = 1 := by omega
    rcases this with rfl | rfl <;> rfl) 9 Try.underlying9
theorem conv_new1 (w : World) (a : Int) : (convert 129 9 (.slice (some ⟨w.heap.size, 0, none⟩) 1 1)).run Try.prog (w.alloc (.cells #[.int .u8 a] 5)) = .ok (.string ⟨#[UInt8.ofNat a.toNat]⟩) (w.alloc (.cells #[.int .u8 a] 5)) :=
  run_convert_bytes_arg (P := Try.prog) _ 129 5 Try.underlying129 Try.underlying5 w.heap.size 0 1 1 [a] rfl (fun i hi => by
    rw [cell_blk (new_blk _ _)]
    obtain rfl : i = 0 := by omega
    rfl) 9 Try.underlying9
theorem ofNat_mod (n : Nat) : UInt8.ofNat (n % 256) = UInt8.ofNat n := by
  apply UInt8.toNat_inj.1; simp
set_option maxRecDepth 100000 in
theorem two_any (n : Nat) (w : World) : Calls Try.prog 81 #[.int .i64 n] w fun e w' => e = .returned (strB (twoB n)) ∧ Kept (fun _ => False) w w' := by
  have hc := conv_new2
  go_enter Try.func81, Try.ntmps81
  go_wp2_with fail
  go_ret
  refine ⟨?_, (Kept.refl _).alloc _⟩
  have e1 : ((n : Int) / 256 % 256).toNat = n / 256 % 256 := by omega
  have e2 : ((n : Int) % 256).toNat = n % 256 := by omega
  show Ending.returned (Value.string ⟨#[UInt8.ofNat ((n : Int) / 256 % 256).toNat, UInt8.ofNat ((n : Int) % 256).toNat]⟩) = _
  rw [e1, e2, ofNat_mod, ofNat_mod]; rfl
theorem two_int (n : Int) (h : 0 ≤ n) (w : World) : Calls Try.prog 81 #[.int .i64 n] w fun e w' => e = .returned (strB (twoB n.toNat)) ∧ Kept (fun _ => False) w w' := by
  obtain ⟨k, rfl⟩ := Int.eq_ofNat_of_zero_le h
  exact two_any k w
set_option maxRecDepth 100000 in
theorem putText_any (s : ByteArray) (hs : (s.size : Int) ≤ 1000000) (w : World) : Calls Try.prog 83 #[.string s] w fun e w' => e = .returned (strB (textB s)) ∧ Kept (fun _ => False) w w' := by
  go_enter Try.func83, Try.ntmps83
  go_wp2_with fail
  refine (two_any s.size w).mono ?_
  rintro e w1 ⟨rfl, hk⟩
  have K := Lib.hid hk
  have hsz : (twoB s.size).length = 2 := rfl
  clear hk
  go_wp2_with fail
  go_ret
  exact ⟨by rw [str_add_bytes]; rfl, K.out⟩
/-- A row of strings reads as they say. -/
def StrsAt (w : World) (ao : Option Addr) (l : List ByteArray) (P : Nat → Prop) : Prop := Cells w ao (l.map Value.string) P
set_option maxRecDepth 100000 in
theorem putTexts_any (ao : Option Addr) (l : List ByteArray) (cap : Nat) (w : World) (h : StrsAt w ao l (fun _ => True)) (hl : ((textsB l).length : Int) ≤ 1000000) (hs : ∀ s ∈ l, (s.size : Int) ≤ 1000000) (hll : (l.length : Int) ≤ 1000000) :
    Calls Try.prog 82 #[.slice ao l.length cap, .int .i64 2, .func (.func 83) #[] #[]] w fun e w' => e = .returned (strB (textsB l)) ∧ Kept (fun _ => False) w w' := by
  have H := Lib.hid h
  clear h
  go_enter Try.func82, Try.ntmps82
  go_wp2_with fail
  refine (two_any l.length w).mono ?_
  rintro e w1 ⟨rfl, hk⟩
  have K := Lib.hid hk
  have hsz : (twoB l.length).length = 2 := rfl
  have hx : (⟨(twoB l.length).toArray⟩ : ByteArray).extract 0 2 = ⟨(twoB l.length).toArray⟩ := rfl
  clear hk
  go_wp2_with fail
  go_loopw [7, 9, 18] (fun v _ c wr => ∃ k : Nat, k ≤ l.length ∧ c = .int .i64 k ∧ v = strB (twoB l.length ++ ((l.take k).map textB).flatten) ∧ Kept (fun _ => False) w wr) (fun _ _ c _ => l.length - (intOf c).toNat)
  case atStart => exact ⟨0, by omega, rfl, by simp, K.out⟩
  case round =>
    obtain ⟨k, hk, rfl, rfl, hkr⟩ := hrel
    have KR := Lib.hid hkr
    have hb := flatten_take_le textB l k
    have hlen : (((twoB l.length ++ ((l.take k).map textB).flatten).length : Nat) : Int) ≤ 1000000 := by
      unfold textsB at hl
      rw [List.length_append] at hl ⊢
      omega
    have HF := Lib.hid (fun hlt : k < l.length => flatten_take_succ textB l hlt)
    obtain ⟨F, hF⟩ : ∃ F, twoB l.length ++ ((l.take k).map textB).flatten = F := ⟨_, rfl⟩
    rw [hF] at hlen ⊢
    have HFE := Lib.hid hF
    clear hkr hb hF
    by_cases hlt : k < l.length
    · obtain ⟨g, o, rfl, -, c⟩ := (H.out).at (i := k) (v := .string l[k]) (by simp [hlt])
      have c0 := KR.out.cell c id
      have i0 : (0 : Int) ≤ (k : Int) := Int.natCast_nonneg _
      have i1 : (k : Int) < (l.length : Int) := by omega
      have hsk := hs l[k] (List.getElem_mem hlt)
      obtain ⟨x, hx⟩ : ∃ x, l[k] = x := ⟨_, rfl⟩
      have HF2 := Lib.hid (HF.out hlt)
      rw [hx] at c0 hsk HF2
      clear c hx HF
      go_wp2_with fail
      refine (putText_any x hsk _).mono ?_
      rintro e w2 ⟨rfl, hk2⟩
      have K2 := Lib.hid (KR.out.trans hk2)
      have htl := textB_len x
      clear hk2
      go_wp2_with fail
      go_roundw
      case rel => exact ⟨k + 1, by omega, by go_num, by rw [HF2.out, ← List.append_assoc, HFE.out, add_bytes], K2.out⟩
      case measure => simp [intOf]; omega
    · obtain rfl : k = l.length := by omega
      go_wp2_with fail
      go_ret
      have := HFE.out
      rw [List.take_length] at this
      rw [← this]
      exact ⟨rfl, KR.out⟩
end Go.Proofs.Ytffjighohloifaa
