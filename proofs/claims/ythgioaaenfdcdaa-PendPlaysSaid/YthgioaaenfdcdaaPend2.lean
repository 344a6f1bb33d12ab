/- Package pend, walked: Find, Len, FreeAt, Free. -/
import Derived.Test.YthgioaaenfdcdaaPend
namespace Go.Proofs.Ythgioaaenfdcdaa
open Go.RowKit Go.Maps

/-- What is out at an upstream. -/
def atT (T : List Outs) (u : Int) : Outs := if 0 ≤ u then T.getD u.toNat [] else []
theorem atT_nat (T : List Outs) (u : Nat) : atT T u = T.getD u [] := by simp [atT]
theorem atT_no {T : List Outs} {u : Int} (h : u < 0 ∨ T.length ≤ u) : atT T u = [] := by
  unfold atT
  split
  · rw [List.getD_eq_getElem?_getD, List.getElem?_eq_none (by omega)]; rfl
  · rfl
def freeAtT (s u : Int) (T : List Outs) : List Outs := if 0 ≤ u then T.set u.toNat ((atT T u).free s) else T
theorem freeAtT_nat (s : Int) (u : Nat) (T : List Outs) : freeAtT s u T = T.set u ((T.getD u []).free s) := by unfold freeAtT; rw [if_pos (by omega), atT_nat]; simp
theorem freeAtT_no {T : List Outs} {s u : Int} (h : u < 0 ∨ T.length ≤ u) : freeAtT s u T = T := by
  unfold freeAtT
  split
  · rw [List.set_eq_of_length_le (by omega)]
  · rfl

section
variable {ops : Array Oper} {rest : List Oper} {o : Oper} {a : Act} {Q : Exit → Act → World → Prop} {w : World}
theorem wpList_lookNil (hg : o.guard = none) (mo x : Operand) (hop : o.op = Op.lookup 69 mo x true) (hm : a.eval mo = .map none) (k : Int) (hx : a.eval x = .int .u16 k) (hk : U16 k)
    (hK : wpList Try.prog ops Q rest (a.put o.dst (.tuple #[.int .i64 0, .bool false])) w) : wpList Try.prog ops Q (o :: rest) a w := by
  refine wpList_plain hg fun K' hK' => ?_
  have hrun := Maps.look_nil (P := Try.prog) (w := w) true lawU Try.underlying69 (zeroI w) (keyU hk)
  unfold Oper.wp
  simp only [if_true] at hrun
  simp [execOp, hop, hm, hx, hrun, Result.andThen]
  exact hK' _ _ hK
end

theorem find_no (p : Value) (u k : Int) (hk : U16 k) (w : World) (hat : Calls Try.prog 30 #[p, .int .i64 u] w fun e w' => e = .returned (.tuple #[.map none, .bool false]) ∧ w = w') :
    Calls Try.prog 13 #[p, .int .i64 u, .int .u16 k] w fun e w' => e = .returned (.tuple #[.int .i64 0, .bool false]) ∧ w = w' := by
  have HAT := Lib.hid hat
  clear hat
  go_enter Try.func13, Try.ntmps13
  go_wp2_with fail
  refine HAT.out.mono ?_
  rintro e w' ⟨rfl, rfl⟩
  go_wp2_with (first | (at_lookup; refine wpList_lookNil rfl _ _ rfl rfl k rfl hk ?_))
  go_ret2
  exact ⟨rfl, rfl⟩
theorem find_any (S : TblS) (T : List Outs) (u k : Int) (hk : U16 k) (hT : T.length ≤ 1000) (w : World) (h : Tbl w S T) :
    Calls Try.prog 13 #[.pointer (some ⟨S.b, 0, none⟩), .int .i64 u, .int .u16 k] w fun e w' => e = .returned (.tuple #[.int .i64 ((look (atT T u) k).getD 0), .bool (look (atT T u) k).isSome]) ∧ w = w' := by
  by_cases hu : u < 0 ∨ T.length ≤ u
  · rw [atT_no hu]
    exact find_no _ u k hk w (at_no S.b T.length S.ao S.cap u hu w h.c0)
  · obtain ⟨v, rfl⟩ := Int.eq_ofNat_of_zero_le (show 0 ≤ u by omega)
    rw [atT_nat]
    have H := Lib.hid h
    have HM := Lib.hid (h.maps v (by omega))
    clear h
    go_enter Try.func13, Try.ntmps13
    go_wp2_with fail
    refine (at_yes S T v (by omega) hT w H.out).mono ?_
    rintro e w' ⟨rfl, rfl⟩
    go_wp2_with (first | (at_lookup; refine wpList_lookU rfl _ _ rfl _ _ rfl HM.out k rfl hk ?_))
    go_ret2
    exact ⟨rfl, rfl⟩
theorem plen_no (p : Value) (u : Int) (w : World) (hat : Calls Try.prog 30 #[p, .int .i64 u] w fun e w' => e = .returned (.tuple #[.map none, .bool false]) ∧ w = w') :
    Calls Try.prog 14 #[p, .int .i64 u] w fun e w' => e = .returned (.int .i64 0) ∧ w = w' := by
  have HAT := Lib.hid hat
  have hl := fun (w : World) ty => Maps.len_nil (P := Try.prog) (w := w) Try.underlying69 ty
  clear hat
  go_enter Try.func14, Try.ntmps14
  go_wp2_with fail
  refine HAT.out.mono ?_
  rintro e w' ⟨rfl, rfl⟩
  go_wp2_with fail
  go_ret
  exact ⟨rfl, rfl⟩
theorem plen_any (S : TblS) (T : List Outs) (u : Int) (hT : T.length ≤ 1000) (w : World) (h : Tbl w S T) :
    Calls Try.prog 14 #[.pointer (some ⟨S.b, 0, none⟩), .int .i64 u] w fun e w' => e = .returned (.int .i64 (atT T u).length) ∧ w = w' := by
  by_cases hu : u < 0 ∨ T.length ≤ u
  · rw [atT_no hu]
    exact plen_no _ u w (at_no S.b T.length S.ao S.cap u hu w h.c0)
  · obtain ⟨v, rfl⟩ := Int.eq_ofNat_of_zero_le (show 0 ≤ u by omega)
    rw [atT_nat]
    have H := Lib.hid h
    have HM := Lib.hid (h.maps v (by omega))
    clear h
    go_enter Try.func14, Try.ntmps14
    go_wp2_with fail
    refine (at_yes S T v (by omega) hT w H.out).mono ?_
    rintro e w' ⟨rfl, rfl⟩
    go_wp2_with (first | (at_len; refine wpList_lenU rfl _ rfl _ _ rfl HM.out ?_))
    go_ret
    exact ⟨rfl, rfl⟩
theorem freeAt_no (p : Value) (s u : Int) (w : World) (hat : Calls Try.prog 30 #[p, .int .i64 u] w fun e w' => e = .returned (.tuple #[.map none, .bool false]) ∧ w = w') :
    Calls Try.prog 16 #[p, .int .i64 s, .int .i64 u] w fun e w' => e = .returned (.int .i64 0) ∧ Kept (fun _ => False) w w' := by
  have HAT := Lib.hid hat
  have hrg := run_range_nilMap (P := Try.prog) w 69 34 3 Try.underlying69
  have hnx : ∀ ty, (Instr.next (.pointer (some ⟨w.heap.size, 0, none⟩)) false ty).run Try.prog (w.alloc (.mapIter none 0 #[] 0)) = _ := fun ty => run_next_nilMap w ty 0 0 #[]
  clear hat
  go_enter Try.func16, Try.ntmps16
  go_wp2_with fail
  refine HAT.out.mono ?_
  rintro e w' ⟨rfl, rfl⟩
  go_wp2_with fail
  refine wp_loop_rounds 1 ?_
  rw [rounds_succ]
  go_wp2_with fail
  go_ret
  exact ⟨rfl, (Kept.refl _).alloc _⟩
set_option maxHeartbeats 1000000 in
theorem freeAt_yes (S : TblS) (T : List Outs) (s : Int) (u : Nat) (hu : u < T.length) (hT : T.length ≤ 1000) (w : World) (h : Tbl w S T) :
    Calls Try.prog 16 #[.pointer (some ⟨S.b, 0, none⟩), .int .i64 s, .int .i64 u] w fun e w' => e = .returned (.int .i64 ((T.getD u []).freed s)) ∧ MapU w' (S.bs.getD u 0) ((T.getD u []).free s) ∧ Kept (· = S.bs.getD u 0) w w' := by
  have H := Lib.hid h
  have HM := Lib.hid (h.maps u hu)
  have hgl := good_len (h.maps u hu).1
  obtain ⟨m, hm⟩ : ∃ m, m = T.getD u [] := ⟨_, rfl⟩
  obtain ⟨B, hB⟩ : ∃ B, B = S.bs.getD u 0 := ⟨_, rfl⟩
  have hat := at_yes S T u hu hT w h
  rw [← hB] at hat
  rw [← hm, ← hB] at HM ⊢
  rw [← hm] at hgl
  have hBl := HM.out.lt
  have HAT := Lib.hid hat
  clear h H hm hB hat
  go_enter Try.func16, Try.ntmps16
  go_wp2_with fail
  refine HAT.out.mono ?_
  rintro e w' ⟨rfl, rfl⟩
  go_wp2_with (first | (at_range; refine wpList_rangeU rfl _ rfl B m rfl HM.out s ?_; rintro w0 left0 cnt0 hg0 hl0 hk0 hz0))
  go_frame
  have HG := Lib.hid hg0
  have HL := Lib.hid hl0
  have HK := Lib.hid hk0
  clear hg0 hl0 hk0 hz0
  go_loopw [9] (fun n wr => ∃ (k : Nat) (left : Lit → Bool) (cnt : Nat), n = .int .i64 k ∧ k + (m.rem s left).length = m.length ∧ Going wr B w.heap.size m s left cnt ∧ Kept (· = B) w wr) (fun _ wr => wr.rangeLeft B w.heap.size)
  case atStart => exact ⟨0, left0, cnt0, rfl, by have := HL.out; omega, HG.out, HK.out.any⟩
  case round =>
    obtain ⟨k, left, cnt, rfl, hkl, hg, hkw⟩ := hrel
    have HG := Lib.hid hg
    have HKL := Lib.hid hkl
    have HKW := Lib.hid hkw
    have hkb : (k : Int) ≤ 65536 := by omega
    clear hg hkl hkw
    go_wp2_with (first | (at_next; refine wpList_nextU rfl _ rfl B w.heap.size m s left cnt rfl HG.out ?_ ?_))
    · intro hmap hfr
      have HMAP := Lib.hid hmap
      have HFR := Lib.hid hfr
      clear hmap hfr
      go_wp2_with fail
      go_ret
      refine ⟨?_, HMAP.out, HKW.out⟩
      have := HKL.out
      rw [HFR.out] at this
      unfold Outs.freed
      rw [show (k : Int) = ((m.length - (m.free s).length : Nat) : Int) by omega]
      rfl
    · intro x c w1 cnt1 hlt hx hc hstay hmet hk1 hen
      have HS := Lib.hid hstay
      have HMT := Lib.hid hmet
      have HK1 := Lib.hid hk1
      clear hstay hmet hk1
      by_cases hcs : c = s
      · have hb : (c == s) = true := by simpa using hcs
        have hMET := HMT.out hcs
        go_wp2_with (first | (at_delete; refine wpList_deleteU rfl _ _ rfl B w.heap.size m s left x cnt1 rfl rfl hMET ?_; rintro w2 left2 cnt2 hg2 hle hl2 hk2; go_frame))
        go_roundw
        case rel => exact ⟨k + 1, left2, cnt2, by go_num, by have := HKL.out; omega, hg2, (HKW.out.then HK1.out (fun i hi e => by omega)).trans hk2⟩
        case measure => rw [hg2.left, HG.out.left]; omega
      · have hb : (c == s) = false := by simpa using hcs
        obtain ⟨hst, hre⟩ := HS.out hcs
        have HRE := Lib.hid hre
        clear hre
        go_wp2_with fail
        go_roundw
        case rel => exact ⟨k, _, cnt1, rfl, by rw [HRE.out]; exact HKL.out, hst, HKW.out.then HK1.out (fun i hi e => by omega)⟩
        case measure => rw [hst.left, HG.out.left]; exact hlt
theorem freeAt_any (S : TblS) (T : List Outs) (s u : Int) (hT : T.length ≤ 1000) (w : World) (h : Tbl w S T) :
    Calls Try.prog 16 #[.pointer (some ⟨S.b, 0, none⟩), .int .i64 s, .int .i64 u] w fun e w' => e = .returned (.int .i64 ((atT T u).freed s)) ∧ Tbl w' S (freeAtT s u T) ∧ Kept (· ∈ S.bs) w w' := by
  by_cases hu : u < 0 ∨ T.length ≤ u
  · rw [atT_no hu, freeAtT_no hu]
    refine (freeAt_no _ s u w (at_no S.b T.length S.ao S.cap u hu w h.c0)).mono ?_
    rintro e w' ⟨rfl, hk⟩
    exact ⟨rfl, h.look hk, hk.any⟩
  · obtain ⟨v, rfl⟩ := Int.eq_ofNat_of_zero_le (show 0 ≤ u by omega)
    rw [atT_nat, freeAtT_nat]
    refine (freeAt_yes S T s v (by omega) hT w h).mono ?_
    rintro e w' ⟨rfl, hm, hk⟩
    refine ⟨rfl, h.write (by omega) hk hm, hk.mono (fun x _ e => ?_)⟩
    have hl := h.len
    rw [e, List.getD_eq_getElem?_getD, List.getElem?_eq_getElem (by omega)]
    exact List.getElem_mem _
end Go.Proofs.Ythgioaaenfdcdaa
