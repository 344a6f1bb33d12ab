/- Package pend, walked: Draw. -/
import Derived.Test.YthgioaaenfdcdaaPend3
import Derived.Test.YthgioaaenfdcdaaDraw
namespace Go.Proofs.Ythgioaaenfdcdaa
open Go.RowKit Go.Maps

/-- The first ID behind x, counted round, that is not out. -/
def idOf (m : Outs) (x : Int) : Int := roundAt x (((List.range 65536).find? (fun j => (look m (roundAt x j)).isNone)).getD 0)
theorem find_least {p : Nat → Bool} {n j : Nat} (hj : j < n) (hp : p j = true) (hl : ∀ i, i < j → p i = false) : (List.range n).find? p = some j := by
  rw [List.find?_range_eq_some]
  exact ⟨hp, List.mem_range.2 hj, fun i hi => by rw [hl i hi]; rfl⟩
theorem idOf_eq {m : Outs} {x : Int} {j : Nat} (hj : j < 65536) (h : look m (roundAt x j) = none) (hl : ∀ i, i < j → (look m (roundAt x i)).isSome = true) : idOf m x = roundAt x j := by
  unfold idOf
  rw [find_least (j := j) hj (by rw [h]; rfl) (fun i hi => by have := hl i hi; cases hv : look m (roundAt x i) with | none => rw [hv] at this; cases this | some v => rfl)]
  rfl
theorem idOf_u16 (m : Outs) (x : Int) : U16 (idOf m x) := roundAt_u16 _ _
theorem idOf_free {m : Outs} (hl : m.length < 65536) (x : Int) : look m (idOf m x) = none := by
  obtain ⟨j, h1, h2, h3⟩ := first_free hl x
  rw [idOf_eq h1 h2 h3]; exact h2
def drawOk (T : List Outs) (u slot : Int) : Prop := (0 ≤ u ∧ u < T.length) ∧ 0 ≤ slot ∧ slot < 32
def drawT (T : List Outs) (u slot id : Int) : List Outs := T.set u.toNat (atT T u ++ [(id, slot)])

theorem draw_nil1 (u slot : Int) (p : Value) (w : World) : Calls Try.prog 11 #[.pointer none, .int .i64 u, .int .i64 slot, p] w fun e w' => e = .returned (.tuple #[.int .u16 0, .int .i64 2]) ∧ w = w' := by
  go_enter Try.func11, Try.ntmps11
  go_wp2_with fail
  go_ret2
  exact ⟨rfl, rfl⟩
theorem draw_nil2 (b : Nat) (u slot : Int) (w : World) : Calls Try.prog 11 #[.pointer (some ⟨b, 0, none⟩), .int .i64 u, .int .i64 slot, .pointer none] w fun e w' => e = .returned (.tuple #[.int .u16 0, .int .i64 2]) ∧ w = w' := by
  go_enter Try.func11, Try.ntmps11
  go_wp2_with fail
  go_ret2
  exact ⟨rfl, rfl⟩
theorem draw_no (b n : Nat) (ao : Option Addr) (cap : Nat) (u slot : Int) (tb : Nat) (hu : u < 0 ∨ n ≤ u) (w : World) (c : w.cell? ⟨b, 0, none⟩ = some (.slice ao n cap)) : Calls Try.prog 11 #[.pointer (some ⟨b, 0, none⟩), .int .i64 u, .int .i64 slot, .pointer (some ⟨tb, 0, none⟩)] w fun e w' => e = .returned (.tuple #[.int .u16 0, .int .i64 1]) ∧ w = w' := by
  have HAT := Lib.hid (at_no b n ao cap u hu w c)
  clear c
  go_enter Try.func11, Try.ntmps11
  go_wp2_with fail
  refine HAT.out.mono ?_
  rintro e w' ⟨rfl, rfl⟩
  go_wp2_with fail
  go_ret2
  exact ⟨rfl, rfl⟩
theorem draw_bad (S : TblS) (T : List Outs) (u slot : Int) (tb : Nat) (h : ¬ drawOk T u slot) (hT : T.length ≤ 1000) (w : World) (ht : Tbl w S T) : Calls Try.prog 11 #[.pointer (some ⟨S.b, 0, none⟩), .int .i64 u, .int .i64 slot, .pointer (some ⟨tb, 0, none⟩)] w fun e w' => e = .returned (.tuple #[.int .u16 0, .int .i64 1]) ∧ w = w' := by
  unfold drawOk at h
  by_cases hu : u < 0 ∨ T.length ≤ u
  · exact draw_no S.b T.length S.ao S.cap u slot tb hu w ht.c0
  obtain ⟨v, rfl⟩ := Int.eq_ofNat_of_zero_le (show 0 ≤ u by omega)
  have H := Lib.hid ht
  clear ht
  have hways : decide (slot < 0) = true ∨ (decide (slot < 0) = false ∧ decide (32 ≤ slot) = true) := by
    simp only [decide_eq_true_eq, decide_eq_false_iff_not]; omega
  rcases hways with g1 | ⟨g1, g2⟩
  all_goals
    go_enter Try.func11, Try.ntmps11
    go_wp2_with fail
    refine (at_yes S T v (by omega) hT w H.out).mono ?_
    rintro e w' ⟨rfl, rfl⟩
    go_wp2_with fail
    go_ret2
    exact ⟨rfl, rfl⟩
theorem draw_full (S : TblS) (T : List Outs) (u slot : Int) (tb : Nat) (h : drawOk T u slot) (hf : (atT T u).length = 65536) (hT : T.length ≤ 1000) (w : World) (ht : Tbl w S T) : Calls Try.prog 11 #[.pointer (some ⟨S.b, 0, none⟩), .int .i64 u, .int .i64 slot, .pointer (some ⟨tb, 0, none⟩)] w fun e w' => e = .returned (.tuple #[.int .u16 0, .int .i64 9]) ∧ w = w' := by
  obtain ⟨⟨h1, h2⟩, h3, h4⟩ := h
  obtain ⟨v, rfl⟩ := Int.eq_ofNat_of_zero_le h1
  have g1 : decide (slot < 0) = false := by simp; omega
  have g2 : decide (32 ≤ slot) = false := by simp; omega
  rw [atT_nat] at hf
  have H := Lib.hid ht
  have HM := Lib.hid (ht.maps v (by omega))
  have HF := Lib.hid hf
  clear ht hf
  go_enter Try.func11, Try.ntmps11
  go_wp2_with fail
  refine (at_yes S T v (by omega) hT w H.out).mono ?_
  rintro e w' ⟨rfl, rfl⟩
  go_wp2_with (first | (at_len; refine wpList_lenU rfl _ rfl _ _ rfl HM.out ?_; rw [HF.out]))
  go_ret2
  exact ⟨rfl, rfl⟩
set_option maxHeartbeats 1000000 in
theorem draw_ok (S : TblS) (T : List Outs) (u slot : Int) (tb : Nat) (s : TapeS) (L : List Nat) (h : drawOk T u slot) (hf : (atT T u).length < 65536) (hT : T.length ≤ 1000) (w : World) (ht : Tbl w S T) (htp : Tape w tb s L) (hL : ∀ k ∈ L, k < w.heap.size) (hS : ∀ k ∈ S.bs, k ∈ L) (htb : ¬ S.foot tb) (hus : s.used < 9223372036854775807) :
    Calls Try.prog 11 #[.pointer (some ⟨S.b, 0, none⟩), .int .i64 u, .int .i64 slot, .pointer (some ⟨tb, 0, none⟩)] w fun e w' =>
      e = .returned (.tuple #[.int .u16 (idOf (atT T u) (s.draw % 65536)), .int .i64 0]) ∧ Tbl w' S (drawT T u slot (idOf (atT T u) (s.draw % 65536))) ∧ Tape w' tb s.next L ∧ Kept (fun k => k = tb ∨ k ∈ S.bs) w w' := by
  obtain ⟨⟨h1, h2⟩, h3, h4⟩ := h
  obtain ⟨v, rfl⟩ := Int.eq_ofNat_of_zero_le h1
  have g1 : decide (slot < 0) = false := by simp; omega
  have g2 : decide (32 ≤ slot) = false := by simp; omega
  have hlen := ht.len
  have hbs : S.bs.getD v 0 ∈ S.bs := by rw [List.getD_eq_getElem?_getD, List.getElem?_eq_getElem (by omega)]; exact List.getElem_mem _
  have hbt : S.bs.getD v 0 ≠ tb := fun e => htb (.inr (.inr (e ▸ hbs)))
  unfold drawT
  rw [atT_nat] at hf ⊢
  obtain ⟨j, j1, j2, j3⟩ := first_free hf (s.draw % 65536)
  rw [idOf_eq j1 j2 j3]
  have hx0 : U16 (s.draw % 65536) := by unfold U16; omega
  have hwr : IntKind.u16.wrap s.draw = s.draw % 65536 := by rw [IntKind.wrap_u16]
  have HWR := Lib.hid hwr
  obtain ⟨x, hx⟩ : ∃ x, s.draw % 65536 = x := ⟨_, rfl⟩
  rw [hx] at hwr j2 j3 hx0 ⊢
  have H := Lib.hid ht
  have HTP := Lib.hid htp
  obtain ⟨m, hm⟩ : ∃ m, T.getD v [] = m := ⟨_, rfl⟩
  obtain ⟨B, hB⟩ : ∃ B, S.bs.getD v 0 = B := ⟨_, rfl⟩
  have HM := Lib.hid (ht.maps v (by omega))
  have HAT := Lib.hid (at_yes S T v (by omega) hT w ht)
  rw [hm, hB] at HM
  rw [hB] at HAT hbs hbt
  rw [hm] at hf j2 j3 ⊢
  have HB := Lib.hid hB
  have HL := Lib.hid hL
  have HS := Lib.hid hS
  have J2 := Lib.hid j2
  have J3 := Lib.hid j3
  have HX := Lib.hid hwr
  have e5 : ((m.length : Int) == 65536) = false := by simp; omega
  clear ht htp hx hm hB hL hS j2 j3 hwr HWR
  go_enter Try.func11, Try.ntmps11
  go_wp2_with fail
  refine HAT.out.mono ?_
  rintro e w' ⟨rfl, rfl⟩
  go_wp2_with (first | (at_len; refine wpList_lenU rfl _ rfl _ _ rfl HM.out ?_))
  refine (next_any tb s L w HTP.out HL.out hus).mono ?_
  rintro e w1 ⟨rfl, ht1, hk1⟩
  have HT1 := Lib.hid ht1
  have HK1 := Lib.hid hk1
  have HM1 := Lib.hid (HM.out.kept hk1 hbt)
  have H1 := Lib.hid (H.out.kept hk1 (fun y hy e => htb (e ▸ hy)))
  clear ht1 hk1
  have hx1 := HX.out
  have HSM := Lib.hid (show ∀ i, i ≤ j → (look m (roundAt x i)).isSome = decide (i < j) from fun i hi => by
    by_cases e : i < j
    · rw [J3.out i e]; simp [e]
    · obtain rfl : i = j := by omega
      rw [J2.out]; simp)
  have h00 := HSM.out 0 (Nat.zero_le _)
  rw [roundAt_zero hx0] at h00
  have H00 := Lib.hid h00
  clear h00
  go_wp2_with (first | (at_lookup; refine wpList_lookU rfl _ _ rfl B m rfl HM1.out x rfl hx0 ?_; rw [H00.out]))
  clear hx1
  go_loop [12, 14] (fun id out => ∃ i : Nat, i ≤ j ∧ id = .int .u16 (roundAt x i) ∧ out = .bool (decide (i < j))) (fun id _ => j - (((intOf id) - x) % 65536).toNat)
  case atStart => exact ⟨0, Nat.zero_le _, by rw [roundAt_zero hx0], rfl⟩
  case round =>
    obtain ⟨i, hi, rfl, rfl⟩ := hrel
    by_cases hlt : i < j
    · have hb : decide (i < j) = true := by simpa using hlt
      have hw : IntKind.u16.wrap (roundAt x i + 1) = roundAt x (i + 1) := by rw [IntKind.wrap_u16, roundAt_succ]
      have hm1 : (((roundAt x i) - x) % 65536).toNat = i := by unfold roundAt; omega
      have hm2 : (((roundAt x (i + 1)) - x) % 65536).toNat = i + 1 := by unfold roundAt; push_cast; omega
      have HM3 := Lib.hid (And.intro hm1 hm2)
      have hu1 := roundAt_u16 x (i + 1)
      have HS1 := Lib.hid (HSM.out (i + 1) (by omega))
      rw [hb]
      obtain ⟨y, hy⟩ : ∃ y, roundAt x (i + 1) = y := ⟨_, rfl⟩
      have HY := Lib.hid hy
      rw [hy] at hw hu1 HS1
      obtain ⟨z, hz⟩ : ∃ z, roundAt x i = z := ⟨_, rfl⟩
      have HZ := Lib.hid hz
      rw [hz] at hw ⊢
      have hzu : U16 z := by rw [← hz]; exact roundAt_u16 x i
      have hz0 : 0 ≤ z := hzu.1
      have hz1 : z ≤ 65535 := hzu.2
      clear hm1 hm2 hy hz
      go_wp2_with (first | (at_lookup; refine wpList_lookU rfl _ _ rfl B m rfl HM1.out y rfl hu1 ?_; rw [HS1.out]))
      go_round
      case rel => exact ⟨i + 1, by omega, by rw [HY.out], rfl⟩
      case measure =>
        obtain ⟨q1, q2⟩ := HM3.out
        rw [HZ.out] at q1
        rw [HY.out] at q2
        simp only [intOf]
        omega
    · have hb : decide (i < j) = false := by simpa using hlt
      obtain rfl : i = j := by omega
      rw [hb]
      have hid := roundAt_u16 x i
      obtain ⟨y, hy⟩ : ∃ y, roundAt x i = y := ⟨_, rfl⟩
      have HYY := Lib.hid hy
      rw [hy] at hid J2 ⊢
      have hsl : I64 slot := ⟨by omega, by omega⟩
      clear hy hlt hb
      go_wp2_with (first | (at_mapUpdate; refine wpList_putU rfl _ _ _ rfl B m rfl HM1.out y slot rfl rfl hid hsl J2.out ?_; rintro w2 hm2 hk2))
      go_ret2
      have hBv := HB.out
      rw [HYY.out]
      refine ⟨rfl, ?_, HT1.out.kept hk2 (fun e => hbt e.symm) (fun z _ e => by rw [e]; exact HS.out _ hbs), ?_⟩
      · have := H1.out.write (u := v) (by omega) (m := m ++ [(y, slot)]) (by rw [hBv]; exact hk2) (by rw [hBv]; exact hm2)
        simpa using this
      · exact (HK1.out.mono (fun _ _ e => Or.inl e)).trans (hk2.mono (fun _ _ e => Or.inr (by rw [e]; exact hbs)))
end Go.Proofs.Ythgioaaenfdcdaa
