/- Package tally, walked: Most. -/
import Derived.Test.YtffjighohloifaaBoxAg21
namespace Go.Proofs.Ytffjighohloifaa
open Go.RowKit

def cntB (l : List Bal) (x : Bal) : Nat := if x.voted = true then l.countP (sameB x) else 0
def mostG (l xs : List Bal) : Nat := xs.foldl (fun m x => if m < cntB l x then cntB l x else m) 0
def BoxS.most (B : BoxS) : Nat := mostG B.l B.l
theorem mostG_snoc (l xs : List Bal) (x : Bal) : mostG l (xs ++ [x]) = if mostG l xs < cntB l x then cntB l x else mostG l xs := by unfold mostG; rw [List.foldl_append]; rfl
theorem cntB_le (l : List Bal) (x : Bal) : cntB l x ≤ l.length := by
  unfold cntB
  split
  · exact List.countP_le_length
  · omega
theorem mostG_le (l xs : List Bal) : mostG l xs ≤ l.length := by
  have : ∀ (m : Nat), m ≤ l.length → xs.foldl (fun m x => if m < cntB l x then cntB l x else m) m ≤ l.length := by
    induction xs with
    | nil => intro m h; exact h
    | cons x r ih =>
      intro m h
      simp only [List.foldl_cons]
      refine ih _ ?_
      split
      · exact cntB_le l x
      · exact h
  exact this 0 (Nat.zero_le _)
def cntTo (l : List Bal) (x : Bal) (j : Nat) : Nat := if x.voted = true then (l.take j).countP (sameB x) else 0
theorem cntTo_succ (l : List Bal) (x : Bal) {j : Nat} (h : j < l.length) : cntTo l x (j + 1) = cntTo l x j + if x.voted = true ∧ sameB x l[j] = true then 1 else 0 := by
  unfold cntTo
  by_cases hv : x.voted = true
  · rw [if_pos hv, if_pos hv, List.take_succ_eq_append_getElem h, List.countP_append]
    simp [hv, List.countP_cons]
  · simp [hv]
theorem cntTo_all (l : List Bal) (x : Bal) : cntTo l x l.length = cntB l x := by unfold cntTo cntB; rw [List.take_length]
theorem cntTo_le (l : List Bal) (x : Bal) (j : Nat) : cntTo l x j ≤ l.length := by
  unfold cntTo
  split
  · have := List.countP_le_length (p := sameB x) (l := l.take j)
    rw [List.length_take] at this
    omega
  · omega
set_option maxRecDepth 100000 in
set_option maxHeartbeats 4000000 in
theorem most_any {w : World} {b : Nat} {ao : Option Addr} {B : BoxS} {L : List Nat} (H : Hid (BoxAt w b ao B L)) (hl : B.l.length ≤ 1000) (m : Nat) (hm : B.most = m) :
    Calls Try.prog 15 #[.pointer (some ⟨b, 0, none⟩)] w fun e w' => e = .returned (.int .i64 m) ∧ Kept (fun _ => False) w w' := by
  obtain ⟨cap, ay, cy, lm, hb, ho, hlm, -⟩ := H.out
  have hln : lm.length = B.l.length := by rw [← hlm]; simp
  have c1 := cell_blk hb 1
  simp at c1
  have HM := Lib.hid hm
  obtain ⟨l, hle⟩ : ∃ l, B.l = l := ⟨_, rfl⟩
  obtain ⟨n, hn⟩ : ∃ n, l.length = n := ⟨_, rfl⟩
  have HLE := Lib.hid hle
  rw [hle] at c1 ho hln hl hlm
  rw [hn] at c1 ho hln hl
  have HO := Lib.hid ho
  have HLM := Lib.hid hlm
  have HN := Lib.hid hn
  clear hb ho hlm hn hm hle
  go_enter Try.func15, Try.ntmps15
  go_wp2_with fail
  go_loopw [3, 5, 6, 8, 16] (fun v3 _ _ _ c wr => ∃ k : Nat, k ≤ n ∧ c = .int .i64 k ∧ v3 = .int .i64 (mostG l (l.take k)) ∧ Kept (fun _ => False) w wr) (fun _ _ _ _ c _ => n - (intOf c).toNat)
  case atStart => exact ⟨0, by omega, rfl, rfl, Kept.refl _⟩
  case round =>
    obtain ⟨k, hk, rfl, rfl, hkw⟩ := hrel
    have KW := Lib.hid hkw
    have hb1 : mostG l (l.take k) ≤ n := by have := mostG_le l (l.take k); rw [HN.out] at this; exact this
    have d1 := hkw.cell c1 id
    have HSN := Lib.hid (fun h : k < l.length => (show mostG l (l.take (k + 1)) = if mostG l (l.take k) < cntB l l[k] then cntB l l[k] else mostG l (l.take k) from by rw [List.take_succ_eq_append_getElem h, mostG_snoc]))
    obtain ⟨q, hq⟩ : ∃ q, mostG l (l.take k) = q := ⟨_, rfl⟩
    have HQ := Lib.hid hq
    rw [hq] at hb1 HSN ⊢
    clear hkw hq
    by_cases hlt : k < n
    · obtain ⟨x, hx⟩ : ∃ x, lm[k]? = some x := ⟨_, List.getElem?_eq_getElem (by omega)⟩
      obtain ⟨g, rfl, -, z0, z1, z2, z3, z4, z5, z6⟩ := bal_cells HO.out hlt x hx
      have z0 := KW.out.cell z0 id
      have z1 := KW.out.cell z1 id
      have z2 := KW.out.cell z2 id
      have z3 := KW.out.cell z3 id
      have z4 := KW.out.cell z4 id
      have z5 := KW.out.cell z5 id
      have z6 := KW.out.cell z6 id
      have i0 : (0 : Int) ≤ (k : Int) := Int.natCast_nonneg _
      have i1 : (k : Int) < (n : Int) := by omega
      have hxb : k < l.length ∧ l[k]? = some x.b := by
        have h1 := HLM.out
        have h2 : l[k]? = some x.b := by rw [← h1, List.getElem?_map, hx]; rfl
        exact ⟨(List.getElem?_eq_some_iff.1 h2).1, h2⟩
      have HSN2 := Lib.hid (show mostG l (l.take (k + 1)) = if q < cntB l x.b then cntB l x.b else q from by
        have := HSN.out hxb.1
        rwa [(List.getElem?_eq_some_iff.1 hxb.2).2] at this)
      obtain ⟨w6, hw6⟩ : ∃ w6, wr.alloc (.cells (xCells x) 94) = w6 := ⟨_, rfl⟩
      have HXB := Lib.hid (show w6.heap[wr.heap.size]? = some (.cells (xCells x) 94 (0, 0)) from by rw [← hw6]; exact new_blk _ _)
      have KA := Lib.hid (show Kept (fun _ => False) wr w6 from by rw [← hw6]; exact (Kept.refl _).alloc _)
      have HW6 := Lib.hid hw6
      have K6 := Lib.hid (KW.out.trans KA.out)
      have e1 := KA.out.cell d1 id
      have q0 : w6.cell? ⟨wr.heap.size, 0, none⟩ = some (.bool x.b.voted) := by rw [cell_blk HXB.out]; rfl
      have q1 : w6.cell? ⟨wr.heap.size, 1, none⟩ = some (.string x.b.key) := by rw [cell_blk HXB.out]; rfl
      obtain ⟨xb, hxbe⟩ : ∃ xb, wr.heap.size = xb := ⟨_, rfl⟩
      clear hx hxb hw6 HSN
      go_upto_region 8 with (fail)
      rw [show wr.alloc (.cells #[.bool x.b.voted, .string x.b.key, .int .i64 x.b.up, .int .u8 x.b.v.code, .slice x.a1 x.b.v.sets.length x.c1, .slice x.a2 x.b.v.soa.length x.c2, .int .u32 x.b.time] 94) = w6 from HW6.out]
      rw [hxbe] at q0 q1
      clear hxbe z0 z1 z2 z3 z4 z5 z6
      go_wp2_with fail
      obtain ⟨wo, hwo⟩ : ∃ wo : World, wo = wr := ⟨_, rfl⟩
      go_loopw [6, 8, 25] (fun v6 _ c wi => ∃ j : Nat, j ≤ n ∧ c = .int .i64 j ∧ v6 = .int .i64 (cntTo l x.b j) ∧ Kept (fun _ => False) w6 wi) (fun _ _ c _ => n - (intOf c).toNat)
      case atStart => exact ⟨0, by omega, rfl, by simp [cntTo], Kept.refl _⟩
      case round =>
        obtain ⟨j, hj, rfl, rfl, hkj⟩ := hrel
        have KJ := Lib.hid hkj
        have hb2 : cntTo l x.b j ≤ n := by have := cntTo_le l x.b j; rw [HN.out] at this; exact this
        have HCS := Lib.hid (fun h : j < l.length => cntTo_succ l x.b h)
        have HCA := Lib.hid (show j = n → cntTo l x.b j = cntB l x.b from fun e => by rw [e, ← HN.out, cntTo_all])
        obtain ⟨p, hp⟩ : ∃ p, cntTo l x.b j = p := ⟨_, rfl⟩
        rw [hp] at hb2 HCS HCA ⊢
        have q0 := hkj.cell q0 id
        have q1 := hkj.cell q1 id
        have e1 := hkj.cell e1 id
        clear hkj hp
        by_cases hjn : j < n
        · obtain ⟨y, hy⟩ : ∃ y, lm[j]? = some y := ⟨_, List.getElem?_eq_getElem (by omega)⟩
          obtain ⟨g', hgg, -, z0, z1, z2, z3, z4, z5, z6⟩ := bal_cells HO.out hjn y hy
          simp only [Option.some.injEq, Addr.mk.injEq, and_true] at hgg
          subst hgg
          have KWJ := K6.out.trans KJ.out
          have z0 := KWJ.cell z0 id
          have z1 := KWJ.cell z1 id
          have z2 := KWJ.cell z2 id
          have z3 := KWJ.cell z3 id
          have z4 := KWJ.cell z4 id
          have z5 := KWJ.cell z5 id
          have z6 := KWJ.cell z6 id
          have j0 : (0 : Int) ≤ (j : Int) := Int.natCast_nonneg _
          have j1 : (j : Int) < (n : Int) := by omega
          have hyb : j < l.length ∧ l[j]? = some y.b := by
            have h1 := HLM.out
            have h2 : l[j]? = some y.b := by rw [← h1, List.getElem?_map, hy]; rfl
            exact ⟨(List.getElem?_eq_some_iff.1 h2).1, h2⟩
          have HCS2 := Lib.hid (show cntTo l x.b (j + 1) = p + if x.b.voted = true ∧ sameB x.b y.b = true then 1 else 0 from by
            have := HCS.out hyb.1
            rwa [(List.getElem?_eq_some_iff.1 hyb.2).2] at this)
          obtain ⟨w8, hw8⟩ : ∃ w8, wr.alloc (.cells (xCells y) 94) = w8 := ⟨_, rfl⟩
          have HYB := Lib.hid (show w8.heap[wr.heap.size]? = some (.cells (xCells y) 94 (0, 0)) from by rw [← hw8]; exact new_blk _ _)
          have K8 := Lib.hid (show Kept (fun _ => False) wr w8 from by rw [← hw8]; exact (Kept.refl _).alloc _)
          have HW8 := Lib.hid hw8
          have q0 := K8.out.cell q0 id
          have q1 := K8.out.cell q1 id
          have y0 : w8.cell? ⟨wr.heap.size, 0, none⟩ = some (.bool y.b.voted) := by rw [cell_blk HYB.out]; rfl
          have y1 : w8.cell? ⟨wr.heap.size, 1, none⟩ = some (.string y.b.key) := by rw [cell_blk HYB.out]; rfl
          have KJ8 := Lib.hid (KJ.out.trans K8.out)
          clear KWJ hy hyb hw8 HCS HCA
          by_cases hv : x.b.voted = false
          · have HV := Lib.hid hv
            rw [hv] at q0
            clear hv
            go_upto_region 11 with (fail)
            rw [show wr.alloc (.cells #[.bool y.b.voted, .string y.b.key, .int .i64 y.b.up, .int .u8 y.b.v.code, .slice y.a1 y.b.v.sets.length y.c1, .slice y.a2 y.b.v.soa.length y.c2, .int .u32 y.b.time] 94) = w8 from HW8.out]
            go_wp2_with fail
            go_roundw
            case measure => simp [intOf]; omega
            case rel =>
              refine ⟨j + 1, by omega, by go_num, ?_, KJ8.out⟩
              rw [HCS2.out, if_neg (fun h => by rw [HV.out] at h; cases h.1)]; rfl
          · have hv' : x.b.voted = true := by simpa using hv
            have HV := Lib.hid hv'
            have heq := fun w => choice_eql y.b.voted true y.b.key x.b.key w
            have hsb : sameB x.b y.b = decide (y.b.voted = true ∧ y.b.key = x.b.key) := by unfold sameB; rw [hv']
            obtain ⟨r, hr⟩ : ∃ r, decide (y.b.voted = true ∧ y.b.key = x.b.key) = r := ⟨_, rfl⟩
            rw [hr] at heq hsb
            have HSB := Lib.hid hsb
            rw [hv'] at q0
            clear hv hv' hsb hr
            go_upto_region 11 with (fail)
            rw [show wr.alloc (.cells #[.bool y.b.voted, .string y.b.key, .int .i64 y.b.up, .int .u8 y.b.v.code, .slice y.a1 y.b.v.sets.length y.c1, .slice y.a2 y.b.v.soa.length y.c2, .int .u32 y.b.time] 94) = w8 from HW8.out]
            cases r with
            | true =>
              go_wp2_with fail
              go_roundw
              case measure => simp [intOf]; omega
              case rel =>
                refine ⟨j + 1, by omega, by go_num, ?_, KJ8.out⟩
                rw [HCS2.out, if_pos ⟨HV.out, HSB.out⟩]; go_num
            | false =>
              go_wp2_with fail
              go_roundw
              case measure => simp [intOf]; omega
              case rel =>
                refine ⟨j + 1, by omega, by go_num, ?_, KJ8.out⟩
                rw [HCS2.out, if_neg (fun h => by rw [HSB.out] at h; cases h.2)]; rfl
        · obtain rfl : j = n := by omega
          have hpc := HCA.out rfl
          subst hpc
          go_wp2_with fail
          go_roundw
          case measure => simp [intOf]; omega
          case rel =>
            refine ⟨k + 1, by omega, by go_num, ?_, K6.out.trans KJ.out⟩
            rw [HSN2.out]
            by_cases h : q < cntB l x.b
            · rw [if_pos h, if_pos h]
            · rw [if_neg h, if_neg h]
    · obtain rfl : k = n := by omega
      have hfull : l.take k = l := List.take_of_length_le (by have := HN.out; omega)
      have hr : q = m := by
        have h1 := HQ.out
        rw [hfull] at h1
        have h2 := HM.out
        unfold BoxS.most at h2
        rw [HLE.out] at h2
        omega
      have HR := Lib.hid hr
      clear hfull hr
      go_wp2_with fail
      go_ret
      rw [← HR.out]
      exact ⟨rfl, KW.out⟩
end Go.Proofs.Ytffjighohloifaa
