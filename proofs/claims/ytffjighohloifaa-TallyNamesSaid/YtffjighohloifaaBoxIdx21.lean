/- slices.IndexFunc at ballots, by the two tests of package tally. -/
import Derived.Test.YtffjighohloifaaBox21
namespace Go.Proofs.Ytffjighohloifaa
open Go.RowKit

set_option maxRecDepth 100000 in
set_option maxHeartbeats 1000000 in
theorem idxHas_any (cv : Value) (p : Nat → Bool) (ao : Option Addr) (n cap : Nat) (lm : List BalM) (hn : lm.length = n) (hl : n ≤ 1000) (w : World) (h : w.ownsRow 0 94 7 (.slice ao n cap) n (lm.map BalM.cells).flatten)
    (HC : Hid (∀ (i : Nat) (x : BalM), lm[i]? = some x → ∀ wx, Kept (fun _ => False) w wx → Calls Try.prog 44 #[.agg #[.bool x.b.voted, .string x.b.key, .int .i64 x.b.up, .int .u8 x.b.v.code, .slice x.a1 x.b.v.sets.length x.c1, .slice x.a2 x.b.v.soa.length x.c2, .int .u32 x.b.time], cv] wx fun e w' => e = .returned (.bool (p i)) ∧ Kept (fun _ => False) wx w')) :
    Calls Try.prog 35 #[.slice ao n cap, .func (.func 44) #[] #[cv]] w fun e w' => e = .returned (.int .i64 (idxP p n)) ∧ Kept (fun _ => False) w w' := by
  have H := Lib.hid h
  have HN := Lib.hid hn
  clear h hn
  go_enter Try.func35, Try.ntmps35
  go_wp2_with fail
  go_loopw [5, 8] (fun _ c wr => ∃ k : Nat, k ≤ n ∧ c = .int .i64 k ∧ Hid (∀ i, i < k → p i = false) ∧ Kept (fun _ => False) w wr) (fun _ c _ => n - (intOf c).toNat)
  case atStart => exact ⟨0, by omega, rfl, Lib.hid (fun i hi => absurd hi (by omega)), Kept.refl _⟩
  case round =>
    obtain ⟨k, hk, rfl, hp, hkw⟩ := hrel
    have KW := Lib.hid hkw
    clear hkw
    by_cases hlt : k < n
    · obtain ⟨x, hx⟩ : ∃ x, lm[k]? = some x := ⟨_, List.getElem?_eq_getElem (by have := HN.out; omega)⟩
      obtain ⟨g, rfl, -, x0, x1, x2, x3, x4, x5, x6⟩ := bal_cells H.out hlt x hx
      have y0 := KW.out.cell x0 id
      have y1 := KW.out.cell x1 id
      have y2 := KW.out.cell x2 id
      have y3 := KW.out.cell x3 id
      have y4 := KW.out.cell x4 id
      have y5 := KW.out.cell x5 id
      have y6 := KW.out.cell x6 id
      have i0 : (0 : Int) ≤ (k : Int) := Int.natCast_nonneg _
      have i1 : (k : Int) < (n : Int) := by omega
      have HX := Lib.hid hx
      clear x0 x1 x2 x3 x4 x5 x6 hx
      go_wp2_with fail
      refine (HC.out k x HX.out _ KW.out).mono ?_
      rintro e w2 ⟨rfl, hk2⟩
      have K2 := Lib.hid (KW.out.trans hk2)
      clear hk2
      obtain ⟨r, hr⟩ : ∃ r, p k = r := ⟨_, rfl⟩
      have HR := Lib.hid hr
      rw [hr]
      clear hr
      cases r
      · go_wp2_with fail
        go_roundw
        case measure => simp [intOf]; omega
        case rel => exact ⟨k + 1, by omega, by go_num, Lib.hid (fun i hi => by
          by_cases e : i = k
          · subst e; exact HR.out
          · exact hp.out i (by omega)), K2.out⟩
      · go_wp2_with fail
        go_ret
        exact ⟨by rw [idxP_at hlt HR.out hp.out]; rfl, K2.out⟩
    · obtain rfl : k = n := by omega
      go_wp2_with fail
      go_ret
      exact ⟨by rw [idxP_none hp.out]; rfl, KW.out⟩
set_option maxRecDepth 100000 in
set_option maxHeartbeats 1000000 in
theorem idxWon_any (cv : Value) (p : Nat → Bool) (ao : Option Addr) (n cap : Nat) (lm : List BalM) (hn : lm.length = n) (hl : n ≤ 1000) (w : World) (h : w.ownsRow 0 94 7 (.slice ao n cap) n (lm.map BalM.cells).flatten)
    (HC : Hid (∀ (i : Nat) (x : BalM), lm[i]? = some x → ∀ wx, Kept (fun _ => False) w wx → Calls Try.prog 36 #[.agg #[.bool x.b.voted, .string x.b.key, .int .i64 x.b.up, .int .u8 x.b.v.code, .slice x.a1 x.b.v.sets.length x.c1, .slice x.a2 x.b.v.soa.length x.c2, .int .u32 x.b.time], cv] wx fun e w' => e = .returned (.bool (p i)) ∧ Kept (fun _ => False) wx w')) :
    Calls Try.prog 35 #[.slice ao n cap, .func (.func 36) #[] #[cv]] w fun e w' => e = .returned (.int .i64 (idxP p n)) ∧ Kept (fun _ => False) w w' := by
  have H := Lib.hid h
  have HN := Lib.hid hn
  clear h hn
  go_enter Try.func35, Try.ntmps35
  go_wp2_with fail
  go_loopw [5, 8] (fun _ c wr => ∃ k : Nat, k ≤ n ∧ c = .int .i64 k ∧ Hid (∀ i, i < k → p i = false) ∧ Kept (fun _ => False) w wr) (fun _ c _ => n - (intOf c).toNat)
  case atStart => exact ⟨0, by omega, rfl, Lib.hid (fun i hi => absurd hi (by omega)), Kept.refl _⟩
  case round =>
    obtain ⟨k, hk, rfl, hp, hkw⟩ := hrel
    have KW := Lib.hid hkw
    clear hkw
    by_cases hlt : k < n
    · obtain ⟨x, hx⟩ : ∃ x, lm[k]? = some x := ⟨_, List.getElem?_eq_getElem (by have := HN.out; omega)⟩
      obtain ⟨g, rfl, -, x0, x1, x2, x3, x4, x5, x6⟩ := bal_cells H.out hlt x hx
      have y0 := KW.out.cell x0 id
      have y1 := KW.out.cell x1 id
      have y2 := KW.out.cell x2 id
      have y3 := KW.out.cell x3 id
      have y4 := KW.out.cell x4 id
      have y5 := KW.out.cell x5 id
      have y6 := KW.out.cell x6 id
      have i0 : (0 : Int) ≤ (k : Int) := Int.natCast_nonneg _
      have i1 : (k : Int) < (n : Int) := by omega
      have HX := Lib.hid hx
      clear x0 x1 x2 x3 x4 x5 x6 hx
      go_wp2_with fail
      refine (HC.out k x HX.out _ KW.out).mono ?_
      rintro e w2 ⟨rfl, hk2⟩
      have K2 := Lib.hid (KW.out.trans hk2)
      clear hk2
      obtain ⟨r, hr⟩ : ∃ r, p k = r := ⟨_, rfl⟩
      have HR := Lib.hid hr
      rw [hr]
      clear hr
      cases r
      · go_wp2_with fail
        go_roundw
        case measure => simp [intOf]; omega
        case rel => exact ⟨k + 1, by omega, by go_num, Lib.hid (fun i hi => by
          by_cases e : i = k
          · subst e; exact HR.out
          · exact hp.out i (by omega)), K2.out⟩
      · go_wp2_with fail
        go_ret
        exact ⟨by rw [idxP_at hlt HR.out hp.out]; rfl, K2.out⟩
    · obtain rfl : k = n := by omega
      go_wp2_with fail
      go_ret
      exact ⟨by rw [idxP_none hp.out]; rfl, KW.out⟩
end Go.Proofs.Ytffjighohloifaa
