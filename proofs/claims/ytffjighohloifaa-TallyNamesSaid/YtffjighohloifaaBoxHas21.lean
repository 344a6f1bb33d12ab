/- Package tally, walked: Has. -/
import Derived.Test.YtffjighohloifaaBoxIdx21
namespace Go.Proofs.Ytffjighohloifaa
open Go.RowKit

def hasB (l : List Bal) (u : Int) : Bool := l.any (fun x => decide (x.up = u))
theorem idxP_any (p : Nat → Bool) (n : Nat) : decide (0 ≤ idxP p n) = (List.range n).any p := by
  unfold idxP
  cases h : (List.range n).find? p with
  | none =>
    have : (List.range n).any p = false := by
      rw [List.any_eq_false]
      intro i hi
      have := List.find?_eq_none.1 h i hi
      exact this
    rw [this]; rfl
  | some k =>
    have hk := List.find?_some h
    have hm := List.mem_of_find?_eq_some h
    have : (List.range n).any p = true := List.any_eq_true.2 ⟨k, hm, hk⟩
    rw [this]
    simp
theorem any_range {α : Type} (l : List α) (q : α → Bool) (p : Nat → Bool) (h : ∀ i (hi : i < l.length), p i = q l[i]) : (List.range l.length).any p = l.any q := by
  rw [Bool.eq_iff_iff, List.any_eq_true, List.any_eq_true]
  constructor
  · rintro ⟨i, hi, hp⟩
    have hi' := List.mem_range.1 hi
    exact ⟨l[i], List.getElem_mem hi', by rw [← h i hi']; exact hp⟩
  · rintro ⟨x, hx, hq⟩
    obtain ⟨i, hi, rfl⟩ := List.getElem_of_mem hx
    exact ⟨i, List.mem_range.2 hi, by rw [h i hi]; exact hq⟩
set_option maxRecDepth 100000 in
theorem has1_any (x : BalM) (u : Int) (ub : Nat) (r : Bool) (hr : (x.b.up == u) = r) (w : World) (hu : w.cell? ⟨ub, 0, none⟩ = some (.int .i64 u)) :
    Calls Try.prog 44 #[.agg #[.bool x.b.voted, .string x.b.key, .int .i64 x.b.up, .int .u8 x.b.v.code, .slice x.a1 x.b.v.sets.length x.c1, .slice x.a2 x.b.v.soa.length x.c2, .int .u32 x.b.time], .pointer (some ⟨ub, 0, none⟩)] w fun e w' => e = .returned (.bool r) ∧ Kept (fun _ => False) w w' := by
  have HR := Lib.hid hr
  have hub := World.block_lt_of_cell? _ _ hu
  have hne : ub ≠ w.heap.size := by simp at hub; omega
  have hu2 : (w.alloc (.cells #[.bool x.b.voted, .string x.b.key, .int .i64 x.b.up, .int .u8 x.b.v.code, .slice x.a1 x.b.v.sets.length x.c1, .slice x.a2 x.b.v.soa.length x.c2, .int .u32 x.b.time] 94)).cell? ⟨ub, 0, none⟩ = some (.int .i64 u) := (World.cell?_alloc_old _ _ _ hne).trans hu
  clear hr hub
  go_enter Try.func44, Try.ntmps44
  go_wp2_with fail
  go_ret
  rw [← HR.out]
  exact ⟨rfl, (Kept.refl _).alloc _⟩
set_option maxRecDepth 100000 in
set_option maxHeartbeats 1000000 in
theorem has_any {w : World} {b : Nat} {ao : Option Addr} {B : BoxS} {L : List Nat} (H : Hid (BoxAt w b ao B L)) (hl : B.l.length ≤ 1000) (u : Int) (r : Bool) (hr : hasB B.l u = r) :
    Calls Try.prog 24 #[.pointer (some ⟨b, 0, none⟩), .int .i64 u] w fun e w' => e = .returned (.bool r) ∧ Kept (fun _ => False) w w' := by
  obtain ⟨cap, ay, cy, lm, hb, ho, hlm, -, -, -, -, -⟩ := H.out
  have hblt := lt_of_block hb
  have hne : b ≠ w.heap.size := by omega
  have c1 := cell_blk hb 1
  simp at c1
  have hln : lm.length = B.l.length := by rw [← hlm]; simp
  obtain ⟨n, hn⟩ : ∃ n, B.l.length = n := ⟨_, rfl⟩
  have HR := Lib.hid (show (List.range n).any (fun i => ((lm[i]?).map (fun x => x.b.up == u)).getD false) = r from by
    rw [← hn, ← hln, any_range lm (fun x => x.b.up == u) _ (fun i hi => by simp [hi]), ← hr, ← hlm]
    unfold hasB
    rw [List.any_map]
    congr 1)
  rw [hn] at c1 ho hln hl
  have HO := Lib.hid ho
  have K0 := Lib.hid ((Kept.refl (M := fun _ => False) w).alloc (.cells #[.int .i64 u] 3))
  have HU := Lib.hid (show (w.alloc (.cells #[.int .i64 u] 3)).cell? ⟨w.heap.size, 0, none⟩ = some (.int .i64 u) from by rw [cell_blk (new_blk _ _)]; rfl)
  have HOL := Lib.hid (show (w.alloc (.cells #[.int .i64 u] 3)).ownsRow 0 94 7 (.slice ao n cap) n (lm.map BalM.cells).flatten from World.ownsRow.alloc ho _)
  have HCL := Lib.hid (show ∀ (i : Nat) (x : BalM), lm[i]? = some x → ∀ wx, Kept (fun _ => False) (w.alloc (.cells #[.int .i64 u] 3)) wx → Calls Try.prog 44 #[.agg #[.bool x.b.voted, .string x.b.key, .int .i64 x.b.up, .int .u8 x.b.v.code, .slice x.a1 x.b.v.sets.length x.c1, .slice x.a2 x.b.v.soa.length x.c2, .int .u32 x.b.time], .pointer (some ⟨w.heap.size, 0, none⟩)] wx fun e w' => e = .returned (.bool (((lm[i]?).map (fun x => x.b.up == u)).getD false)) ∧ Kept (fun _ => False) wx w' from
    fun i x hx wx k => has1_any x u w.heap.size _ (by rw [hx]; rfl) wx (k.cell HU.out id))
  clear hb ho hlm hr hn HU
  go_enter Try.func24, Try.ntmps24
  go_wp2_with fail
  have HCF : Hid (Calls Try.prog 43 #[.slice ao n cap, .func (.func 44) #[] #[.pointer (some ⟨w.heap.size, 0, none⟩)]] (w.alloc (.cells #[.int .i64 u] 3)) fun e w' => e = .returned (.bool r) ∧ Kept (fun _ => False) (w.alloc (.cells #[.int .i64 u] 3)) w') := by
    refine Lib.hid ?_
    go_enter Try.func43, Try.ntmps43
    go_wp2_with fail
    refine (idxHas_any (.pointer (some ⟨w.heap.size, 0, none⟩)) _ ao n cap lm hln hl _ HOL.out HCL).mono ?_
    rintro e w2 ⟨rfl, hk2⟩
    have K2 := Lib.hid hk2
    clear hk2
    have hx := idxP_any (fun i => ((lm[i]?).map (fun x => x.b.up == u)).getD false) n
    rw [HR.out] at hx
    obtain ⟨q, hq⟩ : ∃ q, idxP (fun i => ((lm[i]?).map (fun x => x.b.up == u)).getD false) n = q := ⟨_, rfl⟩
    rw [hq] at hx ⊢
    have HX := Lib.hid hx
    clear hx hq
    go_wp2_with fail
    go_ret
    rw [← HX.out]
    exact ⟨rfl, K2.out⟩
  refine HCF.out.mono ?_
  rintro e w2 ⟨rfl, hk2⟩
  have K2 := Lib.hid (K0.out.trans hk2)
  clear hk2
  go_wp2_with fail
  go_ret
  exact ⟨rfl, K2.out⟩
end Go.Proofs.Ytffjighohloifaa
