/- Package repute, walked: what only reads. -/
import Derived.Test.YtnpmimjhpnhdkaaRep
namespace Go.Proofs.Ytnpmimjhpnhdkaa
open Go.RowKit

theorem Book.c0 {w : World} {b g : Nat} {s : BookS} (h : Book w b g s) : w.cell? ⟨b, 0, none⟩ = some (.int .i64 s.limit) := by rw [cell_blk h.1]; rfl
theorem Book.c1 {w : World} {b g : Nat} {s : BookS} (h : Book w b g s) : w.cell? ⟨b, 1, none⟩ = some (.int .i64 s.rest) := by rw [cell_blk h.1]; rfl
theorem Book.c2 {w : World} {b g : Nat} {s : BookS} (h : Book w b g s) : w.cell? ⟨b, 2, none⟩ = some (.slice (some ⟨g, 0, none⟩) s.l.length s.cap) := by rw [cell_blk h.1]; rfl
theorem Book.at {w : World} {b g : Nat} {s : BookS} (h : Book w b g s) {u : Nat} (hu : u < s.l.length) :
    w.cell? ⟨g, u * 7, none⟩ = some (.int .i64 s.l[u].score) ∧ w.cell? ⟨g, u * 7 + 1, none⟩ = some (.int .i64 s.l[u].agree) ∧ w.cell? ⟨g, u * 7 + 2, none⟩ = some (.int .i64 s.l[u].dissent) ∧ w.cell? ⟨g, u * 7 + 3, none⟩ = some (.int .i64 s.l[u].silent) ∧
    w.cell? ⟨g, u * 7 + 4, none⟩ = some (.bool s.l[u].rests) ∧ w.cell? ⟨g, u * 7 + 5, none⟩ = some (.int .i64 s.l[u].till) ∧ w.cell? ⟨g, u * 7 + 6, none⟩ = some (.bool s.l[u].trial) :=
  ⟨h.2.1.cell0 u hu (by decide), h.2.1.cell u 1 hu (by decide), h.2.1.cell u 2 hu (by decide), h.2.1.cell u 3 hu (by decide), h.2.1.cell u 4 hu (by decide), h.2.1.cell u 5 hu (by decide), h.2.1.cell u 6 hu (by decide)⟩
theorem Book.kept {M : Nat → Prop} {w w' : World} {b g : Nat} {s : BookS} (h : Book w b g s) (k : Kept M w w') (hb : ¬ M b) (hg : ¬ M g) : Book w' b g s := ⟨k.heap h.1 hb, h.2.1.kept k hg, h.2.2⟩
theorem Book.look {w w' : World} {b g : Nat} {s : BookS} (h : Book w b g s) (k : Kept (fun _ => False) w w') : Book w' b g s := h.kept k id id
theorem Book.ltb {w : World} {b g : Nat} {s : BookS} (h : Book w b g s) : b < w.heap.size := lt_of_block h.1
theorem Book.ltg {w : World} {b g : Nat} {s : BookS} (h : Book w b g s) : g < w.heap.size := h.2.1.lt

set_option maxRecDepth 100000 in
theorem is_nil (u : Int) (w : World) : Calls Try.prog 54 #[.pointer none, .int .i64 u] w fun e w' => e = .returned (.bool false) ∧ w = w' := by
  go_enter Try.func54, Try.ntmps54
  go_wp2_with fail
  go_ret
  exact ⟨rfl, rfl⟩
set_option maxRecDepth 100000 in
theorem is_yes (b n u : Nat) (sl : Option Addr) {cp : Nat} (hu : u < n) (_hn : n ≤ 1000) (w : World) (c : w.cell? ⟨b, 2, none⟩ = some (.slice sl n cp)) :
    Calls Try.prog 54 #[.pointer (some ⟨b, 0, none⟩), .int .i64 u] w fun e w' => e = .returned (.bool true) ∧ w = w' := by
  have h0 : decide ((0 : Int) ≤ (u : Int)) = true := by simp
  have h1 : decide ((u : Int) < (n : Int)) = true := by simp; omega
  go_enter Try.func54, Try.ntmps54
  go_wp2_with fail
  go_ret
  exact ⟨rfl, rfl⟩
set_option maxRecDepth 100000 in
theorem is_no (b n : Nat) (u : Int) (sl : Option Addr) {cp : Nat} (hu : u < 0 ∨ n ≤ u) (w : World) (c : w.cell? ⟨b, 2, none⟩ = some (.slice sl n cp)) :
    Calls Try.prog 54 #[.pointer (some ⟨b, 0, none⟩), .int .i64 u] w fun e w' => e = .returned (.bool false) ∧ w = w' := by
  by_cases hu0 : u < 0
  · have h0 : decide ((0 : Int) ≤ u) = false := by simp; omega
    go_enter Try.func54, Try.ntmps54
    go_wp2_with fail
    go_ret
    exact ⟨rfl, rfl⟩
  · have h0 : decide ((0 : Int) ≤ u) = true := by simp; omega
    have h1 : decide (u < (n : Int)) = false := by simp; omega
    go_enter Try.func54, Try.ntmps54
    go_wp2_with fail
    go_ret
    exact ⟨rfl, rfl⟩

/-- An upstream that is none. -/
def One.none : One := ⟨0, 0, 0, 0, false, 0, false⟩
/-- What 'of' tells. -/
def BookS.of (s : BookS) (u : Int) : One := if 0 ≤ u ∧ u < s.l.length then s.l.getD u.toNat One.none else One.none

set_option maxRecDepth 100000 in
theorem of_none (p : Value) (u : Int) (w : World) (hno : ∀ w1 : World, Kept (fun _ => False) w w1 → Calls Try.prog 54 #[p, .int .i64 u] w1 fun e w' => e = .returned (.bool false) ∧ w1 = w') :
    Calls Try.prog 41 #[p, .int .i64 u] w fun e w' => e = .returned (.agg One.none.cells.toArray) ∧ Kept (fun _ => False) w w' := by
  go_enter Try.func41, Try.ntmps41
  go_wp2_with fail
  refine (hno _ ((Kept.refl _).alloc _)).mono ?_
  rintro e w' ⟨rfl, rfl⟩
  go_wp2_with fail
  exact bodyPost_ret (v := .agg One.none.cells.toArray) (by simp [results, Try.results41, go_sem, One.none, One.cells]) rfl ⟨rfl, (Kept.refl _).alloc _⟩
set_option maxRecDepth 100000 in
theorem of_yes (b g : Nat) (s : BookS) (u : Nat) (hu : u < s.l.length) (hn : s.l.length ≤ 1000) (w : World) (h : Book w b g s) :
    Calls Try.prog 41 #[.pointer (some ⟨b, 0, none⟩), .int .i64 u] w fun e w' => e = .returned (.agg s.l[u].cells.toArray) ∧ Kept (fun _ => False) w w' := by
  obtain ⟨x0, x1, x2, x3, x4, x5, x6⟩ := h.at hu
  have c2 := h.c2
  have hb := h.ltb
  have hg := h.ltg
  have hbn : b ≠ w.heap.size := by omega
  have hgn : g ≠ w.heap.size := by omega
  have i0 : (0 : Int) ≤ (u : Int) := by omega
  have i1 : (u : Int) < (s.l.length : Int) := by omega
  obtain ⟨x, hx⟩ : ∃ x, x = s.l[u] := ⟨_, rfl⟩
  rw [← hx] at x0 x1 x2 x3 x4 x5 x6 ⊢
  have HX := Lib.hid hx
  have H := Lib.hid h
  clear hx h
  go_enter Try.func41, Try.ntmps41
  go_wp2_with fail
  refine (is_yes (cp := s.cap) b s.l.length u (some ⟨g, 0, none⟩) hu hn _ ?_).mono ?_
  · rw [World.cell?_alloc_old _ _ _ hbn]; exact c2
  rintro e w' ⟨rfl, rfl⟩
  go_wp2_with fail
  exact bodyPost_ret (v := .agg x.cells.toArray) (by simp [results, Try.results41, go_sem, One.cells]) rfl ⟨rfl, (Kept.refl _).alloc _⟩
theorem of_any (b g : Nat) (s : BookS) (u : Int) (hn : s.l.length ≤ 1000) (w : World) (h : Book w b g s) :
    Calls Try.prog 41 #[.pointer (some ⟨b, 0, none⟩), .int .i64 u] w fun e w' => e = .returned (.agg (s.of u).cells.toArray) ∧ Kept (fun _ => False) w w' := by
  unfold BookS.of
  by_cases hu : 0 ≤ u ∧ u < s.l.length
  · obtain ⟨k, rfl⟩ := Int.eq_ofNat_of_zero_le hu.1
    rw [if_pos hu]
    have hk : k < s.l.length := by omega
    have := of_yes b g s k hk hn w h
    rw [show s.l.getD (k : Int).toNat One.none = s.l[k] by simp [hk]]
    exact this
  · rw [if_neg hu]
    exact of_none _ u w (fun w1 hk => is_no b s.l.length u _ (by omega) w1 (h.look hk).c2)
theorem of_nil (u : Int) (w : World) : Calls Try.prog 41 #[.pointer none, .int .i64 u] w fun e w' => e = .returned (.agg One.none.cells.toArray) ∧ Kept (fun _ => False) w w' :=
  of_none _ u w (fun w1 _ => is_nil u w1)

section
variable (x : One)
theorem score_fld (w : World) : (Instr.field 69 (.agg #[.int .i64 x.score, .int .i64 x.agree, .int .i64 x.dissent, .int .i64 x.silent, .bool x.rests, .int .i64 x.till, .bool x.trial]) 0).run Try.prog w = .ok (.int .i64 x.score) w := by kernel_rfl
theorem rests_fld (w : World) : (Instr.field 69 (.agg #[.int .i64 x.score, .int .i64 x.agree, .int .i64 x.dissent, .int .i64 x.silent, .bool x.rests, .int .i64 x.till, .bool x.trial]) 2).run Try.prog w = .ok (.bool x.rests) w := by kernel_rfl
theorem trial_fld (w : World) : (Instr.field 69 (.agg #[.int .i64 x.score, .int .i64 x.agree, .int .i64 x.dissent, .int .i64 x.silent, .bool x.rests, .int .i64 x.till, .bool x.trial]) 4).run Try.prog w = .ok (.bool x.trial) w := by kernel_rfl
theorem counts_fld (w : World) : (Instr.field 69 (.agg #[.int .i64 x.score, .int .i64 x.agree, .int .i64 x.dissent, .int .i64 x.silent, .bool x.rests, .int .i64 x.till, .bool x.trial]) 1).run Try.prog w = .ok (.agg #[.int .i64 x.agree, .int .i64 x.dissent, .int .i64 x.silent]) w := by kernel_rfl
variable (p : Value) (u : Int) (w : World) (H : Hid (Calls Try.prog 41 #[p, .int .i64 u] w fun e w' => e = .returned (.agg x.cells.toArray) ∧ Kept (fun _ => False) w w'))
include H
set_option maxRecDepth 100000 in
theorem score_of : Calls Try.prog 17 #[p, .int .i64 u] w fun e w' => e = .returned (.int .i64 x.score) ∧ Kept (fun _ => False) w w' := by
  have hf := score_fld x
  go_enter Try.func17, Try.ntmps17
  go_wp2_with fail
  refine H.out.mono ?_
  rintro e w' ⟨rfl, hk⟩
  simp only [One.cells]
  go_wp2_with fail
  go_ret
  exact ⟨rfl, hk⟩
set_option maxRecDepth 100000 in
theorem rests_of : Calls Try.prog 22 #[p, .int .i64 u] w fun e w' => e = .returned (.bool x.rests) ∧ Kept (fun _ => False) w w' := by
  have hf := rests_fld x
  go_enter Try.func22, Try.ntmps22
  go_wp2_with fail
  refine H.out.mono ?_
  rintro e w' ⟨rfl, hk⟩
  simp only [One.cells]
  go_wp2_with fail
  go_ret
  exact ⟨rfl, hk⟩
set_option maxRecDepth 100000 in
theorem trial_of : Calls Try.prog 16 #[p, .int .i64 u] w fun e w' => e = .returned (.bool x.trial) ∧ Kept (fun _ => False) w w' := by
  have hf := trial_fld x
  go_enter Try.func16, Try.ntmps16
  go_wp2_with fail
  refine H.out.mono ?_
  rintro e w' ⟨rfl, hk⟩
  simp only [One.cells]
  go_wp2_with fail
  go_ret
  exact ⟨rfl, hk⟩
end
end Go.Proofs.Ytnpmimjhpnhdkaa
