/- Package repute, walked: Copy, Due, and what a book is that nobody made. -/
import Derived.Test.YtnpmimjhpnhdkaaRep7
namespace Go.Proofs.Ytnpmimjhpnhdkaa
open Go.RowKit

theorem tab_of_owns {w : World} {base n : Nat} {ao : Option Addr} {cap : Nat} {l : List One} (h : w.ownsRow base 69 7 (.slice ao n cap) n (l.map One.cells).flatten) (hn : 0 < n) :
    ∃ g, ao = some ⟨g, 0, none⟩ ∧ base ≤ g ∧ Tab w g 69 7 One.cells l := by
  rcases h.2 with ⟨_, h2⟩ | ⟨g, c, cur, hv, hb, hg, hn, hc, hs, ht⟩
  · omega
  · simp at hv
    obtain ⟨rfl, rfl⟩ := hv
    refine ⟨g, rfl, hb, cur.toList.drop (n * 7), ?_, fun x _ => rfl⟩
    unfold Blk
    rw [← ht, List.take_append_drop]
    simpa using hg

set_option maxRecDepth 100000 in
theorem clone_any (ao : Nat) (l : List One) (cap : Nat) (hn : l.length ≤ 1000) (h0 : 0 < l.length) (w : World) (ht : Tab w ao 69 7 One.cells l) :
    Calls Try.prog 47 #[.slice (some ⟨ao, 0, none⟩) l.length cap] w fun e w' => ∃ g cap', e = .returned (.slice (some ⟨g, 0, none⟩) l.length cap') ∧ w.heap.size ≤ g ∧ Tab w' g 69 7 One.cells l ∧ Kept (fun _ => False) w w' := by
  obtain ⟨i0, hi, hz0, hz1, hz2⟩ := info_parts info_one
  obtain ⟨ao', cap', w1, hr, hown, hk⟩ := clone_run (P := Try.prog) (t := 48) (ty := 48) (e := 69) Try.underlying48 hi hz0 hz1 hz2 rfl (by decide) (some ⟨ao, 0, none⟩) l.length cap (l.map One.cells).flatten w
    (by rw [flatten_length (sz := 7) _ (by intro r hr; obtain ⟨x, _, rfl⟩ := List.mem_map.1 hr; rfl), List.length_map])
    (.inr ⟨⟨ao, 0, none⟩, rfl, fun j u hu => by
      obtain ⟨tail, hb, _⟩ := ht
      rw [addr_add, hb.cell, Nat.zero_add, List.getElem?_append_left (List.getElem?_eq_some_iff.1 hu).1]; exact hu⟩)
    (by intro u hu; obtain ⟨r, hr, hu⟩ := List.mem_flatten.1 hu; obtain ⟨x, _, rfl⟩ := List.mem_map.1 hr; simp [One.cells] at hu; rcases hu with rfl | rfl | rfl | rfl | rfl | rfl | rfl <;> rfl)
    (by unfold maxLen; omega) (by omega)
  obtain ⟨g, rfl, hg, htab⟩ := tab_of_owns hown h0
  have HT := Lib.hid htab
  have HK := Lib.hid hk
  have HG := Lib.hid hg
  have hnn : ∀ w : World, (binOp .eql 48 (.slice (some ⟨ao, 0, none⟩) l.length cap) (.slice none 0 0)).run Try.prog w = .ok (.bool false) w := fun w => by kernel_rfl
  have HR := Lib.hid hr
  clear hi hz0 hz1 hz2 hown htab hk hg hr ht
  go_enter Try.func47, Try.ntmps47
  go_wp2_with (at_builtin; go_must (refine wpList_append_run rfl _ _ _ _ rfl _ _ rfl rfl HR.out ?_))
  go_ret
  exact ⟨g, cap', rfl, HG.out, HT.out, HK.out⟩

set_option maxRecDepth 100000 in
theorem bcopy_nil (w : World) : Calls Try.prog 26 #[.pointer none] w fun e w' => e = .returned (.pointer none) ∧ w = w' := by
  go_enter Try.func26, Try.ntmps26
  go_wp2_with fail
  go_ret
  exact ⟨rfl, rfl⟩

set_option maxRecDepth 100000 in
theorem bcopy_any (b g : Nat) (s : BookS) (hn : s.l.length ≤ 1000) (h0 : 0 < s.l.length) (w : World) (h : Book w b g s) :
    Calls Try.prog 26 #[.pointer (some ⟨b, 0, none⟩)] w fun e w' => ∃ b' g' cap, e = .returned (.pointer (some ⟨b', 0, none⟩)) ∧ w.heap.size ≤ b' ∧ w.heap.size ≤ g' ∧ Book w' b' g' { s with cap := cap } ∧ Kept (fun _ => False) w w' := by
  have c0 := h.c0
  have c1 := h.c1
  have c2 := h.c2
  have hb := h.ltb
  have hbn : b ≠ w.heap.size := by omega
  have H := Lib.hid h
  clear h
  go_enter Try.func26, Try.ntmps26
  go_wp2_with fail
  refine (clone_any g s.l s.cap hn h0 _ (H.out.look ((Kept.refl _).alloc _)).2.1).mono ?_
  rintro e w' ⟨g', cap', rfl, hg', ht, hk⟩
  have hbk := hk.heap (new_blk w _) id
  have hs := hk.size
  simp at hg' hs
  have HB := Lib.hid hbk
  have HT := Lib.hid ht
  have HK := Lib.hid (((Kept.refl w).alloc _).trans hk)
  have HS := Lib.hid hg'
  clear hk ht
  have d2 := cell_blk hbk 2
  have f2 := free_blk hbk 2
  simp at d2
  clear hbk
  go_wp2_with fail
  go_ret
  refine ⟨w.heap.size, g', cap', rfl, Nat.le_refl _, by have := HS.out; omega, ⟨?_, HT.out.setOther _ _ (by have := HS.out; simp; omega), by have := HS.out; omega⟩, HK.out.fresh (Nat.le_refl _) _ _⟩
  rw [set_blk HB.out]
  simp
end Go.Proofs.Ytnpmimjhpnhdkaa
