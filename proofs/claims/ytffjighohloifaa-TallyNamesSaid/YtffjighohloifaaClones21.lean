/- slices.Clone, walked at four types. -/
import Derived.Test.YtffjighohloifaaOwnS
import Derived.Test.YtffjighohloifaaOwnI
namespace Go.Proofs.Ytffjighohloifaa
open Go.RowKit

theorem info_str : (Try.prog.info? 9).map (fun i => (i.zero, i.size, i.bytes)) = some (some (.string ⟨#[]⟩), 1, 16) := by kernel_rfl
theorem info_set : (Try.prog.info? 103).map (fun i => (i.zero, i.size, i.bytes)) = some (some (.agg #[.string ⟨#[]⟩, .int .u16 0, .int .u16 0, .int .u32 0, .slice none 0 0]), 5, 48) := by kernel_rfl
theorem info_ballot : (Try.prog.info? 94).map (fun i => (i.zero, i.size, i.bytes)) = some (some (.agg #[.bool false, .string ⟨#[]⟩, .int .i64 0, .int .u8 0, .slice none 0 0, .slice none 0 0, .int .u32 0]), 7, 96) := by kernel_rfl
set_option maxRecDepth 100000 in
theorem cloneStr_any (ao : Option Addr) (n cap : Nat) (news : List Value) (w : World) (hl : news.length = n * 1) (hn : n = 0 ∨ ∃ ad, ao = some ad ∧ ∀ j u, news[j]? = some u → w.cell? (ad.add j) = some u) (h1 : ∀ u ∈ news, u.oneCell' = true) (hb : (n : Int) ≤ 1000000) :
    Calls Try.prog 63 #[.slice ao n cap] w fun e w' => ∃ ao' cap', e = .returned (.slice ao' n cap') ∧ w'.ownsRow w.heap.size 9 1 (.slice ao' n cap') n news ∧ Kept (fun _ => False) w w' := by
  cases ao with
  | none =>
    obtain rfl : n = 0 := by
      rcases hn with h | ⟨_, h, _⟩
      · exact h
      · cases h
    obtain rfl : news = [] := List.eq_nil_of_length_eq_zero (by simpa using hl)
    have hq := fun w : World => Lib.run_eql_slice_nil (P := Try.prog) w 101 9 none 0 cap 0 0 Try.underlying101
    go_enter Try.func63, Try.ntmps63
    go_wp2_with fail
    go_ret
    exact ⟨none, 0, rfl, ⟨by simp, .inl ⟨rfl, rfl⟩⟩, Kept.refl _⟩
  | some ad =>
    have hq := fun w : World => Lib.run_eql_slice_nil (P := Try.prog) w 101 9 (some ad) n cap 0 0 Try.underlying101
    obtain ⟨i0, hi, hz0, hz1, hz2⟩ := info_parts info_str
    obtain ⟨ao', cap', w1, hrun, hown, hk⟩ := clone_run (P := Try.prog) (t := 101) (ty := 101) Try.underlying101 hi hz0 hz1 hz2 rfl (by decide) (some ad) n cap news w hl hn h1 (by unfold maxLen; omega) (by omega)
    have HR := Lib.hid hrun
    have HO := Lib.hid hown
    have HK := Lib.hid hk
    clear hrun hown hk hn hl h1 hi hz0 hz1 hz2
    go_enter Try.func63, Try.ntmps63
    go_wp2_with (at_builtin; go_must (refine wpList_append_run rfl _ _ _ _ rfl _ _ rfl rfl HR.out ?_))
    go_ret
    exact ⟨ao', cap', rfl, HO.out, HK.out⟩
set_option maxRecDepth 100000 in
theorem cloneSet_any (ao : Option Addr) (n cap : Nat) (news : List Value) (w : World) (hl : news.length = n * 5) (hn : n = 0 ∨ ∃ ad, ao = some ad ∧ ∀ j u, news[j]? = some u → w.cell? (ad.add j) = some u) (h1 : ∀ u ∈ news, u.oneCell' = true) (hb : (n : Int) ≤ 1000000) :
    Calls Try.prog 62 #[.slice ao n cap] w fun e w' => ∃ ao' cap', e = .returned (.slice ao' n cap') ∧ w'.ownsRow w.heap.size 103 5 (.slice ao' n cap') n news ∧ Kept (fun _ => False) w w' := by
  cases ao with
  | none =>
    obtain rfl : n = 0 := by
      rcases hn with h | ⟨_, h, _⟩
      · exact h
      · cases h
    obtain rfl : news = [] := List.eq_nil_of_length_eq_zero (by simpa using hl)
    have hq := fun w : World => Lib.run_eql_slice_nil (P := Try.prog) w 27 103 none 0 cap 0 0 Try.underlying27
    go_enter Try.func62, Try.ntmps62
    go_wp2_with fail
    go_ret
    exact ⟨none, 0, rfl, ⟨by simp, .inl ⟨rfl, rfl⟩⟩, Kept.refl _⟩
  | some ad =>
    have hq := fun w : World => Lib.run_eql_slice_nil (P := Try.prog) w 27 103 (some ad) n cap 0 0 Try.underlying27
    obtain ⟨i0, hi, hz0, hz1, hz2⟩ := info_parts info_set
    obtain ⟨ao', cap', w1, hrun, hown, hk⟩ := clone_run (P := Try.prog) (t := 27) (ty := 27) Try.underlying27 hi hz0 hz1 hz2 rfl (by decide) (some ad) n cap news w hl hn h1 (by unfold maxLen; omega) (by omega)
    have HR := Lib.hid hrun
    have HO := Lib.hid hown
    have HK := Lib.hid hk
    clear hrun hown hk hn hl h1 hi hz0 hz1 hz2
    go_enter Try.func62, Try.ntmps62
    go_wp2_with (at_builtin; go_must (refine wpList_append_run rfl _ _ _ _ rfl _ _ rfl rfl HR.out ?_))
    go_ret
    exact ⟨ao', cap', rfl, HO.out, HK.out⟩
set_option maxRecDepth 100000 in
theorem cloneInt_any (ao : Option Addr) (n cap : Nat) (news : List Value) (w : World) (hl : news.length = n * 1) (hn : n = 0 ∨ ∃ ad, ao = some ad ∧ ∀ j u, news[j]? = some u → w.cell? (ad.add j) = some u) (h1 : ∀ u ∈ news, u.oneCell' = true) (hb : (n : Int) ≤ 1000000) :
    Calls Try.prog 38 #[.slice ao n cap] w fun e w' => ∃ ao' cap', e = .returned (.slice ao' n cap') ∧ w'.ownsRow w.heap.size 3 1 (.slice ao' n cap') n news ∧ Kept (fun _ => False) w w' := by
  cases ao with
  | none =>
    obtain rfl : n = 0 := by
      rcases hn with h | ⟨_, h, _⟩
      · exact h
      · cases h
    obtain rfl : news = [] := List.eq_nil_of_length_eq_zero (by simpa using hl)
    have hq := fun w : World => Lib.run_eql_slice_nil (P := Try.prog) w 52 3 none 0 cap 0 0 Try.underlying52
    go_enter Try.func38, Try.ntmps38
    go_wp2_with fail
    go_ret
    exact ⟨none, 0, rfl, ⟨by simp, .inl ⟨rfl, rfl⟩⟩, Kept.refl _⟩
  | some ad =>
    have hq := fun w : World => Lib.run_eql_slice_nil (P := Try.prog) w 52 3 (some ad) n cap 0 0 Try.underlying52
    obtain ⟨i0, hi, hz0, hz1, hz2⟩ := info_parts info_int
    obtain ⟨ao', cap', w1, hrun, hown, hk⟩ := clone_run (P := Try.prog) (t := 52) (ty := 52) Try.underlying52 hi hz0 hz1 hz2 rfl (by decide) (some ad) n cap news w hl hn h1 (by unfold maxLen; omega) (by omega)
    have HR := Lib.hid hrun
    have HO := Lib.hid hown
    have HK := Lib.hid hk
    clear hrun hown hk hn hl h1 hi hz0 hz1 hz2
    go_enter Try.func38, Try.ntmps38
    go_wp2_with (at_builtin; go_must (refine wpList_append_run rfl _ _ _ _ rfl _ _ rfl rfl HR.out ?_))
    go_ret
    exact ⟨ao', cap', rfl, HO.out, HK.out⟩
set_option maxRecDepth 100000 in
theorem cloneBal_any (ao : Option Addr) (n cap : Nat) (news : List Value) (w : World) (hl : news.length = n * 7) (hn : n = 0 ∨ ∃ ad, ao = some ad ∧ ∀ j u, news[j]? = some u → w.cell? (ad.add j) = some u) (h1 : ∀ u ∈ news, u.oneCell' = true) (hb : (n : Int) ≤ 1000000) :
    Calls Try.prog 45 #[.slice ao n cap] w fun e w' => ∃ ao' cap', e = .returned (.slice ao' n cap') ∧ w'.ownsRow w.heap.size 94 7 (.slice ao' n cap') n news ∧ Kept (fun _ => False) w w' := by
  cases ao with
  | none =>
    obtain rfl : n = 0 := by
      rcases hn with h | ⟨_, h, _⟩
      · exact h
      · cases h
    obtain rfl : news = [] := List.eq_nil_of_length_eq_zero (by simpa using hl)
    have hq := fun w : World => Lib.run_eql_slice_nil (P := Try.prog) w 71 94 none 0 cap 0 0 Try.underlying71
    go_enter Try.func45, Try.ntmps45
    go_wp2_with fail
    go_ret
    exact ⟨none, 0, rfl, ⟨by simp, .inl ⟨rfl, rfl⟩⟩, Kept.refl _⟩
  | some ad =>
    have hq := fun w : World => Lib.run_eql_slice_nil (P := Try.prog) w 71 94 (some ad) n cap 0 0 Try.underlying71
    obtain ⟨i0, hi, hz0, hz1, hz2⟩ := info_parts info_ballot
    obtain ⟨ao', cap', w1, hrun, hown, hk⟩ := clone_run (P := Try.prog) (t := 71) (ty := 71) Try.underlying71 hi hz0 hz1 hz2 rfl (by decide) (some ad) n cap news w hl hn h1 (by unfold maxLen; omega) (by omega)
    have HR := Lib.hid hrun
    have HO := Lib.hid hown
    have HK := Lib.hid hk
    clear hrun hown hk hn hl h1 hi hz0 hz1 hz2
    go_enter Try.func45, Try.ntmps45
    go_wp2_with (at_builtin; go_must (refine wpList_append_run rfl _ _ _ _ rfl _ _ rfl rfl HR.out ?_))
    go_ret
    exact ⟨ao', cap', rfl, HO.out, HK.out⟩
end Go.Proofs.Ytffjighohloifaa
