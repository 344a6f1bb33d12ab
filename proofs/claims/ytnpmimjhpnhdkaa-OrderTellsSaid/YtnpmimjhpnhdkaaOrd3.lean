/- slices.SortStableFunc at few elements. -/
import Derived.Test.YtnpmimjhpnhdkaaOrd2
namespace Go.Proofs.Ytnpmimjhpnhdkaa
open Go.RowKit

set_option maxRecDepth 100000 in
theorem isort_nil (s : Value) (f : Value) (w : World) : Calls Try.prog 60 #[s, .int .i64 0, .int .i64 0, f] w fun e w' => e = .returned (.tuple #[]) ∧ w = w' := by
  go_enter Try.func60, Try.ntmps60
  go_wp2_with fail
  go_loop [8] (fun c => c = .int .i64 1) (fun _ => 0)
  case atStart => rfl
  case round =>
    obtain rfl := hrel
    go_wp2_with fail
    go_end0
    exact ⟨rfl, rfl⟩
set_option maxRecDepth 100000 in
theorem stable_any (s f : Value) (n : Nat) (hn : n ≤ 9) (w : World) (Q : World → Prop) (HI : Hid (Calls Try.prog 60 #[s, .int .i64 0, .int .i64 n, f] w fun e w' => e = .returned (.tuple #[]) ∧ Q w')) :
    Calls Try.prog 51 #[s, .int .i64 n, f] w fun e w' => e = .returned (.tuple #[]) ∧ Q w' := by
  have d1 : decide ((20 : Int) ≤ (n : Int)) = false := by simp; omega
  have d2 : decide ((20 : Int) < (n : Int)) = false := by simp; omega
  go_enter Try.func51, Try.ntmps51
  go_wp2_with fail
  go_loop [7, 8] (fun a b => a = .int .i64 0 ∧ b = .int .i64 20) (fun _ _ => 0)
  case atStart => exact ⟨rfl, rfl⟩
  case round =>
    obtain ⟨rfl, rfl⟩ := hrel
    go_wp2_with fail
    refine HI.out.mono ?_
    rintro e w1 ⟨rfl, hq⟩
    have HQ := Lib.hid hq
    clear hq
    go_wp2_with fail
    go_loop [6] (fun a => a = .int .i64 20) (fun _ => 0)
    case atStart => rfl
    case round =>
      obtain rfl := hrel
      go_wp2_with fail
      go_end0
      exact ⟨rfl, HQ.out⟩
set_option maxRecDepth 100000 in
theorem sstable_any (s : Option Addr) (f : Value) (n cap : Nat) (hn : n ≤ 9) (w : World) (Q : World → Prop) (HI : Hid (Calls Try.prog 60 #[.slice s n cap, .int .i64 0, .int .i64 n, f] w fun e w' => e = .returned (.tuple #[]) ∧ Q w')) :
    Calls Try.prog 37 #[.slice s n cap, f] w fun e w' => e = .returned (.tuple #[]) ∧ Q w' := by
  go_enter Try.func37, Try.ntmps37
  go_wp2_with fail
  refine (stable_any _ f n hn w Q HI).mono ?_
  rintro e w1 ⟨rfl, hq⟩
  go_wp2_with fail
  go_end0
  exact ⟨rfl, hq⟩
/-- A row of candidates that the call owns, sorted. -/
theorem sort_own (base : Nat) (ao : Option Addr) (n cap : Nat) (l : List Cand) (w : World) (h : OwnsS w base 72 3 Cand.cells (.slice ao n cap) l) (hn : l.length ≤ 9) (hok : ∀ c ∈ l, c.ok) :
    Calls Try.prog 37 #[.slice ao n cap, .func (.func 38) #[] #[]] w fun e w' => e = .returned (.tuple #[]) ∧
      (∀ u (hu : u < (sortK Cand.key l).length), ∃ g, ao = some ⟨g, 0, none⟩ ∧ base ≤ g ∧ ∀ j, j < 3 → w'.cell? ⟨g, u * 3 + j, none⟩ = ((sortK Cand.key l)[u].cells)[j]?) ∧ Kept (fun k => base ≤ k) w w' := by
  have hnl : n = l.length := by
    rcases h.2 with ⟨h1, h2⟩ | ⟨g, c, cur, h1, _⟩
    · simp at h1; omega
    · simp at h1; exact h1.2.1
  subst hnl
  refine sstable_any ao _ l.length cap hn w (fun w' => (∀ u (hu : u < (sortK Cand.key l).length), ∃ g, ao = some ⟨g, 0, none⟩ ∧ base ≤ g ∧ ∀ j, j < 3 → w'.cell? ⟨g, u * 3 + j, none⟩ = ((sortK Cand.key l)[u].cells)[j]?) ∧ Kept (fun k => base ≤ k) w w') (Lib.hid ?_)
  by_cases h0 : l.length = 0
  · have hl : l = [] := List.eq_nil_of_length_eq_zero h0
    subst hl
    refine (isort_nil _ _ w).mono ?_
    rintro e w' ⟨rfl, rfl⟩
    exact ⟨rfl, fun u hu => absurd hu (by simp [sortK, sortR]), Kept.refl _⟩
  · obtain ⟨g, rfl, hg, _, ht⟩ := h.tab (fun x => Cand.cells_length x) (by omega)
    refine (isort_any g l.length l cap w ht rfl hn (by omega) hok).mono ?_
    rintro e w' ⟨rfl, ht', hk⟩
    rw [sunk_all] at ht'
    exact ⟨rfl, fun u hu => ⟨g, rfl, hg, fun j hj => ht'.cell u j hu hj⟩, hk.mono (fun _ _ e => by rw [e]; exact hg)⟩
end Go.Proofs.Ytnpmimjhpnhdkaa
