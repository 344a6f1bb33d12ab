/- Package repute, walked: what upstreams do. -/
import Derived.Test.YtnpmimjhpnhdkaaRep3
namespace Go.Proofs.Ytnpmimjhpnhdkaa
open Go.RowKit

theorem Book.drew {w : World} {b g : Nat} {s : BookS} (h : Book w b g s) : Book w.drew b g s := h

set_option maxRecDepth 100000 in
theorem spare_any (b g : Nat) (s : BookS) (hn : s.l.length ≤ 1000) (w : World) (h : Book w b g s) :
    Calls Try.prog 55 #[.pointer (some ⟨b, 0, none⟩)] w fun e w' => e = .returned (.bool (decide (s.l.length / 2 + 1 ≤ (mayL s.l).length - 1))) ∧ Kept (fun _ => False) w w' := by
  have c2 := h.c2
  have hml := may_len s.l
  have e1 : IntKind.i64.wrap (((mayL s.l).length : Int) - 1) = ((mayL s.l).length : Int) - 1 := by rw [IntKind.wrap_i64]; omega
  have e3 : IntKind.i64.wrap ((s.l.length : Int) / 2) = (s.l.length : Int) / 2 := by rw [IntKind.wrap_i64]; omega
  have e4 : IntKind.i64.wrap ((s.l.length : Int) / 2 + 1) = (s.l.length : Int) / 2 + 1 := by rw [IntKind.wrap_i64]; omega
  have H := Lib.hid h
  clear h
  go_enter Try.func55, Try.ntmps55
  go_wp2_with fail
  go_region_held3 (fun w' => w'.cell? ⟨b, 2, none⟩ = some (.slice (some ⟨g, 0, none⟩) s.l.length s.cap)) (first | go_keep | exact d2)
    ((go_at_call 11; refine (may_any b g s hn _ ?_).mono ?_; exact H.out; rintro e w1 ⟨v, rfl, ho, hk⟩; obtain ⟨ao, cp, rfl⟩ := ho.slice; have d2 := hk.cell c2 id))
  go_wp2_with fail
  go_ret
  refine ⟨?_, hk.of_drew⟩
  have : decide (s.l.length / 2 + 1 ≤ (mayL s.l).length - 1) = decide ((s.l.length : Int) / 2 + 1 ≤ ((mayL s.l).length : Int) - 1) := by
    rw [decide_eq_decide]; omega
  rw [this]; rfl

set_option maxRecDepth 100000 in
theorem does_nil (u d now : Int) (w : World) : Calls Try.prog 42 #[.pointer none, .int .i64 u, .int .i64 d, .int .i64 now] w fun e w' => e = .returned (.int .i64 2) ∧ w = w' := by
  go_enter Try.func42, Try.ntmps42
  go_wp2_with fail
  go_ret
  exact ⟨rfl, rfl⟩
set_option maxRecDepth 100000 in
theorem does_no (b n : Nat) (sl : Option Addr) {cp : Nat} (u d now : Int) (w : World) (hu : u < 0 ∨ n ≤ u) (c : w.cell? ⟨b, 2, none⟩ = some (.slice sl n cp)) :
    Calls Try.prog 42 #[.pointer (some ⟨b, 0, none⟩), .int .i64 u, .int .i64 d, .int .i64 now] w fun e w' => e = .returned (.int .i64 1) ∧ w = w' := by
  go_enter Try.func42, Try.ntmps42
  go_wp2_with fail
  refine (is_no b n u sl hu w c).mono ?_
  rintro e w' ⟨rfl, rfl⟩
  go_wp2_with fail
  go_ret
  exact ⟨rfl, rfl⟩
set_option maxRecDepth 100000 in
theorem does_late (b n u : Nat) (sl : Option Addr) {cp : Nat} (d now : Int) (w : World) (hu : u < n) (hn : n ≤ 1000) (hnow : now < 0 ∨ 1099511627776 < now) (c : w.cell? ⟨b, 2, none⟩ = some (.slice sl n cp)) :
    Calls Try.prog 42 #[.pointer (some ⟨b, 0, none⟩), .int .i64 u, .int .i64 d, .int .i64 now] w fun e w' => e = .returned (.int .i64 1) ∧ w = w' := by
  by_cases h0 : now < 0
  · have d0 : decide (now < 0) = true := by simpa using h0
    go_enter Try.func42, Try.ntmps42
    go_wp2_with fail
    refine (is_yes b n u sl hu hn w c).mono ?_
    rintro e w' ⟨rfl, rfl⟩
    go_wp2_with fail
    go_ret
    exact ⟨rfl, rfl⟩
  · have d0 : decide (now < 0) = false := by simpa using h0
    have d1 : decide (1099511627776 < now) = true := by simp; omega
    go_enter Try.func42, Try.ntmps42
    go_wp2_with fail
    refine (is_yes b n u sl hu hn w c).mono ?_
    rintro e w' ⟨rfl, rfl⟩
    go_wp2_with fail
    go_ret
    exact ⟨rfl, rfl⟩

/-- What is within its bounds. -/
def One.ok (x : One) : Prop := 0 ≤ x.score ∧ x.score ≤ 100 ∧ (0 ≤ x.agree ∧ x.agree ≤ 65535) ∧ (0 ≤ x.dissent ∧ x.dissent ≤ 65535) ∧ (0 ≤ x.silent ∧ x.silent ≤ 65535) ∧ 0 ≤ x.till ∧ x.till ≤ 1099511727776
def BookS.ok (s : BookS) : Prop := 1 ≤ s.limit ∧ s.limit ≤ 100 ∧ 1 ≤ s.rest ∧ s.rest ≤ 100000 ∧ s.l.length ≤ 9 ∧ ∀ x ∈ s.l, x.ok
theorem BookS.ok_at {s : BookS} (h : s.ok) {u : Nat} (hu : u < s.l.length) : s.l[u].ok := h.2.2.2.2.2 _ (List.getElem_mem _)

/-- One's score is changed, in its book. -/
theorem change_book (b g u : Nat) (s : BookS) (by' : Int) (w : World) (h : Book w b g s) (hok : s.ok) (hu : u < s.l.length) (hb0 : -1000 ≤ by') (hb1 : by' ≤ 1000) :
    Calls Try.prog 43 #[.pointer (some ⟨b, 0, none⟩), .pointer (some ⟨g, u * 7, none⟩), .int .i64 by'] w fun e w' => e = .returned (.tuple #[]) ∧
      Book w' b g { s with l := s.l.set u (s.l[u].change s.limit by') } ∧ Kept (· = g) w w' := by
  obtain ⟨x0, _, _, _, _, _, x6⟩ := h.at hu
  have ho := BookS.ok_at hok hu
  refine (change_any b g u s.limit s.l[u] by' w h.c0 (by have := hok.1; omega) hok.2.1 hb0 hb1 ho.1 ho.2.1 h.2.2 x0 x6 (h.2.1.free _) (h.2.1.free _)).mono ?_
  rintro e w' ⟨rfl, rfl⟩
  refine ⟨rfl, ⟨?_, ?_, h.2.2⟩, (((Kept.refl _).own _ _).own _ _).drew⟩
  · simp only [List.length_set]
    exact set_other (set_other h.1 _ _ (fun e => h.2.2 e.symm)) _ _ (fun e => h.2.2 e.symm)
  · have t1 := h.2.1.set0 u hu (by decide) (.int .i64 (s.l[u].change s.limit by').score) { s.l[u] with score := (s.l[u].change s.limit by').score } rfl
    have t2 := t1.set u 6 (by rw [List.length_set]; exact hu) (by decide) (.bool (s.l[u].change s.limit by').trial) (s.l[u].change s.limit by') (by simp only [List.getElem_set_self]; rfl)
    rw [List.set_set] at t2
    exact t2.drew
end Go.Proofs.Ytnpmimjhpnhdkaa
