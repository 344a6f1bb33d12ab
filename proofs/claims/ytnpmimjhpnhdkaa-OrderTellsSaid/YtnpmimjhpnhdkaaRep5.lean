/- Package repute, walked: what upstreams do, and it counts. -/
import Derived.Test.YtnpmimjhpnhdkaaRep4
namespace Go.Proofs.Ytnpmimjhpnhdkaa
open Go.RowKit

/-- A count is raised. -/
theorem count_book {w : World} {b g u j : Nat} {s : BookS} {m : Int} (h : Book w b g s) (hu : u < s.l.length) (hj : j < 7) (x : One) (hx : x.cells = (s.l[u].cells).set j (.int .i64 m)) :
    Book ((w.setCell ⟨g, u * 7 + j, none⟩ (.int .i64 m)).drew) b g { s with l := s.l.set u x } := by
  refine ⟨?_, ((h.2.1.set u j hu hj (.int .i64 m) x hx).drew), h.2.2⟩
  simp only [List.length_set]
  exact set_other h.1 _ _ (fun e => h.2.2 e.symm)

theorem ok_count {s : BookS} (hok : s.ok) {u : Nat} {x : One} (hx : x.ok) : ({ s with l := s.l.set u x } : BookS).ok := by
  refine ⟨hok.1, hok.2.1, hok.2.2.1, hok.2.2.2.1, by simp only [List.length_set]; exact hok.2.2.2.2.1, fun y hy => ?_⟩
  rcases List.mem_or_eq_of_mem_set hy with hy | rfl
  · exact hok.2.2.2.2.2 y hy
  · exact hx

set_option maxRecDepth 100000 in
set_option maxHeartbeats 1000000 in
theorem does_agree (b g u : Nat) (s : BookS) (now : Int) (w : World) (h : Book w b g s) (hok : s.ok) (hu : u < s.l.length) (hnow0 : 0 ≤ now) (hnow1 : now ≤ 1099511627776) :
    Calls Try.prog 42 #[.pointer (some ⟨b, 0, none⟩), .int .i64 u, .int .i64 0, .int .i64 now] w fun e w' => e = .returned (.int .i64 0) ∧ Book w' b g (s.agree u) ∧ Kept (· = g) w w' := by
  obtain ⟨x0, x1, x2, x3, x4, x5, x6⟩ := h.at hu
  have c2 := h.c2
  have hox := BookS.ok_at hok hu
  have f1 := h.2.1.free (u * 7 + 1)
  have hlen := hok.2.2.2.2.1
  obtain ⟨m, hm⟩ : ∃ m, (if s.l[u].agree + 1 < 65535 then s.l[u].agree + 1 else 65535) = m := ⟨_, rfl⟩
  have hm2 : min 65535 (s.l[u].agree + 1) = m := by rw [← hm]; split <;> omega
  have hw : IntKind.i64.wrap (s.l[u].agree + 1) = s.l[u].agree + 1 := by have := hox.2.2.1; rw [IntKind.wrap_i64]; omega
  have d0 : decide (now < 0) = false := by simp; omega
  have d1 : decide (1099511627776 < now) = false := by simp; omega
  have hag : s.agree u = { s with l := s.l.set u (({ s.l[u] with agree := m } : One).change s.limit 1) } := by
    simp only [BookS.agree, List.getElem?_eq_getElem hu, One.agrees, hm2]
  have hm3 : 0 ≤ m ∧ m ≤ 65535 := by rw [← hm2]; have := hox.2.2.1; omega
  obtain ⟨y, hy⟩ : ∃ y : One, y = { s.l[u] with agree := m } := ⟨_, rfl⟩
  have hoy : y.ok := by rw [hy]; exact ⟨hox.1, hox.2.1, hm3, hox.2.2.2.1, hox.2.2.2.2⟩
  have hb1 := count_book (j := 1) (m := m) h hu (by decide) y (by rw [hy]; rfl)
  obtain ⟨a, ha⟩ : ∃ a, a = s.l[u].agree := ⟨_, rfl⟩
  rw [← hy] at hag
  rw [← ha] at hm hw x1
  have HB := Lib.hid hb1
  have HAG := Lib.hid hag
  have HOY := Lib.hid hoy
  have HOK := Lib.hid hok
  have i0 : (0 : Int) ≤ (u : Int) := by omega
  have i1 : (u : Int) < (s.l.length : Int) := by omega
  clear hb1 hag hoy hok hox hm2 hm3 hy ha h
  go_enter Try.func42, Try.ntmps42
  go_wp2_with fail
  refine (is_yes b s.l.length u (some ⟨g, 0, none⟩) hu (by omega) w c2).mono ?_
  rintro e w' ⟨rfl, rfl⟩
  go_wp2_with fail
  go_region
  go_wp2_with fail
  refine (change_book b g u { s with l := s.l.set u y } 1 _ HB.out (ok_count HOK.out HOY.out) (by simp only [List.length_set]; exact hu) (by decide) (by decide)).mono ?_
  rintro e w1 ⟨rfl, hb, hk⟩
  simp only [List.getElem_set_self, List.set_set] at hb
  have HB1 := Lib.hid hb
  have K1 := Lib.hid ((((Kept.refl (M := (· = g)) w).own (u * 7 + 1) (.int .i64 m)).drew).trans hk)
  clear hb hk
  go_wp2_with fail
  go_quiet (fail)
  go_wp2_with fail
  go_ret
  exact ⟨rfl, by rw [HAG.out]; exact HB1.out.look ((Kept.refl _).drewN _), K1.out.drewN _⟩
set_option maxRecDepth 100000 in
set_option maxHeartbeats 1000000 in
theorem does_silent (b g u : Nat) (s : BookS) (now : Int) (w : World) (h : Book w b g s) (hok : s.ok) (hu : u < s.l.length) (hnow0 : 0 ≤ now) (hnow1 : now ≤ 1099511627776) :
    Calls Try.prog 42 #[.pointer (some ⟨b, 0, none⟩), .int .i64 u, .int .i64 2, .int .i64 now] w fun e w' => e = .returned (.int .i64 0) ∧ Book w' b g (s.silent u) ∧ Kept (· = g) w w' := by
  obtain ⟨x0, x1, x2, x3, x4, x5, x6⟩ := h.at hu
  have c2 := h.c2
  have hox := BookS.ok_at hok hu
  have f1 := h.2.1.free (u * 7 + 3)
  have hlen := hok.2.2.2.2.1
  obtain ⟨m, hm⟩ : ∃ m, (if s.l[u].silent + 1 < 65535 then s.l[u].silent + 1 else 65535) = m := ⟨_, rfl⟩
  have hm2 : min 65535 (s.l[u].silent + 1) = m := by rw [← hm]; split <;> omega
  have hw : IntKind.i64.wrap (s.l[u].silent + 1) = s.l[u].silent + 1 := by have := hox.2.2.2.2.1; rw [IntKind.wrap_i64]; omega
  have d0 : decide (now < 0) = false := by simp; omega
  have d1 : decide (1099511627776 < now) = false := by simp; omega
  have hag : s.silent u = { s with l := s.l.set u (({ s.l[u] with silent := m } : One).change s.limit (-2)) } := by
    simp only [BookS.silent, List.getElem?_eq_getElem hu, One.silents, hm2]
  have hm3 : 0 ≤ m ∧ m ≤ 65535 := by rw [← hm2]; have := hox.2.2.2.2.1; omega
  obtain ⟨y, hy⟩ : ∃ y : One, y = { s.l[u] with silent := m } := ⟨_, rfl⟩
  have hoy : y.ok := by rw [hy]; exact ⟨hox.1, hox.2.1, hox.2.2.1, hox.2.2.2.1, hm3, hox.2.2.2.2.2⟩
  have hb1 := count_book (j := 3) (m := m) h hu (by decide) y (by rw [hy]; rfl)
  obtain ⟨a, ha⟩ : ∃ a, a = s.l[u].silent := ⟨_, rfl⟩
  rw [← hy] at hag
  rw [← ha] at hm hw x3
  have HB := Lib.hid hb1
  have HAG := Lib.hid hag
  have HOY := Lib.hid hoy
  have HOK := Lib.hid hok
  have i0 : (0 : Int) ≤ (u : Int) := by omega
  have i1 : (u : Int) < (s.l.length : Int) := by omega
  clear hb1 hag hoy hok hox hm2 hm3 hy ha h
  go_enter Try.func42, Try.ntmps42
  go_wp2_with fail
  refine (is_yes b s.l.length u (some ⟨g, 0, none⟩) hu (by omega) w c2).mono ?_
  rintro e w' ⟨rfl, rfl⟩
  go_wp2_with fail
  go_region
  go_wp2_with fail
  refine (change_book b g u { s with l := s.l.set u y } (-2) _ HB.out (ok_count HOK.out HOY.out) (by simp only [List.length_set]; exact hu) (by decide) (by decide)).mono ?_
  rintro e w1 ⟨rfl, hb, hk⟩
  simp only [List.getElem_set_self, List.set_set] at hb
  have HB1 := Lib.hid hb
  have K1 := Lib.hid ((((Kept.refl (M := (· = g)) w).own (u * 7 + 3) (.int .i64 m)).drew).trans hk)
  clear hb hk
  go_wp2_with fail
  go_quiet (fail)
  go_wp2_with fail
  go_ret
  exact ⟨rfl, by rw [HAG.out]; exact HB1.out.look ((Kept.refl _).drewN _), K1.out.drewN _⟩

theorem rest_book {w : World} {b g u : Nat} {s : BookS} {z : One} (h : Book w b g { s with l := s.l.set u z }) (hu : u < s.l.length) (till : Int) :
    Book (((w.setCell ⟨g, u * 7 + 4, none⟩ (.bool true)).setCell ⟨g, u * 7 + 6, none⟩ (.bool false)).setCell ⟨g, u * 7 + 5, none⟩ (.int .i64 till)) b g { s with l := s.l.set u (z.resting till) } := by
  have hl : u < (s.l.set u z).length := by simp only [List.length_set]; exact hu
  refine ⟨?_, ?_, h.2.2⟩
  · have := set_other (set_other (set_other h.1 ⟨g, u * 7 + 4, none⟩ (.bool true) (fun e => h.2.2 e.symm)) ⟨g, u * 7 + 6, none⟩ (.bool false) (fun e => h.2.2 e.symm)) ⟨g, u * 7 + 5, none⟩ (.int .i64 till) (fun e => h.2.2 e.symm)
    simpa only [List.length_set] using this
  · have t1 := h.2.1.set u 4 hl (by decide) (.bool true) { z with rests := true } (by simp only [List.getElem_set_self]; rfl)
    simp only [List.set_set] at t1
    have t2 := t1.set u 6 (by simp only [List.length_set]; exact hu) (by decide) (.bool false) { z with rests := true, trial := false } (by simp only [List.getElem_set_self]; rfl)
    simp only [List.set_set] at t2
    have t3 := t2.set u 5 (by simp only [List.length_set]; exact hu) (by decide) (.int .i64 till) (z.resting till) (by simp only [List.getElem_set_self]; rfl)
    simpa only [List.set_set] using t3

theorem ok_change {x : One} {s : BookS} (hx : x.ok) (_hs : s.ok) (by' : Int) : (x.change s.limit by').ok := by
  obtain ⟨h1, h2, h3, h4, h5, h6⟩ := hx
  exact ⟨by simp only [One.change]; omega, by simp only [One.change]; omega, h3, h4, h5, h6⟩

set_option maxRecDepth 100000 in
set_option maxHeartbeats 1000000 in
theorem does_dissent (b g u : Nat) (s : BookS) (now : Int) (w : World) (h : Book w b g s) (hok : s.ok) (hu : u < s.l.length) (hnow0 : 0 ≤ now) (hnow1 : now ≤ 1099511627776) :
    Calls Try.prog 42 #[.pointer (some ⟨b, 0, none⟩), .int .i64 u, .int .i64 1, .int .i64 now] w fun e w' => e = .returned (.int .i64 0) ∧ Book w' b g (s.dissent u now) ∧ Kept (· = g) w w' := by
  obtain ⟨x0, x1, x2, x3, x4, x5, x6⟩ := h.at hu
  have c2 := h.c2
  have hox := BookS.ok_at hok hu
  have f1 := h.2.1.free (u * 7 + 2)
  have hlen := hok.2.2.2.2.1
  obtain ⟨m, hm⟩ : ∃ m, (if s.l[u].dissent + 1 < 65535 then s.l[u].dissent + 1 else 65535) = m := ⟨_, rfl⟩
  have hm2 : min 65535 (s.l[u].dissent + 1) = m := by rw [← hm]; split <;> omega
  have hw : IntKind.i64.wrap (s.l[u].dissent + 1) = s.l[u].dissent + 1 := by have := hox.2.2.2.1; rw [IntKind.wrap_i64]; omega
  have d0 : decide (now < 0) = false := by simp; omega
  have d1 : decide (1099511627776 < now) = false := by simp; omega
  have hag : s.dissent u now = (let z := ((({ s.l[u] with dissent := m } : One).change s.limit (-8)).change s.limit (-2)); if s.goes z (s.l.set u z) then { s with l := s.l.set u (z.resting (now + s.rest)) } else { s with l := s.l.set u z }) := by
    simp only [BookS.dissent, List.getElem?_eq_getElem hu, One.dissents, hm2, List.set_set]
  have hm3 : 0 ≤ m ∧ m ≤ 65535 := by rw [← hm2]; have := hox.2.2.2.1; omega
  have hrest := hok.2.2.1
  have hrest2 := hok.2.2.2.1
  obtain ⟨y, hy⟩ : ∃ y : One, y = { s.l[u] with dissent := m } := ⟨_, rfl⟩
  have hoy : y.ok := by rw [hy]; exact ⟨hox.1, hox.2.1, hox.2.2.1, hm3, hox.2.2.2.2⟩
  have hb1 := count_book (j := 2) (m := m) h hu (by decide) y (by rw [hy]; rfl)
  obtain ⟨a, ha⟩ : ∃ a, a = s.l[u].dissent := ⟨_, rfl⟩
  rw [← hy] at hag
  rw [← ha] at hm hw x2
  have HB := Lib.hid hb1
  have HAG := Lib.hid hag
  have HOY := Lib.hid hoy
  have HOK := Lib.hid hok
  have i0 : (0 : Int) ≤ (u : Int) := by omega
  have i1 : (u : Int) < (s.l.length : Int) := by omega
  clear hb1 hag hoy hok hox hm2 hm3 hy ha h
  go_enter Try.func42, Try.ntmps42
  go_wp2_with fail
  refine (is_yes b s.l.length u (some ⟨g, 0, none⟩) hu (by omega) w c2).mono ?_
  rintro e w' ⟨rfl, rfl⟩
  go_wp2_with fail
  go_region
  go_wp2_with fail
  refine (change_book b g u { s with l := s.l.set u y } (-8) _ HB.out (ok_count HOK.out HOY.out) (by simp only [List.length_set]; exact hu) (by decide) (by decide)).mono ?_
  rintro e w1 ⟨rfl, hb, hk⟩
  simp only [List.getElem_set_self, List.set_set] at hb
  have HB1 := Lib.hid hb
  have K1 := Lib.hid ((((Kept.refl (M := (· = g)) w).own (u * 7 + 2) (.int .i64 m)).drew).trans hk)
  clear hb hk
  go_wp2_with fail
  obtain ⟨z1, hz1⟩ : ∃ z1 : One, z1 = y.change s.limit (-8) := ⟨_, rfl⟩
  rw [← hz1] at HB1 HAG
  have hoz1 : z1.ok := by rw [hz1]; exact ok_change HOY.out HOK.out _
  have HOZ1 := Lib.hid hoz1
  clear hz1 hoz1
  refine (change_book b g u { s with l := s.l.set u z1 } (-2) _ HB1.out (ok_count HOK.out HOZ1.out) (by simp only [List.length_set]; exact hu) (by decide) (by decide)).mono ?_
  rintro e w2 ⟨rfl, hb, hk⟩
  simp only [List.getElem_set_self, List.set_set] at hb
  obtain ⟨z, hz⟩ : ∃ z : One, z = z1.change s.limit (-2) := ⟨_, rfl⟩
  rw [← hz] at hb HAG
  have hoz : z.ok := by rw [hz]; exact ok_change HOZ1.out HOK.out _
  have HOZ := Lib.hid hoz
  have HB2 := Lib.hid hb
  have K2 := Lib.hid (K1.out.trans hk)
  have hul : u < (s.l.set u z).length := by simp only [List.length_set]; exact hu
  obtain ⟨y0, _, _, _, y4, _, _⟩ := hb.at hul
  simp only [List.getElem_set_self] at y0 y4
  have yl := hb.c0
  simp only at yl
  clear hz hb hk HB1 HB K1 HOZ1 hoz x0 x1 x2 x3 x4 x5 x6 c2 f1
  by_cases hlt : z.score < s.limit
  · have dl : decide (z.score < s.limit) = true := by simpa using hlt
    cases hzr : z.rests with
    | true =>
      rw [hzr] at y4
      have HN := Lib.hid (show s.goes z (s.l.set u z) = false by simp [BookS.goes, hzr])
      clear hzr
      go_wp2_with fail
      go_quiet (fail)
      go_wp2_with fail
      go_ret
      exact ⟨rfl, by rw [HAG.out]; simp only [HN.out]; exact HB2.out.look ((Kept.refl _).drewN _), K2.out.drewN _⟩
    | false =>
      rw [hzr] at y4
      have HN := Lib.hid (show s.goes z (s.l.set u z) = decide ((mayL (s.l.set u z)).length - 1 ≥ (s.l.set u z).length / 2 + 1) by simp [BookS.goes, hzr, hlt])
      clear hzr
      go_wp2_with fail
      go_region_held3 (fun w' => w'.cell? ⟨g, u * 7, none⟩ = some (.int .i64 z.score) ∧ w'.cell? ⟨g, u * 7 + 4, none⟩ = some (.bool false) ∧ w'.cell? ⟨b, 0, none⟩ = some (.int .i64 s.limit)) (first | go_keep | exact ⟨e0, e4, el⟩)
        ((go_at_call 55; refine (spare_any b g { s with l := s.l.set u z } (by simp only [List.length_set]; omega) _ ?_).mono ?_; exact HB2.out; rintro e w3 ⟨rfl, hk⟩; have e0 := hk.cell y0 id; have e4 := hk.cell y4 id; have el := hk.cell yl id))
      have HB3 := Lib.hid (HB2.out.look hk.of_drew)
      have K3 := Lib.hid (K2.out.trans hk.of_drew.any)
      clear hk
      have hc1 := HB3.out.c1
      simp only at hc1
      have hz4 := HB3.out.2.1.free (u * 7 + 4)
      have hz5 := HB3.out.2.1.free (u * 7 + 5)
      have hz6 := HB3.out.2.1.free (u * 7 + 6)
      have hul2 : u < (s.l.set u z).length := by simp only [List.length_set]; exact hu
      obtain ⟨_, _, _, _, v4, v5, v6⟩ := HB3.out.at hul2
      simp only [List.getElem_set_self] at v4 v5 v6
      have hbg := HB3.out.2.2
      have FIN := Lib.hid (rest_book HB3.out hu (now + s.rest))
      obtain ⟨sp, hsp⟩ : ∃ sp, decide (({ s with l := s.l.set u z } : BookS).l.length / 2 + 1 ≤ (mayL ({ s with l := s.l.set u z } : BookS).l).length - 1) = sp := ⟨_, rfl⟩
      have HN2 := Lib.hid (HN.out.trans hsp)
      have q2 : decide ((s.l.set u z).length / 2 + 1 ≤ (mayL (s.l.set u z)).length - 1) = sp := hsp
      have q3 : decide (s.l.length / 2 + 1 ≤ (mayL (s.l.set u z)).length - 1) = sp := by rw [List.length_set] at q2; exact q2
      first | rw [hsp] | rw [q2] | rw [q3]
      clear hsp HN q2 q3
      cases sp with
      | true =>
        go_wp2_with fail
        go_ret
        exact ⟨rfl, by rw [HAG.out]; simp only [HN2.out, if_true]; exact FIN.out, ((K3.out.own _ _).own _ _).own _ _⟩
      | false =>
        go_wp2_with fail
        go_ret
        exact ⟨rfl, by rw [HAG.out]; simp only [HN2.out]; exact HB3.out, K3.out⟩
  · have dl : decide (z.score < s.limit) = false := by simpa using hlt
    have HN := Lib.hid (show s.goes z (s.l.set u z) = false by simp [BookS.goes, hlt])
    go_wp2_with fail
    go_quiet (fail)
    go_wp2_with fail
    go_ret
    exact ⟨rfl, by rw [HAG.out]; simp only [HN.out]; exact HB2.out.look ((Kept.refl _).drewN _), K2.out.drewN _⟩
end Go.Proofs.Ytnpmimjhpnhdkaa
