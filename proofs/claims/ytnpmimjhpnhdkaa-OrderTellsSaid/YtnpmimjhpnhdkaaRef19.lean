/- Package hustingsref19, walked: a book, its fields; Is, bound, look, Agree. -/
import Derived.Test.YtnpmimjhpnhdkaaLawTrial
namespace Go.Proofs.Ytnpmimjhpnhdkaa
open Go.RowKit

/-- An upstream, as the reference lays it. -/
def One.rcells (x : One) : List Value := [.int .i64 x.score, .int .i64 x.agree, .int .i64 x.dissent, .int .i64 x.silent, .bool x.rests, .bool x.trial, .int .i64 x.till]
theorem One.rcells_length (x : One) : x.rcells.length = 7 := rfl
/-- Block b is a book of the reference's whose upstreams lie in block g. -/
def RBook (w : World) (b g : Nat) (s : BookS) : Prop :=
  w.heap[b]? = some (.cells #[.int .i64 s.limit, .int .i64 s.rest, .slice (some ⟨g, 0, none⟩) s.l.length s.cap] 91 (0, 0)) ∧ Tab w g 93 7 One.rcells s.l ∧ b ≠ g
section
variable {w w' : World} {b g : Nat} {s : BookS}
theorem RBook.c0 (h : RBook w b g s) : w.cell? ⟨b, 0, none⟩ = some (.int .i64 s.limit) := by rw [cell_blk h.1]; rfl
theorem RBook.c1 (h : RBook w b g s) : w.cell? ⟨b, 1, none⟩ = some (.int .i64 s.rest) := by rw [cell_blk h.1]; rfl
theorem RBook.c2 (h : RBook w b g s) : w.cell? ⟨b, 2, none⟩ = some (.slice (some ⟨g, 0, none⟩) s.l.length s.cap) := by rw [cell_blk h.1]; rfl
theorem RBook.at (h : RBook w b g s) {u : Nat} (hu : u < s.l.length) :
    w.cell? ⟨g, u * 7, none⟩ = some (.int .i64 s.l[u].score) ∧ w.cell? ⟨g, u * 7 + 1, none⟩ = some (.int .i64 s.l[u].agree) ∧ w.cell? ⟨g, u * 7 + 2, none⟩ = some (.int .i64 s.l[u].dissent) ∧ w.cell? ⟨g, u * 7 + 3, none⟩ = some (.int .i64 s.l[u].silent) ∧
    w.cell? ⟨g, u * 7 + 4, none⟩ = some (.bool s.l[u].rests) ∧ w.cell? ⟨g, u * 7 + 5, none⟩ = some (.bool s.l[u].trial) ∧ w.cell? ⟨g, u * 7 + 6, none⟩ = some (.int .i64 s.l[u].till) :=
  ⟨h.2.1.cell0 u hu (by decide), h.2.1.cell u 1 hu (by decide), h.2.1.cell u 2 hu (by decide), h.2.1.cell u 3 hu (by decide), h.2.1.cell u 4 hu (by decide), h.2.1.cell u 5 hu (by decide), h.2.1.cell u 6 hu (by decide)⟩
theorem RBook.kept {M : Nat → Prop} (h : RBook w b g s) (k : Kept M w w') (hb : ¬ M b) (hg : ¬ M g) : RBook w' b g s := ⟨k.heap h.1 hb, h.2.1.kept k hg, h.2.2⟩
theorem RBook.look (h : RBook w b g s) (k : Kept (fun _ => False) w w') : RBook w' b g s := h.kept k id id
theorem RBook.ltb (h : RBook w b g s) : b < w.heap.size := lt_of_block h.1
theorem RBook.ltg (h : RBook w b g s) : g < w.heap.size := h.2.1.lt
/-- A field of one was stored. -/
theorem RBook.set (h : RBook w b g s) {u j : Nat} (hu : u < s.l.length) (hj : j < 7) (v : Value) (y : One) (hy : y.rcells = s.l[u].rcells.set j v) :
    RBook (w.setCell ⟨g, u * 7 + j, none⟩ v) b g { s with l := s.l.set u y } := by
  refine ⟨?_, h.2.1.set u j hu hj v y hy, h.2.2⟩
  simp only [List.length_set]
  exact set_other h.1 _ _ (fun e => h.2.2 e.symm)
theorem RBook.drew (h : RBook w b g s) : RBook w.drew b g s := h
end

theorem ris_any (b g : Nat) (s : BookS) (u : Int) (_ : s.l.length ≤ 1000) (w : World) (h : RBook w b g s) (r : Bool) (hr : s.is u = r) : Calls Try.prog 49 #[.pointer (some ⟨b, 0, none⟩), .int .i64 u] w fun e w' => e = .returned (.bool r) ∧ w = w' := by
  have c2 := h.c2
  unfold BookS.is at hr
  subst hr
  clear h
  by_cases h0 : 0 ≤ u
  · have d0 : decide (0 ≤ u) = true := by simpa using h0
    go_enter Try.func49, Try.ntmps49
    go_wp2_with fail
    go_ret
    exact ⟨by simp [h0], rfl⟩
  · have d0 : decide (0 ≤ u) = false := by simpa using h0
    go_enter Try.func49, Try.ntmps49
    go_wp2_with fail
    go_ret
    exact ⟨by simp, rfl⟩
theorem rbound_any (b g : Nat) (s : BookS) (hs : s.ok) (w : World) (h : RBook w b g s) (r : Int) (hr : min 100 (s.limit + 10) = r) : Calls Try.prog 59 #[.pointer (some ⟨b, 0, none⟩)] w fun e w' => e = .returned (.int .i64 r) ∧ w = w' := by
  have c0 := h.c0
  have h1 := hs.1
  have h2 := hs.2.1
  have hb : (if s.limit + 10 < 100 then s.limit + 10 else 100) = r := by rw [← hr]; split <;> omega
  clear h hs hr
  go_enter Try.func59, Try.ntmps59
  go_wp2_with fail
  go_ret
  exact ⟨rfl, rfl⟩
/-- A trial is over. -/
def One.looks (lim : Int) (x : One) : One := { x with trial := x.trial && decide (x.score < min 100 (lim + 10)) }
set_option maxRecDepth 100000 in
set_option maxHeartbeats 1000000 in
theorem rlook_any (b g u : Nat) (s : BookS) (hs : s.ok) (hu : u < s.l.length) (w : World) (h : RBook w b g s) :
    Calls Try.prog 50 #[.pointer (some ⟨b, 0, none⟩), .int .i64 u] w fun e w' => e = .returned (.tuple #[]) ∧ RBook w' b g { s with l := s.l.set u (s.l[u].looks s.limit) } ∧ Kept (· = g) w w' := by
  obtain ⟨x0, x1, x2, x3, x4, x5, x6⟩ := h.at hu
  have c2 := h.c2
  have c0 := h.c0
  have f5 := h.2.1.free (u * 7 + 5)
  have hlen : s.l.length ≤ 9 := hs.2.2.2.2.1
  have H := Lib.hid h
  have HS := Lib.hid hs
  have i0 : (0 : Int) ≤ (u : Int) := by omega
  have i1 : (u : Int) < (s.l.length : Int) := by omega
  obtain ⟨bd, hbd⟩ : ∃ bd, min 100 (s.limit + 10) = bd := ⟨_, rfl⟩
  have HBD := Lib.hid hbd
  obtain ⟨x, hx⟩ : ∃ x, x = s.l[u] := ⟨_, rfl⟩
  have HX := Lib.hid hx
  rw [← hx] at x0 x5 ⊢
  have hlk : x.looks s.limit = { x with trial := x.trial && decide (x.score < bd) } := by unfold One.looks; rw [hbd]
  rw [hlk]
  clear h hs hbd hx hlk x1 x2 x3 x4 x6 c0
  have hsame : ∀ y : One, y = s.l[u] → ({ s with l := s.l.set u y } : BookS) = s := fun y hy => by rw [hy, List.set_getElem_self]
  have HSM := Lib.hid hsame
  clear hsame
  cases htx : x.trial with
  | false =>
    rw [htx] at x5
    have hfin : ({ x with trial := false && decide (x.score < bd) } : One) = s.l[u] := by rw [← HX.out, ← htx]; cases x; simp at htx; simp [htx]
    rw [HSM.out _ hfin]
    clear hfin
    have HTX := Lib.hid htx
    clear htx
    go_enter Try.func50, Try.ntmps50
    go_wp2_with fail
    go_quiet (fail)
    go_wp2_with fail
    go_end0
    exact ⟨rfl, H.out.look ((Kept.refl _).drewN _), (Kept.refl _).drewN _⟩
  | true =>
    rw [htx] at x5
    by_cases hsc : x.score < bd
    · have hd : decide (bd ≤ x.score) = false := by simpa using hsc
      have hfin : ({ x with trial := true && decide (x.score < bd) } : One) = s.l[u] := by rw [← HX.out]; cases x; simp at htx hsc; simp [htx, hsc]
      rw [HSM.out _ hfin]
      have HTX := Lib.hid htx
      clear hfin htx hsc
      go_enter Try.func50, Try.ntmps50
      go_wp2_with fail
      refine wp_region_quiet_lit (by kernel_rfl) (by kernel_rfl) ?_
      repeat (quiet_step (fail))
      refine wpQuiet_step (fun K hK => ?_)
      go_simp
      refine ⟨.int .i64 bd, fun a => ?_, hK _ ?_⟩
      · exact Calls.quiet_of_same ((rbound_any b g s HS.out _ (H.out.look ((Kept.refl _).drewN a)) bd HBD.out).mono (fun e w' h => ⟨h.1, h.2.symm⟩))
      clear hK K
      repeat (quiet_step (fail))
      refine wpQuiet_nil ?_
      intro _ hw'
      obtain ⟨nq, hw''⟩ := hw'
      subst hw''
      go_wp2_with fail
      go_end0
      exact ⟨rfl, H.out.look ((Kept.refl _).drewN _), (Kept.refl _).drewN _⟩
    · have hd : decide (bd ≤ x.score) = true := by simp; omega
      have hfin : ({ x with trial := true && decide (x.score < bd) } : One).rcells = s.l[u].rcells.set 5 (.bool false) := by rw [← HX.out]; simp [One.rcells, hsc]
      have HF := Lib.hid hfin
      obtain ⟨y, hy⟩ : ∃ y : One, y = { x with trial := true && decide (x.score < bd) } := ⟨_, rfl⟩
      rw [← hy] at HF ⊢
      clear hfin htx hsc hy
      go_enter Try.func50, Try.ntmps50
      go_wp2_with fail
      refine wp_region_quiet_lit (by kernel_rfl) (by kernel_rfl) ?_
      repeat (quiet_step (fail))
      refine wpQuiet_step (fun K hK => ?_)
      go_simp
      refine ⟨.int .i64 bd, fun a => ?_, hK _ ?_⟩
      · exact Calls.quiet_of_same ((rbound_any b g s HS.out _ (H.out.look ((Kept.refl _).drewN a)) bd HBD.out).mono (fun e w' h => ⟨h.1, h.2.symm⟩))
      clear hK K
      repeat (quiet_step (fail))
      refine wpQuiet_nil ?_
      intro _ hw'
      obtain ⟨nq, hw''⟩ := hw'
      subst hw''
      go_wp2_with fail
      go_end0
      exact ⟨rfl, (H.out.look ((Kept.refl _).drewN _)).set hu (by decide) _ y HF.out, ((Kept.refl _).drewN _).own _ _⟩
end Go.Proofs.Ytnpmimjhpnhdkaa
