/- A case of order's laws, as it comes in. -/
import Derived.Test.YtnpmimjhpnhdkaaOrd7
namespace Go.Proofs.Ytnpmimjhpnhdkaa
open Go.RowKit Go.Deep Go.ChangeShapes Go.WideShapes

/-- A cell of a slice's type holds a slice. -/
theorem Reads.isSlice {H : Type} {enc : TypeId × Value → H} {P : Program} {W : World} {t e : TypeId} {cs : List Value} (h : Reads enc P W t cs) (ht : P.underlying t = some (.slice e)) : ∃ a len cap, cs = [.slice a len cap] := by
  obtain ⟨fuel, x, hf⟩ := h
  rcases open_slice ht hf with ⟨hcs, _⟩ | ⟨a', len', cap', m, k, D, Pl, hcs, _⟩
  · exact ⟨_, _, _, hcs⟩
  · exact ⟨_, _, _, hcs⟩
/-- A row of uint64. -/
theorem rowU_of {H : Type} {enc : TypeId × Value → H} {w : World} {a : Option Addr} {len cap : Nat} (h : Reads enc Try.prog w 24 [.slice a len cap]) :
    ∃ l : List Int, len = l.length ∧ RowU w a l cap (fun _ => True) ∧ ∀ x ∈ l, U64 x := by
  obtain ⟨h1, h2, E, hE⟩ := h.slice Try.underlying24 (n := 1) (by kernel_rfl) (by decide)
  have key : ∀ i, ∃ x : Int, i < len → U64 x ∧ ∃ b o, a = some ⟨b, o, none⟩ ∧ w.cell? ⟨b, o + i, none⟩ = some (.int .u64 x) := by
    intro i
    by_cases hlt : i < len
    · obtain ⟨hl, ⟨b, o, ha, hb, hc⟩, hr⟩ := hE i hlt
      obtain ⟨n, hn, hw⟩ := hr.int Try.underlying23
      refine ⟨n, fun _ => ⟨u64_of_wf hw, b, o, ha, ?_⟩⟩
      have := hc 0 (by decide)
      rw [hn] at this
      simpa using this
    · exact ⟨0, fun h => absurd h hlt⟩
  have kx := fun i => Classical.choose_spec (key i)
  refine ⟨(List.range len).map (fun i => Classical.choose (key i)), by simp, ⟨by simpa using h1, h2, ?_⟩, ?_⟩
  · by_cases h0 : len = 0
    · left; subst h0; rfl
    · obtain ⟨_, b, o, ha, _⟩ := kx 0 (by omega)
      refine .inr ⟨b, o, ha, trivial, fun i hi => ?_⟩
      have hi' : i < len := by simpa using hi
      obtain ⟨_, b', o', ha', hc⟩ := kx i hi'
      rw [ha] at ha'
      simp only [Option.some.injEq, Addr.mk.injEq, and_true] at ha'
      obtain ⟨rfl, rfl⟩ := ha'
      rw [hc]
      simp [hi']
  · intro x hx
    obtain ⟨i, hi, rfl⟩ := List.mem_map.1 hx
    exact (kx i (by simpa using hi)).1

theorem case20_of {H : Type} {enc : TypeId × Value → H} {w : World} {cs : Array Value} (h : Reads enc Try.prog w 26 cs.toList) :
    ∃ (ups limit rest seed : Int) (a f : Option Addr) (l : List ActS) (ca : Nat) (fl : List Int) (cf : Nat), cs = #[.int .i64 ups, .int .i64 limit, .int .i64 rest, .slice a l.length ca, .int .u64 seed, .slice f fl.length cf] ∧ IsActs w a l ∧ RowU w f fl cf (fun _ => True) ∧ (U64 seed ∧ ∀ x ∈ fl, U64 x) ∧
      (-9223372036854775808 ≤ ups ∧ ups ≤ 9223372036854775807) := by
  obtain ⟨hl, hf⟩ := h.fields (ts := [3, 3, 3, 22, 23, 24]) (by kernel_rfl)
  obtain ⟨v0, e0, r0⟩ := hf 0 _ rfl
  obtain ⟨v1, e1, r1⟩ := hf 1 _ rfl
  obtain ⟨v2, e2, r2⟩ := hf 2 _ rfl
  obtain ⟨v3, e3, r3⟩ := hf 3 _ rfl
  obtain ⟨v4, e4, r4⟩ := hf 4 _ rfl
  obtain ⟨v5, e5, r5⟩ := hf 5 _ rfl
  obtain ⟨n0, h0, g0⟩ := r0.int Try.underlying3
  obtain ⟨n1, h1, g1⟩ := r1.int Try.underlying3
  obtain ⟨n2, h2, g2⟩ := r2.int Try.underlying3
  obtain ⟨a, la, ca, h3⟩ := r3.isSlice Try.underlying22
  obtain ⟨n4, h4, g4⟩ := r4.int Try.underlying23
  obtain ⟨f, lf, cf, h5⟩ := r5.isSlice Try.underlying24
  simp only [List.cons.injEq, and_true] at h0 h1 h2 h3 h4 h5
  subst h0 h1 h2 h3 h4 h5
  obtain ⟨l, rfl, hacts⟩ := acts_of r3
  obtain ⟨fl, rfl, hrow, hx⟩ := rowU_of r5
  refine ⟨n0, n1, n2, n4, a, f, l, ca, fl, cf, ?_, hacts, hrow, ⟨u64_of_wf g4, hx⟩, i64_of_wf g0⟩
  obtain ⟨cs⟩ := cs
  simp only at hl e0 e1 e2 e3 e4 e5
  match cs, hl with
  | [c0, c1, c2, c3, c4, c5], _ => simp at e0 e1 e2 e3 e4 e5; simp [e0, e1, e2, e3, e4, e5]
/-- Order, of a book that the call owns; where the row lies is told. -/
theorem order_new {W w : World} {b g : Nat} {s : BookS} (H : Hid (Own W w b g s)) (tb : Nat) (t : TapeS) (L : List Nat) (HT : Hid (Tape w tb t L ∧ (∀ k ∈ L, k < w.heap.size) ∧ b ≠ tb ∧ g ≠ tb ∧ W.heap.size ≤ tb ∧ t.used + 9 < 9223372036854775807)) (l : List Int) (hl : orderL s t = l) :
    Calls Try.prog 12 #[.pointer (some ⟨b, 0, none⟩), .pointer (some ⟨tb, 0, none⟩)] w fun e w' => ∃ ao cap, e = .returned (.slice ao l.length cap) ∧ OwnsI w' w.heap.size (.slice ao l.length cap) l ∧ Own W w' b g s ∧
      (∃ L', Tape w' tb (shuffleL (mayL s.l).length t).2 L' ∧ (∀ k ∈ L', k ∈ L ∨ w.heap.size ≤ k) ∧ (∀ k ∈ L, k ∈ L') ∧ ∀ k ∈ L', k < w'.heap.size) ∧ Kept (· = tb) w w' := by
  subst hl
  obtain ⟨h1, h2, h3, h4, h5, h6⟩ := HT.out
  refine (order_any b g tb s t L w H.out.bk H.out.ok h1 h2 h3 h4 h6).mono ?_
  rintro e w' ⟨ao, cap, rfl, ho, ht, hk⟩
  exact ⟨ao, cap, rfl, ho, H.out.aside hk h3 h4 h5, ht, hk⟩
theorem OwnsI.all {w : World} {base : Nat} {ao : Option Addr} {n cap : Nat} {l : List Int} (h : OwnsI w base (.slice ao n cap) l) : Cells w ao (l.map (.int .i64)) (fun _ => True) := h.cells.2.mono (fun _ _ => trivial)
end Go.Proofs.Ytnpmimjhpnhdkaa
