/- Several rows that the call owns, each in a block of its own: what a push onto one of them leaves. -/
import Derived.Test.YthgioaaenfdcdaaBase
import Derived.Deep.AppendLies
namespace Go.Proofs.Ythgioaaenfdcdaa
open Go.RowKit

/-- A row that the call owns: n elements of size cells each. -/
structure Th where
  v : Value
  e : TypeId
  size : Nat
  n : Nat
  xs : List Value
/-- Rows by number, no two in one block. -/
structure Lot (w : World) (base : Nat) (th : Nat → Option Th) : Prop where
  own : ∀ i t, th i = some t → w.ownsRow base t.e t.size t.v t.n t.xs
  apart : ∀ (i j : Nat) (t s : Th), i ≠ j → th i = some t → th j = some s → ∀ x, t.v.ownBlock = some x → s.v.ownBlock ≠ some x
def updT (th : Nat → Option Th) (i : Nat) (t : Th) : Nat → Option Th := fun j => if j = i then some t else th j
theorem ownsRow_far {w w' : World} {base size n : Nat} {e : TypeId} {v : Value} {xs : List Value} (h : w.ownsRow base e size v n xs) (hk : ∀ x, v.ownBlock = some x → w'.heap[x]? = w.heap[x]?) : w'.ownsRow base e size v n xs := by
  refine ⟨h.1, ?_⟩
  rcases h.2 with h2 | ⟨g, cap, cur, hv, hg, hh, r⟩
  · exact .inl h2
  · exact .inr ⟨g, cap, cur, hv, hg, by rw [hk g (by rw [hv]; rfl)]; exact hh, r⟩
theorem ownsRow_block {w : World} {base size n : Nat} {e : TypeId} {v : Value} {xs : List Value} (h : w.ownsRow base e size v n xs) {x : Nat} (hx : v.ownBlock = some x) : base ≤ x ∧ x < w.heap.size := World.ownsRow.lt h x hx
theorem Lot.kept {M : Nat → Prop} {w w' : World} {base : Nat} {th : Nat → Option Th} (h : Lot w base th) (k : Kept M w w') (hm : ∀ x, base ≤ x → ¬ M x) : Lot w' base th :=
  ⟨fun i t ht => ownsRow_far (h.own i t ht) (fun x hx => by obtain ⟨h1, h2⟩ := ownsRow_block (h.own i t ht) hx; exact k.block x h2 (hm x h1)), h.apart⟩
theorem Lot.look {w w' : World} {base : Nat} {th : Nat → Option Th} (h : Lot w base th) (k : Kept (fun _ => False) w w') : Lot w' base th := h.kept k (fun _ _ => id)
theorem Lot.empty {w : World} {base : Nat} : Lot w base (fun _ => none) := ⟨(fun _ _ h => by cases h), (fun _ _ _ _ _ h => by cases h)⟩
theorem Lot.sub {w : World} {base : Nat} {th th' : Nat → Option Th} (h : Lot w base th) (hs : ∀ i t, th' i = some t → th i = some t) : Lot w base th' :=
  ⟨fun i t ht => h.own i t (hs i t ht), fun i j t s hij ht hj => h.apart i j t s hij (hs i t ht) (hs j s hj)⟩
/-- One more row, in a new block. -/
theorem Lot.build {w : World} {base : Nat} {th : Nat → Option Th} (h : Lot w base th) (hb : base ≤ w.heap.size) (i : Nat) (e : TypeId) (size n : Nat) (cur : Array Value) (hn : cur.size = n * size) (hmax : n ≤ maxLen) : Lot (w.alloc (.cells cur e)) base (updT th i ⟨.slice (some ⟨w.heap.size, 0, none⟩) n n, e, size, n, cur.toList⟩) := by
  have hnew : (w.alloc (.cells cur e)).ownsRow base e size (.slice (some ⟨w.heap.size, 0, none⟩) n n) n cur.toList :=
    ⟨by simpa using hn, .inr ⟨w.heap.size, n, cur, rfl, hb, new_blk w _, Nat.le_refl _, hmax, hn, List.take_of_length_le (by simp [hn])⟩⟩
  have hold : ∀ j t, th j = some t → (w.alloc (.cells cur e)).ownsRow base t.e t.size t.v t.n t.xs := fun j t ht => (h.own j t ht).alloc _
  refine ⟨fun j t ht => ?_, fun j k t s hjk ht hs x hx hx' => ?_⟩
  · unfold updT at ht
    split at ht
    · simp only [Option.some.injEq] at ht; subst ht; exact hnew
    · exact hold j t ht
  · unfold updT at ht hs
    split at ht <;> split at hs
    · omega
    · simp only [Option.some.injEq] at ht
      subst ht
      have := (ownsRow_block (h.own k s hs) hx').2
      simp [Value.ownBlock] at hx
      omega
    · simp only [Option.some.injEq] at hs
      subst hs
      have := (ownsRow_block (h.own j t ht) hx).2
      simp [Value.ownBlock] at hx'
      omega
    · exact h.apart j k t s hjk ht hs x hx hx'
/-- 'append(row i, row j...)', where row j holds one element. -/
theorem Lot.push {P : Program} {w : World} {base : Nat} {th : Nat → Option Th} (h : Lot w base th) (hb : base ≤ w.heap.size) {i j : Nat} {t s : Th} (ht : th i = some t) (hs : th j = some s) (tt ty : TypeId) {inf : TypeInfo} {z : Value} {bytes : Nat}
    (hu : P.underlying tt = some (.slice t.e)) (hi : P.info? t.e = some inf) (hz : inf.zero = some z) (h1 : inf.size = t.size) (h2 : inf.bytes = bytes) (hzc : z.cells.size = t.size) (hsz : 0 < t.size) (hbs : bytes ≤ 1024)
    (_he : s.e = t.e) (hse : s.size = t.size) (hsn : s.n = 1) (hone : ∀ u ∈ s.xs, u.oneCell' = true) (hn : t.n < 137438953472) :
    ∃ v' w', (Builtin.append_ #[tt, tt] ty #[t.v, s.v]).run P w = .ok v' w' ∧ (∃ ao cap, v' = .slice ao (t.n + 1) cap) ∧ Lot w' base (updT th i ⟨v', t.e, t.size, t.n + 1, t.xs ++ s.xs⟩) ∧ Kept (fun x => t.v.ownBlock = some x) w w' ∧ ∀ x, v'.ownBlock = some x → t.v.ownBlock = some x ∨ x = w.heap.size := by
  have hso := h.own j s hs
  obtain ⟨g2, cap2, hsv, hg2, hg2'⟩ := World.ownsRow.form hso (by omega)
  have hsl : s.xs.length = 1 * t.size := by rw [hso.1, hsn, hse]
  have hcells : ∀ q u, s.xs[q]? = some u → w.cell? ((⟨g2, 0, none⟩ : Addr).add q) = some u := by
    intro q u hq
    rcases hso.2 with ⟨_, h0⟩ | ⟨g, cap, cur, hv, _, hh, _, _, hcs, htk⟩
    · omega
    · rw [hsv] at hv
      simp at hv
      obtain ⟨rfl, _⟩ := hv
      rw [addr_add, Nat.zero_add, cell_blk hh]
      rw [← htk] at hq
      rw [List.getElem?_take] at hq
      split at hq
      · simpa using hq
      · cases hq
  have hbb : (t.n + 1) * bytes ≤ 137438953472 * 1024 := Nat.mul_le_mul (by omega) hbs
  obtain ⟨g, cap, w', hr, ho, hgr, hat, hlt⟩ := run_append_lies (P := P) w tt ty base t.e inf z t.size bytes hu hi hz h1 h2 hzc hsz t.v t.n t.xs (h.own i t ht) ⟨g2, 0, none⟩ 1 cap2 s.xs hsl hcells hone (by decide) (by unfold maxLen; omega) (by omega) hb w.heap.size rfl
  rw [hsn] at hsv
  rw [← hsv] at hr
  refine ⟨_, w', hr, ⟨_, _, rfl⟩, ⟨fun k r hk => ?_, fun k l r q hkl hk hl x hx hx' => ?_⟩, (Kept.refl _).grown hgr (fun k hk _ => hk), fun x hx => by
    simp [Value.ownBlock] at hx
    subst hx
    exact hat⟩
  · unfold updT at hk
    split at hk
    · simp only [Option.some.injEq] at hk; subst hk; exact ho
    · rename_i hki
      refine ownsRow_far (h.own k r hk) (fun x hx => hgr.block x (ownsRow_block (h.own k r hk) hx).2 (fun e => ?_))
      exact h.apart k i r t hki hk ht x hx e.symm
  · have hfar : ∀ (k : Nat) (r : Th), k ≠ i → th k = some r → r.v.ownBlock ≠ some g := fun k r hki hk e => by
      rcases hat with h3 | h3
      · exact h.apart k i r t hki hk ht g e h3
      · have := (ownsRow_block (h.own k r hk) e).2; omega
    unfold updT at hk hl
    split at hk <;> split at hl
    · omega
    · rename_i h3 h4
      simp only [Option.some.injEq] at hk
      subst hk
      simp [Value.ownBlock] at hx
      subst hx
      exact hfar l q h4 hl hx'
    · rename_i h3 h4
      simp only [Option.some.injEq] at hl
      subst hl
      simp [Value.ownBlock] at hx'
      subst hx'
      exact hfar k r h3 hk hx
    · exact h.apart k l r q hkl hk hl x hx hx'
theorem Lot.slice {w : World} {base : Nat} {th : Nat → Option Th} (h : Lot w base th) {i : Nat} {t : Th} (ht : th i = some t) : ∃ ao cap, t.v = .slice ao t.n cap := by
  rcases (h.own i t ht).2 with ⟨h1, h2⟩ | ⟨g, cap, cur, hv, _⟩
  · exact ⟨_, _, by rw [h1, h2]⟩
  · exact ⟨_, _, hv⟩
theorem Lot.widen {w : World} {base base' : Nat} {th : Nat → Option Th} (h : Lot w base th) (hb : base' ≤ base) : Lot w base' th := by
  refine ⟨fun i t ht => ?_, h.apart⟩
  have ho := h.own i t ht
  refine ⟨ho.1, ho.2.imp id fun ⟨g, cap, cur, h1, h2, r⟩ => ⟨g, cap, cur, h1, by omega, r⟩⟩
/-- The cells of a row. -/
theorem Lot.cell {w : World} {base : Nat} {th : Nat → Option Th} (h : Lot w base th) {i : Nat} {t : Th} (ht : th i = some t) {q : Nat} {u : Value} (hq : t.xs[q]? = some u) : ∃ g, t.v.ownBlock = some g ∧ w.cell? ⟨g, q, none⟩ = some u ∧ ∃ cap, t.v = .slice (some ⟨g, 0, none⟩) t.n cap := by
  have ho := h.own i t ht
  rcases ho.2 with ⟨_, h2⟩ | ⟨g, cap, cur, hv, _, hh, _, _, _, htk⟩
  · have := ho.1
    rw [h2, Nat.zero_mul] at this
    have := List.eq_nil_of_length_eq_zero this
    rw [this] at hq; simp at hq
  · refine ⟨g, by rw [hv]; rfl, ?_, cap, hv⟩
    rw [cell_blk hh]
    rw [← htk, List.getElem?_take] at hq
    split at hq
    · simpa using hq
    · cases hq
end Go.Proofs.Ythgioaaenfdcdaa
