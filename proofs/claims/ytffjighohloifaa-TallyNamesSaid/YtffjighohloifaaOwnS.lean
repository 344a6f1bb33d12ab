/- Rows of structs that a call has made, over any program: how they read, and the append of one more. -/
import Derived.Test.YtffjighohloifaaTab
namespace Go.Proofs.Ytffjighohloifaa
open Go.RowKit

section
variable {α : Type} {P : Program} {w w' : World} {base sz : Nat} {E : TypeId} {f : α → List Value} {v : Value} {l : List α}
/-- A row of structs, each laid out by f, that the call has made. -/
def OwnsS (w : World) (base : Nat) (E : TypeId) (sz : Nat) (f : α → List Value) (v : Value) (l : List α) : Prop := w.ownsRow base E sz v l.length (l.map f).flatten
theorem OwnsS.slice (h : OwnsS w base E sz f v l) : ∃ ao cap, v = .slice ao l.length cap := by
  rcases h.2 with ⟨h1, h2⟩ | ⟨g, cap, cur, hv, _⟩
  · exact ⟨none, 0, by rw [h1, h2]⟩
  · exact ⟨_, _, hv⟩
theorem OwnsS.nil (_ : base ≤ w.heap.size) : OwnsS w base E sz f (.slice none 0 0) ([] : List α) := ⟨by simp, .inl ⟨rfl, rfl⟩⟩
theorem OwnsS.keep {M : Nat → Prop} (h : OwnsS w base E sz f v l) (k : Kept M w w') (hm : ∀ x, base ≤ x → ¬ M x) : OwnsS w' base E sz f v l := by
  refine ⟨h.1, ?_⟩
  rcases h.2 with h2 | ⟨g, cap, cur, hv, hg, hh, r⟩
  · exact .inl h2
  · exact .inr ⟨g, cap, cur, hv, hg, k.heap hh (hm g hg), r⟩
theorem OwnsS.look (h : OwnsS w base E sz f v l) (k : Kept (fun _ => False) w w') : OwnsS w' base E sz f v l := h.keep k (fun _ _ => id)
/-- A block that the row does not lie in was written. -/
theorem OwnsS.keepAt {M : Nat → Prop} (h : OwnsS w base E sz f v l) (k : Kept M w w') (hm : ∀ g, v.ownBlock = some g → ¬ M g) : OwnsS w' base E sz f v l := by
  refine ⟨h.1, ?_⟩
  rcases h.2 with h2 | ⟨g, cap, cur, hv, hg, hh, r⟩
  · exact .inl h2
  · exact .inr ⟨g, cap, cur, hv, hg, k.heap hh (hm g (by rw [hv]; rfl)), r⟩
theorem OwnsS.at {ao : Option Addr} {n cap : Nat} (h : OwnsS w base E sz f (.slice ao n cap) l) (hf : ∀ x, (f x).length = sz) {i : Nat} (hi : i < l.length) :
    ∃ g, ao = some ⟨g, 0, none⟩ ∧ base ≤ g ∧ g < w.heap.size ∧ ∀ j, j < sz → w.cell? ⟨g, i * sz + j, none⟩ = (f l[i])[j]? := by
  rcases h.2 with ⟨_, h2⟩ | ⟨g, c, cur, hv, hb, hg, hn, hc, hs, ht⟩
  · omega
  · simp at hv
    obtain ⟨rfl, rfl, rfl⟩ := hv
    refine ⟨g, rfl, hb, lt_of_block hg, fun j hj => ?_⟩
    have hr : ∀ r ∈ l.map f, r.length = sz := by intro r hr; obtain ⟨x, _, rfl⟩ := List.mem_map.1 hr; exact hf x
    have hp : i * sz + j < l.length * sz := place_lt hi hj
    have := flatten_get (l.map f) hr i j (by simpa using hi) hj
    rw [List.getElem_map] at this
    rw [cell_blk hg, ← this, ← ht, List.getElem?_take, if_pos hp]; simp
/-- 'out = append(out, x)' of one struct. -/
theorem wpList_pushS {ops : Array Oper} {rest : List Oper} {o : Oper} {a : Act} {Q : Exit → Act → World → Prop} (hgd : o.guard = none) (s x : Operand) (t : TypeId)
    (ho : o.op = .call { callee := .builtin .append, args := #[s, x], argTypes := #[t, t] }) (ht : P.underlying t = some (.slice E)) {z : Value} {bytes : Nat} (hinf : (P.info? E).map (fun i => (i.zero, i.size, i.bytes)) = some (some z, sz, bytes))
    (hz : z.cells.size = sz) (hsz : 0 < sz) (hbs : bytes ≤ 1024) (y : α) (hs : a.eval s = v) (hown : OwnsS w base E sz f v l) (us : Array Value) (hus : us.toList = f y)
    (k : Nat) (hx : a.eval x = .slice (some ⟨k, 0, none⟩) 1 1) (hk : k = w.heap.size) (hn : l.length < 137438953472) (hbase : base ≤ w.heap.size) (hul : (f y).length = sz) (hu1 : ∀ u ∈ f y, u.oneCell' = true)
    (h : ∀ v' w', OwnsS w' base E sz f v' (l ++ [y]) → (∀ (M : Nat → Prop) (W : World), Kept M W w → W.heap.size ≤ base → Kept M W w') ∧ Kept (fun k => base ≤ k) w w' ∧ Kept (fun k => v.ownBlock = some k) w w' → (∃ ao cap, v' = .slice ao (l ++ [y]).length cap) → wpList P ops Q rest (a.put o.dst v') w') :
    wpList P ops Q (o :: rest) a (w.alloc (.cells us E)) := by
  subst hk
  obtain ⟨i0, hi, hz0, hz1, hz2⟩ := info_parts hinf
  have e : us = (f y).toArray := by rw [← hus]
  subst e
  refine wpList_push hgd s x t ho base E i0 z sz bytes ht hi hz0 hz1 hz2 hz hsz v l.length (l.map f).flatten (f y) hs hown hx hul hu1 hn hbs hbase (fun v' w' h1 h2 h3 => ?_)
  have ho' : OwnsS w' base E sz f v' (l ++ [y]) := by unfold OwnsS; simpa using h1
  exact h v' w' ho' ⟨fun M W hk hW => hk.pushed hown h2 hW, (Kept.refl _).grown h2 (fun k hk _ => (World.ownsRow.lt hown k hk).1), (Kept.refl _).grown h2 (fun k hk _ => hk)⟩ ho'.slice
end
end Go.Proofs.Ytffjighohloifaa
