/- Rows of int that a call has made, and the append of one more. -/
import Derived.Test.YtffjighohloifaaBase
namespace Go.Proofs.Ytffjighohloifaa
open Go.RowKit

theorem info_int : (Try.prog.info? 3).map (fun i => (i.zero, i.size, i.bytes)) = some (some (.int .i64 0), 1, 8) := by kernel_rfl

/-- A row of numbers that the call has made. -/
def OwnsI (w : World) (base : Nat) (v : Value) (l : List Int) : Prop := w.ownsRow base 3 1 v l.length (l.map (.int .i64))
theorem OwnsI.slice {w : World} {base : Nat} {v : Value} {l : List Int} (h : OwnsI w base v l) : ∃ ao cap, v = .slice ao l.length cap := by
  rcases h.2 with ⟨h1, h2⟩ | ⟨g, cap, cur, hv, _⟩
  · exact ⟨none, 0, by rw [h1, h2]⟩
  · exact ⟨_, _, hv⟩
theorem OwnsI.cells {w : World} {base : Nat} {ao : Option Addr} {n cap : Nat} {l : List Int} (h : OwnsI w base (.slice ao n cap) l) : n = l.length ∧ Cells w ao (l.map (.int .i64)) (base ≤ ·) := by
  rcases h.2 with ⟨h1, h2⟩ | ⟨g, c, cur, hv, hb, hg, hn, hc, hs, ht⟩
  · simp at h1
    exact ⟨by rw [h2]; exact h1.2.1, .inl (by rw [List.eq_nil_of_length_eq_zero h2]; rfl)⟩
  · simp at hv
    obtain ⟨rfl, rfl, rfl⟩ := hv
    refine ⟨rfl, .inr ⟨g, 0, rfl, hb, fun i hi => ?_⟩⟩
    rw [cell_blk hg, ← ht, List.getElem?_take, if_pos (by simpa using hi), Nat.zero_add]; simp
theorem OwnsI.keep {M : Nat → Prop} {w w' : World} {base : Nat} {v : Value} {l : List Int} (h : OwnsI w base v l) (k : Kept M w w') (hm : ∀ x, base ≤ x → ¬ M x) : OwnsI w' base v l := by
  refine ⟨h.1, ?_⟩
  rcases h.2 with h2 | ⟨g, cap, cur, hv, hg, hh, r⟩
  · exact .inl h2
  · exact .inr ⟨g, cap, cur, hv, hg, k.heap hh (hm g hg), r⟩
theorem OwnsI.look {w w' : World} {base : Nat} {v : Value} {l : List Int} (h : OwnsI w base v l) (k : Kept (fun _ => False) w w') : OwnsI w' base v l := h.keep k (fun _ _ => id)


/-- 'out = append(out, n)'. -/
theorem wpList_pushI {ops : Array Oper} {rest : List Oper} {o : Oper} {a : Act} {w : World} {Q : Exit → Act → World → Prop} (hgd : o.guard = none) (s x : Operand)
    (ho : o.op = .call { callee := .builtin .append, args := #[s, x], argTypes := #[52, 52] }) (base : Nat) (v : Value) (l : List Int) (n : Int) (hs : a.eval s = v) (hown : OwnsI w base v l)
    (k : Nat) (hx : a.eval x = .slice (some ⟨k, 0, none⟩) 1 1) (hk : k = w.heap.size) (hn : l.length < 137438953472) (hbase : base ≤ w.heap.size)
    (h : ∀ v' w', OwnsI w' base v' (l ++ [n]) → (∀ (M : Nat → Prop) (W : World), Kept M W w → W.heap.size ≤ base → Kept M W w') ∧ Kept (fun k => base ≤ k) w w' → (∃ ao cap, v' = .slice ao (l ++ [n]).length cap) → wpList Try.prog ops Q rest (a.put o.dst v') w') :
    wpList Try.prog ops Q (o :: rest) a (w.alloc (.cells #[.int .i64 n] 3)) := by
  subst hk
  obtain ⟨i0, hi, hz0, hz1, hz2⟩ := info_parts info_int
  refine wpList_push hgd s x 52 ho base 3 i0 (.int .i64 0) 1 8 Try.underlying52 hi hz0 hz1 hz2 rfl (by decide) v l.length (l.map (.int .i64)) [.int .i64 n] hs hown hx rfl (by simp [Value.oneCell']) hn (by decide) hbase (fun v' w' h1 h2 h3 => ?_)
  have ho' : OwnsI w' base v' (l ++ [n]) := by unfold OwnsI; simpa using h1
  exact h v' w' ho' ⟨fun M W hk hW => hk.pushed hown h2 hW, (Kept.refl _).grown h2 (fun k hk _ => (World.ownsRow.lt hown k hk).1)⟩ ho'.slice
end Go.Proofs.Ytffjighohloifaa
