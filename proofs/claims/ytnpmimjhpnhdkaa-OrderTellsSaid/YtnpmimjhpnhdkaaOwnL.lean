/- Rows of int64 that a call has made, and the append of one more. -/
import Derived.Test.YtnpmimjhpnhdkaaBase
namespace Go.Proofs.Ytnpmimjhpnhdkaa
open Go.RowKit

theorem info_int64 : (Try.prog.info? 2).map (fun i => (i.zero, i.size, i.bytes)) = some (some (.int .i64 0), 1, 8) := by kernel_rfl

/-- A row of numbers that the call has made. -/
def OwnsL (w : World) (base : Nat) (v : Value) (l : List Int) : Prop := w.ownsRow base 2 1 v l.length (l.map (.int .i64))
theorem OwnsL.slice {w : World} {base : Nat} {v : Value} {l : List Int} (h : OwnsL w base v l) : ∃ ao cap, v = .slice ao l.length cap := by
  rcases h.2 with ⟨h1, h2⟩ | ⟨g, cap, cur, hv, _⟩
  · exact ⟨none, 0, by rw [h1, h2]⟩
  · exact ⟨_, _, hv⟩
theorem OwnsL.cells {w : World} {base : Nat} {ao : Option Addr} {n cap : Nat} {l : List Int} (h : OwnsL w base (.slice ao n cap) l) : n = l.length ∧ Cells w ao (l.map (.int .i64)) (base ≤ ·) := by
  rcases h.2 with ⟨h1, h2⟩ | ⟨g, c, cur, hv, hb, hg, hn, hc, hs, ht⟩
  · simp at h1
    exact ⟨by rw [h2]; exact h1.2.1, .inl (by rw [List.eq_nil_of_length_eq_zero h2]; rfl)⟩
  · simp at hv
    obtain ⟨rfl, rfl, rfl⟩ := hv
    refine ⟨rfl, .inr ⟨g, 0, rfl, hb, fun i hi => ?_⟩⟩
    rw [cell_blk hg, ← ht, List.getElem?_take, if_pos (by simpa using hi), Nat.zero_add]; simp
theorem OwnsL.keep {M : Nat → Prop} {w w' : World} {base : Nat} {v : Value} {l : List Int} (h : OwnsL w base v l) (k : Kept M w w') (hm : ∀ x, base ≤ x → ¬ M x) : OwnsL w' base v l := by
  refine ⟨h.1, ?_⟩
  rcases h.2 with h2 | ⟨g, cap, cur, hv, hg, hh, r⟩
  · exact .inl h2
  · exact .inr ⟨g, cap, cur, hv, hg, k.heap hh (hm g hg), r⟩
theorem OwnsL.look {w w' : World} {base : Nat} {v : Value} {l : List Int} (h : OwnsL w base v l) (k : Kept (fun _ => False) w w') : OwnsL w' base v l := h.keep k (fun _ _ => id)


end Go.Proofs.Ytnpmimjhpnhdkaa
