/- Rows of uint64 for tapes: of a block of the call's own, nil, and one that came in. -/
import Derived.Test.YthgioaaenfdcdaaDraw
namespace Go.Proofs.Ythgioaaenfdcdaa
open Go.RowKit

theorem RowU.of_blk {w : World} {g cap : Nat} {l : List Int} {P : Nat → Prop} (h : Blk w g 22 (l.map (.int .u64))) (hp : P g) (hl : l.length ≤ cap) (hc : cap ≤ maxLen) : RowU w (some ⟨g, 0, none⟩) l cap P := by
  refine ⟨hl, hc, .inr ⟨g, 0, rfl, hp, fun i hi => ?_⟩⟩
  rw [Nat.zero_add, h.cell]; simp [hi]

theorem RowU.nil (w : World) (P : Nat → Prop) : RowU w none [] 0 P := ⟨Nat.le_refl _, by unfold maxLen; omega, .inl rfl⟩

theorem u64_of_wf {n : Int} (h : (Lit.int .u64 n).wf = true) : U64 n := by
  simp only [Lit.wf, IntKind.min, IntKind.max, IntKind.signed, IntKind.bits, Bool.and_eq_true] at h
  unfold U64
  simp at h
  omega
theorem rowU_of_isRow {w : World} {a : Option Addr} {len cap : Nat} {zs : List Int} (h : IsRow .u64 w a len cap zs) :
    ∃ l : List Int, len = l.length ∧ RowU w a l cap (fun _ => True) ∧ ∀ x ∈ l, U64 x := by
  rcases h with ⟨rfl, rfl, rfl, rfl⟩ | ⟨x, rfl, h1, h2, h3, h4, h5⟩
  · exact ⟨[], rfl, RowU.nil _ _, by simp⟩
  · refine ⟨zs.take len, by simp; omega, ⟨by simp; omega, h2, ?_⟩, fun y hy => u64_of_wf (h5 y (List.mem_of_mem_take hy))⟩
    by_cases hl : len = 0
    · left; subst hl; simp
    · right
      have h0 := h4 0 (by omega)
      obtain ⟨b, o, sp⟩ := x
      have hsp : sp = none := by
        cases sp with
        | none => rfl
        | some v => simp [Addr.add, World.cell?] at h0; split at h0 <;> simp at h0
      subst hsp
      refine ⟨b, o, rfl, trivial, fun i hi => ?_⟩
      simp at hi
      have := h4 i (by omega)
      rw [addr_add] at this
      rw [this]
      simp [show i < len by omega]

end Go.Proofs.Ythgioaaenfdcdaa
