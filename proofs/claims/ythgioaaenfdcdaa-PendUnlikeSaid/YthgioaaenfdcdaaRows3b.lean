/- The three rows ahead of and behind a region of three pushes. -/
import Derived.Test.YthgioaaenfdcdaaRows3
import Derived.Test.YthgioaaenfdcdaaPush3
namespace Go.Proofs.Ythgioaaenfdcdaa
open Go.RowKit

/-- The pushes of one record onto the three rows. -/
def push3 (v1 v2 v3 : Value) (D : List DRec) (r : DRec) (b0 b1 b2 a0 a1 a2 c0 c1 c2 : Nat) : P3S :=
  p3s (rowU' v1 (D.map (·.u))) (rowU' v2 (D.map (·.s))) (rowI' v3 (D.map (·.id))) (.int .i64 r.u) (.int .i64 r.s) (.int .u16 r.id) b0 b1 b2 a0 a1 a2 c0 c1 c2
section
variable {v1 v2 v3 : Value} {D : List DRec} {r : DRec} {b0 b1 b2 a0 a1 a2 c0 c1 c2 : Nat}
theorem push3_ok (hl : D.length ≤ 1000) (hd : ((List.range 3).all fun i => (List.range 3).all fun j => (pick3 b0 b1 b2 i != pick3 a0 a1 a2 j) && (pick3 b0 b1 b2 i != pick3 c0 c1 c2 j) && (pick3 a0 a1 a2 i != pick3 c0 c1 c2 j) && (i == j || ((pick3 b0 b1 b2 i != pick3 b0 b1 b2 j) && (pick3 a0 a1 a2 i != pick3 a0 a1 a2 j) && (pick3 c0 c1 c2 i != pick3 c0 c1 c2 j)))) = true) :
    (push3 v1 v2 v3 D r b0 b1 b2 a0 a1 a2 c0 c1 c2).ok :=
  p3s_ok hd ⟨rfl, by simp [rowU']; omega, rfl⟩ ⟨rfl, by simp [rowU']; omega, rfl⟩ ⟨rfl, by simp [rowI']; omega, rfl⟩
theorem push3_old (x : Nat) : (push3 v1 v2 v3 D r b0 b1 b2 a0 a1 a2 c0 c1 c2).old x ↔ In3 v1 v2 v3 x := by
  unfold P3S.old In3
  constructor
  · rintro ⟨i, hi, h⟩
    have : i = 0 ∨ i = 1 ∨ i = 2 := by omega
    rcases this with rfl | rfl | rfl
    · exact .inl h
    · exact .inr (.inl h)
    · exact .inr (.inr h)
  · rintro (h | h | h)
    · exact ⟨0, by decide, h⟩
    · exact ⟨1, by decide, h⟩
    · exact ⟨2, by decide, h⟩
theorem push3_start {w : World} {base : Nat} (h : Lot w base (rows3 v1 v2 v3 D)) (hb : base ≤ w.heap.size) : P3 (push3 v1 v2 v3 D r b0 b1 b2 a0 a1 a2 c0 c1 c2) w base (fun _ => none) w.drew := by
  refine p3_start (h.sub fun i t ht => ?_) hb
  by_cases h3 : i < 3
  · rw [if_pos h3] at ht
    have : i = 0 ∨ i = 1 ∨ i = 2 := by omega
    rcases this with rfl | rfl | rfl <;> exact ht
  · rw [if_neg h3] at ht; cases ht
/-- Behind it: the rows with the record at the end. -/
structure Pushed3 (wS w : World) (base : Nat) (v1 v2 v3 u1 u2 u3 : Value) (D' : List DRec) : Prop where
  lot : Lot w base (rows3 u1 u2 u3 D')
  kp : Kept (In3 v1 v2 v3) wS w
  new : ∀ x, In3 u1 u2 u3 x → In3 v1 v2 v3 x ∨ wS.heap.size ≤ x
theorem push3_end {wS w : World} {base : Nat} {g : Nat → Option Value} {u1 u2 u3 : Value} (h : P3 (push3 v1 v2 v3 D r b0 b1 b2 a0 a1 a2 c0 c1 c2) wS base g w) (h1 : g c0 = some u1) (h2 : g c1 = some u2) (h3 : g c2 = some u3) :
    Pushed3 wS w base v1 v2 v3 u1 u2 u3 (D ++ [r]) := by
  have e1 := h.set 0 (by decide) u1 h1
  have e2 := h.set 1 (by decide) u2 h2
  have e3 := h.set 2 (by decide) u3 h3
  have n1 := h.new 0 (by decide) u1 e1
  have n2 := h.new 1 (by decide) u2 e2
  have n3 := h.new 2 (by decide) u3 e3
  refine ⟨h.lot.sub fun i t ht => ?_, h.kp.mono fun k _ hk => (push3_old k).1 hk, fun x hx => ?_⟩
  · have t0 : (push3 v1 v2 v3 D r b0 b1 b2 a0 a1 a2 c0 c1 c2).th g 0 = some (rowU' u1 ((D ++ [r]).map (·.u))) := by
      show some (growT _ _ (g a0)) = _
      rw [show g a0 = some u1 from e1]
      simp [growT, rowU', push3, p3s, pick3]
    have t1 : (push3 v1 v2 v3 D r b0 b1 b2 a0 a1 a2 c0 c1 c2).th g 1 = some (rowU' u2 ((D ++ [r]).map (·.s))) := by
      show some (growT _ _ (g a1)) = _
      rw [show g a1 = some u2 from e2]
      simp [growT, rowU', push3, p3s, pick3]
    have t2 : (push3 v1 v2 v3 D r b0 b1 b2 a0 a1 a2 c0 c1 c2).th g 2 = some (rowI' u3 ((D ++ [r]).map (·.id))) := by
      show some (growT _ _ (g a2)) = _
      rw [show g a2 = some u3 from e3]
      simp [growT, rowI', push3, p3s, pick3]
    match i, ht with
    | 0, ht => rw [t0]; exact ht
    | 1, ht => rw [t1]; exact ht
    | 2, ht => rw [t2]; exact ht
  · rcases hx with hx | hx | hx
    · rcases n1.2 x hx with h | h
      · exact .inl (.inl h)
      · exact .inr h
    · rcases n2.2 x hx with h | h
      · exact .inl (.inr (.inl h))
      · exact .inr h
    · rcases n3.2 x hx with h | h
      · exact .inl (.inr (.inr h))
      · exact .inr h
end
end Go.Proofs.Ythgioaaenfdcdaa
