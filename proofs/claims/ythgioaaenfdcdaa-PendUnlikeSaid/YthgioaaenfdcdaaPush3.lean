/- Three rows, each pushed once, within one region that draws its order: 'a, b, c = append(a, x), append(b, y), append(c, z)'. -/
import Derived.Test.YthgioaaenfdcdaaLot
import Derived.Test.YthgioaaenfdcdaaRegRel
namespace Go.Proofs.Ythgioaaenfdcdaa
open Go.RowKit

/-- What a region of three pushes is about: the rows, what is pushed, and the numbers of the operations that build (B), append (A) and assign (C). -/
structure P3S where
  t : Nat → Th
  y : Nat → Value
  B : Nat → Nat
  A : Nat → Nat
  C : Nat → Nat
def P3S.ok (S : P3S) : Prop := (∀ i j, i < 3 → j < 3 → S.B i ≠ S.A j ∧ S.B i ≠ S.C j ∧ S.A i ≠ S.C j ∧ (i ≠ j → S.B i ≠ S.B j ∧ S.A i ≠ S.A j ∧ S.C i ≠ S.C j)) ∧ ∀ i, i < 3 → (S.t i).size = 1 ∧ (S.t i).n < 137438953472 ∧ (S.y i).oneCell' = true
def growT (t : Th) (y : Value) : Option Value → Th
  | none => t
  | some x => ⟨x, t.e, t.size, t.n + 1, t.xs ++ [y]⟩
def P3S.th (S : P3S) (g : Nat → Option Value) : Nat → Option Th := fun k =>
  if k < 3 then some (growT (S.t k) (S.y k) (g (S.A k))) else if k < 6 then (g (S.B (k - 3))).map (fun x => ⟨x, (S.t (k - 3)).e, 1, 1, [S.y (k - 3)]⟩) else none
/-- Blocks of the rows ahead of the region. -/
def P3S.old (S : P3S) (x : Nat) : Prop := ∃ i, i < 3 ∧ (S.t i).v.ownBlock = some x
structure P3 (S : P3S) (wS : World) (base : Nat) (g : Nat → Option Value) (w : World) : Prop where
  lot : Lot w base (S.th g)
  kp : Kept S.old wS w
  hb : base ≤ wS.heap.size
  new : ∀ i, i < 3 → ∀ v, g (S.A i) = some v → (∃ ao cap, v = .slice ao ((S.t i).n + 1) cap) ∧ ∀ x, v.ownBlock = some x → (S.t i).v.ownBlock = some x ∨ wS.heap.size ≤ x
  set : ∀ i, i < 3 → ∀ v, g (S.C i) = some v → g (S.A i) = some v
theorem p3_start {S : P3S} {w : World} {base : Nat} (h : Lot w base (fun k => if k < 3 then some (S.t k) else none)) (hb : base ≤ w.heap.size) : P3 S w base (fun _ => none) w.drew := by
  refine ⟨?_, (Kept.refl _).drew, hb, (fun _ _ _ h => by cases h), (fun _ _ _ h => by cases h)⟩
  refine (h.look (Kept.refl _).drew).sub fun i t ht => ?_
  unfold P3S.th at ht
  by_cases h3 : i < 3
  · rw [if_pos h3] at ht ⊢; exact ht
  · rw [if_neg h3] at ht
    split at ht
    · simp at ht
    · cases ht
theorem p3_th_build {S : P3S} (hS : S.ok) {g : Nat → Option Value} {i : Nat} (hi : i < 3) (x : Value) : S.th (updG g (S.B i) x) = updT (S.th g) (i + 3) ⟨x, (S.t i).e, 1, 1, [S.y i]⟩ := by
  funext k
  unfold updT P3S.th
  by_cases hk : k < 3
  · rw [if_pos hk, if_neg (by omega), if_pos hk, updG_ne (fun e => (hS.1 i k hi hk).1 e.symm)]
  · rw [if_neg hk, if_neg hk]
    by_cases h6 : k < 6
    · rw [if_pos h6, if_pos h6]
      by_cases he : k = i + 3
      · subst he; rw [if_pos rfl, show i + 3 - 3 = i by omega, updG_same]; rfl
      · rw [if_neg he, updG_ne (fun e => (((hS.1 (k - 3) i (by omega) hi).2.2.2 (by omega)).1) e)]
    · rw [if_neg h6, if_neg h6, if_neg (by omega)]
theorem p3_th_push {S : P3S} (hS : S.ok) {g : Nat → Option Value} {i : Nat} (hi : i < 3) (x : Value) : S.th (updG g (S.A i) x) = updT (S.th g) i (growT (S.t i) (S.y i) (some x)) := by
  funext k
  unfold updT P3S.th
  by_cases hk : k < 3
  · rw [if_pos hk, if_pos hk]
    by_cases he : k = i
    · subst he; rw [if_pos rfl, updG_same]
    · rw [if_neg he, updG_ne (fun e => (((hS.1 k i hk hi).2.2.2 he).2.1) e)]
  · rw [if_neg hk, if_neg (show ¬ k = i by omega), if_neg hk]
    by_cases h6 : k < 6
    · rw [if_pos h6, if_pos h6, updG_ne (fun e => (hS.1 (k - 3) i (by omega) hi).1 e)]
    · rw [if_neg h6, if_neg h6]
theorem p3_th_set {S : P3S} (hS : S.ok) {g : Nat → Option Value} {i : Nat} (hi : i < 3) (x : Value) : S.th (updG g (S.C i) x) = S.th g := by
  funext k
  unfold P3S.th
  by_cases hk : k < 3
  · rw [if_pos hk, if_pos hk, updG_ne (fun e => (hS.1 k i hk hi).2.2.1 e)]
  · rw [if_neg hk, if_neg hk]
    by_cases h6 : k < 6
    · rw [if_pos h6, if_pos h6, updG_ne (fun e => (hS.1 (k - 3) i (by omega) hi).2.1 e)]
    · rw [if_neg h6, if_neg h6]
theorem p3_build {S : P3S} (hS : S.ok) {wS w : World} {base : Nat} {g : Nat → Option Value} (h : P3 S wS base g w) {i : Nat} (hi : i < 3) : P3 S wS base (updG g (S.B i) (.slice (some ⟨w.heap.size, 0, none⟩) 1 1)) (w.alloc (.cells #[S.y i] (S.t i).e)) := by
  have hz := h.kp.size
  have hb := h.hb
  refine ⟨?_, h.kp.alloc _, hb, fun j hj v hv => h.new j hj v ?_, fun j hj v hv => ?_⟩
  · rw [p3_th_build hS hi]
    exact h.lot.build (by omega) (i + 3) (S.t i).e 1 1 #[S.y i] (by simp) (by unfold maxLen; omega)
  · rwa [updG_ne (fun e => (hS.1 i j hi hj).1 e.symm)] at hv
  · rw [updG_ne (fun e => (hS.1 i j hi hj).2.1 e.symm)] at hv
    rw [updG_ne (fun e => (hS.1 i j hi hj).1 e.symm)]
    exact h.set j hj v hv
theorem p3_push {P : Program} {S : P3S} (hS : S.ok) {wS w : World} {base : Nat} {g : Nat → Option Value} (h : P3 S wS base g w) {i : Nat} (hi : i < 3) {x : Value} (hx : g (S.B i) = some x) (hn : g (S.A i) = none) (tt ty : TypeId) {z : Value} {bytes : Nat}
    (hu : P.underlying tt = some (.slice (S.t i).e)) (hinf : (P.info? (S.t i).e).map (fun j => (j.zero, j.size, j.bytes)) = some (some z, 1, bytes)) (hzc : z.cells.size = 1) (hbs : bytes ≤ 1024) :
    ∃ v' w', (Builtin.append_ #[tt, tt] ty #[(S.t i).v, x]).run P w = .ok v' w' ∧ P3 S wS base (updG g (S.A i) v') w' := by
  obtain ⟨inf, hi0, hz0, hz1, hz2⟩ := info_parts hinf
  have hz := h.kp.size
  have hb := h.hb
  obtain ⟨s1, s2, s3⟩ := hS.2 i hi
  have ht : S.th g i = some (S.t i) := by unfold P3S.th; rw [if_pos hi, hn]; rfl
  have hs : S.th g (i + 3) = some ⟨x, (S.t i).e, 1, 1, [S.y i]⟩ := by unfold P3S.th; rw [if_neg (by omega), if_pos (by omega), show i + 3 - 3 = i by omega, hx]; rfl
  obtain ⟨v', w', hr, hf, hl, hk, hnew⟩ := h.lot.push (P := P) (by omega) ht hs tt ty hu hi0 hz0 (by rw [s1]; exact hz1) hz2 (by rw [s1]; exact hzc) (by omega) hbs rfl s1.symm rfl (by intro u hu; simp at hu; subst hu; exact s3) s2
  refine ⟨v', w', hr, ?_, h.kp.then hk (fun k _ hk => ⟨i, hi, hk⟩), hb, fun j hj v hv => ?_, fun j hj v hv => ?_⟩
  · rw [p3_th_push hS hi]; exact hl
  · by_cases hji : j = i
    · subst hji
      rw [updG_same] at hv
      simp only [Option.some.injEq] at hv
      subst hv
      exact ⟨hf, fun x hx => (hnew x hx).imp_right (fun e => by omega)⟩
    · rw [updG_ne (fun e => (((hS.1 j i hj hi).2.2.2 hji).2.1) e)] at hv
      exact h.new j hj v hv
  · rw [updG_ne (fun e => (hS.1 i j hi hj).2.2.1 e.symm)] at hv
    have hold := h.set j hj v hv
    have hji : j ≠ i := by rintro rfl; rw [hn] at hold; cases hold
    rw [updG_ne (fun e => (((hS.1 j i hj hi).2.2.2 hji).2.1) e)]
    exact hold
theorem p3_set {S : P3S} (hS : S.ok) {wS w : World} {base : Nat} {g : Nat → Option Value} (h : P3 S wS base g w) {i : Nat} (hi : i < 3) {x : Value} (hx : g (S.A i) = some x) : P3 S wS base (updG g (S.C i) x) w := by
  refine ⟨by rw [p3_th_set hS hi]; exact h.lot, h.kp, h.hb, fun j hj v hv => h.new j hj v ?_, fun j hj v hv => ?_⟩
  · rwa [updG_ne (fun e => (hS.1 j i hj hi).2.2.1 e)] at hv
  · by_cases hji : j = i
    · subst hji
      rw [updG_same] at hv
      simp only [Option.some.injEq] at hv
      subst hv
      rw [updG_ne (fun e => (hS.1 j j hj hj).2.2.1 e)]
      exact hx
    · rw [updG_ne (fun e => (((hS.1 j i hj hi).2.2.2 hji).2.2) e)] at hv
      rw [updG_ne (fun e => (hS.1 j i hj hi).2.2.1 e)]
      exact h.set j hj v hv

def pick3 {α : Type} (a b c : α) (k : Nat) : α := if k = 0 then a else if k = 1 then b else c
/-- Three rows, three elements, nine operations. -/
def p3s (t0 t1 t2 : Th) (y0 y1 y2 : Value) (b0 b1 b2 a0 a1 a2 c0 c1 c2 : Nat) : P3S := ⟨pick3 t0 t1 t2, pick3 y0 y1 y2, pick3 b0 b1 b2, pick3 a0 a1 a2, pick3 c0 c1 c2⟩
theorem p3s_ok {t0 t1 t2 : Th} {y0 y1 y2 : Value} {b0 b1 b2 a0 a1 a2 c0 c1 c2 : Nat} (hd : ((List.range 3).all fun i => (List.range 3).all fun j => (pick3 b0 b1 b2 i != pick3 a0 a1 a2 j) && (pick3 b0 b1 b2 i != pick3 c0 c1 c2 j) && (pick3 a0 a1 a2 i != pick3 c0 c1 c2 j) && (i == j || ((pick3 b0 b1 b2 i != pick3 b0 b1 b2 j) && (pick3 a0 a1 a2 i != pick3 a0 a1 a2 j) && (pick3 c0 c1 c2 i != pick3 c0 c1 c2 j)))) = true) (h0 : t0.size = 1 ∧ t0.n < 137438953472 ∧ y0.oneCell' = true) (h1 : t1.size = 1 ∧ t1.n < 137438953472 ∧ y1.oneCell' = true) (h2 : t2.size = 1 ∧ t2.n < 137438953472 ∧ y2.oneCell' = true) :
    (p3s t0 t1 t2 y0 y1 y2 b0 b1 b2 a0 a1 a2 c0 c1 c2).ok := by
  have hlt : ∀ i, i < 3 → i = 0 ∨ i = 1 ∨ i = 2 := fun i hi => by omega
  refine ⟨fun i j hi hj => ?_, fun i hi => ?_⟩
  · have h := List.all_eq_true.1 (List.all_eq_true.1 hd i (List.mem_range.2 hi)) j (List.mem_range.2 hj)
    simp only [Bool.and_eq_true, Bool.or_eq_true, bne_iff_ne, ne_eq, beq_iff_eq] at h
    exact ⟨h.1.1.1, h.1.1.2, h.1.2, fun hij => ⟨(h.2.resolve_left hij).1.1, (h.2.resolve_left hij).1.2, (h.2.resolve_left hij).2⟩⟩
  · rcases hlt i hi with rfl | rfl | rfl
    · exact h0
    · exact h1
    · exact h2
/-- The append, as a step. -/
theorem RelStep.append {P : Program} {ops : Array Oper} {J : (Nat → Option Value) → World → Prop} {g : Nat → Option Value} {w : World} {A : Act} {i : Nat} {o : Oper} (hgd : o.guard = none) (s x : Operand) (t t' : TypeId)
    (ho : o.op = .call { callee := .builtin .append, args := #[s, x], argTypes := #[t, t'] }) (vs vx : Value) (hs : A.eval s = vs) (hx : A.eval x = vx)
    (h : g i = none → ∃ v' w', (Builtin.append_ #[t, t'] o.type #[vs, vx]).run P w = .ok v' w' ∧ J (updG g i v') w') : RelStep P ops J g w A i o none := by
  unfold RelStep
  intro hn
  obtain ⟨v', w', hr, hJ⟩ := h hn
  rw [if_pos (by simp [Region.wanted, hgd])]
  unfold Oper.wp execOp
  simp only [ho, resolve, invoke, builtin, Sem.run_bind, Sem.run_pure, Result.andThen_ok, List.map_toArray, List.map_cons, List.map_nil, hs, hx, hr]
  exact ⟨v', rfl, hJ⟩
end Go.Proofs.Ythgioaaenfdcdaa
