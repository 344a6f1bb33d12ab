/- 'append([]T{}, l...)' of a row of structs that the call owns, over any program. -/
import Derived.Test.YtffjighohloifaaOwnS
namespace Go.Proofs.Ytffjighohloifaa
open Go.RowKit

theorem OwnsS.widen {α : Type} {w : World} {base base' sz : Nat} {E : TypeId} {f : α → List Value} {v : Value} {l : List α} (h : OwnsS w base E sz f v l) (hb : base' ≤ base) : OwnsS w base' E sz f v l :=
  ⟨h.1, h.2.imp id (fun ⟨g, c, cur, h1, h2, h3⟩ => ⟨g, c, cur, h1, Nat.le_trans hb h2, h3⟩)⟩
theorem cloneS_run {α : Type} {P : Program} {w : World} {base sz : Nat} {E : TypeId} {f : α → List Value} {l : List α} {ao : Option Addr} {cap : Nat} {t ty : TypeId} (ht : P.underlying t = some (.slice E)) {z : Value} {bytes : Nat}
    (hinf : (P.info? E).map (fun i => (i.zero, i.size, i.bytes)) = some (some z, sz, bytes)) (hz : z.cells.size = sz) (hsz : 0 < sz) (hbs : bytes ≤ 1024) (hown : OwnsS w base E sz f (.slice ao l.length cap) l) (hf : ∀ x ∈ l, (f x).length = sz)
    (h1 : ∀ x ∈ l, ∀ u ∈ f x, u.oneCell' = true) (hn : l.length < 137438953472) :
    ∃ ao' cap' w1, (Builtin.append_ #[t, t] ty #[.slice (some ⟨w.heap.size, 0, none⟩) 0 0, .slice ao l.length cap]).run P (w.alloc (.cells #[] E)) = .ok (.slice ao' l.length cap') w1 ∧
      OwnsS w1 w.heap.size E sz f (.slice ao' l.length cap') l ∧ Kept (fun _ => False) w w1 := by
  obtain ⟨i0, hi, hz0, hz1, hz2⟩ := info_parts hinf
  have hr : ∀ r ∈ l.map f, r.length = sz := by intro r hr; obtain ⟨x, hx, rfl⟩ := List.mem_map.1 hr; exact hf x hx
  refine clone_run (P := P) (t := t) (ty := ty) ht hi hz0 hz1 hz2 hz hsz ao l.length cap (l.map f).flatten w (by rw [flatten_length _ hr, List.length_map]) ?_ ?_ (by unfold maxLen; omega) ?_
  · rcases hown.2 with ⟨_, h0⟩ | ⟨g, c, cur, hv, _, hg, _, _, _, htk⟩
    · exact .inl h0
    · simp only [Value.slice.injEq] at hv
      refine .inr ⟨_, hv.1, fun j u hu => ?_⟩
      rw [addr_add, Nat.zero_add, cell_blk hg]
      rw [← htk, List.getElem?_take] at hu
      split at hu
      · simpa using hu
      · cases hu
  · intro u hu
    obtain ⟨r, hr1, hr2⟩ := List.mem_flatten.1 hu
    obtain ⟨x, hx, rfl⟩ := List.mem_map.1 hr1
    exact h1 x hx u hr2
  · have : l.length * bytes ≤ 137438953472 * 1024 := Nat.mul_le_mul (by omega) hbs
    omega
/-- A built-in append whose run is known, as a step of a region that draws. -/
theorem stepA_run {P : Program} {ops : Array Oper} {o : Oper} {a : Act} {w : World} {K : Act → World → Prop} {Q : Exit → Act → World → Prop} {E : Prop} (hgd : o.guard = none) (s x : Operand) (t t' : TypeId)
    (ho : o.op = .call { callee := .builtin .append, args := #[s, x], argTypes := #[t, t'] }) (vs vx : Value) (hs : a.eval s = vs) (hx : a.eval x = vx) {v' : Value} {w' : World}
    (hr : (Builtin.append_ #[t, t'] o.type #[vs, vx]).run P w = .ok v' w') (h : K (a.put o.dst v') w') : if Region.wanted o (yielded ops a.tmps) = true then Oper.wp P o a w K Q else E := by
  rw [if_pos (by simp [Region.wanted, hgd])]
  unfold Oper.wp execOp
  simp only [ho, resolve, invoke, builtin, Sem.run_bind, Sem.run_pure, Result.andThen_ok, List.map_toArray, List.map_cons, List.map_nil, hs, hx, hr]
  exact h
end Go.Proofs.Ytffjighohloifaa
