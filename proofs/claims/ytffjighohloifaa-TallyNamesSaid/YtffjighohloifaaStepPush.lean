/- 'append(out, x)' as a step of a region that draws: a struct, a number; structs with a string, compared. -/
import Derived.Test.YtffjighohloifaaOwnS
import Derived.Test.YtffjighohloifaaOwnI
import Derived.Test.YtffjighohloifaaFlat
import Derived.Deep.AppendLies
import Derived.Deep.RegionLaw
namespace Go.Proofs.Ytffjighohloifaa
open Go.RowKit

/-- One element, whatever it is: its cells lie in the new block. -/
theorem step_push1 {P : Program} {w : World} {base sz n : Nat} {E : TypeId} {v : Value} {xs : List Value} {ops : Array Oper} {o : Oper} {a : Act} {K : Act → World → Prop} {Q : Exit → Act → World → Prop} {F : Prop} (hgd : o.guard = none) (s x : Operand) (t : TypeId)
    (ho : o.op = .call { callee := .builtin .append, args := #[s, x], argTypes := #[t, t] }) (ht : P.underlying t = some (.slice E)) {z : Value} {bytes : Nat} (hinf : (P.info? E).map (fun i => (i.zero, i.size, i.bytes)) = some (some z, sz, bytes))
    (hz : z.cells.size = sz) (hsz : 0 < sz) (hbs : bytes ≤ 1024) (hs : a.eval s = v) (hown : w.ownsRow base E sz v n xs) (us : Array Value)
    (k : Nat) (hx : a.eval x = .slice (some ⟨k, 0, none⟩) 1 1) (hk : k = w.heap.size) (hn : n < 137438953472) (hbase : base ≤ w.heap.size) (hul : us.toList.length = sz) (hu1 : ∀ u ∈ us.toList, u.oneCell' = true)
    (h : ∀ g cap w', w'.ownsRow base E sz (.slice (some ⟨g, 0, none⟩) (n + 1) cap) (n + 1) (xs ++ us.toList) → Kept (fun k => v.ownBlock = some k) w w' → (v.ownBlock = some g ∨ w.heap.size ≤ g) → g < w'.heap.size → K (a.put o.dst (.slice (some ⟨g, 0, none⟩) (n + 1) cap)) w') :
    if Region.wanted o (yielded ops a.tmps) = true then Oper.wp P o a (w.alloc (.cells us E)) K Q else F := by
  subst hk
  obtain ⟨i0, hi, hz0, hz1, hz2⟩ := info_parts hinf
  have hb : (n + 1) * bytes ≤ 137438953472 * 1024 := Nat.mul_le_mul (by omega) hbs
  refine step_append_lies _ hgd s x t ho base E i0 z sz bytes ht hi hz0 hz1 hz2 hz hsz v n xs hs (World.ownsRow.alloc hown _) ⟨w.heap.size, 0, none⟩ 1 1 us.toList hx (by omega) (fun j u hu => ?_) hu1 (by decide) (by unfold maxLen; omega) (by omega) (by simp; omega) (w.heap.size + 1) (by simp) (fun g cap w' h1 h2 h3 h4 => ?_)
  · rw [addr_add, cell_blk (new_blk w _)]; simpa using hu
  · have h2' : w.grownBy w' v.ownBlock := ⟨h2.os, h2.tape, h2.output, by have := h2.size; simp at this; omega, fun k hk hne => by rw [h2.block k (by simp; omega) hne]; exact Below.heap_alloc _ _ _ hk⟩
    refine h g cap w' h1 ((Kept.refl _).grown h2' (fun k hk _ => hk)) ?_ h4
    rcases h3 with h3 | h3
    · exact .inl h3
    · exact .inr (by omega)
/-- The same, where the draw is counted last. -/
theorem step_push1d {P : Program} {w : World} {base sz n : Nat} {E : TypeId} {v : Value} {xs : List Value} {ops : Array Oper} {o : Oper} {a : Act} {K : Act → World → Prop} {Q : Exit → Act → World → Prop} {F : Prop} (hgd : o.guard = none) (s x : Operand) (t : TypeId)
    (ho : o.op = .call { callee := .builtin .append, args := #[s, x], argTypes := #[t, t] }) (ht : P.underlying t = some (.slice E)) {z : Value} {bytes : Nat} (hinf : (P.info? E).map (fun i => (i.zero, i.size, i.bytes)) = some (some z, sz, bytes))
    (hz : z.cells.size = sz) (hsz : 0 < sz) (hbs : bytes ≤ 1024) (hs : a.eval s = v) (hown : w.ownsRow base E sz v n xs) (us : Array Value)
    (k : Nat) (hx : a.eval x = .slice (some ⟨k, 0, none⟩) 1 1) (hk : k = w.heap.size) (hn : n < 137438953472) (hbase : base ≤ w.heap.size) (hul : us.toList.length = sz) (hu1 : ∀ u ∈ us.toList, u.oneCell' = true)
    (h : ∀ g cap w', w'.ownsRow base E sz (.slice (some ⟨g, 0, none⟩) (n + 1) cap) (n + 1) (xs ++ us.toList) → Kept (fun k => v.ownBlock = some k) w w' → (v.ownBlock = some g ∨ w.heap.size ≤ g) → g < w'.heap.size → K (a.put o.dst (.slice (some ⟨g, 0, none⟩) (n + 1) cap)) w') :
    if Region.wanted o (yielded ops a.tmps) = true then Oper.wp P o a (w.alloc (.cells us E)).drew K Q else F := by
  exact step_push1 (w := w.drew) hgd s x t ho ht hinf hz hsz hbs hs hown us k hx hk hn hbase hul hu1 (fun g cap w' h1 h2 h3 h4 => h g cap w' h1 h2.of_drew h3 h4)
/-- The same at a plain region's list. -/
theorem wpList_push1 {P : Program} {w : World} {base sz n : Nat} {E : TypeId} {v : Value} {xs : List Value} {ops : Array Oper} {rest : List Oper} {o : Oper} {a : Act} {Q : Exit → Act → World → Prop} (hgd : o.guard = none) (s x : Operand) (t : TypeId)
    (ho : o.op = .call { callee := .builtin .append, args := #[s, x], argTypes := #[t, t] }) (ht : P.underlying t = some (.slice E)) {z : Value} {bytes : Nat} (hinf : (P.info? E).map (fun i => (i.zero, i.size, i.bytes)) = some (some z, sz, bytes))
    (hz : z.cells.size = sz) (hsz : 0 < sz) (hbs : bytes ≤ 1024) (hs : a.eval s = v) (hown : w.ownsRow base E sz v n xs) (us : Array Value)
    (k : Nat) (hx : a.eval x = .slice (some ⟨k, 0, none⟩) 1 1) (hk : k = w.heap.size) (hn : n < 137438953472) (hbase : base ≤ w.heap.size) (hul : us.toList.length = sz) (hu1 : ∀ u ∈ us.toList, u.oneCell' = true)
    (h : ∀ g cap w', w'.ownsRow base E sz (.slice (some ⟨g, 0, none⟩) (n + 1) cap) (n + 1) (xs ++ us.toList) → Kept (fun k => v.ownBlock = some k) w w' → (v.ownBlock = some g ∨ w.heap.size ≤ g) → g < w'.heap.size → wpList P ops Q rest (a.put o.dst (.slice (some ⟨g, 0, none⟩) (n + 1) cap)) w') :
    wpList P ops Q (o :: rest) a (w.alloc (.cells us E)) := by
  subst hk
  obtain ⟨i0, hi, hz0, hz1, hz2⟩ := info_parts hinf
  have hb : (n + 1) * bytes ≤ 137438953472 * 1024 := Nat.mul_le_mul (by omega) hbs
  refine wpList_append_lies _ hgd s x t ho base E i0 z sz bytes ht hi hz0 hz1 hz2 hz hsz v n xs hs (World.ownsRow.alloc hown _) ⟨w.heap.size, 0, none⟩ 1 1 us.toList hx (by omega) (fun j u hu => ?_) hu1 (by decide) (by unfold maxLen; omega) (by omega) (by simp; omega) (w.heap.size + 1) (by simp) (fun g cap w' h1 h2 h3 h4 => ?_)
  · rw [addr_add, cell_blk (new_blk w _)]; simpa using hu
  · have h2' : w.grownBy w' v.ownBlock := ⟨h2.os, h2.tape, h2.output, by have := h2.size; simp at this; omega, fun k hk hne => by rw [h2.block k (by simp; omega) hne]; exact Below.heap_alloc _ _ _ hk⟩
    refine h g cap w' h1 ((Kept.refl _).grown h2' (fun k hk _ => hk)) ?_ h4
    rcases h3 with h3 | h3
    · exact .inl h3
    · exact .inr (by omega)
theorem bytes_toList (s : ByteArray) : s.toList = s.data.toList := by
  unfold ByteArray.toList
  rw [ByteArray.toList_loop_eq s _ 0 [] rfl (Nat.zero_le _)]; simp
theorem bytes_ext {a b : ByteArray} (h : a.toList = b.toList) : a = b := by
  rw [bytes_toList, bytes_toList] at h
  apply ByteArray.ext
  exact Array.toList_inj.1 h
section
variable {P : Program} {w : World} {d : Nat} {xs ys : Array Value} {n : String} {t : TypeId} {o : Nat} {fs : List (String × TypeId × Nat)}
theorem part_str (hu : P.underlying t = some .string) {v : Value} (hx : xs[o]? = some v) : (part t xs o).run P w = .ok v w := by
  simp [part, isAgg, run_underlying hu, hx]
theorem eqF3_string {a b : ByteArray} (hn : n ≠ "_") (hu : P.underlying t = some .string) (hx : xs[o]? = some (.string a)) (hy : ys[o]? = some (.string b)) :
    (eqF3 (d + 1) xs ys ((n, t, o) :: fs)).run P w = if a = b then (eqF3 (d + 1) xs ys fs).run P w else .ok false w := by
  simp only [eqF3, if_pos hn, Sem.run_bind, part_str hu hx, part_str hu hy, Result.andThen_ok, run_equalIn_string w d t a b hu]
  by_cases h : a = b
  · subst h; simp
  · have : a.toList ≠ b.toList := fun e => h (bytes_ext e)
    simp [h, this]
end
end Go.Proofs.Ytffjighohloifaa
