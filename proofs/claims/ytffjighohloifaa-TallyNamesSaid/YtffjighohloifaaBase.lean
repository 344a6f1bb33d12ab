/- My own small framework, over any program: 'Kept M w w'': of the blocks that were there, those that 'M' does not name are as they were; nothing has gone. -/
import Derived.Test.YtffjighohloifaaRows
import Derived.WalkKit
import Derived.WalkLawsBesides
import Derived.WalkSpells
import Derived.BigQuiet
import Derived.StillTailTactics
import Derived.Deep.RegionHeld3
import Derived.Deep.RegionWith
import Derived.Deep.DeepFit
import Derived.Lib.Hide
import Derived.Handy
import Derived.Laws.EntriesVeiled
import Derived.ProofKit
import Derived.OpenShut
namespace Go.Proofs.Ytffjighohloifaa
open Go.RowKit

/-- Of the blocks that were there, those that M does not name are as they were. -/
structure Kept (M : Nat → Prop) (w w' : World) : Prop where
  os : w'.os = w.os
  tape : w'.tape = w.tape
  output : w'.output = w.output
  size : w.heap.size ≤ w'.heap.size
  block : ∀ k, k < w.heap.size → ¬ M k → w'.heap[k]? = w.heap[k]?

theorem Kept.refl {M : Nat → Prop} (w : World) : Kept M w w := ⟨rfl, rfl, rfl, Nat.le_refl _, fun _ _ _ => rfl⟩
theorem Kept.trans {M : Nat → Prop} {a b c : World} (h : Kept M a b) (k : Kept M b c) : Kept M a c :=
  ⟨k.os.trans h.os, k.tape.trans h.tape, k.output.trans h.output, Nat.le_trans h.size k.size,
    fun i hi hm => (k.block i (Nat.lt_of_lt_of_le hi h.size) hm).trans (h.block i hi hm)⟩
theorem Kept.mono {M N : Nat → Prop} {a b : World} (h : Kept M a b) (hn : ∀ k, k < a.heap.size → M k → N k) : Kept N a b :=
  ⟨h.os, h.tape, h.output, h.size, fun i hi hm => h.block i hi (fun m => hm (hn i hi m))⟩
/-- What was new to the elder world may be written in the later step. -/
theorem Kept.then {M N : Nat → Prop} {a b c : World} (h : Kept M a b) (k : Kept N b c) (hn : ∀ i, i < a.heap.size → N i → M i) : Kept M a c :=
  ⟨k.os.trans h.os, k.tape.trans h.tape, k.output.trans h.output, Nat.le_trans h.size k.size,
    fun i hi hm => (k.block i (Nat.lt_of_lt_of_le hi h.size) (fun m => hm (hn i hi m))).trans (h.block i hi hm)⟩
theorem Kept.drew {M : Nat → Prop} {a b : World} (h : Kept M a b) : Kept M a b.drew := ⟨h.os, h.tape, h.output, h.size, h.block⟩
theorem Kept.drewN {M : Nat → Prop} {a b : World} (h : Kept M a b) (n : Nat) : Kept M a (b.drewN n) := ⟨h.os, h.tape, h.output, h.size, h.block⟩
theorem Kept.of_drew {M : Nat → Prop} {a b : World} (h : Kept M a.drew b) : Kept M a b := ⟨h.os, h.tape, h.output, h.size, h.block⟩
theorem Kept.of_drewN {M : Nat → Prop} {a b : World} {n : Nat} (h : Kept M (a.drewN n) b) : Kept M a b := ⟨h.os, h.tape, h.output, h.size, h.block⟩
theorem Kept.alloc {M : Nat → Prop} {a b : World} (h : Kept M a b) (o : Obj) : Kept M a (b.alloc o) :=
  ⟨h.os, h.tape, h.output, Nat.le_trans h.size (by simp), fun i hi hm => (Below.heap_alloc b o i (Nat.lt_of_lt_of_le hi h.size)).trans (h.block i hi hm)⟩
theorem Kept.setCell {M : Nat → Prop} {a b : World} (h : Kept M a b) (p : Addr) (v : Value) (hp : p.block < a.heap.size → M p.block) : Kept M a (b.setCell p v) :=
  ⟨h.os, h.tape, h.output, by have := h.size; simp; omega,
    fun i hi hm => (Below.heap_setCell b p v i (fun e => hm (e ▸ hp (e ▸ hi)))).trans (h.block i hi hm)⟩
theorem Kept.setAt {M : Nat → Prop} {a b : World} (h : Kept M a b) (k o : Nat) (v : Value) (hp : k < a.heap.size → M k) : Kept M a (b.setCell ⟨k, o, none⟩ v) := h.setCell ⟨k, o, none⟩ v hp
/-- A store into the one block that may be written; into a new one. -/
theorem Kept.own {k : Nat} {a b : World} (h : Kept (· = k) a b) (o : Nat) (v : Value) : Kept (· = k) a (b.setCell ⟨k, o, none⟩ v) := h.setCell ⟨k, o, none⟩ v (fun _ => rfl)
theorem Kept.fresh {M : Nat → Prop} {a b : World} (h : Kept M a b) {k : Nat} (hk : a.heap.size ≤ k) (o : Nat) (v : Value) : Kept M a (b.setCell ⟨k, o, none⟩ v) := h.setCell ⟨k, o, none⟩ v (fun hl => absurd hl (Nat.not_lt.2 hk))
/-- A step that writes one block, new to the elder world. -/
theorem Kept.new {M : Nat → Prop} {x : Nat} {a b c : World} (h : Kept M a b) (k : Kept (· = x) b c) (hx : a.heap.size ≤ x) : Kept M a c :=
  h.then k (fun _ hi e => absurd (e ▸ hi) (Nat.not_lt.2 hx))
theorem Kept.any {M : Nat → Prop} {a b : World} (h : Kept (fun _ => False) a b) : Kept M a b := h.mono (fun _ _ h => h.elim)
theorem Kept.grown {M : Nat → Prop} {a b c : World} {row : Option Nat} (h : Kept M a b) (hg : b.grownBy c row) (hr : ∀ k, row = some k → k < a.heap.size → M k) : Kept M a c :=
  ⟨hg.os.trans h.os, hg.tape.trans h.tape, hg.output.trans h.output, Nat.le_trans h.size hg.size,
    fun i hi hm => (hg.block i (Nat.lt_of_lt_of_le hi h.size) (fun e => hm (hr i e.symm hi))).trans (h.block i hi hm)⟩
theorem Kept.below {a b : World} (h : Kept (fun _ => False) a b) : Below a.heap.size a b := ⟨h.os, h.tape, h.output, h.size, fun k hk => h.block k hk id⟩
theorem Kept.of_below {M : Nat → Prop} {a b : World} {B : Nat} (h : Below B a b) (hB : a.heap.size ≤ B) : Kept M a b :=
  ⟨h.os, h.tape, h.output, h.size, fun k hk _ => h.block k (Nat.lt_of_lt_of_le hk hB)⟩
theorem Kept.heap {M : Nat → Prop} {a b : World} (h : Kept M a b) {k : Nat} {o : Obj} (ho : a.heap[k]? = some o) (hm : ¬ M k) : b.heap[k]? = some o :=
  (h.block k (lt_of_block ho) hm).trans ho
theorem Kept.cell {M : Nat → Prop} {a b : World} (h : Kept M a b) {p : Addr} {v : Value} (hc : a.cell? p = some v) (hm : ¬ M p.block) : b.cell? p = some v :=
  (World.cell?_of_block (h.block p.block (World.block_lt_of_cell? a p hc) hm)).trans hc
theorem Kept.lt {M : Nat → Prop} {a b : World} (h : Kept M a b) {k : Nat} (hk : k < a.heap.size) : k < b.heap.size := Nat.lt_of_lt_of_le hk h.size

/-! A block of cells, whole: its cells, that none is frozen, and what a store makes of it. -/
theorem cell_blk {w : World} {b : Nat} {c : Array Value} {t : TypeId} {f : Nat × Nat} (h : w.heap[b]? = some (.cells c t f)) (o : Nat) : w.cell? ⟨b, o, none⟩ = c[o]? := by simp [World.cell?, h]
theorem free_blk {w : World} {b : Nat} {c : Array Value} {t : TypeId} (h : w.heap[b]? = some (.cells c t (0, 0))) (o : Nat) : w.frozen? ⟨b, o, none⟩ = false := by simp [World.frozen?, h]
theorem set_blk {w : World} {b : Nat} {c : Array Value} {t : TypeId} {f : Nat × Nat} (h : w.heap[b]? = some (.cells c t f)) (o : Nat) (v : Value) :
    (w.setCell ⟨b, o, none⟩ v).heap[b]? = some (.cells (c.setIfInBounds o v) t f) := by simp [World.setCell, Array.getElem?_modify, h]
theorem set_other {w : World} {b : Nat} {o : Obj} (h : w.heap[b]? = some o) (p : Addr) (v : Value) (hp : p.block ≠ b) : (w.setCell p v).heap[b]? = some o := by
  rw [Below.heap_setCell _ _ _ _ (fun e => hp e.symm)]; exact h
theorem new_blk (w : World) (o : Obj) : (w.alloc o).heap[w.heap.size]? = some o := heap_alloc_new w o
theorem new_at {w : World} {o : Obj} {k : Nat} (h : k = w.heap.size) : (w.alloc o).heap[k]? = some o := h ▸ heap_alloc_new w o
theorem old_blk {w : World} {b : Nat} {x : Obj} (h : w.heap[b]? = some x) (o : Obj) : (w.alloc o).heap[b]? = some x := by
  rw [Below.heap_alloc _ _ _ (lt_of_block h)]; exact h

/-- Where 's[lo:]' begins: at the end of the capacity the elder address stays. -/
def cutAt (size : Nat) (a : Option Addr) (cap l : Nat) : Option Addr := if cap = l then a else a.map (·.add (l * size))
theorem cutAt_lt {size : Nat} {a : Addr} {cap l : Nat} (h : l < cap) : cutAt size (some a) cap l = some (a.add (l * size)) := by simp [cutAt]; omega
/-- 's[lo:]' of a slice, at one go: no test is left. -/
theorem slice_from {P : Program} {t e : TypeId} {size : Nat} (hu : P.underlying t = some (.slice e)) (hs : ∀ w, (sizeOf e).run P w = .ok size w)
    (a : Option Addr) (n cap : Nat) (k : IntKind) (lo : Int) (h0 : 0 ≤ lo) (h1 : lo ≤ n) (w : World) :
    (Instr.slice t (.slice a n cap) (some (.int k lo)) none none).run P w = .ok (.slice (cutAt size a cap lo.toNat) (n - lo.toNat) (cap - lo.toNat)) w := by
  have hb : (Instr.sliceBounds true n cap (some (.int k lo)) none none).run P w = .ok (lo.toNat, n, cap) w := by
    simp [Instr.sliceBounds, go_sem, h0, h1]
  have hl : lo.toNat ≤ n := by omega
  simp only [Instr.slice, run_underlying hu, Sem.run_bind, Result.andThen_ok, hb, hs, Sem.run_pure, cutAt]

theorem addr_add (a off j : Nat) : (⟨a, off, none⟩ : Addr).add j = ⟨a, off + j, none⟩ := by unfold Addr.add; split <;> simp_all

/-- 'append([]T{}, l...)': a copy in new memory. -/
theorem clone_run {P : Program} {t ty e : TypeId} {i : TypeInfo} {z : Value} {size bytes : Nat} (ht : P.underlying t = some (.slice e)) (hi : P.info? e = some i) (hz : i.zero = some z)
    (hsize : i.size = size) (hby : i.bytes = bytes) (hzs : z.cells.size = size) (hsz : 0 < size) (ao : Option Addr) (m c : Nat) (news : List Value) (w : World)
    (hl : news.length = m * size) (hnews : m = 0 ∨ ∃ ad, ao = some ad ∧ ∀ j u, news[j]? = some u → w.cell? (ad.add j) = some u) (h1 : ∀ u ∈ news, u.oneCell' = true)
    (h63 : m ≤ maxLen) (hbytes : m * bytes ≤ 140737488355328) :
    ∃ ao' cap' w1, (Builtin.append_ #[t, t] ty #[.slice (some ⟨w.heap.size, 0, none⟩) 0 0, .slice ao m c]).run P (w.alloc (.cells #[] e)) = .ok (.slice ao' m cap') w1 ∧
      w1.ownsRow w.heap.size e size (.slice ao' m cap') m news ∧ Kept (fun _ => False) w w1 := by
  have hown : (w.alloc (.cells #[] e)).ownsRow w.heap.size e size (.slice (some ⟨w.heap.size, 0, none⟩) 0 0) 0 [] := World.ownsRow_made w #[] 0 (Nat.le_refl _) (Nat.zero_le _) (by simp)
  by_cases hm : m = 0
  · subst hm
    have hn : news = [] := List.eq_nil_of_length_eq_zero (by simpa using hl)
    subst hn
    refine ⟨_, _, w.alloc (.cells #[] e), ?_, hown, (Kept.refl _).alloc _⟩
    cases ao <;> simp [Builtin.append_, run_underlying ht, sizeOf, typeInfo, hi, Builtin.lenOf, Builtin.firstCells, loadCells, loadCellsFrom, storeCells]
  · rcases hnews with h | ⟨ad, rfl, hnews⟩
    · exact absurd h hm
    · have hnews' : ∀ j u, news[j]? = some u → (w.alloc (.cells #[] e)).cell? (ad.add j) = some u := fun j u hu => by
        have := hnews j u hu
        rw [World.cell?_alloc_lt _ _ _ (World.block_lt_of_cell? w _ this)]; exact this
      obtain ⟨v', w', hr, ho, hg, hv⟩ := run_append_own (P := P) (w.alloc (.cells #[] e)) w.heap.size t ty e i z size bytes ht hi hz hsize hby hzs hsz _ 0 [] hown ad m c news hl hnews' h1 (by omega) (by rw [Nat.zero_add]; exact hbytes) (by simp)
      have hg' : Kept (fun _ => False) w w' := ((Kept.refl w).alloc (.cells #[] e)).grown hg (fun k hk hlt => by simp [Value.ownBlock] at hk; omega)
      simp only [Nat.zero_add, List.nil_append] at hr ho
      rcases ho.2 with ⟨rfl, h0⟩ | ⟨g, cap, cur, rfl, _⟩
      · exact absurd h0 hm
      · exact ⟨_, _, _, hr, ho, hg'⟩

/-- A built-in append whose run is known. -/
theorem wpList_append_run {P : Program} {ops : Array Oper} {rest : List Oper} {o : Oper} {a : Act} {w : World} {Q : Exit → Act → World → Prop} (hgd : o.guard = none) (s x : Operand) (t t' : TypeId)
    (ho : o.op = .call { callee := .builtin .append, args := #[s, x], argTypes := #[t, t'] }) (vs vx : Value) (hs : a.eval s = vs) (hx : a.eval x = vx) {v' : Value} {w' : World}
    (hr : (Builtin.append_ #[t, t'] o.type #[vs, vx]).run P w = .ok v' w') (h : wpList P ops Q rest (a.put o.dst v') w') : wpList P ops Q (o :: rest) a w := by
  refine wpList_plain hgd fun _ hK => ?_
  unfold Oper.wp execOp
  simp only [ho, resolve, invoke, builtin, Sem.run_bind, Sem.run_pure, Result.andThen_ok, List.map_toArray, List.map_cons, List.map_nil, hs, hx, hr]
  exact hK _ _ h

/-! A block of cells whose values stand as a list. -/
def Blk (w : World) (g : Nat) (t : TypeId) (cs : List Value) : Prop := w.heap[g]? = some (.cells cs.toArray t (0, 0))
theorem Blk.cell {w : World} {g : Nat} {t : TypeId} {cs : List Value} (h : Blk w g t cs) (i : Nat) : w.cell? ⟨g, i, none⟩ = cs[i]? := by rw [cell_blk h]; simp
theorem Blk.free {w : World} {g : Nat} {t : TypeId} {cs : List Value} (h : Blk w g t cs) (i : Nat) : w.frozen? ⟨g, i, none⟩ = false := free_blk h i
theorem Blk.lt {w : World} {g : Nat} {t : TypeId} {cs : List Value} (h : Blk w g t cs) : g < w.heap.size := lt_of_block h
theorem Blk.set {w : World} {g : Nat} {t : TypeId} {cs : List Value} (h : Blk w g t cs) (i : Nat) (v : Value) : Blk (w.setCell ⟨g, i, none⟩ v) g t (cs.set i v) := by
  unfold Blk at *; rw [set_blk h i v]; simp
theorem Blk.setOther {w : World} {g : Nat} {t : TypeId} {cs : List Value} (h : Blk w g t cs) (p : Addr) (v : Value) (hp : p.block ≠ g) : Blk (w.setCell p v) g t cs := set_other h p v hp
theorem Blk.kept {M : Nat → Prop} {w w' : World} {g : Nat} {t : TypeId} {cs : List Value} (h : Blk w g t cs) (k : Kept M w w') (hm : ¬ M g) : Blk w' g t cs := k.heap h hm
theorem Blk.alloc {w : World} {g : Nat} {t : TypeId} {cs : List Value} (h : Blk w g t cs) (o : Obj) : Blk (w.alloc o) g t cs := old_blk h o
theorem Blk.drew {w : World} {g : Nat} {t : TypeId} {cs : List Value} (h : Blk w g t cs) : Blk w.drew g t cs := h

/-- 'make([]T, n)' for an element of one cell: a new block of zeros. -/
theorem wpList_make_blk {P : Program} {ops : Array Oper} {rest : List Oper} {o : Oper} {a : Act} {w : World} {Q : Exit → Act → World → Prop} (hgd : o.guard = none) (l c : Operand) (t : TypeId)
    (ho : o.op = .makeSlice t l c) (e : TypeId) (i : TypeInfo) (z : Value) (bytes : Nat) (ht : P.underlying t = some (.slice e)) (hi : P.info? e = some i) (hz : i.zero = some z) (h1 : i.size = 1) (hby : i.bytes = bytes) (hzc : z.cells = #[z])
    (n : Nat) (hl : a.eval l = .int .i64 n) (hc : a.eval c = .int .i64 n) (hbytes : bytes * n ≤ 281474976710656) (h63 : n ≤ 9223372036854775807)
    (h : ∀ w', Blk w' w.heap.size e (List.replicate n z) → Kept (fun _ => False) w w' → w'.heap.size = w.heap.size + 1 → wpList P ops Q rest (a.put o.dst (.slice (some ⟨w.heap.size, 0, none⟩) n n)) w') : wpList P ops Q (o :: rest) a w := by
  have hr := run_make (P := P) w t e i z ht hi hz .i64 .i64 n n (by omega) (Int.le_refl _) (by rw [hby, ← Int.natCast_mul]; omega) (by omega)
  simp only [Int.toNat_natCast, h1, Nat.mul_one, hzc] at hr
  refine wpList_plain hgd fun _ hK => ?_
  unfold Oper.wp execOp
  simp only [ho, hl, hc, Sem.run_bind, Sem.run_pure, Result.andThen_ok, hr]
  exact hK _ _ (h _ (by unfold Blk; rw [heap_alloc_new, ← toList_madeCells_one]) ((Kept.refl _).alloc _) (by simp))

/-- 'append(out, x)' of one element onto a slice of the call's own: x's cells lie in a new block first. -/
theorem wpList_push {P : Program} {ops : Array Oper} {rest : List Oper} {o : Oper} {a : Act} {w : World} {Q : Exit → Act → World → Prop} (hgd : o.guard = none) (s x : Operand) (t : TypeId)
    (ho : o.op = .call { callee := .builtin .append, args := #[s, x], argTypes := #[t, t] }) (base : Nat) (e : TypeId) (i : TypeInfo) (z : Value) (size bytes : Nat) (ht : P.underlying t = some (.slice e)) (hi : P.info? e = some i) (hz : i.zero = some z)
    (hsize : i.size = size) (hby : i.bytes = bytes) (hzs : z.cells.size = size) (hsz : 0 < size) (v : Value) (n : Nat) (xs us : List Value) (hs : a.eval s = v) (hown : w.ownsRow base e size v n xs)
    (hx : a.eval x = .slice (some ⟨w.heap.size, 0, none⟩) 1 1) (hul : us.length = size) (hu1 : ∀ u ∈ us, u.oneCell' = true) (hn : n < 137438953472) (hbs : bytes ≤ 1024) (hbase : base ≤ w.heap.size)
    (h : ∀ v' w', w'.ownsRow base e size v' (n + 1) (xs ++ us) → w.grownBy w' v.ownBlock → (∃ ao cap, v' = .slice ao (n + 1) cap) → wpList P ops Q rest (a.put o.dst v') w') :
    wpList P ops Q (o :: rest) a (w.alloc (.cells us.toArray e)) := by
  have hb : (n + 1) * bytes ≤ 137438953472 * 1024 := Nat.mul_le_mul (by omega) hbs
  refine wpList_append_own _ hgd s x t ho base e i z size bytes ht hi hz hsize hby hzs hsz v n xs hs (hown.alloc _) ⟨w.heap.size, 0, none⟩ 1 1 us hx (by omega) (fun j u hu => ?_) hu1 (by unfold maxLen; omega) (by omega) (by simp; omega) (fun v' w' h1 h2 _ => ?_)
  · rw [addr_add, cell_blk (new_blk w _)]; simpa using hu
  · refine h v' w' h1 ⟨h2.os, h2.tape, h2.output, by have := h2.size; simp at this; omega, fun k hk hne => ?_⟩ ?_
    · rw [h2.block k (by simp; omega) hne]; exact Below.heap_alloc _ _ _ hk
    · rcases h1.2 with ⟨rfl, h0⟩ | ⟨g, cap, cur, rfl, _⟩
      · omega
      · exact ⟨_, _, rfl⟩
theorem Kept.pushed {M : Nat → Prop} {W w w' : World} {base size n : Nat} {e : TypeId} {v : Value} {xs : List Value} (h : Kept M W w) (hown : w.ownsRow base e size v n xs) (hg : w.grownBy w' v.ownBlock) (hb : W.heap.size ≤ base) : Kept M W w' :=
  h.grown hg (fun k hk hlt => by have := (hown.lt k hk).1; omega)

/-! What a slice value leads to: these cells, in a block that P names. -/
def Cells (w : World) (ao : Option Addr) (cs : List Value) (P : Nat → Prop) : Prop :=
  cs = [] ∨ ∃ a off, ao = some ⟨a, off, none⟩ ∧ P a ∧ ∀ i, i < cs.length → w.cell? ⟨a, off + i, none⟩ = cs[i]?
theorem Cells.kept {M P : Nat → Prop} {w w' : World} {ao : Option Addr} {cs : List Value} (h : Cells w ao cs P) (k : Kept M w w') (hd : ∀ b, b < w.heap.size → P b → ¬ M b) : Cells w' ao cs P := by
  rcases h with h | ⟨a, off, e, hp, hc⟩
  · exact .inl h
  · refine .inr ⟨a, off, e, hp, fun i hi => ?_⟩
    have := hc i hi
    rw [List.getElem?_eq_getElem hi] at this ⊢
    exact k.cell this (hd _ (World.block_lt_of_cell? _ _ this) hp)
theorem Cells.mono {P Q : Nat → Prop} {w : World} {ao : Option Addr} {cs : List Value} (h : Cells w ao cs P) (hd : ∀ b, P b → Q b) : Cells w ao cs Q :=
  h.imp id fun ⟨a, off, e, hp, hc⟩ => ⟨a, off, e, hd _ hp, hc⟩
theorem Blk.cells {w : World} {g : Nat} {t : TypeId} {cs : List Value} (h : Blk w g t cs) {P : Nat → Prop} (hp : P g) (n : Nat) : Cells w (some ⟨g, 0, none⟩) (cs.take n) P := by
  refine .inr ⟨g, 0, rfl, hp, fun i hi => ?_⟩
  rw [Nat.zero_add, h.cell, List.getElem?_take, if_pos (by simp at hi; omega)]
theorem Blk.cells_all {w : World} {g : Nat} {t : TypeId} {cs : List Value} (h : Blk w g t cs) {P : Nat → Prop} (hp : P g) : Cells w (some ⟨g, 0, none⟩) cs P := by
  have := h.cells hp cs.length
  rwa [List.take_length] at this
theorem Cells.at {w : World} {ao : Option Addr} {cs : List Value} {P : Nat → Prop} (h : Cells w ao cs P) {i : Nat} {v : Value} (hi : cs[i]? = some v) : ∃ a off, ao = some ⟨a, off, none⟩ ∧ P a ∧ w.cell? ⟨a, off + i, none⟩ = some v := by
  rcases h with h | ⟨a, off, e, hp, hc⟩
  · subst h; simp at hi
  · exact ⟨a, off, e, hp, by rw [hc i (List.getElem?_eq_some_iff.1 hi).1, hi]⟩

/-- What the walk is told of a slice of integers that came in. -/
def IsRow (k : IntKind) (w : World) (a : Option Addr) (len cap : Nat) (zs : List Int) : Prop :=
  (a = none ∧ len = 0 ∧ cap = 0 ∧ zs = []) ∨
  ∃ x, a = some x ∧ len ≤ cap ∧ cap ≤ maxLen ∧ zs.length = cap ∧ (∀ i, i < zs.length → w.cell? (x.add i) = some (.int k (zs.getD i 0))) ∧ ∀ n ∈ zs, (Lit.int k n).wf = true
theorem isRow_of {H : Type} {enc : TypeId × Value → H} {P : Program} {W : World} {t e : TypeId} {k : IntKind} {a : Option Addr} {len cap : Nat} {d : DataW H} {p : List MemPlace} (ht : P.underlying t = some (.slice e)) (he : P.underlying e = some (.int k)) (hc : P.cellsOf e = 1)
    (h : DataW.Trod enc P W 0 (fun _ => true) true t (.slice a len cap) d p) : ∃ zs, IsRow k W a len cap zs := by
  obtain ⟨fuel, hf⟩ := h
  rcases ChangeShapes.open_ints ht he hc hf with ⟨hcs, _⟩ | ⟨x, l, c, zs, hcs, _, hl, hm, hz, _, hcell, hwz⟩
  · simp [Value.cells] at hcs
    obtain ⟨rfl, rfl, rfl⟩ := hcs
    exact ⟨[], .inl ⟨rfl, rfl, rfl, rfl⟩⟩
  · simp [Value.cells] at hcs
    obtain ⟨rfl, rfl, rfl⟩ := hcs
    exact ⟨zs, .inr ⟨_, rfl, hl, hm, by simpa using hz, hcell, hwz⟩⟩
end Go.Proofs.Ytffjighohloifaa
