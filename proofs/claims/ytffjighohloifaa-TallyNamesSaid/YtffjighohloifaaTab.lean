/- A block that holds a row of structs: its cells, and what a store into a field makes of it. -/
import Derived.Test.YtffjighohloifaaBase
namespace Go.Proofs.Ytffjighohloifaa
open Go.RowKit

theorem flatten_get {α : Type} {sz : Nat} : ∀ (rows : List (List α)) (_ : ∀ r ∈ rows, r.length = sz) (i j : Nat) (hi : i < rows.length) (_ : j < sz), rows.flatten[i * sz + j]? = (rows[i])[j]? := by
  intro rows
  induction rows with
  | nil => intro _ i j hi; simp at hi
  | cons r rest ih =>
    intro h i j hi hj
    have hr : r.length = sz := h r List.mem_cons_self
    cases i with
    | zero => simp only [Nat.zero_mul, Nat.zero_add, List.flatten_cons, List.getElem_cons_zero]; rw [List.getElem?_append_left (by omega)]
    | succ i =>
      have : (i + 1) * sz + j = r.length + (i * sz + j) := by rw [hr, Nat.succ_mul]; omega
      rw [List.flatten_cons, this, List.getElem?_append_right (by omega), Nat.add_sub_cancel_left]
      exact ih (fun r hr => h r (List.mem_cons_of_mem _ hr)) i j (by simpa using hi) hj

theorem flatten_set {α : Type} {sz : Nat} : ∀ (rows : List (List α)) (_ : ∀ r ∈ rows, r.length = sz) (i j : Nat) (hi : i < rows.length) (_ : j < sz) (v : α), rows.flatten.set (i * sz + j) v = (rows.set i ((rows[i]).set j v)).flatten := by
  intro rows
  induction rows with
  | nil => intro _ i j hi; simp at hi
  | cons r rest ih =>
    intro h i j hi hj v
    have hr : r.length = sz := h r List.mem_cons_self
    cases i with
    | zero => simp only [Nat.zero_mul, Nat.zero_add, List.flatten_cons, List.getElem_cons_zero, List.set_cons_zero]; rw [List.set_append_left _ _ (by omega)]
    | succ i =>
      have : (i + 1) * sz + j = r.length + (i * sz + j) := by rw [hr, Nat.succ_mul]; omega
      rw [List.flatten_cons, this, List.set_append_right _ _ (by omega), Nat.add_sub_cancel_left]
      rw [ih (fun r hr => h r (List.mem_cons_of_mem _ hr)) i j (by simpa using hi) hj v]
      simp

theorem flatten_length {α : Type} {sz : Nat} (rows : List (List α)) (h : ∀ r ∈ rows, r.length = sz) : rows.flatten.length = rows.length * sz := by
  induction rows with
  | nil => simp
  | cons r rest ih =>
    rw [List.flatten_cons, List.length_append, ih (fun r hr => h r (List.mem_cons_of_mem _ hr)), h r List.mem_cons_self, List.length_cons, Nat.succ_mul]; omega

theorem cell_set_ne {w : World} {a o b o' : Nat} {u v : Value} (h : w.cell? ⟨b, o', none⟩ = some v) (hne : a ≠ b ∨ o ≠ o') : (w.setCell ⟨a, o, none⟩ u).cell? ⟨b, o', none⟩ = some v := by
  rw [World.cell?_setCell_other _ _ _ _ (fun e => by injection e with e1 e2 _; rcases hne with h | h; exact h e1; exact h e2)]; exact h
theorem cell_set_eq {w : World} {a o : Nat} {u v : Value} (h : w.cell? ⟨a, o, none⟩ = some v) : (w.setCell ⟨a, o, none⟩ u).cell? ⟨a, o, none⟩ = some u := World.cell?_setCell_same _ _ _ h
theorem free_set {w : World} {p q : Addr} {u : Value} (h : w.frozen? q = false) : (w.setCell p u).frozen? q = false := by rw [World.frozen?_setCell]; exact h

/-- Block g holds these structs, each laid out by f over sz cells, and whatever spare places behind them. -/
def Tab {α : Type} (w : World) (g : Nat) (t : TypeId) (sz : Nat) (f : α → List Value) (l : List α) : Prop := ∃ tail, Blk w g t ((l.map f).flatten ++ tail) ∧ ∀ x ∈ l, (f x).length = sz
section
variable {α : Type} {w : World} {g : Nat} {t : TypeId} {sz : Nat} {f : α → List Value} {l : List α}
theorem rows_of (h : ∀ x ∈ l, (f x).length = sz) : ∀ r ∈ l.map f, r.length = sz := by
  intro r hr
  obtain ⟨x, hx, rfl⟩ := List.mem_map.1 hr
  exact h x hx
theorem place_lt {n i j : Nat} (hi : i < n) (hj : j < sz) : i * sz + j < n * sz := by
  have : (i + 1) * sz ≤ n * sz := Nat.mul_le_mul_right _ hi
  rw [Nat.succ_mul] at this; omega
theorem Tab.cell (h : Tab w g t sz f l) (i j : Nat) (hi : i < l.length) (hj : j < sz) : w.cell? ⟨g, i * sz + j, none⟩ = (f l[i])[j]? := by
  obtain ⟨tail, h1, h2⟩ := h
  have hr := rows_of h2
  rw [h1.cell, List.getElem?_append_left (by rw [flatten_length _ hr, List.length_map]; exact place_lt hi hj), flatten_get _ hr i j (by simpa using hi) hj]; simp
theorem Tab.cell0 (h : Tab w g t sz f l) (i : Nat) (hi : i < l.length) (hj : 0 < sz) : w.cell? ⟨g, i * sz, none⟩ = (f l[i])[0]? := h.cell i 0 hi hj
theorem Tab.free (h : Tab w g t sz f l) (o : Nat) : w.frozen? ⟨g, o, none⟩ = false := by obtain ⟨_, h1, _⟩ := h; exact h1.free o
theorem Tab.lt (h : Tab w g t sz f l) : g < w.heap.size := by obtain ⟨_, h1, _⟩ := h; exact h1.lt
theorem Tab.set (h : Tab w g t sz f l) (i j : Nat) (hi : i < l.length) (hj : j < sz) (v : Value) (x : α) (hx : f x = (f l[i]).set j v) : Tab (w.setCell ⟨g, i * sz + j, none⟩ v) g t sz f (l.set i x) := by
  obtain ⟨tail, h1, h2⟩ := h
  have hr := rows_of h2
  refine ⟨tail, ?_, fun y hy => ?_⟩
  · have := h1.set (i * sz + j) v
    rw [List.set_append_left _ _ (by rw [flatten_length _ hr, List.length_map]; exact place_lt hi hj), flatten_set _ hr i j (by simpa using hi) hj] at this
    rw [List.map_set, hx]
    simpa using this
  · rcases List.mem_or_eq_of_mem_set hy with hy | rfl
    · exact h2 y hy
    · rw [hx, List.length_set]; exact h2 _ (List.getElem_mem _)
theorem Tab.set0 (h : Tab w g t sz f l) (i : Nat) (hi : i < l.length) (hj : 0 < sz) (v : Value) (x : α) (hx : f x = (f l[i]).set 0 v) : Tab (w.setCell ⟨g, i * sz, none⟩ v) g t sz f (l.set i x) := h.set i 0 hi hj v x hx
theorem Tab.kept {M : Nat → Prop} {w' : World} (h : Tab w g t sz f l) (k : Kept M w w') (hm : ¬ M g) : Tab w' g t sz f l := by obtain ⟨tail, h1, h2⟩ := h; exact ⟨tail, h1.kept k hm, h2⟩
theorem Tab.drew (h : Tab w g t sz f l) : Tab w.drew g t sz f l := h
theorem Tab.setOther (h : Tab w g t sz f l) (p : Addr) (v : Value) (hp : p.block ≠ g) : Tab (w.setCell p v) g t sz f l := by obtain ⟨tail, h1, h2⟩ := h; exact ⟨tail, h1.setOther p v hp, h2⟩
theorem Tab.of_blk {tail : List Value} (h : Blk w g t ((l.map f).flatten ++ tail)) (h2 : ∀ x ∈ l, (f x).length = sz) : Tab w g t sz f l := ⟨tail, h, h2⟩
end

theorem madeCells_flatten (z : Array Value) (n : Nat) (hz : 0 < z.size) : (madeCells z (n * z.size)).toList = (List.replicate n z.toList).flatten := by
  refine List.ext_getElem? fun i => ?_
  by_cases hi : i < n * z.size
  · have h1 : i / z.size < n := Nat.div_lt_of_lt_mul (by rw [Nat.mul_comm]; exact hi)
    have h2 : i % z.size < z.size := Nat.mod_lt _ hz
    have h3 : i = (i / z.size) * z.size + i % z.size := by rw [Nat.mul_comm]; exact (Nat.div_add_mod _ _).symm
    have hr : ∀ r ∈ List.replicate n z.toList, r.length = z.size := by intro r hr; rw [List.eq_of_mem_replicate hr]; simp
    have e2 := flatten_get (sz := z.size) (List.replicate n z.toList) hr (i / z.size) (i % z.size) (by simpa using h1) h2
    rw [← h3] at e2
    rw [e2]
    simp [madeCells, hi, h2]
  · rw [List.getElem?_eq_none (by simp [size_madeCells]; omega), List.getElem?_eq_none]
    rw [flatten_length (sz := z.size) _ (by intro r hr; rw [List.eq_of_mem_replicate hr]; simp)]
    simp; omega

/-- 'make([]T, n)' for a struct of sz cells. -/
theorem wpList_make_tab {α : Type} {P : Program} {ops : Array Oper} {rest : List Oper} {o : Oper} {a : Act} {w : World} {Q : Exit → Act → World → Prop} (hgd : o.guard = none) (l c : Operand) (t : TypeId)
    (ho : o.op = .makeSlice t l c) (e : TypeId) (i : TypeInfo) (z : Value) (sz bytes : Nat) (ht : P.underlying t = some (.slice e)) (hi : P.info? e = some i) (hz : i.zero = some z) (h1 : i.size = sz) (hby : i.bytes = bytes) (hzc : z.cells.size = sz) (hsz : 0 < sz)
    (f : α → List Value) (x : α) (hx : f x = z.cells.toList)
    (n : Nat) (hl : a.eval l = .int .i64 n) (hc : a.eval c = .int .i64 n) (hbytes : bytes * n ≤ 281474976710656) (h63 : n ≤ 9223372036854775807)
    (h : ∀ w', Tab w' w.heap.size e sz f (List.replicate n x) → Kept (fun _ => False) w w' → w'.heap.size = w.heap.size + 1 → wpList P ops Q rest (a.put o.dst (.slice (some ⟨w.heap.size, 0, none⟩) n n)) w') : wpList P ops Q (o :: rest) a w := by
  have hr := run_make (P := P) w t e i z ht hi hz .i64 .i64 n n (by omega) (Int.le_refl _) (by rw [hby, ← Int.natCast_mul]; omega) (by omega)
  simp only [Int.toNat_natCast, h1] at hr
  refine wpList_plain hgd fun _ hK => ?_
  unfold Oper.wp execOp
  simp only [ho, hl, hc, Sem.run_bind, Sem.run_pure, Result.andThen_ok, hr]
  refine hK _ _ (h _ (Tab.of_blk (tail := []) ?_ (fun y hy => ?_)) ((Kept.refl _).alloc _) (by simp))
  · unfold Blk
    rw [heap_alloc_new, List.append_nil, List.map_replicate, hx]
    subst hzc
    rw [← madeCells_flatten _ _ hsz]
  · rw [List.eq_of_mem_replicate hy, hx]; simpa using hzc
end Go.Proofs.Ytffjighohloifaa
