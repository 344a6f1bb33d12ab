/- A map of IDs, in memory: how it reads, and what look-ups, stores, lengths, ranges and deletes make of it. -/
import Derived.Test.YthgioaaenfdcdaaPendPlain
import Derived.Maps.OwnSet
import Derived.Maps.OwnOps
import Derived.Maps.RangeWalk
import Derived.Maps.Ext
namespace Go.Proofs.Ythgioaaenfdcdaa
open Go.RowKit Go.Maps

theorem lawU : Keyed Try.prog 34 := int_keyed Try.underlying34
theorem zeroI (w : World) : (zeroValue 3).run Try.prog w = .ok (.int .i64 0) w := by kernel_rfl
theorem wfU {k : Int} (h : U16 k) : (Lit.int .u16 k).wf = true := by
  unfold U16 at h
  simp only [Lit.wf, IntKind.min, IntKind.max, IntKind.signed, IntKind.bits, Bool.and_eq_true]
  simp; omega
theorem u16_of_wf {k : Int} (h : (Lit.int .u16 k).wf = true) : U16 k := by
  simp only [Lit.wf, IntKind.min, IntKind.max, IntKind.signed, IntKind.bits, Bool.and_eq_true] at h
  simp at h
  unfold U16; omega
theorem wfI {k : Int} (h : I64 k) : (Lit.int .i64 k).wf = true := by
  unfold I64 at h
  simp only [Lit.wf, IntKind.min, IntKind.max, IntKind.signed, IntKind.bits, Bool.and_eq_true]
  simp; omega
theorem i64_of_wf' {k : Int} (h : (Lit.int .i64 k).wf = true) : I64 k := by
  simp only [Lit.wf, IntKind.min, IntKind.max, IntKind.signed, IntKind.bits, Bool.and_eq_true] at h
  simp at h
  unfold I64; omega
theorem keyU {k : Int} (h : U16 k) : keyOf Try.prog 34 (.int .u16 k) = some (.int .u16 k) := keyOf_int_mk Try.underlying34 (wfU h)
theorem isKeyU {k : Int} : WideAt.IsKeyLit (.int .u16 k) := trivial
theorem ownsMap_tight {w : World} {P : Program} {k : TypeId} {R : Value → Option (DataW Unit × List MemPlace)} {b n : Nat} {D : DataW Unit} (h : w.ownsMap P k R b n D) : w.ownsMap P k R b (Maps.size D) D := by
  obtain ⟨es, clock, h1, h2, h3, h4⟩ := h
  refine ⟨es, clock, h1, h2, ?_, h4⟩
  rw [h4, size_eq, length_sorted]; simp

/-- What a map's datum says of the IDs. -/
def Says (D : DataW Unit) (m : Outs) : Prop := ∀ k, U16 k → Maps.has D (.int .u16 k) = (look m k).isSome ∧ ∀ v, look m k = some v → ∀ z, D.atKey (.int .u16 k) z = .lit (.int .i64 v)
/-- Block b is the map of these IDs. -/
def MapU (w : World) (b : Nat) (m : Outs) : Prop := m.Good ∧ ∃ (n : Nat) (D : DataW Unit), w.ownsMap Try.prog 34 (plainElem Try.prog 3) b n D ∧ Maps.size D = m.length ∧ Says D m
theorem MapU.kept {M : Nat → Prop} {w w' : World} {b : Nat} {m : Outs} (h : MapU w b m) (k : Kept M w w') (hb : ¬ M b) : MapU w' b m := by
  obtain ⟨g, n, D, ⟨es, clock, h1, h2⟩, h3⟩ := h
  exact ⟨g, n, D, ⟨es, clock, k.heap h1 hb, h2⟩, h3⟩
theorem MapU.obj {w : World} {b : Nat} {m : Outs} (h : MapU w b m) : ∃ es clock, w.heap[b]? = some (.map es clock) := by
  obtain ⟨g, n, D, ⟨es, clock, h1, h2⟩, h3⟩ := h
  exact ⟨es, clock, h1⟩
theorem MapU.lt {w : World} {b : Nat} {m : Outs} (h : MapU w b m) : b < w.heap.size := by
  obtain ⟨es, clock, h1⟩ := h.obj
  exact lt_of_block h1
theorem MapU.new (w : World) : MapU (w.alloc (.map #[] 0)) w.heap.size [] :=
  ⟨good_nil, 0, .map [], World.ownsMap_made w _ _ _, rfl, fun k _ => ⟨rfl, fun v h => by simp [look] at h⟩⟩
section
variable {ops : Array Oper} {rest : List Oper} {o : Oper} {a : Act} {Q : Exit → Act → World → Prop} {w : World}
/-- 'v, ok := m[k]'. -/
theorem wpList_lookU (hg : o.guard = none) (mo x : Operand) (hop : o.op = Op.lookup 69 mo x true) (b : Nat) (m : Outs) (hm : a.eval mo = .map (some b)) (h : MapU w b m) (k : Int) (hx : a.eval x = .int .u16 k) (hk : U16 k)
    (hK : wpList Try.prog ops Q rest (a.put o.dst (.tuple #[.int .i64 ((look m k).getD 0), .bool (look m k).isSome])) w) : wpList Try.prog ops Q (o :: rest) a w := by
  obtain ⟨g, n, D, hown, hs, hsay⟩ := h
  refine wpList_lookup_own_ok_int w hg mo x _ hop 34 3 .i64 lawU Try.underlying69 Try.underlying3 (zeroI w) b n D hm hown _ _ hx (keyU hk) (fun c hat _ => ?_)
  obtain ⟨h1, h2⟩ := hsay k hk
  rw [h1]
  cases hl : look m k with
  | some v =>
    rw [h2 v hl] at hat
    injection hat with hat; injection hat with _ hat
    subst hat
    rw [hl] at hK; exact hK
  | none =>
    rw [hl] at h1 hK
    rw [atKey_of_not_has h1] at hat
    injection hat with hat; injection hat with _ hat
    subst hat
    exact hK
/-- 'len(m)'. -/
theorem wpList_lenU (hg : o.guard = none) (mo : Operand) (hop : o.op = Op.call { callee := Callee.builtin Builtin.len, args := #[mo], argTypes := #[69] }) (b : Nat) (m : Outs) (hm : a.eval mo = .map (some b)) (h : MapU w b m)
    (hK : wpList Try.prog ops Q rest (a.put o.dst (.int .i64 m.length)) w) : wpList Try.prog ops Q (o :: rest) a w := by
  obtain ⟨g, n, D, hown, hs, hsay⟩ := h
  refine wpList_len_own w hg mo _ hop 34 3 Try.underlying69 (plainElem Try.prog 3) b n D hm hown ?_
  rw [hs]; exact hK
/-- 'm[k] = v' at a new key. -/
theorem wpList_putU (hg : o.guard = none) (mo x v : Operand) (hop : o.op = Op.mapUpdate 69 mo x v) (b : Nat) (m : Outs) (hm : a.eval mo = .map (some b)) (h : MapU w b m) (k s : Int) (hx : a.eval x = .int .u16 k) (hv : a.eval v = .int .i64 s)
    (hk : U16 k) (hs : I64 s) (hn : look m k = none)
    (hK : ∀ w', MapU w' b (m ++ [(k, s)]) → Kept (· = b) w w' → wpList Try.prog ops Q rest (a.put o.dst undef) w') : wpList Try.prog ops Q (o :: rest) a w := by
  obtain ⟨g, n, D, hown, hsz, hsay⟩ := h
  have ht := hown.tidy lawU
  have hl := good_len g
  refine wpList_mapUpdate_own w hg mo x v _ hop 34 3 lawU Try.underlying69 (plainElem Try.prog 3) b _ D hm (ownsMap_tight hown) (by rw [hsz]; unfold maxLen; omega) _ _ _ hx hv (keyU hk) _ [] (plainElem_int Try.underlying3 (wfI hs)) (fun w' h1 h2 => ?_)
  refine hK w' ⟨good_snoc g hn hk hs, _, _, h1, ?_, fun y hy => ?_⟩ ((Kept.refl w).grown h2 (fun k hk _ => by injection hk with hk; exact hk.symm))
  · rw [size_put ht, (hsay k hk).1, hn, hsz]; simp
  · rw [look_snoc hn]
    by_cases e : y = k
    · subst e
      rw [if_pos rfl, has_put_same ht.isMap isKeyU]
      exact ⟨rfl, fun v hv z => by injection hv with hv; subst hv; exact atKey_put_same ht.isMap isKeyU _ _⟩
    · have ne : (Lit.int .u16 y) ≠ .int .u16 k := by intro h; injection h with _ h; exact e h
      rw [if_neg e, has_put_other ne]
      refine ⟨(hsay y hy).1, fun v hv z => ?_⟩
      rw [atKey_put_other ne]; exact (hsay y hy).2 v hv z
end
/-- What is still there of a map while a slot's are freed: those of other slots, and those to come. -/
def Outs.rem (s : Int) (left : Lit → Bool) (m : Outs) : Outs := m.filter (fun p => decide (p.2 ≠ s) || left (.int .u16 p.1))
/-- A range over a map is under way that frees a slot's. -/
def Going (w : World) (b r : Nat) (m : Outs) (s : Int) (left : Lit → Bool) (cnt : Nat) : Prop :=
  m.Good ∧ ∃ (n : Nat) (D : DataW Unit), w.ranges Try.prog 34 (plainElem Try.prog 3) b r n D left cnt ∧ Maps.size D = (m.rem s left).length ∧ Says D (m.rem s left)
/-- .. and one of the slot's has come, that is still there. -/
def Met (w : World) (b r : Nat) (m : Outs) (s : Int) (left : Lit → Bool) (x : Int) (cnt : Nat) : Prop :=
  m.Good ∧ U16 x ∧ look (m.rem s left) x = some s ∧ ∃ (n : Nat) (D : DataW Unit), w.ranges Try.prog 34 (plainElem Try.prog 3) b r n D (fun z => left z && !z.sameKey (.int .u16 x)) cnt ∧ Maps.size D = (m.rem s left).length ∧ Says D (m.rem s left)
theorem Going.left {w : World} {b r : Nat} {m : Outs} {s : Int} {left : Lit → Bool} {cnt : Nat} (h : Going w b r m s left cnt) : w.rangeLeft b r = cnt := by
  obtain ⟨_, _, _, h, _⟩ := h; exact h.left_eq
theorem sameU (x y : Int) : (Lit.int .u16 x).sameKey (.int .u16 y) = decide (x = y) := by
  by_cases e : x = y
  · subst e; simp [Lit.sameKey]
  · rw [sameKey_ne (by intro h; injection h with _ h; exact e h)]; simp [e]
section
variable {ops : Array Oper} {rest : List Oper} {o : Oper} {a : Act} {Q : Exit → Act → World → Prop} {w : World}
theorem wpList_rangeU (hg : o.guard = none) (mo : Operand) (hop : o.op = Op.range 69 mo) (b : Nat) (m : Outs) (hm : a.eval mo = .map (some b)) (h : MapU w b m) (s : Int)
    (hK : ∀ w' left cnt, Going w' b w.heap.size m s left cnt → (m.rem s left).length = m.length → Kept (fun _ => False) w w' → w'.heap.size = w.heap.size + 1 → wpList Try.prog ops Q rest (a.put o.dst (.pointer (some ⟨w.heap.size, 0, none⟩))) w') : wpList Try.prog ops Q (o :: rest) a w := by
  obtain ⟨g, n, D, hown, hsz, hsay⟩ := h
  refine wpList_range_own w hg mo _ hop 34 3 lawU Try.underlying69 (plainElem Try.prog 3) b n D hm hown (fun w' h1 h2 h3 => ?_)
  have e : m.rem s (Maps.has D) = m := by
    unfold Outs.rem
    rw [List.filter_eq_self]
    intro p hp
    rw [(hsay p.1 (g.2 p hp).1).1, look_of_mem g.1 (v := p.2) hp]; simp
  exact hK w' _ _ ⟨g, n, D, h1, by rw [e]; exact hsz, by rw [e]; exact hsay⟩ (by rw [e]) ((Kept.refl w).grown h2 (fun k hk _ => by cases hk)) h3
theorem rem_left (m : Outs) (hm : m.Good) (s : Int) (left : Lit → Bool) (x c : Int) (hx : look m x = some c) (_ : left (.int .u16 x) = true) :
    (c ≠ s → m.rem s (fun z => left z && !z.sameKey (.int .u16 x)) = m.rem s left) ∧ (c = s → m.rem s (fun z => left z && !z.sameKey (.int .u16 x)) = (m.rem s left).filter (fun p => decide (p.1 ≠ x))) := by
  constructor
  · intro hc
    unfold Outs.rem
    refine List.filter_congr fun p hp => ?_
    simp only [sameU]
    by_cases e : p.1 = x
    · have := look_of_mem hm.1 (k := p.1) (v := p.2) hp
      rw [e, hx] at this
      injection this with this
      rw [← this]; simp [hc]
    · simp [e]
  · intro hc
    unfold Outs.rem
    rw [List.filter_filter]
    refine List.filter_congr fun p hp => ?_
    simp only [sameU]
    by_cases e : p.1 = x
    · have := look_of_mem hm.1 (k := p.1) (v := p.2) hp
      rw [e, hx] at this
      injection this with this
      rw [← this]; simp [hc, e]
    · simp [e]
theorem filter_key_len {m : Outs} (hm : (m.map (·.1)).Nodup) {x v : Int} (h : look m x = some v) : (m.filter (fun p => decide (p.1 ≠ x))).length + 1 = m.length := by
  induction m with
  | nil => simp [look] at h
  | cons p r ih =>
    simp only [List.map_cons, List.nodup_cons] at hm
    simp only [look] at h
    by_cases e : p.1 = x
    · have : r.filter (fun p => decide (p.1 ≠ x)) = r := by
        rw [List.filter_eq_self]
        intro q hq
        simp only [ne_eq, decide_eq_true_eq]
        intro e2
        exact hm.1 (List.mem_map.2 ⟨q, hq, e2.trans e.symm⟩)
      rw [List.filter_cons_of_neg (by simp [e]), this]; rfl
    · rw [if_neg e] at h
      rw [List.filter_cons_of_pos (by simp [e])]
      simp only [List.length_cons]
      rw [ih hm.2 h]
theorem wpList_nextU (hg : o.guard = none) (it : Operand) (hop : o.op = Op.next it false) (b r : Nat) (m : Outs) (s : Int) (left : Lit → Bool) (cnt : Nat) (hit : a.eval it = .pointer (some ⟨r, 0, none⟩)) (h : Going w b r m s left cnt)
    (hDone : MapU w b (m.free s) → m.rem s left = m.free s → wpList Try.prog ops Q rest (a.put o.dst (.tuple #[.bool false])) w)
    (hMore : ∀ (x c : Int) (w' : World) (cnt' : Nat), cnt' < cnt → U16 x → I64 c → (c ≠ s → Going w' b r m s (fun z => left z && !z.sameKey (.int .u16 x)) cnt' ∧ m.rem s (fun z => left z && !z.sameKey (.int .u16 x)) = m.rem s left) → (c = s → Met w' b r m s left x cnt') → Kept (· = r) w w' →
      (Instr.entry (.pointer (some ⟨r, 0, none⟩))).run Try.prog w' = .ok (.tuple #[.int .u16 x, .int .i64 c]) w' → wpList Try.prog ops Q rest (a.put o.dst (.tuple #[.bool true, .int .u16 x, .int .i64 c])) w') : wpList Try.prog ops Q (o :: rest) a w := by
  obtain ⟨g, n, D, hr, hsz, hsay⟩ := h
  refine wpList_next_ranges_ii w hg it hop 34 3 .u16 .i64 lawU Try.underlying34 Try.underlying3 b r n D left cnt hit hr (fun _ hl => ?_) (fun x c w' cnt' hwx hwc hlx hat hr' hlt hgr _ hen => ?_)
  · have e : m.rem s left = m.free s := by
      unfold Outs.rem Outs.free
      exact List.filter_congr fun p _ => by rw [hl, Bool.or_false]
    rw [e] at hsz hsay
    exact hDone ⟨good_free g s, n, D, hr.owns, hsz, hsay⟩ e
  · have hx := u16_of_wf hwx
    have hh : Maps.has D (.int .u16 x) = true := has_true_of_atKey hat
    have hs1 := hsay x hx
    rw [hs1.1] at hh
    obtain ⟨v, hv⟩ := Option.isSome_iff_exists.1 hh
    have hvc : v = c := by
      have := (hs1.2 v hv (.lit (.int .i64 0))).symm.trans (hat _)
      injection this with this; injection this
    subst hvc
    have hm : look m x = some v := by
      have := look_mem hv
      exact look_of_mem g.1 (List.mem_filter.1 this).1
    have hrl := rem_left m g s left x v hm hlx
    refine hMore x v w' cnt' hlt hx (i64_of_wf' hwc) (fun hc => ?_) (fun hc => ?_) ((Kept.refl w).grown hgr (fun k hk _ => by injection hk with hk; exact hk.symm)) hen
    · have e := hrl.1 hc
      exact ⟨⟨g, n, D, hr', by rw [e]; exact hsz, by rw [e]; exact hsay⟩, e⟩
    · subst hc
      exact ⟨g, hx, hv, n, D, hr', hsz, hsay⟩
theorem wpList_deleteU (hg : o.guard = none) (mo x : Operand) (hop : o.op = Op.call { callee := Callee.builtin Builtin.delete, args := #[mo, x], argTypes := #[69, 34] }) (b r : Nat) (m : Outs) (s : Int) (left : Lit → Bool) (y : Int) (cnt : Nat)
    (hm : a.eval mo = .map (some b)) (hx : a.eval x = .int .u16 y) (h : Met w b r m s left y cnt)
    (hK : ∀ w' left' cnt', Going w' b r m s left' cnt' → cnt' ≤ cnt → (m.rem s left').length + 1 = (m.rem s left).length → Kept (· = b) w w' → wpList Try.prog ops Q rest (a.put o.dst (.tuple #[])) w') : wpList Try.prog ops Q (o :: rest) a w := by
  obtain ⟨g, hy, hv, n, D, hr, hsz, hsay⟩ := h
  have ht := hr.owns.tidy lawU
  refine wpList_delete_ranges w hg mo x _ _ hop 3 lawU Try.underlying69 (plainElem Try.prog 3) b r n D _ cnt hm hr _ _ hx (keyU hy) (fun w' cnt' hr' hle hturn => ?_)
  rw [strike_twice] at hr'
  have hmem := List.mem_filter.1 (look_mem hv)
  have hmy : look m y = some s := look_of_mem g.1 hmem.1
  have hly : left (.int .u16 y) = true := by simpa using hmem.2
  have e := (rem_left m g s left y s hmy hly).2 rfl
  have hlen := filter_key_len (m := m.rem s left) (good_filter g _).1 hv
  have hsd := size_del (k := .int .u16 y) ht
  rw [(hsay y hy).1, hv] at hsd
  simp only [Option.isSome_some, if_true] at hsd
  refine hK w' _ cnt' ⟨g, n, D.del (.int .u16 y), hr', by rw [e]; omega, ?_⟩ hle (by rw [e]; exact hlen) ((Kept.refl w).grown hturn.grown (fun k hk _ => by injection hk with hk; exact hk.symm))
  rw [e]
  intro k hk
  have hlf : look ((m.rem s left).filter (fun p => decide (p.1 ≠ y))) k = (look (m.rem s left) k).filter (fun _ => decide (k ≠ y)) := look_filter (good_filter g _).1 _ _
  rw [hlf]
  by_cases ek : k = y
  · subst ek
    rw [has_del_same, hv]
    simp [Option.filter]
  · have ne : (Lit.int .u16 k) ≠ .int .u16 y := by intro h; injection h with _ h; exact ek h
    have : ((look (m.rem s left) k).filter fun v => decide (k ≠ y)) = look (m.rem s left) k := by
      cases look (m.rem s left) k <;> simp [Option.filter, ek]
    rw [has_del_other ne, this]
    refine ⟨(hsay k hk).1, fun v hv z => ?_⟩
    rw [atKey_del_other ne]; exact (hsay k hk).2 v hv z
end
theorem Going.kept {M : Nat → Prop} {w w' : World} {b r : Nat} {m : Outs} {s : Int} {left : Lit → Bool} {cnt : Nat} (h : Going w b r m s left cnt) (k : Kept M w w') (hb : ¬ M b) (hr : ¬ M r) : Going w' b r m s left cnt := by
  obtain ⟨g, n, D, ⟨es, clock, since, seen, c0, h1, h2, h3, h4, h5, h6⟩, h7⟩ := h
  exact ⟨g, n, D, ⟨es, clock, since, seen, c0, k.heap h1 hb, h2, h3, h4, k.heap h5 hr, h6⟩, h7⟩
end Go.Proofs.Ythgioaaenfdcdaa
