/- A region that draws its order, by an invariant of the world: each operation once, at the values of all of them, in any world of the invariant. -/
import Derived.Orders
import Derived.Deep.RegionHeld
namespace Go.Proofs.Ytffjighohloifaa
open Go

section
variable {P : Program} {ops : Array Oper}

/-- One operation, where all values are laid: it yields v and keeps I; or it is not wanted. -/
def OpStep (P : Program) (ops : Array Oper) (A : Act) (I : World → Prop) (o : Oper) (v : Value) : Prop :=
  if Region.wanted o (yielded ops A.tmps) then ∀ w, I w → o.wp P A w (fun a' w' => a' = A.put o.dst v ∧ I w') (fun _ _ _ => False) else v = undef
def AllSteps (P : Program) (ops : Array Oper) (A : Act) (I : World → Prop) : List Oper → List Value → Prop
  | [], [] => True
  | o :: os, v :: vs => OpStep P ops A I o v ∧ AllSteps P ops A I os vs
  | _, _ => False
theorem AllSteps.at {A : Act} {I : World → Prop} : ∀ {os : List Oper} {vs : List Value}, AllSteps P ops A I os vs → ∀ (i : Nat) (o : Oper), os[i]? = some o → ∃ v, vs[i]? = some v ∧ OpStep P ops A I o v
  | [], [], _, i, o, h => by simp at h
  | o :: os, v :: vs, h, 0, o', h' => by simp at h'; subst h'; exact ⟨v, rfl, h.1⟩
  | o :: os, v :: vs, h, i + 1, o', h' => by simp at h'; simpa using h.2.at i o' h'
  | [], _ :: _, h, _, _, _ => h.elim
  | _ :: _, [], h, _, _, _ => h.elim

/-- What the rule asks of a region: edges go back, no temporary is written twice, each has room, an operation looks at none that is still to come. -/
def regOk (ops : Array Oper) (n : Nat) : Bool :=
  Region.noSelect ops && (List.range ops.size).all fun i => match ops[i]? with
    | none => true
    | some o => o.after.all (fun e => !Region.binds .any e || e.on < i) && (match o.dst with | some d => decide (d < n) | none => true) &&
      (List.range ops.size).all fun j => match (ops[j]?).bind (·.dst) with
        | none => true
        | some d => (j == i || !(o.dst == some d)) && (!(o.looksAt ops).contains d || o.after.any (fun e => Region.binds .any e && e.on == j))
/-- The act behind all of them. -/
def laidAll (a : Act) : List (Option Tmp) → List Value → Act
  | d :: ds, v :: vs => laidAll (a.put d v) ds vs
  | _, _ => a
theorem put_size (a : Act) (d : Option Tmp) (v : Value) : (a.put d v).tmps.size = a.tmps.size := by cases d <;> simp [Act.put]
theorem put_defers' (a : Act) (d : Option Tmp) (v : Value) : (a.put d v).defers = a.defers := by cases d <;> rfl
theorem put_ne {a : Act} {d : Option Tmp} {v : Value} {t : Tmp} (h : d ≠ some t) : (a.put d v).tmps[t]? = a.tmps[t]? := by
  cases d with
  | none => rfl
  | some e => simp only [Act.put]; rw [Array.getElem?_setIfInBounds_ne (fun x => h (by rw [x]))]
theorem put_eq {a : Act} {d : Tmp} {v : Value} (h : d < a.tmps.size) : (a.put (some d) v).tmps[d]? = some v := by
  simp [Act.put, h]
theorem laidAll_size : ∀ (ds : List (Option Tmp)) (vs : List Value) (a : Act), (laidAll a ds vs).tmps.size = a.tmps.size ∧ (laidAll a ds vs).defers = a.defers
  | d :: ds, v :: vs, a => by
    have := laidAll_size ds vs (a.put d v)
    rw [put_size, put_defers'] at this
    exact this
  | [], _, a => by unfold laidAll; exact ⟨rfl, rfl⟩
  | _ :: _, [], a => by unfold laidAll; exact ⟨rfl, rfl⟩
theorem laidAll_ne : ∀ (ds : List (Option Tmp)) (vs : List Value) (a : Act) (t : Tmp), (∀ j : Nat, ds[j]? ≠ some (some t)) → (laidAll a ds vs).tmps[t]? = a.tmps[t]?
  | d :: ds, v :: vs, a, t, h => by
    have := laidAll_ne ds vs (a.put d v) t (fun j => by have := h (j + 1); simpa using this)
    rw [put_ne (by have := h 0; simpa using this)] at this
    exact this
  | [], _, a, t, _ => by unfold laidAll; rfl
  | _ :: _, [], a, t, _ => by unfold laidAll; rfl
theorem laidAll_eq : ∀ (ds : List (Option Tmp)) (vs : List Value) (a : Act) (i : Nat) (t : Tmp) (v : Value), ds[i]? = some (some t) → vs[i]? = some v → t < a.tmps.size → (∀ j : Nat, ds[j]? = some (some t) → j = i) → (laidAll a ds vs).tmps[t]? = some v
  | d :: ds, v :: vs, a, 0, t, u, h1, h2, h3, h4 => by
    simp at h1 h2
    subst h1 h2
    unfold laidAll
    rw [laidAll_ne ds vs _ t (fun j hj => by have := h4 (j + 1) (by simpa using hj); omega), put_eq h3]
  | d :: ds, v :: vs, a, i + 1, t, u, h1, h2, h3, h4 => by
    unfold laidAll
    exact laidAll_eq ds vs _ i t u (by simpa using h1) (by simpa using h2) (by rw [put_size]; exact h3) (fun j hj => by have := h4 (j + 1) (by simpa using hj); omega)
  | [], _, a, i, t, u, h1, _, _, _ => by simp at h1
  | _ :: _, [], a, i, t, u, _, h2, _, _ => by simp at h2

/-- An act that agrees with the full one but for what is still to come. -/
structure Agrees (ops : Array Oper) (listed : Array Bool) (a A : Act) : Prop where
  defers : a.defers = A.defers
  size : a.tmps.size = A.tmps.size
  tmps : ∀ t : Tmp, (∀ (j : Nat) (o : Oper), ops[j]? = some o → o.dst = some t → listed.getD j true = true) → a.tmps[t]? = A.tmps[t]?

theorem regOk_spec {n : Nat} (h : regOk ops n = true) {i : Nat} {o : Oper} (hi : ops[i]? = some o) :
    (∀ e ∈ o.after, Region.binds .any e = true → e.on < i) ∧ (∀ d, o.dst = some d → d < n) ∧
    (∀ (j : Nat) (oj : Oper) (d : Tmp), ops[j]? = some oj → oj.dst = some d → (o.dst = some d → j = i) ∧ (d ∈ o.looksAt ops → ∃ e ∈ o.after, Region.binds .any e = true ∧ e.on = j)) := by
  unfold regOk at h
  rw [Bool.and_eq_true] at h
  have hlt : i < ops.size := (Array.getElem?_eq_some_iff.1 hi).1
  have h1 := List.all_eq_true.1 h.2 i (List.mem_range.2 hlt)
  rw [hi] at h1
  simp only [Bool.and_eq_true] at h1
  obtain ⟨⟨ha, hb⟩, hc⟩ := h1
  refine ⟨fun e he hbd => ?_, fun d hd => ?_, fun j oj d hj hd => ?_⟩
  · have := Array.all_eq_true_iff_forall_mem.1 ha e he
    simpa [hbd] using this
  · rw [hd] at hb; simpa using hb
  · have hjl : j < ops.size := (Array.getElem?_eq_some_iff.1 hj).1
    have h2 := List.all_eq_true.1 hc j (List.mem_range.2 hjl)
    rw [hj] at h2
    simp only [Option.bind_some, hd, Bool.and_eq_true, Bool.or_eq_true, Bool.not_eq_true', beq_iff_eq, beq_eq_false_iff_ne] at h2
    refine ⟨fun he => ?_, fun hm => ?_⟩
    · rcases h2.1 with h | h
      · exact h
      · exact (h he).elim
    · rcases h2.2 with h | h
      · have : (o.looksAt ops).contains d = true := by simpa using hm
        rw [this] at h; cases h
      · obtain ⟨e, he, hb⟩ := Array.any_eq_true'.1 h
        simp only [Bool.and_eq_true, beq_iff_eq] at hb
        exact ⟨e, he, hb.1, hb.2⟩

theorem eval_same {a A : Act} {x : Operand} (h : ∀ t, x = .tmp t → a.tmps[t]? = A.tmps[t]?) : a.eval x = A.eval x := by
  cases x with
  | tmp t => have := h t rfl; simp [Act.eval, this]
  | _ => rfl
theorem same_op {a A : Act} {o : Oper} (hs : ∀ cs b, o.op ≠ .select cs b) (h : ∀ t ∈ o.looksAt ops, a.tmps[t]? = A.tmps[t]?) :
    execOp a.eval o = execOp A.eval o ∧ Region.wanted o (yielded ops a.tmps) = Region.wanted o (yielded ops A.tmps) := by
  constructor
  · exact execOp_congr o hs fun x hx => eval_same fun t ht => h t (by
      subst ht
      exact List.mem_append_left _ (List.mem_filterMap.2 ⟨.tmp t, by simpa using hx, rfl⟩))
  · unfold Region.wanted
    cases hg : o.guard with
    | none => rfl
    | some gw =>
      obtain ⟨g, want⟩ := gw
      have hy : yielded ops a.tmps g = yielded ops A.tmps g := by
        unfold yielded
        cases ht : (ops[g]?).bind (·.dst) with
        | none => rfl
        | some t => simp [h t (by simp [Oper.looksAt, hg, ht])]
      simp only [hy]
theorem put_same {A : Act} {d : Option Tmp} {v u : Value} (h : A.put d v = A.put d u) (hd : ∀ t, d = some t → t < A.tmps.size) (a : Act) : a.put d v = a.put d u := by
  cases d with
  | none => rfl
  | some t =>
    have h1 := put_eq (v := v) (hd t rfl)
    rw [h, put_eq (hd t rfl)] at h1
    simp at h1
    rw [h1]
theorem upon_same {o : Oper} {A a : Act} {I : World → Prop} {v : Value} {Q : Exit → Act → World → Prop} {K : Act → World → Prop} (hd : ∀ t, o.dst = some t → t < A.tmps.size)
    (hK : ∀ w, I w → K (a.put o.dst v) w) {r : Result Next} (h : o.upon P A (fun a' w' => a' = A.put o.dst v ∧ I w') (fun _ _ _ => False) r) : o.upon P a K Q r := by
  have key : ∀ u w, A.put o.dst u = A.put o.dst v ∧ I w → K (a.put o.dst u) w := fun u w ⟨h1, h2⟩ => by rw [put_same h1 hd a]; exact hK w h2
  cases r with
  | ok n w' =>
    cases n <;> simp only [Oper.upon] at h ⊢
    case value u => exact key _ _ h
    case skip => exact key _ _ h
    case defer d =>
      have := congrArg (fun x : Act => x.defers.length) h.1
      simp [put_defers'] at this
    case enter f args =>
      refine Calls.mono h fun e w'' he => ?_
      cases e with
      | returned u => exact key _ _ he
      | panicked c => exact he.elim
      | outgrown => exact he.elim (fun _ h => h.elim fun _ h => h.elim)
    case row row args => exact Rows.mono h fun u w'' he => key _ _ he
  | halt x w' => cases x <;> simp only [Oper.upon] at h ⊢

theorem wpAny_inv {A : Act} {I : World → Prop} {vs : List Value} {Q : Exit → Act → World → Prop} (hok : regOk ops A.tmps.size = true)
    (hA : ∀ (i : Nat) (o : Oper) (d : Tmp) (v : Value), ops[i]? = some o → o.dst = some d → vs[i]? = some v → A.tmps[d]? = some v)
    (H : AllSteps P ops A I ops.toList vs) (hQ : ∀ w, I w → Q .normal A w) :
    ∀ (fuel : Nat) (listed : Array Bool) (a : Act) (w : World), listed.size = ops.size → fuel + listed.toList.countP id = ops.size → Agrees ops listed a A → I w → wpAny P .any ops Q fuel listed a w := by
  have hsel := Region.noSelect_spec (by unfold regOk at hok; rw [Bool.and_eq_true] at hok; exact hok.1)
  -- all are listed, or one is ready
  have hend : ∀ (listed : Array Bool) (a : Act) (w : World), listed.size = ops.size → Agrees ops listed a A → I w → Region.ready .any ops listed = [] → Q .normal a w := by
    intro listed a w hsz hag hI hr
    have hall : ∀ i, i < ops.size → listed.getD i true = true := by
      intro i
      induction i using Nat.strongRecOn with
      | _ i ih =>
        intro hi
        cases hb : listed.getD i true with
        | true => rfl
        | false =>
          exfalso
          have : i ∈ Region.ready .any ops listed := by
            rw [mem_ready]
            refine ⟨hb, ops[i], by simp [hi], fun e he hbd => ?_⟩
            have hlt := (regOk_spec hok (i := i) (o := ops[i]) (by simp [hi])).1 e he hbd
            have := ih e.on hlt (by omega)
            have hs : e.on < listed.size := by omega
            simpa [hs] using this
          rw [hr] at this
          cases this
    have : a = A := by
      obtain ⟨t1, d1⟩ := a
      obtain ⟨t2, d2⟩ := A
      obtain ⟨h1, h2, h3⟩ := hag
      simp only at h1 h2 h3
      subst h1
      congr
      apply Array.ext h2
      intro t ht1 ht2
      have := h3 t (fun j o hj _ => hall j (Array.getElem?_eq_some_iff.1 hj).1)
      rw [Array.getElem?_eq_getElem ht1, Array.getElem?_eq_getElem ht2] at this
      simpa using this
    rw [this]
    exact hQ w hI
  intro fuel
  induction fuel with
  | zero =>
    intro listed a w hsz hc hag hI
    have hr : Region.ready .any ops listed = [] := by
      rw [List.eq_nil_iff_forall_not_mem]
      intro i hi
      rw [mem_ready] at hi
      obtain ⟨h1, o, ho, -⟩ := hi
      have hil : i < listed.size := by rw [hsz]; exact (Array.getElem?_eq_some_iff.1 ho).1
      have hall : listed.toList.countP id = listed.toList.length := by rw [show listed.toList.length = listed.size by simp]; omega
      rw [List.countP_eq_length] at hall
      have := hall listed[i] (by simp)
      simp [hil] at h1
      rw [h1] at this
      cases this
    exact ⟨hr, hend listed a w hsz hag hI hr⟩
  | succ fuel ih =>
    intro listed a w hsz hc hag hI
    refine ⟨hend listed a w hsz hag hI, fun i hi => ?_⟩
    rw [mem_ready] at hi
    obtain ⟨hun, o, ho, hpre⟩ := hi
    have hil : i < listed.size := by rw [hsz]; exact (Array.getElem?_eq_some_iff.1 ho).1
    have hfi : listed[i] = false := by simpa [hil] using hun
    obtain ⟨v, hv, hst⟩ := H.at i o (by simpa using ho)
    obtain ⟨r1, r2, r3⟩ := regOk_spec hok ho
    have hlook : ∀ t ∈ o.looksAt ops, a.tmps[t]? = A.tmps[t]? := fun t ht => hag.tmps t fun j oj hj hd => by
      obtain ⟨e, he, hb, rfl⟩ := (r3 j oj t hj hd).2 ht
      have h2 := hpre e he hb
      have : e.on < listed.size := by
        rcases Nat.lt_or_ge e.on listed.size with h | h
        · exact h
        · simp [Array.getElem?_eq_none h] at h2
      simpa [this] using h2
    obtain ⟨hex, hwa⟩ := same_op (hsel i o · · ho) hlook
    have hnext : Agrees ops (listed.setIfInBounds i true) (a.put o.dst v) A := by
      refine ⟨by rw [put_defers']; exact hag.defers, by rw [put_size]; exact hag.size, fun t ht => ?_⟩
      by_cases hd : o.dst = some t
      · rw [hd, put_eq (by rw [hag.size]; exact r2 t hd), hA i o t v ho hd hv]
      · rw [put_ne hd]
        refine hag.tmps t fun j oj hj hdj => ?_
        have := ht j oj hj hdj
        by_cases hij : i = j
        · subst hij; rw [ho] at hj; cases hj; exact (hd hdj).elim
        · rw [getD_set_ne true hij] at this; exact this
    have hcnt : fuel + (listed.setIfInBounds i true).toList.countP id = ops.size := by
      rw [Array.toList_setIfInBounds]
      have h1 : listed.toList.length = listed.size := by simp
      have hd : listed.toList = listed.toList.take i ++ false :: listed.toList.drop (i + 1) := by
        have hdrop := List.drop_eq_getElem_cons (show i < listed.toList.length by rw [h1]; exact hil)
        conv => lhs; rw [← List.take_append_drop i listed.toList, hdrop]
        simp [hfi]
      have hs : listed.toList.set i true = listed.toList.take i ++ true :: listed.toList.drop (i + 1) := by
        rw [List.set_eq_take_append_cons_drop]; simp [hil]
      rw [hs]
      rw [hd] at hc
      simp only [List.countP_append, List.countP_cons, id, if_true, Bool.false_eq_true, if_false] at hc ⊢
      omega
    have hgo : ∀ w, I w → wpAny P .any ops Q fuel (listed.setIfInBounds i true) (a.put o.dst v) w := fun w hw => ih _ _ _ (by simpa using hsz) hcnt hnext hw
    unfold wpOp
    simp only [ho]
    rw [hwa]
    unfold OpStep at hst
    split
    · rename_i hw
      rw [if_pos hw] at hst
      left
      unfold Oper.wp
      rw [hex]
      exact upon_same r2 hgo (hst w hI)
    · rename_i hw
      rw [if_neg hw] at hst
      subst hst
      exact hgo w hI

theorem wp_region_inv {id : Nat} {a : Act} {w : World} {Q : Exit → Act → World → Prop} (vs : List Value) (I : World → Prop) (hm : P.follows .mixedOrders = true) (hok : regOk ops a.tmps.size = true) (ds : List (Option Tmp)) (hds : ops.toList.map (·.dst) = ds) (hvs : vs.length = ds.length)
    (A : Act) (hA : laidAll a ds vs = A) (h0 : I w.drew) (H : AllSteps P ops A I ops.toList vs) (hQ : ∀ w, I w → Q .normal A w) : (Code.region id ops true).wp P Q a w := by
  subst hA
  subst hds
  obtain ⟨z1, z2⟩ := laidAll_size (ops.toList.map (·.dst)) vs a
  refine wp_region_any hm (wpAny_inv (by rw [z1]; exact hok) ?_ H hQ _ _ _ _ (by simp) (by simp [List.countP_replicate]) ?_ h0)
  · intro i o d v hi hd hv
    refine laidAll_eq _ _ _ i d v (by simp [hi, hd]) hv ((regOk_spec hok hi).2.1 d hd) fun j hj => ?_
    simp only [List.getElem?_map, Option.map_eq_some_iff] at hj
    obtain ⟨oj, hoj, hdj⟩ := hj
    exact ((regOk_spec hok hi).2.2 j oj d (by simpa using hoj) hdj).1 hd
  · refine ⟨z2.symm, z1.symm, fun t ht => (laidAll_ne _ _ _ t fun j hj => ?_).symm⟩
    simp only [List.getElem?_map, Option.map_eq_some_iff] at hj
    obtain ⟨oj, hoj, hdj⟩ := hj
    have := ht j oj (by simpa using hoj) hdj
    have hjl : j < ops.size := (Array.getElem?_eq_some_iff.1 (by simpa using hoj)).1
    simp [hjl] at this

theorem OpStep.yields {A : Act} {I : World → Prop} {o : Oper} {v : Value} (h : Yields P ops o v A) : OpStep P ops A I o v := by
  unfold OpStep
  rcases h with ⟨hw, hr⟩ | ⟨hw, rfl⟩
  · rw [if_pos hw]
    intro w hI
    unfold Oper.wp
    rw [hr w]
    exact ⟨rfl, hI⟩
  · rw [if_neg (by simp [hw])]
theorem OpStep.reads {A : Act} {I : World → Prop} {o : Oper} {v : Value} (hw : Region.wanted o (yielded ops A.tmps) = true) (h : ∀ w, I w → (execOp A.eval o).run P w = .ok (.value v) w) : OpStep P ops A I o v := by
  unfold OpStep
  rw [if_pos hw]
  intro w hI
  unfold Oper.wp
  rw [h w hI]
  exact ⟨rfl, hI⟩
theorem OpStep.runs {A : Act} {I : World → Prop} {o : Oper} {v : Value} (hw : Region.wanted o (yielded ops A.tmps) = true) (h : ∀ w, I w → o.wp P A w (fun a' w' => a' = A.put o.dst v ∧ I w') (fun _ _ _ => False)) : OpStep P ops A I o v := by
  unfold OpStep
  rw [if_pos hw]
  exact h
theorem OpStep.calls {A : Act} {I : World → Prop} {o : Oper} {v : Value} (f : FuncId) (args : Array Value) (hw : Region.wanted o (yielded ops A.tmps) = true) (hr : ∀ w, I w → (execOp A.eval o).run P w = .ok (.enter f args) w)
    (h : ∀ w, I w → Calls P f args w fun e w' => e = .returned v ∧ I w') : OpStep P ops A I o v := OpStep.runs hw fun w hI => by
  unfold Oper.wp
  rw [hr w hI]
  refine Calls.mono (h w hI) ?_
  rintro e w' ⟨rfl, h⟩
  exact ⟨rfl, h⟩
end
end Go.Proofs.Ytffjighohloifaa
