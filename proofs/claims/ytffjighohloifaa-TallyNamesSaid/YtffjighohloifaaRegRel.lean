/- A region that draws its order, by a relation: values that are the same in all orders, and values that a step finds (addresses); each operation once. -/
import Derived.Test.YtffjighohloifaaRegInv
namespace Go.Proofs.Ytffjighohloifaa
open Go

section
variable {P : Program} {ops : Array Oper}

def valsFrom (F : Nat → Value) : Nat → List (Option Value) → List Value
  | _, [] => []
  | i, v :: vs => v.getD (F i) :: valsFrom F (i + 1) vs
theorem valsFrom_len (F : Nat → Value) : ∀ (i : Nat) (vs : List (Option Value)), (valsFrom F i vs).length = vs.length
  | _, [] => rfl
  | i, v :: vs => by simp [valsFrom, valsFrom_len F (i + 1) vs]
theorem valsFrom_get (F : Nat → Value) : ∀ (i : Nat) (vs : List (Option Value)) (j : Nat), (valsFrom F i vs)[j]? = (vs[j]?).map (·.getD (F (i + j)))
  | _, [], j => by simp [valsFrom]
  | i, v :: vs, 0 => by simp [valsFrom]
  | i, v :: vs, j + 1 => by
    simp only [valsFrom, List.getElem?_cons_succ]
    rw [valsFrom_get F (i + 1) vs j, show i + 1 + j = i + (j + 1) by omega]
def freeAt (vs : List (Option Value)) (j : Nat) : Bool := match vs[j]? with
  | some none => true
  | _ => false
theorem freeAt_iff {vs : List (Option Value)} {j : Nat} : freeAt vs j = true ↔ vs[j]? = some none := by
  unfold freeAt
  split
  · rename_i h; simp [h]
  · rename_i h
    constructor
    · intro h'; cases h'
    · intro h'; exact (h h').elim
def updG (g : Nat → Option Value) (i : Nat) (x : Value) : Nat → Option Value := fun j => if j = i then some x else g j
theorem updG_same (g : Nat → Option Value) (i : Nat) (x : Value) : updG g i x i = some x := by simp [updG]
theorem updG_ne {g : Nat → Option Value} {i j : Nat} {x : Value} (h : j ≠ i) : updG g i x j = g j := by simp [updG, h]

/-- What stands ahead of an operation has found its value. -/
def PredsDone (vs : List (Option Value)) (g : Nat → Option Value) (o : Oper) : Prop := ∀ e ∈ o.after, Region.binds .any e = true → vs[e.on]? = some none → ∃ x, g e.on = some x
def RelStep (P : Program) (ops : Array Oper) (J : (Nat → Option Value) → World → Prop) (g : Nat → Option Value) (w : World) (A : Act) (i : Nat) (o : Oper) : Option Value → Prop
  | some v => if Region.wanted o (yielded ops A.tmps) then o.wp P A w (fun a' w' => a' = A.put o.dst v ∧ J g w') (fun _ _ _ => False) else v = undef
  | none => g i = none → if Region.wanted o (yielded ops A.tmps) then o.wp P A w (fun a' w' => ∃ x, a' = A.put o.dst x ∧ J (updG g i x) w') (fun _ _ _ => False) else J (updG g i undef) w
def RelSteps (P : Program) (ops : Array Oper) (all : List (Option Value)) (J : (Nat → Option Value) → World → Prop) (g : Nat → Option Value) (w : World) (A : Act) : Nat → List Oper → List (Option Value) → Prop
  | _, [], [] => True
  | i, o :: os, v :: vs => (PredsDone all g o → RelStep P ops J g w A i o v) ∧ RelSteps P ops all J g w A (i + 1) os vs
  | _, _, _ => False
theorem RelSteps.at {all : List (Option Value)} {J : (Nat → Option Value) → World → Prop} {g : Nat → Option Value} {w : World} {A : Act} : ∀ {k : Nat} {os : List Oper} {vs : List (Option Value)}, RelSteps P ops all J g w A k os vs → ∀ (i : Nat) (o : Oper), os[i]? = some o →
    ∃ v, vs[i]? = some v ∧ (PredsDone all g o → RelStep P ops J g w A (k + i) o v)
  | k, [], [], _, i, o, h => by simp at h
  | k, o :: os, v :: vs, h, 0, o', h' => by simp at h'; subst h'; exact ⟨v, rfl, h.1⟩
  | k, o :: os, v :: vs, h, i + 1, o', h' => by
    simp at h'
    obtain ⟨v', h1, h2⟩ := RelSteps.at (k := k + 1) h.2 i o' h'
    refine ⟨v', by simpa using h1, ?_⟩
    rwa [show k + 1 + i = k + (i + 1) by omega] at h2
  | _, [], _ :: _, h, _, _, _ => h.elim
  | _, _ :: _, [], h, _, _, _ => h.elim

theorem upon_rel {o : Oper} {A a : Act} {R : Value → World → Prop} {Q : Exit → Act → World → Prop} {K : Act → World → Prop} (hd : ∀ t, o.dst = some t → t < A.tmps.size)
    (hK : ∀ x w, R x w → K (a.put o.dst x) w) {r : Result Next} (h : o.upon P A (fun a' w' => ∃ x, a' = A.put o.dst x ∧ R x w') (fun _ _ _ => False) r) : o.upon P a K Q r := by
  have key : ∀ u w, (∃ x, A.put o.dst u = A.put o.dst x ∧ R x w) → K (a.put o.dst u) w := fun u w ⟨x, h1, h2⟩ => by rw [put_same h1 hd a]; exact hK x w h2
  cases r with
  | ok n w' =>
    cases n <;> simp only [Oper.upon] at h ⊢
    case value u => exact key _ _ h
    case skip => exact key _ _ h
    case defer d =>
      obtain ⟨x, h1, _⟩ := h
      have := congrArg (fun x : Act => x.defers.length) h1
      simp [put_defers'] at this
    case enter f args =>
      refine Calls.mono h fun e w'' he => ?_
      cases e with
      | returned u => exact key _ _ he
      | panicked c => exact he.elim
      | outgrown => exact he.elim (fun _ h => h.elim fun _ h => h.elim)
    case row row args => exact Rows.mono h fun u w'' he => key _ _ he
  | halt x w' => cases x <;> simp only [Oper.upon] at h ⊢

/-- What the rule asks of a region, where late operations write what others still read: edges go back, no temporary is written twice, each has room; who looks at another's value comes behind it, or ahead of it, where that one is late. -/
def regOk2 (ops : Array Oper) (late : Nat → Bool) (n : Nat) : Bool :=
  Region.noSelect ops && (List.range ops.size).all fun i => match ops[i]? with
    | none => true
    | some o => o.after.all (fun e => !Region.binds .any e || e.on < i) && (match o.dst with | some d => decide (d < n) | none => true) &&
      (List.range ops.size).all fun j => match ops[j]? with
        | none => true
        | some oj => match oj.dst with
          | none => true
          | some d => (j == i || !(o.dst == some d)) && (!(o.looksAt ops).contains d || (if late j then oj.after.any (fun e => Region.binds .any e && e.on == i) else o.after.any (fun e => Region.binds .any e && e.on == j)))
theorem regOk2_spec {late : Nat → Bool} {n : Nat} (h : regOk2 ops late n = true) {i : Nat} {o : Oper} (hi : ops[i]? = some o) :
    (∀ e ∈ o.after, Region.binds .any e = true → e.on < i) ∧ (∀ d, o.dst = some d → d < n) ∧
    (∀ (j : Nat) (oj : Oper) (d : Tmp), ops[j]? = some oj → oj.dst = some d → (o.dst = some d → j = i) ∧ (d ∈ o.looksAt ops → if late j then ∃ e ∈ oj.after, Region.binds .any e = true ∧ e.on = i else ∃ e ∈ o.after, Region.binds .any e = true ∧ e.on = j)) := by
  unfold regOk2 at h
  rw [Bool.and_eq_true] at h
  have hlt : i < ops.size := (Array.getElem?_eq_some_iff.1 hi).1
  have h1 := List.all_eq_true.1 h.2 i (List.mem_range.2 hlt)
  rw [hi] at h1
  simp only [Bool.and_eq_true] at h1
  obtain ⟨⟨ha, hb⟩, hc⟩ := h1
  refine ⟨fun e he hbd => ?_, fun d hd => ?_, fun j oj d hj hd => ?_⟩
  · have := Array.all_eq_true_iff_forall_mem.1 ha e he
    simpa [hbd] using this
  · rw [hd] at hb; simpa using hb
  · have hjl : j < ops.size := (Array.getElem?_eq_some_iff.1 hj).1
    have h2 := List.all_eq_true.1 hc j (List.mem_range.2 hjl)
    rw [hj] at h2
    simp only [hd, Bool.and_eq_true, Bool.or_eq_true, Bool.not_eq_true', beq_iff_eq, beq_eq_false_iff_ne] at h2
    refine ⟨fun he => ?_, fun hm => ?_⟩
    · rcases h2.1 with h | h
      · exact h
      · exact (h he).elim
    · rcases h2.2 with h | h
      · have : (o.looksAt ops).contains d = true := by simpa using hm
        rw [this] at h; cases h
      · cases hl : late j with
        | true =>
          rw [hl, if_pos rfl] at h
          rw [if_pos rfl]
          obtain ⟨e, he, hb⟩ := Array.any_eq_true'.1 h
          simp only [Bool.and_eq_true, beq_iff_eq] at hb
          exact ⟨e, he, hb.1, hb.2⟩
        | false =>
          rw [hl, if_neg (by simp)] at h
          rw [if_neg (by simp)]
          obtain ⟨e, he, hb⟩ := Array.any_eq_true'.1 h
          simp only [Bool.and_eq_true, beq_iff_eq] at hb
          exact ⟨e, he, hb.1, hb.2⟩
/-- What is listed has its value; what is still to come is as it was; and the list is closed. -/
structure Agrees2 (ops : Array Oper) (a0 : Act) (listed : Array Bool) (a A : Act) : Prop where
  fst : Agrees ops listed a A
  old : ∀ t : Tmp, (∀ (j : Nat) (o : Oper), ops[j]? = some o → o.dst = some t → listed.getD j true = false) → a.tmps[t]? = a0.tmps[t]?
  closed : ∀ (j : Nat) (o : Oper), ops[j]? = some o → listed.getD j true = true → ∀ e ∈ o.after, Region.binds .any e = true → listed.getD e.on true = true
theorem wpAny_rel {a0 : Act} {late : Nat → Bool} {Apre : (Nat → Value) → Act} {A : (Nat → Value) → Act} {J : (Nat → Option Value) → World → Prop} {vs : List (Option Value)} {n : Nat} {Q : Exit → Act → World → Prop} (hok : regOk2 ops late n = true) (hn : ∀ F, (A F).tmps.size = n) (hnp : ∀ F, (Apre F).tmps.size = n)
    (hp1 : ∀ (F : Nat → Value) (t : Tmp), (∀ (j : Nat) (o : Oper), ops[j]? = some o → o.dst = some t → late j = false) → (Apre F).tmps[t]? = (A F).tmps[t]?)
    (hp2 : ∀ (F : Nat → Value) (t : Tmp) (j : Nat) (o : Oper), ops[j]? = some o → o.dst = some t → late j = true → (Apre F).tmps[t]? = a0.tmps[t]?)
    (hvs : vs.length = ops.size)
    (hA : ∀ (F : Nat → Value) (i : Nat) (o : Oper) (d : Tmp) (v : Option Value), ops[i]? = some o → o.dst = some d → vs[i]? = some v → (A F).tmps[d]? = some (v.getD (F i)))
    (hAF : ∀ (F F' : Nat → Value) (t : Tmp), (∀ (i : Nat) (o : Oper), ops[i]? = some o → o.dst = some t → vs[i]? = some none → F i = F' i) → (A F).tmps[t]? = (A F').tmps[t]?)
    (hdef : ∀ F F', (A F).defers = (A F').defers)
    (H : ∀ F g w, J g w → (∀ j x, g j = some x → F j = x) → RelSteps P ops vs J g w (Apre F) 0 ops.toList vs)
    (hQ : ∀ F w, J (fun j => if freeAt vs j = true then some (F j) else none) w → Q .normal (A F) w) :
    ∀ (fuel : Nat) (listed : Array Bool) (a : Act) (g : Nat → Option Value) (w : World), listed.size = ops.size → fuel + listed.toList.countP id = ops.size →
      (∀ j, (g j).isSome = true ↔ j < ops.size ∧ listed.getD j true = true ∧ vs[j]? = some none) → Agrees2 ops a0 listed a (A fun j => (g j).getD undef) → J g w → wpAny P .any ops Q fuel listed a w := by
  have hsel := Region.noSelect_spec (by unfold regOk2 at hok; rw [Bool.and_eq_true] at hok; exact hok.1)
  have hend : ∀ (listed : Array Bool) (a : Act) (g : Nat → Option Value) (w : World), listed.size = ops.size → (∀ j, (g j).isSome = true ↔ j < ops.size ∧ listed.getD j true = true ∧ vs[j]? = some none) → Agrees ops listed a (A fun j => (g j).getD undef) → J g w → Region.ready .any ops listed = [] → Q .normal a w := by
    intro listed a g w hsz hg hag hI hr
    have hall : ∀ i, i < ops.size → listed.getD i true = true := by
      intro i
      induction i using Nat.strongRecOn with
      | _ i ih =>
        intro hi
        cases hb : listed.getD i true with
        | true => rfl
        | false =>
          exfalso
          have : i ∈ Region.ready .any ops listed := by
            rw [mem_ready]
            refine ⟨hb, ops[i], by simp [hi], fun e he hbd => ?_⟩
            have hlt := (regOk2_spec hok (i := i) (o := ops[i]) (by simp [hi])).1 e he hbd
            have := ih e.on hlt (by omega)
            have hs : e.on < listed.size := by omega
            simpa [hs] using this
          rw [hr] at this
          cases this
    have ha : a = A fun j => (g j).getD undef := by
      obtain ⟨t1, d1⟩ := a
      generalize A (fun j => (g j).getD undef) = B at hag
      obtain ⟨t2, d2⟩ := B
      obtain ⟨h1, h2, h3⟩ := hag
      simp only at h1 h2 h3
      subst h1
      congr
      apply Array.ext h2
      intro t ht1 ht2
      have := h3 t (fun j o hj _ => hall j (Array.getElem?_eq_some_iff.1 hj).1)
      rw [Array.getElem?_eq_getElem ht1, Array.getElem?_eq_getElem ht2] at this
      simpa using this
    rw [ha]
    refine hQ _ w ?_
    have hge : (fun j => if freeAt vs j = true then some ((g j).getD undef) else none) = g := by
      funext j
      by_cases hj : vs[j]? = some none
      · rw [if_pos (freeAt_iff.2 hj)]
        have hjl : j < ops.size := by rw [← hvs]; exact (List.getElem?_eq_some_iff.1 hj).1
        have := (hg j).2 ⟨hjl, hall j hjl, hj⟩
        obtain ⟨x, hx⟩ := Option.isSome_iff_exists.1 this
        rw [hx]; rfl
      · rw [if_neg (fun h => hj (freeAt_iff.1 h))]
        cases hx : g j with
        | none => rfl
        | some x => exact (hj ((hg j).1 (by rw [hx]; rfl)).2.2).elim
    rw [hge]
    exact hI
  intro fuel
  induction fuel with
  | zero =>
    intro listed a g w hsz hc hg hag hI
    have hr : Region.ready .any ops listed = [] := by
      rw [List.eq_nil_iff_forall_not_mem]
      intro i hi
      rw [mem_ready] at hi
      obtain ⟨h1, o, ho, -⟩ := hi
      have hil : i < listed.size := by rw [hsz]; exact (Array.getElem?_eq_some_iff.1 ho).1
      have hall : listed.toList.countP id = listed.toList.length := by rw [show listed.toList.length = listed.size by simp]; omega
      rw [List.countP_eq_length] at hall
      have := hall listed[i] (by simp)
      simp [hil] at h1
      rw [h1] at this
      cases this
    exact ⟨hr, hend listed a g w hsz hg hag.fst hI hr⟩
  | succ fuel ih =>
    intro listed a g w hsz hc hg hag hI
    refine ⟨hend listed a g w hsz hg hag.fst hI, fun i hi => ?_⟩
    rw [mem_ready] at hi
    obtain ⟨hun, o, ho, hpre⟩ := hi
    have hil : i < listed.size := by rw [hsz]; exact (Array.getElem?_eq_some_iff.1 ho).1
    have hio : i < ops.size := (Array.getElem?_eq_some_iff.1 ho).1
    have hfi : listed[i] = false := by simpa [hil] using hun
    obtain ⟨F0, hF0⟩ : ∃ F0 : Nat → Value, F0 = fun j => (g j).getD undef := ⟨_, rfl⟩
    rw [← hF0] at hag
    have hcomp : ∀ j x, g j = some x → F0 j = x := fun j x h => by rw [hF0]; simp [h]
    obtain ⟨v, hv, hst⟩ := (H F0 g w hI hcomp).at i o (by simpa using ho)
    rw [Nat.zero_add] at hst
    obtain ⟨r1, r2, r3⟩ := regOk2_spec hok ho
    have hlisted : ∀ e ∈ o.after, Region.binds .any e = true → e.on < listed.size ∧ listed.getD e.on true = true := fun e he hb => by
      have h2 := hpre e he hb
      have hlt : e.on < listed.size := by
        rcases Nat.lt_or_ge e.on listed.size with h | h
        · exact h
        · simp [Array.getElem?_eq_none h] at h2
      exact ⟨hlt, by simpa [hlt] using h2⟩
    have hst' := hst (fun e he hb hfr => by
      obtain ⟨h1, h2⟩ := hlisted e he hb
      exact Option.isSome_iff_exists.1 ((hg e.on).2 ⟨by omega, h2, hfr⟩))
    have hlook : ∀ t ∈ o.looksAt ops, a.tmps[t]? = (Apre F0).tmps[t]? := fun t ht => by
      by_cases hlate : ∃ (j : Nat) (oj : Oper), ops[j]? = some oj ∧ oj.dst = some t ∧ late j = true
      · obtain ⟨j, oj, hj, hd, hl⟩ := hlate
        rw [hp2 F0 t j oj hj hd hl]
        refine hag.old t fun k ok hk hdk => ?_
        obtain rfl : j = k := ((regOk2_spec hok hk).2.2 j oj t hj hd).1 hdk
        have h1 := (r3 j oj t hj hd).2 ht
        rw [hl, if_pos rfl] at h1
        obtain ⟨e, he, hb, rfl⟩ := h1
        cases hx : listed.getD j true with
        | false => rfl
        | true =>
          have := hag.closed j oj hj hx e he hb
          rw [hun] at this
          cases this
      · have hno : ∀ (j : Nat) (oj : Oper), ops[j]? = some oj → oj.dst = some t → late j = false := fun j oj hj hd => by
          cases hl : late j with
          | false => rfl
          | true => exact (hlate ⟨j, oj, hj, hd, hl⟩).elim
        rw [hp1 F0 t hno]
        refine hag.fst.tmps t fun j oj hj hd => ?_
        have h1 := (r3 j oj t hj hd).2 ht
        rw [hno j oj hj hd, if_neg (by simp)] at h1
        obtain ⟨e, he, hb, rfl⟩ := h1
        exact (hlisted e he hb).2
    obtain ⟨hex, hwa⟩ := same_op (hsel i o · · ho) hlook
    have hgi : g i = none := by
      cases hx : g i with
      | none => rfl
      | some x =>
        have := ((hg i).1 (by rw [hx]; rfl)).2.1
        rw [hun] at this; cases this
    have hcnt : fuel + (listed.setIfInBounds i true).toList.countP id = ops.size := by
      rw [Array.toList_setIfInBounds]
      have h1 : listed.toList.length = listed.size := by simp
      have hd : listed.toList = listed.toList.take i ++ false :: listed.toList.drop (i + 1) := by
        have hdrop := List.drop_eq_getElem_cons (show i < listed.toList.length by rw [h1]; exact hil)
        conv => lhs; rw [← List.take_append_drop i listed.toList, hdrop]
        simp [hfi]
      have hs : listed.toList.set i true = listed.toList.take i ++ true :: listed.toList.drop (i + 1) := by
        rw [List.set_eq_take_append_cons_drop]; simp [hil]
      rw [hs]
      rw [hd] at hc
      simp only [List.countP_append, List.countP_cons, id, if_true, Bool.false_eq_true, if_false] at hc ⊢
      omega
    have hset : ∀ j, (listed.setIfInBounds i true).getD j true = true ↔ j = i ∨ listed.getD j true = true := fun j => by
      by_cases hj : i = j
      · subst hj; simp [hil]
      · rw [getD_set_ne true hj]
        constructor
        · exact .inr
        · rintro (h | h)
          · exact (hj h.symm).elim
          · exact h
    -- the next act agrees, whatever has been found
    have hnext : ∀ (x : Value) (g' : Nat → Option Value), (∀ j, j ≠ i → g' j = g j) → (v = none → g' i = some x) → (∀ y, v = some y → x = y) →
        Agrees2 ops a0 (listed.setIfInBounds i true) (a.put o.dst x) (A fun j => (g' j).getD undef) := by
      intro x g' h1 h2 h3
      refine ⟨⟨by rw [put_defers', hag.fst.defers]; exact hdef _ _, by rw [put_size, hag.fst.size, hn, hn], fun t ht => ?_⟩, fun t ht => ?_, fun j oj hj hlj e he hb => ?_⟩
      rotate_left
      · have hd : o.dst ≠ some t := fun hd => by
          have := ht i o ho hd
          rw [(hset i).2 (.inl rfl)] at this
          cases this
        rw [put_ne hd]
        refine hag.old t fun j oj hj hdj => ?_
        have := ht j oj hj hdj
        cases hx : listed.getD j true with
        | false => rfl
        | true => rw [(hset j).2 (.inr hx)] at this; cases this
      · rw [hset]
        rcases (hset j).1 hlj with rfl | hlj
        · rw [ho] at hj
          cases hj
          exact .inr (hlisted e he hb).2
        · exact .inr (hag.closed j oj hj hlj e he hb)
      by_cases hd : o.dst = some t
      · rw [hd, put_eq (by rw [hag.fst.size, hn]; exact r2 t hd), hA _ i o t v ho hd hv]
        cases v with
        | none => simp [h2 rfl]
        | some y => simp [h3 y rfl]
      · rw [put_ne hd, hag.fst.tmps t fun j oj hj hdj => ?_, hF0]
        · refine hAF _ _ t fun j oj hj hdj _ => ?_
          have hji : j ≠ i := by rintro rfl; rw [ho] at hj; cases hj; exact hd hdj
          simp only [h1 j hji]
        · have := ht j oj hj hdj
          by_cases hij : i = j
          · subst hij; rw [ho] at hj; cases hj; exact (hd hdj).elim
          · rw [getD_set_ne true hij] at this; exact this
    have hdst : ∀ t, o.dst = some t → t < (Apre F0).tmps.size := fun t ht => by rw [hnp]; exact r2 t ht
    cases hvv : v with
    | some y =>
      subst hvv
      have hg2 : ∀ j, (g j).isSome = true ↔ j < ops.size ∧ (listed.setIfInBounds i true).getD j true = true ∧ vs[j]? = some none := fun j => by
        rw [hg j, hset j]
        by_cases hji : j = i
        · subst hji
          rw [hv]
          constructor
          · rintro ⟨_, _, h⟩; cases h
          · rintro ⟨_, _, h⟩; cases h
        · constructor
          · rintro ⟨h1, h2, h3⟩; exact ⟨h1, .inr h2, h3⟩
          · rintro ⟨h1, h2, h3⟩; exact ⟨h1, h2.resolve_left hji, h3⟩
      have hgo : ∀ w, J g w → wpAny P .any ops Q fuel (listed.setIfInBounds i true) (a.put o.dst y) w := fun w hw => ih _ _ g _ (by simpa using hsz) hcnt hg2 (hnext y g (fun _ _ => rfl) (fun h => by cases h) (fun z hz => by cases hz; rfl)) hw
      unfold wpOp
      simp only [ho]
      rw [hwa]
      unfold RelStep at hst'
      simp only at hst'
      split
      · rename_i hw
        rw [if_pos hw] at hst'
        left
        unfold Oper.wp
        rw [hex]
        exact upon_same hdst hgo hst'
      · rename_i hw
        rw [if_neg hw] at hst'
        subst hst'
        exact hgo w hI
    | none =>
      subst hvv
      have hg2 : ∀ x j, (updG g i x j).isSome = true ↔ j < ops.size ∧ (listed.setIfInBounds i true).getD j true = true ∧ vs[j]? = some none := fun x j => by
        by_cases hji : j = i
        · subst hji
          rw [updG_same, hset j]
          simp [hio, hv]
        · rw [updG_ne hji, hg j, hset j]
          constructor
          · rintro ⟨h1, h2, h3⟩; exact ⟨h1, .inr h2, h3⟩
          · rintro ⟨h1, h2, h3⟩; exact ⟨h1, h2.resolve_left hji, h3⟩
      have hgo : ∀ x w, J (updG g i x) w → wpAny P .any ops Q fuel (listed.setIfInBounds i true) (a.put o.dst x) w := fun x w hw => ih _ _ (updG g i x) _ (by simpa using hsz) hcnt (hg2 x) (hnext x (updG g i x) (fun j hj => updG_ne hj) (fun _ => updG_same _ _ _) (fun z hz => by cases hz)) hw
      unfold wpOp
      simp only [ho]
      rw [hwa]
      unfold RelStep at hst'
      simp only at hst'
      have hst2 := hst' hgi
      split
      · rename_i hw
        rw [if_pos hw] at hst2
        left
        unfold Oper.wp
        rw [hex]
        exact upon_rel hdst hgo hst2
      · rename_i hw
        rw [if_neg hw] at hst2
        exact hgo undef w hst2

/-- The temporaries of all but the late ones. -/
def dropLate (late : Nat → Bool) : Nat → List (Option Tmp) → List (Option Tmp)
  | _, [] => []
  | i, d :: ds => (if late i then none else d) :: dropLate late (i + 1) ds
theorem dropLate_get (late : Nat → Bool) : ∀ (i : Nat) (ds : List (Option Tmp)) (j : Nat), (dropLate late i ds)[j]? = (ds[j]?).map (fun d => if late (i + j) then none else d)
  | _, [], j => by simp [dropLate]
  | i, d :: ds, 0 => by simp [dropLate]
  | i, d :: ds, j + 1 => by
    simp only [dropLate, List.getElem?_cons_succ]
    rw [dropLate_get late (i + 1) ds j, show i + 1 + j = i + (j + 1) by omega]

theorem wp_region_rel {id : Nat} {a : Act} {w : World} {Q : Exit → Act → World → Prop} (vs : List (Option Value)) (J : (Nat → Option Value) → World → Prop) (late : Nat → Bool) (hm : P.follows .mixedOrders = true) (hok : regOk2 ops late a.tmps.size = true) (ds : List (Option Tmp)) (hds : ops.toList.map (·.dst) = ds) (hvs : vs.length = ds.length)
    (A Apre : (Nat → Value) → Act) (hA : ∀ F, laidAll a ds (valsFrom F 0 vs) = A F) (hAp : ∀ F, laidAll a (dropLate late 0 ds) (valsFrom F 0 vs) = Apre F) (h0 : J (fun _ => none) w.drew) (H : ∀ F g w, J g w → (∀ j x, g j = some x → F j = x) → RelSteps P ops vs J g w (Apre F) 0 ops.toList vs)
    (hQ : ∀ F w, J (fun j => if freeAt vs j = true then some (F j) else none) w → Q .normal (A F) w) : (Code.region id ops true).wp P Q a w := by
  obtain rfl : A = fun F => laidAll a ds (valsFrom F 0 vs) := funext fun F => (hA F).symm
  obtain rfl : Apre = fun F => laidAll a (dropLate late 0 ds) (valsFrom F 0 vs) := funext fun F => (hAp F).symm
  subst hds
  have hz := fun F => laidAll_size (ops.toList.map (·.dst)) (valsFrom F 0 vs) a
  have hzp := fun F => laidAll_size (dropLate late 0 (ops.toList.map (·.dst))) (valsFrom F 0 vs) a
  have hlen : vs.length = ops.size := by rw [hvs]; simp
  have hdd : ∀ (i : Nat) (o : Oper) (d : Tmp), ops[i]? = some o → o.dst = some d → ∀ j : Nat, (ops.toList.map (·.dst))[j]? = some (some d) → j = i := by
    intro i o d hi hd j hj
    simp only [List.getElem?_map, Option.map_eq_some_iff] at hj
    obtain ⟨oj, hoj, hdj⟩ := hj
    exact ((regOk2_spec hok hi).2.2 j oj d (by simpa using hoj) hdj).1 hd
  have hdl : ∀ (j : Nat) (t : Tmp), (dropLate late 0 (ops.toList.map (·.dst)))[j]? = some (some t) → (ops.toList.map (·.dst))[j]? = some (some t) ∧ late j = false := by
    intro j t hj
    rw [dropLate_get, Nat.zero_add] at hj
    obtain ⟨d, hd, he⟩ := Option.map_eq_some_iff.1 hj
    cases hl : late j with
    | true => rw [hl, if_pos rfl] at he; cases he
    | false => rw [hl, if_neg (by simp)] at he; rw [hd, he]; exact ⟨rfl, rfl⟩
  have hAe : ∀ (F : Nat → Value) (i : Nat) (o : Oper) (d : Tmp) (v : Option Value), ops[i]? = some o → o.dst = some d → vs[i]? = some v → (laidAll a (ops.toList.map (·.dst)) (valsFrom F 0 vs)).tmps[d]? = some (v.getD (F i)) := by
    intro F i o d v hi hd hv
    refine laidAll_eq _ _ _ i d _ (by simp [hi, hd]) (by rw [valsFrom_get, hv, Nat.zero_add]; rfl) ((regOk2_spec hok hi).2.1 d hd) (hdd i o d hi hd)
  have hno : ∀ t : Tmp, (¬ ∃ (i : Nat) (o : Oper), ops[i]? = some o ∧ o.dst = some t) → ∀ j : Nat, (ops.toList.map (·.dst))[j]? ≠ some (some t) := fun t ht j hj => by
    simp only [List.getElem?_map, Option.map_eq_some_iff] at hj
    obtain ⟨oj, hoj, hdj⟩ := hj
    exact ht ⟨j, oj, by simpa using hoj, hdj⟩
  refine wp_region_any hm (wpAny_rel (a0 := a) (late := late) (A := fun F => laidAll a (ops.toList.map (·.dst)) (valsFrom F 0 vs)) (Apre := fun F => laidAll a (dropLate late 0 (ops.toList.map (·.dst))) (valsFrom F 0 vs)) (n := a.tmps.size) hok (fun F => (hz F).1) (fun F => (hzp F).1) ?_ ?_ hlen hAe ?_ (fun F F' => (hz F).2.trans (hz F').2.symm) H hQ _ _ _ (fun _ => none) _ (by simp) (by simp [List.countP_replicate]) ?_ ?_ h0)
  · intro F t h
    show (laidAll a _ _).tmps[t]? = (laidAll a _ _).tmps[t]?
    by_cases ht : ∃ (i : Nat) (o : Oper), ops[i]? = some o ∧ o.dst = some t
    · obtain ⟨i, o, hi, hd⟩ := ht
      have hil : i < vs.length := by rw [hlen]; exact (Array.getElem?_eq_some_iff.1 hi).1
      have hv : vs[i]? = some vs[i] := List.getElem?_eq_getElem hil
      rw [hAe F i o t _ hi hd hv]
      refine laidAll_eq _ _ _ i t _ ?_ (by rw [valsFrom_get, hv, Nat.zero_add]; rfl) ((regOk2_spec hok hi).2.1 t hd) (fun j hj => hdd i o t hi hd j (hdl j t hj).1)
      rw [dropLate_get, Nat.zero_add, List.getElem?_map, Array.getElem?_toList, hi]
      simp [h i o hi hd, hd]
    · rw [laidAll_ne _ _ _ t (hno t ht), laidAll_ne _ _ _ t (fun j hj => hno t ht j (hdl j t hj).1)]
  · intro F t j o hj hd hl
    refine laidAll_ne _ _ _ t fun k hk => ?_
    obtain ⟨h1, h2⟩ := hdl k t hk
    have := hdd j o t hj hd k h1
    subst this
    rw [hl] at h2; cases h2
  · intro F F' t h
    show (laidAll a _ _).tmps[t]? = (laidAll a _ _).tmps[t]?
    by_cases ht : ∃ (i : Nat) (o : Oper), ops[i]? = some o ∧ o.dst = some t
    · obtain ⟨i, o, hi, hd⟩ := ht
      have hil : i < vs.length := by rw [hlen]; exact (Array.getElem?_eq_some_iff.1 hi).1
      have hv : vs[i]? = some vs[i] := List.getElem?_eq_getElem hil
      rw [hAe F i o t _ hi hd hv, hAe F' i o t _ hi hd hv]
      cases hx : vs[i] with
      | none => rw [h i o hi hd (by rw [hv, hx])]
      | some y => rfl
    · rw [laidAll_ne _ _ _ t (hno t ht), laidAll_ne _ _ _ t (hno t ht)]
  · intro j
    constructor
    · intro h; cases h
    · rintro ⟨h1, h2, -⟩
      simp [h1] at h2
  · refine ⟨⟨((hz _).2).symm, ((hz _).1).symm, fun t ht => (laidAll_ne _ _ _ t fun j hj => ?_).symm⟩, fun t _ => rfl, fun j o hj hl => ?_⟩
    · simp only [List.getElem?_map, Option.map_eq_some_iff] at hj
      obtain ⟨oj, hoj, hdj⟩ := hj
      have := ht j oj (by simpa using hoj) hdj
      have hjl : j < ops.size := (Array.getElem?_eq_some_iff.1 (by simpa using hoj)).1
      simp [hjl] at this
    · have hjl : j < ops.size := (Array.getElem?_eq_some_iff.1 hj).1
      simp [hjl] at hl

/-- A step that yields a fixed value in whatever world. -/
theorem RelStep.yields {J : (Nat → Option Value) → World → Prop} {g : Nat → Option Value} {w : World} {A : Act} {i : Nat} {o : Oper} {v : Value} (hJ : J g w) (h : Yields P ops o v A) : RelStep P ops J g w A i o (some v) := by
  unfold RelStep
  simp only
  rcases h with ⟨hw, hr⟩ | ⟨hw, rfl⟩
  · rw [if_pos hw]
    unfold Oper.wp
    rw [hr w]
    exact ⟨rfl, hJ⟩
  · rw [if_neg (by simp [hw])]
theorem RelStep.reads {J : (Nat → Option Value) → World → Prop} {g : Nat → Option Value} {w : World} {A : Act} {i : Nat} {o : Oper} {v : Value} (hJ : J g w) (hw : Region.wanted o (yielded ops A.tmps) = true) (hr : (execOp A.eval o).run P w = .ok (.value v) w) : RelStep P ops J g w A i o (some v) := by
  unfold RelStep
  simp only
  rw [if_pos hw]
  unfold Oper.wp
  rw [hr]
  exact ⟨rfl, hJ⟩
/-- A step that finds its value. -/
theorem RelStep.finds {J : (Nat → Option Value) → World → Prop} {g : Nat → Option Value} {w : World} {A : Act} {i : Nat} {o : Oper} (hw : Region.wanted o (yielded ops A.tmps) = true) (x : Value) (w' : World) (hr : (execOp A.eval o).run P w = .ok (.value x) w') (hJ : J (updG g i x) w') : RelStep P ops J g w A i o none := by
  unfold RelStep
  intro _
  rw [if_pos hw]
  unfold Oper.wp
  rw [hr]
  exact ⟨x, rfl, hJ⟩
/-- A call of a fixed value. -/
theorem RelStep.calls {J : (Nat → Option Value) → World → Prop} {g : Nat → Option Value} {w : World} {A : Act} {i : Nat} {o : Oper} {v : Value} (f : FuncId) (args : Array Value) (hw : Region.wanted o (yielded ops A.tmps) = true) (hr : (execOp A.eval o).run P w = .ok (.enter f args) w)
    (h : Calls P f args w fun e w' => e = .returned v ∧ J g w') : RelStep P ops J g w A i o (some v) := by
  unfold RelStep
  simp only
  rw [if_pos hw]
  unfold Oper.wp
  rw [hr]
  refine Calls.mono h ?_
  rintro e w' ⟨rfl, h⟩
  exact ⟨rfl, h⟩
/-- A call that finds its value. -/
theorem RelStep.callsF {J : (Nat → Option Value) → World → Prop} {g : Nat → Option Value} {w : World} {A : Act} {i : Nat} {o : Oper} (f : FuncId) (args : Array Value) (hw : Region.wanted o (yielded ops A.tmps) = true) (hr : (execOp A.eval o).run P w = .ok (.enter f args) w)
    (h : g i = none → Calls P f args w fun e w' => ∃ x, e = .returned x ∧ J (updG g i x) w') : RelStep P ops J g w A i o none := by
  unfold RelStep
  intro hn
  rw [if_pos hw]
  unfold Oper.wp
  rw [hr]
  refine Calls.mono (h hn) ?_
  rintro e w' ⟨x, rfl, h⟩
  exact ⟨x, rfl, h⟩
/-- A store. -/
theorem RelStep.skips {J : (Nat → Option Value) → World → Prop} {g : Nat → Option Value} {w : World} {A : Act} {i : Nat} {o : Oper} (hw : Region.wanted o (yielded ops A.tmps) = true) (w' : World) (hr : g i = none → (execOp A.eval o).run P w = .ok .skip w') (hd : o.dst = none) (hJ : g i = none → J (updG g i undef) w') : RelStep P ops J g w A i o none := by
  unfold RelStep
  intro hn
  rw [if_pos hw]
  unfold Oper.wp
  rw [hr hn]
  exact ⟨undef, by rw [hd], hJ hn⟩
end
end Go.Proofs.Ytffjighohloifaa
