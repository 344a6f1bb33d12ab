/- What Order answers, plain: each that may be asked once, by rising keys. -/
import Derived.Test.YtnpmimjhpnhdkaaOrd4
import Derived.Test.YtnpmimjhpnhdkaaRepLawPlain
import Derived.Test.YtnpmimjhpnhdkaaCase20
import Derived.Test.YtnpmimjhpnhdkaaDrawRef2
import Derived.Test.YtnpmimjhpnhdkaaRegInv
import Derived.Deep.RegionLaw
namespace Go.Proofs.Ytnpmimjhpnhdkaa
open Go.RowKit

theorem order_len (S : BookS) (t : TapeS) : (orderL S t).length = (mayL S.l).length := by
  unfold orderL
  rw [List.length_map, sortK_len]
  simp [candL, (shuffleL_law _ _).1]
theorem candL_mem {S : BookS} {m sh : List Int} {c : Cand} (h : c ∈ candL S m sh) : c = S.cand c.u := by
  obtain ⟨i, _, rfl⟩ := List.mem_map.1 h
  rfl
theorem candL_us (S : BookS) (m sh : List Int) : (candL S m sh).map (·.u) = sh.map (fun i => m.getD i.toNat 0) := by
  simp [candL, Function.comp_def, BookS.cand]
theorem order_perm (S : BookS) (t : TapeS) : (orderL S t).Perm ((shuffleL (mayL S.l).length t).1.map (fun i => (mayL S.l).getD i.toNat 0)) := by
  unfold orderL
  exact ((sortK_perm _).map _).trans (List.Perm.of_eq (candL_us _ _ _))
theorem order_mem {S : BookS} {t : TapeS} {x : Int} (hx : x ∈ orderL S t) : ∃ (u : Nat) (h : u < S.l.length), x = (u : Int) ∧ S.l[u].rests = false := by
  have h1 := (order_perm S t).mem_iff.1 hx
  obtain ⟨i, hi, rfl⟩ := List.mem_map.1 h1
  obtain ⟨_, _, hs3, _⟩ := shuffleL_law (mayL S.l).length t
  have := hs3 i hi
  have hlt : i.toNat < (mayL S.l).length := by omega
  obtain ⟨u, hu, h2, h3⟩ := may_at hlt
  refine ⟨u, hu, ?_, h3⟩
  rw [← h2]
  simp [hlt]
theorem shufMay_nodup (S : BookS) (t : TapeS) : ((shuffleL (mayL S.l).length t).1.map (fun i => (mayL S.l).getD i.toNat 0)).Nodup := by
  obtain ⟨hs1, hs2, hs3, _⟩ := shuffleL_law (mayL S.l).length t
  unfold List.Nodup
  rw [List.pairwise_iff_getElem]
  intro i j hi hj hij he
  simp only [List.getElem_map, List.length_map] at he hi hj
  have h1 := hs3 _ (List.getElem_mem hi)
  have h2 := hs3 _ (List.getElem_mem hj)
  have l1 : ((shuffleL (mayL S.l).length t).1[i]).toNat < (mayL S.l).length := by omega
  have l2 : ((shuffleL (mayL S.l).length t).1[j]).toNat < (mayL S.l).length := by omega
  rw [List.getD_eq_getElem?_getD, List.getD_eq_getElem?_getD, List.getElem?_eq_getElem l1, List.getElem?_eq_getElem l2, Option.getD_some, Option.getD_some] at he
  have hne : ((shuffleL (mayL S.l).length t).1[i]) ≠ ((shuffleL (mayL S.l).length t).1[j]) := fun e => by have := hs2 i j hi hj e; omega
  rcases Nat.lt_trichotomy ((shuffleL (mayL S.l).length t).1[i]).toNat ((shuffleL (mayL S.l).length t).1[j]).toNat with h | h | h
  · have := may_rise h l2; omega
  · exact hne (by omega)
  · have := may_rise h l1; omega
theorem order_nodup (S : BookS) (t : TapeS) : (orderL S t).Nodup := (order_perm S t).nodup_iff.2 (shufMay_nodup S t)
theorem order_apart {S : BookS} {t : TapeS} {i j : Nat} (hi : i < (orderL S t).length) (hj : j < (orderL S t).length) (he : (orderL S t)[i] = (orderL S t)[j]) : i = j := by
  have := order_nodup S t
  unfold List.Nodup at this
  rw [List.pairwise_iff_getElem] at this
  rcases Nat.lt_trichotomy i j with h | h | h
  · exact (this i j hi hj h he).elim
  · exact h
  · exact (this j i hj hi h he.symm).elim
theorem order_cands (S : BookS) (t : TapeS) : (orderL S t).map S.cand = sortK Cand.key (candL S (mayL S.l) (shuffleL (mayL S.l).length t).1) := by
  unfold orderL
  rw [List.map_map]
  conv => rhs; rw [← List.map_id (sortK Cand.key _)]
  refine List.map_congr_left fun c hc => ?_
  exact (candL_mem ((sortK_perm _).mem_iff.1 hc)).symm
theorem order_sorted (S : BookS) (t : TapeS) : (orderL S t).Pairwise (fun a b => (S.cand a).key ≤ (S.cand b).key) := by
  have h := sortK_sorted (key := Cand.key) (candL S (mayL S.l) (shuffleL (mayL S.l).length t).1)
  rw [← order_cands, List.pairwise_map] at h
  exact h
/-- Of two candidates by rising keys: neither of what the statement forbids. -/
theorem key_le {a b : Cand} (ha : a.ok) (hb : b.ok) (h : a.key ≤ b.key) : (a.trial = true → b.trial = true) ∧ (a.trial = b.trial → b.score ≤ a.score) := by
  unfold Cand.key at h
  obtain ⟨a1, a2⟩ := ha
  obtain ⟨b1, b2⟩ := hb
  constructor
  · intro ht
    rw [ht] at h
    cases hb : b.trial
    · rw [hb] at h; simp at h; omega
    · rfl
  · intro ht
    rw [ht] at h
    omega
theorem key_eq {a b : Cand} (ha : a.ok) (hb : b.ok) : a.key = b.key ↔ a.trial = b.trial ∧ a.score = b.score := by
  unfold Cand.key
  obtain ⟨a1, a2⟩ := ha
  obtain ⟨b1, b2⟩ := hb
  cases a.trial <;> cases b.trial <;> simp <;> omega
end Go.Proofs.Ytnpmimjhpnhdkaa

/- Order's row, plain: those alike stand as the shuffle left them; where no two are alike it does not hang on the draws. -/
namespace Go.Proofs.Ytnpmimjhpnhdkaa
open Go.RowKit

/-- Of a row without a double no two stand both ways. -/
theorem two_ways {l : List Int} {u v : Int} (hnd : l.Nodup) (h1 : List.Sublist [u, v] l) (h2 : List.Sublist [v, u] l) : False := by
  induction l with
  | nil => simp at h1
  | cons a r ih =>
    have hn := List.nodup_cons.1 hnd
    by_cases ha : a = u
    · subst ha
      rcases List.sublist_cons_iff.1 h2 with h | ⟨q, hq, h⟩
      · have : a ∈ r := h.subset (by simp)
        exact hn.1 this
      · simp at hq
        obtain ⟨rfl, rfl⟩ := hq
        exact hn.1 (h.subset (by simp))
    · rcases List.sublist_cons_iff.1 h1 with h | ⟨q, hq, h⟩
      · rcases List.sublist_cons_iff.1 h2 with h' | ⟨q', hq', h'⟩
        · exact ih hn.2 h h'
        · simp at hq'
          obtain ⟨rfl, rfl⟩ := hq'
          exact hn.1 (h.subset (by simp))
      · simp at hq
        exact ha hq.1.symm
theorem perm_short {α : Type} : ∀ {a b : List α}, a.Perm b → a.length ≤ 1 → a = b
  | [], b, h, _ => (List.perm_nil.1 h.symm).symm
  | [x], b, h, _ => (List.perm_singleton.1 h.symm).symm
  | _ :: _ :: _, _, _, h => by simp at h
theorem filter_le_one {α : Type} {p : α → Bool} : ∀ {l : List α}, (∀ (i k : Nat), i < k → ∀ a b, l[i]? = some a → l[k]? = some b → p a = true → p b = true → False) → (l.filter p).length ≤ 1
  | [], _ => by simp
  | a :: r, h => by
    by_cases ha : p a = true
    · have : r.filter p = [] := by
        rw [List.filter_eq_nil_iff]
        intro b hb hpb
        obtain ⟨k, hk, e⟩ := List.getElem_of_mem hb
        exact h 0 (k + 1) (by omega) a b (by simp) (by simp [hk, e]) ha hpb
      simp [List.filter_cons, ha, this]
    · have := filter_le_one (p := p) (l := r) (fun i k hik x y hx hy => h (i + 1) (k + 1) (by omega) x y (by simpa using hx) (by simpa using hy))
      simpa [List.filter_cons, ha] using this
theorem swapL_perm (l : List Int) (i k : Nat) (hi : i < l.length) (hk : k < l.length) : (swapL l i k).Perm l := by
  unfold swapL
  rw [List.getD_eq_getElem?_getD, List.getD_eq_getElem?_getD, List.getElem?_eq_getElem hi, List.getElem?_eq_getElem hk, Option.getD_some, Option.getD_some]
  exact List.set_set_perm hi hk
theorem shufGo_perm (i : Nat) : ∀ (l : List Int) (s : TapeS), i < l.length ∨ i = 0 → (shufGo i l s).1.Perm l := by
  induction i with
  | zero => intro l s _; exact List.Perm.refl _
  | succ i ih =>
    intro l s h
    have hl : i + 1 < l.length := by omega
    rw [shufGo_succ]
    have hq : (s.draw % ((i : Int) + 2)).toNat < l.length := by
      have h1 := Int.emod_lt_of_pos s.draw (show (0 : Int) < (i : Int) + 2 by omega)
      have h2 := Int.emod_nonneg s.draw (show (i : Int) + 2 ≠ 0 by omega)
      omega
    exact (ih _ _ (by rw [swapL_length]; omega)).trans (swapL_perm l _ _ hl hq)
theorem shuffle_perm (n : Nat) (s : TapeS) : (shuffleL n s).1.Perm (uptoL n) := shufGo_perm _ _ _ (by rw [uptoL_length]; omega)
theorem upto_map (m : List Int) : (uptoL m.length).map (fun i => m.getD i.toNat 0) = m := by
  apply List.ext_getElem
  · simp [uptoL_length]
  · intro i h1 h2
    simp [uptoL, h2]
/-- The candidates in the shuffled row. -/
def usL (S : BookS) (t : TapeS) : List Int := (shuffleL (mayL S.l).length t).1.map (fun i => (mayL S.l).getD i.toNat 0)
theorem us_perm (S : BookS) (t : TapeS) : (usL S t).Perm (mayL S.l) := by
  have h := (shuffle_perm (mayL S.l).length t).map (fun i => (mayL S.l).getD i.toNat 0)
  rwa [upto_map] at h
theorem cand_row (S : BookS) (t : TapeS) : candL S (mayL S.l) (shuffleL (mayL S.l).length t).1 = (usL S t).map S.cand := by
  unfold candL usL
  rw [List.map_map]
  rfl
/-- Of one key: those in the order are those in the shuffled row. -/
theorem order_filter (S : BookS) (t : TapeS) (c : Int) : (orderL S t).filter (fun u => decide ((S.cand u).key = c)) = (usL S t).filter (fun u => decide ((S.cand u).key = c)) := by
  have h := sortK_filter (key := Cand.key) (candL S (mayL S.l) (shuffleL (mayL S.l).length t).1) c
  rw [← order_cands, cand_row, List.filter_map, List.filter_map] at h
  have h2 := congrArg (List.map (·.u)) h
  simpa [Function.comp_def, BookS.cand] using h2
theorem order_mem_may (S : BookS) (t : TapeS) : (orderL S t).Perm (mayL S.l) := (order_perm S t).trans (us_perm S t)
/-- Those alike stand as the shuffle left them. -/
theorem order_stable {S : BookS} {t : TapeS} {i k iu iv : Nat} {u v : Int} (hik : i < k) (hi : (usL S t)[i]? = some u) (hk : (usL S t)[k]? = some v) (hkey : (S.cand u).key = (S.cand v).key)
    (hu : (orderL S t)[iu]? = some u) (hv : (orderL S t)[iv]? = some v) : iu < iv := by
  have hsub : List.Sublist [u, v] (usL S t) := by
    obtain ⟨h1, h1'⟩ := List.getElem?_eq_some_iff.1 hi
    obtain ⟨h2, h2'⟩ := List.getElem?_eq_some_iff.1 hk
    have e1 : usL S t = (usL S t).take k ++ (usL S t).drop k := (List.take_append_drop _ _).symm
    rw [e1]
    refine List.Sublist.append (l₁ := [u]) (r₁ := [v]) ?_ ?_
    · rw [List.singleton_sublist, ← h1']
      exact List.getElem_mem (l := (usL S t).take k) (n := i) (by simp; omega) |> fun h => by simpa using h
    · rw [List.singleton_sublist, ← h2']
      have := List.getElem_mem (l := (usL S t).drop k) (n := 0) (by simp; omega)
      simpa using this
  have hf := hsub.filter (fun x => decide ((S.cand x).key = (S.cand v).key))
  rw [← order_filter] at hf
  simp only [List.filter_cons, hkey, decide_true, if_true, List.filter_nil] at hf
  have hs : List.Sublist [u, v] (orderL S t) := hf.trans List.filter_sublist
  have hnd := order_nodup S t
  obtain ⟨a1, a2⟩ := List.getElem?_eq_some_iff.1 hu
  obtain ⟨b1, b2⟩ := List.getElem?_eq_some_iff.1 hv
  rcases Nat.lt_trichotomy iu iv with h | h | h
  · exact h
  · subst h
    rw [a2] at b2
    subst b2
    have := hs.nodup hnd
    simp at this
  · exfalso
    -- v stands before u: then [v, u] and [u, v] are both within a row without a double
    have e1 : orderL S t = (orderL S t).take iu ++ (orderL S t).drop iu := (List.take_append_drop _ _).symm
    have hs2 : List.Sublist [v, u] (orderL S t) := by
      rw [e1]
      refine List.Sublist.append (l₁ := [v]) (r₁ := [u]) ?_ ?_
      · rw [List.singleton_sublist, ← b2]
        have := List.getElem_mem (l := (orderL S t).take iu) (n := iv) (by simp; omega)
        simpa using this
      · rw [List.singleton_sublist, ← a2]
        have := List.getElem_mem (l := (orderL S t).drop iu) (n := 0) (by simp; omega)
        simpa using this
    exact two_ways hnd hs hs2
/-- Where no two in the shuffled row are alike, another tape gives the same order. -/
theorem order_unlike {S : BookS} {t t2 : TapeS} (h : ∀ (i k : Nat) (u v : Int), i < k → (usL S t)[i]? = some u → (usL S t)[k]? = some v → (S.cand u).key ≠ (S.cand v).key) : orderL S t = orderL S t2 := by
  have hc : (orderL S t).map S.cand = (orderL S t2).map S.cand := by
    rw [order_cands, order_cands]
    refine sorted_unique (key := Cand.key) (sortK_sorted _) (sortK_sorted _) fun c => ?_
    rw [sortK_filter, sortK_filter, cand_row, cand_row]
    have hp : ((usL S t).map S.cand).Perm ((usL S t2).map S.cand) := ((us_perm S t).trans (us_perm S t2).symm).map _
    have hf := hp.filter (fun x => decide (x.key = c))
    have h1 : (((usL S t).map S.cand).filter (fun x => decide (x.key = c))).length ≤ 1 := by
      refine filter_le_one fun i k hik a b ha hb => ?_
      simp only [List.getElem?_map, Option.map_eq_some_iff] at ha hb
      obtain ⟨u, hu, rfl⟩ := ha
      obtain ⟨v, hv, rfl⟩ := hb
      intro e1 e2
      have := h i k u v hik hu hv
      simp only [decide_eq_true_eq] at e1 e2
      exact this (e1.trans e2.symm)
    exact perm_short hf h1
  have := congrArg (List.map (·.u)) hc
  simpa [Function.comp_def, BookS.cand] using this
/-- What stands at a place of the shuffled row. -/
theorem us_at {S : BookS} {t : TapeS} {i : Nat} (hi : i < (mayL S.l).length) : ∃ a u iu : Nat, ((shuffleL (mayL S.l).length t).1)[i]? = some (a : Int) ∧ a < (mayL S.l).length ∧ (mayL S.l)[a]? = some (u : Int) ∧ u < S.l.length ∧ (usL S t)[i]? = some (u : Int) ∧
    iu < (orderL S t).length ∧ (orderL S t)[iu]? = some (u : Int) := by
  obtain ⟨hs1, _, hs3, _⟩ := shuffleL_law (mayL S.l).length t
  have hil : i < (shuffleL (mayL S.l).length t).1.length := by omega
  have h1 := hs3 _ (List.getElem_mem hil)
  obtain ⟨a, ha⟩ := Int.eq_ofNat_of_zero_le h1.1
  have hal : a < (mayL S.l).length := by omega
  obtain ⟨u, hu, h2, -⟩ := may_at hal
  have hus : (usL S t)[i]? = some (u : Int) := by
    unfold usL
    rw [List.getElem?_map, List.getElem?_eq_getElem hil, Option.map_some, ha]
    simp [hal, h2]
  have hmem : (u : Int) ∈ orderL S t := by
    rw [(order_mem_may S t).mem_iff, ← h2]
    exact List.getElem_mem hal
  obtain ⟨iu, hiu, e⟩ := List.getElem_of_mem hmem
  exact ⟨a, u, iu, by rw [List.getElem?_eq_getElem hil, ha], hal, by rw [List.getElem?_eq_getElem hal, h2], hu, hus, hiu, by rw [List.getElem?_eq_getElem hiu, e]⟩
/-- No two alike among those ahead of i and any behind. -/
def FarTo (S : BookS) (us : List Int) (i : Nat) : Prop := ∀ (a b : Nat) (u v : Int), a < i → a < b → us[a]? = some u → us[b]? = some v → (S.cand u).key ≠ (S.cand v).key
theorem same_key {S : BookS} (hok : S.ok) (u v : Int) : (decide ((S.of u).trial = (S.of v).trial) && decide ((S.of u).score = (S.of v).score)) = decide ((S.cand u).key = (S.cand v).key) := by
  have h := key_eq (a := S.cand u) (b := S.cand v) (of_okc hok _) (of_okc hok _)
  simp only [BookS.cand] at h ⊢
  rw [← Bool.decide_and]
  exact decide_eq_decide.2 h.symm
end Go.Proofs.Ytnpmimjhpnhdkaa

/- The document's order, plain: the first of the least keys, again and again, is the stable sort. -/
namespace Go.Proofs.Ytnpmimjhpnhdkaa
open Go.RowKit

/-- k is the first of the least keys of a row's first i. -/
structure Least (S : BookS) (row : List Int) (i k : Nat) : Prop where
  lt : k < i
  le : i ≤ row.length
  ahead : ∀ (j : Nat) (u v : Int), j < k → row[j]? = some u → row[k]? = some v → (S.cand v).key < (S.cand u).key
  behind : ∀ (j : Nat) (u v : Int), k ≤ j → j < i → row[j]? = some u → row[k]? = some v → (S.cand v).key ≤ (S.cand u).key
theorem least_start {S : BookS} {row : List Int} (h : 0 < row.length) : Least S row 1 0 := by
  refine ⟨by omega, by omega, fun j u v hj => absurd hj (Nat.not_lt_zero _), fun j u v _ hj hu hv => ?_⟩
  obtain rfl : j = 0 := by omega
  rw [hu] at hv
  simp only [Option.some.injEq] at hv
  rw [hv]; exact Int.le_refl _
theorem least_next {S : BookS} {row : List Int} {i k : Nat} {x y : Int} (h : Least S row i k) (hx : row[i]? = some x) (hy : row[k]? = some y) : Least S row (i + 1) (if (S.cand x).key < (S.cand y).key then i else k) := by
  have hil := (List.getElem?_eq_some_iff.1 hx).1
  have hlt := h.lt
  split
  · rename_i hc
    refine ⟨by omega, by omega, fun j u v hj hu hv => ?_, fun j u v hj hji hu hv => ?_⟩
    · rw [hx] at hv
      simp only [Option.some.injEq] at hv
      subst hv
      rcases Nat.lt_or_ge j k with h1 | h1
      · have := h.ahead j u y h1 hu hy; omega
      · have := h.behind j u y h1 hj hu hy; omega
    · obtain rfl : j = i := by omega
      rw [hu] at hv
      simp only [Option.some.injEq] at hv
      rw [hv]; exact Int.le_refl _
  · rename_i hc
    refine ⟨by omega, by omega, fun j u v hj hu hv => h.ahead j u v hj hu hv, fun j u v hj hji hu hv => ?_⟩
    rcases Nat.lt_or_ge j i with h1 | h1
    · exact h.behind j u v hj h1 hu hv
    · obtain rfl : j = i := by omega
      rw [hx] at hu
      rw [hy] at hv
      simp only [Option.some.injEq] at hu hv
      subst hu hv
      omega
/-- A row, sorted. -/
def sortU (S : BookS) (row : List Int) : List Int := (sortK Cand.key (row.map S.cand)).map (·.u)
theorem sortU_us (S : BookS) (t : TapeS) : sortU S (usL S t) = orderL S t := by unfold sortU orderL; rw [cand_row]
theorem sortU_nil (S : BookS) : sortU S [] = [] := rfl
theorem sortU_step {S : BookS} {row : List Int} {k : Nat} {v : Int} (h : Least S row row.length k) (hv : row[k]? = some v) : sortU S row = v :: sortU S (row.take k ++ row.drop (k + 1)) := by
  have hk : k < row.length := h.lt
  have he : row = row.take k ++ v :: row.drop (k + 1) := by
    conv => lhs; rw [← List.take_append_drop k row, List.drop_eq_getElem_cons hk]
    rw [List.getElem?_eq_getElem hk] at hv
    simp only [Option.some.injEq] at hv
    rw [hv]
  have hall : ∀ x ∈ row, (S.cand v).key ≤ (S.cand x).key := by
    intro x hx
    obtain ⟨j, hj, e⟩ := List.getElem_of_mem hx
    have hjx : row[j]? = some x := by rw [List.getElem?_eq_getElem hj, e]
    rcases Nat.lt_or_ge j k with h1 | h1
    · have := h.ahead j x v h1 hjx hv; omega
    · exact h.behind j x v h1 hj hjx hv
  have hahead : ∀ x ∈ row.take k, (S.cand v).key < (S.cand x).key := by
    intro x hx
    obtain ⟨j, hj, e⟩ := List.getElem_of_mem hx
    simp only [List.length_take] at hj
    rw [List.getElem_take] at e
    exact h.ahead j x v (by omega) (by rw [List.getElem?_eq_getElem (by omega), e]) hv
  have key : sortK Cand.key (row.map S.cand) = S.cand v :: sortK Cand.key ((row.take k ++ row.drop (k + 1)).map S.cand) := by
    refine sorted_unique (key := Cand.key) (sortK_sorted _) ?_ fun c => ?_
    · rw [List.pairwise_cons]
      refine ⟨fun x hx => ?_, sortK_sorted _⟩
      have := (sortK_perm (key := Cand.key) _).mem_iff.1 hx
      obtain ⟨y, hy, rfl⟩ := List.mem_map.1 this
      refine hall y ?_
      rcases List.mem_append.1 hy with h1 | h1
      · exact List.mem_of_mem_take h1
      · exact List.mem_of_mem_drop h1
    · rw [sortK_filter, List.filter_cons, sortK_filter]
      have h0 : ((row.take k).map S.cand).filter (fun x => decide (x.key = (S.cand v).key)) = [] := by
        rw [List.filter_eq_nil_iff]
        intro x hx
        obtain ⟨y, hy, rfl⟩ := List.mem_map.1 hx
        have := hahead y hy
        simp only [decide_eq_true_eq]
        omega
      conv => lhs; rw [he]
      rw [List.map_append, List.map_cons, List.filter_append, List.filter_cons, List.map_append, List.filter_append]
      by_cases hc : (S.cand v).key = c
      · subst hc
        rw [h0]
        simp
      · simp [hc]
  unfold sortU
  rw [key]
  simp [BookS.cand]
end Go.Proofs.Ytnpmimjhpnhdkaa

/- Package hustingsref20, walked: Ahead. -/
namespace Go.Proofs.Ytnpmimjhpnhdkaa
open Go.RowKit

set_option maxRecDepth 100000 in
set_option maxHeartbeats 4000000 in
theorem ahead_any (b g : Nat) (s : BookS) (hok : s.ok) (u v : Nat) (hu : u < s.l.length) (hv : v < s.l.length) (w : World) (H : Hid (RBook w b g s)) (r : Bool) (hr : decide ((s.cand (u : Int)).key < (s.cand (v : Int)).key) = r) :
    Calls Try.prog 46 #[.pointer (some ⟨b, 0, none⟩), .int .i64 u, .int .i64 v] w fun e w' => e = .returned (.bool r) ∧ Kept (fun _ => False) w w' := by
  have hl9 : s.l.length ≤ 9 := hok.2.2.2.2.1
  have c2 := H.out.c2
  obtain ⟨x0, -, -, -, -, x5, -⟩ := H.out.at hu
  obtain ⟨y0, -, -, -, -, y5, -⟩ := H.out.at hv
  have o0 := of_okc hok (u : Int)
  have o1 := of_okc hok (v : Int)
  have hk : ∀ z : Int, (s.cand z).key = (if (s.of z).trial = true then 1000 else 0) - (s.of z).score := fun _ => rfl
  simp only [hk, of_lt hu, of_lt hv] at hr
  rw [of_lt hu] at o0
  rw [of_lt hv] at o1
  clear hk
  obtain ⟨s0, hs0⟩ : ∃ s0, s.l[u].score = s0 := ⟨_, rfl⟩
  obtain ⟨s1, hs1⟩ : ∃ s1, s.l[v].score = s1 := ⟨_, rfl⟩
  obtain ⟨t0, ht0⟩ : ∃ t0, s.l[u].trial = t0 := ⟨_, rfl⟩
  obtain ⟨t1, ht1⟩ : ∃ t1, s.l[v].trial = t1 := ⟨_, rfl⟩
  rw [hs0] at o0 x0
  rw [hs1] at o1 y0
  rw [ht0] at x5
  rw [ht1] at y5
  simp only [hs0, hs1, ht0, ht1] at hr
  have i1 : decide (s1 < s0) = decide (-s0 < -s1) := by apply decide_eq_decide.2; omega
  obtain ⟨q, hq⟩ : ∃ q, decide (s1 < s0) = q := ⟨_, rfl⟩
  have h1 : t0 = t1 → r = q := by
    intro h
    rw [← hr, ← hq, h]
    apply decide_eq_decide.2
    omega
  have h2 : t0 = true → t1 = false → r = false := by
    intro h3 h4
    rw [← hr, h3, h4]
    simp; omega
  have h3 : t0 = false → t1 = true → r = true := by
    intro h3 h4
    rw [← hr, h3, h4]
    simp; omega
  have H1 := Lib.hid h1
  have H2 := Lib.hid h2
  have H3 := Lib.hid h3
  clear hs0 hs1 ht0 ht1 hr i1 h1 h2 h3 o0 o1
  cases t0 <;> cases t1
  · go_enter Try.func46, Try.ntmps46
    go_wp2_with fail
    go_quiet (fail)
    go_wp2_with fail
    go_quiet (fail)
    go_wp2_with fail
    go_ret
    exact ⟨by rw [H1.out (by simp)]; try rfl, ((Kept.refl _).drewN _).drewN _⟩
  · go_enter Try.func46, Try.ntmps46
    go_wp2_with fail
    go_quiet (fail)
    go_wp2_with fail
    go_ret
    exact ⟨by rw [H3.out (by simp) (by simp)]; try rfl, (Kept.refl _).drewN _⟩
  · go_enter Try.func46, Try.ntmps46
    go_wp2_with fail
    go_quiet (fail)
    go_wp2_with fail
    go_ret
    exact ⟨by rw [H2.out (by simp) (by simp)]; try rfl, (Kept.refl _).drewN _⟩
  · go_enter Try.func46, Try.ntmps46
    go_wp2_with fail
    go_quiet (fail)
    go_wp2_with fail
    go_quiet (fail)
    go_wp2_with fail
    go_ret
    exact ⟨by rw [H1.out (by simp)]; try rfl, ((Kept.refl _).drewN _).drewN _⟩
end Go.Proofs.Ytnpmimjhpnhdkaa

/- Package hustingsref20, walked: rows that lose a place. -/
namespace Go.Proofs.Ytnpmimjhpnhdkaa
open Go.RowKit

/-- 'out = append(out, n)', and of the blocks that were there out's alone is written. -/
theorem wpList_pushI2 {ops : Array Oper} {rest : List Oper} {o : Oper} {a : Act} {w : World} {Q : Exit → Act → World → Prop} (hgd : o.guard = none) (s x : Operand)
    (ho : o.op = .call { callee := .builtin .append, args := #[s, x], argTypes := #[33, 33] }) (base : Nat) (v : Value) (l : List Int) (n : Int) (hs : a.eval s = v) (hown : OwnsI w base v l)
    (k : Nat) (hx : a.eval x = .slice (some ⟨k, 0, none⟩) 1 1) (hk : k = w.heap.size) (hn : l.length < 137438953472) (hbase : base ≤ w.heap.size)
    (h : ∀ v' w', OwnsI w' base v' (l ++ [n]) → Kept (fun k => v.ownBlock = some k) w w' → (∃ ao cap, v' = .slice ao (l ++ [n]).length cap) → wpList Try.prog ops Q rest (a.put o.dst v') w') :
    wpList Try.prog ops Q (o :: rest) a (w.alloc (.cells #[.int .i64 n] 3)) := by
  subst hk
  obtain ⟨i0, hi, hz0, hz1, hz2⟩ := info_parts info_int
  refine wpList_push hgd s x 33 ho base 3 i0 (.int .i64 0) 1 8 Try.underlying33 hi hz0 hz1 hz2 rfl (by decide) v l.length (l.map (.int .i64)) [.int .i64 n] hs hown hx rfl (by simp [Value.oneCell']) hn (by decide) hbase (fun v' w' h1 h2 h3 => ?_)
  have ho' : OwnsI w' base v' (l ++ [n]) := by unfold OwnsI; simpa using h1
  exact h v' w' ho' ((Kept.refl _).grown h2 (fun k hk _ => hk.symm ▸ rfl)) ho'.slice

theorem step_append_run {P : Program} {ops : Array Oper} {o : Oper} {a : Act} {w : World} {K : Act → World → Prop} {Q : Exit → Act → World → Prop} {E : Prop} (hgd : o.guard = none) (s x : Operand) (t t' : TypeId)
    (ho : o.op = .call { callee := .builtin .append, args := #[s, x], argTypes := #[t, t'] }) (vs vx : Value) (hs : a.eval s = vs) (hx : a.eval x = vx) {v' : Value} {w' : World}
    (hr : (Builtin.append_ #[t, t'] o.type #[vs, vx]).run P w = .ok v' w') (h : K (a.put o.dst v') w') : if Region.wanted o (yielded ops a.tmps) = true then Oper.wp P o a w K Q else E := by
  rw [if_pos (by simp [Region.wanted, hgd])]
  unfold Oper.wp execOp
  simp only [ho, resolve, invoke, builtin, Sem.run_bind, Sem.run_pure, Result.andThen_ok, List.map_toArray, List.map_cons, List.map_nil, hs, hx, hr]
  exact h

/-- 'append(append([]int{}, row[:k]...), row[k+1:]...)'. -/
theorem erase_run {w : World} {B ga m cap k : Nat} {row : List Int} (hown : OwnsI w B (.slice (some ⟨ga, 0, none⟩) m cap) row) (hk : k < m) (hm : m ≤ 1000) :
    ∃ ao c1 w1, (Builtin.append_ #[33, 33] 33 #[.slice (some ⟨w.heap.size, 0, none⟩) 0 0, .slice (some ⟨ga, 0, none⟩) k cap]).run Try.prog (w.alloc (.cells #[] 3)) = .ok (.slice ao k c1) w1 ∧
      ∃ v2 w2, (Builtin.append_ #[33, 33] 33 #[.slice ao k c1, .slice (cutAt 1 (some ⟨ga, 0, none⟩) cap (k + 1)) (m - (k + 1)) (cap - (k + 1))]).run Try.prog w1 = .ok v2 w2 ∧
        OwnsI w2 w.heap.size v2 (row.take k ++ row.drop (k + 1)) ∧ Kept (fun _ => False) w w2 := by
  obtain ⟨i0, hi, hz0, hz1, hz2⟩ := info_parts info_int
  obtain ⟨hml, hc⟩ := hown.cells
  have hcap : m ≤ cap := by
    rcases hown.2 with ⟨h, _⟩ | ⟨g, c, cur, h, _, _, h2, _⟩
    · simp at h
    · simp at h; obtain ⟨_, h3, rfl⟩ := h; omega
  have hcell : ∀ j u, (row.map (Value.int .i64))[j]? = some u → w.cell? ⟨ga, j, none⟩ = some u := fun j u hu => by
    obtain ⟨a, off, e, -, h⟩ := hc.at hu
    simp only [Option.some.injEq, Addr.mk.injEq, and_true] at e
    obtain ⟨rfl, rfl⟩ := e
    simpa using h
  obtain ⟨ao, c1, w1, hr1, ho1, hk1⟩ := clone_run (P := Try.prog) (t := 33) (ty := 33) Try.underlying33 hi hz0 hz1 hz2 rfl (by decide) (some ⟨ga, 0, none⟩) k cap ((row.take k).map (.int .i64)) w (by simp; omega)
    (by
      refine .inr ⟨_, rfl, fun j u hu => ?_⟩
      rw [addr_add, Nat.zero_add]
      refine hcell j u ?_
      rw [List.map_take, List.getElem?_take] at hu
      split at hu
      · exact hu
      · cases hu)
    (by intro u hu; obtain ⟨x, _, rfl⟩ := List.mem_map.1 hu; rfl) (by unfold maxLen; omega) (by omega)
  refine ⟨ao, c1, w1, hr1, ?_⟩
  have hz1' : w.heap.size ≤ w1.heap.size := hk1.size
  obtain ⟨ad, had, hadc⟩ : ∃ ad : Addr, cutAt 1 (some (⟨ga, 0, none⟩ : Addr)) cap (k + 1) = some ad ∧ ∀ j u, ((row.drop (k + 1)).map (Value.int .i64))[j]? = some u → w1.cell? (ad.add j) = some u := by
    by_cases hcc : cap = k + 1
    · refine ⟨⟨ga, 0, none⟩, by simp [cutAt, hcc], fun j u hu => ?_⟩
      have hd : row.drop (k + 1) = [] := List.drop_eq_nil_of_le (by omega)
      rw [hd] at hu
      simp at hu
    · refine ⟨_, cutAt_lt (by omega), fun j u hu => ?_⟩
      rw [addr_add, addr_add, Nat.zero_add, Nat.mul_one]
      refine hk1.cell (hcell (k + 1 + j) u ?_) id
      rw [List.map_drop, List.getElem?_drop] at hu
      exact hu
  rw [had]
  obtain ⟨v2, w2, hr2, ho2, hg2, -⟩ := run_append_own (P := Try.prog) w1 w.heap.size 33 33 3 i0 (.int .i64 0) 1 8 Try.underlying33 hi hz0 hz1 hz2 rfl (by decide) (.slice ao k c1) k _ ho1 ad (m - (k + 1)) (cap - (k + 1)) ((row.drop (k + 1)).map (.int .i64)) (by simp; omega) hadc
    (by intro u hu; obtain ⟨x, _, rfl⟩ := List.mem_map.1 hu; rfl) (by unfold maxLen; omega) (by omega) hz1'
  refine ⟨v2, w2, hr2, ?_, hk1.pushed ho1 hg2 (Nat.le_refl _)⟩
  unfold OwnsI
  rw [List.map_append]
  have : (row.take k ++ row.drop (k + 1)).length = k + (m - (k + 1)) := by simp; omega
  rw [this]
  exact ho2
/-- The reference's shuffled row, of no one too. -/
theorem rshuf_own (b n : Nat) (h2 : n ≤ 9) (s : TapeS) (L : List Nat) (w : World) (H : Hid (RTape w b s L)) (hu : s.used + n < 9223372036854775807) :
    Calls Try.prog 45 #[.pointer (some ⟨b, 0, none⟩), .int .i64 n] w fun e w' => ∃ ao cap,
      e = .returned (.slice ao n cap) ∧ Cells w' ao ((shuffleL n s).1.map (.int .i64)) (w.heap.size ≤ ·) ∧ (∃ L', RTape w' b (shuffleL n s).2 L' ∧ (∀ k ∈ L', k ∈ L ∨ w.heap.size ≤ k) ∧ ∀ k ∈ L, k ∈ L') ∧ Kept (· = b) w w' := by
  by_cases h1 : 1 ≤ n
  · refine (rshuffle_any b n h1 (by omega) s L w H.out hu).mono ?_
    rintro e w' ⟨rfl, hb, ht, hk⟩
    refine ⟨_, _, rfl, hb.cells_all (Nat.le_refl _), ⟨_, ht, fun k hm => ?_, fun k hm => List.mem_cons_of_mem _ hm⟩, hk⟩
    rcases List.mem_cons.1 hm with rfl | hm
    · exact .inr (Nat.le_refl _)
    · exact .inl hm
  · obtain rfl : n = 0 := by omega
    refine (rshuffle_none b _ (.inl (by decide)) w).mono ?_
    rintro e w' ⟨rfl, rfl⟩
    exact ⟨_, _, rfl, .inl rfl, ⟨L, H.out, fun k hk => .inl hk, fun k hk => hk⟩, Kept.refl _⟩
end Go.Proofs.Ytnpmimjhpnhdkaa

/- Package hustingsref20, walked: Order. -/
namespace Go.Proofs.Ytnpmimjhpnhdkaa
open Go.RowKit

def lenV : Value → Nat
  | .slice _ m _ => m
  | _ => 0
theorem lenV_slice (a : Option Addr) (m c : Nat) : lenV (.slice a m c) = m := rfl
set_option maxRecDepth 100000 in
set_option maxHeartbeats 4000000 in
theorem rorder_any (b g tb : Nat) (S : BookS) (t : TapeS) (L : List Nat) (w : World) (HB : Hid (RBook w b g S)) (hok : S.ok) (HT : Hid (RTape w tb t L)) (hbt : b ≠ tb) (hgt : g ≠ tb) (hu : t.used + 9 < 9223372036854775807) :
    Calls Try.prog 25 #[.pointer (some ⟨b, 0, none⟩), .pointer (some ⟨tb, 0, none⟩)] w fun e w' => ∃ ao cap, e = .returned (.slice ao (orderL S t).length cap) ∧ OwnsI w' w.heap.size (.slice ao (orderL S t).length cap) (orderL S t) ∧
      (∃ L', RTape w' tb (shuffleL (mayL S.l).length t).2 L' ∧ (∀ k ∈ L', k ∈ L ∨ w.heap.size ≤ k) ∧ ∀ k ∈ L, k ∈ L') ∧ Kept (· = tb) w w' := by
  have hl9 : S.l.length ≤ 9 := hok.2.2.2.2.1
  have hml9 : (mayL S.l).length ≤ 9 := by have := may_len S.l; omega
  have htlt := HT.out.lt
  obtain ⟨ml, hml⟩ : ∃ ml, mayL S.l = ml := ⟨_, rfl⟩
  obtain ⟨n, hn⟩ : ∃ n, ml.length = n := ⟨_, rfl⟩
  have hmn : (mayL S.l).length = n := by rw [hml, hn]
  rw [hmn] at hml9
  have HML := Lib.hid hml
  have HN := Lib.hid hn
  have HMN := Lib.hid hmn
  obtain ⟨l1, hl1⟩ : ∃ l1, orderL S t = l1 := ⟨_, rfl⟩
  have HL1 := Lib.hid hl1
  obtain ⟨us, hus⟩ : ∃ us, usL S t = us := ⟨_, rfl⟩
  have HUS := Lib.hid hus
  have husl : us.length = n := by rw [← hus, (us_perm S t).length_eq, hmn]
  have hsu : sortU S us = l1 := by rw [← hus, ← hl1, sortU_us]
  have HSU := Lib.hid hsu
  have hmem : ∀ x ∈ us, ∃ u : Nat, u < S.l.length ∧ x = (u : Int) := by
    intro x hx
    rw [← hus, (us_perm S t).mem_iff] at hx
    obtain ⟨u, h, e, -⟩ := mayL_at S.l x hx
    exact ⟨u, h, e⟩
  have HMEM := Lib.hid hmem
  rw [hl1, hmn]
  clear hml hn hmn hl1 hus hsu hmem
  go_enter Try.func25, Try.ntmps25
  go_wp2_with fail
  refine (rmay_any b g S (by omega) w HB.out).mono ?_
  rintro e w1 ⟨v, rfl, ho, hk1⟩
  obtain ⟨am, cm, rfl⟩ := ho.slice
  rw [HMN.out] at ho
  rw [HML.out] at ho
  rw [HMN.out]
  have HM := Lib.hid ho
  have HT1 := Lib.hid (HT.out.kept hk1 id (fun _ _ h => h.elim))
  have K1 := Lib.hid hk1
  have hz1 := hk1.size
  clear ho hk1
  go_wp2_with fail
  refine (rshuf_own tb n hml9 t L w1 HT1 (by omega)).mono ?_
  rintro e w2 ⟨ash, csh, rfl, hsh, hL2, hk2⟩
  obtain ⟨sh, hshe⟩ : ∃ sh, (shuffleL n t).1 = sh := ⟨_, rfl⟩
  rw [hshe] at hsh
  have HSE := Lib.hid hshe
  have HSH := Lib.hid hsh
  have HL2 := Lib.hid hL2
  replace HM := Lib.hid (HM.out.keep hk2 (by intro x hx e; omega))
  have HB2 := Lib.hid ((HB.out.kept K1.out id id).kept hk2 hbt hgt)
  have K2 := Lib.hid hk2
  have hz2 := hk2.size
  clear hsh hshe hL2 hk2 HT1
  go_wp2_with fail
  go_loopw [7, 8] (fun v c wr => ∃ k : Nat, k ≤ n ∧ c = .int .i64 k ∧ OwnsI wr w2.heap.size v (us.take k) ∧ Kept (fun _ => False) w2 wr) (fun _ c _ => n - (intOf c).toNat)
  case atStart => exact ⟨0, by omega, rfl, World.ownsRow_nil _ _ _ _, Kept.refl _⟩
  case round =>
    obtain ⟨k, hk, rfl, hown, hkr⟩ := hrel
    have KR := Lib.hid hkr
    have HO := Lib.hid hown
    have hzr := hkr.size
    clear hkr hown
    by_cases hlt : k < n
    · obtain ⟨a1, u, iu, hs1, ha1, hm1, hul, hus1, -, -⟩ := us_at (S := S) (t := t) (i := k) (by rw [HMN.out]; exact hlt)
      rw [HMN.out] at hs1 ha1
      rw [HSE.out] at hs1
      rw [HML.out] at hm1
      rw [HUS.out] at hus1
      obtain ⟨bs, os, e1, -, p1⟩ := (HSH.out.kept KR.out (fun _ _ _ h => h)).at (i := k) (v := .int .i64 a1) (by rw [List.getElem?_map, hs1]; rfl)
      subst e1
      obtain ⟨bm, om, e1, -, p2⟩ := (HM.out.all.kept KR.out (fun _ _ _ h => h)).at (i := a1) (v := .int .i64 u) (by rw [List.getElem?_map, hm1]; rfl)
      subst e1
      have TK := Lib.hid (show us.take (k + 1) = us.take k ++ [(u : Int)] by
        obtain ⟨q1, q2⟩ := List.getElem?_eq_some_iff.1 hus1
        rw [List.take_succ_eq_append_getElem q1, q2])
      have hpl : (us.take k).length ≤ k := by simp; omega
      clear hs1 hm1 hus1 hul
      go_wp2_with (at_builtin; go_must (refine wpList_pushI rfl (.tmp 24) (.tmp 32) rfl w2.heap.size _ (us.take k) u rfl HO.out _ rfl rfl (by omega) (by omega) ?_); intro v' w' ho' hg' hv')
      have HO3 := Lib.hid ho'
      have HG3 := Lib.hid (hg'.1 _ _ KR.out (Nat.le_refl _))
      clear ho' hg' hv'
      go_wp2_with fail
      go_roundw
      case rel => exact ⟨k + 1, by omega, by go_num, by rw [TK.out]; exact HO3.out, HG3.out⟩
      case measure => simp [intOf]; omega
    · obtain rfl : n = k := by omega
      have hown := HO.out
      rw [List.take_of_length_le (by omega)] at hown
      have HOW := Lib.hid hown
      clear hown hlt hk HO
      go_wp2_with fail
      go_loopw [7, 9, 10, 11] (fun v7 v9 _ _ wx => ∃ (row out : List Int) (B : Nat), OwnsI wx B v7 row ∧ OwnsI wx w2.heap.size v9 out ∧ (∀ x, v9.ownBlock = some x → x < B) ∧ B ≤ wx.heap.size ∧ w2.heap.size ≤ B ∧ out ++ sortU S row = l1 ∧ (∀ x ∈ row, ∃ u : Nat, u < S.l.length ∧ x = (u : Int)) ∧ row.length ≤ n ∧ out.length + row.length = n ∧ Kept (fun _ => False) w2 wx) (fun v7 _ _ _ _ => lenV v7)
      case atStart => exact ⟨us, [], w2.heap.size, HOW.out, World.ownsRow_nil _ _ _ _, (by intro x hx; cases hx), hzr, Nat.le_refl _, HSU.out, HMEM.out, by omega, by simp; omega, KR.out⟩
      case round =>
        obtain ⟨row, out, B, hr, ho, hdj, hB, hB2, hso, hme, hrn, hon, hkx⟩ := hrel
        clear KR HOW
        obtain ⟨ar, cr, rfl⟩ := hr.slice
        obtain ⟨ao, co, rfl⟩ := ho.slice
        obtain ⟨m, hm⟩ : ∃ m, row.length = m := ⟨_, rfl⟩
        rw [hm] at hr hrn hon
        rw [hm]
        have HR := Lib.hid hr
        have HO := Lib.hid ho
        have HDJ := Lib.hid hdj
        have HSO := Lib.hid hso
        have HME := Lib.hid hme
        have KX := Lib.hid hkx
        have HMM := Lib.hid hm
        have HBx := Lib.hid (HB2.out.kept hkx id id)
        clear hr ho hdj hso hme hkx hm
        by_cases hm0 : 0 < m
        · have HST := Lib.hid (least_start (S := S) (row := row) (by rw [HMM.out]; exact hm0))
          have i0 : decide ((0 : Int) < (m : Int)) = true := by simp; omega
          go_wp2_with fail
          go_loopw [10, 11] (fun v10 v11 wy => ∃ (i k : Nat), i ≤ m ∧ v10 = .int .i64 k ∧ v11 = .int .i64 i ∧ Least S row i k ∧ Kept (fun _ => False) wr wy) (fun _ v11 _ => m - (intOf v11).toNat)
          case atStart => exact ⟨1, 0, by omega, rfl, rfl, HST.out, Kept.refl _⟩
          case round =>
            obtain ⟨i, k, hi, rfl, rfl, hls, hky⟩ := hrel
            clear HST
            have HLS := Lib.hid hls
            have KY := Lib.hid hky
            have hki := hls.lt
            clear hls hky
            have hrow : ∀ q, q < m → ∃ u : Nat, u < S.l.length ∧ row[q]? = some (u : Int) := by
              intro q hq
              have h1 : q < row.length := by rw [HMM.out]; exact hq
              obtain ⟨u, h2, h3⟩ := HME.out row[q] (List.getElem_mem h1)
              exact ⟨u, h2, by rw [List.getElem?_eq_getElem h1, h3]⟩
            by_cases him : i < m
            · obtain ⟨u, hul, hxu⟩ := hrow i him
              obtain ⟨v, hvl, hxv⟩ := hrow k (by omega)
              obtain ⟨ga, oa, e1, -, p0⟩ := (HR.out.all.kept KY.out (fun _ _ _ h => h)).at (i := i) (v := .int .i64 u) (by rw [List.getElem?_map, hxu]; rfl)
              subst e1
              obtain ⟨ga', oa', e1, -, p1⟩ := (HR.out.all.kept KY.out (fun _ _ _ h => h)).at (i := k) (v := .int .i64 v) (by rw [List.getElem?_map, hxv]; rfl)
              simp only [Option.some.injEq, Addr.mk.injEq, and_true] at e1
              obtain ⟨rfl, rfl⟩ := e1
              obtain ⟨r, hr⟩ : ∃ r, decide ((S.cand (u : Int)).key < (S.cand (v : Int)).key) = r := ⟨_, rfl⟩
              have HNX := Lib.hid (least_next HLS.out hxu hxv)
              have HRr := Lib.hid hr
              have P0 := Lib.hid p0
              have P1 := Lib.hid p1
              have HBy := Lib.hid (HBx.out.kept KY.out id id)
              have hkm : k < m := by omega
              clear hrow hxu hxv p0 p1 hr HLS
              cases r
              · go_wp2_with fail
                refine wp_region_inv (?a0 :: ?a1 :: ?a2 :: ?a3 :: ?a4 :: ?a5 :: ?a6 :: ?a7 :: ?a8 :: ?a9 :: []) (fun wq => Kept (fun _ => False) wr wq) (by kernel_rfl) (by kernel_rfl) [some 43, some 44, some 45, some 46, some 47, some 48, some 49, some 50, some 51, some 52] rfl rfl ?aA ?ahA ?ah0 ?aH ?ahQ
                case ahA => simp only [laidAll, Act.put, List.setIfInBounds_toArray, List.set_cons_zero, List.set_cons_succ]; exact rfl
                case aH =>
                  iterate 9 (refine ⟨?_, ?_⟩; · first | (refine OpStep.yields (Or.inr ⟨by rfl, ?_⟩); rfl) | (refine OpStep.yields (Or.inl ⟨by rfl, ?_⟩); intro w; go_simp; (try with_reducible rfl); done) | (refine OpStep.reads (by rfl) ?_; intro wx hI; have q0 := hI.cell P0.out id; have q1 := hI.cell P1.out id; go_simp; (try with_reducible rfl); done))
                  refine ⟨?_, ?_⟩
                  · refine OpStep.calls ?af9 ?ag9 (by rfl) ?ar9 ?ac9
                    case ar9 => intro w _; go_simp; first | (refine ⟨?_, ?_⟩ <;> with_reducible rfl) | with_reducible rfl
                    case ac9 =>
                      intro wx hI
                      refine (ahead_any b g S hok u v hul hvl _ (Lib.hid (HBy.out.kept hI id id)) false HRr.out).mono ?_
                      rintro e w' ⟨rfl, hk⟩
                      refine ⟨?_, hI.trans hk⟩
                      with_reducible rfl
                  exact trivial
                case ah0 => exact (Kept.refl (M := fun _ => False) wr).drew
                case ahQ =>
                  intro wz hz
                  have hnx := HNX.out
                  rw [if_neg (by have := HRr.out; simpa using this)] at hnx
                  have HN2 := Lib.hid hnx
                  have HZ := Lib.hid (KY.out.trans hz)
                  clear hz hnx HNX
                  go_wp2_with fail
                  go_roundw
                  case measure => simp [intOf]; omega
                  case rel => exact ⟨i + 1, k, by omega, rfl, by go_num, HN2.out, HZ.out⟩
              · go_wp2_with fail
                refine wp_region_inv (?b0 :: ?b1 :: ?b2 :: ?b3 :: ?b4 :: ?b5 :: ?b6 :: ?b7 :: ?b8 :: ?b9 :: []) (fun wq => Kept (fun _ => False) wr wq) (by kernel_rfl) (by kernel_rfl) [some 43, some 44, some 45, some 46, some 47, some 48, some 49, some 50, some 51, some 52] rfl rfl ?bA ?bhA ?bh0 ?bH ?bhQ
                case bhA => simp only [laidAll, Act.put, List.setIfInBounds_toArray, List.set_cons_zero, List.set_cons_succ]; exact rfl
                case bH =>
                  iterate 9 (refine ⟨?_, ?_⟩; · first | (refine OpStep.yields (Or.inr ⟨by rfl, ?_⟩); rfl) | (refine OpStep.yields (Or.inl ⟨by rfl, ?_⟩); intro w; go_simp; (try with_reducible rfl); done) | (refine OpStep.reads (by rfl) ?_; intro wx hI; have q0 := hI.cell P0.out id; have q1 := hI.cell P1.out id; go_simp; (try with_reducible rfl); done))
                  refine ⟨?_, ?_⟩
                  · refine OpStep.calls ?bf9 ?bg9 (by rfl) ?br9 ?bc9
                    case br9 => intro w _; go_simp; first | (refine ⟨?_, ?_⟩ <;> with_reducible rfl) | with_reducible rfl
                    case bc9 =>
                      intro wx hI
                      refine (ahead_any b g S hok u v hul hvl _ (Lib.hid (HBy.out.kept hI id id)) true HRr.out).mono ?_
                      rintro e w' ⟨rfl, hk⟩
                      refine ⟨?_, hI.trans hk⟩
                      with_reducible rfl
                  exact trivial
                case bh0 => exact (Kept.refl (M := fun _ => False) wr).drew
                case bhQ =>
                  intro wz hz
                  have hnx := HNX.out
                  rw [if_pos (by have := HRr.out; simpa using this)] at hnx
                  have HN2 := Lib.hid hnx
                  have HZ := Lib.hid (KY.out.trans hz)
                  clear hz hnx HNX
                  go_wp2_with fail
                  go_roundw
                  case measure => simp [intOf]; omega
                  case rel => exact ⟨i + 1, i, by omega, rfl, by go_num, HN2.out, HZ.out⟩
            · obtain rfl : m = i := by omega
              obtain ⟨v, hvl, hxv⟩ := hrow k hki
              obtain ⟨ga, oa, e1, -, p1⟩ := (HR.out.all.kept KY.out (fun _ _ _ h => h)).at (i := k) (v := .int .i64 v) (by rw [List.getElem?_map, hxv]; rfl)
              obtain rfl : oa = 0 := by
                have h1 := HR.out
                rcases h1.2 with ⟨h, _⟩ | ⟨gg, c, cur, h, _⟩
                · rw [e1] at h; simp at h
                · rw [e1] at h; simp at h; exact h.1.2
              subst e1
              rw [Nat.zero_add] at p1
              have HRy := Lib.hid (HR.out.look KY.out)
              have HOy := Lib.hid (HO.out.look KY.out)
              have HSTEP := Lib.hid (sortU_step (show Least S row row.length k by rw [HMM.out]; exact HLS.out) hxv)
              have hzy := KY.out.size
              have KXY := Lib.hid (KX.out.trans KY.out)
              have hxz := KXY.out.size
              clear hrow hxv HR HO him hi
              go_wp2_with (at_builtin; go_must (refine wpList_pushI2 rfl (.tmp 54) (.tmp 59) rfl w2.heap.size _ out v rfl HOy.out _ rfl rfl (by omega) (by omega) ?_); intro v' wb ho' hk' hv')
              obtain ⟨ao2, co2, rfl⟩ := hv'
              have hlo : (out ++ [(v : Int)]).length = out.length + 1 := by simp
              rw [hlo]
              rw [hlo] at ho'
              have hown := fun x hx => World.ownsRow.lt HOy.out x hx
              have HOb := Lib.hid ho'
              have HRb := Lib.hid (HRy.out.keep hk' (fun x hx e => by have := HDJ.out x e; omega))
              have KB := Lib.hid (KXY.out.then hk' (fun x hx e => by have := (hown x e).1; omega))
              have hzb := hk'.size
              clear ho' hk' hown HOy HRy
              obtain ⟨az, cz, w3, hr1, v2, w4, hr2, ho4, hk4⟩ := erase_run (HRb.out.look ((Kept.refl (M := fun _ => False) wb).drew)) hki (by omega)
              obtain ⟨row2, hrow2⟩ : ∃ row2, row.take k ++ row.drop (k + 1) = row2 := ⟨_, rfl⟩
              have hrl : row2.length = m - 1 := by rw [← hrow2, List.length_append, List.length_take, List.length_drop, HMM.out]; omega
              have hme2 : ∀ x ∈ row2, ∃ u : Nat, u < S.l.length ∧ x = (u : Int) := by
                intro x hx
                rw [← hrow2] at hx
                rcases List.mem_append.1 hx with h | h
                · exact HME.out x (List.mem_of_mem_take h)
                · exact HME.out x (List.mem_of_mem_drop h)
              have hst2 := HSTEP.out
              rw [hrow2] at ho4 hst2
              have HME2 := Lib.hid hme2
              have HST2 := Lib.hid (show (out ++ [(v : Int)]) ++ sortU S row2 = l1 by rw [← HSO.out, hst2]; simp)
              obtain ⟨a2, c2, rfl⟩ := ho4.slice
              rw [hrl] at ho4 hr2
              have HRL := Lib.hid hrl
              clear hrow2 hme2 hst2 hrl HSTEP
              have H1 := Lib.hid hr1
              have H2 := Lib.hid hr2
              have HN4 := Lib.hid ho4
              have K4 := Lib.hid hk4
              clear hr1 hr2 ho4 hk4
              have hs : ∀ w, (Instr.slice 33 (.slice (some ⟨ga, 0, none⟩) m cr) (some (.int .i64 ((k : Int) + 1))) none none).run Try.prog w = .ok (.slice (cutAt 1 (some ⟨ga, 0, none⟩) cr (k + 1)) (m - (k + 1)) (cr - (k + 1))) w := fun w => by
                have := slice_from (size := 1) Try.underlying33 (fun _ => by kernel_rfl) (some ⟨ga, 0, none⟩) m cr .i64 ((k : Int) + 1) (by omega) (by omega) w
                rwa [show ((k : Int) + 1).toNat = k + 1 by omega] at this
              have hw1 : IntKind.i64.wrap ((k : Int) + 1) = (k : Int) + 1 := by rw [IntKind.wrap_i64]; omega
              have hmc : m ≤ cr := by
                rcases HRb.out.2 with ⟨h, _⟩ | ⟨gg, c, cur, h, _, _, h2, _⟩
                · simp at h
                · simp at h; obtain ⟨_, _, rfl⟩ := h; omega
              have hkc : k ≤ cr := by omega
              go_wp2_with fail
              · skip
                refine wp_region_any (by kernel_rfl) ?_
                change wpAny _ _ _ _ _ _ _ (World.drew _)
                refine wpAny_take (i := 1) (oi := ?woi1) (v := ?w1) ?whi1 (by kernel_rfl) (by kernel_rfl) (by kernel_rfl) ?whQ1 ?why1 ?wrest1
                case whi1 => (simp only [List.getElem?_toArray, List.getElem?_cons_succ, List.getElem?_cons_zero]; rfl)
                case whQ1 => exact fun _ _ _ h => h
                case why1 => refine Or.inl ⟨by rfl, ?_⟩; intro w; go_simp; (try with_reducible rfl)
                try simp only [Act.put, List.setIfInBounds_toArray, List.set_cons_zero, List.set_cons_succ]
                refine wpAny_take (i := 2) (oi := ?woi2) (v := ?w2) ?whi2 (by kernel_rfl) (by kernel_rfl) (by kernel_rfl) ?whQ2 ?why2 ?wrest2
                case whi2 => (simp only [List.getElem?_toArray, List.getElem?_cons_succ, List.getElem?_cons_zero]; rfl)
                case whQ2 => exact fun _ _ _ h => h
                case why2 => refine Or.inl ⟨by rfl, ?_⟩; intro w; go_simp; (try with_reducible rfl)
                try simp only [Act.put, List.setIfInBounds_toArray, List.set_cons_zero, List.set_cons_succ]
                refine wpAny_take (i := 5) (oi := ?woi5) (v := ?w5) ?whi5 (by kernel_rfl) (by kernel_rfl) (by kernel_rfl) ?whQ5 ?why5 ?wrest5
                case whi5 => (simp only [List.getElem?_toArray, List.getElem?_cons_succ, List.getElem?_cons_zero]; rfl)
                case whQ5 => exact fun _ _ _ h => h
                case why5 => refine Or.inl ⟨by rfl, ?_⟩; intro w; go_simp; (try with_reducible rfl)
                try simp only [Act.put, List.setIfInBounds_toArray, List.set_cons_zero, List.set_cons_succ]
                refine wpAny_take (i := 6) (oi := ?woi6) (v := ?w6) ?whi6 (by kernel_rfl) (by kernel_rfl) (by kernel_rfl) ?whQ6 ?why6 ?wrest6
                case whi6 => (simp only [List.getElem?_toArray, List.getElem?_cons_succ, List.getElem?_cons_zero]; rfl)
                case whQ6 => exact fun _ _ _ h => h
                case why6 => refine Or.inl ⟨by rfl, ?_⟩; intro w; go_simp; (try with_reducible rfl)
                try simp only [Act.put, List.setIfInBounds_toArray, List.set_cons_zero, List.set_cons_succ]
                refine wpAny_take (i := 7) (oi := ?woi7) (v := ?w7) ?whi7 (by kernel_rfl) (by kernel_rfl) (by kernel_rfl) ?whQ7 ?why7 ?wrest7
                case whi7 => (simp only [List.getElem?_toArray, List.getElem?_cons_succ, List.getElem?_cons_zero]; rfl)
                case whQ7 => exact fun _ _ _ h => h
                case why7 => refine Or.inl ⟨by rfl, ?_⟩; intro w; go_simp; (try with_reducible rfl)
                try simp only [Act.put, List.setIfInBounds_toArray, List.set_cons_zero, List.set_cons_succ]
                refine wpAny_take (i := 3) (oi := ?woi3) (v := ?w3) ?whi3 (by kernel_rfl) (by kernel_rfl) (by kernel_rfl) ?whQ3 ?why3 ?wrest3
                case whi3 => (simp only [List.getElem?_toArray, List.getElem?_cons_succ, List.getElem?_cons_zero]; rfl)
                case whQ3 => exact fun _ _ _ h => h
                case why3 => refine Or.inl ⟨by rfl, ?_⟩; intro w; go_simp; (try with_reducible rfl)
                try simp only [Act.put, List.setIfInBounds_toArray, List.set_cons_zero, List.set_cons_succ]
                refine wpAny_take (i := 8) (oi := ?woi8) (v := ?w8) ?whi8 (by kernel_rfl) (by kernel_rfl) (by kernel_rfl) ?whQ8 ?why8 ?wrest8
                case whi8 => (simp only [List.getElem?_toArray, List.getElem?_cons_succ, List.getElem?_cons_zero]; rfl)
                case whQ8 => exact fun _ _ _ h => h
                case why8 => refine Or.inl ⟨by rfl, ?_⟩; intro w; go_simp; (try with_reducible rfl)
                try simp only [Act.put, List.setIfInBounds_toArray, List.set_cons_zero, List.set_cons_succ]
                refine wpAny_ready (rs := [0]) (by kernel_rfl) (by simp) ?_
                refine AllReady.cons (o := ?wo0) ?wio0 (fun K hK => ?_) AllReady.nil
                case wio0 => (simp only [List.getElem?_toArray, List.getElem?_cons_zero]; rfl)
                go_simp
                refine hK _ _ ?_
                clear hK K
                try simp only [Act.put, List.setIfInBounds_toArray, List.set_cons_zero, List.set_cons_succ]
                refine wpAny_ready (rs := [4]) (by kernel_rfl) (by simp) ?_
                refine AllReady.cons (o := ?wo4) ?wio4 (fun K hK => ?_) AllReady.nil
                case wio4 => (simp only [List.getElem?_toArray, List.getElem?_cons_succ, List.getElem?_cons_zero]; rfl)
                refine step_append_run rfl (.tmp 61) (.tmp 64) 33 33 rfl _ _ rfl rfl H1.out ?_
                refine hK _ _ ?_
                clear hK K
                try simp only [Act.put, List.setIfInBounds_toArray, List.set_cons_zero, List.set_cons_succ]
                refine wpAny_ready (rs := [9]) (by kernel_rfl) (by simp) ?_
                refine AllReady.cons (o := ?wo9) ?wio9 (fun K hK => ?_) AllReady.nil
                case wio9 => (simp only [List.getElem?_toArray, List.getElem?_cons_succ, List.getElem?_cons_zero]; rfl)
                refine step_append_run rfl (.tmp 65) (.tmp 69) 33 33 rfl _ _ rfl rfl H2.out ?_
                refine hK _ _ ?_
                clear hK K
                try simp only [Act.put, List.setIfInBounds_toArray, List.set_cons_zero, List.set_cons_succ]
                refine wpAny_take (i := 10) (oi := ?woi10) (v := ?w10) ?whi10 (by kernel_rfl) (by kernel_rfl) (by kernel_rfl) ?whQ10 ?why10 ?wrest10
                case whi10 => (simp only [List.getElem?_toArray, List.getElem?_cons_succ, List.getElem?_cons_zero]; rfl)
                case whQ10 => exact fun _ _ _ h => h
                case why10 => refine Or.inl ⟨by rfl, ?_⟩; intro w; go_simp; (try with_reducible rfl)
                try simp only [Act.put, List.setIfInBounds_toArray, List.set_cons_zero, List.set_cons_succ]
                refine wpAny_done (by kernel_rfl) ?_ _
                have hlt := fun x hx => World.ownsRow.lt HOb.out x hx
                have HLT := Lib.hid hlt
                have hz4 : wb.heap.size ≤ w4.heap.size := K4.out.size
                have K4' := Lib.hid K4.out.of_drew
                clear hlt hs hw1 K4 H1 H2
                go_wp2_with fail
                go_roundw
                case measure => rw [lenV_slice, lenV_slice]; omega
                case rel => exact ⟨row2, out ++ [(v : Int)], wb.heap.size, HN4.out, HOb.out.look K4'.out, fun x hx => (HLT.out x hx).2, hz4, by omega, HST2.out, HME2.out, by rw [HRL.out]; omega, by rw [HRL.out, hlo]; omega, KB.out.trans K4'.out⟩
        · obtain rfl : m = 0 := by omega
          have hnil : row = [] := List.eq_nil_of_length_eq_zero HMM.out
          subst hnil
          have hout := HSO.out
          rw [sortU_nil, List.append_nil] at hout
          subst hout
          have i0 : decide ((0 : Int) < (0 : Int)) = false := by decide
          have hoz := HO.out
          clear HO
          have HOZ := Lib.hid hoz
          clear hoz
          go_wp2_with fail
          go_ret
          obtain ⟨L', h1, h2, h3⟩ := HL2.out
          have hkf : Kept (· = tb) w wr := ((K1.out.mono (fun _ _ h => h.elim)).trans K2.out).trans (KX.out.mono (fun _ _ h => h.elim))
          refine ⟨ao, co, rfl, ?_, ⟨L', h1.kept KX.out id (fun _ _ h => h.elim), fun k hk => (h2 k hk).imp id (fun h => by omega), h3⟩, hkf⟩
          have ho := HOZ.out
          refine ⟨ho.1, ?_⟩
          rcases ho.2 with h2 | ⟨x, cp, cur, hv, hx, r2⟩
          · exact .inl h2
          · exact .inr ⟨x, cp, cur, hv, by omega, r2⟩
end Go.Proofs.Ytnpmimjhpnhdkaa

/- order.Order again: what is told may be written over. -/
namespace Go.Proofs.Ytnpmimjhpnhdkaa
open Go.RowKit

set_option maxRecDepth 100000 in
set_option maxHeartbeats 4000000 in
theorem order_any2 (b g tb : Nat) (s : BookS) (t : TapeS) (L : List Nat) (w : World) (h : Book w b g s) (hok : s.ok) (ht : Tape w tb t L) (hL : ∀ k ∈ L, k < w.heap.size) (hbt : b ≠ tb) (hgt : g ≠ tb) (hu : t.used + 9 < 9223372036854775807) :
    Calls Try.prog 12 #[.pointer (some ⟨b, 0, none⟩), .pointer (some ⟨tb, 0, none⟩)] w fun e w' => ∃ ao cap, e = .returned (.slice ao (orderL s t).length cap) ∧ OwnsI w' w.heap.size (.slice ao (orderL s t).length cap) (orderL s t) ∧
      (∃ L', Tape w' tb (shuffleL (mayL s.l).length t).2 L' ∧ (∀ k ∈ L', k ∈ L ∨ w.heap.size ≤ k) ∧ (∀ k ∈ L, k ∈ L') ∧ (∀ k ∈ L', k < w'.heap.size) ∧ ∀ x o, ao = some ⟨x, o, none⟩ → x ∈ L') ∧ Kept (· = tb) w w' := by
  have hlen : s.l.length ≤ 9 := hok.2.2.2.2.1
  have hcok := fun m sh => candL_ok hok m sh
  have htlt := ht.lt
  have hmn := fun x hx => mayL_at s.l x hx
  have hml : (mayL s.l).length ≤ 9 := by have := may_count s.l; omega
  unfold orderL
  obtain ⟨m, hm⟩ : ∃ m, mayL s.l = m := ⟨_, rfl⟩
  rw [hm] at hml hmn ⊢
  have H := Lib.hid h
  have HT := Lib.hid (And.intro ht hL)
  have HC := Lib.hid hcok
  have HMN := Lib.hid hmn
  have HOK := Lib.hid hok
  clear h ht hL hcok hmn hok
  go_enter Try.func12, Try.ntmps12
  go_wp2_with fail
  refine (may_any b g s (by omega) w H.out).mono ?_
  rintro e w1 ⟨v, rfl, ho, hk⟩
  rw [hm] at ho
  obtain ⟨ao, cap, rfl⟩ := ho.slice
  have HM := Lib.hid ho
  have K1 := Lib.hid hk
  have HT1 := Lib.hid (And.intro (HT.out.1.kept hk id (fun _ _ h => h.elim)) (fun k hx => hk.lt (HT.out.2 k hx)))
  have hz1 := hk.size
  clear ho hk hm
  go_wp2_with fail
  refine (shuf_own tb m.length hml t L w1 HT1 (by omega)).mono ?_
  rintro e w2 ⟨a2, cap2, rfl, hc2, hl2, hk2⟩
  obtain ⟨hs1, -, hs3, -⟩ := shuffleL_law m.length t
  obtain ⟨sh, hsh⟩ : ∃ sh, (shuffleL m.length t).1 = sh := ⟨_, rfl⟩
  rw [hsh] at hc2 hs1 hs3
  have HSH := Lib.hid hsh
  clear hsh
  have HS2 := Lib.hid hc2
  have HL2 := Lib.hid hl2
  have K2 := Lib.hid hk2
  have HS3 := Lib.hid hs3
  have hz2 := hk2.size
  have hcl : (candL s m sh).length = m.length := by simp [candL, hs1]
  have hcat : ∀ (k : Nat) (hk : k < sh.length), (candL s m sh)[k]? = some (s.cand (m.getD (sh[k]).toNat 0)) := fun k hk => by simp [candL, hk]
  obtain ⟨cs, hcs⟩ : ∃ cs, candL s m sh = cs := ⟨_, rfl⟩
  have hcok := HC.out m sh
  simp only [hcs] at hcl hcat hcok
  have HCS := Lib.hid hcs
  have HCA := Lib.hid hcat
  have HCO := Lib.hid hcok
  clear hc2 hl2 hk2 hs3 hcat hcs hcok HC
  go_wp2_with fail
  go_loopw [6, 26] (fun lv c wr => ∃ (k : Nat) (al : Option Addr) (cl : Nat), k ≤ m.length ∧ c = .int .i64 k ∧ lv = .slice al k cl ∧ OwnsS wr w2.heap.size 72 3 Cand.cells (.slice al k cl) (cs.take k) ∧ Kept (fun _ => False) w2 wr) (fun _ c _ => m.length - (intOf c).toNat)
  case atStart => exact ⟨0, none, 0, by omega, rfl, rfl, OwnsS.nil (Nat.le_refl _), Kept.refl _⟩
  case round =>
    obtain ⟨k, al, cl, hk, rfl, rfl, ho, hkw⟩ := hrel
    have HO := Lib.hid ho
    have HK := Lib.hid hkw
    have hzr := hkw.size
    clear ho hkw
    by_cases hlt : k < m.length
    · have HSr := Lib.hid (HS2.out.kept HK.out (fun _ _ _ h => h))
      have HMr := Lib.hid (OwnsI.cells (OwnsI.look (OwnsI.keep HM.out K2.out (fun x hx e => by subst e; omega)) HK.out)).2
      have hks : k < sh.length := by omega
      have hsk := HS3.out _ (List.getElem_mem hks)
      have hca := HCA.out k hks
      obtain ⟨j, hj⟩ : ∃ j : Nat, sh[k] = (j : Int) := ⟨(sh[k]).toNat, by omega⟩
      have hjm : j < m.length := by omega
      have hca' : cs[k]'(by omega) = s.cand (m[j]'hjm) := by
        rw [hj] at hca
        rw [List.getElem?_eq_getElem (by omega : k < cs.length)] at hca
        rw [Option.some.inj hca]; simp [hjm]
      obtain ⟨g2, o2, rfl, hg2, hc2⟩ : ∃ g2 o2, a2 = some ⟨g2, o2, none⟩ ∧ w1.heap.size ≤ g2 ∧ wr.cell? ⟨g2, o2 + k, none⟩ = some (.int .i64 (j : Int)) := by
        rcases HSr.out with h | ⟨x, o, h1, h2, h3⟩
        · have hh := congrArg List.length h; rw [List.length_map] at hh; simp only [List.length_nil] at hh; omega
        · exact ⟨x, o, h1, h2, by rw [h3 k (by simpa using hks)]; simp [hks, hj]⟩
      obtain ⟨gm, om, rfl, hgm, hcm⟩ : ∃ gm om, ao = some ⟨gm, om, none⟩ ∧ w.heap.size ≤ gm ∧ wr.cell? ⟨gm, om + j, none⟩ = some (.int .i64 (m[j]'hjm)) := by
        rcases HMr.out with h | ⟨x, o, h1, h2, h3⟩
        · have hh := congrArg List.length h; rw [List.length_map] at hh; simp only [List.length_nil] at hh; omega
        · exact ⟨x, o, h1, h2, by rw [h3 j (by simpa using hjm)]; simp [hjm]⟩
      obtain ⟨u, hu'⟩ : ∃ u, m[j]'hjm = u := ⟨_, rfl⟩
      rw [hu'] at hca' hcm
      have HCA' := Lib.hid hca'
      have HBr := Lib.hid (((H.out.look K1.out).kept K2.out hbt hgt).look HK.out)
      clear hca hca' hsk hj hu'
      go_wp2_with fail
      refine (trial_of _ _ u wr (Lib.hid (of_any b g s u (by omega) wr HBr.out))).mono ?_
      rintro e w4 ⟨rfl, hk4⟩
      have HB4 := Lib.hid (HBr.out.look hk4)
      have HO4 := Lib.hid (HO.out.look hk4)
      have HK4 := Lib.hid (HK.out.trans hk4)
      clear hk4
      go_wp2_with fail
      refine (score_of _ _ u w4 (Lib.hid (of_any b g s u (by omega) w4 HB4.out))).mono ?_
      rintro e w5 ⟨rfl, hk5⟩
      have HO5 := Lib.hid (HO4.out.look hk5)
      have HK5 := Lib.hid (HK4.out.trans hk5)
      have hz5 := HK5.out.size
      clear hk5
      have htl : (cs.take k).length = k := by rw [List.length_take]; omega
      go_wp2_with (first | (at_builtin; refine wpList_pushS (E := 72) (sz := 3) (f := Cand.cells) (base := w2.heap.size) (v := .slice al k cl) (l := cs.take k) (w := w5) rfl _ _ 70 rfl Try.underlying70 info_cand rfl (by decide) (by decide) (s.cand u) rfl HO5.out _ rfl _ rfl rfl (by rw [htl]; omega) hz5 rfl (by simp [Cand.cells, Value.oneCell']) ?_; rintro v6 w6 ho6 ⟨hk6, hk6', -⟩ ⟨ao6, cp6, hv6⟩; subst hv6))
      have htk : cs.take k ++ [s.cand u] = cs.take (k + 1) := by rw [← HCA'.out]; exact (List.take_succ_eq_append_getElem (by omega)).symm
      rw [htk] at ho6
      rw [show (cs.take (k + 1)).length = k + 1 by rw [List.length_take]; omega] at ho6
      go_roundw
      case measure => simp [intOf]; omega
      case rel => exact ⟨k + 1, ao6, cp6, by omega, by go_num, rfl, ho6, hk6 _ _ HK5.out (Nat.le_refl _)⟩
    · obtain rfl : k = m.length := by omega
      have hO := HO.out
      rw [show cs.take m.length = cs from List.take_of_length_le (by omega)] at hO
      have HO' := Lib.hid hO
      clear hO
      go_wp2_with fail
      refine (sort_own w2.heap.size al m.length cl cs wr HO'.out (by omega) HCO.out).mono ?_
      rintro e w7 ⟨rfl, hs, hk7⟩
      have hrl : (sortK Cand.key cs).length = m.length := by rw [sortK_len, hcl]
      replace hs : ∀ u, u < m.length → ∃ c, (sortK Cand.key cs)[u]? = some c ∧ ∃ g, al = some ⟨g, 0, none⟩ ∧ w2.heap.size ≤ g ∧ ∀ j, j < 3 → w7.cell? ⟨g, u * 3 + j, none⟩ = (c.cells)[j]? := fun u hu => ⟨_, List.getElem?_eq_getElem (by omega), hs u (by omega)⟩
      obtain ⟨r, hr⟩ : ∃ r, sortK Cand.key cs = r := ⟨_, rfl⟩
      simp only [hr] at hs hrl
      have HR := Lib.hid hr
      have HS := Lib.hid hs
      have K7 := Lib.hid (HK.out.then hk7 (fun i hi h => by omega))
      clear hr hs hk7
      go_wp2_with fail
      go_loopw [10, 50] (fun lv c wz => ∃ (q : Nat) (az : Option Addr) (cz : Nat), q ≤ m.length ∧ c = .int .i64 q ∧ lv = .slice az q cz ∧ OwnsI wz w7.heap.size (.slice az q cz) ((r.take q).map (·.u)) ∧ Kept (fun _ => False) w7 wz) (fun _ c _ => m.length - (intOf c).toNat)
      case atStart => exact ⟨0, none, 0, by omega, rfl, rfl, ⟨by simp, .inl ⟨rfl, rfl⟩⟩, Kept.refl _⟩
      case round =>
        obtain ⟨q, az, cz, hq, rfl, rfl, hoz, hkz⟩ := hrel
        have HOZ := Lib.hid hoz
        have HKZ := Lib.hid hkz
        have hzz := hkz.size
        clear hoz hkz
        by_cases hltq : q < m.length
        · obtain ⟨c, hc, g7, rfl, hg7, hc7⟩ := HS.out q (by omega)
          have d0 : wr.cell? ⟨g7, q * 3, none⟩ = some (.int .i64 c.u) := HKZ.out.cell (hc7 0 (by decide)) id
          have d1 : wr.cell? ⟨g7, q * 3 + 1, none⟩ = some (.bool c.trial) := HKZ.out.cell (hc7 1 (by decide)) id
          have d2 : wr.cell? ⟨g7, q * 3 + 2, none⟩ = some (.int .i64 c.score) := HKZ.out.cell (hc7 2 (by decide)) id
          have HC := Lib.hid hc
          clear hc hc7
          have htl : ((r.take q).map (·.u)).length = q := by simp; omega
          have KZ1 := fun (o : Obj) => HKZ.out.alloc o
          have HO1 := Lib.hid (fun (o : Obj) => HOZ.out.look ((Kept.refl (M := fun _ => False) wr).alloc o))
          have HKZ1 := Lib.hid KZ1
          clear KZ1
          go_wp2_with (at_builtin; go_must (refine wpList_pushI rfl _ _ rfl w7.heap.size (.slice az q cz) ((r.take q).map (·.u)) c.u rfl (HO1.out _) _ rfl (by simp) (by omega) (by simp; omega) ?_); intro v' w' ho' hg' hv')
          obtain ⟨ao', cp', rfl⟩ := hv'
          have htk : (r.take q).map (·.u) ++ [c.u] = (r.take (q + 1)).map (·.u) := by
            have h1 : r[q]'(by omega) = c := by have := HC.out; rw [List.getElem?_eq_getElem (by omega : q < r.length)] at this; exact Option.some.inj this
            rw [List.take_succ_eq_append_getElem (by omega : q < r.length), List.map_append, h1]; rfl
          have hl1 : ((r.take q).map (·.u) ++ [c.u]).length = q + 1 := by rw [List.length_append, htl]; rfl
          rw [hl1, htk] at ho'
          rw [hl1]
          have K9 := Lib.hid (hg'.1 _ _ (HKZ1.out _) (Nat.le_refl _))
          clear hg' hl1 htk
          go_wp2_with fail
          go_roundw
          case measure => simp [intOf]; omega
          case rel => exact ⟨q + 1, ao', cp', by omega, by go_num, rfl, ho', K9.out⟩
        · obtain rfl : q = m.length := by omega
          have hoz := HOZ.out
          rw [show r.take m.length = r from List.take_of_length_le (by omega)] at hoz
          have HOF := Lib.hid hoz
          have hzw := K2.out.size
          have hz7 := K7.out.size
          clear hoz
          go_wp2_with fail
          go_ret
          obtain ⟨L', hl1, hl2, hl4, hl3⟩ := HL2.out
          have KF := K7.out.trans HKZ.out
          rw [HSH.out, HCS.out, HR.out]
          have hrm : (r.map (·.u)).length = m.length := by rw [List.length_map, hrl]
          rw [hrm]
          have ho := HOF.out
          have hrow : ∀ x o, az = some ⟨x, o, none⟩ → w2.heap.size ≤ x ∧ x < wr.heap.size := by
            intro x o e
            subst e
            have := World.ownsRow.lt ho x rfl
            exact ⟨by omega, this.2⟩
          have hbL : tb ∈ L' := by obtain ⟨_, _, _, h3, _⟩ := hl1; exact h3
          refine ⟨az, cz, rfl, ?_, ?_, ((K1.out.mono (fun _ _ h => h.elim)).trans K2.out).trans (KF.mono (fun _ _ h => h.elim))⟩
          rotate_left
          · cases haz : az with
            | none => exact ⟨L', hl1.kept KF id (fun _ _ h => h.elim), fun k hk => (hl2 k hk).imp id (fun h => by omega), hl4, fun k hk => KF.lt (hl3 k hk), fun x o e => by cases e⟩
            | some q =>
              obtain ⟨x, o, sp⟩ := q
              have hsp : sp = none := by
                rcases ho.2 with ⟨h, _⟩ | ⟨g', c', cur', h, _⟩
                · rw [haz] at h; simp at h
                · rw [haz] at h; simp at h; exact h.1.2.2
              subst hsp
              obtain ⟨h5, h6⟩ := hrow x o haz
              refine ⟨x :: L', (hl1.more (x :: L') (fun k hk => by
                rcases List.mem_cons.1 hk with rfl | hk
                · exact .inr h5
                · exact .inl hk) (List.mem_cons_of_mem _ hbL)).kept KF id (fun _ _ h => h.elim), fun k hk => ?_, fun k hk => List.mem_cons_of_mem _ (hl4 k hk), fun k hk => ?_, fun y o' e => ?_⟩
              · rcases List.mem_cons.1 hk with rfl | hk
                · exact .inr (by omega)
                · exact (hl2 k hk).imp id (fun h => by omega)
              · rcases List.mem_cons.1 hk with rfl | hk
                · exact h6
                · exact KF.lt (hl3 k hk)
              · simp only [Option.some.injEq, Addr.mk.injEq] at e
                rw [← e.1]; exact List.mem_cons_self
          refine ⟨ho.1, ?_⟩
          rcases ho.2 with h2 | ⟨x, cp, cur, hv, hx, r2⟩
          · exact .inl h2
          · exact .inr ⟨x, cp, cur, hv, by omega, r2⟩
end Go.Proofs.Ytnpmimjhpnhdkaa

/- OrderTells, walked. -/
namespace Go.Proofs.Ytnpmimjhpnhdkaa
open Go.RowKit

theorem keep2 {w w' : World} {p q : Addr} {x y : Value} (k : Kept (fun _ => False) w w') (h : w.cell? p = some x ∧ w.cell? q = some y) : w'.cell? p = some x ∧ w'.cell? q = some y :=
  ⟨k.cell h.1 id, k.cell h.2 id⟩
/-- A tail that more than one order of a region runs into: proved once. -/
theorem tail_rule1 {goal : Prop} (good : World → Prop) (G : World → Prop) (h1 : (∀ w, good w → G w) → goal) (h2 : ∀ w, good w → G w) : goal := h1 h2
theorem ints_len20t (a1 a2 : Option Addr) (l1 l2 : List Int) (n1 n2 c1 c2 : Nat) (e1 : l1.length = n1) (e2 : l2.length = n2) (w : World) (h1 : Cells w a1 (l1.map (.int .i64)) (fun _ => True)) (h2 : Cells w a2 (l2.map (.int .i64)) (fun _ => True))
    (hl1 : n1 ≤ 9223372036854775806) (hl2 : n2 ≤ 9223372036854775806) :
    Calls Try.prog 18 #[.slice a1 n1 c1, .slice a2 n2 c2] w fun e w' => e = .returned (.bool (decide (l1 = l2))) ∧ Kept (fun _ => False) w w' := by
  subst e1 e2
  exact ints_any a1 a2 l1 l2 c1 c2 w h1 h2 hl1 hl2
/-- The slice may be written, place by place; its block is one of gs. -/
def InRowI (w : World) (ao : Option Addr) (n : Nat) (gs : List Nat) : Prop := n = 0 ∨ ∃ g c, ao = some ⟨g, 0, none⟩ ∧ g ∈ gs ∧ w.heap[g]? = some (.cells c 3 (0, 0)) ∧ n ≤ c.size
theorem InRowI.keep {M : Nat → Prop} {w w' : World} {ao : Option Addr} {n : Nat} {gs : List Nat} (h : InRowI w ao n gs) (k : Kept M w w') (hm : ∀ g ∈ gs, ¬ M g) : InRowI w' ao n gs := by
  rcases h with h | ⟨g, c, e, hg, hh, hn⟩
  · exact .inl h
  · exact .inr ⟨g, c, e, hg, k.heap hh (hm g hg), hn⟩
theorem inRowI_of {w : World} {base n cap : Nat} {ao : Option Addr} {l : List Int} (h : OwnsI w base (.slice ao n cap) l) : ∃ gs : List Nat, (∀ k ∈ gs, base ≤ k ∧ k < w.heap.size ∧ ∃ o, ao = some ⟨k, o, none⟩) ∧ InRowI w ao n gs := by
  have hlen := h.cells.1
  rcases h.2 with ⟨h1, h2⟩ | ⟨g, c, cur, hv, hb, hg, hn, _, hs, _⟩
  · exact ⟨[], by simp, .inl (by rw [hlen]; exact h2)⟩
  · simp at hv
    obtain ⟨rfl, h3, rfl⟩ := hv
    exact ⟨[g], by simp; exact ⟨hb, lt_of_block hg⟩, .inr ⟨g, cur, rfl, by simp, hg, by omega⟩⟩
/-- Both tapes, made in either order. -/
structure Both (w w' : World) (tb ub : Nat) (t : TapeS) : Prop where
  tp : Tape w' tb t [ub, tb]
  rt : RTape w' ub t [ub, tb]
  kp : Kept (fun _ => False) w w'
  htb : w.heap.size ≤ tb
  hub : w.heap.size ≤ ub
  ne : tb ≠ ub
  tl : tb < w'.heap.size
  ul : ub < w'.heap.size
theorem both_a {w w1 w2 : World} {tb ub : Nat} {t : TapeS} (h1 : w.heap.size ≤ tb) (ht : Tape w1 tb t [tb]) (k1 : Kept (fun _ => False) w w1) (h2 : w1.heap.size ≤ ub) (hu : RTape w2 ub t (ub :: [tb])) (k2 : Kept (fun _ => False) w1 w2) : Both w w2 tb ub t := by
  have := ht.lt
  have := k1.size
  have := k2.size
  refine ⟨(ht.more [ub, tb] (fun k hk => ?_) (by simp)).kept k2 id (fun _ _ h => h.elim), hu, k1.trans k2, h1, by omega, by omega, by omega, hu.lt⟩
  simp at hk
  rcases hk with rfl | rfl
  · exact .inr h2
  · exact .inl (by simp)
set_option maxRecDepth 100000 in
set_option maxHeartbeats 4000000 in
theorem tells_walk {H : Type} {enc : TypeId × Value → H} {d : DataW H} {p : List MemPlace} (w : World) (cs : Array Value) (hk : DataW.Trod enc Try.prog w 0 (fun _ => true) true 26 (.agg cs) d p) :
    Calls Try.prog 5 #[.agg cs] w fun e w' => e = .returned (.bool true) ∧ Kept (fun _ => False) w w' := by
  obtain ⟨ups, limit, rest, seed, a, f, l, ca, fl, cf, rfl, hacts, hrow, hu, hwf⟩ := case20_of (Reads.of hk)
  have HA := Lib.hid hacts
  have HR := Lib.hid hrow
  have HU := Lib.hid hu
  clear hk hacts hrow hu
  have K0 := Lib.hid ((Kept.refl (M := fun _ => False) w).alloc (.cells #[.int .i64 ups, .int .i64 limit, .int .i64 rest, .slice a l.length ca, .int .u64 seed, .slice f fl.length cf] 26))
  have C0 := Lib.hid (new_blk w (.cells #[.int .i64 ups, .int .i64 limit, .int .i64 rest, .slice a l.length ca, .int .u64 seed, .slice f fl.length cf] 26))
  obtain ⟨r, hr⟩ : ∃ r, (decide (500 < l.length) || decide (500 < fl.length)) = r := ⟨_, rfl⟩
  go_enter Try.func5, Try.ntmps5
  go_wp2_with fail
  cases r
  · refine (long20_any ups limit rest seed a f _ ca _ cf false hr _).mono ?_
    rintro e w1 ⟨rfl, hk1⟩
    replace C0 := Lib.hid (hk1.heap C0.out id)
    replace K0 := Lib.hid (K0.out.trans hk1)
    have c0 := cell_blk C0.out 0
    have c1 := cell_blk C0.out 1
    have c2 := cell_blk C0.out 2
    have c3 := cell_blk C0.out 3
    have c4 := cell_blk C0.out 4
    have c5 := cell_blk C0.out 5
    simp at c0 c1 c2 c3 c4 c5
    clear hk1
    simp only [Bool.or_eq_false_iff, decide_eq_false_iff_not] at hr
    go_wp2_with fail
    refine (book20_any w1 ups limit rest seed a f l ca fl.length cf (by omega) (Lib.hid (HA.out.kept K0.out)) hwf).mono ?_
    rintro e w2 (⟨-, rfl, hk2⟩ | ⟨n0, b, g, rb, rg, rfl, hn, rfl, ho, hro, hfar⟩)
    · clear c0 c1 c2 c3 c4 c5
      go_wp2_with fail
      refine (awake20_any _).mono ?_
      rintro e w3 ⟨rfl, hk3⟩
      go_wp2_with fail
      go_ret
      exact ⟨rfl, (K0.out.trans hk2).trans hk3⟩
    clear c0 c1 c2 c3 c4 c5
    obtain ⟨S, hS⟩ : ∃ S, (newB n0 limit rest).acts l = S := ⟨_, rfl⟩
    rw [hS] at ho hro
    clear hS hn hwf
    have K2 := Lib.hid (K0.out.trans ho.kp)
    have hCB := ho.kp.heap C0.out id
    have c4 := cell_blk hCB 4
    have c5 := cell_blk hCB 5
    simp at c4 c5
    have hSr : w2.cell? ⟨w.heap.size, 4, none⟩ = some (.int .u64 seed) ∧ w2.cell? ⟨w.heap.size, 5, none⟩ = some (.slice f fl.length cf) := ⟨c4, c5⟩
    have hm9 : (mayL S.l).length ≤ 9 := by have := ho.ok.2.2.2.2.1; have := may_len S.l; omega
    have HO := Lib.hid ho
    have HRO := Lib.hid hro
    have HFAR := Lib.hid hfar
    clear ho hro hfar c4 c5 hCB C0
    go_wp2_with fail
    refine wp_region_held_drew (S := fun w' => w'.cell? ⟨w.heap.size, 4, none⟩ = some (.int .u64 seed) ∧ w'.cell? ⟨w.heap.size, 5, none⟩ = some (.slice f fl.length cf)) (by kernel_rfl) (by exact hSr) (fun hHeld => ?_)
    refine wpAnyH_take (i := 0) (oi := ?poi0) (v := ?pv0) ?phi0 (by kernel_rfl) (by kernel_rfl) (by kernel_rfl) ?phQ0 ?phy0 (by assumption) ?prest0
    case phi0 => (simp only [List.getElem?_toArray, List.getElem?_cons_zero]; rfl)
    case phQ0 => exact fun _ _ _ h => h
    case phy0 => first | (refine Or.inr ⟨by rfl, ?_⟩; rfl) | (refine Or.inl ⟨by rfl, ?_⟩; intro w hSw; (try dsimp only at hSw); go_simp; (try with_reducible rfl))
    try simp only [Act.put, List.setIfInBounds_toArray, List.set_cons_zero, List.set_cons_succ]
    refine wpAnyH_take (i := 1) (oi := ?poi1) (v := ?pv1) ?phi1 (by kernel_rfl) (by kernel_rfl) (by kernel_rfl) ?phQ1 ?phy1 (by assumption) ?prest1
    case phi1 => (simp only [List.getElem?_toArray, List.getElem?_cons_succ, List.getElem?_cons_zero]; rfl)
    case phQ1 => exact fun _ _ _ h => h
    case phy1 => first | (refine Or.inr ⟨by rfl, ?_⟩; rfl) | (refine Or.inl ⟨by rfl, ?_⟩; intro w hSw; (try dsimp only at hSw); go_simp; (try with_reducible rfl))
    try simp only [Act.put, List.setIfInBounds_toArray, List.set_cons_zero, List.set_cons_succ]
    refine wpAnyH_take (i := 2) (oi := ?poi2) (v := ?pv2) ?phi2 (by kernel_rfl) (by kernel_rfl) (by kernel_rfl) ?phQ2 ?phy2 (by assumption) ?prest2
    case phi2 => (simp only [List.getElem?_toArray, List.getElem?_cons_succ, List.getElem?_cons_zero]; rfl)
    case phQ2 => exact fun _ _ _ h => h
    case phy2 => first | (refine Or.inr ⟨by rfl, ?_⟩; rfl) | (refine Or.inl ⟨by rfl, ?_⟩; intro w hSw; (try dsimp only at hSw); go_simp; (try with_reducible rfl))
    try simp only [Act.put, List.setIfInBounds_toArray, List.set_cons_zero, List.set_cons_succ]
    refine wpAnyH_take (i := 3) (oi := ?poi3) (v := ?pv3) ?phi3 (by kernel_rfl) (by kernel_rfl) (by kernel_rfl) ?phQ3 ?phy3 (by assumption) ?prest3
    case phi3 => (simp only [List.getElem?_toArray, List.getElem?_cons_succ, List.getElem?_cons_zero]; rfl)
    case phQ3 => exact fun _ _ _ h => h
    case phy3 => first | (refine Or.inr ⟨by rfl, ?_⟩; rfl) | (refine Or.inl ⟨by rfl, ?_⟩; intro w hSw; (try dsimp only at hSw); go_simp; (try with_reducible rfl))
    try simp only [Act.put, List.setIfInBounds_toArray, List.set_cons_zero, List.set_cons_succ]
    refine wpAnyH_take (i := 5) (oi := ?poi5) (v := ?pv5) ?phi5 (by kernel_rfl) (by kernel_rfl) (by kernel_rfl) ?phQ5 ?phy5 (by assumption) ?prest5
    case phi5 => (simp only [List.getElem?_toArray, List.getElem?_cons_succ, List.getElem?_cons_zero]; rfl)
    case phQ5 => exact fun _ _ _ h => h
    case phy5 => first | (refine Or.inr ⟨by rfl, ?_⟩; rfl) | (refine Or.inl ⟨by rfl, ?_⟩; intro w hSw; (try dsimp only at hSw); go_simp; (try with_reducible rfl))
    try simp only [Act.put, List.setIfInBounds_toArray, List.set_cons_zero, List.set_cons_succ]
    refine wpAnyH_take (i := 6) (oi := ?poi6) (v := ?pv6) ?phi6 (by kernel_rfl) (by kernel_rfl) (by kernel_rfl) ?phQ6 ?phy6 (by assumption) ?prest6
    case phi6 => (simp only [List.getElem?_toArray, List.getElem?_cons_succ, List.getElem?_cons_zero]; rfl)
    case phQ6 => exact fun _ _ _ h => h
    case phy6 => first | (refine Or.inr ⟨by rfl, ?_⟩; rfl) | (refine Or.inl ⟨by rfl, ?_⟩; intro w hSw; (try dsimp only at hSw); go_simp; (try with_reducible rfl))
    try simp only [Act.put, List.setIfInBounds_toArray, List.set_cons_zero, List.set_cons_succ]
    refine wpAnyH_take (i := 7) (oi := ?poi7) (v := ?pv7) ?phi7 (by kernel_rfl) (by kernel_rfl) (by kernel_rfl) ?phQ7 ?phy7 (by assumption) ?prest7
    case phi7 => (simp only [List.getElem?_toArray, List.getElem?_cons_succ, List.getElem?_cons_zero]; rfl)
    case phQ7 => exact fun _ _ _ h => h
    case phy7 => first | (refine Or.inr ⟨by rfl, ?_⟩; rfl) | (refine Or.inl ⟨by rfl, ?_⟩; intro w hSw; (try dsimp only at hSw); go_simp; (try with_reducible rfl))
    try simp only [Act.put, List.setIfInBounds_toArray, List.set_cons_zero, List.set_cons_succ]
    refine wpAnyH_take (i := 8) (oi := ?poi8) (v := ?pv8) ?phi8 (by kernel_rfl) (by kernel_rfl) (by kernel_rfl) ?phQ8 ?phy8 (by assumption) ?prest8
    case phi8 => (simp only [List.getElem?_toArray, List.getElem?_cons_succ, List.getElem?_cons_zero]; rfl)
    case phQ8 => exact fun _ _ _ h => h
    case phy8 => first | (refine Or.inr ⟨by rfl, ?_⟩; rfl) | (refine Or.inl ⟨by rfl, ?_⟩; intro w hSw; (try dsimp only at hSw); go_simp; (try with_reducible rfl))
    try simp only [Act.put, List.setIfInBounds_toArray, List.set_cons_zero, List.set_cons_succ]
    refine wpAnyH_ready (rs := [4]) (by kernel_rfl) (by simp) (AllReadyH.cons rfl (fun K hK => ?_) AllReadyH.nil)
    go_simp
    refine (new_any seed f fl cf (fun _ => True) [] _ (by simp) (HR.out.kept K2.out.drew (fun _ _ _ h => h)) HU.out (by omega)).mono ?_
    rintro e w3 ⟨tb, rfl, htb, ht, hk3⟩
    have hS3 := keep2 hk3 hSr
    try go_wp2_with fail
    refine hK.out _ _ (by exact hS3) (fun hHeld => ?_)
    clear hK K
    try simp only [Act.put, List.setIfInBounds_toArray, List.set_cons_zero, List.set_cons_succ]
    refine wpAnyH_ready (rs := [9]) (by kernel_rfl) (by simp) (AllReadyH.cons rfl (fun K hK => ?_) AllReadyH.nil)
    go_simp
    refine (tnew_any seed f fl cf (fun _ => True) [tb] _ (by simpa using ht.lt) (HR.out.kept (K2.out.drew.trans hk3) (fun _ _ _ h => h)) HU.out (by omega)).mono ?_
    rintro e w4 ⟨ub, rfl, hub, hu, hk4⟩
    have hS4 := keep2 hk4 hS3
    try go_wp2_with fail
    refine hK.out _ _ (by exact hS4) (fun hHeld => ?_)
    clear hK K
    try simp only [Act.put, List.setIfInBounds_toArray, List.set_cons_zero, List.set_cons_succ]
    refine wpAnyH_take (i := 10) (oi := ?qoi10) (v := ?qv10) ?qhi10 (by kernel_rfl) (by kernel_rfl) (by kernel_rfl) ?qhQ10 ?qhy10 (by assumption) ?qrest10
    case qhi10 => (simp only [List.getElem?_toArray, List.getElem?_cons_succ, List.getElem?_cons_zero]; rfl)
    case qhQ10 => exact fun _ _ _ h => h
    case qhy10 => first | (refine Or.inr ⟨by rfl, ?_⟩; rfl) | (refine Or.inl ⟨by rfl, ?_⟩; intro w hSw; (try dsimp only at hSw); go_simp; (try with_reducible rfl))
    try simp only [Act.put, List.setIfInBounds_toArray, List.set_cons_zero, List.set_cons_succ]
    refine wpAnyH_take (i := 11) (oi := ?qoi11) (v := ?qv11) ?qhi11 (by kernel_rfl) (by kernel_rfl) (by kernel_rfl) ?qhQ11 ?qhy11 (by assumption) ?qrest11
    case qhi11 => (simp only [List.getElem?_toArray, List.getElem?_cons_succ, List.getElem?_cons_zero]; rfl)
    case qhQ11 => exact fun _ _ _ h => h
    case qhy11 => first | (refine Or.inr ⟨by rfl, ?_⟩; rfl) | (refine Or.inl ⟨by rfl, ?_⟩; intro w hSw; (try dsimp only at hSw); go_simp; (try with_reducible rfl))
    try simp only [Act.put, List.setIfInBounds_toArray, List.set_cons_zero, List.set_cons_succ]
    refine wpAnyH_done (by kernel_rfl) ?_ _
    have HBO := Lib.hid (both_a (w := w2) htb ht hk3.of_drew hub hu hk4)
    clear htb ht hk3 hub hu hk4 hS3 hS4 hSr hHeld
    have hz12 := HO.out.kp.size
    have hbl := HO.out.bk.ltb
    have hgl := HO.out.bk.ltg
    have hrbl : rb < w2.heap.size := HRO.out.1.elim fun _ h => h.ltb
    have hrgl : rg < w2.heap.size := HRO.out.1.elim fun _ h => h.ltg
    have htb := HBO.out.htb
    have hub := HBO.out.hub
    have hne := HBO.out.ne
    replace HO := Lib.hid (HO.out.look HBO.out.kp)
    replace HRO := Lib.hid (HRO.out.look HBO.out.kp)
    have HTB := Lib.hid (show TOwn w1 w4 tb ⟨seed, fl, 0⟩ [ub, tb] from ⟨HBO.out.tp, by intro k hk; have h1 := HBO.out.tl; have h2 := HBO.out.ul; simp at hk; omega, HO.out.kp, by omega⟩)
    have HRT := Lib.hid HBO.out.rt
    clear HBO K2 HR HU hr HA
    go_wp2_with fail
    go_loopw [7, 8, 9] (fun v7 _ _ wr => ∃ (k : Nat) (T : TapeS) (L1 L2 : List Nat), k ≤ 3 ∧ v7 = .int .i64 k ∧ T.used ≤ 9 * k ∧ TOwn w1 wr tb T L1 ∧ RTape wr ub T L2 ∧ ub ∈ L1 ∧ tb ∈ L2 ∧ Own w1 wr b g S ∧ ROwn w1 wr rb rg S ∧ w2.heap.size ≤ wr.heap.size) (fun v7 _ _ _ => 3 - (intOf v7).toNat)
    case atStart => exact ⟨0, ⟨seed, fl, 0⟩, [ub, tb], [ub, tb], by omega, rfl, by simp, HTB.out, HRT.out, by simp, by simp, HO.out, HRO.out, by have := HRT.out.lt; omega⟩
    case round =>
      obtain ⟨k, T, L1, L2, hk, rfl, hTu, htt, hrt, hu1, ht2, ho, hro, hzr⟩ := hrel
      clear HTB HRT HO HRO
      have HT := Lib.hid htt
      have HU := Lib.hid hrt
      have HO := Lib.hid ho
      have HRO := Lib.hid hro
      have htl := htt.tp.lt
      have hul := hrt.lt
      clear htt hrt ho hro
      by_cases hk3 : k < 3
      · have i0 : decide ((k : Int) < 3) = true := by simp; omega
        obtain ⟨l1, hl1⟩ : ∃ l1, orderL S T = l1 := ⟨_, rfl⟩
        have HL1 := Lib.hid hl1
        have hll : l1.length ≤ 9 := by rw [← hl1, order_len]; exact hm9
        obtain ⟨T2, hT2⟩ : ∃ T2, (shuffleL (mayL S.l).length T).2 = T2 := ⟨_, rfl⟩
        have hT2u : T2.used ≤ 9 * (k + 1) := by rw [← hT2, (shuffleL_law _ _).2.2.2, TapeS.after'_used]; omega
        have HT2 := Lib.hid hT2
        clear hl1 hT2
        go_wp2_with fail
        refine (order_any2 b g tb S T L1 wr HO.out.bk HO.out.ok HT.out.tp HT.out.lt (by omega) (by omega) (by omega)).mono ?_
        rintro e w5 ⟨ao, cap, rfl, hown, ⟨L1', ht5, -, hL1, hL1', hrow⟩, hk5⟩
        rw [HT2.out] at ht5
        rw [HL1.out] at hown
        rw [HL1.out]
        obtain ⟨n, hn⟩ : ∃ n, l1.length = n := ⟨_, rfl⟩
        rw [hn] at hll hown
        rw [hn]
        have HN := Lib.hid hn
        obtain ⟨gs, hgs, hinr⟩ := inRowI_of hown
        have HGS := Lib.hid (show ∀ x ∈ gs, wr.heap.size ≤ x ∧ x < w5.heap.size ∧ x ∈ L1' from fun x hx => by
          obtain ⟨h1, h2, o, h3⟩ := hgs x hx
          exact ⟨h1, h2, hrow x o h3⟩)
        have HT5 := Lib.hid (show TOwn w1 w5 tb T2 L1' from ⟨ht5, hL1', HO.out.kp.new hk5 HT.out.lo, HT.out.lo⟩)
        have hub1 : ub ∈ L1' := hL1 ub hu1
        have HU5 := Lib.hid ((HU.out.more (gs ++ L2) (fun x hx => by
          rcases List.mem_append.1 hx with h | h
          · exact .inr (hgs x h).1
          · exact .inl h) (by obtain ⟨_, _, _, _, _, h3, _⟩ := HU.out; exact List.mem_append_right _ h3)).kept hk5 (fun e => hne e.symm) (fun x _ e => by subst e; exact List.mem_append_right _ ht2))
        have HO5 := Lib.hid (HO.out.aside hk5 (by omega) (by omega) (by have := HT.out.lo; omega))
        have HRO5 := Lib.hid (HRO.out.aside hk5 (by omega) (by omega))
        have HROW := Lib.hid hown
        have HINR := Lib.hid hinr
        have hz5 := hk5.size
        clear hn hgs hinr hown ht5 hL1 hL1' hrow hk5 HT HU HO HRO
        go_wp2_with fail
        refine wp_region_any (by kernel_rfl) ?_
        change wpAny _ _ _ _ _ _ _ (World.drew _)
        refine wpAny_take (i := 0) (oi := ?xoi0) (v := ?xv0) ?xhi0 (by kernel_rfl) (by kernel_rfl) (by kernel_rfl) ?xhQ0 ?xhy0 ?xrest0
        case xhi0 => (simp only [List.getElem?_toArray, List.getElem?_cons_zero]; rfl)
        case xhQ0 => exact fun _ _ _ h => h
        case xhy0 => first | (refine Or.inr ⟨by rfl, ?_⟩; rfl) | (refine Or.inl ⟨by rfl, ?_⟩; intro w; go_simp; (try with_reducible rfl))
        try simp only [Act.put, List.setIfInBounds_toArray, List.set_cons_zero, List.set_cons_succ]
        refine wpAny_take (i := 1) (oi := ?xoi1) (v := ?xv1) ?xhi1 (by kernel_rfl) (by kernel_rfl) (by kernel_rfl) ?xhQ1 ?xhy1 ?xrest1
        case xhi1 => (simp only [List.getElem?_toArray, List.getElem?_cons_succ, List.getElem?_cons_zero]; rfl)
        case xhQ1 => exact fun _ _ _ h => h
        case xhy1 => first | (refine Or.inr ⟨by rfl, ?_⟩; rfl) | (refine Or.inl ⟨by rfl, ?_⟩; intro w; go_simp; (try with_reducible rfl))
        try simp only [Act.put, List.setIfInBounds_toArray, List.set_cons_zero, List.set_cons_succ]
        refine wpAny_take (i := 2) (oi := ?xoi2) (v := ?xv2) ?xhi2 (by kernel_rfl) (by kernel_rfl) (by kernel_rfl) ?xhQ2 ?xhy2 ?xrest2
        case xhi2 => (simp only [List.getElem?_toArray, List.getElem?_cons_succ, List.getElem?_cons_zero]; rfl)
        case xhQ2 => exact fun _ _ _ h => h
        case xhy2 => first | (refine Or.inr ⟨by rfl, ?_⟩; rfl) | (refine Or.inl ⟨by rfl, ?_⟩; intro w; go_simp; (try with_reducible rfl))
        try simp only [Act.put, List.setIfInBounds_toArray, List.set_cons_zero, List.set_cons_succ]
        refine wpAny_ready (rs := [3]) (by kernel_rfl) (by simp) ?_
        refine AllReady.cons (o := ?xo3) ?xio3 (fun K hK => ?_) AllReady.nil
        case xio3 => (simp only [List.getElem?_toArray, List.getElem?_cons_succ, List.getElem?_cons_zero]; rfl)
        go_simp
        obtain ⟨cR, hbR⟩ := HRO5.out.1
        refine (rorder_any rb rg ub { S with cap := cR } T (gs ++ L2) _ (Lib.hid (hbR.look (Kept.refl (M := fun _ => False) w5).drew)) HO5.out.ok (Lib.hid (HU5.out.kept (Kept.refl (M := fun _ => False) w5).drew id (fun _ _ h => h.elim))) (by omega) (by omega) (by omega)).mono ?_
        rintro e w6 ⟨a2, cap2, rfl, hown2, ⟨L2', hu6, -, hL2⟩, hk6⟩
        replace hown2 : OwnsI w6 w5.heap.size (.slice a2 (orderL S T).length cap2) (orderL S T) := hown2
        replace hu6 : RTape w6 ub (shuffleL (mayL S.l).length T).2 L2' := hu6
        replace hk6 := hk6.of_drew
        rw [HT2.out] at hu6
        rw [HL1.out, HN.out] at hown2
        have hlen2 : (orderL { S with cap := cR } T).length = n := by
          have : orderL { S with cap := cR } T = orderL S T := rfl
          rw [this, HL1.out, HN.out]
        rw [hlen2]
        have HT6 := Lib.hid (HT5.out.aside hk6 hne (by rintro x rfl; exact hub1) (by intro x hx e; omega))
        have HO6 := Lib.hid (HO5.out.aside hk6 (by omega) (by omega) (by omega))
        have HRO6 := Lib.hid (HRO5.out.aside hk6 (by omega) (by omega))
        have HROW6 := Lib.hid (HROW.out.keep hk6 (by intro x hx e; omega))
        have HINR6 := Lib.hid (HINR.out.keep hk6 (by intro x hx e; have := (HGS.out x hx).1; omega))
        have HU6 := Lib.hid hu6
        have HR2 := Lib.hid hown2
        have htb2 : tb ∈ L2' := hL2 tb (List.mem_append_right _ ht2)
        have HGS2 := Lib.hid (show ∀ x ∈ gs, x ∈ L2' from fun x hx => hL2 x (List.mem_append_left _ hx))
        have hz6 := hk6.size
        clear hown2 hu6 hk6 hL2 hbR hlen2 HT5 HO5 HRO5 HROW HINR HU5
        refine hK _ _ ?_
        clear hK K
        try simp only [Act.put, List.setIfInBounds_toArray, List.set_cons_zero, List.set_cons_succ]
        refine wpAny_ready (rs := [4]) (by kernel_rfl) (by simp) ?_
        refine AllReady.cons (o := ?xo4) ?xio4 (fun K hK => ?_) AllReady.nil
        case xio4 => (simp only [List.getElem?_toArray, List.getElem?_cons_succ, List.getElem?_cons_zero]; rfl)
        go_simp
        refine (ints_len20t ao a2 l1 l1 n n cap cap2 HN.out HN.out _ HROW6.out.all HR2.out.all (by omega) (by omega)).mono ?_
        rintro e w7 ⟨rfl, hk7⟩
        have d1 : decide (l1 = l1) = true := by simp
        rw [d1]
        have HT7 := Lib.hid (HT6.out.look hk7)
        have HO7 := Lib.hid (HO6.out.look hk7)
        have HRO7 := Lib.hid (HRO6.out.look hk7)
        have HINR7 := Lib.hid (HINR6.out.keep hk7 (fun _ _ => id))
        have HU7 := Lib.hid (HU6.out.kept hk7 id (fun _ _ h => h.elim))
        have hz7 := hk7.size
        clear hk7 d1 HT6 HO6 HRO6 HINR6 HU6 HROW6 HR2
        refine hK _ _ ?_
        clear hK K
        try simp only [Act.put, List.setIfInBounds_toArray, List.set_cons_zero, List.set_cons_succ]
        refine wpAny_take (i := 5) (oi := ?xoi5) (v := ?xv5) ?xhi5 (by kernel_rfl) (by kernel_rfl) (by kernel_rfl) ?xhQ5 ?xhy5 ?xrest5
        case xhi5 => (simp only [List.getElem?_toArray, List.getElem?_cons_succ, List.getElem?_cons_zero]; rfl)
        case xhQ5 => exact fun _ _ _ h => h
        case xhy5 => first | (refine Or.inr ⟨by rfl, ?_⟩; rfl) | (refine Or.inl ⟨by rfl, ?_⟩; intro w; go_simp; (try with_reducible rfl))
        try simp only [Act.put, List.setIfInBounds_toArray, List.set_cons_zero, List.set_cons_succ]
        refine wpAny_take (i := 6) (oi := ?xoi6) (v := ?xv6) ?xhi6 (by kernel_rfl) (by kernel_rfl) (by kernel_rfl) ?xhQ6 ?xhy6 ?xrest6
        case xhi6 => (simp only [List.getElem?_toArray, List.getElem?_cons_succ, List.getElem?_cons_zero]; rfl)
        case xhQ6 => exact fun _ _ _ h => h
        case xhy6 => first | (refine Or.inr ⟨by rfl, ?_⟩; rfl) | (refine Or.inl ⟨by rfl, ?_⟩; intro w; go_simp; (try with_reducible rfl))
        try simp only [Act.put, List.setIfInBounds_toArray, List.set_cons_zero, List.set_cons_succ]
        refine wpAny_take (i := 7) (oi := ?xoi7) (v := ?xv7) ?xhi7 (by kernel_rfl) (by kernel_rfl) (by kernel_rfl) ?xhQ7 ?xhy7 ?xrest7
        case xhi7 => (simp only [List.getElem?_toArray, List.getElem?_cons_succ, List.getElem?_cons_zero]; rfl)
        case xhQ7 => exact fun _ _ _ h => h
        case xhy7 => first | (refine Or.inr ⟨by rfl, ?_⟩; rfl) | (refine Or.inl ⟨by rfl, ?_⟩; intro w; go_simp; (try with_reducible rfl))
        try simp only [Act.put, List.setIfInBounds_toArray, List.set_cons_zero, List.set_cons_succ]
        refine wpAny_take (i := 9) (oi := ?xoi9) (v := ?xv9) ?xhi9 (by kernel_rfl) (by kernel_rfl) (by kernel_rfl) ?xhQ9 ?xhy9 ?xrest9
        case xhi9 => (simp only [List.getElem?_toArray, List.getElem?_cons_succ, List.getElem?_cons_zero]; rfl)
        case xhQ9 => exact fun _ _ _ h => h
        case xhy9 => first | (refine Or.inr ⟨by rfl, ?_⟩; rfl) | (refine Or.inl ⟨by rfl, ?_⟩; intro w; go_simp; (try with_reducible rfl))
        try simp only [Act.put, List.setIfInBounds_toArray, List.set_cons_zero, List.set_cons_succ]
        refine wpAny_take (i := 10) (oi := ?xoi10) (v := ?xv10) ?xhi10 (by kernel_rfl) (by kernel_rfl) (by kernel_rfl) ?xhQ10 ?xhy10 ?xrest10
        case xhi10 => (simp only [List.getElem?_toArray, List.getElem?_cons_succ, List.getElem?_cons_zero]; rfl)
        case xhQ10 => exact fun _ _ _ h => h
        case xhy10 => first | (refine Or.inr ⟨by rfl, ?_⟩; rfl) | (refine Or.inl ⟨by rfl, ?_⟩; intro w; go_simp; (try with_reducible rfl))
        try simp only [Act.put, List.setIfInBounds_toArray, List.set_cons_zero, List.set_cons_succ]
        refine wpAny_take (i := 11) (oi := ?xoi11) (v := ?xv11) ?xhi11 (by kernel_rfl) (by kernel_rfl) (by kernel_rfl) ?xhQ11 ?xhy11 ?xrest11
        case xhi11 => (simp only [List.getElem?_toArray, List.getElem?_cons_succ, List.getElem?_cons_zero]; rfl)
        case xhQ11 => exact fun _ _ _ h => h
        case xhy11 => first | (refine Or.inr ⟨by rfl, ?_⟩; rfl) | (refine Or.inl ⟨by rfl, ?_⟩; intro w; go_simp; (try with_reducible rfl))
        try simp only [Act.put, List.setIfInBounds_toArray, List.set_cons_zero, List.set_cons_succ]
        have cN : w7.cell? ⟨ub, 2, none⟩ = some (.int .i64 T2.used) := by
          obtain ⟨fs, af, cf', h1, _⟩ := HU7.out
          rw [cell_blk h1]; rfl
        have HUS := Lib.hid (town_used HT7 T2.used rfl)
        obtain ⟨N, hN⟩ : ∃ N : Int, (T2.used : Int) = N := ⟨_, rfl⟩
        rw [hN] at cN HUS
        have j0 : (N != N) = false := by simp
        clear hN
        apply tail_rule1 (fun w' => w' = w7)
        case h1 =>
          intro tail
          refine wpAny_ready (rs := [8, 12]) (by kernel_rfl) (by simp) ?_
          refine AllReady.cons (o := ?yo8) ?yio8 (fun K hK => ?_) (AllReady.cons (o := ?yo12) ?yio12 (fun K2 hK2 => ?_) AllReady.nil)
          case yio8 => (simp only [List.getElem?_toArray, List.getElem?_cons_succ, List.getElem?_cons_zero]; rfl)
          case yio12 => (simp only [List.getElem?_toArray, List.getElem?_cons_succ, List.getElem?_cons_zero]; rfl)
          · go_simp
            refine HUS.out.mono ?_
            rintro e w8 ⟨rfl, rfl⟩
            refine hK _ _ ?_
            clear hK K
            try simp only [Act.put, List.setIfInBounds_toArray, List.set_cons_zero, List.set_cons_succ]
            refine wpAny_ready (rs := [12]) (by kernel_rfl) (by simp) ?_
            refine AllReady.cons (o := ?zo12) ?zio12 (fun K hK => ?_) AllReady.nil
            case zio12 => (simp only [List.getElem?_toArray, List.getElem?_cons_succ, List.getElem?_cons_zero]; rfl)
            go_simp
            refine hK _ _ ?_
            clear hK K
            try simp only [Act.put, List.setIfInBounds_toArray, List.set_cons_zero, List.set_cons_succ]
            refine wpAny_take (i := 13) (oi := ?yoi13) (v := ?yv13) ?yhi13 (by kernel_rfl) (by kernel_rfl) (by kernel_rfl) ?yhQ13 ?yhy13 ?yrest13
            case yhi13 => (simp only [List.getElem?_toArray, List.getElem?_cons_succ, List.getElem?_cons_zero]; rfl)
            case yhQ13 => exact fun _ _ _ h => h
            case yhy13 => first | (refine Or.inr ⟨by rfl, ?_⟩; rfl) | (refine Or.inl ⟨by rfl, ?_⟩; intro w; go_simp; (try with_reducible rfl))
            try simp only [Act.put, List.setIfInBounds_toArray, List.set_cons_zero, List.set_cons_succ]
            refine wpAny_take (i := 14) (oi := ?yoi14) (v := ?yv14) ?yhi14 (by kernel_rfl) (by kernel_rfl) (by kernel_rfl) ?yhQ14 ?yhy14 ?yrest14
            case yhi14 => (simp only [List.getElem?_toArray, List.getElem?_cons_succ, List.getElem?_cons_zero]; rfl)
            case yhQ14 => exact fun _ _ _ h => h
            case yhy14 => first | (refine Or.inr ⟨by rfl, ?_⟩; rfl) | (refine Or.inl ⟨by rfl, ?_⟩; intro w; go_simp; (try with_reducible rfl))
            try simp only [Act.put, List.setIfInBounds_toArray, List.set_cons_zero, List.set_cons_succ]
            refine wpAny_done (by kernel_rfl) ?_ _
            exact tail _ rfl
          · go_simp
            refine hK2 _ _ ?_
            clear hK2 K2
            try simp only [Act.put, List.setIfInBounds_toArray, List.set_cons_zero, List.set_cons_succ]
            refine wpAny_ready (rs := [8]) (by kernel_rfl) (by simp) ?_
            refine AllReady.cons (o := ?uo8) ?uio8 (fun K hK => ?_) AllReady.nil
            case uio8 => (simp only [List.getElem?_toArray, List.getElem?_cons_succ, List.getElem?_cons_zero]; rfl)
            go_simp
            refine HUS.out.mono ?_
            rintro e w8 ⟨rfl, rfl⟩
            refine hK _ _ ?_
            clear hK K
            try simp only [Act.put, List.setIfInBounds_toArray, List.set_cons_zero, List.set_cons_succ]
            refine wpAny_take (i := 13) (oi := ?zoi13) (v := ?zv13) ?zhi13 (by kernel_rfl) (by kernel_rfl) (by kernel_rfl) ?zhQ13 ?zhy13 ?zrest13
            case zhi13 => (simp only [List.getElem?_toArray, List.getElem?_cons_succ, List.getElem?_cons_zero]; rfl)
            case zhQ13 => exact fun _ _ _ h => h
            case zhy13 => first | (refine Or.inr ⟨by rfl, ?_⟩; rfl) | (refine Or.inl ⟨by rfl, ?_⟩; intro w; go_simp; (try with_reducible rfl))
            try simp only [Act.put, List.setIfInBounds_toArray, List.set_cons_zero, List.set_cons_succ]
            refine wpAny_take (i := 14) (oi := ?zoi14) (v := ?zv14) ?zhi14 (by kernel_rfl) (by kernel_rfl) (by kernel_rfl) ?zhQ14 ?zhy14 ?zrest14
            case zhi14 => (simp only [List.getElem?_toArray, List.getElem?_cons_succ, List.getElem?_cons_zero]; rfl)
            case zhQ14 => exact fun _ _ _ h => h
            case zhy14 => first | (refine Or.inr ⟨by rfl, ?_⟩; rfl) | (refine Or.inl ⟨by rfl, ?_⟩; intro w; go_simp; (try with_reducible rfl))
            try simp only [Act.put, List.setIfInBounds_toArray, List.set_cons_zero, List.set_cons_succ]
            refine wpAny_done (by kernel_rfl) ?_ _
            exact tail _ rfl
        case h2 =>
          intro w' hw'
          replace hw' : w' = w7 := hw'
          subst hw'
          clear HUS j0 cN
          go_wp2_with fail
          obtain ⟨w7, hw7⟩ : ∃ w7, w' = w7 := ⟨_, rfl⟩
          rw [hw7] at HT7 HO7 HRO7 HINR7 HU7 hz7 ⊢
          clear hw7
          go_loopw [9] (fun c wx => ∃ i : Nat, i ≤ n ∧ c = .int .i64 i ∧ InRowI wx ao n gs ∧ Kept (· ∈ gs) w7 wx) (fun c _ => n - (intOf c).toNat)
          case atStart => exact ⟨0, by omega, rfl, HINR7.out, Kept.refl _⟩
          case round =>
            obtain ⟨i, hi, rfl, hin, hkx⟩ := hrel
            have HIN := Lib.hid hin
            have KX := Lib.hid hkx
            clear hin hkx
            by_cases hlt : i < n
            · obtain ⟨x, c, rfl, hxg, hxh, hxn⟩ : ∃ g c, ao = some ⟨g, 0, none⟩ ∧ g ∈ gs ∧ wr.heap[g]? = some (.cells c 3 (0, 0)) ∧ n ≤ c.size := by
                rcases HIN.out with h | h
                · omega
                · exact h
              have hic : i < c.size := by omega
              have q0 : wr.cell? ⟨x, i, none⟩ = some c[i] := by rw [cell_blk hxh]; simp [hic]
              have q1 := free_blk hxh i
              have HXH := Lib.hid hxh
              clear hxh
              go_wp2_with fail
              go_roundw
              case measure => simp [intOf]; omega
              case rel => exact ⟨i + 1, by omega, by go_num, .inr ⟨x, _, rfl, hxg, set_blk HXH.out i _, by simpa using hxn⟩, KX.out.setAt x i _ (fun _ => hxg)⟩
            · obtain rfl : n = i := by omega
              have hg0 := HGS.out
              have hT8 := HT7.out.aside KX.out (fun h => by have := (hg0 tb h).1; omega) (fun x hx => (hg0 x hx).2.2) (fun x hx h => by have := (hg0 x h).1; omega)
              have hU8 := HU7.out.kept KX.out (fun h => by have := (hg0 ub h).1; omega) (fun x _ hx => HGS2.out x hx)
              have hbg : ¬ b ∈ gs ∧ ¬ g ∈ gs ∧ ¬ rb ∈ gs ∧ ¬ rg ∈ gs := ⟨fun h => by have := (hg0 b h).1; omega, fun h => by have := (hg0 g h).1; omega, fun h => by have := (hg0 rb h).1; omega, fun h => by have := (hg0 rg h).1; omega⟩
              have hO8 : Own w1 wr b g S := ⟨HO7.out.bk.kept KX.out hbg.1 hbg.2.1, HO7.out.ok, hT8.kp, HO7.out.hb, HO7.out.hg⟩
              have hR8 : ROwn w1 wr rb rg S := ⟨HRO7.out.1.imp fun _ h => h.kept KX.out hbg.2.2.1 hbg.2.2.2, HRO7.out.2⟩
              have hzx := KX.out.size
              have HT8 := Lib.hid hT8
              have HU8 := Lib.hid hU8
              have HO8 := Lib.hid hO8
              have HRO8 := Lib.hid hR8
              clear hT8 hU8 hO8 hR8 hbg hg0 HT7 HU7 HO7 HRO7 HINR7 HIN KX hlt hi
              go_wp2_with fail
              go_roundw
              case measure => simp [intOf]; omega
              case rel => exact ⟨k + 1, T2, L1', L2', by omega, by go_num, hT2u, HT8.out, HU8.out, hub1, htb2, HO8.out, HRO8.out, by omega⟩
      · obtain rfl : k = 3 := by omega
        have i0 : decide ((3 : Int) < 3) = false := by decide
        have HF := Lib.hid HO.out.kp
        clear HT HU HO HRO
        go_wp2_with fail
        refine (awake20_any _).mono ?_
        rintro e w9 ⟨rfl, hk9⟩
        go_wp2_with fail
        go_ret
        exact ⟨rfl, (K0.out.trans HF.out).trans hk9⟩
  · refine (long20_any ups limit rest seed a f _ ca _ cf true hr _).mono ?_
    rintro e w1 ⟨rfl, hk1⟩
    go_wp2_with fail
    refine (awake20_any _).mono ?_
    rintro e w2 ⟨rfl, hk2⟩
    go_wp2_with fail
    go_ret
    exact ⟨rfl, (K0.out.trans hk1).trans hk2⟩
end Go.Proofs.Ytnpmimjhpnhdkaa
