/- Order's row, plain: those alike stand as the shuffle left them; where no two are alike it does not hang on the draws. -/
import Derived.Test.YtnpmimjhpnhdkaaOrdPlain
namespace Go.Proofs.Ytnpmimjhpnhdkaa
open Go.RowKit

/-- Of a row without a double no two stand both ways. -/
theorem two_ways {l : List Int} {u v : Int} (hnd : l.Nodup) (h1 : List.Sublist [u, v] l) (h2 : List.Sublist [v, u] l) : False := by
  induction l with
  | nil => simp at h1
  | cons a r ih =>
    have hn := List.nodup_cons.1 hnd
    by_cases ha : a = u
    · subst ha
      rcases List.sublist_cons_iff.1 h2 with h | ⟨q, hq, h⟩
      · have : a ∈ r := h.subset (by simp)
        exact hn.1 this
      · simp at hq
        obtain ⟨rfl, rfl⟩ := hq
        exact hn.1 (h.subset (by simp))
    · rcases List.sublist_cons_iff.1 h1 with h | ⟨q, hq, h⟩
      · rcases List.sublist_cons_iff.1 h2 with h' | ⟨q', hq', h'⟩
        · exact ih hn.2 h h'
        · simp at hq'
          obtain ⟨rfl, rfl⟩ := hq'
          exact hn.1 (h.subset (by simp))
      · simp at hq
        exact ha hq.1.symm
theorem perm_short {α : Type} : ∀ {a b : List α}, a.Perm b → a.length ≤ 1 → a = b
  | [], b, h, _ => (List.perm_nil.1 h.symm).symm
  | [x], b, h, _ => (List.perm_singleton.1 h.symm).symm
  | _ :: _ :: _, _, _, h => by simp at h
theorem filter_le_one {α : Type} {p : α → Bool} : ∀ {l : List α}, (∀ (i k : Nat), i < k → ∀ a b, l[i]? = some a → l[k]? = some b → p a = true → p b = true → False) → (l.filter p).length ≤ 1
  | [], _ => by simp
  | a :: r, h => by
    by_cases ha : p a = true
    · have : r.filter p = [] := by
        rw [List.filter_eq_nil_iff]
        intro b hb hpb
        obtain ⟨k, hk, e⟩ := List.getElem_of_mem hb
        exact h 0 (k + 1) (by omega) a b (by simp) (by simp [hk, e]) ha hpb
      simp [List.filter_cons, ha, this]
    · have := filter_le_one (p := p) (l := r) (fun i k hik x y hx hy => h (i + 1) (k + 1) (by omega) x y (by simpa using hx) (by simpa using hy))
      simpa [List.filter_cons, ha] using this
theorem swapL_perm (l : List Int) (i k : Nat) (hi : i < l.length) (hk : k < l.length) : (swapL l i k).Perm l := by
  unfold swapL
  rw [List.getD_eq_getElem?_getD, List.getD_eq_getElem?_getD, List.getElem?_eq_getElem hi, List.getElem?_eq_getElem hk, Option.getD_some, Option.getD_some]
  exact List.set_set_perm hi hk
theorem shufGo_perm (i : Nat) : ∀ (l : List Int) (s : TapeS), i < l.length ∨ i = 0 → (shufGo i l s).1.Perm l := by
  induction i with
  | zero => intro l s _; exact List.Perm.refl _
  | succ i ih =>
    intro l s h
    have hl : i + 1 < l.length := by omega
    rw [shufGo_succ]
    have hq : (s.draw % ((i : Int) + 2)).toNat < l.length := by
      have h1 := Int.emod_lt_of_pos s.draw (show (0 : Int) < (i : Int) + 2 by omega)
      have h2 := Int.emod_nonneg s.draw (show (i : Int) + 2 ≠ 0 by omega)
      omega
    exact (ih _ _ (by rw [swapL_length]; omega)).trans (swapL_perm l _ _ hl hq)
theorem shuffle_perm (n : Nat) (s : TapeS) : (shuffleL n s).1.Perm (uptoL n) := shufGo_perm _ _ _ (by rw [uptoL_length]; omega)
theorem upto_map (m : List Int) : (uptoL m.length).map (fun i => m.getD i.toNat 0) = m := by
  apply List.ext_getElem
  · simp [uptoL_length]
  · intro i h1 h2
    simp [uptoL, h2]
/-- The candidates in the shuffled row. -/
def usL (S : BookS) (t : TapeS) : List Int := (shuffleL (mayL S.l).length t).1.map (fun i => (mayL S.l).getD i.toNat 0)
theorem us_perm (S : BookS) (t : TapeS) : (usL S t).Perm (mayL S.l) := by
  have h := (shuffle_perm (mayL S.l).length t).map (fun i => (mayL S.l).getD i.toNat 0)
  rwa [upto_map] at h
theorem cand_row (S : BookS) (t : TapeS) : candL S (mayL S.l) (shuffleL (mayL S.l).length t).1 = (usL S t).map S.cand := by
  unfold candL usL
  rw [List.map_map]
  rfl
/-- Of one key: those in the order are those in the shuffled row. -/
theorem order_filter (S : BookS) (t : TapeS) (c : Int) : (orderL S t).filter (fun u => decide ((S.cand u).key = c)) = (usL S t).filter (fun u => decide ((S.cand u).key = c)) := by
  have h := sortK_filter (key := Cand.key) (candL S (mayL S.l) (shuffleL (mayL S.l).length t).1) c
  rw [← order_cands, cand_row, List.filter_map, List.filter_map] at h
  have h2 := congrArg (List.map (·.u)) h
  simpa [Function.comp_def, BookS.cand] using h2
theorem order_mem_may (S : BookS) (t : TapeS) : (orderL S t).Perm (mayL S.l) := (order_perm S t).trans (us_perm S t)
/-- Those alike stand as the shuffle left them. -/
theorem order_stable {S : BookS} {t : TapeS} {i k iu iv : Nat} {u v : Int} (hik : i < k) (hi : (usL S t)[i]? = some u) (hk : (usL S t)[k]? = some v) (hkey : (S.cand u).key = (S.cand v).key)
    (hu : (orderL S t)[iu]? = some u) (hv : (orderL S t)[iv]? = some v) : iu < iv := by
  have hsub : List.Sublist [u, v] (usL S t) := by
    obtain ⟨h1, h1'⟩ := List.getElem?_eq_some_iff.1 hi
    obtain ⟨h2, h2'⟩ := List.getElem?_eq_some_iff.1 hk
    have e1 : usL S t = (usL S t).take k ++ (usL S t).drop k := (List.take_append_drop _ _).symm
    rw [e1]
    refine List.Sublist.append (l₁ := [u]) (r₁ := [v]) ?_ ?_
    · rw [List.singleton_sublist, ← h1']
      exact List.getElem_mem (l := (usL S t).take k) (n := i) (by simp; omega) |> fun h => by simpa using h
    · rw [List.singleton_sublist, ← h2']
      have := List.getElem_mem (l := (usL S t).drop k) (n := 0) (by simp; omega)
      simpa using this
  have hf := hsub.filter (fun x => decide ((S.cand x).key = (S.cand v).key))
  rw [← order_filter] at hf
  simp only [List.filter_cons, hkey, decide_true, if_true, List.filter_nil] at hf
  have hs : List.Sublist [u, v] (orderL S t) := hf.trans List.filter_sublist
  have hnd := order_nodup S t
  obtain ⟨a1, a2⟩ := List.getElem?_eq_some_iff.1 hu
  obtain ⟨b1, b2⟩ := List.getElem?_eq_some_iff.1 hv
  rcases Nat.lt_trichotomy iu iv with h | h | h
  · exact h
  · subst h
    rw [a2] at b2
    subst b2
    have := hs.nodup hnd
    simp at this
  · exfalso
    -- v stands before u: then [v, u] and [u, v] are both within a row without a double
    have e1 : orderL S t = (orderL S t).take iu ++ (orderL S t).drop iu := (List.take_append_drop _ _).symm
    have hs2 : List.Sublist [v, u] (orderL S t) := by
      rw [e1]
      refine List.Sublist.append (l₁ := [v]) (r₁ := [u]) ?_ ?_
      · rw [List.singleton_sublist, ← b2]
        have := List.getElem_mem (l := (orderL S t).take iu) (n := iv) (by simp; omega)
        simpa using this
      · rw [List.singleton_sublist, ← a2]
        have := List.getElem_mem (l := (orderL S t).drop iu) (n := 0) (by simp; omega)
        simpa using this
    exact two_ways hnd hs hs2
/-- Where no two in the shuffled row are alike, another tape gives the same order. -/
theorem order_unlike {S : BookS} {t t2 : TapeS} (h : ∀ (i k : Nat) (u v : Int), i < k → (usL S t)[i]? = some u → (usL S t)[k]? = some v → (S.cand u).key ≠ (S.cand v).key) : orderL S t = orderL S t2 := by
  have hc : (orderL S t).map S.cand = (orderL S t2).map S.cand := by
    rw [order_cands, order_cands]
    refine sorted_unique (key := Cand.key) (sortK_sorted _) (sortK_sorted _) fun c => ?_
    rw [sortK_filter, sortK_filter, cand_row, cand_row]
    have hp : ((usL S t).map S.cand).Perm ((usL S t2).map S.cand) := ((us_perm S t).trans (us_perm S t2).symm).map _
    have hf := hp.filter (fun x => decide (x.key = c))
    have h1 : (((usL S t).map S.cand).filter (fun x => decide (x.key = c))).length ≤ 1 := by
      refine filter_le_one fun i k hik a b ha hb => ?_
      simp only [List.getElem?_map, Option.map_eq_some_iff] at ha hb
      obtain ⟨u, hu, rfl⟩ := ha
      obtain ⟨v, hv, rfl⟩ := hb
      intro e1 e2
      have := h i k u v hik hu hv
      simp only [decide_eq_true_eq] at e1 e2
      exact this (e1.trans e2.symm)
    exact perm_short hf h1
  have := congrArg (List.map (·.u)) hc
  simpa [Function.comp_def, BookS.cand] using this
/-- What stands at a place of the shuffled row. -/
theorem us_at {S : BookS} {t : TapeS} {i : Nat} (hi : i < (mayL S.l).length) : ∃ a u iu : Nat, ((shuffleL (mayL S.l).length t).1)[i]? = some (a : Int) ∧ a < (mayL S.l).length ∧ (mayL S.l)[a]? = some (u : Int) ∧ u < S.l.length ∧ (usL S t)[i]? = some (u : Int) ∧
    iu < (orderL S t).length ∧ (orderL S t)[iu]? = some (u : Int) := by
  obtain ⟨hs1, _, hs3, _⟩ := shuffleL_law (mayL S.l).length t
  have hil : i < (shuffleL (mayL S.l).length t).1.length := by omega
  have h1 := hs3 _ (List.getElem_mem hil)
  obtain ⟨a, ha⟩ := Int.eq_ofNat_of_zero_le h1.1
  have hal : a < (mayL S.l).length := by omega
  obtain ⟨u, hu, h2, -⟩ := may_at hal
  have hus : (usL S t)[i]? = some (u : Int) := by
    unfold usL
    rw [List.getElem?_map, List.getElem?_eq_getElem hil, Option.map_some, ha]
    simp [hal, h2]
  have hmem : (u : Int) ∈ orderL S t := by
    rw [(order_mem_may S t).mem_iff, ← h2]
    exact List.getElem_mem hal
  obtain ⟨iu, hiu, e⟩ := List.getElem_of_mem hmem
  exact ⟨a, u, iu, by rw [List.getElem?_eq_getElem hil, ha], hal, by rw [List.getElem?_eq_getElem hal, h2], hu, hus, hiu, by rw [List.getElem?_eq_getElem hiu, e]⟩
/-- No two alike among those ahead of i and any behind. -/
def FarTo (S : BookS) (us : List Int) (i : Nat) : Prop := ∀ (a b : Nat) (u v : Int), a < i → a < b → us[a]? = some u → us[b]? = some v → (S.cand u).key ≠ (S.cand v).key
theorem same_key {S : BookS} (hok : S.ok) (u v : Int) : (decide ((S.of u).trial = (S.of v).trial) && decide ((S.of u).score = (S.of v).score)) = decide ((S.cand u).key = (S.cand v).key) := by
  have h := key_eq (a := S.cand u) (b := S.cand v) (of_okc hok _) (of_okc hok _)
  simp only [BookS.cand] at h ⊢
  rw [← Bool.decide_and]
  exact decide_eq_decide.2 h.symm
end Go.Proofs.Ytnpmimjhpnhdkaa
