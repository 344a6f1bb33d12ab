/- What Order answers, plain: each that may be asked once, by rising keys. -/
import Derived.Test.YtnpmimjhpnhdkaaOrd4
import Derived.Test.YtnpmimjhpnhdkaaRepLawPlain
namespace Go.Proofs.Ytnpmimjhpnhdkaa
open Go.RowKit

theorem order_len (S : BookS) (t : TapeS) : (orderL S t).length = (mayL S.l).length := by
  unfold orderL
  rw [List.length_map, sortK_len]
  simp [candL, (shuffleL_law _ _).1]
theorem candL_mem {S : BookS} {m sh : List Int} {c : Cand} (h : c ∈ candL S m sh) : c = S.cand c.u := by
  obtain ⟨i, _, rfl⟩ := List.mem_map.1 h
  rfl
theorem candL_us (S : BookS) (m sh : List Int) : (candL S m sh).map (·.u) = sh.map (fun i => m.getD i.toNat 0) := by
  simp [candL, Function.comp_def, BookS.cand]
theorem order_perm (S : BookS) (t : TapeS) : (orderL S t).Perm ((shuffleL (mayL S.l).length t).1.map (fun i => (mayL S.l).getD i.toNat 0)) := by
  unfold orderL
  exact ((sortK_perm _).map _).trans (List.Perm.of_eq (candL_us _ _ _))
theorem order_mem {S : BookS} {t : TapeS} {x : Int} (hx : x ∈ orderL S t) : ∃ (u : Nat) (h : u < S.l.length), x = (u : Int) ∧ S.l[u].rests = false := by
  have h1 := (order_perm S t).mem_iff.1 hx
  obtain ⟨i, hi, rfl⟩ := List.mem_map.1 h1
  obtain ⟨_, _, hs3, _⟩ := shuffleL_law (mayL S.l).length t
  have := hs3 i hi
  have hlt : i.toNat < (mayL S.l).length := by omega
  obtain ⟨u, hu, h2, h3⟩ := may_at hlt
  refine ⟨u, hu, ?_, h3⟩
  rw [← h2]
  simp [hlt]
theorem shufMay_nodup (S : BookS) (t : TapeS) : ((shuffleL (mayL S.l).length t).1.map (fun i => (mayL S.l).getD i.toNat 0)).Nodup := by
  obtain ⟨hs1, hs2, hs3, _⟩ := shuffleL_law (mayL S.l).length t
  unfold List.Nodup
  rw [List.pairwise_iff_getElem]
  intro i j hi hj hij he
  simp only [List.getElem_map, List.length_map] at he hi hj
  have h1 := hs3 _ (List.getElem_mem hi)
  have h2 := hs3 _ (List.getElem_mem hj)
  have l1 : ((shuffleL (mayL S.l).length t).1[i]).toNat < (mayL S.l).length := by omega
  have l2 : ((shuffleL (mayL S.l).length t).1[j]).toNat < (mayL S.l).length := by omega
  rw [List.getD_eq_getElem?_getD, List.getD_eq_getElem?_getD, List.getElem?_eq_getElem l1, List.getElem?_eq_getElem l2, Option.getD_some, Option.getD_some] at he
  have hne : ((shuffleL (mayL S.l).length t).1[i]) ≠ ((shuffleL (mayL S.l).length t).1[j]) := fun e => by have := hs2 i j hi hj e; omega
  rcases Nat.lt_trichotomy ((shuffleL (mayL S.l).length t).1[i]).toNat ((shuffleL (mayL S.l).length t).1[j]).toNat with h | h | h
  · have := may_rise h l2; omega
  · exact hne (by omega)
  · have := may_rise h l1; omega
theorem order_nodup (S : BookS) (t : TapeS) : (orderL S t).Nodup := (order_perm S t).nodup_iff.2 (shufMay_nodup S t)
theorem order_apart {S : BookS} {t : TapeS} {i j : Nat} (hi : i < (orderL S t).length) (hj : j < (orderL S t).length) (he : (orderL S t)[i] = (orderL S t)[j]) : i = j := by
  have := order_nodup S t
  unfold List.Nodup at this
  rw [List.pairwise_iff_getElem] at this
  rcases Nat.lt_trichotomy i j with h | h | h
  · exact (this i j hi hj h he).elim
  · exact h
  · exact (this j i hj hi h he.symm).elim
theorem order_cands (S : BookS) (t : TapeS) : (orderL S t).map S.cand = sortK Cand.key (candL S (mayL S.l) (shuffleL (mayL S.l).length t).1) := by
  unfold orderL
  rw [List.map_map]
  conv => rhs; rw [← List.map_id (sortK Cand.key _)]
  refine List.map_congr_left fun c hc => ?_
  exact (candL_mem ((sortK_perm _).mem_iff.1 hc)).symm
theorem order_sorted (S : BookS) (t : TapeS) : (orderL S t).Pairwise (fun a b => (S.cand a).key ≤ (S.cand b).key) := by
  have h := sortK_sorted (key := Cand.key) (candL S (mayL S.l) (shuffleL (mayL S.l).length t).1)
  rw [← order_cands, List.pairwise_map] at h
  exact h
/-- Of two candidates by rising keys: neither of what the statement forbids. -/
theorem key_le {a b : Cand} (ha : a.ok) (hb : b.ok) (h : a.key ≤ b.key) : (a.trial = true → b.trial = true) ∧ (a.trial = b.trial → b.score ≤ a.score) := by
  unfold Cand.key at h
  obtain ⟨a1, a2⟩ := ha
  obtain ⟨b1, b2⟩ := hb
  constructor
  · intro ht
    rw [ht] at h
    cases hb : b.trial
    · rw [hb] at h; simp at h; omega
    · rfl
  · intro ht
    rw [ht] at h
    omega
theorem key_eq {a b : Cand} (ha : a.ok) (hb : b.ok) : a.key = b.key ↔ a.trial = b.trial ∧ a.score = b.score := by
  unfold Cand.key
  obtain ⟨a1, a2⟩ := ha
  obtain ⟨b1, b2⟩ := hb
  cases a.trial <;> cases b.trial <;> simp <;> omega
end Go.Proofs.Ytnpmimjhpnhdkaa
