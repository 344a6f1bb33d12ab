/- hustingslaw19.made. -/
import Derived.Test.YtnpmimjhpnhdkaaRep12
namespace Go.Proofs.Ytnpmimjhpnhdkaa
open Go.RowKit

theorem results_tmp4 {fn : Func} {t u v x : Tmp} (h : fn.results = #[.tmp t, .tmp u, .tmp v, .tmp x]) (tmps : Array Value) (P : Program) (w : World) :
    (results fn tmps).run P w = .ok (.tuple #[tmps.getD t undef, tmps.getD u undef, tmps.getD v undef, tmps.getD x undef]) w := by
  simp [results, h]
theorem u8_of_wf {n : Int} (h : (Lit.int .u8 n).wf = true) : 0 ≤ n ∧ n ≤ 255 := by
  simp only [Lit.wf, IntKind.min, IntKind.max, IntKind.signed, IntKind.bits, Bool.and_eq_true] at h
  simp at h
  omega
theorem i64_of_wf {n : Int} (h : (Lit.int .i64 n).wf = true) : -9223372036854775808 ≤ n ∧ n ≤ 9223372036854775807 := by
  simp only [Lit.wf, IntKind.min, IntKind.max, IntKind.signed, IntKind.bits, Bool.and_eq_true] at h
  simp at h
  omega

/-- A row of acts that came in. -/
def IsActs (w : World) (a : Option Addr) (l : List ActS) : Prop :=
  ∀ i (h : i < l.length), ∃ b o, a = some ⟨b, o, none⟩ ∧ b < w.heap.size ∧ w.cell? ⟨b, o + i * 3, none⟩ = some (.int .u8 l[i].k) ∧ w.cell? ⟨b, o + i * 3 + 1, none⟩ = some (.int .i64 l[i].u) ∧ w.cell? ⟨b, o + i * 3 + 2, none⟩ = some (.int .i64 l[i].n) ∧ (0 ≤ l[i].k ∧ l[i].k ≤ 255)
theorem IsActs.nil (w : World) : IsActs w none [] := fun i h => absurd h (by simp)
theorem IsActs.kept {w w' : World} {a : Option Addr} {l : List ActS} (h : IsActs w a l) (k : Kept (fun _ => False) w w') : IsActs w' a l := by
  intro i hi
  obtain ⟨b, o, e, hb, h0, h1, h2, h3⟩ := h i hi
  exact ⟨b, o, e, k.lt hb, k.cell h0 id, k.cell h1 id, k.cell h2 id, h3⟩
theorem acts_of {H : Type} {enc : TypeId × Value → H} {w : World} {a : Option Addr} {len cap : Nat} (h : Reads enc Try.prog w 22 [.slice a len cap]) : ∃ l : List ActS, len = l.length ∧ IsActs w a l := by
  obtain ⟨_, _, E, hE⟩ := h.slice Try.underlying22 (n := 3) (by kernel_rfl) (by decide)
  have key : ∀ i, ∃ x : ActS, i < len → ∃ b o, a = some ⟨b, o, none⟩ ∧ b < w.heap.size ∧ w.cell? ⟨b, o + i * 3, none⟩ = some (.int .u8 x.k) ∧ w.cell? ⟨b, o + i * 3 + 1, none⟩ = some (.int .i64 x.u) ∧ w.cell? ⟨b, o + i * 3 + 2, none⟩ = some (.int .i64 x.n) ∧ (0 ≤ x.k ∧ x.k ≤ 255) := by
    intro i
    by_cases hlt : i < len
    · obtain ⟨_, ⟨b, o, ha, hb, hc⟩, hr⟩ := hE i hlt
      obtain ⟨_, hf⟩ := hr.fields (ts := [5, 3, 2]) (by kernel_rfl)
      obtain ⟨v0, e0, r0⟩ := hf 0 _ rfl
      obtain ⟨v1, e1, r1⟩ := hf 1 _ rfl
      obtain ⟨v2, e2, r2⟩ := hf 2 _ rfl
      obtain ⟨n0, h0, g0⟩ := r0.int Try.underlying5
      obtain ⟨n1, h1, g1⟩ := r1.int Try.underlying3
      obtain ⟨n2, h2, g2⟩ := r2.int Try.underlying2
      simp only [List.cons.injEq, and_true] at h0 h1 h2
      subst h0 h1 h2
      exact ⟨⟨n0, n1, n2⟩, fun _ => ⟨b, o, ha, hb, by rw [← e0]; exact hc 0 (by decide), by rw [← e1]; exact hc 1 (by decide), by rw [← e2]; exact hc 2 (by decide), u8_of_wf g0⟩⟩
    · exact ⟨⟨0, 0, 0⟩, fun h => absurd h hlt⟩
  refine ⟨(List.range len).map (fun i => Classical.choose (key i)), by simp, fun i hi => ?_⟩
  have hi' : i < len := by simpa using hi
  simp only [List.getElem_map, List.getElem_range]
  exact Classical.choose_spec (key i) hi'

def BookS.acts (s : BookS) (l : List ActS) : BookS := l.foldl BookS.act s
theorem ok_acts {s : BookS} (hs : s.ok) (l : List ActS) : (s.acts l).ok := by
  induction l generalizing s with
  | nil => exact hs
  | cons a r ih => exact ih (ok_act hs a)
theorem len_acts (s : BookS) (l : List ActS) : (s.acts l).l.length = s.l.length := by
  induction l generalizing s with
  | nil => rfl
  | cons a r ih => exact (ih (s.act a)).trans (len_act s a)
theorem acts_take (s : BookS) (l : List ActS) (k : Nat) (h : k < l.length) : s.acts (l.take (k + 1)) = (s.acts (l.take k)).act l[k] := by
  unfold BookS.acts
  rw [List.take_succ_eq_append_getElem h, List.foldl_append]; rfl

theorem Own.base {W w w' : World} {b g : Nat} {s : BookS} (h : Own w w' b g s) (k : Kept (fun _ => False) W w) : Own W w' b g s :=
  ⟨h.bk, h.ok, k.trans h.kp, Nat.le_trans k.size h.hb, Nat.le_trans k.size h.hg⟩

end Go.Proofs.Ytnpmimjhpnhdkaa
