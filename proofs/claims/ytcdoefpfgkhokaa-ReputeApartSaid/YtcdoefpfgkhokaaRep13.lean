/- hustingslaw19.made. -/
import Derived.Test.YtcdoefpfgkhokaaRep12
namespace Go.Proofs.Ytcdoefpfgkhokaa
open Go.RowKit

theorem results_tmp4 {fn : Func} {t u v x : Tmp} (h : fn.results = #[.tmp t, .tmp u, .tmp v, .tmp x]) (tmps : Array Value) (P : Program) (w : World) :
    (results fn tmps).run P w = .ok (.tuple #[tmps.getD t undef, tmps.getD u undef, tmps.getD v undef, tmps.getD x undef]) w := by
  simp [results, h]
theorem u8_of_wf {n : Int} (h : (Lit.int .u8 n).wf = true) : 0 ≤ n ∧ n ≤ 255 := by
  simp only [Lit.wf, IntKind.min, IntKind.max, IntKind.signed, IntKind.bits, Bool.and_eq_true] at h
  simp at h
  omega
theorem i64_of_wf {n : Int} (h : (Lit.int .i64 n).wf = true) : -9223372036854775808 ≤ n ∧ n ≤ 9223372036854775807 := by
  simp only [Lit.wf, IntKind.min, IntKind.max, IntKind.signed, IntKind.bits, Bool.and_eq_true] at h
  simp at h
  omega

/-- A row of acts that came in. -/
def IsActs (w : World) (a : Option Addr) (l : List ActS) : Prop :=
  ∀ i (h : i < l.length), ∃ b o, a = some ⟨b, o, none⟩ ∧ b < w.heap.size ∧ w.cell? ⟨b, o + i * 3, none⟩ = some (.int .u8 l[i].k) ∧ w.cell? ⟨b, o + i * 3 + 1, none⟩ = some (.int .i64 l[i].u) ∧ w.cell? ⟨b, o + i * 3 + 2, none⟩ = some (.int .i64 l[i].n) ∧ (0 ≤ l[i].k ∧ l[i].k ≤ 255)
theorem IsActs.nil (w : World) : IsActs w none [] := fun i h => absurd h (by simp)
theorem IsActs.kept {w w' : World} {a : Option Addr} {l : List ActS} (h : IsActs w a l) (k : Kept (fun _ => False) w w') : IsActs w' a l := by
  intro i hi
  obtain ⟨b, o, e, hb, h0, h1, h2, h3⟩ := h i hi
  exact ⟨b, o, e, k.lt hb, k.cell h0 id, k.cell h1 id, k.cell h2 id, h3⟩
theorem acts_of {H : Type} {enc : TypeId × Value → H} {w : World} {a : Option Addr} {len cap : Nat} (h : Reads enc Try.prog w 22 [.slice a len cap]) : ∃ l : List ActS, len = l.length ∧ IsActs w a l := by
  obtain ⟨_, _, E, hE⟩ := h.slice Try.underlying22 (n := 3) (by kernel_rfl) (by decide)
  have key : ∀ i, ∃ x : ActS, i < len → ∃ b o, a = some ⟨b, o, none⟩ ∧ b < w.heap.size ∧ w.cell? ⟨b, o + i * 3, none⟩ = some (.int .u8 x.k) ∧ w.cell? ⟨b, o + i * 3 + 1, none⟩ = some (.int .i64 x.u) ∧ w.cell? ⟨b, o + i * 3 + 2, none⟩ = some (.int .i64 x.n) ∧ (0 ≤ x.k ∧ x.k ≤ 255) := by
    intro i
    by_cases hlt : i < len
    · obtain ⟨_, ⟨b, o, ha, hb, hc⟩, hr⟩ := hE i hlt
      obtain ⟨_, hf⟩ := hr.fields (ts := [5, 3, 2]) (by kernel_rfl)
      obtain ⟨v0, e0, r0⟩ := hf 0 _ rfl
      obtain ⟨v1, e1, r1⟩ := hf 1 _ rfl
      obtain ⟨v2, e2, r2⟩ := hf 2 _ rfl
      obtain ⟨n0, h0, g0⟩ := r0.int Try.underlying5
      obtain ⟨n1, h1, g1⟩ := r1.int Try.underlying3
      obtain ⟨n2, h2, g2⟩ := r2.int Try.underlying2
      simp only [List.cons.injEq, and_true] at h0 h1 h2
      subst h0 h1 h2
      exact ⟨⟨n0, n1, n2⟩, fun _ => ⟨b, o, ha, hb, by rw [← e0]; exact hc 0 (by decide), by rw [← e1]; exact hc 1 (by decide), by rw [← e2]; exact hc 2 (by decide), u8_of_wf g0⟩⟩
    · exact ⟨⟨0, 0, 0⟩, fun h => absurd h hlt⟩
  refine ⟨(List.range len).map (fun i => Classical.choose (key i)), by simp, fun i hi => ?_⟩
  have hi' : i < len := by simpa using hi
  simp only [List.getElem_map, List.getElem_range]
  exact Classical.choose_spec (key i) hi'

def BookS.acts (s : BookS) (l : List ActS) : BookS := l.foldl BookS.act s
theorem ok_acts {s : BookS} (hs : s.ok) (l : List ActS) : (s.acts l).ok := by
  induction l generalizing s with
  | nil => exact hs
  | cons a r ih => exact ih (ok_act hs a)
theorem len_acts (s : BookS) (l : List ActS) : (s.acts l).l.length = s.l.length := by
  induction l generalizing s with
  | nil => rfl
  | cons a r ih => exact (ih (s.act a)).trans (len_act s a)
theorem acts_take (s : BookS) (l : List ActS) (k : Nat) (h : k < l.length) : s.acts (l.take (k + 1)) = (s.acts (l.take k)).act l[k] := by
  unfold BookS.acts
  rw [List.take_succ_eq_append_getElem h, List.foldl_append]; rfl

theorem Own.base {W w w' : World} {b g : Nat} {s : BookS} (h : Own w w' b g s) (k : Kept (fun _ => False) W w) : Own W w' b g s :=
  ⟨h.bk, h.ok, k.trans h.kp, Nat.le_trans k.size h.hb, Nat.le_trans k.size h.hg⟩

theorem made_any (w : World) (ups limit rest : Int) (a : Option Addr) (l : List ActS) (cap : Nat) (hl : l.length ≤ 600) (HL : Hid (IsActs w a l)) :
    Calls Try.prog 10 #[.int .i64 ups, .int .i64 limit, .int .i64 rest, .slice a l.length cap] w fun e w' => ∃ (n : Nat) (lo ti : Int) (b g : Nat), newOk n lo ti ∧ e = .returned (.tuple #[.pointer (some ⟨b, 0, none⟩), .int .i64 n, .int .i64 lo, .int .i64 ti]) ∧
      Own w w' b g ((newB n lo ti).acts l) := by
  obtain ⟨U1, hU1⟩ : ∃ U, IntKind.u64.wrap ups = U := ⟨_, rfl⟩
  obtain ⟨U2, hU2⟩ : ∃ U, IntKind.u64.wrap limit = U := ⟨_, rfl⟩
  obtain ⟨U3, hU3⟩ : ∃ U, IntKind.u64.wrap rest = U := ⟨_, rfl⟩
  have p1 : 0 ≤ U1 := by rw [← hU1, IntKind.wrap_u64]; omega
  have p2 : 0 ≤ U2 := by rw [← hU2, IntKind.wrap_u64]; omega
  have p3 : 0 ≤ U3 := by rw [← hU3, IntKind.wrap_u64]; omega
  obtain ⟨n, hn⟩ : ∃ n : Nat, wrap64 (1 + wrap64 (2 * wrap64 (U1.tmod 5))) = n := by
    refine ⟨(1 + 2 * (U1 % 5)).toNat, ?_⟩
    rw [Int.tmod_eq_emod_of_nonneg p1]; unfold wrap64; omega
  obtain ⟨lo, hlo⟩ : ∃ x, wrap64 (1 + wrap64 (U2.tmod 100)) = x := ⟨_, rfl⟩
  obtain ⟨ti, hti⟩ : ∃ x, wrap64 (1 + wrap64 (U3.tmod 100000)) = x := ⟨_, rfl⟩
  have hok : newOk n lo ti := by
    rw [← hn, ← hlo, ← hti, Int.tmod_eq_emod_of_nonneg p1, Int.tmod_eq_emod_of_nonneg p2, Int.tmod_eq_emod_of_nonneg p3]
    unfold newOk wrap64; omega
  have HN := Lib.hid hn
  have HLO := Lib.hid hlo
  have HTI := Lib.hid hti
  have HOK := Lib.hid hok
  clear hn hlo hti hok p1 p2 p3
  go_enter Try.func10, Try.ntmps10
  go_wp2_with fail
  rw [HN.out, HLO.out, HTI.out]
  refine (own_new (Lib.hid (Kept.refl w)) n lo ti HOK.out).mono ?_
  rintro e w1 ⟨b, g, rfl, ho, -⟩
  have HO := Lib.hid ho
  clear ho
  go_wp2_with fail
  go_loopw [14] (fun c wr => ∃ k : Nat, k ≤ l.length ∧ c = .int .i64 k ∧ Own w wr b g ((newB n lo ti).acts (l.take k))) (fun c _ => l.length - (intOf c).toNat)
  case atStart => exact ⟨0, by omega, rfl, HO.out⟩
  case round =>
    obtain ⟨k, hk, rfl, ho⟩ := hrel
    have HR := Lib.hid ho
    clear ho HO
    by_cases hlt : k < l.length
    · obtain ⟨b0, o, rfl, hb0, c0, c1, c2, -⟩ := (HL.out.kept HR.out.kp) k hlt
      have hst := Lib.hid (acts_take (newB n lo ti) l k hlt)
      obtain ⟨x, hx⟩ : ∃ x, l[k] = x := ⟨_, rfl⟩
      rw [hx] at c0 c1 c2 hst
      clear hx
      go_wp2_with fail
      refine (ldoes_any HR x).mono ?_
      rintro e w2 ⟨rfl, ho, -⟩
      rw [← hst.out] at ho
      have HR2 := Lib.hid ho
      clear ho
      go_wp2_with fail
      go_roundw
      case rel => exact ⟨k + 1, by omega, by go_num, HR2.out⟩
      case measure => simp [intOf]; omega
    · obtain rfl : k = l.length := by omega
      go_wp2_with fail
      (try simp only [Exit.inBlock, Exit.then])
      refine bodyPost_ret (results_tmp4 rfl _ _ _) rfl ?_
      exact ⟨n, lo, ti, b, g, HOK.out, rfl, by simpa [List.take_length] using HR.out⟩
end Go.Proofs.Ytcdoefpfgkhokaa
