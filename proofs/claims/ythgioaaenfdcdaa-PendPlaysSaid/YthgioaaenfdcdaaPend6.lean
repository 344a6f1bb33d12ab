/- hustingslaw29's helpers: acts, does, made. -/
import Derived.Test.YthgioaaenfdcdaaPend5
import Derived.Test.YthgioaaenfdcdaaArgs
import Derived.Test.YthgioaaenfdcdaaTapeOwn
namespace Go.Proofs.Ythgioaaenfdcdaa
open Go.RowKit Go.Maps

/-- Something that is done. -/
structure PAct where
  k : Int
  u : Int
  s : Int
  deriving Inhabited
theorem results_tmp3 {fn : Func} {t u v : Tmp} (h : fn.results = #[.tmp t, .tmp u, .tmp v]) (tmps : Array Value) (P : Program) (w : World) :
    (results fn tmps).run P w = .ok (.tuple #[tmps.getD t undef, tmps.getD u undef, tmps.getD v undef]) w := by
  simp [results, h]
theorem u8_of_wf {n : Int} (h : (Lit.int .u8 n).wf = true) : 0 ≤ n ∧ n ≤ 255 := by
  simp only [Lit.wf, IntKind.min, IntKind.max, IntKind.signed, IntKind.bits, Bool.and_eq_true] at h
  simp at h
  omega
/-- A row of acts that came in. -/
def IsPActs (w : World) (a : Option Addr) (l : List PAct) : Prop :=
  ∀ i (h : i < l.length), ∃ b o, a = some ⟨b, o, none⟩ ∧ b < w.heap.size ∧ w.cell? ⟨b, o + i * 3, none⟩ = some (.int .u8 l[i].k) ∧ w.cell? ⟨b, o + i * 3 + 1, none⟩ = some (.int .i64 l[i].u) ∧ w.cell? ⟨b, o + i * 3 + 2, none⟩ = some (.int .i64 l[i].s) ∧ ((0 ≤ l[i].k ∧ l[i].k ≤ 255) ∧ I64 l[i].u ∧ I64 l[i].s)
theorem IsPActs.nil (w : World) : IsPActs w none [] := fun i h => absurd h (by simp)
theorem IsPActs.kept {w w' : World} {a : Option Addr} {l : List PAct} (h : IsPActs w a l) (k : Kept (fun _ => False) w w') : IsPActs w' a l := by
  intro i hi
  obtain ⟨b, o, e, hb, h0, h1, h2, h3⟩ := h i hi
  exact ⟨b, o, e, k.lt hb, k.cell h0 id, k.cell h1 id, k.cell h2 id, h3⟩
theorem pacts_of {H : Type} {enc : TypeId × Value → H} {w : World} {a : Option Addr} {len cap : Nat} (h : Reads enc Try.prog w 24 [.slice a len cap]) : ∃ l : List PAct, len = l.length ∧ IsPActs w a l := by
  obtain ⟨_, _, E, hE⟩ := h.slice Try.underlying24 (n := 3) (by kernel_rfl) (by decide)
  have key : ∀ i, ∃ x : PAct, i < len → ∃ b o, a = some ⟨b, o, none⟩ ∧ b < w.heap.size ∧ w.cell? ⟨b, o + i * 3, none⟩ = some (.int .u8 x.k) ∧ w.cell? ⟨b, o + i * 3 + 1, none⟩ = some (.int .i64 x.u) ∧ w.cell? ⟨b, o + i * 3 + 2, none⟩ = some (.int .i64 x.s) ∧ ((0 ≤ x.k ∧ x.k ≤ 255) ∧ I64 x.u ∧ I64 x.s) := by
    intro i
    by_cases hlt : i < len
    · obtain ⟨_, ⟨b, o, ha, hb, hc⟩, hr⟩ := hE i hlt
      obtain ⟨_, hf⟩ := hr.fields (ts := [5, 3, 3]) (by kernel_rfl)
      obtain ⟨v0, e0, r0⟩ := hf 0 _ rfl
      obtain ⟨v1, e1, r1⟩ := hf 1 _ rfl
      obtain ⟨v2, e2, r2⟩ := hf 2 _ rfl
      obtain ⟨n0, h0, g0⟩ := r0.int Try.underlying5
      obtain ⟨n1, h1, g1⟩ := r1.int Try.underlying3
      obtain ⟨n2, h2, g2⟩ := r2.int Try.underlying3
      simp only [List.cons.injEq, and_true] at h0 h1 h2
      subst h0 h1 h2
      exact ⟨⟨n0, n1, n2⟩, fun _ => ⟨b, o, ha, hb, by rw [← e0]; exact hc 0 (by decide), by rw [← e1]; exact hc 1 (by decide), by rw [← e2]; exact hc 2 (by decide), u8_of_wf g0, i64_of_wf' g1, i64_of_wf' g2⟩⟩
    · exact ⟨⟨0, 0, 0⟩, fun h => absurd h hlt⟩
  refine ⟨(List.range len).map (fun i => Classical.choose (key i)), by simp, fun i hi => ?_⟩
  have hi' : i < len := by simpa using hi
  simp only [List.getElem_map, List.getElem_range]
  exact Classical.choose_spec (key i) hi'

instance (T : List Outs) (u slot : Int) : Decidable (drawOk T u slot) := by unfold drawOk; exact inferInstance
/-- A table and its tape, behind something that is done. -/
def actD (T : List Outs) (s : TapeS) (u slot : Int) : List Outs × TapeS := if drawOk T u slot ∧ (atT T u).length ≠ 65536 then (drawT T u slot (idOf (atT T u) (s.draw % 65536)), s.next) else (T, s)
def actS (x : List Outs × TapeS) (a : PAct) : List Outs × TapeS := if a.k = 0 then actD x.1 x.2 a.u a.s else if a.k = 1 then (x.1.map (Outs.free a.s), x.2) else if a.k = 2 then (freeAtT a.s a.u x.1, x.2) else x
def actsS (x : List Outs × TapeS) (l : List PAct) : List Outs × TapeS := l.foldl actS x
theorem actsS_take (x : List Outs × TapeS) (l : List PAct) (k : Nat) (h : k < l.length) : actsS x (l.take (k + 1)) = actS (actsS x (l.take k)) l[k] := by
  unfold actsS
  rw [List.take_succ_eq_append_getElem h, List.foldl_append]; rfl
theorem freeAtT_len (s u : Int) (T : List Outs) : (freeAtT s u T).length = T.length := by unfold freeAtT; split <;> simp
theorem actD_len (T : List Outs) (s : TapeS) (u slot : Int) : (actD T s u slot).1.length = T.length := by unfold actD; split <;> simp [drawT]
theorem actD_used (T : List Outs) (s : TapeS) (u slot : Int) : (actD T s u slot).2.used ≤ s.used + 1 := by
  unfold actD; split
  · rw [TapeS.next_used]; omega
  · simp only; omega
theorem actS_len (x : List Outs × TapeS) (a : PAct) : (actS x a).1.length = x.1.length := by
  unfold actS
  split
  · exact actD_len _ _ _ _
  split
  · simp
  split
  · exact freeAtT_len _ _ _
  · rfl
theorem actS_used (x : List Outs × TapeS) (a : PAct) : (actS x a).2.used ≤ x.2.used + 1 := by
  unfold actS
  split
  · exact actD_used _ _ _ _
  split
  · simp only; omega
  split
  · simp only; omega
  · omega
theorem actsS_len (x : List Outs × TapeS) (l : List PAct) : (actsS x l).1.length = x.1.length := by
  induction l generalizing x with
  | nil => rfl
  | cons a r ih => exact (ih (actS x a)).trans (actS_len x a)
theorem actsS_used (x : List Outs × TapeS) (l : List PAct) : (actsS x l).2.used ≤ x.2.used + l.length := by
  induction l generalizing x with
  | nil => simp [actsS]
  | cons a r ih =>
    have h1 := ih (actS x a)
    have h2 := actS_used x a
    simp only [actsS, List.foldl_cons, List.length_cons] at h1 ⊢
    omega

/-- A table that the call from W on has made. -/
structure POwn (W w : World) (S : TblS) (T : List Outs) : Prop where
  tb : Tbl w S T
  len : T.length ≤ 9
  kp : Kept (fun _ => False) W w
  lo : ∀ x, S.foot x → W.heap.size ≤ x
section
variable {W w w' : World} {S : TblS} {T : List Outs} {b : Nat} {s : TapeS} {L : List Nat}
theorem POwn.look (h : POwn W w S T) (k : Kept (fun _ => False) w w') : POwn W w' S T := ⟨h.tb.look k, h.len, h.kp.trans k, h.lo⟩
theorem POwn.lt (h : POwn W w S T) {x : Nat} (hx : S.foot x) : x < w.heap.size := h.tb.foot_lt hx
/-- Other blocks were written, new to W. -/
theorem POwn.aside {M : Nat → Prop} (h : POwn W w S T) (k : Kept M w w') (hm : ∀ x, S.foot x → ¬ M x) (hW : ∀ x, x < W.heap.size → ¬ M x) : POwn W w' S T :=
  ⟨h.tb.kept k hm, h.len, h.kp.then k (fun i hi hM => (hW i hi hM).elim), h.lo⟩
theorem POwn.step {M : Nat → Prop} {T' : List Outs} (h : POwn W w S T) (ht : Tbl w' S T') (hl : T'.length = T.length) (k : Kept M w w') (hW : ∀ x, x < W.heap.size → ¬ M x) : POwn W w' S T' :=
  ⟨ht, by rw [hl]; exact h.len, h.kp.then k (fun i hi hM => (hW i hi hM).elim), h.lo⟩
theorem POwn.bsW (h : POwn W w S T) : ∀ x, x < W.heap.size → ¬ x ∈ S.bs := fun x hx hb => by have := h.lo x (.inr (.inr hb)); omega
theorem foot_bs {x : Nat} (h : x ∈ S.bs) : S.foot x := .inr (.inr h)

theorem pown_new (H : Hid (Kept (fun _ => False) W w)) (n : Nat) (h1 : 1 ≤ n) (h9 : n ≤ 9) : Calls Try.prog 19 #[.int .i64 n] w fun e w' => ∃ S : TblS, e = .returned (.tuple #[.pointer (some ⟨S.b, 0, none⟩), .int .i64 0]) ∧ POwn W w' S (List.replicate n []) ∧ (∀ x, S.foot x → w.heap.size ≤ x) ∧ Kept (fun _ => False) w w' := by
  refine (pnew_any n h1 h9 w).mono ?_
  rintro e w' ⟨S, rfl, ht, hf, hk⟩
  exact ⟨S, rfl, ⟨ht, by simpa using h9, H.out.trans hk, fun x hx => Nat.le_trans H.out.size (hf x hx)⟩, hf, hk⟩
theorem pown_find (H : Hid (POwn W w S T)) (u k : Int) (hk : U16 k) (o : Option Int) (ho : look (atT T u) k = o) : Calls Try.prog 13 #[.pointer (some ⟨S.b, 0, none⟩), .int .i64 u, .int .u16 k] w fun e w' => e = .returned (.tuple #[.int .i64 (o.getD 0), .bool o.isSome]) ∧ w = w' := by
  subst ho
  exact find_any S T u k hk (by have := H.out.len; omega) w H.out.tb
theorem pown_len (H : Hid (POwn W w S T)) (u : Int) (n : Nat) (hn : (atT T u).length = n) : Calls Try.prog 14 #[.pointer (some ⟨S.b, 0, none⟩), .int .i64 u] w fun e w' => e = .returned (.int .i64 n) ∧ w = w' := by
  subst hn
  exact plen_any S T u (by have := H.out.len; omega) w H.out.tb
theorem pown_freeAt (H : Hid (POwn W w S T)) (q u : Int) (n : Nat) (hn : (atT T u).freed q = n) : Calls Try.prog 16 #[.pointer (some ⟨S.b, 0, none⟩), .int .i64 q, .int .i64 u] w fun e w' => e = .returned (.int .i64 n) ∧ POwn W w' S (freeAtT q u T) ∧ Kept (· ∈ S.bs) w w' := by
  subst hn
  refine (freeAt_any S T q u (by have := H.out.len; omega) w H.out.tb).mono ?_
  rintro e w' ⟨rfl, ht, hk⟩
  exact ⟨rfl, H.out.step ht (freeAtT_len _ _ _) hk H.out.bsW, hk⟩
theorem pown_free (H : Hid (POwn W w S T)) (q : Int) (n : Nat) (hn : freedN q T = n) : Calls Try.prog 17 #[.pointer (some ⟨S.b, 0, none⟩), .int .i64 q] w fun e w' => e = .returned (.int .i64 n) ∧ POwn W w' S (T.map (Outs.free q)) ∧ Kept (· ∈ S.bs) w w' := by
  subst hn
  refine (free_any S T q (by have := H.out.len; omega) w H.out.tb).mono ?_
  rintro e w' ⟨rfl, ht, hk⟩
  exact ⟨rfl, H.out.step ht (by simp) hk H.out.bsW, hk⟩
theorem pown_copy (H : Hid (POwn W w S T)) : Calls Try.prog 15 #[.pointer (some ⟨S.b, 0, none⟩)] w fun e w' => ∃ S' : TblS, e = .returned (.pointer (some ⟨S'.b, 0, none⟩)) ∧ POwn W w' S' T ∧ POwn W w' S T ∧ (∀ x, S'.foot x → w.heap.size ≤ x) ∧ Kept (fun _ => False) w w' := by
  refine (pcopy_any S T (by have := H.out.len; omega) w H.out.tb).mono ?_
  rintro e w' ⟨S', rfl, ht, hf, hk⟩
  exact ⟨S', rfl, ⟨ht, H.out.len, H.out.kp.trans hk, fun x hx => Nat.le_trans H.out.kp.size (hf x hx)⟩, H.out.look hk, hf, hk⟩
/-- A draw of any kind: what is told, and what is left. -/
def drawR (T : List Outs) (s : TapeS) (u slot : Int) : Int × Int := if drawOk T u slot then (if (atT T u).length = 65536 then (0, 9) else (idOf (atT T u) (s.draw % 65536), 0)) else (0, 1)
theorem pown_draw (H : Hid (POwn W w S T)) (HT : Hid (TOwn W w b s L)) (hS : ∀ k ∈ S.bs, k ∈ L) (hb : ¬ S.foot b) (hu : s.used < 9223372036854775807) (u slot i r : Int) (hr : drawR T s u slot = (i, r)) :
    Calls Try.prog 11 #[.pointer (some ⟨S.b, 0, none⟩), .int .i64 u, .int .i64 slot, .pointer (some ⟨b, 0, none⟩)] w fun e w' =>
      e = .returned (.tuple #[.int .u16 i, .int .i64 r]) ∧ POwn W w' S (actD T s u slot).1 ∧ TOwn W w' b (actD T s u slot).2 L ∧ Kept (fun k => k = b ∨ k ∈ S.bs) w w' := by
  have hT : T.length ≤ 1000 := by have := H.out.len; omega
  unfold drawR at hr
  unfold actD
  by_cases h : drawOk T u slot
  · by_cases hf : (atT T u).length = 65536
    · rw [if_pos h, if_pos hf] at hr
      rw [if_neg (fun hh => hh.2 hf)]
      refine (draw_full S T u slot b h hf hT w H.out.tb).mono ?_
      rintro e w' ⟨rfl, rfl⟩
      simp only [Prod.mk.injEq] at hr
      obtain ⟨rfl, rfl⟩ := hr
      exact ⟨rfl, H.out, HT.out, Kept.refl _⟩
    · rw [if_pos h, if_neg hf] at hr
      rw [if_pos ⟨h, hf⟩]
      have hlt : (atT T u).length < 65536 := by
        have : (atT T u).length ≤ 65536 := by
          unfold atT
          split
          · rw [List.getD_eq_getElem?_getD]
            cases hv : T[u.toNat]? with
            | none => simp
            | some m => exact H.out.tb.lens m (List.mem_of_getElem? hv)
          · simp
        omega
      refine (draw_ok S T u slot b s L h hlt hT w H.out.tb HT.out.tp HT.out.lt hS hb hu).mono ?_
      rintro e w' ⟨rfl, ht, htp, hk⟩
      simp only [Prod.mk.injEq] at hr
      obtain ⟨rfl, rfl⟩ := hr
      have hW : ∀ x, x < W.heap.size → ¬ (x = b ∨ x ∈ S.bs) := fun x hx hh => by
        rcases hh with rfl | hh
        · have := HT.out.lo; omega
        · exact H.out.bsW x hx hh
      exact ⟨rfl, H.out.step ht (by simp [drawT]) hk hW, ⟨htp, fun x hx => hk.lt (HT.out.lt x hx), HT.out.kp.then hk (fun i hi hM => (hW i hi hM).elim), HT.out.lo⟩, hk⟩
  · rw [if_neg h] at hr
    rw [if_neg (fun hh => h hh.1)]
    refine (draw_bad S T u slot b h hT w H.out.tb).mono ?_
    rintro e w' ⟨rfl, rfl⟩
    simp only [Prod.mk.injEq] at hr
    obtain ⟨rfl, rfl⟩ := hr
    exact ⟨rfl, H.out, HT.out, Kept.refl _⟩
end
end Go.Proofs.Ythgioaaenfdcdaa
