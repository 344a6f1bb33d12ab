/- PendPlays: the program's table and tape beside the reference's, and each call upon them. -/
import Derived.Test.YthgioaaenfdcdaaRef29c
import Derived.Test.YthgioaaenfdcdaaPend8
namespace Go.Proofs.Ythgioaaenfdcdaa
open Go.RowKit

/-! The counts. -/
theorem sum_add_map {α : Type} (f g : α → Nat) (l : List α) : (l.map (fun x => f x + g x)).sum = (l.map f).sum + (l.map g).sum := by
  induction l with
  | nil => rfl
  | cons a r ih => simp only [List.map_cons, List.sum_cons, ih]; omega
theorem sum_one (n k : Nat) (hk : k < n) : ((List.range n).map (fun u => if k = u then 1 else 0)).sum = 1 := by
  induction n with
  | zero => omega
  | succ n ih =>
    rw [List.range_succ, List.map_append, List.sum_append]
    by_cases h : k = n
    · subst h
      have : ((List.range k).map (fun u => if k = u then 1 else 0)).sum = 0 := by
        rw [List.sum_eq_zero_iff_forall_eq_nat]
        intro x hx
        obtain ⟨u, hu, rfl⟩ := List.mem_map.1 hx
        have := List.mem_range.1 hu
        rw [if_neg (by omega)]
      simp [this]
    · rw [ih (by omega)]; simp [h]
theorem sum_count (n : Nat) : ∀ (D : List DRec), (∀ r ∈ D, 0 ≤ r.u ∧ r.u < n) → ((List.range n).map (fun u : Nat => lenR D (u : Int))).sum = D.length
  | [], _ => by
    rw [List.sum_eq_zero_iff_forall_eq_nat.2]
    · rfl
    · intro x hx; obtain ⟨u, _, rfl⟩ := List.mem_map.1 hx; rfl
  | r :: D, h => by
    obtain ⟨k, hk⟩ := Int.eq_ofNat_of_zero_le (h r List.mem_cons_self).1
    have hkn : k < n := by have := (h r List.mem_cons_self).2; omega
    have e : (fun u : Nat => lenR (r :: D) (u : Int)) = fun u : Nat => lenR D (u : Int) + if k = u then 1 else 0 := by
      funext u
      unfold lenR
      rw [List.countP_cons]
      congr 1
      rw [hk]
      by_cases e : k = u
      · simp [e]
      · have : ¬ (k : Int) = (u : Int) := by omega
        simp [e, this]
    rw [e, sum_add_map, sum_count n D (fun x hx => h x (List.mem_cons_of_mem _ hx)), sum_one n k hkn]; rfl
theorem sum_len {D : List DRec} {T : List Outs} (h : DRel D T) : (T.map List.length).sum = D.length := by
  rw [← sum_count T.length D h.1]
  congr 1
  refine List.ext_getElem (by simp) fun u h1 h2 => ?_
  simp only [List.length_map] at h1
  simp only [List.getElem_map, List.getElem_range]
  rw [lenR_at h, atT_nat, List.getD_eq_getElem?_getD, List.getElem?_eq_getElem h1]; rfl
theorem freedN_sum (q : Int) (T : List Outs) : freedN q T + ((T.map (Outs.free q)).map List.length).sum = (T.map List.length).sum := by
  unfold freedN
  rw [List.map_map]
  have := sum_add_map (Outs.freed q) (List.length ∘ Outs.free q) T
  rw [← this]
  congr 1
  refine List.map_congr_left fun m _ => ?_
  unfold Outs.freed
  have := free_le q m
  simp only [Function.comp]
  omega
theorem freeR_all (q : Int) (D : List DRec) : freeR q (-1) D = D.filter (fun r => decide (r.s ≠ q)) := by
  unfold freeR
  refine List.filter_congr fun r _ => ?_
  simp [keepR]
theorem freedN_ref {D : List DRec} {T : List Outs} (h : DRel D T) (q : Int) : (freedN q T : Int) = (D.length : Int) - (freeR q (-1) D).length ∧ DRel (freeR q (-1) D) (T.map (Outs.free q)) := by
  have h2 := drel_free h q
  rw [← freeR_all] at h2
  have e1 := sum_len h
  have e2 := sum_len h2
  have e3 := freedN_sum q T
  exact ⟨by omega, h2⟩
theorem freeAtR_eq (q u : Int) (D : List DRec) (h : ∀ r ∈ D, 0 ≤ r.u) : freeAtR q u D = D.filter (fun r => !(decide (r.s = q) && decide (r.u = u))) := by
  unfold freeAtR
  split
  · rename_i hu
    rw [List.filter_eq_self.2]
    intro r hr
    have := h r hr
    have : ¬ r.u = u := by omega
    simp [this]
  · rename_i hu
    unfold freeR
    refine List.filter_congr fun r _ => ?_
    unfold keepR
    have : decide (0 ≤ u) = true := by simp; omega
    rw [this]
    simp
theorem freed_ref {D : List DRec} {T : List Outs} (h : DRel D T) (q u : Int) : ((atT T u).freed q : Int) = (D.length : Int) - (freeAtR q u D).length ∧ DRel (freeAtR q u D) (freeAtT q u T) := by
  have h2 := drel_freeAt h q u
  rw [← freeAtR_eq q u D (fun r hr => (h.1 r hr).1)] at h2
  refine ⟨?_, h2⟩
  have e1 := sum_len h
  have e2 := sum_len h2
  have e3 : ((freeAtT q u T).map List.length).sum + (atT T u).freed q = (T.map List.length).sum := by
    by_cases hu : 0 ≤ u ∧ u < T.length
    · obtain ⟨k, rfl⟩ := Int.eq_ofNat_of_zero_le hu.1
      have hk : k < T.length := by omega
      rw [freeAtT_nat, atT_nat, List.map_set]
      have hx : T.getD k [] = T[k] := by rw [List.getD_eq_getElem?_getD, List.getElem?_eq_getElem hk]; rfl
      rw [hx]
      have hs : ∀ (l : List Nat) (i : Nat) (x : Nat) (hi : i < l.length), (l.set i x).sum + l[i] = l.sum + x := by
        intro l
        induction l with
        | nil => intro i x hi; simp at hi
        | cons a r ih =>
          intro i x hi
          cases i with
          | zero => simp; omega
          | succ i =>
            have := ih i x (by simpa using hi)
            simp only [List.set_cons_succ, List.sum_cons, List.getElem_cons_succ]; omega
      have := hs (T.map List.length) k ((T[k]).free q).length (by simpa using hk)
      rw [List.getElem_map] at this
      unfold Outs.freed
      have := free_le q T[k]
      omega
    · rw [freeAtT_no (by omega), atT_no (by omega)]
      simp [Outs.freed, Outs.free]
  omega

/-- The program's table S and tape tb, the reference's table b and tape rb, all made by the call from W on; the tapes' look is spoilt by no block of L. -/
structure PInv (W w : World) (S : TblS) (T : List Outs) (tb : Nat) (s : TapeS) (b : Nat) (ao : Option Addr) (n : Nat) (D : List DRec) (rb : Nat) (s2 : TapeS) (L : List Nat) : Prop where
  po : POwn W w S T
  to : TOwn W w tb s L
  rt : RTbl w b ao n D
  rp : RTape w rb s2 L
  bs : ∀ k ∈ S.bs, k ∈ L
  bL : b ∈ L
  tL : tb ∈ L
  rL : rb ∈ L
  d1 : ¬ S.foot tb
  d2 : ¬ RFoot b ao tb
  d3 : ¬ RFoot b ao rb
  d4 : ∀ x, S.foot x → ¬ RFoot b ao x
  d5 : ¬ S.foot rb
  d6 : tb ≠ rb
  lo : ∀ x, RFoot b ao x → W.heap.size ≤ x
  lr : W.heap.size ≤ rb
/-- What the calls write. -/
def Md (S : TblS) (tb b rb : Nat) (x : Nat) : Prop := x ∈ S.bs ∨ x = tb ∨ x = b ∨ x = rb
section
variable {W w w' : World} {S : TblS} {T : List Outs} {tb : Nat} {s : TapeS} {b : Nat} {ao : Option Addr} {n : Nat} {D : List DRec} {rb : Nat} {s2 : TapeS} {L : List Nat}
theorem PInv.lt (h : PInv W w S T tb s b ao n D rb s2 L) {x : Nat} (hx : Md S tb b rb x) : x < w.heap.size := by
  rcases hx with hx | rfl | rfl | rfl
  · exact h.po.lt (foot_bs hx)
  · exact h.to.tp.lt
  · exact h.rt.lt (.inl rfl)
  · exact h.rp.lt
/-- Other blocks were written. -/
theorem PInv.far {M : Nat → Prop} (h : PInv W w S T tb s b ao n D rb s2 L) (k : Kept M w w') (hL : ∀ x, x < w.heap.size → M x → x ∈ L) (h1 : ∀ x, S.foot x → ¬ M x) (h2 : ∀ x, RFoot b ao x → ¬ M x) (h3 : ¬ M tb) (h4 : ¬ M rb) (hW : ∀ x, x < W.heap.size → ¬ M x) : PInv W w' S T tb s b ao n D rb s2 L :=
  { h with
    po := h.po.aside k h1 hW
    to := ⟨h.to.tp.kept k h3 (fun x hx hm => hL x hx hm), fun x hx => k.lt (h.to.lt x hx), h.to.kp.then k (fun i hi hM => (hW i hi hM).elim), h.to.lo⟩
    rt := h.rt.kept k h2
    rp := h.rp.kept k h4 (fun x hx hm => hL x hx hm) }
theorem PInv.look (h : PInv W w S T tb s b ao n D rb s2 L) (k : Kept (fun _ => False) w w') : PInv W w' S T tb s b ao n D rb s2 L := h.far k (fun _ _ h => h.elim) (fun _ _ => id) (fun _ _ => id) id id (fun _ _ => id)
theorem PInv.old (h : PInv W w S T tb s b ao n D rb s2 L) {x : Nat} (hx : x < W.heap.size) : ¬ Md S tb b rb x := by
  rintro (hm | rfl | rfl | rfl)
  · exact h.po.bsW x hx hm
  · have := h.to.lo; omega
  · have := h.lo _ (.inl rfl); omega
  · have := h.lr; omega

theorem pi_draw (H : Hid (PInv W w S T tb s b ao n D rb s2 L)) (hu : s.used < 9223372036854775807) (u slot i r : Int) (hr : drawR T s u slot = (i, r)) :
    Calls Try.prog 11 #[.pointer (some ⟨S.b, 0, none⟩), .int .i64 u, .int .i64 slot, .pointer (some ⟨tb, 0, none⟩)] w fun e w' =>
      e = .returned (.tuple #[.int .u16 i, .int .i64 r]) ∧ PInv W w' S (actD T s u slot).1 tb (actD T s u slot).2 b ao n D rb s2 L ∧ Kept (Md S tb b rb) w w' := by
  obtain ⟨po, to, rt, rp, bs, bL, tL, rL, d1, d2, d3, d4, d5, d6, lo, lr⟩ := H.out
  refine (pown_draw (Lib.hid po) (Lib.hid to) bs d1 hu u slot i r hr).mono ?_
  rintro e w' ⟨rfl, po', to', hk⟩
  refine ⟨rfl, ⟨po', to', rt.kept hk ?_, rp.kept hk ?_ ?_, bs, bL, tL, rL, d1, d2, d3, d4, d5, d6, lo, lr⟩, hk.mono fun x _ hx => ?_⟩
  · rintro x hx (rfl | hm)
    · exact d2 hx
    · exact d4 x (foot_bs hm) hx
  · rintro (e | hm)
    · exact d6 e.symm
    · exact d5 (foot_bs hm)
  · rintro x _ (rfl | hm)
    · exact tL
    · exact bs x hm
  · rcases hx with rfl | hm
    · exact .inr (.inl rfl)
    · exact .inl hm
theorem pinv_bs (h : PInv W w S T tb s b ao n D rb s2 L) {T' : List Outs} (po' : POwn W w' S T') (hk : Kept (· ∈ S.bs) w w') : PInv W w' S T' tb s b ao n D rb s2 L ∧ Kept (Md S tb b rb) w w' := by
  obtain ⟨po, to, rt, rp, bs, bL, tL, rL, d1, d2, d3, d4, d5, d6, lo, lr⟩ := h
  exact ⟨⟨po', to.aside hk (fun h => d1 (foot_bs h)) (fun x hx => bs x hx) po.bsW, rt.kept hk (fun x hx hm => d4 x (foot_bs hm) hx), rp.kept hk (fun hm => d5 (foot_bs hm)) (fun x _ hm => bs x hm), bs, bL, tL, rL, d1, d2, d3, d4, d5, d6, lo, lr⟩,
    hk.mono fun x _ hx => .inl hx⟩
theorem pi_free (H : Hid (PInv W w S T tb s b ao n D rb s2 L)) (q : Int) (m : Nat) (hm : freedN q T = m) : Calls Try.prog 17 #[.pointer (some ⟨S.b, 0, none⟩), .int .i64 q] w fun e w' =>
      e = .returned (.int .i64 m) ∧ PInv W w' S (T.map (Outs.free q)) tb s b ao n D rb s2 L ∧ Kept (Md S tb b rb) w w' := by
  refine (pown_free (Lib.hid H.out.po) q m hm).mono ?_
  rintro e w' ⟨rfl, po', hk⟩
  exact ⟨rfl, pinv_bs H.out po' hk⟩
theorem pi_freeAt (H : Hid (PInv W w S T tb s b ao n D rb s2 L)) (q u : Int) (m : Nat) (hm : (atT T u).freed q = m) : Calls Try.prog 16 #[.pointer (some ⟨S.b, 0, none⟩), .int .i64 q, .int .i64 u] w fun e w' =>
      e = .returned (.int .i64 m) ∧ PInv W w' S (freeAtT q u T) tb s b ao n D rb s2 L ∧ Kept (Md S tb b rb) w w' := by
  refine (pown_freeAt (Lib.hid H.out.po) q u m hm).mono ?_
  rintro e w' ⟨rfl, po', hk⟩
  exact ⟨rfl, pinv_bs H.out po' hk⟩
/-- The reference's table has another row. -/
theorem pinv_row (h : PInv W w S T tb s b ao n D rb s2 L) {ao' : Option Addr} {D' : List DRec} (rt' : RTbl w' b ao' n D') (hk : Kept (· = b) w w') (hf : ∀ x, (Value.slice ao' 0 0).ownBlock = some x → (Value.slice ao 0 0).ownBlock = some x ∨ w.heap.size ≤ x) : PInv W w' S T tb s b ao' n D' rb s2 L ∧ Kept (Md S tb b rb) w w' := by
  have h0 := h
  obtain ⟨po, to, rt, rp, bs, bL, tL, rL, d1, d2, d3, d4, d5, d6, lo, lr⟩ := h
  have hb : ∀ x, x < W.heap.size → ¬ x = b := fun x hx e => by have := lo b (.inl rfl); omega
  have key : ∀ x, RFoot b ao' x → RFoot b ao x ∨ w.heap.size ≤ x := fun x hx => by
    rcases hx with rfl | hx
    · exact .inl (.inl rfl)
    · exact (hf x hx).imp (fun h => .inr h) id
  have hne : ∀ x, x < w.heap.size → ¬ RFoot b ao x → ¬ RFoot b ao' x := fun x hx hn hf => by
    rcases key x hf with h | h
    · exact hn h
    · omega
  refine ⟨⟨po.aside hk (fun x hx e => d4 x hx (.inl e)) hb, to.aside hk (fun e => d2 (.inl e)) (fun x e => by rw [e]; exact bL) hb, rt', rp.kept hk (fun e => d3 (.inl e)) (fun x _ e => by rw [e]; exact bL), bs, bL, tL, rL, d1,
    hne _ to.tp.lt d2, hne _ rp.lt d3, fun x hx => hne x (po.lt hx) (d4 x hx), d5, d6, fun x hx => ?_, lr⟩, hk.mono fun x _ hx => .inr (.inr (.inl hx))⟩
  rcases key x hx with h | h
  · exact lo x h
  · exact Nat.le_trans po.kp.size h
theorem pi_rfree (H : Hid (PInv W w S T tb s b ao n D rb s2 L)) (hl : D.length ≤ 1000) (q m : Int) (hm : (D.length : Int) - (freeR q (-1) D).length = m) : Calls Try.prog 24 #[.pointer (some ⟨b, 0, none⟩), .int .i64 q] w fun e w' => ∃ ao',
      e = .returned (.int .i64 m) ∧ PInv W w' S T tb s b ao' n (freeR q (-1) D) rb s2 L ∧ Kept (Md S tb b rb) w w' := by
  subst hm
  refine (rfree29_any b n ao D q hl w H.out.rt).mono ?_
  rintro e w' ⟨ao', rfl, rt', hf, hk⟩
  exact ⟨ao', rfl, pinv_row H.out rt' hk (fun x hx => .inr (hf x hx))⟩
theorem pi_rfreeAt (H : Hid (PInv W w S T tb s b ao n D rb s2 L)) (hl : D.length ≤ 1000) (q u m : Int) (hm : (D.length : Int) - (freeAtR q u D).length = m) : Calls Try.prog 25 #[.pointer (some ⟨b, 0, none⟩), .int .i64 q, .int .i64 u] w fun e w' => ∃ ao',
      e = .returned (.int .i64 m) ∧ PInv W w' S T tb s b ao' n (freeAtR q u D) rb s2 L ∧ Kept (Md S tb b rb) w w' := by
  subst hm
  refine (rfreeAt29_any b n ao D q u hl w H.out.rt).mono ?_
  rintro e w' ⟨ao', rfl, rt', hf, hk⟩
  exact ⟨ao', rfl, pinv_row H.out rt' hk hf⟩
/-- What the reference has drawn. -/
def drawD (D : List DRec) (T : List Outs) (s : TapeS) (u slot : Int) : List DRec := if drawOk T u slot then D ++ [⟨u, slot, idOf (atT T u) (s.draw % 65536)⟩] else D
theorem drawD_rel {D : List DRec} {T : List Outs} (h : DRel D T) (s : TapeS) (u slot : Int) (hl : D.length ≤ 1000) : DRel (drawD D T s u slot) (actD T s u slot).1 ∧ (drawD D T s u slot).length ≤ D.length + 1 := by
  unfold drawD
  by_cases hok : drawOk T u slot
  · have hs : (atT T u).length ≠ 65536 := by have := drel_short h hok.1; omega
    rw [if_pos hok, (drawR_yes hok hs).2]
    exact ⟨drel_draw h hok.1, by simp⟩
  · rw [if_neg hok, (drawR_no hok).2]
    exact ⟨h, by omega⟩
theorem pi_rdraw (H : Hid (PInv W w S T tb s b ao n D rb s2 L)) {T0 : List Outs} (HD : Hid (DRel D T0)) (hn : T0.length = n) (hl : D.length ≤ 1000) (hu : s2.used < 9223372036854775807) (u slot i r : Int) (hr : drawR T0 s2 u slot = (i, r)) :
    Calls Try.prog 23 #[.pointer (some ⟨b, 0, none⟩), .int .i64 u, .int .i64 slot, .pointer (some ⟨rb, 0, none⟩)] w fun e w' => ∃ ao',
      e = .returned (.tuple #[.int .u16 i, .int .i64 r]) ∧ PInv W w' S T tb s b ao' n (drawD D T0 s2 u slot) rb (actD T0 s2 u slot).2 L ∧ Kept (Md S tb b rb) w w' := by
  have h0 := H.out
  obtain ⟨po, to, rt, rp, bs, bL, tL, rL, d1, d2, d3, d4, d5, d6, lo, lr⟩ := h0
  by_cases hok : drawOk T0 u slot
  · have hs : (atT T0 u).length ≠ 65536 := by have := drel_short HD.out hok.1; omega
    rw [(drawR_yes hok hs).1] at hr
    simp only [Prod.mk.injEq] at hr
    obtain ⟨rfl, rfl⟩ := hr
    rw [(drawR_yes hok hs).2]
    unfold drawD
    rw [if_pos hok]
    refine (rdraw29_ok b rb n ao D T0 s2 L u slot HD.out hn hok hl hu d3 bL w rt rp).mono ?_
    rintro e w' ⟨ao', rfl, rt', rp', hf, hk⟩
    have hW : ∀ x, x < W.heap.size → ¬ (x = b ∨ x = rb) := fun x hx h => by
      rcases h with rfl | rfl
      · have := lo _ (.inl rfl); omega
      · omega
    have hne : ∀ x, x < w.heap.size → ¬ RFoot b ao x → ¬ RFoot b ao' x := fun x hx hn hf' => by
      rcases hf' with rfl | h
      · exact hn (.inl rfl)
      · have := hf x h; omega
    refine ⟨ao', rfl, ⟨po.aside hk (fun x hx e => ?_) hW, to.aside hk (fun e => ?_) (fun x e => ?_) hW, rt', rp', bs, bL, tL, rL, d1, hne _ to.tp.lt d2, hne _ rp.lt d3, fun x hx => hne x (po.lt hx) (d4 x hx), d5, d6, fun x hx => ?_, lr⟩, hk.mono fun x _ hx => ?_⟩
    · rcases e with rfl | rfl
      · exact d4 _ hx (.inl rfl)
      · exact d5 hx
    · rcases e with e | e
      · exact d2 (.inl e)
      · exact d6 e
    · rcases e with rfl | rfl
      · exact bL
      · exact rL
    · rcases hx with rfl | h
      · exact lo _ (.inl rfl)
      · exact Nat.le_trans po.kp.size (hf x h)
    · rcases hx with rfl | rfl
      · exact .inr (.inr (.inl rfl))
      · exact .inr (.inr (.inr rfl))
  · rw [(drawR_no hok).1] at hr
    simp only [Prod.mk.injEq] at hr
    obtain ⟨rfl, rfl⟩ := hr
    rw [(drawR_no hok).2]
    unfold drawD
    rw [if_neg hok]
    refine (rdraw29_bad b n ao D u slot _ (fun h => hok (by unfold drawOk; rw [hn]; exact h)) w rt).mono ?_
    rintro e w' ⟨rfl, rfl⟩
    exact ⟨ao, rfl, H.out, Kept.refl _⟩
/-- The program's table, copied. -/
theorem pi_copy (H : Hid (PInv W w S T tb s b ao n D rb s2 L)) : Calls Try.prog 15 #[.pointer (some ⟨S.b, 0, none⟩)] w fun e w' => ∃ (S' : TblS) (L' : List Nat), e = .returned (.pointer (some ⟨S'.b, 0, none⟩)) ∧
      PInv W w' S' T tb s b ao n D rb s2 L' ∧ POwn W w' S T ∧ (∀ x ∈ S.bs, x ∈ L' ∧ ¬ S'.foot x ∧ ¬ RFoot b ao x ∧ x ≠ tb ∧ x ≠ rb) ∧ Kept (fun _ => False) w w' := by
  obtain ⟨po, to, rt, rp, bs, bL, tL, rL, d1, d2, d3, d4, d5, d6, lo, lr⟩ := H.out
  refine (pown_copy (Lib.hid po)).mono ?_
  rintro e w' ⟨S', rfl, po', po0, hf, hk⟩
  have hm : ∀ k ∈ S'.bs ++ L, k ∈ L ∨ w.heap.size ≤ k := fun k hk => by
    rcases List.mem_append.1 hk with h | h
    · exact .inr (hf k (foot_bs h))
    · exact .inl h
  have far : ∀ x, x < w.heap.size → ¬ S'.foot x := fun x hx h => by have := hf x h; omega
  have inL : ∀ x, x ∈ L → x ∈ S'.bs ++ L := fun x h => List.mem_append_right _ h
  refine ⟨S', S'.bs ++ L, rfl, ⟨po', ⟨(to.tp.more _ hm (inL _ tL)).kept hk id (fun _ _ h => h.elim), fun x hx => ?_, to.kp.trans hk, to.lo⟩, rt.look hk, (rp.more _ hm (inL _ rL)).kept hk id (fun _ _ h => h.elim),
    fun k h => List.mem_append_left _ h, inL _ bL, inL _ tL, inL _ rL, far _ to.tp.lt, d2, d3, fun x hx hr => ?_, far _ rp.lt, d6, lo, lr⟩, po0, fun x hx => ⟨inL _ (bs x hx), far _ (po.lt (foot_bs hx)), d4 x (foot_bs hx), fun e => d1 (e ▸ foot_bs hx), fun e => d5 (e ▸ foot_bs hx)⟩, hk⟩
  · rcases List.mem_append.1 hx with h | h
    · exact po'.lt (foot_bs h)
    · exact hk.lt (to.lt x h)
  · have := hf x hx
    have := rt.lt hr
    omega
/-- The reference's table, copied. -/
theorem pi_rcopy (H : Hid (PInv W w S T tb s b ao n D rb s2 L)) (hl : D.length ≤ 1000) : Calls Try.prog 26 #[.pointer (some ⟨b, 0, none⟩)] w fun e w' => ∃ (c : Nat) (ao' : Option Addr) (L' : List Nat), e = .returned (.pointer (some ⟨c, 0, none⟩)) ∧
      PInv W w' S T tb s c ao' n D rb s2 L' ∧ Kept (fun _ => False) w w' := by
  obtain ⟨po, to, rt, rp, bs, bL, tL, rL, d1, d2, d3, d4, d5, d6, lo, lr⟩ := H.out
  refine (rcopy29_any b n ao D hl w rt).mono ?_
  rintro e w' ⟨c, ao', rfl, rt', hf, hk⟩
  have hm : ∀ k ∈ c :: L, k ∈ L ∨ w.heap.size ≤ k := fun k hk => by
    rcases List.mem_cons.1 hk with rfl | h
    · exact .inr (hf _ (.inl rfl))
    · exact .inl h
  have far : ∀ x, x < w.heap.size → ¬ RFoot c ao' x := fun x hx h => by have := hf x h; omega
  have inL : ∀ x, x ∈ L → x ∈ c :: L := fun x h => List.mem_cons_of_mem _ h
  refine ⟨c, ao', c :: L, rfl, ⟨po.look hk, ⟨(to.tp.more _ hm (inL _ tL)).kept hk id (fun _ _ h => h.elim), fun x hx => ?_, to.kp.trans hk, to.lo⟩, rt', (rp.more _ hm (inL _ rL)).kept hk id (fun _ _ h => h.elim),
    fun k h => inL _ (bs k h), List.mem_cons_self, inL _ tL, inL _ rL, d1, far _ to.tp.lt, far _ rp.lt, fun x hx => far _ (po.lt hx), d5, d6, fun x hx => Nat.le_trans po.kp.size (hf x hx), lr⟩, hk⟩
  rcases List.mem_cons.1 hx with rfl | h
  · exact rt'.lt (.inl rfl)
  · exact hk.lt (to.lt x h)
end
end Go.Proofs.Ythgioaaenfdcdaa
