/- PendDraw: the plain law, and the walk. -/
import Derived.Test.YthgioaaenfdcdaaLawApart29
namespace Go.Proofs.Ythgioaaenfdcdaa
open Go.RowKit Go.Maps

def lensLe (T : List Outs) (k : Nat) : Prop := ∀ u : Nat, u < T.length → (T.getD u []).length ≤ k
theorem lens_act {x : List Outs × TapeS} {k : Nat} (h : lensLe x.1 k) (a : PAct) : lensLe (actS x a).1 (k + 1) := by
  intro u hu
  rw [actS_len] at hu
  have h0 := h u hu
  unfold actS
  split
  · unfold actD
    split
    · unfold drawT
      simp only
      by_cases e : a.u.toNat = u
      · rename_i hd
        have hu0 := hd.1.1.1
        have e2 : atT x.1 a.u = x.1.getD u [] := by rw [← e]; unfold atT; rw [if_pos hu0]
        rw [e2, List.getD_eq_getElem?_getD (l := x.1.set _ _), e, List.getElem?_set_self hu]
        simp only [Option.getD_some, List.length_append, List.length_cons, List.length_nil]
        omega
      · rw [List.getD_eq_getElem?_getD, List.getElem?_set_ne e, ← List.getD_eq_getElem?_getD]; omega
    · simp only; omega
  split
  · simp only
    rw [List.getD_eq_getElem?_getD, List.getElem?_map, List.getElem?_eq_getElem hu]
    rw [List.getD_eq_getElem?_getD, List.getElem?_eq_getElem hu] at h0
    simp only [Option.map_some, Option.getD_some] at h0 ⊢
    have := free_le a.s x.1[u]
    omega
  split
  · simp only
    by_cases e : (u : Int) = a.u
    · have := atT_freeAt_same a.s a.u x.1
      rw [← e, atT_nat, atT_nat] at this
      rw [← e, this]
      have := free_le a.s (x.1.getD u [])
      omega
    · have := atT_freeAt_other a.s a.u x.1 e
      rw [atT_nat, atT_nat] at this
      rw [this]; omega
  · omega
theorem lens_acts {x : List Outs × TapeS} {k : Nat} (h : lensLe x.1 k) (l : List PAct) : lensLe (actsS x l).1 (k + l.length) := by
  induction l generalizing x k with
  | nil => exact h
  | cons a r ih =>
    have := ih (lens_act h a)
    rw [show k + (a :: r).length = k + 1 + r.length by simp only [List.length_cons]; omega]
    exact this
theorem lens_made (n : Nat) (seed : Int) (first : List Int) (l : List PAct) : lensLe (madeS n seed first l).1 l.length := by
  have := lens_acts (x := (List.replicate n [], ⟨seed, first, 0⟩)) (k := 0) (fun u hu => by simp at hu; simp [List.getD_eq_getElem?_getD, hu]) l
  rwa [Nat.zero_add] at this
/-- Where the drawn one stands: no further than there are. -/
theorem off_le {m : Outs} {x : Int} {j : Nat} (hj : j < 65536) (h : ∀ i, i < j → (look m (roundAt x i)).isSome = true) : j ≤ m.length := by
  have := nodup_len_le ((List.range j).map (roundAt x)) (m.map (·.1)) (by
    rw [List.nodup_iff_pairwise_ne, List.pairwise_map]
    have hn := List.nodup_range (n := j)
    rw [List.nodup_iff_pairwise_ne] at hn
    refine hn.imp_of_mem (fun {a b} ha hb hne e => hne ?_)
    have h1 := List.mem_range.1 ha
    have h2 := List.mem_range.1 hb
    unfold roundAt at e
    omega) (fun y hy => by
    obtain ⟨i, hi, rfl⟩ := List.mem_map.1 hy
    obtain ⟨v, hv⟩ := Option.isSome_iff_exists.1 (h i (List.mem_range.1 hi))
    exact List.mem_map.2 ⟨_, look_mem hv, rfl⟩)
  simpa using this

theorem town_used {W w : World} {b : Nat} {s : TapeS} {L : List Nat} (HT : Hid (TOwn W w b s L)) (n : Nat) (hn : s.used = n) : Calls Try.prog 20 #[.pointer (some ⟨b, 0, none⟩)] w fun e w' => e = .returned (.int .i64 n) ∧ w = w' := by
  subst hn
  exact used_any b s L w HT.out.tp
theorem town_copy {W w : World} {b : Nat} {s : TapeS} {L : List Nat} (HT : Hid (TOwn W w b s L)) : Calls Try.prog 28 #[.pointer (some ⟨b, 0, none⟩)] w fun e w' => ∃ c, e = .returned (.pointer (some ⟨c, 0, none⟩)) ∧ w.heap.size ≤ c ∧ TOwn W w' c s (c :: L) ∧ TOwn W w' b s (c :: L) ∧ Kept (fun _ => False) w w' := by
  refine (copy_any b s L w HT.out.tp).mono ?_
  rintro e w' ⟨rfl, ht, hk, hz⟩
  have hlt : ∀ x ∈ w.heap.size :: L, x < w'.heap.size := fun x hx => by
    rcases List.mem_cons.1 hx with rfl | hx
    · omega
    · exact hk.lt (HT.out.lt x hx)
  have hbL : b ∈ L := by obtain ⟨_, _, _, h3, _⟩ := HT.out.tp; exact h3
  exact ⟨_, rfl, Nat.le_refl _, ⟨ht, hlt, HT.out.kp.trans hk, HT.out.kp.size⟩, ⟨(HT.out.tp.more (w.heap.size :: L) (fun k hk => by
    rcases List.mem_cons.1 hk with rfl | hk
    · exact .inr (Nat.le_refl _)
    · exact .inl hk) (List.mem_cons_of_mem _ hbL)).kept hk id (fun _ _ h => h.elim), hlt, HT.out.kp.trans hk, HT.out.lo⟩, hk⟩
theorem town_next {W w : World} {b : Nat} {s : TapeS} {L : List Nat} (HT : Hid (TOwn W w b s L)) (hu : s.used < 9223372036854775807) (n : Int) (hn : s.draw = n) : Calls Try.prog 29 #[.pointer (some ⟨b, 0, none⟩)] w fun e w' => e = .returned (.int .u64 n) ∧ TOwn W w' b s.next L ∧ Kept (· = b) w w' := by
  subst hn
  refine (next_any b s L w HT.out.tp HT.out.lt hu).mono ?_
  rintro e w' ⟨rfl, ht, hk⟩
  exact ⟨rfl, ⟨ht, fun x hx => hk.lt (HT.out.lt x hx), HT.out.kp.then hk (fun i hi e => by have := HT.out.lo; omega), HT.out.lo⟩, hk⟩

set_option maxRecDepth 100000 in
set_option maxHeartbeats 4000000 in
theorem draw29_walk {H : Type} {enc : TypeId × Value → H} {d : DataW H} {p : List MemPlace} (w : World) (ups : Int) (_ : (Lit.int .i64 ups).wf = true) (seed : Int) (hseed : (Lit.int .u64 seed).wf = true) (ao : Option Addr) (lenf capf : Nat) (zs : List Int) (hzs : IsRow .u64 w ao lenf capf zs)
    (a : Option Addr) (len cap : Nat) (hk : DataW.Trod enc Try.prog w 0 (fun _ => true) true 24 (.slice a len cap) d p) (u0 : Int) (_ : (Lit.int .i64 u0).wf = true) (q0 : Int) (_ : (Lit.int .i64 q0).wf = true) :
    Calls Try.prog 8 #[.int .i64 ups, .int .u64 seed, .slice ao lenf capf, .slice a len cap, .int .i64 u0, .int .i64 q0] w fun e w' => e = .returned (.bool true) ∧ Kept (fun _ => False) w w' := by
  obtain ⟨l, rfl, hacts⟩ := pacts_of (Reads.of hk)
  obtain ⟨first, rfl, hrow, hf64⟩ := rowU_of_isRow hzs
  have HA := Lib.hid hacts
  have HF := Lib.hid hrow
  have HOKU := Lib.hid (And.intro (u64_of_wf hseed) hf64)
  clear hk hacts hzs hrow hf64 hseed
  by_cases h0 : 200 < l.length
  · have hb0 : decide (200 < (l.length : Int)) = true := by simp; omega
    clear h0
    go_enter Try.func8, Try.ntmps8
    go_wp2_with fail
    refine (pawake_any _).mono ?_
    rintro e w1 ⟨rfl, hk⟩
    go_wp2_with fail
    go_ret
    exact ⟨rfl, hk⟩
  have hb0 : decide (200 < (l.length : Int)) = false := by simp; omega
  by_cases h1 : 300 < first.length
  · have hb1 : decide (300 < (first.length : Int)) = true := by simp; omega
    clear h0 h1
    go_enter Try.func8, Try.ntmps8
    go_wp2_with fail
    refine (pawake_any _).mono ?_
    rintro e w1 ⟨rfl, hk⟩
    go_wp2_with fail
    go_ret
    exact ⟨rfl, hk⟩
  have hb1 : decide (300 < (first.length : Int)) = false := by simp; omega
  obtain ⟨U1, hU1⟩ : ∃ U, IntKind.u64.wrap u0 = U := ⟨_, rfl⟩
  obtain ⟨U2, hU2⟩ : ∃ U, IntKind.u64.wrap q0 = U := ⟨_, rfl⟩
  have p1 : 0 ≤ U1 := by rw [← hU1, IntKind.wrap_u64]; omega
  have p2 : 0 ≤ U2 := by rw [← hU2, IntKind.wrap_u64]; omega
  go_enter Try.func8, Try.ntmps8
  go_wp2_with fail
  refine (pawake_any _).mono ?_
  rintro e w1 ⟨rfl, hk1⟩
  have K1 := Lib.hid hk1
  clear hk1
  go_wp2_with fail
  refine (pmade_any w1 ups seed ao first capf (fun _ => True) a l cap (by omega) (Lib.hid (HF.out.kept K1.out (fun _ _ _ => id))) HOKU.out (by omega) (Lib.hid (HA.out.kept K1.out))).mono ?_
  rintro e w2 ⟨S, b, L, hn, rfl, ho, ht, hSL, hnf⟩
  obtain ⟨n, hnn⟩ : ∃ n, nOf ups = n := ⟨_, rfl⟩
  have hlens := lens_made (nOf ups) seed first l
  have husd := madeS_used (nOf ups) seed first l
  have hlen : (madeS (nOf ups) seed first l).1.length = n := by rw [madeS_len, hnn]
  obtain ⟨st, hst⟩ : ∃ st, madeS (nOf ups) seed first l = st := ⟨_, rfl⟩
  rw [hst] at ho ht hlens husd hlen
  obtain ⟨T, s⟩ := st
  simp only at ho ht hlens husd hlen
  rw [hnn] at hn ⊢
  have HO := Lib.hid (ho.base K1.out)
  have HT := Lib.hid (ht.base K1.out)
  have HSL := Lib.hid hSL
  clear ho ht hSL hnn hst
  go_wp2_with fail
  obtain ⟨u, hu⟩ : ∃ u : Nat, wrap64 (U1 % (n : Int)) = u := by
    have h1 := Int.emod_nonneg U1 (b := (n : Int)) (by omega)
    have h2 := Int.emod_lt_of_pos U1 (b := (n : Int)) (by omega)
    exact ⟨(U1 % (n : Int)).toNat, by unfold wrap64; omega⟩
  have hun : u < n := by
    have h1 := Int.emod_nonneg U1 (b := (n : Int)) (by omega)
    have h2 := Int.emod_lt_of_pos U1 (b := (n : Int)) (by omega)
    unfold wrap64 at hu; omega
  obtain ⟨q, hq⟩ : ∃ q : Int, U2 % 32 = q := ⟨_, rfl⟩
  have hq1 : 0 ≤ q ∧ q < 32 := by omega
  obtain ⟨hq1, hq2⟩ := hq1
  rw [hu, hq]
  clear hu hq
  have hml := hlens u (by omega)
  obtain ⟨m, hm⟩ : ∃ m, T.getD u [] = m := ⟨_, rfl⟩
  rw [hm] at hml
  have hatT : atT T (u : Int) = m := by rw [atT_nat, hm]
  obtain ⟨j, j1, j2, j3⟩ := first_free (m := m) (by omega) (s.draw % 65536)
  have hjl := off_le j1 j3
  have hio := idOf_eq j1 j2 j3
  have hx0 : U16 (s.draw % 65536) := by unfold U16; omega
  have hwr : IntKind.u16.wrap s.draw = s.draw % 65536 := by rw [IntKind.wrap_u16]
  have hdo : drawOk T u q := ⟨⟨by omega, by omega⟩, hq1, hq2⟩
  have hdr : drawR T s u q = (idOf m (s.draw % 65536), 0) := by unfold drawR; rw [if_pos hdo, hatT, if_neg (by omega)]
  have hda : actD T s u q = (drawT T u q (idOf m (s.draw % 65536)), s.next) := by unfold actD; rw [if_pos ⟨hdo, by rw [hatT]; omega⟩, hatT]
  have hroundu := roundAt_u16 (s.draw % 65536)
  obtain ⟨D, hD⟩ : ∃ D, s.draw = D := ⟨_, rfl⟩
  have HD := Lib.hid hD
  rw [hD] at j2 j3 hio hx0 hwr hdr hda hroundu
  obtain ⟨x, hx⟩ : ∃ x, D % 65536 = x := ⟨_, rfl⟩
  rw [hx] at j2 j3 hio hx0 hwr hdr hda hroundu
  obtain ⟨idn, hidn⟩ : ∃ y, roundAt x j = y := ⟨_, rfl⟩
  rw [hio, hidn] at hdr hda
  have hidu : U16 idn := by rw [← hidn]; exact roundAt_u16 x j
  have hT' : atT (drawT T u q idn) (u : Int) = m ++ [(idn, q)] := by
    unfold drawT
    rw [atT_nat, hatT]
    simp [List.getD_eq_getElem?_getD, show u < T.length by omega]
  have hfind' : look (atT (drawT T u q idn) (u : Int)) idn = some q := by rw [hT', look_snoc (by rw [← hidn]; exact j2), if_pos rfl]
  have hlen' : (atT (drawT T u q idn) (u : Int)).length = m.length + 1 := by rw [hT']; simp
  have hfree : look (atT T (u : Int)) idn = none := by rw [hatT, ← hidn]; exact j2
  have hwas : ∀ i, i < j → (look (atT T (u : Int)) (roundAt x i)).isSome = true := fun i hi => by rw [hatT]; exact j3 i hi
  have hmlen : (atT T (u : Int)).length = m.length := by rw [hatT]
  have hne : ∀ i, i < j → ((roundAt x i) != idn) = true := fun i hi => by
    rw [bne_iff_ne]
    intro e
    have := hwas i hi
    rw [e, hfree] at this; cases this
  have hus1 : s.next.used = s.used + 1 := TapeS.next_used s
  have HDR := Lib.hid hdr
  have HDA := Lib.hid hda
  have HFIND := Lib.hid hfind'
  have HLEN := Lib.hid hlen'
  have HFREE := Lib.hid hfree
  have HWAS := Lib.hid hwas
  have HML := Lib.hid hmlen
  have HNE := Lib.hid hne
  have HU1 := Lib.hid hus1
  have HID := Lib.hid hidn
  have HWR := Lib.hid hwr
  have HRU := Lib.hid hroundu
  obtain ⟨us, hus⟩ : ∃ us, s.used = us := ⟨_, rfl⟩
  have HUS := Lib.hid hus
  rw [hus] at husd
  clear hatT j2 j3 hio hwr hdr hda hD hx hidn hT' hfind' hlen' hfree hwas hmlen hne hus1 hroundu hm hlens hus hdo
  refine (pown_copy HO).mono ?_
  rintro e w3 ⟨C, rfl, hc, ho, hf3, hk3⟩
  have HD3 := Lib.hid (fun x (hx : C.foot x) (h : x = b ∨ x ∈ S.bs) => (by
    have h1 := hf3 x hx
    rcases h with rfl | h
    · have := HT.out.tp.lt; omega
    · have := HO.out.lt (foot_bs h); omega : False))
  replace HT := Lib.hid (HT.out.look hk3)
  replace HO := Lib.hid ho
  have HC := Lib.hid hc
  clear ho hc hf3 hk3
  go_wp2_with fail
  refine (town_used HT us HUS.out).mono ?_
  rintro e _ ⟨rfl, rfl⟩
  go_wp2_with fail
  refine (town_copy HT).mono ?_
  rintro e w4 ⟨tc, rfl, htc, ht2, ht, hk4⟩
  have HFO := Lib.hid (fun x (hx : S.foot x) (h : x = tc) => (by have := HO.out.lt hx; omega : False))
  have HFC := Lib.hid (fun x (hx : C.foot x) (h : x = tc) => (by have := HC.out.lt hx; omega : False))
  have hbtc : b ≠ tc := by have := HT.out.tp.lt; omega
  have hwtc : w.heap.size ≤ tc := by have := HT.out.kp.size; omega
  replace HO := Lib.hid (HO.out.look hk4)
  replace HC := Lib.hid (HC.out.look hk4)
  replace HT := Lib.hid ht
  have HT2 := Lib.hid ht2
  clear ht ht2 hk4
  go_wp2_with fail
  refine (town_next HT2 (by have := HUS.out; omega) D HD.out).mono ?_
  rintro e w5 ⟨rfl, -, hk5⟩
  replace HO := Lib.hid (HO.out.aside hk5 HFO.out (fun x hx e => by omega))
  replace HC := Lib.hid (HC.out.aside hk5 HFC.out (fun x hx e => by omega))
  replace HT := Lib.hid (HT.out.aside hk5 hbtc (fun x e => by rw [e]; exact List.mem_cons_self) (fun x hx e => by omega))
  clear hk5 HT2
  have hwr := HWR.out
  go_wp2_with fail
  refine (pown_draw HO HT (fun k hk => List.mem_cons_of_mem _ (HSL.out k hk)) hnf (by have := HUS.out; omega) u q idn 0 HDR.out).mono ?_
  rintro e w6 ⟨rfl, ho, ht, hk6⟩
  have hW6 : ∀ x, x < w.heap.size → ¬ (x = b ∨ x ∈ S.bs) := fun x hx h => by
    rcases h with rfl | h
    · have := HT.out.lo; omega
    · exact HO.out.bsW x hx h
  rw [HDA.out] at ho ht
  replace HC := Lib.hid (HC.out.aside hk6 HD3.out hW6)
  replace HO := Lib.hid ho
  replace HT := Lib.hid ht
  clear ho ht hk6 hW6 hwr
  go_wp2_with fail
  refine (town_used HT (us + 1) (by have := HU1.out; have := HUS.out; omega)).mono ?_
  rintro e _ ⟨rfl, rfl⟩
  go_wp2_with fail
  go_loop [18, 21] (fun wt st => ∃ i : Nat, i ≤ j ∧ wt = .int .u16 (roundAt x i) ∧ st = .int .i64 i) (fun _ st => j - (intOf st).toNat)
  case atStart => exact ⟨0, Nat.zero_le _, by rw [roundAt_zero hx0], rfl⟩
  case round =>
    obtain ⟨i, hi, rfl, rfl⟩ := hrel
    by_cases hlt : i < j
    · have hne := HNE.out i hlt
      have hwi := HWAS.out i hlt
      obtain ⟨v, hv⟩ := Option.isSome_iff_exists.1 hwi
      have HV := Lib.hid hv
      have hw : IntKind.u16.wrap (roundAt x i + 1) = roundAt x (i + 1) := by rw [IntKind.wrap_u16, roundAt_succ]
      have hzu := HRU.out i
      have hzu2 := HRU.out (i + 1)
      have hs4 : decide ((i : Int) < 400) = true := by simp; omega
      obtain ⟨y, hy⟩ : ∃ y, roundAt x (i + 1) = y := ⟨_, rfl⟩
      have HY := Lib.hid hy
      obtain ⟨z, hz⟩ : ∃ z, roundAt x i = z := ⟨_, rfl⟩
      rw [hy] at hw hzu2
      rw [hz] at hw hne HV hzu ⊢
      have hz0 : 0 ≤ z := hzu.1
      have hz1 : z ≤ 65535 := hzu.2
      clear hy hz hwi hv
      go_wp2_with fail
      refine (pown_find HC u z hzu (some v) HV.out).mono ?_
      rintro e _ ⟨rfl, rfl⟩
      go_wp2_with fail
      go_round
      case rel => exact ⟨i + 1, by omega, by rw [HY.out], by go_num⟩
      case measure => simp [intOf]; omega
    · obtain rfl : i = j := by omega
      rw [HID.out]
      have hnn : (idn != idn) = false := by simp
      clear hlt
      go_wp2_with fail
      refine (pown_find HC u idn hidu none HFREE.out).mono ?_
      rintro e _ ⟨rfl, rfl⟩
      go_wp2_with fail
      refine (pown_find HO u idn hidu (some q) HFIND.out).mono ?_
      rintro e _ ⟨rfl, rfl⟩
      go_wp2_with fail
      refine (pown_len HO u (m.length + 1) HLEN.out).mono ?_
      rintro e _ ⟨rfl, rfl⟩
      go_wp2_with fail
      refine (pown_len HC u m.length HML.out).mono ?_
      rintro e _ ⟨rfl, rfl⟩
      go_wp2_with fail
      go_ret
      exact ⟨by simp, HO.out.kp⟩
end Go.Proofs.Ythgioaaenfdcdaa
