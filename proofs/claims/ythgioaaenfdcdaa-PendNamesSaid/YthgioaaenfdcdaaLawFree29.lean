/- PendFree: the plain law, and the walk. -/
import Derived.Test.YthgioaaenfdcdaaPend8
namespace Go.Proofs.Ythgioaaenfdcdaa
open Go.RowKit Go.Maps

theorem free_free (q : Int) (m : Outs) : Outs.free q (Outs.free q m) = Outs.free q m := by
  unfold Outs.free; rw [List.filter_filter]; congr 1; funext p; simp
theorem freed_free (q : Int) (m : Outs) : Outs.freed q (Outs.free q m) = 0 := by unfold Outs.freed; rw [free_free]; omega
theorem freed_eq (q : Int) (m : Outs) : m.length = Outs.freed q m + (Outs.free q m).length := by unfold Outs.freed; have := free_le q m; omega
theorem atT_freeAt_same (q u : Int) (T : List Outs) : atT (freeAtT q u T) u = Outs.free q (atT T u) := by
  by_cases h : u < 0 ∨ T.length ≤ u
  · rw [freeAtT_no h, atT_no h]; rfl
  · obtain ⟨v, rfl⟩ := Int.eq_ofNat_of_zero_le (show 0 ≤ u by omega)
    rw [freeAtT_nat, atT_nat, atT_nat]
    simp [List.getD_eq_getElem?_getD, show v < T.length by omega]
theorem atT_freeAt_other (q u : Int) (T : List Outs) {k : Nat} (hk : (k : Int) ≠ u) : atT (freeAtT q u T) k = atT T k := by
  by_cases h : u < 0 ∨ T.length ≤ u
  · rw [freeAtT_no h]
  · obtain ⟨v, rfl⟩ := Int.eq_ofNat_of_zero_le (show 0 ≤ u by omega)
    rw [freeAtT_nat, atT_nat, atT_nat]
    simp [List.getD_eq_getElem?_getD, show ¬ v = k by omega]
theorem sum_set0 : ∀ (l : List Nat) (i : Nat) (h : i < l.length), l.sum = l[i] + (l.set i 0).sum
  | x :: r, 0, _ => by simp
  | x :: r, i + 1, h => by
    have := sum_set0 r i (by simpa using h)
    simp only [List.getElem_cons_succ, List.set_cons_succ, List.sum_cons]; omega
theorem freedN_freeAt (q u : Int) (T : List Outs) : freedN q T = Outs.freed q (atT T u) + freedN q (freeAtT q u T) := by
  by_cases h : u < 0 ∨ T.length ≤ u
  · rw [freeAtT_no h, atT_no h]; simp [Outs.freed]
  · obtain ⟨v, rfl⟩ := Int.eq_ofNat_of_zero_le (show 0 ≤ u by omega)
    rw [freeAtT_nat, atT_nat]
    have hv : v < T.length := by omega
    unfold freedN
    rw [List.map_set, freed_free, sum_set0 _ v (by simpa using hv)]
    simp [List.getD_eq_getElem?_getD, hv]
theorem freedN_map (q : Int) (T : List Outs) : freedN q (T.map (Outs.free q)) = 0 := by
  unfold freedN
  rw [List.map_map]
  have h0 : ∀ r : List Outs, (r.map (Outs.freed q ∘ Outs.free q)).sum = 0 := by
    intro r
    induction r with
    | nil => rfl
    | cons m r ih => simp only [List.map_cons, List.sum_cons, ih, Function.comp_apply, freed_free]
  exact h0 T
theorem freeAtT_twice (q u : Int) (T : List Outs) : freeAtT q u (freeAtT q u T) = freeAtT q u T := by
  by_cases h : u < 0 ∨ T.length ≤ u
  · rw [freeAtT_no h, freeAtT_no h]
  · obtain ⟨v, rfl⟩ := Int.eq_ofNat_of_zero_le (show 0 ≤ u by omega)
    have e := atT_freeAt_same q v T
    rw [atT_nat, atT_nat] at e
    rw [freeAtT_nat q v (freeAtT q v T), e, free_free, freeAtT_nat, List.set_set]
theorem freedN_bound {w : World} {S : TblS} {T : List Outs} (h : Tbl w S T) (hT : T.length ≤ 9) (q : Int) : freedN q T ≤ 1000000 := by
  have := freedN_le q T h.lens
  omega
theorem atT_bound {w : World} {S : TblS} {T : List Outs} (h : Tbl w S T) (u : Int) : (atT T u).length ≤ 65536 := by
  unfold atT
  split
  · rw [List.getD_eq_getElem?_getD]
    cases hv : T[u.toNat]? with
    | none => simp
    | some m => exact h.lens m (List.mem_of_getElem? hv)
  · simp

set_option maxRecDepth 100000 in
set_option maxHeartbeats 4000000 in
theorem free29_walk {H : Type} {enc : TypeId × Value → H} {d : DataW H} {p : List MemPlace} (w : World) (ups : Int) (_ : (Lit.int .i64 ups).wf = true) (seed : Int) (hseed : (Lit.int .u64 seed).wf = true) (ao : Option Addr) (lenf capf : Nat) (zs : List Int) (hzs : IsRow .u64 w ao lenf capf zs)
    (a : Option Addr) (len cap : Nat) (hk : DataW.Trod enc Try.prog w 0 (fun _ => true) true 24 (.slice a len cap) d p) (slot : Int) (_ : (Lit.int .i64 slot).wf = true) (u : Int) (_ : (Lit.int .i64 u).wf = true) :
    Calls Try.prog 4 #[.int .i64 ups, .int .u64 seed, .slice ao lenf capf, .slice a len cap, .int .i64 slot, .int .i64 u] w fun e w' => e = .returned (.bool true) ∧ Kept (fun _ => False) w w' := by
  obtain ⟨l, rfl, hacts⟩ := pacts_of (Reads.of hk)
  obtain ⟨first, rfl, hrow, hf64⟩ := rowU_of_isRow hzs
  have HA := Lib.hid hacts
  have HF := Lib.hid hrow
  have HOKU := Lib.hid (And.intro (u64_of_wf hseed) hf64)
  clear hk hacts hzs hrow hf64 hseed
  by_cases h1 : 200 < l.length
  · have hb : decide (200 < (l.length : Int)) = true := by simp; omega
    clear h1
    go_enter Try.func4, Try.ntmps4
    go_wp2_with fail
    refine (pawake_any _).mono ?_
    rintro e w1 ⟨rfl, hk⟩
    go_wp2_with fail
    go_ret
    exact ⟨rfl, hk⟩
  have hb : decide (200 < (l.length : Int)) = false := by simp; omega
  by_cases h2 : 300 < first.length
  · have hb2 : decide (300 < (first.length : Int)) = true := by simp; omega
    clear h1 h2
    go_enter Try.func4, Try.ntmps4
    go_wp2_with fail
    refine (pawake_any _).mono ?_
    rintro e w1 ⟨rfl, hk⟩
    go_wp2_with fail
    go_ret
    exact ⟨rfl, hk⟩
  have hb2 : decide (300 < (first.length : Int)) = false := by simp; omega
  go_enter Try.func4, Try.ntmps4
  go_wp2_with fail
  refine (pawake_any _).mono ?_
  rintro e w1 ⟨rfl, hk1⟩
  have K1 := Lib.hid hk1
  clear hk1
  go_wp2_with fail
  refine (pmade_any w1 ups seed ao first capf (fun _ => True) a l cap (by omega) (Lib.hid (HF.out.kept K1.out (fun _ _ _ => id))) HOKU.out (by omega) (Lib.hid (HA.out.kept K1.out))).mono ?_
  rintro e w2 ⟨S, b, L, hn, rfl, ho, -, -, -⟩
  obtain ⟨n, hnn⟩ : ∃ n, nOf ups = n := ⟨_, rfl⟩
  obtain ⟨T, hT⟩ : ∃ T, (madeS (nOf ups) seed first l).1 = T := ⟨_, rfl⟩
  have hlen : T.length = n := by rw [← hT, madeS_len, hnn]
  rw [hT] at ho
  rw [hnn] at hn ⊢
  have HO := Lib.hid (show POwn w w2 S T from ⟨ho.tb, ho.len, K1.out.trans ho.kp, fun x hx => Nat.le_trans K1.out.size (ho.lo x hx)⟩)
  have hb0 := atT_bound ho.tb u
  have hbf := freedN_bound ho.tb (by omega) slot
  have HBK := Lib.hid (fun k : Nat => atT_bound ho.tb (k : Int))
  clear ho hT hnn
  -- the plain law
  obtain ⟨T1, hT1⟩ : ∃ T1, freeAtT slot u T = T1 := ⟨_, rfl⟩
  obtain ⟨here, hhere⟩ : ∃ x, Outs.freed slot (atT T u) = x := ⟨_, rfl⟩
  obtain ⟨rest, hrest⟩ : ∃ x, freedN slot T1 = x := ⟨_, rfl⟩
  have hsum := freedN_freeAt slot u T
  rw [hT1, hhere, hrest] at hsum
  have hagain : Outs.freed slot (atT T1 u) = 0 := by rw [← hT1, atT_freeAt_same, freed_free]
  have hout : u < 0 ∨ (n : Int) ≤ u → here = 0 := fun h => by rw [← hhere, atT_no (by omega)]; rfl
  have hsame : ∀ k : Nat, (k : Int) = u → (atT T k).length = here + (atT T1 k).length := fun k hk => by
    rw [← hT1, hk, atT_freeAt_same, ← hhere]; exact freed_eq _ _
  have hother : ∀ k : Nat, (k : Int) ≠ u → (atT T1 k).length = (atT T k).length := fun k hk => by rw [← hT1, atT_freeAt_other _ _ _ hk]
  have HT1 := Lib.hid hT1
  have HH := Lib.hid hhere
  have HR := Lib.hid hrest
  have HSUM := Lib.hid hsum
  have HAG := Lib.hid hagain
  have HSAME := Lib.hid hsame
  have HOTH := Lib.hid hother
  have hbh : here ≤ 1000000 := by omega
  have hbr : rest ≤ 1000000 := by omega
  have hways : (decide (u < 0) = true ∧ ((here : Int) != 0) = false) ∨ (decide (u < 0) = false ∧ decide ((n : Int) ≤ u) = true ∧ ((here : Int) != 0) = false) ∨ (decide (u < 0) = false ∧ decide ((n : Int) ≤ u) = false) := by
    by_cases g1 : u < 0
    · exact .inl ⟨by simpa using g1, by simp [hout (.inl g1)]⟩
    · by_cases g2 : (n : Int) ≤ u
      · exact .inr (.inl ⟨by simpa using g1, by simpa using g2, by simp [hout (.inr g2)]⟩)
      · exact .inr (.inr ⟨by simpa using g1, by simpa using g2⟩)
  have htot : (((here + rest : Nat) : Int) != (here : Int) + (rest : Int)) = false := by simp
  have HTOT := Lib.hid htot
  clear hT1 hhere hrest hsum hagain hout hsame hother htot
  go_wp2_with fail
  refine (pown_copy HO).mono ?_
  rintro e w3 ⟨S1, rfl, hc, ho, hf1, hk3⟩
  have HD1 := Lib.hid (fun x (hx : S1.foot x) (hb : x ∈ S.bs) => (by have h1 := hf1 x hx; have h2 := HO.out.lt (foot_bs hb); omega : False))
  replace HO := Lib.hid ho
  have HC := Lib.hid hc
  clear ho hc hf1 hk3
  go_wp2_with fail
  refine (pown_freeAt HO slot u here HH.out).mono ?_
  rintro e w4 ⟨rfl, ho, hk4⟩
  rw [HT1.out] at ho
  replace HC := Lib.hid (HC.out.aside hk4 HD1.out HO.out.bsW)
  replace HO := Lib.hid ho
  clear ho hk4
  go_wp2_with fail
  refine (pown_copy HO).mono ?_
  rintro e w5 ⟨S2, rfl, hc, ho, hf2, hk5⟩
  have HX2 := Lib.hid (fun x (hx : x < w4.heap.size) (hb : x ∈ S2.bs) => (by have := hf2 x (foot_bs hb); omega : False))
  have HL2 := Lib.hid (fun x (hx : S.foot x) => HO.out.lt hx)
  have HL3 := Lib.hid (fun x (hx : S1.foot x) => HC.out.lt hx)
  replace HC := Lib.hid (HC.out.look hk5)
  replace HO := Lib.hid ho
  have HE := Lib.hid hc
  clear ho hc hf2 hk5
  go_wp2_with fail
  refine (pown_free HE slot rest HR.out).mono ?_
  rintro e w6 ⟨rfl, he, hk6⟩
  replace HO := Lib.hid (HO.out.aside hk6 (fun x hx => HX2.out x (HL2.out x hx)) HE.out.bsW)
  replace HC := Lib.hid (HC.out.aside hk6 (fun x hx => HX2.out x (HL3.out x hx)) HE.out.bsW)
  clear he hk6 HE HX2 HL2 HL3
  go_wp2_with fail
  refine (pown_freeAt HO slot u 0 HAG.out).mono ?_
  rintro e w7 ⟨rfl, ho, hk7⟩
  have hT2 : freeAtT slot u T1 = T1 := by rw [← HT1.out, freeAtT_twice]
  rw [hT2] at ho
  replace HC := Lib.hid (HC.out.aside hk7 HD1.out HO.out.bsW)
  replace HO := Lib.hid ho
  clear ho hk7 hT2
  rcases hways with ⟨g1, g2⟩ | ⟨g1, g2, g3⟩ | ⟨g1, g2⟩
  all_goals
    go_wp2_with fail
    refine (pown_copy HC).mono ?_
    rintro e w8 ⟨S3, rfl, hc, ho, hf3, hk8⟩
    have HX2 := Lib.hid (fun x (hx : x < w7.heap.size) (hb : x ∈ S3.bs) => (by have := hf3 x (foot_bs hb); omega : False))
    have HL2 := Lib.hid (fun x (hx : S.foot x) => HO.out.lt hx)
    have HL3 := Lib.hid (fun x (hx : S1.foot x) => HC.out.lt hx)
    replace HO := Lib.hid (HO.out.look hk8)
    replace HC := Lib.hid ho
    have HE := Lib.hid hc
    clear ho hc hf3 hk8
    go_wp2_with fail
    refine (pown_free HE slot (here + rest) HSUM.out).mono ?_
    rintro e w9 ⟨rfl, he, hk9⟩
    replace HO := Lib.hid (HO.out.aside hk9 (fun x hx => HX2.out x (HL2.out x hx)) HE.out.bsW)
    replace HC := Lib.hid (HC.out.aside hk9 (fun x hx => HX2.out x (HL3.out x hx)) HE.out.bsW)
    clear he hk9 HE HX2 HL2 HL3
    have htot := HTOT.out
    go_wp2_with fail
    clear htot
    go_loopw [19] (fun c wr => ∃ k : Nat, k ≤ n ∧ c = .int .i64 k ∧ POwn w wr S T1 ∧ POwn w wr S1 T) (fun c _ => n - (intOf c).toNat)
    case atStart => exact ⟨0, by omega, rfl, HO.out, HC.out⟩
    case round =>
      obtain ⟨k, hk, rfl, ho, hc⟩ := hrel
      replace HO := Lib.hid ho
      replace HC := Lib.hid hc
      clear ho hc
      by_cases hlt : k < n
      · obtain ⟨x, hx⟩ : ∃ x, (atT T (k : Int)).length = x := ⟨_, rfl⟩
        obtain ⟨y, hy⟩ : ∃ y, (atT T1 (k : Int)).length = y := ⟨_, rfl⟩
        have hxb : x ≤ 65536 := by rw [← hx]; exact HBK.out k
        have hyx : y ≤ x := by
          by_cases e : (k : Int) = u
          · have := HSAME.out k e; omega
          · have := HOTH.out k e; omega
        have hways2 : (((k : Int) == u) = true ∧ (((x : Int) - (y : Int)) != (here : Int)) = false ∧ ((k : Int) != u) = false) ∨ (((k : Int) == u) = false ∧ ((k : Int) != u) = true ∧ (((x : Int) - (y : Int)) != 0) = false) := by
          by_cases e : (k : Int) = u
          · have := HSAME.out k e
            exact .inl ⟨by simpa using e, by simp; omega, by simpa using e⟩
          · have := HOTH.out k e
            exact .inr ⟨by simpa using e, by simpa using e, by simp; omega⟩
        have HX := Lib.hid hx
        have HY := Lib.hid hy
        clear hx hy
        rcases hways2 with ⟨q1, q2, q3⟩ | ⟨q1, q2, q3⟩
        all_goals
          go_wp2_with fail
          refine (pown_len HC k x HX.out).mono ?_
          rintro e _ ⟨rfl, rfl⟩
          go_wp2_with fail
          refine (pown_len HO k y HY.out).mono ?_
          rintro e _ ⟨rfl, rfl⟩
          go_wp2_with fail
          go_roundw
          case rel => exact ⟨k + 1, by omega, by go_num, HO.out, HC.out⟩
          case measure => simp [intOf]; omega
      · go_wp2_with fail
        refine (pown_copy HO).mono ?_
        rintro e wb ⟨S4, rfl, hc, ho, -, -⟩
        have HE := Lib.hid hc
        clear hc ho
        go_wp2_with fail
        refine (pown_free HE slot rest HR.out).mono ?_
        rintro e wc ⟨rfl, hc, -⟩
        replace HE := Lib.hid hc
        clear hc
        go_wp2_with fail
        refine (pown_free HE slot 0 (freedN_map _ _)).mono ?_
        rintro e wd ⟨rfl, hc, -⟩
        go_wp2_with fail
        go_ret
        exact ⟨rfl, hc.kp⟩
end Go.Proofs.Ythgioaaenfdcdaa
