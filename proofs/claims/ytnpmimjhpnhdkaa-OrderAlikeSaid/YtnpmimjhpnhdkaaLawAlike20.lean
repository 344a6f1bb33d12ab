/- OrderAlike, walked. -/
import Derived.Test.YtnpmimjhpnhdkaaAlikeSame
namespace Go.Proofs.Ytnpmimjhpnhdkaa
open Go.RowKit

theorem keep3 {w w' : World} {p q r : Addr} {x y z : Value} (k : Kept (fun _ => False) w w') (h : w.cell? p = some x ∧ w.cell? q = some y ∧ w.cell? r = some z) : w'.cell? p = some x ∧ w'.cell? q = some y ∧ w'.cell? r = some z :=
  ⟨k.cell h.1 id, k.cell h.2.1 id, k.cell h.2.2 id⟩
theorem ints_len20a (a1 a2 : Option Addr) (l1 l2 : List Int) (n1 n2 c1 c2 : Nat) (e1 : l1.length = n1) (e2 : l2.length = n2) (w : World) (h1 : Cells w a1 (l1.map (.int .i64)) (fun _ => True)) (h2 : Cells w a2 (l2.map (.int .i64)) (fun _ => True))
    (hl1 : n1 ≤ 9223372036854775806) (hl2 : n2 ≤ 9223372036854775806) :
    Calls Try.prog 18 #[.slice a1 n1 c1, .slice a2 n2 c2] w fun e w' => e = .returned (.bool (decide (l1 = l2))) ∧ Kept (fun _ => False) w w' := by
  subst e1 e2
  exact ints_any a1 a2 l1 l2 c1 c2 w h1 h2 hl1 hl2
set_option maxRecDepth 100000 in
set_option maxHeartbeats 4000000 in
theorem alike_walk {H : Type} {enc : TypeId × Value → H} {d : DataW H} {p : List MemPlace} (w : World) (cs : Array Value) (hk : DataW.Trod enc Try.prog w 0 (fun _ => true) true 26 (.agg cs) d p) (sd : Int) (hsd : (Lit.int .u64 sd).wf = true) :
    Calls Try.prog 3 #[.agg cs, .int .u64 sd] w fun e w' => e = .returned (.bool true) ∧ Kept (fun _ => False) w w' := by
  obtain ⟨ups, limit, rest, seed, a, f, l, ca, fl, cf, rfl, hacts, hrow, hu, hwf⟩ := case20_of (Reads.of hk)
  have HA := Lib.hid hacts
  have HR := Lib.hid hrow
  have HU := Lib.hid hu
  clear hk hacts hrow hu
  have K0 := Lib.hid ((Kept.refl (M := fun _ => False) w).alloc (.cells #[.int .i64 ups, .int .i64 limit, .int .i64 rest, .slice a l.length ca, .int .u64 seed, .slice f fl.length cf] 26))
  have C0 := Lib.hid (new_blk w (.cells #[.int .i64 ups, .int .i64 limit, .int .i64 rest, .slice a l.length ca, .int .u64 seed, .slice f fl.length cf] 26))
  obtain ⟨r, hr⟩ : ∃ r, (decide (500 < l.length) || decide (500 < fl.length)) = r := ⟨_, rfl⟩
  go_enter Try.func3, Try.ntmps3
  go_wp2_with fail
  cases r
  · refine (long20_any ups limit rest seed a f _ ca _ cf false hr _).mono ?_
    rintro e w1 ⟨rfl, hk1⟩
    replace C0 := Lib.hid (hk1.heap C0.out id)
    replace K0 := Lib.hid (K0.out.trans hk1)
    clear hk1
    go_wp2_with fail
    refine (awake20_any _).mono ?_
    rintro e w2 ⟨rfl, hk2⟩
    replace C0 := Lib.hid (hk2.heap C0.out id)
    replace K0 := Lib.hid (K0.out.trans hk2)
    have c0 := cell_blk C0.out 0
    have c1 := cell_blk C0.out 1
    have c2 := cell_blk C0.out 2
    have c3 := cell_blk C0.out 3
    have c4 := cell_blk C0.out 4
    have c5 := cell_blk C0.out 5
    simp at c0 c1 c2 c3 c4 c5
    clear hk2
    simp only [Bool.or_eq_false_iff, decide_eq_false_iff_not] at hr
    go_wp2_with fail
    refine (book20_any w2 ups limit rest seed a f l ca fl.length cf (by omega) (Lib.hid (HA.out.kept K0.out)) hwf).mono ?_
    rintro e w3 (⟨-, rfl, hk3⟩ | ⟨n, b, g, rb, rg, rfl, hn, rfl, ho, -, -⟩)
    · clear c0 c1 c2 c3 c4 c5
      go_wp2_with fail
      go_ret
      exact ⟨rfl, (K0.out.trans hk3).alloc _⟩
    clear c0 c1 c2 c3 c4 c5
    have hlen := len_acts (newB n limit rest) l
    have hpos : 0 < ((newB n limit rest).acts l).l.length := by rw [hlen]; have := hn.1.1; simp [newB]; omega
    obtain ⟨S, hS⟩ : ∃ S, (newB n limit rest).acts l = S := ⟨_, rfl⟩
    rw [hS] at ho hpos
    clear hS hlen hn hwf
    have K3 := Lib.hid (K0.out.trans ho.kp)
    replace C0 := Lib.hid (ho.kp.heap C0.out id)
    have hm9 : (mayL S.l).length ≤ 9 := by have := ho.ok.2.2.2.2.1; have := may_len S.l; omega
    have HO := Lib.hid ho
    clear ho
    go_wp2_with fail
    have hcb := new_blk w3 (.cells #[.pointer (some ⟨b, 0, none⟩)] 29)
    have hka := (Kept.refl (M := fun _ => False) w3).alloc (.cells #[.pointer (some ⟨b, 0, none⟩)] 29)
    obtain ⟨cb, hcbe⟩ : ∃ cb, w3.heap.size = cb := ⟨_, rfl⟩
    rw [hcbe] at hcb
    rw [hcbe]
    replace HO := Lib.hid (HO.out.look hka)
    replace K3 := Lib.hid (K3.out.trans hka)
    replace C0 := Lib.hid (hka.heap C0.out id)
    obtain ⟨w4, hw4⟩ : ∃ w4, w3.alloc (.cells #[.pointer (some ⟨b, 0, none⟩)] 29) = w4 := ⟨_, rfl⟩
    rw [hw4] at HO K3 C0 hcb
    rw [hw4]
    have HCB := Lib.hid (show w4.cell? ⟨cb, 0, none⟩ = some (.pointer (some ⟨b, 0, none⟩)) by rw [cell_blk hcb]; rfl)
    clear hcb hka hw4 hcbe
    obtain ⟨ml, hml⟩ : ∃ ml, mayL S.l = ml := ⟨_, rfl⟩
    obtain ⟨n, hn⟩ : ∃ n, ml.length = n := ⟨_, rfl⟩
    rw [hml, hn] at hm9
    have HN := Lib.hid hn
    have HML := Lib.hid hml
    clear hn hml
    have g0 := HCB.out
    go_wp2_with fail
    refine (own_may HO ml HML.out).mono ?_
    rintro e w5 ⟨am, cm, rfl, hcm, ho, hk5⟩
    rw [HN.out] at hcm
    rw [HN.out]
    have HM := Lib.hid hcm
    replace HO := Lib.hid ho
    replace K3 := Lib.hid (K3.out.trans hk5)
    replace C0 := Lib.hid (hk5.heap C0.out id)
    replace HCB := Lib.hid (hk5.cell HCB.out id)
    clear ho hcm hk5 g0
    have c4 := cell_blk C0.out 4
    have c5 := cell_blk C0.out 5
    simp at c4 c5
    have cc := HCB.out
    have hSr : w5.cell? ⟨cb, 0, none⟩ = some (.pointer (some ⟨b, 0, none⟩)) ∧ w5.cell? ⟨w.heap.size, 4, none⟩ = some (.int .u64 seed) ∧ w5.cell? ⟨w.heap.size, 5, none⟩ = some (.slice f fl.length cf) := ⟨cc, c4, c5⟩
    clear c4 c5 cc
    obtain ⟨l1, hl1⟩ : ∃ l1, orderL S ⟨seed, fl, 0⟩ = l1 := ⟨_, rfl⟩
    have HL1 := Lib.hid hl1
    have hlen := order_len S ⟨seed, fl, 0⟩
    rw [hl1, HML.out, HN.out] at hlen
    have HLN := Lib.hid hlen
    clear hl1 hlen
    go_wp2_with fail
    refine wp_region_held_drew (S := fun w' => w'.cell? ⟨cb, 0, none⟩ = some (.pointer (some ⟨b, 0, none⟩)) ∧ w'.cell? ⟨w.heap.size, 4, none⟩ = some (.int .u64 seed) ∧ w'.cell? ⟨w.heap.size, 5, none⟩ = some (.slice f fl.length cf)) (by kernel_rfl) (by first | exact hS7 | exact hS6 | exact hSr) (fun hHeld => ?_)
    refine wpAnyH_take (i := 0) (oi := ?oi0) (v := ?v0) ?hi0 (by kernel_rfl) (by kernel_rfl) (by kernel_rfl) ?hQ0 ?hy0 (by assumption) ?rest0
    case hi0 => (simp only [List.getElem?_toArray, List.getElem?_cons_zero]; rfl)
    case hQ0 => exact fun _ _ _ h => h
    case hy0 => first | (refine Or.inr ⟨by rfl, ?_⟩; rfl) | (refine Or.inl ⟨by rfl, ?_⟩; intro w hSw; (try dsimp only at hSw); go_simp; (try with_reducible rfl))
    try simp only [Act.put, List.setIfInBounds_toArray, List.set_cons_zero, List.set_cons_succ]
    refine wpAnyH_take (i := 1) (oi := ?oi1) (v := ?v1) ?hi1 (by kernel_rfl) (by kernel_rfl) (by kernel_rfl) ?hQ1 ?hy1 (by assumption) ?rest1
    case hi1 => (simp only [List.getElem?_toArray, List.getElem?_cons_succ, List.getElem?_cons_zero]; rfl)
    case hQ1 => exact fun _ _ _ h => h
    case hy1 => first | (refine Or.inr ⟨by rfl, ?_⟩; rfl) | (refine Or.inl ⟨by rfl, ?_⟩; intro w hSw; (try dsimp only at hSw); go_simp; (try with_reducible rfl))
    try simp only [Act.put, List.setIfInBounds_toArray, List.set_cons_zero, List.set_cons_succ]
    refine wpAnyH_take (i := 2) (oi := ?oi2) (v := ?v2) ?hi2 (by kernel_rfl) (by kernel_rfl) (by kernel_rfl) ?hQ2 ?hy2 (by assumption) ?rest2
    case hi2 => (simp only [List.getElem?_toArray, List.getElem?_cons_succ, List.getElem?_cons_zero]; rfl)
    case hQ2 => exact fun _ _ _ h => h
    case hy2 => first | (refine Or.inr ⟨by rfl, ?_⟩; rfl) | (refine Or.inl ⟨by rfl, ?_⟩; intro w hSw; (try dsimp only at hSw); go_simp; (try with_reducible rfl))
    try simp only [Act.put, List.setIfInBounds_toArray, List.set_cons_zero, List.set_cons_succ]
    refine wpAnyH_take (i := 3) (oi := ?oi3) (v := ?v3) ?hi3 (by kernel_rfl) (by kernel_rfl) (by kernel_rfl) ?hQ3 ?hy3 (by assumption) ?rest3
    case hi3 => (simp only [List.getElem?_toArray, List.getElem?_cons_succ, List.getElem?_cons_zero]; rfl)
    case hQ3 => exact fun _ _ _ h => h
    case hy3 => first | (refine Or.inr ⟨by rfl, ?_⟩; rfl) | (refine Or.inl ⟨by rfl, ?_⟩; intro w hSw; (try dsimp only at hSw); go_simp; (try with_reducible rfl))
    try simp only [Act.put, List.setIfInBounds_toArray, List.set_cons_zero, List.set_cons_succ]
    refine wpAnyH_take (i := 4) (oi := ?oi4) (v := ?v4) ?hi4 (by kernel_rfl) (by kernel_rfl) (by kernel_rfl) ?hQ4 ?hy4 (by assumption) ?rest4
    case hi4 => (simp only [List.getElem?_toArray, List.getElem?_cons_succ, List.getElem?_cons_zero]; rfl)
    case hQ4 => exact fun _ _ _ h => h
    case hy4 => first | (refine Or.inr ⟨by rfl, ?_⟩; rfl) | (refine Or.inl ⟨by rfl, ?_⟩; intro w hSw; (try dsimp only at hSw); go_simp; (try with_reducible rfl))
    try simp only [Act.put, List.setIfInBounds_toArray, List.set_cons_zero, List.set_cons_succ]
    refine wpAnyH_ready (rs := [5]) (by kernel_rfl) (by simp) (AllReadyH.cons rfl (fun K hK => ?_) AllReadyH.nil)
    go_simp
    (refine (new_any seed f fl cf (fun _ => True) [] _ (by simp) (HR.out.kept K3.out.drew (fun _ _ _ h => h)) HU.out (by omega)).mono ?_; rintro e w6 ⟨tb, rfl, htb, ht, hk6⟩; have hS6 := keep3 hk6 hSr; have hbt := HO.out.bk.ltb; have hgt := HO.out.bk.ltg; have hw5 := HO.out.kp.size; have htb' : w5.heap.size ≤ tb := htb; have HO6 := Lib.hid ((HO.out.look ((Kept.refl (M := fun _ => False) w5).drew)).look hk6); have HT := Lib.hid (show TOwn w2 w6 tb ⟨seed, fl, 0⟩ [tb] from ⟨ht, by simpa using ht.lt, HO6.out.kp, by omega⟩); clear ht)
    try go_wp2_with fail
    refine hK.out _ _ (by first | exact hS7 | exact hS6 | exact hSr) (fun hHeld => ?_)
    clear hK K
    try simp only [Act.put, List.setIfInBounds_toArray, List.set_cons_zero, List.set_cons_succ]
    refine wpAnyH_ready (rs := [6]) (by kernel_rfl) (by simp) (AllReadyH.cons rfl (fun K hK => ?_) AllReadyH.nil)
    go_simp
    (refine (order_new HO6 tb _ [tb] (Lib.hid ⟨HT.out.tp, HT.out.lt, by omega, by omega, HT.out.lo, by show (0 : Nat) + 9 < _; decide⟩) l1 HL1.out).mono ?_; rintro e w7 ⟨ao, cp, rfl, hc, ho, -, hk7⟩; have hk67 := Kept.new (Kept.of_drew hk6) hk7 htb'; have hS7 := keep3 hk67 hSr; rw [HLN.out] at hc)
    try go_wp2_with fail
    refine hK.out _ _ (by first | exact hS7 | exact hS6 | exact hSr) (fun hHeld => ?_)
    clear hK K
    try simp only [Act.put, List.setIfInBounds_toArray, List.set_cons_zero, List.set_cons_succ]
    refine wpAnyH_take (i := 7) (oi := ?oi7) (v := ?v7) ?hi7 (by kernel_rfl) (by kernel_rfl) (by kernel_rfl) ?hQ7 ?hy7 (by assumption) ?rest7
    case hi7 => (simp only [List.getElem?_toArray, List.getElem?_cons_succ, List.getElem?_cons_zero]; rfl)
    case hQ7 => exact fun _ _ _ h => h
    case hy7 => first | (refine Or.inr ⟨by rfl, ?_⟩; rfl) | (refine Or.inl ⟨by rfl, ?_⟩; intro w hSw; (try dsimp only at hSw); go_simp; (try with_reducible rfl))
    try simp only [Act.put, List.setIfInBounds_toArray, List.set_cons_zero, List.set_cons_succ]
    refine wpAnyH_done (by kernel_rfl) ?_ _

    rw [HLN.out]
    replace HO := Lib.hid ho
    have HC := Lib.hid hc
    replace HM := Lib.hid (HM.out.look hk67)
    replace K3 := Lib.hid (K3.out.trans hk67)
    clear hc ho hk7 hk6 hk67 HT HO6 hHeld
    obtain ⟨hc7, c4, c5⟩ := hS7
    have HCB := Lib.hid hc7
    clear hc7
    go_wp2_with fail
    refine (new_any seed f fl cf (fun _ => True) [] w7 (by simp) (HR.out.kept K3.out (fun _ _ _ h => h)) HU.out (by omega)).mono ?_
    rintro e w8 ⟨ub, rfl, hub, ht, hk8⟩
    have HT := Lib.hid (show Tape w8 ub ⟨seed, fl, 0⟩ [ub] ∧ ∀ k ∈ [ub], k < w8.heap.size from ⟨ht, by simpa using ht.lt⟩)
    clear ht c4 c5
    go_wp2_with fail
    refine (shuf_own ub n hm9 ⟨seed, fl, 0⟩ [ub] w8 HT (by show (0 : Nat) + n < _; omega)).mono ?_
    rintro e w9 ⟨ash, csh, rfl, hsh, -, hk9⟩
    have hk79 := hk8.new hk9 hub
    replace HO := Lib.hid (HO.out.look hk79)
    replace HC := Lib.hid (HC.out.look hk79)
    replace HM := Lib.hid (HM.out.look hk79)
    replace K3 := Lib.hid (K3.out.trans hk79)
    have hcb8 := hk79.cell HCB.out id
    replace HCB := Lib.hid hcb8
    obtain ⟨sh, hshe⟩ : ∃ sh, (shuffleL n ⟨seed, fl, 0⟩).1 = sh := ⟨_, rfl⟩
    rw [hshe] at hsh
    have HSE := Lib.hid hshe
    have HSH := Lib.hid hsh
    clear hk8 hk9 hk79 hcb8 hsh hshe HT
    obtain ⟨i0, hi, hz0, hz1, hz2⟩ := info_parts info_int12
    go_wp2_with (at_make; go_must (refine wpList_make_blk rfl _ _ _ rfl 3 i0 (.int .i64 0) 8 Try.underlying33 hi hz0 hz1 hz2 rfl 9 rfl rfl (by omega) (by omega) ?_); intro w10 hb hk10 hsz)
    clear hi hz0 hz1 hz2
    obtain ⟨ga, hga⟩ : ∃ ga, w9.heap.size = ga := ⟨_, rfl⟩
    have HGA := Lib.hid hga
    rw [hga] at hb hsz ⊢
    have HB := Lib.hid hb
    have HK10 := Lib.hid hk10
    clear hb hga hk10
    go_loopw [13] (fun c wr => ∃ (k : Nat) (z : List Int), k ≤ n ∧ c = .int .i64 k ∧ z.length = 9 ∧ Blk wr ga 3 (z.map (.int .i64)) ∧ Kept (fun _ => False) w9 wr ∧ ∀ (j u : Nat), j < k → l1[j]? = some (u : Int) → z[u]? = some (j : Int)) (fun c _ => n - (intOf c).toNat)
    case atStart => exact ⟨0, List.replicate 9 0, by omega, rfl, by simp, by rw [List.map_replicate]; exact HB.out, HK10.out, by intro j u hj; omega⟩
    case round =>
      obtain ⟨k, z, hk, rfl, hzl, hbz, hkr, hz⟩ := hrel
      clear HB HK10
      have KR := Lib.hid hkr
      have HBZ := Lib.hid hbz
      have HZ := Lib.hid hz
      clear hkr hbz hz
      by_cases hlt : k < n
      · have hkl : k < l1.length := by rw [HLN.out]; exact hlt
        obtain ⟨u, hul, hu, hur⟩ := order_mem (S := S) (t := ⟨seed, fl, 0⟩) (x := l1[k]) (by rw [HL1.out]; exact List.getElem_mem hkl)
        have hu9 : u < 9 := by have := HO.out.ok.2.2.2.2.1; omega
        obtain ⟨a1, off, hao, -, ck⟩ := (HC.out.all.kept KR.out (fun _ _ _ h => h)).at (i := k) (v := .int .i64 u) (by rw [List.getElem?_map, List.getElem?_eq_getElem hkl, hu]; rfl)
        have i0 : decide ((u : Int) < 0) = false := by simp
        have i1 : decide (9 ≤ (u : Int)) = false := by simp; omega
        have hzu : u < z.length := by omega
        obtain ⟨zv, hzv⟩ : ∃ zv, z[u]? = some zv := ⟨_, List.getElem?_eq_getElem hzu⟩
        have hcz := HBZ.out.cell u
        have hfz := HBZ.out.free u
        rw [List.getElem?_map, hzv, Option.map_some] at hcz
        clear hzv hzu
        have HUK := Lib.hid (show l1[k]? = some (u : Int) by rw [List.getElem?_eq_getElem hkl, hu])
        subst hao
        clear hu hur
        go_wp2_with fail
        go_roundw
        case measure => simp [intOf]; omega
        case rel =>
          refine ⟨k + 1, z.set u (k : Int), by omega, by go_num, by simpa using hzl, by rw [List.map_set]; exact HBZ.out.set u _, KR.out.fresh (by rw [HGA.out]; exact Nat.le_refl _) _ _, fun j v hj hv => ?_⟩
          by_cases hjk : j = k
          · subst hjk
            have := HUK.out
            rw [hv] at this
            simp only [Option.some.injEq, Int.natCast_inj] at this
            subst this
            simp [show v < z.length by omega]
          · have hne : u ≠ v := fun e => by
              subst e
              obtain ⟨q1, q2⟩ := List.getElem?_eq_some_iff.1 hv
              obtain ⟨q3, q4⟩ := List.getElem?_eq_some_iff.1 HUK.out
              have hap := order_nodup S ⟨seed, fl, 0⟩
              rw [HL1.out] at hap
              unfold List.Nodup at hap
              rw [List.pairwise_iff_getElem] at hap
              exact hap j k q1 q3 (by omega) (q2.trans q4.symm)
            rw [List.getElem?_set_ne hne]
            exact HZ.out j v (by omega) hv
      · obtain rfl : n = k := by omega
        clear hlt hk
        go_wp2_with fail
        have HFZ := Lib.hid (show FarTo S (usL S ⟨seed, fl, 0⟩) 0 from fun a b u v h => absurd h (Nat.not_lt_zero _))
        obtain ⟨w11, hw11⟩ : ∃ w11, wr = w11 := ⟨_, rfl⟩
        rw [hw11] at KR HBZ ⊢
        clear hw11
        have hga11 := HBZ.out.lt
        go_loopw [11, 14, 15, 16, 17] (fun v11 v14 _ _ _ wr => ∃ (i : Nat) (un : Bool), i ≤ n ∧ v11 = .bool un ∧ v14 = .int .i64 i ∧ Kept (fun _ => False) w11 wr ∧ (un = true → FarTo S (usL S ⟨seed, fl, 0⟩) i)) (fun _ v14 _ _ _ _ => n - (intOf v14).toNat)
        case atStart => exact ⟨0, true, by omega, rfl, rfl, Kept.refl _, fun _ => HFZ.out⟩
        case round =>
          obtain ⟨i, un, hi, rfl, rfl, hkw, hfa⟩ := hrel
          have KW := Lib.hid hkw
          have HFA := Lib.hid hfa
          clear hkw hfa
          by_cases hin : i < n
          · have HFI := Lib.hid (show un = true → FarTo S (usL S ⟨seed, fl, 0⟩) i ∧ ∀ (q : Nat) (u v : Int), i < q → q < i + 1 → (usL S ⟨seed, fl, 0⟩)[i]? = some u → (usL S ⟨seed, fl, 0⟩)[q]? = some v → (S.cand u).key ≠ (S.cand v).key from fun h => ⟨HFA.out h, fun q u v h1 h2 => by omega⟩)
            go_wp2_with fail
            go_loopw [11, 15, 16, 17] (fun v11 v15 _ _ wr => ∃ (k : Nat) (un : Bool), i + 1 ≤ k ∧ k ≤ n ∧ v11 = .bool un ∧ v15 = .int .i64 k ∧ Kept (fun _ => False) w11 wr ∧ (un = true → FarTo S (usL S ⟨seed, fl, 0⟩) i ∧ ∀ (q : Nat) (u v : Int), i < q → q < k → (usL S ⟨seed, fl, 0⟩)[i]? = some u → (usL S ⟨seed, fl, 0⟩)[q]? = some v → (S.cand u).key ≠ (S.cand v).key)) (fun _ v15 _ _ _ => n - (intOf v15).toNat)
            case atStart => exact ⟨i + 1, un, by omega, by omega, rfl, by go_num, KW.out, HFI.out⟩
            case round =>
              obtain ⟨k, un2, hik, hk, rfl, rfl, hkx, hfk⟩ := hrel
              clear KW HFA HFI
              have KX := Lib.hid hkx
              have HFK := Lib.hid hfk
              clear hkx hfk
              by_cases hkn : k < n
              · have hmlen : (mayL S.l).length = n := by rw [HML.out, HN.out]
                obtain ⟨a1, u, iu, hs1, ha1, hm1, hul, hus1, hiu, hlu⟩ := us_at (S := S) (t := ⟨seed, fl, 0⟩) (i := i) (by omega)
                obtain ⟨a2, v, iv, hs2, ha2, hm2, hvl, hus2, hiv, hlv⟩ := us_at (S := S) (t := ⟨seed, fl, 0⟩) (i := k) (by omega)
                have hst := fun h => order_stable (S := S) (t := ⟨seed, fl, 0⟩) (show i < k by omega) hus1 hus2 h hlu hlv
                rw [hmlen] at hs1 ha1 hs2 ha2
                rw [HSE.out] at hs1 hs2
                rw [HML.out] at hm1 hm2
                rw [HL1.out] at hlu hlv hiu hiv
                rw [HLN.out] at hiu hiv
                have hl9 : S.l.length ≤ 9 := HO.out.ok.2.2.2.2.1
                have hu9 : u < 9 := by omega
                have hv9 : v < 9 := by omega
                have KK := KR.out.trans KX.out
                have HOr := Lib.hid (HO.out.look KK)
                have HCBr := Lib.hid (KK.cell HCB.out id)
                obtain ⟨bs, os, e1, -, p1⟩ := (HSH.out.kept KK (fun _ _ _ h => h)).at (i := i) (v := .int .i64 a1) (by rw [List.getElem?_map, hs1]; rfl)
                subst e1
                obtain ⟨bs', os', e1, -, p2⟩ := (HSH.out.kept KK (fun _ _ _ h => h)).at (i := k) (v := .int .i64 a2) (by rw [List.getElem?_map, hs2]; rfl)
                simp only [Option.some.injEq, Addr.mk.injEq, and_true] at e1
                obtain ⟨rfl, rfl⟩ := e1
                obtain ⟨bm, om, e1, -, p3⟩ := (HM.out.all.kept KK (fun _ _ _ h => h)).at (i := a1) (v := .int .i64 u) (by rw [List.getElem?_map, hm1]; rfl)
                subst e1
                obtain ⟨bm', om', e1, -, p4⟩ := (HM.out.all.kept KK (fun _ _ _ h => h)).at (i := a2) (v := .int .i64 v) (by rw [List.getElem?_map, hm2]; rfl)
                simp only [Option.some.injEq, Addr.mk.injEq, and_true] at e1
                obtain ⟨rfl, rfl⟩ := e1
                have hz1 := HZ.out iu u hiu hlu
                have hz2 := HZ.out iv v hiv hlv
                have hb1 := (HBZ.out.kept KX.out id).cell u
                have hb2 := (HBZ.out.kept KX.out id).cell v
                rw [List.getElem?_map, hz1] at hb1
                rw [List.getElem?_map, hz2] at hb2
                simp only [Option.map_some] at hb1 hb2
                have HB1 := Lib.hid hb1
                have HB2 := Lib.hid hb2
                have HU1 := Lib.hid hus1
                have HU2 := Lib.hid hus2
                have HST := Lib.hid hst
                obtain ⟨r, hr⟩ : ∃ r, decide ((S.cand (u : Int)).key = (S.cand (v : Int)).key) = r := ⟨_, rfl⟩
                have HR' := Lib.hid hr
                clear KK hmlen hs1 hs2 hm1 hm2 hlu hlv hz1 hz2 hb1 hb2 hus1 hus2 hst hul hvl hl9 hr
                go_wp2_with fail
                go_quiet (fail)
                go_wp2_with fail
                refine (same_any (Lib.hid (HOr.out.look ((Kept.refl (M := fun _ => False) _).drewN _))) cb (Lib.hid (show _ = _ from HCBr.out)) u v r (by rw [same_key HO.out.ok]; exact HR'.out)).mono ?_
                rintro e wx ⟨rfl, hkc⟩
                have hkx := KX.out.trans hkc.of_drewN
                have hb1 := hkc.of_drewN.cell HB1.out id
                have hb2 := hkc.of_drewN.cell HB2.out id
                have HKX := Lib.hid hkx
                clear hkc hkx p1 p2 p3 p4 HOr HCBr KX HB1 HB2
                cases r
                · have HQ := Lib.hid (show un2 = true → FarTo S (usL S ⟨seed, fl, 0⟩) i ∧ ∀ (q : Nat) (u v : Int), i < q → q < k + 1 → (usL S ⟨seed, fl, 0⟩)[i]? = some u → (usL S ⟨seed, fl, 0⟩)[q]? = some v → (S.cand u).key ≠ (S.cand v).key from by
                    intro h
                    obtain ⟨h1, h2⟩ := HFK.out h
                    refine ⟨h1, fun q x y hq1 hq2 hx hy => ?_⟩
                    rcases Nat.lt_or_ge q k with h3 | h3
                    · exact h2 q x y hq1 h3 hx hy
                    · obtain rfl : q = k := by omega
                      have e1 := hx.symm.trans HU1.out
                      have e2 := hy.symm.trans HU2.out
                      simp only [Option.some.injEq] at e1 e2
                      subst e1 e2
                      have := HR'.out
                      simpa using this)
                  clear hb1 hb2
                  go_wp2_with fail
                  go_roundw
                  case measure => simp [intOf]; omega
                  case rel => exact ⟨k + 1, un2, by omega, by omega, rfl, by go_num, HKX.out, HQ.out⟩
                · have hiv' : iu < iv := HST.out (by have := HR'.out; simpa using this)
                  have d1 : decide ((iv : Int) < (iu : Int)) = false := by simp; omega
                  clear hiv'
                  generalize (iv : Int) = x2 at d1 hb2
                  generalize (iu : Int) = x1 at d1 hb1
                  go_wp2_with fail
                  go_quiet (fail)
                  go_wp2_with fail
                  go_roundw
                  case measure => simp [intOf]; omega
                  case rel => exact ⟨k + 1, false, by omega, by omega, rfl, by go_num, HKX.out.drewN _, fun h => by cases h⟩
              · obtain rfl : n = k := by omega
                clear hkn
                go_wp2_with fail
                go_roundw
                case measure => simp [intOf]; omega
                case rel =>
                  refine ⟨i + 1, un2, by omega, rfl, by go_num, KX.out, fun h => ?_⟩
                  obtain ⟨h1, h2⟩ := HFK.out h
                  intro a b u v ha hab hu hv
                  rcases Nat.lt_or_ge a i with h3 | h3
                  · exact h1 a b u v h3 hab hu hv
                  · obtain rfl : a = i := by omega
                    have hbn : b < n := by
                      have h4 := (List.getElem?_eq_some_iff.1 hv).1
                      have h5 := (us_perm S ⟨seed, fl, 0⟩).length_eq
                      rw [HML.out, HN.out] at h5
                      omega
                    exact h2 b u v hab hbn hu hv
          · obtain rfl : n = i := by omega
            clear hin
            replace KR := Lib.hid (KR.out.trans KW.out)
            clear KW
            have hl9 : S.l.length ≤ 9 := HO.out.ok.2.2.2.2.1
            cases un
            · have K9 := Lib.hid (K3.out.trans KR.out)
              go_wp2_with fail
              go_quiet (fail)
              go_wp2_with fail
              go_ret
              exact ⟨rfl, K9.out.drewN _⟩
            · have hfar := HFA.out rfl
              have HL2 := Lib.hid (show orderL S ⟨sd, [], 0⟩ = l1 by
                rw [← HL1.out]
                refine (order_unlike fun i k u v hik hi hk => ?_).symm
                have h4 := (List.getElem?_eq_some_iff.1 hi).1
                have h5 := (us_perm S ⟨seed, fl, 0⟩).length_eq
                rw [HML.out, HN.out] at h5
                exact hfar i k u v (by omega) hik hi hk)
              have HOr := Lib.hid (HO.out.look KR.out)
              have HCBr := Lib.hid (KR.out.cell HCB.out id)
              clear hfar HFA
              go_wp2_with fail
              have g1 := HCBr.out
              refine wp_region_held_drew (S := fun w' => w'.cell? ⟨cb, 0, none⟩ = some (.pointer (some ⟨b, 0, none⟩))) (by kernel_rfl) (by first | exact hSc | exact hSb | exact hSa | exact HCBr.out) (fun hHeld => ?_)
              refine wpAnyH_take (i := 0) (oi := ?zoi0) (v := ?zv0) ?zhi0 (by kernel_rfl) (by kernel_rfl) (by kernel_rfl) ?zhQ0 ?zhy0 (by assumption) ?zrest0
              case zhi0 => (simp only [List.getElem?_toArray, List.getElem?_cons_zero]; rfl)
              case zhQ0 => exact fun _ _ _ h => h
              case zhy0 => first | (refine Or.inr ⟨by rfl, ?_⟩; rfl) | (refine Or.inl ⟨by rfl, ?_⟩; intro w hSw; (try dsimp only at hSw); go_simp; (try with_reducible rfl))
              try simp only [Act.put, List.setIfInBounds_toArray, List.set_cons_zero, List.set_cons_succ]
              refine wpAnyH_take (i := 1) (oi := ?zoi1) (v := ?zv1) ?zhi1 (by kernel_rfl) (by kernel_rfl) (by kernel_rfl) ?zhQ1 ?zhy1 (by assumption) ?zrest1
              case zhi1 => (simp only [List.getElem?_toArray, List.getElem?_cons_succ, List.getElem?_cons_zero]; rfl)
              case zhQ1 => exact fun _ _ _ h => h
              case zhy1 => first | (refine Or.inr ⟨by rfl, ?_⟩; rfl) | (refine Or.inl ⟨by rfl, ?_⟩; intro w hSw; (try dsimp only at hSw); go_simp; (try with_reducible rfl))
              try simp only [Act.put, List.setIfInBounds_toArray, List.set_cons_zero, List.set_cons_succ]
              refine wpAnyH_take (i := 2) (oi := ?zoi2) (v := ?zv2) ?zhi2 (by kernel_rfl) (by kernel_rfl) (by kernel_rfl) ?zhQ2 ?zhy2 (by assumption) ?zrest2
              case zhi2 => (simp only [List.getElem?_toArray, List.getElem?_cons_succ, List.getElem?_cons_zero]; rfl)
              case zhQ2 => exact fun _ _ _ h => h
              case zhy2 => first | (refine Or.inr ⟨by rfl, ?_⟩; rfl) | (refine Or.inl ⟨by rfl, ?_⟩; intro w hSw; (try dsimp only at hSw); go_simp; (try with_reducible rfl))
              try simp only [Act.put, List.setIfInBounds_toArray, List.set_cons_zero, List.set_cons_succ]
              refine wpAnyH_take (i := 3) (oi := ?zoi3) (v := ?zv3) ?zhi3 (by kernel_rfl) (by kernel_rfl) (by kernel_rfl) ?zhQ3 ?zhy3 (by assumption) ?zrest3
              case zhi3 => (simp only [List.getElem?_toArray, List.getElem?_cons_succ, List.getElem?_cons_zero]; rfl)
              case zhQ3 => exact fun _ _ _ h => h
              case zhy3 => first | (refine Or.inr ⟨by rfl, ?_⟩; rfl) | (refine Or.inl ⟨by rfl, ?_⟩; intro w hSw; (try dsimp only at hSw); go_simp; (try with_reducible rfl))
              try simp only [Act.put, List.setIfInBounds_toArray, List.set_cons_zero, List.set_cons_succ]
              refine wpAnyH_take (i := 4) (oi := ?zoi4) (v := ?zv4) ?zhi4 (by kernel_rfl) (by kernel_rfl) (by kernel_rfl) ?zhQ4 ?zhy4 (by assumption) ?zrest4
              case zhi4 => (simp only [List.getElem?_toArray, List.getElem?_cons_succ, List.getElem?_cons_zero]; rfl)
              case zhQ4 => exact fun _ _ _ h => h
              case zhy4 => first | (refine Or.inr ⟨by rfl, ?_⟩; rfl) | (refine Or.inl ⟨by rfl, ?_⟩; intro w hSw; (try dsimp only at hSw); go_simp; (try with_reducible rfl))
              try simp only [Act.put, List.setIfInBounds_toArray, List.set_cons_zero, List.set_cons_succ]
              refine wpAnyH_take (i := 5) (oi := ?zoi5) (v := ?zv5) ?zhi5 (by kernel_rfl) (by kernel_rfl) (by kernel_rfl) ?zhQ5 ?zhy5 (by assumption) ?zrest5
              case zhi5 => (simp only [List.getElem?_toArray, List.getElem?_cons_succ, List.getElem?_cons_zero]; rfl)
              case zhQ5 => exact fun _ _ _ h => h
              case zhy5 => first | (refine Or.inr ⟨by rfl, ?_⟩; rfl) | (refine Or.inl ⟨by rfl, ?_⟩; intro w hSw; (try dsimp only at hSw); go_simp; (try with_reducible rfl))
              try simp only [Act.put, List.setIfInBounds_toArray, List.set_cons_zero, List.set_cons_succ]
              refine wpAnyH_ready (rs := [6]) (by kernel_rfl) (by simp) (AllReadyH.cons rfl (fun K hK => ?_) AllReadyH.nil)
              go_simp
              (refine (new_any sd none [] 0 (fun _ => True) [] _ (by simp) (RowU.nil _ _) ⟨u64_of_wf hsd, by simp⟩ (by simp)).mono ?_; rintro e wa ⟨tb2, rfl, htb, ht, hka⟩; have hSa := hka.cell (show wr.drew.cell? _ = _ from HCBr.out) id; have hbt := HOr.out.bk.ltb; have hgt := HOr.out.bk.ltg; have hwr := HOr.out.kp.size; have htb' : wr.heap.size ≤ tb2 := htb; have HOa := Lib.hid ((HOr.out.look ((Kept.refl (M := fun _ => False) wr).drew)).look hka); have HTa := Lib.hid (show TOwn w2 wa tb2 ⟨sd, [], 0⟩ [tb2] from ⟨ht, by simpa using ht.lt, HOa.out.kp, by omega⟩); clear ht)
              try go_wp2_with fail
              refine hK.out _ _ (by first | exact hSc | exact hSb | exact hSa | exact HCBr.out) (fun hHeld => ?_)
              clear hK K
              try simp only [Act.put, List.setIfInBounds_toArray, List.set_cons_zero, List.set_cons_succ]
              refine wpAnyH_ready (rs := [7]) (by kernel_rfl) (by simp) (AllReadyH.cons rfl (fun K hK => ?_) AllReadyH.nil)
              go_simp
              (refine (order_new HOa tb2 _ [tb2] (Lib.hid ⟨HTa.out.tp, HTa.out.lt, by omega, by omega, HTa.out.lo, by show (0 : Nat) + 9 < _; decide⟩) l1 HL2.out).mono ?_; rintro e wb ⟨ao2, cp2, rfl, hc2, ho2, -, hkb⟩; have hkab := Kept.new (Kept.of_drew hka) hkb htb'; have hSb := hkab.cell HCBr.out id; have HCb := Lib.hid (HC.out.look (KR.out.trans hkab)); rw [HLN.out] at hc2; have HC2 := Lib.hid hc2; have HOb := Lib.hid ho2; clear hc2 ho2; rw [HLN.out])
              try go_wp2_with fail
              refine hK.out _ _ (by first | exact hSc | exact hSb | exact hSa | exact HCBr.out) (fun hHeld => ?_)
              clear hK K
              try simp only [Act.put, List.setIfInBounds_toArray, List.set_cons_zero, List.set_cons_succ]
              refine wpAnyH_ready (rs := [8]) (by kernel_rfl) (by simp) (AllReadyH.cons rfl (fun K hK => ?_) AllReadyH.nil)
              go_simp
              (refine (ints_len20a ao ao2 l1 l1 n n cp cp2 HLN.out HLN.out _ HCb.out.all HC2.out.all (by omega) (by omega)).mono ?_; rintro e wc ⟨rfl, hkc⟩; have d1 : decide (l1 = l1) = true := (by simp); rw [d1]; have hSc := hkc.cell hSb id)
              try go_wp2_with fail
              refine hK.out _ _ (by first | exact hSc | exact hSb | exact hSa | exact HCBr.out) (fun hHeld => ?_)
              clear hK K
              try simp only [Act.put, List.setIfInBounds_toArray, List.set_cons_zero, List.set_cons_succ]
              refine wpAnyH_take (i := 9) (oi := ?zoi9) (v := ?zv9) ?zhi9 (by kernel_rfl) (by kernel_rfl) (by kernel_rfl) ?zhQ9 ?zhy9 (by assumption) ?zrest9
              case zhi9 => (simp only [List.getElem?_toArray, List.getElem?_cons_succ, List.getElem?_cons_zero]; rfl)
              case zhQ9 => exact fun _ _ _ h => h
              case zhy9 => first | (refine Or.inr ⟨by rfl, ?_⟩; rfl) | (refine Or.inl ⟨by rfl, ?_⟩; intro w hSw; (try dsimp only at hSw); go_simp; (try with_reducible rfl))
              try simp only [Act.put, List.setIfInBounds_toArray, List.set_cons_zero, List.set_cons_succ]
              refine wpAnyH_take (i := 10) (oi := ?zoi10) (v := ?zv10) ?zhi10 (by kernel_rfl) (by kernel_rfl) (by kernel_rfl) ?zhQ10 ?zhy10 (by assumption) ?zrest10
              case zhi10 => (simp only [List.getElem?_toArray, List.getElem?_cons_succ, List.getElem?_cons_zero]; rfl)
              case zhQ10 => exact fun _ _ _ h => h
              case zhy10 => first | (refine Or.inr ⟨by rfl, ?_⟩; rfl) | (refine Or.inl ⟨by rfl, ?_⟩; intro w hSw; (try dsimp only at hSw); go_simp; (try with_reducible rfl))
              try simp only [Act.put, List.setIfInBounds_toArray, List.set_cons_zero, List.set_cons_succ]
              refine wpAnyH_done (by kernel_rfl) ?_ _
              go_wp2_with fail
              go_ret
              exact ⟨rfl, (K3.out.trans (KR.out.trans hkab)).trans hkc⟩
  · refine (long20_any ups limit rest seed a f _ ca _ cf true hr _).mono ?_
    rintro e w1 ⟨rfl, hk1⟩
    go_wp2_with fail
    refine (awake20_any _).mono ?_
    rintro e w2 ⟨rfl, hk2⟩
    go_wp2_with fail
    go_ret
    exact ⟨rfl, (K0.out.trans hk1).trans hk2⟩
end Go.Proofs.Ytnpmimjhpnhdkaa
