/- PendPlays, walked. -/
import Derived.Test.YthgioaaenfdcdaaAlike29
namespace Go.Proofs.Ythgioaaenfdcdaa
open Go.RowKit Go.Maps

set_option maxRecDepth 100000 in
set_option maxHeartbeats 4000000 in
theorem plays29_walk {H : Type} {enc : TypeId × Value → H} {d : DataW H} {p : List MemPlace} (w : World) (ups : Int) (_ : (Lit.int .i64 ups).wf = true) (seed : Int) (hseed : (Lit.int .u64 seed).wf = true) (ao : Option Addr) (lenf capf : Nat) (zs : List Int) (hzs : IsRow .u64 w ao lenf capf zs)
    (a : Option Addr) (len cap : Nat) (hk : DataW.Trod enc Try.prog w 0 (fun _ => true) true 24 (.slice a len cap) d p) :
    Calls Try.prog 7 #[.int .i64 ups, .int .u64 seed, .slice ao lenf capf, .slice a len cap] w fun e w' => e = .returned (.bool true) ∧ Kept (fun _ => False) w w' := by
  obtain ⟨l, rfl, hacts⟩ := pacts_of (Reads.of hk)
  obtain ⟨first, rfl, hrow, hf64⟩ := rowU_of_isRow hzs
  have HA := Lib.hid hacts
  have HF := Lib.hid hrow
  have HOKU := Lib.hid (And.intro (u64_of_wf hseed) hf64)
  clear hk hacts hzs hrow hf64 hseed
  by_cases h0 : 200 < l.length
  · have hb0 : decide (200 < (l.length : Int)) = true := by simp; omega
    clear h0
    go_enter Try.func7, Try.ntmps7
    go_wp2_with fail
    refine (pawake_any _).mono ?_
    rintro e w1 ⟨rfl, hk⟩
    go_wp2_with fail
    go_ret
    exact ⟨rfl, hk⟩
  have hb0 : decide (200 < (l.length : Int)) = false := by simp; omega
  by_cases h1 : 300 < first.length
  · have hb1 : decide (300 < (first.length : Int)) = true := by simp; omega
    clear h0 h1
    go_enter Try.func7, Try.ntmps7
    go_wp2_with fail
    refine (pawake_any _).mono ?_
    rintro e w1 ⟨rfl, hk⟩
    go_wp2_with fail
    go_ret
    exact ⟨rfl, hk⟩
  have hb1 : decide (300 < (first.length : Int)) = false := by simp; omega
  by_cases hbad : ups < 1 ∨ 9 < ups
  · go_enter Try.func7, Try.ntmps7
    go_wp2_with fail
    refine (pnew_bad ups hbad _).mono ?_
    rintro e w1 ⟨rfl, rfl⟩
    go_wp2_with fail
    refine (rnew29_no ups hbad _).mono ?_
    rintro e w1 ⟨rfl, rfl⟩
    go_wp2_with fail
    refine (pawake_any _).mono ?_
    rintro e w1 ⟨rfl, hk⟩
    go_wp2_with fail
    go_ret
    exact ⟨rfl, hk⟩
  obtain ⟨n, rfl⟩ := Int.eq_ofNat_of_zero_le (show 0 ≤ ups by omega)
  have hn1 : 1 ≤ n := by omega
  have hn9 : n ≤ 9 := by omega
  have hfl : first.length ≤ 10000000000000 := by omega
  clear hbad
  go_enter Try.func7, Try.ntmps7
  go_wp2_with fail
  refine (pown_new (Lib.hid (Kept.refl w)) n hn1 hn9).mono ?_
  rintro e w1 ⟨S, rfl, ho, hfS, hk1⟩
  have HO := Lib.hid ho
  have K1 := Lib.hid hk1
  have HSl1 := Lib.hid (show ∀ k, S.foot k → k < w1.heap.size from fun k hk => ho.lt hk)
  clear ho hk1 hfS
  go_wp2_with fail
  refine (rnew29_any n hn1 hn9 w1).mono ?_
  rintro e w2 ⟨rfl, hrt, hk2⟩
  replace HO := Lib.hid (HO.out.look hk2)
  have HSlt := Lib.hid (fun k (hk : S.foot k) => (HO.out.lt hk : k < w2.heap.size))
  have HRT := Lib.hid hrt
  have K2 := Lib.hid (K1.out.trans hk2)
  have hbl := hrt.lt (.inl rfl)
  have hz12 := K1.out.size
  obtain ⟨b, hb⟩ : ∃ b, w1.heap.size = b := ⟨_, rfl⟩
  rw [hb] at HRT hbl hz12 HSl1 ⊢
  clear hrt hk2 hb
  go_wp2_with fail
  refine (new_any seed ao first capf (fun _ => True) (b :: S.bs) w2 (fun k hk => by
    rcases List.mem_cons.1 hk with rfl | hk
    · exact hbl
    · exact HSlt.out k (foot_bs hk)) (HF.out.kept K2.out (fun _ _ _ => id)) HOKU.out hfl).mono ?_
  rintro e w3 ⟨tb, rfl, htb, ht, hk3⟩
  have HT := Lib.hid ht
  replace HO := Lib.hid (HO.out.look hk3)
  replace HRT := Lib.hid (HRT.out.look hk3)
  have K3 := Lib.hid (K2.out.trans hk3)
  have HL3 := Lib.hid (show ∀ k ∈ tb :: b :: S.bs, k < w3.heap.size from fun k hk => by
    rcases List.mem_cons.1 hk with rfl | hk
    · exact ht.lt
    · rcases List.mem_cons.1 hk with rfl | hk
      · exact hk3.lt hbl
      · exact hk3.lt (HSlt.out k (foot_bs hk)))
  have hz23 := hk3.size
  clear ht hk3
  go_wp2_with fail
  refine (tnew_any seed ao first capf (fun _ => True) (tb :: b :: S.bs) w3 HL3.out (HF.out.kept K3.out (fun _ _ _ => id)) HOKU.out hfl).mono ?_
  rintro e w4 ⟨rb, rfl, hrb, hr, hk4⟩
  have hz34 := hk4.size
  have htw : w.heap.size ≤ tb := by have := K2.out.size; omega
  have HT3 := Lib.hid (show TOwn w w3 tb ⟨seed, first, 0⟩ (tb :: b :: S.bs) from ⟨HT.out, HL3.out, K3.out, htw⟩)
  have hrbl := hr.lt
  have htbl := HT.out.lt
  have HINV := Lib.hid (show PInv w w4 S (List.replicate n []) tb ⟨seed, first, 0⟩ b none n [] rb ⟨seed, first, 0⟩ (rb :: tb :: b :: S.bs) from
    { po := HO.out.look hk4
      to := (HT3.out.look hk4).more rb hrbl (.inr ⟨w3, HT.out, hk4, hrb⟩)
      rt := HRT.out.look hk4
      rp := hr
      bs := fun k hk => List.mem_cons_of_mem _ (List.mem_cons_of_mem _ (List.mem_cons_of_mem _ hk))
      bL := List.mem_cons_of_mem _ (List.mem_cons_of_mem _ List.mem_cons_self)
      tL := List.mem_cons_of_mem _ List.mem_cons_self
      rL := List.mem_cons_self
      d1 := fun h => by have := HSlt.out _ h; omega
      d2 := fun h => by
        rcases h with rfl | h
        · omega
        · cases h
      d3 := fun h => by
        rcases h with rfl | h
        · omega
        · cases h
      d4 := fun x hx h => by
        rcases h with rfl | h
        · have := HSl1.out _ hx; omega
        · cases h
      d5 := fun h => by have := HSlt.out _ h; omega
      d6 := fun e => by omega
      lo := fun x h => by
        rcases h with rfl | h
        · exact hz12
        · cases h
      lr := by omega })
  clear hr hk4 hb0 hb1 HO HT HT3 HRT HL3 HSlt HSl1 HF HOKU K1 K2 K3
  go_wp2_with fail
  go_loopw [9, 11, 15, 16, 17, 18, 19, 20, 21] (fun v9 v11 c _ _ _ _ _ _ wr => ∃ (i : Nat) (S : TblS) (T : List Outs) (s : TapeS) (b : Nat) (ao : Option Addr) (D : List DRec) (L : List Nat), i ≤ l.length ∧ v9 = .pointer (some ⟨S.b, 0, none⟩) ∧ v11 = .pointer (some ⟨b, 0, none⟩) ∧ c = .int .i64 i ∧
      s.used ≤ i ∧ T.length = n ∧ DRel D T ∧ D.length ≤ i ∧ PInv w wr S T tb s b ao n D rb s L) (fun _ _ c _ _ _ _ _ _ _ => l.length - (intOf c).toNat)
  case atStart => exact ⟨0, S, _, _, b, none, [], _, by omega, rfl, rfl, rfl, by simp, by simp, drel_start n, by simp, HINV.out⟩
  case round =>
    clear HINV hbl hz12 hz23 hz34 htb hrb htw hrbl htbl
    obtain ⟨i, S, T, s, b, ao, D, L, hi, rfl, rfl, rfl, hsu, hTn, hdr, hDi, hinv⟩ := hrel
    have HD := Lib.hid hdr
    have hla := HA.out.kept hinv.po.kp
    by_cases hlt : i < l.length
    · obtain ⟨ba, oa, rfl, hba, d0, d1, d2, hk8, hu64, hs64⟩ := hla i hlt
      obtain ⟨x, hx⟩ : ∃ x, l[i] = x := ⟨_, rfl⟩
      rw [hx] at d0 d1 d2 hk8 hu64 hs64
      obtain ⟨xk, xu, xs⟩ := x
      simp only at d0 d1 d2 hk8 hu64 hs64
      have HLT := Lib.hid (fun x (hx : Md S tb b rb x) => hinv.lt hx)
      have hka := (Kept.refl (M := fun _ => False) wr).alloc (.cells #[.int .u8 xk, .int .i64 xu, .int .i64 xs] 33)
      have hsb := new_blk wr (.cells #[.int .u8 xk, .int .i64 xu, .int .i64 xs] 33)
      have HI := Lib.hid (hinv.look hka)
      obtain ⟨sb, hsbe⟩ : ∃ sb, wr.heap.size = sb := ⟨_, rfl⟩
      rw [hsbe] at hsb HLT
      have HNO := Lib.hid (show ¬ Md S tb b rb sb from fun h => by have := HLT.out _ h; omega)
      have HNB := Lib.hid (show ¬ sb ∈ S.bs from fun h => HNO.out (.inl h))
      obtain ⟨w5, hw5⟩ : ∃ w5, wr.alloc (.cells #[.int .u8 xk, .int .i64 xu, .int .i64 xs] 33) = w5 := ⟨_, rfl⟩
      rw [hw5] at HI hsb
      have HSB := Lib.hid hsb
      have hsb5 := lt_of_block hsb
      have q0 := cell_blk hsb 0
      have q1 := cell_blk hsb 1
      have q2 := cell_blk hsb 2
      simp at q0 q1 q2
      have hl200 : D.length ≤ 200 := by omega
      clear hx hla hka hsb hba hinv hdr HLT hn1
      by_cases hk0 : xk = 0
      · subst hk0
        obtain ⟨⟨ri, rr⟩, hr⟩ : ∃ q, drawR T s xu xs = q := ⟨_, rfl⟩
        have HR := Lib.hid hr
        have HD2 := Lib.hid (drawD_rel HD.out s xu xs (by omega))
        have hD2 := HD2.out.2
        have hus2 := actD_used T s xu xs
        have hTl := actD_len T s xu xs
        obtain ⟨⟨T2, s2⟩, hst⟩ : ∃ q, actD T s xu xs = q := ⟨_, rfl⟩
        obtain ⟨D2, hD2e⟩ : ∃ q, drawD D T s xu xs = q := ⟨_, rfl⟩
        have HST := Lib.hid hst
        have HDE := Lib.hid hD2e
        rw [hst] at hus2 hTl HD2
        rw [hD2e] at hD2 HD2
        simp only at hus2 hTl HD2
        have HDR2 := Lib.hid HD2.out.1
        have e1 : (ri != ri) = false := by simp
        have e2 : (rr != rr) = false := by simp
        have e3 : ((s2.used : Int) != (s2.used : Int)) = false := by simp
        have hsu2 : s.used < 9223372036854775807 := by omega
        clear hr hst hD2e
        go_wp2_with fail
        refine (pi_draw HI hsu2 xu xs ri rr HR.out).mono ?_
        rintro e w6 ⟨rfl, hp, hk6⟩
        rw [HST.out] at hp
        replace HI := Lib.hid hp
        have hsb6 := Lib.hid (hk6.heap HSB.out HNO.out)
        have q1 := cell_blk hsb6.out 1
        have q2 := cell_blk hsb6.out 2
        simp at q1 q2
        clear hp hk6
        go_wp2_with fail
        refine (pi_rdraw HI HD hTn (by omega) hsu2 xu xs ri rr HR.out).mono ?_
        rintro e w7 ⟨ao2, rfl, hp, hk7⟩
        rw [HST.out, HDE.out] at hp
        replace HI := Lib.hid hp
        clear hp hk7 q0 q1 q2
        obtain ⟨fs, ra, rc, hr1, _⟩ := HI.out.rp
        have cN := cell_blk hr1 2
        simp at cN
        have HTP := Lib.hid HI.out.to.tp
        clear hr1
        go_wp2_with fail
        go_region_held3 (fun w' => w'.cell? ⟨rb, 2, none⟩ = some (.int .i64 s2.used)) (go_keep)
          ((go_at_call 20; refine (used_any tb s2 L _ ?_).mono ?_; exact HTP.out; rintro e w' ⟨rfl, rfl⟩))
        replace HI := Lib.hid (HI.out.look ((Kept.refl _).drew))
        go_wp2_with fail
        refine (ralike29_any HI HDR2 hn9 (by omega)).mono ?_
        rintro e wz ⟨rfl, hkz⟩
        have HZ := Lib.hid (HI.out.look hkz)
        clear hkz
        go_wp2_with fail
        go_roundw
        case measure => simp [intOf]; omega
        case rel => exact ⟨i + 1, S, T2, s2, b, _, D2, _, by omega, rfl, rfl, by go_num, by omega, by omega, HDR2.out, by omega, HZ.out⟩
      by_cases hk1 : xk = 1
      · subst hk1
        obtain ⟨hf1, hf2⟩ := freedN_ref HD.out xs
        obtain ⟨m, hm⟩ : ∃ m, freedN xs T = m := ⟨_, rfl⟩
        rw [hm] at hf1
        have HM := Lib.hid hm
        have HM2 := Lib.hid hf1.symm
        have hfl2 := freeR_le xs (-1) D
        have HDR2 := Lib.hid hf2
        obtain ⟨D2, hD2e⟩ : ∃ q, freeR xs (-1) D = q := ⟨_, rfl⟩
        obtain ⟨T2, hT2e⟩ : ∃ q, T.map (Outs.free xs) = q := ⟨_, rfl⟩
        have hTl : T2.length = T.length := by rw [← hT2e]; simp
        rw [hD2e] at hfl2 HDR2
        rw [hT2e] at HDR2
        have HDE := Lib.hid hD2e
        have HTE := Lib.hid hT2e
        have e1 : ((m : Int) != (m : Int)) = false := by simp
        have HID := Lib.hid (HI.out.look ((Kept.refl _).drew))
        have q2d : w5.drew.cell? ⟨sb, 2, none⟩ = some (.int .i64 xs) := q2
        clear hm hf1 hf2 hD2e hT2e HI
        go_wp2_with fail
        go_region_held3 (fun w' => w'.cell? ⟨sb, 2, none⟩ = some (.int .i64 xs)) (first | go_keep | exact q6 | exact q7)
          (first
            | (go_at_call 17; refine (pi_free HID xs m HM.out).mono ?_; rintro e w6 ⟨rfl, hp, hk6⟩; have q6 := hk6.cell q2d HNO.out; have HI := Lib.hid hp; clear hp hk6)
            | (go_at_call 24; refine (pi_rfree HI (by omega) xs m HM2.out).mono ?_; rintro e w7 ⟨ao2, rfl, hp, hk7⟩; have q7 := hk7.cell q6 HNO.out; have HI7 := Lib.hid hp; clear hp hk7))
        rw [HDE.out, HTE.out] at HI7
        replace HI := HI7
        clear HI7
        go_wp2_with fail
        refine (ralike29_any HI HDR2 hn9 (by omega)).mono ?_
        rintro e wz ⟨rfl, hkz⟩
        have HZ := Lib.hid (HI.out.look hkz)
        clear hkz
        go_wp2_with fail
        go_roundw
        case measure => simp [intOf]; omega
        case rel => exact ⟨i + 1, S, T2, s, b, _, D2, _, by omega, rfl, rfl, by go_num, by omega, by omega, HDR2.out, by omega, HZ.out⟩
      by_cases hk2 : xk = 2
      · subst hk2
        obtain ⟨hf1, hf2⟩ := freed_ref HD.out xs xu
        obtain ⟨m, hm⟩ : ∃ m, (atT T xu).freed xs = m := ⟨_, rfl⟩
        rw [hm] at hf1
        have HM := Lib.hid hm
        have HM2 := Lib.hid hf1.symm
        have hfl2 : (freeAtR xs xu D).length ≤ D.length := by
          unfold freeAtR
          split
          · exact Nat.le_refl _
          · exact freeR_le xs xu D
        have HDR2 := Lib.hid hf2
        obtain ⟨D2, hD2e⟩ : ∃ q, freeAtR xs xu D = q := ⟨_, rfl⟩
        obtain ⟨T2, hT2e⟩ : ∃ q, freeAtT xs xu T = q := ⟨_, rfl⟩
        have hTl : T2.length = T.length := by rw [← hT2e]; exact freeAtT_len _ _ _
        rw [hD2e] at hfl2 HDR2
        rw [hT2e] at HDR2
        have HDE := Lib.hid hD2e
        have HTE := Lib.hid hT2e
        have e1 : ((m : Int) != (m : Int)) = false := by simp
        have HID := Lib.hid (HI.out.look ((Kept.refl _).drew))
        have q1d : w5.drew.cell? ⟨sb, 1, none⟩ = some (.int .i64 xu) := q1
        have q2d : w5.drew.cell? ⟨sb, 2, none⟩ = some (.int .i64 xs) := q2
        clear hm hf1 hf2 hD2e hT2e HI
        go_wp2_with fail
        go_region_held3 (fun w' => w'.cell? ⟨sb, 2, none⟩ = some (.int .i64 xs) ∧ w'.cell? ⟨sb, 1, none⟩ = some (.int .i64 xu)) (first | go_keep | exact ⟨q6, p6⟩ | exact ⟨q7, p7⟩)
          (first
            | (go_at_call 16; refine (pi_freeAt HID xs xu m HM.out).mono ?_; rintro e w6 ⟨rfl, hp, hk6⟩; have q6 := hk6.cell q2d HNO.out; have p6 := hk6.cell q1d HNO.out; have HI := Lib.hid hp; clear hp hk6)
            | (go_at_call 25; refine (pi_rfreeAt HI (by omega) xs xu m HM2.out).mono ?_; rintro e w7 ⟨ao2, rfl, hp, hk7⟩; have q7 := hk7.cell q6 HNO.out; have p7 := hk7.cell p6 HNO.out; have HI7 := Lib.hid hp; clear hp hk7))
        rw [HDE.out, HTE.out] at HI7
        replace HI := HI7
        clear HI7
        go_wp2_with fail
        refine (ralike29_any HI HDR2 hn9 (by omega)).mono ?_
        rintro e wz ⟨rfl, hkz⟩
        have HZ := Lib.hid (HI.out.look hkz)
        clear hkz
        go_wp2_with fail
        go_roundw
        case measure => simp [intOf]; omega
        case rel => exact ⟨i + 1, S, T2, s, b, _, D2, _, by omega, rfl, rfl, by go_num, by omega, by omega, HDR2.out, by omega, HZ.out⟩
      · have e0 : (xk == 0) = false := by simpa using hk0
        have e1 : (xk == 1) = false := by simpa using hk1
        have e2 : (xk == 2) = false := by simpa using hk2
        go_wp2_with fail
        refine (pi_copy HI).mono ?_
        rintro e w6 ⟨S2, L2, rfl, hp, hpo, hfar, hk6⟩
        have HI2 := Lib.hid hp
        have HPO := Lib.hid hpo
        have HFAR := Lib.hid hfar
        have hsb6 := Lib.hid (hk6.heap HSB.out id)
        clear hp hpo hfar hk6 HI
        go_wp2_with fail
        refine (new_any 1 none [] 0 (fun _ => True) S.bs w6 (fun k hk => HPO.out.lt (foot_bs hk)) (RowU.nil _ _) (by unfold U64; decide) (by decide)).mono ?_
        rintro e w7 ⟨t2, rfl, ht2, ht, hk7⟩
        have hnf2 : ¬ S.foot t2 := fun h => by have := HPO.out.lt h; omega
        have HT2 := Lib.hid (show TOwn w w7 t2 ⟨1, [], 0⟩ (t2 :: S.bs) from ⟨ht, fun x hx => by
          rcases List.mem_cons.1 hx with rfl | hx
          · exact ht.lt
          · exact hk7.lt (HPO.out.lt (foot_bs hx)), HPO.out.kp.trans hk7, by have := HPO.out.kp.size; omega⟩)
        have hsb7 := Lib.hid (hk7.heap hsb6.out id)
        have hsbt : sb ≠ t2 := fun e => by have := lt_of_block hsb6.out; omega
        replace HPO := Lib.hid (HPO.out.look hk7)
        have HK7 := Lib.hid hk7
        clear ht hk7
        obtain ⟨⟨ri, rr⟩, hr⟩ : ∃ q, drawR T ⟨1, [], 0⟩ 0 1 = q := ⟨_, rfl⟩
        have HR := Lib.hid hr
        clear hr
        go_wp2_with fail
        refine (pown_draw HPO HT2 (fun k hk => List.mem_cons_of_mem _ hk) hnf2 (by decide) 0 1 ri rr HR.out).mono ?_
        rintro e w8 ⟨rfl, hpo, -, hk8⟩
        replace HPO := Lib.hid hpo
        have hsb8 := Lib.hid (hk8.heap hsb7.out (fun h => by
          rcases h with h | h
          · exact hsbt h
          · exact HNB.out h))
        have q2 := cell_blk hsb8.out 2
        simp at q2
        have HK8 := Lib.hid hk8
        clear hpo hk8 q0 q1
        obtain ⟨m, hm⟩ : ∃ m, freedN xs (actD T ⟨1, [], 0⟩ 0 1).1 = m := ⟨_, rfl⟩
        have HM := Lib.hid hm
        clear hm
        go_wp2_with fail
        refine (pown_free HPO xs m HM.out).mono ?_
        rintro e w9 ⟨rfl, -, hk9⟩
        have KALL := Lib.hid (show Kept (· ∈ S.bs) w6 w9 from (HK7.out.any.trans (HK8.out.mono fun x _ h => h)).then (M := fun x => x = t2 ∨ x ∈ S.bs) hk9 (fun _ _ h => .inr h) |>.mono (fun x hx h => by
          rcases h with rfl | h
          · omega
          · exact h))
        replace HI2 := Lib.hid (HI2.out.far KALL.out (fun x _ h => (HFAR.out x h).1) (fun x hx h => (HFAR.out x h).2.1 hx) (fun x hx h => (HFAR.out x h).2.2.1 hx) (fun h => (HFAR.out _ h).2.2.2.1 rfl) (fun h => (HFAR.out _ h).2.2.2.2 rfl) HPO.out.bsW)
        clear hk9 KALL HK7 HK8 q2
        go_wp2_with fail
        refine (pi_rcopy HI2 (by omega)).mono ?_
        rintro e w10 ⟨b2, ao2, L3, rfl, hp, -⟩
        have HI := Lib.hid hp
        clear hp
        go_wp2_with fail
        refine (ralike29_any HI HD hn9 (by omega)).mono ?_
        rintro e wz ⟨rfl, hkz⟩
        have HZ := Lib.hid (HI.out.look hkz)
        clear hkz
        go_wp2_with fail
        go_roundw
        case measure => simp [intOf]; omega
        case rel => exact ⟨i + 1, S2, T, s, b2, _, D, _, by omega, rfl, rfl, by go_num, by omega, by omega, HD.out, by omega, HZ.out⟩
    · obtain rfl : i = l.length := by omega
      have HI := Lib.hid hinv
      clear hlt hi hinv hla hdr
      go_wp2_with fail
      refine (pawake_any _).mono ?_
      rintro e w5 ⟨rfl, hk5⟩
      go_wp2_with fail
      go_ret
      exact ⟨rfl, HI.out.po.kp.trans hk5⟩
end Go.Proofs.Ythgioaaenfdcdaa
