/- OrderAgain, walked. -/
import Derived.Test.YtnpmimjhpnhdkaaCase20
import Derived.Test.YtnpmimjhpnhdkaaOrdPlain
namespace Go.Proofs.Ytnpmimjhpnhdkaa
open Go.RowKit

set_option maxRecDepth 100000 in
set_option maxHeartbeats 4000000 in
theorem again_walk {H : Type} {enc : TypeId × Value → H} {d : DataW H} {p : List MemPlace} (w : World) (cs : Array Value) (hk : DataW.Trod enc Try.prog w 0 (fun _ => true) true 26 (.agg cs) d p) :
    Calls Try.prog 7 #[.agg cs] w fun e w' => e = .returned (.bool true) ∧ Kept (fun _ => False) w w' := by
  obtain ⟨ups, limit, rest, seed, a, f, l, ca, fl, cf, rfl, hacts, hrow, hu, hwf⟩ := case20_of (Reads.of hk)
  have HA := Lib.hid hacts
  have HR := Lib.hid hrow
  have HU := Lib.hid hu
  clear hk hacts hrow hu
  have K0 := Lib.hid ((Kept.refl (M := fun _ => False) w).alloc (.cells #[.int .i64 ups, .int .i64 limit, .int .i64 rest, .slice a l.length ca, .int .u64 seed, .slice f fl.length cf] 26))
  have C0 := Lib.hid (new_blk w (.cells #[.int .i64 ups, .int .i64 limit, .int .i64 rest, .slice a l.length ca, .int .u64 seed, .slice f fl.length cf] 26))
  obtain ⟨r, hr⟩ : ∃ r, (decide (500 < l.length) || decide (500 < fl.length)) = r := ⟨_, rfl⟩
  go_enter Try.func7, Try.ntmps7
  go_wp2_with fail
  cases r
  · refine (long20_any ups limit rest seed a f _ ca _ cf false hr _).mono ?_
    rintro e w1 ⟨rfl, hk1⟩
    replace C0 := Lib.hid (hk1.heap C0.out id)
    replace K0 := Lib.hid (K0.out.trans hk1)
    clear hk1
    go_wp2_with fail
    refine (awake20_any _).mono ?_
    rintro e w2 ⟨rfl, hk2⟩
    replace C0 := Lib.hid (hk2.heap C0.out id)
    replace K0 := Lib.hid (K0.out.trans hk2)
    have c0 := cell_blk C0.out 0
    have c1 := cell_blk C0.out 1
    have c2 := cell_blk C0.out 2
    have c3 := cell_blk C0.out 3
    have c4 := cell_blk C0.out 4
    have c5 := cell_blk C0.out 5
    simp at c0 c1 c2 c3 c4 c5
    clear hk2
    simp only [Bool.or_eq_false_iff, decide_eq_false_iff_not] at hr
    go_wp2_with fail
    refine (book20_any w2 ups limit rest seed a f l ca fl.length cf (by omega) (Lib.hid (HA.out.kept K0.out)) hwf).mono ?_
    rintro e w3 (⟨-, rfl, hk3⟩ | ⟨n, b, g, rb, rg, rfl, hn, rfl, ho, -, -⟩)
    · clear c0 c1 c2 c3 c4 c5
      go_wp2_with fail
      go_ret
      exact ⟨rfl, K0.out.trans hk3⟩
    clear c0 c1 c2 c3 c4 c5
    have hlen := len_acts (newB n limit rest) l
    have hpos : 0 < ((newB n limit rest).acts l).l.length := by rw [hlen]; have := hn.1.1; simp [newB]; omega
    obtain ⟨S, hS⟩ : ∃ S, (newB n limit rest).acts l = S := ⟨_, rfl⟩
    rw [hS] at ho hpos
    clear hS hlen hn hwf
    have K3 := Lib.hid (K0.out.trans ho.kp)
    replace C0 := Lib.hid (ho.kp.heap C0.out id)
    have c4 := cell_blk C0.out 4
    have c5 := cell_blk C0.out 5
    simp at c4 c5
    have hm9 : (mayL S.l).length ≤ 9 := by have := ho.ok.2.2.2.2.1; have := may_len S.l; omega
    have HO := Lib.hid ho
    clear ho
    go_wp2_with fail
    refine (new_any seed f fl cf (fun _ => True) [] w3 (by simp) (HR.out.kept K3.out (fun _ _ _ h => h)) HU.out (by omega)).mono ?_
    rintro e w4 ⟨tb, rfl, htb, ht, hk4⟩
    have hbt := HO.out.bk.ltb
    have hgt := HO.out.bk.ltg
    have hw3 := HO.out.kp.size
    have hbn : b ≠ tb ∧ g ≠ tb := ⟨by omega, by omega⟩
    replace HO := Lib.hid (HO.out.look hk4)
    have HT := Lib.hid (show TOwn w2 w4 tb ⟨seed, fl, 0⟩ [tb] from ⟨ht, by simpa using ht.lt, HO.out.kp, by omega⟩)
    clear ht hk4 c4 c5
    go_wp2_with fail
    refine (town_next HT (by show (0 : Nat) < _; decide) _ rfl).mono ?_
    rintro e w5 ⟨rfl, ht, hk5⟩
    obtain ⟨T, hT⟩ : ∃ T, TapeS.next ⟨seed, fl, 0⟩ = T := ⟨_, rfl⟩
    have hTu : T.used = 1 := by rw [← hT, TapeS.next_used]
    rw [hT] at ht
    replace HT := Lib.hid ht
    replace HO := Lib.hid (HO.out.aside hk5 hbn.1 hbn.2 (by omega))
    clear ht hk5 hT
    go_wp2_with fail
    refine (town_copy HT).mono ?_
    rintro e w6 ⟨ub, rfl, hub, hu6, ht, hk6⟩
    have hbt := HO.out.bk.ltb
    have hgt := HO.out.bk.ltg
    have hbu : b ≠ ub ∧ g ≠ ub := ⟨by omega, by omega⟩
    have htu : tb ≠ ub := by have := HT.out.tp.lt; omega
    have hub6 := hu6.tp.lt
    replace HO := Lib.hid (HO.out.look hk6)
    replace HT := Lib.hid ht
    have HU6 := Lib.hid hu6
    clear ht hk6 hu6
    go_wp2_with fail
    refine (order_new HO tb T [ub, tb] (Lib.hid ⟨HT.out.tp, HT.out.lt, hbn.1, hbn.2, HT.out.lo, by omega⟩) (orderL S T) rfl).mono ?_
    rintro e w7 ⟨ao, cp, rfl, hc, ho, ⟨L', ht, -, hL, hL'⟩, hk7⟩
    have htb2 := HT.out.lo
    replace HU6 := Lib.hid (HU6.out.aside hk7 (fun h => htu h.symm) (by rintro x rfl; simp) (by rintro x hx rfl; omega))
    have hubL : ub ∈ L' := hL ub (by simp)
    have htbL : tb ∈ L' := hL tb (by simp)
    replace HT := Lib.hid (show TOwn w2 w7 tb _ L' from ⟨ht, hL', ho.kp, htb2⟩)
    replace HO := Lib.hid ho
    have HC := Lib.hid hc
    clear ht hk7 ho hc hL hL'
    go_wp2_with fail
    refine (own_copy HO hpos).mono ?_
    rintro e w8 ⟨b2, g2, cap2, rfl, hb2, hg2, -, -, ho2, -, hk8⟩
    have hu7 := HU6.out.tp.lt
    have ht7 := HT.out.tp.lt
    have hb2n : b2 ≠ ub ∧ g2 ≠ ub := ⟨by omega, by omega⟩
    have HO2 := Lib.hid ho2
    replace HT := Lib.hid (HT.out.look hk8)
    replace HU6 := Lib.hid (HU6.out.look hk8)
    replace HC := Lib.hid (HC.out.look hk8)
    clear ho2 hk8
    go_wp2_with fail
    refine (order_new HO2 ub T [ub, tb] (Lib.hid ⟨HU6.out.tp, HU6.out.lt, hb2n.1, hb2n.2, HU6.out.lo, by omega⟩) (orderL S T) rfl).mono ?_
    rintro e w9 ⟨ao2, cp2, rfl, hc2, ho2, ⟨L2, hu9, -, hL2, hL2'⟩, hk9⟩
    have hub2 := HU6.out.lo
    replace HT := Lib.hid (HT.out.aside hk9 htu (by rintro x rfl; exact hubL) (by rintro x hx rfl; omega))
    have htbL2 : tb ∈ L2 := hL2 tb (by simp)
    replace HU6 := Lib.hid (show TOwn w2 w9 ub (shuffleL (mayL S.l).length T).2 L2 from ⟨hu9, hL2', ho2.kp, hub2⟩)
    replace HC := Lib.hid (HC.out.keep hk9 (by intro x hx e; omega))
    obtain ⟨T2, hT2⟩ : ∃ T2, (shuffleL (mayL S.l).length T).2 = T2 := ⟨_, rfl⟩
    have hT2u : T2.used ≤ 10 := by rw [← hT2, (shuffleL_law _ _).2.2.2, TapeS.after'_used]; omega
    rw [hT2] at HT HU6
    have hol : (orderL S T).length ≤ 9 := by rw [order_len]; exact hm9
    obtain ⟨l1, hl1⟩ : ∃ l1, orderL S T = l1 := ⟨_, rfl⟩
    rw [hl1] at HC hc2 hol
    rw [hl1]
    have HC2 := Lib.hid hc2
    clear hT2 hl1 HO HO2 ho2 hc2 hk9 hu9 HR HU
    go_wp2_with fail
    refine (ints_any ao ao2 l1 l1 cp cp2 w9 HC.out.all HC2.out.all (by omega) (by omega)).mono ?_
    rintro e w10 ⟨rfl, hk10⟩
    have d1 : decide (l1 = l1) = true := by simp
    rw [d1]
    replace HT := Lib.hid (HT.out.look hk10)
    replace HU6 := Lib.hid (HU6.out.look hk10)
    clear hk10 HC HC2 d1
    go_wp2_with fail
    refine (town_used HT T2.used rfl).mono ?_
    rintro e w11 ⟨rfl, rfl⟩
    go_wp2_with fail
    refine (town_used HU6 T2.used rfl).mono ?_
    rintro e w11 ⟨rfl, rfl⟩
    go_wp2_with fail
    refine (town_next HT (by omega) _ rfl).mono ?_
    rintro e w12 ⟨rfl, ht, hk12⟩
    replace HU6 := Lib.hid (HU6.out.aside hk12 (fun h => htu h.symm) (by rintro x rfl; exact htbL2) (by rintro x hx rfl; omega))
    clear ht hk12
    go_wp2_with fail
    refine (town_next HU6 (by omega) _ rfl).mono ?_
    rintro e w13 ⟨rfl, hu, hk13⟩
    go_wp2_with fail
    go_ret
    exact ⟨rfl, K0.out.trans hu.kp⟩
  · refine (long20_any ups limit rest seed a f _ ca _ cf true hr _).mono ?_
    rintro e w1 ⟨rfl, hk1⟩
    go_wp2_with fail
    refine (awake20_any _).mono ?_
    rintro e w2 ⟨rfl, hk2⟩
    go_wp2_with fail
    go_ret
    exact ⟨rfl, (K0.out.trans hk1).trans hk2⟩
end Go.Proofs.Ytnpmimjhpnhdkaa
