/- OrderEach, walked. -/
import Derived.Test.YtnpmimjhpnhdkaaCase20
import Derived.Test.YtnpmimjhpnhdkaaOrdPlain
import Derived.Test.YtnpmimjhpnhdkaaRegInv
namespace Go.Proofs.Ytnpmimjhpnhdkaa
open Go.RowKit

/-- The row of nine bools says which numbers have been seen. -/
def Seen9 (w : World) (g : Nat) (l : List Int) : Prop := ∀ v : Nat, v < 9 → w.cell? ⟨g, v, none⟩ = some (.bool (decide ((v : Int) ∈ l))) ∧ w.frozen? ⟨g, v, none⟩ = false
theorem seen9_start {w : World} {z : Array Value} {t : TypeId} (h : ∀ i, i < 9 → z[i]? = some (.bool false)) : Seen9 (w.alloc (.cells z t)) w.heap.size [] := fun v hv => by
  have hb := new_blk w (.cells z t (0, 0))
  exact ⟨by rw [cell_blk hb, h v hv]; simp, free_blk hb v⟩
theorem seen9_set {w : World} {g q : Nat} {l : List Int} (h : Seen9 w g l) : Seen9 (w.setCell ⟨g, q, none⟩ (.bool true)) g (l ++ [(q : Int)]) := fun v hv => by
  obtain ⟨h1, h2⟩ := h v hv
  refine ⟨?_, by rw [World.frozen?_setCell]; exact h2⟩
  by_cases hvq : v = q
  · subst hvq
    rw [World.cell?_setCell_same _ _ _ h1]; simp
  · rw [World.cell?_setCell_other _ _ _ _ (fun e => hvq (by injection e with _ e _; exact e.symm)), h1]
    simp only [List.mem_append, List.mem_singleton, Int.natCast_inj, hvq, or_false]
theorem nine_false : ∀ i, i < 9 → (#[.bool false, .bool false, .bool false, .bool false, .bool false, .bool false, .bool false, .bool false, .bool false] : Array Value)[i]? = some (.bool false) := by
  intro i hi
  have h9 : i = 0 ∨ i = 1 ∨ i = 2 ∨ i = 3 ∨ i = 4 ∨ i = 5 ∨ i = 6 ∨ i = 7 ∨ i = 8 := by omega
  rcases h9 with rfl | rfl | rfl | rfl | rfl | rfl | rfl | rfl | rfl <;> rfl
theorem seen9_kept {w w' : World} {g : Nat} {l : List Int} (h : Seen9 w g l) (hg : g < w.heap.size) (k : Kept (fun _ => False) w w') : Seen9 w' g l := fun v hv => by
  obtain ⟨h1, h2⟩ := h v hv
  have hb := k.block g hg id
  exact ⟨k.cell h1 id, by simpa [World.frozen?, hb] using h2⟩
theorem ints_len20 (a1 a2 : Option Addr) (l1 l2 : List Int) (n1 n2 c1 c2 : Nat) (e1 : l1.length = n1) (e2 : l2.length = n2) (w : World) (h1 : Cells w a1 (l1.map (.int .i64)) (fun _ => True)) (h2 : Cells w a2 (l2.map (.int .i64)) (fun _ => True))
    (hl1 : n1 ≤ 9223372036854775806) (hl2 : n2 ≤ 9223372036854775806) :
    Calls Try.prog 18 #[.slice a1 n1 c1, .slice a2 n2 c2] w fun e w' => e = .returned (.bool (decide (l1 = l2))) ∧ Kept (fun _ => False) w w' := by
  subst e1 e2
  exact ints_any a1 a2 l1 l2 c1 c2 w h1 h2 hl1 hl2
set_option maxRecDepth 100000 in
set_option maxHeartbeats 4000000 in
theorem each_walk {H : Type} {enc : TypeId × Value → H} {d : DataW H} {p : List MemPlace} (w : World) (cs : Array Value) (hk : DataW.Trod enc Try.prog w 0 (fun _ => true) true 26 (.agg cs) d p) :
    Calls Try.prog 6 #[.agg cs] w fun e w' => e = .returned (.bool true) ∧ Kept (fun _ => False) w w' := by
  obtain ⟨ups, limit, rest, seed, a, f, l, ca, fl, cf, rfl, hacts, hrow, hu, hwf⟩ := case20_of (Reads.of hk)
  have HA := Lib.hid hacts
  have HR := Lib.hid hrow
  have HU := Lib.hid hu
  clear hk hacts hrow hu
  have K0 := Lib.hid ((Kept.refl (M := fun _ => False) w).alloc (.cells #[.int .i64 ups, .int .i64 limit, .int .i64 rest, .slice a l.length ca, .int .u64 seed, .slice f fl.length cf] 26))
  have C0 := Lib.hid (new_blk w (.cells #[.int .i64 ups, .int .i64 limit, .int .i64 rest, .slice a l.length ca, .int .u64 seed, .slice f fl.length cf] 26))
  obtain ⟨r, hr⟩ : ∃ r, (decide (500 < l.length) || decide (500 < fl.length)) = r := ⟨_, rfl⟩
  go_enter Try.func6, Try.ntmps6
  go_wp2_with fail
  cases r
  · refine (long20_any ups limit rest seed a f _ ca _ cf false hr _).mono ?_
    rintro e w1 ⟨rfl, hk1⟩
    replace C0 := Lib.hid (hk1.heap C0.out id)
    replace K0 := Lib.hid (K0.out.trans hk1)
    clear hk1
    go_wp2_with fail
    refine (awake20_any _).mono ?_
    rintro e w2 ⟨rfl, hk2⟩
    replace C0 := Lib.hid (hk2.heap C0.out id)
    replace K0 := Lib.hid (K0.out.trans hk2)
    have c0 := cell_blk C0.out 0
    have c1 := cell_blk C0.out 1
    have c2 := cell_blk C0.out 2
    have c3 := cell_blk C0.out 3
    have c4 := cell_blk C0.out 4
    have c5 := cell_blk C0.out 5
    simp at c0 c1 c2 c3 c4 c5
    clear hk2
    simp only [Bool.or_eq_false_iff, decide_eq_false_iff_not] at hr
    go_wp2_with fail
    refine (book20_any w2 ups limit rest seed a f l ca fl.length cf (by omega) (Lib.hid (HA.out.kept K0.out)) hwf).mono ?_
    rintro e w3 (⟨-, rfl, hk3⟩ | ⟨n, b, g, rb, rg, rfl, hn, rfl, ho, -, -⟩)
    · clear c0 c1 c2 c3 c4 c5
      go_wp2_with fail
      go_ret
      exact ⟨rfl, K0.out.trans hk3⟩
    clear c0 c1 c2 c3 c4 c5
    have hlen := len_acts (newB n limit rest) l
    have hpos : 0 < ((newB n limit rest).acts l).l.length := by rw [hlen]; have := hn.1.1; simp [newB]; omega
    obtain ⟨S, hS⟩ : ∃ S, (newB n limit rest).acts l = S := ⟨_, rfl⟩
    rw [hS] at ho hpos
    clear hS hlen hn hwf
    have K3 := Lib.hid (K0.out.trans ho.kp)
    replace C0 := Lib.hid (ho.kp.heap C0.out id)
    have hm9 : (mayL S.l).length ≤ 9 := by have := ho.ok.2.2.2.2.1; have := may_len S.l; omega
    have HO := Lib.hid ho
    clear ho
    go_wp2_with fail
    refine (own_copy HO hpos).mono ?_
    rintro e w4 ⟨db, dg, dcap, rfl, hdb, hdg, hdb', hdg', hd, ho, hk4⟩
    replace HO := Lib.hid ho
    have HD := Lib.hid hd
    replace C0 := Lib.hid (hk4.heap C0.out id)
    have K4 := Lib.hid (K0.out.trans hd.kp)
    have c4 := cell_blk C0.out 4
    have c5 := cell_blk C0.out 5
    simp at c4 c5
    clear ho hd hk4 K3
    go_wp2_with fail
    refine (new_any seed f fl cf (fun _ => True) [] w4 (by simp) (HR.out.kept K4.out (fun _ _ _ h => h)) HU.out (by omega)).mono ?_
    rintro e w5 ⟨tb, rfl, htb, ht, hk5⟩
    have hbt := HO.out.bk.ltb
    have hgt := HO.out.bk.ltg
    have hw4 := HO.out.kp.size
    have hbn : b ≠ tb ∧ g ≠ tb := ⟨by omega, by omega⟩
    have hdn : db ≠ tb ∧ dg ≠ tb := ⟨by omega, by omega⟩
    replace HO := Lib.hid (HO.out.look hk5)
    replace HD := Lib.hid (HD.out.look hk5)
    have HT := Lib.hid (show TOwn w2 w5 tb ⟨seed, fl, 0⟩ [tb] from ⟨ht, by simpa using ht.lt, HO.out.kp, by omega⟩)
    clear ht hk5 c4 c5
    go_wp2_with fail
    obtain ⟨l1, hl1⟩ : ∃ l1, orderL S ⟨seed, fl, 0⟩ = l1 := ⟨_, rfl⟩
    refine (order_new HO tb _ [tb] (Lib.hid ⟨HT.out.tp, HT.out.lt, hbn.1, hbn.2, HT.out.lo, by show (0 : Nat) + 9 < _; decide⟩) l1 hl1).mono ?_
    rintro e w6 ⟨ao, cp, rfl, hc, ho, ⟨L', ht, -, -, hL'⟩, hk6⟩
    have htb2 := HT.out.lo
    replace HD := Lib.hid (HD.out.aside hk6 hdn.1 hdn.2 htb2)
    replace HT := Lib.hid (show TOwn w2 w6 tb _ L' from ⟨ht, hL', ho.kp, htb2⟩)
    replace HO := Lib.hid ho
    have HC := Lib.hid hc
    clear ht hk6 ho hc hL'
    go_wp2_with fail
    obtain ⟨ml, hml⟩ : ∃ ml, mayL S.l = ml := ⟨_, rfl⟩
    refine (own_may HO ml hml).mono ?_
    rintro e w7 ⟨am, cm, rfl, hcm, ho, hk7⟩
    replace HO := Lib.hid ho
    replace HD := Lib.hid (HD.out.look hk7)
    replace HT := Lib.hid (HT.out.look hk7)
    replace HC := Lib.hid (HC.out.look hk7)
    have HM := Lib.hid hcm
    clear ho hcm hk7
    have hlen := order_len S ⟨seed, fl, 0⟩
    rw [hl1, hml] at hlen
    rw [hml] at hm9
    obtain ⟨n, hn⟩ : ∃ n, ml.length = n := ⟨_, rfl⟩
    rw [hn] at hlen hm9 HM
    rw [hlen] at HC
    rw [hlen, hn]
    have hus : (shuffleL (mayL S.l).length ⟨seed, fl, 0⟩).2.used = n - 1 := by rw [(shuffleL_law _ _).2.2.2, TapeS.after'_used, hml, hn]; simp
    have HN := Lib.hid hn
    have HML := Lib.hid hml
    have HL1 := Lib.hid hl1
    have HLN := Lib.hid hlen
    clear hl1 hn hml hlen
    go_wp2_with fail
    refine (town_used HT (n - 1) hus).mono ?_
    rintro e w8 ⟨rfl, rfl⟩
    have hmx : (if 1 < (n : Int) then (n : Int) - 1 else 0) = ((n - 1 : Nat) : Int) := by split <;> omega
    have hmx2 : (if 0 < (n : Int) - 1 then (n : Int) - 1 else 0) = ((n - 1 : Nat) : Int) := by split <;> omega
    go_wp2_with fail
    clear hmx hmx2
    have SE := Lib.hid (seen9_start (w := w7) (z := #[.bool false, .bool false, .bool false, .bool false, .bool false, .bool false, .bool false, .bool false, .bool false]) (t := 59) nine_false)
    have KE := Lib.hid ((Kept.refl (M := fun _ => False) w7).alloc (.cells #[.bool false, .bool false, .bool false, .bool false, .bool false, .bool false, .bool false, .bool false, .bool false] 59))
    have hg9 : w7.heap.size < (w7.alloc (.cells #[.bool false, .bool false, .bool false, .bool false, .bool false, .bool false, .bool false, .bool false, .bool false] 59)).heap.size := lt_of_block (new_blk w7 _)
    obtain ⟨w9, hw9⟩ : ∃ w9, w7.alloc (.cells #[.bool false, .bool false, .bool false, .bool false, .bool false, .bool false, .bool false, .bool false, .bool false] 59) = w9 := ⟨_, rfl⟩
    rw [hw9] at SE KE hg9
    rw [hw9]
    obtain ⟨g0, hg0⟩ : ∃ g0, g0 = w7.heap.size := ⟨_, rfl⟩
    have HG0 := Lib.hid hg0
    rw [← hg0] at SE hg9 ⊢
    clear hw9 HT hg0
    go_loopw [10] (fun c wr => ∃ k : Nat, k ≤ n ∧ c = .int .i64 k ∧ Seen9 wr g0 (l1.take k) ∧ Kept (fun _ => False) w7 wr ∧ g0 < wr.heap.size) (fun c _ => n - (intOf c).toNat)
    case atStart => exact ⟨0, by omega, rfl, by simpa using SE.out, KE.out, hg9⟩
    case round =>
      obtain ⟨k, hk, rfl, hse, hkr, hgr⟩ := hrel
      clear SE KE hg9
      have SR := Lib.hid hse
      have KR := Lib.hid hkr
      clear hse hkr
      by_cases hlt : k < n
      · have hkl : k < l1.length := by rw [HLN.out]; exact hlt
        obtain ⟨u, hul, hu, hur⟩ := order_mem (S := S) (t := ⟨seed, fl, 0⟩) (x := l1[k]) (by rw [HL1.out]; exact List.getElem_mem hkl)
        have hu9 : u < 9 := by have := HO.out.ok.2.2.2.2.1; omega
        have HOr := Lib.hid (HO.out.look KR.out)
        obtain ⟨a1, off, hao, -, ck⟩ := (HC.out.all.kept KR.out (fun _ _ _ h => h)).at (i := k) (v := .int .i64 u) (by rw [List.getElem?_map, List.getElem?_eq_getElem hkl, hu]; rfl)
        have hnot : (u : Int) ∉ l1.take k := by
          intro hm
          obtain ⟨j, hj, hjq⟩ := List.getElem_of_mem hm
          simp only [List.length_take] at hj
          rw [List.getElem_take, ← hu] at hjq
          have hj' : j < l1.length := by omega
          have hap := order_nodup S ⟨seed, fl, 0⟩
          rw [HL1.out] at hap
          unfold List.Nodup at hap
          rw [List.pairwise_iff_getElem] at hap
          exact hap j k hj' hkl (by omega) hjq
        obtain ⟨cs, fs⟩ := SR.out u hu9
        rw [decide_eq_false hnot] at cs
        have i0 : decide ((u : Int) < 0) = false := by simp
        have i1 : decide (9 ≤ (u : Int)) = false := by simp; omega
        have hx : (S.of (u : Int)).rests = false := by rw [of_lt hul]; exact hur
        have TK := Lib.hid (show l1.take (k + 1) = l1.take k ++ [(u : Int)] by rw [List.take_succ_eq_append_getElem hkl, hu])
        have HUK := Lib.hid hu
        have HUR := Lib.hid hx
        subst hao
        clear hnot hu hur hx
        go_wp2_with fail
        refine (own_rests HOr u false HUR.out).mono ?_
        rintro e w8 ⟨rfl, -, hk8⟩
        replace SR := Lib.hid (seen9_kept SR.out hgr hk8)
        replace KR := Lib.hid (KR.out.trans hk8)
        have hg8 := hk8.lt hgr
        replace ck := hk8.cell ck id
        clear hk8 cs fs HOr
        obtain ⟨cs, fs⟩ := SR.out u hu9
        go_wp2_with fail
        have hSE := seen9_set (q := u) SR.out
        rw [← TK.out] at hSE
        have hKK := KR.out.fresh (k := g0) (by rw [HG0.out]; exact Nat.le_refl _) u (.bool true)
        have hgy : g0 < (w8.setCell ⟨g0, u, none⟩ (.bool true)).heap.size := by rw [World.size_setCell]; exact hg8
        obtain ⟨wy, hwy⟩ : ∃ wy, w8.setCell ⟨g0, u, none⟩ (.bool true) = wy := ⟨_, rfl⟩
        rw [hwy] at hSE hKK hgy
        rw [hwy]
        have HSE := Lib.hid hSE
        have HKK := Lib.hid hKK
        clear hSE hKK hwy cs fs ck SR KR hg8 hgr
        by_cases hk0 : k = 0
        · subst hk0
          have i2 : decide ((0 : Int) < (0 : Int)) = false := by decide
          refine wp_region_inv (?a0 :: ?a1 :: ?a2 :: ?a3 :: ?a4 :: ?a5 :: ?a6 :: ?a7 :: ?a8 :: ?a9 :: ?a10 :: ?a11 :: ?a12 :: ?a13 :: ?a14 :: ?a15 :: ?a16 :: ?a17 :: ?a18 :: ?a19 :: ?a20 :: ?a21 :: ?a22 :: ?a23 :: ?a24 :: ?a25 :: ?a26 :: ?a27 :: ?a28 :: ?a29 :: ?a30 :: ?a31 :: ?a32 :: ?a33 :: ?a34 :: ?a35 :: ?a36 :: ?a37 :: ?a38 :: ?a39 :: ?a40 :: ?a41 :: ?a42 :: ?a43 :: ?a44 :: ?a45 :: ?a46 :: ?a47 :: ?a48 :: ?a49 :: ?a50 :: ?a51 :: []) (fun wx => Kept (fun _ => False) wy wx) (by kernel_rfl) (by kernel_rfl) [some 91, some 92, some 93, some 94, some 95, some 96, some 97, some 98, some 99, some 100, some 101, some 102, some 103, some 104, some 105, some 106, some 107, some 108, some 109, some 110, some 111, some 112, some 113, some 114, some 115, some 116, some 117, some 118, some 119, some 120, some 121, some 122, some 123, some 124, some 125, some 126, some 127, some 128, some 129, some 130, some 131, some 132, some 133, some 134, some 135, some 136, some 137, some 138, some 139, some 140, some 141, some 142] rfl rfl ?aA ?ahA ?ah0 ?aH ?ahQ
          case ahA => simp only [laidAll, Act.put, List.setIfInBounds_toArray, List.set_cons_zero, List.set_cons_succ]; exact rfl
          case aH =>
            iterate 52 (refine ⟨?_, ?_⟩; · first | (refine OpStep.yields (Or.inr ⟨by rfl, ?_⟩); rfl) | (refine OpStep.yields (Or.inl ⟨by rfl, ?_⟩); intro w; go_simp; (try with_reducible rfl); done) | (refine OpStep.reads (by rfl) ?_; intro wx hI; skip; go_simp; (try with_reducible rfl); done))
            exact trivial
          case ah0 => exact Kept.refl (M := fun _ => False) wy |>.drew
          case ahQ =>
            intro wz hz
            have hSz := seen9_kept HSE.out hgy hz
            have hKz := HKK.out.trans hz
            have hgz := hz.lt hgy
            have HSZ := Lib.hid hSz
            have HKZ := Lib.hid hKz
            clear hSz hKz
            go_wp2_with fail
            go_roundw
            case measure => simp [intOf]; omega
            case rel => exact ⟨0 + 1, by omega, by go_num, HSZ.out, HKZ.out, hgz⟩
        · obtain ⟨j, rfl⟩ : ∃ j, k = j + 1 := ⟨k - 1, by omega⟩
          have hjl : j < l1.length := by omega
          obtain ⟨x0, hx0⟩ : ∃ x0, l1[j] = x0 := ⟨_, rfl⟩
          obtain ⟨a2, off2, e2, -, c0⟩ := (HC.out.all.kept HKK.out (fun _ _ _ h => h)).at (i := j) (v := .int .i64 x0) (by rw [List.getElem?_map, List.getElem?_eq_getElem hjl, hx0]; rfl)
          simp only [Option.some.injEq, Addr.mk.injEq, and_true] at e2
          obtain ⟨rfl, rfl⟩ := e2
          obtain ⟨a2, off2, e2, -, c1⟩ := (HC.out.all.kept HKK.out (fun _ _ _ h => h)).at (i := j + 1) (v := .int .i64 u) (by rw [List.getElem?_map, List.getElem?_eq_getElem hkl, HUK.out]; rfl)
          simp only [Option.some.injEq, Addr.mk.injEq, and_true] at e2
          obtain ⟨rfl, rfl⟩ := e2
          have hso := order_sorted S ⟨seed, fl, 0⟩
          rw [HL1.out, List.pairwise_iff_getElem] at hso
          have hke := key_le (a := S.cand l1[j]) (b := S.cand l1[j + 1]) (of_okc HO.out.ok _) (of_okc HO.out.ok _) (hso j (j + 1) hjl hkl (by omega))
          rw [hx0, HUK.out] at hke
          simp only [BookS.cand] at hke
          have CK0 := Lib.hid c0
          have CK1 := Lib.hid c1
          obtain ⟨xu, hxu⟩ : ∃ xu : Int, (u : Int) = xu := ⟨_, rfl⟩
          rw [hxu] at hke CK1
          have hjn : j < n := by omega
          have i8 : 0 ≤ (j : Int) + 1 ∧ (j : Int) + 1 < (n : Int) := by omega
          have i2 : decide ((0 : Int) < (j : Int) + 1) = true := decide_eq_true (by omega)
          have i3 : IntKind.i64.wrap (j : Int) = (j : Int) := (by rw [IntKind.wrap_i64]; omega)
          have i4 : IntKind.i64.wrap ((j : Int) + 1 - 1) = (j : Int) := by rw [Int.add_sub_cancel]; exact i3
          clear c0 c1 hso hx0 hxu
          obtain ⟨s0, hs0⟩ : ∃ s0, (S.of x0).score = s0 := ⟨_, rfl⟩
          obtain ⟨s1, hs1⟩ : ∃ s1, (S.of xu).score = s1 := ⟨_, rfl⟩
          obtain ⟨t0, ht0⟩ : ∃ t0, (S.of x0).trial = t0 := ⟨_, rfl⟩
          obtain ⟨t1, ht1⟩ : ∃ t1, (S.of xu).trial = t1 := ⟨_, rfl⟩
          rw [hs0, hs1, ht0, ht1] at hke
          have HS0 := Lib.hid hs0
          have HS1 := Lib.hid hs1
          have HT0 := Lib.hid ht0
          have HT1 := Lib.hid ht1
          clear hs0 hs1 ht0 ht1
          have i5 : t0 = t1 → decide (s0 < s1) = false := fun h => by have := hke.2 h; simp; omega
          have i6 : t0 = true → t1 = true := hke.1
          clear hke
          cases t0 <;> cases t1
          · have i7 := i5 rfl
            clear i5 i6
            refine wp_region_inv (?b0 :: ?b1 :: ?b2 :: ?b3 :: ?b4 :: ?b5 :: ?b6 :: ?b7 :: ?b8 :: ?b9 :: ?b10 :: ?b11 :: ?b12 :: ?b13 :: ?b14 :: ?b15 :: ?b16 :: ?b17 :: ?b18 :: ?b19 :: ?b20 :: ?b21 :: ?b22 :: ?b23 :: ?b24 :: ?b25 :: ?b26 :: ?b27 :: ?b28 :: ?b29 :: ?b30 :: ?b31 :: ?b32 :: ?b33 :: ?b34 :: ?b35 :: ?b36 :: ?b37 :: ?b38 :: ?b39 :: ?b40 :: ?b41 :: ?b42 :: ?b43 :: ?b44 :: ?b45 :: ?b46 :: ?b47 :: ?b48 :: ?b49 :: ?b50 :: ?b51 :: []) (fun wx => Kept (fun _ => False) wy wx) (by kernel_rfl) (by kernel_rfl) [some 91, some 92, some 93, some 94, some 95, some 96, some 97, some 98, some 99, some 100, some 101, some 102, some 103, some 104, some 105, some 106, some 107, some 108, some 109, some 110, some 111, some 112, some 113, some 114, some 115, some 116, some 117, some 118, some 119, some 120, some 121, some 122, some 123, some 124, some 125, some 126, some 127, some 128, some 129, some 130, some 131, some 132, some 133, some 134, some 135, some 136, some 137, some 138, some 139, some 140, some 141, some 142] rfl rfl ?bA ?bhA ?bh0 ?bH ?bhQ
            case bhA => simp only [laidAll, Act.put, List.setIfInBounds_toArray, List.set_cons_zero, List.set_cons_succ]; exact rfl
            case bH =>
              iterate 9 (refine ⟨?_, ?_⟩; · first | (refine OpStep.yields (Or.inr ⟨by rfl, ?_⟩); rfl) | (refine OpStep.yields (Or.inl ⟨by rfl, ?_⟩); intro w; go_simp; (try with_reducible rfl); done) | (refine OpStep.reads (by rfl) ?_; intro wx hI; have q0 := hI.cell CK0.out id; have q1 := hI.cell CK1.out id; go_simp; (try with_reducible rfl); done))
              refine ⟨?_, ?_⟩
              · refine OpStep.calls ?bf9 ?bg9 (by rfl) ?br9 ?bc9
                case br9 => intro w _; go_simp; first | (refine ⟨?_, ?_⟩ <;> with_reducible rfl) | with_reducible rfl
                case bc9 =>
                  intro wx hI
                  refine (own_trial (Lib.hid (HO.out.look (HKK.out.trans hI))) _ false HT0.out).mono ?_
                  rintro e w' ⟨rfl, -, hk⟩
                  refine ⟨?_, hI.trans hk⟩
                  with_reducible rfl
              iterate 16 (refine ⟨?_, ?_⟩; · first | (refine OpStep.yields (Or.inr ⟨by rfl, ?_⟩); rfl) | (refine OpStep.yields (Or.inl ⟨by rfl, ?_⟩); intro w; go_simp; (try with_reducible rfl); done) | (refine OpStep.reads (by rfl) ?_; intro wx hI; have q0 := hI.cell CK0.out id; have q1 := hI.cell CK1.out id; go_simp; (try with_reducible rfl); done))
              refine ⟨?_, ?_⟩
              · refine OpStep.calls ?bf26 ?bg26 (by rfl) ?br26 ?bc26
                case br26 => intro w _; go_simp; first | (refine ⟨?_, ?_⟩ <;> with_reducible rfl) | with_reducible rfl
                case bc26 =>
                  intro wx hI
                  refine (own_trial (Lib.hid (HO.out.look (HKK.out.trans hI))) _ false HT0.out).mono ?_
                  rintro e w' ⟨rfl, -, hk⟩
                  refine ⟨?_, hI.trans hk⟩
                  with_reducible rfl
              iterate 5 (refine ⟨?_, ?_⟩; · first | (refine OpStep.yields (Or.inr ⟨by rfl, ?_⟩); rfl) | (refine OpStep.yields (Or.inl ⟨by rfl, ?_⟩); intro w; go_simp; (try with_reducible rfl); done) | (refine OpStep.reads (by rfl) ?_; intro wx hI; have q0 := hI.cell CK0.out id; have q1 := hI.cell CK1.out id; go_simp; (try with_reducible rfl); done))
              refine ⟨?_, ?_⟩
              · refine OpStep.calls ?bf32 ?bg32 (by rfl) ?br32 ?bc32
                case br32 => intro w _; go_simp; first | (refine ⟨?_, ?_⟩ <;> with_reducible rfl) | with_reducible rfl
                case bc32 =>
                  intro wx hI
                  refine (own_trial (Lib.hid (HO.out.look (HKK.out.trans hI))) _ false HT1.out).mono ?_
                  rintro e w' ⟨rfl, -, hk⟩
                  refine ⟨?_, hI.trans hk⟩
                  with_reducible rfl
              iterate 8 (refine ⟨?_, ?_⟩; · first | (refine OpStep.yields (Or.inr ⟨by rfl, ?_⟩); rfl) | (refine OpStep.yields (Or.inl ⟨by rfl, ?_⟩); intro w; go_simp; (try with_reducible rfl); done) | (refine OpStep.reads (by rfl) ?_; intro wx hI; have q0 := hI.cell CK0.out id; have q1 := hI.cell CK1.out id; go_simp; (try with_reducible rfl); done))
              refine ⟨?_, ?_⟩
              · refine OpStep.calls ?bf41 ?bg41 (by rfl) ?br41 ?bc41
                case br41 => intro w _; go_simp; first | (refine ⟨?_, ?_⟩ <;> with_reducible rfl) | with_reducible rfl
                case bc41 =>
                  intro wx hI
                  refine (own_score (Lib.hid (HO.out.look (HKK.out.trans hI))) _ s0 HS0.out).mono ?_
                  rintro e w' ⟨rfl, -, hk⟩
                  refine ⟨?_, hI.trans hk⟩
                  with_reducible rfl
              iterate 5 (refine ⟨?_, ?_⟩; · first | (refine OpStep.yields (Or.inr ⟨by rfl, ?_⟩); rfl) | (refine OpStep.yields (Or.inl ⟨by rfl, ?_⟩); intro w; go_simp; (try with_reducible rfl); done) | (refine OpStep.reads (by rfl) ?_; intro wx hI; have q0 := hI.cell CK0.out id; have q1 := hI.cell CK1.out id; go_simp; (try with_reducible rfl); done))
              refine ⟨?_, ?_⟩
              · refine OpStep.calls ?bf47 ?bg47 (by rfl) ?br47 ?bc47
                case br47 => intro w _; go_simp; first | (refine ⟨?_, ?_⟩ <;> with_reducible rfl) | with_reducible rfl
                case bc47 =>
                  intro wx hI
                  refine (own_score (Lib.hid (HO.out.look (HKK.out.trans hI))) _ s1 HS1.out).mono ?_
                  rintro e w' ⟨rfl, -, hk⟩
                  refine ⟨?_, hI.trans hk⟩
                  with_reducible rfl
              iterate 4 (refine ⟨?_, ?_⟩; · first | (refine OpStep.yields (Or.inr ⟨by rfl, ?_⟩); rfl) | (refine OpStep.yields (Or.inl ⟨by rfl, ?_⟩); intro w; go_simp; (try with_reducible rfl); done) | (refine OpStep.reads (by rfl) ?_; intro wx hI; have q0 := hI.cell CK0.out id; have q1 := hI.cell CK1.out id; go_simp; (try with_reducible rfl); done))
              exact trivial
            case bh0 => exact Kept.refl (M := fun _ => False) wy |>.drew
            case bhQ =>
              intro wz hz
              have hSz := seen9_kept HSE.out hgy hz
              have hKz := HKK.out.trans hz
              have hgz := hz.lt hgy
              have HSZ := Lib.hid hSz
              have HKZ := Lib.hid hKz
              clear hSz hKz
              go_wp2_with fail
              go_roundw
              case measure => simp [intOf]; omega
              case rel => exact ⟨j + 1 + 1, by omega, by go_num, HSZ.out, HKZ.out, hgz⟩
          · clear i5 i6
            refine wp_region_inv (?c0 :: ?c1 :: ?c2 :: ?c3 :: ?c4 :: ?c5 :: ?c6 :: ?c7 :: ?c8 :: ?c9 :: ?c10 :: ?c11 :: ?c12 :: ?c13 :: ?c14 :: ?c15 :: ?c16 :: ?c17 :: ?c18 :: ?c19 :: ?c20 :: ?c21 :: ?c22 :: ?c23 :: ?c24 :: ?c25 :: ?c26 :: ?c27 :: ?c28 :: ?c29 :: ?c30 :: ?c31 :: ?c32 :: ?c33 :: ?c34 :: ?c35 :: ?c36 :: ?c37 :: ?c38 :: ?c39 :: ?c40 :: ?c41 :: ?c42 :: ?c43 :: ?c44 :: ?c45 :: ?c46 :: ?c47 :: ?c48 :: ?c49 :: ?c50 :: ?c51 :: []) (fun wx => Kept (fun _ => False) wy wx) (by kernel_rfl) (by kernel_rfl) [some 91, some 92, some 93, some 94, some 95, some 96, some 97, some 98, some 99, some 100, some 101, some 102, some 103, some 104, some 105, some 106, some 107, some 108, some 109, some 110, some 111, some 112, some 113, some 114, some 115, some 116, some 117, some 118, some 119, some 120, some 121, some 122, some 123, some 124, some 125, some 126, some 127, some 128, some 129, some 130, some 131, some 132, some 133, some 134, some 135, some 136, some 137, some 138, some 139, some 140, some 141, some 142] rfl rfl ?cA ?chA ?ch0 ?cH ?chQ
            case chA => simp only [laidAll, Act.put, List.setIfInBounds_toArray, List.set_cons_zero, List.set_cons_succ]; exact rfl
            case cH =>
              iterate 9 (refine ⟨?_, ?_⟩; · first | (refine OpStep.yields (Or.inr ⟨by rfl, ?_⟩); rfl) | (refine OpStep.yields (Or.inl ⟨by rfl, ?_⟩); intro w; go_simp; (try with_reducible rfl); done) | (refine OpStep.reads (by rfl) ?_; intro wx hI; have q0 := hI.cell CK0.out id; have q1 := hI.cell CK1.out id; go_simp; (try with_reducible rfl); done))
              refine ⟨?_, ?_⟩
              · refine OpStep.calls ?cf9 ?cg9 (by rfl) ?cr9 ?cc9
                case cr9 => intro w _; go_simp; first | (refine ⟨?_, ?_⟩ <;> with_reducible rfl) | with_reducible rfl
                case cc9 =>
                  intro wx hI
                  refine (own_trial (Lib.hid (HO.out.look (HKK.out.trans hI))) _ false HT0.out).mono ?_
                  rintro e w' ⟨rfl, -, hk⟩
                  refine ⟨?_, hI.trans hk⟩
                  with_reducible rfl
              iterate 16 (refine ⟨?_, ?_⟩; · first | (refine OpStep.yields (Or.inr ⟨by rfl, ?_⟩); rfl) | (refine OpStep.yields (Or.inl ⟨by rfl, ?_⟩); intro w; go_simp; (try with_reducible rfl); done) | (refine OpStep.reads (by rfl) ?_; intro wx hI; have q0 := hI.cell CK0.out id; have q1 := hI.cell CK1.out id; go_simp; (try with_reducible rfl); done))
              refine ⟨?_, ?_⟩
              · refine OpStep.calls ?cf26 ?cg26 (by rfl) ?cr26 ?cc26
                case cr26 => intro w _; go_simp; first | (refine ⟨?_, ?_⟩ <;> with_reducible rfl) | with_reducible rfl
                case cc26 =>
                  intro wx hI
                  refine (own_trial (Lib.hid (HO.out.look (HKK.out.trans hI))) _ false HT0.out).mono ?_
                  rintro e w' ⟨rfl, -, hk⟩
                  refine ⟨?_, hI.trans hk⟩
                  with_reducible rfl
              iterate 5 (refine ⟨?_, ?_⟩; · first | (refine OpStep.yields (Or.inr ⟨by rfl, ?_⟩); rfl) | (refine OpStep.yields (Or.inl ⟨by rfl, ?_⟩); intro w; go_simp; (try with_reducible rfl); done) | (refine OpStep.reads (by rfl) ?_; intro wx hI; have q0 := hI.cell CK0.out id; have q1 := hI.cell CK1.out id; go_simp; (try with_reducible rfl); done))
              refine ⟨?_, ?_⟩
              · refine OpStep.calls ?cf32 ?cg32 (by rfl) ?cr32 ?cc32
                case cr32 => intro w _; go_simp; first | (refine ⟨?_, ?_⟩ <;> with_reducible rfl) | with_reducible rfl
                case cc32 =>
                  intro wx hI
                  refine (own_trial (Lib.hid (HO.out.look (HKK.out.trans hI))) _ true HT1.out).mono ?_
                  rintro e w' ⟨rfl, -, hk⟩
                  refine ⟨?_, hI.trans hk⟩
                  with_reducible rfl
              iterate 19 (refine ⟨?_, ?_⟩; · first | (refine OpStep.yields (Or.inr ⟨by rfl, ?_⟩); rfl) | (refine OpStep.yields (Or.inl ⟨by rfl, ?_⟩); intro w; go_simp; (try with_reducible rfl); done) | (refine OpStep.reads (by rfl) ?_; intro wx hI; have q0 := hI.cell CK0.out id; have q1 := hI.cell CK1.out id; go_simp; (try with_reducible rfl); done))
              exact trivial
            case ch0 => exact Kept.refl (M := fun _ => False) wy |>.drew
            case chQ =>
              intro wz hz
              have hSz := seen9_kept HSE.out hgy hz
              have hKz := HKK.out.trans hz
              have hgz := hz.lt hgy
              have HSZ := Lib.hid hSz
              have HKZ := Lib.hid hKz
              clear hSz hKz
              go_wp2_with fail
              go_roundw
              case measure => simp [intOf]; omega
              case rel => exact ⟨j + 1 + 1, by omega, by go_num, HSZ.out, HKZ.out, hgz⟩
          · exact absurd (i6 rfl) (by decide)
          · have i7 := i5 rfl
            clear i5 i6
            refine wp_region_inv (?d0 :: ?d1 :: ?d2 :: ?d3 :: ?d4 :: ?d5 :: ?d6 :: ?d7 :: ?d8 :: ?d9 :: ?d10 :: ?d11 :: ?d12 :: ?d13 :: ?d14 :: ?d15 :: ?d16 :: ?d17 :: ?d18 :: ?d19 :: ?d20 :: ?d21 :: ?d22 :: ?d23 :: ?d24 :: ?d25 :: ?d26 :: ?d27 :: ?d28 :: ?d29 :: ?d30 :: ?d31 :: ?d32 :: ?d33 :: ?d34 :: ?d35 :: ?d36 :: ?d37 :: ?d38 :: ?d39 :: ?d40 :: ?d41 :: ?d42 :: ?d43 :: ?d44 :: ?d45 :: ?d46 :: ?d47 :: ?d48 :: ?d49 :: ?d50 :: ?d51 :: []) (fun wx => Kept (fun _ => False) wy wx) (by kernel_rfl) (by kernel_rfl) [some 91, some 92, some 93, some 94, some 95, some 96, some 97, some 98, some 99, some 100, some 101, some 102, some 103, some 104, some 105, some 106, some 107, some 108, some 109, some 110, some 111, some 112, some 113, some 114, some 115, some 116, some 117, some 118, some 119, some 120, some 121, some 122, some 123, some 124, some 125, some 126, some 127, some 128, some 129, some 130, some 131, some 132, some 133, some 134, some 135, some 136, some 137, some 138, some 139, some 140, some 141, some 142] rfl rfl ?dA ?dhA ?dh0 ?dH ?dhQ
            case dhA => simp only [laidAll, Act.put, List.setIfInBounds_toArray, List.set_cons_zero, List.set_cons_succ]; exact rfl
            case dH =>
              iterate 9 (refine ⟨?_, ?_⟩; · first | (refine OpStep.yields (Or.inr ⟨by rfl, ?_⟩); rfl) | (refine OpStep.yields (Or.inl ⟨by rfl, ?_⟩); intro w; go_simp; (try with_reducible rfl); done) | (refine OpStep.reads (by rfl) ?_; intro wx hI; have q0 := hI.cell CK0.out id; have q1 := hI.cell CK1.out id; go_simp; (try with_reducible rfl); done))
              refine ⟨?_, ?_⟩
              · refine OpStep.calls ?df9 ?dg9 (by rfl) ?dr9 ?dc9
                case dr9 => intro w _; go_simp; first | (refine ⟨?_, ?_⟩ <;> with_reducible rfl) | with_reducible rfl
                case dc9 =>
                  intro wx hI
                  refine (own_trial (Lib.hid (HO.out.look (HKK.out.trans hI))) _ true HT0.out).mono ?_
                  rintro e w' ⟨rfl, -, hk⟩
                  refine ⟨?_, hI.trans hk⟩
                  with_reducible rfl
              iterate 6 (refine ⟨?_, ?_⟩; · first | (refine OpStep.yields (Or.inr ⟨by rfl, ?_⟩); rfl) | (refine OpStep.yields (Or.inl ⟨by rfl, ?_⟩); intro w; go_simp; (try with_reducible rfl); done) | (refine OpStep.reads (by rfl) ?_; intro wx hI; have q0 := hI.cell CK0.out id; have q1 := hI.cell CK1.out id; go_simp; (try with_reducible rfl); done))
              refine ⟨?_, ?_⟩
              · refine OpStep.calls ?df16 ?dg16 (by rfl) ?dr16 ?dc16
                case dr16 => intro w _; go_simp; first | (refine ⟨?_, ?_⟩ <;> with_reducible rfl) | with_reducible rfl
                case dc16 =>
                  intro wx hI
                  refine (own_trial (Lib.hid (HO.out.look (HKK.out.trans hI))) _ true HT1.out).mono ?_
                  rintro e w' ⟨rfl, -, hk⟩
                  refine ⟨?_, hI.trans hk⟩
                  with_reducible rfl
              iterate 9 (refine ⟨?_, ?_⟩; · first | (refine OpStep.yields (Or.inr ⟨by rfl, ?_⟩); rfl) | (refine OpStep.yields (Or.inl ⟨by rfl, ?_⟩); intro w; go_simp; (try with_reducible rfl); done) | (refine OpStep.reads (by rfl) ?_; intro wx hI; have q0 := hI.cell CK0.out id; have q1 := hI.cell CK1.out id; go_simp; (try with_reducible rfl); done))
              refine ⟨?_, ?_⟩
              · refine OpStep.calls ?df26 ?dg26 (by rfl) ?dr26 ?dc26
                case dr26 => intro w _; go_simp; first | (refine ⟨?_, ?_⟩ <;> with_reducible rfl) | with_reducible rfl
                case dc26 =>
                  intro wx hI
                  refine (own_trial (Lib.hid (HO.out.look (HKK.out.trans hI))) _ true HT0.out).mono ?_
                  rintro e w' ⟨rfl, -, hk⟩
                  refine ⟨?_, hI.trans hk⟩
                  with_reducible rfl
              iterate 5 (refine ⟨?_, ?_⟩; · first | (refine OpStep.yields (Or.inr ⟨by rfl, ?_⟩); rfl) | (refine OpStep.yields (Or.inl ⟨by rfl, ?_⟩); intro w; go_simp; (try with_reducible rfl); done) | (refine OpStep.reads (by rfl) ?_; intro wx hI; have q0 := hI.cell CK0.out id; have q1 := hI.cell CK1.out id; go_simp; (try with_reducible rfl); done))
              refine ⟨?_, ?_⟩
              · refine OpStep.calls ?df32 ?dg32 (by rfl) ?dr32 ?dc32
                case dr32 => intro w _; go_simp; first | (refine ⟨?_, ?_⟩ <;> with_reducible rfl) | with_reducible rfl
                case dc32 =>
                  intro wx hI
                  refine (own_trial (Lib.hid (HO.out.look (HKK.out.trans hI))) _ true HT1.out).mono ?_
                  rintro e w' ⟨rfl, -, hk⟩
                  refine ⟨?_, hI.trans hk⟩
                  with_reducible rfl
              iterate 8 (refine ⟨?_, ?_⟩; · first | (refine OpStep.yields (Or.inr ⟨by rfl, ?_⟩); rfl) | (refine OpStep.yields (Or.inl ⟨by rfl, ?_⟩); intro w; go_simp; (try with_reducible rfl); done) | (refine OpStep.reads (by rfl) ?_; intro wx hI; have q0 := hI.cell CK0.out id; have q1 := hI.cell CK1.out id; go_simp; (try with_reducible rfl); done))
              refine ⟨?_, ?_⟩
              · refine OpStep.calls ?df41 ?dg41 (by rfl) ?dr41 ?dc41
                case dr41 => intro w _; go_simp; first | (refine ⟨?_, ?_⟩ <;> with_reducible rfl) | with_reducible rfl
                case dc41 =>
                  intro wx hI
                  refine (own_score (Lib.hid (HO.out.look (HKK.out.trans hI))) _ s0 HS0.out).mono ?_
                  rintro e w' ⟨rfl, -, hk⟩
                  refine ⟨?_, hI.trans hk⟩
                  with_reducible rfl
              iterate 5 (refine ⟨?_, ?_⟩; · first | (refine OpStep.yields (Or.inr ⟨by rfl, ?_⟩); rfl) | (refine OpStep.yields (Or.inl ⟨by rfl, ?_⟩); intro w; go_simp; (try with_reducible rfl); done) | (refine OpStep.reads (by rfl) ?_; intro wx hI; have q0 := hI.cell CK0.out id; have q1 := hI.cell CK1.out id; go_simp; (try with_reducible rfl); done))
              refine ⟨?_, ?_⟩
              · refine OpStep.calls ?df47 ?dg47 (by rfl) ?dr47 ?dc47
                case dr47 => intro w _; go_simp; first | (refine ⟨?_, ?_⟩ <;> with_reducible rfl) | with_reducible rfl
                case dc47 =>
                  intro wx hI
                  refine (own_score (Lib.hid (HO.out.look (HKK.out.trans hI))) _ s1 HS1.out).mono ?_
                  rintro e w' ⟨rfl, -, hk⟩
                  refine ⟨?_, hI.trans hk⟩
                  with_reducible rfl
              iterate 4 (refine ⟨?_, ?_⟩; · first | (refine OpStep.yields (Or.inr ⟨by rfl, ?_⟩); rfl) | (refine OpStep.yields (Or.inl ⟨by rfl, ?_⟩); intro w; go_simp; (try with_reducible rfl); done) | (refine OpStep.reads (by rfl) ?_; intro wx hI; have q0 := hI.cell CK0.out id; have q1 := hI.cell CK1.out id; go_simp; (try with_reducible rfl); done))
              exact trivial
            case dh0 => exact Kept.refl (M := fun _ => False) wy |>.drew
            case dhQ =>
              intro wz hz
              have hSz := seen9_kept HSE.out hgy hz
              have hKz := HKK.out.trans hz
              have hgz := hz.lt hgy
              have HSZ := Lib.hid hSz
              have HKZ := Lib.hid hKz
              clear hSz hKz
              go_wp2_with fail
              go_roundw
              case measure => simp [intOf]; omega
              case rel => exact ⟨j + 1 + 1, by omega, by go_num, HSZ.out, HKZ.out, hgz⟩

      · obtain rfl : k = n := by omega
        clear SR hlt hk
        go_wp2_with fail
        go_loopw [11] (fun c wr => ∃ u : Nat, u ≤ S.l.length ∧ c = .int .i64 u ∧ Kept (fun _ => False) w7 wr) (fun c _ => S.l.length - (intOf c).toNat)
        case atStart => exact ⟨0, by omega, rfl, KR.out⟩
        case round =>
          obtain ⟨u, hu, rfl, hkw⟩ := hrel
          clear KR
          have KR := Lib.hid hkw
          have HOr := Lib.hid (HO.out.look hkw)
          have HDr := Lib.hid (HD.out.look hkw)
          have hl9 : S.l.length ≤ 9 := HO.out.ok.2.2.2.2.1
          clear hkw
          go_wp2_with fail
          refine (len_any b g S _ HOr.out.bk).mono ?_
          rintro e wx ⟨rfl, rfl⟩
          by_cases hul : u < S.l.length
          · obtain ⟨x, hx⟩ : ∃ x, S.of (u : Int) = x := ⟨_, rfl⟩
            have hx' : ({ S with cap := dcap } : BookS).of (u : Int) = x := hx
            have n0 : (x.score != x.score) = false := by simp
            have n1 : (x.rests != x.rests) = false := by simp
            have n2 : (x.trial != x.trial) = false := by simp
            have HX := Lib.hid hx
            have HX' := Lib.hid hx'
            clear hx hx'
            go_wp2_with fail
            refine (own_score HOr u x.score (by rw [HX.out])).mono ?_
            rintro e wa ⟨rfl, hoa, hka⟩
            replace HOr := Lib.hid hoa
            replace HDr := Lib.hid (HDr.out.look hka)
            replace KR := Lib.hid (KR.out.trans hka)
            clear hoa hka
            go_wp2_with fail
            refine (own_score HDr u x.score (by rw [HX'.out])).mono ?_
            rintro e wb ⟨rfl, hda, hka⟩
            replace HOr := Lib.hid (HOr.out.look hka)
            replace HDr := Lib.hid hda
            replace KR := Lib.hid (KR.out.trans hka)
            clear hda hka
            go_wp2_with fail
            refine (own_rests HOr u x.rests (by rw [HX.out])).mono ?_
            rintro e wc ⟨rfl, hoa, hka⟩
            replace HOr := Lib.hid hoa
            replace HDr := Lib.hid (HDr.out.look hka)
            replace KR := Lib.hid (KR.out.trans hka)
            clear hoa hka
            go_wp2_with fail
            refine (own_rests HDr u x.rests (by rw [HX'.out])).mono ?_
            rintro e wd ⟨rfl, hda, hka⟩
            replace HOr := Lib.hid (HOr.out.look hka)
            replace HDr := Lib.hid hda
            replace KR := Lib.hid (KR.out.trans hka)
            clear hda hka
            go_wp2_with fail
            refine (own_trial HOr u x.trial (by rw [HX.out])).mono ?_
            rintro e we ⟨rfl, hoa, hka⟩
            replace HOr := Lib.hid hoa
            replace HDr := Lib.hid (HDr.out.look hka)
            replace KR := Lib.hid (KR.out.trans hka)
            clear hoa hka
            go_wp2_with fail
            refine (own_trial HDr u x.trial (by rw [HX'.out])).mono ?_
            rintro e wf ⟨rfl, hda, hka⟩
            replace KR := Lib.hid (KR.out.trans hka)
            clear hda hka HOr HDr
            go_wp2_with fail
            go_roundw
            case measure => simp [intOf]; omega
            case rel => exact ⟨u + 1, by omega, by go_num, KR.out⟩
          · obtain rfl : u = S.l.length := by omega
            go_wp2_with fail
            refine (own_may HOr ml HML.out).mono ?_
            rintro e wa ⟨a9, c9, rfl, hr9, hoa, hka⟩
            have HR9 := Lib.hid hr9
            have HMa := Lib.hid (HM.out.look (KR.out.trans hka))
            have HF := Lib.hid hoa.kp
            clear hr9 hoa hka HOr HDr
            go_wp2_with fail
            refine (ints_len20 a9 am ml ml _ _ c9 cm rfl HN.out _ HR9.out.all HMa.out.all (by have := HN.out; omega) (by have := HN.out; omega)).mono ?_
            rintro e wb ⟨rfl, hkb⟩
            have d1 : decide (ml = ml) = true := by simp
            rw [d1]
            replace HF := Lib.hid (HF.out.trans hkb)
            clear hkb d1
            go_wp2_with fail
            go_ret
            exact ⟨rfl, K0.out.trans HF.out⟩
  · refine (long20_any ups limit rest seed a f _ ca _ cf true hr _).mono ?_
    rintro e w1 ⟨rfl, hk1⟩
    go_wp2_with fail
    refine (awake20_any _).mono ?_
    rintro e w2 ⟨rfl, hk2⟩
    go_wp2_with fail
    go_ret
    exact ⟨rfl, (K0.out.trans hk1).trans hk2⟩
end Go.Proofs.Ytnpmimjhpnhdkaa
