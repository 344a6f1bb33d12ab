/- PendApart: the walk. -/
import Derived.Test.YthgioaaenfdcdaaLawFree29
namespace Go.Proofs.Ythgioaaenfdcdaa
open Go.RowKit Go.Maps

theorem POwn.base {W w w' : World} {S : TblS} {T : List Outs} (h : POwn w w' S T) (k : Kept (fun _ => False) W w) : POwn W w' S T := ⟨h.tb, h.len, k.trans h.kp, fun x hx => Nat.le_trans k.size (h.lo x hx)⟩
theorem TOwn.base {W w w' : World} {b : Nat} {s : TapeS} {L : List Nat} (h : TOwn w w' b s L) (k : Kept (fun _ => False) W w) : TOwn W w' b s L := ⟨h.tp, h.lt, k.trans h.kp, Nat.le_trans k.size h.lo⟩
/-- Behind the freeing of the first slots. -/
def freeAll (T : List Outs) : Nat → List Outs
  | 0 => T
  | k + 1 => (freeAll T k).map (Outs.free (k : Int))

set_option maxRecDepth 100000 in
set_option maxHeartbeats 4000000 in
theorem apart29_walk {H H' : Type} {enc : TypeId × Value → H} {enc' : TypeId × Value → H'} {d : DataW H} {p : List MemPlace} {d' : DataW H'} {p' : List MemPlace} (w : World) (ups : Int) (_ : (Lit.int .i64 ups).wf = true) (seed : Int) (hseed : (Lit.int .u64 seed).wf = true) (ao : Option Addr) (lenf capf : Nat) (zs : List Int) (hzs : IsRow .u64 w ao lenf capf zs)
    (a : Option Addr) (len cap : Nat) (hk : DataW.Trod enc Try.prog w 0 (fun _ => true) true 24 (.slice a len cap) d p) (a2 : Option Addr) (len2 cap2 : Nat) (hk' : DataW.Trod enc' Try.prog w 0 (fun _ => true) true 24 (.slice a2 len2 cap2) d' p') (idn : Int) (hid : (Lit.int .u16 idn).wf = true) :
    Calls Try.prog 5 #[.int .i64 ups, .int .u64 seed, .slice ao lenf capf, .slice a len cap, .slice a2 len2 cap2, .int .u16 idn] w fun e w' => e = .returned (.bool true) ∧ Kept (fun _ => False) w w' := by
  obtain ⟨l, rfl, hacts⟩ := pacts_of (Reads.of hk)
  obtain ⟨m, rfl, hacts2⟩ := pacts_of (Reads.of hk')
  obtain ⟨first, rfl, hrow, hf64⟩ := rowU_of_isRow hzs
  have HA := Lib.hid hacts
  have HM := Lib.hid hacts2
  have HF := Lib.hid hrow
  have hidu := u16_of_wf hid
  have HOKU := Lib.hid (And.intro (u64_of_wf hseed) hf64)
  clear hk hk' hacts hacts2 hzs hrow hf64 hseed hid
  by_cases h0 : 200 < l.length
  · have hb0 : decide (200 < (l.length : Int)) = true := by simp; omega
    clear h0
    go_enter Try.func5, Try.ntmps5
    go_wp2_with fail
    refine (pawake_any _).mono ?_
    rintro e w1 ⟨rfl, hk⟩
    go_wp2_with fail
    go_ret
    exact ⟨rfl, hk⟩
  have hb0 : decide (200 < (l.length : Int)) = false := by simp; omega
  by_cases h1 : 200 < m.length
  · have hb1 : decide (200 < (m.length : Int)) = true := by simp; omega
    clear h0 h1
    go_enter Try.func5, Try.ntmps5
    go_wp2_with fail
    refine (pawake_any _).mono ?_
    rintro e w1 ⟨rfl, hk⟩
    go_wp2_with fail
    go_ret
    exact ⟨rfl, hk⟩
  have hb1 : decide (200 < (m.length : Int)) = false := by simp; omega
  by_cases h2 : 300 < first.length
  · have hb2 : decide (300 < (first.length : Int)) = true := by simp; omega
    clear h0 h1 h2
    go_enter Try.func5, Try.ntmps5
    go_wp2_with fail
    refine (pawake_any _).mono ?_
    rintro e w1 ⟨rfl, hk⟩
    go_wp2_with fail
    go_ret
    exact ⟨rfl, hk⟩
  have hb2 : decide (300 < (first.length : Int)) = false := by simp; omega
  obtain ⟨seed2, hs2⟩ : ∃ x, IntKind.u64.wrap (seed + 1) = x := ⟨_, rfl⟩
  have hs2u : U64 seed2 := by rw [← hs2]; exact u64_wrap _
  have HS2 := Lib.hid hs2u
  clear hs2u
  go_enter Try.func5, Try.ntmps5
  go_wp2_with fail
  refine (pawake_any _).mono ?_
  rintro e w1 ⟨rfl, hk1⟩
  have K1 := Lib.hid hk1
  clear hk1
  go_wp2_with fail
  refine (pmade_any w1 ups seed ao first capf (fun _ => True) a l cap (by omega) (Lib.hid (HF.out.kept K1.out (fun _ _ _ => id))) HOKU.out (by omega) (Lib.hid (HA.out.kept K1.out))).mono ?_
  rintro e w2 ⟨S, b, L, hn, rfl, ho, -, -, -⟩
  have K2 := Lib.hid (K1.out.trans ho.kp)
  have HO := Lib.hid (ho.base K1.out)
  clear ho
  go_wp2_with fail
  refine (pmade_any w2 ups seed ao first capf (fun _ => True) a l cap (by omega) (Lib.hid (HF.out.kept K2.out (fun _ _ _ => id))) HOKU.out (by omega) (Lib.hid (HA.out.kept K2.out))).mono ?_
  rintro e w3 ⟨S', b', L', -, rfl, ho', -, -, -⟩
  have HDA := Lib.hid (fun x (hx : S.foot x) (hb : x ∈ S'.bs) => (by have h1 := ho'.lo x (foot_bs hb); have h2 := HO.out.lt hx; omega : False))
  have HDB := Lib.hid (fun x (hx : S'.foot x) (hb : x ∈ S.bs) => (by have h1 := ho'.lo x hx; have h2 := HO.out.lt (foot_bs hb); omega : False))
  replace HO := Lib.hid (HO.out.look ho'.kp)
  have HG := Lib.hid (ho'.base K2.out)
  obtain ⟨n, hnn⟩ : ∃ n, nOf ups = n := ⟨_, rfl⟩
  obtain ⟨T, hT⟩ : ∃ T, (madeS (nOf ups) seed first l).1 = T := ⟨_, rfl⟩
  have hlen : T.length = n := by rw [← hT, madeS_len, hnn]
  rw [hT] at HO HG
  rw [hnn] at hn ⊢
  clear ho' hT hnn
  go_wp2_with fail
  refine (pown_copy HO).mono ?_
  rintro e w4 ⟨C, rfl, hc, ho, hf4, hk4⟩
  have HL1 := Lib.hid (fun x (hx : S.foot x) => (⟨HO.out.lt hx, fun hb => by have := hf4 x (foot_bs hb); have := HO.out.lt hx; omega⟩ : x < w3.heap.size ∧ ¬ x ∈ C.bs))
  have HL2 := Lib.hid (fun x (hx : S'.foot x) => (⟨HG.out.lt hx, fun hb => by have := hf4 x (foot_bs hb); have := HG.out.lt hx; omega⟩ : x < w3.heap.size ∧ ¬ x ∈ C.bs))
  replace HO := Lib.hid ho
  replace HG := Lib.hid (HG.out.look hk4)
  have HC := Lib.hid hc
  have HFL := Lib.hid (fun k (hk : k ∈ C.bs) => hc.lt (foot_bs hk))
  have hz4 := hk4.size
  clear ho hc hf4 hk4
  go_wp2_with fail

  refine (new_any seed2 ao first capf (fun _ => True) C.bs w4 HFL.out (HF.out.kept HO.out.kp (fun _ _ _ => id)) ⟨HS2.out, HOKU.out.2⟩ (by omega)).mono ?_
  rintro e w5 ⟨tb, rfl, hb5, ht, hk5⟩
  have hnf : ¬ C.foot tb := fun h => by have := HC.out.lt h; omega
  have HT := Lib.hid (show TOwn w w5 tb ⟨seed2, first, 0⟩ (tb :: C.bs) from ⟨ht, fun x hx => by
    rcases List.mem_cons.1 hx with rfl | hx
    · exact ht.lt
    · exact hk5.lt (HFL.out x hx), HO.out.kp.trans hk5, by have := HO.out.kp.size; omega⟩)
  replace HO := Lib.hid (HO.out.look hk5)
  replace HG := Lib.hid (HG.out.look hk5)
  replace HC := Lib.hid (HC.out.look hk5)
  have HSL := Lib.hid (fun k (hk : k ∈ C.bs) => List.mem_cons_of_mem tb hk)
  have HM1 := Lib.hid (fun x (hx : S.foot x) (h : x = tb ∨ x ∈ C.bs) => (by
    have := HL1.out x hx
    rcases h with h | h
    · omega
    · exact this.2 h : False))
  have HM2 := Lib.hid (fun x (hx : S'.foot x) (h : x = tb ∨ x ∈ C.bs) => (by
    have := HL2.out x hx
    rcases h with h | h
    · omega
    · exact this.2 h : False))
  have HMW := Lib.hid (fun x (hx : x < w.heap.size) (h : x = tb ∨ x ∈ C.bs) => (by
    rcases h with h | h
    · have := HT.out.lo; omega
    · exact HC.out.bsW x hx h : False))
  clear ht hk5 hb5
  go_wp2_with fail
  clear hs2
  go_loopw [21] (fun c wr => ∃ k : Nat, k ≤ m.length ∧ c = .int .i64 k ∧ POwn w wr S T ∧ POwn w wr S' T ∧ POwn w wr C (actsS (T, ⟨seed2, first, 0⟩) (m.take k)).1 ∧ TOwn w wr tb (actsS (T, ⟨seed2, first, 0⟩) (m.take k)).2 (tb :: C.bs)) (fun c _ => m.length - (intOf c).toNat)
  case atStart => exact ⟨0, by omega, rfl, HO.out, HG.out, HC.out, HT.out⟩
  case round =>
    obtain ⟨k, hk, rfl, ho, hg, hc, ht⟩ := hrel
    replace HO := Lib.hid ho
    replace HG := Lib.hid hg
    replace HC := Lib.hid hc
    replace HT := Lib.hid ht
    clear ho hg hc ht
    by_cases hlt : k < m.length
    · obtain ⟨b0, o, rfl, hb0, c0, c1, c2, -⟩ := (HM.out.kept HO.out.kp) k hlt
      have hst := Lib.hid (actsS_take (T, ⟨seed2, first, 0⟩) m k hlt)
      have hus := actsS_used (T, ⟨seed2, first, 0⟩) (m.take k)
      simp only [List.length_take] at hus
      obtain ⟨st, hst0⟩ : ∃ st, actsS (T, ⟨seed2, first, 0⟩) (m.take k) = st := ⟨_, rfl⟩
      rw [hst0] at HC HT hst hus
      obtain ⟨TC, s⟩ := st
      obtain ⟨x, hx⟩ : ∃ x, m[k] = x := ⟨_, rfl⟩
      rw [hx] at c0 c1 c2 hst
      simp only at hus
      clear hx hst0
      go_wp2_with fail
      refine (pdoes_any HC HT HSL.out hnf (by omega) x).mono ?_
      rintro e w6 ⟨rfl, hc, ht, hk6⟩
      rw [← hst.out] at hc ht
      replace HO := Lib.hid (HO.out.aside hk6 HM1.out HMW.out)
      replace HG := Lib.hid (HG.out.aside hk6 HM2.out HMW.out)
      replace HC := Lib.hid hc
      replace HT := Lib.hid ht
      clear hc ht hk6
      go_wp2_with fail
      go_roundw
      case rel => exact ⟨k + 1, by omega, by go_num, HO.out, HG.out, HC.out, HT.out⟩
      case measure => simp [intOf]; omega
    · obtain rfl : k = m.length := by omega
      clear hlt hk HC HT HM1 HM2 HMW HSL
      go_wp2_with fail
      go_loopw [22] (fun c wr => ∃ j : Nat, j ≤ n ∧ c = .int .i64 j ∧ POwn w wr S T ∧ POwn w wr S' T) (fun c _ => n - (intOf c).toNat)
      case atStart => exact ⟨0, by omega, rfl, HO.out, HG.out⟩
      case round =>
        obtain ⟨j, hj, rfl, ho, hg⟩ := hrel
        replace HO := Lib.hid ho
        replace HG := Lib.hid hg
        clear ho hg
        by_cases hlt : j < n
        · obtain ⟨v, hv⟩ : ∃ v, look (atT T (j : Int)) idn = v := ⟨_, rfl⟩
          obtain ⟨q, hq⟩ : ∃ q, (atT T (j : Int)).length = q := ⟨_, rfl⟩
          have HV := Lib.hid hv
          have HQ := Lib.hid hq
          clear hv hq
          go_wp2_with fail
          refine (pown_find HO j idn hidu v HV.out).mono ?_
          rintro e _ ⟨rfl, rfl⟩
          go_wp2_with fail
          refine (pown_find HG j idn hidu v HV.out).mono ?_
          rintro e _ ⟨rfl, rfl⟩
          go_wp2_with fail
          refine (pown_len HO j q HQ.out).mono ?_
          rintro e _ ⟨rfl, rfl⟩
          go_wp2_with fail
          refine (pown_len HG j q HQ.out).mono ?_
          rintro e _ ⟨rfl, rfl⟩
          go_wp2_with fail
          go_roundw
          case rel => exact ⟨j + 1, by omega, by go_num, HO.out, HG.out⟩
          case measure => simp [intOf]; omega
        · go_wp2_with fail
          clear hlt hj
          go_loopw [27] (fun c wr => ∃ j : Nat, j ≤ 32 ∧ c = .int .i64 j ∧ POwn w wr S (freeAll T j) ∧ POwn w wr S' (freeAll T j)) (fun c _ => 32 - (intOf c).toNat)
          case atStart => exact ⟨0, by omega, rfl, HO.out, HG.out⟩
          case round =>
            obtain ⟨j, hj, rfl, ho, hg⟩ := hrel
            replace HO := Lib.hid ho
            replace HG := Lib.hid hg
            clear ho hg
            by_cases hlt : j < 32
            · obtain ⟨q, hq⟩ : ∃ q, freedN (j : Int) (freeAll T j) = q := ⟨_, rfl⟩
              have HQ := Lib.hid hq
              clear hq
              go_wp2_with fail
              refine (pown_free HO j q HQ.out).mono ?_
              rintro e w7 ⟨rfl, ho, hk7⟩
              replace HG := Lib.hid (HG.out.aside hk7 HDB.out HO.out.bsW)
              replace HO := Lib.hid ho
              clear ho hk7
              go_wp2_with fail
              refine (pown_free HG j q HQ.out).mono ?_
              rintro e w8 ⟨rfl, hg, hk8⟩
              replace HO := Lib.hid (HO.out.aside hk8 HDA.out HG.out.bsW)
              replace HG := Lib.hid hg
              clear hg hk8
              go_wp2_with fail
              go_roundw
              case rel => exact ⟨j + 1, by omega, by go_num, HO.out, HG.out⟩
              case measure => simp [intOf]; omega
            · go_wp2_with fail
              go_ret
              exact ⟨rfl, HO.out.kp⟩
end Go.Proofs.Ythgioaaenfdcdaa
