/- ReputeBounds, walked. -/
import Derived.Test.YtcdoefpfgkhokaaLawBounds
namespace Go.Proofs.Ytcdoefpfgkhokaa
open Go.RowKit

set_option maxRecDepth 100000 in
set_option maxHeartbeats 2000000 in
theorem bounds_walk {H H' : Type} {enc : TypeId × Value → H} {enc' : TypeId × Value → H'} {d : DataW H} {p : List MemPlace} {d' : DataW H'} {p' : List MemPlace} (w : World) (ups : Int) (_ : (Lit.int .i64 ups).wf = true) (limit : Int) (_ : (Lit.int .i64 limit).wf = true) (rest : Int) (_ : (Lit.int .i64 rest).wf = true)
    (a : Option Addr) (len cap : Nat) (hk : DataW.Trod enc Try.prog w 0 (fun _ => true) true 22 (.slice a len cap) d p) (cs : Array Value) (hk' : DataW.Trod enc' Try.prog w 0 (fun _ => true) true 29 (.agg cs) d' p') :
    Calls Try.prog 4 #[.int .i64 ups, .int .i64 limit, .int .i64 rest, .slice a len cap, .agg cs] w fun e w' => e = .returned (.bool true) ∧ Kept (fun _ => False) w w' := by
  obtain ⟨l, rfl, hacts⟩ := acts_of (Reads.of hk)
  obtain ⟨⟨k, u0, m⟩, rfl, k0, k1⟩ := act_of (Reads.of hk')
  simp only at k0 k1
  have HA := Lib.hid hacts
  clear hk hk' hacts
  have K0 := Lib.hid ((Kept.refl (M := fun _ => False) w).alloc (.cells #[.int .u8 k, .int .i64 u0, .int .i64 m] 29))
  have C0 := Lib.hid (new_blk w (.cells #[.int .u8 k, .int .i64 u0, .int .i64 m] 29))
  by_cases h1 : 600 < l.length
  · have hb : decide (600 < (l.length : Int)) = true := by simp; omega
    clear h1
    go_enter Try.func4, Try.ntmps4
    go_wp2_with fail
    refine (awake_any _).mono ?_
    rintro e w1 ⟨rfl, hk⟩
    go_wp2_with fail
    go_ret
    exact ⟨rfl, K0.out.trans hk⟩
  have hb : decide (600 < (l.length : Int)) = false := by simp; omega
  go_enter Try.func4, Try.ntmps4
  go_wp2_with fail
  refine (awake_any _).mono ?_
  rintro e w1 ⟨rfl, hk1⟩
  replace C0 := Lib.hid (hk1.heap C0.out id)
  replace K0 := Lib.hid (K0.out.trans hk1)
  have hltw := lt_of_block C0.out
  clear hk1
  go_wp2_with fail
  refine (made_any w1 ups limit rest a l cap (by omega) (Lib.hid (HA.out.kept K0.out))).mono ?_
  rintro e w2 ⟨n, lo, ti, b, g, hok, rfl, ho⟩
  replace C0 := Lib.hid (ho.kp.heap C0.out id)
  have hb2 := ho.hb
  have hg2 := ho.hg
  have HO := Lib.hid (ho.base K0.out)
  obtain ⟨S, hS⟩ : ∃ S, (newB n lo ti).acts l = S := ⟨_, rfl⟩
  rw [hS] at HO
  have hlen : S.l.length = n := by rw [← hS, len_acts]; simp [newB]
  have hn1 : 1 ≤ n := by have := hok.1.1; omega
  have hn9 : n ≤ 9 := by have := hok.1.2.1; omega
  have HS := Lib.hid hS
  have HOK := Lib.hid HO.out.ok
  clear ho hok hS
  have gb : b ≠ w.heap.size := by omega
  have gg : g ≠ w.heap.size := by omega
  have cc0 := cell_blk C0.out 0
  have cc1 := cell_blk C0.out 1
  have cf0 := free_blk C0.out 0
  simp at cc0 cc1
  go_wp2_with fail
  have HO2 := Lib.hid (HO.out.aside ((Kept.refl (M := (· = w.heap.size)) w2).own 0 (.int .u8 (k % 3))) gb gg (Nat.le_refl _))
  have C2 := Lib.hid (set_blk C0.out 0 (.int .u8 (k % 3)))
  simp at C2
  clear cc0 cc1 cf0 C0 HO
  refine (own_copy HO2 (by omega)).mono ?_
  rintro e w3 ⟨b', g', cap', rfl, hb3, hg3, -, -, ho', ho, hk3⟩
  replace C2 := Lib.hid (hk3.heap C2.out id)
  have HB := Lib.hid ho
  have HC := Lib.hid ho'
  simp at hb3 hg3
  have hb1 := HO2.out.bk.ltb
  have hg1 := HO2.out.bk.ltg
  simp at hb1 hg1
  have hbn : b' ≠ b := by omega
  clear ho ho' hk3 HO2
  have cc0 := cell_blk C2.out 0
  have cc1 := cell_blk C2.out 1
  have cc2 := cell_blk C2.out 2
  have cf0 := free_blk C2.out 0
  simp at cc0 cc1 cc2
  go_wp2_with fail
  refine (ldoes_any HC ⟨k % 3, u0, m⟩).mono ?_
  rintro e w4 ⟨rfl, ho, hk4⟩
  have hgg : g' ≠ w.heap.size := by omega
  replace HB := Lib.hid (HB.out.aside hk4 (by omega) (by omega) (by omega))
  replace C2 := Lib.hid (hk4.heap C2.out (fun e => hgg e.symm))
  obtain ⟨T, hT⟩ : ∃ T, ({ S with cap := cap' } : BookS).act ⟨k % 3, u0, m⟩ = T := ⟨_, rfl⟩
  rw [hT] at ho
  have HT := Lib.hid hT
  replace HC := Lib.hid ho
  have hlenT : T.l.length = n := by rw [← hT, len_act]; exact hlen
  clear ho hk4 cc0 cc1 cc2 cf0 hT
  obtain ⟨k2, hk2⟩ : ∃ k2, k % 3 = k2 := ⟨_, rfl⟩
  have hk3 : k2 = 0 ∨ k2 = 1 ∨ k2 = 2 := by omega
  rw [hk2] at HT C2
  clear hk2
  go_wp2_with fail
  go_loopw [16] (fun c wr => ∃ j : Nat, j ≤ n ∧ c = .int .i64 j ∧ Own w wr b g S ∧ Own w wr b' g' T ∧ wr.heap[w.heap.size]? = some (.cells #[.int .u8 k2, .int .i64 u0, .int .i64 m] 29 (0, 0))) (fun c _ => n - (intOf c).toNat)
  case atStart => exact ⟨0, by omega, rfl, HB.out, HC.out, C2.out⟩
  case round =>
    obtain ⟨j, hj, rfl, hob, hoc, hc⟩ := hrel
    replace HB := Lib.hid hob
    replace HC := Lib.hid hoc
    replace C2 := Lib.hid hc
    clear hob hoc hc
    by_cases hlt : j < n
    · have hp := bounds_plain (s := S) HOK.out ⟨k2, u0, m⟩ hk3 (u := j) (by omega)
      have hTS : T.of (j : Int) = (S.act ⟨k2, u0, m⟩).of (j : Int) := by rw [← HT.out, act_cap]; rfl
      rw [← hTS] at hp
      clear hTS
      obtain ⟨x, hx⟩ : ∃ x, S.of (j : Int) = x := ⟨_, rfl⟩
      obtain ⟨y, hy⟩ : ∃ y, T.of (j : Int) = y := ⟨_, rfl⟩
      rw [hx, hy] at hp
      have HX := Lib.hid hx
      have HY := Lib.hid hy
      clear hx hy
      go_wp2_with fail
      refine (own_of HB j x HX.out).mono ?_
      rintro e w5 ⟨rfl, hob, hk5⟩
      replace HC := Lib.hid (HC.out.look hk5)
      replace C2 := Lib.hid (hk5.heap C2.out id)
      replace HB := Lib.hid hob
      clear hob hk5
      go_wp2_with fail
      refine (own_of HC j y HY.out).mono ?_
      rintro e w6 ⟨rfl, hoc, hk6⟩
      replace HB := Lib.hid (HB.out.look hk6)
      replace C2 := Lib.hid (hk6.heap C2.out id)
      replace HC := Lib.hid hoc
      clear hoc hk6
      have cc0 := cell_blk C2.out 0
      have cc1 := cell_blk C2.out 1
      simp at cc0 cc1
      have l6 := lt_of_block C2.out
      have ne1 : w.heap.size ≠ w6.heap.size := by omega
      have ne2 : w.heap.size ≠ w6.heap.size + 1 := by omega
      obtain ⟨p1, p2, p3, p4, p5, p6, p7⟩ := hp
      unfold One.ok at p1
      have e0 : decide (y.score < 0) = false := by simp; omega
      have e1 : decide (100 < y.score) = false := by simp; omega
      have e2 : decide (65535 < y.agree) = false := by simp; omega
      have e3 : decide (65535 < y.dissent) = false := by simp; omega
      have e4 : decide (65535 < y.silent) = false := by simp; omega
      have e5 : decide (y.agree < x.agree) = false := by simp; omega
      have e6 : decide (y.dissent < x.dissent) = false := by simp; omega
      have e7 : decide (y.silent < x.silent) = false := by simp; omega
      clear p1 p2 p3 p4
      simp only [One.told]
      by_cases hu : (j : Int) = u0
      · subst hu
        have p6 := p6 rfl
        have p7 := p7 rfl
        by_cases hk0 : k2 = 0
        · subst hk0
          have p6 := p6 rfl
          have q1 : decide (y.score < x.score) = false := by simp; omega
          clear p5 p6 p7
          go_wp2_with fail
          go_roundw
          case rel => exact ⟨j + 1, by omega, by go_num, HB.out.look (((Kept.refl _).alloc _).alloc _), HC.out.look (((Kept.refl _).alloc _).alloc _), (((Kept.refl (M := fun _ => False) w6).alloc _).alloc _).heap C2.out id⟩
          case measure => simp [intOf]; omega
        · have p7 := p7 hk0
          have q0 : (k2 == 0) = false := by simpa using hk0
          have q1 : decide (0 < k2) = true := by simp; omega
          have q2 : decide (x.score < y.score) = false := by simp; omega
          clear p5 p6 p7 hk0 hk3
          go_wp2_with fail
          go_roundw
          case rel => exact ⟨j + 1, by omega, by go_num, HB.out.look (((Kept.refl _).alloc _).alloc _), HC.out.look (((Kept.refl _).alloc _).alloc _), (((Kept.refl (M := fun _ => False) w6).alloc _).alloc _).heap C2.out id⟩
          case measure => simp [intOf]; omega
      · have q1 : ((j : Int) != u0) = true := by simpa using hu
        have q2 : ((j : Int) == u0) = false := by simpa using hu
        have q3 := told_neq x y true (by simpa using p5 hu)
        clear p5 p6 p7 hu
        go_wp2_with fail
        go_roundw
        case rel => exact ⟨j + 1, by omega, by go_num, HB.out.look (((Kept.refl _).alloc _).alloc _), HC.out.look (((Kept.refl _).alloc _).alloc _), (((Kept.refl (M := fun _ => False) w6).alloc _).alloc _).heap C2.out id⟩
        case measure => simp [intOf]; omega
    · obtain rfl : j = n := by omega
      go_wp2_with fail
      go_ret
      exact ⟨rfl, HB.out.kp⟩
end Go.Proofs.Ytcdoefpfgkhokaa
