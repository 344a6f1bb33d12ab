/- ReputeTrial, walked. -/
import Derived.Test.YtcdoefpfgkhokaaLawTrial
namespace Go.Proofs.Ytcdoefpfgkhokaa
open Go.RowKit

set_option maxRecDepth 100000 in
set_option maxHeartbeats 4000000 in
theorem trial_walk {H : Type} {enc : TypeId × Value → H} {d : DataW H} {p : List MemPlace} (w : World) (ups : Int) (_ : (Lit.int .i64 ups).wf = true) (limit : Int) (_ : (Lit.int .i64 limit).wf = true) (rest : Int) (_ : (Lit.int .i64 rest).wf = true)
    (a : Option Addr) (len cap : Nat) (hk : DataW.Trod enc Try.prog w 0 (fun _ => true) true 22 (.slice a len cap) d p) :
    Calls Try.prog 5 #[.int .i64 ups, .int .i64 limit, .int .i64 rest, .slice a len cap] w fun e w' => e = .returned (.bool true) ∧ Kept (fun _ => False) w w' := by
  obtain ⟨l, rfl, hacts⟩ := acts_of (Reads.of hk)
  have HA := Lib.hid hacts
  clear hk hacts
  by_cases h1 : 600 < l.length
  · have hb : decide (600 < (l.length : Int)) = true := by simp; omega
    clear h1
    go_enter Try.func5, Try.ntmps5
    go_wp2_with fail
    refine (awake_any _).mono ?_
    rintro e w1 ⟨rfl, hk⟩
    go_wp2_with fail
    go_ret
    exact ⟨rfl, hk⟩
  have hb : decide (600 < (l.length : Int)) = false := by simp; omega
  go_enter Try.func5, Try.ntmps5
  go_wp2_with fail
  refine (awake_any _).mono ?_
  rintro e w1 ⟨rfl, hk1⟩
  have K1 := Lib.hid hk1
  clear hk1
  go_wp2_with fail
  refine (made_any w1 ups limit rest none [] 0 (by decide) (Lib.hid (IsActs.nil _))).mono ?_
  rintro e w2 ⟨n, lo, ti, b, g, hok, rfl, ho⟩
  have HOK := Lib.hid hok
  have HO := Lib.hid (ho.base K1.out)
  have hn9 : n ≤ 9 := by have := hok.1.2.1; omega
  have hn1 : 1 ≤ n := by have := hok.1.1; omega
  have hlo1 : 1 ≤ lo := hok.2.1.1
  have hlo2 : lo ≤ 100 := hok.2.1.2
  obtain ⟨bd, hbd⟩ : ∃ bd, (if lo + 10 < 100 then lo + 10 else 100) = bd := ⟨_, rfl⟩
  have HBD := Lib.hid (show min 100 (lo + 10) = bd by rw [← hbd]; split <;> omega)
  have HBI := Lib.hid hbd
  clear hok ho hbd
  go_wp2_with fail
  go_loopw [13] (fun c wr => ∃ k : Nat, k ≤ l.length ∧ c = .int .i64 k ∧ Own w wr b g ((newB n lo ti).acts (l.take k))) (fun c _ => l.length - (intOf c).toNat)
  case atStart => exact ⟨0, by omega, rfl, HO.out⟩
  case round =>
    obtain ⟨k, hk, rfl, ho⟩ := hrel
    have HR := Lib.hid ho
    clear ho HO
    by_cases hlt : k < l.length
    · have hst := Lib.hid (acts_take (newB n lo ti) l k hlt)
      obtain ⟨S, hS⟩ : ∃ S, (newB n lo ti).acts (l.take k) = S := ⟨_, rfl⟩
      have hlen : S.l.length = n := by rw [← hS, len_acts]; simp [newB]
      have HT := Lib.hid (show TriedB S by rw [← hS]; exact triedB_acts (newB_ok HOK.out) triedB_new _)
      have HL := Lib.hid (show S.limit = lo by rw [← hS, acts_limit]; rfl)
      rw [hS] at HR hst
      clear hS
      have HSO := Lib.hid HR.out.ok
      go_wp2_with fail
      refine (own_copy HR (by omega)).mono ?_
      rintro e w3 ⟨b', g', cap', rfl, hb3, hg3, -, -, ho', ho, hk3⟩
      have hb1 := HR.out.bk.ltb
      have hg1 := HR.out.bk.ltg
      replace HR := Lib.hid ho
      have HC := Lib.hid (show Own w w3 b' g' { S with cap := cap' } from ho')
      clear ho ho' hk3
      obtain ⟨b0, o, rfl, hb0, c0, c1, c2, -⟩ := (HA.out.kept HR.out.kp) k hlt
      obtain ⟨x, hx⟩ : ∃ x, l[k] = x := ⟨_, rfl⟩
      rw [hx] at c0 c1 c2 hst
      clear hx
      go_wp2_with fail
      refine (ldoes_any HR x).mono ?_
      rintro e w4 ⟨rfl, ho, hk4⟩
      replace HC := Lib.hid (HC.out.aside hk4 (by omega) (by omega) (by have := HR.out.hg; omega))
      replace HR := Lib.hid ho
      clear ho hk4 c0 c1 c2 hb0
      obtain ⟨T, hT⟩ : ∃ T, S.act x = T := ⟨_, rfl⟩
      rw [hT] at HR hst
      have HTT := Lib.hid hT
      clear hT
      go_wp2_with fail
      obtain ⟨wo, hwo⟩ : ∃ wo : World, wo = w4 := ⟨_, rfl⟩
      go_loopw [15] (fun c wi => ∃ j : Nat, j ≤ n ∧ c = .int .i64 j ∧ Own w wi b g T ∧ Own w wi b' g' { S with cap := cap' }) (fun c _ => n - (intOf c).toNat)
      case atStart => exact ⟨0, by omega, rfl, HR.out, HC.out⟩
      case round =>
        obtain ⟨j, hj, rfl, hob, hoc⟩ := hrel
        replace HR := Lib.hid hob
        replace HC := Lib.hid hoc
        clear hob hoc
        by_cases hltj : j < n
        · obtain ⟨p, hp⟩ : ∃ p, S.of (j : Int) = p := ⟨_, rfl⟩
          obtain ⟨q, hq⟩ : ∃ q, T.of (j : Int) = q := ⟨_, rfl⟩
          have hways := trial_ways HSO.out HT.out x (u := j) (by omega) (bd := bd) (by rw [HL.out]; exact HBD.out) hp (y := q) (by rw [HTT.out]; exact hq)
          have HP := Lib.hid (show ({ S with cap := cap' } : BookS).of (j : Int) = p from hp)
          have HQ := Lib.hid hq
          clear hp hq
          go_wp2_with fail
          refine (own_of HC j p HP.out).mono ?_
          rintro e w5 ⟨rfl, hoc, hk5⟩
          replace HR := Lib.hid (HR.out.look hk5)
          replace HC := Lib.hid hoc
          clear hoc hk5
          go_wp2_with fail
          refine (own_of HR j q HQ.out).mono ?_
          rintro e w6 ⟨rfl, hob, hk6⟩
          replace HC := Lib.hid (HC.out.look hk6)
          replace HR := Lib.hid hob
          clear hob hk6 HP HQ
          have hbi := HBI.out
          obtain ⟨p0, p1, p2, p3, pr, p5, pt⟩ := p
          obtain ⟨q0, q1, q2, q3, qr, q5, qt⟩ := q
          simp only [One.told] at hways ⊢
          rcases hways with ⟨rfl, rfl, rfl, hd⟩ | ⟨rfl, rfl, rfl, rfl, hd⟩ | ⟨rfl, rfl⟩ | ⟨rfl, rfl, rfl⟩ | ⟨rfl, rfl, rfl, hd⟩
          all_goals
            go_wp2_with fail
            go_roundw
            case rel => exact ⟨j + 1, by omega, by go_num, HR.out.look (((Kept.refl _).alloc _).alloc _), HC.out.look (((Kept.refl _).alloc _).alloc _)⟩
            case measure => simp [intOf]; omega
        · go_wp2_with fail
          go_roundw
          case rel => exact ⟨k + 1, by omega, by go_num, by rw [hst.out]; exact HR.out⟩
          case measure => simp [intOf]; omega
    · go_wp2_with fail
      go_ret
      exact ⟨rfl, HR.out.kp⟩
end Go.Proofs.Ytcdoefpfgkhokaa
