/- book: both books behind a case's acts. -/
import Derived.Test.YtnpmimjhpnhdkaaOrd6
import Derived.Test.YtnpmimjhpnhdkaaRef19e
namespace Go.Proofs.Ytnpmimjhpnhdkaa
open Go.RowKit

/-- A book of the reference's that the call from W on has made. -/
def ROwn (W w : World) (b g : Nat) (s : BookS) : Prop := (∃ c, RBook w b g { s with cap := c }) ∧ W.heap.size ≤ b ∧ W.heap.size ≤ g
section
variable {W w w' : World} {b g : Nat} {s : BookS}
theorem ROwn.look (h : ROwn W w b g s) (k : Kept (fun _ => False) w w') : ROwn W w' b g s := ⟨h.1.imp fun _ x => x.look k, h.2⟩
theorem ROwn.aside {x : Nat} (h : ROwn W w b g s) (k : Kept (· = x) w w') (h1 : b ≠ x) (h2 : g ≠ x) : ROwn W w' b g s := ⟨h.1.imp fun _ y => y.kept k h1 h2, h.2⟩
theorem rown_agree (H : Hid (ROwn W w b g s)) (hok : s.ok) (u : Int) : Calls Try.prog 32 #[.pointer (some ⟨b, 0, none⟩), .int .i64 u] w fun e w' => (∃ r, e = .returned (.int .i64 r)) ∧ ROwn W w' b g (s.agreeI u) ∧ Kept (· = g) w w' := by
  obtain ⟨⟨c, h⟩, h1⟩ := H.out
  refine (ragree_any b g { s with cap := c } u hok w h).mono ?_
  rintro e w' ⟨he, hb, hk⟩
  refine ⟨he, ⟨⟨c, ?_⟩, h1⟩, hk⟩
  have := act_cap s c ⟨0, u, 0⟩
  simp only [BookS.act, if_true] at this
  rwa [this] at hb
theorem rown_dissent (H : Hid (ROwn W w b g s)) (hok : s.ok) (ht : TriedB s) (ho : s.l.length % 2 = 1) (u n : Int) : Calls Try.prog 33 #[.pointer (some ⟨b, 0, none⟩), .int .i64 u, .int .i64 n] w fun e w' => (∃ r, e = .returned (.int .i64 r)) ∧ ROwn W w' b g (s.dissentI u n) ∧ Kept (· = g) w w' := by
  obtain ⟨⟨c, h⟩, h1⟩ := H.out
  refine (rdissent_any b g { s with cap := c } u n hok ht ho w h).mono ?_
  rintro e w' ⟨he, hb, hk⟩
  refine ⟨he, ⟨⟨c, ?_⟩, h1⟩, hk⟩
  have := act_cap s c ⟨1, u, n⟩
  simp [BookS.act] at this
  rwa [this] at hb
theorem rown_silent (H : Hid (ROwn W w b g s)) (hok : s.ok) (ht : TriedB s) (u : Int) : Calls Try.prog 35 #[.pointer (some ⟨b, 0, none⟩), .int .i64 u] w fun e w' => (∃ r, e = .returned (.int .i64 r)) ∧ ROwn W w' b g (s.silentI u) ∧ Kept (· = g) w w' := by
  obtain ⟨⟨c, h⟩, h1⟩ := H.out
  refine (rsilent_any b g { s with cap := c } u hok ht w h).mono ?_
  rintro e w' ⟨he, hb, hk⟩
  refine ⟨he, ⟨⟨c, ?_⟩, h1⟩, hk⟩
  have := act_cap s c ⟨2, u, 0⟩
  simp [BookS.act] at this
  rwa [this] at hb
theorem rown_back (H : Hid (ROwn W w b g s)) (hok : s.ok) (n : Int) : Calls Try.prog 36 #[.pointer (some ⟨b, 0, none⟩), .int .i64 n] w fun e w' => (∃ v, e = .returned v) ∧ ROwn W w' b g (s.back n) ∧ Kept (· = g) w w' := by
  obtain ⟨⟨c, h⟩, h1⟩ := H.out
  refine (rback_any b g { s with cap := c } n w h hok).mono ?_
  rintro e w' ⟨v, he, -, hb, hk⟩
  refine ⟨⟨v, he⟩, ⟨⟨c, ?_⟩, h1⟩, hk⟩
  have := act_cap s c ⟨3, 0, n⟩
  simp [BookS.act] at this
  rwa [this] at hb
end
def Far (b g rb rg : Nat) : Prop := b ≠ rb ∧ b ≠ rg ∧ g ≠ rb ∧ g ≠ rg

set_option maxRecDepth 100000 in
set_option maxHeartbeats 4000000 in
theorem book20_any (w : World) (ups limit rest seed : Int) (a f : Option Addr) (l : List ActS) (ca lf cf : Nat) (hl : l.length ≤ 500) (HL : Hid (IsActs w a l)) (hw : -9223372036854775808 ≤ ups ∧ ups ≤ 9223372036854775807) :
    Calls Try.prog 10 #[.agg #[.int .i64 ups, .int .i64 limit, .int .i64 rest, .slice a l.length ca, .int .u64 seed, .slice f lf cf]] w fun e w' =>
      (¬ newOk ups limit rest ∧ e = .returned (.tuple #[.pointer none, .pointer none]) ∧ Kept (fun _ => False) w w') ∨
      ∃ n b g rb rg : Nat, ups = n ∧ newOk n limit rest ∧ e = .returned (.tuple #[.pointer (some ⟨b, 0, none⟩), .pointer (some ⟨rb, 0, none⟩)]) ∧ Own w w' b g ((newB n limit rest).acts l) ∧ ROwn w w' rb rg ((newB n limit rest).acts l) ∧ Far b g rb rg := by
  by_cases hn : newOk ups limit rest
  · obtain ⟨n, rfl⟩ : ∃ n : Nat, ups = n := ⟨ups.toNat, by have := hn.1.1; omega⟩
    have HN := Lib.hid hn
    clear hw
    go_enter Try.func10, Try.ntmps10
    go_wp2_with fail
    refine (own_new (Lib.hid (Kept.refl _)) n limit rest HN.out).mono ?_
    rintro e w1 ⟨b, g, rfl, ho, -, -, hb, hg⟩
    have HO := Lib.hid ho
    have K1 := Lib.hid ho.kp
    clear ho
    have hB := new_blk w (.cells #[.int .i64 n, .int .i64 limit, .int .i64 rest, .slice a l.length ca, .int .u64 seed, .slice f lf cf] 26)
    have HB := Lib.hid hB
    have hB1 := K1.out.heap hB id
    have c0 := cell_blk hB1 0
    have c1 := cell_blk hB1 1
    have c2 := cell_blk hB1 2
    simp at c0 c1 c2
    clear hB hB1
    go_wp2_with fail
    refine (rnew19_any n limit rest _ HN.out).mono ?_
    rintro e w2 ⟨rb, rg, cap, rfl, hr, hrb, hrg, hk2⟩
    have hz0 : (w.alloc (.cells #[.int .i64 n, .int .i64 limit, .int .i64 rest, .slice a l.length ca, .int .u64 seed, .slice f lf cf] 26)).heap.size ≤ w1.heap.size := K1.out.size
    have HFAR := Lib.hid (show Far b g rb rg from ⟨by omega, by omega, by omega, by omega⟩)
    have HR := Lib.hid (show ROwn (w.alloc (.cells #[.int .i64 n, .int .i64 limit, .int .i64 rest, .slice a l.length ca, .int .u64 seed, .slice f lf cf] 26)) w2 rb rg (newB n limit rest) from ⟨⟨cap, hr⟩, by omega, by omega⟩)
    replace HO := Lib.hid (HO.out.look hk2)
    have HA := Lib.hid (HL.out.kept ((Kept.refl (M := fun _ => False) w).alloc (.cells #[.int .i64 n, .int .i64 limit, .int .i64 rest, .slice a l.length ca, .int .u64 seed, .slice f lf cf] 26)))
    have KW := Lib.hid ((Kept.refl (M := fun _ => False) w).alloc (.cells #[.int .i64 n, .int .i64 limit, .int .i64 rest, .slice a l.length ca, .int .u64 seed, .slice f lf cf] 26))
    obtain ⟨w0, hw0⟩ : ∃ w0, w.alloc (.cells #[.int .i64 n, .int .i64 limit, .int .i64 rest, .slice a l.length ca, .int .u64 seed, .slice f lf cf] 26) = w0 := ⟨_, rfl⟩
    rw [hw0] at HO HR HA HB KW
    clear hr hrb hrg hk2 hz0 hb hg c0 c1 c2 K1 hw0 HL
    go_wp2_with fail
    go_loopw [8] (fun c wr => ∃ k : Nat, k ≤ l.length ∧ c = .int .i64 k ∧ Own w0 wr b g ((newB n limit rest).acts (l.take k)) ∧ ROwn w0 wr rb rg ((newB n limit rest).acts (l.take k))) (fun c _ => l.length - (intOf c).toNat)
    case atStart => exact ⟨0, by omega, rfl, HO.out, HR.out⟩
    case round =>
      obtain ⟨k, hk, rfl, ho, hr⟩ := hrel
      clear HO HR
      have HO := Lib.hid ho
      have HR := Lib.hid hr
      have hBr := ho.kp.heap HB.out id
      have c3 := cell_blk hBr 3
      simp at c3
      clear ho hr hBr
      by_cases hlt : k < l.length
      · have hst := acts_take (newB n limit rest) l k hlt
        have hlen := len_acts (newB n limit rest) (l.take k)
        have htb := triedB_acts (newB_ok HN.out) (triedB_new (n := n) (lo := limit) (ti := rest)) (l.take k)
        obtain ⟨S, hS⟩ : ∃ S, (newB n limit rest).acts (l.take k) = S := ⟨_, rfl⟩
        rw [hS] at HO HR hst hlen htb
        have HOK := Lib.hid HO.out.ok
        have HTB := Lib.hid htb
        have HOD := Lib.hid (show S.l.length % 2 = 1 by rw [hlen]; have := HN.out.1.2.2; simp [newB]; omega)
        obtain ⟨b0, o, rfl, hb0, d0, d1, d2, -⟩ := (HA.out.kept HO.out.kp) k hlt
        obtain ⟨x, hx⟩ : ∃ x, l[k] = x := ⟨_, rfl⟩
        rw [hx] at d0 d1 d2 hst
        obtain ⟨xk, xu, xn⟩ := x
        have HST := Lib.hid hst
        have hg1 := HO.out.bk.ltg
        have HX := Lib.hid (new_blk wr (.cells #[.int .u8 xk, .int .i64 xu, .int .i64 xn] 65))
        replace HO := Lib.hid (HO.out.look ((Kept.refl (M := fun _ => False) wr).alloc (.cells #[.int .u8 xk, .int .i64 xu, .int .i64 xn] 65)))
        replace HR := Lib.hid (HR.out.look ((Kept.refl (M := fun _ => False) wr).alloc (.cells #[.int .u8 xk, .int .i64 xu, .int .i64 xn] 65)))
        clear hst hx hS hlen htb
        simp only at d0 d1 d2
        by_cases h0 : xk = 0
        · subst h0
          have HST' := Lib.hid (show (newB n limit rest).acts (l.take (k + 1)) = S.agreeI xu by rw [HST.out]; simp [BookS.act])
          clear HST
          go_wp2_with fail
          refine (own_agree HO xu _ rfl).mono ?_
          rintro e w4 ⟨rfl, ho, hk4⟩
          obtain ⟨f1, f2, f3, f4⟩ := HFAR.out
          have hX4 := hk4.heap HX.out (by omega)
          have e1 := cell_blk hX4 1
          have e2 := cell_blk hX4 2
          simp at e1 e2
          replace HO := Lib.hid ho
          replace HR := Lib.hid (HR.out.aside hk4 (fun e => f3 e.symm) (fun e => f4 e.symm))
          clear ho hk4 hX4
          go_wp2_with fail
          refine (rown_agree HR HOK.out xu).mono ?_
          rintro e w5 ⟨⟨_, rfl⟩, hr, hk5⟩
          have HO5 := Lib.hid (HO.out.aside hk5 f2 f4 hr.2.2)
          have HR5 := Lib.hid hr
          clear hr hk5 HO HR
          go_wp2_with fail
          go_roundw
          case measure => simp [intOf]; omega
          case rel => exact ⟨k + 1, by omega, by go_num, by rw [HST'.out]; exact HO5.out, by rw [HST'.out]; exact HR5.out⟩
        have g0 : (xk == 0) = false := by simpa using h0
        by_cases h1 : xk = 1
        · subst h1
          have HST' := Lib.hid (show (newB n limit rest).acts (l.take (k + 1)) = S.dissentI xu xn by rw [HST.out]; simp [BookS.act])
          clear HST
          go_wp2_with fail
          refine (own_dissent HO xu xn _ rfl).mono ?_
          rintro e w4 ⟨rfl, ho, hk4⟩
          obtain ⟨f1, f2, f3, f4⟩ := HFAR.out
          have hX4 := hk4.heap HX.out (by omega)
          have e1 := cell_blk hX4 1
          have e2 := cell_blk hX4 2
          simp at e1 e2
          replace HO := Lib.hid ho
          replace HR := Lib.hid (HR.out.aside hk4 (fun e => f3 e.symm) (fun e => f4 e.symm))
          clear ho hk4 hX4
          go_wp2_with fail
          refine (rown_dissent HR HOK.out HTB.out HOD.out xu xn).mono ?_
          rintro e w5 ⟨⟨_, rfl⟩, hr, hk5⟩
          have HO5 := Lib.hid (HO.out.aside hk5 f2 f4 hr.2.2)
          have HR5 := Lib.hid hr
          clear hr hk5 HO HR
          go_wp2_with fail
          go_roundw
          case measure => simp [intOf]; omega
          case rel => exact ⟨k + 1, by omega, by go_num, by rw [HST'.out]; exact HO5.out, by rw [HST'.out]; exact HR5.out⟩
        have g1 : (xk == 1) = false := by simpa using h1
        by_cases h2 : xk = 2
        · subst h2
          have HST' := Lib.hid (show (newB n limit rest).acts (l.take (k + 1)) = S.silentI xu by rw [HST.out]; simp [BookS.act])
          clear HST
          go_wp2_with fail
          refine (own_silent HO xu _ rfl).mono ?_
          rintro e w4 ⟨rfl, ho, hk4⟩
          obtain ⟨f1, f2, f3, f4⟩ := HFAR.out
          have hX4 := hk4.heap HX.out (by omega)
          have e1 := cell_blk hX4 1
          have e2 := cell_blk hX4 2
          simp at e1 e2
          replace HO := Lib.hid ho
          replace HR := Lib.hid (HR.out.aside hk4 (fun e => f3 e.symm) (fun e => f4 e.symm))
          clear ho hk4 hX4
          go_wp2_with fail
          refine (rown_silent HR HOK.out HTB.out xu).mono ?_
          rintro e w5 ⟨⟨_, rfl⟩, hr, hk5⟩
          have HO5 := Lib.hid (HO.out.aside hk5 f2 f4 hr.2.2)
          have HR5 := Lib.hid hr
          clear hr hk5 HO HR
          go_wp2_with fail
          go_roundw
          case measure => simp [intOf]; omega
          case rel => exact ⟨k + 1, by omega, by go_num, by rw [HST'.out]; exact HO5.out, by rw [HST'.out]; exact HR5.out⟩
        have g2 : (xk == 2) = false := by simpa using h2
        by_cases h3 : xk = 3
        · subst h3
          have HST' := Lib.hid (show (newB n limit rest).acts (l.take (k + 1)) = S.back xn by rw [HST.out]; simp [BookS.act])
          clear HST
          go_wp2_with fail
          refine (own_back HO xn _ rfl).mono ?_
          rintro e w4 ⟨_, _, rfl, -, ho, hk4⟩
          obtain ⟨f1, f2, f3, f4⟩ := HFAR.out
          have hX4 := hk4.heap HX.out (by omega)
          have e1 := cell_blk hX4 1
          have e2 := cell_blk hX4 2
          simp at e1 e2
          replace HO := Lib.hid ho
          replace HR := Lib.hid (HR.out.aside hk4 (fun e => f3 e.symm) (fun e => f4 e.symm))
          clear ho hk4 hX4
          go_wp2_with fail
          refine (rown_back HR HOK.out xn).mono ?_
          rintro e w5 ⟨⟨_, rfl⟩, hr, hk5⟩
          have HO5 := Lib.hid (HO.out.aside hk5 f2 f4 hr.2.2)
          have HR5 := Lib.hid hr
          clear hr hk5 HO HR
          go_wp2_with fail
          go_roundw
          case measure => simp [intOf]; omega
          case rel => exact ⟨k + 1, by omega, by go_num, by rw [HST'.out]; exact HO5.out, by rw [HST'.out]; exact HR5.out⟩
        have g3 : (xk == 3) = false := by simpa using h3
        have HST' := Lib.hid (show (newB n limit rest).acts (l.take (k + 1)) = S by rw [HST.out]; simp [BookS.act, h0, h1, h2, h3])
        clear HST
        go_wp2_with fail
        go_roundw
        case measure => simp [intOf]; omega
        case rel => exact ⟨k + 1, by omega, by go_num, by rw [HST'.out]; exact HO.out, by rw [HST'.out]; exact HR.out⟩
      · obtain rfl : k = l.length := by omega
        have ho := HO.out
        have hr := HR.out
        rw [List.take_length] at ho hr
        have HF := Lib.hid (And.intro (ho.base KW.out) (show ROwn w wr rb rg ((newB n limit rest).acts l) from ⟨hr.1, Nat.le_trans KW.out.size hr.2.1, Nat.le_trans KW.out.size hr.2.2⟩))
        clear ho hr
        go_wp2_with fail
        refine bodyPost_ret (results_tmp2 rfl _ _ _) rfl ?_
        exact .inr ⟨n, b, g, rb, rg, rfl, HN.out, rfl, HF.out.1, HF.out.2, HFAR.out⟩
  · have HN := Lib.hid hn
    have HW := Lib.hid hw
    clear hn hw
    go_enter Try.func10, Try.ntmps10
    go_wp2_with fail
    refine (rnew_bad ups limit rest _ HN.out).mono ?_
    rintro e w1 ⟨rfl, rfl⟩
    go_wp2_with fail
    refine (rnew19_bad ups limit rest _ HN.out HW.out).mono ?_
    rintro e w1 ⟨rfl, rfl⟩
    go_wp2_with fail
    refine bodyPost_ret (results_tmp2 rfl _ _ _) rfl ?_
    exact .inl ⟨HN.out, rfl, (Kept.refl _).alloc _⟩
end Go.Proofs.Ytnpmimjhpnhdkaa
