/- hustingslaw29: does, awake, made. -/
import Derived.Test.YthgioaaenfdcdaaPend6
import Derived.Test.YthgioaaenfdcdaaTapeArgs
namespace Go.Proofs.Ythgioaaenfdcdaa
open Go.RowKit Go.Maps

theorem pdoes_any {W w : World} {S : TblS} {T : List Outs} {b : Nat} {s : TapeS} {L : List Nat} (H : Hid (POwn W w S T)) (HT : Hid (TOwn W w b s L)) (hS : ∀ k ∈ S.bs, k ∈ L) (hb : ¬ S.foot b) (hu : s.used < 9223372036854775807) (a : PAct) :
    Calls Try.prog 12 #[.pointer (some ⟨S.b, 0, none⟩), .agg #[.int .u8 a.k, .int .i64 a.u, .int .i64 a.s], .pointer (some ⟨b, 0, none⟩)] w fun e w' =>
      e = .returned (.tuple #[]) ∧ POwn W w' S (actS (T, s) a).1 ∧ TOwn W w' b (actS (T, s) a).2 L ∧ Kept (fun k => k = b ∨ k ∈ S.bs) w w' := by
  obtain ⟨k, u, q⟩ := a
  have K0 := Lib.hid ((Kept.refl (M := fun _ => False) w).alloc (.cells #[.int .u8 k, .int .i64 u, .int .i64 q] 33))
  have HA := Lib.hid (H.out.look K0.out)
  have HTA := Lib.hid (HT.out.look K0.out)
  have hS' := Lib.hid hS
  have hWs := Lib.hid H.out.bsW
  clear hS
  by_cases h0 : k = 0
  · subst h0
    obtain ⟨x, hx⟩ : ∃ x, drawR T s u q = x := ⟨_, rfl⟩
    obtain ⟨i, r⟩ := x
    have HX := Lib.hid hx
    clear hx
    go_enter Try.func12, Try.ntmps12
    go_wp2_with fail
    refine (pown_draw HA HTA hS'.out hb hu u q i r HX.out).mono ?_
    rintro e w1 ⟨rfl, ho, ht, hk⟩
    go_wp2_with fail
    go_end0
    exact ⟨rfl, ho, ht, K0.out.any.trans hk⟩
  have e0 : (k == 0) = false := by simpa using h0
  by_cases h1 : k = 1
  · subst h1
    go_enter Try.func12, Try.ntmps12
    go_wp2_with fail
    refine (pown_free HA q _ rfl).mono ?_
    rintro e w1 ⟨rfl, ho, hk⟩
    go_wp2_with fail
    go_end0
    exact ⟨rfl, ho, HTA.out.aside hk (fun h => hb (foot_bs h)) hS'.out hWs.out, K0.out.any.trans (hk.mono (fun _ _ h => Or.inr h))⟩
  have e1 : (k == 1) = false := by simpa using h1
  by_cases h2 : k = 2
  · subst h2
    go_enter Try.func12, Try.ntmps12
    go_wp2_with fail
    refine (pown_freeAt HA q u _ rfl).mono ?_
    rintro e w1 ⟨rfl, ho, hk⟩
    go_wp2_with fail
    go_end0
    exact ⟨rfl, ho, HTA.out.aside hk (fun h => hb (foot_bs h)) hS'.out hWs.out, K0.out.any.trans (hk.mono (fun _ _ h => Or.inr h))⟩
  have e2 : (k == 2) = false := by simpa using h2
  go_enter Try.func12, Try.ntmps12
  go_wp2_with fail
  go_end0
  exact ⟨rfl, by unfold actS; simp only [h0, h1, h2, if_false]; exact HA.out, by unfold actS; simp only [h0, h1, h2, if_false]; exact HTA.out, K0.out.any⟩

/-- What 'made' makes. -/
def madeS (n : Nat) (seed : Int) (first : List Int) (l : List PAct) : List Outs × TapeS := actsS (List.replicate n [], ⟨seed, first, 0⟩) l
theorem madeS_len (n : Nat) (seed : Int) (first : List Int) (l : List PAct) : (madeS n seed first l).1.length = n := by unfold madeS; rw [actsS_len]; simp
theorem madeS_used (n : Nat) (seed : Int) (first : List Int) (l : List PAct) : (madeS n seed first l).2.used ≤ l.length := by have := actsS_used (List.replicate n [], ⟨seed, first, 0⟩) l; unfold madeS; simp only at this; omega
def nOf (ups : Int) : Nat := (1 + (ups % 18446744073709551616) % 9).toNat
theorem pmade_any (w : World) (ups seed : Int) (ao : Option Addr) (first : List Int) (cap : Nat) (P : Nat → Prop) (a : Option Addr) (l : List PAct) (cap2 : Nat) (hl : l.length ≤ 600) (HF : Hid (RowU w ao first cap P)) (hok : U64 seed ∧ ∀ x ∈ first, U64 x) (hfl : first.length ≤ 10000000000000) (HL : Hid (IsPActs w a l)) :
    Calls Try.prog 10 #[.int .i64 ups, .int .u64 seed, .slice ao first.length cap, .slice a l.length cap2] w fun e w' => ∃ (S : TblS) (b : Nat) (L : List Nat), (1 ≤ nOf ups ∧ nOf ups ≤ 9) ∧
      e = .returned (.tuple #[.pointer (some ⟨S.b, 0, none⟩), .pointer (some ⟨b, 0, none⟩), .int .i64 (nOf ups)]) ∧ POwn w w' S (madeS (nOf ups) seed first l).1 ∧ TOwn w w' b (madeS (nOf ups) seed first l).2 L ∧ (∀ k ∈ S.bs, k ∈ L) ∧ ¬ S.foot b := by
  obtain ⟨U1, hU1⟩ : ∃ U, IntKind.u64.wrap ups = U := ⟨_, rfl⟩
  have p1 : 0 ≤ U1 := by rw [← hU1, IntKind.wrap_u64]; omega
  obtain ⟨n, hnn⟩ : ∃ n, nOf ups = n := ⟨_, rfl⟩
  have hn : wrap64 (1 + wrap64 (U1.tmod 9)) = n := by
    rw [Int.tmod_eq_emod_of_nonneg p1, ← hnn, ← hU1, IntKind.wrap_u64]; unfold wrap64 nOf; omega
  have hn1 : 1 ≤ n := by rw [← hnn]; unfold nOf; omega
  have hn9 : n ≤ 9 := by rw [← hnn]; unfold nOf; omega
  rw [hnn]
  have HN := Lib.hid hn
  have HOK := Lib.hid hok
  have HFL := Lib.hid hfl
  clear hn hnn p1 hok hfl
  go_enter Try.func10, Try.ntmps10
  go_wp2_with fail
  rw [HN.out]
  refine (pown_new (Lib.hid (Kept.refl w)) n hn1 hn9).mono ?_
  rintro e w1 ⟨S, rfl, ho, -, hk1⟩
  have HO := Lib.hid ho
  have K1 := Lib.hid hk1
  have HFL1 := Lib.hid (fun k (hk : k ∈ S.bs) => ho.lt (foot_bs hk))
  clear ho hk1
  go_wp2_with fail
  refine (new_any seed ao first cap P S.bs w1 HFL1.out (HF.out.kept K1.out (fun _ _ _ => id)) HOK.out HFL.out).mono ?_
  rintro e w2 ⟨b, rfl, hb, ht, hk2⟩
  have hnf : ¬ S.foot b := fun h => by have := HO.out.lt h; omega
  have HT := Lib.hid (show TOwn w w2 b ⟨seed, first, 0⟩ (b :: S.bs) from ⟨ht, fun x hx => by
    rcases List.mem_cons.1 hx with rfl | hx
    · exact ht.lt
    · exact hk2.lt (HFL1.out x hx), K1.out.trans hk2, by have := K1.out.size; omega⟩)
  replace HO := Lib.hid (HO.out.look hk2)
  have HSL := Lib.hid (fun k (hk : k ∈ S.bs) => List.mem_cons_of_mem b hk)
  clear ht hk2 hb
  go_wp2_with fail
  go_loopw [14] (fun c wr => ∃ k : Nat, k ≤ l.length ∧ c = .int .i64 k ∧ POwn w wr S (actsS (List.replicate n [], ⟨seed, first, 0⟩) (l.take k)).1 ∧ TOwn w wr b (actsS (List.replicate n [], ⟨seed, first, 0⟩) (l.take k)).2 (b :: S.bs)) (fun c _ => l.length - (intOf c).toNat)
  case atStart => exact ⟨0, by omega, rfl, HO.out, HT.out⟩
  case round =>
    obtain ⟨k, hk, rfl, ho, ht⟩ := hrel
    replace HO := Lib.hid ho
    replace HT := Lib.hid ht
    clear ho ht
    by_cases hlt : k < l.length
    · obtain ⟨b0, o, rfl, hb0, c0, c1, c2, -⟩ := (HL.out.kept HO.out.kp) k hlt
      have hst := Lib.hid (actsS_take (List.replicate n [], ⟨seed, first, 0⟩) l k hlt)
      have hus := actsS_used (List.replicate n [], ⟨seed, first, 0⟩) (l.take k)
      simp only [List.length_take] at hus
      obtain ⟨st, hst0⟩ : ∃ st, actsS (List.replicate n [], ⟨seed, first, 0⟩) (l.take k) = st := ⟨_, rfl⟩
      rw [hst0] at HO HT hst hus
      obtain ⟨T, s⟩ := st
      obtain ⟨x, hx⟩ : ∃ x, l[k] = x := ⟨_, rfl⟩
      rw [hx] at c0 c1 c2 hst
      simp only at hus
      clear hx hst0
      go_wp2_with fail
      refine (pdoes_any HO HT HSL.out hnf (by omega) x).mono ?_
      rintro e w3 ⟨rfl, ho, ht, -⟩
      rw [← hst.out] at ho ht
      have HO2 := Lib.hid ho
      have HT2 := Lib.hid ht
      clear ho ht
      go_wp2_with fail
      go_roundw
      case rel => exact ⟨k + 1, by omega, by go_num, HO2.out, HT2.out⟩
      case measure => simp [intOf]; omega
    · obtain rfl : k = l.length := by omega
      go_wp2_with fail
      (try simp only [Exit.inBlock, Exit.then])
      refine bodyPost_ret (results_tmp3 rfl _ _ _) rfl ?_
      have ho := HO.out
      have ht := HT.out
      rw [List.take_length] at ho ht
      exact ⟨S, b, b :: S.bs, ⟨hn1, hn9⟩, rfl, ho, ht, HSL.out, hnf⟩
end Go.Proofs.Ythgioaaenfdcdaa
