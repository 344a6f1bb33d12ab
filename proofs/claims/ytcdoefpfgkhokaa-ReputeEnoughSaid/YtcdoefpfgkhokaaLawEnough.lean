/- ReputeEnough, walked. -/
import Derived.Test.YtcdoefpfgkhokaaRepLawPlain
namespace Go.Proofs.Ytcdoefpfgkhokaa
open Go.RowKit

set_option maxRecDepth 100000 in
set_option maxHeartbeats 2000000 in
theorem enough_walk {H : Type} {enc : TypeId × Value → H} {d : DataW H} {p : List MemPlace} (w : World) (ups : Int) (_ : (Lit.int .i64 ups).wf = true) (limit : Int) (_ : (Lit.int .i64 limit).wf = true) (rest : Int) (_ : (Lit.int .i64 rest).wf = true)
    (a : Option Addr) (len cap : Nat) (hk : DataW.Trod enc Try.prog w 0 (fun _ => true) true 22 (.slice a len cap) d p) :
    Calls Try.prog 3 #[.int .i64 ups, .int .i64 limit, .int .i64 rest, .slice a len cap] w fun e w' => e = .returned (.bool true) ∧ Kept (fun _ => False) w w' := by
  obtain ⟨l, rfl, hacts⟩ := acts_of (Reads.of hk)
  have HA := Lib.hid hacts
  clear hk hacts
  by_cases h1 : 600 < l.length
  · have hb : decide (600 < (l.length : Int)) = true := by simp; omega
    clear h1
    go_enter Try.func3, Try.ntmps3
    go_wp2_with fail
    refine (awake_any _).mono ?_
    rintro e w1 ⟨rfl, hk⟩
    go_wp2_with fail
    go_ret
    exact ⟨rfl, hk⟩
  have hb : decide (600 < (l.length : Int)) = false := by simp; omega
  go_enter Try.func3, Try.ntmps3
  go_wp2_with fail
  refine (awake_any _).mono ?_
  rintro e w1 ⟨rfl, hk1⟩
  have K1 := Lib.hid hk1
  clear hk1
  go_wp2_with fail
  refine (made_any w1 ups limit rest none [] 0 (by decide) (Lib.hid (IsActs.nil _))).mono ?_
  rintro e w2 ⟨n, lo, ti, b, g, hok, rfl, ho⟩
  have HOK := Lib.hid hok
  have HO := Lib.hid (ho.base K1.out)
  clear hok ho
  go_wp2_with fail
  have hn := HOK.out.1
  go_loopw [13] (fun c wr => (c = .int .i64 (-1) ∧ Own w wr b g ((newB n lo ti).acts [])) ∨ ∃ k : Nat, k ≤ l.length ∧ c = .int .i64 k ∧ Own w wr b g ((newB n lo ti).acts (l.take k))) (fun c _ => l.length + 1 - (intOf c + 1).toNat)
  case atStart => exact .inl ⟨rfl, HO.out⟩
  case round =>
    rcases hrel with ⟨rfl, ho⟩ | ⟨k, hk, rfl, ho⟩
    · have HR := Lib.hid (show Own w wr b g ((newB n lo ti).acts (l.take 0)) from ho)
      have hd : decide ((-1 : Int) < (l.length : Int)) = true := by simp; omega
      obtain ⟨j, hj, hjl⟩ : ∃ j : Nat, j = 0 ∧ j ≤ l.length := ⟨0, rfl, by omega⟩
      rw [← hj] at HR
      have HJ := Lib.hid hj
      clear ho HO hj
      go_wp2_with fail
      obtain ⟨S, hS⟩ : ∃ S, S = (newB n lo ti).acts (l.take j) := ⟨_, rfl⟩
      have HE := Lib.hid (show Enough S by rw [hS]; exact enough_acts (enough_new HOK.out) _)
      have hlen : S.l.length = n := by rw [hS, len_acts]; simp [newB]
      rw [← hS] at HR
      have HS := Lib.hid hS
      clear hS
      refine (own_may HR (mayL S.l) rfl).mono ?_
      rintro e w4 ⟨ao, cp, rfl, hm, ho, -⟩
      obtain ⟨base, hbase⟩ : ∃ base, base = wr.heap.size := ⟨_, rfl⟩
      rw [← hbase] at hm
      have HR4 := Lib.hid ho
      have HM := Lib.hid hm
      have hmc := may_count S.l
      have hen : n / 2 + 1 + restsC S.l ≤ n := by have := HE.out; unfold Enough at this; rw [hlen] at this; exact this
      rw [hlen] at hmc
      clear ho hm hbase
      go_wp2_with fail
      go_loopw [15, 16] (fun r c wi => ∃ u : Nat, u ≤ n ∧ c = .int .i64 u ∧ r = .int .i64 (restsC (S.l.take u)) ∧ Own w wi b g S ∧ OwnsI wi base (.slice ao (mayL S.l).length cp) (mayL S.l)) (fun _ c _ => n - (intOf c).toNat)
      case atStart => exact ⟨0, by omega, rfl, by simp [restsC], HR4.out, HM.out⟩
      case round =>
        obtain ⟨u, hu, rfl, rfl, ho, hm⟩ := hrel
        have HRi := Lib.hid ho
        have HMi := Lib.hid hm
        clear ho hm HR4 HM
        by_cases hlt : u < n
        · have hut : u < S.l.length := by omega
          have hrt := restsC_take S.l u hut
          have hx : (S.of u).rests = S.l[u].rests := by unfold BookS.of; rw [if_pos (by omega)]; simp [hut]
          have hr0 : restsC (S.l.take u) ≤ u := by unfold restsC; have := List.countP_le_length (p := (·.rests)) (l := S.l.take u); simp at this; omega
          obtain ⟨x, hxx⟩ : ∃ x, x = S.l[u].rests := ⟨_, rfl⟩
          rw [← hxx] at hrt hx
          have HRT := Lib.hid hrt
          have HX := Lib.hid hx
          clear hrt hx hxx
          go_wp2_with fail
          refine (own_rests HRi u x HX.out).mono ?_
          rintro e w5 ⟨rfl, ho, hk5⟩
          have HR5 := Lib.hid ho
          have HM5 := Lib.hid (HMi.out.look hk5)
          clear ho hk5
          cases x with
          | true =>
            go_wp2_with fail
            go_roundw
            case rel => exact ⟨u + 1, by omega, by go_num, by rw [HRT.out]; simp, HR5.out, HM5.out⟩
            case measure => simp [intOf]; omega
          | false =>
            go_wp2_with fail
            go_roundw
            case rel => exact ⟨u + 1, by omega, by go_num, by rw [HRT.out]; simp, HR5.out, HM5.out⟩
            case measure => simp [intOf]; omega
        · have eu : n = u := by omega
          subst eu
          have htk : S.l.take n = S.l := by rw [← hlen]; exact List.take_length
          rw [htk]
          clear htk
          have t1 : decide (((mayL S.l).length : Int) < (n : Int) / 2 + 1) = false := by simp; omega
          have t2 : (((mayL S.l).length : Int) + (restsC S.l : Int) != (n : Int)) = false := by simp; omega
          go_wp2_with fail
          clear t1 t2
          go_loopw [17] (fun c wi => ∃ k : Nat, k ≤ (mayL S.l).length ∧ c = .int .i64 k ∧ Own w wi b g S ∧ OwnsI wi base (.slice ao (mayL S.l).length cp) (mayL S.l)) (fun c _ => (mayL S.l).length - (intOf c).toNat)
          case atStart => exact ⟨0, by omega, rfl, HRi.out, HMi.out⟩
          case round =>
            obtain ⟨k, hk, rfl, ho, hm⟩ := hrel
            have HRj := Lib.hid ho
            have HMj := Lib.hid hm
            clear ho hm HRi HMi
            by_cases hlt3 : k < (mayL S.l).length
            · obtain ⟨v, hvl, hv, hvr⟩ := may_at hlt3
              have hx : (S.of (v : Int)).rests = false := by unfold BookS.of; rw [if_pos (by omega)]; simpa [hvl] using hvr
              obtain ⟨am, off, rfl, -, ck⟩ := HMj.out.cells.2.at (i := k) (v := .int .i64 v) (by rw [List.getElem?_map, List.getElem?_eq_getElem hlt3, hv]; rfl)
              have HX := Lib.hid hx
              have HRd := Lib.hid (HRj.out.look ((Kept.refl (M := fun _ => False) wr).drew))
              rw [hlen] at hvl
              have i0 : decide ((v : Int) < 0) = false := by simp
              have i1 : decide ((n : Int) ≤ (v : Int)) = false := by simp; omega
              by_cases hk0 : k = 0
              · subst hk0
                rw [Nat.add_zero] at ck
                clear hx hv hvr hvl
                generalize (v : Int) = V at ck HX i0 i1
                have i2 : decide ((0 : Int) < (0 : Int)) = false := by decide
                go_wp2_with fail
                refine wp_region_held_drew (S := (fun w' => w'.cell? ⟨am, off, none⟩ = some (.int .i64 V))) (by kernel_rfl) (by first | exact ck | exact d2) (fun hHeld => ?_)
                refine wpAnyH_take (i := 0) (oi := ?oi0) (v := ?v0) ?hi0 (by kernel_rfl) (by kernel_rfl) (by kernel_rfl) ?hQ0 ?hy0 (by assumption) ?rest0
                case hi0 => (simp only [List.getElem?_toArray, List.getElem?_cons_zero]; rfl)
                case hQ0 => exact fun _ _ _ h => h
                case hy0 => first | (refine Or.inr ⟨by rfl, ?_⟩; rfl) | (refine Or.inl ⟨by rfl, ?_⟩; intro w hSw; (try dsimp only at hSw); go_simp; (try with_reducible rfl))
                try simp only [Act.put, List.setIfInBounds_toArray, List.set_cons_zero, List.set_cons_succ]
                refine wpAnyH_take (i := 1) (oi := ?oi1) (v := ?v1) ?hi1 (by kernel_rfl) (by kernel_rfl) (by kernel_rfl) ?hQ1 ?hy1 (by assumption) ?rest1
                case hi1 => (simp only [List.getElem?_toArray, List.getElem?_cons_succ, List.getElem?_cons_zero]; rfl)
                case hQ1 => exact fun _ _ _ h => h
                case hy1 => first | (refine Or.inr ⟨by rfl, ?_⟩; rfl) | (refine Or.inl ⟨by rfl, ?_⟩; intro w hSw; (try dsimp only at hSw); go_simp; (try with_reducible rfl))
                try simp only [Act.put, List.setIfInBounds_toArray, List.set_cons_zero, List.set_cons_succ]
                refine wpAnyH_take (i := 2) (oi := ?oi2) (v := ?v2) ?hi2 (by kernel_rfl) (by kernel_rfl) (by kernel_rfl) ?hQ2 ?hy2 (by assumption) ?rest2
                case hi2 => (simp only [List.getElem?_toArray, List.getElem?_cons_succ, List.getElem?_cons_zero]; rfl)
                case hQ2 => exact fun _ _ _ h => h
                case hy2 => first | (refine Or.inr ⟨by rfl, ?_⟩; rfl) | (refine Or.inl ⟨by rfl, ?_⟩; intro w hSw; (try dsimp only at hSw); go_simp; (try with_reducible rfl))
                try simp only [Act.put, List.setIfInBounds_toArray, List.set_cons_zero, List.set_cons_succ]
                refine wpAnyH_take (i := 3) (oi := ?oi3) (v := ?v3) ?hi3 (by kernel_rfl) (by kernel_rfl) (by kernel_rfl) ?hQ3 ?hy3 (by assumption) ?rest3
                case hi3 => (simp only [List.getElem?_toArray, List.getElem?_cons_succ, List.getElem?_cons_zero]; rfl)
                case hQ3 => exact fun _ _ _ h => h
                case hy3 => first | (refine Or.inr ⟨by rfl, ?_⟩; rfl) | (refine Or.inl ⟨by rfl, ?_⟩; intro w hSw; (try dsimp only at hSw); go_simp; (try with_reducible rfl))
                try simp only [Act.put, List.setIfInBounds_toArray, List.set_cons_zero, List.set_cons_succ]
                refine wpAnyH_take (i := 4) (oi := ?oi4) (v := ?v4) ?hi4 (by kernel_rfl) (by kernel_rfl) (by kernel_rfl) ?hQ4 ?hy4 (by assumption) ?rest4
                case hi4 => (simp only [List.getElem?_toArray, List.getElem?_cons_succ, List.getElem?_cons_zero]; rfl)
                case hQ4 => exact fun _ _ _ h => h
                case hy4 => first | (refine Or.inr ⟨by rfl, ?_⟩; rfl) | (refine Or.inl ⟨by rfl, ?_⟩; intro w hSw; (try dsimp only at hSw); go_simp; (try with_reducible rfl))
                try simp only [Act.put, List.setIfInBounds_toArray, List.set_cons_zero, List.set_cons_succ]
                refine wpAnyH_ready (rs := [5]) (by kernel_rfl) (by simp) (AllReadyH.cons rfl (fun K hK => ?_) AllReadyH.nil)
                go_simp
                (refine (own_rests HRd V false HX.out).mono ?_; rintro e w5 ⟨rfl, ho5, hk5⟩; have d2 := hk5.cell (show wr.drew.cell? _ = _ from ck) id)
                try go_wp2_with fail
                refine hK.out _ _ (by first | exact ck | exact d2) (fun hHeld => ?_)
                clear hK K
                try simp only [Act.put, List.setIfInBounds_toArray, List.set_cons_zero, List.set_cons_succ]
                refine wpAnyH_take (i := 6) (oi := ?oi6) (v := ?v6) ?hi6 (by kernel_rfl) (by kernel_rfl) (by kernel_rfl) ?hQ6 ?hy6 (by assumption) ?rest6
                case hi6 => (simp only [List.getElem?_toArray, List.getElem?_cons_succ, List.getElem?_cons_zero]; rfl)
                case hQ6 => exact fun _ _ _ h => h
                case hy6 => first | (refine Or.inr ⟨by rfl, ?_⟩; rfl) | (refine Or.inl ⟨by rfl, ?_⟩; intro w hSw; (try dsimp only at hSw); go_simp; (try with_reducible rfl))
                try simp only [Act.put, List.setIfInBounds_toArray, List.set_cons_zero, List.set_cons_succ]
                refine wpAnyH_take (i := 7) (oi := ?oi7) (v := ?v7) ?hi7 (by kernel_rfl) (by kernel_rfl) (by kernel_rfl) ?hQ7 ?hy7 (by assumption) ?rest7
                case hi7 => (simp only [List.getElem?_toArray, List.getElem?_cons_succ, List.getElem?_cons_zero]; rfl)
                case hQ7 => exact fun _ _ _ h => h
                case hy7 => first | (refine Or.inr ⟨by rfl, ?_⟩; rfl) | (refine Or.inl ⟨by rfl, ?_⟩; intro w hSw; (try dsimp only at hSw); go_simp; (try with_reducible rfl))
                try simp only [Act.put, List.setIfInBounds_toArray, List.set_cons_zero, List.set_cons_succ]
                refine wpAnyH_take (i := 8) (oi := ?oi8) (v := ?v8) ?hi8 (by kernel_rfl) (by kernel_rfl) (by kernel_rfl) ?hQ8 ?hy8 (by assumption) ?rest8
                case hi8 => (simp only [List.getElem?_toArray, List.getElem?_cons_succ, List.getElem?_cons_zero]; rfl)
                case hQ8 => exact fun _ _ _ h => h
                case hy8 => first | (refine Or.inr ⟨by rfl, ?_⟩; rfl) | (refine Or.inl ⟨by rfl, ?_⟩; intro w hSw; (try dsimp only at hSw); go_simp; (try with_reducible rfl))
                try simp only [Act.put, List.setIfInBounds_toArray, List.set_cons_zero, List.set_cons_succ]
                refine wpAnyH_take (i := 9) (oi := ?oi9) (v := ?v9) ?hi9 (by kernel_rfl) (by kernel_rfl) (by kernel_rfl) ?hQ9 ?hy9 (by assumption) ?rest9
                case hi9 => (simp only [List.getElem?_toArray, List.getElem?_cons_succ, List.getElem?_cons_zero]; rfl)
                case hQ9 => exact fun _ _ _ h => h
                case hy9 => first | (refine Or.inr ⟨by rfl, ?_⟩; rfl) | (refine Or.inl ⟨by rfl, ?_⟩; intro w hSw; (try dsimp only at hSw); go_simp; (try with_reducible rfl))
                try simp only [Act.put, List.setIfInBounds_toArray, List.set_cons_zero, List.set_cons_succ]
                refine wpAnyH_take (i := 10) (oi := ?oi10) (v := ?v10) ?hi10 (by kernel_rfl) (by kernel_rfl) (by kernel_rfl) ?hQ10 ?hy10 (by assumption) ?rest10
                case hi10 => (simp only [List.getElem?_toArray, List.getElem?_cons_succ, List.getElem?_cons_zero]; rfl)
                case hQ10 => exact fun _ _ _ h => h
                case hy10 => first | (refine Or.inr ⟨by rfl, ?_⟩; rfl) | (refine Or.inl ⟨by rfl, ?_⟩; intro w hSw; (try dsimp only at hSw); go_simp; (try with_reducible rfl))
                try simp only [Act.put, List.setIfInBounds_toArray, List.set_cons_zero, List.set_cons_succ]
                refine wpAnyH_take (i := 11) (oi := ?oi11) (v := ?v11) ?hi11 (by kernel_rfl) (by kernel_rfl) (by kernel_rfl) ?hQ11 ?hy11 (by assumption) ?rest11
                case hi11 => (simp only [List.getElem?_toArray, List.getElem?_cons_succ, List.getElem?_cons_zero]; rfl)
                case hQ11 => exact fun _ _ _ h => h
                case hy11 => first | (refine Or.inr ⟨by rfl, ?_⟩; rfl) | (refine Or.inl ⟨by rfl, ?_⟩; intro w hSw; (try dsimp only at hSw); go_simp; (try with_reducible rfl))
                try simp only [Act.put, List.setIfInBounds_toArray, List.set_cons_zero, List.set_cons_succ]
                refine wpAnyH_take (i := 12) (oi := ?oi12) (v := ?v12) ?hi12 (by kernel_rfl) (by kernel_rfl) (by kernel_rfl) ?hQ12 ?hy12 (by assumption) ?rest12
                case hi12 => (simp only [List.getElem?_toArray, List.getElem?_cons_succ, List.getElem?_cons_zero]; rfl)
                case hQ12 => exact fun _ _ _ h => h
                case hy12 => first | (refine Or.inr ⟨by rfl, ?_⟩; rfl) | (refine Or.inl ⟨by rfl, ?_⟩; intro w hSw; (try dsimp only at hSw); go_simp; (try with_reducible rfl))
                try simp only [Act.put, List.setIfInBounds_toArray, List.set_cons_zero, List.set_cons_succ]
                refine wpAnyH_take (i := 13) (oi := ?oi13) (v := ?v13) ?hi13 (by kernel_rfl) (by kernel_rfl) (by kernel_rfl) ?hQ13 ?hy13 (by assumption) ?rest13
                case hi13 => (simp only [List.getElem?_toArray, List.getElem?_cons_succ, List.getElem?_cons_zero]; rfl)
                case hQ13 => exact fun _ _ _ h => h
                case hy13 => first | (refine Or.inr ⟨by rfl, ?_⟩; rfl) | (refine Or.inl ⟨by rfl, ?_⟩; intro w hSw; (try dsimp only at hSw); go_simp; (try with_reducible rfl))
                try simp only [Act.put, List.setIfInBounds_toArray, List.set_cons_zero, List.set_cons_succ]
                refine wpAnyH_take (i := 14) (oi := ?oi14) (v := ?v14) ?hi14 (by kernel_rfl) (by kernel_rfl) (by kernel_rfl) ?hQ14 ?hy14 (by assumption) ?rest14
                case hi14 => (simp only [List.getElem?_toArray, List.getElem?_cons_succ, List.getElem?_cons_zero]; rfl)
                case hQ14 => exact fun _ _ _ h => h
                case hy14 => first | (refine Or.inr ⟨by rfl, ?_⟩; rfl) | (refine Or.inl ⟨by rfl, ?_⟩; intro w hSw; (try dsimp only at hSw); go_simp; (try with_reducible rfl))
                try simp only [Act.put, List.setIfInBounds_toArray, List.set_cons_zero, List.set_cons_succ]
                refine wpAnyH_take (i := 15) (oi := ?oi15) (v := ?v15) ?hi15 (by kernel_rfl) (by kernel_rfl) (by kernel_rfl) ?hQ15 ?hy15 (by assumption) ?rest15
                case hi15 => (simp only [List.getElem?_toArray, List.getElem?_cons_succ, List.getElem?_cons_zero]; rfl)
                case hQ15 => exact fun _ _ _ h => h
                case hy15 => first | (refine Or.inr ⟨by rfl, ?_⟩; rfl) | (refine Or.inl ⟨by rfl, ?_⟩; intro w hSw; (try dsimp only at hSw); go_simp; (try with_reducible rfl))
                try simp only [Act.put, List.setIfInBounds_toArray, List.set_cons_zero, List.set_cons_succ]
                refine wpAnyH_take (i := 16) (oi := ?oi16) (v := ?v16) ?hi16 (by kernel_rfl) (by kernel_rfl) (by kernel_rfl) ?hQ16 ?hy16 (by assumption) ?rest16
                case hi16 => (simp only [List.getElem?_toArray, List.getElem?_cons_succ, List.getElem?_cons_zero]; rfl)
                case hQ16 => exact fun _ _ _ h => h
                case hy16 => first | (refine Or.inr ⟨by rfl, ?_⟩; rfl) | (refine Or.inl ⟨by rfl, ?_⟩; intro w hSw; (try dsimp only at hSw); go_simp; (try with_reducible rfl))
                try simp only [Act.put, List.setIfInBounds_toArray, List.set_cons_zero, List.set_cons_succ]
                refine wpAnyH_take (i := 17) (oi := ?oi17) (v := ?v17) ?hi17 (by kernel_rfl) (by kernel_rfl) (by kernel_rfl) ?hQ17 ?hy17 (by assumption) ?rest17
                case hi17 => (simp only [List.getElem?_toArray, List.getElem?_cons_succ, List.getElem?_cons_zero]; rfl)
                case hQ17 => exact fun _ _ _ h => h
                case hy17 => first | (refine Or.inr ⟨by rfl, ?_⟩; rfl) | (refine Or.inl ⟨by rfl, ?_⟩; intro w hSw; (try dsimp only at hSw); go_simp; (try with_reducible rfl))
                try simp only [Act.put, List.setIfInBounds_toArray, List.set_cons_zero, List.set_cons_succ]
                refine wpAnyH_take (i := 18) (oi := ?oi18) (v := ?v18) ?hi18 (by kernel_rfl) (by kernel_rfl) (by kernel_rfl) ?hQ18 ?hy18 (by assumption) ?rest18
                case hi18 => (simp only [List.getElem?_toArray, List.getElem?_cons_succ, List.getElem?_cons_zero]; rfl)
                case hQ18 => exact fun _ _ _ h => h
                case hy18 => first | (refine Or.inr ⟨by rfl, ?_⟩; rfl) | (refine Or.inl ⟨by rfl, ?_⟩; intro w hSw; (try dsimp only at hSw); go_simp; (try with_reducible rfl))
                try simp only [Act.put, List.setIfInBounds_toArray, List.set_cons_zero, List.set_cons_succ]
                refine wpAnyH_take (i := 19) (oi := ?oi19) (v := ?v19) ?hi19 (by kernel_rfl) (by kernel_rfl) (by kernel_rfl) ?hQ19 ?hy19 (by assumption) ?rest19
                case hi19 => (simp only [List.getElem?_toArray, List.getElem?_cons_succ, List.getElem?_cons_zero]; rfl)
                case hQ19 => exact fun _ _ _ h => h
                case hy19 => first | (refine Or.inr ⟨by rfl, ?_⟩; rfl) | (refine Or.inl ⟨by rfl, ?_⟩; intro w hSw; (try dsimp only at hSw); go_simp; (try with_reducible rfl))
                try simp only [Act.put, List.setIfInBounds_toArray, List.set_cons_zero, List.set_cons_succ]
                refine wpAnyH_take (i := 20) (oi := ?oi20) (v := ?v20) ?hi20 (by kernel_rfl) (by kernel_rfl) (by kernel_rfl) ?hQ20 ?hy20 (by assumption) ?rest20
                case hi20 => (simp only [List.getElem?_toArray, List.getElem?_cons_succ, List.getElem?_cons_zero]; rfl)
                case hQ20 => exact fun _ _ _ h => h
                case hy20 => first | (refine Or.inr ⟨by rfl, ?_⟩; rfl) | (refine Or.inl ⟨by rfl, ?_⟩; intro w hSw; (try dsimp only at hSw); go_simp; (try with_reducible rfl))
                try simp only [Act.put, List.setIfInBounds_toArray, List.set_cons_zero, List.set_cons_succ]
                refine wpAnyH_take (i := 21) (oi := ?oi21) (v := ?v21) ?hi21 (by kernel_rfl) (by kernel_rfl) (by kernel_rfl) ?hQ21 ?hy21 (by assumption) ?rest21
                case hi21 => (simp only [List.getElem?_toArray, List.getElem?_cons_succ, List.getElem?_cons_zero]; rfl)
                case hQ21 => exact fun _ _ _ h => h
                case hy21 => first | (refine Or.inr ⟨by rfl, ?_⟩; rfl) | (refine Or.inl ⟨by rfl, ?_⟩; intro w hSw; (try dsimp only at hSw); go_simp; (try with_reducible rfl))
                try simp only [Act.put, List.setIfInBounds_toArray, List.set_cons_zero, List.set_cons_succ]
                refine wpAnyH_take (i := 22) (oi := ?oi22) (v := ?v22) ?hi22 (by kernel_rfl) (by kernel_rfl) (by kernel_rfl) ?hQ22 ?hy22 (by assumption) ?rest22
                case hi22 => (simp only [List.getElem?_toArray, List.getElem?_cons_succ, List.getElem?_cons_zero]; rfl)
                case hQ22 => exact fun _ _ _ h => h
                case hy22 => first | (refine Or.inr ⟨by rfl, ?_⟩; rfl) | (refine Or.inl ⟨by rfl, ?_⟩; intro w hSw; (try dsimp only at hSw); go_simp; (try with_reducible rfl))
                try simp only [Act.put, List.setIfInBounds_toArray, List.set_cons_zero, List.set_cons_succ]
                refine wpAnyH_take (i := 23) (oi := ?oi23) (v := ?v23) ?hi23 (by kernel_rfl) (by kernel_rfl) (by kernel_rfl) ?hQ23 ?hy23 (by assumption) ?rest23
                case hi23 => (simp only [List.getElem?_toArray, List.getElem?_cons_succ, List.getElem?_cons_zero]; rfl)
                case hQ23 => exact fun _ _ _ h => h
                case hy23 => first | (refine Or.inr ⟨by rfl, ?_⟩; rfl) | (refine Or.inl ⟨by rfl, ?_⟩; intro w hSw; (try dsimp only at hSw); go_simp; (try with_reducible rfl))
                try simp only [Act.put, List.setIfInBounds_toArray, List.set_cons_zero, List.set_cons_succ]
                refine wpAnyH_take (i := 24) (oi := ?oi24) (v := ?v24) ?hi24 (by kernel_rfl) (by kernel_rfl) (by kernel_rfl) ?hQ24 ?hy24 (by assumption) ?rest24
                case hi24 => (simp only [List.getElem?_toArray, List.getElem?_cons_succ, List.getElem?_cons_zero]; rfl)
                case hQ24 => exact fun _ _ _ h => h
                case hy24 => first | (refine Or.inr ⟨by rfl, ?_⟩; rfl) | (refine Or.inl ⟨by rfl, ?_⟩; intro w hSw; (try dsimp only at hSw); go_simp; (try with_reducible rfl))
                try simp only [Act.put, List.setIfInBounds_toArray, List.set_cons_zero, List.set_cons_succ]
                refine wpAnyH_take (i := 25) (oi := ?oi25) (v := ?v25) ?hi25 (by kernel_rfl) (by kernel_rfl) (by kernel_rfl) ?hQ25 ?hy25 (by assumption) ?rest25
                case hi25 => (simp only [List.getElem?_toArray, List.getElem?_cons_succ, List.getElem?_cons_zero]; rfl)
                case hQ25 => exact fun _ _ _ h => h
                case hy25 => first | (refine Or.inr ⟨by rfl, ?_⟩; rfl) | (refine Or.inl ⟨by rfl, ?_⟩; intro w hSw; (try dsimp only at hSw); go_simp; (try with_reducible rfl))
                try simp only [Act.put, List.setIfInBounds_toArray, List.set_cons_zero, List.set_cons_succ]
                refine wpAnyH_take (i := 26) (oi := ?oi26) (v := ?v26) ?hi26 (by kernel_rfl) (by kernel_rfl) (by kernel_rfl) ?hQ26 ?hy26 (by assumption) ?rest26
                case hi26 => (simp only [List.getElem?_toArray, List.getElem?_cons_succ, List.getElem?_cons_zero]; rfl)
                case hQ26 => exact fun _ _ _ h => h
                case hy26 => first | (refine Or.inr ⟨by rfl, ?_⟩; rfl) | (refine Or.inl ⟨by rfl, ?_⟩; intro w hSw; (try dsimp only at hSw); go_simp; (try with_reducible rfl))
                try simp only [Act.put, List.setIfInBounds_toArray, List.set_cons_zero, List.set_cons_succ]
                refine wpAnyH_take (i := 27) (oi := ?oi27) (v := ?v27) ?hi27 (by kernel_rfl) (by kernel_rfl) (by kernel_rfl) ?hQ27 ?hy27 (by assumption) ?rest27
                case hi27 => (simp only [List.getElem?_toArray, List.getElem?_cons_succ, List.getElem?_cons_zero]; rfl)
                case hQ27 => exact fun _ _ _ h => h
                case hy27 => first | (refine Or.inr ⟨by rfl, ?_⟩; rfl) | (refine Or.inl ⟨by rfl, ?_⟩; intro w hSw; (try dsimp only at hSw); go_simp; (try with_reducible rfl))
                try simp only [Act.put, List.setIfInBounds_toArray, List.set_cons_zero, List.set_cons_succ]
                refine wpAnyH_take (i := 28) (oi := ?oi28) (v := ?v28) ?hi28 (by kernel_rfl) (by kernel_rfl) (by kernel_rfl) ?hQ28 ?hy28 (by assumption) ?rest28
                case hi28 => (simp only [List.getElem?_toArray, List.getElem?_cons_succ, List.getElem?_cons_zero]; rfl)
                case hQ28 => exact fun _ _ _ h => h
                case hy28 => first | (refine Or.inr ⟨by rfl, ?_⟩; rfl) | (refine Or.inl ⟨by rfl, ?_⟩; intro w hSw; (try dsimp only at hSw); go_simp; (try with_reducible rfl))
                try simp only [Act.put, List.setIfInBounds_toArray, List.set_cons_zero, List.set_cons_succ]
                refine wpAnyH_take (i := 29) (oi := ?oi29) (v := ?v29) ?hi29 (by kernel_rfl) (by kernel_rfl) (by kernel_rfl) ?hQ29 ?hy29 (by assumption) ?rest29
                case hi29 => (simp only [List.getElem?_toArray, List.getElem?_cons_succ, List.getElem?_cons_zero]; rfl)
                case hQ29 => exact fun _ _ _ h => h
                case hy29 => first | (refine Or.inr ⟨by rfl, ?_⟩; rfl) | (refine Or.inl ⟨by rfl, ?_⟩; intro w hSw; (try dsimp only at hSw); go_simp; (try with_reducible rfl))
                try simp only [Act.put, List.setIfInBounds_toArray, List.set_cons_zero, List.set_cons_succ]
                refine wpAnyH_take (i := 30) (oi := ?oi30) (v := ?v30) ?hi30 (by kernel_rfl) (by kernel_rfl) (by kernel_rfl) ?hQ30 ?hy30 (by assumption) ?rest30
                case hi30 => (simp only [List.getElem?_toArray, List.getElem?_cons_succ, List.getElem?_cons_zero]; rfl)
                case hQ30 => exact fun _ _ _ h => h
                case hy30 => first | (refine Or.inr ⟨by rfl, ?_⟩; rfl) | (refine Or.inl ⟨by rfl, ?_⟩; intro w hSw; (try dsimp only at hSw); go_simp; (try with_reducible rfl))
                try simp only [Act.put, List.setIfInBounds_toArray, List.set_cons_zero, List.set_cons_succ]
                refine wpAnyH_take (i := 31) (oi := ?oi31) (v := ?v31) ?hi31 (by kernel_rfl) (by kernel_rfl) (by kernel_rfl) ?hQ31 ?hy31 (by assumption) ?rest31
                case hi31 => (simp only [List.getElem?_toArray, List.getElem?_cons_succ, List.getElem?_cons_zero]; rfl)
                case hQ31 => exact fun _ _ _ h => h
                case hy31 => first | (refine Or.inr ⟨by rfl, ?_⟩; rfl) | (refine Or.inl ⟨by rfl, ?_⟩; intro w hSw; (try dsimp only at hSw); go_simp; (try with_reducible rfl))
                try simp only [Act.put, List.setIfInBounds_toArray, List.set_cons_zero, List.set_cons_succ]
                refine wpAnyH_take (i := 32) (oi := ?oi32) (v := ?v32) ?hi32 (by kernel_rfl) (by kernel_rfl) (by kernel_rfl) ?hQ32 ?hy32 (by assumption) ?rest32
                case hi32 => (simp only [List.getElem?_toArray, List.getElem?_cons_succ, List.getElem?_cons_zero]; rfl)
                case hQ32 => exact fun _ _ _ h => h
                case hy32 => first | (refine Or.inr ⟨by rfl, ?_⟩; rfl) | (refine Or.inl ⟨by rfl, ?_⟩; intro w hSw; (try dsimp only at hSw); go_simp; (try with_reducible rfl))
                try simp only [Act.put, List.setIfInBounds_toArray, List.set_cons_zero, List.set_cons_succ]
                refine wpAnyH_take (i := 33) (oi := ?oi33) (v := ?v33) ?hi33 (by kernel_rfl) (by kernel_rfl) (by kernel_rfl) ?hQ33 ?hy33 (by assumption) ?rest33
                case hi33 => (simp only [List.getElem?_toArray, List.getElem?_cons_succ, List.getElem?_cons_zero]; rfl)
                case hQ33 => exact fun _ _ _ h => h
                case hy33 => first | (refine Or.inr ⟨by rfl, ?_⟩; rfl) | (refine Or.inl ⟨by rfl, ?_⟩; intro w hSw; (try dsimp only at hSw); go_simp; (try with_reducible rfl))
                try simp only [Act.put, List.setIfInBounds_toArray, List.set_cons_zero, List.set_cons_succ]
                refine wpAnyH_take (i := 34) (oi := ?oi34) (v := ?v34) ?hi34 (by kernel_rfl) (by kernel_rfl) (by kernel_rfl) ?hQ34 ?hy34 (by assumption) ?rest34
                case hi34 => (simp only [List.getElem?_toArray, List.getElem?_cons_succ, List.getElem?_cons_zero]; rfl)
                case hQ34 => exact fun _ _ _ h => h
                case hy34 => first | (refine Or.inr ⟨by rfl, ?_⟩; rfl) | (refine Or.inl ⟨by rfl, ?_⟩; intro w hSw; (try dsimp only at hSw); go_simp; (try with_reducible rfl))
                try simp only [Act.put, List.setIfInBounds_toArray, List.set_cons_zero, List.set_cons_succ]
                refine wpAnyH_take (i := 35) (oi := ?oi35) (v := ?v35) ?hi35 (by kernel_rfl) (by kernel_rfl) (by kernel_rfl) ?hQ35 ?hy35 (by assumption) ?rest35
                case hi35 => (simp only [List.getElem?_toArray, List.getElem?_cons_succ, List.getElem?_cons_zero]; rfl)
                case hQ35 => exact fun _ _ _ h => h
                case hy35 => first | (refine Or.inr ⟨by rfl, ?_⟩; rfl) | (refine Or.inl ⟨by rfl, ?_⟩; intro w hSw; (try dsimp only at hSw); go_simp; (try with_reducible rfl))
                try simp only [Act.put, List.setIfInBounds_toArray, List.set_cons_zero, List.set_cons_succ]
                refine wpAnyH_take (i := 36) (oi := ?oi36) (v := ?v36) ?hi36 (by kernel_rfl) (by kernel_rfl) (by kernel_rfl) ?hQ36 ?hy36 (by assumption) ?rest36
                case hi36 => (simp only [List.getElem?_toArray, List.getElem?_cons_succ, List.getElem?_cons_zero]; rfl)
                case hQ36 => exact fun _ _ _ h => h
                case hy36 => first | (refine Or.inr ⟨by rfl, ?_⟩; rfl) | (refine Or.inl ⟨by rfl, ?_⟩; intro w hSw; (try dsimp only at hSw); go_simp; (try with_reducible rfl))
                try simp only [Act.put, List.setIfInBounds_toArray, List.set_cons_zero, List.set_cons_succ]
                refine wpAnyH_done (by kernel_rfl) ?_ _
                have HRe := Lib.hid ho5
                have HMe := Lib.hid (HMj.out.look hk5.of_drew)
                clear ho5 hk5
                go_wp2_with fail
                go_roundw
                case rel => exact ⟨0 + 1, by omega, by go_num, HRe.out, HMe.out⟩
                case measure => simp [intOf]; omega
              · obtain ⟨m, rfl⟩ : ∃ m, k = m + 1 := ⟨k - 1, by omega⟩
                have hm0 : m < (mayL S.l).length := by omega
                obtain ⟨v2, hv2l, hv2, -⟩ := may_at hm0
                have hri := may_rise (Nat.lt_succ_self m) hlt3
                rw [hv, hv2] at hri
                obtain ⟨am2, off2, he2, -, ck2⟩ := HMj.out.cells.2.at (i := m) (v := .int .i64 v2) (by rw [List.getElem?_map, List.getElem?_eq_getElem hm0, hv2]; rfl)
                have he3 : am = am2 ∧ off = off2 := by simpa using he2
                obtain ⟨rfl, rfl⟩ := he3
                have i2 : decide ((v : Int) ≤ (v2 : Int)) = false := by simp; omega
                have i3 : decide ((0 : Int) < (m : Int) + 1) = true := decide_eq_true (by omega)
                have i6 : (0 : Int) ≤ (m : Int) + 1 := by omega
                have i7 : (m : Int) + 1 < ((mayL S.l).length : Int) := by omega
                have e1 : IntKind.i64.wrap ((m : Int) + 1 - 1) = (m : Int) := by rw [IntKind.wrap_i64]; omega
                have e2 : IntKind.i64.wrap (m : Int) = (m : Int) := by rw [IntKind.wrap_i64]; omega
                have i4 : (m : Int) < ((mayL S.l).length : Int) := by omega
                have i5 : (0 : Int) ≤ (m : Int) := by omega
                clear hx hv hvr he2 hv2 hri hvl hv2l
                generalize (v : Int) = V at ck HX i0 i1 i2
                generalize (v2 : Int) = V2 at ck2 i2
                go_wp2_with fail
                go_region_held3 (fun w' => w'.cell? ⟨am, off + (m + 1), none⟩ = some (.int .i64 V) ∧ w'.cell? ⟨am, off + m, none⟩ = some (.int .i64 V2)) (first | go_keep | exact ⟨d2, d3⟩)
                  ((go_at_call 13; refine (own_rests HRd V false HX.out).mono ?_; rintro e w5 ⟨rfl, ho5, hk5⟩; have d2 := hk5.cell (show wr.drew.cell? _ = _ from ck) id; have d3 := hk5.cell (show wr.drew.cell? _ = _ from ck2) id))
                have HRe := Lib.hid ho5
                have HMe := Lib.hid (HMj.out.look hk5.of_drew)
                clear ho5 hk5
                go_wp2_with fail
                go_roundw
                case rel => exact ⟨m + 1 + 1, by omega, by go_num, HRe.out, HMe.out⟩
                case measure => simp [intOf]; omega
            · go_wp2_with fail
              go_roundw
              case rel => exact .inr ⟨j, hjl, by rw [HJ.out]; rfl, by rw [← HS.out]; exact HRj.out⟩
              case measure => first | (simp [intOf]; done) | (simp [intOf]; omega)
    · have HR0 := Lib.hid ho
      clear ho HO
      by_cases hltk : k < l.length
      · obtain ⟨b0, o, rfl, hb0, c0, c1, c2, -⟩ := (HA.out.kept HR0.out.kp) k hltk
        have hst := Lib.hid (acts_take (newB n lo ti) l k hltk)
        obtain ⟨x, hx⟩ : ∃ x, l[k] = x := ⟨_, rfl⟩
        rw [hx] at c0 c1 c2 hst
        clear hx
        have hk0 : decide ((0 : Int) ≤ (k : Int)) = true := decide_eq_true (by omega)
        go_wp2_with fail
        refine (ldoes_any HR0 x).mono ?_
        rintro e w3 ⟨rfl, ho, -⟩
        rw [← hst.out] at ho
        obtain ⟨j, hj, hjl⟩ : ∃ j : Nat, j = k + 1 ∧ j ≤ l.length := ⟨k + 1, rfl, by omega⟩
        rw [← hj] at ho
        have HR := Lib.hid ho
        have HJ := Lib.hid hj
        clear ho hj c0 c1 c2
        go_wp2_with fail
        obtain ⟨S, hS⟩ : ∃ S, S = (newB n lo ti).acts (l.take j) := ⟨_, rfl⟩
        have HE := Lib.hid (show Enough S by rw [hS]; exact enough_acts (enough_new HOK.out) _)
        have hlen : S.l.length = n := by rw [hS, len_acts]; simp [newB]
        rw [← hS] at HR
        have HS := Lib.hid hS
        clear hS
        refine (own_may HR (mayL S.l) rfl).mono ?_
        rintro e w4 ⟨ao, cp, rfl, hm, ho, -⟩
        obtain ⟨base, hbase⟩ : ∃ base, base = w3.heap.size := ⟨_, rfl⟩
        rw [← hbase] at hm
        have HR4 := Lib.hid ho
        have HM := Lib.hid hm
        have hmc := may_count S.l
        have hen : n / 2 + 1 + restsC S.l ≤ n := by have := HE.out; unfold Enough at this; rw [hlen] at this; exact this
        rw [hlen] at hmc
        clear ho hm hbase
        go_wp2_with fail
        go_loopw [15, 16] (fun r c wi => ∃ u : Nat, u ≤ n ∧ c = .int .i64 u ∧ r = .int .i64 (restsC (S.l.take u)) ∧ Own w wi b g S ∧ OwnsI wi base (.slice ao (mayL S.l).length cp) (mayL S.l)) (fun _ c _ => n - (intOf c).toNat)
        case atStart => exact ⟨0, by omega, rfl, by simp [restsC], HR4.out, HM.out⟩
        case round =>
          obtain ⟨u, hu, rfl, rfl, ho, hm⟩ := hrel
          have HRi := Lib.hid ho
          have HMi := Lib.hid hm
          clear ho hm HR4 HM
          by_cases hlt : u < n
          · have hut : u < S.l.length := by omega
            have hrt := restsC_take S.l u hut
            have hx : (S.of u).rests = S.l[u].rests := by unfold BookS.of; rw [if_pos (by omega)]; simp [hut]
            have hr0 : restsC (S.l.take u) ≤ u := by unfold restsC; have := List.countP_le_length (p := (·.rests)) (l := S.l.take u); simp at this; omega
            obtain ⟨x, hxx⟩ : ∃ x, x = S.l[u].rests := ⟨_, rfl⟩
            rw [← hxx] at hrt hx
            have HRT := Lib.hid hrt
            have HX := Lib.hid hx
            clear hrt hx hxx
            go_wp2_with fail
            refine (own_rests HRi u x HX.out).mono ?_
            rintro e w5 ⟨rfl, ho, hk5⟩
            have HR5 := Lib.hid ho
            have HM5 := Lib.hid (HMi.out.look hk5)
            clear ho hk5
            cases x with
            | true =>
              go_wp2_with fail
              go_roundw
              case rel => exact ⟨u + 1, by omega, by go_num, by rw [HRT.out]; simp, HR5.out, HM5.out⟩
              case measure => simp [intOf]; omega
            | false =>
              go_wp2_with fail
              go_roundw
              case rel => exact ⟨u + 1, by omega, by go_num, by rw [HRT.out]; simp, HR5.out, HM5.out⟩
              case measure => simp [intOf]; omega
          · have eu : n = u := by omega
            subst eu
            have htk : S.l.take n = S.l := by rw [← hlen]; exact List.take_length
            rw [htk]
            clear htk
            have t1 : decide (((mayL S.l).length : Int) < (n : Int) / 2 + 1) = false := by simp; omega
            have t2 : (((mayL S.l).length : Int) + (restsC S.l : Int) != (n : Int)) = false := by simp; omega
            go_wp2_with fail
            clear t1 t2
            go_loopw [17] (fun c wi => ∃ k : Nat, k ≤ (mayL S.l).length ∧ c = .int .i64 k ∧ Own w wi b g S ∧ OwnsI wi base (.slice ao (mayL S.l).length cp) (mayL S.l)) (fun c _ => (mayL S.l).length - (intOf c).toNat)
            case atStart => exact ⟨0, by omega, rfl, HRi.out, HMi.out⟩
            case round =>
              obtain ⟨k, hk, rfl, ho, hm⟩ := hrel
              have HRj := Lib.hid ho
              have HMj := Lib.hid hm
              clear ho hm HRi HMi
              by_cases hlt3 : k < (mayL S.l).length
              · obtain ⟨v, hvl, hv, hvr⟩ := may_at hlt3
                have hx : (S.of (v : Int)).rests = false := by unfold BookS.of; rw [if_pos (by omega)]; simpa [hvl] using hvr
                obtain ⟨am, off, rfl, -, ck⟩ := HMj.out.cells.2.at (i := k) (v := .int .i64 v) (by rw [List.getElem?_map, List.getElem?_eq_getElem hlt3, hv]; rfl)
                have HX := Lib.hid hx
                have HRd := Lib.hid (HRj.out.look ((Kept.refl (M := fun _ => False) wr).drew))
                rw [hlen] at hvl
                have i0 : decide ((v : Int) < 0) = false := by simp
                have i1 : decide ((n : Int) ≤ (v : Int)) = false := by simp; omega
                by_cases hk0 : k = 0
                · subst hk0
                  rw [Nat.add_zero] at ck
                  clear hx hv hvr hvl
                  generalize (v : Int) = V at ck HX i0 i1
                  have i2 : decide ((0 : Int) < (0 : Int)) = false := by decide
                  go_wp2_with fail
                  refine wp_region_held_drew (S := (fun w' => w'.cell? ⟨am, off, none⟩ = some (.int .i64 V))) (by kernel_rfl) (by first | exact ck | exact d2) (fun hHeld => ?_)
                  refine wpAnyH_take (i := 0) (oi := ?xoi0) (v := ?xv0) ?xhi0 (by kernel_rfl) (by kernel_rfl) (by kernel_rfl) ?xhQ0 ?xhy0 (by assumption) ?xrest0
                  case xhi0 => (simp only [List.getElem?_toArray, List.getElem?_cons_zero]; rfl)
                  case xhQ0 => exact fun _ _ _ h => h
                  case xhy0 => first | (refine Or.inr ⟨by rfl, ?_⟩; rfl) | (refine Or.inl ⟨by rfl, ?_⟩; intro w hSw; (try dsimp only at hSw); go_simp; (try with_reducible rfl))
                  try simp only [Act.put, List.setIfInBounds_toArray, List.set_cons_zero, List.set_cons_succ]
                  refine wpAnyH_take (i := 1) (oi := ?xoi1) (v := ?xv1) ?xhi1 (by kernel_rfl) (by kernel_rfl) (by kernel_rfl) ?xhQ1 ?xhy1 (by assumption) ?xrest1
                  case xhi1 => (simp only [List.getElem?_toArray, List.getElem?_cons_succ, List.getElem?_cons_zero]; rfl)
                  case xhQ1 => exact fun _ _ _ h => h
                  case xhy1 => first | (refine Or.inr ⟨by rfl, ?_⟩; rfl) | (refine Or.inl ⟨by rfl, ?_⟩; intro w hSw; (try dsimp only at hSw); go_simp; (try with_reducible rfl))
                  try simp only [Act.put, List.setIfInBounds_toArray, List.set_cons_zero, List.set_cons_succ]
                  refine wpAnyH_take (i := 2) (oi := ?xoi2) (v := ?xv2) ?xhi2 (by kernel_rfl) (by kernel_rfl) (by kernel_rfl) ?xhQ2 ?xhy2 (by assumption) ?xrest2
                  case xhi2 => (simp only [List.getElem?_toArray, List.getElem?_cons_succ, List.getElem?_cons_zero]; rfl)
                  case xhQ2 => exact fun _ _ _ h => h
                  case xhy2 => first | (refine Or.inr ⟨by rfl, ?_⟩; rfl) | (refine Or.inl ⟨by rfl, ?_⟩; intro w hSw; (try dsimp only at hSw); go_simp; (try with_reducible rfl))
                  try simp only [Act.put, List.setIfInBounds_toArray, List.set_cons_zero, List.set_cons_succ]
                  refine wpAnyH_take (i := 3) (oi := ?xoi3) (v := ?xv3) ?xhi3 (by kernel_rfl) (by kernel_rfl) (by kernel_rfl) ?xhQ3 ?xhy3 (by assumption) ?xrest3
                  case xhi3 => (simp only [List.getElem?_toArray, List.getElem?_cons_succ, List.getElem?_cons_zero]; rfl)
                  case xhQ3 => exact fun _ _ _ h => h
                  case xhy3 => first | (refine Or.inr ⟨by rfl, ?_⟩; rfl) | (refine Or.inl ⟨by rfl, ?_⟩; intro w hSw; (try dsimp only at hSw); go_simp; (try with_reducible rfl))
                  try simp only [Act.put, List.setIfInBounds_toArray, List.set_cons_zero, List.set_cons_succ]
                  refine wpAnyH_take (i := 4) (oi := ?xoi4) (v := ?xv4) ?xhi4 (by kernel_rfl) (by kernel_rfl) (by kernel_rfl) ?xhQ4 ?xhy4 (by assumption) ?xrest4
                  case xhi4 => (simp only [List.getElem?_toArray, List.getElem?_cons_succ, List.getElem?_cons_zero]; rfl)
                  case xhQ4 => exact fun _ _ _ h => h
                  case xhy4 => first | (refine Or.inr ⟨by rfl, ?_⟩; rfl) | (refine Or.inl ⟨by rfl, ?_⟩; intro w hSw; (try dsimp only at hSw); go_simp; (try with_reducible rfl))
                  try simp only [Act.put, List.setIfInBounds_toArray, List.set_cons_zero, List.set_cons_succ]
                  refine wpAnyH_ready (rs := [5]) (by kernel_rfl) (by simp) (AllReadyH.cons rfl (fun K hK => ?_) AllReadyH.nil)
                  go_simp
                  (refine (own_rests HRd V false HX.out).mono ?_; rintro e w5 ⟨rfl, ho5, hk5⟩; have d2 := hk5.cell (show wr.drew.cell? _ = _ from ck) id)
                  try go_wp2_with fail
                  refine hK.out _ _ (by first | exact ck | exact d2) (fun hHeld => ?_)
                  clear hK K
                  try simp only [Act.put, List.setIfInBounds_toArray, List.set_cons_zero, List.set_cons_succ]
                  refine wpAnyH_take (i := 6) (oi := ?xoi6) (v := ?xv6) ?xhi6 (by kernel_rfl) (by kernel_rfl) (by kernel_rfl) ?xhQ6 ?xhy6 (by assumption) ?xrest6
                  case xhi6 => (simp only [List.getElem?_toArray, List.getElem?_cons_succ, List.getElem?_cons_zero]; rfl)
                  case xhQ6 => exact fun _ _ _ h => h
                  case xhy6 => first | (refine Or.inr ⟨by rfl, ?_⟩; rfl) | (refine Or.inl ⟨by rfl, ?_⟩; intro w hSw; (try dsimp only at hSw); go_simp; (try with_reducible rfl))
                  try simp only [Act.put, List.setIfInBounds_toArray, List.set_cons_zero, List.set_cons_succ]
                  refine wpAnyH_take (i := 7) (oi := ?xoi7) (v := ?xv7) ?xhi7 (by kernel_rfl) (by kernel_rfl) (by kernel_rfl) ?xhQ7 ?xhy7 (by assumption) ?xrest7
                  case xhi7 => (simp only [List.getElem?_toArray, List.getElem?_cons_succ, List.getElem?_cons_zero]; rfl)
                  case xhQ7 => exact fun _ _ _ h => h
                  case xhy7 => first | (refine Or.inr ⟨by rfl, ?_⟩; rfl) | (refine Or.inl ⟨by rfl, ?_⟩; intro w hSw; (try dsimp only at hSw); go_simp; (try with_reducible rfl))
                  try simp only [Act.put, List.setIfInBounds_toArray, List.set_cons_zero, List.set_cons_succ]
                  refine wpAnyH_take (i := 8) (oi := ?xoi8) (v := ?xv8) ?xhi8 (by kernel_rfl) (by kernel_rfl) (by kernel_rfl) ?xhQ8 ?xhy8 (by assumption) ?xrest8
                  case xhi8 => (simp only [List.getElem?_toArray, List.getElem?_cons_succ, List.getElem?_cons_zero]; rfl)
                  case xhQ8 => exact fun _ _ _ h => h
                  case xhy8 => first | (refine Or.inr ⟨by rfl, ?_⟩; rfl) | (refine Or.inl ⟨by rfl, ?_⟩; intro w hSw; (try dsimp only at hSw); go_simp; (try with_reducible rfl))
                  try simp only [Act.put, List.setIfInBounds_toArray, List.set_cons_zero, List.set_cons_succ]
                  refine wpAnyH_take (i := 9) (oi := ?xoi9) (v := ?xv9) ?xhi9 (by kernel_rfl) (by kernel_rfl) (by kernel_rfl) ?xhQ9 ?xhy9 (by assumption) ?xrest9
                  case xhi9 => (simp only [List.getElem?_toArray, List.getElem?_cons_succ, List.getElem?_cons_zero]; rfl)
                  case xhQ9 => exact fun _ _ _ h => h
                  case xhy9 => first | (refine Or.inr ⟨by rfl, ?_⟩; rfl) | (refine Or.inl ⟨by rfl, ?_⟩; intro w hSw; (try dsimp only at hSw); go_simp; (try with_reducible rfl))
                  try simp only [Act.put, List.setIfInBounds_toArray, List.set_cons_zero, List.set_cons_succ]
                  refine wpAnyH_take (i := 10) (oi := ?xoi10) (v := ?xv10) ?xhi10 (by kernel_rfl) (by kernel_rfl) (by kernel_rfl) ?xhQ10 ?xhy10 (by assumption) ?xrest10
                  case xhi10 => (simp only [List.getElem?_toArray, List.getElem?_cons_succ, List.getElem?_cons_zero]; rfl)
                  case xhQ10 => exact fun _ _ _ h => h
                  case xhy10 => first | (refine Or.inr ⟨by rfl, ?_⟩; rfl) | (refine Or.inl ⟨by rfl, ?_⟩; intro w hSw; (try dsimp only at hSw); go_simp; (try with_reducible rfl))
                  try simp only [Act.put, List.setIfInBounds_toArray, List.set_cons_zero, List.set_cons_succ]
                  refine wpAnyH_take (i := 11) (oi := ?xoi11) (v := ?xv11) ?xhi11 (by kernel_rfl) (by kernel_rfl) (by kernel_rfl) ?xhQ11 ?xhy11 (by assumption) ?xrest11
                  case xhi11 => (simp only [List.getElem?_toArray, List.getElem?_cons_succ, List.getElem?_cons_zero]; rfl)
                  case xhQ11 => exact fun _ _ _ h => h
                  case xhy11 => first | (refine Or.inr ⟨by rfl, ?_⟩; rfl) | (refine Or.inl ⟨by rfl, ?_⟩; intro w hSw; (try dsimp only at hSw); go_simp; (try with_reducible rfl))
                  try simp only [Act.put, List.setIfInBounds_toArray, List.set_cons_zero, List.set_cons_succ]
                  refine wpAnyH_take (i := 12) (oi := ?xoi12) (v := ?xv12) ?xhi12 (by kernel_rfl) (by kernel_rfl) (by kernel_rfl) ?xhQ12 ?xhy12 (by assumption) ?xrest12
                  case xhi12 => (simp only [List.getElem?_toArray, List.getElem?_cons_succ, List.getElem?_cons_zero]; rfl)
                  case xhQ12 => exact fun _ _ _ h => h
                  case xhy12 => first | (refine Or.inr ⟨by rfl, ?_⟩; rfl) | (refine Or.inl ⟨by rfl, ?_⟩; intro w hSw; (try dsimp only at hSw); go_simp; (try with_reducible rfl))
                  try simp only [Act.put, List.setIfInBounds_toArray, List.set_cons_zero, List.set_cons_succ]
                  refine wpAnyH_take (i := 13) (oi := ?xoi13) (v := ?xv13) ?xhi13 (by kernel_rfl) (by kernel_rfl) (by kernel_rfl) ?xhQ13 ?xhy13 (by assumption) ?xrest13
                  case xhi13 => (simp only [List.getElem?_toArray, List.getElem?_cons_succ, List.getElem?_cons_zero]; rfl)
                  case xhQ13 => exact fun _ _ _ h => h
                  case xhy13 => first | (refine Or.inr ⟨by rfl, ?_⟩; rfl) | (refine Or.inl ⟨by rfl, ?_⟩; intro w hSw; (try dsimp only at hSw); go_simp; (try with_reducible rfl))
                  try simp only [Act.put, List.setIfInBounds_toArray, List.set_cons_zero, List.set_cons_succ]
                  refine wpAnyH_take (i := 14) (oi := ?xoi14) (v := ?xv14) ?xhi14 (by kernel_rfl) (by kernel_rfl) (by kernel_rfl) ?xhQ14 ?xhy14 (by assumption) ?xrest14
                  case xhi14 => (simp only [List.getElem?_toArray, List.getElem?_cons_succ, List.getElem?_cons_zero]; rfl)
                  case xhQ14 => exact fun _ _ _ h => h
                  case xhy14 => first | (refine Or.inr ⟨by rfl, ?_⟩; rfl) | (refine Or.inl ⟨by rfl, ?_⟩; intro w hSw; (try dsimp only at hSw); go_simp; (try with_reducible rfl))
                  try simp only [Act.put, List.setIfInBounds_toArray, List.set_cons_zero, List.set_cons_succ]
                  refine wpAnyH_take (i := 15) (oi := ?xoi15) (v := ?xv15) ?xhi15 (by kernel_rfl) (by kernel_rfl) (by kernel_rfl) ?xhQ15 ?xhy15 (by assumption) ?xrest15
                  case xhi15 => (simp only [List.getElem?_toArray, List.getElem?_cons_succ, List.getElem?_cons_zero]; rfl)
                  case xhQ15 => exact fun _ _ _ h => h
                  case xhy15 => first | (refine Or.inr ⟨by rfl, ?_⟩; rfl) | (refine Or.inl ⟨by rfl, ?_⟩; intro w hSw; (try dsimp only at hSw); go_simp; (try with_reducible rfl))
                  try simp only [Act.put, List.setIfInBounds_toArray, List.set_cons_zero, List.set_cons_succ]
                  refine wpAnyH_take (i := 16) (oi := ?xoi16) (v := ?xv16) ?xhi16 (by kernel_rfl) (by kernel_rfl) (by kernel_rfl) ?xhQ16 ?xhy16 (by assumption) ?xrest16
                  case xhi16 => (simp only [List.getElem?_toArray, List.getElem?_cons_succ, List.getElem?_cons_zero]; rfl)
                  case xhQ16 => exact fun _ _ _ h => h
                  case xhy16 => first | (refine Or.inr ⟨by rfl, ?_⟩; rfl) | (refine Or.inl ⟨by rfl, ?_⟩; intro w hSw; (try dsimp only at hSw); go_simp; (try with_reducible rfl))
                  try simp only [Act.put, List.setIfInBounds_toArray, List.set_cons_zero, List.set_cons_succ]
                  refine wpAnyH_take (i := 17) (oi := ?xoi17) (v := ?xv17) ?xhi17 (by kernel_rfl) (by kernel_rfl) (by kernel_rfl) ?xhQ17 ?xhy17 (by assumption) ?xrest17
                  case xhi17 => (simp only [List.getElem?_toArray, List.getElem?_cons_succ, List.getElem?_cons_zero]; rfl)
                  case xhQ17 => exact fun _ _ _ h => h
                  case xhy17 => first | (refine Or.inr ⟨by rfl, ?_⟩; rfl) | (refine Or.inl ⟨by rfl, ?_⟩; intro w hSw; (try dsimp only at hSw); go_simp; (try with_reducible rfl))
                  try simp only [Act.put, List.setIfInBounds_toArray, List.set_cons_zero, List.set_cons_succ]
                  refine wpAnyH_take (i := 18) (oi := ?xoi18) (v := ?xv18) ?xhi18 (by kernel_rfl) (by kernel_rfl) (by kernel_rfl) ?xhQ18 ?xhy18 (by assumption) ?xrest18
                  case xhi18 => (simp only [List.getElem?_toArray, List.getElem?_cons_succ, List.getElem?_cons_zero]; rfl)
                  case xhQ18 => exact fun _ _ _ h => h
                  case xhy18 => first | (refine Or.inr ⟨by rfl, ?_⟩; rfl) | (refine Or.inl ⟨by rfl, ?_⟩; intro w hSw; (try dsimp only at hSw); go_simp; (try with_reducible rfl))
                  try simp only [Act.put, List.setIfInBounds_toArray, List.set_cons_zero, List.set_cons_succ]
                  refine wpAnyH_take (i := 19) (oi := ?xoi19) (v := ?xv19) ?xhi19 (by kernel_rfl) (by kernel_rfl) (by kernel_rfl) ?xhQ19 ?xhy19 (by assumption) ?xrest19
                  case xhi19 => (simp only [List.getElem?_toArray, List.getElem?_cons_succ, List.getElem?_cons_zero]; rfl)
                  case xhQ19 => exact fun _ _ _ h => h
                  case xhy19 => first | (refine Or.inr ⟨by rfl, ?_⟩; rfl) | (refine Or.inl ⟨by rfl, ?_⟩; intro w hSw; (try dsimp only at hSw); go_simp; (try with_reducible rfl))
                  try simp only [Act.put, List.setIfInBounds_toArray, List.set_cons_zero, List.set_cons_succ]
                  refine wpAnyH_take (i := 20) (oi := ?xoi20) (v := ?xv20) ?xhi20 (by kernel_rfl) (by kernel_rfl) (by kernel_rfl) ?xhQ20 ?xhy20 (by assumption) ?xrest20
                  case xhi20 => (simp only [List.getElem?_toArray, List.getElem?_cons_succ, List.getElem?_cons_zero]; rfl)
                  case xhQ20 => exact fun _ _ _ h => h
                  case xhy20 => first | (refine Or.inr ⟨by rfl, ?_⟩; rfl) | (refine Or.inl ⟨by rfl, ?_⟩; intro w hSw; (try dsimp only at hSw); go_simp; (try with_reducible rfl))
                  try simp only [Act.put, List.setIfInBounds_toArray, List.set_cons_zero, List.set_cons_succ]
                  refine wpAnyH_take (i := 21) (oi := ?xoi21) (v := ?xv21) ?xhi21 (by kernel_rfl) (by kernel_rfl) (by kernel_rfl) ?xhQ21 ?xhy21 (by assumption) ?xrest21
                  case xhi21 => (simp only [List.getElem?_toArray, List.getElem?_cons_succ, List.getElem?_cons_zero]; rfl)
                  case xhQ21 => exact fun _ _ _ h => h
                  case xhy21 => first | (refine Or.inr ⟨by rfl, ?_⟩; rfl) | (refine Or.inl ⟨by rfl, ?_⟩; intro w hSw; (try dsimp only at hSw); go_simp; (try with_reducible rfl))
                  try simp only [Act.put, List.setIfInBounds_toArray, List.set_cons_zero, List.set_cons_succ]
                  refine wpAnyH_take (i := 22) (oi := ?xoi22) (v := ?xv22) ?xhi22 (by kernel_rfl) (by kernel_rfl) (by kernel_rfl) ?xhQ22 ?xhy22 (by assumption) ?xrest22
                  case xhi22 => (simp only [List.getElem?_toArray, List.getElem?_cons_succ, List.getElem?_cons_zero]; rfl)
                  case xhQ22 => exact fun _ _ _ h => h
                  case xhy22 => first | (refine Or.inr ⟨by rfl, ?_⟩; rfl) | (refine Or.inl ⟨by rfl, ?_⟩; intro w hSw; (try dsimp only at hSw); go_simp; (try with_reducible rfl))
                  try simp only [Act.put, List.setIfInBounds_toArray, List.set_cons_zero, List.set_cons_succ]
                  refine wpAnyH_take (i := 23) (oi := ?xoi23) (v := ?xv23) ?xhi23 (by kernel_rfl) (by kernel_rfl) (by kernel_rfl) ?xhQ23 ?xhy23 (by assumption) ?xrest23
                  case xhi23 => (simp only [List.getElem?_toArray, List.getElem?_cons_succ, List.getElem?_cons_zero]; rfl)
                  case xhQ23 => exact fun _ _ _ h => h
                  case xhy23 => first | (refine Or.inr ⟨by rfl, ?_⟩; rfl) | (refine Or.inl ⟨by rfl, ?_⟩; intro w hSw; (try dsimp only at hSw); go_simp; (try with_reducible rfl))
                  try simp only [Act.put, List.setIfInBounds_toArray, List.set_cons_zero, List.set_cons_succ]
                  refine wpAnyH_take (i := 24) (oi := ?xoi24) (v := ?xv24) ?xhi24 (by kernel_rfl) (by kernel_rfl) (by kernel_rfl) ?xhQ24 ?xhy24 (by assumption) ?xrest24
                  case xhi24 => (simp only [List.getElem?_toArray, List.getElem?_cons_succ, List.getElem?_cons_zero]; rfl)
                  case xhQ24 => exact fun _ _ _ h => h
                  case xhy24 => first | (refine Or.inr ⟨by rfl, ?_⟩; rfl) | (refine Or.inl ⟨by rfl, ?_⟩; intro w hSw; (try dsimp only at hSw); go_simp; (try with_reducible rfl))
                  try simp only [Act.put, List.setIfInBounds_toArray, List.set_cons_zero, List.set_cons_succ]
                  refine wpAnyH_take (i := 25) (oi := ?xoi25) (v := ?xv25) ?xhi25 (by kernel_rfl) (by kernel_rfl) (by kernel_rfl) ?xhQ25 ?xhy25 (by assumption) ?xrest25
                  case xhi25 => (simp only [List.getElem?_toArray, List.getElem?_cons_succ, List.getElem?_cons_zero]; rfl)
                  case xhQ25 => exact fun _ _ _ h => h
                  case xhy25 => first | (refine Or.inr ⟨by rfl, ?_⟩; rfl) | (refine Or.inl ⟨by rfl, ?_⟩; intro w hSw; (try dsimp only at hSw); go_simp; (try with_reducible rfl))
                  try simp only [Act.put, List.setIfInBounds_toArray, List.set_cons_zero, List.set_cons_succ]
                  refine wpAnyH_take (i := 26) (oi := ?xoi26) (v := ?xv26) ?xhi26 (by kernel_rfl) (by kernel_rfl) (by kernel_rfl) ?xhQ26 ?xhy26 (by assumption) ?xrest26
                  case xhi26 => (simp only [List.getElem?_toArray, List.getElem?_cons_succ, List.getElem?_cons_zero]; rfl)
                  case xhQ26 => exact fun _ _ _ h => h
                  case xhy26 => first | (refine Or.inr ⟨by rfl, ?_⟩; rfl) | (refine Or.inl ⟨by rfl, ?_⟩; intro w hSw; (try dsimp only at hSw); go_simp; (try with_reducible rfl))
                  try simp only [Act.put, List.setIfInBounds_toArray, List.set_cons_zero, List.set_cons_succ]
                  refine wpAnyH_take (i := 27) (oi := ?xoi27) (v := ?xv27) ?xhi27 (by kernel_rfl) (by kernel_rfl) (by kernel_rfl) ?xhQ27 ?xhy27 (by assumption) ?xrest27
                  case xhi27 => (simp only [List.getElem?_toArray, List.getElem?_cons_succ, List.getElem?_cons_zero]; rfl)
                  case xhQ27 => exact fun _ _ _ h => h
                  case xhy27 => first | (refine Or.inr ⟨by rfl, ?_⟩; rfl) | (refine Or.inl ⟨by rfl, ?_⟩; intro w hSw; (try dsimp only at hSw); go_simp; (try with_reducible rfl))
                  try simp only [Act.put, List.setIfInBounds_toArray, List.set_cons_zero, List.set_cons_succ]
                  refine wpAnyH_take (i := 28) (oi := ?xoi28) (v := ?xv28) ?xhi28 (by kernel_rfl) (by kernel_rfl) (by kernel_rfl) ?xhQ28 ?xhy28 (by assumption) ?xrest28
                  case xhi28 => (simp only [List.getElem?_toArray, List.getElem?_cons_succ, List.getElem?_cons_zero]; rfl)
                  case xhQ28 => exact fun _ _ _ h => h
                  case xhy28 => first | (refine Or.inr ⟨by rfl, ?_⟩; rfl) | (refine Or.inl ⟨by rfl, ?_⟩; intro w hSw; (try dsimp only at hSw); go_simp; (try with_reducible rfl))
                  try simp only [Act.put, List.setIfInBounds_toArray, List.set_cons_zero, List.set_cons_succ]
                  refine wpAnyH_take (i := 29) (oi := ?xoi29) (v := ?xv29) ?xhi29 (by kernel_rfl) (by kernel_rfl) (by kernel_rfl) ?xhQ29 ?xhy29 (by assumption) ?xrest29
                  case xhi29 => (simp only [List.getElem?_toArray, List.getElem?_cons_succ, List.getElem?_cons_zero]; rfl)
                  case xhQ29 => exact fun _ _ _ h => h
                  case xhy29 => first | (refine Or.inr ⟨by rfl, ?_⟩; rfl) | (refine Or.inl ⟨by rfl, ?_⟩; intro w hSw; (try dsimp only at hSw); go_simp; (try with_reducible rfl))
                  try simp only [Act.put, List.setIfInBounds_toArray, List.set_cons_zero, List.set_cons_succ]
                  refine wpAnyH_take (i := 30) (oi := ?xoi30) (v := ?xv30) ?xhi30 (by kernel_rfl) (by kernel_rfl) (by kernel_rfl) ?xhQ30 ?xhy30 (by assumption) ?xrest30
                  case xhi30 => (simp only [List.getElem?_toArray, List.getElem?_cons_succ, List.getElem?_cons_zero]; rfl)
                  case xhQ30 => exact fun _ _ _ h => h
                  case xhy30 => first | (refine Or.inr ⟨by rfl, ?_⟩; rfl) | (refine Or.inl ⟨by rfl, ?_⟩; intro w hSw; (try dsimp only at hSw); go_simp; (try with_reducible rfl))
                  try simp only [Act.put, List.setIfInBounds_toArray, List.set_cons_zero, List.set_cons_succ]
                  refine wpAnyH_take (i := 31) (oi := ?xoi31) (v := ?xv31) ?xhi31 (by kernel_rfl) (by kernel_rfl) (by kernel_rfl) ?xhQ31 ?xhy31 (by assumption) ?xrest31
                  case xhi31 => (simp only [List.getElem?_toArray, List.getElem?_cons_succ, List.getElem?_cons_zero]; rfl)
                  case xhQ31 => exact fun _ _ _ h => h
                  case xhy31 => first | (refine Or.inr ⟨by rfl, ?_⟩; rfl) | (refine Or.inl ⟨by rfl, ?_⟩; intro w hSw; (try dsimp only at hSw); go_simp; (try with_reducible rfl))
                  try simp only [Act.put, List.setIfInBounds_toArray, List.set_cons_zero, List.set_cons_succ]
                  refine wpAnyH_take (i := 32) (oi := ?xoi32) (v := ?xv32) ?xhi32 (by kernel_rfl) (by kernel_rfl) (by kernel_rfl) ?xhQ32 ?xhy32 (by assumption) ?xrest32
                  case xhi32 => (simp only [List.getElem?_toArray, List.getElem?_cons_succ, List.getElem?_cons_zero]; rfl)
                  case xhQ32 => exact fun _ _ _ h => h
                  case xhy32 => first | (refine Or.inr ⟨by rfl, ?_⟩; rfl) | (refine Or.inl ⟨by rfl, ?_⟩; intro w hSw; (try dsimp only at hSw); go_simp; (try with_reducible rfl))
                  try simp only [Act.put, List.setIfInBounds_toArray, List.set_cons_zero, List.set_cons_succ]
                  refine wpAnyH_take (i := 33) (oi := ?xoi33) (v := ?xv33) ?xhi33 (by kernel_rfl) (by kernel_rfl) (by kernel_rfl) ?xhQ33 ?xhy33 (by assumption) ?xrest33
                  case xhi33 => (simp only [List.getElem?_toArray, List.getElem?_cons_succ, List.getElem?_cons_zero]; rfl)
                  case xhQ33 => exact fun _ _ _ h => h
                  case xhy33 => first | (refine Or.inr ⟨by rfl, ?_⟩; rfl) | (refine Or.inl ⟨by rfl, ?_⟩; intro w hSw; (try dsimp only at hSw); go_simp; (try with_reducible rfl))
                  try simp only [Act.put, List.setIfInBounds_toArray, List.set_cons_zero, List.set_cons_succ]
                  refine wpAnyH_take (i := 34) (oi := ?xoi34) (v := ?xv34) ?xhi34 (by kernel_rfl) (by kernel_rfl) (by kernel_rfl) ?xhQ34 ?xhy34 (by assumption) ?xrest34
                  case xhi34 => (simp only [List.getElem?_toArray, List.getElem?_cons_succ, List.getElem?_cons_zero]; rfl)
                  case xhQ34 => exact fun _ _ _ h => h
                  case xhy34 => first | (refine Or.inr ⟨by rfl, ?_⟩; rfl) | (refine Or.inl ⟨by rfl, ?_⟩; intro w hSw; (try dsimp only at hSw); go_simp; (try with_reducible rfl))
                  try simp only [Act.put, List.setIfInBounds_toArray, List.set_cons_zero, List.set_cons_succ]
                  refine wpAnyH_take (i := 35) (oi := ?xoi35) (v := ?xv35) ?xhi35 (by kernel_rfl) (by kernel_rfl) (by kernel_rfl) ?xhQ35 ?xhy35 (by assumption) ?xrest35
                  case xhi35 => (simp only [List.getElem?_toArray, List.getElem?_cons_succ, List.getElem?_cons_zero]; rfl)
                  case xhQ35 => exact fun _ _ _ h => h
                  case xhy35 => first | (refine Or.inr ⟨by rfl, ?_⟩; rfl) | (refine Or.inl ⟨by rfl, ?_⟩; intro w hSw; (try dsimp only at hSw); go_simp; (try with_reducible rfl))
                  try simp only [Act.put, List.setIfInBounds_toArray, List.set_cons_zero, List.set_cons_succ]
                  refine wpAnyH_take (i := 36) (oi := ?xoi36) (v := ?xv36) ?xhi36 (by kernel_rfl) (by kernel_rfl) (by kernel_rfl) ?xhQ36 ?xhy36 (by assumption) ?xrest36
                  case xhi36 => (simp only [List.getElem?_toArray, List.getElem?_cons_succ, List.getElem?_cons_zero]; rfl)
                  case xhQ36 => exact fun _ _ _ h => h
                  case xhy36 => first | (refine Or.inr ⟨by rfl, ?_⟩; rfl) | (refine Or.inl ⟨by rfl, ?_⟩; intro w hSw; (try dsimp only at hSw); go_simp; (try with_reducible rfl))
                  try simp only [Act.put, List.setIfInBounds_toArray, List.set_cons_zero, List.set_cons_succ]
                  refine wpAnyH_done (by kernel_rfl) ?_ _
                  have HRe := Lib.hid ho5
                  have HMe := Lib.hid (HMj.out.look hk5.of_drew)
                  clear ho5 hk5
                  go_wp2_with fail
                  go_roundw
                  case rel => exact ⟨0 + 1, by omega, by go_num, HRe.out, HMe.out⟩
                  case measure => simp [intOf]; omega
                · obtain ⟨m, rfl⟩ : ∃ m, k = m + 1 := ⟨k - 1, by omega⟩
                  have hm0 : m < (mayL S.l).length := by omega
                  obtain ⟨v2, hv2l, hv2, -⟩ := may_at hm0
                  have hri := may_rise (Nat.lt_succ_self m) hlt3
                  rw [hv, hv2] at hri
                  obtain ⟨am2, off2, he2, -, ck2⟩ := HMj.out.cells.2.at (i := m) (v := .int .i64 v2) (by rw [List.getElem?_map, List.getElem?_eq_getElem hm0, hv2]; rfl)
                  have he3 : am = am2 ∧ off = off2 := by simpa using he2
                  obtain ⟨rfl, rfl⟩ := he3
                  have i2 : decide ((v : Int) ≤ (v2 : Int)) = false := by simp; omega
                  have i3 : decide ((0 : Int) < (m : Int) + 1) = true := decide_eq_true (by omega)
                  have i6 : (0 : Int) ≤ (m : Int) + 1 := by omega
                  have i7 : (m : Int) + 1 < ((mayL S.l).length : Int) := by omega
                  have e1 : IntKind.i64.wrap ((m : Int) + 1 - 1) = (m : Int) := by rw [IntKind.wrap_i64]; omega
                  have e2 : IntKind.i64.wrap (m : Int) = (m : Int) := by rw [IntKind.wrap_i64]; omega
                  have i4 : (m : Int) < ((mayL S.l).length : Int) := by omega
                  have i5 : (0 : Int) ≤ (m : Int) := by omega
                  clear hx hv hvr he2 hv2 hri hvl hv2l
                  generalize (v : Int) = V at ck HX i0 i1 i2
                  generalize (v2 : Int) = V2 at ck2 i2
                  go_wp2_with fail
                  go_region_held3 (fun w' => w'.cell? ⟨am, off + (m + 1), none⟩ = some (.int .i64 V) ∧ w'.cell? ⟨am, off + m, none⟩ = some (.int .i64 V2)) (first | go_keep | exact ⟨d2, d3⟩)
                    ((go_at_call 13; refine (own_rests HRd V false HX.out).mono ?_; rintro e w5 ⟨rfl, ho5, hk5⟩; have d2 := hk5.cell (show wr.drew.cell? _ = _ from ck) id; have d3 := hk5.cell (show wr.drew.cell? _ = _ from ck2) id))
                  have HRe := Lib.hid ho5
                  have HMe := Lib.hid (HMj.out.look hk5.of_drew)
                  clear ho5 hk5
                  go_wp2_with fail
                  go_roundw
                  case rel => exact ⟨m + 1 + 1, by omega, by go_num, HRe.out, HMe.out⟩
                  case measure => simp [intOf]; omega
              · go_wp2_with fail
                go_roundw
                case rel => exact .inr ⟨j, hjl, by rw [HJ.out]; go_num, by rw [← HS.out]; exact HRj.out⟩
                case measure => simp [intOf]; omega
      · obtain rfl : k = l.length := by omega
        go_wp2_with fail
        go_ret
        exact ⟨rfl, HR0.out.kp⟩
end Go.Proofs.Ytcdoefpfgkhokaa
