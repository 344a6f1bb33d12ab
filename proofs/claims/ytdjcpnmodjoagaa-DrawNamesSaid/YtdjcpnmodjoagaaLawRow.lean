/- DrawRow, walked. -/
import Derived.Test.YtdjcpnmodjoagaaLawTape
import Derived.Test.YtdjcpnmodjoagaaShufPlain
namespace Go.Proofs.Ytdjcpnmodjoagaa
open Go.RowKit

/-- The row of 256 bools says which numbers have been seen. -/
def Seen (w : World) (g : Nat) (l : List Int) : Prop := ∀ v : Nat, v < 256 → w.cell? ⟨g, v, none⟩ = some (.bool (decide ((v : Int) ∈ l))) ∧ w.frozen? ⟨g, v, none⟩ = false
theorem seen_start {w : World} {z : Array Value} {t : TypeId} (h : ∀ i, i < 256 → z[i]? = some (.bool false)) : Seen (w.alloc (.cells z t)) w.heap.size [] := fun v hv => by
  have hb := new_blk w (.cells z t (0, 0))
  exact ⟨by rw [cell_blk hb, h v hv]; simp, free_blk hb v⟩
theorem seen_set {w : World} {g q : Nat} {l : List Int} (h : Seen w g l) : Seen (w.setCell ⟨g, q, none⟩ (.bool true)) g (l ++ [(q : Int)]) := fun v hv => by
  obtain ⟨h1, h2⟩ := h v hv
  refine ⟨?_, by rw [World.frozen?_setCell]; exact h2⟩
  by_cases hvq : v = q
  · subst hvq
    rw [World.cell?_setCell_same _ _ _ h1]; simp
  · rw [World.cell?_setCell_other _ _ _ _ (fun e => hvq (by injection e with _ e _; exact e.symm)), h1]
    simp only [List.mem_append, List.mem_singleton, Int.natCast_inj, hvq, or_false]

theorem rowU_of_owns' {w : World} {base n : Nat} {v : Value} {l : List Int} (h : w.ownsRow base 22 1 v n (l.map (Value.int .u64))) : ∃ ao cap, v = .slice ao n cap ∧ RowU w ao l cap (base ≤ ·) := by
  rcases h.2 with ⟨rfl, rfl⟩ | ⟨g, cap, cur, rfl, _⟩
  · exact ⟨_, _, rfl, (rowU_of_owns h (fun _ h => h)).2⟩
  · exact ⟨_, _, rfl, (rowU_of_owns h (fun _ h => h)).2⟩

theorem new_len (seed : Int) (ao : Option Addr) (l : List Int) (n cap : Nat) (hn : l.length = n) (P : Nat → Prop) (L : List Nat) (w : World) (hL : ∀ k ∈ L, k < w.heap.size) (hr : RowU w ao l cap P) (hok : U64 seed ∧ ∀ x ∈ l, U64 x) (hl : l.length ≤ 10000000000000) :
    Calls Try.prog 10 #[.int .u64 seed, .slice ao n cap] w fun e w' =>
      ∃ b, e = .returned (.pointer (some ⟨b, 0, none⟩)) ∧ w.heap.size ≤ b ∧ Tape w' b ⟨seed, l, 0⟩ (b :: L) ∧ Kept (fun _ => False) w w' := by
  subst hn
  exact new_any seed ao l cap P L w hL hr hok hl

set_option maxRecDepth 100000 in
set_option maxHeartbeats 1000000 in
theorem drawRow_walk (w : World) (seed : Int) (hsd : (Lit.int .u64 seed).wf = true) (a : Option Addr) (len cap : Nat) (zs : List Int) (hrow : IsRow .u64 w a len cap zs) (n : Int) (_hn : (Lit.int .i64 n).wf = true) :
    Calls Try.prog 5 #[.int .u64 seed, .slice a len cap, .int .i64 n] w fun e w' => e = .returned (.bool true) ∧ Kept (fun _ => False) w w' := by
  obtain ⟨l, rfl, hr, hl⟩ := rowU_of_isRow hrow
  have hs := u64_of_wf hsd
  have HR := Lib.hid hr
  have HL := Lib.hid hl
  clear hrow hr hl hsd
  by_cases hlen : 2000 < l.length
  · have hb : decide (2000 < (l.length : Int)) = true := by simp; omega
    clear hlen
    go_enter Try.func5, Try.ntmps5
    go_wp2_with fail
    refine (awake_any _).mono ?_
    rintro e w1 ⟨rfl, hk⟩
    go_wp2_with fail
    go_ret
    exact ⟨rfl, hk⟩
  · have hb : decide (2000 < (l.length : Int)) = false := by simp; omega
    obtain ⟨zrow, hzs, hzr⟩ : ∃ zrow : Array Value, (∀ i, i < 256 → zrow[i]? = some (.bool false)) ∧ ∀ w, (zeroValue 34).run Try.prog w = .ok (.agg zrow) w :=
      ⟨Array.replicate 256 (.bool false), fun i hi => by simp [hi], fun _ => by kernel_rfl⟩
    have HZ := Lib.hid hzs
    clear hzs
    have g0 : 0 ≤ IntKind.u64.wrap n := (u64_wrap n).1
    have g1 : IntKind.u64.wrap n ≤ 18446744073709551615 := (u64_wrap n).2
    go_enter Try.func5, Try.ntmps5
    go_wp2_with fail
    refine (awake_any _).mono ?_
    rintro e w1 ⟨rfl, hk1⟩
    have K1 := Lib.hid hk1
    clear hk1
    go_wp2_with fail
    obtain ⟨m, hm, hm1, hm2⟩ : ∃ m : Nat, 1 + IntKind.u64.wrap n % 256 = (m : Int) ∧ 1 ≤ m ∧ m ≤ 256 := ⟨(1 + IntKind.u64.wrap n % 256).toNat, by omega, by omega, by omega⟩
    rw [hm]
    clear hm g0 g1
    have hr1 := HR.out.kept K1.out (fun _ _ _ => id)
    refine (new_any seed a l cap (fun _ => True) [] w1 (by simp) hr1 ⟨hs, HL.out⟩ (by omega)).mono ?_
    rintro e w2 ⟨x, rfl, hx, h1, hk2⟩
    have K2 := Lib.hid (K1.out.trans hk2)
    have T1 := Lib.hid h1
    have hwx : w.heap.size ≤ x := by have := K1.out.size; omega
    clear h1 hk2 hr1 hx
    go_wp2_with fail
    refine (shuffle_any x m hm1 hm2 _ [x] w2 T1.out (by simpa using T1.out.lt) (by simp only; omega)).mono ?_
    rintro e w3 ⟨rfl, hb3, ht3, hk3⟩
    have law := shuffleL_law m ⟨seed, l, 0⟩
    have hus := law.2.2.2
    generalize hsl : shuffleL m ⟨seed, l, 0⟩ = sl at *
    obtain ⟨row, st⟩ := sl
    simp only at law hb3 ht3 hus
    have hu3 : st.used = m - 1 := by rw [hus, TapeS.after'_used]; simp
    have B3 := Lib.hid hb3
    have U3 := used_any x st _ w3 ht3
    rw [hu3] at U3
    have V3 := Lib.hid U3
    have K3 := Lib.hid (K2.out.new hk3 hwx)
    have hsz3 := hb3.lt
    have hle2 := Lib.hid K2.out.size
    have LAW := Lib.hid law
    have c1 : ((m : Int) != m) = false := by simp
    have c2 : (((m - 1 : Nat) : Int) != (m : Int) - 1) = false := by simp; omega
    clear hsl hb3 ht3 hus hu3 U3 hk3 law
    go_wp2_with fail
    refine V3.out.mono ?_
    rintro e w4 ⟨rfl, rfl⟩
    clear V3
    go_wp2_with fail
    clear hzr
    have hseen := seen_start (w := w3) (t := 34) HZ.out
    have hb3 := B3.out.alloc (.cells zrow 34)
    have hk4 := K3.out.alloc (.cells zrow 34)
    generalize hw4 : w3.alloc (.cells zrow 34) = w4 at *
    obtain ⟨g, hg⟩ : ∃ g, g = w3.heap.size := ⟨_, rfl⟩
    rw [← hg] at hseen ⊢
    have hgl : w2.heap.size < g := by omega
    have SE := Lib.hid hseen
    have B4 := Lib.hid hb3
    have K4 := Lib.hid hk4
    clear hw4 hseen hb3 hk4 B3 K3 HZ hg hsz3
    go_loopw [10] (fun c wr => ∃ k : Nat, k ≤ m ∧ c = .int .i64 k ∧ Seen wr g (row.take k) ∧ Blk wr w2.heap.size 3 (row.map (.int .i64)) ∧ Kept (fun _ => False) w wr) (fun c _ => m - (intOf c).toNat)
    case atStart => exact ⟨0, by omega, rfl, by simpa using SE.out, B4.out, K4.out⟩
    case round =>
      obtain ⟨k, hk, rfl, hse, hbk, hkr⟩ := hrel
      have KR := Lib.hid hkr
      have SR := Lib.hid hse
      have BR := Lib.hid hbk
      clear hkr hse hbk SE B4 K4
      by_cases hlt : k < m
      · have hrl : k < row.length := by rw [LAW.out.1]; exact hlt
        obtain ⟨q, hq⟩ := Int.eq_ofNat_of_zero_le (LAW.out.2.2.1 row[k] (List.getElem_mem _)).1
        have hqm : q < m := by have := (LAW.out.2.2.1 row[k] (List.getElem_mem _)).2; omega
        have ck := BR.out.cell k
        rw [List.getElem?_map, List.getElem?_eq_getElem hrl, Option.map_some, hq] at ck
        have hnot : (q : Int) ∉ row.take k := by
          intro hm
          obtain ⟨j, hj, hjq⟩ := List.getElem_of_mem hm
          simp only [List.length_take] at hj
          rw [List.getElem_take] at hjq
          have := LAW.out.2.1 j k (by omega) hrl (by rw [hjq, hq])
          omega
        obtain ⟨cs, fs⟩ := SR.out q (by omega)
        rw [decide_eq_false hnot] at cs
        have TK := Lib.hid (show row.take (k + 1) = row.take k ++ [(q : Int)] by rw [List.take_succ_eq_append_getElem hrl, hq])
        clear hq hnot hrl
        go_wp2_with fail
        go_roundw
        case rel => exact ⟨k + 1, by omega, by go_num, by rw [TK.out]; exact seen_set SR.out, BR.out.setOther _ _ (Nat.ne_of_gt hgl), KR.out.fresh (by have := hle2.out; omega) _ _⟩
        case measure => simp [intOf]; omega
      · obtain rfl : k = m := by omega
        clear hlt hk
        go_wp2_with fail
        obtain ⟨i0, hi, hz0, hz1, hz2⟩ := info_parts info_u64
        have hin : (k : Int) - 1 = ((k - 1 : Nat) : Int) := by omega
        have Hin := Lib.hid hin
        clear hin SR BR LAW K1 K2 T1
        go_loopw [11, 12] (fun v c wr => ∃ (i : Nat) (ps : List Int), c = .int .i64 i ∧ i ≤ k - 1 ∧ ps ++ downL i = downL (k - 1) ∧ ps.length + i = k - 1 ∧ wr.ownsRow w.heap.size 22 1 v ps.length (ps.map (.int .u64)) ∧ Kept (fun _ => False) w wr) (fun _ c _ => (intOf c).toNat)
        case atStart => exact ⟨k - 1, [], by rw [Hin.out], by omega, rfl, by simp, World.ownsRow_nil _ _ _ _, KR.out⟩
        case round =>
          obtain ⟨i, ps, rfl, hik, hps, hpl, hown, hkr⟩ := hrel
          have hsz := hkr.size
          have KR2 := Lib.hid hkr
          have HP := Lib.hid hps
          clear hkr hps KR Hin
          by_cases h0 : 0 < i
          · have HO := Lib.hid hown
            clear hown
            go_wp2_with (at_builtin; go_must (refine wpList_push rfl (.tmp 83) (.tmp 86) 28 rfl w.heap.size 22 i0 (.int .u64 0) 1 8 Try.underlying28 hi hz0 hz1 hz2 rfl (by decide) _ _ _ [.int .u64 i] rfl HO.out rfl rfl (by simp [Value.oneCell']) (by omega) (by decide) hsz ?_); intro v' w' ho' hg' hv')
            have HO2 := Lib.hid ho'
            have HG2 := Lib.hid hg'
            clear ho' hg' hv'
            go_wp2_with fail
            go_roundw
            case rel => exact ⟨i - 1, ps ++ [(i : Int)], by go_num, by omega, by rw [List.append_assoc, List.singleton_append, downL_pos i h0]; exact HP.out, by simp; omega, by have := HO2.out; simpa using this, KR2.out.pushed HO.out HG2.out (Nat.le_refl _)⟩
            case measure => simp [intOf]; omega
          · obtain rfl : i = 0 := by omega
            have hps : ps = downL (k - 1) := by have := HP.out; simpa [downL] using this
            obtain ⟨ao, cp, rfl, hr⟩ := rowU_of_owns' hown
            have HR2 := Lib.hid hr
            subst hps
            clear hown HP hr hpl hik
            go_wp2_with fail
            refine (new_any seed ao (downL (k - 1)) cp (fun b => w.heap.size ≤ b) [] wr (by simp) HR2.out ⟨hs, downL_u64 (k - 1) (by omega)⟩ (by rw [downL_length]; omega)).mono ?_
            rintro e w5 ⟨z1, rfl, hz, ht5, hk5⟩
            have T5 := Lib.hid ht5
            have K5 := Lib.hid (KR2.out.trans hk5)
            have hwz : w.heap.size ≤ z1 := by omega
            clear ht5 hk5 hz KR2 HR2
            go_wp2_with fail
            refine (shuffle_any z1 k hm1 hm2 _ [z1] w5 T5.out (by simpa using T5.out.lt) (by simp only; omega)).mono ?_
            rintro e w6 ⟨rfl, hb6, ht6, hk6⟩
            rw [shuffle_down] at hb6
            have B6 := Lib.hid hb6
            have K6 := Lib.hid (K5.out.new hk6 hwz)
            have hle5 := K5.out.size
            have hlt6 := hb6.lt
            clear hb6 ht6 hk6 T5 K5
            go_wp2_with (at_make; go_must (refine wpList_make_blk rfl _ _ _ rfl 22 i0 (.int .u64 0) 8 Try.underlying28 hi hz0 hz1 hz2 rfl k rfl rfl (by omega) (by omega) ?_); intro w7 hb hk7 hsz7)
            clear hi hz0 hz1 hz2
            have B7 := Lib.hid hb
            have C6 := Lib.hid (B6.out.kept hk7 id)
            have K7 := Lib.hid (K6.out.trans hk7)
            clear hb hk7 B6 K6
            refine (new_len seed _ (List.replicate k 0) k k (by simp) (fun _ => True) [] w7 (by simp) (RowU.of_blk (by rw [List.map_replicate]; exact B7.out) trivial (by simp) (by unfold maxLen; omega)) ⟨hs, by intro x hx; rw [List.eq_of_mem_replicate hx]; exact ⟨by decide, by decide⟩⟩ (by simp; omega)).mono ?_
            rintro e w8 ⟨z2, rfl, hz, ht8, hk8⟩
            have T8 := Lib.hid ht8
            have K8 := Lib.hid (K7.out.trans hk8)
            have C8 := Lib.hid (C6.out.kept hk8 id)
            have hw7 := K7.out.size
            have hwz2 : w.heap.size ≤ z2 := by omega
            have hne2 : z2 ≠ w5.heap.size := by omega
            clear ht8 hk8 hz K7 C6 B7
            go_wp2_with fail
            refine (shuffle_any z2 k hm1 hm2 _ [z2] w8 T8.out (by simpa using T8.out.lt) (by simp only; omega)).mono ?_
            rintro e w9 ⟨rfl, hb9, ht9, hk9⟩
            rw [shuffle_round k hm1] at hb9
            have B9 := Lib.hid hb9
            have K9 := Lib.hid (K8.out.new hk9 hwz2)
            have C9 := Lib.hid (C8.out.kept hk9 (fun e => hne2 e.symm))
            clear hb9 ht9 hk9 T8 K8 C8
            go_wp2_with fail
            go_loopw [15] (fun c wr => ∃ j : Nat, j ≤ k ∧ c = .int .i64 j ∧ Kept (fun _ => False) w9 wr) (fun c _ => k - (intOf c).toNat)
            case atStart => exact ⟨0, by omega, rfl, Kept.refl _⟩
            case round =>
              obtain ⟨j, hj, rfl, hkr⟩ := hrel
              have KR := Lib.hid hkr
              by_cases hlt : j < k
              · have d1 := (C9.out.kept hkr id).cell j
                have d2 := (B9.out.kept hkr id).cell j
                rw [List.getElem?_map, List.getElem?_eq_getElem (by rw [uptoL_length]; exact hlt), Option.map_some, uptoL_get k j hlt] at d1
                rw [List.getElem?_map, List.getElem?_eq_getElem (by rw [rndL_length]; exact hlt), Option.map_some, rndL_zero k j hlt] at d2
                have e1 : ((j : Int) != (j : Int)) = false := by simp
                have e2 : ((((j : Int) + 1) % (k : Int)) != (((j : Int) + 1) % (k : Int))) = false := by simp
                clear hkr
                go_wp2_with fail
                go_quiet (fail)
                go_wp2_with fail
                go_roundw
                case rel => exact ⟨j + 1, by omega, by go_num, KR.out.drewN _⟩
                case measure => simp [intOf]; omega
              · obtain rfl : j = k := by omega
                clear hlt hj
                go_wp2_with fail
                go_ret
                exact ⟨rfl, K9.out.trans hkr⟩
end Go.Proofs.Ytdjcpnmodjoagaa
