/- DrawBelow, walked. -/
import Derived.Test.YtdjcpnmodjoagaaLawNames12
namespace Go.Proofs.Ytdjcpnmodjoagaa
open Go.RowKit

theorem i64_of_wf {n : Int} (h : (Lit.int .i64 n).wf = true) : -9223372036854775808 ≤ n ∧ n ≤ 9223372036854775807 := by
  simp only [Lit.wf, IntKind.min, IntKind.max, IntKind.signed, IntKind.bits, Bool.and_eq_true] at h
  simp at h
  omega

/-- A slice of int that came in. -/
theorem cells_of_isRow {k : IntKind} {w : World} {a : Option Addr} {len cap : Nat} {zs : List Int} (h : IsRow k w a len cap zs) :
    ∃ l : List Int, len = l.length ∧ l.length ≤ cap ∧ cap ≤ maxLen ∧ Cells w a (l.map (.int k)) (fun _ => True) ∧ ∀ x ∈ l, (Lit.int k x).wf = true := by
  rcases h with ⟨rfl, rfl, rfl, rfl⟩ | ⟨x, rfl, h1, h2, h3, h4, h5⟩
  · exact ⟨[], rfl, Nat.le_refl _, by unfold maxLen; omega, .inl rfl, by simp⟩
  · refine ⟨zs.take len, by simp; omega, by simp; omega, h2, ?_, fun y hy => h5 y (List.mem_of_mem_take hy)⟩
    by_cases hl : len = 0
    · left; subst hl; simp
    · right
      have h0 := h4 0 (by omega)
      obtain ⟨b, o, sp⟩ := x
      have hsp : sp = none := by
        cases sp with
        | none => rfl
        | some v => simp [Addr.add, World.cell?] at h0; split at h0 <;> simp at h0
      subst hsp
      refine ⟨b, o, rfl, trivial, fun i hi => ?_⟩
      simp at hi
      have := h4 i (by omega)
      rw [addr_add] at this
      rw [this]
      simp [show i < len by omega, show i < zs.length by omega]

set_option maxRecDepth 100000 in
set_option maxHeartbeats 1000000 in
theorem drawBelow_walk (w : World) (seed : Int) (hsd : (Lit.int .u64 seed).wf = true) (a : Option Addr) (len cap : Nat) (zs : List Int) (hrow : IsRow .u64 w a len cap zs) (a2 : Option Addr) (len2 cap2 : Nat) (zs2 : List Int) (hrow2 : IsRow .i64 w a2 len2 cap2 zs2) :
    Calls Try.prog 8 #[.int .u64 seed, .slice a len cap, .slice a2 len2 cap2] w fun e w' => e = .returned (.bool true) ∧ Kept (fun _ => False) w w' := by
  obtain ⟨l, rfl, hr, hl⟩ := rowU_of_isRow hrow
  obtain ⟨q, rfl, hq1, hq2, hqc, hqw⟩ := cells_of_isRow hrow2
  have hs := u64_of_wf hsd
  have HR := Lib.hid hr
  have HL := Lib.hid hl
  have HQ := Lib.hid hqc
  have HW := Lib.hid hqw
  clear hrow hr hl hsd hqc hqw hrow2 hq1 hq2
  by_cases hlen : 2000 < l.length ∨ 500 < q.length
  · have fin : ∀ w : World, ∀ K : Ending → World → Prop, (∀ w', Kept (fun _ => False) w w' → K (.returned (.bool true)) w') → Calls Try.prog 12 #[] w K := fun w K h => (awake_any w).mono (by rintro e w' ⟨rfl, hk⟩; exact h w' hk)
    have FIN := Lib.hid fin
    clear fin
    by_cases h1 : 2000 < l.length
    · have hb : decide (2000 < (l.length : Int)) = true := by simp; omega
      clear hlen h1
      go_enter Try.func8, Try.ntmps8
      go_wp2_with fail
      refine FIN.out _ _ (fun w' hk => ?_)
      go_wp2_with fail
      go_ret
      exact ⟨rfl, hk⟩
    · have hb : decide (2000 < (l.length : Int)) = false := by simp; omega
      have hb2 : decide (500 < (q.length : Int)) = true := by simp; omega
      clear hlen h1
      go_enter Try.func8, Try.ntmps8
      go_wp2_with fail
      refine FIN.out _ _ (fun w' hk => ?_)
      go_wp2_with fail
      go_ret
      exact ⟨rfl, hk⟩
  · have hb : decide (2000 < (l.length : Int)) = false := by simp; omega
    have hb2 : decide (500 < (q.length : Int)) = false := by simp; omega
    go_enter Try.func8, Try.ntmps8
    go_wp2_with fail
    refine (awake_any _).mono ?_
    rintro e w1 ⟨rfl, hk1⟩
    have K1 := Lib.hid hk1
    clear hk1
    go_wp2_with fail
    refine (new_any seed a l cap (fun _ => True) [] w1 (by simp) (HR.out.kept K1.out (fun _ _ _ => id)) ⟨hs, HL.out⟩ (by omega)).mono ?_
    rintro e w2 ⟨b, rfl, hx, h1, hk2⟩
    have hwb : w.heap.size ≤ b := by have := K1.out.size; omega
    have K2 := Lib.hid (K1.out.trans hk2)
    have T2 := Lib.hid h1
    clear h1 hk2 hx hs HR HL K1
    go_wp2_with fail
    go_loopw [8, 9, 10] (fun c _ _ wr => ∃ (k : Nat) (s : TapeS), k ≤ q.length ∧ c = .int .i64 k ∧ Tape wr b s [b] ∧ s.used ≤ k ∧ Kept (fun _ => False) w wr) (fun c _ _ _ => q.length - (intOf c).toNat)
    case atStart => exact ⟨0, _, by omega, rfl, T2.out, Nat.le_refl _, K2.out⟩
    case round =>
      obtain ⟨k, s, hk, rfl, ht, hu, hkr⟩ := hrel
      have KR := Lib.hid hkr
      have TR := Lib.hid ht
      clear hkr ht
      by_cases hlt : k < q.length
      · obtain ⟨b2, o2, rfl, _, hc0⟩ := HQ.out.at (i := k) (v := .int .i64 q[k]) (by simp [hlt])
        have hlb2 := World.block_lt_of_cell? _ _ hc0
        have cR := KR.out.cell hc0 id
        obtain ⟨n, hn⟩ : ∃ n, n = q[k] := ⟨_, rfl⟩
        rw [← hn] at cR
        have hnw := i64_of_wf (HW.out q[k] (List.getElem_mem _))
        rw [← hn] at hnw
        obtain ⟨hn1, hn2⟩ := hnw
        have hne : b ≠ wr.heap.size := by have := TR.out.lt; omega
        clear hn hc0
        go_wp2_with fail
        refine (copy_any b s [b] wr TR.out).mono ?_
        rintro e w3 ⟨rfl, htc, hk3, hsz3⟩
        have c3 := hk3.cell cR id
        have TC := Lib.hid htc
        have TB := Lib.hid ((TR.out.more [wr.heap.size, b] (by simp) (by simp)).kept hk3 id (fun _ _ h => h.elim))
        have K3 := Lib.hid (KR.out.trans hk3)
        have hL3 : ∀ i ∈ [wr.heap.size, b], i < w3.heap.size := by have := TC.out.lt; have := TB.out.lt; simp; omega
        have hwc := KR.out.size
        clear htc hk3 cR
        have ec : ((s.used : Int) != (s.used : Int)) = false := by simp
        by_cases h1 : n < 1
        · go_wp2_with fail
          refine (below_low b n h1 w3).mono ?_
          rintro e w' ⟨rfl, rfl⟩
          go_wp2_with fail
          refine (used_any b s _ w3 TB.out).mono ?_
          rintro e w' ⟨rfl, rfl⟩
          go_wp2_with fail
          refine (used_any _ s _ w3 TC.out).mono ?_
          rintro e w' ⟨rfl, rfl⟩
          go_wp2_with fail
          go_roundw
          case rel => exact ⟨k + 1, s, by omega, by go_num, TB.out.more [b] (by simp) (by simp), by omega, K3.out⟩
          case measure => simp [intOf]; omega
        · have hnpos : 1 ≤ n := by omega
          have hok := TapeS.ok_draw (s := s) (by obtain ⟨_, _, h, _⟩ := TB.out; exact h)
          obtain ⟨hd0, hd1⟩ := hok
          have hm0 : 0 ≤ s.draw % n := Int.emod_nonneg _ (by omega)
          have hm1 : s.draw % n < n := Int.emod_lt_of_pos _ (by omega)
          obtain ⟨d, hd⟩ : ∃ d, s.draw % n = d := ⟨_, rfl⟩
          rw [hd] at hm0 hm1
          have hd2 : d ≤ 9223372036854775807 := by omega
          have em : (d != d) = false := by simp
          have em0 : decide (d < 0) = false := by simp; omega
          have em1 : decide (n ≤ d) = false := by simp; omega
          have eu : ((s.next.used : Int) != (s.next.used : Int)) = false := by simp
          go_wp2_with fail
          refine (below_any b n hnpos hn2 s _ w3 TB.out hL3 (by omega)).mono ?_
          rintro e w4 ⟨rfl, htb, hk4⟩
          rw [hd]
          have hbb2 : ¬ b2 = b := by omega
          have c4 := hk4.cell c3 hbb2
          have TB4 := Lib.hid htb
          have TC4 := Lib.hid (TC.out.kept hk4 (fun e => hne e.symm) (fun i _ e => by rw [e]; simp))
          have hL4 : ∀ i ∈ [wr.heap.size, b], i < w4.heap.size := fun i hi => hk4.lt (hL3 i hi)
          have et : s.draw.tmod n = d := by rw [Int.tmod_eq_emod_of_nonneg hd0]; exact hd
          have K4 := Lib.hid (K3.out.new hk4 hwb)
          have hbc : ¬ b2 = wr.heap.size := by have := KR.out.size; omega
          clear htb hk4 TB TC c3
          go_wp2_with fail
          have ewn : IntKind.u64.wrap n = n := by rw [IntKind.wrap_u64]; omega
          have ewd : IntKind.u64.wrap d = d := by rw [IntKind.wrap_u64]; omega
          have en0 : ¬ n = 0 := by omega
          go_region_held3 (fun w' => w'.cell? ⟨b2, o2 + k, none⟩ = some (.int .i64 n)) (first | go_keep | exact c5)
            (first
              | (go_at_call 11; refine (next_any wr.heap.size s [wr.heap.size, b] _ ?_ ?_ ?_).mono ?_; exact TC4.out; exact hL4; omega; rintro e w5 ⟨rfl, ht5, hk5⟩; have c5 := hk5.cell c4 hbc; have TC5 := Lib.hid ht5; have TB5 := Lib.hid (TB4.out.kept hk5.of_drew hne (fun i _ e => by rw [e]; simp)); have K5 := Lib.hid (K4.out.new hk5.of_drew hwc); clear ht5 hk5)
              | (go_at_call_of 13 (Value.pointer (some ⟨b, 0, none⟩)); refine (used_any b s.next _ _ TB5.out).mono ?_; rintro e w' ⟨rfl, rfl⟩)
              | (go_at_call 13; refine (used_any _ s.next _ _ TC5.out).mono ?_; rintro e w' ⟨rfl, rfl⟩))
          go_wp2_with fail
          go_roundw
          case rel => exact ⟨k + 1, s.next, by omega, by go_num, TB5.out.more [b] (by simp) (by simp), by rw [TapeS.next_used]; omega, K5.out⟩
          case measure => simp [intOf]; omega
      · obtain rfl : k = q.length := by omega
        clear hlt hk
        go_wp2_with fail
        go_ret
        exact ⟨rfl, KR.out⟩
end Go.Proofs.Ytdjcpnmodjoagaa
