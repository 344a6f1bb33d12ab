/- order.Order: those that may be asked, in their order. -/
import Derived.Test.YtnpmimjhpnhdkaaOrd3
import Derived.Test.YtnpmimjhpnhdkaaShufPlain
import Derived.Test.YtnpmimjhpnhdkaaTapeOwn
import Derived.Test.YtnpmimjhpnhdkaaDrawShuf
namespace Go.Proofs.Ytnpmimjhpnhdkaa
open Go.RowKit

theorem of_okc {s : BookS} (h : s.ok) (u : Int) : 0 ≤ (s.of u).score ∧ (s.of u).score ≤ 100 := by
  unfold BookS.of
  split
  · next hu =>
    have hl : u.toNat < s.l.length := by omega
    have := BookS.ok_at h hl
    rw [List.getD_eq_getElem?_getD, List.getElem?_eq_getElem hl]
    exact ⟨this.1, this.2.1⟩
  · exact ⟨by decide, by decide⟩
def BookS.cand (s : BookS) (u : Int) : Cand := ⟨u, (s.of u).trial, (s.of u).score⟩
def candL (s : BookS) (m sh : List Int) : List Cand := sh.map (fun i => s.cand (m.getD i.toNat 0))
theorem candL_ok {s : BookS} (h : s.ok) (m sh : List Int) : ∀ c ∈ candL s m sh, c.ok := by
  intro c hc
  obtain ⟨i, _, rfl⟩ := List.mem_map.1 hc
  exact of_okc h _
/-- What Order answers. -/
def orderL (s : BookS) (t : TapeS) : List Int := (sortK Cand.key (candL s (mayL s.l) (shuffleL (mayL s.l).length t).1)).map (·.u)

theorem shuf_own (b n : Nat) (h2 : n ≤ 9) (s : TapeS) (L : List Nat) (w : World) (H : Hid (Tape w b s L ∧ ∀ k ∈ L, k < w.heap.size)) (hu : s.used + n < 9223372036854775807) :
    Calls Try.prog 14 #[.pointer (some ⟨b, 0, none⟩), .int .i64 n] w fun e w' => ∃ ao cap,
      e = .returned (.slice ao n cap) ∧ Cells w' ao ((shuffleL n s).1.map (.int .i64)) (w.heap.size ≤ ·) ∧ (∃ L', Tape w' b (shuffleL n s).2 L' ∧ (∀ k ∈ L', k ∈ L ∨ w.heap.size ≤ k) ∧ (∀ k ∈ L, k ∈ L') ∧ ∀ k ∈ L', k < w'.heap.size) ∧ Kept (· = b) w w' := by
  by_cases h1 : 1 ≤ n
  · refine (shuffle_any b n h1 (by omega) s L w H.out.1 H.out.2 hu).mono ?_
    rintro e w' ⟨rfl, hb, ht, hk⟩
    refine ⟨_, _, rfl, hb.cells_all (Nat.le_refl _), ⟨_, ht, fun k hm => ?_, fun k hm => List.mem_cons_of_mem _ hm, fun k hm => ?_⟩, hk⟩
    · rcases List.mem_cons.1 hm with rfl | hm
      · exact .inr (Nat.le_refl _)
      · exact .inl hm
    · rcases List.mem_cons.1 hm with rfl | hm
      · exact hb.lt
      · exact hk.lt (H.out.2 k hm)
  · obtain rfl : n = 0 := by omega
    refine (shuffle_none b _ (.inl (by decide)) w).mono ?_
    rintro e w' ⟨rfl, rfl⟩
    exact ⟨_, _, rfl, .inl rfl, ⟨L, H.out.1, fun k hk => .inl hk, fun k hk => hk, H.out.2⟩, Kept.refl _⟩
theorem info_cand : (Try.prog.info? 72).map (fun i => (i.zero, i.size, i.bytes)) = some (some (.agg #[.int .i64 0, .bool false, .int .i64 0]), 3, 24) := by kernel_rfl
theorem order_nil1 (q : Value) (w : World) : Calls Try.prog 12 #[.pointer none, q] w fun e w' => e = .returned (.slice none 0 0) ∧ w = w' := by
  go_enter Try.func12, Try.ntmps12
  go_wp2_with fail
  go_ret
  exact ⟨rfl, rfl⟩
theorem order_nil2 (x : Addr) (w : World) : Calls Try.prog 12 #[.pointer (some x), .pointer none] w fun e w' => e = .returned (.slice none 0 0) ∧ w = w' := by
  go_enter Try.func12, Try.ntmps12
  go_wp2_with fail
  go_ret
  exact ⟨rfl, rfl⟩

theorem mayL_at (l : List One) : ∀ x ∈ mayL l, ∃ (u : Nat) (h : u < l.length), x = ((u : Nat) : Int) ∧ l[u].rests = false := by
  intro x hx
  have := mayFrom_at 0 l x hx
  simpa using this
set_option maxRecDepth 100000 in
set_option maxHeartbeats 4000000 in
theorem order_any (b g tb : Nat) (s : BookS) (t : TapeS) (L : List Nat) (w : World) (h : Book w b g s) (hok : s.ok) (ht : Tape w tb t L) (hL : ∀ k ∈ L, k < w.heap.size) (hbt : b ≠ tb) (hgt : g ≠ tb) (hu : t.used + 9 < 9223372036854775807) :
    Calls Try.prog 12 #[.pointer (some ⟨b, 0, none⟩), .pointer (some ⟨tb, 0, none⟩)] w fun e w' => ∃ ao cap, e = .returned (.slice ao (orderL s t).length cap) ∧ OwnsI w' w.heap.size (.slice ao (orderL s t).length cap) (orderL s t) ∧
      (∃ L', Tape w' tb (shuffleL (mayL s.l).length t).2 L' ∧ (∀ k ∈ L', k ∈ L ∨ w.heap.size ≤ k) ∧ (∀ k ∈ L, k ∈ L') ∧ ∀ k ∈ L', k < w'.heap.size) ∧ Kept (· = tb) w w' := by
  have hlen : s.l.length ≤ 9 := hok.2.2.2.2.1
  have hcok := fun m sh => candL_ok hok m sh
  have htlt := ht.lt
  have hmn := fun x hx => mayL_at s.l x hx
  have hml : (mayL s.l).length ≤ 9 := by have := may_count s.l; omega
  unfold orderL
  obtain ⟨m, hm⟩ : ∃ m, mayL s.l = m := ⟨_, rfl⟩
  rw [hm] at hml hmn ⊢
  have H := Lib.hid h
  have HT := Lib.hid (And.intro ht hL)
  have HC := Lib.hid hcok
  have HMN := Lib.hid hmn
  have HOK := Lib.hid hok
  clear h ht hL hcok hmn hok
  go_enter Try.func12, Try.ntmps12
  go_wp2_with fail
  refine (may_any b g s (by omega) w H.out).mono ?_
  rintro e w1 ⟨v, rfl, ho, hk⟩
  rw [hm] at ho
  obtain ⟨ao, cap, rfl⟩ := ho.slice
  have HM := Lib.hid ho
  have K1 := Lib.hid hk
  have HT1 := Lib.hid (And.intro (HT.out.1.kept hk id (fun _ _ h => h.elim)) (fun k hx => hk.lt (HT.out.2 k hx)))
  have hz1 := hk.size
  clear ho hk hm
  go_wp2_with fail
  refine (shuf_own tb m.length hml t L w1 HT1 (by omega)).mono ?_
  rintro e w2 ⟨a2, cap2, rfl, hc2, hl2, hk2⟩
  obtain ⟨hs1, -, hs3, -⟩ := shuffleL_law m.length t
  obtain ⟨sh, hsh⟩ : ∃ sh, (shuffleL m.length t).1 = sh := ⟨_, rfl⟩
  rw [hsh] at hc2 hs1 hs3
  have HSH := Lib.hid hsh
  clear hsh
  have HS2 := Lib.hid hc2
  have HL2 := Lib.hid hl2
  have K2 := Lib.hid hk2
  have HS3 := Lib.hid hs3
  have hz2 := hk2.size
  have hcl : (candL s m sh).length = m.length := by simp [candL, hs1]
  have hcat : ∀ (k : Nat) (hk : k < sh.length), (candL s m sh)[k]? = some (s.cand (m.getD (sh[k]).toNat 0)) := fun k hk => by simp [candL, hk]
  obtain ⟨cs, hcs⟩ : ∃ cs, candL s m sh = cs := ⟨_, rfl⟩
  have hcok := HC.out m sh
  simp only [hcs] at hcl hcat hcok
  have HCS := Lib.hid hcs
  have HCA := Lib.hid hcat
  have HCO := Lib.hid hcok
  clear hc2 hl2 hk2 hs3 hcat hcs hcok HC
  go_wp2_with fail
  go_loopw [6, 26] (fun lv c wr => ∃ (k : Nat) (al : Option Addr) (cl : Nat), k ≤ m.length ∧ c = .int .i64 k ∧ lv = .slice al k cl ∧ OwnsS wr w2.heap.size 72 3 Cand.cells (.slice al k cl) (cs.take k) ∧ Kept (fun _ => False) w2 wr) (fun _ c _ => m.length - (intOf c).toNat)
  case atStart => exact ⟨0, none, 0, by omega, rfl, rfl, OwnsS.nil (Nat.le_refl _), Kept.refl _⟩
  case round =>
    obtain ⟨k, al, cl, hk, rfl, rfl, ho, hkw⟩ := hrel
    have HO := Lib.hid ho
    have HK := Lib.hid hkw
    have hzr := hkw.size
    clear ho hkw
    by_cases hlt : k < m.length
    · have HSr := Lib.hid (HS2.out.kept HK.out (fun _ _ _ h => h))
      have HMr := Lib.hid (OwnsI.cells (OwnsI.look (OwnsI.keep HM.out K2.out (fun x hx e => by subst e; omega)) HK.out)).2
      have hks : k < sh.length := by omega
      have hsk := HS3.out _ (List.getElem_mem hks)
      have hca := HCA.out k hks
      obtain ⟨j, hj⟩ : ∃ j : Nat, sh[k] = (j : Int) := ⟨(sh[k]).toNat, by omega⟩
      have hjm : j < m.length := by omega
      have hca' : cs[k]'(by omega) = s.cand (m[j]'hjm) := by
        rw [hj] at hca
        rw [List.getElem?_eq_getElem (by omega : k < cs.length)] at hca
        rw [Option.some.inj hca]; simp [hjm]
      obtain ⟨g2, o2, rfl, hg2, hc2⟩ : ∃ g2 o2, a2 = some ⟨g2, o2, none⟩ ∧ w1.heap.size ≤ g2 ∧ wr.cell? ⟨g2, o2 + k, none⟩ = some (.int .i64 (j : Int)) := by
        rcases HSr.out with h | ⟨x, o, h1, h2, h3⟩
        · have hh := congrArg List.length h; rw [List.length_map] at hh; simp only [List.length_nil] at hh; omega
        · exact ⟨x, o, h1, h2, by rw [h3 k (by simpa using hks)]; simp [hks, hj]⟩
      obtain ⟨gm, om, rfl, hgm, hcm⟩ : ∃ gm om, ao = some ⟨gm, om, none⟩ ∧ w.heap.size ≤ gm ∧ wr.cell? ⟨gm, om + j, none⟩ = some (.int .i64 (m[j]'hjm)) := by
        rcases HMr.out with h | ⟨x, o, h1, h2, h3⟩
        · have hh := congrArg List.length h; rw [List.length_map] at hh; simp only [List.length_nil] at hh; omega
        · exact ⟨x, o, h1, h2, by rw [h3 j (by simpa using hjm)]; simp [hjm]⟩
      obtain ⟨u, hu'⟩ : ∃ u, m[j]'hjm = u := ⟨_, rfl⟩
      rw [hu'] at hca' hcm
      have HCA' := Lib.hid hca'
      have HBr := Lib.hid (((H.out.look K1.out).kept K2.out hbt hgt).look HK.out)
      clear hca hca' hsk hj hu'
      go_wp2_with fail
      refine (trial_of _ _ u wr (Lib.hid (of_any b g s u (by omega) wr HBr.out))).mono ?_
      rintro e w4 ⟨rfl, hk4⟩
      have HB4 := Lib.hid (HBr.out.look hk4)
      have HO4 := Lib.hid (HO.out.look hk4)
      have HK4 := Lib.hid (HK.out.trans hk4)
      clear hk4
      go_wp2_with fail
      refine (score_of _ _ u w4 (Lib.hid (of_any b g s u (by omega) w4 HB4.out))).mono ?_
      rintro e w5 ⟨rfl, hk5⟩
      have HO5 := Lib.hid (HO4.out.look hk5)
      have HK5 := Lib.hid (HK4.out.trans hk5)
      have hz5 := HK5.out.size
      clear hk5
      have htl : (cs.take k).length = k := by rw [List.length_take]; omega
      go_wp2_with (first | (at_builtin; refine wpList_pushS (E := 72) (sz := 3) (f := Cand.cells) (base := w2.heap.size) (v := .slice al k cl) (l := cs.take k) (w := w5) rfl _ _ 70 rfl Try.underlying70 info_cand rfl (by decide) (by decide) (s.cand u) rfl HO5.out _ rfl _ rfl rfl (by rw [htl]; omega) hz5 rfl (by simp [Cand.cells, Value.oneCell']) ?_; rintro v6 w6 ho6 ⟨hk6, hk6', -⟩ ⟨ao6, cp6, hv6⟩; subst hv6))
      have htk : cs.take k ++ [s.cand u] = cs.take (k + 1) := by rw [← HCA'.out]; exact (List.take_succ_eq_append_getElem (by omega)).symm
      rw [htk] at ho6
      rw [show (cs.take (k + 1)).length = k + 1 by rw [List.length_take]; omega] at ho6
      go_roundw
      case measure => simp [intOf]; omega
      case rel => exact ⟨k + 1, ao6, cp6, by omega, by go_num, rfl, ho6, hk6 _ _ HK5.out (Nat.le_refl _)⟩
    · obtain rfl : k = m.length := by omega
      have hO := HO.out
      rw [show cs.take m.length = cs from List.take_of_length_le (by omega)] at hO
      have HO' := Lib.hid hO
      clear hO
      go_wp2_with fail
      refine (sort_own w2.heap.size al m.length cl cs wr HO'.out (by omega) HCO.out).mono ?_
      rintro e w7 ⟨rfl, hs, hk7⟩
      have hrl : (sortK Cand.key cs).length = m.length := by rw [sortK_len, hcl]
      replace hs : ∀ u, u < m.length → ∃ c, (sortK Cand.key cs)[u]? = some c ∧ ∃ g, al = some ⟨g, 0, none⟩ ∧ w2.heap.size ≤ g ∧ ∀ j, j < 3 → w7.cell? ⟨g, u * 3 + j, none⟩ = (c.cells)[j]? := fun u hu => ⟨_, List.getElem?_eq_getElem (by omega), hs u (by omega)⟩
      obtain ⟨r, hr⟩ : ∃ r, sortK Cand.key cs = r := ⟨_, rfl⟩
      simp only [hr] at hs hrl
      have HR := Lib.hid hr
      have HS := Lib.hid hs
      have K7 := Lib.hid (HK.out.then hk7 (fun i hi h => by omega))
      clear hr hs hk7
      go_wp2_with fail
      go_loopw [10, 50] (fun lv c wz => ∃ (q : Nat) (az : Option Addr) (cz : Nat), q ≤ m.length ∧ c = .int .i64 q ∧ lv = .slice az q cz ∧ OwnsI wz w7.heap.size (.slice az q cz) ((r.take q).map (·.u)) ∧ Kept (fun _ => False) w7 wz) (fun _ c _ => m.length - (intOf c).toNat)
      case atStart => exact ⟨0, none, 0, by omega, rfl, rfl, ⟨by simp, .inl ⟨rfl, rfl⟩⟩, Kept.refl _⟩
      case round =>
        obtain ⟨q, az, cz, hq, rfl, rfl, hoz, hkz⟩ := hrel
        have HOZ := Lib.hid hoz
        have HKZ := Lib.hid hkz
        have hzz := hkz.size
        clear hoz hkz
        by_cases hltq : q < m.length
        · obtain ⟨c, hc, g7, rfl, hg7, hc7⟩ := HS.out q (by omega)
          have d0 : wr.cell? ⟨g7, q * 3, none⟩ = some (.int .i64 c.u) := HKZ.out.cell (hc7 0 (by decide)) id
          have d1 : wr.cell? ⟨g7, q * 3 + 1, none⟩ = some (.bool c.trial) := HKZ.out.cell (hc7 1 (by decide)) id
          have d2 : wr.cell? ⟨g7, q * 3 + 2, none⟩ = some (.int .i64 c.score) := HKZ.out.cell (hc7 2 (by decide)) id
          have HC := Lib.hid hc
          clear hc hc7
          have htl : ((r.take q).map (·.u)).length = q := by simp; omega
          have KZ1 := fun (o : Obj) => HKZ.out.alloc o
          have HO1 := Lib.hid (fun (o : Obj) => HOZ.out.look ((Kept.refl (M := fun _ => False) wr).alloc o))
          have HKZ1 := Lib.hid KZ1
          clear KZ1
          go_wp2_with (at_builtin; go_must (refine wpList_pushI rfl _ _ rfl w7.heap.size (.slice az q cz) ((r.take q).map (·.u)) c.u rfl (HO1.out _) _ rfl (by simp) (by omega) (by simp; omega) ?_); intro v' w' ho' hg' hv')
          obtain ⟨ao', cp', rfl⟩ := hv'
          have htk : (r.take q).map (·.u) ++ [c.u] = (r.take (q + 1)).map (·.u) := by
            have h1 : r[q]'(by omega) = c := by have := HC.out; rw [List.getElem?_eq_getElem (by omega : q < r.length)] at this; exact Option.some.inj this
            rw [List.take_succ_eq_append_getElem (by omega : q < r.length), List.map_append, h1]; rfl
          have hl1 : ((r.take q).map (·.u) ++ [c.u]).length = q + 1 := by rw [List.length_append, htl]; rfl
          rw [hl1, htk] at ho'
          rw [hl1]
          have K9 := Lib.hid (hg'.1 _ _ (HKZ1.out _) (Nat.le_refl _))
          clear hg' hl1 htk
          go_wp2_with fail
          go_roundw
          case measure => simp [intOf]; omega
          case rel => exact ⟨q + 1, ao', cp', by omega, by go_num, rfl, ho', K9.out⟩
        · obtain rfl : q = m.length := by omega
          have hoz := HOZ.out
          rw [show r.take m.length = r from List.take_of_length_le (by omega)] at hoz
          have HOF := Lib.hid hoz
          have hzw := K2.out.size
          have hz7 := K7.out.size
          clear hoz
          go_wp2_with fail
          go_ret
          obtain ⟨L', hl1, hl2, hl4, hl3⟩ := HL2.out
          have KF := K7.out.trans HKZ.out
          rw [HSH.out, HCS.out, HR.out]
          have hrm : (r.map (·.u)).length = m.length := by rw [List.length_map, hrl]
          rw [hrm]
          refine ⟨az, cz, rfl, ?_, ⟨L', hl1.kept KF id (fun _ _ h => h.elim), fun k hk => (hl2 k hk).imp id (fun h => by omega), hl4, fun k hk => KF.lt (hl3 k hk)⟩, ((K1.out.mono (fun _ _ h => h.elim)).trans K2.out).trans (KF.mono (fun _ _ h => h.elim))⟩
          have ho := HOF.out
          refine ⟨ho.1, ?_⟩
          rcases ho.2 with h2 | ⟨x, cp, cur, hv, hx, r2⟩
          · exact .inl h2
          · exact .inr ⟨x, cp, cur, hv, by omega, r2⟩
end Go.Proofs.Ytnpmimjhpnhdkaa
