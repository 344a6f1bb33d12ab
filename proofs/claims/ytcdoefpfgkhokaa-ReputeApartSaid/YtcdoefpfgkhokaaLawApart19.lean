/- ReputeApart, walked. -/
import Derived.Test.YtcdoefpfgkhokaaLawBounds
import Derived.Test.YtcdoefpfgkhokaaOwnS
namespace Go.Proofs.Ytcdoefpfgkhokaa
open Go.RowKit

theorem Own.spare {W w w' : World} {b g base : Nat} {s : BookS} (h : Own W w b g s) (k : Kept (fun x => base ≤ x) w w') (hb : b < base) (hg : g < base) (hW : W.heap.size ≤ base) : Own W w' b g s :=
  ⟨h.bk.kept k (by omega) (by omega), h.ok, h.kp.then k (fun i hi hN => by omega), h.hb, h.hg⟩
theorem told_len (x : One) : x.told.length = 7 := rfl
theorem info_told : (Try.prog.info? 36).map (fun i => (i.zero, i.size, i.bytes)) = some (some (.agg #[.int .i64 0, .int .i64 0, .int .i64 0, .int .i64 0, .bool false, .bool false, .int .i64 0]), 7, 48) := by kernel_rfl
/-- What was told of the first ones. -/
def toldOf (s : BookS) (j : Nat) : List One := (List.range j).map (fun u : Nat => s.of (u : Int))
theorem toldOf_succ (s : BookS) (j : Nat) : toldOf s (j + 1) = toldOf s j ++ [s.of (j : Int)] := by simp [toldOf, List.range_succ]
theorem toldOf_len (s : BookS) (j : Nat) : (toldOf s j).length = j := by simp [toldOf]
theorem toldOf_get (s : BookS) (j u : Nat) (h : u < (toldOf s j).length) : (toldOf s j)[u] = s.of (u : Int) := by simp [toldOf]

set_option maxRecDepth 100000 in
set_option maxHeartbeats 4000000 in
theorem apart19_walk {H H' : Type} {enc : TypeId × Value → H} {enc' : TypeId × Value → H'} {d : DataW H} {p : List MemPlace} {d' : DataW H'} {p' : List MemPlace} (w : World) (ups : Int) (_ : (Lit.int .i64 ups).wf = true) (limit : Int) (_ : (Lit.int .i64 limit).wf = true) (rest : Int) (_ : (Lit.int .i64 rest).wf = true)
    (a : Option Addr) (len cap : Nat) (hk : DataW.Trod enc Try.prog w 0 (fun _ => true) true 22 (.slice a len cap) d p) (a2 : Option Addr) (len2 cap2 : Nat) (hk' : DataW.Trod enc' Try.prog w 0 (fun _ => true) true 22 (.slice a2 len2 cap2) d' p') :
    Calls Try.prog 6 #[.int .i64 ups, .int .i64 limit, .int .i64 rest, .slice a len cap, .slice a2 len2 cap2] w fun e w' => e = .returned (.bool true) ∧ Kept (fun _ => False) w w' := by
  obtain ⟨l, rfl, hacts⟩ := acts_of (Reads.of hk)
  obtain ⟨m, rfl, hacts2⟩ := acts_of (Reads.of hk')
  have HA := Lib.hid hacts
  have HM := Lib.hid hacts2
  clear hk hk' hacts hacts2
  by_cases h1 : 300 < l.length
  · have hb : decide (300 < (l.length : Int)) = true := by simp; omega
    clear h1
    go_enter Try.func6, Try.ntmps6
    go_wp2_with fail
    refine (awake_any _).mono ?_
    rintro e w1 ⟨rfl, hk⟩
    go_wp2_with fail
    go_ret
    exact ⟨rfl, hk⟩
  have hb : decide (300 < (l.length : Int)) = false := by simp; omega
  by_cases h2 : 300 < m.length
  · have hb2 : decide (300 < (m.length : Int)) = true := by simp; omega
    clear h1 h2
    go_enter Try.func6, Try.ntmps6
    go_wp2_with fail
    refine (awake_any _).mono ?_
    rintro e w1 ⟨rfl, hk⟩
    go_wp2_with fail
    go_ret
    exact ⟨rfl, hk⟩
  have hb2 : decide (300 < (m.length : Int)) = false := by simp; omega
  go_enter Try.func6, Try.ntmps6
  go_wp2_with fail
  refine (awake_any _).mono ?_
  rintro e w1 ⟨rfl, hk1⟩
  have K1 := Lib.hid hk1
  clear hk1
  go_wp2_with fail
  refine (made_any w1 ups limit rest a l cap (by omega) (Lib.hid (HA.out.kept K1.out))).mono ?_
  rintro e w2 ⟨n, lo, ti, b, g, hok, rfl, ho⟩
  have HO := Lib.hid (ho.base K1.out)
  have hn9 : n ≤ 9 := by have := hok.1.2.1; omega
  have hn1 : 1 ≤ n := by have := hok.1.1; omega
  obtain ⟨S, hS⟩ : ∃ S, (newB n lo ti).acts l = S := ⟨_, rfl⟩
  have hlen : S.l.length = n := by rw [← hS, len_acts]; simp [newB]
  rw [hS] at HO
  clear hok ho hS
  go_wp2_with fail
  refine (own_copy HO (by omega)).mono ?_
  rintro e w3 ⟨b', g', cap', rfl, hb3, hg3, lb', lg', ho', ho, hk3⟩
  have hb1 := HO.out.bk.ltb
  have hg1 := HO.out.bk.ltg
  have hW3 := ho.kp.size
  have hz3 := hk3.size
  replace HO := Lib.hid ho
  obtain ⟨S', hS'⟩ : ∃ S' : BookS, { S with cap := cap' } = S' := ⟨_, rfl⟩
  rw [hS'] at ho'
  have HS' := Lib.hid hS'
  have HC := Lib.hid ho'
  clear ho ho' hk3 hS'
  obtain ⟨base, hbase⟩ : ∃ base, base = w3.heap.size := ⟨_, rfl⟩
  have hgb : g < base := by omega
  have hbb : b < base := by omega
  rw [← hbase] at lb' lg' hz3 hW3
  have HBS := Lib.hid hbase
  clear hbase
  go_wp2_with fail
  go_loopw [16, 17] (fun v c wr => ∃ j : Nat, j ≤ n ∧ c = .int .i64 j ∧ Own w wr b g S ∧ Own w wr b' g' S' ∧ base ≤ wr.heap.size ∧ OwnsS wr base 36 7 One.told v (toldOf S j)) (fun _ c _ => n - (intOf c).toNat)
  case atStart => exact ⟨0, by omega, rfl, HO.out, HC.out, by rw [HBS.out]; exact Nat.le_refl _, OwnsS.nil (by rw [HBS.out]; exact Nat.le_refl _)⟩
  case round =>
    obtain ⟨j, hj, rfl, ho, ho', hbz, hown⟩ := hrel
    replace HO := Lib.hid ho
    replace HC := Lib.hid ho'
    obtain ⟨ao, cp, rfl⟩ := hown.slice
    have HR := Lib.hid hown
    clear ho ho' hown
    rw [toldOf_len]
    by_cases hlt : j < n
    · have hts := Lib.hid (toldOf_succ S j)
      obtain ⟨x, hx⟩ : ∃ x, S.of (j : Int) = x := ⟨_, rfl⟩
      rw [hx] at hts
      have HX := Lib.hid hx
      clear hx
      obtain ⟨r, hr⟩ : ∃ r, toldOf S j = r := ⟨_, rfl⟩
      have hrl : r.length = j := by rw [← hr, toldOf_len]
      rw [hr] at HR hts
      clear hr
      go_wp2_with fail
      refine (own_of HO j x HX.out).mono ?_
      rintro e w4 ⟨rfl, ho, hk4⟩
      replace HC := Lib.hid (HC.out.look hk4)
      replace HR := Lib.hid (HR.out.look hk4)
      have hz4 := hk4.size
      have hb4 : base ≤ w4.heap.size := by omega
      replace HO := Lib.hid ho
      clear ho hk4
      simp only [One.told]
      go_wp2_with (first | (at_builtin; refine wpList_pushS (E := 36) (sz := 7) (f := One.told) (base := base) (v := .slice ao j cp) (l := r) (w := w4) rfl _ _ 39 rfl Try.underlying39 info_told rfl (by decide) (by decide) x rfl (by have := HR.out; rw [hrl] at this; exact this) _ rfl _ rfl rfl (by rw [hrl]; omega) hb4 (told_len x) (by simp [One.told, Value.oneCell']) ?_; rintro v5 w5 ho5 ⟨hk5, hk5', -⟩ ⟨ao5, cp5, hv5⟩; subst hv5))
      rw [show (r ++ [x]).length = j + 1 by simp [hrl]] at ho5
      go_roundw
      case rel => exact ⟨j + 1, by omega, by go_num, HO.out.spare hk5' hbb hgb hW3, HC.out.spare hk5' lb' lg' hW3, by have := hk5'.size; omega, by rw [hts.out]; exact ho5⟩
      case measure => simp [intOf]; omega
    · obtain rfl : j = n := by omega
      clear hlt hj
      obtain ⟨r, hr⟩ : ∃ r, toldOf S j = r := ⟨_, rfl⟩
      have hrl : r.length = j := by rw [← hr, toldOf_len]
      have hrg : ∀ u (h : u < r.length), r[u] = S.of (u : Int) := by rw [← hr]; exact fun u h => toldOf_get S j u h
      rw [hr] at HR
      have HRG := Lib.hid hrg
      clear hr hrg
      go_wp2_with fail
      go_loopw [18] (fun c wr => ∃ k : Nat, k ≤ m.length ∧ c = .int .i64 k ∧ Own w wr b g S ∧ Own w wr b' g' (S'.acts (m.take k)) ∧ OwnsS wr base 36 7 One.told (.slice ao j cp) r) (fun c _ => m.length - (intOf c).toNat)
      case atStart => exact ⟨0, by omega, rfl, HO.out, HC.out, by have := HR.out; rw [hrl] at this; exact this⟩
      case round =>
        obtain ⟨k, hk, rfl, ho, ho', hown⟩ := hrel
        replace HO := Lib.hid ho
        replace HC := Lib.hid ho'
        replace HR := Lib.hid hown
        clear ho ho' hown
        by_cases hlt : k < m.length
        · obtain ⟨b0, o, rfl, hb0, c0, c1, c2, -⟩ := (HM.out.kept HO.out.kp) k hlt
          have hst := Lib.hid (acts_take S' m k hlt)
          obtain ⟨x, hx⟩ : ∃ x, m[k] = x := ⟨_, rfl⟩
          rw [hx] at c0 c1 c2 hst
          clear hx
          go_wp2_with fail
          refine (ldoes_any HC x).mono ?_
          rintro e w5 ⟨rfl, ho', hk5⟩
          rw [← hst.out] at ho'
          go_wp2_with fail
          go_roundw
          case rel => exact ⟨k + 1, by omega, by go_num, HO.out.aside hk5 (by omega) (by omega) HC.out.hg, ho', HR.out.keep hk5 (by omega)⟩
          case measure => simp [intOf]; omega
        · obtain rfl : k = m.length := by omega
          rw [List.take_length] at HC
          obtain ⟨T', hT'⟩ : ∃ T', S'.acts m = T' := ⟨_, rfl⟩
          rw [hT'] at HC
          have HT' := Lib.hid hT'
          clear hT' hlt hk
          go_wp2_with fail
          go_loopw [19] (fun c wr => ∃ u : Nat, u ≤ j ∧ c = .int .i64 u ∧ Own w wr b g S ∧ Own w wr b' g' T' ∧ OwnsS wr base 36 7 One.told (.slice ao j cp) r) (fun c _ => j - (intOf c).toNat)
          case atStart => exact ⟨0, by omega, rfl, HO.out, HC.out, HR.out⟩
          case round =>
            obtain ⟨u, hu, rfl, ho, ho', hown⟩ := hrel
            replace HO := Lib.hid ho
            replace HC := Lib.hid ho'
            replace HR := Lib.hid hown
            clear ho ho' hown
            by_cases hlt : u < j
            · obtain ⟨gr, rfl, hgr, hgl, hcl⟩ := HR.out.at told_len (i := u) (by omega)
              obtain ⟨x, hx⟩ : ∃ x, S.of (u : Int) = x := ⟨_, rfl⟩
              rw [HRG.out u (by omega), hx] at hcl
              have HX := Lib.hid hx
              have c0 := hcl 0 (by decide)
              have c1 := hcl 1 (by decide)
              have c2 := hcl 2 (by decide)
              have c3 := hcl 3 (by decide)
              have c4 := hcl 4 (by decide)
              have c5 := hcl 5 (by decide)
              have c6 := hcl 6 (by decide)
              simp [One.told] at c0 c1 c2 c3 c4 c5 c6
              have hnq := told_neq x x true (by simp)
              clear hcl hx
              have HD := Lib.hid (HO.out.look ((Kept.refl (M := fun _ => False) wr).drew))
              go_wp2_with fail
              go_region_held3 (fun w' => w'.cell? ⟨gr, u * 7, none⟩ = some (.int .i64 x.score) ∧ w'.cell? ⟨gr, u * 7 + 1, none⟩ = some (.int .i64 x.agree) ∧ w'.cell? ⟨gr, u * 7 + 2, none⟩ = some (.int .i64 x.dissent) ∧ w'.cell? ⟨gr, u * 7 + 3, none⟩ = some (.int .i64 x.silent) ∧ w'.cell? ⟨gr, u * 7 + 4, none⟩ = some (.bool x.rests) ∧ w'.cell? ⟨gr, u * 7 + 5, none⟩ = some (.bool x.trial) ∧ w'.cell? ⟨gr, u * 7 + 6, none⟩ = some (.int .i64 0))
                (first | go_keep | exact ⟨hk6.cell c0 id, hk6.cell c1 id, hk6.cell c2 id, hk6.cell c3 id, hk6.cell c4 id, hk6.cell c5 id, hk6.cell c6 id⟩)
                ((go_at_call 15; refine (own_of HD u x HX.out).mono ?_; rintro e w6 ⟨rfl, ho, hk6⟩; simp only [One.told]))
              go_wp2_with fail
              go_roundw
              case rel => exact ⟨u + 1, by omega, by go_num, ho, HC.out.look hk6.of_drew, HR.out.look hk6.of_drew⟩
              case measure => simp [intOf]; omega
            · obtain rfl : u = j := by omega
              clear hlt hu HR HRG hrl
              go_wp2_with fail
              go_loopw [20] (fun c wr => ∃ k : Nat, k ≤ m.length ∧ c = .int .i64 k ∧ Own w wr b g (S.acts (m.take k)) ∧ Own w wr b' g' T') (fun c _ => m.length - (intOf c).toNat)
              case atStart => exact ⟨0, by omega, rfl, HO.out, HC.out⟩
              case round =>
                obtain ⟨k, hk, rfl, ho, ho'⟩ := hrel
                replace HO := Lib.hid ho
                replace HC := Lib.hid ho'
                clear ho ho'
                by_cases hlt : k < m.length
                · obtain ⟨b0, o, rfl, hb0, c0, c1, c2, -⟩ := (HM.out.kept HO.out.kp) k hlt
                  have hst := Lib.hid (acts_take S m k hlt)
                  obtain ⟨x, hx⟩ : ∃ x, m[k] = x := ⟨_, rfl⟩
                  rw [hx] at c0 c1 c2 hst
                  clear hx
                  go_wp2_with fail
                  refine (ldoes_any HO x).mono ?_
                  rintro e w5 ⟨rfl, ho, hk5⟩
                  rw [← hst.out] at ho
                  go_wp2_with fail
                  go_roundw
                  case rel => exact ⟨k + 1, by omega, by go_num, ho, HC.out.aside hk5 (by omega) (by omega) HO.out.hg⟩
                  case measure => simp [intOf]; omega
                · obtain rfl : k = m.length := by omega
                  rw [List.take_length] at HO
                  obtain ⟨T, hT⟩ : ∃ T, S.acts m = T := ⟨_, rfl⟩
                  have hsame : ∀ v : Int, T'.of v = T.of v := by rw [← hT, ← HT'.out, ← HS'.out, acts_cap]; exact fun _ => rfl
                  rw [hT] at HO
                  have HSM := Lib.hid hsame
                  clear hT hlt hk hsame
                  go_wp2_with fail
                  go_loopw [21] (fun c wr => ∃ v : Nat, v ≤ u ∧ c = .int .i64 v ∧ Own w wr b g T ∧ Own w wr b' g' T') (fun c _ => u - (intOf c).toNat)
                  case atStart => exact ⟨0, by omega, rfl, HO.out, HC.out⟩
                  case round =>
                    obtain ⟨v, hv, rfl, ho, ho'⟩ := hrel
                    replace HO := Lib.hid ho
                    replace HC := Lib.hid ho'
                    clear ho ho'
                    by_cases hlt : v < u
                    · obtain ⟨x, hx⟩ : ∃ x, T.of (v : Int) = x := ⟨_, rfl⟩
                      have HX := Lib.hid hx
                      have HX' := Lib.hid (show T'.of (v : Int) = x by rw [HSM.out]; exact hx)
                      have hnq := told_neq x x true (by simp)
                      clear hx
                      go_wp2_with fail
                      refine (own_of HO v x HX.out).mono ?_
                      rintro e w6 ⟨rfl, ho, hk6⟩
                      replace HC := Lib.hid (HC.out.look hk6)
                      replace HO := Lib.hid ho
                      clear ho hk6
                      go_wp2_with fail
                      refine (own_of HC v x HX'.out).mono ?_
                      rintro e w7 ⟨rfl, ho, hk7⟩
                      replace HO := Lib.hid (HO.out.look hk7)
                      replace HC := Lib.hid ho
                      clear ho hk7
                      simp only [One.told]
                      go_wp2_with fail
                      go_roundw
                      case rel => exact ⟨v + 1, by omega, by go_num, HO.out, HC.out⟩
                      case measure => simp [intOf]; omega
                    · go_wp2_with fail
                      go_ret
                      exact ⟨rfl, HO.out.kp⟩
end Go.Proofs.Ytcdoefpfgkhokaa
