/- hustingslaw19's helpers: of, does, made. -/
import Derived.Test.YtcdoefpfgkhokaaRep11
import Derived.Test.YtcdoefpfgkhokaaArgs
namespace Go.Proofs.Ytcdoefpfgkhokaa
open Go.RowKit

/-- What the law's 'of' tells of an upstream. -/
def One.told (x : One) : List Value := [.int .i64 x.score, .int .i64 x.agree, .int .i64 x.dissent, .int .i64 x.silent, .bool x.rests, .bool x.trial, .int .i64 0]

theorem lof_of (p : Value) (u : Int) (x : One) (w : World) (H : ∀ w1, Kept (fun _ => False) w w1 → Calls Try.prog 27 #[p, .int .i64 u] w1 fun e w' => e = .returned (.agg x.cells.toArray) ∧ Kept (fun _ => False) w1 w') :
    Calls Try.prog 15 #[p, .int .i64 u] w fun e w' => e = .returned (.agg x.told.toArray) ∧ Kept (fun _ => False) w w' := by
  have HF := Lib.hid H
  clear H
  go_enter Try.func15, Try.ntmps15
  go_wp2_with fail
  have K := Lib.hid ((Kept.refl (M := fun _ => False) w).alloc (.cells #[.int .i64 0, .int .i64 0, .int .i64 0, .int .i64 0, .bool false, .bool false, .int .i64 0] 36))
  have c := Lib.hid (new_blk w (.cells #[.int .i64 0, .int .i64 0, .int .i64 0, .int .i64 0, .bool false, .bool false, .int .i64 0] 36))
  refine (counts_of x p u _ (Lib.hid (HF.out _ K.out))).mono ?_
  rintro e w1 ⟨rfl, hk⟩
  replace c := Lib.hid (hk.heap c.out id)
  replace K := Lib.hid (K.out.trans hk)
  clear hk
  go_wp2_with fail
  refine (score_of x p u _ (Lib.hid (HF.out _ K.out))).mono ?_
  rintro e w2 ⟨rfl, hk⟩
  replace c := Lib.hid (hk.heap c.out id)
  replace K := Lib.hid (K.out.trans hk)
  clear hk
  go_wp2_with fail
  refine (rests_of x p u _ (Lib.hid (HF.out _ K.out))).mono ?_
  rintro e w3 ⟨rfl, hk⟩
  replace c := Lib.hid (hk.heap c.out id)
  replace K := Lib.hid (K.out.trans hk)
  clear hk
  go_wp2_with fail
  refine (trial_of x p u _ (Lib.hid (HF.out _ K.out))).mono ?_
  rintro e w4 ⟨rfl, hk⟩
  have cc := hk.heap c.out id
  replace K := Lib.hid (K.out.trans hk)
  clear hk c
  have CC := Lib.hid cc
  have c0 := cell_blk cc 0
  have c1 := cell_blk cc 1
  have c2 := cell_blk cc 2
  have c3 := cell_blk cc 3
  have c4 := cell_blk cc 4
  have c5 := cell_blk cc 5
  have c6 := cell_blk cc 6
  simp at c0 c1 c2 c3 c4 c5 c6
  have f := fun o => free_blk cc o
  clear cc
  go_wp2_with fail
  have B := set_blk (set_blk (set_blk (set_blk (set_blk (set_blk (set_blk CC.out 0 (.int .i64 x.score)) 1 (.int .i64 x.agree)) 2 (.int .i64 x.dissent)) 3 (.int .i64 x.silent)) 4 (.bool x.rests)) 5 (.bool x.trial)) 6 (.int .i64 0)
  have K2 := ((((((K.out.fresh (Nat.le_refl _) 0 (.int .i64 x.score)).fresh (Nat.le_refl _) 1 (.int .i64 x.agree)).fresh (Nat.le_refl _) 2 (.int .i64 x.dissent)).fresh (Nat.le_refl _) 3 (.int .i64 x.silent)).fresh (Nat.le_refl _) 4 (.bool x.rests)).fresh (Nat.le_refl _) 5 (.bool x.trial)).fresh (Nat.le_refl _) 6 (.int .i64 0)
  clear c0 c1 c2 c3 c4 c5 c6 f K CC
  revert B K2
  generalize World.setCell _ _ _ = wf
  intro B K2
  generalize w.heap.size = s at B ⊢
  have c0 := cell_blk B 0
  have c1 := cell_blk B 1
  have c2 := cell_blk B 2
  have c3 := cell_blk B 3
  have c4 := cell_blk B 4
  have c5 := cell_blk B 5
  have c6 := cell_blk B 6
  simp at c0 c1 c2 c3 c4 c5 c6
  clear B
  exact bodyPost_ret (v := .agg x.told.toArray) (by simp [results, Try.results15, go_sem, One.told, c0, c1, c2, c3, c4, c5, c6]) rfl ⟨rfl, K2⟩

theorem own_of {W w : World} {b g : Nat} {s : BookS} (H : Hid (Own W w b g s)) (u : Int) (x : One) (hx : s.of u = x) : Calls Try.prog 15 #[.pointer (some ⟨b, 0, none⟩), .int .i64 u] w fun e w' => e = .returned (.agg x.told.toArray) ∧ Own W w' b g s ∧ Kept (fun _ => False) w w' := by
  subst hx
  refine (lof_of _ u (s.of u) w (fun w1 hk => of_any b g s u H.out.len w1 (H.out.bk.look hk))).mono ?_
  rintro e w' ⟨rfl, hk⟩
  exact ⟨rfl, H.out.look hk, hk⟩
theorem lof_nil (u : Int) (w : World) : Calls Try.prog 15 #[.pointer none, .int .i64 u] w fun e w' => e = .returned (.agg One.none.told.toArray) ∧ Kept (fun _ => False) w w' :=
  lof_of _ u One.none w (fun w1 _ => of_nil u w1)

/-- Something that is done. -/
structure ActS where
  k : Int
  u : Int
  n : Int
  deriving Inhabited
def ActS.cells (a : ActS) : List Value := [.int .u8 a.k, .int .i64 a.u, .int .i64 a.n]
def BookS.act (s : BookS) (a : ActS) : BookS := if a.k = 0 then s.agreeI a.u else if a.k = 1 then s.dissentI a.u a.n else if a.k = 2 then s.silentI a.u else if a.k = 3 then s.back a.n else s
theorem ok_act {s : BookS} (hs : s.ok) (a : ActS) : (s.act a).ok := by
  unfold BookS.act
  split
  · exact ok_agreeI hs _
  split
  · exact ok_dissentI hs _ _
  split
  · exact ok_silentI hs _
  split
  · exact ok_backI hs _
  · exact hs
theorem len_act (s : BookS) (a : ActS) : (s.act a).l.length = s.l.length := by
  unfold BookS.act
  split
  · exact len_agreeI _ _
  split
  · exact len_dissentI _ _ _
  split
  · exact len_silentI _ _
  split
  · exact len_back _ _
  · rfl

theorem ldoes_any {W w : World} {b g : Nat} {s : BookS} (H : Hid (Own W w b g s)) (a : ActS) :
    Calls Try.prog 11 #[.pointer (some ⟨b, 0, none⟩), .agg #[.int .u8 a.k, .int .i64 a.u, .int .i64 a.n]] w fun e w' => e = .returned (.tuple #[]) ∧ Own W w' b g (s.act a) ∧ Kept (· = g) w w' := by
  obtain ⟨k, u, n⟩ := a
  have hsz := H.out.kp.size
  have hgw := H.out.bk.ltg
  have K0 := Lib.hid ((Kept.refl (M := fun _ => False) w).alloc (.cells #[.int .u8 k, .int .i64 u, .int .i64 n] 29))
  have HA := Lib.hid (H.out.look K0.out)
  have hb0 := new_blk w (.cells #[.int .u8 k, .int .i64 u, .int .i64 n] 29)
  have c0 := cell_blk hb0 0
  have c1 := cell_blk hb0 1
  have c2 := cell_blk hb0 2
  simp at c0 c1 c2
  clear hb0
  have gb : w.heap.size ≠ g := by omega
  by_cases h0 : k = 0
  · subst h0
    go_enter Try.func11, Try.ntmps11
    go_wp2_with fail
    refine (own_agree HA u _ rfl).mono ?_
    rintro e w1 ⟨rfl, ho, hk⟩
    go_wp2_with fail
    go_end0
    exact ⟨rfl, ho, K0.out.any.trans hk⟩
  have e0 : (k == 0) = false := by simpa using h0
  by_cases h1 : k = 1
  · subst h1
    go_enter Try.func11, Try.ntmps11
    go_wp2_with fail
    refine (own_dissent HA u n _ rfl).mono ?_
    rintro e w1 ⟨rfl, ho, hk⟩
    go_wp2_with fail
    go_end0
    exact ⟨rfl, ho, K0.out.any.trans hk⟩
  have e1 : (k == 1) = false := by simpa using h1
  by_cases h2 : k = 2
  · subst h2
    go_enter Try.func11, Try.ntmps11
    go_wp2_with fail
    refine (own_silent HA u _ rfl).mono ?_
    rintro e w1 ⟨rfl, ho, hk⟩
    go_wp2_with fail
    go_end0
    exact ⟨rfl, ho, K0.out.any.trans hk⟩
  have e2 : (k == 2) = false := by simpa using h2
  by_cases h3 : k = 3
  · subst h3
    go_enter Try.func11, Try.ntmps11
    go_wp2_with fail
    refine (own_back HA n _ rfl).mono ?_
    rintro e w1 ⟨ao, cap, rfl, -, ho, hk⟩
    go_wp2_with fail
    go_end0
    exact ⟨rfl, ho, K0.out.any.trans hk⟩
  have e3 : (k == 3) = false := by simpa using h3
  go_enter Try.func11, Try.ntmps11
  go_wp2_with fail
  go_end0
  exact ⟨rfl, by unfold BookS.act; simp only [h0, h1, h2, h3, if_false]; exact HA.out, K0.out.any⟩
end Go.Proofs.Ytcdoefpfgkhokaa
