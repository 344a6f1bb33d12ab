/- Package pend, walked: Copy (maps.Clone with it). -/
import Derived.Test.YthgioaaenfdcdaaPend4
import Derived.Shelf.SlMaps.Clone
import Derived.Deep.AppendLies
import Derived.Deep.RegionLaw
namespace Go.Proofs.Ythgioaaenfdcdaa
open Go.RowKit Go.Maps

set_option maxHeartbeats 1000000 in
theorem clone_obj (b : Nat) (es : Array MapEntry) (clock : Nat) (w : World) (hb : w.heap[b]? = some (.map es clock)) :
    Calls Try.prog 31 #[.map (some b)] w fun e w' => e = .returned (.map (some w.heap.size)) ∧ w' = w.alloc (.map es clock) := by
  have hq := fun w => run_eql_map_nil_sl (P := Try.prog) w 69 _ _ (some b) Try.underlying69
  go_enter Try.func31, Try.ntmps31
  go_wp2
  rw [run_callFunc_extern Try.func38 (by kernel_rfl) (by kernel_rfl) (by kernel_rfl) (e := Extern.MapsClone.clone) (by kernel_rfl), run_maps_clone_sl w 69 hb]
  simp only [Result.andThen]
  rw [Oper.upon_value]
  go_wp2
  rw [run_typeAssert_map_sl _ 69 20 _ _ _ Try.underlying69]
  simp only [Result.andThen]
  rw [Oper.upon_value]
  go_wp2
  go_ret
  exact ⟨rfl, rfl⟩
theorem clone_any (b : Nat) (m : Outs) (w : World) (h : MapU w b m) :
    Calls Try.prog 31 #[.map (some b)] w fun e w' => e = .returned (.map (some w.heap.size)) ∧ MapU w' w.heap.size m ∧ Kept (fun _ => False) w w' ∧ w'.heap.size = w.heap.size + 1 := by
  obtain ⟨g, n, D, ⟨es, clock, h1, h2⟩, h3⟩ := h
  refine (clone_obj b es clock w h1).mono ?_
  rintro e w' ⟨rfl, rfl⟩
  exact ⟨rfl, ⟨g, n, D, ⟨es, clock, new_blk w _, h2⟩, h3⟩, (Kept.refl _).alloc _, by simp⟩

/-- 'append(out, x)' of one struct, as a step of a region that draws. -/
theorem step_pushS {α : Type} {P : Program} {w : World} {base sz : Nat} {E : TypeId} {f : α → List Value} {v : Value} {l : List α} {ops : Array Oper} {o : Oper} {a : Act} {K : Act → World → Prop} {Q : Exit → Act → World → Prop} {F : Prop} (hgd : o.guard = none) (s x : Operand) (t : TypeId)
    (ho : o.op = .call { callee := .builtin .append, args := #[s, x], argTypes := #[t, t] }) (ht : P.underlying t = some (.slice E)) {z : Value} {bytes : Nat} (hinf : (P.info? E).map (fun i => (i.zero, i.size, i.bytes)) = some (some z, sz, bytes))
    (hz : z.cells.size = sz) (hsz : 0 < sz) (hbs : bytes ≤ 1024) (y : α) (hs : a.eval s = v) (hown : OwnsS w base E sz f v l) (us : Array Value) (hus : us.toList = f y)
    (k : Nat) (hx : a.eval x = .slice (some ⟨k, 0, none⟩) 1 1) (hk : k = w.heap.size) (hn : l.length < 137438953472) (hbase : base ≤ w.heap.size) (hul : (f y).length = sz) (hu1 : ∀ u ∈ f y, u.oneCell' = true)
    (h : ∀ g cap w', OwnsS w' base E sz f (.slice (some ⟨g, 0, none⟩) (l.length + 1) cap) (l ++ [y]) → (∀ (M : Nat → Prop) (W : World), Kept M W w → W.heap.size ≤ base → Kept M W w') → Kept (fun k => base ≤ k) w w' → Kept (fun k => v.ownBlock = some k) w w' → K (a.put o.dst (.slice (some ⟨g, 0, none⟩) (l.length + 1) cap)) w') :
    if Region.wanted o (yielded ops a.tmps) = true then Oper.wp P o a (w.alloc (.cells us E)) K Q else F := by
  subst hk
  obtain ⟨i0, hi, hz0, hz1, hz2⟩ := info_parts hinf
  have e : us = (f y).toArray := by rw [← hus]
  subst e
  have hb : (l.length + 1) * bytes ≤ 137438953472 * 1024 := Nat.mul_le_mul (by omega) hbs
  refine step_append_lies _ hgd s x t ho base E i0 z sz bytes ht hi hz0 hz1 hz2 hz hsz v l.length (l.map f).flatten hs (World.ownsRow.alloc hown _) ⟨w.heap.size, 0, none⟩ 1 1 (f y) hx (by omega) (fun j u hu => ?_) hu1 (by decide) (by unfold maxLen; omega) (by omega) (by simp; omega) (w.heap.size + 1) (by simp) (fun g cap w' h1 h2 _ _ => ?_)
  · rw [addr_add, cell_blk (new_blk w _)]; simpa using hu
  · have h2' : w.grownBy w' v.ownBlock := ⟨h2.os, h2.tape, h2.output, by have := h2.size; simp at this; omega, fun k hk hne => by rw [h2.block k (by simp; omega) hne]; exact Below.heap_alloc _ _ _ hk⟩
    refine h g cap w' (by unfold OwnsS; simpa using h1) (fun M W hk hW => hk.pushed hown h2' hW) ((Kept.refl _).grown h2' (fun k hk _ => (World.ownsRow.lt hown k hk).1)) ((Kept.refl _).grown h2' (fun k hk _ => hk))

theorem ite_pos_of {c A B : Prop} [Decidable c] (hc : c) (h : A) : if c then A else B := by rw [if_pos hc]; exact h
theorem pcopy_nil (w : World) : Calls Try.prog 15 #[.pointer none] w fun e w' => e = .returned (.pointer none) ∧ w = w' := by
  go_enter Try.func15, Try.ntmps15
  go_wp2_with fail
  go_ret
  exact ⟨rfl, rfl⟩
set_option maxHeartbeats 2000000 in
theorem pcopy_any (S : TblS) (T : List Outs) (hT : T.length ≤ 1000) (w : World) (h : Tbl w S T) :
    Calls Try.prog 15 #[.pointer (some ⟨S.b, 0, none⟩)] w fun e w' => ∃ S' : TblS, e = .returned (.pointer (some ⟨S'.b, 0, none⟩)) ∧ Tbl w' S' T ∧ (∀ x, S'.foot x → w.heap.size ≤ x) ∧ Kept (fun _ => False) w w' := by
  have c0 := h.c0
  have H := Lib.hid h
  have hlen := h.len
  have hSb := lt_of_block h.blk
  have hB := Lib.hid (new_blk w (.cells #[.slice none 0 0] 55))
  have hne : S.b ≠ w.heap.size := by omega
  clear h
  go_enter Try.func15, Try.ntmps15
  go_wp2_with fail
  go_loopw [15] (fun c wr => ∃ (k : Nat) (bs : List Nat) (ao : Option Addr) (cap : Nat), k ≤ T.length ∧ c = .int .i64 k ∧ bs.length = k ∧ wr.heap[w.heap.size]? = some (.cells #[.slice ao k cap] 55 (0, 0)) ∧
      OwnsS wr (w.heap.size + 1) 69 1 (fun k : Nat => [Value.map (some k)]) (.slice ao k cap) bs ∧ (∀ u, u < k → w.heap.size < bs.getD u 0 ∧ MapU wr (bs.getD u 0) (T.getD u [])) ∧ bs.Nodup ∧ Kept (fun _ => False) w wr) (fun c _ => T.length - (intOf c).toNat)
  case atStart => exact ⟨0, [], none, 0, by omega, rfl, rfl, hB.out, OwnsS.nil (by simp), fun u hu => absurd hu (by omega), by simp, (Kept.refl _).alloc _⟩
  case round =>
    obtain ⟨k, bs, ao, cap, hk, rfl, hbl, hblk, hown, hmaps, hnd, hkw⟩ := hrel
    have hw1 : w.heap.size < wr.heap.size := lt_of_block hblk
    have HW := Lib.hid hblk
    have HO := Lib.hid hown
    have HM := Lib.hid hmaps
    have HN := Lib.hid hnd
    have HK := Lib.hid hkw
    have HBL := Lib.hid hbl
    clear hblk hown hmaps hnd hkw hbl hB c0
    by_cases hlt : k < T.length
    · have HR := Lib.hid (H.out.look HK.out)
      obtain ⟨g, hg, cu⟩ := HR.out.at hlt
      rw [hg]
      have c1 := cell_blk HW.out 0
      simp at c1
      have HMk := Lib.hid (HR.out.maps k hlt)
      obtain ⟨B, hB⟩ : ∃ B, S.bs.getD k 0 = B := ⟨_, rfl⟩
      rw [hB] at cu HMk
      clear hg hB
      go_wp2_with fail
      have HMd := Lib.hid (HMk.out.kept ((Kept.refl (M := fun _ => False) wr).drew) id)
      have e1 : wr.drew.heap.size = wr.heap.size := rfl
      have HE1 := Lib.hid e1
      clear e1
      go_region_law (first
        | (refine ite_pos_of (by simp [Region.wanted]) ?_; go_simp; refine (clone_any B (T.getD k []) _ HMd.out).mono ?_; rintro e w1 ⟨rfl, hm1, hk1, hz1⟩; have c2 := hk1.cell c1 id; have HM1 := Lib.hid hm1; have HK1 := Lib.hid hk1.of_drew; have HZ1 := Lib.hid hz1; have hne1 : w.heap.size ≠ w1.heap.size := Nat.ne_of_lt (Nat.lt_of_lt_of_le hw1 hk1.size); have c3 : (w1.alloc (.cells #[.map (some wr.heap.size)] 69)).cell? ⟨w.heap.size, 0, none⟩ = some (.slice ao k cap) := (World.cell?_alloc_old _ _ _ hne1).trans c2; clear hm1 hk1 hz1; go_simp)
        | (refine step_pushS (E := 69) (sz := 1) (f := fun k : Nat => [Value.map (some k)]) (base := w.heap.size + 1) (v := .slice ao k cap) (l := bs) (w := w1) (by rfl) _ _ 53 (by rfl) Try.underlying53 info_map rfl (by decide) (by decide) wr.heap.size (by rfl) (HO.out.look HK1.out) _ (by rfl) _ (by rfl) rfl (by rw [HBL.out]; omega) (by have := HK1.out.size; omega) rfl (by simp [Value.oneCell']) ?_; intro g5 cap5 w5 ho5 hk5 hk5b hk5c; have HB5 := Lib.hid (hk5b.heap (HK1.out.heap HW.out id) (by omega)); have c5 := cell_blk HB5.out 0; have f5 := free_blk HB5.out 0; simp at c5; have HO5 := Lib.hid ho5; have HK5 := Lib.hid hk5; have HK5b := Lib.hid hk5b; have HK5c := Lib.hid hk5c; clear ho5 hk5 hk5b hk5c; go_simp))
      all_goals
        have hset := set_blk HB5.out 0 (.slice (some ⟨g5, 0, none⟩) (bs.length + 1) cap5)
        rw [HBL.out] at hset ⊢
        have K5 := HK5.out _ _ (HK.out.trans HK1.out) (by have := HK1.out.size; omega)
        simp at hset
        obtain ⟨wf, hwf⟩ : ∃ wf, w5.setCell ⟨w.heap.size, 0, none⟩ (.slice (some ⟨g5, 0, none⟩) (k + 1) cap5) = wf := ⟨_, rfl⟩
        have K6 : Kept (· = w.heap.size) w5 wf := by rw [← hwf]; exact (Kept.refl (M := (· = w.heap.size)) w5).own 0 _
        have K7 : Kept (fun _ => False) w wf := by rw [← hwf]; exact K5.fresh (Nat.le_refl _) 0 _
        have ho5 := HO5.out
        rw [HBL.out] at ho5
        rw [hwf] at hset ⊢
        have HSET := Lib.hid hset
        clear hwf hset c1 c2 c5 f5
        go_wp2_with fail
        go_roundw
        case rel =>
          refine ⟨k + 1, bs ++ [wr.heap.size], some ⟨g5, 0, none⟩, cap5, by omega, by go_num, by simp [HBL.out], HSET.out, ho5.keep K6 (by omega), fun u hu => ?_, ?_, K7⟩
          · have hmk : w.heap.size < (bs ++ [wr.heap.size]).getD u 0 ∧ MapU w1 ((bs ++ [wr.heap.size]).getD u 0) (T.getD u []) := by
              rw [getD_snoc, HBL.out]
              by_cases e : u < k
              · rw [if_pos e]; exact ⟨(HM.out u e).1, (HM.out u e).2.kept HK1.out id⟩
              · obtain rfl : u = k := by omega
                rw [if_neg e, if_pos rfl]; exact ⟨hw1, HM1.out⟩
            refine ⟨hmk.1, (hmk.2.kept HK5c.out ?_).kept K6 (by omega)⟩
            intro e
            have hr := HO.out.2
            rcases hr with ⟨h1, _⟩ | ⟨g', c', cur, h1, _, h2, _⟩
            · rw [h1] at e; simp [Value.ownBlock] at e
            · rw [h1] at e
              simp [Value.ownBlock] at e
              obtain ⟨es, cl, hobj⟩ := hmk.2.obj
              rw [List.getD_eq_getElem?_getD, ← e, HK1.out.heap h2 id] at hobj; cases hobj
          · rw [List.nodup_append]
            refine ⟨HN.out, by simp, fun x hx y hy => ?_⟩
            simp at hy
            obtain ⟨u, hu, rfl⟩ := List.getElem_of_mem hx
            have := (HM.out u (by have := HBL.out; omega)).2.lt
            rw [List.getD_eq_getElem?_getD, List.getElem?_eq_getElem hu] at this
            simp at this
            omega
        case measure => simp [intOf]; omega
    · obtain rfl : k = T.length := by omega
      clear hlt hk
      go_wp2_with fail
      go_ret
      refine ⟨⟨w.heap.size, ao, cap, bs⟩, rfl, ⟨HW.out, ?_, HBL.out, fun u hu => (HM.out u hu).2, HN.out⟩, fun x hx => ?_, HK.out⟩
      · exact ⟨HO.out.1, HO.out.2.imp id (fun ⟨g, c, cur, h1, h2, h3⟩ => ⟨g, c, cur, h1, Nat.zero_le _, h3⟩)⟩
      · rcases hx with rfl | ⟨o, hx⟩ | hx
        · exact Nat.le_refl _
        · have hr := HO.out.2
          simp only at hx
          rw [hx] at hr
          rcases hr with ⟨h1, _⟩ | ⟨g', c', cur, h1, h2, _⟩
          · simp at h1
          · simp at h1; omega
        · obtain ⟨u, hu, rfl⟩ := List.getElem_of_mem hx
          have := (HM.out u (by have := HBL.out; simp only at hu; omega)).1
          simp only at hu
          rw [List.getD_eq_getElem?_getD, List.getElem?_eq_getElem hu] at this
          simp at this
          simp only
          omega
end Go.Proofs.Ythgioaaenfdcdaa
