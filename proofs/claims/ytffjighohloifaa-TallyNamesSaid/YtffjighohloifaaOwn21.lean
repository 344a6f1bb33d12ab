/- tally.own: a verdict in memory of its own. -/
import Derived.Test.YtffjighohloifaaKey3
import Derived.Test.YtffjighohloifaaClones21
import Derived.Test.YtffjighohloifaaTab
import Derived.Deep.RegionLaw
namespace Go.Proofs.Ytffjighohloifaa
open Go.RowKit

/-- A set, and where its data lie. -/
structure SetM where
  s : SetV
  ad : Option Addr
  cd : Nat
def SetM.cells (x : SetM) : List Value := setCells x.s x.ad x.cd
theorem SetM.cells_len (x : SetM) : x.cells.length = 5 := rfl
theorem SetM.one (x : SetM) : ∀ u ∈ x.cells, u.oneCell' = true := by
  intro u hu
  simp only [SetM.cells, setCells, List.mem_cons, List.not_mem_nil, or_false] at hu
  rcases hu with rfl | rfl | rfl | rfl | rfl <;> rfl
theorem SetsAt.mem {w : World} {ao : Option Addr} {l : List SetV} {P : Nat → Prop} (h : SetsAt w ao l P) : ∃ lm : List SetM, lm.map (·.s) = l ∧ (∀ x ∈ lm, StrsAt w x.ad x.s.data P) ∧ (l.length = 0 ∨ ∃ ad, ao = some ad ∧ ∀ j u, (lm.map SetM.cells).flatten[j]? = some u → w.cell? (ad.add j) = some u) := by
  have key : ∀ i, ∃ q : Option Addr × Nat, ∀ hi : i < l.length, ∃ a off, ao = some ⟨a, off, none⟩ ∧ (∀ j, j < 5 → w.cell? ⟨a, off + i * 5 + j, none⟩ = (setCells l[i] q.1 q.2)[j]?) ∧ StrsAt w q.1 l[i].data P := by
    intro i
    by_cases hi : i < l.length
    · obtain ⟨a, off, ad, cd, e, _, hc, hs⟩ := h i hi
      exact ⟨(ad, cd), fun _ => ⟨a, off, e, hc, hs⟩⟩
    · exact ⟨(none, 0), fun h => absurd h hi⟩
  let lm := (List.range l.length).attach.map (fun i => (⟨l[i.1]'(List.mem_range.1 i.2), (Classical.choose (key i.1)).1, (Classical.choose (key i.1)).2⟩ : SetM))
  have hlen : lm.length = l.length := by simp [lm]
  have hget : ∀ i (hi : i < lm.length), lm[i] = (⟨l[i]'(by omega), (Classical.choose (key i)).1, (Classical.choose (key i)).2⟩ : SetM) := by
    intro i hi; simp [lm]
  refine ⟨lm, ?_, ?_, ?_⟩
  · refine List.ext_getElem (by simp [hlen]) fun i h1 h2 => ?_
    rw [List.getElem_map, hget]
  · intro x hx
    obtain ⟨i, hi, rfl⟩ := List.getElem_of_mem hx
    rw [hget]
    obtain ⟨_, _, _, _, hs⟩ := Classical.choose_spec (key i) (by omega)
    exact hs
  · by_cases h0 : l.length = 0
    · exact .inl h0
    · obtain ⟨a, off, ha, _⟩ := Classical.choose_spec (key 0) (by omega)
      refine .inr ⟨_, ha, fun j u hu => ?_⟩
      have hr : ∀ r ∈ lm.map SetM.cells, r.length = 5 := by intro r hr; obtain ⟨x, _, rfl⟩ := List.mem_map.1 hr; rfl
      have hj : j < lm.length * 5 := by
        have := (List.getElem?_eq_some_iff.1 hu).1
        rw [flatten_length _ hr, List.length_map] at this; exact this
      have hq : j / 5 < lm.length := Nat.div_lt_of_lt_mul (by omega)
      have e1 := flatten_get (lm.map SetM.cells) hr (j / 5) (j % 5) (by simpa using hq) (Nat.mod_lt _ (by decide))
      rw [show j / 5 * 5 + j % 5 = j by omega] at e1
      rw [e1, List.getElem_map, hget] at hu
      obtain ⟨a', off', ha', hc, _⟩ := Classical.choose_spec (key (j / 5)) (by omega)
      rw [ha] at ha'
      simp only [Option.some.injEq, Addr.mk.injEq, and_true] at ha'
      obtain ⟨rfl, rfl⟩ := ha'
      rw [addr_add, ← hu]
      have := hc (j % 5) (Nat.mod_lt _ (by decide))
      rw [show off + j / 5 * 5 + j % 5 = off + j by omega] at this
      exact this
theorem StrsAt.of_own {w : World} {base : Nat} {ao : Option Addr} {n cap : Nat} {l : List ByteArray} (h : w.ownsRow base 9 1 (.slice ao n cap) n (l.map Value.string)) : StrsAt w ao l (base ≤ ·) := by
  rcases h.2 with ⟨h1, h2⟩ | ⟨g, c, cur, hv, hb, hg, hn, hc, hs, ht⟩
  · refine .inl ?_
    have := h.1
    exact List.eq_nil_of_length_eq_zero (by omega)
  · simp at hv
    obtain ⟨rfl, rfl⟩ := hv
    refine .inr ⟨g, 0, rfl, hb, fun i hi => ?_⟩
    have := h.1
    rw [cell_blk hg, ← ht, List.getElem?_take, if_pos (by omega), Nat.zero_add]; simp
theorem Tab.of_own {α : Type} {w : World} {base sz n cap : Nat} {E : TypeId} {f : α → List Value} {l : List α} {ao : Option Addr} (h : w.ownsRow base E sz (.slice ao n cap) n (l.map f).flatten) (hf : ∀ x ∈ l, (f x).length = sz) (hn : 0 < n) : ∃ g, ao = some ⟨g, 0, none⟩ ∧ base ≤ g ∧ Tab w g E sz f l := by
  rcases h.2 with ⟨_, h2⟩ | ⟨g, c, cur, hv, hb, hg, _, hc, hs, ht⟩
  · omega
  · simp at hv
    obtain ⟨rfl, rfl⟩ := hv
    refine ⟨g, rfl, hb, Tab.of_blk (tail := cur.toList.drop (n * sz)) ?_ hf⟩
    unfold Blk
    rw [← ht, List.take_append_drop]
    simpa using hg
theorem SetsAt.of_tab {w : World} {g : Nat} {P : Nat → Prop} {lm : List SetM} (h : Tab w g 103 5 SetM.cells lm) (hp : P g) (hs : ∀ x ∈ lm, StrsAt w x.ad x.s.data P) : SetsAt w (some ⟨g, 0, none⟩) (lm.map (·.s)) P := by
  intro i hi
  have hi' : i < lm.length := by simpa using hi
  refine ⟨g, 0, lm[i].ad, lm[i].cd, rfl, hp, fun j hj => ?_, ?_⟩
  · rw [Nat.zero_add, h.cell i j hi' hj]
    simp [SetM.cells]
  · simpa using hs _ (List.getElem_mem hi')
set_option maxRecDepth 100000 in
set_option maxHeartbeats 1000000 in
theorem own1_any (ao : Option Addr) (l : List SetV) (cap : Nat) (w : World) (h : SetsAt w ao l (fun _ => True)) (hl : (l.length : Int) ≤ 1000000) (hd : ∀ s ∈ l, (s.data.length : Int) ≤ 1000000) :
    Calls Try.prog 61 #[.slice ao l.length cap] w fun e w' => ∃ ao' cap', e = .returned (.slice ao' l.length cap') ∧ SetsAt w' ao' l (w.heap.size ≤ ·) ∧ Kept (fun _ => False) w w' := by
  obtain ⟨lm, hlm, hstr, hcl⟩ := h.mem
  have hlen : lm.length = l.length := by rw [← hlm]; simp
  have HS := Lib.hid (fun x hx => (hstr x hx).mono (Q := (· < w.heap.size)) (fun b hb _ => hb))
  have HD := Lib.hid (show ∀ x ∈ lm, (x.s.data.length : Int) ≤ 1000000 from fun x hx => hd x.s (by rw [← hlm]; exact List.mem_map.2 ⟨x, hx, rfl⟩))
  have HC := Lib.hid hcl
  have HM := Lib.hid hlm
  have hcells : ((lm.map SetM.cells).flatten).length = l.length * 5 := by
    rw [flatten_length (sz := 5) _ (by intro r hr; obtain ⟨x, _, rfl⟩ := List.mem_map.1 hr; rfl), List.length_map, hlen]
  have HCL := Lib.hid hcells
  have HONE := Lib.hid (show ∀ u ∈ (lm.map SetM.cells).flatten, u.oneCell' = true from fun u hu => by
    obtain ⟨r, hr, hu⟩ := List.mem_flatten.1 hu
    obtain ⟨x, _, rfl⟩ := List.mem_map.1 hr
    exact x.one u hu)
  clear h hstr hcl hlm hcells hd
  go_enter Try.func61, Try.ntmps61
  go_wp2_with fail
  refine (cloneSet_any ao l.length cap _ w HCL.out HC.out HONE.out hl).mono ?_
  rintro e w1 ⟨ao1, cap1, rfl, ho, hk⟩
  have HO := Lib.hid ho
  have K1 := Lib.hid hk
  clear ho hk HC HCL HONE
  by_cases h0 : l.length = 0
  · have hln := List.eq_nil_of_length_eq_zero h0
    subst hln
    go_wp2_with fail
    refine wp_loop_rounds 1 ?_
    rw [rounds_succ]
    go_wp2_with fail
    go_ret
    exact ⟨ao1, cap1, rfl, SetsAt.nil _ _ _, K1.out⟩
  obtain ⟨g, rfl, hg, htab⟩ := Tab.of_own HO.out (fun x _ => x.cells_len) (by omega)
  have HT := Lib.hid htab
  clear htab HO
  go_wp2_with fail
  go_loopw [4, 9] (fun _ c wr => ∃ (k : Nat) (nw : List SetM), k ≤ l.length ∧ c = .int .i64 k ∧ nw.length = k ∧ nw.map (·.s) = l.take k ∧ (∀ x ∈ nw, StrsAt wr x.ad x.s.data (g < ·)) ∧ Tab wr g 103 5 SetM.cells (nw ++ lm.drop k) ∧ Kept (fun _ => False) w wr) (fun _ c _ => l.length - (intOf c).toNat)
  case atStart => exact ⟨0, [], by omega, rfl, rfl, by simp, by simp, HT.out, K1.out⟩
  case round =>
    clear HT K1
    obtain ⟨k, nw, hk, rfl, hnw, hns, hnstr, htab, hkw⟩ := hrel
    have HT := Lib.hid htab
    have KW := Lib.hid hkw
    have HN := Lib.hid hnstr
    have HNS := Lib.hid hns
    have HNW := Lib.hid hnw
    have hgw := htab.lt
    clear htab hkw hnstr hns hnw
    by_cases hlt : k < l.length
    · have hkl : k < lm.length := by omega
      have hix : k < (nw ++ lm.drop k).length := by have := HNW.out; simp; omega
      have hel : (nw ++ lm.drop k)[k] = lm[k] := by
        have := HNW.out
        rw [List.getElem_append_right (by omega), List.getElem_drop]
        congr 1; omega
      have c4 := HT.out.cell k 4 hix (by decide)
      have f4 := HT.out.free (k * 5 + 4)
      rw [hel] at c4
      have hstk := (HS.out lm[k] (List.getElem_mem hkl)).kept KW.out (fun _ _ _ => id)
      have hdk := HD.out lm[k] (List.getElem_mem hkl)
      have HSM := Lib.hid (show lm[k].s = l[k] from by have h1 := HM.out; simp only [← h1, List.getElem_map])
      have HEL := Lib.hid (show (nw ++ lm.drop k)[k]? = some lm[k] from by rw [List.getElem?_eq_getElem hix, hel])
      obtain ⟨x, hx⟩ : ∃ x, lm[k] = x := ⟨_, rfl⟩
      rw [hx] at c4 hstk hdk HSM HEL
      have HX := Lib.hid hx
      simp [SetM.cells, setCells] at c4
      have i0 : (0 : Int) ≤ (k : Int) := Int.natCast_nonneg _
      have i1 : (k : Int) < (l.length : Int) := by omega
      have HST := Lib.hid hstk
      clear hstk hel hx hix
      go_wp2_with fail
      refine (cloneStr_any x.ad x.s.data.length x.cd (x.s.data.map .string) _ (by simp) ?_ (by intro u hu; obtain ⟨y, _, rfl⟩ := List.mem_map.1 hu; rfl) hdk).mono ?_
      · rcases HST.out with h | ⟨a, off, e, _, hc⟩
        · refine .inl ?_
          have := congrArg List.length h
          simpa using this
        · exact .inr ⟨_, e, fun j u hu => by rw [addr_add, hc j (List.getElem?_eq_some_iff.1 hu).1, hu]⟩
      rintro e w2 ⟨ao2, cap2, rfl, ho2, hk2⟩
      have HT2 := Lib.hid (HT.out.kept hk2 id)
      have HST2 := Lib.hid (StrsAt.of_own ho2)
      have K2 := Lib.hid (KW.out.trans hk2)
      have HK2 := Lib.hid hk2
      have c42 := hk2.cell c4 id
      have f42 := HT2.out.free (k * 5 + 4)
      have hz2 := hk2.size
      clear ho2 hk2 c4 f4
      go_wp2_with fail
      have hix : k < (nw ++ lm.drop k).length := by have := HNW.out; simp; omega
      have hel' : (nw ++ lm.drop k)[k] = x := (List.getElem?_eq_some_iff.1 HEL.out).2
      have ht := HT2.out.set k 4 hix (by decide) (.slice ao2 x.s.data.length cap2) ⟨x.s, ao2, cap2⟩ (by rw [hel']; rfl)
      have K3 : Kept (· = g) w2 (w2.setCell ⟨g, k * 5 + 4, none⟩ (.slice ao2 x.s.data.length cap2)) := (Kept.refl _).own _ _
      obtain ⟨w3, hw3⟩ : ∃ w3, w2.setCell ⟨g, k * 5 + 4, none⟩ (.slice ao2 x.s.data.length cap2) = w3 := ⟨_, rfl⟩
      rw [hw3] at ht K3 ⊢
      go_roundw
      case measure => simp [intOf]; omega
      case rel =>
        have hb := K2.out.size
        have hw1 := hg
        have hwb : w.heap.size ≤ g := by omega
        refine ⟨k + 1, nw ++ [⟨x.s, ao2, cap2⟩], by omega, by go_num, by simp [HNW.out], ?_, fun y hy => ?_, ?_, K2.out.new K3 hwb⟩
        · rw [List.map_append, HNS.out, List.take_succ_eq_append_getElem hlt, ← HSM.out]; rfl
        · rcases List.mem_append.1 hy with hy | hy
          · exact ((HN.out y hy).look HK2.out).kept K3 (fun b _ hb e => by omega)
          · simp at hy
            subst hy
            exact (HST2.out.kept K3 (fun b _ hb e => by omega)).mono (fun b _ hb => by omega)
        · have e : (nw ++ lm.drop k).set k ⟨x.s, ao2, cap2⟩ = nw ++ [⟨x.s, ao2, cap2⟩] ++ lm.drop (k + 1) := by
            have := HNW.out
            rw [List.set_append_right _ _ (by omega), this, Nat.sub_self, List.drop_eq_getElem_cons hkl, List.set_cons_zero]; simp
          rw [← e]; exact ht
    · obtain rfl : k = l.length := by omega
      have hns := HNS.out
      have ht := HT.out
      rw [List.take_length] at hns
      rw [List.drop_eq_nil_of_le (by omega), List.append_nil] at ht
      have HT' := Lib.hid (SetsAt.of_tab (P := (w.heap.size ≤ ·)) ht (by omega) (fun y hy => (HN.out y hy).mono (fun b _ hb => by omega)))
      rw [hns] at HT'
      clear hns ht
      go_wp2_with fail
      go_ret
      exact ⟨_, cap1, rfl, HT'.out, KW.out⟩
end Go.Proofs.Ytffjighohloifaa
