/- Package verdict, walked: a set's bytes, a verdict's key. -/
import Derived.Test.YtffjighohloifaaKey
import Derived.Test.YtffjighohloifaaRegInv
namespace Go.Proofs.Ytffjighohloifaa
open Go.RowKit

def setCells (s : SetV) (ad : Option Addr) (cd : Nat) : List Value := [.string s.name, .int .u16 s.ty, .int .u16 s.cl, .int .u32 s.ttl, .slice ad s.data.length cd]
/-- A row of sets reads as they say. -/
def SetsAt (w : World) (ao : Option Addr) (l : List SetV) (P : Nat → Prop) : Prop :=
  ∀ i (hi : i < l.length), ∃ a off ad cd, ao = some ⟨a, off, none⟩ ∧ P a ∧ (∀ j, j < 5 → w.cell? ⟨a, off + i * 5 + j, none⟩ = (setCells l[i] ad cd)[j]?) ∧ StrsAt w ad l[i].data P
section
variable {w w' : World} {ao : Option Addr} {P Q M : Nat → Prop}
theorem StrsAt.kept {l : List ByteArray} (h : StrsAt w ao l P) (k : Kept M w w') (hd : ∀ b, b < w.heap.size → P b → ¬ M b) : StrsAt w' ao l P := by
  rcases h with h | ⟨a, off, e, hp, hc⟩
  · exact .inl h
  · refine .inr ⟨a, off, e, hp, fun i hi => ?_⟩
    have h0 := hc i hi
    have hv : (l.map Value.string)[i]? = some ((l.map Value.string)[i]) := List.getElem?_eq_getElem hi
    rw [hv] at h0 ⊢
    exact k.cell h0 (hd _ (World.block_lt_of_cell? _ _ h0) hp)
theorem StrsAt.mono {l : List ByteArray} (h : StrsAt w ao l P) (hd : ∀ b, b < w.heap.size → P b → Q b) : StrsAt w ao l Q := by
  rcases h with h | ⟨a, off, e, hp, hc⟩
  · exact .inl h
  · by_cases hl : l.map Value.string = []
    · exact .inl hl
    · have h0 := hc 0 (List.length_pos_iff.2 hl)
      have hv : (l.map Value.string)[0]? = some ((l.map Value.string)[0]'(List.length_pos_iff.2 hl)) := List.getElem?_eq_getElem _
      rw [hv] at h0
      exact .inr ⟨a, off, e, hd a (World.block_lt_of_cell? _ _ h0) hp, hc⟩
theorem SetsAt.kept {l : List SetV} (h : SetsAt w ao l P) (k : Kept M w w') (hd : ∀ b, b < w.heap.size → P b → ¬ M b) : SetsAt w' ao l P := by
  intro i hi
  obtain ⟨a, off, ad, cd, e, hp, hc, hs⟩ := h i hi
  refine ⟨a, off, ad, cd, e, hp, fun j hj => ?_, hs.kept k hd⟩
  have h0 := hc j hj
  have hv : (setCells l[i] ad cd)[j]? = some ((setCells l[i] ad cd)[j]'hj) := List.getElem?_eq_getElem hj
  rw [hv] at h0 ⊢
  exact k.cell h0 (hd _ (World.block_lt_of_cell? _ _ h0) hp)
theorem SetsAt.mono {l : List SetV} (h : SetsAt w ao l P) (hd : ∀ b, b < w.heap.size → P b → Q b) : SetsAt w ao l Q := by
  intro i hi
  obtain ⟨a, off, ad, cd, e, hp, hc, hs⟩ := h i hi
  have h0 := hc 0 (by decide)
  exact ⟨a, off, ad, cd, e, hd a (World.block_lt_of_cell? (u := .string l[i].name) _ _ h0) hp, hc, hs.mono hd⟩
theorem SetsAt.nil (w : World) (ao : Option Addr) (P : Nat → Prop) : SetsAt w ao [] P := fun i hi => absurd hi (by simp)
theorem SetsAt.look {l : List SetV} (h : SetsAt w ao l P) (k : Kept (fun _ => False) w w') : SetsAt w' ao l P := h.kept k (fun _ _ _ => id)
theorem StrsAt.look {l : List ByteArray} (h : StrsAt w ao l P) (k : Kept (fun _ => False) w w') : StrsAt w' ao l P := h.kept k (fun _ _ _ => id)
theorem SetsAt.at {l : List SetV} (h : SetsAt w ao l P) {i : Nat} (hi : i < l.length) : ∃ a off ad cd, ao = some ⟨a, off, none⟩ ∧ P a ∧ w.cell? ⟨a, off + i * 5, none⟩ = some (.string l[i].name) ∧ w.cell? ⟨a, off + i * 5 + 1, none⟩ = some (.int .u16 l[i].ty) ∧
    w.cell? ⟨a, off + i * 5 + 2, none⟩ = some (.int .u16 l[i].cl) ∧ w.cell? ⟨a, off + i * 5 + 3, none⟩ = some (.int .u32 l[i].ttl) ∧ w.cell? ⟨a, off + i * 5 + 4, none⟩ = some (.slice ad l[i].data.length cd) ∧ StrsAt w ad l[i].data P := by
  obtain ⟨a, off, ad, cd, e, hp, hc, hs⟩ := h i hi
  exact ⟨a, off, ad, cd, e, hp, hc 0 (by decide), hc 1 (by decide), hc 2 (by decide), hc 3 (by decide), hc 4 (by decide), hs⟩
end
/-- What is asked of a set: its numbers are none below 0, its bytes are few. -/
structure SetV.ok (s : SetV) : Prop where
  ty : 0 ≤ s.ty ∧ s.ty ≤ 65535
  cl : 0 ≤ s.cl ∧ s.cl ≤ 65535
  len : ((setB s).length : Int) ≤ 1000000
theorem mem_flatten_le {α β : Type} (f : α → List β) {l : List α} {x : α} (h : x ∈ l) : (f x).length ≤ (l.map f).flatten.length := by
  induction l with
  | nil => simp at h
  | cons a r ih =>
    simp only [List.map_cons, List.flatten_cons, List.length_append]
    rcases List.mem_cons.1 h with rfl | h
    · omega
    · have := ih h; omega
theorem flatten_len_ge {α β : Type} (f : α → List β) (l : List α) (h : ∀ x ∈ l, 1 ≤ (f x).length) : l.length ≤ (l.map f).flatten.length := by
  induction l with
  | nil => simp
  | cons a r ih =>
    simp only [List.map_cons, List.flatten_cons, List.length_append, List.length_cons]
    have := ih (fun x hx => h x (List.mem_cons_of_mem _ hx))
    have := h a List.mem_cons_self
    omega
theorem setB_lens {s : SetV} (h : ((setB s).length : Int) ≤ 1000000) : (s.name.size : Int) + 4 + (textsB s.data).length ≤ 1000000 ∧ ((textsB s.data).length : Int) ≤ 1000000 ∧ (∀ x ∈ s.data, (x.size : Int) ≤ 1000000) ∧ (s.data.length : Int) ≤ 1000000 := by
  have e : (setB s).length = s.name.size + 2 + 2 + (textsB s.data).length := by
    simp only [setB, List.length_append, twoB_len]; rfl
  have e2 : (textsB s.data).length = 2 + (s.data.map textB).flatten.length := by simp only [textsB, List.length_append, twoB_len]
  refine ⟨by omega, by omega, fun x hx => ?_, ?_⟩
  · have := mem_flatten_le textB hx
    have := textB_len x
    omega
  · have := flatten_len_ge textB s.data (fun x _ => by rw [textB_len]; omega)
    omega
set_option maxRecDepth 100000 in
set_option maxHeartbeats 1000000 in
theorem putSet_any (s : SetV) (ad : Option Addr) (cd : Nat) (w : World) (hok : s.ok) (hd : StrsAt w ad s.data (fun _ => True)) : Calls Try.prog 66 #[.agg #[.string s.name, .int .u16 s.ty, .int .u16 s.cl, .int .u32 s.ttl, .slice ad s.data.length cd]] w fun e w' => e = .returned (strB (setB s)) ∧ Kept (fun _ => False) w w' := by
  obtain ⟨⟨ty0, ty1⟩, ⟨cl0, cl1⟩, hlen⟩ := hok
  obtain ⟨hn, hl, hs, hll⟩ := setB_lens hlen
  have hw1 : IntKind.i64.wrap s.ty = s.ty := by rw [IntKind.wrap_i64]; omega
  have hw2 : IntKind.i64.wrap s.cl = s.cl := by rw [IntKind.wrap_i64]; omega
  have HD := Lib.hid hd
  have HS := Lib.hid hs
  have HBx := Lib.hid (show strB (setB s) = strB (s.name.data.toList ++ twoB s.ty.toNat ++ twoB s.cl.toNat ++ textsB s.data) from rfl)
  have htw : ∀ n, (twoB n).length = 2 := twoB_len
  have hsb := new_blk w (.cells #[.string s.name, .int .u16 s.ty, .int .u16 s.cl, .int .u32 s.ttl, .slice ad s.data.length cd] 103)
  have K0 := Lib.hid ((Kept.refl (M := fun _ => False) w).alloc (.cells #[.string s.name, .int .u16 s.ty, .int .u16 s.cl, .int .u32 s.ttl, .slice ad s.data.length cd] 103))
  obtain ⟨w0, hw0⟩ : ∃ w0, w.alloc (.cells #[.string s.name, .int .u16 s.ty, .int .u16 s.cl, .int .u32 s.ttl, .slice ad s.data.length cd] 103) = w0 := ⟨_, rfl⟩
  rw [hw0] at hsb K0
  have c0 := cell_blk hsb 0
  have c1 := cell_blk hsb 1
  have c2 := cell_blk hsb 2
  have c4 := cell_blk hsb 4
  simp at c0 c1 c2 c4
  obtain ⟨T, hT⟩ : ∃ T, textsB s.data = T := ⟨_, rfl⟩
  have HT := Lib.hid hT
  rw [hT] at hn hl
  obtain ⟨N, hN⟩ : ∃ N, s.name = N := ⟨_, rfl⟩
  have HN := Lib.hid hN
  rw [hN] at hn c0
  have h6 : ¬ (9223372036854775807 < N.size + 2) := by omega
  have h7 : ¬ (9223372036854775807 < N.size + 2 + 2) := by omega
  have h8 : ¬ (9223372036854775807 < N.size + 2 + 2 + T.length) := by omega
  have HW0 := Lib.hid hw0
  clear hd hs hsb hlen hT hN hw0
  go_enter Try.func66, Try.ntmps66
  go_wp2_with fail
  rw [HW0.out]
  rw [HN.out]
  refine wp_region_inv (?v0 :: ?v1 :: ?v2 :: ?v3 :: ?v4 :: ?v5 :: ?v6 :: ?v7 :: ?v8 :: ?v9 :: ?v10 :: ?v11 :: ?v12 :: ?v13 :: ?v14 :: ?v15 :: ?v16 :: []) (fun wx => Kept (fun _ => False) w0 wx) (by kernel_rfl) (by kernel_rfl) [some 3, some 4, some 5, some 6, some 7, some 8, some 9, some 10, some 11, some 12, some 13, some 14, some 15, some 16, some 17, some 18, some 2] rfl rfl ?vA ?vhA ?vh0 ?vH ?vhQ
  case vhA => simp only [laidAll, Act.put, List.setIfInBounds_toArray, List.set_cons_zero, List.set_cons_succ]; exact rfl
  case vH =>
    iterate 5 (refine ⟨?_, ?_⟩; · first | (refine OpStep.yields (Or.inr ⟨by rfl, ?_⟩); rfl) | (refine OpStep.yields (Or.inl ⟨by rfl, ?_⟩); intro w; go_simp; (try with_reducible rfl); done) | (refine OpStep.reads (by rfl) ?_; intro wx hI; have q0 := hI.cell c0 id; have q1 := hI.cell c1 id; have q2 := hI.cell c2 id; have q4 := hI.cell c4 id; go_simp; (try with_reducible rfl); done))
    refine ⟨?_, ?_⟩
    · refine OpStep.calls ?vf5 ?vg5 (by rfl) ?vr5 ?vc5
      case vr5 => intro w _; go_simp; first | (refine ⟨?_, ?_⟩ <;> with_reducible rfl) | with_reducible rfl
      case vc5 =>
        intro wx hI
        refine (two_int s.ty ty0 _).mono ?_
        rintro e w' ⟨rfl, hk⟩
        refine ⟨?_, hI.trans hk⟩
        with_reducible rfl
    iterate 4 (refine ⟨?_, ?_⟩; · first | (refine OpStep.yields (Or.inr ⟨by rfl, ?_⟩); rfl) | (refine OpStep.yields (Or.inl ⟨by rfl, ?_⟩); intro w; go_simp; (try with_reducible rfl); done) | (refine OpStep.reads (by rfl) ?_; intro wx hI; have q0 := hI.cell c0 id; have q1 := hI.cell c1 id; have q2 := hI.cell c2 id; have q4 := hI.cell c4 id; go_simp; (try with_reducible rfl); done))
    refine ⟨?_, ?_⟩
    · refine OpStep.calls ?vf10 ?vg10 (by rfl) ?vr10 ?vc10
      case vr10 => intro w _; go_simp; first | (refine ⟨?_, ?_⟩ <;> with_reducible rfl) | with_reducible rfl
      case vc10 =>
        intro wx hI
        refine (two_int s.cl cl0 _).mono ?_
        rintro e w' ⟨rfl, hk⟩
        refine ⟨?_, hI.trans hk⟩
        with_reducible rfl
    iterate 3 (refine ⟨?_, ?_⟩; · first | (refine OpStep.yields (Or.inr ⟨by rfl, ?_⟩); rfl) | (refine OpStep.yields (Or.inl ⟨by rfl, ?_⟩); intro w; go_simp; (try with_reducible rfl); done) | (refine OpStep.reads (by rfl) ?_; intro wx hI; have q0 := hI.cell c0 id; have q1 := hI.cell c1 id; have q2 := hI.cell c2 id; have q4 := hI.cell c4 id; go_simp; (try with_reducible rfl); done))
    refine ⟨?_, ?_⟩
    · refine OpStep.calls ?vf14 ?vg14 (by rfl) ?vr14 ?vc14
      case vr14 => intro w _; go_simp; first | (refine ⟨?_, ?_⟩ <;> with_reducible rfl) | with_reducible rfl
      case vc14 =>
        intro wx hI
        refine (putTexts_any ad s.data cd _ ((HD.out.look K0.out).look hI) (by rw [HT.out]; exact hl) HS.out hll).mono ?_
        rintro e w' ⟨rfl, hk⟩
        rw [HT.out]
        refine ⟨?_, hI.trans hk⟩
        with_reducible rfl
    iterate 2 (refine ⟨?_, ?_⟩; · first | (refine OpStep.yields (Or.inr ⟨by rfl, ?_⟩); rfl) | (refine OpStep.yields (Or.inl ⟨by rfl, ?_⟩); intro w; go_simp; (try with_reducible rfl); done) | (refine OpStep.reads (by rfl) ?_; intro wx hI; have q0 := hI.cell c0 id; have q1 := hI.cell c1 id; have q2 := hI.cell c2 id; have q4 := hI.cell c4 id; go_simp; (try with_reducible rfl); done))
    exact trivial
  case vh0 => exact (Kept.refl _).drew
  case vhQ =>
    intro wx hI
    have KI := Lib.hid hI
    clear hI
    go_wp2_with fail
    go_ret
    refine ⟨?_, K0.out.trans KI.out⟩
    rw [HBx.out, HN.out, HT.out, ← data_cat, ← data_cat, str_cat]
    rfl
end Go.Proofs.Ytffjighohloifaa
