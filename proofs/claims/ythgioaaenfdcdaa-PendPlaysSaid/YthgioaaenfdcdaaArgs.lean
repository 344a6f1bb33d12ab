/- What is known of an argument that is a slice of whatever, or a struct of fields: its cells, and that each element reads as data. -/
import Derived.Test.YthgioaaenfdcdaaBase
import Derived.Deep.Slices
import Derived.Deep.Fields
namespace Go.Proofs.Ythgioaaenfdcdaa
open Go.RowKit Go.Deep Go.ChangeShapes Go.WideShapes

/-- The reading of an argument, at some fuel. -/
def Reads {H : Type} (enc : TypeId × Value → H) (P : Program) (W : World) (t : TypeId) (cs : List Value) : Prop :=
  ∃ fuel x, DataW.trod enc P W 0 (fun _ => true) true fuel t cs = some x
theorem Reads.of {H : Type} {enc : TypeId × Value → H} {P : Program} {W : World} {t : TypeId} {v : Value} {d : DataW H} {p : List MemPlace} (h : DataW.Trod enc P W 0 (fun _ => true) true t v d p) : Reads enc P W t v.cells.toList := by
  obtain ⟨fuel, hf⟩ := h
  exact ⟨fuel, _, hf⟩
theorem Reads.int {H : Type} {enc : TypeId × Value → H} {P : Program} {W : World} {t : TypeId} {cs : List Value} {k : IntKind} (h : Reads enc P W t cs) (ht : P.underlying t = some (.int k)) : ∃ n, cs = [.int k n] ∧ (Lit.int k n).wf = true := by
  obtain ⟨fuel, x, hf⟩ := h
  obtain ⟨n, h1, _, h2⟩ := DataW.trod_int ht hf
  exact ⟨n, h1, h2⟩
/-- A struct of fields of one cell each: every cell reads as its field. -/
theorem Reads.struct {H : Type} {enc : TypeId × Value → H} {P : Program} {W : World} {t : TypeId} {cs : List Value} {fs : Array Field} (h : Reads enc P W t cs) (ht : P.underlying t = some (.struct fs)) (hone : oneCellFields P fs = true) (hC : P.cellsOf t = fs.size) :
    cs.length = fs.size ∧ ∀ (i : Nat) (f : Field), fs[i]? = some f → ∃ v, cs[i]? = some v ∧ Reads enc P W f.type [v] := by
  obtain ⟨fuel, x, hf⟩ := h
  obtain ⟨xs, n, _, _, hl, hxl, hg⟩ := DataW.trod_struct ht hf
  refine ⟨hl.trans hC, fun i f hi => ?_⟩
  obtain ⟨ho, hc⟩ := hone_of hone i f hi
  have hlt : i < fs.size := (Array.getElem?_eq_some_iff.1 hi).1
  have hg := hg i f hi
  have hil : i < cs.length := by omega
  rw [ho, hc, List.drop_eq_getElem_cons hil] at hg
  have hx : xs[i]? = some (xs[i]'(by omega)) := List.getElem?_eq_getElem (by omega)
  exact ⟨cs[i], List.getElem?_eq_getElem hil, n, _, by rw [hx] at hg; exact hg⟩
/-- The types of a struct's fields, where each is of one cell. -/
def fieldTypes (P : Program) (t : TypeId) : Option (List TypeId) := match P.underlying t with
  | some (.struct fs) => if oneCellFields P fs && P.cellsOf t == fs.size then some (fs.toList.map (·.type)) else none
  | _ => none
theorem Reads.fields {H : Type} {enc : TypeId × Value → H} {P : Program} {W : World} {t : TypeId} {cs : List Value} {ts : List TypeId} (h : Reads enc P W t cs) (ht : fieldTypes P t = some ts) :
    cs.length = ts.length ∧ ∀ (i : Nat) (T : TypeId), ts[i]? = some T → ∃ v, cs[i]? = some v ∧ Reads enc P W T [v] := by
  unfold fieldTypes at ht
  split at ht
  · rename_i fs hu
    split at ht
    · rename_i hc
      simp only [Bool.and_eq_true, beq_iff_eq] at hc
      simp only [Option.some.injEq] at ht
      subst ht
      obtain ⟨h1, h2⟩ := h.struct hu hc.1 hc.2
      refine ⟨by simp [h1], fun i T hi => ?_⟩
      simp only [List.getElem?_map, Option.map_eq_some_iff] at hi
      obtain ⟨f, hf, rfl⟩ := hi
      exact h2 i f (by simpa using hf)
    · cases ht
  · cases ht
/-- A slice: where its elements lie, and that each reads. -/
theorem Reads.slice {H : Type} {enc : TypeId × Value → H} {P : Program} {W : World} {t e : TypeId} {a : Option Addr} {len cap n : Nat} (h : Reads enc P W t [.slice a len cap]) (ht : P.underlying t = some (.slice e)) (hC : P.cellsOf e = n) (hn : 0 < n) :
    len ≤ cap ∧ cap ≤ maxLen ∧ ∃ E : Nat → List Value, ∀ i, i < len → (E i).length = n ∧ (∃ b o, a = some ⟨b, o, none⟩ ∧ b < W.heap.size ∧ ∀ j, j < n → W.cell? ⟨b, o + i * n + j, none⟩ = (E i)[j]?) ∧ Reads enc P W e (E i) := by
  obtain ⟨fuel, x, hf⟩ := h
  rcases open_slice ht hf with ⟨hcs, _⟩ | ⟨a', len', cap', m, k, D, Pl, hcs, _, hl, hm, hmm, _, hi⟩
  · simp at hcs
    obtain ⟨rfl, rfl, rfl⟩ := hcs
    exact ⟨Nat.le_refl _, by unfold maxLen; omega, fun _ => [], fun i hi => absurd hi (by omega)⟩
  · simp at hcs
    obtain ⟨rfl, rfl, rfl⟩ := hcs
    simp only [if_true] at hmm
    subst hmm
    refine ⟨hl, hm, ?_⟩
    have key : ∀ i, ∃ cs : List Value, i < len → cs.length = n ∧ (∃ b o, some a' = some (⟨b, o, none⟩ : Addr) ∧ b < W.heap.size ∧ ∀ j, j < n → W.cell? ⟨b, o + i * n + j, none⟩ = cs[j]?) ∧ Reads enc P W e cs := by
      intro i
      by_cases hlt : i < len
      · obtain ⟨cs, hc, ht'⟩ := hi i (by omega)
        rw [hC] at hc
        obtain ⟨_, hcl, hat⟩ := World.cells?_some hc
        refine ⟨cs, fun _ => ⟨hcl, ?_, k, _, ht'⟩⟩
        have h0 := hat 0 hn
        have hc0 : cs[0]? = some (cs[0]'(by omega)) := List.getElem?_eq_getElem (by omega)
        obtain ⟨b, o, sp⟩ := a'
        have hsp : sp = none := by
          cases sp with
          | none => rfl
          | some v =>
            rw [hc0] at h0
            by_cases h00 : i * n = 0
            · simp [Addr.add, World.cell?, h00] at h0; split at h0 <;> simp at h0
            · exfalso
              -- a place inside a row: the first element's own place
              obtain ⟨cs1, hc1, _⟩ := hi 0 (by omega)
              rw [hC] at hc1
              obtain ⟨_, hcl1, hat1⟩ := World.cells?_some hc1
              have h01 := hat1 0 hn
              have hc01 : cs1[0]? = some (cs1[0]'(by omega)) := List.getElem?_eq_getElem (by omega)
              rw [hc01] at h01
              simp [Addr.add, World.cell?] at h01; split at h01 <;> simp at h01
        subst hsp
        refine ⟨b, o, rfl, ?_, fun j hj => ?_⟩
        · rw [hc0] at h0
          have := World.block_lt_of_cell? _ _ h0
          rw [addr_add, addr_add] at this
          exact this
        · have := hat j hj
          rw [addr_add, addr_add] at this
          exact this
      · exact ⟨[], fun h => absurd h hlt⟩
    exact ⟨fun i => Classical.choose (key i), fun i hlt => Classical.choose_spec (key i) hlt⟩
end Go.Proofs.Ythgioaaenfdcdaa
