/- Three rows, side by side: where what is out is, for which slot, by which ID; and the tape that no push onto them spoils. -/
import Derived.Test.YthgioaaenfdcdaaUnlikePlain
import Derived.Test.YthgioaaenfdcdaaLot
import Derived.Test.YthgioaaenfdcdaaRegRel
namespace Go.Proofs.Ythgioaaenfdcdaa
open Go.RowKit

def rowU' (v : Value) (l : List Int) : Th := ⟨v, 3, 1, l.length, l.map (.int .i64)⟩
def rowI' (v : Value) (l : List Int) : Th := ⟨v, 34, 1, l.length, l.map (.int .u16)⟩
/-- The three rows. -/
def rows3 (v1 v2 v3 : Value) (D : List DRec) : Nat → Option Th
  | 0 => some (rowU' v1 (D.map (·.u)))
  | 1 => some (rowU' v2 (D.map (·.s)))
  | 2 => some (rowI' v3 (D.map (·.id)))
  | _ => none
/-- Blocks of the three rows. -/
def In3 (v1 v2 v3 : Value) (x : Nat) : Prop := v1.ownBlock = some x ∨ v2.ownBlock = some x ∨ v3.ownBlock = some x
/-- The tape, whose look no write to the rows' blocks spoils. -/
def TBeside (W w : World) (b : Nat) (s : TapeS) (bs : List Nat) (v1 v2 v3 : Value) : Prop := ∃ L, TOwn W w b s L ∧ (∀ k ∈ bs, k ∈ L) ∧ ∀ x, In3 v1 v2 v3 x → x ∈ L
theorem tbeside_nil {W w : World} {b : Nat} {s : TapeS} {bs L : List Nat} (h : TOwn W w b s L) (hb : ∀ k ∈ bs, k ∈ L) : TBeside W w b s bs (.slice none 0 0) (.slice none 0 0) (.slice none 0 0) :=
  ⟨L, h, hb, fun x hx => by rcases hx with h | h | h <;> simp [Value.ownBlock] at h⟩
/-- Behind writes to the rows' blocks, by which rows may have come to lie in new blocks. -/
theorem TBeside.push {W w w' : World} {b : Nat} {s : TapeS} {bs : List Nat} {v1 v2 v3 u1 u2 u3 : Value} (h : TBeside W w b s bs v1 v2 v3) (k : Kept (In3 v1 v2 v3) w w') (hn : ∀ x, In3 u1 u2 u3 x → In3 v1 v2 v3 x ∨ w.heap.size ≤ x) (hlt : ∀ x, In3 u1 u2 u3 x → x < w'.heap.size)
    (hb : ¬ In3 v1 v2 v3 b) (hW : ∀ x, In3 v1 v2 v3 x → W.heap.size ≤ x) : TBeside W w' b s bs u1 u2 u3 := by
  obtain ⟨L, ht, h1, h2⟩ := h
  have hbL : b ∈ L := by obtain ⟨_, _, _, h3, _⟩ := ht.tp; exact h3
  let N := ([u1, u2, u3].filterMap Value.ownBlock)
  have hN : ∀ x, x ∈ N ↔ In3 u1 u2 u3 x := fun x => by
    simp only [N, List.mem_filterMap, List.mem_cons, List.not_mem_nil, or_false, In3]
    constructor
    · rintro ⟨a, rfl | rfl | rfl, h⟩ <;> simp [h]
    · rintro (h | h | h)
      · exact ⟨_, .inl rfl, h⟩
      · exact ⟨_, .inr (.inl rfl), h⟩
      · exact ⟨_, .inr (.inr rfl), h⟩
  have htp : Tape w b s (N ++ L) := ht.tp.more (N ++ L) (fun x hx => by
    rcases List.mem_append.1 hx with hx | hx
    · rcases hn x ((hN x).1 hx) with h | h
      · exact .inl (h2 x h)
      · exact .inr h
    · exact .inl hx) (List.mem_append_right _ hbL)
  refine ⟨N ++ L, ⟨htp.kept k hb (fun x _ hx => List.mem_append_right _ (h2 x hx)), fun x hx => ?_, ht.kp.then k (fun i hi hM => by have := hW i hM; omega), ht.lo⟩, fun x hx => List.mem_append_right _ (h1 x hx), fun x hx => List.mem_append_left _ ((hN x).2 hx)⟩
  rcases List.mem_append.1 hx with hx | hx
  · exact hlt x ((hN x).1 hx)
  · exact k.lt (ht.lt x hx)
theorem TBeside.look {W w w' : World} {b : Nat} {s : TapeS} {bs : List Nat} {v1 v2 v3 : Value} (h : TBeside W w b s bs v1 v2 v3) (k : Kept (fun _ => False) w w') : TBeside W w' b s bs v1 v2 v3 := by
  obtain ⟨L, ht, h1, h2⟩ := h
  exact ⟨L, ht.look k, h1, h2⟩
theorem lot_in3 {w : World} {base : Nat} {v1 v2 v3 : Value} {D : List DRec} (h : Lot w base (rows3 v1 v2 v3 D)) {x : Nat} (hx : In3 v1 v2 v3 x) : base ≤ x ∧ x < w.heap.size := by
  rcases hx with hx | hx | hx
  · exact ownsRow_block (h.own 0 _ rfl) hx
  · exact ownsRow_block (h.own 1 _ rfl) hx
  · exact ownsRow_block (h.own 2 _ rfl) hx
theorem lot3_nil (w : World) : Lot w w.heap.size (rows3 (.slice none 0 0) (.slice none 0 0) (.slice none 0 0) []) := by
  refine ⟨fun i t ht => ?_, fun i j t s _ ht hs x hx => ?_⟩
  · match i, ht with
    | 0, ht => simp only [rows3, Option.some.injEq] at ht; subst ht; exact ⟨rfl, .inl ⟨rfl, rfl⟩⟩
    | 1, ht => simp only [rows3, Option.some.injEq] at ht; subst ht; exact ⟨rfl, .inl ⟨rfl, rfl⟩⟩
    | 2, ht => simp only [rows3, Option.some.injEq] at ht; subst ht; exact ⟨rfl, .inl ⟨rfl, rfl⟩⟩
  · exfalso
    match i, ht with
    | 0, ht => simp only [rows3, Option.some.injEq] at ht; subst ht; simp [rowU', Value.ownBlock] at hx
    | 1, ht => simp only [rows3, Option.some.injEq] at ht; subst ht; simp [rowU', Value.ownBlock] at hx
    | 2, ht => simp only [rows3, Option.some.injEq] at ht; subst ht; simp [rowI', Value.ownBlock] at hx
theorem TBeside.step {W w w' : World} {b : Nat} {s s' : TapeS} {bs : List Nat} {v1 v2 v3 : Value} (h : TBeside W w b s bs v1 v2 v3) : ∃ L, TOwn W w b s L ∧ (∀ k ∈ bs, k ∈ L) ∧ (TOwn W w' b s' L → TBeside W w' b s' bs v1 v2 v3) := by
  obtain ⟨L, ht, h1, h2⟩ := h
  exact ⟨L, ht, h1, fun h' => ⟨L, h', h1, h2⟩⟩
/-- The cells of the three rows at a place. -/
theorem lot3_at {w : World} {base : Nat} {a1 a2 a3 : Option Addr} {c1 c2 c3 : Nat} {D : List DRec} (h : Lot w base (rows3 (.slice a1 D.length c1) (.slice a2 D.length c2) (.slice a3 D.length c3) D)) {k : Nat} {r : DRec} (hk : D[k]? = some r) :
    ∃ g1 g2 g3 : Nat, a1 = some ⟨g1, 0, none⟩ ∧ a2 = some ⟨g2, 0, none⟩ ∧ a3 = some ⟨g3, 0, none⟩ ∧ w.cell? ⟨g1, k, none⟩ = some (.int .i64 r.u) ∧ w.cell? ⟨g2, k, none⟩ = some (.int .i64 r.s) ∧ w.cell? ⟨g3, k, none⟩ = some (.int .u16 r.id) := by
  obtain ⟨g1, -, h1, e1, f1⟩ := h.cell (i := 0) rfl (q := k) (u := .int .i64 r.u) (by simp [rowU', hk])
  obtain ⟨g2, -, h2, e2, f2⟩ := h.cell (i := 1) rfl (q := k) (u := .int .i64 r.s) (by simp [rowU', hk])
  obtain ⟨g3, -, h3, e3, f3⟩ := h.cell (i := 2) rfl (q := k) (u := .int .u16 r.id) (by simp [rowI', hk])
  simp [rowU'] at f1 f2
  simp [rowI'] at f3
  exact ⟨g1, g2, g3, f1.1, f2.1, f3.1, h1, h2, h3⟩
end Go.Proofs.Ythgioaaenfdcdaa
