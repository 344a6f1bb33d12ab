/- Package tally: a box, and how it lies; New, Has. -/
import Derived.Test.YtffjighohloifaaOwn21b
import Derived.Test.YtffjighohloifaaSort21b
import Derived.Test.YtffjighohloifaaCloneS
namespace Go.Proofs.Ytffjighohloifaa
open Go.RowKit

/-- A ballot. -/
structure Bal where
  voted : Bool
  key : ByteArray
  up : Int
  v : Verd
  time : Int
/-- A ballot, and where its verdict lies. -/
structure BalM where
  b : Bal
  a1 : Option Addr
  c1 : Nat
  a2 : Option Addr
  c2 : Nat
def BalM.cells (x : BalM) : List Value := [.bool x.b.voted, .string x.b.key, .int .i64 x.b.up, .int .u8 x.b.v.code, .slice x.a1 x.b.v.sets.length x.c1, .slice x.a2 x.b.v.soa.length x.c2, .int .u32 x.b.time]
def BalM.at (w : World) (x : BalM) (P : Nat → Prop) : Prop := SetsAt w x.a1 x.b.v.sets P ∧ SetsAt w x.a2 x.b.v.soa P
theorem BalM.at.kept {w w' : World} {x : BalM} {P M : Nat → Prop} (h : x.at w P) (k : Kept M w w') (hd : ∀ b, b < w.heap.size → P b → ¬ M b) : x.at w' P := ⟨h.1.kept k hd, h.2.kept k hd⟩
theorem BalM.at.mono {w : World} {x : BalM} {P Q : Nat → Prop} (h : x.at w P) (hd : ∀ b, b < w.heap.size → P b → Q b) : x.at w Q := ⟨h.1.mono hd, h.2.mono hd⟩
theorem BalM.one (x : BalM) : ∀ u ∈ x.cells, u.oneCell' = true := by
  intro u hu
  simp only [BalM.cells, List.mem_cons, List.not_mem_nil, or_false] at hu
  rcases hu with rfl | rfl | rfl | rfl | rfl | rfl | rfl <;> rfl
structure BoxS where
  want : Int
  l : List Bal
  won : Bool
  wonK : ByteArray
  by_ : List Int
  time : Int
theorem info_ballot' : (Try.prog.info? 94).map (fun i => (i.zero, i.size, i.bytes)) = some (some (.agg #[.bool false, .string ⟨#[]⟩, .int .i64 0, .int .u8 0, .slice none 0 0, .slice none 0 0, .int .u32 0]), 7, 96) := info_ballot
/-- Block b is this box, its ballots at ao; what it looks at is spoilt by no block of L. -/
def BoxAt (w : World) (b : Nat) (ao : Option Addr) (B : BoxS) (L : List Nat) : Prop :=
  ∃ (cap : Nat) (ay : Option Addr) (cy : Nat) (lm : List BalM), w.heap[b]? = some (.cells #[.int .i64 B.want, .slice ao B.l.length cap, .bool B.won, .string B.wonK, .slice ay B.by_.length cy, .int .u32 B.time] 75 (0, 0)) ∧
    w.ownsRow 0 94 7 (.slice ao B.l.length cap) B.l.length (lm.map BalM.cells).flatten ∧ lm.map (·.b) = B.l ∧ (∀ x ∈ lm, x.at w (· ∉ L)) ∧ Cells w ay (B.by_.map (.int .i64)) (· ∉ L) ∧
    b ∈ L ∧ (∀ g, (Value.slice ao 0 0).ownBlock = some g → g ∈ L) ∧ ∀ k ∈ L, k < w.heap.size
/-- What the box's calls write. -/
def FB (b : Nat) (ao : Option Addr) (x : Nat) : Prop := x = b ∨ (Value.slice ao 0 0).ownBlock = some x
theorem own_slice' (ao : Option Addr) (n c : Nat) : (Value.slice ao n c).ownBlock = (Value.slice ao 0 0).ownBlock := by cases ao <;> rfl
theorem Cells.kept' {w w' : World} {ao : Option Addr} {cs : List Value} {P M : Nat → Prop} (h : Cells w ao cs P) (k : Kept M w w') (hd : ∀ b, b < w.heap.size → P b → ¬ M b) : Cells w' ao cs P := by
  rcases h with h | ⟨a, off, e, hp, hc⟩
  · exact .inl h
  · refine .inr ⟨a, off, e, hp, fun i hi => ?_⟩
    have h0 := hc i hi
    have hv : cs[i]? = some cs[i] := List.getElem?_eq_getElem hi
    rw [hv] at h0 ⊢
    exact k.cell h0 (hd _ (World.block_lt_of_cell? _ _ h0) hp)
theorem Cells.mono' {w : World} {ao : Option Addr} {cs : List Value} {P Q : Nat → Prop} (h : Cells w ao cs P) (hd : ∀ b, b < w.heap.size → P b → Q b) : Cells w ao cs Q := by
  rcases h with h | ⟨a, off, e, hp, hc⟩
  · exact .inl h
  · by_cases hl : cs = []
    · exact .inl hl
    · have h0 := hc 0 (List.length_pos_iff.2 hl)
      have hv : cs[0]? = some (cs[0]'(List.length_pos_iff.2 hl)) := List.getElem?_eq_getElem _
      rw [hv] at h0
      exact .inr ⟨a, off, e, hd a (World.block_lt_of_cell? _ _ h0) hp, hc⟩
theorem own_far {w w' : World} {base size n : Nat} {e : TypeId} {v : Value} {xs : List Value} (h : w.ownsRow base e size v n xs) (hk : ∀ x, v.ownBlock = some x → w'.heap[x]? = w.heap[x]?) : w'.ownsRow base e size v n xs := by
  refine ⟨h.1, ?_⟩
  rcases h.2 with h2 | ⟨g, cap, cur, hv, hg, hh, r⟩
  · exact .inl h2
  · exact .inr ⟨g, cap, cur, hv, hg, by rw [hk g (by rw [hv]; rfl)]; exact hh, r⟩
/-- A block of another type is not the row's. -/
theorem own_type {w : World} {base size n b : Nat} {e t : TypeId} {v : Value} {xs : List Value} {c : Array Value} {f : Nat × Nat} (h : w.ownsRow base e size v n xs) (hb : w.heap[b]? = some (.cells c t f)) (hne : e ≠ t) : v.ownBlock ≠ some b := by
  intro hv
  rcases h.2 with ⟨h1, _⟩ | ⟨g, c, cur, h1, _, h2, _⟩
  · rw [h1] at hv; cases hv
  · rw [h1] at hv
    simp [Value.ownBlock] at hv
    subst hv
    rw [hb] at h2
    simp only [Option.some.injEq, Obj.cells.injEq] at h2
    exact hne h2.2.1.symm
/-- More may be written later: what is looked at lies elsewhere. -/
theorem SetsAt.toL {w w' : World} {ao : Option Addr} {l : List SetV} {L L' : List Nat} {M : Nat → Prop} (h : SetsAt w ao l (· ∉ L)) (k : Kept M w w') (hm : ∀ x, x < w.heap.size → M x → x ∈ L) (h2 : ∀ x ∈ L', x ∈ L ∨ w.heap.size ≤ x) : SetsAt w' ao l (· ∉ L') :=
  ((h.mono (Q := fun c => c ∉ L ∧ c ∉ L') (fun c hc hp => ⟨hp, fun hx => by
    rcases h2 c hx with h | h
    · exact hp h
    · omega⟩)).kept k (fun c hc hp hM => hp.1 (hm c hc hM))).mono (fun c _ hp => hp.2)
theorem Cells.toL {w w' : World} {ao : Option Addr} {l : List Value} {L L' : List Nat} {M : Nat → Prop} (h : Cells w ao l (· ∉ L)) (k : Kept M w w') (hm : ∀ x, x < w.heap.size → M x → x ∈ L) (h2 : ∀ x ∈ L', x ∈ L ∨ w.heap.size ≤ x) : Cells w' ao l (· ∉ L') :=
  ((h.mono' (Q := fun c => c ∉ L ∧ c ∉ L') (fun c hc hp => ⟨hp, fun hx => by
    rcases h2 c hx with h | h
    · exact hp h
    · omega⟩)).kept' k (fun c hc hp hM => hp.1 (hm c hc hM))).mono' (fun c _ hp => hp.2)
theorem BalM.at.toL {w w' : World} {x : BalM} {L L' : List Nat} {M : Nat → Prop} (h : x.at w (· ∉ L)) (k : Kept M w w') (hm : ∀ x, x < w.heap.size → M x → x ∈ L) (h2 : ∀ x ∈ L', x ∈ L ∨ w.heap.size ≤ x) : x.at w' (· ∉ L') := ⟨h.1.toL k hm h2, h.2.toL k hm h2⟩
section
variable {w w' : World} {b : Nat} {ao : Option Addr} {B : BoxS} {L : List Nat} {M : Nat → Prop}
theorem BoxAt.kept (h : BoxAt w b ao B L) (k : Kept M w w') (h1 : ∀ x, FB b ao x → ¬ M x) (h2 : ∀ x, x < w.heap.size → M x → x ∈ L) : BoxAt w' b ao B L := by
  obtain ⟨cap, ay, cy, lm, hb, ho, hl, ha, hy, hbL, hgL, hLt⟩ := h
  refine ⟨cap, ay, cy, lm, k.heap hb (h1 _ (.inl rfl)), ?_, hl, fun x hx => (ha x hx).kept k (fun c hc hp hm => hp (h2 c hc hm)), hy.kept' k (fun c hc hp hm => hp (h2 c hc hm)), hbL, hgL, fun x hx => k.lt (hLt x hx)⟩
  refine ⟨ho.1, ho.2.imp id ?_⟩
  rintro ⟨g, c, cur, hv, hg, hh, r⟩
  exact ⟨g, c, cur, hv, hg, k.heap hh (h1 g (.inr (by simp only [Value.slice.injEq] at hv; rw [hv.1]; rfl))), r⟩
theorem BoxAt.look (h : BoxAt w b ao B L) (k : Kept (fun _ => False) w w') : BoxAt w' b ao B L := h.kept k (fun _ _ => id) (fun _ _ h => h.elim)
/-- Later, with more that is written. -/
theorem BoxAt.more (h : BoxAt w b ao B L) (k : Kept M w w') (hm1 : ∀ x, FB b ao x → ¬ M x) (hm2 : ∀ x, x < w.heap.size → M x → x ∈ L) (L' : List Nat) (h1 : ∀ x ∈ L, x ∈ L') (h2 : ∀ x ∈ L', x ∈ L ∨ w.heap.size ≤ x) (h3 : ∀ x ∈ L', x < w'.heap.size) : BoxAt w' b ao B L' := by
  obtain ⟨cap, ay, cy, lm, hb, ho, hl, ha, hy, hbL, hgL, hLt⟩ := h
  have key : ∀ c, c < w.heap.size → c ∉ L → c ∉ L' := fun c hc hn hm => by
    rcases h2 c hm with h | h
    · exact hn h
    · omega
  refine ⟨cap, ay, cy, lm, k.heap hb (hm1 _ (.inl rfl)), ?_, hl, fun x hx => ((ha x hx).mono (Q := fun c => c ∉ L ∧ c ∉ L') (fun c hc hp => ⟨hp, key c hc hp⟩)).kept k (fun c hc hp hm => hp.1 (hm2 c hc hm)) |>.mono (fun c _ hp => hp.2), ((hy.mono' (Q := fun c => c ∉ L ∧ c ∉ L') (fun c hc hp => ⟨hp, key c hc hp⟩)).kept' k (fun c hc hp hm => hp.1 (hm2 c hc hm))).mono' (fun c _ hp => hp.2), h1 _ hbL, fun g hg => h1 _ (hgL g hg), h3⟩
  refine ⟨ho.1, ho.2.imp id ?_⟩
  rintro ⟨g, c, cur, hv, hg, hh, r⟩
  exact ⟨g, c, cur, hv, hg, k.heap hh (hm1 g (.inr (by simp only [Value.slice.injEq] at hv; rw [hv.1]; rfl))), r⟩
theorem BoxAt.lt (h : BoxAt w b ao B L) {x : Nat} (hx : FB b ao x) : x < w.heap.size := by
  obtain ⟨cap, ay, cy, lm, hb, ho, _⟩ := h
  rcases hx with rfl | hx
  · exact lt_of_block hb
  · rw [← own_slice' ao B.l.length cap] at hx
    exact (World.ownsRow.lt ho x hx).2
end
theorem rows7 {l : List BalM} : ∀ r ∈ l.map BalM.cells, r.length = 7 := by intro r hr; obtain ⟨x, _, rfl⟩ := List.mem_map.1 hr; rfl
/-- The cells of a ballot. -/
theorem bal_cells {w : World} {base : Nat} {ao : Option Addr} {n cap : Nat} {lm : List BalM} (h : w.ownsRow base 94 7 (.slice ao n cap) n (lm.map BalM.cells).flatten) {i : Nat} (hi : i < n) (x : BalM) (hx : lm[i]? = some x) :
    ∃ g, ao = some ⟨g, 0, none⟩ ∧ g < w.heap.size ∧ w.cell? ⟨g, i * 7, none⟩ = some (.bool x.b.voted) ∧ w.cell? ⟨g, i * 7 + 1, none⟩ = some (.string x.b.key) ∧ w.cell? ⟨g, i * 7 + 2, none⟩ = some (.int .i64 x.b.up) ∧ w.cell? ⟨g, i * 7 + 3, none⟩ = some (.int .u8 x.b.v.code) ∧
      w.cell? ⟨g, i * 7 + 4, none⟩ = some (.slice x.a1 x.b.v.sets.length x.c1) ∧ w.cell? ⟨g, i * 7 + 5, none⟩ = some (.slice x.a2 x.b.v.soa.length x.c2) ∧ w.cell? ⟨g, i * 7 + 6, none⟩ = some (.int .u32 x.b.time) := by
  have hlen := h.1
  rw [flatten_length _ rows7, List.length_map] at hlen
  have hln : lm.length = n := by omega
  obtain ⟨g, rfl, -, htab⟩ := Tab.of_own h (fun x _ => rfl) (by omega)
  obtain ⟨hi', hxe⟩ := List.getElem?_eq_some_iff.1 hx
  have c := fun j (hj : j < 7) => htab.cell i j hi' hj
  rw [hxe] at c
  exact ⟨g, rfl, htab.lt, c 0 (by decide), c 1 (by decide), c 2 (by decide), c 3 (by decide), c 4 (by decide), c 5 (by decide), c 6 (by decide)⟩

theorem tnew_no (n : Int) (h : n < 1 ∨ 9 < n) (w : World) : Calls Try.prog 18 #[.int .i64 n] w fun e w' => e = .returned (.tuple #[.pointer none, .int .i64 1]) ∧ w = w' := by
  by_cases h1 : n < 1
  · have d1 : decide (n < 1) = true := by simpa using h1
    go_enter Try.func18, Try.ntmps18
    go_wp2_with fail
    go_ret2
    exact ⟨rfl, rfl⟩
  · have d1 : decide (n < 1) = false := by simpa using h1
    have d2 : decide (9 < n) = true := by simp; omega
    go_enter Try.func18, Try.ntmps18
    go_wp2_with fail
    go_ret2
    exact ⟨rfl, rfl⟩
def BoxS.new (n : Int) : BoxS := ⟨n, [], false, ⟨#[]⟩, [], 0⟩
theorem tnew_yes (n : Int) (h1 : 1 ≤ n) (h2 : n ≤ 9) (L : List Nat) (w : World) (hL : ∀ k ∈ L, k < w.heap.size) : Calls Try.prog 18 #[.int .i64 n] w fun e w' => e = .returned (.tuple #[.pointer (some ⟨w.heap.size, 0, none⟩), .int .i64 0]) ∧ BoxAt w' w.heap.size none (BoxS.new n) (w.heap.size :: L) ∧ Kept (fun _ => False) w w' ∧ w'.heap.size = w.heap.size + 1 := by
  have d1 : decide (n < 1) = false := by simp; omega
  have d2 : decide (9 < n) = false := by simp; omega
  go_enter Try.func18, Try.ntmps18
  go_wp2_with fail
  go_ret2
  have hlt : ∀ k ∈ w.heap.size :: L, k < (w.alloc (.cells #[.int .i64 n, .slice none 0 0, .bool false, .string ⟨#[]⟩, .slice none 0 0, .int .u32 0] 75)).heap.size := fun k hk => by
    rcases List.mem_cons.1 hk with rfl | hk
    · simp
    · have := hL k hk; simp; omega
  exact ⟨rfl, ⟨0, none, 0, [], new_blk _ _, ⟨by simp [BoxS.new], .inl ⟨rfl, rfl⟩⟩, rfl, by simp, .inl rfl, List.mem_cons_self, (fun g hg => by cases hg), hlt⟩, (Kept.refl _).alloc _, by simp⟩

/-- The place of the first one that a test meets, or -1. -/
def idxP (p : Nat → Bool) (n : Nat) : Int := ((List.range n).find? p).elim (-1) (fun i => (i : Int))
theorem idxP_none {p : Nat → Bool} {n : Nat} (h : ∀ i, i < n → p i = false) : idxP p n = -1 := by
  unfold idxP
  rw [List.find?_eq_none.2 (fun i hi => by rw [h i (List.mem_range.1 hi)]; simp)]; rfl
theorem idxP_at {p : Nat → Bool} {n k : Nat} (hk : k < n) (hp : p k = true) (h : ∀ i, i < k → p i = false) : idxP p n = k := by
  unfold idxP
  have : (List.range n).find? p = some k := by
    rw [List.find?_range_eq_some]
    exact ⟨hp, List.mem_range.2 hk, fun i hi => by rw [h i hi]; rfl⟩
  rw [this]; rfl
end Go.Proofs.Ytffjighohloifaa
