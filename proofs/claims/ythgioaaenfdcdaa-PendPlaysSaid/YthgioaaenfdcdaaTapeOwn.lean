/- A tape that the call has made: what is drawn of it, its copy. -/
import Derived.Test.YthgioaaenfdcdaaDraw
namespace Go.Proofs.Ythgioaaenfdcdaa
open Go.RowKit

/-- A tape that the call from W on has made, whose look is spoilt by no block of L. -/
structure TOwn (W w : World) (b : Nat) (s : TapeS) (L : List Nat) : Prop where
  tp : Tape w b s L
  lt : ∀ k ∈ L, k < w.heap.size
  kp : Kept (fun _ => False) W w
  lo : W.heap.size ≤ b
section
variable {W w w' : World} {b : Nat} {s : TapeS} {L : List Nat}
theorem TOwn.look (h : TOwn W w b s L) (k : Kept (fun _ => False) w w') : TOwn W w' b s L := ⟨h.tp.kept k id (fun _ _ h => h.elim), fun x hx => k.lt (h.lt x hx), h.kp.trans k, h.lo⟩
theorem TOwn.aside {M : Nat → Prop} (h : TOwn W w b s L) (k : Kept M w w') (hb : ¬ M b) (hd : ∀ x, M x → x ∈ L) (hW : ∀ x, x < W.heap.size → ¬ M x) : TOwn W w' b s L :=
  ⟨h.tp.kept k hb (fun x _ hx => hd x hx), fun x hx => k.lt (h.lt x hx), h.kp.then k (fun i hi hM => (hW i hi hM).elim), h.lo⟩
end
theorem TOwn.base {W w w' : World} {b : Nat} {s : TapeS} {L : List Nat} (h : TOwn w w' b s L) (k : Kept (fun _ => False) W w) : TOwn W w' b s L := ⟨h.tp, h.lt, k.trans h.kp, Nat.le_trans k.size h.lo⟩
theorem town_used {W w : World} {b : Nat} {s : TapeS} {L : List Nat} (HT : Hid (TOwn W w b s L)) (n : Nat) (hn : s.used = n) : Calls Try.prog 20 #[.pointer (some ⟨b, 0, none⟩)] w fun e w' => e = .returned (.int .i64 n) ∧ w = w' := by
  subst hn
  exact used_any b s L w HT.out.tp
theorem town_copy {W w : World} {b : Nat} {s : TapeS} {L : List Nat} (HT : Hid (TOwn W w b s L)) : Calls Try.prog 28 #[.pointer (some ⟨b, 0, none⟩)] w fun e w' => ∃ c, e = .returned (.pointer (some ⟨c, 0, none⟩)) ∧ w.heap.size ≤ c ∧ TOwn W w' c s (c :: L) ∧ TOwn W w' b s (c :: L) ∧ Kept (fun _ => False) w w' := by
  refine (copy_any b s L w HT.out.tp).mono ?_
  rintro e w' ⟨rfl, ht, hk, hz⟩
  have hlt : ∀ x ∈ w.heap.size :: L, x < w'.heap.size := fun x hx => by
    rcases List.mem_cons.1 hx with rfl | hx
    · omega
    · exact hk.lt (HT.out.lt x hx)
  have hbL : b ∈ L := by obtain ⟨_, _, _, h3, _⟩ := HT.out.tp; exact h3
  exact ⟨_, rfl, Nat.le_refl _, ⟨ht, hlt, HT.out.kp.trans hk, HT.out.kp.size⟩, ⟨(HT.out.tp.more (w.heap.size :: L) (fun k hk => by
    rcases List.mem_cons.1 hk with rfl | hk
    · exact .inr (Nat.le_refl _)
    · exact .inl hk) (List.mem_cons_of_mem _ hbL)).kept hk id (fun _ _ h => h.elim), hlt, HT.out.kp.trans hk, HT.out.lo⟩, hk⟩
theorem town_next {W w : World} {b : Nat} {s : TapeS} {L : List Nat} (HT : Hid (TOwn W w b s L)) (hu : s.used < 9223372036854775807) (n : Int) (hn : s.draw = n) : Calls Try.prog 29 #[.pointer (some ⟨b, 0, none⟩)] w fun e w' => e = .returned (.int .u64 n) ∧ TOwn W w' b s.next L ∧ Kept (· = b) w w' := by
  subst hn
  refine (next_any b s L w HT.out.tp HT.out.lt hu).mono ?_
  rintro e w' ⟨rfl, ht, hk⟩
  exact ⟨rfl, ⟨ht, fun x hx => hk.lt (HT.out.lt x hx), HT.out.kp.then hk (fun i hi e => by have := HT.out.lo; omega), HT.out.lo⟩, hk⟩

theorem TOwn.more {W w : World} {b : Nat} {s : TapeS} {L : List Nat} (h : TOwn W w b s L) (y : Nat) (hy : y < w.heap.size) (hn : y ∈ L ∨ ∃ w0 : World, Tape w0 b s L ∧ Kept (fun _ => False) w0 w ∧ w0.heap.size ≤ y) : TOwn W w b s (y :: L) := by
  have hbL : b ∈ L := by obtain ⟨_, _, _, h3, _⟩ := h.tp; exact h3
  refine ⟨?_, fun x hx => ?_, h.kp, h.lo⟩
  · rcases hn with hn | ⟨w0, h0, hk, hy0⟩
    · exact h.tp.more (y :: L) (fun k hk => by
        rcases List.mem_cons.1 hk with rfl | hk
        · exact .inl hn
        · exact .inl hk) (List.mem_cons_of_mem _ hbL)
    · exact (h0.more (y :: L) (fun k hk => by
        rcases List.mem_cons.1 hk with rfl | hk
        · exact .inr hy0
        · exact .inl hk) (List.mem_cons_of_mem _ hbL)).kept hk id (fun _ _ h => h.elim)
  · rcases List.mem_cons.1 hx with rfl | hx
    · exact hy
    · exact h.lt x hx
end Go.Proofs.Ythgioaaenfdcdaa
