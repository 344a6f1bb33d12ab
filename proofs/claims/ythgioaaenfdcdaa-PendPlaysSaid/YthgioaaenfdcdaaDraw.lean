/- Package draw, walked: each function by a contract. -/
import Derived.Test.YthgioaaenfdcdaaDrawPlain
namespace Go.Proofs.Ythgioaaenfdcdaa
open Go.RowKit

set_option maxRecDepth 100000 in
theorem mix_any (n : Int) (w : World) (_h0 : 0 ≤ n) (_h1 : n ≤ 18446744073709551615) :
    Calls Try.prog 42 #[.int .u64 n] w fun e w' => e = .returned (.int .u64 (mixI n)) ∧ w = w' := by
  go_enter Try.func42, Try.ntmps42
  go_wp2
  go_ret
  exact ⟨rfl, rfl⟩

theorem makeFunc_run (fn : Fn) (first cap : Array Value) (w : World) : (Instr.makeFunc fn first cap).run Try.prog w = .ok (.func fn first cap) w := rfl

set_option maxRecDepth 100000 in
theorem seeded_any (n : Int) (w : World) :
    Calls Try.prog 37 #[.int .u64 n] w fun e w' =>
      e = .returned (.func (.func 41) #[] #[.pointer (some ⟨w.heap.size, 0, none⟩)]) ∧ w.alloc (.cells #[.int .u64 n] 22) = w' := by
  have hmf := makeFunc_run
  go_enter Try.func37, Try.ntmps37
  go_wp2
  go_ret
  exact ⟨rfl, rfl⟩

set_option maxRecDepth 100000 in
theorem seeded1_any (b : Nat) (n : Int) (w : World) (h : w.cell? ⟨b, 0, none⟩ = some (.int .u64 n)) :
    Calls Try.prog 41 #[.pointer (some ⟨b, 0, none⟩)] w fun e w' =>
      e = .returned (.tuple #[.int .u64 (mixI (stepI n)), .func (.func 41) #[] #[.pointer (some ⟨w.heap.size, 0, none⟩)]]) ∧ w.alloc (.cells #[.int .u64 (stepI n)] 22) = w' := by
  have hmf := makeFunc_run
  have hb := u64_step n
  go_enter Try.func41, Try.ntmps41
  go_wp2_with fail
  refine (mix_any _ _ hb.1 hb.2).mono ?_
  rintro e w' ⟨rfl, rfl⟩
  go_wp2_with fail
  refine (seeded_any _ _).mono ?_
  rintro e w' ⟨rfl, rfl⟩
  go_wp2_with fail
  go_ret2
  exact ⟨rfl, rfl⟩
/-- The slice value reads as these numbers; its cells lie where P says. -/
def RowU (w : World) (ao : Option Addr) (l : List Int) (cap : Nat) (P : Nat → Prop) : Prop :=
  l.length ≤ cap ∧ cap ≤ maxLen ∧ (l = [] ∨ ∃ a off, ao = some ⟨a, off, none⟩ ∧ P a ∧ ∀ i, i < l.length → w.cell? ⟨a, off + i, none⟩ = some (.int .u64 (l.getD i 0)))

/-- The function value yields these numbers, and then those of the seed; what it leans on lies where P says. -/
def Src (w : World) (v : Value) (seed : Int) (l : List Int) (P : Nat → Prop) : Prop :=
  (l = [] ∧ ∃ b, v = .func (.func 41) #[] #[.pointer (some ⟨b, 0, none⟩)] ∧ w.heap[b]? = some (.cells #[.int .u64 seed] 22 (0, 0)) ∧ P b) ∨
  (l ≠ [] ∧ ∃ b1 b2 ao cap, v = .func (.func 39) #[] #[.pointer (some ⟨b1, 0, none⟩), .pointer (some ⟨b2, 0, none⟩)] ∧
    w.heap[b1]? = some (.cells #[.slice ao l.length cap] 23 (0, 0)) ∧ w.heap[b2]? = some (.cells #[.int .u64 seed] 22 (0, 0)) ∧ P b1 ∧ P b2 ∧ RowU w ao l cap P)

theorem RowU.kept {M P : Nat → Prop} {w w' : World} {ao : Option Addr} {l : List Int} {cap : Nat} (h : RowU w ao l cap P) (k : Kept M w w') (hd : ∀ b, b < w.heap.size → P b → ¬ M b) : RowU w' ao l cap P := by
  refine ⟨h.1, h.2.1, ?_⟩
  rcases h.2.2 with h | ⟨a, off, e, hp, hc⟩
  · exact .inl h
  · refine .inr ⟨a, off, e, hp, fun i hi => k.cell (hc i hi) (hd _ (World.block_lt_of_cell? _ _ (hc i hi)) hp)⟩
theorem RowU.mono {P Q : Nat → Prop} {w : World} {ao : Option Addr} {l : List Int} {cap : Nat} (h : RowU w ao l cap P) (hd : ∀ b, P b → Q b) : RowU w ao l cap Q := by
  refine ⟨h.1, h.2.1, ?_⟩
  rcases h.2.2 with h | ⟨a, off, e, hp, hc⟩
  · exact .inl h
  · exact .inr ⟨a, off, e, hd _ hp, hc⟩
theorem Src.kept {M P : Nat → Prop} {w w' : World} {v : Value} {seed : Int} {l : List Int} (h : Src w v seed l P) (k : Kept M w w') (hd : ∀ b, b < w.heap.size → P b → ¬ M b) : Src w' v seed l P := by
  rcases h with ⟨e, b, hv, hb, hp⟩ | ⟨e, b1, b2, ao, cap, hv, hb1, hb2, p1, p2, hr⟩
  · exact .inl ⟨e, b, hv, k.heap hb (hd _ (lt_of_block hb) hp), hp⟩
  · exact .inr ⟨e, b1, b2, ao, cap, hv, k.heap hb1 (hd _ (lt_of_block hb1) p1), k.heap hb2 (hd _ (lt_of_block hb2) p2), p1, p2, hr.kept k hd⟩
theorem Src.mono {P Q : Nat → Prop} {w : World} {v : Value} {seed : Int} {l : List Int} (h : Src w v seed l P) (hd : ∀ b, P b → Q b) : Src w v seed l Q := by
  rcases h with ⟨e, b, hv, hb, hp⟩ | ⟨e, b1, b2, ao, cap, hv, hb1, hb2, p1, p2, hr⟩
  · exact .inl ⟨e, b, hv, hb, hd _ hp⟩
  · exact .inr ⟨e, b1, b2, ao, cap, hv, hb1, hb2, hd _ p1, hd _ p2, hr.mono hd⟩

set_option maxRecDepth 100000 in
theorem listed_any (ao : Option Addr) (l : List Int) (cap : Nat) (seed : Int) (P : Nat → Prop) (w : World) (hr : RowU w ao l cap P) (hP : ∀ b, w.heap.size ≤ b → P b) :
    Calls Try.prog 32 #[.slice ao l.length cap, .int .u64 seed] w fun e w' =>
      ∃ v, e = .returned v ∧ Src w' v seed l P ∧ Kept (fun _ => False) w w' := by
  have hmf := makeFunc_run
  cases l with
  | nil =>
    go_enter Try.func32, Try.ntmps32
    go_wp2_with fail
    refine (seeded_any _ _).mono ?_
    rintro e w' ⟨rfl, rfl⟩
    go_wp2_with fail
    go_ret
    refine ⟨_, rfl, .inl ⟨rfl, _, rfl, new_at (by simp), hP _ (by omega)⟩, (((Kept.refl _).alloc _).alloc _).alloc _⟩
  | cons x r =>
    have hne : (((x :: r).length : Int) == 0) = false := by simp; omega
    have H := Lib.hid hr
    clear hr
    go_enter Try.func32, Try.ntmps32
    go_wp2_with fail
    go_ret
    have K : Kept (fun _ => False) w ((w.alloc (.cells #[.slice ao (x :: r).length cap] 23)).alloc (.cells #[.int .u64 seed] 22)) := ((Kept.refl _).alloc _).alloc _
    refine ⟨_, rfl, .inr ⟨by simp, _, _, ao, cap, rfl, ?_, ?_, hP _ (by simp), hP _ (by simp), H.out.kept K (fun _ _ _ h => h)⟩, K⟩
    · exact old_blk (new_blk _ _) _
    · exact new_at (by simp)

set_option maxRecDepth 100000 in
/-- The closure that tells the first number, and what tells the ones behind it. (Its statement draws its order.) -/
theorem listed1_any (b1 b2 : Nat) (ao : Option Addr) (x : Int) (l : List Int) (cap : Nat) (seed : Int) (P : Nat → Prop) (w : World)
    (h1 : w.cell? ⟨b1, 0, none⟩ = some (.slice ao (x :: l).length cap)) (h2 : w.cell? ⟨b2, 0, none⟩ = some (.int .u64 seed)) (hr : RowU w ao (x :: l) cap P) (hP : ∀ b, w.heap.size ≤ b → P b) :
    Calls Try.prog 39 #[.pointer (some ⟨b1, 0, none⟩), .pointer (some ⟨b2, 0, none⟩)] w fun e w' =>
      ∃ v, e = .returned (.tuple #[.int .u64 x, v]) ∧ Src w' v seed l P ∧ Kept (fun _ => False) w w' := by
  obtain ⟨hlen, hcap, hr⟩ := hr
  rcases hr with hr | ⟨a, off, rfl, hp, hc⟩
  · simp at hr
  have hx : w.cell? ⟨a, off, none⟩ = some (.int .u64 x) := by simpa using hc 0 (by simp)
  unfold maxLen at hcap
  simp only [List.length_cons] at h1 hlen hc
  have hru : RowU w (cutAt 1 (some ⟨a, off, none⟩) cap 1) l (cap - 1) P := by
    refine ⟨by omega, by unfold maxLen; omega, ?_⟩
    cases l with
    | nil => exact .inl rfl
    | cons y r =>
      refine .inr ⟨a, off + 1, ?_, hp, fun i hi => ?_⟩
      · rw [cutAt_lt (by simp at hlen; omega)]; rfl
      · have := hc (i + 1) (by omega)
        simpa [Nat.add_assoc, Nat.add_comm 1 i] using this
  have H := Lib.hid hru
  clear hc hru
  have hs : ∀ w, (Instr.slice 23 (.slice (some ⟨a, off, none⟩) (l.length + 1) cap) (some (.int .i64 1)) none none).run Try.prog w = .ok (.slice (cutAt 1 (some ⟨a, off, none⟩) cap 1) l.length (cap - 1)) w :=
    fun w => slice_from (size := 1) Try.underlying23 (fun _ => by kernel_rfl) (some ⟨a, off, none⟩) (l.length + 1) cap .i64 1 (by omega) (by omega) w
  go_enter Try.func39, Try.ntmps39
  go_wp2_with fail
  go_region_held3 (fun w' => w'.cell? ⟨b1, 0, none⟩ = some (.slice (some ⟨a, off, none⟩) (l.length + 1) cap) ∧ w'.cell? ⟨b2, 0, none⟩ = some (.int .u64 seed) ∧ w'.cell? ⟨a, off, none⟩ = some (.int .u64 x)) (first | go_keep | exact ⟨k1, k2, kx⟩)
    ((go_at_call 32; refine (listed_any _ _ _ _ P _ ?_ ?_).mono ?_; exact H.out; exact hP; rintro e w1 ⟨v, rfl, hsrc, hk⟩; have k1 := hk.cell h1 id; have k2 := hk.cell h2 id; have kx := hk.cell hx id))
  go_wp2
  go_ret2
  exact ⟨_, rfl, hsrc, hk.of_drew⟩

/-- Block b is a tape that yields what s yields; what it leans on are no blocks of L (those that may be written), where b itself is. -/
def Tape (w : World) (b : Nat) (s : TapeS) (L : List Nat) : Prop :=
  ∃ v, w.heap[b]? = some (.cells #[v, .int .i64 s.used] 77 (0, 0)) ∧ s.ok ∧ b ∈ L ∧
    (Src w v s.seed s.first (· ∉ L) ∨ (v = .nilFunc ∧ s.seed = 0 ∧ s.first = []))

theorem Tape.kept {M : Nat → Prop} {L : List Nat} {w w' : World} {b : Nat} {s : TapeS} (h : Tape w b s L) (k : Kept M w w') (hb : ¬ M b) (hd : ∀ b, b < w.heap.size → M b → b ∈ L) : Tape w' b s L := by
  obtain ⟨v, h1, h2, h3, h4⟩ := h
  exact ⟨v, k.heap h1 hb, h2, h3, h4.imp (·.kept k (fun x hx hp hm => hp (hd x hx hm))) id⟩
theorem Tape.lt {L : List Nat} {w : World} {b : Nat} {s : TapeS} (h : Tape w b s L) : b < w.heap.size := by
  obtain ⟨v, h1, _⟩ := h; exact lt_of_block h1
theorem Src.shape {P : Nat → Prop} {w : World} {v : Value} {seed : Int} {l : List Int} (h : Src w v seed l P) : ∃ f first cap, v = .func (.func f) first cap := by
  rcases h with ⟨_, b, hv, _⟩ | ⟨_, b1, b2, ao, cap, hv, _⟩ <;> exact ⟨_, _, _, hv⟩
theorem Src.here {P : Nat → Prop} {w : World} {v : Value} {seed : Int} {l : List Int} (h : Src w v seed l P) : Src w v seed l (fun k => P k ∧ k < w.heap.size) := by
  rcases h with ⟨e, b, hv, hb, hp⟩ | ⟨e, b1, b2, ao, cap, hv, hb1, hb2, p1, p2, hr⟩
  · exact .inl ⟨e, b, hv, hb, hp, lt_of_block hb⟩
  · refine .inr ⟨e, b1, b2, ao, cap, hv, hb1, hb2, ⟨p1, lt_of_block hb1⟩, ⟨p2, lt_of_block hb2⟩, hr.1, hr.2.1, ?_⟩
    rcases hr.2.2 with h | ⟨a, off, ea, hp, hc⟩
    · exact .inl h
    · have := hc 0 (List.length_pos_iff.2 e)
      exact .inr ⟨a, off, ea, ⟨hp, World.block_lt_of_cell? _ _ this⟩, hc⟩
/-- Blocks that are not there yet may be written later. -/
theorem Tape.more {L : List Nat} {w : World} {b : Nat} {s : TapeS} (h : Tape w b s L) (L' : List Nat) (hL : ∀ k ∈ L', k ∈ L ∨ w.heap.size ≤ k) (hb : b ∈ L') : Tape w b s L' := by
  obtain ⟨v, h1, h2, h3, h4⟩ := h
  refine ⟨v, h1, h2, hb, h4.imp (fun x => x.here.mono fun k hk hm => ?_) id⟩
  rcases hL k hm with h | h
  · exact hk.1 h
  · have := hk.2; omega

/-- The source tells its next number, and what tells those behind it. -/
theorem src_next (v : Value) (s : TapeS) (P : Nat → Prop) (w : World) (h : Src w v s.seed s.first P) (hP : ∀ b, w.heap.size ≤ b → P b) :
    ∃ f first cap, v = .func (.func f) first cap ∧ (∀ w, (callFunc f (first ++ cap)).run Try.prog w = .ok (.enter f (first ++ cap)) w) ∧ Calls Try.prog f (first ++ cap) w fun e w' =>
      ∃ f' fi ca, e = .returned (.tuple #[.int .u64 s.draw, .func (.func f') fi ca]) ∧ Src w' (.func (.func f') fi ca) s.next.seed s.next.first P ∧ Kept (fun _ => False) w w' := by
  obtain ⟨seed, l, u⟩ := s
  rcases h with ⟨hl, b, rfl, hb, hp⟩ | ⟨hne, b1, b2, ao, cap, rfl, hb1, hb2, p1, p2, hr⟩
  · simp only at hl
    subst hl
    refine ⟨_, _, _, rfl, fun _ => by kernel_rfl, (seeded1_any b seed w (by rw [cell_blk hb]; rfl)).mono ?_⟩
    rintro e w' ⟨rfl, rfl⟩
    exact ⟨_, _, _, rfl, .inl ⟨rfl, _, rfl, new_at rfl, hP _ (Nat.le_refl _)⟩, (Kept.refl _).alloc _⟩
  · cases l with
    | nil => exact absurd rfl hne
    | cons x r =>
      refine ⟨_, _, _, rfl, fun _ => by kernel_rfl, (listed1_any b1 b2 ao x r cap seed P w (by rw [cell_blk hb1]; rfl) (by rw [cell_blk hb2]; rfl) hr hP).mono ?_⟩
      rintro e w' ⟨v, rfl, hs, hk⟩
      obtain ⟨f', fi, ca, rfl⟩ := hs.shape
      exact ⟨_, _, _, rfl, hs, hk⟩

theorem tape_after {L : List Nat} {b : Nat} {s : TapeS} {w : World} {o v' : Value} (h : w.heap[b]? = some (.cells #[o, .int .i64 s.used] 77 (0, 0))) (hok : s.ok) (hb : b ∈ L) (hs : Src w v' s.next.seed s.next.first (· ∉ L)) :
    Tape ((w.setCell ⟨b, 0, none⟩ v').setCell ⟨b, 1, none⟩ (.int .i64 ((s.used : Int) + 1))) b s.next L := by
  refine ⟨v', ?_, TapeS.ok_next hok, hb, .inl ?_⟩
  · rw [set_blk (set_blk h 0 _) 1 _, TapeS.next_used]; rfl
  · have K : Kept (· = b) w ((w.setCell ⟨b, 0, none⟩ v').setCell ⟨b, 1, none⟩ (.int .i64 ((s.used : Int) + 1))) := ((Kept.refl _).own _ _).own _ _
    exact hs.kept K (fun x _ hp hm => hp (hm ▸ hb))

set_option maxRecDepth 100000 in
/-- (*Tape).Next. -/
theorem next_any (b : Nat) (s : TapeS) (L : List Nat) (w : World) (h : Tape w b s L) (hL : ∀ k ∈ L, k < w.heap.size) (hu : s.used < 9223372036854775807) :
    Calls Try.prog 29 #[.pointer (some ⟨b, 0, none⟩)] w fun e w' =>
      e = .returned (.int .u64 s.draw) ∧ Tape w' b s.next L ∧ Kept (· = b) w w' := by
  obtain ⟨v, h1, h2, h3, h4⟩ := h
  have c0 := cell_blk h1 0
  have c1 := cell_blk h1 1
  have f0 := free_blk h1 0
  have f1 := free_blk h1 1
  simp at c0 c1
  have hn : (s.used : Int) + 1 ≤ 9223372036854775807 := by omega
  have hP : ∀ k, w.heap.size ≤ k → k ∉ L := fun k hk hm => by have := hL k hm; omega
  rcases h4 with h4 | ⟨rfl, h5, h6⟩
  · obtain ⟨f, first, cap, rfl, hcf, hc⟩ := src_next v s (· ∉ L) w h4 hP
    have he : ∀ w, (binOp .eql 74 (.func (.func f) first cap) .nilFunc).run Try.prog w = .ok (.bool false) w := fun _ => rfl
    have HC := Lib.hid hc
    have H1 := Lib.hid h1
    clear hc h1 h4
    go_enter Try.func29, Try.ntmps29
    go_wp2_with fail
    refine HC.out.mono ?_
    rintro e w1 ⟨f', fi', ca', rfl, hsrc, hk⟩
    have hb := hk.heap H1.out id
    have d0 := cell_blk hb 0
    have d1 := cell_blk hb 1
    have g0 := free_blk hb 0
    have g1 := free_blk hb 1
    simp at d0 d1
    have HB := Lib.hid hb
    have HS := Lib.hid hsrc
    clear hb hsrc hu
    go_wp2_with fail
    go_ret
    exact ⟨rfl, tape_after HB.out h2 h3 HS.out, (hk.any.own _ _).own _ _⟩
  · obtain ⟨sd, fs, us⟩ := s
    simp only at h5 h6
    subst h5 h6
    have he : ∀ w, (binOp .eql 74 .nilFunc .nilFunc).run Try.prog w = .ok (.bool true) w := fun _ => rfl
    have hlt := lt_of_block h1
    have H1 := Lib.hid h1
    clear h1
    go_enter Try.func29, Try.ntmps29
    go_wp2_with fail
    refine (seeded_any _ _).mono ?_
    rintro e w1 ⟨rfl, rfl⟩
    go_wp2_with fail
    refine (seeded1_any _ 0 _ (by simpa using World.cell?_alloc_new (w.setCell ⟨b, 0, none⟩ (.func (.func 41) #[] #[.pointer (some ⟨w.heap.size, 0, none⟩)])) #[.int .u64 0] 22 0)).mono ?_
    rintro e w2 ⟨rfl, rfl⟩
    have hne : b ≠ w.heap.size := by omega
    have hne2 : b ≠ w.heap.size + 1 := by omega
    go_wp2_with fail
    go_ret
    refine ⟨rfl, ⟨_, old_blk (old_blk (set_blk (set_blk (set_blk H1.out 0 _) 0 _) 1 _) _) _, TapeS.ok_next h2, h3, .inl (.inl ⟨rfl, _, rfl, new_at (by simp), ?_⟩)⟩, ((((Kept.refl _).own _ _).own _ _).own _ _).alloc _ |>.alloc _⟩
    exact hP _ (by omega)

set_option maxRecDepth 100000 in
theorem next_nil (w : World) : Calls Try.prog 29 #[.pointer none] w fun e w' => e = .returned (.int .u64 0) ∧ w = w' := by
  go_enter Try.func29, Try.ntmps29
  go_wp2_with fail
  go_ret
  exact ⟨rfl, rfl⟩

set_option maxRecDepth 100000 in
/-- (*Tape).Used. -/
theorem used_any (b : Nat) (s : TapeS) (L : List Nat) (w : World) (h : Tape w b s L) :
    Calls Try.prog 20 #[.pointer (some ⟨b, 0, none⟩)] w fun e w' => e = .returned (.int .i64 s.used) ∧ w = w' := by
  obtain ⟨v, h1, h2, h3, h4⟩ := h
  have c1 := cell_blk h1 1
  simp at c1
  clear h1 h2 h3 h4
  go_enter Try.func20, Try.ntmps20
  go_wp2_with fail
  go_ret
  exact ⟨rfl, rfl⟩
set_option maxRecDepth 100000 in
theorem used_nil (w : World) : Calls Try.prog 20 #[.pointer none] w fun e w' => e = .returned (.int .i64 0) ∧ w = w' := by
  go_enter Try.func20, Try.ntmps20
  go_wp2_with fail
  go_ret
  exact ⟨rfl, rfl⟩

set_option maxRecDepth 100000 in
/-- (*Tape).Copy. -/
theorem copy_any (b : Nat) (s : TapeS) (L : List Nat) (w : World) (h : Tape w b s L) :
    Calls Try.prog 28 #[.pointer (some ⟨b, 0, none⟩)] w fun e w' =>
      e = .returned (.pointer (some ⟨w.heap.size, 0, none⟩)) ∧ Tape w' w.heap.size s (w.heap.size :: L) ∧ Kept (fun _ => False) w w' ∧ w'.heap.size = w.heap.size + 1 := by
  obtain ⟨v, h1, h2, h3, h4⟩ := h
  have c0 := cell_blk h1 0
  have c1 := cell_blk h1 1
  simp at c0 c1
  have hsh : (∃ f fi ca, v = .func (.func f) fi ca) ∨ v = .nilFunc := h4.imp (·.shape) (·.1)
  have hne : b ≠ w.heap.size := Nat.ne_of_lt (lt_of_block h1)
  have fin : Tape (w.alloc (.cells #[v, .int .i64 s.used] 77)) w.heap.size s (w.heap.size :: L) ∧ Kept (fun _ => False) w (w.alloc (.cells #[v, .int .i64 s.used] 77)) := by
    have K : Kept (fun _ => False) w (w.alloc (.cells #[v, .int .i64 s.used] 77)) := (Kept.refl _).alloc _
    refine ⟨⟨v, new_blk _ _, h2, List.mem_cons_self, h4.imp (fun x => (x.here.mono fun k hk hm => ?_).kept K (fun _ _ _ h => h)) id⟩, K⟩
    rcases List.mem_cons.1 hm with rfl | hm
    · exact Nat.lt_irrefl _ hk.2
    · exact hk.1 hm
  have H := Lib.hid fin
  clear fin h4 h1
  rcases hsh with ⟨f, fi, ca, rfl⟩ | rfl
  · go_enter Try.func28, Try.ntmps28
    go_wp2_with fail
    go_ret
    exact ⟨rfl, H.out.1, H.out.2, by simp⟩
  · go_enter Try.func28, Try.ntmps28
    go_wp2_with fail
    go_ret
    exact ⟨rfl, H.out.1, H.out.2, by simp⟩
set_option maxRecDepth 100000 in
theorem copy_nil (w : World) : Calls Try.prog 28 #[.pointer none] w fun e w' => e = .returned (.pointer none) ∧ w = w' := by
  go_enter Try.func28, Try.ntmps28
  go_wp2_with fail
  go_ret
  exact ⟨rfl, rfl⟩

theorem info_u64 : (Try.prog.info? 22).map (fun i => (i.zero, i.size, i.bytes)) = some (some (.int .u64 0), 1, 8) := by kernel_rfl

theorem rowU_of_owns {w : World} {base : Nat} {ao : Option Addr} {n cap : Nat} {l : List Int} {P : Nat → Prop} (h : w.ownsRow base 22 1 (.slice ao n cap) n (l.map (Value.int .u64))) (hP : ∀ b, base ≤ b → P b) : n = l.length ∧ RowU w ao l cap P := by
  obtain ⟨h1, h2⟩ := h
  simp at h1
  subst h1
  rcases h2 with ⟨h2, h3⟩ | ⟨g, c, cur, h2, hb, hg, hn, hc, hs, ht⟩
  · simp at h2
    have : l = [] := List.eq_nil_of_length_eq_zero h3
    subst this
    exact ⟨rfl, by simp, by unfold maxLen; simp [h2], .inl rfl⟩
  · simp at h2
    obtain ⟨rfl, rfl⟩ := h2
    refine ⟨rfl, hn, hc, .inr ⟨g, 0, rfl, hP _ hb, fun i hi => ?_⟩⟩
    rw [cell_blk hg]
    have : (cur.toList.take (l.length * 1))[i]? = (l.map (Value.int .u64))[i]? := by rw [ht]
    rw [List.getElem?_take, if_pos (by omega)] at this
    simp at this
    simp [this, hi]

set_option maxRecDepth 100000 in
/-- New. -/
theorem new_any (seed : Int) (ao : Option Addr) (l : List Int) (cap : Nat) (P : Nat → Prop) (L : List Nat) (w : World) (hL : ∀ k ∈ L, k < w.heap.size) (hr : RowU w ao l cap P) (hok : U64 seed ∧ ∀ x ∈ l, U64 x) (hl : l.length ≤ 10000000000000) :
    Calls Try.prog 18 #[.int .u64 seed, .slice ao l.length cap] w fun e w' =>
      ∃ b, e = .returned (.pointer (some ⟨b, 0, none⟩)) ∧ w.heap.size ≤ b ∧ Tape w' b ⟨seed, l, 0⟩ (b :: L) ∧ Kept (fun _ => False) w w' := by
  obtain ⟨i0, hi, hz0, hz1, hz2⟩ := info_parts info_u64
  obtain ⟨ao', cap', w1, hrun, hown, hk⟩ := clone_run (ty := 23) Try.underlying23 hi hz0 hz1 hz2 rfl (by decide) ao l.length cap (l.map (Value.int .u64)) w (by simp)
    (by
      rcases hr.2.2 with rfl | ⟨a, off, rfl, _, hc⟩
      · exact .inl rfl
      · refine .inr ⟨_, rfl, fun j u hu => ?_⟩
        simp only [List.getElem?_map, Option.map_eq_some_iff] at hu
        obtain ⟨x, hx, rfl⟩ := hu
        obtain ⟨hj, rfl⟩ := List.getElem?_eq_some_iff.1 hx
        rw [addr_add, hc j hj]; simp [hj])
    (by intro u hu; simp only [List.mem_map] at hu; obtain ⟨x, _, rfl⟩ := hu; rfl) (by unfold maxLen; omega) (by omega)
  obtain ⟨_, hr'⟩ := rowU_of_owns (P := fun k => w.heap.size ≤ k) hown (fun _ h => h)
  have H := Lib.hid (listed_any ao' l cap' seed (fun k => w.heap.size ≤ k) w1 hr' (fun b hb => Nat.le_trans hk.size hb))
  have hmk := Lib.hid hk
  have HR := Lib.hid hrun
  clear hrun hown hr hr' hk hi hz0 hz1 hz2
  go_enter Try.func18, Try.ntmps18
  go_wp2_with (at_builtin; go_must (refine wpList_append_run rfl _ _ _ _ rfl _ _ rfl rfl HR.out ?_))
  refine H.out.mono ?_
  rintro e w2 ⟨v, rfl, hs, hk2⟩
  obtain ⟨f, fi, ca, rfl⟩ := hs.shape
  have HS := Lib.hid hs
  clear hs
  go_wp2_with fail
  go_ret
  have hsz := Nat.le_trans hmk.out.size hk2.size
  have K := (Kept.refl (M := fun _ => False) w2).alloc (.cells #[.func (.func f) fi ca, .int .i64 0] 77)
  refine ⟨_, rfl, hsz, ⟨_, new_blk _ _, hok, List.mem_cons_self, .inl (HS.out.here.mono (fun k hk hm => ?_) |>.kept K (fun _ _ _ h => h))⟩, (hmk.out.trans hk2).alloc _⟩
  rcases List.mem_cons.1 hm with h | h
  · have := hk.2
    omega
  · have := hL k h
    have := hk.1
    omega

end Go.Proofs.Ythgioaaenfdcdaa
