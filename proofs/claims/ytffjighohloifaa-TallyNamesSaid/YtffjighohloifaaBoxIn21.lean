/- A box behind a call's start; the examples' boxes. -/
import Derived.Test.YtffjighohloifaaSaid21
import Derived.Test.YtffjighohloifaaBoxAg21
import Derived.Test.YtffjighohloifaaBoxMost21
import Derived.Test.YtffjighohloifaaInts15
namespace Go.Proofs.Ytffjighohloifaa
open Go.RowKit

/-- Since w0 nothing of before is changed; b is a box that has come since. -/
def BoxIn (w0 w : World) (b : Nat) (B : BoxS) : Prop := (∃ (ao : Option Addr) (L : List Nat), BoxAt w b ao B L ∧ ∀ k ∈ L, w0.heap.size ≤ k) ∧ Kept (fun _ => False) w0 w ∧ B.ok ∧ ∀ y ∈ B.l, y.v.ok
theorem BoxIn.look {w0 w w' : World} {b : Nat} {B : BoxS} (h : BoxIn w0 w b B) (k : Kept (fun _ => False) w w') : BoxIn w0 w' b B := by
  obtain ⟨⟨ao, L, h1, h2⟩, h3, h4⟩ := h
  exact ⟨⟨ao, L, h1.look k, h2⟩, h3.trans k, h4⟩
theorem BoxIn.step {w0 w w' : World} {b : Nat} {ao : Option Addr} {B : BoxS} {L : List Nat} (h : BoxStep w w' b ao L B) (hat : ∃ B0, BoxAt w b ao B0 L) (hL : ∀ k ∈ L, w0.heap.size ≤ k) (K : Kept (fun _ => False) w0 w) (hok : B.ok) (hv : ∀ y ∈ B.l, y.v.ok) : BoxIn w0 w' b B := by
  obtain ⟨ao', L', h1, h2, h3, h4⟩ := h
  obtain ⟨B0, cap, ay, cy, lm, -, -, -, -, -, hbL, hgL, hLt⟩ := hat
  refine ⟨⟨ao', L', h1, fun k hk => ?_⟩, K.then h4 (fun i hi hF => ?_), hok, hv⟩
  · rcases h3 k hk with h | h
    · exact hL k h
    · exact Nat.le_trans K.size h
  · have : w0.heap.size ≤ i := by
      rcases hF with rfl | hF
      · exact hL _ hbL
      · exact hL _ (hgL i hF)
    omega
theorem putB_l {B : BoxS} (hv : ∀ y ∈ B.l, y.v.ok) (x : Bal) (hx : x.v.ok) : ∀ y ∈ (B.putB x).l, y.v.ok := by
  intro y hy
  unfold BoxS.putB at hy
  split at hy
  · rw [(tally_l B x).1, List.mem_append] at hy
    rcases hy with h | h
    · exact hv y h
    · rw [List.mem_singleton.1 h]; exact hx
  · exact hv y hy
theorem none_ok : Verd.none.ok := ⟨by decide, by simp [Verd.none], by simp [Verd.none], by decide +kernel⟩
theorem cast_in {w0 w : World} {b : Nat} {B : BoxS} (h : BoxIn w0 w b B) (u t : Int) (V : Verd) (hV : V.ok) (a1 : Option Addr) (c1 : Nat) (a2 : Option Addr) (c2 : Nat) (h1 : SetsAt w a1 V.sets (fun _ => True)) (h2 : SetsAt w a2 V.soa (fun _ => True)) (r : Int) (hr : B.putE u = r) (B' : BoxS) (hB : B.putB (Bal.vote u V t) = B') :
    Calls Try.prog 19 #[.pointer (some ⟨b, 0, none⟩), .agg #[.int .i64 u, .int .u8 V.code, .slice a1 V.sets.length c1, .slice a2 V.soa.length c2, .int .u32 t]] w fun e w' => e = .returned (.int .i64 r) ∧ BoxIn w0 w' b B' := by
  obtain ⟨⟨ao, L, g1, g2⟩, g3, g4, g5⟩ := h
  refine (cast_any (Lib.hid g1) g4 u t V hV a1 c1 a2 c2 h1 h2).mono ?_
  rintro e w' ⟨rfl, hs⟩
  rw [hB] at hs
  exact ⟨by rw [hr], BoxIn.step hs ⟨B, g1⟩ g2 g3 (hB ▸ g4.put _) (hB ▸ putB_l g5 _ hV)⟩
theorem pass_in {w0 w : World} {b : Nat} {B : BoxS} (h : BoxIn w0 w b B) (u : Int) (r : Int) (hr : B.putE u = r) (B' : BoxS) (hB : B.putB (Bal.pass u) = B') :
    Calls Try.prog 20 #[.pointer (some ⟨b, 0, none⟩), .int .i64 u] w fun e w' => e = .returned (.int .i64 r) ∧ BoxIn w0 w' b B' := by
  obtain ⟨⟨ao, L, g1, g2⟩, g3, g4, g5⟩ := h
  refine (pass_any (Lib.hid g1) g4 u).mono ?_
  rintro e w' ⟨rfl, hs⟩
  rw [hB] at hs
  exact ⟨by rw [hr], BoxIn.step hs ⟨B, g1⟩ g2 g3 (hB ▸ g4.put _) (hB ▸ putB_l g5 _ none_ok)⟩
theorem tnew_in {w0 w : World} (K : Kept (fun _ => False) w0 w) (n : Int) (h1 : 1 ≤ n) (h2 : n ≤ 9) : Calls Try.prog 18 #[.int .i64 n] w fun e w' => e = .returned (.tuple #[.pointer (some ⟨w.heap.size, 0, none⟩), .int .i64 0]) ∧ BoxIn w0 w' w.heap.size (BoxS.new n) := by
  refine (tnew_yes n h1 h2 [] w (by simp)).mono ?_
  rintro e w' ⟨rfl, hb, hk, -⟩
  exact ⟨rfl, ⟨none, _, hb, fun k hk => by rw [List.mem_singleton.1 hk]; exact K.size⟩, K.trans hk, BoxS.ok.new n, by simp [BoxS.new]⟩
theorem fresh_in {w0 w : World} (K : Kept (fun _ => False) w0 w) : BoxIn w0 (w.alloc (.cells #[.int .i64 0, .slice none 0 0, .bool false, .string ⟨#[]⟩, .slice none 0 0, .int .u32 0] 75)) w.heap.size (BoxS.new 0) := by
  refine ⟨⟨none, [w.heap.size], ⟨0, none, 0, [], new_blk _ _, ⟨by simp [BoxS.new], .inl ⟨rfl, rfl⟩⟩, rfl, by simp, .inl rfl, List.mem_cons_self, (fun g hg => by cases hg), fun k hk => ?_⟩, fun k hk => ?_⟩, K.alloc _, BoxS.ok.new 0, by simp [BoxS.new]⟩
  · rw [List.mem_singleton.1 hk]; simp
  · rw [List.mem_singleton.1 hk]; exact K.size
theorem won_no_in {w0 w : World} {b : Nat} {B : BoxS} (h : BoxIn w0 w b B) (hw : B.won = false) :
    Calls Try.prog 13 #[.pointer (some ⟨b, 0, none⟩)] w fun e w' => e = .returned (.tuple #[.agg #[.int .u8 0, .slice none 0 0, .slice none 0 0], .int .u32 0, .slice none 0 0, .bool false]) ∧ Kept (fun _ => False) w w' := by
  obtain ⟨⟨ao, L, g1, g2⟩, g3, g4⟩ := h
  refine (won_no (Lib.hid g1) hw).mono ?_
  rintro e w' ⟨rfl, hk⟩
  exact ⟨rfl, hk⟩
theorem won_in {w0 w : World} {b : Nat} {B : BoxS} (h : BoxIn w0 w b B) (t : Int) (ht : B.time = t) (l : List Int) (hl : B.by_ = l) (hll : (l.length : Int) ≤ 1000) (hw : B.won = true) (V : Verd) (hy : (B.l.find? (wonB B)).map (·.v) = some V) :
    Calls Try.prog 13 #[.pointer (some ⟨b, 0, none⟩)] w fun e w' => ∃ a1 c1 a2 c2 ay cy, e = .returned (.tuple #[.agg #[.int .u8 V.code, .slice a1 V.sets.length c1, .slice a2 V.soa.length c2], .int .u32 t, .slice ay l.length cy, .bool true]) ∧ VerdAt w' (.agg #[.int .u8 V.code, .slice a1 V.sets.length c1, .slice a2 V.soa.length c2]) V (w.heap.size ≤ ·) ∧ Cells w' ay (l.map (.int .i64)) (w.heap.size ≤ ·) ∧ Kept (fun _ => False) w w' := by
  obtain ⟨⟨ao, L, g1, g2⟩, g3, g4, g5⟩ := h
  subst ht hl
  obtain ⟨y, hy1, hy2⟩ := Option.map_eq_some_iff.1 hy
  subst hy2
  refine (won_yes (Lib.hid g1) (by have := g4.len; omega) hll hw y hy1 (g5 y (List.mem_of_find?_eq_some hy1))).mono ?_
  rintro e w' ⟨vv, ay, cy, rfl, hv, hc, hk⟩
  obtain ⟨a1, c1, a2, c2, rfl, s1, s2⟩ := hv
  exact ⟨a1, c1, a2, c2, ay, cy, rfl, ⟨a1, c1, a2, c2, rfl, s1, s2⟩, hc, hk⟩
theorem most_in {w0 w : World} {b : Nat} {B : BoxS} (h : BoxIn w0 w b B) (m : Nat) (hm : B.most = m) :
    Calls Try.prog 15 #[.pointer (some ⟨b, 0, none⟩)] w fun e w' => e = .returned (.int .i64 m) ∧ Kept (fun _ => False) w w' := by
  obtain ⟨⟨ao, L, g1, g2⟩, g3, g4, g5⟩ := h
  refine (most_any (Lib.hid g1) (by have := g4.len; omega) m hm).mono ?_
  rintro e w' ⟨rfl, hk⟩
  exact ⟨rfl, hk⟩
theorem has_in {w0 w : World} {b : Nat} {B : BoxS} (h : BoxIn w0 w b B) (u : Int) (r : Bool) (hr : hasB B.l u = r) :
    Calls Try.prog 24 #[.pointer (some ⟨b, 0, none⟩), .int .i64 u] w fun e w' => e = .returned (.bool r) ∧ Kept (fun _ => False) w w' := by
  obtain ⟨⟨ao, L, g1, g2⟩, g3, g4, g5⟩ := h
  refine (has_any (Lib.hid g1) (by have := g4.len; omega) u r hr).mono ?_
  rintro e w' ⟨rfl, hk⟩
  exact ⟨rfl, hk⟩
theorem against_in {w0 w : World} {b : Nat} {B : BoxS} (h : BoxIn w0 w b B) (hw : B.won = true) (l : List Int) (hl : B.against = l) :
    Calls Try.prog 22 #[.pointer (some ⟨b, 0, none⟩)] w fun e w' => ∃ ao' cap', e = .returned (.slice ao' l.length cap') ∧ Cells w' ao' (l.map (.int .i64)) (w.heap.size ≤ ·) ∧ Kept (fun _ => False) w w' := by
  obtain ⟨⟨ao, L, g1, g2⟩, g3, g4, g5⟩ := h
  subst hl
  refine (against_yes (Lib.hid g1) g4.len hw).mono ?_
  rintro e w' ⟨ao', cap', rfl, hc, hk⟩
  exact ⟨ao', cap', rfl, hc, hk⟩
theorem votes_in {w0 w : World} {b : Nat} {B : BoxS} (h : BoxIn w0 w b B) (n : Nat) (hn : B.votes.length = n) :
    Calls Try.prog 23 #[.pointer (some ⟨b, 0, none⟩)] w fun e w' => ∃ ao' cap', e = .returned (.slice ao' n cap') ∧ Kept (fun _ => False) w w' := by
  obtain ⟨⟨ao, L, g1, g2⟩, g3, g4, g5⟩ := h
  subst hn
  refine (votes_any (Lib.hid g1) (by have := g4.len; omega) g5).mono ?_
  rintro e w' ⟨ao', cap', vm, rfl, -, -, -, hk⟩
  exact ⟨ao', cap', rfl, hk⟩

/-- The examples' boxes. -/
def tX : ByteArray := ⟨#[120]⟩
def tY : ByteArray := ⟨#[121]⟩
def tA : ByteArray := ⟨#[97]⟩
def tB : ByteArray := ⟨#[98]⟩
def nineB : Nat → BoxS
  | 0 => BoxS.new 9
  | k + 1 => (nineB k).putB (Bal.vote (8 - (k : Int)) (saidV tX) (20 - (k : Int)))
theorem nineB_facts : ∀ k, k < 9 → (nineB k).won = false ∧ (nineB k).putE (8 - (k : Int)) = 0 := by decide +kernel
theorem putB_not {B : BoxS} {x : Bal} (h : ¬ B.putE x.up = 0) : B.putB x = B := by unfold BoxS.putB; rw [if_neg h]
theorem nine_args : (nineB 0).putE (-1) = 1 ∧ (nineB 0).putB (Bal.vote (-1) Verd.none 0) = nineB 0 ∧ (nineB 0).putE 9 = 1 ∧ (nineB 0).putB (Bal.vote 9 Verd.none 0) = nineB 0 ∧ (nineB 0).putB (Bal.pass 9) = nineB 0 :=
  ⟨by decide +kernel, putB_not (by decide +kernel), by decide +kernel, putB_not (by decide +kernel), putB_not (by decide +kernel)⟩
theorem nine_facts : (nineB 9).won = true ∧ (nineB 9).time = 12 ∧ (nineB 9).by_ = [0, 1, 2, 3, 4, 5, 6, 7, 8] ∧ (nineB 9).most = 9 ∧ (nineB 9).putE 3 = 7 := by decide +kernel
theorem nine_pass : (nineB 9).putB (Bal.pass 3) = nineB 9 := putB_not (by decide +kernel)
theorem nine_facts' : ((nineB 9).l.find? (wonB (nineB 9))).map (·.v) = some (saidV tX) := rfl
theorem said_ok : (saidV tX).ok ∧ (saidV tY).ok ∧ (saidV tA).ok ∧ (saidV tB).ok := by
  have key : ∀ s : ByteArray, s.size = 1 → (saidV s).ok := fun s hs => by
    have e1 : (setB ⟨⟨#[0]⟩, 16, 1, 0, [s]⟩).length = 10 := by
      have h1 := textB_len s
      simp only [setB, textsB, List.length_append, twoB_len, List.map_cons, List.map_nil, List.flatten_cons, List.flatten_nil, List.length_nil]
      simp
      omega
    refine ⟨⟨(by decide : (0 : Int) ≤ 0), (by decide : (0 : Int) ≤ 255)⟩, fun x hx => ?_, by simp [saidV], ?_⟩
    · rw [List.mem_singleton.1 hx]
      exact ⟨⟨(by decide : (0 : Int) ≤ 16), (by decide : (16 : Int) ≤ 65535)⟩, ⟨(by decide : (0 : Int) ≤ 1), (by decide : (1 : Int) ≤ 65535)⟩, by rw [e1]; decide⟩
    · rw [keyB_len, setsB_len, setsB_len]
      simp [saidV, e1]
  exact ⟨key _ rfl, key _ rfl, key _ rfl, key _ rfl⟩
def twoBox : BoxS := (((BoxS.new 2).putB (Bal.vote 0 (saidV tX) 9)).putB (Bal.vote 1 (saidV tY) 3)).putB (Bal.vote 2 (saidV tX) 5)
theorem two_putE : (BoxS.new 2).putE 0 = 0 ∧ ((BoxS.new 2).putB (Bal.vote 0 (saidV tX) 9)).putE 1 = 0 ∧ (((BoxS.new 2).putB (Bal.vote 0 (saidV tX) 9)).putB (Bal.vote 1 (saidV tY) 3)).putE 2 = 0 ∧ twoBox.putE 1 = 7 := by decide +kernel
theorem two_same : twoBox.putB (Bal.vote 1 (saidV tX) 0) = twoBox := by unfold BoxS.putB; rw [show twoBox.putE (Bal.vote 1 (saidV tX) 0).up = 7 from two_putE.2.2.2]; rfl
theorem two_facts : twoBox.won = true ∧ twoBox.time = 5 ∧ twoBox.by_ = [0, 2] ∧ twoBox.against = [1] ∧ twoBox.most = 2 := by decide +kernel
theorem two_find : (twoBox.l.find? (wonB twoBox)).map (·.v) = some (saidV tX) := rfl
def oneBox : BoxS := ((((BoxS.new 1).putB (Bal.pass 4)).putB (Bal.vote 5 (saidV tA) 7)).putB (Bal.vote 1 (saidV tB) 1)).putB (Bal.vote 2 (saidV tA) 2)
theorem one_putE : (BoxS.new 1).putE 4 = 0 ∧ ((BoxS.new 1).putB (Bal.pass 4)).putE 5 = 0 ∧ (((BoxS.new 1).putB (Bal.pass 4)).putB (Bal.vote 5 (saidV tA) 7)).putE 1 = 0 ∧ ((((BoxS.new 1).putB (Bal.pass 4)).putB (Bal.vote 5 (saidV tA) 7)).putB (Bal.vote 1 (saidV tB) 1)).putE 2 = 0 := by decide +kernel
theorem one_facts : oneBox.won = true ∧ oneBox.time = 7 ∧ oneBox.by_ = [5] ∧ oneBox.against = [1] ∧ oneBox.most = 2 ∧ oneBox.votes.length = 3 := by decide +kernel
theorem one_find : (oneBox.l.find? (wonB oneBox)).map (·.v) = some (saidV tA) := rfl
def freshBox : BoxS := (BoxS.new 0).putB (Bal.vote 1 Verd.none 0)
theorem fresh_facts : (BoxS.new 0).putE 1 = 0 ∧ freshBox.won = false ∧ freshBox.most = 1 ∧ hasB freshBox.l 1 = true := by decide +kernel
theorem said_few (s : ByteArray) : (saidV s).few := ⟨(by decide : (1 : Int) ≤ 1000000), fun x hx => by rw [List.mem_singleton.1 hx]; exact (by decide : (1 : Int) ≤ 1000000), (by decide : (0 : Int) ≤ 1000000), fun x hx => by simp [saidV] at hx⟩
end Go.Proofs.Ytffjighohloifaa
