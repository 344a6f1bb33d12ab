/- Package tally, walked: Pass, Cast. -/
import Derived.Test.YtffjighohloifaaBoxPut21
namespace Go.Proofs.Ytffjighohloifaa
open Go.RowKit

theorem nodup_le {α : Type} [DecidableEq α] : ∀ (a b : List α), a.Nodup → (∀ x ∈ a, x ∈ b) → a.length ≤ b.length
  | [], b, _, _ => Nat.zero_le _
  | x :: r, b, hn, hs => by
    simp only [List.nodup_cons] at hn
    have hx := hs x List.mem_cons_self
    have := nodup_le r (b.erase x) hn.2 (fun y hy => (List.mem_erase_of_ne (by rintro rfl; exact hn.1 hy)).2 (hs y (List.mem_cons_of_mem _ hy)))
    rw [List.length_erase_of_mem hx] at this
    have := List.length_pos_of_mem hx
    simp only [List.length_cons]; omega
/-- No two ballots are of one upstream, each of 0 to 8. -/
structure BoxS.ok (B : BoxS) : Prop where
  nd : (B.l.map (·.up)).Nodup
  rng : ∀ y ∈ B.l, 0 ≤ y.up ∧ y.up < 9
  wn : B.won = true → ∃ y ∈ B.l, y.voted = true ∧ y.key = B.wonK
theorem BoxS.ok.len {B : BoxS} (h : B.ok) : B.l.length ≤ 9 := by
  have := nodup_le (B.l.map (·.up)) ((List.range 9).map Int.ofNat) h.nd (fun x hx => by
    obtain ⟨y, hy, rfl⟩ := List.mem_map.1 hx
    have := h.rng y hy
    exact List.mem_map.2 ⟨y.up.toNat, List.mem_range.2 (by omega), by simp; omega⟩)
  simpa using this
theorem hasB_false {l : List Bal} {u : Int} (h : hasB l u = false) : ∀ y ∈ l, y.up ≠ u := by
  intro y hy
  have := List.any_eq_false.1 h y hy
  simpa using this
theorem BoxS.ok.room {B : BoxS} (h : B.ok) {u : Int} (hu : 0 ≤ u ∧ u < 9) (hh : hasB B.l u = false) : B.l.length ≤ 8 := by
  have := nodup_le (u :: B.l.map (·.up)) ((List.range 9).map Int.ofNat) (by
    rw [List.nodup_cons]
    refine ⟨fun hm => ?_, h.nd⟩
    obtain ⟨y, hy, e⟩ := List.mem_map.1 hm
    exact hasB_false hh y hy e) (fun x hx => by
    rcases List.mem_cons.1 hx with rfl | hx
    · exact List.mem_map.2 ⟨x.toNat, List.mem_range.2 (by omega), by simp; omega⟩
    · obtain ⟨y, hy, rfl⟩ := List.mem_map.1 hx
      have := h.rng y hy
      exact List.mem_map.2 ⟨y.up.toNat, List.mem_range.2 (by omega), by simp; omega⟩)
  simp at this
  exact this
def BoxS.putE (B : BoxS) (u : Int) : Int := if u < 0 ∨ 9 ≤ u then 1 else if hasB B.l u = true then 7 else 0
def BoxS.putB (B : BoxS) (x : Bal) : BoxS := if B.putE x.up = 0 then B.tally x else B
theorem tally_l (B : BoxS) (x : Bal) : (B.tally x).l = B.l ++ [x] ∧ (B.tally x).want = B.want := by
  unfold BoxS.tally
  split
  · exact ⟨rfl, rfl⟩
  · split <;> exact ⟨rfl, rfl⟩
theorem putE_zero {B : BoxS} {u : Int} (h : B.putE u = 0) : (0 ≤ u ∧ u < 9) ∧ hasB B.l u = false := by
  unfold BoxS.putE at h
  split at h
  · cases h
  · split at h
    · cases h
    · rename_i h1 h2
      exact ⟨by omega, by simpa using h2⟩
theorem BoxS.ok.put {B : BoxS} (h : B.ok) (x : Bal) : (B.putB x).ok := by
  unfold BoxS.putB
  split
  · rename_i he
    obtain ⟨hr, hh⟩ := putE_zero he
    have hl := (tally_l B x).1
    refine ⟨?_, fun y hy => ?_, ?_⟩
    · rw [hl, List.map_append, List.nodup_append]
      refine ⟨h.nd, by simp, fun a ha b hb => ?_⟩
      simp at hb
      subst hb
      obtain ⟨y, hy, rfl⟩ := List.mem_map.1 ha
      exact hasB_false hh y hy
    · rw [hl] at hy
      rcases List.mem_append.1 hy with hy | hy
      · exact h.rng y hy
      · simp at hy; subst hy; exact hr
    · intro hw
      unfold BoxS.tally at hw ⊢
      split at hw
      · rename_i hc
        rw [if_pos hc]
        obtain ⟨y, hy, hy2⟩ := h.wn hw
        exact ⟨y, List.mem_append_left _ hy, hy2⟩
      · rename_i hc
        rw [if_neg hc]
        split at hw
        · rename_i hd
          rw [if_pos hd]
          exact ⟨x, by simp, hw, rfl⟩
        · rename_i hd
          rw [if_neg hd]
          obtain ⟨y, hy, hy2⟩ := h.wn hw
          exact ⟨y, List.mem_append_left _ hy, hy2⟩
  · exact h
theorem BoxS.ok.new (n : Int) : (BoxS.new n).ok := ⟨by simp [BoxS.new], by simp [BoxS.new], fun h => by simp [BoxS.new] at h⟩
/-- What a box is behind a call that may have put a ballot into it. -/
def BoxStep (w w' : World) (b : Nat) (ao : Option Addr) (L : List Nat) (B' : BoxS) : Prop :=
  ∃ (ao' : Option Addr) (L' : List Nat), BoxAt w' b ao' B' L' ∧ (∀ k ∈ L, k ∈ L') ∧ (∀ k ∈ L', k ∈ L ∨ w.heap.size ≤ k) ∧ Kept (FB b ao) w w'
theorem put_any {w : World} {b : Nat} {ao : Option Addr} {B : BoxS} {L : List Nat} (H : Hid (BoxAt w b ao B L)) (hok : B.ok) (x : BalM) (hx : x.at w (· ∉ L)) :
    Calls Try.prog 40 #[.pointer (some ⟨b, 0, none⟩), .int .i64 x.b.up, .agg (xCells x)] w fun e w' => e = .returned (.int .i64 (B.putE x.b.up)) ∧ BoxStep w w' b ao L (B.putB x.b) := by
  have key : ∀ w', Kept (fun _ => False) w w' → ¬ B.putE x.b.up = 0 → BoxStep w w' b ao L (B.putB x.b) := fun w' k hne => by
    unfold BoxS.putB
    rw [if_neg hne]
    exact ⟨ao, L, H.out.look k, fun _ h => h, fun _ h => .inl h, k.any⟩
  by_cases hu : x.b.up < 0 ∨ 9 ≤ x.b.up
  · have he : B.putE x.b.up = 1 := by unfold BoxS.putE; rw [if_pos hu]
    rw [he]
    refine (put_arg x hu).mono ?_
    rintro e w' ⟨rfl, hk⟩
    exact ⟨rfl, key w' hk (by rw [he]; decide)⟩
  · by_cases hh : hasB B.l x.b.up = true
    · have he : B.putE x.b.up = 7 := by unfold BoxS.putE; rw [if_neg hu, if_pos hh]
      rw [he]
      refine (put_have H (by have := hok.len; omega) x (by omega) hh).mono ?_
      rintro e w' ⟨rfl, hk⟩
      exact ⟨rfl, key w' hk (by rw [he]; decide)⟩
    · have he : B.putE x.b.up = 0 := by unfold BoxS.putE; rw [if_neg hu, if_neg hh]
      have hh' : hasB B.l x.b.up = false := by simpa using hh
      rw [he]
      refine (put_ok H (hok.room (by omega) hh') x hx (by omega) hh').mono ?_
      rintro e w' ⟨ao', L', rfl, h1, h2, h3, h4⟩
      refine ⟨rfl, ao', L', ?_, h2, h3, h4⟩
      unfold BoxS.putB
      rw [if_pos he]
      exact h1
theorem BoxStep.base {w0 w w' : World} {b : Nat} {ao : Option Addr} {L : List Nat} {B' : BoxS} (h : BoxStep w w' b ao L B') (k : Kept (fun _ => False) w0 w) : BoxStep w0 w' b ao L B' := by
  obtain ⟨ao', L', h1, h2, h3, h4⟩ := h
  exact ⟨ao', L', h1, h2, fun x hx => (h3 x hx).imp id (fun h => Nat.le_trans k.size h), k.any.trans h4⟩
/-- A pass. -/
def Bal.pass (u : Int) : Bal := ⟨false, ⟨#[]⟩, u, Verd.none, 0⟩
set_option maxRecDepth 100000 in
theorem pass_any {w : World} {b : Nat} {ao : Option Addr} {B : BoxS} {L : List Nat} (H : Hid (BoxAt w b ao B L)) (hok : B.ok) (u : Int) :
    Calls Try.prog 20 #[.pointer (some ⟨b, 0, none⟩), .int .i64 u] w fun e w' => e = .returned (.int .i64 (B.putE u)) ∧ BoxStep w w' b ao L (B.putB (Bal.pass u)) := by
  have HC := Lib.hid (put_any H hok ⟨Bal.pass u, none, 0, none, 0⟩ ⟨SetsAt.nil _ _ _, SetsAt.nil _ _ _⟩)
  clear hok
  go_enter Try.func20, Try.ntmps20
  go_wp2_with fail
  refine HC.out.mono ?_
  rintro e w' ⟨rfl, hs⟩
  have HS := Lib.hid hs
  clear hs
  go_wp2_with fail
  go_ret
  exact ⟨rfl, HS.out⟩
/-- A vote. -/
def Bal.vote (u : Int) (V : Verd) (t : Int) : Bal := ⟨true, ⟨(keyB V).toArray⟩, u, V, t⟩
theorem keep5 {w w' : World} {a b c d e : Addr} {x y z u v : Value} (k : Kept (fun _ => False) w w') (h : w.cell? a = some x ∧ w.cell? b = some y ∧ w.cell? c = some z ∧ w.cell? d = some u ∧ w.cell? e = some v) : w'.cell? a = some x ∧ w'.cell? b = some y ∧ w'.cell? c = some z ∧ w'.cell? d = some u ∧ w'.cell? e = some v :=
  ⟨k.cell h.1 id, k.cell h.2.1 id, k.cell h.2.2.1 id, k.cell h.2.2.2.1 id, k.cell h.2.2.2.2 id⟩
theorem Verd.ok.lens {V : Verd} (h : V.ok) : (V.sets.length : Int) ≤ 1000000 ∧ (V.soa.length : Int) ≤ 1000000 ∧ (∀ s ∈ V.sets, (s.data.length : Int) ≤ 1000000) ∧ ∀ s ∈ V.soa, (s.data.length : Int) ≤ 1000000 := by
  have hl := h.len
  rw [keyB_len, setsB_len, setsB_len] at hl
  have h1 := flatten_len_ge setB V.sets (fun s _ => setB_pos s)
  have h2 := flatten_len_ge setB V.soa (fun s _ => setB_pos s)
  exact ⟨by omega, by omega, fun s hs => (setB_lens (h.sets s hs).len).2.2.2, fun s hs => (setB_lens (h.soa s hs).len).2.2.2⟩
set_option maxRecDepth 100000 in
set_option maxHeartbeats 2000000 in
theorem cast_any {w : World} {b : Nat} {ao : Option Addr} {B : BoxS} {L : List Nat} (H : Hid (BoxAt w b ao B L)) (hok : B.ok) (u t : Int) (V : Verd) (hV : V.ok) (a1 : Option Addr) (c1 : Nat) (a2 : Option Addr) (c2 : Nat) (h1 : SetsAt w a1 V.sets (fun _ => True)) (h2 : SetsAt w a2 V.soa (fun _ => True)) :
    Calls Try.prog 19 #[.pointer (some ⟨b, 0, none⟩), .agg #[.int .i64 u, .int .u8 V.code, .slice a1 V.sets.length c1, .slice a2 V.soa.length c2, .int .u32 t]] w fun e w' => e = .returned (.int .i64 (B.putE u)) ∧ BoxStep w w' b ao L (B.putB (Bal.vote u V t)) := by
  have HOK := Lib.hid hok
  have HV := Lib.hid hV
  have K0 := Lib.hid ((Kept.refl (M := fun _ => False) w).alloc (.cells #[.int .i64 u, .int .u8 V.code, .slice a1 V.sets.length c1, .slice a2 V.soa.length c2, .int .u32 t] 65))
  have hsb := new_blk w (.cells #[.int .i64 u, .int .u8 V.code, .slice a1 V.sets.length c1, .slice a2 V.soa.length c2, .int .u32 t] 65)
  have HVA := Lib.hid (show VerdAt w (.agg #[.int .u8 V.code, .slice a1 V.sets.length c1, .slice a2 V.soa.length c2]) V (fun _ => True) from ⟨a1, c1, a2, c2, rfl, h1, h2⟩)
  have HSB := Lib.hid hsb
  clear hok hV h1 h2 hsb
  go_enter Try.func19, Try.ntmps19
  go_wp2_with fail
  refine (own_any _ V _ (HVA.out.look K0.out) HV.out.lens).mono ?_
  rintro e w1 ⟨v1, rfl, hv1, hk1⟩
  obtain ⟨b1, e1, b2, e2, rfl, s1, s2⟩ := hv1
  have hs1 := hk1.heap HSB.out id
  have q0 := cell_blk hs1 0
  have q1 := cell_blk hs1 1
  have q2 := cell_blk hs1 2
  have q3 := cell_blk hs1 3
  have q4 := cell_blk hs1 4
  have f1 := free_blk hs1 1
  have f2 := free_blk hs1 2
  have f3 := free_blk hs1 3
  simp at q0 q1 q2 q3 q4
  have HS1 := Lib.hid hs1
  have HK1 := Lib.hid hk1
  have HT := Lib.hid (And.intro s1 s2)
  clear hk1 s1 s2 hs1
  go_wp2_with fail
  have KS : Kept (· = w.heap.size) w1 (((w1.setCell ⟨w.heap.size, 1, none⟩ (.int .u8 V.code)).setCell ⟨w.heap.size, 2, none⟩ (.slice b1 V.sets.length e1)).setCell ⟨w.heap.size, 3, none⟩ (.slice b2 V.soa.length e2)) := (((Kept.refl _).own _ _).own _ _).own _ _
  have hb3 := set_blk (set_blk (set_blk HS1.out 1 (.int .u8 V.code)) 2 (.slice b1 V.sets.length e1)) 3 (.slice b2 V.soa.length e2)
  obtain ⟨w3, hw3⟩ : ∃ w3, ((w1.setCell ⟨w.heap.size, 1, none⟩ (.int .u8 V.code)).setCell ⟨w.heap.size, 2, none⟩ (.slice b1 V.sets.length e1)).setCell ⟨w.heap.size, 3, none⟩ (.slice b2 V.soa.length e2) = w3 := ⟨_, rfl⟩
  rw [hw3] at KS hb3 ⊢
  have K3 := Lib.hid (show Kept (fun _ => False) w w3 from (K0.out.trans HK1.out).new KS (Nat.le_refl _))
  have hz0 : w.heap.size < w1.heap.size := lt_of_block HS1.out
  have hlb : w.heap.size + 1 ≤ (w.alloc (.cells #[.int .i64 u, .int .u8 V.code, .slice a1 V.sets.length c1, .slice a2 V.soa.length c2, .int .u32 t] 65)).heap.size := by simp
  have T1 := (HT.out.1.kept KS (fun c _ hc e => by omega)).look ((Kept.refl _).drew)
  have T2 := (HT.out.2.kept KS (fun c _ hc e => by omega)).look ((Kept.refl _).drew)
  have HT1 := Lib.hid (T1.mono (Q := fun c => w.heap.size ≤ c) (fun c _ hc => by omega))
  have HT2 := Lib.hid (T2.mono (Q := fun c => w.heap.size ≤ c) (fun c _ hc => by omega))
  have HVD := Lib.hid (show VerdAt w3.drew (.agg #[.int .u8 V.code, .slice b1 V.sets.length e1, .slice b2 V.soa.length e2]) V (fun _ => True) from ⟨b1, e1, b2, e2, rfl, HT1.out.mono (fun _ _ _ => trivial), HT2.out.mono (fun _ _ _ => trivial)⟩)
  simp at hb3
  have p0 := cell_blk hb3 0
  have p1 := cell_blk hb3 1
  have p2 := cell_blk hb3 2
  have p3 := cell_blk hb3 3
  have p4 := cell_blk hb3 4
  simp at p0 p1 p2 p3 p4
  have HS3 : w3.cell? ⟨w.heap.size, 0, none⟩ = some (.int .i64 u) ∧ w3.cell? ⟨w.heap.size, 1, none⟩ = some (.int .u8 V.code) ∧ w3.cell? ⟨w.heap.size, 2, none⟩ = some (.slice b1 V.sets.length e1) ∧ w3.cell? ⟨w.heap.size, 3, none⟩ = some (.slice b2 V.soa.length e2) ∧ w3.cell? ⟨w.heap.size, 4, none⟩ = some (.int .u32 t) := ⟨p0, p1, p2, p3, p4⟩
  have HS3d : w3.drew.cell? ⟨w.heap.size, 0, none⟩ = some (.int .i64 u) ∧ w3.drew.cell? ⟨w.heap.size, 1, none⟩ = some (.int .u8 V.code) ∧ w3.drew.cell? ⟨w.heap.size, 2, none⟩ = some (.slice b1 V.sets.length e1) ∧ w3.drew.cell? ⟨w.heap.size, 3, none⟩ = some (.slice b2 V.soa.length e2) ∧ w3.drew.cell? ⟨w.heap.size, 4, none⟩ = some (.int .u32 t) := HS3
  have hnb : ∀ y, FB b ao y → ¬ y = w.heap.size := fun y hy e => by have := H.out.lt hy; omega
  have HNB := Lib.hid hnb
  clear q0 q1 q2 q3 q4 f1 f2 f3 KS hb3 hw3 hlb T1 T2 hnb HS1 HK1 HT HSB HVA
  go_region_held3 (fun w' => w'.cell? ⟨w.heap.size, 0, none⟩ = some (.int .i64 u) ∧ w'.cell? ⟨w.heap.size, 1, none⟩ = some (.int .u8 V.code) ∧ w'.cell? ⟨w.heap.size, 2, none⟩ = some (.slice b1 V.sets.length e1) ∧ w'.cell? ⟨w.heap.size, 3, none⟩ = some (.slice b2 V.soa.length e2) ∧ w'.cell? ⟨w.heap.size, 4, none⟩ = some (.int .u32 t))
    (first | exact HS3d | go_keep | exact HS4 | exact HS5)
    (first
      | (go_at_call 41; refine (key_any _ V _ HV.out ?_).mono ?_; exact HVD.out; rintro e w4 ⟨rfl, hk4⟩; have HS4 := keep5 hk4 HS3d; have K4 := Lib.hid (K3.out.trans hk4.of_drew); have HB4 := Lib.hid (H.out.look K4.out); have HX4 := Lib.hid (show BalM.at w4 ⟨Bal.vote u V t, b1, e1, b2, e2⟩ (· ∉ L) from ⟨(HT1.out.look hk4).mono (fun c hc hp hm => by obtain ⟨_, _, _, _, _, _, _, _, _, _, _, hLt⟩ := H.out; have := hLt c hm; omega), (HT2.out.look hk4).mono (fun c hc hp hm => by obtain ⟨_, _, _, _, _, _, _, _, _, _, _, hLt⟩ := H.out; have := hLt c hm; omega)⟩); clear hk4)
      | (go_at_call 40; refine (put_any HB4 HOK.out ⟨Bal.vote u V t, b1, e1, b2, e2⟩ HX4.out).mono ?_; rintro e w5 ⟨rfl, hs5⟩; have HS5 : w5.cell? ⟨w.heap.size, 0, none⟩ = some (.int .i64 u) ∧ w5.cell? ⟨w.heap.size, 1, none⟩ = some (.int .u8 V.code) ∧ w5.cell? ⟨w.heap.size, 2, none⟩ = some (.slice b1 V.sets.length e1) ∧ w5.cell? ⟨w.heap.size, 3, none⟩ = some (.slice b2 V.soa.length e2) ∧ w5.cell? ⟨w.heap.size, 4, none⟩ = some (.int .u32 t) := (by obtain ⟨_, _, _, _, _, kk⟩ := hs5; exact ⟨kk.cell HS4.1 (fun h => HNB.out _ h rfl), kk.cell HS4.2.1 (fun h => HNB.out _ h rfl), kk.cell HS4.2.2.1 (fun h => HNB.out _ h rfl), kk.cell HS4.2.2.2.1 (fun h => HNB.out _ h rfl), kk.cell HS4.2.2.2.2 (fun h => HNB.out _ h rfl)⟩); have HST := Lib.hid (hs5.base K4.out); clear hs5))
  go_wp2_with fail
  go_ret
  exact ⟨rfl, HST.out⟩
end Go.Proofs.Ytffjighohloifaa
