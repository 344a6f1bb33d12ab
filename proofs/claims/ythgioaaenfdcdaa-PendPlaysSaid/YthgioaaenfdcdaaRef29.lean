/- Package hustingsref29, walked: the reference's table: New, Find, Len. -/
import Derived.Test.YthgioaaenfdcdaaUnlikePlain
import Derived.Test.YthgioaaenfdcdaaOwnS
import Derived.Test.YthgioaaenfdcdaaDrawRef
namespace Go.Proofs.Ythgioaaenfdcdaa
open Go.RowKit

/-- A record, laid out. -/
def rOut (r : DRec) : List Value := [.int .i64 r.u, .int .i64 r.s, .int .u16 r.id]
theorem info_out : (Try.prog.info? 82).map (fun i => (i.zero, i.size, i.bytes)) = some (some (.agg #[.int .i64 0, .int .i64 0, .int .u16 0]), 3, 24) := by kernel_rfl
/-- Block b is the reference's table of n upstreams, whose row lies at ao. -/
def RTbl (w : World) (b : Nat) (ao : Option Addr) (n : Nat) (D : List DRec) : Prop :=
  ∃ cap, w.heap[b]? = some (.cells #[.int .i64 n, .slice ao D.length cap] 80 (0, 0)) ∧ OwnsS w 0 82 3 rOut (.slice ao D.length cap) D
def RFoot (b : Nat) (ao : Option Addr) (x : Nat) : Prop := x = b ∨ (Value.slice ao 0 0).ownBlock = some x
section
variable {w w' : World} {b n : Nat} {ao : Option Addr} {D : List DRec}
theorem own_slice (ao : Option Addr) (n c : Nat) : (Value.slice ao n c).ownBlock = (Value.slice ao 0 0).ownBlock := by cases ao <;> rfl
theorem RTbl.kept {M : Nat → Prop} (h : RTbl w b ao n D) (k : Kept M w w') (hm : ∀ x, RFoot b ao x → ¬ M x) : RTbl w' b ao n D := by
  obtain ⟨cap, h1, h2⟩ := h
  exact ⟨cap, k.heap h1 (hm _ (.inl rfl)), h2.keepAt k (fun g hg => hm g (.inr (by rw [own_slice] at hg; exact hg)))⟩
theorem RTbl.look (h : RTbl w b ao n D) (k : Kept (fun _ => False) w w') : RTbl w' b ao n D := h.kept k (fun _ _ => id)
theorem RTbl.lt (h : RTbl w b ao n D) {x : Nat} (hx : RFoot b ao x) : x < w.heap.size := by
  obtain ⟨cap, h1, h2⟩ := h
  rcases hx with rfl | hx
  · exact lt_of_block h1
  · rw [← own_slice ao D.length cap] at hx
    exact (World.ownsRow.lt h2 x hx).2
/-- The cells of a record. -/
theorem RTbl.at (h : RTbl w b ao n D) {i : Nat} (hi : i < D.length) : ∃ g, ao = some ⟨g, 0, none⟩ ∧ w.cell? ⟨g, i * 3, none⟩ = some (.int .i64 D[i].u) ∧ w.cell? ⟨g, i * 3 + 1, none⟩ = some (.int .i64 D[i].s) ∧ w.cell? ⟨g, i * 3 + 2, none⟩ = some (.int .u16 D[i].id) := by
  obtain ⟨cap, h1, h2⟩ := h
  obtain ⟨g, e, _, _, hc⟩ := h2.at (fun _ => rfl) hi
  exact ⟨g, e, by have := hc 0 (by decide); simpa [rOut] using this, by have := hc 1 (by decide); simpa [rOut] using this, by have := hc 2 (by decide); simpa [rOut] using this⟩
end

theorem rnew29_no (ups : Int) (h : ups < 1 ∨ 9 < ups) (w : World) : Calls Try.prog 21 #[.int .i64 ups] w fun e w' => e = .returned (.tuple #[.pointer none, .int .i64 1]) ∧ w = w' := by
  by_cases h1 : ups < 1
  · have d1 : decide (ups < 1) = true := by simpa using h1
    go_enter Try.func21, Try.ntmps21
    go_wp2_with fail
    go_ret2
    exact ⟨rfl, rfl⟩
  · have d1 : decide (ups < 1) = false := by simpa using h1
    have d2 : decide (9 < ups) = true := by simp; omega
    go_enter Try.func21, Try.ntmps21
    go_wp2_with fail
    go_ret2
    exact ⟨rfl, rfl⟩
theorem rnew29_any (n : Nat) (h1 : 1 ≤ n) (h9 : n ≤ 9) (w : World) : Calls Try.prog 21 #[.int .i64 n] w fun e w' => e = .returned (.tuple #[.pointer (some ⟨w.heap.size, 0, none⟩), .int .i64 0]) ∧ RTbl w' w.heap.size none n [] ∧ Kept (fun _ => False) w w' := by
  have d1 : decide ((n : Int) < 1) = false := by simp; omega
  have d2 : decide (9 < (n : Int)) = false := by simp; omega
  go_enter Try.func21, Try.ntmps21
  go_wp2_with fail
  go_ret2
  exact ⟨rfl, ⟨0, new_blk _ _, OwnsS.nil (by simp)⟩, (Kept.refl _).alloc _⟩

/-- The first record of an ID at an upstream. -/
def findR (D : List DRec) (u id : Int) : Option Int := (D.find? (fun r => decide (r.u = u ∧ r.id = id))).map (·.s)
theorem findR_none {D : List DRec} {u id : Int} (h : ∀ r ∈ D, r.u = u → r.id ≠ id) : findR D u id = none := by
  unfold findR
  rw [List.find?_eq_none.2]
  · rfl
  · intro r hr; simp; exact h r hr
theorem findR_at {D : List DRec} {u id : Int} {k : Nat} (hk : k < D.length) (h : ∀ j (hj : j < D.length), j < k → D[j].u = u → D[j].id ≠ id) (h1 : D[k].u = u) (h2 : D[k].id = id) : findR D u id = some D[k].s := by
  unfold findR
  rw [(List.find?_eq_some_iff_getElem).2 ⟨by simp [h1, h2], k, hk, rfl, fun j hj => by simp; by_cases e : D[j].u = u; exact .inr (h j (by omega) hj e); exact .inl e⟩]
  rfl
set_option maxHeartbeats 1000000 in
theorem rfind29_any (b n : Nat) (ao : Option Addr) (D : List DRec) (u id : Int) (hl : D.length ≤ 1000) (w : World) (h : RTbl w b ao n D) :
    Calls Try.prog 35 #[.pointer (some ⟨b, 0, none⟩), .int .i64 u, .int .u16 id] w fun e w' => e = .returned (.tuple #[.int .i64 ((findR D u id).getD 0), .bool (findR D u id).isSome]) ∧ w = w' := by
  have H := Lib.hid h
  obtain ⟨cap, hb, -⟩ := h
  have c1 := cell_blk hb 1
  simp at c1
  clear hb
  go_enter Try.func35, Try.ntmps35
  go_wp2_with fail
  go_loop [8] (fun c => ∃ k : Nat, k ≤ D.length ∧ c = .int .i64 k ∧ Hid (∀ j (hj : j < D.length), j < k → D[j].u = u → D[j].id ≠ id)) (fun c => D.length - (intOf c).toNat)
  case atStart => exact ⟨0, by omega, rfl, Lib.hid (fun j _ hj => absurd hj (by omega))⟩
  case round =>
    obtain ⟨k, hk, rfl, hn⟩ := hrel
    by_cases hlt : k < D.length
    · obtain ⟨g, rfl, x0, x1, x2⟩ := H.out.at hlt
      have i0 : (0 : Int) ≤ (k : Int) := Int.natCast_nonneg _
      have i1 : (k : Int) < (D.length : Int) := by omega
      have HF := Lib.hid (findR_at (u := u) (id := id) hlt hn.out)
      obtain ⟨r, hr⟩ : ∃ r, D[k] = r := ⟨_, rfl⟩
      rw [hr] at x0 x1 x2 HF
      obtain ⟨ru, rs, rid⟩ := r
      simp only at x0 x1 x2 HF
      have HR := Lib.hid hr
      clear hr
      by_cases hu : ru = u
      · by_cases hid : rid = id
        · have HF2 := Lib.hid (HF.out hu hid)
          clear HF
          subst hu
          subst hid
          go_wp2_with fail
          go_ret2
          rw [HF2.out]
          exact ⟨rfl, rfl⟩
        · subst hu
          have e2 : (rid == id) = false := by simpa using hid
          go_wp2_with fail
          go_round
          case rel => exact ⟨k + 1, by omega, by go_num, Lib.hid (fun j hj hjk => by
            by_cases e : j = k
            · subst e; rw [HR.out]; intro _; exact hid
            · exact hn.out j hj (by omega))⟩
          case measure => simp [intOf]; omega
      · have e1 : (ru == u) = false := by simpa using hu
        go_wp2_with fail
        go_round
        case rel => exact ⟨k + 1, by omega, by go_num, Lib.hid (fun j hj hjk => by
            by_cases e : j = k
            · subst e; rw [HR.out]; intro h; exact absurd h hu
            · exact hn.out j hj (by omega))⟩
        case measure => simp [intOf]; omega
    · obtain rfl : k = D.length := by omega
      go_wp2_with fail
      go_ret2
      rw [findR_none (fun r hr h1 => by
        obtain ⟨j, hj, rfl⟩ := List.getElem_of_mem hr
        exact hn.out j hj hj h1)]
      exact ⟨rfl, rfl⟩

def lenR (D : List DRec) (u : Int) : Nat := D.countP (fun r => decide (r.u = u))
theorem lenR_take (D : List DRec) (u : Int) {k : Nat} (h : k < D.length) : lenR (D.take (k + 1)) u = lenR (D.take k) u + if D[k].u = u then 1 else 0 := by
  unfold lenR
  rw [List.take_succ_eq_append_getElem h, List.countP_append]
  simp
theorem lenR_le (D : List DRec) (u : Int) : lenR D u ≤ D.length := List.countP_le_length
set_option maxHeartbeats 1000000 in
theorem rlen29_any (b n : Nat) (ao : Option Addr) (D : List DRec) (u : Int) (hl : D.length ≤ 1000) (w : World) (h : RTbl w b ao n D) :
    Calls Try.prog 33 #[.pointer (some ⟨b, 0, none⟩), .int .i64 u] w fun e w' => e = .returned (.int .i64 (lenR D u)) ∧ w = w' := by
  have H := Lib.hid h
  obtain ⟨cap, hb, -⟩ := h
  have c1 := cell_blk hb 1
  simp at c1
  clear hb
  go_enter Try.func33, Try.ntmps33
  go_wp2_with fail
  go_loop [5, 6] (fun m c => ∃ k : Nat, k ≤ D.length ∧ c = .int .i64 k ∧ m = .int .i64 (lenR (D.take k) u)) (fun _ c => D.length - (intOf c).toNat)
  case atStart => exact ⟨0, by omega, rfl, by simp [lenR]⟩
  case round =>
    obtain ⟨k, hk, rfl, rfl⟩ := hrel
    have hb1 := lenR_le (D.take k) u
    rw [List.length_take] at hb1
    obtain ⟨m, hm⟩ : ∃ m, lenR (D.take k) u = m := ⟨_, rfl⟩
    by_cases hlt : k < D.length
    · obtain ⟨g, rfl, x0, -, -⟩ := H.out.at hlt
      have i0 : (0 : Int) ≤ (k : Int) := Int.natCast_nonneg _
      have i1 : (k : Int) < (D.length : Int) := by omega
      have HS := Lib.hid (lenR_take D u hlt)
      rw [hm] at HS hb1 ⊢
      obtain ⟨r, hr⟩ : ∃ r, D[k] = r := ⟨_, rfl⟩
      rw [hr] at x0 HS
      obtain ⟨ru, rs, rid⟩ := r
      simp only at x0 HS
      clear hr hm
      by_cases hu : ru = u
      · subst hu
        go_wp2_with fail
        go_round
        case rel => exact ⟨k + 1, by omega, by go_num, by rw [HS.out, if_pos rfl]; go_num⟩
        case measure => simp [intOf]; omega
      · have e1 : (ru == u) = false := by simpa using hu
        go_wp2_with fail
        go_round
        case rel => exact ⟨k + 1, by omega, by go_num, by rw [HS.out, if_neg hu]; rfl⟩
        case measure => simp [intOf]; omega
    · obtain rfl : k = D.length := by omega
      clear hm
      go_wp2_with fail
      go_ret
      exact ⟨rfl, rfl⟩
end Go.Proofs.Ythgioaaenfdcdaa
