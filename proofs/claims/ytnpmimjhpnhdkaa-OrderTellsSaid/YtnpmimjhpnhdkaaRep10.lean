/- Package repute: a book that the call has made, step by step. -/
import Derived.Test.YtnpmimjhpnhdkaaRep9
import Derived.Test.YtnpmimjhpnhdkaaInts15
namespace Go.Proofs.Ytnpmimjhpnhdkaa
open Go.RowKit

theorem ok_set {s : BookS} (hs : s.ok) {u : Nat} {x : One} (hx : x.ok) : ({ s with l := s.l.set u x } : BookS).ok := ok_count hs hx
theorem ok_agreeI {s : BookS} (hs : s.ok) (u : Int) : (s.agreeI u).ok := by
  unfold BookS.agreeI
  split
  · unfold BookS.agree
    cases h : s.l[u.toNat]? with
    | none => exact hs
    | some x =>
      have hx : x.ok := hs.2.2.2.2.2 x (List.mem_of_getElem? h)
      obtain ⟨h1, h2, h3, h4, h5, h6⟩ := hx
      have hy : ({ x with agree := min 65535 (x.agree + 1) } : One).ok := ⟨h1, h2, by simp only; omega, h4, h5, h6⟩
      exact ok_set hs (ok_change hy hs _)
  · exact hs
theorem ok_silentI {s : BookS} (hs : s.ok) (u : Int) : (s.silentI u).ok := by
  unfold BookS.silentI
  split
  · unfold BookS.silent
    cases h : s.l[u.toNat]? with
    | none => exact hs
    | some x =>
      have hx : x.ok := hs.2.2.2.2.2 x (List.mem_of_getElem? h)
      obtain ⟨h1, h2, h3, h4, h5, h6⟩ := hx
      have hy : ({ x with silent := min 65535 (x.silent + 1) } : One).ok := ⟨h1, h2, h3, h4, by simp only; omega, h6⟩
      exact ok_set hs (ok_change hy hs _)
  · exact hs
theorem ok_dissentI {s : BookS} (hs : s.ok) (u now : Int) : (s.dissentI u now).ok := by
  unfold BookS.dissentI
  split
  · rename_i ht
    unfold BookS.dissent
    cases h : s.l[u.toNat]? with
    | none => exact hs
    | some x =>
      have hx : x.ok := hs.2.2.2.2.2 x (List.mem_of_getElem? h)
      obtain ⟨h1, h2, h3, h4, h5, h6⟩ := hx
      have hy : ({ x with dissent := min 65535 (x.dissent + 1) } : One).ok := ⟨h1, h2, h3, by simp only; omega, h5, h6⟩
      have hd : (x.dissents s.limit).ok := ok_change (ok_change hy hs _) hs _
      simp only
      split
      · have hr := hs.2.2.1
        have hr2 := hs.2.2.2.1
        have hn := ht.2
        have := ok_set (u := u.toNat) (x := (x.dissents s.limit).resting (now + s.rest)) (ok_set (u := u.toNat) hs hd) ⟨hd.1, hd.2.1, hd.2.2.1, hd.2.2.2.1, hd.2.2.2.2.1, by simp only [One.resting]; omega⟩
        exact this
      · exact ok_set hs hd
  · exact hs
theorem ok_backI {s : BookS} (hs : s.ok) (now : Int) : (s.back now).ok := by
  have := ok_backed hs now s.l.length
  rwa [backed_full] at this
theorem len_agreeI (s : BookS) (u : Int) : (s.agreeI u).l.length = s.l.length := by unfold BookS.agreeI BookS.agree; split <;> (try split) <;> simp
theorem len_silentI (s : BookS) (u : Int) : (s.silentI u).l.length = s.l.length := by unfold BookS.silentI BookS.silent; split <;> (try split) <;> simp
theorem len_dissentI (s : BookS) (u now : Int) : (s.dissentI u now).l.length = s.l.length := by unfold BookS.dissentI BookS.dissent; split <;> (try split) <;> (try simp only) <;> (try split) <;> simp
theorem len_back (s : BookS) (now : Int) : (s.back now).l.length = s.l.length := by simp [BookS.back]

/-- A book that the call from W on has made. -/
structure Own (W w : World) (b g : Nat) (s : BookS) : Prop where
  bk : Book w b g s
  ok : s.ok
  kp : Kept (fun _ => False) W w
  hb : W.heap.size ≤ b
  hg : W.heap.size ≤ g
section
variable {W w w' : World} {b g : Nat} {s : BookS}
theorem Own.look (h : Own W w b g s) (k : Kept (fun _ => False) w w') : Own W w' b g s := ⟨h.bk.look k, h.ok, h.kp.trans k, h.hb, h.hg⟩
theorem Own.step {s' : BookS} (h : Own W w b g s) (hb : Book w' b g s') (ho : s'.ok) (k : Kept (· = g) w w') : Own W w' b g s' := ⟨hb, ho, h.kp.new k h.hg, h.hb, h.hg⟩
/-- Another book was written. -/
theorem Own.aside {x : Nat} (h : Own W w b g s) (k : Kept (· = x) w w') (h1 : b ≠ x) (h2 : g ≠ x) (h3 : W.heap.size ≤ x) : Own W w' b g s := ⟨h.bk.kept k h1 h2, h.ok, h.kp.new k h3, h.hb, h.hg⟩
theorem Own.len (h : Own W w b g s) : s.l.length ≤ 1000 := by have := h.ok.2.2.2.2.1; omega

theorem own_new (H : Hid (Kept (fun _ => False) W w)) (ups : Nat) (limit rest : Int) (h : newOk ups limit rest) : Calls Try.prog 19 #[.int .i64 ups, .int .i64 limit, .int .i64 rest] w fun e w' => ∃ b g,
    e = .returned (.tuple #[.pointer (some ⟨b, 0, none⟩), .int .i64 0]) ∧ Own W w' b g (newB ups limit rest) ∧ w.heap.size ≤ b ∧ w.heap.size ≤ g ∧ b < w'.heap.size ∧ g < w'.heap.size := by
  refine (rnew_any ups limit rest w h).mono ?_
  rintro e w' ⟨rfl, hb, hk⟩
  have := H.out.size
  exact ⟨_, _, rfl, ⟨hb, newB_ok h, H.out.trans hk, by omega, by omega⟩, by omega, by omega, hb.ltb, hb.ltg⟩
theorem own_agree (H : Hid (Own W w b g s)) (u er : Int) (he : errI (s.valid u) = er) : Calls Try.prog 31 #[.pointer (some ⟨b, 0, none⟩), .int .i64 u] w fun e w' => e = .returned (.int .i64 er) ∧ Own W w' b g (s.agreeI u) ∧ Kept (· = g) w w' := by
  refine (agree_any b g s u w H.out.bk H.out.ok).mono ?_
  rintro e w' ⟨rfl, hb, hk⟩
  exact ⟨by rw [he], H.out.step hb (ok_agreeI H.out.ok u) hk, hk⟩
theorem own_silent (H : Hid (Own W w b g s)) (u er : Int) (he : errI (s.valid u) = er) : Calls Try.prog 34 #[.pointer (some ⟨b, 0, none⟩), .int .i64 u] w fun e w' => e = .returned (.int .i64 er) ∧ Own W w' b g (s.silentI u) ∧ Kept (· = g) w w' := by
  refine (silent_any b g s u w H.out.bk H.out.ok).mono ?_
  rintro e w' ⟨rfl, hb, hk⟩
  exact ⟨by rw [he], H.out.step hb (ok_silentI H.out.ok u) hk, hk⟩
theorem own_dissent (H : Hid (Own W w b g s)) (u now er : Int) (he : errI (s.takes u now) = er) : Calls Try.prog 21 #[.pointer (some ⟨b, 0, none⟩), .int .i64 u, .int .i64 now] w fun e w' => e = .returned (.int .i64 er) ∧ Own W w' b g (s.dissentI u now) ∧ Kept (· = g) w w' := by
  refine (dissent_any b g s u now w H.out.bk H.out.ok).mono ?_
  rintro e w' ⟨rfl, hb, hk⟩
  exact ⟨by rw [he], H.out.step hb (ok_dissentI H.out.ok u now) hk, hk⟩
theorem own_back (H : Hid (Own W w b g s)) (now : Int) (l : List Int) (hl : s.backL now = l) : Calls Try.prog 23 #[.pointer (some ⟨b, 0, none⟩), .int .i64 now] w fun e w' => ∃ ao cap, e = .returned (.slice ao l.length cap) ∧ OwnsI w' w.heap.size (.slice ao l.length cap) l ∧ Own W w' b g (s.back now) ∧ Kept (· = g) w w' := by
  refine (back_any b g s now w H.out.bk H.out.ok).mono ?_
  rintro e w' ⟨v, rfl, ho, hb, hk⟩
  rw [hl] at ho
  obtain ⟨ao, cap, rfl⟩ := ho.slice
  exact ⟨ao, cap, rfl, ho, H.out.step hb (ok_backI H.out.ok now) hk, hk⟩
theorem own_may (H : Hid (Own W w b g s)) (l : List Int) (hl : mayL s.l = l) : Calls Try.prog 11 #[.pointer (some ⟨b, 0, none⟩)] w fun e w' => ∃ ao cap, e = .returned (.slice ao l.length cap) ∧ OwnsI w' w.heap.size (.slice ao l.length cap) l ∧ Own W w' b g s ∧ Kept (fun _ => False) w w' := by
  refine (may_any b g s H.out.len w H.out.bk).mono ?_
  rintro e w' ⟨v, rfl, ho, hk⟩
  rw [hl] at ho
  obtain ⟨ao, cap, rfl⟩ := ho.slice
  exact ⟨ao, cap, rfl, ho, H.out.look hk, hk⟩
theorem own_score (H : Hid (Own W w b g s)) (u x : Int) (hx : (s.of u).score = x) : Calls Try.prog 17 #[.pointer (some ⟨b, 0, none⟩), .int .i64 u] w fun e w' => e = .returned (.int .i64 x) ∧ Own W w' b g s ∧ Kept (fun _ => False) w w' := by
  refine (score_of _ _ u w (Lib.hid (of_any b g s u H.out.len w H.out.bk))).mono ?_
  rintro e w' ⟨rfl, hk⟩
  exact ⟨by rw [hx], H.out.look hk, hk⟩
theorem own_rests (H : Hid (Own W w b g s)) (u : Int) (x : Bool) (hx : (s.of u).rests = x) : Calls Try.prog 22 #[.pointer (some ⟨b, 0, none⟩), .int .i64 u] w fun e w' => e = .returned (.bool x) ∧ Own W w' b g s ∧ Kept (fun _ => False) w w' := by
  refine (rests_of _ _ u w (Lib.hid (of_any b g s u H.out.len w H.out.bk))).mono ?_
  rintro e w' ⟨rfl, hk⟩
  exact ⟨by rw [hx], H.out.look hk, hk⟩
theorem own_trial (H : Hid (Own W w b g s)) (u : Int) (x : Bool) (hx : (s.of u).trial = x) : Calls Try.prog 16 #[.pointer (some ⟨b, 0, none⟩), .int .i64 u] w fun e w' => e = .returned (.bool x) ∧ Own W w' b g s ∧ Kept (fun _ => False) w w' := by
  refine (trial_of _ _ u w (Lib.hid (of_any b g s u H.out.len w H.out.bk))).mono ?_
  rintro e w' ⟨rfl, hk⟩
  exact ⟨by rw [hx], H.out.look hk, hk⟩
theorem own_copy (H : Hid (Own W w b g s)) (h0 : 0 < s.l.length) : Calls Try.prog 26 #[.pointer (some ⟨b, 0, none⟩)] w fun e w' => ∃ b' g' cap, e = .returned (.pointer (some ⟨b', 0, none⟩)) ∧ w.heap.size ≤ b' ∧ w.heap.size ≤ g' ∧ b' < w'.heap.size ∧ g' < w'.heap.size ∧ Own W w' b' g' { s with cap := cap } ∧ Own W w' b g s ∧ Kept (fun _ => False) w w' := by
  refine (bcopy_any b g s H.out.len h0 w H.out.bk).mono ?_
  rintro e w' ⟨b', g', cap, rfl, h1, h2, hb, hk⟩
  have := H.out.kp.size
  exact ⟨b', g', cap, rfl, h1, h2, hb.ltb, hb.ltg, ⟨hb, H.out.ok, H.out.kp.trans hk, by omega, by omega⟩, H.out.look hk, hk⟩
end
end Go.Proofs.Ytnpmimjhpnhdkaa
