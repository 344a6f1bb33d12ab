/- Package tally, walked: Votes. -/
import Derived.Test.YtffjighohloifaaBoxCopy21
namespace Go.Proofs.Ytffjighohloifaa
open Go.RowKit

/-- A vote, as it is told; and where its verdict lies. -/
structure Vt where
  up : Int
  v : Verd
  time : Int
structure VtM where
  s : Vt
  a1 : Option Addr
  c1 : Nat
  a2 : Option Addr
  c2 : Nat
def VtM.cells (x : VtM) : List Value := [.int .i64 x.s.up, .int .u8 x.s.v.code, .slice x.a1 x.s.v.sets.length x.c1, .slice x.a2 x.s.v.soa.length x.c2, .int .u32 x.s.time]
def VtM.at (w : World) (x : VtM) (P : Nat → Prop) : Prop := SetsAt w x.a1 x.s.v.sets P ∧ SetsAt w x.a2 x.s.v.soa P
theorem VtM.at.kept {w w' : World} {x : VtM} {P M : Nat → Prop} (h : x.at w P) (k : Kept M w w') (hd : ∀ b, b < w.heap.size → P b → ¬ M b) : x.at w' P := ⟨h.1.kept k hd, h.2.kept k hd⟩
theorem VtM.at.mono {w : World} {x : VtM} {P Q : Nat → Prop} (h : x.at w P) (hd : ∀ b, b < w.heap.size → P b → Q b) : x.at w Q := ⟨h.1.mono hd, h.2.mono hd⟩
def Bal.vt (y : Bal) : Vt := ⟨y.up, y.v, y.time⟩
def BoxS.votes (B : BoxS) : List Vt := (B.l.filter (·.voted)).map Bal.vt
theorem info_vote : (Try.prog.info? 65).map (fun i => (i.zero, i.size, i.bytes)) = some (some (.agg #[.int .i64 0, .int .u8 0, .slice none 0 0, .slice none 0 0, .int .u32 0]), 5, 72) := by kernel_rfl
set_option maxRecDepth 100000 in
set_option maxHeartbeats 4000000 in
theorem votes_any {w : World} {b : Nat} {ao : Option Addr} {B : BoxS} {L : List Nat} (H : Hid (BoxAt w b ao B L)) (hl : B.l.length ≤ 1000) (hok : ∀ y ∈ B.l, y.v.ok) :
    Calls Try.prog 23 #[.pointer (some ⟨b, 0, none⟩)] w fun e w' => ∃ (ao' : Option Addr) (cap' : Nat) (vm : List VtM), e = .returned (.slice ao' B.votes.length cap') ∧ vm.map (·.s) = B.votes ∧
      w'.ownsRow w.heap.size 65 5 (.slice ao' B.votes.length cap') B.votes.length (vm.map VtM.cells).flatten ∧ (∀ x ∈ vm, x.at w' (fun c => w.heap.size ≤ c ∧ ¬ (Value.slice ao' 0 0).ownBlock = some c)) ∧ Kept (fun _ => False) w w' := by
  obtain ⟨cap, ay, cy, lm, hb, ho, hlm, hat, -⟩ := H.out
  have hln : lm.length = B.l.length := by rw [← hlm]; simp
  have c1 := cell_blk hb 1
  simp at c1
  obtain ⟨l, hle⟩ : ∃ l, B.l = l := ⟨_, rfl⟩
  obtain ⟨n, hn⟩ : ∃ n, l.length = n := ⟨_, rfl⟩
  have HLE := Lib.hid (show B.votes = (l.filter (·.voted)).map Bal.vt from by unfold BoxS.votes; rw [hle])
  rw [hle] at c1 ho hln hl hlm hok
  rw [hn] at c1 ho hln hl
  have HO := Lib.hid ho
  have HLM := Lib.hid hlm
  have HN := Lib.hid hn
  have HOK := Lib.hid hok
  have HAT := Lib.hid hat
  clear hb ho hlm hn hle hok hat
  go_enter Try.func23, Try.ntmps23
  go_wp2_with fail
  go_loopw [3, 5, 6, 14] (fun v3 _ _ c wr => ∃ (k : Nat) (ao2 : Option Addr) (cap2 : Nat) (vm : List VtM), k ≤ n ∧ c = .int .i64 k ∧ v3 = .slice ao2 vm.length cap2 ∧ vm.length ≤ k ∧ vm.map (·.s) = ((l.take k).filter (·.voted)).map Bal.vt ∧
      wr.ownsRow w.heap.size 65 5 (.slice ao2 vm.length cap2) vm.length (vm.map VtM.cells).flatten ∧ (∀ x ∈ vm, x.at wr (fun c => w.heap.size ≤ c ∧ ¬ (Value.slice ao2 0 0).ownBlock = some c)) ∧ Kept (fun _ => False) w wr) (fun _ _ _ c _ => n - (intOf c).toNat)
  case atStart => exact ⟨0, none, 0, [], by omega, rfl, rfl, by simp, rfl, ⟨by simp, .inl ⟨rfl, rfl⟩⟩, by simp, Kept.refl _⟩
  case round =>
    obtain ⟨k, ao2, cap2, vm, hk, rfl, rfl, hvl, hvm, hown, hvat, hkw⟩ := hrel
    have HOW := Lib.hid hown
    have KW := Lib.hid hkw
    have HVM := Lib.hid hvm
    have HVA := Lib.hid hvat
    have HFS := Lib.hid (fun h : k < l.length => filter_take_succ (fun y : Bal => y.voted) l h)
    have hz := hkw.size
    have d1 := hkw.cell c1 id
    clear hown hkw hvm hvat c1
    by_cases hlt : k < n
    · obtain ⟨y, hy⟩ : ∃ y, lm[k]? = some y := ⟨_, List.getElem?_eq_getElem (by omega)⟩
      obtain ⟨g, rfl, -, z0, z1, z2, z3, z4, z5, z6⟩ := bal_cells HO.out hlt y hy
      have z0 := KW.out.cell z0 id
      have z1 := KW.out.cell z1 id
      have z2 := KW.out.cell z2 id
      have z3 := KW.out.cell z3 id
      have z4 := KW.out.cell z4 id
      have z5 := KW.out.cell z5 id
      have z6 := KW.out.cell z6 id
      have i0 : (0 : Int) ≤ (k : Int) := Int.natCast_nonneg _
      have i1 : (k : Int) < (n : Int) := by omega
      have hyb : k < l.length ∧ l[k]? = some y.b := by
        have h1 := HLM.out
        have h2 : l[k]? = some y.b := by rw [← h1, List.getElem?_map, hy]; rfl
        exact ⟨(List.getElem?_eq_some_iff.1 h2).1, h2⟩
      have HFS2 := Lib.hid (show (l.take (k + 1)).filter (fun y : Bal => y.voted) = (l.take k).filter (fun y : Bal => y.voted) ++ if y.b.voted = true then [y.b] else [] from by
        have := HFS.out hyb.1
        rwa [(List.getElem?_eq_some_iff.1 hyb.2).2] at this)
      have hyok : y.b.v.ok := HOK.out y.b (List.mem_of_getElem? hyb.2)
      have HYOK := Lib.hid hyok
      have hya := HAT.out y (List.mem_of_getElem? hy)
      obtain ⟨w6, hw6⟩ : ∃ w6, wr.alloc (.cells (xCells y) 94) = w6 := ⟨_, rfl⟩
      have HYB := Lib.hid (show w6.heap[wr.heap.size]? = some (.cells (xCells y) 94 (0, 0)) from by rw [← hw6]; exact new_blk _ _)
      have KA := Lib.hid (show Kept (fun _ => False) wr w6 from by rw [← hw6]; exact (Kept.refl _).alloc _)
      have HW6 := Lib.hid hw6
      have HYA := Lib.hid (show BalM.at w6 y (fun _ => True) from (hya.kept (KW.out.trans KA.out) (fun _ _ _ => id)).mono (fun _ _ _ => trivial))
      have q0 : w6.cell? ⟨wr.heap.size, 0, none⟩ = some (.bool y.b.voted) := by rw [cell_blk HYB.out]; rfl
      have q2 : w6.cell? ⟨wr.heap.size, 2, none⟩ = some (.int .i64 y.b.up) := by rw [cell_blk HYB.out]; rfl
      have q3 : w6.cell? ⟨wr.heap.size, 3, none⟩ = some (.int .u8 y.b.v.code) := by rw [cell_blk HYB.out]; rfl
      have q4 : w6.cell? ⟨wr.heap.size, 4, none⟩ = some (.slice y.a1 y.b.v.sets.length y.c1) := by rw [cell_blk HYB.out]; rfl
      have q5 : w6.cell? ⟨wr.heap.size, 5, none⟩ = some (.slice y.a2 y.b.v.soa.length y.c2) := by rw [cell_blk HYB.out]; rfl
      have q6 : w6.cell? ⟨wr.heap.size, 6, none⟩ = some (.int .u32 y.b.time) := by rw [cell_blk HYB.out]; rfl
      have hz6 : wr.heap.size < w6.heap.size := lt_of_block HYB.out
      have K6 := Lib.hid (KW.out.trans KA.out)
      clear hy hyb hw6 HFS hyok hya
      go_upto_region 7 with (fail)
      rw [show wr.alloc (.cells #[.bool y.b.voted, .string y.b.key, .int .i64 y.b.up, .int .u8 y.b.v.code, .slice y.a1 y.b.v.sets.length y.c1, .slice y.a2 y.b.v.soa.length y.c2, .int .u32 y.b.time] 94) = w6 from HW6.out]
      by_cases hv : y.b.voted = false
      · have HV := Lib.hid hv
        rw [hv] at q0
        clear hv
        go_wp2_with fail
        go_roundw
        case measure => simp [intOf]; omega
        case rel =>
          have h := HFS2.out
          rw [if_neg (by rw [HV.out]; decide), List.append_nil] at h
          refine ⟨k + 1, ao2, cap2, vm, by omega, by go_num, rfl, by omega, by rw [h]; exact HVM.out, own_far HOW.out (fun y hy => KA.out.block y (World.ownsRow.lt HOW.out y hy).2 id), fun x hx => (HVA.out x hx).kept KA.out (fun _ _ _ => id), K6.out⟩
      · have hv' : y.b.voted = true := by simpa using hv
        have HV := Lib.hid hv'
        rw [hv'] at q0
        obtain ⟨w7, hw7⟩ : ∃ w7, w6.alloc (.cells #[.int .i64 y.b.up, .int .u8 y.b.v.code, .slice y.a1 y.b.v.sets.length y.c1, .slice y.a2 y.b.v.soa.length y.c2, .int .u32 y.b.time] 65) = w7 := ⟨_, rfl⟩
        have HVB := Lib.hid (show w7.heap[w6.heap.size]? = some (.cells #[.int .i64 y.b.up, .int .u8 y.b.v.code, .slice y.a1 y.b.v.sets.length y.c1, .slice y.a2 y.b.v.soa.length y.c2, .int .u32 y.b.time] 65 (0, 0)) from by rw [← hw7]; exact new_blk _ _)
        have K67 := Lib.hid (show Kept (fun _ => False) w6 w7 from by rw [← hw7]; exact (Kept.refl _).alloc _)
        have HW7 := Lib.hid hw7
        have HYA7 := Lib.hid (show VerdAt w7 (.agg #[.int .u8 y.b.v.code, .slice y.a1 y.b.v.sets.length y.c1, .slice y.a2 y.b.v.soa.length y.c2]) y.b.v (fun _ => True) from ⟨y.a1, y.c1, y.a2, y.c2, rfl, HYA.out.1.look K67.out, HYA.out.2.look K67.out⟩)
        obtain ⟨vb, hvb⟩ : ∃ vb, w6.heap.size = vb := ⟨_, rfl⟩
        clear hv hv' hw7
        go_upto_region 9 with (fail)
        rw [show w6.alloc (.cells #[.int .i64 y.b.up, .int .u8 y.b.v.code, .slice y.a1 y.b.v.sets.length y.c1, .slice y.a2 y.b.v.soa.length y.c2, .int .u32 y.b.time] 65) = w7 from HW7.out]
        rw [hvb] at HVB
        have v0 := cell_blk HVB.out 0
        have v1 := cell_blk HVB.out 1
        have v2 := cell_blk HVB.out 2
        have v3 := cell_blk HVB.out 3
        have v4 := cell_blk HVB.out 4
        simp at v0 v1 v2 v3 v4
        have hz7 : vb < w7.heap.size := lt_of_block HVB.out
        go_wp2_with fail
        refine (own_any _ y.b.v w7 HYA7.out HYOK.out.lens).mono ?_
        rintro e w8 ⟨vv, rfl, hv8, hk8⟩
        obtain ⟨b1, e1, b2, e2, rfl, s1, s2⟩ := hv8
        have hb8 := hk8.heap HVB.out id
        have v0 := cell_blk hb8 0
        have v1 := cell_blk hb8 1
        have v2 := cell_blk hb8 2
        have v3 := cell_blk hb8 3
        have v4 := cell_blk hb8 4
        have f1 := free_blk hb8 1
        have f2 := free_blk hb8 2
        have f3 := free_blk hb8 3
        simp at v0 v1 v2 v3 v4
        have K8 := Lib.hid hk8
        have HB8 := Lib.hid hb8
        have HS8 := Lib.hid (And.intro s1 s2)
        clear hk8 hb8 s1 s2
        go_upto_region 10 with (fail)
        have KS : Kept (· = vb) w8 (((w8.setCell ⟨vb, 1, none⟩ (.int .u8 y.b.v.code)).setCell ⟨vb, 2, none⟩ (.slice b1 y.b.v.sets.length e1)).setCell ⟨vb, 3, none⟩ (.slice b2 y.b.v.soa.length e2)) := (((Kept.refl _).own _ _).own _ _).own _ _
        have hb9 := set_blk (set_blk (set_blk HB8.out 1 (.int .u8 y.b.v.code)) 2 (.slice b1 y.b.v.sets.length e1)) 3 (.slice b2 y.b.v.soa.length e2)
        obtain ⟨w9, hw9⟩ : ∃ w9, ((w8.setCell ⟨vb, 1, none⟩ (.int .u8 y.b.v.code)).setCell ⟨vb, 2, none⟩ (.slice b1 y.b.v.sets.length e1)).setCell ⟨vb, 3, none⟩ (.slice b2 y.b.v.soa.length e2) = w9 := ⟨_, rfl⟩
        rw [hw9] at KS hb9 ⊢
        simp at hb9
        have u0 := cell_blk hb9 0
        have u1 := cell_blk hb9 1
        have u2 := cell_blk hb9 2
        have u3 := cell_blk hb9 3
        have u4 := cell_blk hb9 4
        simp at u0 u1 u2 u3 u4
        have hzr : wr.heap.size ≤ vb := by omega
        have K9 := Lib.hid (show Kept (fun _ => False) wr w9 from ((KA.out.trans K67.out).trans K8.out).new KS hzr)
        have HO9 := Lib.hid (own_far HOW.out (fun y hy => K9.out.block y (World.ownsRow.lt HOW.out y hy).2 id))
        have HVA9 := Lib.hid (fun x hx => (HVA.out x hx).kept K9.out (fun _ _ _ => id))
        have HS9 := Lib.hid (And.intro (HS8.out.1.kept KS (fun c _ hc e => by omega)) (HS8.out.2.kept KS (fun c _ hc e => by omega)))
        have hz9 := K9.out.size
        have hz79 : w7.heap.size ≤ w9.heap.size := Nat.le_trans K8.out.size KS.size
        have HOL := Lib.hid (fun c (hc : (Value.slice ao2 vm.length cap2).ownBlock = some c) => (World.ownsRow.lt HOW.out c hc : w.heap.size ≤ c ∧ c < wr.heap.size))
        clear KS hb9 hw9 v0 v1 v2 v3 v4 f1 f2 f3 HB8 HS8
        go_wp2_with (first | (at_builtin; refine wpList_push1 (E := 65) (sz := 5) (base := w.heap.size) (v := .slice ao2 vm.length cap2) (n := vm.length) (w := w9) rfl _ _ 69 rfl Try.underlying69 info_vote rfl (by decide) (by decide) rfl HO9.out _ _ rfl rfl (by omega) (by omega) rfl (by intro u hu; simp at hu; rcases hu with rfl | rfl | rfl | rfl | rfl <;> rfl) ?_; intro g5 cp5 w5 ho5 hk5 hg5 hl5))
        have HO5 := Lib.hid ho5
        have K5 := Lib.hid hk5
        have HG5 := Lib.hid hg5
        clear ho5 hk5 hg5 hl5
        go_wp2_with fail
        go_roundw
        case measure => simp [intOf]; omega
        case rel =>
          have h := HFS2.out
          rw [if_pos HV.out] at h
          have hne : ∀ c, c < w9.heap.size → ¬ (Value.slice ao2 0 0).ownBlock = some c → ¬ (Value.slice (some (⟨g5, 0, none⟩ : Addr)) 0 0).ownBlock = some c := fun c hc hn he => by
            simp [Value.ownBlock] at he
            subst he
            rcases HG5.out with h | h
            · rw [own_slice'] at h; exact hn h
            · omega
          have hM : ∀ c, ¬ (Value.slice ao2 0 0).ownBlock = some c → ¬ (Value.slice ao2 vm.length cap2).ownBlock = some c := fun c hn he => by rw [own_slice'] at he; exact hn he
          refine ⟨k + 1, some ⟨g5, 0, none⟩, cp5, vm ++ [⟨⟨y.b.up, y.b.v, y.b.time⟩, b1, e1, b2, e2⟩], by omega, by go_num, by rw [List.length_append]; rfl, by simp; omega, by rw [h, List.map_append, List.map_append, HVM.out]; rfl, ?_, fun x hx => ?_, ?_⟩
          · have ho5 := HO5.out
            rw [List.length_append, List.map_append, List.flatten_append]
            exact ho5
          · rcases List.mem_append.1 hx with hx | hx
            · have h9 := HVA9.out x hx
              exact ((h9.mono (Q := fun c => (w.heap.size ≤ c ∧ ¬ (Value.slice ao2 0 0).ownBlock = some c) ∧ ¬ (Value.slice (some (⟨g5, 0, none⟩ : Addr)) 0 0).ownBlock = some c) (fun c hc hp => ⟨hp, hne c hc hp.2⟩)).kept K5.out (fun c _ hp he => hM c hp.1.2 he)).mono (fun c _ hp => ⟨hp.1.1, hp.2⟩)
            · simp at hx
              subst hx
              have h9 : VtM.at w9 ⟨⟨y.b.up, y.b.v, y.b.time⟩, b1, e1, b2, e2⟩ (w7.heap.size ≤ ·) := HS9.out
              have hq : ∀ c, w7.heap.size ≤ c → ¬ (Value.slice ao2 0 0).ownBlock = some c := fun c hc he => by
                have := HOL.out c (by rw [own_slice']; exact he)
                omega
              exact ((h9.mono (Q := fun c => (w.heap.size ≤ c ∧ ¬ (Value.slice ao2 0 0).ownBlock = some c) ∧ ¬ (Value.slice (some (⟨g5, 0, none⟩ : Addr)) 0 0).ownBlock = some c) (fun c hc hp => ⟨⟨by omega, hq c hp⟩, hne c hc (hq c hp)⟩)).kept K5.out (fun c _ hp he => hM c hp.1.2 he)).mono (fun c _ hp => ⟨hp.1.1, hp.2⟩)
          · exact (KW.out.trans K9.out).then K5.out (fun i hi he => by have := (HOL.out i he).1; omega)
    · obtain rfl : k = n := by omega
      have hfull : l.take k = l := List.take_of_length_le (by have := HN.out; omega)
      have hv : vm.map (·.s) = B.votes := by have := HVM.out; rw [hfull] at this; rw [this, HLE.out]
      have hvl2 : B.votes.length = vm.length := by rw [← hv, List.length_map]
      have HV := Lib.hid hv
      have HVL := Lib.hid hvl2
      clear hfull hv hvl2
      go_wp2_with fail
      go_ret
      rw [HVL.out]
      exact ⟨ao2, cap2, vm, rfl, HV.out, HOW.out, HVA.out, KW.out⟩
end Go.Proofs.Ytffjighohloifaa
