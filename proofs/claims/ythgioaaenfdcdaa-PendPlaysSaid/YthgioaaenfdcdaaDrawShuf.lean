/- Package draw, walked: Shuffle. -/
import Derived.Test.YthgioaaenfdcdaaDraw
namespace Go.Proofs.Ythgioaaenfdcdaa
open Go.RowKit

theorem info_int12 : (Try.prog.info? 3).map (fun i => (i.zero, i.size, i.bytes)) = some (some (.int .i64 0), 1, 8) := by kernel_rfl

theorem shuf_step {g b i q k : Nat} {l : List Int} {s : TapeS} {L : List Nat} {w wr w2 : World} (hl : l.length = k) (hi : i < k) (hq : q < k)
    (hb : Blk w2 g 3 (l.map (.int .i64))) (ht : Tape w2 b s (g :: L)) (hk : Kept (· = b) wr w2) (hx : Kept (· = b) w wr) (hbg : b ≠ g) (hg : w.heap.size ≤ g) :
    (swapL l i q).length = k ∧ Blk (((w2.setCell ⟨g, i, none⟩ (.int .i64 (l[q]'(by omega)))).setCell ⟨g, q, none⟩ (.int .i64 (l[i]'(by omega)))).drew) g 3 ((swapL l i q).map (.int .i64)) ∧
    Tape (((w2.setCell ⟨g, i, none⟩ (.int .i64 (l[q]'(by omega)))).setCell ⟨g, q, none⟩ (.int .i64 (l[i]'(by omega)))).drew) b s (g :: L) ∧
    Kept (· = b) w (((w2.setCell ⟨g, i, none⟩ (.int .i64 (l[q]'(by omega)))).setCell ⟨g, q, none⟩ (.int .i64 (l[i]'(by omega)))).drew) := by
  subst hl
  refine ⟨swapL_length _ _ _, ?_, ?_, ?_⟩
  · have := ((hb.set i (.int .i64 l[q])).set q (.int .i64 l[i])).drew
    rw [← List.map_set, ← List.map_set] at this
    unfold swapL
    simpa [hi, hq] using this
  · have K : Kept (· = g) w2 (((w2.setCell ⟨g, i, none⟩ (.int .i64 (l[q]'(by omega)))).setCell ⟨g, q, none⟩ (.int .i64 (l[i]'(by omega)))).drew) := (((Kept.refl _).own _ _).own _ _).drew
    exact ht.kept K hbg (fun x _ hx => by rw [hx]; exact List.mem_cons_self)
  · exact (((hx.trans hk).fresh hg _ _).fresh hg _ _).drew

end Go.Proofs.Ythgioaaenfdcdaa
