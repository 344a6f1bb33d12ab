/- hustingslaw19's helpers: of, does, made. -/
import Derived.Test.YtnpmimjhpnhdkaaRep11
import Derived.Test.YtnpmimjhpnhdkaaArgs
namespace Go.Proofs.Ytnpmimjhpnhdkaa
open Go.RowKit

/-- What the law's 'of' tells of an upstream. -/
def One.told (x : One) : List Value := [.int .i64 x.score, .int .i64 x.agree, .int .i64 x.dissent, .int .i64 x.silent, .bool x.rests, .bool x.trial, .int .i64 0]

/-- Something that is done. -/
structure ActS where
  k : Int
  u : Int
  n : Int
  deriving Inhabited
def ActS.cells (a : ActS) : List Value := [.int .u8 a.k, .int .i64 a.u, .int .i64 a.n]
def BookS.act (s : BookS) (a : ActS) : BookS := if a.k = 0 then s.agreeI a.u else if a.k = 1 then s.dissentI a.u a.n else if a.k = 2 then s.silentI a.u else if a.k = 3 then s.back a.n else s
theorem ok_act {s : BookS} (hs : s.ok) (a : ActS) : (s.act a).ok := by
  unfold BookS.act
  split
  · exact ok_agreeI hs _
  split
  · exact ok_dissentI hs _ _
  split
  · exact ok_silentI hs _
  split
  · exact ok_backI hs _
  · exact hs
theorem len_act (s : BookS) (a : ActS) : (s.act a).l.length = s.l.length := by
  unfold BookS.act
  split
  · exact len_agreeI _ _
  split
  · exact len_dissentI _ _ _
  split
  · exact len_silentI _ _
  split
  · exact len_back _ _
  · rfl

end Go.Proofs.Ytnpmimjhpnhdkaa
