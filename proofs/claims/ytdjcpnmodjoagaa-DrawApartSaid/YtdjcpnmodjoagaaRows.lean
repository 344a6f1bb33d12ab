/-
  No cell of these rows narrows 'for every input' (looked for: loops, veiled, ifaces, maps, wideKeys, modest, calm, conditions, laid).
  DERIVED. THE GIVEN ROWS OF THIS SEAT. 7 by the template 'for every input the law returns true; each argument reads behind the call as it read before'; 0 by the template 'total and deterministic' (their statements: YtdjcpnmodjoagaaTotals.lean).
  GIVEN WITH THE SEED: the statements are not yours to turn. If you find one false, say at which input.
  Laid BY PROGRAM, IN A SANDBOX (cutbox-rows.mjs): the forced cells as the released guide's own fill.sh prints them over the translation 7e13e402e53cd8db… (all of the seat's roots in one cut). By AI agents, Wed Nov 11 2026. No macro, syntax, notation, axiom, sorry.
-/
import Derived.Test.YtdjcpnmodjoagaaChecked
import GoSem.Claim
import GoSem.ClaimJoined
import GoSem.ClaimMapViews
import Derived.JoinedTies
import Derived.KernelRfl
namespace Go.Proofs.Ytdjcpnmodjoagaa
/- THE CELL 'sum', in the pinned program and in every row, IS THE sha256 OF THE DUMP (.gsa) THAT YtdjcpnmodjoagaaProg.lean LOADS. Nothing in Lean hashes anything: it is a label: what it is worth is what the hold of that sum in a sandbox is worth. -/
noncomputable def Try.pinned : Pinned := { name := "ytdjcpnmodjoagaa", sum := "7e13e402e53cd8dba3edc489a911b0401c522f566583b3659e3d5a458167c76a", checked := Try.checked }
namespace Rows
def none {H : Type} : Left H := { results := [], args := [] }

/-- 'hustingslaw12.DrawUnlike': WHATEVER THE INPUT: true; the input reads as it did. -/
def drawUnlikeSpec : ChangeSpec := { name := "drawUnlike", fn := fun _ => fun
  | [d1, d2] => { results := [.lit (.bool true)], args := [d1, d2] }
  | _ => none }
def drawUnlikeRow : OpenClaim := { program := "ytdjcpnmodjoagaa", sum := "7e13e402e53cd8dba3edc489a911b0401c522f566583b3659e3d5a458167c76a", func := "hustings/hustingslaw12.DrawUnlike", spec := "drawUnlike", unfollowed := true, recurses := true, apart := false }
def DrawUnlikeSaid : Prop := drawUnlikeRow.holds Try.pinned (OpenSpec.ofChange drawUnlikeSpec)

/-- ITS FALSE NEIGHBOUR: 'it returns false'. Refute it at one input. -/
def drawUnlikeWrong : ChangeSpec := { name := "drawUnlike", fn := fun _ => fun
  | [d1, d2] => { results := [.lit (.bool false)], args := [d1, d2] }
  | _ => none }
def DrawUnlikeWrongFalsely : Prop := drawUnlikeRow.holds Try.pinned (OpenSpec.ofChange drawUnlikeWrong)

/-- 'hustingslaw12.DrawTape': WHATEVER THE INPUT: true; the input reads as it did. -/
def drawTapeSpec : ChangeSpec := { name := "drawTape", fn := fun _ => fun
  | [d1, d2] => { results := [.lit (.bool true)], args := [d1, d2] }
  | _ => none }
def drawTapeRow : OpenClaim := { program := "ytdjcpnmodjoagaa", sum := "7e13e402e53cd8dba3edc489a911b0401c522f566583b3659e3d5a458167c76a", func := "hustings/hustingslaw12.DrawTape", spec := "drawTape", unfollowed := true, recurses := true, apart := false }
def DrawTapeSaid : Prop := drawTapeRow.holds Try.pinned (OpenSpec.ofChange drawTapeSpec)

/-- ITS FALSE NEIGHBOUR: 'it returns false'. Refute it at one input. -/
def drawTapeWrong : ChangeSpec := { name := "drawTape", fn := fun _ => fun
  | [d1, d2] => { results := [.lit (.bool false)], args := [d1, d2] }
  | _ => none }
def DrawTapeWrongFalsely : Prop := drawTapeRow.holds Try.pinned (OpenSpec.ofChange drawTapeWrong)

/-- 'hustingslaw12.DrawRow': WHATEVER THE INPUT: true; the input reads as it did. -/
def drawRowSpec : ChangeSpec := { name := "drawRow", fn := fun _ => fun
  | [d1, d2, d3] => { results := [.lit (.bool true)], args := [d1, d2, d3] }
  | _ => none }
def drawRowRow : OpenClaim := { program := "ytdjcpnmodjoagaa", sum := "7e13e402e53cd8dba3edc489a911b0401c522f566583b3659e3d5a458167c76a", func := "hustings/hustingslaw12.DrawRow", spec := "drawRow", unfollowed := true, recurses := true, apart := false }
def DrawRowSaid : Prop := drawRowRow.holds Try.pinned (OpenSpec.ofChange drawRowSpec)

/-- ITS FALSE NEIGHBOUR: 'it returns false'. Refute it at one input. -/
def drawRowWrong : ChangeSpec := { name := "drawRow", fn := fun _ => fun
  | [d1, d2, d3] => { results := [.lit (.bool false)], args := [d1, d2, d3] }
  | _ => none }
def DrawRowWrongFalsely : Prop := drawRowRow.holds Try.pinned (OpenSpec.ofChange drawRowWrong)

/-- 'hustingslaw12.DrawPlays': WHATEVER THE INPUT: true; the input reads as it did. -/
def drawPlaysSpec : ChangeSpec := { name := "drawPlays", fn := fun _ => fun
  | [d1, d2, d3] => { results := [.lit (.bool true)], args := [d1, d2, d3] }
  | _ => none }
def drawPlaysRow : OpenClaim := { program := "ytdjcpnmodjoagaa", sum := "7e13e402e53cd8dba3edc489a911b0401c522f566583b3659e3d5a458167c76a", func := "hustings/hustingslaw12.DrawPlays", spec := "drawPlays", unfollowed := true, recurses := true, apart := false }
def DrawPlaysSaid : Prop := drawPlaysRow.holds Try.pinned (OpenSpec.ofChange drawPlaysSpec)

/-- ITS FALSE NEIGHBOUR: 'it returns false'. Refute it at one input. -/
def drawPlaysWrong : ChangeSpec := { name := "drawPlays", fn := fun _ => fun
  | [d1, d2, d3] => { results := [.lit (.bool false)], args := [d1, d2, d3] }
  | _ => none }
def DrawPlaysWrongFalsely : Prop := drawPlaysRow.holds Try.pinned (OpenSpec.ofChange drawPlaysWrong)

/-- 'hustingslaw12.DrawNames': WHATEVER THE INPUT: true; the input reads as it did. -/
def drawNamesSpec : ChangeSpec := { name := "drawNames", fn := fun _ => fun
  | [] => { results := [.lit (.bool true)], args := [] }
  | _ => none }
def drawNamesRow : OpenClaim := { program := "ytdjcpnmodjoagaa", sum := "7e13e402e53cd8dba3edc489a911b0401c522f566583b3659e3d5a458167c76a", func := "hustings/hustingslaw12.DrawNames", spec := "drawNames", unfollowed := true, recurses := true, apart := false }
def DrawNamesSaid : Prop := drawNamesRow.holds Try.pinned (OpenSpec.ofChange drawNamesSpec)

/-- ITS FALSE NEIGHBOUR: 'it returns false'. Refute it at one input. -/
def drawNamesWrong : ChangeSpec := { name := "drawNames", fn := fun _ => fun
  | [] => { results := [.lit (.bool false)], args := [] }
  | _ => none }
def DrawNamesWrongFalsely : Prop := drawNamesRow.holds Try.pinned (OpenSpec.ofChange drawNamesWrong)

/-- 'hustingslaw12.DrawBelow': WHATEVER THE INPUT: true; the input reads as it did. -/
def drawBelowSpec : ChangeSpec := { name := "drawBelow", fn := fun _ => fun
  | [d1, d2, d3] => { results := [.lit (.bool true)], args := [d1, d2, d3] }
  | _ => none }
def drawBelowRow : OpenClaim := { program := "ytdjcpnmodjoagaa", sum := "7e13e402e53cd8dba3edc489a911b0401c522f566583b3659e3d5a458167c76a", func := "hustings/hustingslaw12.DrawBelow", spec := "drawBelow", unfollowed := true, recurses := true, apart := false }
def DrawBelowSaid : Prop := drawBelowRow.holds Try.pinned (OpenSpec.ofChange drawBelowSpec)

/-- ITS FALSE NEIGHBOUR: 'it returns false'. Refute it at one input. -/
def drawBelowWrong : ChangeSpec := { name := "drawBelow", fn := fun _ => fun
  | [d1, d2, d3] => { results := [.lit (.bool false)], args := [d1, d2, d3] }
  | _ => none }
def DrawBelowWrongFalsely : Prop := drawBelowRow.holds Try.pinned (OpenSpec.ofChange drawBelowWrong)

/-- 'hustingslaw12.DrawApart': WHATEVER THE INPUT: true; the input reads as it did. -/
def drawApartSpec : ChangeSpec := { name := "drawApart", fn := fun _ => fun
  | [d1, d2, d3, d4] => { results := [.lit (.bool true)], args := [d1, d2, d3, d4] }
  | _ => none }
def drawApartRow : OpenClaim := { program := "ytdjcpnmodjoagaa", sum := "7e13e402e53cd8dba3edc489a911b0401c522f566583b3659e3d5a458167c76a", func := "hustings/hustingslaw12.DrawApart", spec := "drawApart", unfollowed := true, recurses := true, apart := false }
def DrawApartSaid : Prop := drawApartRow.holds Try.pinned (OpenSpec.ofChange drawApartSpec)

/-- ITS FALSE NEIGHBOUR: 'it returns false'. Refute it at one input. -/
def drawApartWrong : ChangeSpec := { name := "drawApart", fn := fun _ => fun
  | [d1, d2, d3, d4] => { results := [.lit (.bool false)], args := [d1, d2, d3, d4] }
  | _ => none }
def DrawApartWrongFalsely : Prop := drawApartRow.holds Try.pinned (OpenSpec.ofChange drawApartWrong)

/- THE SECOND FORM. 'bulk': how many values and letters a reading holds, each counted each time it is reached (what is shared counts as often as it is met; a slice's spare places count too). A statement '..UptoSaid' is the law's where the arguments, and the package variables that the reading takes, are together of bulk at most 1048576: NARROWER than '..Said'. Prove '..Said' where nothing that the law and all that it calls make is longer than what came in: it says more and counts as full. Else prove '..UptoSaid'. A law counts once. -/
mutual
def uptoBulk {H : Type} : DataW H → Nat
  | .lit (.string bytes) => bytes.length + 1
  | .lit _ => 1
  | .nil => 1
  | .ptr d => uptoBulk d + 1
  | .slice elems spare => uptoBulkAll elems + uptoBulkAll spare + 1
  | .agg parts => uptoBulkAll parts + 1
  | .iface _ d => uptoBulk d + 1
  | .map entries => uptoBulkEntries entries + 1
  | .held _ => 1
def uptoBulkAll {H : Type} : List (DataW H) → Nat
  | [] => 0
  | d :: r => uptoBulk d + uptoBulkAll r
def uptoBulkEntries {H : Type} : List (Lit × DataW H) → Nat
  | [] => 0
  | x :: r => uptoBulkEntry x + uptoBulkEntries r
def uptoBulkEntry {H : Type} : Lit × DataW H → Nat
  | (.string bytes, d) => bytes.length + uptoBulk d + 1
  | (_, d) => uptoBulk d + 1
 end
def uptoSmall : (H : Type) → List (DataW H) → Bool := fun _ ds => decide (uptoBulkAll ds ≤ 1048576)
def OpenSpec.upto (s : _root_.Go.ChangeSpec) : _root_.Go.OpenSpec := { _root_.Go.OpenSpec.ofChange s with cond := some uptoSmall }

/-- 'hustingslaw12.DrawUnlike', WHERE WHAT IT READS IS OF BULK AT MOST 1048576: true; the input reads as it did. -/
def drawUnlikeUptoRow : OpenClaim := { program := "ytdjcpnmodjoagaa", sum := "7e13e402e53cd8dba3edc489a911b0401c522f566583b3659e3d5a458167c76a", func := "hustings/hustingslaw12.DrawUnlike", spec := "drawUnlike", unfollowed := true, recurses := true, apart := false, narrowed := true }
def DrawUnlikeUptoSaid : Prop := drawUnlikeUptoRow.holds Try.pinned (OpenSpec.upto drawUnlikeSpec)

/-- 'hustingslaw12.DrawTape', WHERE WHAT IT READS IS OF BULK AT MOST 1048576: true; the input reads as it did. -/
def drawTapeUptoRow : OpenClaim := { program := "ytdjcpnmodjoagaa", sum := "7e13e402e53cd8dba3edc489a911b0401c522f566583b3659e3d5a458167c76a", func := "hustings/hustingslaw12.DrawTape", spec := "drawTape", unfollowed := true, recurses := true, apart := false, narrowed := true }
def DrawTapeUptoSaid : Prop := drawTapeUptoRow.holds Try.pinned (OpenSpec.upto drawTapeSpec)

/-- 'hustingslaw12.DrawRow', WHERE WHAT IT READS IS OF BULK AT MOST 1048576: true; the input reads as it did. -/
def drawRowUptoRow : OpenClaim := { program := "ytdjcpnmodjoagaa", sum := "7e13e402e53cd8dba3edc489a911b0401c522f566583b3659e3d5a458167c76a", func := "hustings/hustingslaw12.DrawRow", spec := "drawRow", unfollowed := true, recurses := true, apart := false, narrowed := true }
def DrawRowUptoSaid : Prop := drawRowUptoRow.holds Try.pinned (OpenSpec.upto drawRowSpec)

/-- 'hustingslaw12.DrawPlays', WHERE WHAT IT READS IS OF BULK AT MOST 1048576: true; the input reads as it did. -/
def drawPlaysUptoRow : OpenClaim := { program := "ytdjcpnmodjoagaa", sum := "7e13e402e53cd8dba3edc489a911b0401c522f566583b3659e3d5a458167c76a", func := "hustings/hustingslaw12.DrawPlays", spec := "drawPlays", unfollowed := true, recurses := true, apart := false, narrowed := true }
def DrawPlaysUptoSaid : Prop := drawPlaysUptoRow.holds Try.pinned (OpenSpec.upto drawPlaysSpec)

/-- 'hustingslaw12.DrawNames', WHERE WHAT IT READS IS OF BULK AT MOST 1048576: true; the input reads as it did. -/
def drawNamesUptoRow : OpenClaim := { program := "ytdjcpnmodjoagaa", sum := "7e13e402e53cd8dba3edc489a911b0401c522f566583b3659e3d5a458167c76a", func := "hustings/hustingslaw12.DrawNames", spec := "drawNames", unfollowed := true, recurses := true, apart := false, narrowed := true }
def DrawNamesUptoSaid : Prop := drawNamesUptoRow.holds Try.pinned (OpenSpec.upto drawNamesSpec)

/-- 'hustingslaw12.DrawBelow', WHERE WHAT IT READS IS OF BULK AT MOST 1048576: true; the input reads as it did. -/
def drawBelowUptoRow : OpenClaim := { program := "ytdjcpnmodjoagaa", sum := "7e13e402e53cd8dba3edc489a911b0401c522f566583b3659e3d5a458167c76a", func := "hustings/hustingslaw12.DrawBelow", spec := "drawBelow", unfollowed := true, recurses := true, apart := false, narrowed := true }
def DrawBelowUptoSaid : Prop := drawBelowUptoRow.holds Try.pinned (OpenSpec.upto drawBelowSpec)

/-- 'hustingslaw12.DrawApart', WHERE WHAT IT READS IS OF BULK AT MOST 1048576: true; the input reads as it did. -/
def drawApartUptoRow : OpenClaim := { program := "ytdjcpnmodjoagaa", sum := "7e13e402e53cd8dba3edc489a911b0401c522f566583b3659e3d5a458167c76a", func := "hustings/hustingslaw12.DrawApart", spec := "drawApart", unfollowed := true, recurses := true, apart := false, narrowed := true }
def DrawApartUptoSaid : Prop := drawApartUptoRow.holds Try.pinned (OpenSpec.upto drawApartSpec)

end Rows
end Go.Proofs.Ytdjcpnmodjoagaa
