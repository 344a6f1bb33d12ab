/-
  No cell of these rows narrows 'for every input' (looked for: loops, veiled, ifaces, maps, wideKeys, modest, calm, conditions, laid).
  DERIVED. THE GIVEN ROWS OF THIS SEAT. 6 by the template 'for every input the law returns true; each argument reads behind the call as it read before'; 0 by the template 'total and deterministic' (their statements: YtcdoefpfgkhokaaTotals.lean).
  GIVEN WITH THE SEED: the statements are not yours to turn. If you find one false, say at which input.
  Laid BY PROGRAM, IN A SANDBOX (cutbox-rows.mjs): the forced cells as the released guide's own fill.sh prints them over the translation cdec6990741517b8… (all of the seat's roots in one cut). By AI agents, Wed Nov 11 2026. No macro, syntax, notation, axiom, sorry.
-/
import Derived.Test.YtcdoefpfgkhokaaChecked
import GoSem.Claim
import GoSem.ClaimJoined
import GoSem.ClaimMapViews
import Derived.JoinedTies
import Derived.KernelRfl
namespace Go.Proofs.Ytcdoefpfgkhokaa
/- THE CELL 'sum', in the pinned program and in every row, IS THE sha256 OF THE DUMP (.gsa) THAT YtcdoefpfgkhokaaProg.lean LOADS. Nothing in Lean hashes anything: it is a label: what it is worth is what the hold of that sum in a sandbox is worth. -/
noncomputable def Try.pinned : Pinned := { name := "ytcdoefpfgkhokaa", sum := "cdec6990741517b8472406191ac48c47de266b59acf89d20cd69e2a97cae1c6a", checked := Try.checked }
namespace Rows
def none {H : Type} : Left H := { results := [], args := [] }

/-- 'hustingslaw19.ReputeEnough': WHATEVER THE INPUT: true; the input reads as it did. -/
def reputeEnoughSpec : ChangeSpec := { name := "reputeEnough", fn := fun _ => fun
  | [d1, d2, d3, d4] => { results := [.lit (.bool true)], args := [d1, d2, d3, d4] }
  | _ => none }
def reputeEnoughRow : OpenClaim := { program := "ytcdoefpfgkhokaa", sum := "cdec6990741517b8472406191ac48c47de266b59acf89d20cd69e2a97cae1c6a", func := "hustings/hustingslaw19.ReputeEnough", spec := "reputeEnough", apart := false }
def ReputeEnoughSaid : Prop := reputeEnoughRow.holds Try.pinned (OpenSpec.ofChange reputeEnoughSpec)

/-- ITS FALSE NEIGHBOUR: 'it returns false'. Refute it at one input. -/
def reputeEnoughWrong : ChangeSpec := { name := "reputeEnough", fn := fun _ => fun
  | [d1, d2, d3, d4] => { results := [.lit (.bool false)], args := [d1, d2, d3, d4] }
  | _ => none }
def ReputeEnoughWrongFalsely : Prop := reputeEnoughRow.holds Try.pinned (OpenSpec.ofChange reputeEnoughWrong)

/-- 'hustingslaw19.ReputeBounds': WHATEVER THE INPUT: true; the input reads as it did. -/
def reputeBoundsSpec : ChangeSpec := { name := "reputeBounds", fn := fun _ => fun
  | [d1, d2, d3, d4, d5] => { results := [.lit (.bool true)], args := [d1, d2, d3, d4, d5] }
  | _ => none }
def reputeBoundsRow : OpenClaim := { program := "ytcdoefpfgkhokaa", sum := "cdec6990741517b8472406191ac48c47de266b59acf89d20cd69e2a97cae1c6a", func := "hustings/hustingslaw19.ReputeBounds", spec := "reputeBounds", apart := false }
def ReputeBoundsSaid : Prop := reputeBoundsRow.holds Try.pinned (OpenSpec.ofChange reputeBoundsSpec)

/-- ITS FALSE NEIGHBOUR: 'it returns false'. Refute it at one input. -/
def reputeBoundsWrong : ChangeSpec := { name := "reputeBounds", fn := fun _ => fun
  | [d1, d2, d3, d4, d5] => { results := [.lit (.bool false)], args := [d1, d2, d3, d4, d5] }
  | _ => none }
def ReputeBoundsWrongFalsely : Prop := reputeBoundsRow.holds Try.pinned (OpenSpec.ofChange reputeBoundsWrong)

/-- 'hustingslaw19.ReputeTrial': WHATEVER THE INPUT: true; the input reads as it did. -/
def reputeTrialSpec : ChangeSpec := { name := "reputeTrial", fn := fun _ => fun
  | [d1, d2, d3, d4] => { results := [.lit (.bool true)], args := [d1, d2, d3, d4] }
  | _ => none }
def reputeTrialRow : OpenClaim := { program := "ytcdoefpfgkhokaa", sum := "cdec6990741517b8472406191ac48c47de266b59acf89d20cd69e2a97cae1c6a", func := "hustings/hustingslaw19.ReputeTrial", spec := "reputeTrial", apart := false }
def ReputeTrialSaid : Prop := reputeTrialRow.holds Try.pinned (OpenSpec.ofChange reputeTrialSpec)

/-- ITS FALSE NEIGHBOUR: 'it returns false'. Refute it at one input. -/
def reputeTrialWrong : ChangeSpec := { name := "reputeTrial", fn := fun _ => fun
  | [d1, d2, d3, d4] => { results := [.lit (.bool false)], args := [d1, d2, d3, d4] }
  | _ => none }
def ReputeTrialWrongFalsely : Prop := reputeTrialRow.holds Try.pinned (OpenSpec.ofChange reputeTrialWrong)

/-- 'hustingslaw19.ReputeApart': WHATEVER THE INPUT: true; the input reads as it did. -/
def reputeApartSpec : ChangeSpec := { name := "reputeApart", fn := fun _ => fun
  | [d1, d2, d3, d4, d5] => { results := [.lit (.bool true)], args := [d1, d2, d3, d4, d5] }
  | _ => none }
def reputeApartRow : OpenClaim := { program := "ytcdoefpfgkhokaa", sum := "cdec6990741517b8472406191ac48c47de266b59acf89d20cd69e2a97cae1c6a", func := "hustings/hustingslaw19.ReputeApart", spec := "reputeApart", apart := false }
def ReputeApartSaid : Prop := reputeApartRow.holds Try.pinned (OpenSpec.ofChange reputeApartSpec)

/-- ITS FALSE NEIGHBOUR: 'it returns false'. Refute it at one input. -/
def reputeApartWrong : ChangeSpec := { name := "reputeApart", fn := fun _ => fun
  | [d1, d2, d3, d4, d5] => { results := [.lit (.bool false)], args := [d1, d2, d3, d4, d5] }
  | _ => none }
def ReputeApartWrongFalsely : Prop := reputeApartRow.holds Try.pinned (OpenSpec.ofChange reputeApartWrong)

/-- 'hustingslaw19.ReputeRest': WHATEVER THE INPUT: true; the input reads as it did. -/
def reputeRestSpec : ChangeSpec := { name := "reputeRest", fn := fun _ => fun
  | [d1, d2, d3, d4, d5, d6, d7] => { results := [.lit (.bool true)], args := [d1, d2, d3, d4, d5, d6, d7] }
  | _ => none }
def reputeRestRow : OpenClaim := { program := "ytcdoefpfgkhokaa", sum := "cdec6990741517b8472406191ac48c47de266b59acf89d20cd69e2a97cae1c6a", func := "hustings/hustingslaw19.ReputeRest", spec := "reputeRest", apart := false }
def ReputeRestSaid : Prop := reputeRestRow.holds Try.pinned (OpenSpec.ofChange reputeRestSpec)

/-- ITS FALSE NEIGHBOUR: 'it returns false'. Refute it at one input. -/
def reputeRestWrong : ChangeSpec := { name := "reputeRest", fn := fun _ => fun
  | [d1, d2, d3, d4, d5, d6, d7] => { results := [.lit (.bool false)], args := [d1, d2, d3, d4, d5, d6, d7] }
  | _ => none }
def ReputeRestWrongFalsely : Prop := reputeRestRow.holds Try.pinned (OpenSpec.ofChange reputeRestWrong)

/-- 'hustingslaw19.ReputeNames': WHATEVER THE INPUT: true; the input reads as it did. -/
def reputeNamesSpec : ChangeSpec := { name := "reputeNames", fn := fun _ => fun
  | [] => { results := [.lit (.bool true)], args := [] }
  | _ => none }
def reputeNamesRow : OpenClaim := { program := "ytcdoefpfgkhokaa", sum := "cdec6990741517b8472406191ac48c47de266b59acf89d20cd69e2a97cae1c6a", func := "hustings/hustingslaw19.ReputeNames", spec := "reputeNames", apart := false }
def ReputeNamesSaid : Prop := reputeNamesRow.holds Try.pinned (OpenSpec.ofChange reputeNamesSpec)

/-- ITS FALSE NEIGHBOUR: 'it returns false'. Refute it at one input. -/
def reputeNamesWrong : ChangeSpec := { name := "reputeNames", fn := fun _ => fun
  | [] => { results := [.lit (.bool false)], args := [] }
  | _ => none }
def ReputeNamesWrongFalsely : Prop := reputeNamesRow.holds Try.pinned (OpenSpec.ofChange reputeNamesWrong)

/- THE SECOND FORM. 'bulk': how many values and letters a reading holds, each counted each time it is reached (what is shared counts as often as it is met; a slice's spare places count too). A statement '..UptoSaid' is the law's where the arguments, and the package variables that the reading takes, are together of bulk at most 1048576: NARROWER than '..Said'. Prove '..Said' where nothing that the law and all that it calls make is longer than what came in: it says more and counts as full. Else prove '..UptoSaid'. A law counts once. -/
mutual
def uptoBulk {H : Type} : DataW H → Nat
  | .lit (.string bytes) => bytes.length + 1
  | .lit _ => 1
  | .nil => 1
  | .ptr d => uptoBulk d + 1
  | .slice elems spare => uptoBulkAll elems + uptoBulkAll spare + 1
  | .agg parts => uptoBulkAll parts + 1
  | .iface _ d => uptoBulk d + 1
  | .map entries => uptoBulkEntries entries + 1
  | .held _ => 1
def uptoBulkAll {H : Type} : List (DataW H) → Nat
  | [] => 0
  | d :: r => uptoBulk d + uptoBulkAll r
def uptoBulkEntries {H : Type} : List (Lit × DataW H) → Nat
  | [] => 0
  | x :: r => uptoBulkEntry x + uptoBulkEntries r
def uptoBulkEntry {H : Type} : Lit × DataW H → Nat
  | (.string bytes, d) => bytes.length + uptoBulk d + 1
  | (_, d) => uptoBulk d + 1
 end
def uptoSmall : (H : Type) → List (DataW H) → Bool := fun _ ds => decide (uptoBulkAll ds ≤ 1048576)
def OpenSpec.upto (s : _root_.Go.ChangeSpec) : _root_.Go.OpenSpec := { _root_.Go.OpenSpec.ofChange s with cond := some uptoSmall }

/-- 'hustingslaw19.ReputeEnough', WHERE WHAT IT READS IS OF BULK AT MOST 1048576: true; the input reads as it did. -/
def reputeEnoughUptoRow : OpenClaim := { program := "ytcdoefpfgkhokaa", sum := "cdec6990741517b8472406191ac48c47de266b59acf89d20cd69e2a97cae1c6a", func := "hustings/hustingslaw19.ReputeEnough", spec := "reputeEnough", apart := false, narrowed := true }
def ReputeEnoughUptoSaid : Prop := reputeEnoughUptoRow.holds Try.pinned (OpenSpec.upto reputeEnoughSpec)

/-- 'hustingslaw19.ReputeBounds', WHERE WHAT IT READS IS OF BULK AT MOST 1048576: true; the input reads as it did. -/
def reputeBoundsUptoRow : OpenClaim := { program := "ytcdoefpfgkhokaa", sum := "cdec6990741517b8472406191ac48c47de266b59acf89d20cd69e2a97cae1c6a", func := "hustings/hustingslaw19.ReputeBounds", spec := "reputeBounds", apart := false, narrowed := true }
def ReputeBoundsUptoSaid : Prop := reputeBoundsUptoRow.holds Try.pinned (OpenSpec.upto reputeBoundsSpec)

/-- 'hustingslaw19.ReputeTrial', WHERE WHAT IT READS IS OF BULK AT MOST 1048576: true; the input reads as it did. -/
def reputeTrialUptoRow : OpenClaim := { program := "ytcdoefpfgkhokaa", sum := "cdec6990741517b8472406191ac48c47de266b59acf89d20cd69e2a97cae1c6a", func := "hustings/hustingslaw19.ReputeTrial", spec := "reputeTrial", apart := false, narrowed := true }
def ReputeTrialUptoSaid : Prop := reputeTrialUptoRow.holds Try.pinned (OpenSpec.upto reputeTrialSpec)

/-- 'hustingslaw19.ReputeApart', WHERE WHAT IT READS IS OF BULK AT MOST 1048576: true; the input reads as it did. -/
def reputeApartUptoRow : OpenClaim := { program := "ytcdoefpfgkhokaa", sum := "cdec6990741517b8472406191ac48c47de266b59acf89d20cd69e2a97cae1c6a", func := "hustings/hustingslaw19.ReputeApart", spec := "reputeApart", apart := false, narrowed := true }
def ReputeApartUptoSaid : Prop := reputeApartUptoRow.holds Try.pinned (OpenSpec.upto reputeApartSpec)

/-- 'hustingslaw19.ReputeRest', WHERE WHAT IT READS IS OF BULK AT MOST 1048576: true; the input reads as it did. -/
def reputeRestUptoRow : OpenClaim := { program := "ytcdoefpfgkhokaa", sum := "cdec6990741517b8472406191ac48c47de266b59acf89d20cd69e2a97cae1c6a", func := "hustings/hustingslaw19.ReputeRest", spec := "reputeRest", apart := false, narrowed := true }
def ReputeRestUptoSaid : Prop := reputeRestUptoRow.holds Try.pinned (OpenSpec.upto reputeRestSpec)

/-- 'hustingslaw19.ReputeNames', WHERE WHAT IT READS IS OF BULK AT MOST 1048576: true; the input reads as it did. -/
def reputeNamesUptoRow : OpenClaim := { program := "ytcdoefpfgkhokaa", sum := "cdec6990741517b8472406191ac48c47de266b59acf89d20cd69e2a97cae1c6a", func := "hustings/hustingslaw19.ReputeNames", spec := "reputeNames", apart := false, narrowed := true }
def ReputeNamesUptoSaid : Prop := reputeNamesUptoRow.holds Try.pinned (OpenSpec.upto reputeNamesSpec)

end Rows
end Go.Proofs.Ytcdoefpfgkhokaa
