/-
  No cell of these rows narrows 'for every input' (looked for: loops, veiled, ifaces, maps, wideKeys, modest, calm, conditions, laid).
  DERIVED. THE GIVEN ROWS OF THIS SEAT. 6 by the template 'for every input the law returns true; each argument reads behind the call as it read before'; 0 by the template 'total and deterministic' (their statements: YthgioaaenfdcdaaTotals.lean).
  GIVEN WITH THE SEED: the statements are not yours to turn. If you find one false, say at which input.
  Laid BY PROGRAM, IN A SANDBOX (cutbox-rows.mjs): the forced cells as the released guide's own fill.sh prints them over the translation 6c235ed967a6c04c… (all of the seat's roots in one cut). By AI agents, Wed Nov 11 2026. No macro, syntax, notation, axiom, sorry.
-/
import Derived.Test.YthgioaaenfdcdaaChecked
import GoSem.Claim
import GoSem.ClaimJoined
import GoSem.ClaimMapViews
import Derived.JoinedTies
import Derived.KernelRfl
namespace Go.Proofs.Ythgioaaenfdcdaa
/- THE CELL 'sum', in the pinned program and in every row, IS THE sha256 OF THE DUMP (.gsa) THAT YthgioaaenfdcdaaProg.lean LOADS. Nothing in Lean hashes anything: it is a label: what it is worth is what the hold of that sum in a sandbox is worth. -/
noncomputable def Try.pinned : Pinned := { name := "ythgioaaenfdcdaa", sum := "6c235ed967a6c04cbb66e2e443a50192f940b98ab44f657bdd6a823fe5ea73ad", checked := Try.checked }
namespace Rows
def none {H : Type} : Left H := { results := [], args := [] }

/-- 'hustingslaw29.PendUnlike': WHATEVER THE INPUT: true; the input reads as it did. -/
def pendUnlikeSpec : ChangeSpec := { name := "pendUnlike", fn := fun _ => fun
  | [d1, d2, d3, d4] => { results := [.lit (.bool true)], args := [d1, d2, d3, d4] }
  | _ => none }
def pendUnlikeRow : OpenClaim := { program := "ythgioaaenfdcdaa", sum := "6c235ed967a6c04cbb66e2e443a50192f940b98ab44f657bdd6a823fe5ea73ad", func := "hustings/hustingslaw29.PendUnlike", spec := "pendUnlike", unfollowed := true, recurses := true, apart := false }
def PendUnlikeSaid : Prop := pendUnlikeRow.holds Try.pinned (OpenSpec.ofChange pendUnlikeSpec)

/-- ITS FALSE NEIGHBOUR: 'it returns false'. Refute it at one input. -/
def pendUnlikeWrong : ChangeSpec := { name := "pendUnlike", fn := fun _ => fun
  | [d1, d2, d3, d4] => { results := [.lit (.bool false)], args := [d1, d2, d3, d4] }
  | _ => none }
def PendUnlikeWrongFalsely : Prop := pendUnlikeRow.holds Try.pinned (OpenSpec.ofChange pendUnlikeWrong)

/-- 'hustingslaw29.PendFree': WHATEVER THE INPUT: true; the input reads as it did. -/
def pendFreeSpec : ChangeSpec := { name := "pendFree", fn := fun _ => fun
  | [d1, d2, d3, d4, d5, d6] => { results := [.lit (.bool true)], args := [d1, d2, d3, d4, d5, d6] }
  | _ => none }
def pendFreeRow : OpenClaim := { program := "ythgioaaenfdcdaa", sum := "6c235ed967a6c04cbb66e2e443a50192f940b98ab44f657bdd6a823fe5ea73ad", func := "hustings/hustingslaw29.PendFree", spec := "pendFree", inPlace := ["maps.clone"], unfollowed := true, recurses := true, apart := false }
def PendFreeSaid : Prop := pendFreeRow.holds Try.pinned (OpenSpec.ofChange pendFreeSpec)

/-- ITS FALSE NEIGHBOUR: 'it returns false'. Refute it at one input. -/
def pendFreeWrong : ChangeSpec := { name := "pendFree", fn := fun _ => fun
  | [d1, d2, d3, d4, d5, d6] => { results := [.lit (.bool false)], args := [d1, d2, d3, d4, d5, d6] }
  | _ => none }
def PendFreeWrongFalsely : Prop := pendFreeRow.holds Try.pinned (OpenSpec.ofChange pendFreeWrong)

/-- 'hustingslaw29.PendApart': WHATEVER THE INPUT: true; the input reads as it did. -/
def pendApartSpec : ChangeSpec := { name := "pendApart", fn := fun _ => fun
  | [d1, d2, d3, d4, d5, d6] => { results := [.lit (.bool true)], args := [d1, d2, d3, d4, d5, d6] }
  | _ => none }
def pendApartRow : OpenClaim := { program := "ythgioaaenfdcdaa", sum := "6c235ed967a6c04cbb66e2e443a50192f940b98ab44f657bdd6a823fe5ea73ad", func := "hustings/hustingslaw29.PendApart", spec := "pendApart", inPlace := ["maps.clone"], unfollowed := true, recurses := true, apart := false }
def PendApartSaid : Prop := pendApartRow.holds Try.pinned (OpenSpec.ofChange pendApartSpec)

/-- ITS FALSE NEIGHBOUR: 'it returns false'. Refute it at one input. -/
def pendApartWrong : ChangeSpec := { name := "pendApart", fn := fun _ => fun
  | [d1, d2, d3, d4, d5, d6] => { results := [.lit (.bool false)], args := [d1, d2, d3, d4, d5, d6] }
  | _ => none }
def PendApartWrongFalsely : Prop := pendApartRow.holds Try.pinned (OpenSpec.ofChange pendApartWrong)

/-- 'hustingslaw29.PendNames': WHATEVER THE INPUT: true; the input reads as it did. -/
def pendNamesSpec : ChangeSpec := { name := "pendNames", fn := fun _ => fun
  | [] => { results := [.lit (.bool true)], args := [] }
  | _ => none }
def pendNamesRow : OpenClaim := { program := "ythgioaaenfdcdaa", sum := "6c235ed967a6c04cbb66e2e443a50192f940b98ab44f657bdd6a823fe5ea73ad", func := "hustings/hustingslaw29.PendNames", spec := "pendNames", inPlace := ["maps.clone"], unfollowed := true, recurses := true, apart := false }
def PendNamesSaid : Prop := pendNamesRow.holds Try.pinned (OpenSpec.ofChange pendNamesSpec)

/-- ITS FALSE NEIGHBOUR: 'it returns false'. Refute it at one input. -/
def pendNamesWrong : ChangeSpec := { name := "pendNames", fn := fun _ => fun
  | [] => { results := [.lit (.bool false)], args := [] }
  | _ => none }
def PendNamesWrongFalsely : Prop := pendNamesRow.holds Try.pinned (OpenSpec.ofChange pendNamesWrong)

/-- 'hustingslaw29.PendPlays': WHATEVER THE INPUT: true; the input reads as it did. -/
def pendPlaysSpec : ChangeSpec := { name := "pendPlays", fn := fun _ => fun
  | [d1, d2, d3, d4] => { results := [.lit (.bool true)], args := [d1, d2, d3, d4] }
  | _ => none }
def pendPlaysRow : OpenClaim := { program := "ythgioaaenfdcdaa", sum := "6c235ed967a6c04cbb66e2e443a50192f940b98ab44f657bdd6a823fe5ea73ad", func := "hustings/hustingslaw29.PendPlays", spec := "pendPlays", inPlace := ["maps.clone"], unfollowed := true, recurses := true, apart := false }
def PendPlaysSaid : Prop := pendPlaysRow.holds Try.pinned (OpenSpec.ofChange pendPlaysSpec)

/-- ITS FALSE NEIGHBOUR: 'it returns false'. Refute it at one input. -/
def pendPlaysWrong : ChangeSpec := { name := "pendPlays", fn := fun _ => fun
  | [d1, d2, d3, d4] => { results := [.lit (.bool false)], args := [d1, d2, d3, d4] }
  | _ => none }
def PendPlaysWrongFalsely : Prop := pendPlaysRow.holds Try.pinned (OpenSpec.ofChange pendPlaysWrong)

/-- 'hustingslaw29.PendDraw': WHATEVER THE INPUT: true; the input reads as it did. -/
def pendDrawSpec : ChangeSpec := { name := "pendDraw", fn := fun _ => fun
  | [d1, d2, d3, d4, d5, d6] => { results := [.lit (.bool true)], args := [d1, d2, d3, d4, d5, d6] }
  | _ => none }
def pendDrawRow : OpenClaim := { program := "ythgioaaenfdcdaa", sum := "6c235ed967a6c04cbb66e2e443a50192f940b98ab44f657bdd6a823fe5ea73ad", func := "hustings/hustingslaw29.PendDraw", spec := "pendDraw", inPlace := ["maps.clone"], unfollowed := true, recurses := true, apart := false }
def PendDrawSaid : Prop := pendDrawRow.holds Try.pinned (OpenSpec.ofChange pendDrawSpec)

/-- ITS FALSE NEIGHBOUR: 'it returns false'. Refute it at one input. -/
def pendDrawWrong : ChangeSpec := { name := "pendDraw", fn := fun _ => fun
  | [d1, d2, d3, d4, d5, d6] => { results := [.lit (.bool false)], args := [d1, d2, d3, d4, d5, d6] }
  | _ => none }
def PendDrawWrongFalsely : Prop := pendDrawRow.holds Try.pinned (OpenSpec.ofChange pendDrawWrong)

/- THE SECOND FORM. 'bulk': how many values and letters a reading holds, each counted each time it is reached (what is shared counts as often as it is met; a slice's spare places count too). A statement '..UptoSaid' is the law's where the arguments, and the package variables that the reading takes, are together of bulk at most 1048576: NARROWER than '..Said'. Prove '..Said' where nothing that the law and all that it calls make is longer than what came in: it says more and counts as full. Else prove '..UptoSaid'. A law counts once. -/
mutual
def uptoBulk {H : Type} : DataW H → Nat
  | .lit (.string bytes) => bytes.length + 1
  | .lit _ => 1
  | .nil => 1
  | .ptr d => uptoBulk d + 1
  | .slice elems spare => uptoBulkAll elems + uptoBulkAll spare + 1
  | .agg parts => uptoBulkAll parts + 1
  | .iface _ d => uptoBulk d + 1
  | .map entries => uptoBulkEntries entries + 1
  | .held _ => 1
def uptoBulkAll {H : Type} : List (DataW H) → Nat
  | [] => 0
  | d :: r => uptoBulk d + uptoBulkAll r
def uptoBulkEntries {H : Type} : List (Lit × DataW H) → Nat
  | [] => 0
  | x :: r => uptoBulkEntry x + uptoBulkEntries r
def uptoBulkEntry {H : Type} : Lit × DataW H → Nat
  | (.string bytes, d) => bytes.length + uptoBulk d + 1
  | (_, d) => uptoBulk d + 1
 end
def uptoSmall : (H : Type) → List (DataW H) → Bool := fun _ ds => decide (uptoBulkAll ds ≤ 1048576)
def OpenSpec.upto (s : _root_.Go.ChangeSpec) : _root_.Go.OpenSpec := { _root_.Go.OpenSpec.ofChange s with cond := some uptoSmall }

/-- 'hustingslaw29.PendUnlike', WHERE WHAT IT READS IS OF BULK AT MOST 1048576: true; the input reads as it did. -/
def pendUnlikeUptoRow : OpenClaim := { program := "ythgioaaenfdcdaa", sum := "6c235ed967a6c04cbb66e2e443a50192f940b98ab44f657bdd6a823fe5ea73ad", func := "hustings/hustingslaw29.PendUnlike", spec := "pendUnlike", unfollowed := true, recurses := true, apart := false, narrowed := true }
def PendUnlikeUptoSaid : Prop := pendUnlikeUptoRow.holds Try.pinned (OpenSpec.upto pendUnlikeSpec)

/-- 'hustingslaw29.PendFree', WHERE WHAT IT READS IS OF BULK AT MOST 1048576: true; the input reads as it did. -/
def pendFreeUptoRow : OpenClaim := { program := "ythgioaaenfdcdaa", sum := "6c235ed967a6c04cbb66e2e443a50192f940b98ab44f657bdd6a823fe5ea73ad", func := "hustings/hustingslaw29.PendFree", spec := "pendFree", inPlace := ["maps.clone"], unfollowed := true, recurses := true, apart := false, narrowed := true }
def PendFreeUptoSaid : Prop := pendFreeUptoRow.holds Try.pinned (OpenSpec.upto pendFreeSpec)

/-- 'hustingslaw29.PendApart', WHERE WHAT IT READS IS OF BULK AT MOST 1048576: true; the input reads as it did. -/
def pendApartUptoRow : OpenClaim := { program := "ythgioaaenfdcdaa", sum := "6c235ed967a6c04cbb66e2e443a50192f940b98ab44f657bdd6a823fe5ea73ad", func := "hustings/hustingslaw29.PendApart", spec := "pendApart", inPlace := ["maps.clone"], unfollowed := true, recurses := true, apart := false, narrowed := true }
def PendApartUptoSaid : Prop := pendApartUptoRow.holds Try.pinned (OpenSpec.upto pendApartSpec)

/-- 'hustingslaw29.PendNames', WHERE WHAT IT READS IS OF BULK AT MOST 1048576: true; the input reads as it did. -/
def pendNamesUptoRow : OpenClaim := { program := "ythgioaaenfdcdaa", sum := "6c235ed967a6c04cbb66e2e443a50192f940b98ab44f657bdd6a823fe5ea73ad", func := "hustings/hustingslaw29.PendNames", spec := "pendNames", inPlace := ["maps.clone"], unfollowed := true, recurses := true, apart := false, narrowed := true }
def PendNamesUptoSaid : Prop := pendNamesUptoRow.holds Try.pinned (OpenSpec.upto pendNamesSpec)

/-- 'hustingslaw29.PendPlays', WHERE WHAT IT READS IS OF BULK AT MOST 1048576: true; the input reads as it did. -/
def pendPlaysUptoRow : OpenClaim := { program := "ythgioaaenfdcdaa", sum := "6c235ed967a6c04cbb66e2e443a50192f940b98ab44f657bdd6a823fe5ea73ad", func := "hustings/hustingslaw29.PendPlays", spec := "pendPlays", inPlace := ["maps.clone"], unfollowed := true, recurses := true, apart := false, narrowed := true }
def PendPlaysUptoSaid : Prop := pendPlaysUptoRow.holds Try.pinned (OpenSpec.upto pendPlaysSpec)

/-- 'hustingslaw29.PendDraw', WHERE WHAT IT READS IS OF BULK AT MOST 1048576: true; the input reads as it did. -/
def pendDrawUptoRow : OpenClaim := { program := "ythgioaaenfdcdaa", sum := "6c235ed967a6c04cbb66e2e443a50192f940b98ab44f657bdd6a823fe5ea73ad", func := "hustings/hustingslaw29.PendDraw", spec := "pendDraw", inPlace := ["maps.clone"], unfollowed := true, recurses := true, apart := false, narrowed := true }
def PendDrawUptoSaid : Prop := pendDrawUptoRow.holds Try.pinned (OpenSpec.upto pendDrawSpec)

end Rows
end Go.Proofs.Ythgioaaenfdcdaa
