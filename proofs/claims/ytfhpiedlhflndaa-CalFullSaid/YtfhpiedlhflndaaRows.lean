/-
  No cell of these rows narrows 'for every input' (looked for: loops, veiled, ifaces, maps, wideKeys, modest, calm, conditions, laid).
  DERIVED. THE GIVEN ROWS OF THIS SEAT. 4 by the template 'for every input the law returns true; each argument reads behind the call as it read before'; 0 by the template 'total and deterministic' (their statements: YtfhpiedlhflndaaTotals.lean).
  GIVEN WITH THE SEED: the statements are not yours to turn. If you find one false, say at which input.
  Laid BY PROGRAM, IN A SANDBOX (cutbox-rows.mjs): the forced cells as the released guide's own fill.sh prints them over the translation b3c7a7deff2d0f57… (all of the seat's roots in one cut). By AI agents, Wed Nov 11 2026. No macro, syntax, notation, axiom, sorry.
-/
import Derived.Test.YtfhpiedlhflndaaChecked
import GoSem.Claim
import GoSem.ClaimJoined
import GoSem.ClaimMapViews
import Derived.JoinedTies
import Derived.KernelRfl
namespace Go.Proofs.Ytfhpiedlhflndaa
/- THE CELL 'sum', in the pinned program and in every row, IS THE sha256 OF THE DUMP (.gsa) THAT YtfhpiedlhflndaaProg.lean LOADS. Nothing in Lean hashes anything: it is a label: what it is worth is what the hold of that sum in a sandbox is worth. -/
noncomputable def Try.pinned : Pinned := { name := "ytfhpiedlhflndaa", sum := "b3c7a7deff2d0f572dce3b5608ea98650095904744ef37272caf89d9d5dff68f", checked := Try.checked }
namespace Rows
def none {H : Type} : Left H := { results := [], args := [] }

/-- 'complinelaw8.CalGoes': WHATEVER THE INPUT: true; the input reads as it did. -/
def calGoesSpec : ChangeSpec := { name := "calGoes", fn := fun _ => fun
  | [d1, d2, d3, d4] => { results := [.lit (.bool true)], args := [d1, d2, d3, d4] }
  | _ => none }
def calGoesRow : OpenClaim := { program := "ytfhpiedlhflndaa", sum := "b3c7a7deff2d0f572dce3b5608ea98650095904744ef37272caf89d9d5dff68f", func := "compline/complinelaw8.CalGoes", spec := "calGoes", inPlace := ["maps.clone"], unfollowed := true, recurses := true, apart := false }
def CalGoesSaid : Prop := calGoesRow.holds Try.pinned (OpenSpec.ofChange calGoesSpec)

/-- ITS FALSE NEIGHBOUR: 'it returns false'. Refute it at one input. -/
def calGoesWrong : ChangeSpec := { name := "calGoes", fn := fun _ => fun
  | [d1, d2, d3, d4] => { results := [.lit (.bool false)], args := [d1, d2, d3, d4] }
  | _ => none }
def CalGoesWrongFalsely : Prop := calGoesRow.holds Try.pinned (OpenSpec.ofChange calGoesWrong)

/-- 'complinelaw8.CalNone': WHATEVER THE INPUT: true; the input reads as it did. -/
def calNoneSpec : ChangeSpec := { name := "calNone", fn := fun _ => fun
  | [d1, d2] => { results := [.lit (.bool true)], args := [d1, d2] }
  | _ => none }
def calNoneRow : OpenClaim := { program := "ytfhpiedlhflndaa", sum := "b3c7a7deff2d0f572dce3b5608ea98650095904744ef37272caf89d9d5dff68f", func := "compline/complinelaw8.CalNone", spec := "calNone", inPlace := ["maps.clone"], unfollowed := true, recurses := true, apart := false }
def CalNoneSaid : Prop := calNoneRow.holds Try.pinned (OpenSpec.ofChange calNoneSpec)

/-- ITS FALSE NEIGHBOUR: 'it returns false'. Refute it at one input. -/
def calNoneWrong : ChangeSpec := { name := "calNone", fn := fun _ => fun
  | [d1, d2] => { results := [.lit (.bool false)], args := [d1, d2] }
  | _ => none }
def CalNoneWrongFalsely : Prop := calNoneRow.holds Try.pinned (OpenSpec.ofChange calNoneWrong)

/-- 'complinelaw8.CalWeeks': WHATEVER THE INPUT: true; the input reads as it did. -/
def calWeeksSpec : ChangeSpec := { name := "calWeeks", fn := fun _ => fun
  | [d1, d2, d3] => { results := [.lit (.bool true)], args := [d1, d2, d3] }
  | _ => none }
def calWeeksRow : OpenClaim := { program := "ytfhpiedlhflndaa", sum := "b3c7a7deff2d0f572dce3b5608ea98650095904744ef37272caf89d9d5dff68f", func := "compline/complinelaw8.CalWeeks", spec := "calWeeks", inPlace := ["maps.clone"], unfollowed := true, recurses := true, apart := false }
def CalWeeksSaid : Prop := calWeeksRow.holds Try.pinned (OpenSpec.ofChange calWeeksSpec)

/-- ITS FALSE NEIGHBOUR: 'it returns false'. Refute it at one input. -/
def calWeeksWrong : ChangeSpec := { name := "calWeeks", fn := fun _ => fun
  | [d1, d2, d3] => { results := [.lit (.bool false)], args := [d1, d2, d3] }
  | _ => none }
def CalWeeksWrongFalsely : Prop := calWeeksRow.holds Try.pinned (OpenSpec.ofChange calWeeksWrong)

/-- 'complinelaw8.CalFull': WHATEVER THE INPUT: true; the input reads as it did. -/
def calFullSpec : ChangeSpec := { name := "calFull", fn := fun _ => fun
  | [d1, d2] => { results := [.lit (.bool true)], args := [d1, d2] }
  | _ => none }
def calFullRow : OpenClaim := { program := "ytfhpiedlhflndaa", sum := "b3c7a7deff2d0f572dce3b5608ea98650095904744ef37272caf89d9d5dff68f", func := "compline/complinelaw8.CalFull", spec := "calFull", inPlace := ["maps.clone"], unfollowed := true, recurses := true, apart := false }
def CalFullSaid : Prop := calFullRow.holds Try.pinned (OpenSpec.ofChange calFullSpec)

/-- ITS FALSE NEIGHBOUR: 'it returns false'. Refute it at one input. -/
def calFullWrong : ChangeSpec := { name := "calFull", fn := fun _ => fun
  | [d1, d2] => { results := [.lit (.bool false)], args := [d1, d2] }
  | _ => none }
def CalFullWrongFalsely : Prop := calFullRow.holds Try.pinned (OpenSpec.ofChange calFullWrong)

/- THE SECOND FORM. 'bulk': how many values and letters a reading holds, each counted each time it is reached (what is shared counts as often as it is met; a slice's spare places count too). A statement '..UptoSaid' is the law's where the arguments, and the package variables that the reading takes, are together of bulk at most 1048576: NARROWER than '..Said'. Prove '..Said' where nothing that the law and all that it calls make is longer than what came in: it says more and counts as full. Else prove '..UptoSaid'. A law counts once. -/
mutual
def uptoBulk {H : Type} : DataW H → Nat
  | .lit (.string bytes) => bytes.length + 1
  | .lit _ => 1
  | .nil => 1
  | .ptr d => uptoBulk d + 1
  | .slice elems spare => uptoBulkAll elems + uptoBulkAll spare + 1
  | .agg parts => uptoBulkAll parts + 1
  | .iface _ d => uptoBulk d + 1
  | .map entries => uptoBulkEntries entries + 1
  | .held _ => 1
def uptoBulkAll {H : Type} : List (DataW H) → Nat
  | [] => 0
  | d :: r => uptoBulk d + uptoBulkAll r
def uptoBulkEntries {H : Type} : List (Lit × DataW H) → Nat
  | [] => 0
  | x :: r => uptoBulkEntry x + uptoBulkEntries r
def uptoBulkEntry {H : Type} : Lit × DataW H → Nat
  | (.string bytes, d) => bytes.length + uptoBulk d + 1
  | (_, d) => uptoBulk d + 1
 end
def uptoSmall : (H : Type) → List (DataW H) → Bool := fun _ ds => decide (uptoBulkAll ds ≤ 1048576)
def OpenSpec.upto (s : _root_.Go.ChangeSpec) : _root_.Go.OpenSpec := { _root_.Go.OpenSpec.ofChange s with cond := some uptoSmall }

/-- 'complinelaw8.CalGoes', WHERE WHAT IT READS IS OF BULK AT MOST 1048576: true; the input reads as it did. -/
def calGoesUptoRow : OpenClaim := { program := "ytfhpiedlhflndaa", sum := "b3c7a7deff2d0f572dce3b5608ea98650095904744ef37272caf89d9d5dff68f", func := "compline/complinelaw8.CalGoes", spec := "calGoes", inPlace := ["maps.clone"], unfollowed := true, recurses := true, apart := false, narrowed := true }
def CalGoesUptoSaid : Prop := calGoesUptoRow.holds Try.pinned (OpenSpec.upto calGoesSpec)

/-- 'complinelaw8.CalNone', WHERE WHAT IT READS IS OF BULK AT MOST 1048576: true; the input reads as it did. -/
def calNoneUptoRow : OpenClaim := { program := "ytfhpiedlhflndaa", sum := "b3c7a7deff2d0f572dce3b5608ea98650095904744ef37272caf89d9d5dff68f", func := "compline/complinelaw8.CalNone", spec := "calNone", inPlace := ["maps.clone"], unfollowed := true, recurses := true, apart := false, narrowed := true }
def CalNoneUptoSaid : Prop := calNoneUptoRow.holds Try.pinned (OpenSpec.upto calNoneSpec)

/-- 'complinelaw8.CalWeeks', WHERE WHAT IT READS IS OF BULK AT MOST 1048576: true; the input reads as it did. -/
def calWeeksUptoRow : OpenClaim := { program := "ytfhpiedlhflndaa", sum := "b3c7a7deff2d0f572dce3b5608ea98650095904744ef37272caf89d9d5dff68f", func := "compline/complinelaw8.CalWeeks", spec := "calWeeks", inPlace := ["maps.clone"], unfollowed := true, recurses := true, apart := false, narrowed := true }
def CalWeeksUptoSaid : Prop := calWeeksUptoRow.holds Try.pinned (OpenSpec.upto calWeeksSpec)

/-- 'complinelaw8.CalFull', WHERE WHAT IT READS IS OF BULK AT MOST 1048576: true; the input reads as it did. -/
def calFullUptoRow : OpenClaim := { program := "ytfhpiedlhflndaa", sum := "b3c7a7deff2d0f572dce3b5608ea98650095904744ef37272caf89d9d5dff68f", func := "compline/complinelaw8.CalFull", spec := "calFull", inPlace := ["maps.clone"], unfollowed := true, recurses := true, apart := false, narrowed := true }
def CalFullUptoSaid : Prop := calFullUptoRow.holds Try.pinned (OpenSpec.upto calFullSpec)

end Rows
end Go.Proofs.Ytfhpiedlhflndaa
