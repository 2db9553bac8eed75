/-
  No cell of these rows narrows 'for every input' (looked for: loops, veiled, ifaces, maps, wideKeys, modest, calm, conditions, laid).
  DERIVED. THE GIVEN ROWS OF THIS SEAT. 4 by the template 'for every input the law returns true; each argument reads behind the call as it read before'; 0 by the template 'total and deterministic' (their statements: YtohlmegbndgedaaTotals.lean).
  GIVEN WITH THE SEED: the statements are not yours to turn. If you find one false, say at which input.
  Laid BY PROGRAM, IN A SANDBOX (cutbox-rows.mjs): the forced cells as the released guide's own fill.sh prints them over the translation f0968b6833026121… (all of the seat's roots in one cut). By AI agents, Wed Nov 11 2026. No macro, syntax, notation, axiom, sorry.
-/
import Derived.Test.YtohlmegbndgedaaChecked
import GoSem.Claim
import GoSem.ClaimJoined
import GoSem.ClaimMapViews
import Derived.JoinedTies
import Derived.KernelRfl
namespace Go.Proofs.Ytohlmegbndgedaa
/- THE CELL 'sum', in the pinned program and in every row, IS THE sha256 OF THE DUMP (.gsa) THAT YtohlmegbndgedaaProg.lean LOADS. Nothing in Lean hashes anything: it is a label: what it is worth is what the hold of that sum in a sandbox is worth. -/
noncomputable def Try.pinned : Pinned := { name := "ytohlmegbndgedaa", sum := "f0968b6833026121877289273c1f3fe35a953d413968529f8b557ef5883b61f2", checked := Try.checked }
namespace Rows
def none {H : Type} : Left H := { results := [], args := [] }

/-- 'complinelaw9.RefAll': WHATEVER THE INPUT: true; the input reads as it did. -/
def refAllSpec : ChangeSpec := { name := "refAll", fn := fun _ => fun
  | [d] => { results := [.lit (.bool true)], args := [d] }
  | _ => none }
def refAllRow : OpenClaim := { program := "ytohlmegbndgedaa", sum := "f0968b6833026121877289273c1f3fe35a953d413968529f8b557ef5883b61f2", func := "compline/complinelaw9.RefAll", spec := "refAll", inPlace := ["maps.clone"], unfollowed := true, recurses := true, apart := false }
def RefAllSaid : Prop := refAllRow.holds Try.pinned (OpenSpec.ofChange refAllSpec)

/-- ITS FALSE NEIGHBOUR: 'it returns false'. Refute it at one input. -/
def refAllWrong : ChangeSpec := { name := "refAll", fn := fun _ => fun
  | [d] => { results := [.lit (.bool false)], args := [d] }
  | _ => none }
def RefAllWrongFalsely : Prop := refAllRow.holds Try.pinned (OpenSpec.ofChange refAllWrong)

/-- 'complinelaw9.RefOwn': WHATEVER THE INPUT: true; the input reads as it did. -/
def refOwnSpec : ChangeSpec := { name := "refOwn", fn := fun _ => fun
  | [d1, d2] => { results := [.lit (.bool true)], args := [d1, d2] }
  | _ => none }
def refOwnRow : OpenClaim := { program := "ytohlmegbndgedaa", sum := "f0968b6833026121877289273c1f3fe35a953d413968529f8b557ef5883b61f2", func := "compline/complinelaw9.RefOwn", spec := "refOwn", inPlace := ["maps.clone"], unfollowed := true, recurses := true, apart := false }
def RefOwnSaid : Prop := refOwnRow.holds Try.pinned (OpenSpec.ofChange refOwnSpec)

/-- ITS FALSE NEIGHBOUR: 'it returns false'. Refute it at one input. -/
def refOwnWrong : ChangeSpec := { name := "refOwn", fn := fun _ => fun
  | [d1, d2] => { results := [.lit (.bool false)], args := [d1, d2] }
  | _ => none }
def RefOwnWrongFalsely : Prop := refOwnRow.holds Try.pinned (OpenSpec.ofChange refOwnWrong)

/-- 'complinelaw9.RefSets': WHATEVER THE INPUT: true; the input reads as it did. -/
def refSetsSpec : ChangeSpec := { name := "refSets", fn := fun _ => fun
  | [d1, d2, d3] => { results := [.lit (.bool true)], args := [d1, d2, d3] }
  | _ => none }
def refSetsRow : OpenClaim := { program := "ytohlmegbndgedaa", sum := "f0968b6833026121877289273c1f3fe35a953d413968529f8b557ef5883b61f2", func := "compline/complinelaw9.RefSets", spec := "refSets", inPlace := ["maps.clone"], unfollowed := true, recurses := true, apart := false }
def RefSetsSaid : Prop := refSetsRow.holds Try.pinned (OpenSpec.ofChange refSetsSpec)

/-- ITS FALSE NEIGHBOUR: 'it returns false'. Refute it at one input. -/
def refSetsWrong : ChangeSpec := { name := "refSets", fn := fun _ => fun
  | [d1, d2, d3] => { results := [.lit (.bool false)], args := [d1, d2, d3] }
  | _ => none }
def RefSetsWrongFalsely : Prop := refSetsRow.holds Try.pinned (OpenSpec.ofChange refSetsWrong)

/-- 'complinelaw9.RefNone': WHATEVER THE INPUT: true; the input reads as it did. -/
def refNoneSpec : ChangeSpec := { name := "refNone", fn := fun _ => fun
  | [d1, d2] => { results := [.lit (.bool true)], args := [d1, d2] }
  | _ => none }
def refNoneRow : OpenClaim := { program := "ytohlmegbndgedaa", sum := "f0968b6833026121877289273c1f3fe35a953d413968529f8b557ef5883b61f2", func := "compline/complinelaw9.RefNone", spec := "refNone", inPlace := ["maps.clone"], unfollowed := true, recurses := true, apart := false }
def RefNoneSaid : Prop := refNoneRow.holds Try.pinned (OpenSpec.ofChange refNoneSpec)

/-- ITS FALSE NEIGHBOUR: 'it returns false'. Refute it at one input. -/
def refNoneWrong : ChangeSpec := { name := "refNone", fn := fun _ => fun
  | [d1, d2] => { results := [.lit (.bool false)], args := [d1, d2] }
  | _ => none }
def RefNoneWrongFalsely : Prop := refNoneRow.holds Try.pinned (OpenSpec.ofChange refNoneWrong)

/- THE SECOND FORM. 'bulk': how many values and letters a reading holds, each counted each time it is reached (what is shared counts as often as it is met; a slice's spare places count too). A statement '..UptoSaid' is the law's where the arguments, and the package variables that the reading takes, are together of bulk at most 1048576: NARROWER than '..Said'. Prove '..Said' where nothing that the law and all that it calls make is longer than what came in: it says more and counts as full. Else prove '..UptoSaid'. A law counts once. -/
mutual
def uptoBulk {H : Type} : DataW H → Nat
  | .lit (.string bytes) => bytes.length + 1
  | .lit _ => 1
  | .nil => 1
  | .ptr d => uptoBulk d + 1
  | .slice elems spare => uptoBulkAll elems + uptoBulkAll spare + 1
  | .agg parts => uptoBulkAll parts + 1
  | .iface _ d => uptoBulk d + 1
  | .map entries => uptoBulkEntries entries + 1
  | .held _ => 1
def uptoBulkAll {H : Type} : List (DataW H) → Nat
  | [] => 0
  | d :: r => uptoBulk d + uptoBulkAll r
def uptoBulkEntries {H : Type} : List (Lit × DataW H) → Nat
  | [] => 0
  | x :: r => uptoBulkEntry x + uptoBulkEntries r
def uptoBulkEntry {H : Type} : Lit × DataW H → Nat
  | (.string bytes, d) => bytes.length + uptoBulk d + 1
  | (_, d) => uptoBulk d + 1
 end
def uptoSmall : (H : Type) → List (DataW H) → Bool := fun _ ds => decide (uptoBulkAll ds ≤ 1048576)
def OpenSpec.upto (s : _root_.Go.ChangeSpec) : _root_.Go.OpenSpec := { _root_.Go.OpenSpec.ofChange s with cond := some uptoSmall }

/-- 'complinelaw9.RefAll', WHERE WHAT IT READS IS OF BULK AT MOST 1048576: true; the input reads as it did. -/
def refAllUptoRow : OpenClaim := { program := "ytohlmegbndgedaa", sum := "f0968b6833026121877289273c1f3fe35a953d413968529f8b557ef5883b61f2", func := "compline/complinelaw9.RefAll", spec := "refAll", inPlace := ["maps.clone"], unfollowed := true, recurses := true, apart := false, narrowed := true }
def RefAllUptoSaid : Prop := refAllUptoRow.holds Try.pinned (OpenSpec.upto refAllSpec)

/-- 'complinelaw9.RefOwn', WHERE WHAT IT READS IS OF BULK AT MOST 1048576: true; the input reads as it did. -/
def refOwnUptoRow : OpenClaim := { program := "ytohlmegbndgedaa", sum := "f0968b6833026121877289273c1f3fe35a953d413968529f8b557ef5883b61f2", func := "compline/complinelaw9.RefOwn", spec := "refOwn", inPlace := ["maps.clone"], unfollowed := true, recurses := true, apart := false, narrowed := true }
def RefOwnUptoSaid : Prop := refOwnUptoRow.holds Try.pinned (OpenSpec.upto refOwnSpec)

/-- 'complinelaw9.RefSets', WHERE WHAT IT READS IS OF BULK AT MOST 1048576: true; the input reads as it did. -/
def refSetsUptoRow : OpenClaim := { program := "ytohlmegbndgedaa", sum := "f0968b6833026121877289273c1f3fe35a953d413968529f8b557ef5883b61f2", func := "compline/complinelaw9.RefSets", spec := "refSets", inPlace := ["maps.clone"], unfollowed := true, recurses := true, apart := false, narrowed := true }
def RefSetsUptoSaid : Prop := refSetsUptoRow.holds Try.pinned (OpenSpec.upto refSetsSpec)

/-- 'complinelaw9.RefNone', WHERE WHAT IT READS IS OF BULK AT MOST 1048576: true; the input reads as it did. -/
def refNoneUptoRow : OpenClaim := { program := "ytohlmegbndgedaa", sum := "f0968b6833026121877289273c1f3fe35a953d413968529f8b557ef5883b61f2", func := "compline/complinelaw9.RefNone", spec := "refNone", inPlace := ["maps.clone"], unfollowed := true, recurses := true, apart := false, narrowed := true }
def RefNoneUptoSaid : Prop := refNoneUptoRow.holds Try.pinned (OpenSpec.upto refNoneSpec)

end Rows
end Go.Proofs.Ytohlmegbndgedaa
