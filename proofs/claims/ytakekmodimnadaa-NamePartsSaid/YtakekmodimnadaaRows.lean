/-
  No cell of these rows narrows 'for every input' (looked for: loops, veiled, ifaces, maps, wideKeys, modest, calm, conditions, laid).
  DERIVED. THE GIVEN ROWS OF THIS SEAT. 5 by the template 'for every input the law returns true; each argument reads behind the call as it read before'; 0 by the template 'total and deterministic' (their statements: YtakekmodimnadaaTotals.lean).
  GIVEN WITH THE SEED: the statements are not yours to turn. If you find one false, say at which input.
  Laid BY PROGRAM, IN A SANDBOX (cutbox-rows.mjs): the forced cells as the released guide's own fill.sh prints them over the translation 16fe57bb15c3b5a9… (all of the seat's roots in one cut). By AI agents, Wed Nov 11 2026. No macro, syntax, notation, axiom, sorry.
-/
import Derived.Test.YtakekmodimnadaaChecked
import GoSem.Claim
import GoSem.ClaimJoined
import GoSem.ClaimMapViews
import Derived.JoinedTies
import Derived.KernelRfl
namespace Go.Proofs.Ytakekmodimnadaa
/- THE CELL 'sum', in the pinned program and in every row, IS THE sha256 OF THE DUMP (.gsa) THAT YtakekmodimnadaaProg.lean LOADS. Nothing in Lean hashes anything: it is a label: what it is worth is what the hold of that sum in a sandbox is worth. -/
noncomputable def Try.pinned : Pinned := { name := "ytakekmodimnadaa", sum := "16fe57bb15c3b5a9ca41960ab2fe4cffec4f38255d1a3cb2b9c36a163a70f1e9", checked := Try.checked }
namespace Rows
def none {H : Type} : Left H := { results := [], args := [] }

/-- 'complinelaw2.NameOrders': WHATEVER THE INPUT: true; the input reads as it did. -/
def nameOrdersSpec : ChangeSpec := { name := "nameOrders", fn := fun _ => fun
  | [d1, d2, d3, d4] => { results := [.lit (.bool true)], args := [d1, d2, d3, d4] }
  | _ => none }
def nameOrdersRow : OpenClaim := { program := "ytakekmodimnadaa", sum := "16fe57bb15c3b5a9ca41960ab2fe4cffec4f38255d1a3cb2b9c36a163a70f1e9", func := "compline/complinelaw2.NameOrders", spec := "nameOrders", unfollowed := true, recurses := true, apart := false }
def NameOrdersSaid : Prop := nameOrdersRow.holds Try.pinned (OpenSpec.ofChange nameOrdersSpec)

/-- ITS FALSE NEIGHBOUR: 'it returns false'. Refute it at one input. -/
def nameOrdersWrong : ChangeSpec := { name := "nameOrders", fn := fun _ => fun
  | [d1, d2, d3, d4] => { results := [.lit (.bool false)], args := [d1, d2, d3, d4] }
  | _ => none }
def NameOrdersWrongFalsely : Prop := nameOrdersRow.holds Try.pinned (OpenSpec.ofChange nameOrdersWrong)

/-- 'complinelaw2.NameParts': WHATEVER THE INPUT: true; the input reads as it did. -/
def namePartsSpec : ChangeSpec := { name := "nameParts", fn := fun _ => fun
  | [d1, d2, d3] => { results := [.lit (.bool true)], args := [d1, d2, d3] }
  | _ => none }
def namePartsRow : OpenClaim := { program := "ytakekmodimnadaa", sum := "16fe57bb15c3b5a9ca41960ab2fe4cffec4f38255d1a3cb2b9c36a163a70f1e9", func := "compline/complinelaw2.NameParts", spec := "nameParts", unfollowed := true, recurses := true, apart := false }
def NamePartsSaid : Prop := namePartsRow.holds Try.pinned (OpenSpec.ofChange namePartsSpec)

/-- ITS FALSE NEIGHBOUR: 'it returns false'. Refute it at one input. -/
def namePartsWrong : ChangeSpec := { name := "nameParts", fn := fun _ => fun
  | [d1, d2, d3] => { results := [.lit (.bool false)], args := [d1, d2, d3] }
  | _ => none }
def NamePartsWrongFalsely : Prop := namePartsRow.holds Try.pinned (OpenSpec.ofChange namePartsWrong)

/-- 'complinelaw2.NameNone': WHATEVER THE INPUT: true; the input reads as it did. -/
def nameNoneSpec : ChangeSpec := { name := "nameNone", fn := fun _ => fun
  | [d] => { results := [.lit (.bool true)], args := [d] }
  | _ => none }
def nameNoneRow : OpenClaim := { program := "ytakekmodimnadaa", sum := "16fe57bb15c3b5a9ca41960ab2fe4cffec4f38255d1a3cb2b9c36a163a70f1e9", func := "compline/complinelaw2.NameNone", spec := "nameNone", unfollowed := true, recurses := true, apart := false }
def NameNoneSaid : Prop := nameNoneRow.holds Try.pinned (OpenSpec.ofChange nameNoneSpec)

/-- ITS FALSE NEIGHBOUR: 'it returns false'. Refute it at one input. -/
def nameNoneWrong : ChangeSpec := { name := "nameNone", fn := fun _ => fun
  | [d] => { results := [.lit (.bool false)], args := [d] }
  | _ => none }
def NameNoneWrongFalsely : Prop := nameNoneRow.holds Try.pinned (OpenSpec.ofChange nameNoneWrong)

/-- 'complinelaw2.NameBack': WHATEVER THE INPUT: true; the input reads as it did. -/
def nameBackSpec : ChangeSpec := { name := "nameBack", fn := fun _ => fun
  | [d1, d2] => { results := [.lit (.bool true)], args := [d1, d2] }
  | _ => none }
def nameBackRow : OpenClaim := { program := "ytakekmodimnadaa", sum := "16fe57bb15c3b5a9ca41960ab2fe4cffec4f38255d1a3cb2b9c36a163a70f1e9", func := "compline/complinelaw2.NameBack", spec := "nameBack", unfollowed := true, recurses := true, apart := false }
def NameBackSaid : Prop := nameBackRow.holds Try.pinned (OpenSpec.ofChange nameBackSpec)

/-- ITS FALSE NEIGHBOUR: 'it returns false'. Refute it at one input. -/
def nameBackWrong : ChangeSpec := { name := "nameBack", fn := fun _ => fun
  | [d1, d2] => { results := [.lit (.bool false)], args := [d1, d2] }
  | _ => none }
def NameBackWrongFalsely : Prop := nameBackRow.holds Try.pinned (OpenSpec.ofChange nameBackWrong)

/-- 'complinelaw2.NameOwns': WHATEVER THE INPUT: true; the input reads as it did. -/
def nameOwnsSpec : ChangeSpec := { name := "nameOwns", fn := fun _ => fun
  | [d1, d2, d3] => { results := [.lit (.bool true)], args := [d1, d2, d3] }
  | _ => none }
def nameOwnsRow : OpenClaim := { program := "ytakekmodimnadaa", sum := "16fe57bb15c3b5a9ca41960ab2fe4cffec4f38255d1a3cb2b9c36a163a70f1e9", func := "compline/complinelaw2.NameOwns", spec := "nameOwns", unfollowed := true, recurses := true, apart := false }
def NameOwnsSaid : Prop := nameOwnsRow.holds Try.pinned (OpenSpec.ofChange nameOwnsSpec)

/-- ITS FALSE NEIGHBOUR: 'it returns false'. Refute it at one input. -/
def nameOwnsWrong : ChangeSpec := { name := "nameOwns", fn := fun _ => fun
  | [d1, d2, d3] => { results := [.lit (.bool false)], args := [d1, d2, d3] }
  | _ => none }
def NameOwnsWrongFalsely : Prop := nameOwnsRow.holds Try.pinned (OpenSpec.ofChange nameOwnsWrong)

/- THE SECOND FORM. 'bulk': how many values and letters a reading holds, each counted each time it is reached (what is shared counts as often as it is met; a slice's spare places count too). A statement '..UptoSaid' is the law's where the arguments, and the package variables that the reading takes, are together of bulk at most 1048576: NARROWER than '..Said'. Prove '..Said' where nothing that the law and all that it calls make is longer than what came in: it says more and counts as full. Else prove '..UptoSaid'. A law counts once. -/
mutual
def uptoBulk {H : Type} : DataW H → Nat
  | .lit (.string bytes) => bytes.length + 1
  | .lit _ => 1
  | .nil => 1
  | .ptr d => uptoBulk d + 1
  | .slice elems spare => uptoBulkAll elems + uptoBulkAll spare + 1
  | .agg parts => uptoBulkAll parts + 1
  | .iface _ d => uptoBulk d + 1
  | .map entries => uptoBulkEntries entries + 1
  | .held _ => 1
def uptoBulkAll {H : Type} : List (DataW H) → Nat
  | [] => 0
  | d :: r => uptoBulk d + uptoBulkAll r
def uptoBulkEntries {H : Type} : List (Lit × DataW H) → Nat
  | [] => 0
  | x :: r => uptoBulkEntry x + uptoBulkEntries r
def uptoBulkEntry {H : Type} : Lit × DataW H → Nat
  | (.string bytes, d) => bytes.length + uptoBulk d + 1
  | (_, d) => uptoBulk d + 1
 end
def uptoSmall : (H : Type) → List (DataW H) → Bool := fun _ ds => decide (uptoBulkAll ds ≤ 1048576)
def OpenSpec.upto (s : _root_.Go.ChangeSpec) : _root_.Go.OpenSpec := { _root_.Go.OpenSpec.ofChange s with cond := some uptoSmall }

/-- 'complinelaw2.NameOrders', WHERE WHAT IT READS IS OF BULK AT MOST 1048576: true; the input reads as it did. -/
def nameOrdersUptoRow : OpenClaim := { program := "ytakekmodimnadaa", sum := "16fe57bb15c3b5a9ca41960ab2fe4cffec4f38255d1a3cb2b9c36a163a70f1e9", func := "compline/complinelaw2.NameOrders", spec := "nameOrders", unfollowed := true, recurses := true, apart := false, narrowed := true }
def NameOrdersUptoSaid : Prop := nameOrdersUptoRow.holds Try.pinned (OpenSpec.upto nameOrdersSpec)

/-- 'complinelaw2.NameParts', WHERE WHAT IT READS IS OF BULK AT MOST 1048576: true; the input reads as it did. -/
def namePartsUptoRow : OpenClaim := { program := "ytakekmodimnadaa", sum := "16fe57bb15c3b5a9ca41960ab2fe4cffec4f38255d1a3cb2b9c36a163a70f1e9", func := "compline/complinelaw2.NameParts", spec := "nameParts", unfollowed := true, recurses := true, apart := false, narrowed := true }
def NamePartsUptoSaid : Prop := namePartsUptoRow.holds Try.pinned (OpenSpec.upto namePartsSpec)

/-- 'complinelaw2.NameNone', WHERE WHAT IT READS IS OF BULK AT MOST 1048576: true; the input reads as it did. -/
def nameNoneUptoRow : OpenClaim := { program := "ytakekmodimnadaa", sum := "16fe57bb15c3b5a9ca41960ab2fe4cffec4f38255d1a3cb2b9c36a163a70f1e9", func := "compline/complinelaw2.NameNone", spec := "nameNone", unfollowed := true, recurses := true, apart := false, narrowed := true }
def NameNoneUptoSaid : Prop := nameNoneUptoRow.holds Try.pinned (OpenSpec.upto nameNoneSpec)

/-- 'complinelaw2.NameBack', WHERE WHAT IT READS IS OF BULK AT MOST 1048576: true; the input reads as it did. -/
def nameBackUptoRow : OpenClaim := { program := "ytakekmodimnadaa", sum := "16fe57bb15c3b5a9ca41960ab2fe4cffec4f38255d1a3cb2b9c36a163a70f1e9", func := "compline/complinelaw2.NameBack", spec := "nameBack", unfollowed := true, recurses := true, apart := false, narrowed := true }
def NameBackUptoSaid : Prop := nameBackUptoRow.holds Try.pinned (OpenSpec.upto nameBackSpec)

/-- 'complinelaw2.NameOwns', WHERE WHAT IT READS IS OF BULK AT MOST 1048576: true; the input reads as it did. -/
def nameOwnsUptoRow : OpenClaim := { program := "ytakekmodimnadaa", sum := "16fe57bb15c3b5a9ca41960ab2fe4cffec4f38255d1a3cb2b9c36a163a70f1e9", func := "compline/complinelaw2.NameOwns", spec := "nameOwns", unfollowed := true, recurses := true, apart := false, narrowed := true }
def NameOwnsUptoSaid : Prop := nameOwnsUptoRow.holds Try.pinned (OpenSpec.upto nameOwnsSpec)

end Rows
end Go.Proofs.Ytakekmodimnadaa
