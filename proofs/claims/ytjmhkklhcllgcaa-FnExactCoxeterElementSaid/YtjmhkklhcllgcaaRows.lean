/-
  No cell of these rows narrows 'for every input' (looked for: loops, veiled, ifaces, maps, wideKeys, modest, calm, conditions, laid).
  DERIVED. THE GIVEN ROWS OF THIS SEAT. 11 by the template 'for every input the law returns true; each argument reads behind the call as it read before'; 0 by the template 'total and deterministic' (their statements: YtjmhkklhcllgcaaTotals.lean).
  GIVEN WITH THE SEED: the statements are not yours to turn. If you find one false, say at which input.
  Laid BY PROGRAM, IN A SANDBOX (cutbox-rows.mjs): the forced cells as the released guide's own fill.sh prints them over the translation 7ea17f256be4900d… (all of the seat's roots in one cut). By AI agents, Wed Nov 11 2026. No macro, syntax, notation, axiom, sorry.
-/
import Derived.Test.YtjmhkklhcllgcaaChecked
import GoSem.Claim
import GoSem.ClaimJoined
import GoSem.ClaimMapViews
import Derived.JoinedTies
import Derived.KernelRfl
namespace Go.Proofs.Ytjmhkklhcllgcaa
/- THE CELL 'sum', in the pinned program and in every row, IS THE sha256 OF THE DUMP (.gsa) THAT YtjmhkklhcllgcaaProg.lean LOADS. Nothing in Lean hashes anything: it is a label: what it is worth is what the hold of that sum in a sandbox is worth. -/
noncomputable def Try.pinned : Pinned := { name := "ytjmhkklhcllgcaa", sum := "7ea17f256be4900d66d159dad4a12605ae8dc04ea16cc6d87c3c3534451b9469", checked := Try.checked }
namespace Rows
def none {H : Type} : Left H := { results := [], args := [] }

/-- 'laws.FnExactIsPoly': WHATEVER THE INPUT: true; the input reads as it did. -/
def fnExactIsPolySpec : ChangeSpec := { name := "fnExactIsPoly", fn := fun _ => fun
  | [d] => { results := [.lit (.bool true)], args := [d] }
  | _ => none }
def fnExactIsPolyRow : OpenClaim := { program := "ytjmhkklhcllgcaa", sum := "7ea17f256be4900d66d159dad4a12605ae8dc04ea16cc6d87c3c3534451b9469", func := "loop.example/g02076/laws.FnExactIsPoly", spec := "fnExactIsPoly", apart := false }
def FnExactIsPolySaid : Prop := fnExactIsPolyRow.holds Try.pinned (OpenSpec.ofChange fnExactIsPolySpec)

/-- ITS FALSE NEIGHBOUR: 'it returns false'. Refute it at one input. -/
def fnExactIsPolyWrong : ChangeSpec := { name := "fnExactIsPoly", fn := fun _ => fun
  | [d] => { results := [.lit (.bool false)], args := [d] }
  | _ => none }
def FnExactIsPolyWrongFalsely : Prop := fnExactIsPolyRow.holds Try.pinned (OpenSpec.ofChange fnExactIsPolyWrong)

/-- 'laws.FnExactEvalPoly': WHATEVER THE INPUT: true; the input reads as it did. -/
def fnExactEvalPolySpec : ChangeSpec := { name := "fnExactEvalPoly", fn := fun _ => fun
  | [d1, d2] => { results := [.lit (.bool true)], args := [d1, d2] }
  | _ => none }
def fnExactEvalPolyRow : OpenClaim := { program := "ytjmhkklhcllgcaa", sum := "7ea17f256be4900d66d159dad4a12605ae8dc04ea16cc6d87c3c3534451b9469", func := "loop.example/g02076/laws.FnExactEvalPoly", spec := "fnExactEvalPoly", apart := false }
def FnExactEvalPolySaid : Prop := fnExactEvalPolyRow.holds Try.pinned (OpenSpec.ofChange fnExactEvalPolySpec)

/-- ITS FALSE NEIGHBOUR: 'it returns false'. Refute it at one input. -/
def fnExactEvalPolyWrong : ChangeSpec := { name := "fnExactEvalPoly", fn := fun _ => fun
  | [d1, d2] => { results := [.lit (.bool false)], args := [d1, d2] }
  | _ => none }
def FnExactEvalPolyWrongFalsely : Prop := fnExactEvalPolyRow.holds Try.pinned (OpenSpec.ofChange fnExactEvalPolyWrong)

/-- 'laws.FnExactTrimPoly': WHATEVER THE INPUT: true; the input reads as it did. -/
def fnExactTrimPolySpec : ChangeSpec := { name := "fnExactTrimPoly", fn := fun _ => fun
  | [d] => { results := [.lit (.bool true)], args := [d] }
  | _ => none }
def fnExactTrimPolyRow : OpenClaim := { program := "ytjmhkklhcllgcaa", sum := "7ea17f256be4900d66d159dad4a12605ae8dc04ea16cc6d87c3c3534451b9469", func := "loop.example/g02076/laws.FnExactTrimPoly", spec := "fnExactTrimPoly", apart := false }
def FnExactTrimPolySaid : Prop := fnExactTrimPolyRow.holds Try.pinned (OpenSpec.ofChange fnExactTrimPolySpec)

/-- ITS FALSE NEIGHBOUR: 'it returns false'. Refute it at one input. -/
def fnExactTrimPolyWrong : ChangeSpec := { name := "fnExactTrimPoly", fn := fun _ => fun
  | [d] => { results := [.lit (.bool false)], args := [d] }
  | _ => none }
def FnExactTrimPolyWrongFalsely : Prop := fnExactTrimPolyRow.holds Try.pinned (OpenSpec.ofChange fnExactTrimPolyWrong)

/-- 'laws.FnExactEqualPolys': WHATEVER THE INPUT: true; the input reads as it did. -/
def fnExactEqualPolysSpec : ChangeSpec := { name := "fnExactEqualPolys", fn := fun _ => fun
  | [d1, d2] => { results := [.lit (.bool true)], args := [d1, d2] }
  | _ => none }
def fnExactEqualPolysRow : OpenClaim := { program := "ytjmhkklhcllgcaa", sum := "7ea17f256be4900d66d159dad4a12605ae8dc04ea16cc6d87c3c3534451b9469", func := "loop.example/g02076/laws.FnExactEqualPolys", spec := "fnExactEqualPolys", apart := false }
def FnExactEqualPolysSaid : Prop := fnExactEqualPolysRow.holds Try.pinned (OpenSpec.ofChange fnExactEqualPolysSpec)

/-- ITS FALSE NEIGHBOUR: 'it returns false'. Refute it at one input. -/
def fnExactEqualPolysWrong : ChangeSpec := { name := "fnExactEqualPolys", fn := fun _ => fun
  | [d1, d2] => { results := [.lit (.bool false)], args := [d1, d2] }
  | _ => none }
def FnExactEqualPolysWrongFalsely : Prop := fnExactEqualPolysRow.holds Try.pinned (OpenSpec.ofChange fnExactEqualPolysWrong)

/-- 'laws.FnExactShiftPoly': WHATEVER THE INPUT: true; the input reads as it did. -/
def fnExactShiftPolySpec : ChangeSpec := { name := "fnExactShiftPoly", fn := fun _ => fun
  | [d1, d2] => { results := [.lit (.bool true)], args := [d1, d2] }
  | _ => none }
def fnExactShiftPolyRow : OpenClaim := { program := "ytjmhkklhcllgcaa", sum := "7ea17f256be4900d66d159dad4a12605ae8dc04ea16cc6d87c3c3534451b9469", func := "loop.example/g02076/laws.FnExactShiftPoly", spec := "fnExactShiftPoly", apart := false }
def FnExactShiftPolySaid : Prop := fnExactShiftPolyRow.holds Try.pinned (OpenSpec.ofChange fnExactShiftPolySpec)

/-- ITS FALSE NEIGHBOUR: 'it returns false'. Refute it at one input. -/
def fnExactShiftPolyWrong : ChangeSpec := { name := "fnExactShiftPoly", fn := fun _ => fun
  | [d1, d2] => { results := [.lit (.bool false)], args := [d1, d2] }
  | _ => none }
def FnExactShiftPolyWrongFalsely : Prop := fnExactShiftPolyRow.holds Try.pinned (OpenSpec.ofChange fnExactShiftPolyWrong)

/-- 'laws.FnExactAddPoly': WHATEVER THE INPUT: true; the input reads as it did. -/
def fnExactAddPolySpec : ChangeSpec := { name := "fnExactAddPoly", fn := fun _ => fun
  | [d1, d2] => { results := [.lit (.bool true)], args := [d1, d2] }
  | _ => none }
def fnExactAddPolyRow : OpenClaim := { program := "ytjmhkklhcllgcaa", sum := "7ea17f256be4900d66d159dad4a12605ae8dc04ea16cc6d87c3c3534451b9469", func := "loop.example/g02076/laws.FnExactAddPoly", spec := "fnExactAddPoly", apart := false }
def FnExactAddPolySaid : Prop := fnExactAddPolyRow.holds Try.pinned (OpenSpec.ofChange fnExactAddPolySpec)

/-- ITS FALSE NEIGHBOUR: 'it returns false'. Refute it at one input. -/
def fnExactAddPolyWrong : ChangeSpec := { name := "fnExactAddPoly", fn := fun _ => fun
  | [d1, d2] => { results := [.lit (.bool false)], args := [d1, d2] }
  | _ => none }
def FnExactAddPolyWrongFalsely : Prop := fnExactAddPolyRow.holds Try.pinned (OpenSpec.ofChange fnExactAddPolyWrong)

/-- 'laws.FnExactReversePoly': WHATEVER THE INPUT: true; the input reads as it did. -/
def fnExactReversePolySpec : ChangeSpec := { name := "fnExactReversePoly", fn := fun _ => fun
  | [d1, d2] => { results := [.lit (.bool true)], args := [d1, d2] }
  | _ => none }
def fnExactReversePolyRow : OpenClaim := { program := "ytjmhkklhcllgcaa", sum := "7ea17f256be4900d66d159dad4a12605ae8dc04ea16cc6d87c3c3534451b9469", func := "loop.example/g02076/laws.FnExactReversePoly", spec := "fnExactReversePoly", apart := false }
def FnExactReversePolySaid : Prop := fnExactReversePolyRow.holds Try.pinned (OpenSpec.ofChange fnExactReversePolySpec)

/-- ITS FALSE NEIGHBOUR: 'it returns false'. Refute it at one input. -/
def fnExactReversePolyWrong : ChangeSpec := { name := "fnExactReversePoly", fn := fun _ => fun
  | [d1, d2] => { results := [.lit (.bool false)], args := [d1, d2] }
  | _ => none }
def FnExactReversePolyWrongFalsely : Prop := fnExactReversePolyRow.holds Try.pinned (OpenSpec.ofChange fnExactReversePolyWrong)

/-- 'laws.FnExactMulPoly': WHATEVER THE INPUT: true; the input reads as it did. -/
def fnExactMulPolySpec : ChangeSpec := { name := "fnExactMulPoly", fn := fun _ => fun
  | [d1, d2] => { results := [.lit (.bool true)], args := [d1, d2] }
  | _ => none }
def fnExactMulPolyRow : OpenClaim := { program := "ytjmhkklhcllgcaa", sum := "7ea17f256be4900d66d159dad4a12605ae8dc04ea16cc6d87c3c3534451b9469", func := "loop.example/g02076/laws.FnExactMulPoly", spec := "fnExactMulPoly", apart := false }
def FnExactMulPolySaid : Prop := fnExactMulPolyRow.holds Try.pinned (OpenSpec.ofChange fnExactMulPolySpec)

/-- ITS FALSE NEIGHBOUR: 'it returns false'. Refute it at one input. -/
def fnExactMulPolyWrong : ChangeSpec := { name := "fnExactMulPoly", fn := fun _ => fun
  | [d1, d2] => { results := [.lit (.bool false)], args := [d1, d2] }
  | _ => none }
def FnExactMulPolyWrongFalsely : Prop := fnExactMulPolyRow.holds Try.pinned (OpenSpec.ofChange fnExactMulPolyWrong)

/-- 'laws.FnExactSubPoly': WHATEVER THE INPUT: true; the input reads as it did. -/
def fnExactSubPolySpec : ChangeSpec := { name := "fnExactSubPoly", fn := fun _ => fun
  | [d1, d2] => { results := [.lit (.bool true)], args := [d1, d2] }
  | _ => none }
def fnExactSubPolyRow : OpenClaim := { program := "ytjmhkklhcllgcaa", sum := "7ea17f256be4900d66d159dad4a12605ae8dc04ea16cc6d87c3c3534451b9469", func := "loop.example/g02076/laws.FnExactSubPoly", spec := "fnExactSubPoly", apart := false }
def FnExactSubPolySaid : Prop := fnExactSubPolyRow.holds Try.pinned (OpenSpec.ofChange fnExactSubPolySpec)

/-- ITS FALSE NEIGHBOUR: 'it returns false'. Refute it at one input. -/
def fnExactSubPolyWrong : ChangeSpec := { name := "fnExactSubPoly", fn := fun _ => fun
  | [d1, d2] => { results := [.lit (.bool false)], args := [d1, d2] }
  | _ => none }
def FnExactSubPolyWrongFalsely : Prop := fnExactSubPolyRow.holds Try.pinned (OpenSpec.ofChange fnExactSubPolyWrong)

/-- 'laws.FnExactIsSet': WHATEVER THE INPUT: true; the input reads as it did. -/
def fnExactIsSetSpec : ChangeSpec := { name := "fnExactIsSet", fn := fun _ => fun
  | [d1, d2] => { results := [.lit (.bool true)], args := [d1, d2] }
  | _ => none }
def fnExactIsSetRow : OpenClaim := { program := "ytjmhkklhcllgcaa", sum := "7ea17f256be4900d66d159dad4a12605ae8dc04ea16cc6d87c3c3534451b9469", func := "loop.example/g02076/laws.FnExactIsSet", spec := "fnExactIsSet", apart := false }
def FnExactIsSetSaid : Prop := fnExactIsSetRow.holds Try.pinned (OpenSpec.ofChange fnExactIsSetSpec)

/-- ITS FALSE NEIGHBOUR: 'it returns false'. Refute it at one input. -/
def fnExactIsSetWrong : ChangeSpec := { name := "fnExactIsSet", fn := fun _ => fun
  | [d1, d2] => { results := [.lit (.bool false)], args := [d1, d2] }
  | _ => none }
def FnExactIsSetWrongFalsely : Prop := fnExactIsSetRow.holds Try.pinned (OpenSpec.ofChange fnExactIsSetWrong)

/-- 'laws.FnExactCoxeterElement': WHATEVER THE INPUT: true; the input reads as it did. -/
def fnExactCoxeterElementSpec : ChangeSpec := { name := "fnExactCoxeterElement", fn := fun _ => fun
  | [d] => { results := [.lit (.bool true)], args := [d] }
  | _ => none }
def fnExactCoxeterElementRow : OpenClaim := { program := "ytjmhkklhcllgcaa", sum := "7ea17f256be4900d66d159dad4a12605ae8dc04ea16cc6d87c3c3534451b9469", func := "loop.example/g02076/laws.FnExactCoxeterElement", spec := "fnExactCoxeterElement", apart := false }
def FnExactCoxeterElementSaid : Prop := fnExactCoxeterElementRow.holds Try.pinned (OpenSpec.ofChange fnExactCoxeterElementSpec)

/-- ITS FALSE NEIGHBOUR: 'it returns false'. Refute it at one input. -/
def fnExactCoxeterElementWrong : ChangeSpec := { name := "fnExactCoxeterElement", fn := fun _ => fun
  | [d] => { results := [.lit (.bool false)], args := [d] }
  | _ => none }
def FnExactCoxeterElementWrongFalsely : Prop := fnExactCoxeterElementRow.holds Try.pinned (OpenSpec.ofChange fnExactCoxeterElementWrong)

/- THE SECOND FORM. 'bulk': how many values and letters a reading holds, each counted each time it is reached (what is shared counts as often as it is met; a slice's spare places count too). A statement '..UptoSaid' is the law's where the arguments, and the package variables that the reading takes, are together of bulk at most 1048576: NARROWER than '..Said'. Prove '..Said' where nothing that the law and all that it calls make is longer than what came in: it says more and counts as full. Else prove '..UptoSaid'. A law counts once. -/
mutual
def uptoBulk {H : Type} : DataW H → Nat
  | .lit (.string bytes) => bytes.length + 1
  | .lit _ => 1
  | .nil => 1
  | .ptr d => uptoBulk d + 1
  | .slice elems spare => uptoBulkAll elems + uptoBulkAll spare + 1
  | .agg parts => uptoBulkAll parts + 1
  | .iface _ d => uptoBulk d + 1
  | .map entries => uptoBulkEntries entries + 1
  | .held _ => 1
def uptoBulkAll {H : Type} : List (DataW H) → Nat
  | [] => 0
  | d :: r => uptoBulk d + uptoBulkAll r
def uptoBulkEntries {H : Type} : List (Lit × DataW H) → Nat
  | [] => 0
  | x :: r => uptoBulkEntry x + uptoBulkEntries r
def uptoBulkEntry {H : Type} : Lit × DataW H → Nat
  | (.string bytes, d) => bytes.length + uptoBulk d + 1
  | (_, d) => uptoBulk d + 1
 end
def uptoSmall : (H : Type) → List (DataW H) → Bool := fun _ ds => decide (uptoBulkAll ds ≤ 1048576)
def OpenSpec.upto (s : _root_.Go.ChangeSpec) : _root_.Go.OpenSpec := { _root_.Go.OpenSpec.ofChange s with cond := some uptoSmall }

/-- 'laws.FnExactIsPoly', WHERE WHAT IT READS IS OF BULK AT MOST 1048576: true; the input reads as it did. -/
def fnExactIsPolyUptoRow : OpenClaim := { program := "ytjmhkklhcllgcaa", sum := "7ea17f256be4900d66d159dad4a12605ae8dc04ea16cc6d87c3c3534451b9469", func := "loop.example/g02076/laws.FnExactIsPoly", spec := "fnExactIsPoly", apart := false, narrowed := true }
def FnExactIsPolyUptoSaid : Prop := fnExactIsPolyUptoRow.holds Try.pinned (OpenSpec.upto fnExactIsPolySpec)

/-- 'laws.FnExactEvalPoly', WHERE WHAT IT READS IS OF BULK AT MOST 1048576: true; the input reads as it did. -/
def fnExactEvalPolyUptoRow : OpenClaim := { program := "ytjmhkklhcllgcaa", sum := "7ea17f256be4900d66d159dad4a12605ae8dc04ea16cc6d87c3c3534451b9469", func := "loop.example/g02076/laws.FnExactEvalPoly", spec := "fnExactEvalPoly", apart := false, narrowed := true }
def FnExactEvalPolyUptoSaid : Prop := fnExactEvalPolyUptoRow.holds Try.pinned (OpenSpec.upto fnExactEvalPolySpec)

/-- 'laws.FnExactTrimPoly', WHERE WHAT IT READS IS OF BULK AT MOST 1048576: true; the input reads as it did. -/
def fnExactTrimPolyUptoRow : OpenClaim := { program := "ytjmhkklhcllgcaa", sum := "7ea17f256be4900d66d159dad4a12605ae8dc04ea16cc6d87c3c3534451b9469", func := "loop.example/g02076/laws.FnExactTrimPoly", spec := "fnExactTrimPoly", apart := false, narrowed := true }
def FnExactTrimPolyUptoSaid : Prop := fnExactTrimPolyUptoRow.holds Try.pinned (OpenSpec.upto fnExactTrimPolySpec)

/-- 'laws.FnExactEqualPolys', WHERE WHAT IT READS IS OF BULK AT MOST 1048576: true; the input reads as it did. -/
def fnExactEqualPolysUptoRow : OpenClaim := { program := "ytjmhkklhcllgcaa", sum := "7ea17f256be4900d66d159dad4a12605ae8dc04ea16cc6d87c3c3534451b9469", func := "loop.example/g02076/laws.FnExactEqualPolys", spec := "fnExactEqualPolys", apart := false, narrowed := true }
def FnExactEqualPolysUptoSaid : Prop := fnExactEqualPolysUptoRow.holds Try.pinned (OpenSpec.upto fnExactEqualPolysSpec)

/-- 'laws.FnExactShiftPoly', WHERE WHAT IT READS IS OF BULK AT MOST 1048576: true; the input reads as it did. -/
def fnExactShiftPolyUptoRow : OpenClaim := { program := "ytjmhkklhcllgcaa", sum := "7ea17f256be4900d66d159dad4a12605ae8dc04ea16cc6d87c3c3534451b9469", func := "loop.example/g02076/laws.FnExactShiftPoly", spec := "fnExactShiftPoly", apart := false, narrowed := true }
def FnExactShiftPolyUptoSaid : Prop := fnExactShiftPolyUptoRow.holds Try.pinned (OpenSpec.upto fnExactShiftPolySpec)

/-- 'laws.FnExactAddPoly', WHERE WHAT IT READS IS OF BULK AT MOST 1048576: true; the input reads as it did. -/
def fnExactAddPolyUptoRow : OpenClaim := { program := "ytjmhkklhcllgcaa", sum := "7ea17f256be4900d66d159dad4a12605ae8dc04ea16cc6d87c3c3534451b9469", func := "loop.example/g02076/laws.FnExactAddPoly", spec := "fnExactAddPoly", apart := false, narrowed := true }
def FnExactAddPolyUptoSaid : Prop := fnExactAddPolyUptoRow.holds Try.pinned (OpenSpec.upto fnExactAddPolySpec)

/-- 'laws.FnExactReversePoly', WHERE WHAT IT READS IS OF BULK AT MOST 1048576: true; the input reads as it did. -/
def fnExactReversePolyUptoRow : OpenClaim := { program := "ytjmhkklhcllgcaa", sum := "7ea17f256be4900d66d159dad4a12605ae8dc04ea16cc6d87c3c3534451b9469", func := "loop.example/g02076/laws.FnExactReversePoly", spec := "fnExactReversePoly", apart := false, narrowed := true }
def FnExactReversePolyUptoSaid : Prop := fnExactReversePolyUptoRow.holds Try.pinned (OpenSpec.upto fnExactReversePolySpec)

/-- 'laws.FnExactMulPoly', WHERE WHAT IT READS IS OF BULK AT MOST 1048576: true; the input reads as it did. -/
def fnExactMulPolyUptoRow : OpenClaim := { program := "ytjmhkklhcllgcaa", sum := "7ea17f256be4900d66d159dad4a12605ae8dc04ea16cc6d87c3c3534451b9469", func := "loop.example/g02076/laws.FnExactMulPoly", spec := "fnExactMulPoly", apart := false, narrowed := true }
def FnExactMulPolyUptoSaid : Prop := fnExactMulPolyUptoRow.holds Try.pinned (OpenSpec.upto fnExactMulPolySpec)

/-- 'laws.FnExactSubPoly', WHERE WHAT IT READS IS OF BULK AT MOST 1048576: true; the input reads as it did. -/
def fnExactSubPolyUptoRow : OpenClaim := { program := "ytjmhkklhcllgcaa", sum := "7ea17f256be4900d66d159dad4a12605ae8dc04ea16cc6d87c3c3534451b9469", func := "loop.example/g02076/laws.FnExactSubPoly", spec := "fnExactSubPoly", apart := false, narrowed := true }
def FnExactSubPolyUptoSaid : Prop := fnExactSubPolyUptoRow.holds Try.pinned (OpenSpec.upto fnExactSubPolySpec)

/-- 'laws.FnExactIsSet', WHERE WHAT IT READS IS OF BULK AT MOST 1048576: true; the input reads as it did. -/
def fnExactIsSetUptoRow : OpenClaim := { program := "ytjmhkklhcllgcaa", sum := "7ea17f256be4900d66d159dad4a12605ae8dc04ea16cc6d87c3c3534451b9469", func := "loop.example/g02076/laws.FnExactIsSet", spec := "fnExactIsSet", apart := false, narrowed := true }
def FnExactIsSetUptoSaid : Prop := fnExactIsSetUptoRow.holds Try.pinned (OpenSpec.upto fnExactIsSetSpec)

/-- 'laws.FnExactCoxeterElement', WHERE WHAT IT READS IS OF BULK AT MOST 1048576: true; the input reads as it did. -/
def fnExactCoxeterElementUptoRow : OpenClaim := { program := "ytjmhkklhcllgcaa", sum := "7ea17f256be4900d66d159dad4a12605ae8dc04ea16cc6d87c3c3534451b9469", func := "loop.example/g02076/laws.FnExactCoxeterElement", spec := "fnExactCoxeterElement", apart := false, narrowed := true }
def FnExactCoxeterElementUptoSaid : Prop := fnExactCoxeterElementUptoRow.holds Try.pinned (OpenSpec.upto fnExactCoxeterElementSpec)

end Rows
end Go.Proofs.Ytjmhkklhcllgcaa
