/-
  No cell of these rows narrows 'for every input' (looked for: loops, veiled, ifaces, maps, wideKeys, modest, calm, conditions, laid).
  DERIVED. THE GIVEN ROWS OF THIS SEAT. 4 by the template 'for every input the law returns true; each argument reads behind the call as it read before'; 0 by the template 'total and deterministic' (their statements: YtcinngodeoidnaaGreatTotals.lean).
  GIVEN WITH THE SEED: the statements are not yours to turn. If you find one false, say at which input.
  Laid BY PROGRAM, IN A SANDBOX (cutbox-rows.mjs): the forced cells as the released guide's own fill.sh prints them over the translation 491c52286c3ddeaf… (all of the seat's roots in one cut). By AI agents, Wed Nov 11 2026. No macro, syntax, notation, axiom, sorry.
-/
import Derived.Test.YtcinngodeoidnaaGreatChecked
import GoSem.Claim
import GoSem.ClaimJoined
import GoSem.ClaimMapViews
import Derived.JoinedTies
import Derived.KernelRfl
namespace Go.Proofs.YtcinngodeoidnaaGreat
/- THE CELL 'sum', in the pinned program and in every row, IS THE sha256 OF THE DUMP (.gsa) THAT YtcinngodeoidnaaGreatProg.lean LOADS. Nothing in Lean hashes anything: it is a label: what it is worth is what the hold of that sum in a sandbox is worth. -/
noncomputable def Tryz.pinned : Pinned := { name := "ytcinngodeoidnaagreat", sum := "491c52286c3ddeafbd09983b2ea0415c9e77b558a3188ee64d265d873a566691", checked := Tryz.checked }
namespace Rows
def none {H : Type} : Left H := { results := [], args := [] }

/-- 'laws.FnReflections': WHATEVER THE INPUT: true; the input reads as it did. -/
def fnReflectionsSpec : ChangeSpec := { name := "fnReflections", fn := fun _ => fun
  | [d] => { results := [.lit (.bool true)], args := [d] }
  | _ => none }
def fnReflectionsRow : OpenClaim := { program := "ytcinngodeoidnaagreat", sum := "491c52286c3ddeafbd09983b2ea0415c9e77b558a3188ee64d265d873a566691", func := "loop.example/g02076/laws.FnReflections", spec := "fnReflections", unfollowed := true, recurses := true, plainKeys := false, apart := false }
def FnReflectionsSaid : Prop := fnReflectionsRow.holds Tryz.pinned (OpenSpec.ofChange fnReflectionsSpec)

/-- ITS FALSE NEIGHBOUR: 'it returns false'. Refute it at one input. -/
def fnReflectionsWrong : ChangeSpec := { name := "fnReflections", fn := fun _ => fun
  | [d] => { results := [.lit (.bool false)], args := [d] }
  | _ => none }
def FnReflectionsWrongFalsely : Prop := fnReflectionsRow.holds Tryz.pinned (OpenSpec.ofChange fnReflectionsWrong)

/-- 'laws.FnRoots': WHATEVER THE INPUT: true; the input reads as it did. -/
def fnRootsSpec : ChangeSpec := { name := "fnRoots", fn := fun _ => fun
  | [d] => { results := [.lit (.bool true)], args := [d] }
  | _ => none }
def fnRootsRow : OpenClaim := { program := "ytcinngodeoidnaagreat", sum := "491c52286c3ddeafbd09983b2ea0415c9e77b558a3188ee64d265d873a566691", func := "loop.example/g02076/laws.FnRoots", spec := "fnRoots", unfollowed := true, recurses := true, plainKeys := false, apart := false }
def FnRootsSaid : Prop := fnRootsRow.holds Tryz.pinned (OpenSpec.ofChange fnRootsSpec)

/-- ITS FALSE NEIGHBOUR: 'it returns false'. Refute it at one input. -/
def fnRootsWrong : ChangeSpec := { name := "fnRoots", fn := fun _ => fun
  | [d] => { results := [.lit (.bool false)], args := [d] }
  | _ => none }
def FnRootsWrongFalsely : Prop := fnRootsRow.holds Tryz.pinned (OpenSpec.ofChange fnRootsWrong)

/-- 'laws.FnExactReflectionsOf': WHATEVER THE INPUT: true; the input reads as it did. -/
def fnExactReflectionsOfSpec : ChangeSpec := { name := "fnExactReflectionsOf", fn := fun _ => fun
  | [d] => { results := [.lit (.bool true)], args := [d] }
  | _ => none }
def fnExactReflectionsOfRow : OpenClaim := { program := "ytcinngodeoidnaagreat", sum := "491c52286c3ddeafbd09983b2ea0415c9e77b558a3188ee64d265d873a566691", func := "loop.example/g02076/laws.FnExactReflectionsOf", spec := "fnExactReflectionsOf", unfollowed := true, recurses := true, plainKeys := false, apart := false }
def FnExactReflectionsOfSaid : Prop := fnExactReflectionsOfRow.holds Tryz.pinned (OpenSpec.ofChange fnExactReflectionsOfSpec)

/-- ITS FALSE NEIGHBOUR: 'it returns false'. Refute it at one input. -/
def fnExactReflectionsOfWrong : ChangeSpec := { name := "fnExactReflectionsOf", fn := fun _ => fun
  | [d] => { results := [.lit (.bool false)], args := [d] }
  | _ => none }
def FnExactReflectionsOfWrongFalsely : Prop := fnExactReflectionsOfRow.holds Tryz.pinned (OpenSpec.ofChange fnExactReflectionsOfWrong)

/-- 'laws.FnExactFactorReflections': WHATEVER THE INPUT: true; the input reads as it did. -/
def fnExactFactorReflectionsSpec : ChangeSpec := { name := "fnExactFactorReflections", fn := fun _ => fun
  | [d1, d2] => { results := [.lit (.bool true)], args := [d1, d2] }
  | _ => none }
def fnExactFactorReflectionsRow : OpenClaim := { program := "ytcinngodeoidnaagreat", sum := "491c52286c3ddeafbd09983b2ea0415c9e77b558a3188ee64d265d873a566691", func := "loop.example/g02076/laws.FnExactFactorReflections", spec := "fnExactFactorReflections", unfollowed := true, recurses := true, plainKeys := false, apart := false }
def FnExactFactorReflectionsSaid : Prop := fnExactFactorReflectionsRow.holds Tryz.pinned (OpenSpec.ofChange fnExactFactorReflectionsSpec)

/-- ITS FALSE NEIGHBOUR: 'it returns false'. Refute it at one input. -/
def fnExactFactorReflectionsWrong : ChangeSpec := { name := "fnExactFactorReflections", fn := fun _ => fun
  | [d1, d2] => { results := [.lit (.bool false)], args := [d1, d2] }
  | _ => none }
def FnExactFactorReflectionsWrongFalsely : Prop := fnExactFactorReflectionsRow.holds Tryz.pinned (OpenSpec.ofChange fnExactFactorReflectionsWrong)

/- THE SECOND FORM. 'bulk': how many values and letters a reading holds, each counted each time it is reached (what is shared counts as often as it is met; a slice's spare places count too). A statement '..UptoSaid' is the law's where the arguments, and the package variables that the reading takes, are together of bulk at most 1048576: NARROWER than '..Said'. Prove '..Said' where nothing that the law and all that it calls make is longer than what came in: it says more and counts as full. Else prove '..UptoSaid'. A law counts once. -/
mutual
def uptoBulk {H : Type} : DataW H → Nat
  | .lit (.string bytes) => bytes.length + 1
  | .lit _ => 1
  | .nil => 1
  | .ptr d => uptoBulk d + 1
  | .slice elems spare => uptoBulkAll elems + uptoBulkAll spare + 1
  | .agg parts => uptoBulkAll parts + 1
  | .iface _ d => uptoBulk d + 1
  | .map entries => uptoBulkEntries entries + 1
  | .held _ => 1
def uptoBulkAll {H : Type} : List (DataW H) → Nat
  | [] => 0
  | d :: r => uptoBulk d + uptoBulkAll r
def uptoBulkEntries {H : Type} : List (Lit × DataW H) → Nat
  | [] => 0
  | x :: r => uptoBulkEntry x + uptoBulkEntries r
def uptoBulkEntry {H : Type} : Lit × DataW H → Nat
  | (.string bytes, d) => bytes.length + uptoBulk d + 1
  | (_, d) => uptoBulk d + 1
 end
def uptoSmall : (H : Type) → List (DataW H) → Bool := fun _ ds => decide (uptoBulkAll ds ≤ 1048576)
def OpenSpec.upto (s : _root_.Go.ChangeSpec) : _root_.Go.OpenSpec := { _root_.Go.OpenSpec.ofChange s with cond := some uptoSmall }

/-- 'laws.FnReflections', WHERE WHAT IT READS IS OF BULK AT MOST 1048576: true; the input reads as it did. -/
def fnReflectionsUptoRow : OpenClaim := { program := "ytcinngodeoidnaagreat", sum := "491c52286c3ddeafbd09983b2ea0415c9e77b558a3188ee64d265d873a566691", func := "loop.example/g02076/laws.FnReflections", spec := "fnReflections", unfollowed := true, recurses := true, plainKeys := false, apart := false, narrowed := true }
def FnReflectionsUptoSaid : Prop := fnReflectionsUptoRow.holds Tryz.pinned (OpenSpec.upto fnReflectionsSpec)

/-- 'laws.FnRoots', WHERE WHAT IT READS IS OF BULK AT MOST 1048576: true; the input reads as it did. -/
def fnRootsUptoRow : OpenClaim := { program := "ytcinngodeoidnaagreat", sum := "491c52286c3ddeafbd09983b2ea0415c9e77b558a3188ee64d265d873a566691", func := "loop.example/g02076/laws.FnRoots", spec := "fnRoots", unfollowed := true, recurses := true, plainKeys := false, apart := false, narrowed := true }
def FnRootsUptoSaid : Prop := fnRootsUptoRow.holds Tryz.pinned (OpenSpec.upto fnRootsSpec)

/-- 'laws.FnExactReflectionsOf', WHERE WHAT IT READS IS OF BULK AT MOST 1048576: true; the input reads as it did. -/
def fnExactReflectionsOfUptoRow : OpenClaim := { program := "ytcinngodeoidnaagreat", sum := "491c52286c3ddeafbd09983b2ea0415c9e77b558a3188ee64d265d873a566691", func := "loop.example/g02076/laws.FnExactReflectionsOf", spec := "fnExactReflectionsOf", unfollowed := true, recurses := true, plainKeys := false, apart := false, narrowed := true }
def FnExactReflectionsOfUptoSaid : Prop := fnExactReflectionsOfUptoRow.holds Tryz.pinned (OpenSpec.upto fnExactReflectionsOfSpec)

/-- 'laws.FnExactFactorReflections', WHERE WHAT IT READS IS OF BULK AT MOST 1048576: true; the input reads as it did. -/
def fnExactFactorReflectionsUptoRow : OpenClaim := { program := "ytcinngodeoidnaagreat", sum := "491c52286c3ddeafbd09983b2ea0415c9e77b558a3188ee64d265d873a566691", func := "loop.example/g02076/laws.FnExactFactorReflections", spec := "fnExactFactorReflections", unfollowed := true, recurses := true, plainKeys := false, apart := false, narrowed := true }
def FnExactFactorReflectionsUptoSaid : Prop := fnExactFactorReflectionsUptoRow.holds Tryz.pinned (OpenSpec.upto fnExactFactorReflectionsSpec)

end Rows
end Go.Proofs.YtcinngodeoidnaaGreat
