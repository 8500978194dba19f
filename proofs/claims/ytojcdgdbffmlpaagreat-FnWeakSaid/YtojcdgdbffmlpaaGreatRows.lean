/-
  No cell of these rows narrows 'for every input' (looked for: loops, veiled, ifaces, maps, wideKeys, modest, calm, conditions, laid).
  DERIVED. THE GIVEN ROWS OF THIS SEAT. 4 by the template 'for every input the law returns true; each argument reads behind the call as it read before'; 0 by the template 'total and deterministic' (their statements: YtojcdgdbffmlpaaGreatTotals.lean).
  GIVEN WITH THE SEED: the statements are not yours to turn. If you find one false, say at which input.
  Laid BY PROGRAM, IN A SANDBOX (cutbox-rows.mjs): the forced cells as the released guide's own fill.sh prints them over the translation cd97540a6064e673… (all of the seat's roots in one cut). By AI agents, Wed Nov 11 2026. No macro, syntax, notation, axiom, sorry.
-/
import Derived.Test.YtojcdgdbffmlpaaGreatChecked
import GoSem.Claim
import GoSem.ClaimJoined
import GoSem.ClaimMapViews
import Derived.JoinedTies
import Derived.KernelRfl
namespace Go.Proofs.YtojcdgdbffmlpaaGreat
/- THE CELL 'sum', in the pinned program and in every row, IS THE sha256 OF THE DUMP (.gsa) THAT YtojcdgdbffmlpaaGreatProg.lean LOADS. Nothing in Lean hashes anything: it is a label: what it is worth is what the hold of that sum in a sandbox is worth. -/
noncomputable def Tryz.pinned : Pinned := { name := "ytojcdgdbffmlpaagreat", sum := "cd97540a6064e6734eb49af31d7b92ed4edacb2ebbd9031109b7de1960a13bf2", checked := Tryz.checked }
namespace Rows
def none {H : Type} : Left H := { results := [], args := [] }

/-- 'laws.FnBruhat': WHATEVER THE INPUT: true; the input reads as it did. -/
def fnBruhatSpec : ChangeSpec := { name := "fnBruhat", fn := fun _ => fun
  | [d] => { results := [.lit (.bool true)], args := [d] }
  | _ => none }
def fnBruhatRow : OpenClaim := { program := "ytojcdgdbffmlpaagreat", sum := "cd97540a6064e6734eb49af31d7b92ed4edacb2ebbd9031109b7de1960a13bf2", func := "loop.example/g02076/laws.FnBruhat", spec := "fnBruhat", unfollowed := true, recurses := true, plainKeys := false, apart := false }
def FnBruhatSaid : Prop := fnBruhatRow.holds Tryz.pinned (OpenSpec.ofChange fnBruhatSpec)

/-- ITS FALSE NEIGHBOUR: 'it returns false'. Refute it at one input. -/
def fnBruhatWrong : ChangeSpec := { name := "fnBruhat", fn := fun _ => fun
  | [d] => { results := [.lit (.bool false)], args := [d] }
  | _ => none }
def FnBruhatWrongFalsely : Prop := fnBruhatRow.holds Tryz.pinned (OpenSpec.ofChange fnBruhatWrong)

/-- 'laws.FnWeak': WHATEVER THE INPUT: true; the input reads as it did. -/
def fnWeakSpec : ChangeSpec := { name := "fnWeak", fn := fun _ => fun
  | [d] => { results := [.lit (.bool true)], args := [d] }
  | _ => none }
def fnWeakRow : OpenClaim := { program := "ytojcdgdbffmlpaagreat", sum := "cd97540a6064e6734eb49af31d7b92ed4edacb2ebbd9031109b7de1960a13bf2", func := "loop.example/g02076/laws.FnWeak", spec := "fnWeak", unfollowed := true, recurses := true, plainKeys := false, apart := false }
def FnWeakSaid : Prop := fnWeakRow.holds Tryz.pinned (OpenSpec.ofChange fnWeakSpec)

/-- ITS FALSE NEIGHBOUR: 'it returns false'. Refute it at one input. -/
def fnWeakWrong : ChangeSpec := { name := "fnWeak", fn := fun _ => fun
  | [d] => { results := [.lit (.bool false)], args := [d] }
  | _ => none }
def FnWeakWrongFalsely : Prop := fnWeakRow.holds Tryz.pinned (OpenSpec.ofChange fnWeakWrong)

/-- 'laws.FnReflections': WHATEVER THE INPUT: true; the input reads as it did. -/
def fnReflectionsSpec : ChangeSpec := { name := "fnReflections", fn := fun _ => fun
  | [d] => { results := [.lit (.bool true)], args := [d] }
  | _ => none }
def fnReflectionsRow : OpenClaim := { program := "ytojcdgdbffmlpaagreat", sum := "cd97540a6064e6734eb49af31d7b92ed4edacb2ebbd9031109b7de1960a13bf2", func := "loop.example/g02076/laws.FnReflections", spec := "fnReflections", unfollowed := true, recurses := true, plainKeys := false, apart := false }
def FnReflectionsSaid : Prop := fnReflectionsRow.holds Tryz.pinned (OpenSpec.ofChange fnReflectionsSpec)

/-- ITS FALSE NEIGHBOUR: 'it returns false'. Refute it at one input. -/
def fnReflectionsWrong : ChangeSpec := { name := "fnReflections", fn := fun _ => fun
  | [d] => { results := [.lit (.bool false)], args := [d] }
  | _ => none }
def FnReflectionsWrongFalsely : Prop := fnReflectionsRow.holds Tryz.pinned (OpenSpec.ofChange fnReflectionsWrong)

/-- 'laws.FnRoots': WHATEVER THE INPUT: true; the input reads as it did. -/
def fnRootsSpec : ChangeSpec := { name := "fnRoots", fn := fun _ => fun
  | [d] => { results := [.lit (.bool true)], args := [d] }
  | _ => none }
def fnRootsRow : OpenClaim := { program := "ytojcdgdbffmlpaagreat", sum := "cd97540a6064e6734eb49af31d7b92ed4edacb2ebbd9031109b7de1960a13bf2", func := "loop.example/g02076/laws.FnRoots", spec := "fnRoots", unfollowed := true, recurses := true, plainKeys := false, apart := false }
def FnRootsSaid : Prop := fnRootsRow.holds Tryz.pinned (OpenSpec.ofChange fnRootsSpec)

/-- ITS FALSE NEIGHBOUR: 'it returns false'. Refute it at one input. -/
def fnRootsWrong : ChangeSpec := { name := "fnRoots", fn := fun _ => fun
  | [d] => { results := [.lit (.bool false)], args := [d] }
  | _ => none }
def FnRootsWrongFalsely : Prop := fnRootsRow.holds Tryz.pinned (OpenSpec.ofChange fnRootsWrong)

/- THE SECOND FORM. 'bulk': how many values and letters a reading holds, each counted each time it is reached (what is shared counts as often as it is met; a slice's spare places count too). A statement '..UptoSaid' is the law's where the arguments, and the package variables that the reading takes, are together of bulk at most 1048576: NARROWER than '..Said'. Prove '..Said' where nothing that the law and all that it calls make is longer than what came in: it says more and counts as full. Else prove '..UptoSaid'. A law counts once. -/
mutual
def uptoBulk {H : Type} : DataW H → Nat
  | .lit (.string bytes) => bytes.length + 1
  | .lit _ => 1
  | .nil => 1
  | .ptr d => uptoBulk d + 1
  | .slice elems spare => uptoBulkAll elems + uptoBulkAll spare + 1
  | .agg parts => uptoBulkAll parts + 1
  | .iface _ d => uptoBulk d + 1
  | .map entries => uptoBulkEntries entries + 1
  | .held _ => 1
def uptoBulkAll {H : Type} : List (DataW H) → Nat
  | [] => 0
  | d :: r => uptoBulk d + uptoBulkAll r
def uptoBulkEntries {H : Type} : List (Lit × DataW H) → Nat
  | [] => 0
  | x :: r => uptoBulkEntry x + uptoBulkEntries r
def uptoBulkEntry {H : Type} : Lit × DataW H → Nat
  | (.string bytes, d) => bytes.length + uptoBulk d + 1
  | (_, d) => uptoBulk d + 1
 end
def uptoSmall : (H : Type) → List (DataW H) → Bool := fun _ ds => decide (uptoBulkAll ds ≤ 1048576)
def OpenSpec.upto (s : _root_.Go.ChangeSpec) : _root_.Go.OpenSpec := { _root_.Go.OpenSpec.ofChange s with cond := some uptoSmall }

/-- 'laws.FnBruhat', WHERE WHAT IT READS IS OF BULK AT MOST 1048576: true; the input reads as it did. -/
def fnBruhatUptoRow : OpenClaim := { program := "ytojcdgdbffmlpaagreat", sum := "cd97540a6064e6734eb49af31d7b92ed4edacb2ebbd9031109b7de1960a13bf2", func := "loop.example/g02076/laws.FnBruhat", spec := "fnBruhat", unfollowed := true, recurses := true, plainKeys := false, apart := false, narrowed := true }
def FnBruhatUptoSaid : Prop := fnBruhatUptoRow.holds Tryz.pinned (OpenSpec.upto fnBruhatSpec)

/-- 'laws.FnWeak', WHERE WHAT IT READS IS OF BULK AT MOST 1048576: true; the input reads as it did. -/
def fnWeakUptoRow : OpenClaim := { program := "ytojcdgdbffmlpaagreat", sum := "cd97540a6064e6734eb49af31d7b92ed4edacb2ebbd9031109b7de1960a13bf2", func := "loop.example/g02076/laws.FnWeak", spec := "fnWeak", unfollowed := true, recurses := true, plainKeys := false, apart := false, narrowed := true }
def FnWeakUptoSaid : Prop := fnWeakUptoRow.holds Tryz.pinned (OpenSpec.upto fnWeakSpec)

/-- 'laws.FnReflections', WHERE WHAT IT READS IS OF BULK AT MOST 1048576: true; the input reads as it did. -/
def fnReflectionsUptoRow : OpenClaim := { program := "ytojcdgdbffmlpaagreat", sum := "cd97540a6064e6734eb49af31d7b92ed4edacb2ebbd9031109b7de1960a13bf2", func := "loop.example/g02076/laws.FnReflections", spec := "fnReflections", unfollowed := true, recurses := true, plainKeys := false, apart := false, narrowed := true }
def FnReflectionsUptoSaid : Prop := fnReflectionsUptoRow.holds Tryz.pinned (OpenSpec.upto fnReflectionsSpec)

/-- 'laws.FnRoots', WHERE WHAT IT READS IS OF BULK AT MOST 1048576: true; the input reads as it did. -/
def fnRootsUptoRow : OpenClaim := { program := "ytojcdgdbffmlpaagreat", sum := "cd97540a6064e6734eb49af31d7b92ed4edacb2ebbd9031109b7de1960a13bf2", func := "loop.example/g02076/laws.FnRoots", spec := "fnRoots", unfollowed := true, recurses := true, plainKeys := false, apart := false, narrowed := true }
def FnRootsUptoSaid : Prop := fnRootsUptoRow.holds Tryz.pinned (OpenSpec.upto fnRootsSpec)

end Rows
end Go.Proofs.YtojcdgdbffmlpaaGreat
