/-
  No cell of these rows narrows 'for every input' (looked for: loops, veiled, ifaces, maps, wideKeys, modest, calm, conditions, laid).
  DERIVED. THE GIVEN ROWS OF THIS SEAT. 10 by the template 'for every input the law returns true; each argument reads behind the call as it read before'; 0 by the template 'total and deterministic' (their statements: YtnhiamdnghgboaaTotals.lean).
  GIVEN WITH THE SEED: the statements are not yours to turn. If you find one false, say at which input.
  Laid BY PROGRAM, IN A SANDBOX (cutbox-rows.mjs): the forced cells as the released guide's own fill.sh prints them over the translation 7cc1b964e175e16e… (all of the seat's roots in one cut). By AI agents, Wed Nov 11 2026. No macro, syntax, notation, axiom, sorry.
-/
import Derived.Test.YtnhiamdnghgboaaChecked
import GoSem.Claim
import GoSem.ClaimJoined
import GoSem.ClaimMapViews
import Derived.JoinedTies
import Derived.KernelRfl
namespace Go.Proofs.Ytnhiamdnghgboaa
/- THE CELL 'sum', in the pinned program and in every row, IS THE sha256 OF THE DUMP (.gsa) THAT YtnhiamdnghgboaaProg.lean LOADS. Nothing in Lean hashes anything: it is a label: what it is worth is what the hold of that sum in a sandbox is worth. -/
noncomputable def Try.pinned : Pinned := { name := "ytnhiamdnghgboaa", sum := "7cc1b964e175e16e9f2459a7a53c9b30255a691b1ad688a3252634150cbed053", checked := Try.checked }
namespace Rows
def none {H : Type} : Left H := { results := [], args := [] }

/-- 'laws.FnExactCountChains': WHATEVER THE INPUT: true; the input reads as it did. -/
def fnExactCountChainsSpec : ChangeSpec := { name := "fnExactCountChains", fn := fun _ => fun
  | [d1, d2] => { results := [.lit (.bool true)], args := [d1, d2] }
  | _ => none }
def fnExactCountChainsRow : OpenClaim := { program := "ytnhiamdnghgboaa", sum := "7cc1b964e175e16e9f2459a7a53c9b30255a691b1ad688a3252634150cbed053", func := "loop.example/g02076/laws.FnExactCountChains", spec := "fnExactCountChains", recurses := true, apart := false }
def FnExactCountChainsSaid : Prop := fnExactCountChainsRow.holds Try.pinned (OpenSpec.ofChange fnExactCountChainsSpec)

/-- ITS FALSE NEIGHBOUR: 'it returns false'. Refute it at one input. -/
def fnExactCountChainsWrong : ChangeSpec := { name := "fnExactCountChains", fn := fun _ => fun
  | [d1, d2] => { results := [.lit (.bool false)], args := [d1, d2] }
  | _ => none }
def FnExactCountChainsWrongFalsely : Prop := fnExactCountChainsRow.holds Try.pinned (OpenSpec.ofChange fnExactCountChainsWrong)

/-- 'laws.FnExactLongestOf': WHATEVER THE INPUT: true; the input reads as it did. -/
def fnExactLongestOfSpec : ChangeSpec := { name := "fnExactLongestOf", fn := fun _ => fun
  | [d1, d2] => { results := [.lit (.bool true)], args := [d1, d2] }
  | _ => none }
def fnExactLongestOfRow : OpenClaim := { program := "ytnhiamdnghgboaa", sum := "7cc1b964e175e16e9f2459a7a53c9b30255a691b1ad688a3252634150cbed053", func := "loop.example/g02076/laws.FnExactLongestOf", spec := "fnExactLongestOf", recurses := true, apart := false }
def FnExactLongestOfSaid : Prop := fnExactLongestOfRow.holds Try.pinned (OpenSpec.ofChange fnExactLongestOfSpec)

/-- ITS FALSE NEIGHBOUR: 'it returns false'. Refute it at one input. -/
def fnExactLongestOfWrong : ChangeSpec := { name := "fnExactLongestOf", fn := fun _ => fun
  | [d1, d2] => { results := [.lit (.bool false)], args := [d1, d2] }
  | _ => none }
def FnExactLongestOfWrongFalsely : Prop := fnExactLongestOfRow.holds Try.pinned (OpenSpec.ofChange fnExactLongestOfWrong)

/-- 'laws.FnExactFixedRank': WHATEVER THE INPUT: true; the input reads as it did. -/
def fnExactFixedRankSpec : ChangeSpec := { name := "fnExactFixedRank", fn := fun _ => fun
  | [d1, d2] => { results := [.lit (.bool true)], args := [d1, d2] }
  | _ => none }
def fnExactFixedRankRow : OpenClaim := { program := "ytnhiamdnghgboaa", sum := "7cc1b964e175e16e9f2459a7a53c9b30255a691b1ad688a3252634150cbed053", func := "loop.example/g02076/laws.FnExactFixedRank", spec := "fnExactFixedRank", recurses := true, apart := false }
def FnExactFixedRankSaid : Prop := fnExactFixedRankRow.holds Try.pinned (OpenSpec.ofChange fnExactFixedRankSpec)

/-- ITS FALSE NEIGHBOUR: 'it returns false'. Refute it at one input. -/
def fnExactFixedRankWrong : ChangeSpec := { name := "fnExactFixedRank", fn := fun _ => fun
  | [d1, d2] => { results := [.lit (.bool false)], args := [d1, d2] }
  | _ => none }
def FnExactFixedRankWrongFalsely : Prop := fnExactFixedRankRow.holds Try.pinned (OpenSpec.ofChange fnExactFixedRankWrong)

/-- 'laws.FnExactAbsoluteLength': WHATEVER THE INPUT: true; the input reads as it did. -/
def fnExactAbsoluteLengthSpec : ChangeSpec := { name := "fnExactAbsoluteLength", fn := fun _ => fun
  | [d1, d2] => { results := [.lit (.bool true)], args := [d1, d2] }
  | _ => none }
def fnExactAbsoluteLengthRow : OpenClaim := { program := "ytnhiamdnghgboaa", sum := "7cc1b964e175e16e9f2459a7a53c9b30255a691b1ad688a3252634150cbed053", func := "loop.example/g02076/laws.FnExactAbsoluteLength", spec := "fnExactAbsoluteLength", recurses := true, apart := false }
def FnExactAbsoluteLengthSaid : Prop := fnExactAbsoluteLengthRow.holds Try.pinned (OpenSpec.ofChange fnExactAbsoluteLengthSpec)

/-- ITS FALSE NEIGHBOUR: 'it returns false'. Refute it at one input. -/
def fnExactAbsoluteLengthWrong : ChangeSpec := { name := "fnExactAbsoluteLength", fn := fun _ => fun
  | [d1, d2] => { results := [.lit (.bool false)], args := [d1, d2] }
  | _ => none }
def FnExactAbsoluteLengthWrongFalsely : Prop := fnExactAbsoluteLengthRow.holds Try.pinned (OpenSpec.ofChange fnExactAbsoluteLengthWrong)

/-- 'laws.FnExactCoxeterNumber': WHATEVER THE INPUT: true; the input reads as it did. -/
def fnExactCoxeterNumberSpec : ChangeSpec := { name := "fnExactCoxeterNumber", fn := fun _ => fun
  | [d] => { results := [.lit (.bool true)], args := [d] }
  | _ => none }
def fnExactCoxeterNumberRow : OpenClaim := { program := "ytnhiamdnghgboaa", sum := "7cc1b964e175e16e9f2459a7a53c9b30255a691b1ad688a3252634150cbed053", func := "loop.example/g02076/laws.FnExactCoxeterNumber", spec := "fnExactCoxeterNumber", recurses := true, apart := false }
def FnExactCoxeterNumberSaid : Prop := fnExactCoxeterNumberRow.holds Try.pinned (OpenSpec.ofChange fnExactCoxeterNumberSpec)

/-- ITS FALSE NEIGHBOUR: 'it returns false'. Refute it at one input. -/
def fnExactCoxeterNumberWrong : ChangeSpec := { name := "fnExactCoxeterNumber", fn := fun _ => fun
  | [d] => { results := [.lit (.bool false)], args := [d] }
  | _ => none }
def FnExactCoxeterNumberWrongFalsely : Prop := fnExactCoxeterNumberRow.holds Try.pinned (OpenSpec.ofChange fnExactCoxeterNumberWrong)

/-- 'laws.FnExactReflectionOf': WHATEVER THE INPUT: true; the input reads as it did. -/
def fnExactReflectionOfSpec : ChangeSpec := { name := "fnExactReflectionOf", fn := fun _ => fun
  | [d1, d2] => { results := [.lit (.bool true)], args := [d1, d2] }
  | _ => none }
def fnExactReflectionOfRow : OpenClaim := { program := "ytnhiamdnghgboaa", sum := "7cc1b964e175e16e9f2459a7a53c9b30255a691b1ad688a3252634150cbed053", func := "loop.example/g02076/laws.FnExactReflectionOf", spec := "fnExactReflectionOf", apart := false }
def FnExactReflectionOfSaid : Prop := fnExactReflectionOfRow.holds Try.pinned (OpenSpec.ofChange fnExactReflectionOfSpec)

/-- ITS FALSE NEIGHBOUR: 'it returns false'. Refute it at one input. -/
def fnExactReflectionOfWrong : ChangeSpec := { name := "fnExactReflectionOf", fn := fun _ => fun
  | [d1, d2] => { results := [.lit (.bool false)], args := [d1, d2] }
  | _ => none }
def FnExactReflectionOfWrongFalsely : Prop := fnExactReflectionOfRow.holds Try.pinned (OpenSpec.ofChange fnExactReflectionOfWrong)

/-- 'laws.FnExactRootOfReflection': WHATEVER THE INPUT: true; the input reads as it did. -/
def fnExactRootOfReflectionSpec : ChangeSpec := { name := "fnExactRootOfReflection", fn := fun _ => fun
  | [d1, d2] => { results := [.lit (.bool true)], args := [d1, d2] }
  | _ => none }
def fnExactRootOfReflectionRow : OpenClaim := { program := "ytnhiamdnghgboaa", sum := "7cc1b964e175e16e9f2459a7a53c9b30255a691b1ad688a3252634150cbed053", func := "loop.example/g02076/laws.FnExactRootOfReflection", spec := "fnExactRootOfReflection", apart := false }
def FnExactRootOfReflectionSaid : Prop := fnExactRootOfReflectionRow.holds Try.pinned (OpenSpec.ofChange fnExactRootOfReflectionSpec)

/-- ITS FALSE NEIGHBOUR: 'it returns false'. Refute it at one input. -/
def fnExactRootOfReflectionWrong : ChangeSpec := { name := "fnExactRootOfReflection", fn := fun _ => fun
  | [d1, d2] => { results := [.lit (.bool false)], args := [d1, d2] }
  | _ => none }
def FnExactRootOfReflectionWrongFalsely : Prop := fnExactRootOfReflectionRow.holds Try.pinned (OpenSpec.ofChange fnExactRootOfReflectionWrong)

/-- 'laws.FnExactIsAbsoluteBelow': WHATEVER THE INPUT: true; the input reads as it did. -/
def fnExactIsAbsoluteBelowSpec : ChangeSpec := { name := "fnExactIsAbsoluteBelow", fn := fun _ => fun
  | [d1, d2, d3] => { results := [.lit (.bool true)], args := [d1, d2, d3] }
  | _ => none }
def fnExactIsAbsoluteBelowRow : OpenClaim := { program := "ytnhiamdnghgboaa", sum := "7cc1b964e175e16e9f2459a7a53c9b30255a691b1ad688a3252634150cbed053", func := "loop.example/g02076/laws.FnExactIsAbsoluteBelow", spec := "fnExactIsAbsoluteBelow", recurses := true, apart := false }
def FnExactIsAbsoluteBelowSaid : Prop := fnExactIsAbsoluteBelowRow.holds Try.pinned (OpenSpec.ofChange fnExactIsAbsoluteBelowSpec)

/-- ITS FALSE NEIGHBOUR: 'it returns false'. Refute it at one input. -/
def fnExactIsAbsoluteBelowWrong : ChangeSpec := { name := "fnExactIsAbsoluteBelow", fn := fun _ => fun
  | [d1, d2, d3] => { results := [.lit (.bool false)], args := [d1, d2, d3] }
  | _ => none }
def FnExactIsAbsoluteBelowWrongFalsely : Prop := fnExactIsAbsoluteBelowRow.holds Try.pinned (OpenSpec.ofChange fnExactIsAbsoluteBelowWrong)

/-- 'laws.FnExactWeakCovers': WHATEVER THE INPUT: true; the input reads as it did. -/
def fnExactWeakCoversSpec : ChangeSpec := { name := "fnExactWeakCovers", fn := fun _ => fun
  | [d1, d2] => { results := [.lit (.bool true)], args := [d1, d2] }
  | _ => none }
def fnExactWeakCoversRow : OpenClaim := { program := "ytnhiamdnghgboaa", sum := "7cc1b964e175e16e9f2459a7a53c9b30255a691b1ad688a3252634150cbed053", func := "loop.example/g02076/laws.FnExactWeakCovers", spec := "fnExactWeakCovers", unfollowed := true, recurses := true, apart := false }
def FnExactWeakCoversSaid : Prop := fnExactWeakCoversRow.holds Try.pinned (OpenSpec.ofChange fnExactWeakCoversSpec)

/-- ITS FALSE NEIGHBOUR: 'it returns false'. Refute it at one input. -/
def fnExactWeakCoversWrong : ChangeSpec := { name := "fnExactWeakCovers", fn := fun _ => fun
  | [d1, d2] => { results := [.lit (.bool false)], args := [d1, d2] }
  | _ => none }
def FnExactWeakCoversWrongFalsely : Prop := fnExactWeakCoversRow.holds Try.pinned (OpenSpec.ofChange fnExactWeakCoversWrong)

/-- 'laws.FnExactBruhatCovers': WHATEVER THE INPUT: true; the input reads as it did. -/
def fnExactBruhatCoversSpec : ChangeSpec := { name := "fnExactBruhatCovers", fn := fun _ => fun
  | [d1, d2] => { results := [.lit (.bool true)], args := [d1, d2] }
  | _ => none }
def fnExactBruhatCoversRow : OpenClaim := { program := "ytnhiamdnghgboaa", sum := "7cc1b964e175e16e9f2459a7a53c9b30255a691b1ad688a3252634150cbed053", func := "loop.example/g02076/laws.FnExactBruhatCovers", spec := "fnExactBruhatCovers", unfollowed := true, recurses := true, apart := false }
def FnExactBruhatCoversSaid : Prop := fnExactBruhatCoversRow.holds Try.pinned (OpenSpec.ofChange fnExactBruhatCoversSpec)

/-- ITS FALSE NEIGHBOUR: 'it returns false'. Refute it at one input. -/
def fnExactBruhatCoversWrong : ChangeSpec := { name := "fnExactBruhatCovers", fn := fun _ => fun
  | [d1, d2] => { results := [.lit (.bool false)], args := [d1, d2] }
  | _ => none }
def FnExactBruhatCoversWrongFalsely : Prop := fnExactBruhatCoversRow.holds Try.pinned (OpenSpec.ofChange fnExactBruhatCoversWrong)

/- THE SECOND FORM. 'bulk': how many values and letters a reading holds, each counted each time it is reached (what is shared counts as often as it is met; a slice's spare places count too). A statement '..UptoSaid' is the law's where the arguments, and the package variables that the reading takes, are together of bulk at most 1048576: NARROWER than '..Said'. Prove '..Said' where nothing that the law and all that it calls make is longer than what came in: it says more and counts as full. Else prove '..UptoSaid'. A law counts once. -/
mutual
def uptoBulk {H : Type} : DataW H → Nat
  | .lit (.string bytes) => bytes.length + 1
  | .lit _ => 1
  | .nil => 1
  | .ptr d => uptoBulk d + 1
  | .slice elems spare => uptoBulkAll elems + uptoBulkAll spare + 1
  | .agg parts => uptoBulkAll parts + 1
  | .iface _ d => uptoBulk d + 1
  | .map entries => uptoBulkEntries entries + 1
  | .held _ => 1
def uptoBulkAll {H : Type} : List (DataW H) → Nat
  | [] => 0
  | d :: r => uptoBulk d + uptoBulkAll r
def uptoBulkEntries {H : Type} : List (Lit × DataW H) → Nat
  | [] => 0
  | x :: r => uptoBulkEntry x + uptoBulkEntries r
def uptoBulkEntry {H : Type} : Lit × DataW H → Nat
  | (.string bytes, d) => bytes.length + uptoBulk d + 1
  | (_, d) => uptoBulk d + 1
 end
def uptoSmall : (H : Type) → List (DataW H) → Bool := fun _ ds => decide (uptoBulkAll ds ≤ 1048576)
def OpenSpec.upto (s : _root_.Go.ChangeSpec) : _root_.Go.OpenSpec := { _root_.Go.OpenSpec.ofChange s with cond := some uptoSmall }

/-- 'laws.FnExactCountChains', WHERE WHAT IT READS IS OF BULK AT MOST 1048576: true; the input reads as it did. -/
def fnExactCountChainsUptoRow : OpenClaim := { program := "ytnhiamdnghgboaa", sum := "7cc1b964e175e16e9f2459a7a53c9b30255a691b1ad688a3252634150cbed053", func := "loop.example/g02076/laws.FnExactCountChains", spec := "fnExactCountChains", recurses := true, apart := false, narrowed := true }
def FnExactCountChainsUptoSaid : Prop := fnExactCountChainsUptoRow.holds Try.pinned (OpenSpec.upto fnExactCountChainsSpec)

/-- 'laws.FnExactLongestOf', WHERE WHAT IT READS IS OF BULK AT MOST 1048576: true; the input reads as it did. -/
def fnExactLongestOfUptoRow : OpenClaim := { program := "ytnhiamdnghgboaa", sum := "7cc1b964e175e16e9f2459a7a53c9b30255a691b1ad688a3252634150cbed053", func := "loop.example/g02076/laws.FnExactLongestOf", spec := "fnExactLongestOf", recurses := true, apart := false, narrowed := true }
def FnExactLongestOfUptoSaid : Prop := fnExactLongestOfUptoRow.holds Try.pinned (OpenSpec.upto fnExactLongestOfSpec)

/-- 'laws.FnExactFixedRank', WHERE WHAT IT READS IS OF BULK AT MOST 1048576: true; the input reads as it did. -/
def fnExactFixedRankUptoRow : OpenClaim := { program := "ytnhiamdnghgboaa", sum := "7cc1b964e175e16e9f2459a7a53c9b30255a691b1ad688a3252634150cbed053", func := "loop.example/g02076/laws.FnExactFixedRank", spec := "fnExactFixedRank", recurses := true, apart := false, narrowed := true }
def FnExactFixedRankUptoSaid : Prop := fnExactFixedRankUptoRow.holds Try.pinned (OpenSpec.upto fnExactFixedRankSpec)

/-- 'laws.FnExactAbsoluteLength', WHERE WHAT IT READS IS OF BULK AT MOST 1048576: true; the input reads as it did. -/
def fnExactAbsoluteLengthUptoRow : OpenClaim := { program := "ytnhiamdnghgboaa", sum := "7cc1b964e175e16e9f2459a7a53c9b30255a691b1ad688a3252634150cbed053", func := "loop.example/g02076/laws.FnExactAbsoluteLength", spec := "fnExactAbsoluteLength", recurses := true, apart := false, narrowed := true }
def FnExactAbsoluteLengthUptoSaid : Prop := fnExactAbsoluteLengthUptoRow.holds Try.pinned (OpenSpec.upto fnExactAbsoluteLengthSpec)

/-- 'laws.FnExactCoxeterNumber', WHERE WHAT IT READS IS OF BULK AT MOST 1048576: true; the input reads as it did. -/
def fnExactCoxeterNumberUptoRow : OpenClaim := { program := "ytnhiamdnghgboaa", sum := "7cc1b964e175e16e9f2459a7a53c9b30255a691b1ad688a3252634150cbed053", func := "loop.example/g02076/laws.FnExactCoxeterNumber", spec := "fnExactCoxeterNumber", recurses := true, apart := false, narrowed := true }
def FnExactCoxeterNumberUptoSaid : Prop := fnExactCoxeterNumberUptoRow.holds Try.pinned (OpenSpec.upto fnExactCoxeterNumberSpec)

/-- 'laws.FnExactReflectionOf', WHERE WHAT IT READS IS OF BULK AT MOST 1048576: true; the input reads as it did. -/
def fnExactReflectionOfUptoRow : OpenClaim := { program := "ytnhiamdnghgboaa", sum := "7cc1b964e175e16e9f2459a7a53c9b30255a691b1ad688a3252634150cbed053", func := "loop.example/g02076/laws.FnExactReflectionOf", spec := "fnExactReflectionOf", apart := false, narrowed := true }
def FnExactReflectionOfUptoSaid : Prop := fnExactReflectionOfUptoRow.holds Try.pinned (OpenSpec.upto fnExactReflectionOfSpec)

/-- 'laws.FnExactRootOfReflection', WHERE WHAT IT READS IS OF BULK AT MOST 1048576: true; the input reads as it did. -/
def fnExactRootOfReflectionUptoRow : OpenClaim := { program := "ytnhiamdnghgboaa", sum := "7cc1b964e175e16e9f2459a7a53c9b30255a691b1ad688a3252634150cbed053", func := "loop.example/g02076/laws.FnExactRootOfReflection", spec := "fnExactRootOfReflection", apart := false, narrowed := true }
def FnExactRootOfReflectionUptoSaid : Prop := fnExactRootOfReflectionUptoRow.holds Try.pinned (OpenSpec.upto fnExactRootOfReflectionSpec)

/-- 'laws.FnExactIsAbsoluteBelow', WHERE WHAT IT READS IS OF BULK AT MOST 1048576: true; the input reads as it did. -/
def fnExactIsAbsoluteBelowUptoRow : OpenClaim := { program := "ytnhiamdnghgboaa", sum := "7cc1b964e175e16e9f2459a7a53c9b30255a691b1ad688a3252634150cbed053", func := "loop.example/g02076/laws.FnExactIsAbsoluteBelow", spec := "fnExactIsAbsoluteBelow", recurses := true, apart := false, narrowed := true }
def FnExactIsAbsoluteBelowUptoSaid : Prop := fnExactIsAbsoluteBelowUptoRow.holds Try.pinned (OpenSpec.upto fnExactIsAbsoluteBelowSpec)

/-- 'laws.FnExactWeakCovers', WHERE WHAT IT READS IS OF BULK AT MOST 1048576: true; the input reads as it did. -/
def fnExactWeakCoversUptoRow : OpenClaim := { program := "ytnhiamdnghgboaa", sum := "7cc1b964e175e16e9f2459a7a53c9b30255a691b1ad688a3252634150cbed053", func := "loop.example/g02076/laws.FnExactWeakCovers", spec := "fnExactWeakCovers", unfollowed := true, recurses := true, apart := false, narrowed := true }
def FnExactWeakCoversUptoSaid : Prop := fnExactWeakCoversUptoRow.holds Try.pinned (OpenSpec.upto fnExactWeakCoversSpec)

/-- 'laws.FnExactBruhatCovers', WHERE WHAT IT READS IS OF BULK AT MOST 1048576: true; the input reads as it did. -/
def fnExactBruhatCoversUptoRow : OpenClaim := { program := "ytnhiamdnghgboaa", sum := "7cc1b964e175e16e9f2459a7a53c9b30255a691b1ad688a3252634150cbed053", func := "loop.example/g02076/laws.FnExactBruhatCovers", spec := "fnExactBruhatCovers", unfollowed := true, recurses := true, apart := false, narrowed := true }
def FnExactBruhatCoversUptoSaid : Prop := fnExactBruhatCoversUptoRow.holds Try.pinned (OpenSpec.upto fnExactBruhatCoversSpec)

end Rows
end Go.Proofs.Ytnhiamdnghgboaa
