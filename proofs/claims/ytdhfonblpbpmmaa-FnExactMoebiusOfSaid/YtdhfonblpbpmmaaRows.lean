/-
  No cell of these rows narrows 'for every input' (looked for: loops, veiled, ifaces, maps, wideKeys, modest, calm, conditions, laid).
  DERIVED. THE GIVEN ROWS OF THIS SEAT. 6 by the template 'for every input the law returns true; each argument reads behind the call as it read before'; 0 by the template 'total and deterministic' (their statements: YtdhfonblpbpmmaaTotals.lean).
  GIVEN WITH THE SEED: the statements are not yours to turn. If you find one false, say at which input.
  Laid BY PROGRAM, IN A SANDBOX (cutbox-rows.mjs): the forced cells as the released guide's own fill.sh prints them over the translation 1dc4442e5ce71a4d… (all of the seat's roots in one cut). By AI agents, Wed Nov 11 2026. No macro, syntax, notation, axiom, sorry.
-/
import Derived.Test.YtdhfonblpbpmmaaChecked
import GoSem.Claim
import GoSem.ClaimJoined
import GoSem.ClaimMapViews
import Derived.JoinedTies
import Derived.KernelRfl
namespace Go.Proofs.Ytdhfonblpbpmmaa
/- THE CELL 'sum', in the pinned program and in every row, IS THE sha256 OF THE DUMP (.gsa) THAT YtdhfonblpbpmmaaProg.lean LOADS. Nothing in Lean hashes anything: it is a label: what it is worth is what the hold of that sum in a sandbox is worth. -/
noncomputable def Try.pinned : Pinned := { name := "ytdhfonblpbpmmaa", sum := "1dc4442e5ce71a4d8119dbce02fe27b0b2aaea41df4b9507fffe63216f3009c1", checked := Try.checked }
namespace Rows
def none {H : Type} : Left H := { results := [], args := [] }

/-- 'laws.FnExactPrefixesOf': WHATEVER THE INPUT: true; the input reads as it did. -/
def fnExactPrefixesOfSpec : ChangeSpec := { name := "fnExactPrefixesOf", fn := fun _ => fun
  | [d1, d2] => { results := [.lit (.bool true)], args := [d1, d2] }
  | _ => none }
def fnExactPrefixesOfRow : OpenClaim := { program := "ytdhfonblpbpmmaa", sum := "1dc4442e5ce71a4d8119dbce02fe27b0b2aaea41df4b9507fffe63216f3009c1", func := "loop.example/g02076/laws.FnExactPrefixesOf", spec := "fnExactPrefixesOf", unfollowed := true, recurses := true, apart := false }
def FnExactPrefixesOfSaid : Prop := fnExactPrefixesOfRow.holds Try.pinned (OpenSpec.ofChange fnExactPrefixesOfSpec)

/-- ITS FALSE NEIGHBOUR: 'it returns false'. Refute it at one input. -/
def fnExactPrefixesOfWrong : ChangeSpec := { name := "fnExactPrefixesOf", fn := fun _ => fun
  | [d1, d2] => { results := [.lit (.bool false)], args := [d1, d2] }
  | _ => none }
def FnExactPrefixesOfWrongFalsely : Prop := fnExactPrefixesOfRow.holds Try.pinned (OpenSpec.ofChange fnExactPrefixesOfWrong)

/-- 'laws.FnExactMeetWeak': WHATEVER THE INPUT: true; the input reads as it did. -/
def fnExactMeetWeakSpec : ChangeSpec := { name := "fnExactMeetWeak", fn := fun _ => fun
  | [d1, d2, d3] => { results := [.lit (.bool true)], args := [d1, d2, d3] }
  | _ => none }
def fnExactMeetWeakRow : OpenClaim := { program := "ytdhfonblpbpmmaa", sum := "1dc4442e5ce71a4d8119dbce02fe27b0b2aaea41df4b9507fffe63216f3009c1", func := "loop.example/g02076/laws.FnExactMeetWeak", spec := "fnExactMeetWeak", unfollowed := true, recurses := true, apart := false }
def FnExactMeetWeakSaid : Prop := fnExactMeetWeakRow.holds Try.pinned (OpenSpec.ofChange fnExactMeetWeakSpec)

/-- ITS FALSE NEIGHBOUR: 'it returns false'. Refute it at one input. -/
def fnExactMeetWeakWrong : ChangeSpec := { name := "fnExactMeetWeak", fn := fun _ => fun
  | [d1, d2, d3] => { results := [.lit (.bool false)], args := [d1, d2, d3] }
  | _ => none }
def FnExactMeetWeakWrongFalsely : Prop := fnExactMeetWeakRow.holds Try.pinned (OpenSpec.ofChange fnExactMeetWeakWrong)

/-- 'laws.FnExactJoinWeak': WHATEVER THE INPUT: true; the input reads as it did. -/
def fnExactJoinWeakSpec : ChangeSpec := { name := "fnExactJoinWeak", fn := fun _ => fun
  | [d1, d2, d3] => { results := [.lit (.bool true)], args := [d1, d2, d3] }
  | _ => none }
def fnExactJoinWeakRow : OpenClaim := { program := "ytdhfonblpbpmmaa", sum := "1dc4442e5ce71a4d8119dbce02fe27b0b2aaea41df4b9507fffe63216f3009c1", func := "loop.example/g02076/laws.FnExactJoinWeak", spec := "fnExactJoinWeak", unfollowed := true, recurses := true, apart := false }
def FnExactJoinWeakSaid : Prop := fnExactJoinWeakRow.holds Try.pinned (OpenSpec.ofChange fnExactJoinWeakSpec)

/-- ITS FALSE NEIGHBOUR: 'it returns false'. Refute it at one input. -/
def fnExactJoinWeakWrong : ChangeSpec := { name := "fnExactJoinWeak", fn := fun _ => fun
  | [d1, d2, d3] => { results := [.lit (.bool false)], args := [d1, d2, d3] }
  | _ => none }
def FnExactJoinWeakWrongFalsely : Prop := fnExactJoinWeakRow.holds Try.pinned (OpenSpec.ofChange fnExactJoinWeakWrong)

/-- 'laws.FnExactLowerInterval': WHATEVER THE INPUT: true; the input reads as it did. -/
def fnExactLowerIntervalSpec : ChangeSpec := { name := "fnExactLowerInterval", fn := fun _ => fun
  | [d1, d2] => { results := [.lit (.bool true)], args := [d1, d2] }
  | _ => none }
def fnExactLowerIntervalRow : OpenClaim := { program := "ytdhfonblpbpmmaa", sum := "1dc4442e5ce71a4d8119dbce02fe27b0b2aaea41df4b9507fffe63216f3009c1", func := "loop.example/g02076/laws.FnExactLowerInterval", spec := "fnExactLowerInterval", unfollowed := true, recurses := true, apart := false }
def FnExactLowerIntervalSaid : Prop := fnExactLowerIntervalRow.holds Try.pinned (OpenSpec.ofChange fnExactLowerIntervalSpec)

/-- ITS FALSE NEIGHBOUR: 'it returns false'. Refute it at one input. -/
def fnExactLowerIntervalWrong : ChangeSpec := { name := "fnExactLowerInterval", fn := fun _ => fun
  | [d1, d2] => { results := [.lit (.bool false)], args := [d1, d2] }
  | _ => none }
def FnExactLowerIntervalWrongFalsely : Prop := fnExactLowerIntervalRow.holds Try.pinned (OpenSpec.ofChange fnExactLowerIntervalWrong)

/-- 'laws.FnExactIntervalOf': WHATEVER THE INPUT: true; the input reads as it did. -/
def fnExactIntervalOfSpec : ChangeSpec := { name := "fnExactIntervalOf", fn := fun _ => fun
  | [d1, d2, d3] => { results := [.lit (.bool true)], args := [d1, d2, d3] }
  | _ => none }
def fnExactIntervalOfRow : OpenClaim := { program := "ytdhfonblpbpmmaa", sum := "1dc4442e5ce71a4d8119dbce02fe27b0b2aaea41df4b9507fffe63216f3009c1", func := "loop.example/g02076/laws.FnExactIntervalOf", spec := "fnExactIntervalOf", unfollowed := true, recurses := true, apart := false }
def FnExactIntervalOfSaid : Prop := fnExactIntervalOfRow.holds Try.pinned (OpenSpec.ofChange fnExactIntervalOfSpec)

/-- ITS FALSE NEIGHBOUR: 'it returns false'. Refute it at one input. -/
def fnExactIntervalOfWrong : ChangeSpec := { name := "fnExactIntervalOf", fn := fun _ => fun
  | [d1, d2, d3] => { results := [.lit (.bool false)], args := [d1, d2, d3] }
  | _ => none }
def FnExactIntervalOfWrongFalsely : Prop := fnExactIntervalOfRow.holds Try.pinned (OpenSpec.ofChange fnExactIntervalOfWrong)

/-- 'laws.FnExactMoebiusOf': WHATEVER THE INPUT: true; the input reads as it did. -/
def fnExactMoebiusOfSpec : ChangeSpec := { name := "fnExactMoebiusOf", fn := fun _ => fun
  | [d1, d2, d3] => { results := [.lit (.bool true)], args := [d1, d2, d3] }
  | _ => none }
def fnExactMoebiusOfRow : OpenClaim := { program := "ytdhfonblpbpmmaa", sum := "1dc4442e5ce71a4d8119dbce02fe27b0b2aaea41df4b9507fffe63216f3009c1", func := "loop.example/g02076/laws.FnExactMoebiusOf", spec := "fnExactMoebiusOf", unfollowed := true, recurses := true, apart := false }
def FnExactMoebiusOfSaid : Prop := fnExactMoebiusOfRow.holds Try.pinned (OpenSpec.ofChange fnExactMoebiusOfSpec)

/-- ITS FALSE NEIGHBOUR: 'it returns false'. Refute it at one input. -/
def fnExactMoebiusOfWrong : ChangeSpec := { name := "fnExactMoebiusOf", fn := fun _ => fun
  | [d1, d2, d3] => { results := [.lit (.bool false)], args := [d1, d2, d3] }
  | _ => none }
def FnExactMoebiusOfWrongFalsely : Prop := fnExactMoebiusOfRow.holds Try.pinned (OpenSpec.ofChange fnExactMoebiusOfWrong)

/- THE SECOND FORM. 'bulk': how many values and letters a reading holds, each counted each time it is reached (what is shared counts as often as it is met; a slice's spare places count too). A statement '..UptoSaid' is the law's where the arguments, and the package variables that the reading takes, are together of bulk at most 1048576: NARROWER than '..Said'. Prove '..Said' where nothing that the law and all that it calls make is longer than what came in: it says more and counts as full. Else prove '..UptoSaid'. A law counts once. -/
mutual
def uptoBulk {H : Type} : DataW H → Nat
  | .lit (.string bytes) => bytes.length + 1
  | .lit _ => 1
  | .nil => 1
  | .ptr d => uptoBulk d + 1
  | .slice elems spare => uptoBulkAll elems + uptoBulkAll spare + 1
  | .agg parts => uptoBulkAll parts + 1
  | .iface _ d => uptoBulk d + 1
  | .map entries => uptoBulkEntries entries + 1
  | .held _ => 1
def uptoBulkAll {H : Type} : List (DataW H) → Nat
  | [] => 0
  | d :: r => uptoBulk d + uptoBulkAll r
def uptoBulkEntries {H : Type} : List (Lit × DataW H) → Nat
  | [] => 0
  | x :: r => uptoBulkEntry x + uptoBulkEntries r
def uptoBulkEntry {H : Type} : Lit × DataW H → Nat
  | (.string bytes, d) => bytes.length + uptoBulk d + 1
  | (_, d) => uptoBulk d + 1
 end
def uptoSmall : (H : Type) → List (DataW H) → Bool := fun _ ds => decide (uptoBulkAll ds ≤ 1048576)
def OpenSpec.upto (s : _root_.Go.ChangeSpec) : _root_.Go.OpenSpec := { _root_.Go.OpenSpec.ofChange s with cond := some uptoSmall }

/-- 'laws.FnExactPrefixesOf', WHERE WHAT IT READS IS OF BULK AT MOST 1048576: true; the input reads as it did. -/
def fnExactPrefixesOfUptoRow : OpenClaim := { program := "ytdhfonblpbpmmaa", sum := "1dc4442e5ce71a4d8119dbce02fe27b0b2aaea41df4b9507fffe63216f3009c1", func := "loop.example/g02076/laws.FnExactPrefixesOf", spec := "fnExactPrefixesOf", unfollowed := true, recurses := true, apart := false, narrowed := true }
def FnExactPrefixesOfUptoSaid : Prop := fnExactPrefixesOfUptoRow.holds Try.pinned (OpenSpec.upto fnExactPrefixesOfSpec)

/-- 'laws.FnExactMeetWeak', WHERE WHAT IT READS IS OF BULK AT MOST 1048576: true; the input reads as it did. -/
def fnExactMeetWeakUptoRow : OpenClaim := { program := "ytdhfonblpbpmmaa", sum := "1dc4442e5ce71a4d8119dbce02fe27b0b2aaea41df4b9507fffe63216f3009c1", func := "loop.example/g02076/laws.FnExactMeetWeak", spec := "fnExactMeetWeak", unfollowed := true, recurses := true, apart := false, narrowed := true }
def FnExactMeetWeakUptoSaid : Prop := fnExactMeetWeakUptoRow.holds Try.pinned (OpenSpec.upto fnExactMeetWeakSpec)

/-- 'laws.FnExactJoinWeak', WHERE WHAT IT READS IS OF BULK AT MOST 1048576: true; the input reads as it did. -/
def fnExactJoinWeakUptoRow : OpenClaim := { program := "ytdhfonblpbpmmaa", sum := "1dc4442e5ce71a4d8119dbce02fe27b0b2aaea41df4b9507fffe63216f3009c1", func := "loop.example/g02076/laws.FnExactJoinWeak", spec := "fnExactJoinWeak", unfollowed := true, recurses := true, apart := false, narrowed := true }
def FnExactJoinWeakUptoSaid : Prop := fnExactJoinWeakUptoRow.holds Try.pinned (OpenSpec.upto fnExactJoinWeakSpec)

/-- 'laws.FnExactLowerInterval', WHERE WHAT IT READS IS OF BULK AT MOST 1048576: true; the input reads as it did. -/
def fnExactLowerIntervalUptoRow : OpenClaim := { program := "ytdhfonblpbpmmaa", sum := "1dc4442e5ce71a4d8119dbce02fe27b0b2aaea41df4b9507fffe63216f3009c1", func := "loop.example/g02076/laws.FnExactLowerInterval", spec := "fnExactLowerInterval", unfollowed := true, recurses := true, apart := false, narrowed := true }
def FnExactLowerIntervalUptoSaid : Prop := fnExactLowerIntervalUptoRow.holds Try.pinned (OpenSpec.upto fnExactLowerIntervalSpec)

/-- 'laws.FnExactIntervalOf', WHERE WHAT IT READS IS OF BULK AT MOST 1048576: true; the input reads as it did. -/
def fnExactIntervalOfUptoRow : OpenClaim := { program := "ytdhfonblpbpmmaa", sum := "1dc4442e5ce71a4d8119dbce02fe27b0b2aaea41df4b9507fffe63216f3009c1", func := "loop.example/g02076/laws.FnExactIntervalOf", spec := "fnExactIntervalOf", unfollowed := true, recurses := true, apart := false, narrowed := true }
def FnExactIntervalOfUptoSaid : Prop := fnExactIntervalOfUptoRow.holds Try.pinned (OpenSpec.upto fnExactIntervalOfSpec)

/-- 'laws.FnExactMoebiusOf', WHERE WHAT IT READS IS OF BULK AT MOST 1048576: true; the input reads as it did. -/
def fnExactMoebiusOfUptoRow : OpenClaim := { program := "ytdhfonblpbpmmaa", sum := "1dc4442e5ce71a4d8119dbce02fe27b0b2aaea41df4b9507fffe63216f3009c1", func := "loop.example/g02076/laws.FnExactMoebiusOf", spec := "fnExactMoebiusOf", unfollowed := true, recurses := true, apart := false, narrowed := true }
def FnExactMoebiusOfUptoSaid : Prop := fnExactMoebiusOfUptoRow.holds Try.pinned (OpenSpec.upto fnExactMoebiusOfSpec)

end Rows
end Go.Proofs.Ytdhfonblpbpmmaa
