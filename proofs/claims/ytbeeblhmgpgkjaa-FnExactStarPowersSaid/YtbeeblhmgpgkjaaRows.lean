/-
  No cell of these rows narrows 'for every input' (looked for: loops, veiled, ifaces, maps, wideKeys, modest, calm, conditions, laid).
  DERIVED. THE GIVEN ROWS OF THIS SEAT. 12 by the template 'for every input the law returns true; each argument reads behind the call as it read before'; 0 by the template 'total and deterministic' (their statements: YtbeeblhmgpgkjaaTotals.lean).
  GIVEN WITH THE SEED: the statements are not yours to turn. If you find one false, say at which input.
  Laid BY PROGRAM, IN A SANDBOX (cutbox-rows.mjs): the forced cells as the released guide's own fill.sh prints them over the translation 84bde76a91cf7763… (all of the seat's roots in one cut). By AI agents, Wed Nov 11 2026. No macro, syntax, notation, axiom, sorry.
-/
import Derived.Test.YtbeeblhmgpgkjaaChecked
import GoSem.Claim
import GoSem.ClaimJoined
import GoSem.ClaimMapViews
import Derived.JoinedTies
import Derived.KernelRfl
namespace Go.Proofs.Ytbeeblhmgpgkjaa
/- THE CELL 'sum', in the pinned program and in every row, IS THE sha256 OF THE DUMP (.gsa) THAT YtbeeblhmgpgkjaaProg.lean LOADS. Nothing in Lean hashes anything: it is a label: what it is worth is what the hold of that sum in a sandbox is worth. -/
noncomputable def Try.pinned : Pinned := { name := "ytbeeblhmgpgkjaa", sum := "84bde76a91cf7763e33d0cbaba6282306e4a2846b357f9dd92b59455bfcc086f", checked := Try.checked }
namespace Rows
def none {H : Type} : Left H := { results := [], args := [] }

/-- 'laws.FnExactIsBruhatBelow': WHATEVER THE INPUT: true; the input reads as it did. -/
def fnExactIsBruhatBelowSpec : ChangeSpec := { name := "fnExactIsBruhatBelow", fn := fun _ => fun
  | [d1, d2, d3] => { results := [.lit (.bool true)], args := [d1, d2, d3] }
  | _ => none }
def fnExactIsBruhatBelowRow : OpenClaim := { program := "ytbeeblhmgpgkjaa", sum := "84bde76a91cf7763e33d0cbaba6282306e4a2846b357f9dd92b59455bfcc086f", func := "loop.example/g02076/laws.FnExactIsBruhatBelow", spec := "fnExactIsBruhatBelow", recurses := true, apart := false }
def FnExactIsBruhatBelowSaid : Prop := fnExactIsBruhatBelowRow.holds Try.pinned (OpenSpec.ofChange fnExactIsBruhatBelowSpec)

/-- ITS FALSE NEIGHBOUR: 'it returns false'. Refute it at one input. -/
def fnExactIsBruhatBelowWrong : ChangeSpec := { name := "fnExactIsBruhatBelow", fn := fun _ => fun
  | [d1, d2, d3] => { results := [.lit (.bool false)], args := [d1, d2, d3] }
  | _ => none }
def FnExactIsBruhatBelowWrongFalsely : Prop := fnExactIsBruhatBelowRow.holds Try.pinned (OpenSpec.ofChange fnExactIsBruhatBelowWrong)

/-- 'laws.FnExactIsInParabolic': WHATEVER THE INPUT: true; the input reads as it did. -/
def fnExactIsInParabolicSpec : ChangeSpec := { name := "fnExactIsInParabolic", fn := fun _ => fun
  | [d1, d2, d3] => { results := [.lit (.bool true)], args := [d1, d2, d3] }
  | _ => none }
def fnExactIsInParabolicRow : OpenClaim := { program := "ytbeeblhmgpgkjaa", sum := "84bde76a91cf7763e33d0cbaba6282306e4a2846b357f9dd92b59455bfcc086f", func := "loop.example/g02076/laws.FnExactIsInParabolic", spec := "fnExactIsInParabolic", apart := false }
def FnExactIsInParabolicSaid : Prop := fnExactIsInParabolicRow.holds Try.pinned (OpenSpec.ofChange fnExactIsInParabolicSpec)

/-- ITS FALSE NEIGHBOUR: 'it returns false'. Refute it at one input. -/
def fnExactIsInParabolicWrong : ChangeSpec := { name := "fnExactIsInParabolic", fn := fun _ => fun
  | [d1, d2, d3] => { results := [.lit (.bool false)], args := [d1, d2, d3] }
  | _ => none }
def FnExactIsInParabolicWrongFalsely : Prop := fnExactIsInParabolicRow.holds Try.pinned (OpenSpec.ofChange fnExactIsInParabolicWrong)

/-- 'laws.FnExactStarWord': WHATEVER THE INPUT: true; the input reads as it did. -/
def fnExactStarWordSpec : ChangeSpec := { name := "fnExactStarWord", fn := fun _ => fun
  | [d1, d2] => { results := [.lit (.bool true)], args := [d1, d2] }
  | _ => none }
def fnExactStarWordRow : OpenClaim := { program := "ytbeeblhmgpgkjaa", sum := "84bde76a91cf7763e33d0cbaba6282306e4a2846b357f9dd92b59455bfcc086f", func := "loop.example/g02076/laws.FnExactStarWord", spec := "fnExactStarWord", apart := false }
def FnExactStarWordSaid : Prop := fnExactStarWordRow.holds Try.pinned (OpenSpec.ofChange fnExactStarWordSpec)

/-- ITS FALSE NEIGHBOUR: 'it returns false'. Refute it at one input. -/
def fnExactStarWordWrong : ChangeSpec := { name := "fnExactStarWord", fn := fun _ => fun
  | [d1, d2] => { results := [.lit (.bool false)], args := [d1, d2] }
  | _ => none }
def FnExactStarWordWrongFalsely : Prop := fnExactStarWordRow.holds Try.pinned (OpenSpec.ofChange fnExactStarWordWrong)

/-- 'laws.FnExactIsWeakBelow': WHATEVER THE INPUT: true; the input reads as it did. -/
def fnExactIsWeakBelowSpec : ChangeSpec := { name := "fnExactIsWeakBelow", fn := fun _ => fun
  | [d1, d2, d3] => { results := [.lit (.bool true)], args := [d1, d2, d3] }
  | _ => none }
def fnExactIsWeakBelowRow : OpenClaim := { program := "ytbeeblhmgpgkjaa", sum := "84bde76a91cf7763e33d0cbaba6282306e4a2846b357f9dd92b59455bfcc086f", func := "loop.example/g02076/laws.FnExactIsWeakBelow", spec := "fnExactIsWeakBelow", apart := false }
def FnExactIsWeakBelowSaid : Prop := fnExactIsWeakBelowRow.holds Try.pinned (OpenSpec.ofChange fnExactIsWeakBelowSpec)

/-- ITS FALSE NEIGHBOUR: 'it returns false'. Refute it at one input. -/
def fnExactIsWeakBelowWrong : ChangeSpec := { name := "fnExactIsWeakBelow", fn := fun _ => fun
  | [d1, d2, d3] => { results := [.lit (.bool false)], args := [d1, d2, d3] }
  | _ => none }
def FnExactIsWeakBelowWrongFalsely : Prop := fnExactIsWeakBelowRow.holds Try.pinned (OpenSpec.ofChange fnExactIsWeakBelowWrong)

/-- 'laws.FnExactSubwordOf': WHATEVER THE INPUT: true; the input reads as it did. -/
def fnExactSubwordOfSpec : ChangeSpec := { name := "fnExactSubwordOf", fn := fun _ => fun
  | [d1, d2, d3] => { results := [.lit (.bool true)], args := [d1, d2, d3] }
  | _ => none }
def fnExactSubwordOfRow : OpenClaim := { program := "ytbeeblhmgpgkjaa", sum := "84bde76a91cf7763e33d0cbaba6282306e4a2846b357f9dd92b59455bfcc086f", func := "loop.example/g02076/laws.FnExactSubwordOf", spec := "fnExactSubwordOf", recurses := true, apart := false }
def FnExactSubwordOfSaid : Prop := fnExactSubwordOfRow.holds Try.pinned (OpenSpec.ofChange fnExactSubwordOfSpec)

/-- ITS FALSE NEIGHBOUR: 'it returns false'. Refute it at one input. -/
def fnExactSubwordOfWrong : ChangeSpec := { name := "fnExactSubwordOf", fn := fun _ => fun
  | [d1, d2, d3] => { results := [.lit (.bool false)], args := [d1, d2, d3] }
  | _ => none }
def FnExactSubwordOfWrongFalsely : Prop := fnExactSubwordOfRow.holds Try.pinned (OpenSpec.ofChange fnExactSubwordOfWrong)

/-- 'laws.FnExactStarLetter': WHATEVER THE INPUT: true; the input reads as it did. -/
def fnExactStarLetterSpec : ChangeSpec := { name := "fnExactStarLetter", fn := fun _ => fun
  | [d1, d2, d3] => { results := [.lit (.bool true)], args := [d1, d2, d3] }
  | _ => none }
def fnExactStarLetterRow : OpenClaim := { program := "ytbeeblhmgpgkjaa", sum := "84bde76a91cf7763e33d0cbaba6282306e4a2846b357f9dd92b59455bfcc086f", func := "loop.example/g02076/laws.FnExactStarLetter", spec := "fnExactStarLetter", apart := false }
def FnExactStarLetterSaid : Prop := fnExactStarLetterRow.holds Try.pinned (OpenSpec.ofChange fnExactStarLetterSpec)

/-- ITS FALSE NEIGHBOUR: 'it returns false'. Refute it at one input. -/
def fnExactStarLetterWrong : ChangeSpec := { name := "fnExactStarLetter", fn := fun _ => fun
  | [d1, d2, d3] => { results := [.lit (.bool false)], args := [d1, d2, d3] }
  | _ => none }
def FnExactStarLetterWrongFalsely : Prop := fnExactStarLetterRow.holds Try.pinned (OpenSpec.ofChange fnExactStarLetterWrong)

/-- 'laws.FnExactStarProduct': WHATEVER THE INPUT: true; the input reads as it did. -/
def fnExactStarProductSpec : ChangeSpec := { name := "fnExactStarProduct", fn := fun _ => fun
  | [d1, d2, d3] => { results := [.lit (.bool true)], args := [d1, d2, d3] }
  | _ => none }
def fnExactStarProductRow : OpenClaim := { program := "ytbeeblhmgpgkjaa", sum := "84bde76a91cf7763e33d0cbaba6282306e4a2846b357f9dd92b59455bfcc086f", func := "loop.example/g02076/laws.FnExactStarProduct", spec := "fnExactStarProduct", apart := false }
def FnExactStarProductSaid : Prop := fnExactStarProductRow.holds Try.pinned (OpenSpec.ofChange fnExactStarProductSpec)

/-- ITS FALSE NEIGHBOUR: 'it returns false'. Refute it at one input. -/
def fnExactStarProductWrong : ChangeSpec := { name := "fnExactStarProduct", fn := fun _ => fun
  | [d1, d2, d3] => { results := [.lit (.bool false)], args := [d1, d2, d3] }
  | _ => none }
def FnExactStarProductWrongFalsely : Prop := fnExactStarProductRow.holds Try.pinned (OpenSpec.ofChange fnExactStarProductWrong)

/-- 'laws.FnExactIsIdempotent': WHATEVER THE INPUT: true; the input reads as it did. -/
def fnExactIsIdempotentSpec : ChangeSpec := { name := "fnExactIsIdempotent", fn := fun _ => fun
  | [d1, d2] => { results := [.lit (.bool true)], args := [d1, d2] }
  | _ => none }
def fnExactIsIdempotentRow : OpenClaim := { program := "ytbeeblhmgpgkjaa", sum := "84bde76a91cf7763e33d0cbaba6282306e4a2846b357f9dd92b59455bfcc086f", func := "loop.example/g02076/laws.FnExactIsIdempotent", spec := "fnExactIsIdempotent", apart := false }
def FnExactIsIdempotentSaid : Prop := fnExactIsIdempotentRow.holds Try.pinned (OpenSpec.ofChange fnExactIsIdempotentSpec)

/-- ITS FALSE NEIGHBOUR: 'it returns false'. Refute it at one input. -/
def fnExactIsIdempotentWrong : ChangeSpec := { name := "fnExactIsIdempotent", fn := fun _ => fun
  | [d1, d2] => { results := [.lit (.bool false)], args := [d1, d2] }
  | _ => none }
def FnExactIsIdempotentWrongFalsely : Prop := fnExactIsIdempotentRow.holds Try.pinned (OpenSpec.ofChange fnExactIsIdempotentWrong)

/-- 'laws.FnExactLeftParts': WHATEVER THE INPUT: true; the input reads as it did. -/
def fnExactLeftPartsSpec : ChangeSpec := { name := "fnExactLeftParts", fn := fun _ => fun
  | [d1, d2, d3] => { results := [.lit (.bool true)], args := [d1, d2, d3] }
  | _ => none }
def fnExactLeftPartsRow : OpenClaim := { program := "ytbeeblhmgpgkjaa", sum := "84bde76a91cf7763e33d0cbaba6282306e4a2846b357f9dd92b59455bfcc086f", func := "loop.example/g02076/laws.FnExactLeftParts", spec := "fnExactLeftParts", apart := false }
def FnExactLeftPartsSaid : Prop := fnExactLeftPartsRow.holds Try.pinned (OpenSpec.ofChange fnExactLeftPartsSpec)

/-- ITS FALSE NEIGHBOUR: 'it returns false'. Refute it at one input. -/
def fnExactLeftPartsWrong : ChangeSpec := { name := "fnExactLeftParts", fn := fun _ => fun
  | [d1, d2, d3] => { results := [.lit (.bool false)], args := [d1, d2, d3] }
  | _ => none }
def FnExactLeftPartsWrongFalsely : Prop := fnExactLeftPartsRow.holds Try.pinned (OpenSpec.ofChange fnExactLeftPartsWrong)

/-- 'laws.FnExactRightParts': WHATEVER THE INPUT: true; the input reads as it did. -/
def fnExactRightPartsSpec : ChangeSpec := { name := "fnExactRightParts", fn := fun _ => fun
  | [d1, d2, d3] => { results := [.lit (.bool true)], args := [d1, d2, d3] }
  | _ => none }
def fnExactRightPartsRow : OpenClaim := { program := "ytbeeblhmgpgkjaa", sum := "84bde76a91cf7763e33d0cbaba6282306e4a2846b357f9dd92b59455bfcc086f", func := "loop.example/g02076/laws.FnExactRightParts", spec := "fnExactRightParts", apart := false }
def FnExactRightPartsSaid : Prop := fnExactRightPartsRow.holds Try.pinned (OpenSpec.ofChange fnExactRightPartsSpec)

/-- ITS FALSE NEIGHBOUR: 'it returns false'. Refute it at one input. -/
def fnExactRightPartsWrong : ChangeSpec := { name := "fnExactRightParts", fn := fun _ => fun
  | [d1, d2, d3] => { results := [.lit (.bool false)], args := [d1, d2, d3] }
  | _ => none }
def FnExactRightPartsWrongFalsely : Prop := fnExactRightPartsRow.holds Try.pinned (OpenSpec.ofChange fnExactRightPartsWrong)

/-- 'laws.FnExactStarPowers': WHATEVER THE INPUT: true; the input reads as it did. -/
def fnExactStarPowersSpec : ChangeSpec := { name := "fnExactStarPowers", fn := fun _ => fun
  | [d1, d2] => { results := [.lit (.bool true)], args := [d1, d2] }
  | _ => none }
def fnExactStarPowersRow : OpenClaim := { program := "ytbeeblhmgpgkjaa", sum := "84bde76a91cf7763e33d0cbaba6282306e4a2846b357f9dd92b59455bfcc086f", func := "loop.example/g02076/laws.FnExactStarPowers", spec := "fnExactStarPowers", apart := false }
def FnExactStarPowersSaid : Prop := fnExactStarPowersRow.holds Try.pinned (OpenSpec.ofChange fnExactStarPowersSpec)

/-- ITS FALSE NEIGHBOUR: 'it returns false'. Refute it at one input. -/
def fnExactStarPowersWrong : ChangeSpec := { name := "fnExactStarPowers", fn := fun _ => fun
  | [d1, d2] => { results := [.lit (.bool false)], args := [d1, d2] }
  | _ => none }
def FnExactStarPowersWrongFalsely : Prop := fnExactStarPowersRow.holds Try.pinned (OpenSpec.ofChange fnExactStarPowersWrong)

/-- 'laws.FnExactDoubleMinimal': WHATEVER THE INPUT: true; the input reads as it did. -/
def fnExactDoubleMinimalSpec : ChangeSpec := { name := "fnExactDoubleMinimal", fn := fun _ => fun
  | [d1, d2, d3, d4] => { results := [.lit (.bool true)], args := [d1, d2, d3, d4] }
  | _ => none }
def fnExactDoubleMinimalRow : OpenClaim := { program := "ytbeeblhmgpgkjaa", sum := "84bde76a91cf7763e33d0cbaba6282306e4a2846b357f9dd92b59455bfcc086f", func := "loop.example/g02076/laws.FnExactDoubleMinimal", spec := "fnExactDoubleMinimal", apart := false }
def FnExactDoubleMinimalSaid : Prop := fnExactDoubleMinimalRow.holds Try.pinned (OpenSpec.ofChange fnExactDoubleMinimalSpec)

/-- ITS FALSE NEIGHBOUR: 'it returns false'. Refute it at one input. -/
def fnExactDoubleMinimalWrong : ChangeSpec := { name := "fnExactDoubleMinimal", fn := fun _ => fun
  | [d1, d2, d3, d4] => { results := [.lit (.bool false)], args := [d1, d2, d3, d4] }
  | _ => none }
def FnExactDoubleMinimalWrongFalsely : Prop := fnExactDoubleMinimalRow.holds Try.pinned (OpenSpec.ofChange fnExactDoubleMinimalWrong)

/- THE SECOND FORM. 'bulk': how many values and letters a reading holds, each counted each time it is reached (what is shared counts as often as it is met; a slice's spare places count too). A statement '..UptoSaid' is the law's where the arguments, and the package variables that the reading takes, are together of bulk at most 1048576: NARROWER than '..Said'. Prove '..Said' where nothing that the law and all that it calls make is longer than what came in: it says more and counts as full. Else prove '..UptoSaid'. A law counts once. -/
mutual
def uptoBulk {H : Type} : DataW H → Nat
  | .lit (.string bytes) => bytes.length + 1
  | .lit _ => 1
  | .nil => 1
  | .ptr d => uptoBulk d + 1
  | .slice elems spare => uptoBulkAll elems + uptoBulkAll spare + 1
  | .agg parts => uptoBulkAll parts + 1
  | .iface _ d => uptoBulk d + 1
  | .map entries => uptoBulkEntries entries + 1
  | .held _ => 1
def uptoBulkAll {H : Type} : List (DataW H) → Nat
  | [] => 0
  | d :: r => uptoBulk d + uptoBulkAll r
def uptoBulkEntries {H : Type} : List (Lit × DataW H) → Nat
  | [] => 0
  | x :: r => uptoBulkEntry x + uptoBulkEntries r
def uptoBulkEntry {H : Type} : Lit × DataW H → Nat
  | (.string bytes, d) => bytes.length + uptoBulk d + 1
  | (_, d) => uptoBulk d + 1
 end
def uptoSmall : (H : Type) → List (DataW H) → Bool := fun _ ds => decide (uptoBulkAll ds ≤ 1048576)
def OpenSpec.upto (s : _root_.Go.ChangeSpec) : _root_.Go.OpenSpec := { _root_.Go.OpenSpec.ofChange s with cond := some uptoSmall }

/-- 'laws.FnExactIsBruhatBelow', WHERE WHAT IT READS IS OF BULK AT MOST 1048576: true; the input reads as it did. -/
def fnExactIsBruhatBelowUptoRow : OpenClaim := { program := "ytbeeblhmgpgkjaa", sum := "84bde76a91cf7763e33d0cbaba6282306e4a2846b357f9dd92b59455bfcc086f", func := "loop.example/g02076/laws.FnExactIsBruhatBelow", spec := "fnExactIsBruhatBelow", recurses := true, apart := false, narrowed := true }
def FnExactIsBruhatBelowUptoSaid : Prop := fnExactIsBruhatBelowUptoRow.holds Try.pinned (OpenSpec.upto fnExactIsBruhatBelowSpec)

/-- 'laws.FnExactIsInParabolic', WHERE WHAT IT READS IS OF BULK AT MOST 1048576: true; the input reads as it did. -/
def fnExactIsInParabolicUptoRow : OpenClaim := { program := "ytbeeblhmgpgkjaa", sum := "84bde76a91cf7763e33d0cbaba6282306e4a2846b357f9dd92b59455bfcc086f", func := "loop.example/g02076/laws.FnExactIsInParabolic", spec := "fnExactIsInParabolic", apart := false, narrowed := true }
def FnExactIsInParabolicUptoSaid : Prop := fnExactIsInParabolicUptoRow.holds Try.pinned (OpenSpec.upto fnExactIsInParabolicSpec)

/-- 'laws.FnExactStarWord', WHERE WHAT IT READS IS OF BULK AT MOST 1048576: true; the input reads as it did. -/
def fnExactStarWordUptoRow : OpenClaim := { program := "ytbeeblhmgpgkjaa", sum := "84bde76a91cf7763e33d0cbaba6282306e4a2846b357f9dd92b59455bfcc086f", func := "loop.example/g02076/laws.FnExactStarWord", spec := "fnExactStarWord", apart := false, narrowed := true }
def FnExactStarWordUptoSaid : Prop := fnExactStarWordUptoRow.holds Try.pinned (OpenSpec.upto fnExactStarWordSpec)

/-- 'laws.FnExactIsWeakBelow', WHERE WHAT IT READS IS OF BULK AT MOST 1048576: true; the input reads as it did. -/
def fnExactIsWeakBelowUptoRow : OpenClaim := { program := "ytbeeblhmgpgkjaa", sum := "84bde76a91cf7763e33d0cbaba6282306e4a2846b357f9dd92b59455bfcc086f", func := "loop.example/g02076/laws.FnExactIsWeakBelow", spec := "fnExactIsWeakBelow", apart := false, narrowed := true }
def FnExactIsWeakBelowUptoSaid : Prop := fnExactIsWeakBelowUptoRow.holds Try.pinned (OpenSpec.upto fnExactIsWeakBelowSpec)

/-- 'laws.FnExactSubwordOf', WHERE WHAT IT READS IS OF BULK AT MOST 1048576: true; the input reads as it did. -/
def fnExactSubwordOfUptoRow : OpenClaim := { program := "ytbeeblhmgpgkjaa", sum := "84bde76a91cf7763e33d0cbaba6282306e4a2846b357f9dd92b59455bfcc086f", func := "loop.example/g02076/laws.FnExactSubwordOf", spec := "fnExactSubwordOf", recurses := true, apart := false, narrowed := true }
def FnExactSubwordOfUptoSaid : Prop := fnExactSubwordOfUptoRow.holds Try.pinned (OpenSpec.upto fnExactSubwordOfSpec)

/-- 'laws.FnExactStarLetter', WHERE WHAT IT READS IS OF BULK AT MOST 1048576: true; the input reads as it did. -/
def fnExactStarLetterUptoRow : OpenClaim := { program := "ytbeeblhmgpgkjaa", sum := "84bde76a91cf7763e33d0cbaba6282306e4a2846b357f9dd92b59455bfcc086f", func := "loop.example/g02076/laws.FnExactStarLetter", spec := "fnExactStarLetter", apart := false, narrowed := true }
def FnExactStarLetterUptoSaid : Prop := fnExactStarLetterUptoRow.holds Try.pinned (OpenSpec.upto fnExactStarLetterSpec)

/-- 'laws.FnExactStarProduct', WHERE WHAT IT READS IS OF BULK AT MOST 1048576: true; the input reads as it did. -/
def fnExactStarProductUptoRow : OpenClaim := { program := "ytbeeblhmgpgkjaa", sum := "84bde76a91cf7763e33d0cbaba6282306e4a2846b357f9dd92b59455bfcc086f", func := "loop.example/g02076/laws.FnExactStarProduct", spec := "fnExactStarProduct", apart := false, narrowed := true }
def FnExactStarProductUptoSaid : Prop := fnExactStarProductUptoRow.holds Try.pinned (OpenSpec.upto fnExactStarProductSpec)

/-- 'laws.FnExactIsIdempotent', WHERE WHAT IT READS IS OF BULK AT MOST 1048576: true; the input reads as it did. -/
def fnExactIsIdempotentUptoRow : OpenClaim := { program := "ytbeeblhmgpgkjaa", sum := "84bde76a91cf7763e33d0cbaba6282306e4a2846b357f9dd92b59455bfcc086f", func := "loop.example/g02076/laws.FnExactIsIdempotent", spec := "fnExactIsIdempotent", apart := false, narrowed := true }
def FnExactIsIdempotentUptoSaid : Prop := fnExactIsIdempotentUptoRow.holds Try.pinned (OpenSpec.upto fnExactIsIdempotentSpec)

/-- 'laws.FnExactLeftParts', WHERE WHAT IT READS IS OF BULK AT MOST 1048576: true; the input reads as it did. -/
def fnExactLeftPartsUptoRow : OpenClaim := { program := "ytbeeblhmgpgkjaa", sum := "84bde76a91cf7763e33d0cbaba6282306e4a2846b357f9dd92b59455bfcc086f", func := "loop.example/g02076/laws.FnExactLeftParts", spec := "fnExactLeftParts", apart := false, narrowed := true }
def FnExactLeftPartsUptoSaid : Prop := fnExactLeftPartsUptoRow.holds Try.pinned (OpenSpec.upto fnExactLeftPartsSpec)

/-- 'laws.FnExactRightParts', WHERE WHAT IT READS IS OF BULK AT MOST 1048576: true; the input reads as it did. -/
def fnExactRightPartsUptoRow : OpenClaim := { program := "ytbeeblhmgpgkjaa", sum := "84bde76a91cf7763e33d0cbaba6282306e4a2846b357f9dd92b59455bfcc086f", func := "loop.example/g02076/laws.FnExactRightParts", spec := "fnExactRightParts", apart := false, narrowed := true }
def FnExactRightPartsUptoSaid : Prop := fnExactRightPartsUptoRow.holds Try.pinned (OpenSpec.upto fnExactRightPartsSpec)

/-- 'laws.FnExactStarPowers', WHERE WHAT IT READS IS OF BULK AT MOST 1048576: true; the input reads as it did. -/
def fnExactStarPowersUptoRow : OpenClaim := { program := "ytbeeblhmgpgkjaa", sum := "84bde76a91cf7763e33d0cbaba6282306e4a2846b357f9dd92b59455bfcc086f", func := "loop.example/g02076/laws.FnExactStarPowers", spec := "fnExactStarPowers", apart := false, narrowed := true }
def FnExactStarPowersUptoSaid : Prop := fnExactStarPowersUptoRow.holds Try.pinned (OpenSpec.upto fnExactStarPowersSpec)

/-- 'laws.FnExactDoubleMinimal', WHERE WHAT IT READS IS OF BULK AT MOST 1048576: true; the input reads as it did. -/
def fnExactDoubleMinimalUptoRow : OpenClaim := { program := "ytbeeblhmgpgkjaa", sum := "84bde76a91cf7763e33d0cbaba6282306e4a2846b357f9dd92b59455bfcc086f", func := "loop.example/g02076/laws.FnExactDoubleMinimal", spec := "fnExactDoubleMinimal", apart := false, narrowed := true }
def FnExactDoubleMinimalUptoSaid : Prop := fnExactDoubleMinimalUptoRow.holds Try.pinned (OpenSpec.upto fnExactDoubleMinimalSpec)

end Rows
end Go.Proofs.Ytbeeblhmgpgkjaa
