/-
  NARROWER THAN 'FOR EVERY INPUT', by the rows' own cells (each row's printed sentence says how): FnExactLeftTable: laid · FnExactCosetLeaders: laid · FnExactCentralElements: laid · FnExactOrderCounts: laid · FnExactConjugacyClasses: laid · FnExactAreConjugate: laid.
  DERIVED. THE GIVEN ROWS OF THIS SEAT. 6 by the template 'for every input the law returns true; each argument reads behind the call as it read before'; 0 by the template 'total and deterministic' (their statements: YtaghdbbcadhjdaaGreatDoorTotals.lean).
  GIVEN WITH THE SEED: the statements are not yours to turn. If you find one false, say at which input.
  Laid BY PROGRAM, IN A SANDBOX (cutbox-rows.mjs): the forced cells as the released guide's own fill.sh prints them over the translation 7ad33ef4b4eded73… (all of the seat's roots in one cut). By AI agents, Wed Nov 11 2026. No macro, syntax, notation, axiom, sorry.
-/
import Derived.Test.YtaghdbbcadhjdaaGreatDoorChecked
import GoSem.PinnedTables
import GoSem.Claim
import GoSem.ClaimJoined
import GoSem.ClaimMapViews
import Derived.JoinedTies
import Derived.KernelRfl
namespace Go.Proofs.YtaghdbbcadhjdaaGreatDoor
/- THE CELL 'sum', in the pinned program and in every row, IS THE sha256 OF THE DUMP (.gsa) THAT YtaghdbbcadhjdaaGreatDoorProg.lean LOADS. Nothing in Lean hashes anything: it is a label: what it is worth is what the hold of that sum in a sandbox is worth. -/
noncomputable def Tryz.pinned : Pinned := { name := "ytaghdbbcadhjdaagreatdoor", sum := "7ad33ef4b4eded732cbcdc853f35254f8792acb804b9b448dd443c537d390c19", checked := Tryz.checked }
namespace Rows
def none {H : Type} : Left H := { results := [], args := [] }

/- WHAT THE LISTED PACKAGE-LEVEL VARIABLES READ AS WHEN THE CALL BEGINS. Each datum BY PROGRAM (the guide's laid-datum.mjs) off the statement by which the dump's own 'gosem.cut.vars' lays the variable. In a bare row this is a premise. The card (YtaghdbbcadhjdaaGreatDoorCards.lean) ties it to the program's text. -/
def laid_unicode_utf8_acceptRanges {H : Type} : DataW H := .agg [.agg [.lit (.int .u8 128), .lit (.int .u8 191)], .agg [.lit (.int .u8 160), .lit (.int .u8 191)], .agg [.lit (.int .u8 128), .lit (.int .u8 159)], .agg [.lit (.int .u8 144), .lit (.int .u8 191)], .agg [.lit (.int .u8 128), .lit (.int .u8 143)], .agg [.lit (.int .u8 0), .lit (.int .u8 0)], .agg [.lit (.int .u8 0), .lit (.int .u8 0)], .agg [.lit (.int .u8 0), .lit (.int .u8 0)], .agg [.lit (.int .u8 0), .lit (.int .u8 0)], .agg [.lit (.int .u8 0), .lit (.int .u8 0)], .agg [.lit (.int .u8 0), .lit (.int .u8 0)], .agg [.lit (.int .u8 0), .lit (.int .u8 0)], .agg [.lit (.int .u8 0), .lit (.int .u8 0)], .agg [.lit (.int .u8 0), .lit (.int .u8 0)], .agg [.lit (.int .u8 0), .lit (.int .u8 0)], .agg [.lit (.int .u8 0), .lit (.int .u8 0)]]
/-- One of Go's own tables, pinned by name: the form's constant. -/
def laid_unicode_utf8_first : DataW Unit := Go.Pinned.utf8First

/-- 'laws.FnExactLeftTable': WHATEVER THE INPUT: true; the input reads as it did. -/
def fnExactLeftTableSpec : ChangeSpec := { name := "fnExactLeftTable", fn := fun _ => fun
  | [d] => { results := [.lit (.bool true)], args := [d] }
  | _ => none }
def fnExactLeftTableRow : OpenClaim := { program := "ytaghdbbcadhjdaagreatdoor", sum := "7ad33ef4b4eded732cbcdc853f35254f8792acb804b9b448dd443c537d390c19", func := "loop.example/g02076/laws.FnExactLeftTable", spec := "fnExactLeftTable", inPlace := ["internal/bytealg.CountString", "internal/bytealg.IndexByteString", "internal/bytealg.IndexString", "internal/abi.NoEscape", "internal/bytealg.MakeNoZero"], unfollowed := true, recurses := true, named := ["unicode/utf8.first", "unicode/utf8.acceptRanges", "internal/bytealg.MaxLen"], plainKeys := false, apart := false, laid := [("unicode/utf8.acceptRanges", laid_unicode_utf8_acceptRanges), ("unicode/utf8.first", laid_unicode_utf8_first)] }
def FnExactLeftTableSaid : Prop := fnExactLeftTableRow.holds Tryz.pinned (OpenSpec.ofChange fnExactLeftTableSpec)

/-- ITS FALSE NEIGHBOUR: 'it returns false'. Refute it at one input. -/
def fnExactLeftTableWrong : ChangeSpec := { name := "fnExactLeftTable", fn := fun _ => fun
  | [d] => { results := [.lit (.bool false)], args := [d] }
  | _ => none }
def FnExactLeftTableWrongFalsely : Prop := fnExactLeftTableRow.holds Tryz.pinned (OpenSpec.ofChange fnExactLeftTableWrong)

/-- 'laws.FnExactCosetLeaders': WHATEVER THE INPUT: true; the input reads as it did. -/
def fnExactCosetLeadersSpec : ChangeSpec := { name := "fnExactCosetLeaders", fn := fun _ => fun
  | [d1, d2] => { results := [.lit (.bool true)], args := [d1, d2] }
  | _ => none }
def fnExactCosetLeadersRow : OpenClaim := { program := "ytaghdbbcadhjdaagreatdoor", sum := "7ad33ef4b4eded732cbcdc853f35254f8792acb804b9b448dd443c537d390c19", func := "loop.example/g02076/laws.FnExactCosetLeaders", spec := "fnExactCosetLeaders", inPlace := ["internal/bytealg.CountString", "internal/bytealg.IndexByteString", "internal/bytealg.IndexString", "internal/abi.NoEscape", "internal/bytealg.MakeNoZero"], unfollowed := true, recurses := true, named := ["unicode/utf8.first", "unicode/utf8.acceptRanges", "internal/bytealg.MaxLen"], plainKeys := false, apart := false, laid := [("unicode/utf8.acceptRanges", laid_unicode_utf8_acceptRanges), ("unicode/utf8.first", laid_unicode_utf8_first)] }
def FnExactCosetLeadersSaid : Prop := fnExactCosetLeadersRow.holds Tryz.pinned (OpenSpec.ofChange fnExactCosetLeadersSpec)

/-- ITS FALSE NEIGHBOUR: 'it returns false'. Refute it at one input. -/
def fnExactCosetLeadersWrong : ChangeSpec := { name := "fnExactCosetLeaders", fn := fun _ => fun
  | [d1, d2] => { results := [.lit (.bool false)], args := [d1, d2] }
  | _ => none }
def FnExactCosetLeadersWrongFalsely : Prop := fnExactCosetLeadersRow.holds Tryz.pinned (OpenSpec.ofChange fnExactCosetLeadersWrong)

/-- 'laws.FnExactCentralElements': WHATEVER THE INPUT: true; the input reads as it did. -/
def fnExactCentralElementsSpec : ChangeSpec := { name := "fnExactCentralElements", fn := fun _ => fun
  | [d] => { results := [.lit (.bool true)], args := [d] }
  | _ => none }
def fnExactCentralElementsRow : OpenClaim := { program := "ytaghdbbcadhjdaagreatdoor", sum := "7ad33ef4b4eded732cbcdc853f35254f8792acb804b9b448dd443c537d390c19", func := "loop.example/g02076/laws.FnExactCentralElements", spec := "fnExactCentralElements", inPlace := ["internal/bytealg.CountString", "internal/bytealg.IndexByteString", "internal/bytealg.IndexString", "internal/abi.NoEscape", "internal/bytealg.MakeNoZero"], unfollowed := true, recurses := true, named := ["unicode/utf8.first", "unicode/utf8.acceptRanges", "internal/bytealg.MaxLen"], plainKeys := false, apart := false, laid := [("unicode/utf8.acceptRanges", laid_unicode_utf8_acceptRanges), ("unicode/utf8.first", laid_unicode_utf8_first)] }
def FnExactCentralElementsSaid : Prop := fnExactCentralElementsRow.holds Tryz.pinned (OpenSpec.ofChange fnExactCentralElementsSpec)

/-- ITS FALSE NEIGHBOUR: 'it returns false'. Refute it at one input. -/
def fnExactCentralElementsWrong : ChangeSpec := { name := "fnExactCentralElements", fn := fun _ => fun
  | [d] => { results := [.lit (.bool false)], args := [d] }
  | _ => none }
def FnExactCentralElementsWrongFalsely : Prop := fnExactCentralElementsRow.holds Tryz.pinned (OpenSpec.ofChange fnExactCentralElementsWrong)

/-- 'laws.FnExactOrderCounts': WHATEVER THE INPUT: true; the input reads as it did. -/
def fnExactOrderCountsSpec : ChangeSpec := { name := "fnExactOrderCounts", fn := fun _ => fun
  | [d] => { results := [.lit (.bool true)], args := [d] }
  | _ => none }
def fnExactOrderCountsRow : OpenClaim := { program := "ytaghdbbcadhjdaagreatdoor", sum := "7ad33ef4b4eded732cbcdc853f35254f8792acb804b9b448dd443c537d390c19", func := "loop.example/g02076/laws.FnExactOrderCounts", spec := "fnExactOrderCounts", inPlace := ["internal/bytealg.CountString", "internal/bytealg.IndexByteString", "internal/bytealg.IndexString", "internal/abi.NoEscape", "internal/bytealg.MakeNoZero"], unfollowed := true, recurses := true, named := ["unicode/utf8.first", "unicode/utf8.acceptRanges", "internal/bytealg.MaxLen"], plainKeys := false, apart := false, laid := [("unicode/utf8.acceptRanges", laid_unicode_utf8_acceptRanges), ("unicode/utf8.first", laid_unicode_utf8_first)] }
def FnExactOrderCountsSaid : Prop := fnExactOrderCountsRow.holds Tryz.pinned (OpenSpec.ofChange fnExactOrderCountsSpec)

/-- ITS FALSE NEIGHBOUR: 'it returns false'. Refute it at one input. -/
def fnExactOrderCountsWrong : ChangeSpec := { name := "fnExactOrderCounts", fn := fun _ => fun
  | [d] => { results := [.lit (.bool false)], args := [d] }
  | _ => none }
def FnExactOrderCountsWrongFalsely : Prop := fnExactOrderCountsRow.holds Tryz.pinned (OpenSpec.ofChange fnExactOrderCountsWrong)

/-- 'laws.FnExactConjugacyClasses': WHATEVER THE INPUT: true; the input reads as it did. -/
def fnExactConjugacyClassesSpec : ChangeSpec := { name := "fnExactConjugacyClasses", fn := fun _ => fun
  | [d] => { results := [.lit (.bool true)], args := [d] }
  | _ => none }
def fnExactConjugacyClassesRow : OpenClaim := { program := "ytaghdbbcadhjdaagreatdoor", sum := "7ad33ef4b4eded732cbcdc853f35254f8792acb804b9b448dd443c537d390c19", func := "loop.example/g02076/laws.FnExactConjugacyClasses", spec := "fnExactConjugacyClasses", inPlace := ["internal/bytealg.CountString", "internal/bytealg.IndexByteString", "internal/bytealg.IndexString", "internal/abi.NoEscape", "internal/bytealg.MakeNoZero"], unfollowed := true, recurses := true, named := ["unicode/utf8.first", "unicode/utf8.acceptRanges", "internal/bytealg.MaxLen"], plainKeys := false, apart := false, laid := [("unicode/utf8.acceptRanges", laid_unicode_utf8_acceptRanges), ("unicode/utf8.first", laid_unicode_utf8_first)] }
def FnExactConjugacyClassesSaid : Prop := fnExactConjugacyClassesRow.holds Tryz.pinned (OpenSpec.ofChange fnExactConjugacyClassesSpec)

/-- ITS FALSE NEIGHBOUR: 'it returns false'. Refute it at one input. -/
def fnExactConjugacyClassesWrong : ChangeSpec := { name := "fnExactConjugacyClasses", fn := fun _ => fun
  | [d] => { results := [.lit (.bool false)], args := [d] }
  | _ => none }
def FnExactConjugacyClassesWrongFalsely : Prop := fnExactConjugacyClassesRow.holds Tryz.pinned (OpenSpec.ofChange fnExactConjugacyClassesWrong)

/-- 'laws.FnExactAreConjugate': WHATEVER THE INPUT: true; the input reads as it did. -/
def fnExactAreConjugateSpec : ChangeSpec := { name := "fnExactAreConjugate", fn := fun _ => fun
  | [d1, d2, d3] => { results := [.lit (.bool true)], args := [d1, d2, d3] }
  | _ => none }
def fnExactAreConjugateRow : OpenClaim := { program := "ytaghdbbcadhjdaagreatdoor", sum := "7ad33ef4b4eded732cbcdc853f35254f8792acb804b9b448dd443c537d390c19", func := "loop.example/g02076/laws.FnExactAreConjugate", spec := "fnExactAreConjugate", inPlace := ["internal/bytealg.CountString", "internal/bytealg.IndexByteString", "internal/bytealg.IndexString", "internal/abi.NoEscape", "internal/bytealg.MakeNoZero"], unfollowed := true, recurses := true, named := ["unicode/utf8.first", "unicode/utf8.acceptRanges", "internal/bytealg.MaxLen"], plainKeys := false, apart := false, laid := [("unicode/utf8.acceptRanges", laid_unicode_utf8_acceptRanges), ("unicode/utf8.first", laid_unicode_utf8_first)] }
def FnExactAreConjugateSaid : Prop := fnExactAreConjugateRow.holds Tryz.pinned (OpenSpec.ofChange fnExactAreConjugateSpec)

/-- ITS FALSE NEIGHBOUR: 'it returns false'. Refute it at one input. -/
def fnExactAreConjugateWrong : ChangeSpec := { name := "fnExactAreConjugate", fn := fun _ => fun
  | [d1, d2, d3] => { results := [.lit (.bool false)], args := [d1, d2, d3] }
  | _ => none }
def FnExactAreConjugateWrongFalsely : Prop := fnExactAreConjugateRow.holds Tryz.pinned (OpenSpec.ofChange fnExactAreConjugateWrong)

/- THE SECOND FORM. 'bulk': how many values and letters a reading holds, each counted each time it is reached (what is shared counts as often as it is met; a slice's spare places count too). A statement '..UptoSaid' is the law's where the arguments, and the package variables that the reading takes, are together of bulk at most 1048576: NARROWER than '..Said'. Prove '..Said' where nothing that the law and all that it calls make is longer than what came in: it says more and counts as full. Else prove '..UptoSaid'. A law counts once. -/
mutual
def uptoBulk {H : Type} : DataW H → Nat
  | .lit (.string bytes) => bytes.length + 1
  | .lit _ => 1
  | .nil => 1
  | .ptr d => uptoBulk d + 1
  | .slice elems spare => uptoBulkAll elems + uptoBulkAll spare + 1
  | .agg parts => uptoBulkAll parts + 1
  | .iface _ d => uptoBulk d + 1
  | .map entries => uptoBulkEntries entries + 1
  | .held _ => 1
def uptoBulkAll {H : Type} : List (DataW H) → Nat
  | [] => 0
  | d :: r => uptoBulk d + uptoBulkAll r
def uptoBulkEntries {H : Type} : List (Lit × DataW H) → Nat
  | [] => 0
  | x :: r => uptoBulkEntry x + uptoBulkEntries r
def uptoBulkEntry {H : Type} : Lit × DataW H → Nat
  | (.string bytes, d) => bytes.length + uptoBulk d + 1
  | (_, d) => uptoBulk d + 1
 end
def uptoSmall : (H : Type) → List (DataW H) → Bool := fun _ ds => decide (uptoBulkAll ds ≤ 1048576)
def OpenSpec.upto (s : _root_.Go.ChangeSpec) : _root_.Go.OpenSpec := { _root_.Go.OpenSpec.ofChange s with cond := some uptoSmall }

/-- 'laws.FnExactLeftTable', WHERE WHAT IT READS IS OF BULK AT MOST 1048576: true; the input reads as it did. -/
def fnExactLeftTableUptoRow : OpenClaim := { program := "ytaghdbbcadhjdaagreatdoor", sum := "7ad33ef4b4eded732cbcdc853f35254f8792acb804b9b448dd443c537d390c19", func := "loop.example/g02076/laws.FnExactLeftTable", spec := "fnExactLeftTable", inPlace := ["internal/bytealg.CountString", "internal/bytealg.IndexByteString", "internal/bytealg.IndexString", "internal/abi.NoEscape", "internal/bytealg.MakeNoZero"], unfollowed := true, recurses := true, named := ["unicode/utf8.first", "unicode/utf8.acceptRanges", "internal/bytealg.MaxLen"], plainKeys := false, apart := false, laid := [("unicode/utf8.acceptRanges", laid_unicode_utf8_acceptRanges), ("unicode/utf8.first", laid_unicode_utf8_first)], narrowed := true }
def FnExactLeftTableUptoSaid : Prop := fnExactLeftTableUptoRow.holds Tryz.pinned (OpenSpec.upto fnExactLeftTableSpec)

/-- 'laws.FnExactCosetLeaders', WHERE WHAT IT READS IS OF BULK AT MOST 1048576: true; the input reads as it did. -/
def fnExactCosetLeadersUptoRow : OpenClaim := { program := "ytaghdbbcadhjdaagreatdoor", sum := "7ad33ef4b4eded732cbcdc853f35254f8792acb804b9b448dd443c537d390c19", func := "loop.example/g02076/laws.FnExactCosetLeaders", spec := "fnExactCosetLeaders", inPlace := ["internal/bytealg.CountString", "internal/bytealg.IndexByteString", "internal/bytealg.IndexString", "internal/abi.NoEscape", "internal/bytealg.MakeNoZero"], unfollowed := true, recurses := true, named := ["unicode/utf8.first", "unicode/utf8.acceptRanges", "internal/bytealg.MaxLen"], plainKeys := false, apart := false, laid := [("unicode/utf8.acceptRanges", laid_unicode_utf8_acceptRanges), ("unicode/utf8.first", laid_unicode_utf8_first)], narrowed := true }
def FnExactCosetLeadersUptoSaid : Prop := fnExactCosetLeadersUptoRow.holds Tryz.pinned (OpenSpec.upto fnExactCosetLeadersSpec)

/-- 'laws.FnExactCentralElements', WHERE WHAT IT READS IS OF BULK AT MOST 1048576: true; the input reads as it did. -/
def fnExactCentralElementsUptoRow : OpenClaim := { program := "ytaghdbbcadhjdaagreatdoor", sum := "7ad33ef4b4eded732cbcdc853f35254f8792acb804b9b448dd443c537d390c19", func := "loop.example/g02076/laws.FnExactCentralElements", spec := "fnExactCentralElements", inPlace := ["internal/bytealg.CountString", "internal/bytealg.IndexByteString", "internal/bytealg.IndexString", "internal/abi.NoEscape", "internal/bytealg.MakeNoZero"], unfollowed := true, recurses := true, named := ["unicode/utf8.first", "unicode/utf8.acceptRanges", "internal/bytealg.MaxLen"], plainKeys := false, apart := false, laid := [("unicode/utf8.acceptRanges", laid_unicode_utf8_acceptRanges), ("unicode/utf8.first", laid_unicode_utf8_first)], narrowed := true }
def FnExactCentralElementsUptoSaid : Prop := fnExactCentralElementsUptoRow.holds Tryz.pinned (OpenSpec.upto fnExactCentralElementsSpec)

/-- 'laws.FnExactOrderCounts', WHERE WHAT IT READS IS OF BULK AT MOST 1048576: true; the input reads as it did. -/
def fnExactOrderCountsUptoRow : OpenClaim := { program := "ytaghdbbcadhjdaagreatdoor", sum := "7ad33ef4b4eded732cbcdc853f35254f8792acb804b9b448dd443c537d390c19", func := "loop.example/g02076/laws.FnExactOrderCounts", spec := "fnExactOrderCounts", inPlace := ["internal/bytealg.CountString", "internal/bytealg.IndexByteString", "internal/bytealg.IndexString", "internal/abi.NoEscape", "internal/bytealg.MakeNoZero"], unfollowed := true, recurses := true, named := ["unicode/utf8.first", "unicode/utf8.acceptRanges", "internal/bytealg.MaxLen"], plainKeys := false, apart := false, laid := [("unicode/utf8.acceptRanges", laid_unicode_utf8_acceptRanges), ("unicode/utf8.first", laid_unicode_utf8_first)], narrowed := true }
def FnExactOrderCountsUptoSaid : Prop := fnExactOrderCountsUptoRow.holds Tryz.pinned (OpenSpec.upto fnExactOrderCountsSpec)

/-- 'laws.FnExactConjugacyClasses', WHERE WHAT IT READS IS OF BULK AT MOST 1048576: true; the input reads as it did. -/
def fnExactConjugacyClassesUptoRow : OpenClaim := { program := "ytaghdbbcadhjdaagreatdoor", sum := "7ad33ef4b4eded732cbcdc853f35254f8792acb804b9b448dd443c537d390c19", func := "loop.example/g02076/laws.FnExactConjugacyClasses", spec := "fnExactConjugacyClasses", inPlace := ["internal/bytealg.CountString", "internal/bytealg.IndexByteString", "internal/bytealg.IndexString", "internal/abi.NoEscape", "internal/bytealg.MakeNoZero"], unfollowed := true, recurses := true, named := ["unicode/utf8.first", "unicode/utf8.acceptRanges", "internal/bytealg.MaxLen"], plainKeys := false, apart := false, laid := [("unicode/utf8.acceptRanges", laid_unicode_utf8_acceptRanges), ("unicode/utf8.first", laid_unicode_utf8_first)], narrowed := true }
def FnExactConjugacyClassesUptoSaid : Prop := fnExactConjugacyClassesUptoRow.holds Tryz.pinned (OpenSpec.upto fnExactConjugacyClassesSpec)

/-- 'laws.FnExactAreConjugate', WHERE WHAT IT READS IS OF BULK AT MOST 1048576: true; the input reads as it did. -/
def fnExactAreConjugateUptoRow : OpenClaim := { program := "ytaghdbbcadhjdaagreatdoor", sum := "7ad33ef4b4eded732cbcdc853f35254f8792acb804b9b448dd443c537d390c19", func := "loop.example/g02076/laws.FnExactAreConjugate", spec := "fnExactAreConjugate", inPlace := ["internal/bytealg.CountString", "internal/bytealg.IndexByteString", "internal/bytealg.IndexString", "internal/abi.NoEscape", "internal/bytealg.MakeNoZero"], unfollowed := true, recurses := true, named := ["unicode/utf8.first", "unicode/utf8.acceptRanges", "internal/bytealg.MaxLen"], plainKeys := false, apart := false, laid := [("unicode/utf8.acceptRanges", laid_unicode_utf8_acceptRanges), ("unicode/utf8.first", laid_unicode_utf8_first)], narrowed := true }
def FnExactAreConjugateUptoSaid : Prop := fnExactAreConjugateUptoRow.holds Tryz.pinned (OpenSpec.upto fnExactAreConjugateSpec)

end Rows
end Go.Proofs.YtaghdbbcadhjdaaGreatDoor
