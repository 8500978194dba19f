/- The statement FnPolynomials, and its tied card: the listed tables are what the program's text lays. -/
import Derived.Test.YtbbnfljaojfmaaaDoorB9
import Derived.Test.YtbbnfljaojfmaaaDoorRows
import Derived.Test.YtbbnfljaojfmaaaDoorChecked
import Derived.Test.YtbbnfljaojfmaaaDoorCards
import Derived.Test.YtbbnfljaojfmaaaDoorTie
import Derived.JoinedTies
import Derived.ChangeSame
import Derived.JoinedOf
import Derived.JoinedAt
import Derived.JoinedStill
import Derived.RowKit
import Derived.Seven
import Derived.SevenTiedAt
import Derived.LaidMore
import Derived.Stop.Joined
import Derived.Stop.LaidErr
set_option linter.unusedVariables false
set_option linter.unusedSimpArgs false
namespace Go.Proofs.YtbbnfljaojfmaaaDoor
open Go Go.Aw Go.ChangeShapes Go.WideShapes Go.ChangeAt Go.RowKit
def fnPolynomialslaid : List (String × DataW Unit) := [("math/bits.deBruijn32tab", Rows.laid_math_bits_deBruijn32tab), ("math/bits.deBruijn64tab", Rows.laid_math_bits_deBruijn64tab), ("internal/strconv.uint64pow10", Rows.laid_internal_strconv_uint64pow10)]
theorem fnPolynomialsdoor (os : Os) (args : Array Value) : laidMetH Tryd.prog fnPolynomialslaid ((World.doorLaid Tryd.prog 24 os).forCall (fun _ _ => 0) ⟨#[], args, []⟩).memory :=
  laidMetH_of_parts3 (fuel := 8) (laidMet_of_run' 8 (by kernel_rfl) (by kernel_rfl)) (by kernel_rfl) (by kernel_rfl)
theorem fnPolynomialstab {W : World} (h : laidMetH Tryd.prog fnPolynomialslaid W) : Laid Tryd.prog W (fun _ => False) := by
  rw [MakeChecks.laidMetH_plain _ _ _ (by kernel_rfl)] at h
  exact fun g hg => ⟨fun k => k, Lib.tabIs_of_head hg (by rw [← Option.some.inj ((show Tryd.prog.globalNamed tabN = some 0 by kernel_rfl).symm.trans hg)]; kernel_rfl) Tryd.underlying61 Tryd.underlying53 (by kernel_rfl) (by kernel_rfl) (show laidMet Tryd.prog ((tabN, Lib.tabData .u64 Lib.pow10Tab) :: []) W from laidMet.tail (laidMet.tail (h)))⟩
set_option maxRecDepth 100000 in
theorem FnPolynomials_lifted (os : Os) (started : os.Started) (H : Type) (enc : TypeId × Value → H) :
    ReturnsInHanded {} Tryd.checked os 4 .any (fun w args => (Rows.fnPolynomialsSpec.pre enc Tryd.prog Tryd.f4 [] false w args ∧ laidMetH Tryd.prog fnPolynomialslaid w) ∧ sizedMet enc Tryd.prog Tryd.f4 (OpenSpec.ofChange Rows.fnPolynomialsSpec) false w args) (Rows.fnPolynomialsSpec.post enc Tryd.prog Tryd.f4 false true false false) := by
  refine returnsInHanded_of_change_and (C := Tryd.checked) (X := fun w _ => laidMetH Tryd.prog fnPolynomialslaid w) (fun _ _ _ hh h => h.of_heap hh) (by kernel_rfl) started (by kernel_rfl) Tryd.func4
    (ChangeSpec.witness_shaped (enc := enc) (C := Tryd.checked) (os := os) (X := fun w _ => laidMetH Tryd.prog fnPolynomialslaid w) false (World.doorLaid Tryd.prog 24 os) #[.slice none 0 0] 8 rfl (World.shaped_of_RefB (by kernel_rfl) (by kernel_rfl)) (by kernel_rfl) (by kernel_rfl) (by kernel_rfl) (fnPolynomialsdoor os _)) ?_
  intro W base args ds gs before hval0 hW _ _ hL _
  have hval : ∀ (j : Nat) t v, Tryd.f4.params[j]? = some t → args[j]? = some v → Value.okWide Tryd.prog W .any base t v := hval0
  have hW' := hW
  obtain ⟨p, q, hA0, hV, rfl, _, _⟩ := hW
  have hA : DataW.TrodAll enc Tryd.prog W 0 (fun _ => true) true Tryd.f4.params.toList args.toList ds p := hA0
  rw [Tryd.params4] at hA hval
  obtain ⟨rfl, rfl⟩ := trodVars_none hV
  clear hA0 hval0
  simp only [List.append_nil] at hW'
  have hlt : ∀ x ∈ p, x.block < W.heap.size := fun x hx => by simpa using hW'.lt x hx
  have hA1 := hA
  obtain ⟨v0, d0, rfl, rfl, h0⟩ := trodAll_one hA
  obtain ⟨x0, k0, r0⟩ := arg_bytes Tryd.underlying27 Tryd.underlying5 (by kernel_rfl) (B := B) (hval 0 27 v0 rfl rfl) h0
  refine (FunA.law (B := B) (W := W) (c_FnPolynomials x0 k0) (vs := [v0]) rfl (args1 r0) (fnPolynomialstab hL)).mono fun e W' ⟨he, hb⟩ => ?_
  subst he
  exact ⟨_, rfl, ⟨_, _, _, [], _, [], hW', trodAll_mk1 (shut_bool Tryd.underlying4 true), trodAll_below (by kernel_rfl) hb (by kernel_rfl) hA1 hlt, rfl, hb.frame _, fun h => by cases h⟩⟩
theorem FnPolynomials_row : Rows.FnPolynomialsSaid :=
  OpenClaim.holds_of_wide 4 Tryd.f4 rfl rfl rfl rfl rfl rfl rfl ⟨rfl, rfl, rfl, rfl, rfl⟩ rfl rfl rfl rfl rfl (by kernel_rfl) Tryd.func4 (by kernel_rfl)
    (of_decide_eq_true (by kernel_rfl)) (by unfold Func.isWrapper; rw [if_neg (by decide +kernel)]; exact ⟨rfl, rfl⟩)
    (fun os started H enc _ => FnPolynomials_lifted os started H enc)
theorem FnPolynomialsCard_holds : Rows.FnPolynomialsCardSaid :=
  Claim7.holds_tied_plain_at .later [] [.data, .data, .data] true (true, "172ad0680a6b95b9c78fac248318ec4ca10e7875a7b76847ab1a9aec068ee97a") false
    FnPolynomials_row (fun _ h => by cases h) (by kernel_rfl) (fun _ h => by cases h) fnPolynomials_row_tie rfl ⟨rfl, rfl⟩ (by kernel_rfl) rfl
    (fun f fn hf hfn => by
      obtain rfl : f = 4 := Option.some.inj ((show Tryd.prog.funcNamed "loop.example/g02076/laws.FnPolynomials" = some 4 by kernel_rfl).symm.trans hf) |>.symm
      obtain rfl : fn = Tryd.f4 := (Option.some.inj (Tryd.func4.symm.trans hfn)).symm
      exact ⟨by kernel_rfl, fun j t ht => by
        rw [Tryd.params4] at ht
        have hm : t ∈ [27] := by simpa using Array.mem_of_getElem? ht
        have hall : ([27].all fun u => !Tryd.prog.wantsStandIn u) = true := by kernel_rfl
        exact (show Tryd.prog.wantsStandIn t = false by simpa using List.all_eq_true.1 hall t hm)⟩)
    (by kernel_rfl)
end Go.Proofs.YtbbnfljaojfmaaaDoor
