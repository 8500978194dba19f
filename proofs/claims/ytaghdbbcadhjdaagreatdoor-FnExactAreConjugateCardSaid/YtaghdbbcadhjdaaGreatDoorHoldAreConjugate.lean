/- The statement FnExactAreConjugate, and its tied card: the listed tables are what the program's text lays. -/
import Derived.Test.YtaghdbbcadhjdaaGreatDoorB20
import Derived.Test.YtaghdbbcadhjdaaGreatDoorRows
import Derived.Test.YtaghdbbcadhjdaaGreatDoorChecked
import Derived.Test.YtaghdbbcadhjdaaGreatDoorCards
import Derived.Test.YtaghdbbcadhjdaaGreatDoorTie
import Derived.JoinedTies
import Derived.ChangeSame
import Derived.JoinedOf
import Derived.JoinedAt
import Derived.JoinedStill
import Derived.RowKit
import Derived.Seven
import Derived.SevenTiedAt
import Derived.Lay
import Derived.LaidOnce
import Derived.LaidMore
import Derived.Stop.Joined
import Derived.Stop.LaidErr
set_option linter.unusedVariables false
set_option linter.unusedSimpArgs false
namespace Go.Proofs.YtaghdbbcadhjdaaGreatDoor
open Go Go.Aw Go.ChangeShapes Go.WideShapes Go.ChangeAt Go.RowKit
def fnExactAreConjugatelaid : List (String × DataW Unit) := [("unicode/utf8.acceptRanges", Rows.laid_unicode_utf8_acceptRanges), ("unicode/utf8.first", Rows.laid_unicode_utf8_first)]
set_option maxRecDepth 100000 in
theorem FnExactAreConjugate_lifted (os : Os) (started : os.Started) (H : Type) (enc : TypeId × Value → H) :
    ReturnsInHanded {} Tryz.checked os 8 .any (fun w args => (Rows.fnExactAreConjugateSpec.pre enc Tryz.prog Tryz.f8 [] false w args ∧ laidMetH Tryz.prog fnExactAreConjugatelaid w) ∧ sizedMet enc Tryz.prog Tryz.f8 (OpenSpec.ofChange Rows.fnExactAreConjugateSpec) false w args) (Rows.fnExactAreConjugateSpec.post enc Tryz.prog Tryz.f8 false true false false) := by
  refine handed_and_shaped (C := Tryz.checked) (X := fun w _ => laidMetH Tryz.prog fnExactAreConjugatelaid w) (fun _ _ _ hh h => h.of_heap hh) (by kernel_rfl) started (by kernel_rfl) Tryz.func8
    (ChangeSpec.witness_shaped (enc := enc) (C := Tryz.checked) (os := os) (X := fun w _ => laidMetH Tryz.prog fnExactAreConjugatelaid w) false (World.laidAll Tryz.prog os fnExactAreConjugatelaid) #[.slice none 0 0, .slice none 0 0, .slice none 0 0] 8 (World.laidAll_os _ _ _)
      (World.shaped_of_ZipB (by kernel_rfl) (by kernel_rfl)) (by kernel_rfl) (by kernel_rfl) (by kernel_rfl)
      (by rw [MakeChecks.laidMetH_plain _ _ _ (by kernel_rfl)]; exact laidMet_laidAll _ (by kernel_rfl) (by kernel_rfl))) ?_
  intro W base args ds gs before hval0 hW _ _ hL hSO _
  have hval : ∀ (j : Nat) t v, Tryz.f8.params[j]? = some t → args[j]? = some v → Value.okWide Tryz.prog W .any base t v := hval0
  have hW' := hW
  obtain ⟨p, q, hA0, hV, rfl, _, _⟩ := hW
  have hA : DataW.TrodAll enc Tryz.prog W 0 (fun _ => true) true Tryz.f8.params.toList args.toList ds p := hA0
  rw [Tryz.params8] at hA hval
  obtain ⟨rfl, rfl⟩ := trodVars_none hV
  clear hA0 hval0
  simp only [List.append_nil] at hW'
  have hlt : ∀ x ∈ p, x.block < W.heap.size := fun x hx => by simpa using hW'.lt x hx
  have hA1 := hA
  obtain ⟨v0, v1, v2, d0, d1, d2, p0, p1, p2, rfl, rfl, rfl, h0, h1, h2⟩ := trodAll_three hA
  obtain ⟨x0, k0, r0⟩ := arg_rows Tryz.underlying22 Tryz.underlying27 Tryz.underlying3 (by kernel_rfl) (by kernel_rfl) (B := BJ) (hval 0 22 v0 rfl rfl) h0
  obtain ⟨x1, k1, r1⟩ := arg_ints Tryz.underlying27 Tryz.underlying3 (by kernel_rfl) (B := BJ) (hval 1 27 v1 rfl rfl) h1
  obtain ⟨x2, k2, r2⟩ := arg_ints Tryz.underlying27 Tryz.underlying3 (by kernel_rfl) (B := BJ) (hval 2 27 v2 rfl rfl) h2
  refine (FunA.law (B := BJ) (W := W) (c_FnExactAreConjugate x0 x1 x2 k0 k1 k2) (vs := [v0, v1, v2]) rfl (args3 r0 r1 r2) (laidS hSO)).mono fun e W' ⟨he, hb⟩ => ?_
  subst he
  exact ⟨_, rfl, ⟨_, _, _, [], _, [], hW', trodAll_mk1 (shut_bool Tryz.underlying4 true), trodAll_below (by kernel_rfl) hb (by kernel_rfl) hA1 hlt, rfl, hb.frame _, fun h => by cases h⟩⟩
theorem FnExactAreConjugate_row : Rows.FnExactAreConjugateSaid :=
  OpenClaim.holds_of_wide 8 Tryz.f8 rfl rfl rfl rfl rfl rfl rfl ⟨rfl, rfl, rfl, rfl, rfl⟩ rfl rfl rfl rfl rfl (by kernel_rfl) Tryz.func8 (by kernel_rfl)
    (of_decide_eq_true (by kernel_rfl)) (by unfold Func.isWrapper; rw [if_neg (by decide +kernel)]; exact ⟨rfl, rfl⟩)
    (fun os started H enc _ => FnExactAreConjugate_lifted os started H enc)
theorem FnExactAreConjugateCard_holds : Rows.FnExactAreConjugateCardSaid :=
  Claim7.holds_tied_plain_at .later [] [.data, .pinned] true (true, "443641165c959ad9f3d8e32626d4915ce738a37b8355d601d242426d32410f1c") false
    FnExactAreConjugate_row (fun _ h => by cases h) (by kernel_rfl) (fun _ h => by cases h) fnExactAreConjugate_row_tie rfl ⟨rfl, rfl⟩ (by kernel_rfl) rfl
    (fun f fn hf hfn => by
      obtain rfl : f = 8 := Option.some.inj ((show Tryz.prog.funcNamed "loop.example/g02076/laws.FnExactAreConjugate" = some 8 by kernel_rfl).symm.trans hf) |>.symm
      obtain rfl : fn = Tryz.f8 := (Option.some.inj (Tryz.func8.symm.trans hfn)).symm
      exact ⟨by kernel_rfl, fun j t ht => by
        rw [Tryz.params8] at ht
        have hm : t ∈ [22, 27, 27] := by simpa using Array.mem_of_getElem? ht
        have hall : ([22, 27, 27].all fun u => !Tryz.prog.wantsStandIn u) = true := by kernel_rfl
        exact (show Tryz.prog.wantsStandIn t = false by simpa using List.all_eq_true.1 hall t hm)⟩)
    (by kernel_rfl)
end Go.Proofs.YtaghdbbcadhjdaaGreatDoor
