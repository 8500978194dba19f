/- The statement FnExactDoubleMinimal. -/
import Derived.Test.YtbeeblhmgpgkjaaLawDoubleMinimal
import Derived.Test.YtbeeblhmgpgkjaaRows
import Derived.Test.YtbeeblhmgpgkjaaChecked
import Derived.JoinedTies
import Derived.ChangeSame
import Derived.JoinedOf
import Derived.JoinedAt
import Derived.JoinedStill
import Derived.RowKit
import Derived.Seven
set_option linter.unusedVariables false
set_option linter.unusedSimpArgs false
namespace Go.Proofs.Ytbeeblhmgpgkjaa
open Go Go.Aw Go.ChangeShapes Go.WideShapes Go.ChangeAt Go.RowKit
set_option linter.unusedVariables false
theorem args4 {V : Vw} {x x1 x2 x3 : AV} {v v1 v2 v3 : Value} (h : AVRel V [] (fun _ => undef) x v) (h1 : AVRel V [] (fun _ => undef) x1 v1) (h2 : AVRel V [] (fun _ => undef) x2 v2) (h3 : AVRel V [] (fun _ => undef) x3 v3) : ∀ (i : Nat) (y : AV) (u : Value), [x, x1, x2, x3][i]? = some y → [v, v1, v2, v3][i]? = some u → AVRel V [] (fun _ => undef) y u := by
  intro i y u hy hu
  match i, hy, hu with
  | 0, hy, hu => simp at hy hu; subst hy hu; exact h
  | 1, hy, hu => simp at hy hu; subst hy hu; exact h1
  | 2, hy, hu => simp at hy hu; subst hy hu; exact h2
  | 3, hy, hu => simp at hy hu; subst hy hu; exact h3
set_option maxRecDepth 100000 in
theorem FnExactDoubleMinimal_lifted (os : Os) (started : os.Started) (H : Type) (enc : TypeId × Value → H) :
    ReturnsInHanded {} Try.checked os 14 .any (Rows.fnExactDoubleMinimalSpec.pre6 enc Try.prog Try.f14 Rows.fnExactDoubleMinimalRow.domain false) (Rows.fnExactDoubleMinimalSpec.post enc Try.prog Try.f14 false true false false) := by
  refine returnsInHanded_of_change (C := Try.checked) (by kernel_rfl) started (by kernel_rfl) Try.func14
    (ChangeSpec.witness6 (enc := enc) (C := Try.checked) false ⟨#[], #[.slice none 0 0, .slice none 0 0, .slice none 0 0, .slice none 0 0], []⟩ 8 (by kernel_rfl) (by kernel_rfl) (by kernel_rfl) (by kernel_rfl)) ?_
  intro W base args ds gs before hval0 hW _ _
  have hval : ∀ (j : Nat) t v, Try.f14.params[j]? = some t → args[j]? = some v → Value.okWide Try.prog W .any base t v := hval0
  have hW' := hW
  obtain ⟨p, q, hA0, hV, rfl, _, _⟩ := hW
  have hA : DataW.TrodAll enc Try.prog W 0 (fun _ => true) true Try.f14.params.toList args.toList ds p := hA0
  rw [Try.params14] at hA hval
  obtain ⟨rfl, rfl⟩ := trodVars_none hV
  clear hA0 hval0
  simp only [List.append_nil] at hW'
  have hlt : ∀ x ∈ p, x.block < W.heap.size := fun x hx => by simpa using hW'.lt x hx
  have hA1 := hA
  obtain ⟨v0, v1, v2, v3, d0, d1, d2, d3, p0, p1, p2, p3, rfl, rfl, rfl, h0, h1, h2, h3⟩ := trodAll_four hA
  obtain ⟨x0, k0, r0⟩ := arg_rows Try.underlying22 Try.underlying23 Try.underlying3 (by kernel_rfl) (by kernel_rfl) (B := B) (hval 0 22 v0 rfl rfl) h0
  obtain ⟨x1, k1, r1⟩ := arg_ints Try.underlying23 Try.underlying3 (by kernel_rfl) (B := B) (hval 1 23 v1 rfl rfl) h1
  obtain ⟨x2, k2, r2⟩ := arg_ints Try.underlying23 Try.underlying3 (by kernel_rfl) (B := B) (hval 2 23 v2 rfl rfl) h2
  obtain ⟨x3, k3, r3⟩ := arg_ints Try.underlying23 Try.underlying3 (by kernel_rfl) (B := B) (hval 3 23 v3 rfl rfl) h3
  refine (FunA.law (B := B) (W := W) (c_FnExactDoubleMinimal x0 x1 x2 x3 k0 k1 k2 k3) (vs := [v0, v1, v2, v3]) rfl (args4 r0 r1 r2 r3)).mono fun e W' ⟨he, hb⟩ => ?_
  subst he
  exact ⟨_, rfl, ⟨_, _, _, [], _, [], hW', trodAll_mk1 (shut_bool Try.underlying4 true), trodAll_below (by kernel_rfl) hb (by kernel_rfl) hA1 hlt, rfl, hb.frame _, fun h => by cases h⟩⟩

theorem FnExactDoubleMinimal_holds : Rows.FnExactDoubleMinimalSaid :=
  OpenClaim.holds_of_wide 14 Try.f14 rfl rfl rfl rfl rfl rfl rfl ⟨rfl, rfl, rfl, rfl, rfl⟩ rfl rfl rfl rfl rfl (by kernel_rfl) Try.func14 (by kernel_rfl)
    (of_decide_eq_true (by kernel_rfl)) (by unfold Func.isWrapper; rw [if_neg (by decide +kernel)]; exact ⟨rfl, rfl⟩)
    (fun os started H enc _ => FnExactDoubleMinimal_lifted os started H enc)

end Go.Proofs.Ytbeeblhmgpgkjaa
