/- A guarded call that is not carried out. -/
import Derived.Test.YtbeeblhmgpgkjaaAw27
set_option linter.unusedVariables false
set_option linter.unusedSimpArgs false
namespace Go.Aw
open Go

theorem CallG.off {C : Ctx} {obs : List O} {f : FuncId} {args : List AV} {K : AV → Prop} (x : AV) (hk : K x) : CallG C obs f args false fun y => Later (K y) :=
  ⟨x, ⟨fun h => Bool.noConfusion h, hk⟩⟩

theorem AW2 : type_of% @Int.toNat_natCast ∧ type_of% @beq_self_eq_true := ⟨@Int.toNat_natCast, @beq_self_eq_true⟩
theorem VB : type_of% @Bool.and_eq_true ∧ type_of% @Bool.or_eq_true ∧ type_of% @decide_eq_true_eq ∧ type_of% @Bool.not_eq_true' ∧ type_of% @beq_eq_false_iff_ne ∧ type_of% @beq_iff_eq ∧ type_of% @bne_iff_ne ∧ type_of% @ne_eq ∧ type_of% @decide_eq_false_iff_not :=
  ⟨@Bool.and_eq_true, @Bool.or_eq_true, @decide_eq_true_eq, @Bool.not_eq_true', @beq_eq_false_iff_ne, @beq_iff_eq, @bne_iff_ne, @ne_eq, @decide_eq_false_iff_not⟩
end Go.Aw
