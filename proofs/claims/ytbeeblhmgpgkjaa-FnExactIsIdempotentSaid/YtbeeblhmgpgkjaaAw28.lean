/- A guarded call that is not carried out. -/
import Derived.Test.YtbeeblhmgpgkjaaAw27
set_option linter.unusedVariables false
set_option linter.unusedSimpArgs false
namespace Go.Aw
open Go

theorem CallG.off {C : Ctx} {obs : List O} {f : FuncId} {args : List AV} {K : AV → Prop} (x : AV) (hk : K x) : CallG C obs f args false fun y => Later (K y) :=
  ⟨x, ⟨fun h => Bool.noConfusion h, hk⟩⟩

end Go.Aw
