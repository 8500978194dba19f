/- The statement FnExactFactorReflections. -/
import Derived.Test.YtcinngodeoidnaaGreatLawFactorReflections
import Derived.Test.YtcinngodeoidnaaGreatRows
import Derived.Test.YtcinngodeoidnaaGreatChecked
import Derived.JoinedTies
import Derived.ChangeSame
import Derived.JoinedOf
import Derived.JoinedAt
import Derived.JoinedStill
import Derived.RowKit
import Derived.Seven
set_option linter.unusedVariables false
set_option linter.unusedSimpArgs false
namespace Go.Proofs.YtcinngodeoidnaaGreat
open Go Go.Aw Go.ChangeShapes Go.WideShapes Go.ChangeAt Go.RowKit
set_option maxRecDepth 100000 in
theorem FnExactFactorReflections_lifted (os:Os) (started:os.Started) (H:Type) (enc:TypeId×Value->H) :
  ReturnsInHanded {} Tryz.checked os 6 .any (Rows.fnExactFactorReflectionsSpec.pre6 enc Tryz.prog Tryz.f6 Rows.fnExactFactorReflectionsRow.domain false) (Rows.fnExactFactorReflectionsSpec.post enc Tryz.prog Tryz.f6 false true false false):=by
 refine returnsInHanded_of_change (C:=Tryz.checked) (by kernel_rfl) started (by kernel_rfl) Tryz.func6
  (ChangeSpec.witness6 (enc:=enc) (C:=Tryz.checked) false ⟨#[],#[.slice none 0 0,.slice none 0 0],[]⟩ 8 (by kernel_rfl) (by kernel_rfl) (by kernel_rfl) (by kernel_rfl)) ?_
 intro W base args ds gs before hval0 hW _ _
 have hval:∀(j:Nat) t v,Tryz.f6.params[j]? = some t->args[j]? = some v->Value.okWide Tryz.prog W .any base t v:=hval0
 have hW':=hW
 obtain⟨p,q,hA0,hV,rfl,_,_⟩:=hW
 have hA:DataW.TrodAll enc Tryz.prog W 0 (fun _=>true) true Tryz.f6.params.toList args.toList ds p:=hA0
 rw [Tryz.params6]at hA hval
 obtain⟨rfl,rfl⟩:=trodVars_none hV
 clear hA0 hval0
 simp only [List.append_nil]at hW'
 have hlt:∀ x∈p,x.block < W.heap.size:=fun x hx=>by simpa using hW'.lt x hx
 have hA1:=hA
 obtain⟨v0,v1,d0,d1,p0,p1,rfl,rfl,rfl,h0,h1⟩:=trodAll_two hA
 obtain⟨x0,k0,r0⟩:=arg_rows Tryz.underlying24 Tryz.underlying25 Tryz.underlying3 (by kernel_rfl) (by kernel_rfl) (B:=B) (hval 0 24 v0 rfl rfl) h0
 obtain⟨x1,k1,r1⟩:=arg_ints Tryz.underlying25 Tryz.underlying3 (by kernel_rfl) (B:=B) (hval 1 25 v1 rfl rfl) h1
 refine(FunA.law (B:=B) (W:=W) (c_FnExactFactorReflections x0 x1 k0 k1) (vs:=[v0,v1]) rfl (args2 r0 r1) ⟨fun g hg=>(nomatch ((show B.P.globalNamed tabN=none by kernel_rfl).symm.trans hg)),fun g hg=>(nomatch ((show B.P.globalNamed maxN=none by kernel_rfl).symm.trans hg))⟩).mono fun e W' ⟨he,hb⟩=>?_
 subst he
 exact⟨_,rfl,⟨_,_,_,[],_,[],hW',trodAll_mk1 (shut_bool Tryz.underlying4 true),trodAll_below (by kernel_rfl) hb (by kernel_rfl) hA1 hlt,rfl,hb.frame _,fun h=>by cases h⟩⟩
theorem FnExactFactorReflections_holds:Rows.FnExactFactorReflectionsSaid:=
 OpenClaim.holds_of_wide 6 Tryz.f6 rfl rfl rfl rfl rfl rfl rfl ⟨rfl,rfl,rfl,rfl,rfl⟩ rfl rfl rfl rfl rfl (by kernel_rfl) Tryz.func6 (by kernel_rfl)
  (of_decide_eq_true (by kernel_rfl)) (by unfold Func.isWrapper;rw [if_neg (by decide +kernel)];exact⟨rfl,rfl⟩)
  (fun os started H enc _=>FnExactFactorReflections_lifted os started H enc)
end Go.Proofs.YtcinngodeoidnaaGreat
