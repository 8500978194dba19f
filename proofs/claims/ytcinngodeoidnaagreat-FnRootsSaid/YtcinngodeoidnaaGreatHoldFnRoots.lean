/- The statement FnRoots. -/
import Derived.Test.YtcinngodeoidnaaGreatB23
import Derived.Test.YtcinngodeoidnaaGreatRows
import Derived.Test.YtcinngodeoidnaaGreatChecked
import Derived.JoinedTies
import Derived.ChangeSame
import Derived.JoinedOf
import Derived.JoinedAt
import Derived.JoinedStill
import Derived.RowKit
import Derived.Seven
set_option linter.unusedVariables false
set_option linter.unusedSimpArgs false
namespace Go.Proofs.YtcinngodeoidnaaGreat
open Go Go.Aw Go.ChangeShapes Go.WideShapes Go.ChangeAt Go.RowKit
set_option maxRecDepth 100000 in
theorem FnRoots_lifted (os:Os) (started:os.Started) (H:Type) (enc:TypeId×Value->H) :
  ReturnsInHanded {} Tryz.checked os 4 .any (Rows.fnRootsSpec.pre6 enc Tryz.prog Tryz.f4 Rows.fnRootsRow.domain false) (Rows.fnRootsSpec.post enc Tryz.prog Tryz.f4 false true false false):=by
 refine returnsInHanded_of_change (C:=Tryz.checked) (by kernel_rfl) started (by kernel_rfl) Tryz.func4
  (ChangeSpec.witness6 (enc:=enc) (C:=Tryz.checked) false ⟨#[],#[.slice none 0 0],[]⟩ 8 (by kernel_rfl) (by kernel_rfl) (by kernel_rfl) (by kernel_rfl)) ?_
 intro W base args ds gs before hval0 hW _ _
 have hval:∀(j:Nat) t v,Tryz.f4.params[j]? = some t->args[j]? = some v->Value.okWide Tryz.prog W .any base t v:=hval0
 have hW':=hW
 obtain⟨p,q,hA0,hV,rfl,_,_⟩:=hW
 have hA:DataW.TrodAll enc Tryz.prog W 0 (fun _=>true) true Tryz.f4.params.toList args.toList ds p:=hA0
 rw [Tryz.params4]at hA hval
 obtain⟨rfl,rfl⟩:=trodVars_none hV
 clear hA0 hval0
 simp only [List.append_nil]at hW'
 have hlt:∀ x∈p,x.block < W.heap.size:=fun x hx=>by simpa using hW'.lt x hx
 have hA1:=hA
 obtain⟨v0,d0,rfl,rfl,h0⟩:=trodAll_one hA
 obtain⟨x0,k0,r0⟩:=arg_bytes Tryz.underlying22 Tryz.underlying5 (by kernel_rfl) (B:=B) (hval 0 22 v0 rfl rfl) h0
 refine(FunA.law (B:=B) (W:=W) (c_FnRoots x0 k0) (vs:=[v0]) rfl (args1 r0) ⟨fun g hg=>(nomatch ((show B.P.globalNamed tabN=none by kernel_rfl).symm.trans hg)),fun g hg=>(nomatch ((show B.P.globalNamed maxN=none by kernel_rfl).symm.trans hg))⟩).mono fun e W' ⟨he,hb⟩=>?_
 subst he
 exact⟨_,rfl,⟨_,_,_,[],_,[],hW',trodAll_mk1 (shut_bool Tryz.underlying4 true),trodAll_below (by kernel_rfl) hb (by kernel_rfl) hA1 hlt,rfl,hb.frame _,fun h=>by cases h⟩⟩
theorem FnRoots_holds:Rows.FnRootsSaid:=
 OpenClaim.holds_of_wide 4 Tryz.f4 rfl rfl rfl rfl rfl rfl rfl ⟨rfl,rfl,rfl,rfl,rfl⟩ rfl rfl rfl rfl rfl (by kernel_rfl) Tryz.func4 (by kernel_rfl)
  (of_decide_eq_true (by kernel_rfl)) (by unfold Func.isWrapper;rw [if_neg (by decide +kernel)];exact⟨rfl,rfl⟩)
  (fun os started H enc _=>FnRoots_lifted os started H enc)
end Go.Proofs.YtcinngodeoidnaaGreat
