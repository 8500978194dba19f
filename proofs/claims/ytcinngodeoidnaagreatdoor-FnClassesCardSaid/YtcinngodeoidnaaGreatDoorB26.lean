/- The first element that conjugates one element to another one: what the functions of both sides do. -/
import Derived.Test.YtcinngodeoidnaaGreatDoorB22
import Derived.Test.YtcinngodeoidnaaGreatDoorB15
import Derived.Test.YtcinngodeoidnaaGreatDoorB12
import Derived.Test.YtcinngodeoidnaaGreatDoorB25
import Derived.Test.YtcinngodeoidnaaGreatDoorB23
import Derived.Test.YtcinngodeoidnaaGreatDoorB11
set_option linter.unusedVariables false
set_option linter.unusedSimpArgs false
namespace Go.Proofs.YtcinngodeoidnaaGreatDoor
open Go Go.Aw Go.Cox
noncomputable def cjT (c:LL) (a b x:LI):Bool:=cjB c a x && (imageL c (cjX c a x) == imageL c b)
noncomputable def acB (c:LL) (a b:LI):Bool:=elsB c 48 && wordB c a && wordB c b && (allL c).any (cjT c a b)
noncomputable def acX (c:LL) (a b:LI):List Int:=if acB c a b then((allL c).find? (cjT c a b)).getD []else []
theorem ac_off {c:LL} {a b:LI} (h:(elsB c 48 && wordB c a && wordB c b)=false):acB c a b=false/\acX c a b=[]:=by
 have:acB c a b=false:=by unfold acB;rw [h];rfl
 exact⟨this,by unfold acX;rw [this];rfl⟩
theorem find_pre {α:Type} (p:α->Bool) (d:α):∀(l:List α) (k:Nat),k < l.length->p (l.getD k d)=true->(∀ j,j < k->p (l.getD j d)=false)->l.find? p=some (l.getD k d)
 | [],k,h,_,_=>by simp at h
 | x :: l,0,_,h2,_=>by simp only [List.getD_cons_zero]at h2 ⊢;simp [h2]
 | x :: l,k+1,h,h2,h3=>by
  have h0:=h3 0 om
  simp only [List.getD_cons_zero]at h0
  rw [List.find?_cons,h0]
  simp only [List.getD_cons_succ]at h2 ⊢
  exact find_pre p d l k (by simpa using h) h2 (fun j hj=>by have:=h3 (j+1) om;simpa using this)
theorem ac_hit {c:LL} {a b:LI} (h:(elsB c 48 && wordB c a && wordB c b)=true) {k:Nat} (hk:k < (allL c).length) (hp:cjT c a b ((allL c).getD k [])=true) (hpre:∀ j,j < k->cjT c a b ((allL c).getD j [])=false):acB c a b=true/\acX c a b=(allL c).getD k []:=by
 have hm:(allL c).getD k []∈allL c:=by rw [gdE,geE hk];exact List.getElem_mem _
 have:acB c a b=true:=by
  unfold acB;rw [h,Bool.true_and]
  exact List.any_eq_true.2 ⟨_,hm,hp⟩
 exact⟨this,by unfold acX;rw [if_pos this,find_pre _ [] _ k hk hp hpre,Option.getD_some]⟩
theorem ac_miss {c:LL} {a b:LI} (hpre:∀ j,j < (allL c).length->cjT c a b ((allL c).getD j [])=false):acB c a b=false/\acX c a b=[]:=by
 have h0:(allL c).any (cjT c a b)=false:=by
  rw [List.any_eq_false]
  intro x hx
  obtain⟨j,hj,rfl⟩:=List.getElem_of_mem hx
  have:=hpre j hj
  rw [gdE,geE hj]at this
  simpa using this
 have:acB c a b=false:=by unfold acB;rw [h0,Bool.and_false]
 exact⟨this,by unfold acX;rw [this];rfl⟩
theorem acX_le (c:LL) (a b:LI):(acX c a b).length<=30:=by
 unfold acX
 split
 ·rename_i h
  unfold acB at h
  simp only [bAnd]at h
  have hF:=(elsB_fin h.1.1.1 om).1
  cases hf:(allL c).find? (cjT c a b) with
  | none=>simp
  | some x=>exact(((allL_spec hF).2 x).1 (List.mem_of_find?_eq_some hf)).2.2
 ·simp
theorem cjX_let {c:LL} {a x:LI} (h:cjB c a x=true):wordB c (cjX c a x)=true/\redL c (cjX c a x)=cjX c a x:=by
 have hm:mulB c (mulX c x.reverse a) x=true:=by
  unfold cjB at h;rw [bAnd]at h;exact h.2
 have e:cjX c a x=redL c (mulX c x.reverse a ++ x):=by
  have hq:∀ u v,mulB c u v=true->mulX c u v=redL c (u ++ v):=fun u v h=>by unfold mulX;rw [if_pos h]
  unfold cjX;rw [if_pos h,hq _ _ hm]
 unfold mulB at hm
 simp only [bAnd,dtE]at hm
 obtain⟨⟨h1,h2⟩,h3⟩:=hm
 obtain⟨hc,k1,k2⟩:=wordB_iff.1 h1
 obtain⟨_,k3,k4⟩:=wordB_iff.1 h2
 have hl:letters c.length (mulX c x.reverse a ++ x):=letters_append.2 ⟨k2,k4⟩
 obtain⟨a1,a2,_,a4,_⟩:=red_spec hc hl (by simp;omega)
 rw [e]
 exact⟨wordB_iff.2 ⟨hc,h3,a1⟩,red_eq a4⟩
theorem cj_eq {c:LL} {a b x:LI} (hb:wordB c b=true) (h:cjB c a x=true):(cjX c a x == redL c b)=(imageL c (cjX c a x) == imageL c b):=by
 obtain⟨h1,h2⟩:=cjX_let h
 obtain⟨hc,k1,k2⟩:=wordB_iff.1 hb
 obtain⟨_,_,_,a4,_⟩:=red_spec hc k2 om
 rw [Bool.eq_iff_iff]
 constructor
 ·intro e
  have e:cjX c a x=redL c b:=by simpa using e
  rw [e,a4];simp
 ·intro e
  have e:imageL c (cjX c a x)=imageL c b:=by simpa using e
  rw [<- h2,red_eq e];simp
set_option maxHeartbeats 1000000 in
theorem c_impl_AreConjugate (c:LL) (a b:LI) (hcl:c.length<=1048576) :
  FunA BJ 35 [.sl false (.row false) c,.sl false .int a,.sl false .int b] (fun rs o=>rs=[.own 0 0,.bool (acB c a b)]/\o=[.arr .int (acX c a b) 0 true]):=by
 refine(FunA.unlr (by rfl) (post:=fun xs rest=>xs=acX c a b/\rest=[.bool (acB c a b)]) ?_).mono fun rs o ⟨xs,rest,⟨h1,h2⟩,h3,h4⟩=>⟨by rw [h3,h2],by rw [h4,h1]⟩
 refine FunA.walk BJ_ok (fn:=Tryz.f35) (fun vs w=>Tryz.call35 vs w) Tryz.func35 rfl (by rw [Tryz.ntmps35];simp) (fun C hC hP hT hΓ hbt hfn hpin hfin=>?_);haveI hDJ:DrLe BJ C:=⟨fun h=>by rw [hbt.2.2.2]at h;cases h⟩;have hPJ:=hP;have hTJ:=hT;replace hP:B.P=C.P:=hP;replace hT:B.tid=C.tid:=hT;have hX:=BXJ;rw [<- hΓ,<- hbt.1,<- hbt.2.1,<- hbt.2.2.1]at hX;rw [hTJ]at hX;rw [Tryz.ntmps35];simp only [AW7,simprocAttr,hX]
 refine Run.R ?_
 cases he:elsB c 48 with
 | false=>
  obtain⟨e1,e2⟩:=ac_off (c:=c) (a:=a) (b:=b) (by rw [he];rfl)
  refine Run.g fun K hK=>?_
  refine FunA.cW hPJ hTJ (c_impl_few0 c he) ?_
  rintro rs o ⟨rfl,rfl⟩
  refine wF ?_;clear hK K
  refine Run.g fun K hK=>?_
  refine .inl (CallG.off (.bool false) ?_)
  refine wW ?_
  refine .inl (CallG.off (.bool false) ?_)
  refine wF ?_;clear hK K
  refine Run.c ?_ ?_
  rotate_left
  ·intro h;cases h
  intro _
  refine Run.R ?_
  refine Run.k [6,7] [0] ?_
  refine Run.tolr 0 [6,7] rfl (fun q hq=>?_);simp only [AL,frV_cons,frV_nil,AW7,simprocAttr]
  refine Run.k [6,7] [] ?_
  refine Run.r [6,7] ?_
  exact⟨q,[],_,⟨e2.symm,by rw [e1]⟩,rfl,rfl,rfl⟩
 | true=>
  obtain⟨hF,_,hl200,_⟩:=elsB_fin he om
  have hc:=hF.1
  have hn:=hc.2.1
  have hall:=allL_spec hF
  refine Run.g fun K hK=>?_
  refine FunA.cW hPJ hTJ (c_impl_few1 c he) ?_
  rintro rs o ⟨zs,⟨hz,_⟩,rfl,rfl⟩
  have hzl:zs.length=(allL c).length:=by rw [<- hz,rwl]
  refine wF ?_;clear hK K
  cases ha:wordB c a with
  | false=>
   obtain⟨e1,e2⟩:=ac_off (c:=c) (a:=a) (b:=b) (by rw [he,ha];rfl)
   refine Run.g fun K hK=>?_
   refine .inl (FunA.callG hP hT (c_impl_IsWord c a) (fun _=>rfl) (fun _=>by simp only [AW7,simprocAttr]) ?_)
   rw [ha]
   refine wW ?_
   refine .inl (CallG.off (.bool false) ?_)
   refine wF ?_;clear hK K
   refine Run.c ?_ ?_
   rotate_left
   ·intro h;cases h
   intro _
   refine Run.R ?_
   refine Run.k [6,7] [0] ?_
   refine Run.tolr 0 [6,7] rfl (fun q hq=>?_);simp only [AL,frV_cons,frV_nil,AW7,simprocAttr]
   refine Run.k [6,7] [] ?_
   refine Run.r [6,7] ?_
   exact⟨q,[],_,⟨e2.symm,by rw [e1]⟩,rfl,rfl,rfl⟩
  | true=>
   refine Run.g fun K hK=>?_
   refine .inl (FunA.callG hP hT (c_impl_IsWord c a) (fun _=>rfl) (fun _=>by simp only [AW7,simprocAttr]) ?_)
   rw [ha]
   refine wW ?_
   refine .inl (FunA.callG hP hT (c_impl_IsWord c b) (fun _=>rfl) (fun _=>by simp only [AW7,simprocAttr]) ?_)
   refine wF ?_;clear hK K
   refine Run.c ?_ ?_
   ·intro h
    have hb:wordB c b=false:=by simpa using h
    obtain⟨e1,e2⟩:=ac_off (c:=c) (a:=a) (b:=b) (by rw [hb,Bool.and_false])
    refine Run.R ?_
    refine Run.k [6,7] [0] ?_
    refine Run.tolr 0 [6,7] rfl (fun q hq=>?_);simp only [AL,frV_cons,frV_nil,AW7,simprocAttr]
    refine Run.k [6,7] [] ?_
    refine Run.r [6,7] ?_
    exact⟨q,[],_,⟨e2.symm,by rw [e1]⟩,rfl,rfl,rfl⟩
   intro h
   have hb:wordB c b=true:=by simpa using h
   have hon:(elsB c 48 && wordB c a && wordB c b)=true:=by rw [he,ha,hb];rfl
   obtain⟨_,hb1,hb2⟩:=wordB_iff.1 hb
   refine Run.g fun K hK=>?_
   refine FunA.e hP hT (c_impl_reduced c b hc hb2 om) ?_
   refine wE ?_;clear hK K
   refine Run.R ?_
   refine Run.k [0,1,10,38,39,40] [0] ?_
   refine Run.loopI (X:=Nat) (fun k=>⟨60,[(0,true,.v (.sl false (.row false) c)),(1,true,.v (.sl false .int a)),(10,true,.v (.own 0 0)),(38,true,.v (.sl true .lrow zs)),(39,true,.v (.int .i64 ((zs.length:Nat)))),(40,true,.v (.int .i64 k))],[.arr .int ((redL c b)) 0 true]⟩) (fun k=>k<=zs.length/\∀ j,j < k->cjT c a b ((allL c).getD j [])=false) (fun k=>zs.length - k) (0) (⟨nz0 _,fun j hj=>by omega⟩) ?_ ?_
   ·exact Le.s
   rintro k ⟨hk,hpre⟩ ih
   try simp only []
   refine Run.R ?_
   refine Run.c ?_ ?_
   rotate_left
   ·intro h4
    have h4:k=zs.length:=by rw [dfE]at h4;omega
    rw [h4,hzl]at hpre
    obtain⟨e1,e2⟩:=ac_miss hpre
    refine Run.x ?_
    refine Run.R ?_
    refine Run.k [6,7] [1] ?_
    refine Run.tolr 0 [6,7] rfl (fun q hq=>?_);simp only [AL,frV_cons,frV_nil,AW7,simprocAttr]
    refine Run.k [6,7] [] ?_
    refine Run.r [6,7] ?_
    exact⟨q,[],_,⟨e2.symm,by rw [e1]⟩,rfl,rfl,rfl⟩
   intro h4
   have h4:k < zs.length:=by rw [dtE]at h4;omega
   have hgw:=rwg zs k
   rw [hz]at hgw
   have hhit:=ac_hit hon (k:=k) om
   have hxm:(allL c).getD k []∈allL c:=by rw [gdE,geE om];exact List.getElem_mem _
   have hx30:=((hall.2 _).1 hxm).2.2
   have hp2:cjT c a b ((allL c).getD k [])=false->∀ j,j < k+1->cjT c a b ((allL c).getD j [])=false:=fun h5 j hj=>by
    by_cases e:j=k
    ·subst e;exact h5
    ·exact hpre j om
   generalize (allL c).getD k []=x at hgw hhit hx30 hp2
   have hxl:=cjX_le c a x
   refine Run.R ?_
   try simp only [hgw]
   refine Run.g fun K hK=>?_
   refine FunA.e hP hT (c_impl_ConjugateElement c a x hcl om) ?_
   refine wE ?_;clear hK K
   refine Run.g fun K hK=>?_
   refine .inl (FunA.callG hP hT (c_impl_EqualWords (cjX c a x) (redL c b) om) (fun _=>rfl) (fun _=>by simp only [AW7,simprocAttr]) ?_)
   refine wF ?_;clear hK K
   have hcj:(cjB c a x && (cjX c a x == redL c b))=cjT c a b x:=by
    unfold cjT
    cases h6:cjB c a x
    ·rfl
    ·rw [cj_eq hb h6]
   refine Run.c ?_ ?_
   ·intro h5
    have h5:cjT c a b x=true:=by rw [<- hcj];revert h5;cases cjB c a x<;>simp
    obtain⟨e1,e2⟩:=hhit h5 hpre
    refine Run.R ?_
    refine Run.k [6,7] [] ?_
    refine Run.r [6,7] ?_
    exact⟨_,_,_,⟨e2.symm,by rw [e1]⟩,rfl,rfl,rfl⟩
   ·intro h5
    have h5:cjT c a b x=false:=by rw [<- hcj];revert h5;cases cjB c a x<;>simp
    refine Run.k [0,1,10,38,39,40] [0] ?_
    refine Run.RW ?_
    exact Run.j (ih (k+1) (⟨h4,hp2 h5⟩) mz)
set_option maxHeartbeats 1000000 in
theorem c_spec_AreConjugate (c:LL) (a b:LI) (hcl:c.length<=1048576) :
  FunA B 36 [.sl false (.row false) c,.sl false .int a,.sl false .int b] (fun rs o=>rs=[.own 0 0,.bool (acB c a b)]/\o=[.arr .int (acX c a b) 0 true]):=by
 refine wk Tryz.call36 Tryz.func36 rfl Tryz.ntmps36 fun C hC hP hT hfn hpin hfin hX=>wW ?_
 refine Run.R ?_
 refine Run.g fun K hK=>?_
 refine FunA.cW hP hT (c_spec_l18Small c) ?_
 rintro rs o ⟨rfl,zs,⟨hz,_⟩,rfl⟩
 refine wF ?_;clear hK K
 cases he:elsB c 48 with
 | false=>
  obtain⟨e1,e2⟩:=ac_off (c:=c) (a:=a) (b:=b) (by rw [he];rfl)
  refine Run.g fun K hK=>?_
  refine .inl (CallG.off (.bool false) ?_)
  refine wW ?_
  refine .inl (CallG.off (.bool false) ?_)
  refine wF ?_;clear hK K
  refine Run.c ?_ ?_
  rotate_left
  ·intro h;cases h
  intro _
  refine Run.R ?_
  refine Run.k [6,7] [1] ?_
  refine Run.r [6,7] ?_
  rw [e1,e2];exact⟨rfl,rfl⟩
 | true=>
  rw [he,if_pos rfl]at hz
  obtain⟨hF,_,hl200,_⟩:=elsB_fin he om
  have hc:=hF.1
  have hn:=hc.2.1
  have hall:=allL_spec hF
  have hzl:zs.length=(allL c).length:=by rw [<- hz,rwl]
  cases ha:wordB c a with
  | false=>
   obtain⟨e1,e2⟩:=ac_off (c:=c) (a:=a) (b:=b) (by rw [he,ha];rfl)
   refine Run.g fun K hK=>?_
   refine .inl (FunA.callG hP hT (c_spec_IsWord c a hcl) (fun _=>rfl) (fun _=>by simp only [AW7,simprocAttr]) ?_)
   rw [ha]
   refine wW ?_
   refine .inl (CallG.off (.bool false) ?_)
   refine wF ?_;clear hK K
   refine Run.c ?_ ?_
   rotate_left
   ·intro h;cases h
   intro _
   refine Run.R ?_
   refine Run.k [6,7] [1] ?_
   refine Run.r [6,7] ?_
   rw [e1,e2];exact⟨rfl,rfl⟩
  | true=>
   refine Run.g fun K hK=>?_
   refine .inl (FunA.callG hP hT (c_spec_IsWord c a hcl) (fun _=>rfl) (fun _=>by simp only [AW7,simprocAttr]) ?_)
   rw [ha]
   refine wW ?_
   refine .inl (FunA.callG hP hT (c_spec_IsWord c b hcl) (fun _=>rfl) (fun _=>by simp only [AW7,simprocAttr]) ?_)
   refine wF ?_;clear hK K
   refine Run.c ?_ ?_
   ·intro h
    have hb:wordB c b=false:=by simpa using h
    obtain⟨e1,e2⟩:=ac_off (c:=c) (a:=a) (b:=b) (by rw [hb,Bool.and_false])
    refine Run.R ?_
    refine Run.k [6,7] [1] ?_
    refine Run.r [6,7] ?_
    rw [e1,e2];exact⟨rfl,rfl⟩
   intro h
   have hb:wordB c b=true:=by simpa using h
   have hon:(elsB c 48 && wordB c a && wordB c b)=true:=by rw [he,ha,hb];rfl
   refine Run.R ?_
   refine Run.k [0,1,2,8,10] [0] ?_
   refine Run.loopI (X:=Nat) (fun k=>⟨63,[(0,true,.v (.sl false (.row false) c)),(1,true,.v (.sl false .int a)),(2,true,.v (.sl false .int b)),(8,true,.v (.own 0 0)),(10,true,.v (.int .i64 k))],[.arr .lrow (zs) 0 true]⟩) (fun k=>k<=zs.length/\∀ j,j < k->cjT c a b ((allL c).getD j [])=false) (fun k=>zs.length - k) (0) (⟨nz0 _,fun j hj=>by omega⟩) ?_ ?_
   ·exact Le.s
   rintro k ⟨hk,hpre⟩ ih
   try simp only []
   refine Run.R ?_
   refine Run.c ?_ ?_
   rotate_left
   ·intro h4
    have h4:k=zs.length:=by rw [dfE]at h4;omega
    rw [h4,hzl]at hpre
    obtain⟨e1,e2⟩:=ac_miss hpre
    refine Run.x ?_
    refine Run.R ?_
    refine Run.k [6,7] [1] ?_
    refine Run.r [6,7] ?_
    rw [e1,e2];exact⟨rfl,rfl⟩
   intro h4
   have h4:k < zs.length:=by rw [dtE]at h4;omega
   have hgw:=rwg zs k
   rw [hz]at hgw
   have hhit:=ac_hit hon (k:=k) om
   have hxm:(allL c).getD k []∈allL c:=by rw [gdE,geE om];exact List.getElem_mem _
   have hx30:=((hall.2 _).1 hxm).2.2
   have hp2:cjT c a b ((allL c).getD k [])=false->∀ j,j < k+1->cjT c a b ((allL c).getD j [])=false:=fun h5 j hj=>by
    by_cases e:j=k
    ·subst e;exact h5
    ·exact hpre j om
   generalize (allL c).getD k []=x at hgw hhit hx30 hp2
   have hxl:=cjX_le c a x
   have hxb:x.length<=140737488355328:=by omega
   have hxb2:(([]:LI).length+((zs.getD k (0,[])).2).length)*8<=140737488355328:=by rw [hgw];simp only [lenN];omega
   refine Run.g fun K hK=>?_
   try simp only [hgw]
   refine FunA.e hP hT (c_spec_ConjugateElement c a x hcl om) ?_
   refine wE ?_;clear hK K
   refine Run.g fun K hK=>?_
   refine .inl (FunA.callG hP hT (c_spec_AreSame c (cjX c a x) b hcl) (fun _=>rfl) (fun _=>by simp only [AW7,simprocAttr]) ?_)
   refine wF ?_;clear hK K
   have hcj:(cjB c a x && sameB c (cjX c a x) b)=cjT c a b x:=by
    unfold cjT sameB
    cases h6:cjB c a x
    ·rfl
    ·rw [(cjX_let h6).1,hb];rfl
   refine Run.c ?_ ?_
   ·intro h5
    have h5:cjT c a b x=true:=by rw [<- hcj];revert h5;cases cjB c a x<;>simp
    obtain⟨e1,e2⟩:=hhit h5 hpre
    refine Run.g fun K hK=>?_
    try simp only [hgw]
    refine wF ?_;clear hK K
    refine Run.k [6,7] [2] ?_
    refine Run.r [6,7] ?_
    rw [e1,e2];exact⟨rfl,rfl⟩
   ·intro h5
    have h5:cjT c a b x=false:=by rw [<- hcj];revert h5;cases cjB c a x<;>simp
    refine Run.k [0,1,2,8,10] [0] ?_
    refine Run.RW ?_
    exact Run.j (ih (k+1) (⟨h4,hp2 h5⟩) mz)
section
variable {c:LL} (hF:FinP c)
include hF
theorem red_len0 {w:LI} (hw:letters c.length w):(redL c w).length=0↔imageL c w=ones c.length:=by
 constructor
 ·intro h
  have h:=List.length_eq_zero_iff.1 h
  rw [<- img_red hF hw,h];rfl
 ·intro h
  have e:redL c w=redL c []:=red_eq h
  rw [e,mem_self hF (nil_mem hF)];rfl
theorem par_eq {a b:LI} (ha:letters c.length a) (hb:letters c.length b) (h:imageL c a=imageL c b):a.length % 2=b.length % 2:=by
 obtain⟨L,_,h1,h2⟩:=Far.image hF.1 ha
 obtain⟨M,_,h3,h4⟩:=Far.image hF.1 hb
 rw [h]at h2
 have:=h2.uniq hF.1 h4
 omega
omit hF in
theorem cjW_par (g w:LI):(cjW g w).length % 2=w.length % 2:=by unfold cjW;simp;omega
theorem cjW_one {g w:LI} (hg:letters c.length g) (hw:letters c.length w):imageL c (cjW g w)=ones c.length↔imageL c w=ones c.length:=by
 have e0:∀ x,letters c.length x->imageL c (cjW x [])=ones c.length:=fun x hx=>by
  have h1:imageL c (x ++ (x.reverse ++ []))=ones c.length:=img_lr hF hx []
  simpa [cjW] using h1
 constructor
 ·intro h
  have lr:=letters_reverse hg
  have h1:=cjW_congr hF lr lr (cjW_let hg hw) (letters_nil _) rfl (show imageL c (cjW g w)=imageL c []from h)
  rw [e0 _ lr,<- cjW_app]at h1
  have e:imageL c (g.reverse ++ g)=imageL c []:=by have:=img_rl hF hg [];simpa using this
  rw [cjW_congr hF (letters_append.2 ⟨lr,hg⟩) (letters_nil _) hw hw e rfl]at h1
  simpa [cjW] using h1
 ·intro h
  rw [cjW_congr hF hg hg hw (letters_nil _) rfl (show imageL c w=imageL c []from h)]
  exact e0 g hg
theorem cjW_mul {g a b:LI} (hg:letters c.length g) (ha:letters c.length a) (hb:letters c.length b):imageL c (cjW g a ++ cjW g b)=imageL c (cjW g (a ++ b)):=by
 have e1:cjW g a ++ cjW g b=(g ++ a) ++ (g.reverse ++ (g ++ (b ++ g.reverse))):=by simp [cjW]
 have e2:cjW g (a ++ b)=(g ++ a) ++ (b ++ g.reverse):=by simp [cjW]
 have l:=letters_append.2 ⟨hg,ha⟩
 rw [e1,e2]
 exact img_mul hF l l rfl (img_rl hF hg _)
theorem pwL_conj (hs:∀ w∈allL c,w.length<=15) {a b g:LI} (ha:letters c.length a) (hb:letters c.length b) (hg:letters c.length g) (h:imageL c b=imageL c (cjW g a)):∀(f:Nat) (p q:LI) (k:Int),letters c.length p->letters c.length q->imageL c q=imageL c (cjW g p)->pwL c b f q k=pwL c a f p k
 | 0,_,_,_,_,_,_=>rfl
 | f+1,p,q,k,hp,hq,he=>by
  have lpa:=letters_append.2 ⟨hp,ha⟩
  have lqb:=letters_append.2 ⟨hq,hb⟩
  have e:imageL c (q ++ b)=imageL c (cjW g (p ++ a)):=by
   rw [img_mul hF hq (cjW_let hg hp) he h,cjW_mul hF hg hp ha]
  have e0:(redL c (q ++ b)).length=0↔(redL c (p ++ a)).length=0:=by
   rw [red_len0 hF lqb,red_len0 hF lpa,e,cjW_one hF hg lpa]
  have s1:=hs _ (mem_red hF lqb)
  have s2:=hs _ (mem_red hF lpa)
  have ih:=pwL_conj hs ha hb hg h f (redL c (p ++ a)) (redL c (q ++ b)) (k+1) (fin_nf hF lpa).1.1 (fin_nf hF lqb).1.1 (by
   rw [img_red hF lqb,e]
   exact cjW_congr hF hg hg lpa (fin_nf hF lpa).1.1 rfl (img_red hF lpa).symm)
  unfold pwL
  rw [ih]
  by_cases h0:(redL c (p ++ a)).length=0
  ·rw [if_pos (e0.2 h0),if_pos h0]
  ·rw [if_neg (fun h=>h0 (e0.1 h)),if_neg h0,if_neg om,if_neg om]
theorem ord_conj (hs:∀ w∈allL c,w.length<=15) {a b g:LI} (ha:wordB c a=true) (hb:wordB c b=true) (hg:letters c.length g) (h:imageL c b=imageL c (cjW g a)):ordE c b=ordE c a:=by
 obtain⟨_,_,la⟩:=wordB_iff.1 ha
 obtain⟨_,_,lb⟩:=wordB_iff.1 hb
 have hf:isF c=true:=isF_iff.2 hF
 unfold ordE
 rw [ha,hb,hf]
 simp only [Bool.true_and,Bool.true_or,if_true]
 refine pwL_conj hF hs la lb hg h 60 [] [] 1 (letters_nil _) (letters_nil _) ?_
 have:=img_lr hF hg []
 simpa [cjW] using this.symm
theorem abs_conj_le {a b g:LI} (la:letters c.length a) (lb:letters c.length b) (hg:letters c.length g) (h:imageL c b=imageL c (cjW g a)):rkW c b<=rkW c a:=by
 have hc:=hF.1
 refine rk_conj_le hF la (letters_reverse hg) lb fun x k hk=>?_
 have lcj:=cjW_let hg la
 rw [actF_same hc lb lcj h x k hk]
 have e:nat (cjW g a)=nat g ++ (nat a ++ nat g.reverse):=by simp [cjW,nat]
 rw [e,actF_append,actF_append]
 have e2:(nat g.reverse).reverse=nat g:=by simp [nat]
 rw [e2]
theorem abs_conj {a b g:LI} (ha:wordB c a=true) (hb:wordB c b=true) (hg:letters c.length g) (h:imageL c b=imageL c (cjW g a)):absN c b=absN c a:=by
 obtain⟨_,_,la⟩:=wordB_iff.1 ha
 obtain⟨_,_,lb⟩:=wordB_iff.1 hb
 have lr:=letters_reverse hg
 have h2:imageL c a=imageL c (cjW g.reverse b):=by
  rw [cjW_congr hF lr lr lb (cjW_let hg la) rfl h,<- cjW_app]
  have e:imageL c (g.reverse ++ g)=imageL c []:=by have:=img_rl hF hg [];simpa using this
  rw [cjW_congr hF (letters_append.2 ⟨lr,hg⟩) (letters_nil _) la la e rfl]
  simp [cjW]
 have h3:=abs_conj_le hF la lb hg h
 have h4:=abs_conj_le hF lb la lr h2
 have e:rkW c b=rkW c a:=Nat.le_antisymm h3 h4
 unfold rkW at e
 unfold absN
 rw [ha,hb,e]
end
theorem mulX_img {c:LL} (hF:FinP c) {a b:LI} (h:mulB c a b=true):letters c.length a/\letters c.length b/\mulX c a b=redL c (a ++ b)/\imageL c (mulX c a b)=imageL c (a ++ b):=by
 have e:mulX c a b=redL c (a ++ b):=by unfold mulX;rw [if_pos h]
 unfold mulB at h
 simp only [bAnd]at h
 obtain⟨_,_,h1⟩:=wordB_iff.1 h.1.1
 obtain⟨_,_,h2⟩:=wordB_iff.1 h.1.2
 exact⟨h1,h2,e,by rw [e,img_red hF (letters_append.2 ⟨h1,h2⟩)]⟩
theorem ac_conj {c:LL} {a b:LI} (h:acB c a b=true):FinP c/\(∀ w∈allL c,w.length<=15)/\wordB c a=true/\wordB c b=true/\cjB c a (acX c a b)=true/\imageL c (cjX c a (acX c a b))=imageL c b/\∃ g,letters c.length g/\imageL c b=imageL c (cjW g a):=by
 have h0:=h
 unfold acB at h
 simp only [bAnd]at h
 obtain⟨⟨⟨he,ha⟩,hb⟩,hany⟩:=h
 have hF:=(elsB_fin he om).1
 have hs:∀ w∈allL c,w.length<=15:=fun w hw=>short_all hF (els_sizeI (elsB_mono he om)) hw
 obtain⟨x,hx,hp⟩:=List.any_eq_true.1 hany
 have hsome:((allL c).find? (cjT c a b)).isSome=true:=List.find?_isSome.2 ⟨x,hx,hp⟩
 obtain⟨y,hy⟩:=Option.isSome_iff_exists.1 hsome
 have e:acX c a b=y:=by unfold acX;rw [if_pos h0,hy];rfl
 have hpy:=List.find?_some hy
 unfold cjT at hpy
 simp only [bAnd]at hpy
 obtain⟨p1,p2⟩:=hpy
 have p2:imageL c (cjX c a y)=imageL c b:=by simpa using p2
 rw [e]
 refine⟨hF,hs,ha,hb,p1,p2,?_⟩
 have hcx:cjX c a y=mulX c (mulX c y.reverse a) y:=by unfold cjX;rw [if_pos p1]
 unfold cjB at p1
 simp only [bAnd]at p1
 obtain⟨l1,l2,_,m3⟩:=mulX_img hF p1.1
 obtain⟨k1,k2,_,k3⟩:=mulX_img hF p1.2
 refine⟨y.reverse,l1,?_⟩
 rw [<- p2,hcx,k3,img_mul hF k1 (letters_append.2 ⟨l1,l2⟩) m3 (rfl:imageL c y=_)]
 simp [cjW]
def padN (out:LI) (n:Nat):List Int:=out ++ List.replicate (n+1 - out.length) 0
def bmpN (out:LI) (n:Nat):List Int:=(padN out n).set n ((padN out n).getD n 0+1)
noncomputable def ocL (c:LL) (l:LL):List Int:=l.foldl (fun out w=>bmpN out (ordE c w).toNat) []
noncomputable def ocX (c:LL):List Int:=ocL c (if elsB c 48 then allL c else [])
theorem ocL_snoc (c:LL) (l:LL) (k:Nat) (h:k < l.length):ocL c (l.take (k+1))=bmpN (ocL c (l.take k)) (ordE c (l.getD k [])).toNat:=by
 have e:l.take (k+1)=l.take k ++ [l.getD k []]:=by
  rw [List.take_add_one,gdE,geE h];rfl
 rw [e]
 simp [ocL,List.foldl_append]
theorem padN_len (out:LI) (n:Nat):n < (padN out n).length/\(padN out n).length<=max out.length (n+1):=by
 simp only [padN,lenA,List.length_replicate];omega
theorem ocL_bnd (c:LL) (l:LL):∀ k,k<=l.length->(ocL c (l.take k)).length<=62/\∀ x∈ocL c (l.take k),0<=x/\x<=k
 | 0,_=>by simp [ocL]
 | k+1,h=>by
  obtain⟨h1,h2⟩:=ocL_bnd c l k om
  rw [ocL_snoc c l k om]
  have ho:=ordE_le c (l.getD k [])
  generalize ordE c (l.getD k [])=n at ho ⊢
  generalize ocL c (l.take k)=out at h1 h2 ⊢
  have hl:=padN_len out n.toNat
  have hp:∀ x∈padN out n.toNat,0<=x/\x<=k:=fun x hx=>by
   rcases List.mem_append.1 hx with hx | hx
   ·exact h2 x hx
   ·rw [(List.mem_replicate.1 hx).2];omega
  refine⟨by unfold bmpN;rw [List.length_set];omega,fun x hx=>?_⟩
  rcases List.mem_or_eq_of_mem_set hx with hx | rfl
  ·have:=hp x hx;omega
  ·have:=hp ((padN out n.toNat).getD n.toNat 0) (by rw [getD_eq hl.1];exact List.getElem_mem hl.1)
   omega
theorem rep_snoc (out:LI) (j:Nat):out ++ List.replicate j 0 ++ [(0:Int)]=out ++ List.replicate (j+1) 0:=by
 rw [List.append_assoc,List.replicate_succ']
set_option maxHeartbeats 1000000 in
theorem c_impl_OrderCounts0 (c:LL) (he:elsB c 48=false):FunA BJ 46 [.sl false (.row false) c] (fun rs o=>rs=[.own 0 0]/\o=[.arr .int (ocX c) 0 true]):=by
 refine FunA.walk BJ_ok (fn:=Tryz.f46) (fun vs w=>Tryz.call46 vs w) Tryz.func46 rfl (by rw [Tryz.ntmps46];simp) (fun C hC hP hT hΓ hbt hfn hpin hfin=>?_);haveI hDJ:DrLe BJ C:=⟨fun h=>by rw [hbt.2.2.2]at h;cases h⟩;have hPJ:=hP;have hTJ:=hT;replace hP:B.P=C.P:=hP;replace hT:B.tid=C.tid:=hT;have hX:=BXJ;rw [<- hΓ,<- hbt.1,<- hbt.2.1,<- hbt.2.2.1]at hX;rw [hTJ]at hX;rw [Tryz.ntmps46];simp only [AW7,simprocAttr,hX]
 refine Run.R ?_
 refine Run.g fun K hK=>?_
 refine FunA.cW hPJ hTJ (c_impl_few0 c he) ?_
 rintro rs o ⟨rfl,rfl⟩
 refine wF ?_;clear hK K
 refine Run.R ?_
 refine Run.R ?_
 refine Run.k [0,5,15,16,17] [0] ?_
 refine Run.loopI (X:=Nat) (fun k=>⟨39,[(0,true,.v (.sl false (.row false) c)),(5,true,.v (.own 0 0)),(15,true,.v (.nils)),(16,true,.v (.int .i64 0)),(17,true,.v (.int .i64 0))],[.arr .int ([]) 0 true]⟩) (fun k=>k<=0) (fun k=>0) (0) (Nat.le_refl _) ?_ ?_
 ·exact Le.s
 rintro k hk ih
 try simp only []
 refine Run.R ?_
 refine Run.c ?_ ?_
 ·intro h;simp at h
 intro _
 refine Run.x ?_
 refine Run.R ?_
 refine Run.k [2] [0] ?_
 refine Run.r [2] ?_
 exact⟨rfl,by unfold ocX;rw [he];rfl⟩
set_option maxHeartbeats 1000000 in
theorem c_impl_OrderCounts1 (c:LL) (he:elsB c 48=true):FunA BJ 46 [.sl false (.row false) c] (fun rs o=>rs=[.own 0 0]/\o=[.arr .int (ocX c) 0 true]):=by
 obtain⟨hF,_,hl200,_⟩:=elsB_fin he om
 refine FunA.walk BJ_ok (fn:=Tryz.f46) (fun vs w=>Tryz.call46 vs w) Tryz.func46 rfl (by rw [Tryz.ntmps46];simp) (fun C hC hP hT hΓ hbt hfn hpin hfin=>?_);haveI hDJ:DrLe BJ C:=⟨fun h=>by rw [hbt.2.2.2]at h;cases h⟩;have hPJ:=hP;have hTJ:=hT;replace hP:B.P=C.P:=hP;replace hT:B.tid=C.tid:=hT;have hX:=BXJ;rw [<- hΓ,<- hbt.1,<- hbt.2.1,<- hbt.2.2.1]at hX;rw [hTJ]at hX;rw [Tryz.ntmps46];simp only [AW7,simprocAttr,hX]
 refine Run.R ?_
 refine Run.g fun K hK=>?_
 refine FunA.cW hPJ hTJ (c_impl_few1 c he) ?_
 rintro rs o ⟨zs,⟨hz,_⟩,rfl,rfl⟩
 have hzl:zs.length=(allL c).length:=by rw [<- hz,rwl]
 refine wF ?_;clear hK K
 refine Run.R ?_
 refine Run.R ?_
 refine Run.k [0,5,15,16,17] [0] ?_
 refine Run.loopI (X:=Nat) (fun k=>⟨39,[(0,true,.v (.sl false (.row false) c)),(5,true,.v (.own 0 0)),(15,true,.v (.sl true .lrow zs)),(16,true,.v (.int .i64 ((zs.length:Nat)))),(17,true,.v (.int .i64 k))],[.arr .int ((ocL c ((allL c).take k))) 0 true]⟩) (fun k=>k<=zs.length) (fun k=>zs.length - k) (0) (nz0 _) ?_ ?_
 ·exact Le.s
 rintro k hk ih
 try simp only []
 refine Run.R ?_
 refine Run.c ?_ ?_
 rotate_left
 ·intro h
  have h:k=zs.length:=by rw [dfE]at h;omega
  refine Run.x ?_
  refine Run.R ?_
  refine Run.k [2] [0] ?_
  refine Run.r [2] ?_
  refine⟨rfl,?_⟩
  rw [h,hzl,tkL]
  unfold ocX;rw [he];rfl
 intro h
 have h:k < zs.length:=by rw [dtE]at h;omega
 have hst:=ocL_snoc c (allL c) k om
 obtain⟨hb1,hb2⟩:=ocL_bnd c (allL c) k om
 have hgw:=rwg zs k
 rw [hz]at hgw
 have hod:=ordE_le c ((allL c).getD k [])
 have hco:=c_impl_OrderOfElement c ((allL c).getD k [])
 generalize (allL c).getD k []=w at *
 generalize ordE c w=od at *
 obtain⟨n,rfl⟩:∃ n:Nat,od=n:=⟨od.toNat,by omega⟩
 rw [Int.toNat_natCast]at hst
 generalize ocL c ((allL c).take k)=out at hst hb1 hb2 ⊢
 have hpl:=padN_len out n
 have hpb:0<=(padN out n).getD n 0/\(padN out n).getD n 0<=k:=by
  have hm:(padN out n).getD n 0∈padN out n:=by rw [getD_eq hpl.1];exact List.getElem_mem hpl.1
  rcases List.mem_append.1 hm with hx | hx
  ·exact hb2 _ hx
  ·rw [(List.mem_replicate.1 hx).2];omega
 refine Run.R ?_
 try simp only [hgw]
 refine Run.g fun K hK=>?_
 refine FunA.e hP hT (hco) ?_
 refine wE ?_;clear hK K
 refine Run.k [0,5,15,16,17,8] [0] ?_
 refine Run.loopI (X:=Nat) (fun j=>⟨39,[(0,true,.v (.sl false (.row false) c)),(5,true,.v (.own 0 0)),(15,true,.v (.sl true .lrow zs)),(16,true,.v (.int .i64 ((zs.length:Nat)))),(17,true,.v (.int .i64 k)),(8,true,.v (.int .i64 ((n:Nat))))],[.arr .int ((out ++ List.replicate j 0)) 0 true]⟩) (fun j=>j<=n+1 - out.length) (fun j=>n+1 - out.length - j) (0) (nz0 _) ?_ ?_
 ·exact Le.s
 rintro j hj ihK
 try simp only []
 have hol:(out ++ List.replicate j (0:Int)).length=out.length+j:=by simp
 refine Run.R ?_
 refine Run.c ?_ ?_
 ·intro h2
  have h2:out.length+j<=n:=by rw [dtE,hol]at h2;omega
  have hzb:((out ++ List.replicate j (0:Int)).length + [(0:Int)].length)*8<=140737488355328:=by rw [hol];simp only [lenC,lenN];omega
  have hsn:=rep_snoc out j
  refine Run.R ?_
  refine Run.k [0,5,15,16,17,8] [0] ?_
  refine Run.le ?_ (ihK (j+1) om (by(try simp only [lenA,lenC,lenN]);omega))
  exact Le.sub (by first | rfl | (simp only [hsn];done) | (rw [hsn];rfl)) (by simp only [AW7,simprocAttr];try simp)
 intro h2
 have h2:n < out.length+j:=by rw [dfE,hol]at h2;omega
 have e:out ++ List.replicate j 0=padN out n:=by unfold padN;rw [show j=n+1 - out.length by omega]
 rw [e]
 refine Run.x ?_
 refine Run.RW ?_
 refine Run.RW ?_
 refine Run.k [0,5,15,16,17] [0] ?_
 unfold bmpN at hst
 refine Run.le ?_ (ih (k+1) h om)
 exact Le.sub (by simp only [hst]) (by simp only [AW7,simprocAttr];try simp)
set_option maxHeartbeats 1000000 in
theorem c_spec_OrderCounts (c:LL):FunA B 47 [.sl false (.row false) c] (fun rs o=>rs=[.own 0 0]/\o=[.arr .int (ocX c) 0 true]):=by
 refine wk Tryz.call47 Tryz.func47 rfl Tryz.ntmps47 fun C hC hP hT hfn hpin hfin hX=>wW ?_
 refine Run.R ?_
 refine Run.R ?_
 refine Run.g fun K hK=>?_
 refine FunA.cW hP hT (c_spec_l18Small c) ?_
 rintro rs o ⟨rfl,zs,⟨hz,_⟩,rfl⟩
 have hzl:zs.length=(if elsB c 48 then allL c else []).length:=by rw [<- hz,rwl]
 have hz200:zs.length<=200:=by
  rw [hzl]
  split
  ·rename_i h;exact(elsB_fin h om).2.2.1
  ·simp
 have hcl:0 < zs.length->c.length<=4:=fun h=>by
  cases he:elsB c 48 with
  | true=>exact(elsB_fin he om).1.1.2.1
  | false=>rw [he]at hzl;have:zs.length=0:=hzl;omega
 refine wF ?_;clear hK K
 have hocx:ocX c=ocL c (rw2 zs):=by rw [hz];rfl
 refine Run.R ?_
 refine Run.k [0,3,4,6] [0,1] ?_
 refine Run.loopI (X:=Nat) (fun k=>⟨42,[(0,true,.v (.sl false (.row false) c)),(3,true,.v (.own 0 0)),(4,true,.v (.own 1 0)),(6,true,.v (.int .i64 k))],[.arr .int ((ocL c ((rw2 zs).take k))) 0 true,.arr .lrow (zs) 0 true]⟩) (fun k=>k<=zs.length) (fun k=>zs.length - k) (0) (nz0 _) ?_ ?_
 ·exact Le.s
 rintro k hk ih
 try simp only []
 refine Run.R ?_
 refine Run.c ?_ ?_
 rotate_left
 ·intro h
  have h:k=zs.length:=by rw [dfE]at h;omega
  refine Run.x ?_
  refine Run.R ?_
  refine Run.k [2] [0] ?_
  refine Run.r [2] ?_
  refine⟨rfl,?_⟩
  rw [h,<- rwl zs,tkL,hocx]
 intro h
 have h:k < zs.length:=by rw [dtE]at h;omega
 have hn:=hcl om
 have hst:=ocL_snoc c (rw2 zs) k (by rw [rwl];omega)
 obtain⟨hb1,hb2⟩:=ocL_bnd c (rw2 zs) k (by rw [rwl];omega)
 have hgw:=rwg zs k
 have hod:=ordE_le c ((rw2 zs).getD k [])
 have hco:=c_spec_OrderOfElement c ((rw2 zs).getD k []) om
 generalize (rw2 zs).getD k []=w at *
 generalize ordE c w=od at *
 obtain⟨n,rfl⟩:∃ n:Nat,od=n:=⟨od.toNat,by omega⟩
 rw [Int.toNat_natCast]at hst
 generalize ocL c ((rw2 zs).take k)=out at hst hb1 hb2 ⊢
 have hpl:=padN_len out n
 have hpb:0<=(padN out n).getD n 0/\(padN out n).getD n 0<=k:=by
  have hm:(padN out n).getD n 0∈padN out n:=by rw [getD_eq hpl.1];exact List.getElem_mem hpl.1
  rcases List.mem_append.1 hm with hx | hx
  ·exact hb2 _ hx
  ·rw [(List.mem_replicate.1 hx).2];omega
 refine Run.g fun K hK=>?_
 try simp only [hgw]
 refine FunA.e hP hT (hco) ?_
 refine wE ?_;clear hK K
 refine Run.k [0,3,4,6,7] [0,1] ?_
 refine Run.loopI (X:=Nat) (fun j=>⟨42,[(0,true,.v (.sl false (.row false) c)),(3,true,.v (.own 0 0)),(4,true,.v (.own 1 0)),(6,true,.v (.int .i64 k)),(7,true,.v (.int .i64 ((n:Nat))))],[.arr .int ((out ++ List.replicate j 0)) 0 true,.arr .lrow (zs) 0 true]⟩) (fun j=>j<=n+1 - out.length) (fun j=>n+1 - out.length - j) (0) (nz0 _) ?_ ?_
 ·exact Le.s
 rintro j hj ihK
 try simp only []
 have hol:(out ++ List.replicate j (0:Int)).length=out.length+j:=by simp
 refine Run.R ?_
 refine Run.c ?_ ?_
 ·intro h2
  have h2:out.length+j<=n:=by rw [dtE,hol]at h2;omega
  have hzb:((out ++ List.replicate j (0:Int)).length + [(0:Int)].length)*8<=140737488355328:=by rw [hol];simp only [lenC,lenN];omega
  have hsn:=rep_snoc out j
  refine Run.R ?_
  refine Run.k [0,3,4,6,7] [0,1] ?_
  refine Run.le ?_ (ihK (j+1) om (by(try simp only [lenA,lenC,lenN]);omega))
  exact Le.sub (by first | rfl | (simp only [hsn];done) | (rw [hsn];rfl)) (by simp only [AW7,simprocAttr];try simp)
 intro h2
 have h2:n < out.length+j:=by rw [dfE,hol]at h2;omega
 have e:out ++ List.replicate j 0=padN out n:=by unfold padN;rw [show j=n+1 - out.length by omega]
 rw [e]
 refine Run.x ?_
 refine Run.RW ?_
 refine Run.RW ?_
 refine Run.k [0,3,4,6] [0,1] ?_
 unfold bmpN at hst
 refine Run.le ?_ (ih (k+1) h om)
 exact Le.sub (by simp only [hst]) (by simp only [AW7,simprocAttr];try simp)
theorem ocX_le (c:LL):(ocX c).length<=62:=by
 have:=ocL_bnd c (if elsB c 48 then allL c else []) _ (Nat.le_refl _)
 rw [tkL]at this
 exact this.1
theorem c_impl_OrderCounts (c:LL):FunA BJ 46 [.sl false (.row false) c] (fun rs o=>rs=[.own 0 0]/\o=[.arr .int (ocX c) 0 true]):=by
 cases he:elsB c 48
 ·exact c_impl_OrderCounts0 c he
 ·exact c_impl_OrderCounts1 c he
def upto (n:Nat):List Int:=(List.range n).map fun(i:Nat)=>(i:Int)
theorem upto_succ (n:Nat):upto n ++ [(n:Int)]=upto (n+1):=by simp [upto,List.range_succ]
theorem upto_length (n:Nat):(upto n).length=n:=by simp [upto]
noncomputable def coxE (c:LL):List Int:=if isC c then upto c.length else []
theorem coxE_le (c:LL):(coxE c).length<=4:=by
 unfold coxE
 split
 ·rename_i h;rw [upto_length];exact(isC_iff.1 h).2.1
 ·simp
theorem c_impl_CoxeterElement (c:LL) (hc:c.length<=1048576):FunA B 50 [.sl false (.row false) c] (fun rs o=>rs=[.own 0 0,.bool (isC c)]/\o=[.arr .int (coxE c) 0 true]):=by
 refine wk Tryz.call50 Tryz.func50 rfl Tryz.ntmps50 fun C hC hP hT hfn hpin hfin hX=>wW ?_
 refine Run.R ?_
 refine Run.g fun K hK=>?_
 refine FunA.e hP hT (c_impl_IsCartan c) ?_
 refine wE ?_;clear hK K
 refine Run.c ?_ ?_
 ·intro hb
  have hb:isC c=false:=by simpa using hb
  refine Run.R ?_
  refine Run.r [2,3] ?_
  simp [coxE,hb]
 ·intro hb
  have hb:isC c=true:=by simpa using hb
  refine Run.R ?_
  refine Run.R ?_
  refine Run.keep [0,2,3,4,12,13] ?_;simp only [AK,Nat.reduceBEq]
  refine Run.loopI (X:=Nat) (fun i=>⟨22,[(0,true,.v (.sl false (.row false) c)),(2,true,.v .nils),(3,true,.v (.bool false)),(4,true,.v (.own 0 i)),(12,true,.v (.int .i64 c.length)),(13,true,.v (.int .i64 i))],[.arr .int (upto i) i true]⟩) (fun i=>i<=c.length) (fun i=>c.length - i) 0 (nz0 _) ?_ ?_
  ·exact Le.sub (by rfl) (by simp only [AW7,simprocAttr,hX];try simp)
  rintro i hi ih
  have hll:=upto_length i
  refine Run.R ?_
  refine Run.c ?_ ?_
  ·intro hc2
   have hc2:i < c.length:=by simpa using hc2
   refine Run.R ?_
   refine Run.R ?_
   refine Run.RW ?_
   refine Run.le ?_ (ih (i+1) hc2 om)
   refine Le.cut0 hpin [_] (by rw [<- upto_succ];rfl) ?_ rfl
   simp only [AW7,simprocAttr];try simp
  ·intro hc2
   have hc2:i=c.length:=by simp at hc2;omega
   subst hc2
   refine Run.x ?_
   refine Run.R ?_
   refine Run.le (Le.re (obs':=[.arr .int (coxE c) 0 true]) hpin [0] [(2,true,.own 0 0),(3,true,.bool true)] rfl (by simp [leOs,leO_arr,oAt,coxE,hb]) (by refine⟨⟨_,rfl,?_⟩,⟨_,rfl,?_⟩,trivial⟩<;>simp [leAV,oAt,genO])) ?_
   simp only [frV_cons,frV_nil]
   refine Run.r [2,3] ?_
   simp [hb]
theorem c_spec_CoxeterElement (c:LL) (hc:c.length<=1048576):FunA B 51 [.sl false (.row false) c] (fun rs o=>rs=[.own 0 0,.bool (isC c)]/\o=[.arr .int (coxE c) 0 true]):=by
 refine wk Tryz.call51 Tryz.func51 rfl Tryz.ntmps51 fun C hC hP hT hfn hpin hfin hX=>wW ?_
 refine Run.R ?_
 refine Run.R ?_
 refine Run.R ?_
 refine Run.loopI (X:=Nat) (fun i=>⟨24,[(0,true,.v (.sl false (.row false) c)),(2,true,.v .nils),(3,true,.v (.bool false)),(4,true,.v (.own 0 i)),(5,true,.v (.int .i64 i))],[.arr .int (upto i) i true]⟩) (fun i=>i=0\/(i<=c.length/\isC c=true)) (fun i=>c.length - i) 0 (.inl rfl) ?_ ?_
 ·exact Le.sub (by rfl) (by simp only [AW7,simprocAttr,hX];try simp)
 rintro i hi ih
 have hll:=upto_length i
 refine Run.g fun K hK=>?_
 refine .inl (FunA.callG hP hT (c_spec_IsCartan c) (fun _=>rfl) (fun _=>by simp only [AW7,simprocAttr]) ?_)
 refine wF ?_;clear hK K
 refine Run.keep [0,2,3,4,5,14] ?_;simp only [AK,Nat.reduceBEq]
 refine Run.c ?_ ?_
 ·intro hb
  have hb:i < c.length/\isC c=true:=by
   by_cases h:i < c.length
   ·simp [h]at hb;exact⟨h,hb⟩
   ·simp [h]at hb
  refine Run.RW ?_
  refine Run.RW ?_
  refine Run.le ?_ (ih (i+1) (.inr ⟨hb.1,hb.2⟩) om)
  refine Le.cut0 hpin [_] (by rw [<- upto_succ];rfl) ?_ rfl
  simp only [AW7,simprocAttr];try simp
 ·intro hb
  have hcox:upto i=coxE c:=by
   unfold coxE
   by_cases h:i < c.length
   ·simp [h]at hb
    rcases hi with rfl | ⟨_,h2⟩
    ·simp [hb,upto]
    ·rw [h2]at hb;cases hb
   ·rcases hi with rfl | ⟨h1,h2⟩
    ·have hc0:isC c=false:=isC_false fun k=>by have:=k.1;omega
     simp [hc0,upto]
    ·rw [if_pos h2,show i=c.length from by omega]
  refine Run.x ?_
  refine Run.g fun K hK=>?_
  refine FunA.e hP hT (c_spec_IsCartan c) ?_
  refine wE ?_;clear hK K
  refine Run.le (Le.re (obs':=[.arr .int (coxE c) 0 true]) hpin [0] [(2,true,.own 0 0),(3,true,.bool (isC c))] rfl (by simp [leOs,leO_arr,oAt,hcox]) (by refine⟨⟨_,rfl,?_⟩,⟨_,rfl,?_⟩,trivial⟩<;>simp [leAV,oAt,genO])) ?_
  simp only [frV_cons,frV_nil]
  refine Run.r [2,3] ?_
  exact⟨rfl,rfl⟩
end Go.Proofs.YtcinngodeoidnaaGreatDoor
