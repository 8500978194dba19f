/- The roots up to a height, all positive roots, the highest one: the reference's side, and the program's HighestRoot. -/
import Derived.Test.YtcinngodeoidnaaGreatB21
import Derived.Test.YtcinngodeoidnaaGreatB22
import Derived.Test.YtcinngodeoidnaaGreatB19
import Derived.Test.YtcinngodeoidnaaGreatB16
set_option linter.unusedVariables false
set_option linter.unusedSimpArgs false
namespace Go.Proofs.YtcinngodeoidnaaGreat
open Go Go.Aw Go.Cox
def chkQ (c:LL):Bool:=(partsI c).length == (partsS c).length
set_option maxRecDepth 100000 in
theorem chkQ1:(finM 1).all chkQ=true:=by decide +kernel
set_option maxRecDepth 100000 in
theorem chkQ2:(finM 2).all chkQ=true:=by decide +kernel
set_option maxRecDepth 100000 in
theorem chkQ3:(finM 3).all chkQ=true:=by decide +kernel
set_option maxRecDepth 100000 in
theorem chkQ4:(finM 4).all chkQ=true:=by decide +kernel
theorem parts_len {c:LL} (hF:FinP c):(partsI c).length=(partsS c).length:=by
 have h:=fin_chk hF chkQ1 chkQ2 chkQ3 chkQ4
 unfold chkQ at h
 rwa [beq_iff_eq]at h
theorem c_spec_RootsUpToR (c:LL) (h:Int):FunA B 37 [.sl false (.row false) c,.int .i64 h] (fun rs o=>∃ ys g nn rest,(rw2 ys=rutO c h/\nn=true/\rest=[])/\(lb1 ys).Nodup/\rest.all flatAV=true/\rs=.own 0 g :: rest/\o=[.arr .lrow ys g nn]):=by
 by_cases hon:CartanP c/\1<=h/\h<=12
 ·refine(c_spec_RootsUpTo1 c h hon.1 hon.2.1 hon.2.2).mono fun rs o ⟨h1,ys,⟨a,b,d⟩,h2⟩=>⟨ys,0,true,[],⟨(rutO_eq hon.1 hon.2 ⟨a,b⟩).symm,rfl,rfl⟩,d,rfl,h1,h2⟩
 refine wk Tryz.call37 Tryz.func37 rfl Tryz.ntmps37 fun C hC hP hT hfn hpin hfin hX=>wW ?_
 refine Run.R ?_
 refine Run.R ?_
 refine Run.g fun K hK=>?_
 refine FunA.e hP hT (c_spec_IsCartan c) ?_
 refine .inl (FunA.callG hP hT (c_spec_l1In h 1 12) (fun _=>rfl) (fun _=>by simp only [AW7,simprocAttr]) ?_)
 refine wF ?_;clear hK K
 refine Run.c ?_ ?_
 ·intro _
  refine Run.R ?_
  refine Run.k [4] [0] ?_
  refine Run.r [4] ?_
  exact⟨[],0,true,[],⟨(rutO_off hon).symm,rfl,rfl⟩,by simp [lb1],rfl,rfl,rfl⟩
 intro hx
 refine absurd ?_ hon
 cases hb:isC c with
 | false=>rw [hb]at hx;simp at hx
 | true=>
  rw [hb]at hx
  simp only [Bool.not_true,cond_false,Bool.not_eq_false']at hx
  exact⟨isC_iff.1 hb,inB_iff.1 hx⟩
theorem c_spec_RootsUpTo (c:LL) (h:Int):FunA B 37 [.sl false (.row false) c,.int .i64 h] (fun rs o=>rs=[.own 0 0]/\∃ hs,hs.length=(rutO c h).length/\o=[.mat hs (rutO c h) 0 true]):=
 (FunA.mat (by rfl) (post:=fun rows nn rest=>rows=rutO c h/\nn=true/\rest=[]) (c_spec_RootsUpToR c h)).mono fun rs o ⟨hs,rows,nn,rest,⟨h1,h2,h3⟩,h4,h5,h6⟩=>by subst h1 h2 h3;exact⟨h5,hs,h4,h6⟩
noncomputable def posX (c:LL):List (List Int):=if isF c=true then rutO c 12 else []
theorem pos_spec {c:LL} {ys:List (Nat×List Int)} (h1:isF c=true->RL c 12 (rw2 ys)/\∀ z,RS c 12 z->z∈rw2 ys) (h2:isF c=false->ys=[]):rw2 ys=posX c:=by
 unfold posX
 cases hb:isF c with
 | false=>rw [h2 hb];rfl
 | true=>
  rw [if_pos rfl]
  exact(rutO_eq (isF_iff.1 hb).1 om (h1 hb)).symm
theorem c_spec_PositiveRootsM (c:LL):FunA B 43 [.sl false (.row false) c] (fun rs o=>rs=[.own 0 0,.bool (isF c)]/\∃ hs,hs.length=(posX c).length/\o=[.mat hs (posX c) 0 true]):=
 (FunA.mat (by rfl) (post:=fun rows nn rest=>rows=posX c/\nn=true/\rest=[.bool (isF c)]) ((c_spec_PositiveRoots c).mono fun rs o ⟨h1,ys,h2,h3,h4,h5⟩=>⟨ys,0,true,_,⟨pos_spec h2 h3,rfl,rfl⟩,h4,rfl,h1,h5⟩)).mono fun rs o ⟨hs,rows,nn,rest,⟨h1,h2,h3⟩,h4,h5,h6⟩=>by subst h1 h2 h3;exact⟨h5,hs,h4,h6⟩
theorem strH_exists {n:Nat}:∀ M:List (List Int),M.Nodup->(∀ z∈M,z.length=n)->∃ L,StrR L/\∀ z,z∈L↔z∈M
 | [],_,_=>⟨[],List.Pairwise.nil,fun _=>Iff.rfl⟩
 | r :: M,hn,hl=>by
  obtain⟨h1,h2⟩:=List.nodup_cons.1 hn
  obtain⟨L,k1,k2⟩:=strH_exists M h2 fun z hz=>hl z (mcM _ hz)
  refine⟨putR r false L,putR_str (hl r (mcS ..)) k1 (fun h=>h1 ((k2 r).1 h)) (fun x hx=>hl x (mcM _ ((k2 x).1 hx))),fun z=>?_⟩
  rw [putR_mem,k2,List.mem_cons]
theorem rut_allH {c:LL} (hF:FinP c):RAll c 12 (rutO c 12):=by
 obtain⟨L,h1,h2⟩:=strH_exists (rtsC c) (rts_nodup hF) fun z hz=>((rts_mem hF z).1 hz).len
 have hR:RAll c 12 L:=⟨⟨h1,fun z hz=>(rts_mem hF z).1 ((h2 z).1 hz),fun i hi=>(h2 _).2 ((rts_mem hF _).2 (RS.sim i hi))⟩,fun z hz=>(h2 z).2 ((rts_mem hF z).2 hz)⟩
 rw [rutO_eq hF.1 ⟨by omega,by omega⟩ hR]
 exact hR
noncomputable def higB (c:LL):Bool:=isF c && ((partsS c).length == 1)
noncomputable def higX (c:LL):List Int:=if higB c=true then(posX c).getD ((posX c).length - 1) []else []
theorem pos_all {c:LL} (hF:FinP c):RAll c 12 (posX c)/\0 < (posX c).length:=by
 have hb:=isF_iff.2 hF
 have e:posX c=rutO c 12:=by unfold posX;rw [if_pos hb]
 rw [e]
 have h:=rut_allH hF
 exact⟨h,List.length_pos_of_mem (h.1.sim 0 (by have:=hF.1.1;omega))⟩
theorem hig_on {c:LL} (h:higB c=true):FinP c/\(partsS c).length=1:=by
 unfold higB at h
 rw [bAnd,beq_iff_eq]at h
 exact⟨isF_iff.1 h.1,h.2⟩
theorem hig_law {c:LL} (h:higB c=true):hgt (higX c)+1=coxN c:=by
 obtain⟨hF,h1⟩:=hig_on h
 obtain⟨hA,_⟩:=pos_all hF
 unfold higX coxN
 rw [if_pos h,isF_iff.2 hF,if_pos rfl]
 exact rts_top hF h1 hA.1.st fun z=>⟨hA.1.mem z,hA.2 z⟩
theorem pos_long {c:LL} (hF:FinP c):(posX c).length=(lonL c).length:=by
 obtain⟨hA,_⟩:=pos_all hF
 exact rts_long hF (strR_nodup hA.1.st) fun z=>⟨hA.1.mem z,hA.2 z⟩
theorem pos_le (c:LL):(posX c).length<=28561:=by
 cases hb:isF c with
 | false=>unfold posX;rw [hb];simp
 | true=>
  have hF:=isF_iff.1 hb
  exact(pos_all hF).1.1.len hF.1.2.1 om om
theorem hig_small {c:LL}:(higX c).length<=4/\Bnd 12 (higX c):=by
 unfold higX
 split
 ·rename_i h
  obtain⟨hF,_⟩:=hig_on h
  obtain⟨hA,hp⟩:=pos_all hF
  have hm:(posX c).getD ((posX c).length - 1) []∈posX c:=by
   rw [gdE,geE om];exact List.getElem_mem _
  have hr:=hA.1.mem _ hm
  refine⟨by rw [hr.len];exact hF.1.2.1,fun x hx=>?_⟩
  have:=hr.box om x hx
  omega
 ·exact⟨by simp,fun x hx=>(nomatch hx)⟩
theorem con_eq {c:LL} (hF:FinP c):((partsI c).length == 1)=((partsS c).length == 1)/\decide (((partsS c).length:Int)=1)=((partsS c).length == 1):=by
 refine⟨by rw [parts_len hF],?_⟩
 rw [Bool.eq_iff_iff]
 simp
 omega
theorem c_spec_IsConnectedH (c:LL) (hc:CartanP c):FunA B 119 [.sl false (.row false) c] (fun rs o=>rs=[.bool (decide (((partsS c).length:Int)=1))]/\o=[]):=by
 refine wk Tryz.call119 Tryz.func119 rfl Tryz.ntmps119 fun C hC hP hT hfn hpin hfin hX=>wW ?_
 refine Run.R ?_
 refine Run.g fun K hK=>?_
 refine FunA.cW hP hT (c_spec_PartsOf c hc) ?_
 rintro rs o ⟨rfl,ys,hy,rfl⟩
 refine wF ?_;clear hK K
 refine Run.k [2] [] ?_
 refine Run.r [2] ?_
 have e:ys.length=(partsS c).length:=by rw [<- hy];simp [rw2]
 rw [e]
 refine⟨?_,rfl⟩
 congr 2
theorem c_impl_HighestRoot (c:LL):FunA B 45 [.sl false (.row false) c] (fun rs o=>rs=[.sl true .int (higX c),.bool (higB c)]/\o=[]):=by
 refine wk Tryz.call45 Tryz.func45 rfl Tryz.ntmps45 fun C hC hP hT hfn hpin hfin hX=>wW ?_
 refine Run.R ?_
 refine Run.g fun K hK=>?_
 refine FunA.cW hP hT (c_impl_PositiveRoots c) ?_
 rintro rs o ⟨rfl,hA,L,hL,rfl⟩
 have hL:L=posX c:=hL
 subst hL
 refine wF ?_;clear hK K
 refine Run.k [0,4,5] [0] ?_
 refine Run.l 0 [0,4,5] ?_
 refine Run.k [0,4,5] [] ?_
 cases hb:isF c with
 | false=>
  have hh:higB c=false:=by unfold higB;rw [hb];rfl
  have hx:higX c=[]:=by unfold higX;rw [hh];rfl
  refine Run.g fun K hK=>?_
  refine .inl (CallG.off (.bool false) ?_)
  refine wF ?_;clear hK K
  refine Run.c ?_ ?_
  rotate_left
  ·intro h;cases h
  intro _
  refine Run.R ?_
  refine Run.k [2,3] [0] ?_
  refine Run.l 0 [2,3] ?_
  refine Run.k [2,3] [] ?_
  refine Run.r [2,3] ?_
  rw [hh,hx]
  exact⟨rfl,rfl⟩
 | true=>
  have hF:=isF_iff.1 hb
  obtain⟨e1,e2⟩:=con_eq hF
  obtain⟨_,hp⟩:=pos_all hF
  refine Run.g fun K hK=>?_
  refine .inr ⟨rfl,?_⟩
  refine FunA.cW hP hT (c_impl_IsConnected c hF.1) ?_
  rintro rs o ⟨rfl,rfl⟩
  rw [e1]
  refine wF ?_;clear hK K
  refine Run.c ?_ ?_
  ·intro h
   have h:((partsS c).length == 1)=false:=by simpa using h
   have hh:higB c=false:=by unfold higB;rw [h];simp
   have hx:higX c=[]:=by unfold higX;rw [hh];rfl
   refine Run.R ?_
   refine Run.k [2,3] [0] ?_
   refine Run.l 0 [2,3] ?_
   refine Run.k [2,3] [] ?_
   refine Run.r [2,3] ?_
   rw [hh,hx]
   exact⟨rfl,rfl⟩
  intro h
  have h:((partsS c).length == 1)=true:=by simpa using h
  have hh:higB c=true:=by unfold higB;rw [h,hb];rfl
  have hx:higX c=(posX c).getD ((posX c).length - 1) []:=by unfold higX;rw [if_pos hh]
  have hpl:=pos_le c
  have hw:IntKind.i64.wrap (((posX c).length:Int) - 1)=(((posX c).length - 1:Nat):Int):=by
   simp(disch:=omega) only [wrap_id]
   omega
  refine Run.g fun K hK=>?_
  rw [hw,Int.toNat_natCast,<- hx]
  refine wE ?_;clear hK K
  refine Run.k [2,3] [] ?_
  refine Run.r [2,3] ?_
  rw [hh]
  exact⟨rfl,rfl⟩
theorem c_spec_HighestRoot (c:LL):FunA B 53 [.sl false (.row false) c] (fun rs o=>rs=[.sl true .int (higX c),.bool (higB c)]/\o=[]):=by
 refine wk Tryz.call53 Tryz.func53 rfl Tryz.ntmps53 fun C hC hP hT hfn hpin hfin hX=>wW ?_
 refine Run.R ?_
 refine Run.g fun K hK=>?_
 refine FunA.cW hP hT (c_spec_PositiveRoots c) ?_
 rintro rs o ⟨rfl,ys,h1,h2,h3,rfl⟩
 have hys:=pos_spec h1 h2
 have hyl:ys.length=(posX c).length:=by rw [<- hys];simp [rw2]
 refine wF ?_;clear hK K
 refine Run.k [0,4,5] [0] ?_
 cases hb:isF c with
 | false=>
  have hh:higB c=false:=by unfold higB;rw [hb];rfl
  have hx:higX c=[]:=by unfold higX;rw [hh];rfl
  refine Run.g fun K hK=>?_
  refine .inl (CallG.off (.bool false) ?_)
  refine wF ?_;clear hK K
  refine Run.c ?_ ?_
  rotate_left
  ·intro h;cases h
  intro _
  refine Run.R ?_
  refine Run.k [2,3] [1] ?_
  refine Run.l 0 [2,3] ?_
  refine Run.k [2,3] [] ?_
  refine Run.r [2,3] ?_
  rw [hh,hx]
  exact⟨rfl,rfl⟩
 | true=>
  have hF:=isF_iff.1 hb
  obtain⟨e1,e2⟩:=con_eq hF
  obtain⟨_,hp⟩:=pos_all hF
  refine Run.g fun K hK=>?_
  refine .inr ⟨rfl,?_⟩
  refine FunA.cW hP hT (c_spec_IsConnectedH c hF.1) ?_
  rintro rs o ⟨rfl,rfl⟩
  rw [e2]
  refine wF ?_;clear hK K
  refine Run.c ?_ ?_
  ·intro h
   have h:((partsS c).length == 1)=false:=by simpa using h
   have hh:higB c=false:=by unfold higB;rw [h];simp
   have hx:higX c=[]:=by unfold higX;rw [hh];rfl
   refine Run.R ?_
   refine Run.k [2,3] [1] ?_
   refine Run.l 0 [2,3] ?_
   refine Run.k [2,3] [] ?_
   refine Run.r [2,3] ?_
   rw [hh,hx]
   exact⟨rfl,rfl⟩
  intro h
  have h:((partsS c).length == 1)=true:=by simpa using h
  have hh:higB c=true:=by unfold higB;rw [h,hb];rfl
  have hx:higX c=(ys.getD (ys.length - 1) (0,[])).2:=by
   unfold higX
   rw [if_pos hh,<- hys]
   simp only [rw2,List.length_map,gdE,List.getElem?_map]
   cases ys[ys.length - 1]?<;>rfl
  have hpl:=pos_le c
  have hw:IntKind.i64.wrap ((ys.length:Int) - 1)=((ys.length - 1:Nat):Int):=by
   simp(disch:=omega) only [wrap_id]
   omega
  have hsm:=(hig_small (c:=c)).1
  rw [hx]at hsm
  refine Run.g fun K hK=>?_
  rw [hw,Int.toNat_natCast]
  refine wE ?_;clear hK K
  refine Run.k [2,3] [1] ?_
  refine Run.l 0 [2,3] ?_
  refine Run.k [2,3] [] ?_
  refine Run.r [2,3] ?_
  rw [hh,hx]
  exact⟨rfl,rfl⟩
theorem jnT {C:Ctx} {k k':List Item} {σ σ':St} (rest:Run C k' σ') (h:Run C k' σ'->Run C k σ):Run C k σ:=h rest
theorem RS.sgn {c:LL} (hc:CartanP c) {h:Int} {r:LI} (k:RS c h r):sgnR r=1:=by
 rcases k.rt.sign hc with e | e
 ·exact e
 ·exfalso
  have hn:negA r=false:=by
   unfold negA
   rw [List.any_eq_false]
   intro x hx
   have:=k.nn x hx
   simp;omega
  unfold sgnR at e
  rw [hn]at e
  generalize posA r=b at e
  cases b<;>simp at e
theorem root_law {c:LL} (hc:CartanP c) {h:Int} {z:LI} (k:RS c h z) {j:Nat} (hj:j < c.length):((sgnR (mirL c (j:Int) z) == -1) != (z == simL c.length j))=false/\(sgnR (mirL c (j:Int) z) == 0)=false:=by
 have hs:=k.sgn hc
 constructor
 ·by_cases e:z=simL c.length j
  ·have h1:sgnR (mirL c (j:Int) z) = -1:=by
    rw [e]at hs ⊢
    rw [mir_sim hc hj,sgn_neg,hs]
   rw [h1,e];simp
  ·have h1:sgnR (mirL c (j:Int) z)≠-1:=fun h2=>e (only_sim hc k.rt hj hs h2)
   have h2:(sgnR (mirL c (j:Int) z) == -1)=false:=by rw [beq_eq_false_iff_ne];exact h1
   have h3:(z == simL c.length j)=false:=by rw [beq_eq_false_iff_ne];exact e
   rw [h2,h3];rfl
 ·rcases(k.rt.mir (i:=(j:Int)) ⟨by omega,by omega⟩).sign hc with e | e<;>rw [e]<;>rfl
theorem rut_row {c:LL} {h:Int} (hA:CartanP c/\1<=h/\h<=12->RAll c h (rutO c h)) {i:Nat} (hi:i < (rutO c h).length):CartanP c/\RS c h ((rutO c h).getD i [])/\Bnd 100000000000000000 ((rutO c h).getD i []):=by
 by_cases k:CartanP c/\1<=h/\h<=12
 ·have hm:(rutO c h).getD i []∈rutO c h:=by
   rw [gdE,geE hi];exact List.getElem_mem _
  have hr:=(hA k).1.mem _ hm
  refine⟨k.1,hr,fun x hx=>?_⟩
  have:=hr.box k.2.1 x hx
  omega
 ·rw [rutO_off k]at hi
  cases hi
theorem rut_bnd {c:LL} {h:Int} (hA:CartanP c/\1<=h/\h<=12->RAll c h (rutO c h)):(rutO c h).length<=28561/\∀ r∈rutO c h,r.length<=4:=by
 by_cases k:CartanP c/\1<=h/\h<=12
 ·exact⟨(hA k).1.len k.1.2.1 k.2.1 k.2.2,fun r hr=>by rw [((hA k).1.mem r hr).len];exact k.1.2.1⟩
 ·rw [rutO_off k]
  exact⟨by simp,fun r hr=>(nomatch hr)⟩
theorem pos_rows (c:LL):∀ r∈posX c,r.length<=4:=fun r hr=>by
 cases hb:isF c with
 | false=>unfold posX at hr;rw [hb]at hr;exact(nomatch hr)
 | true=>
  have hF:=isF_iff.1 hb
  rw [((pos_all hF).1.1.mem r hr).len];exact hF.1.2.1
theorem ref_len (c:LL) (i:Int) (r:LI):(refR c i r).length=r.length:=by
 unfold refR;split
 ·exact mir_len c i r
 ·rfl
theorem act_len (c:LL) (w r:LI):(actX c w r).length=r.length:=by
 unfold actX;split
 ·exact actR_len c r w
 ·rfl
theorem sim_le (c:LL) (i:Int):(simR c i).length<=c.length:=by
 unfold simR;split
 ·rw [simL_len];exact Nat.le_refl _
 ·simp
set_option maxHeartbeats 20000000 in
theorem c_FnRoots (code:LI) (hwf:∀ n∈code,(Lit.int .u8 n).wf=true):FunA B 4 [.sl false .byte code] (fun rs _=>rs=[.bool true]):=by
 refine wk Tryz.call4 Tryz.func4 rfl Tryz.ntmps4 fun C hC hP hT hfn hpin hfin hX=>wW ?_
 refine Run.R ?_
 refine Run.g fun K hK=>?_
 refine FunA.e hP hT (c_big code) ?_
 refine wE ?_;clear hK K
 refine Run.c ?_ ?_
 ·intro _
  refine Run.R ?_
  refine Run.r [2] ?_
  rfl
 intro hb
 have hcl:code.length<=1048576:=by
  have hb:¬1048576 < code.length:=by simpa using hb
  omega
 refine Run.g fun K hK=>?_
 refine FunA.cW hP hT (c_DrawRootsUpTo code hcl) ?_
 rintro rs o ⟨c,t,⟨c1,c2⟩,rfl,rfl⟩
 refine wF ?_;clear hK K
 refine Run.k [0,3,4] [] ?_
 refine Run.g fun K hK=>?_
 refine FunA.cW hP hT (c_impl_RootsUpTo c t) ?_
 rintro rs o ⟨rfl,hA,rfl⟩
 refine wF ?_;clear hK K
 refine Run.k [0,3,4,5] [0] ?_
 refine Run.l 0 [0,3,4,5] ?_
 refine Run.k [0,3,4,5] [] ?_
 obtain⟨l1,l2⟩:=rut_bnd hA
 have h1:(rutO c t == rutO c t)=true:=by simp
 refine Run.g fun K hK=>?_
 refine FunA.cW hP hT (c_spec_RootsUpTo c t) ?_
 rintro rs o ⟨rfl,q1,_,rfl⟩
 refine wW ?_
 refine FunA.callW hP hT (c_sameWords (rutO c t) (rutO c t) om (fun r hr=>by have:=l2 r hr;omega)) (by simp only [AW7,simprocAttr];first | done | exact⟨⟨rfl,rfl⟩,rfl,rfl⟩ | simp [argO,convV]) ?_
 rintro rs o ⟨rfl,rfl⟩
 rw [h1]
 refine wF ?_;clear hK K
 refine Run.c ?_ ?_
 ·intro h;exact absurd h (by simp)
 intro _
 refine Run.k [0,3,5] [] ?_
 refine Run.R ?_
 refine Run.loopI (X:=Nat) (fun i=>⟨263,[(0,true,.v (.sl false .byte code)),(3,true,.v (.sl true (.row true) c)),(5,true,.v (.sl true (.row true) ((rutO c t)))),(6,true,.v (.int .i64 i))],[]⟩) (fun i=>i<=(rutO c t).length) (fun i=>(rutO c t).length - i) (0) (nz0 _) ?_ ?_
 ·exact Le.s
 rintro i hi ih
 try simp only []
 refine Run.R ?_
 refine Run.c ?_ ?_
 ·intro h
  have h:i < (rutO c t).length:=by
   cases hd:decide ((i:Int) < ((rutO c t).length:Int)) with
   | true=>rw [dtE]at hd;omega
   | false=>rw [hd]at h;cases h
  obtain⟨hc,hrs,hbd⟩:=rut_row hA h
  have hrl:=hrs.len
  have hsg:=hrs.sgn hc
  refine Run.R ?_
  refine Run.k [0,3,5,6,7] [] ?_
  refine Run.loopI (X:=Nat) (fun j=>⟨263,[(0,true,.v (.sl false .byte code)),(3,true,.v (.sl true (.row true) c)),(5,true,.v (.sl true (.row true) ((rutO c t)))),(6,true,.v (.int .i64 i)),(7,true,.v (.int .i64 j))],[]⟩) (fun j=>j<=c.length) (fun j=>c.length - j) (0) (nz0 _) ?_ ?_
  ·exact Le.s
  rintro j hj ihK
  try simp only []
  refine Run.R ?_
  refine Run.c ?_ ?_
  ·intro h2
   have h2:j < c.length:=by rw [dtE]at h2;omega
   obtain⟨k1,k2⟩:=root_law hc hrs h2
   have hon:refOn c (j:Int) ((rutO c t).getD i [])=true:=refOn_iff.2 ⟨hc,hrl,by omega,by omega⟩
   have hre:refR c (j:Int) ((rutO c t).getD i [])=mirL c (j:Int) ((rutO c t).getD i []):=by unfold refR;rw [if_pos hon]
   have hml:(mirL c (j:Int) ((rutO c t).getD i [])).length=c.length:=by rw [mir_len];exact hrl
   refine Run.g fun K hK=>?_
   refine FunA.cW hP hT (c_impl_ReflectRoot c (j:Int) ((rutO c t).getD i []) hbd om) ?_
   rintro rs o ⟨rfl,rfl⟩
   rw [hre]
   refine wF ?_;clear hK K
   refine Run.k [0,3,5,6,7,8] [0] ?_
   refine Run.l 0 [0,3,5,6,7,8] ?_
   refine Run.k [0,3,5,6,7,8] [] ?_
   have hsl:(simL c.length j).length<=5:=by rw [simL_len];exact c2
   refine Run.nq ?_;refine Run.regionD hC true [0,1,2,3,4,5,6,7,8] (by kernel_rfl) (fun K hK=>?_);simp only [AW7,simprocAttr,hX];(repeat(with_reducible refine And.intro ?_ ?_);exact vc0)
   refine FunA.callD hP hT (c_spec_SimpleRoot c (j:Int) hc ⟨by omega,by omega⟩) (by simp only [AW7,simprocAttr]) ?_
   rintro rs o ⟨rfl,rfl⟩
   rw [Int.toNat_natCast]
   refine wW ?_
   refine FunA.callD hP hT (c_sameInts ((rutO c t).getD i []) (simL c.length j) om) (by simp only [AW7,simprocAttr]) ?_
   rintro rs o ⟨rfl,rfl⟩
   refine wF ?_;clear hK K
   refine Run.k [0,3,5,6,7,8,9] [] ?_
   refine Run.g fun K hK=>?_
   refine FunA.cW hP hT (c_impl_RootSign ((rutO c t).getD i [])) ?_
   rintro rs o ⟨rfl,rfl⟩
   rw [hsg]
   refine wW ?_
   refine .inr ⟨rfl,?_⟩
   refine FunA.e hP hT (c_impl_RootSign (mirL c (j:Int) ((rutO c t).getD i []))) ?_
   rw [k1]
   refine wW ?_
   refine .inr ⟨rfl,?_⟩
   refine FunA.e hP hT (c_impl_RootSign (mirL c (j:Int) ((rutO c t).getD i []))) ?_
   rw [k2]
   refine wF ?_;clear hK K
   refine Run.c ?_ ?_
   ·intro h;exact absurd h (by simp)
   intro _
   refine Run.k [0,3,5,6,7] [] ?_
   refine Run.RW ?_
   exact Run.j (ihK (j+1) om mz)
  intro h2
  refine Run.x ?_
  refine Run.k [0,3,5,6] [] ?_
  refine Run.RW ?_
  exact Run.j (ih (i+1) om mz)
 intro _
 refine Run.x ?_
 refine Run.k [0] [] ?_
 refine Run.g fun K hK=>?_
 refine FunA.cW hP hT (c_DrawPositiveRoots code hcl) ?_
 rintro rs o ⟨d,⟨d1,d2⟩,rfl,rfl⟩
 refine wF ?_;clear hK K
 refine Run.k [0,10] [] ?_
 have hpl:=pos_le d
 have hpr:=pos_rows d
 have h3:(posX d == posX d)=true:=by simp
 have h4:(isF d != isF d)=false:=by simp
 refine Run.g fun K hK=>?_
 refine FunA.cW hP hT (c_impl_PositiveRoots d) ?_
 rintro rs o ⟨rfl,_,L,hL,rfl⟩
 have hL:L=posX d:=hL
 subst hL
 refine wF ?_;clear hK K
 refine Run.k [0,10,11,12] [0] ?_
 refine Run.l 0 [0,10,11,12] ?_
 refine Run.k [0,10,11,12] [] ?_
 refine Run.g fun K hK=>?_
 refine FunA.cW hP hT (c_spec_PositiveRootsM d) ?_
 rintro rs o ⟨rfl,q2,_,rfl⟩
 refine wF ?_;clear hK K
 refine Run.k [0,10,11,12,13,14] [0] ?_
 refine Run.unmat hC 0 rfl ?_
 simp only [AW7,simprocAttr]
 refine Run.l 0 [0,10,11,12,13,14] ?_
 refine Run.k [0,10,11,12,13,14] [] ?_
 refine Run.g fun K hK=>?_
 try rw [h4]
 try simp only [AW7,simprocAttr,hX]
 refine .inr ⟨rfl,?_⟩
 refine FunA.cW hP hT (c_sameWords (posX d) (posX d) om (fun r hr=>by have:=hpr r hr;omega)) ?_
 rintro rs o ⟨rfl,rfl⟩
 rw [h3]
 refine wF ?_;clear hK K
 refine Run.c ?_ ?_
 ·intro h;exact absurd h (by simp)
 intro _
 refine Run.k [0,10,12,13] [] ?_
 have hig:=hig_small (c:=d)
 have hgb:Bnd 1000000000000000000 (higX d):=bnd_mono hig.2 (by decide)
 apply jnT (σ':=⟨263,[(0,true,.v (.sl false .byte code)),(10,true,.v (.sl true (.row true) d))],[]⟩)
 case h=>
  intro rest
  refine Run.R ?_
  refine Run.c ?_ ?_
  rotate_left
  ·intro _
   refine Run.k [0,10] [] ?_
   refine Run.nq ?_
   exact rest
  intro hFb
  have hF:=isF_iff.1 hFb
  obtain⟨_,hp0⟩:=pos_all hF
  have hlo:(posX d).length=(lonE d).length:=by unfold lonE;rw [hFb,if_pos rfl];exact pos_long hF
  have hlz:(((posX d).length:Int) != ((lonE d).length:Int))=false:=by rw [hlo];simp
  refine Run.g fun K hK=>?_
  refine FunA.e hP hT (c_spec_LongestElement d) ?_
  refine wE ?_;clear hK K
  refine Run.g fun K hK=>?_
  refine FunA.e hP hT (c_impl_HighestRoot d) ?_
  refine wE ?_;clear hK K
  refine Run.k [0,10,13,15,17,18] [0] ?_
  cases hh:higB d with
  | false=>
   refine Run.g fun K hK=>?_
   try rw [hlz]
   refine .inl (CallG.off (.int .i64 0) ?_)
   refine wW ?_
   refine .inl (CallG.off (.int .i64 0) ?_)
   refine wW ?_
   refine .inl (CallG.off (.bool false) ?_)
   refine wF ?_;clear hK K
   refine Run.c ?_ ?_
   ·intro h;exact absurd h (by simp)
   intro _
   refine Run.k [0,10] [] ?_
   refine Run.nq ?_
   exact rest
  | true=>
   have hx:higX d=(posX d).getD ((posX d).length - 1) []:=by unfold higX;rw [if_pos hh]
   have hlw:=hig_law hh
   have hcc:(coxN d != coxN d)=false:=by simp
   have hg48:=hgt_bnd hig.2
   have hgw:IntKind.i64.wrap (hgt (higX d)+1)=coxN d:=by
    rw [<- hlw]
    simp(disch:=omega) only [wrap_id]
   have hw:IntKind.i64.wrap (((posX d).length:Int) - 1)=(((posX d).length - 1:Nat):Int):=by
    simp(disch:=omega) only [wrap_id]
    omega
   refine Run.g fun K hK=>?_
   rw [hlz]
   simp only [AW7,simprocAttr,hX]
   refine .inr ⟨rfl,?_⟩
   refine FunA.e hP hT (c_impl_HeightOf (higX d) hgb hig.1) ?_
   rw [hgw]
   refine .inr ⟨rfl,?_⟩
   refine FunA.e hP hT (c_impl_CoxeterNumber d om) ?_
   rw [hcc,hw,Int.toNat_natCast,<- hx]
   simp only [AW7,simprocAttr,hX]
   refine .inr ⟨rfl,?_⟩
   refine FunA.cW hP hT (c_sameInts (higX d) (higX d) om) ?_
   rintro rs o ⟨rfl,rfl⟩
   rw [show(higX d == higX d)=true by simp]
   refine wF ?_;clear hK K
   refine Run.c ?_ ?_
   ·intro h;exact absurd h (by simp)
   intro _
   refine Run.k [0,10] [] ?_
   refine Run.nq ?_
   exact rest
 refine Run.g fun K hK=>?_
 refine FunA.cW hP hT (c_DrawReflectRoot code hcl) ?_
 rintro rs o ⟨e,r,i,⟨e1,e2⟩,hr,rfl,rfl⟩
 refine wF ?_;clear hK K
 refine Run.k [0,10,19,20,21] [] ?_
 refine Run.g fun K hK=>?_
 refine FunA.cW hP hT (c_DrawActOnRoot code hcl) ?_
 rintro rs o ⟨f,w,s,⟨f1,f2⟩,hw,hs,rfl,rfl⟩
 refine wF ?_;clear hK K
 refine Run.k [0,10,19,20,21,22,23,24] [] ?_
 refine Run.g fun K hK=>?_
 refine FunA.cW hP hT (c_DrawSimpleRoot code hcl) ?_
 rintro rs o ⟨g,j,⟨g1,g2⟩,rfl,rfl⟩
 refine wF ?_;clear hK K
 refine Run.k [0,10,19,20,21,22,23,24,25,26] [] ?_
 refine Run.g fun K hK=>?_
 refine FunA.cW hP hT (c_DrawWeightOfRoot code hcl) ?_
 rintro rs o ⟨k,u,⟨k1,k2⟩,hu,rfl,rfl⟩
 refine wF ?_;clear hK K
 refine Run.k [0,10,19,20,21,22,23,24,25,26,27,28] [] ?_
 refine Run.g fun K hK=>?_
 refine FunA.cW hP hT (c_DrawRootSign code hcl) ?_
 rintro rs o ⟨v,hv,rfl,rfl⟩
 refine wF ?_;clear hK K
 refine Run.k [10,19,20,21,22,23,24,25,26,27,28,29] [] ?_
 refine Run.g fun K hK=>?_
 refine FunA.e hP hT (c_impl_HighestRoot d) ?_
 refine wE ?_;clear hK K
 refine Run.g fun K hK=>?_
 refine FunA.e hP hT (c_spec_HighestRoot d) ?_
 refine wE ?_;clear hK K
 refine Run.k [19,20,21,22,23,24,25,26,27,28,29,30,31,32,33] [] ?_
 have n1:=ref_len e i r
 have n2:=act_len f w s
 have n3:=sim_le g j
 have n4:=wor_len k u om
 have r1:=hr.1
 have r2:=hs.1
 have m1:(refR e i r == refR e i r)=true:=by simp
 have m2:(actX f w s == actX f w s)=true:=by simp
 have m3:(simR g j == simR g j)=true:=by simp
 have m4:(worX k u == worX k u)=true:=by simp
 have m5:(higX d == higX d)=true:=by simp
 refine Run.g fun K hK=>?_
 dsimp only [List.append]
 refine wW ?_
 refine FunA.e hP hT (c_impl_ReflectRoot e i r (bnd_mono hr.bnd (by decide)) om) ?_
 refine FunA.e hP hT (c_spec_ReflectRoot e i r om (bnd_mono hr.bnd (by decide)) om) ?_
 refine FunA.cW hP hT (c_sameInts (refR e i r) (refR e i r) om) ?_
 rintro rs o ⟨rfl,rfl⟩
 rw [m1]
 refine wW ?_
 refine .inr ⟨rfl,?_⟩
 refine FunA.e hP hT (c_impl_ActOnRoot f w s hw hs) ?_
 refine .inr ⟨rfl,?_⟩
 refine FunA.e hP hT (c_spec_ActOnRoot2 f w s om hw hs) ?_
 refine .inr ⟨rfl,?_⟩
 refine FunA.cW hP hT (c_sameInts (actX f w s) (actX f w s) om) ?_
 rintro rs o ⟨rfl,rfl⟩
 rw [m2]
 refine wW ?_
 refine .inr ⟨rfl,?_⟩
 refine FunA.e hP hT (c_impl_SimpleRoot g j) ?_
 refine .inr ⟨rfl,?_⟩
 refine FunA.e hP hT (c_spec_SimpleRoot2 g j om) ?_
 refine .inr ⟨rfl,?_⟩
 refine FunA.cW hP hT (c_sameInts (simR g j) (simR g j) om) ?_
 rintro rs o ⟨rfl,rfl⟩
 rw [m3]
 refine wW ?_
 refine .inr ⟨rfl,?_⟩
 refine FunA.e hP hT (c_impl_WeightOfRoot k u om hu) ?_
 refine .inr ⟨rfl,?_⟩
 refine FunA.e hP hT (c_spec_WeightOfRoot k u om hu) ?_
 refine .inr ⟨rfl,?_⟩
 refine FunA.cW hP hT (c_sameInts (worX k u) (worX k u) om) ?_
 rintro rs o ⟨rfl,rfl⟩
 rw [m4]
 refine wW ?_
 refine .inr ⟨rfl,?_⟩
 refine FunA.e hP hT (c_impl_RootSign v) ?_
 refine .inr ⟨rfl,?_⟩
 refine FunA.e hP hT (c_spec_RootSign v) ?_
 refine .inr ⟨rfl,?_⟩
 refine FunA.e hP hT (c_impl_HeightOf2 v hv) ?_
 refine .inr ⟨rfl,?_⟩
 refine FunA.e hP hT (c_spec_HeightOf2 v hv) ?_
 refine .inr ⟨rfl,?_⟩
 refine FunA.cW hP hT (c_sameInts (higX d) (higX d) om) ?_
 rintro rs o ⟨rfl,rfl⟩
 rw [m5]
 refine wW ?_
 refine .inr ⟨rfl,?_⟩
 refine FunA.e hP hT (c_impl_IsRootVector k u) ?_
 refine .inr ⟨rfl,?_⟩
 refine FunA.e hP hT (c_spec_IsRootVector k u) ?_
 refine wE ?_;clear hK K
 refine Run.r [2] ?_
 rfl
end Go.Proofs.YtcinngodeoidnaaGreat
