/- The positive roots up to a height: the reference's walk. -/
import Derived.Test.YtcinngodeoidnaaGreatDoorB27
import Derived.Test.YtcinngodeoidnaaGreatDoorB14
import Derived.Test.YtcinngodeoidnaaGreatDoorB19
import Derived.Test.YtcinngodeoidnaaGreatDoorB12
import Derived.Test.YtcinngodeoidnaaGreatDoorB15
import Derived.Test.YtcinngodeoidnaaGreatDoorB26
import Derived.HandedShaped
import Derived.Handed
import Derived.Shelf.Vars
set_option linter.unusedVariables false
set_option linter.unusedSimpArgs false
namespace Go.Proofs.YtcinngodeoidnaaGreatDoor
open Go Go.Aw Go.Cox
def UpC (c:LL) (h:Int) (r:LI) (i:Nat):Prop:=sgnR (mirL c i r)=1/\hgt (mirL c i r)<=h/\hgt r < hgt (mirL c i r)
structure RL (c:LL) (h:Int) (L:LL):Prop where
 st:StrR L
 mem:∀ z∈L,RS c h z
 sim:∀ i,i < c.length->simL c.length i∈L
theorem RL.len {c:LL} {h:Int} (hn:c.length<=4) (h1:1<=h) (h2:h<=12) {L:LL} (k:RL c h L):L.length<=28561:=
 box_count hn (strR_nodup k.st) fun r hr=>⟨(k.mem r hr).len,fun x hx=>by have:=(k.mem r hr).box h1 x hx;omega⟩
theorem RL.put {c:LL} {h:Int} {L:LL} (k:RL c h L) {w:LI} (hw:RS c h w) (hn:w∉L):RL c h (putR w false L):=
 ⟨putR_str hw.len k.st hn (fun x hx=>(k.mem x hx).len),fun z hz=>by
  rcases(putR_mem w L z).1 hz with rfl | hz
  ·exact hw
  ·exact k.mem z hz,fun i hi=>(putR_mem w L _).2 (.inr (k.sim i hi))⟩
theorem RL.keep {c:LL} {h:Int} {L:LL} (k:RL c h L) {w:LI} {m:Nat} (hm:m < L.length) (hw:hgt (L.getD m []) < hgt w):∀ j,j<=m->(putR w false L).getD j []=L.getD j []:=by
 refine putR_keep hm fun j hj=>?_
 have hgm:L.getD m []=L[m]:=by simp [gdE,hm]
 have hgj:L.getD j []=L[j]:=by simp [gdE,show j < L.length by omega]
 have hle:hgt (L.getD j [])<=hgt (L.getD m []):=by
  by_cases e:j=m
  ·rw [e];exact Int.le_refl _
  ·have hp:=k.st
   unfold StrR at hp
   rw [List.pairwise_iff_getElem]at hp
   have:=hp j m om hm om
   rw [hgm,hgj]
   unfold befR at this
   split at this
   ·omega
   ·rw [dtE]at this;omega
 unfold befR
 rw [if_neg om,dfE];omega
theorem mem_rwk2 {ys:List (Nat×List Int)} {z:LI}:z∈rw2 ys↔∃ j,j < ys.length/\(rw2 ys).getD j []=z:=by
 constructor
 ·intro h
  obtain⟨j,hj,e⟩:=List.getElem_of_mem h
  rw [rwl]at hj
  exact⟨j,hj,by rw [gdE,geE (by rw [rwl];exact hj),Option.getD_some];exact e⟩
 ·rintro⟨j,hj,rfl⟩
  rw [gdE,geE (by rw [rwl];exact hj),Option.getD_some]
  exact List.getElem_mem _
theorem sgn_pos {r:LI} (h:0 < sgnR r):sgnR r=1:=by
 unfold sgnR at h ⊢
 cases e1:posA r<;>cases e2:negA r<;>simp [e1,e2]at h ⊢
theorem rs_small {c:LL} (hn:c.length<=4) {h:Int} (h1:1<=h) (h2:h<=12) {r:LI} (k:RS c h r):SmR r/\Bnd 100000000000000000 r/\r.length<=4:=
 ⟨⟨by rw [k.len];exact hn,fun x hx=>by have:=k.box h1 x hx;omega⟩,fun x hx=>by have:=k.box h1 x hx;omega,by rw [k.len];exact hn⟩
set_option maxHeartbeats 2000000 in
theorem c_spec_RootsUpTo1 (c:LL) (h:Int) (hc:CartanP c) (h1:1<=h) (h2:h<=12):FunA B 111 [.sl false (.row false) c,.int .i64 h] (fun rs o=>rs=[.own 0 0]/\∃ ys,(RL c h (rw2 ys)/\(∀ z,RS c h z->z∈rw2 ys)/\(lb1 ys).Nodup)/\o=[.arr .lrow ys 0 true]):=by
 have hn:=hc.2.1
 have hb:=isC_true hc
 have hin:inB h 1 12=true:=inB_iff.2 ⟨h1,h2⟩
 refine wk Tryz.call111 Tryz.func111 rfl Tryz.ntmps111 fun C hC hP hT hfn hpin hfin hX=>wW ?_
 refine Run.R ?_
 refine Run.R ?_
 refine Run.g fun K hK=>?_
 refine FunA.cW hP hT (c_spec_IsCartan c) ?_
 rintro rs o ⟨rfl,rfl⟩
 rw [hb]
 refine wW ?_
 refine .inl (FunA.callG hP hT (c_spec_l1In h 1 12) (fun _=>rfl) (fun _=>by simp only [AW7,simprocAttr]) ?_)
 rw [hin]
 refine wF ?_;clear hK K
 refine Run.c ?_ ?_
 ·intro h;cases h
 intro _
 refine Run.R ?_
 refine Run.k [0,1,5,6] [0] ?_
 refine Run.loopI (X:=Nat×List (Nat×List Int)) (fun x=>⟨79,[(0,true,.v (.sl false (.row false) c)),(1,true,.v (.int .i64 h)),(5,true,.v (.own 0 0)),(6,true,.v (.int .i64 (x.1)))],[.arr .lrow (x.2) 0 true]⟩) (fun x=>(x.1<=c.length/\x.2.length=x.1)/\StrR (rw2 x.2)/\(lb1 x.2).Nodup/\∀ z,z∈rw2 x.2↔∃ i,i < x.1/\z=simL c.length i) (fun x=>c.length - x.1) ((0,[])) (⟨⟨nz0 _,rfl⟩,List.Pairwise.nil,by simp [lb1],fun z=>by simp [rw2]⟩) ?_ ?_
 ·exact Le.s
 rintro⟨k,ys⟩ ⟨⟨hk,hyk⟩,hS,hN,hM⟩ ih
 try simp only []
 simp only []at hk hyk hS hN hM
 have hsimL:∀ z∈rw2 ys,RS c h z:=fun z hz=>by
  obtain⟨i,hi,rfl⟩:=(hM z).1 hz
  exact .sim i om
 refine Run.R ?_
 refine Run.c ?_ ?_
 ·intro h3
  have h3:k < c.length:=by rw [dtE]at h3;omega
  have hnew:simL c.length k∉rw2 ys:=fun hm=>by
   obtain⟨i,hi,e⟩:=(hM _).1 hm
   have e1:(simL c.length k).getD i 0=(simL c.length i).getD i 0:=by rw [e]
   have h5:∀ a b,b < c.length->(simL c.length a).getD b 0=if a=b then 1 else 0:=fun a b hb=>by
    unfold simL
    simp only [List.getD,List.getElem?_set,List.length_replicate]
    by_cases e:a=b
    ·subst e;simp [hb]
    ·rw [if_neg e,if_neg e];simp [hb]
   rw [h5 k i om,h5 i i om,if_pos rfl,if_neg om]at e1
   cases e1
  have hrs:RS c h (simL c.length k):=.sim k h3
  refine Run.g fun K hK=>?_
  refine FunA.e hP hT (c_spec_SimpleRoot c k hc ⟨by omega,by omega⟩) ?_
  refine FunM.call hP hT (c_spec_l7Put ys (simL c.length k) hN om (rs_small hn h1 h2 hrs).1 (fun r hr=>(rs_small hn h1 h2 (hsimL r hr)).1) true) 0 0 (by simp only [AW7,simprocAttr];rfl) (by simp) rfl (by simp only [AW7,simprocAttr];try simp) ?_
  rintro rs o' obs' ⟨rfl,ys',hE3,hN3,h7⟩
  obtain⟨rfl,rfl⟩:=List.cons.inj h7
  refine wF ?_;clear hK K
  have hl3:ys'.length=k+1:=by
   have:=congrArg List.length hE3
   rw [(putR_perm _ _).length_eq]at this
   simp [rw2]at this;omega
  have hM3:∀ z,z∈rw2 ys'↔∃ i,i < k+1/\z=simL c.length i:=fun z=>by
   rw [hE3,putR_mem,hM]
   constructor
   ·rintro(rfl | ⟨i,hi,rfl⟩)
    ·exact⟨k,by omega,rfl⟩
    ·exact⟨i,by omega,rfl⟩
   ·rintro⟨i,hi,rfl⟩
    by_cases e:i=k
    ·subst e;exact .inl rfl
    ·exact .inr ⟨i,by omega,rfl⟩
  have hS3:StrR (rw2 ys'):=by rw [hE3];exact putR_str (simL_len _ _) hS hnew (fun x hx=>(hsimL x hx).len)
  refine Run.k [0,1,5,6] [2] ?_
  refine Run.RW ?_
  exact Run.j (ih ((k+1,ys')) (⟨⟨h3,hl3⟩,hS3,hN3,hM3⟩) mz)
 intro h3
 have h3:k=c.length:=by rw [dfE]at h3;omega
 subst h3
 have hRL:RL c h (rw2 ys):=⟨hS,hsimL,fun i hi=>(hM _).2 ⟨i,hi,rfl⟩⟩
 clear hM hsimL hyk
 refine Run.x ?_
 refine Run.R ?_
 refine Run.k [0,1,5,7] [0] ?_
 refine Run.loopI (X:=Nat×List (Nat×List Int)) (fun x=>⟨79,[(0,true,.v (.sl false (.row false) c)),(1,true,.v (.int .i64 h)),(5,true,.v (.own 0 0)),(7,true,.v (.int .i64 (x.1)))],[.arr .lrow (x.2) 0 true]⟩) (fun x=>x.1<=x.2.length/\RL c h (rw2 x.2)/\(lb1 x.2).Nodup/\∀ j,j < x.1->∀ i,i < c.length->UpC c h ((rw2 x.2).getD j []) i->mirL c i ((rw2 x.2).getD j [])∈rw2 x.2) (fun x=>30000 - x.1) ((0,ys)) (⟨nz0 _,hRL,hN,fun j hj=>by omega⟩) ?_ ?_
 ·exact Le.s
 rintro⟨k,zs⟩ ⟨hk2,hR,hN2,hD⟩ ihO
 try simp only []
 simp only []at hk2 hR hN2 hD
 clear hRL hS hN
 have hzl:=hR.len hn h1 h2
 rw [rwl]at hzl
 refine Run.R ?_
 refine Run.c ?_ ?_
 rotate_left
 ·intro h3
  have h3:k=zs.length:=by rw [dfE]at h3;omega
  have hall:∀ z,RS c h z->z∈rw2 zs:=fun z hz=>by
   induction hz with
   | sim i hi=>exact hR.sim i hi
   | up r i _ hi a b d ihr=>
    obtain⟨j,hj,e⟩:=mem_rwk2.1 ihr
    have:=hD j om i hi (by rw [e];exact⟨a,b,d⟩)
    rwa [e]at this
  refine Run.x ?_
  refine Run.R ?_
  refine Run.k [4] [0] ?_
  refine Run.r [4] ?_
  exact⟨rfl,zs,⟨hR,hall,hN2⟩,rfl⟩
 intro h3
 have h3:k < zs.length:=by rw [dtE]at h3;omega
 refine Run.R ?_
 refine Run.k [0,1,5,7,8] [0] ?_
 generalize hy:(rw2 zs).getD k []=y at *
 refine Run.loopI (X:=Nat×List (Nat×List Int)) (fun x=>⟨79,[(0,true,.v (.sl false (.row false) c)),(1,true,.v (.int .i64 h)),(5,true,.v (.own 0 0)),(7,true,.v (.int .i64 k)),(8,true,.v (.int .i64 (x.1)))],[.arr .lrow (x.2) 0 true]⟩) (fun x=>(x.1<=c.length/\k < x.2.length)/\RL c h (rw2 x.2)/\(lb1 x.2).Nodup/\(rw2 x.2).getD k []=y/\(∀ j,j < k->∀ i,i < c.length->UpC c h ((rw2 x.2).getD j []) i->mirL c i ((rw2 x.2).getD j [])∈rw2 x.2)/\∀ i,i < x.1->UpC c h y i->mirL c i y∈rw2 x.2) (fun x=>c.length - x.1) ((0,zs)) (⟨⟨nz0 _,h3⟩,hR,hN2,hy,hD,fun i hi=>by omega⟩) ?_ ?_
 ·exact Le.s
 rintro⟨i,us⟩ ⟨⟨hi,hku⟩,hR2,hN3,hy2,hD2,hU⟩ ihK
 try simp only []
 simp only []at hi hku hR2 hN3 hy2 hD2 hU
 have hul:=hR2.len hn h1 h2
 rw [rwl]at hul
 refine Run.R ?_
 refine Run.c ?_ ?_
 rotate_left
 ·intro h4
  have h4:i=c.length:=by rw [dfE]at h4;omega
  subst h4
  refine Run.x ?_
  refine Run.RW ?_
  refine Run.k [0,1,5,7] [0] ?_
  refine Run.le ?_ (ihO ((k+1,us)) (⟨hku,hR2,hN3,fun j hj i hi hup=>(by
   by_cases e:j=k
   ·subst e;rw [hy2]at hup ⊢;exact hU i hi hup
   ·exact hD2 j om i hi hup)⟩) (by(try simp only [lenA,lenC,lenN]);omega))
  exact Le.sub (by rfl) (by simp only [AW7,simprocAttr];try simp)
 intro h4
 have h4:i < c.length:=by rw [dtE]at h4;omega
 have hym:y∈rw2 us:=by rw [<- hy2];exact mem_rwk2.2 ⟨k,hku,rfl⟩
 have hys:=hR2.mem y hym
 obtain⟨y1,y2,y3⟩:=rs_small hn h1 h2 hys
 have hgu:=rwg us k
 rw [hy2]at hgu
 have hml:=mir_len c i y
 have hmb:Bnd (13*12) (mirL c i y):=mir_bnd hc (i:=(i:Int)) ⟨by omega,by omega⟩ hys.len (by decide) (fun x hx=>by have:=hys.box h1 x hx;omega)
 have hmB:Bnd 1000000000000000000 (mirL c i y):=fun x hx=>by have:=hmb x hx;omega
 have hyB:Bnd 1000000000000000000 y:=y1.2
 have hul2:∀ r∈us.map (·.2),r.length<=1048576:=fun r hr=>by
  have hr:r∈rw2 us:=hr
  have:=(rs_small hn h1 h2 (hR2.mem r hr)).2.2;omega
 have hmap:us.map (·.2)=rw2 us:=rfl
 have hcond:(sgnR (mirL c i y)=1/\hgt (mirL c i y)<=h/\hgt y < hgt (mirL c i y))↔UpC c h y i:=Iff.rfl
 refine Run.g fun K hK=>?_
 try simp only [hgu]
 refine FunA.e hP hT (c_spec_l7Reflect c i y hc ⟨by omega,by omega⟩ hys.len y2) ?_
 refine wE ?_;clear hK K
 generalize hr:mirL c i y=r at *
 refine Run.nq ?_;refine Run.regionD hC true [0,1,2,3,4,6,5,7,8,9,10,11,12,13,14,15,16,18,19,20,21,17,22,23,24] (by kernel_rfl) (fun K hK=>?_);simp only [AW7,simprocAttr,hX];(repeat(with_reducible refine And.intro ?_ ?_);exact vc0)
 refine FunA.e hP hT (c_spec_RootSign r) ?_
 refine⟨Keeps.refl _,?_⟩
 refine .inl (FunA.callG hP hT (c_spec_HeightOf r hmB (by rw [hml];exact y3)) (fun _=>rfl) (fun _=>by simp only [AW7,simprocAttr]) ?_)
 refine wW ?_
 refine .inl (FunA.callG hP hT (c_spec_l7In (us.map (·.2)) r (by simp;omega) hul2) (fun _=>rfl) (fun _=>by simp only [AW7,simprocAttr]) ?_)
 refine wW ?_
 refine .inl (FunA.callG hP hT (c_spec_HeightOf r hmB (by rw [hml];exact y3)) (fun _=>rfl) (fun _=>by simp only [AW7,simprocAttr]) ?_)
 refine wW ?_
 simp only [hgu]
 refine .inl (FunA.callG hP hT (c_spec_HeightOf y hyB y3) (fun _=>rfl) (fun _=>by simp only [AW7,simprocAttr]) ?_)
 refine wF ?_;clear hK K
 rw [hmap]
 refine Run.c ?_ ?_
 ·intro h5
  have h6:(sgnR r=1/\hgt r<=h/\hgt y < hgt r)/\r∉rw2 us:=by
   cases e1:decide (0 < sgnR r)<;>cases e2:decide (hgt r<=h)<;>cases e3:decide (r∈rw2 us)<;>cases e4:decide (hgt y < hgt r)<;>simp only [e1,e2,e3,e4,cond_true,cond_false,Bool.not_true,Bool.not_false,reduceCtorEq]at h5
   simp only [dtE,dfE]at e1 e2 e3 e4
   have:=sgn_pos e1
   exact⟨⟨this,e2,e4⟩,e3⟩
  obtain⟨hup,hnew⟩:=h6
  have hrs:RS c h r:=by
   subst hr
   exact .up y i hys h4 hup.1 hup.2.1 hup.2.2
  refine Run.k [0,1,5,7,8,9] [0,1] ?_
  refine Run.g fun K hK=>?_
  refine FunM.call hP hT (c_spec_l7Put us r hN3 om (rs_small hn h1 h2 hrs).1 (fun z hz=>(rs_small hn h1 h2 (hR2.mem z hz)).1) true) 0 0 (by simp only [AW7,simprocAttr];rfl) (by simp) rfl (by simp only [AW7,simprocAttr];try simp) ?_
  rintro rs o' obs' ⟨rfl,us',hE4,hN4,h7⟩
  obtain⟨rfl,rfl⟩:=List.cons.inj h7
  refine wF ?_;clear hK K
  have hR3:RL c h (rw2 us'):=by rw [hE4];exact hR2.put hrs hnew
  have hku':k < (rw2 us).length:=by rw [rwl];exact hku
  have hkeep:∀ j,j<=k->(rw2 us').getD j []=(rw2 us).getD j []:=by
   rw [hE4];exact hR2.keep hku' (by rw [hy2];exact hup.2.2)
  have hsub:∀ z,z∈rw2 us->z∈rw2 us':=fun z hz=>by rw [hE4];exact(putR_mem _ _ _).2 (.inr hz)
  have hl4:us'.length=us.length+1:=by
   have:=congrArg List.length hE4
   rw [(putR_perm _ _).length_eq]at this
   simp [rw2]at this;omega
  have hD3:∀ j,j < k->∀ i,i < c.length->UpC c h ((rw2 us').getD j []) i->mirL c i ((rw2 us').getD j [])∈rw2 us':=fun j hj i hi hu=>by
   rw [hkeep j om]at hu ⊢
   exact hsub _ (hD2 j hj i hi hu)
  have hU3:∀ a,a < i+1->UpC c h y a->mirL c a y∈rw2 us':=fun a ha hu=>by
   by_cases e:a=i
   ·subst e;rw [hr,hE4];exact(putR_mem _ _ _).2 (.inl rfl)
   ·exact hsub _ (hU a om hu)
  have hku4:k < us'.length:=by omega
  refine Run.RW ?_
  refine Run.k [0,1,5,7,8] [2] ?_
  exact Run.j (ihK ((i+1,us')) (⟨⟨h4,hku4⟩,hR3,hN4,(hkeep k (Nat.le_refl k)).trans hy2,hD3,hU3⟩) mz)
 intro h5
 have h6:UpC c h y i->r∈rw2 us:=fun hu=>by
  unfold UpC at hu
  rw [hr]at hu
  have e1:decide (0 < sgnR r)=true:=by rw [hu.1];rfl
  have e2:decide (hgt r<=h)=true:=decide_eq_true hu.2.1
  have e4:decide (hgt y < hgt r)=true:=decide_eq_true hu.2.2
  cases e3:decide (r∈rw2 us) with
  | true=>rwa [dtE]at e3
  | false=>simp only [e1,e2,e3,e4,cond_true,cond_false,Bool.not_true,Bool.not_false,reduceCtorEq]at h5
 have hU3:∀ a,a < i+1->UpC c h y a->mirL c a y∈rw2 us:=fun a ha hu=>by
  by_cases e:a=i
  ·subst e;rw [hr];exact h6 hu
  ·exact hU a om hu
 refine Run.RW ?_
 refine Run.k [0,1,5,7,8] [0] ?_
 exact Run.j (ihK ((i+1,us)) (⟨⟨h4,hku⟩,hR2,hN3,hy2,hD2,hU3⟩) mz)
theorem c_spec_PositiveRoots (c:LL):FunA B 53 [.sl false (.row false) c] (fun rs o=>rs=[.own 0 0,.bool (isF c)]/\∃ ys,(isF c=true->RL c 12 (rw2 ys)/\∀ z,RS c 12 z->z∈rw2 ys)/\(isF c=false->ys=[])/\(lb1 ys).Nodup/\o=[.arr .lrow ys 0 true]):=by
 refine wk Tryz.call53 Tryz.func53 rfl Tryz.ntmps53 fun C hC hP hT hfn hpin hfin hX=>wW ?_
 refine Run.R ?_
 refine Run.g fun K hK=>?_
 refine FunA.e hP hT (c_spec_IsFinite c) ?_
 refine wE ?_;clear hK K
 refine Run.c ?_ ?_
 ·intro h
  have h:isF c=false:=by simpa using h
  refine Run.R ?_
  refine Run.r [2,3] ?_
  rw [h]
  exact⟨rfl,[],fun h=>absurd h (by simp),fun _=>rfl,by simp [lb1],rfl⟩
 intro h
 have h:isF c=true:=by simpa using h
 have hF:=isF_iff.1 h
 refine Run.g fun K hK=>?_
 refine FunA.cW hP hT (c_spec_RootsUpTo1 c 12 hF.1 om om) ?_
 rintro rs o ⟨rfl,ys,⟨h1,h2,h3⟩,rfl⟩
 refine wF ?_;clear hK K
 refine Run.r [2,3] ?_
 rw [h]
 exact⟨rfl,ys,fun _=>⟨h1,h2⟩,fun h=>absurd h (by simp),h3,rfl⟩
def upsC (c:LL) (r:LI) (acc:LL):List (List Int):=
 ((List.range c.length).map fun(i:Nat)=>mirL c (i:Int) r).filter fun m=>sgnR m == 1 && decide (hgt m<=12) && decide (hgt r < hgt m) && !acc.elem m
def growR (c:LL):Nat->List (List Int)->List (List Int)->List (List Int)
 | 0,_,acc=>acc
 | _+1,[],acc=>acc
 | f+1,r :: todo,acc=>growR c f (todo ++ upsC c r acc) (acc ++ upsC c r acc)
def simsC (c:LL):List (List Int):=(List.range c.length).map (simL c.length)
def rtsC (c:LL):List (List Int):=growR c 30 (simsC c) (simsC c)
def ndB:List (List Int)->Bool
 | []=>true
 | x :: l=>!l.elem x && ndB l
def chkR (c:LL):Bool:=
 (rtsC c).all (fun r=>(upsC c r (rtsC c)).isEmpty) && ndB (rtsC c) && (!((partsS c).length == 1) || 2*(rtsC c).length == c.length*cxN c 12 1)
theorem elem_iff {l:LL} {x:LI}:l.elem x=true↔x∈l:=by simp [List.elem_iff]
theorem ndB_iff:∀ {l:LL},ndB l=true->l.Nodup
 | [],_=>List.nodup_nil
 | x :: l,h=>by
  simp only [ndB,bAnd,Bool.not_eq_true']at h
  refine List.nodup_cons.2 ⟨fun hm=>?_,ndB_iff h.2⟩
  rw [elem_iff.2 hm]at h;cases h.1
theorem upsC_rs {c:LL} {r:LI} {acc:LL} (hr:RS c 12 r):∀ z∈upsC c r acc,RS c 12 z:=by
 intro z hz
 unfold upsC at hz
 obtain⟨h1,h2⟩:=List.mem_filter.1 hz
 obtain⟨i,hi,rfl⟩:=List.mem_map.1 h1
 simp only [bAnd,beq_iff_eq,dtE]at h2
 exact .up r i hr (List.mem_range.1 hi) h2.1.1.1 h2.1.1.2 h2.1.2
theorem growR_rs {c:LL}:∀(f:Nat) (todo acc:LL),(∀ z∈todo,RS c 12 z)->(∀ z∈acc,RS c 12 z)->∀ z∈growR c f todo acc,RS c 12 z
 | 0,_,_,_,h2=>h2
 | _+1,[],_,_,h2=>h2
 | f+1,r :: todo,acc,h1,h2=>by
  have hu:=upsC_rs (acc:=acc) (h1 r (mcS ..))
  refine growR_rs f _ _ (fun z hz=>?_) (fun z hz=>?_)
  ·rcases List.mem_append.1 hz with hz | hz
   ·exact h1 z (mcM _ hz)
   ·exact hu z hz
  ·rcases List.mem_append.1 hz with hz | hz
   ·exact h2 z hz
   ·exact hu z hz
theorem growR_sub {c:LL}:∀(f:Nat) (todo acc:LL),∀ z∈acc,z∈growR c f todo acc
 | 0,_,_,_,h=>h
 | _+1,[],_,_,h=>h
 | f+1,r :: todo,acc,z,h=>growR_sub f _ _ z (List.mem_append.2 (.inl h))
theorem sims_rs {c:LL}:∀ z∈simsC c,RS c 12 z:=fun z hz=>by
 obtain⟨i,hi,rfl⟩:=List.mem_map.1 hz
 exact .sim i (List.mem_range.1 hi)
theorem rts_rs {c:LL}:∀ z∈rtsC c,RS c 12 z:=growR_rs 30 _ _ sims_rs sims_rs
theorem rts_all {c:LL} (h:(rtsC c).all (fun r=>(upsC c r (rtsC c)).isEmpty)=true):∀ z,RS c 12 z->z∈rtsC c:=fun z hz=>by
 induction hz with
 | sim i hi=>exact growR_sub _ _ _ _ (List.mem_map.2 ⟨i,List.mem_range.2 hi,rfl⟩)
 | up r i _ hi a b d ih=>
  have h1:=alT.1 h r ih
  rw [List.isEmpty_iff]at h1
  by_cases hm:mirL c i r∈rtsC c
  ·exact hm
  ·have:mirL c i r∈upsC c r (rtsC c):=by
    unfold upsC
    refine List.mem_filter.2 ⟨List.mem_map.2 ⟨i,List.mem_range.2 hi,rfl⟩,?_⟩
    have he:(rtsC c).elem (mirL c i r)=false:=by
     cases e:(rtsC c).elem (mirL c i r) with
     | false=>rfl
     | true=>exact absurd (elem_iff.1 e) hm
    simp only [a,he,b,d,decide_true,beq_self_eq_true,Bool.and_self,Bool.not_false]
   rw [h1]at this;cases this
set_option maxRecDepth 100000
theorem chkR1:(finM 1).all chkR=true:=by decide +kernel
theorem chkR2:(finM 2).all chkR=true:=by decide +kernel
theorem chkR3:(finM 3).all chkR=true:=by decide +kernel
theorem chkR4a:((finM 4).take 70).all chkR=true:=by decide +kernel
theorem chkR4b:(((finM 4).drop 70).take 60).all chkR=true:=by decide +kernel
theorem chkR4c:(((finM 4).drop 130).take 60).all chkR=true:=by decide +kernel
theorem chkR4d:((finM 4).drop 190).all chkR=true:=by decide +kernel
theorem chkR_fin {c:LL} (hF:FinP c):chkR c=true:=by
 refine fin_chk hF chkR1 chkR2 chkR3 (all_take 70 chkR4a (all_take 60 chkR4b (all_take 60 ?_ ?_)))
 ·rw [List.drop_drop];exact chkR4c
 ·rw [List.drop_drop,List.drop_drop];exact chkR4d
theorem rts_count {c:LL} (hF:FinP c) (h1:(partsS c).length=1) {L:LL} (hL:L.Nodup) (hm:∀ z,z∈L↔RS c 12 z):2*L.length=c.length*cxN c 12 1:=by
 have h:=chkR_fin hF
 unfold chkR at h
 simp only [bAnd,Bool.or_eq_true,Bool.not_eq_true',beq_eq_false_iff_ne,beq_iff_eq]at h
 obtain⟨⟨a,b⟩,d⟩:=h
 have d:=d.resolve_left (fun e=>e h1)
 rw [<- d]
 have e1:=nodup_le hL (b:=rtsC c) fun x hx=>rts_all a x ((hm x).1 hx)
 have e2:=nodup_le (ndB_iff b) (b:=L) fun x hx=>(hm x).2 (rts_rs x hx)
 omega
theorem joinK2 {C:Ctx} {k k':List Item} {σ σ':St} (rest:Run C k' σ') (h:Run C k' σ'->Run C k σ):Run C k σ:=h rest
theorem cc_off {c:LL} (h:elsB c 48=false):ccX c=[]:=by
 unfold ccX;rw [h];rfl
theorem cc_on {c:LL} (h:elsB c 48=true):(sumS (ccX c):Int)=sizeE c/\(∀ r∈ccX c,(sizeE c).tmod (r.length:Int)=0/\0 < r.length)/\(sizeE c).tmod ((cenX c).length:Int)=0/\0 < (cenX c).length:=by
 obtain⟨hF,e1,e2,e3,e4⟩:=elsB_fin h om
 have hs:∀ w∈allL c,w.length<=15:=fun w hw=>short_all hF (els_sizeI (elsB_mono h om)) hw
 have ex:ccX c=ccL c (allL c):=by unfold ccX;rw [if_pos h]
 have ez:cenX c=(allL c).filter (cenE c):=by unfold cenX;rw [if_pos h]
 have key:∀ n d:Nat,(allL c).length=n*d->(sizeE c).tmod (n:Int)=0/\0 < n:=fun n d hd=>by
  refine⟨?_,?_⟩
  ·rw [<- e1,hd,Int.tmod_eq_emod_of_nonneg om]
   push_cast
   exact Int.mul_emod_right _ _
  ·refine Nat.pos_of_ne_zero fun h0=>?_
   rw [h0,Nat.zero_mul]at hd
   omega
 refine⟨?_,fun r hr=>?_,?_⟩
 ·rw [ex,ccL_sum hF,e1]
 ·rw [ex]at hr
  obtain⟨d,hd⟩:=ccL_div hF r hr
  exact key _ _ hd
 ·obtain⟨m,hm⟩:=cen_div hF hs
  rw [ez]
  exact key _ m (by rw [hm,Nat.mul_comm])
theorem sumS_snoc (l:LL) (i:Nat) (h:i < l.length):sumS (l.take (i+1))=sumS (l.take i)+(l.getD i []).length:=by
 rw [<- take_snoc [] l i h,sumS_app]
 simp [sumS]
theorem sumS_bnd:∀(l:LL),(∀ r∈l,r.length<=200)->sumS l<=200*l.length
 | [],_=>by simp [sumS]
 | r :: l,h=>by
  have h1:=h r (mcS ..)
  have h2:=sumS_bnd l fun x hx=>h x (mcM _ hx)
  simp only [sumS,lenC]
  omega
def epsK (w:LI):Int:=if w.length % 2=0 then 1 else -1
theorem epsK_par {a b:LI} (h:a.length % 2=b.length % 2):epsK a=epsK b:=by unfold epsK;rw [h]
theorem c_spec_SignK (w:LI):FunA B 39 [.sl false .int w] (fun rs o=>rs=[.int .i64 (epsK w)]/\o=[]):=c_spec_SignOf w
set_option maxHeartbeats 20000000 in
theorem c_FnClasses (code:LI) (hwf:∀ n∈code,(Lit.int .u8 n).wf=true):FunA BJ 4 [.sl false .byte code] (fun rs _=>rs=[.bool true]):=by
 refine FunA.walk BJ_ok (fn:=Tryz.f4) (fun vs w=>Tryz.call4 vs w) Tryz.func4 rfl (by rw [Tryz.ntmps4];simp) (fun C hC hP hT hΓ hbt hfn hpin hfin=>?_);haveI hDJ:DrLe BJ C:=⟨fun h=>by rw [hbt.2.2.2]at h;cases h⟩;have hPJ:=hP;have hTJ:=hT;replace hP:B.P=C.P:=hP;replace hT:B.tid=C.tid:=hT;have hX:=BXJ;rw [<- hΓ,<- hbt.1,<- hbt.2.1,<- hbt.2.2.1]at hX;rw [hTJ]at hX;rw [Tryz.ntmps4];simp only [AW7,simprocAttr,hX]
 refine Run.R ?_
 refine Run.g fun K hK=>?_
 refine FunA.e hP hT (c_big code) ?_
 refine wE ?_;clear hK K
 refine Run.c ?_ ?_
 ·intro _
  refine Run.R ?_
  refine Run.r [2] ?_
  rfl
 intro hb
 have hcl:code.length<=1048576:=by
  have hb:¬1048576 < code.length:=by simpa using hb
  omega
 refine Run.g fun K hK=>?_
 refine FunA.cW hP hT (c_DrawAreConjugate code hcl) ?_
 rintro rs o ⟨c,a,b,⟨c1,c2⟩,hal,hbl,rfl,rfl⟩
 refine wF ?_;clear hK K
 refine Run.k [0,3,4,5] [] ?_
 refine Run.g fun K hK=>?_
 refine FunA.cW hPJ hTJ (c_impl_AreConjugate c a b om) ?_
 rintro rs o ⟨rfl,rfl⟩
 refine wF ?_;clear hK K
 refine Run.g fun K hK=>?_
 refine FunA.e hP hT (c_spec_AreConjugate c a b om) ?_
 refine wE ?_;clear hK K
 refine Run.k [0,3,4,5,6,7,8,9] [0,1] ?_
 refine Run.l 0 [0,3,4,5,6,7,8,9] ?_
 refine Run.l 1 [0,3,4,5,6,7,8,9] ?_
 refine Run.k [0,3,4,5,6,7,8,9] [] ?_
 have lx:=acX_le c a b
 have h1:(acB c a b != acB c a b)=false:=by simp
 have h2:(acX c a b == acX c a b)=true:=by simp
 refine Run.g fun K hK=>?_
 rw [h1]
 simp only [AW7,simprocAttr,hX]
 refine .inr ⟨rfl,?_⟩
 refine FunA.cW hP hT (c_sameInts (acX c a b) (acX c a b) om) ?_
 rintro rs o ⟨rfl,rfl⟩
 rw [h2]
 refine wF ?_;clear hK K
 refine Run.c ?_ ?_
 ·intro h;exact absurd h (by simp)
 intro _
 refine Run.k [0,3,4,5,6,7] [] ?_
 apply joinK2 (σ':=⟨245,[(0,true,.v (.sl false .byte code))],[]⟩)
 case h=>
  intro rest
  cases hA:acB c a b with
  | false=>
   refine Run.R ?_
   refine Run.c ?_ ?_
   ·intro h;exact absurd h (by simp)
   intro _
   refine Run.k [0] [] ?_
   refine Run.nq ?_
   exact rest
  | true=>
   obtain⟨hF,hs,ha,hbw,hcj,him,g,hg,hgi⟩:=ac_conj hA
   obtain⟨ww,_⟩:=cjX_let hcj
   have wa:=wordB_iff.1 ha
   have wb:=wordB_iff.1 hbw
   have e1:sameB c (cjX c a (acX c a b)) b=true:=by
    unfold sameB;rw [ww,hbw,him];simp
   have e2:(ordE c a != ordE c b)=false:=by rw [ord_conj hF hs ha hbw hg hgi];simp
   have e3:(epsK a != epsK b)=false:=by
    have:=par_eq hF wb.2.2 (cjW_let hg wa.2.2) hgi
    rw [cjW_par]at this
    rw [epsK_par this.symm];simp
   have e4:(absN c a != absN c b)=false:=by rw [abs_conj hF ha hbw hg hgi];simp
   refine Run.R ?_
   refine Run.c ?_ ?_
   rotate_left
   ·intro h;exact absurd h (by simp)
   intro _
   refine Run.g fun K hK=>?_
   refine FunA.cW hP hT (c_spec_ConjugateElement c a (acX c a b) om om) ?_
   rintro rs o ⟨rfl,rfl⟩
   rw [hcj]
   refine wF ?_;clear hK K
   refine Run.k [0,3,4,5,10,11] [0] ?_
   refine Run.g fun K hK=>?_
   refine .inr ⟨rfl,?_⟩
   refine FunA.cW hP hT (c_impl_AreSame c (cjX c a (acX c a b)) b om) ?_
   rintro rs o ⟨rfl,rfl⟩
   rw [e1]
   refine wW ?_
   refine .inr ⟨rfl,?_⟩
   refine FunA.e hP hT (c_impl_OrderOfElement c a) ?_
   refine .inr ⟨rfl,?_⟩
   refine FunA.e hP hT (c_impl_OrderOfElement c b) ?_
   rw [e2]
   refine wW ?_
   refine .inr ⟨rfl,?_⟩
   refine FunA.e hP hT (c_spec_SignK a) ?_
   refine .inr ⟨rfl,?_⟩
   refine FunA.e hP hT (c_spec_SignK b) ?_
   rw [e3]
   refine wW ?_
   refine .inr ⟨rfl,?_⟩
   refine FunA.e hP hT (c_impl_AbsoluteLength c a om) ?_
   refine .inr ⟨rfl,?_⟩
   refine FunA.e hP hT (c_impl_AbsoluteLength c b om) ?_
   rw [e4]
   refine wF ?_;clear hK K
   refine Run.c ?_ ?_
   ·intro h;exact absurd h (by simp)
   intro _
   refine Run.k [0] [] ?_
   refine Run.nq ?_
   exact rest
 refine Run.g fun K hK=>?_
 refine FunA.cW hP hT (c_DrawConjugacyClasses code hcl) ?_
 rintro rs o ⟨d,⟨d1,d2⟩,rfl,rfl⟩
 refine wF ?_;clear hK K
 refine Run.k [0,12] [] ?_
 have l1:=ccX_len d
 have l2:=ccX_rows d
 have l3:=cenX_len d
 have l4:=cenX_rows d
 have l5:=ocX_le d
 have h1:(elsB d 48 != elsB d 48)=false:=by simp
 have h2:(ccX d == ccX d)=true:=by simp
 have h3:(cenX d == cenX d)=true:=by simp
 have h4:(ocX d == ocX d)=true:=by simp
 refine Run.g fun K hK=>?_
 refine FunA.cW hPJ hTJ (c_impl_ConjugacyClasses d) ?_
 rintro rs o ⟨rfl,q1,hq1,rfl⟩
 refine wF ?_;clear hK K
 refine Run.g fun K hK=>?_
 refine FunA.cW hP hT (c_spec_ConjugacyClasses d) ?_
 rintro rs o ⟨rfl,q2,hq2,rfl⟩
 refine wF ?_;clear hK K
 refine Run.k [0,12,13,14,15,16] [0,1] ?_
 refine Run.g fun K hK=>?_
 rw [h1]
 simp only [AW7,simprocAttr,hX]
 refine .inr ⟨rfl,?_⟩
 refine FunA.callW hP hT (c_sameWords (ccX d) (ccX d) om (fun r hr=>by have:=l2 r hr;omega)) (by simp only [AW7,simprocAttr];first | done | exact⟨⟨rfl,rfl⟩,rfl,rfl⟩ | simp [argO,convV]) ?_
 rintro rs o ⟨rfl,rfl⟩
 rw [h2]
 refine wF ?_;clear hK K
 refine Run.c ?_ ?_
 ·intro h;exact absurd h (by simp)
 intro _
 refine Run.k [0,12,13,14] [0] ?_
 refine Run.unmat hC 0 rfl ?_
 simp only [AW7,simprocAttr]
 refine Run.l 0 [0,12,13,14] ?_
 refine Run.k [0,12,13,14] [] ?_
 refine Run.R ?_
 refine Run.R ?_
 refine Run.loopI (X:=Nat) (fun i=>⟨245,[(0,true,.v (.sl false .byte code)),(12,true,.v (.sl true (.row true) d)),(13,true,.v (.sl true (.row true) ((ccX d)))),(14,true,.v (.bool ((elsB d 48)))),(17,true,.v (.int .i64 ((sumS ((ccX d).take i))))),(18,true,.v (.int .i64 i))],[]⟩) (fun i=>i<=(ccX d).length) (fun i=>(ccX d).length - i) (0) (nz0 _) ?_ ?_
 ·exact Le.s
 rintro i hi ih
 try simp only []
 refine Run.R ?_
 refine Run.c ?_ ?_
 ·intro hx
  have hx:i < (ccX d).length:=by rw [dtE]at hx;omega
  have hon:elsB d 48=true:=by
   cases h:elsB d 48 with
   | true=>rfl
   | false=>rw [cc_off h]at hx;simp at hx
  obtain⟨k1,k2,_⟩:=cc_on hon
  have hmem:(ccX d).getD i []∈ccX d:=by
   rw [gdE,geE hx];exact List.getElem_mem hx
  obtain⟨k3,k4⟩:=k2 _ hmem
  have hr:=l2 _ hmem
  have hb1:=sumS_bnd ((ccX d).take i) fun r hr=>l2 r (List.mem_of_mem_take hr)
  rw [List.length_take]at hb1
  refine Run.RW ?_
  rw [show(sumS ((ccX d).take i):Int)+(((ccX d).getD i []).length:Nat)=(sumS ((ccX d).take (i+1)):Nat) by rw [sumS_snoc _ _ hx];push_cast;rfl]
  refine Run.nq ?_;refine Run.regionD hC true [0,2,3,4,5,6,1,7,8] (by kernel_rfl) (fun K hK=>?_);simp only [AW7,simprocAttr,hX];(repeat(with_reducible refine And.intro ?_ ?_);exact vc0)
  refine FunA.callD hP hT (c_spec_SizeOf d) (by simp only [AW7,simprocAttr]) ?_
  rintro rs o ⟨rfl,rfl⟩
  refine wW ?_
  rw [k3]
  refine wE ?_;clear hK K
  refine Run.c ?_ ?_
  ·intro h;exact absurd h (by simp)
  intro _
  refine Run.k [0,12,13,14,17,18] [] ?_
  refine Run.RW ?_
  exact Run.j (ih (i+1) (hx) mz)
 intro hx
 have hx:i=(ccX d).length:=by rw [dfE]at hx;omega
 subst hx
 rw [tkL]
 refine Run.x ?_
 refine Run.k [0,12,14,17] [] ?_
 refine Run.g fun K hK=>?_
 refine FunA.cW hPJ hTJ (c_impl_CentralElements d) ?_
 rintro rs o ⟨rfl,q3,_,rfl⟩
 refine wF ?_;clear hK K
 refine Run.g fun K hK=>?_
 refine FunA.cW hP hT (c_spec_CentralElements d) ?_
 rintro rs o ⟨rfl,q4,_,rfl⟩
 refine wF ?_;clear hK K
 refine Run.k [0,12,14,17,19,20,21,22] [0,1] ?_
 apply joinK2 (σ':=⟨245,[(0,true,.v (.sl false .byte code))],[]⟩)
 case h=>
  intro rest
  cases he:elsB d 48 with
  | false=>
   refine Run.g fun K hK=>?_
   refine .inl (CallG.off (.int .i64 0) ?_)
   refine wW ?_
   refine .inr ⟨rfl,?_⟩
   refine FunA.callW hP hT (c_sameWords (cenX d) (cenX d) om (fun r hr=>by have:=l4 r hr;omega)) (by simp only [AW7,simprocAttr];first | done | exact⟨⟨rfl,rfl⟩,rfl,rfl⟩ | simp [argO,convV]) ?_
   rintro rs o ⟨rfl,rfl⟩
   rw [h3]
   refine wW ?_
   refine .inl (CallG.off (.int .i64 0) ?_)
   refine wW ?_
   refine .inr ⟨rfl,?_⟩
   refine FunA.cW hPJ hTJ (c_impl_OrderCounts d) ?_
   rintro rs o ⟨rfl,rfl⟩
   refine wW ?_
   refine .inr ⟨rfl,?_⟩
   refine FunA.e hP hT (c_spec_OrderCounts d) ?_
   refine .inr ⟨rfl,?_⟩
   refine FunA.cW hP hT (c_sameInts (ocX d) (ocX d) om) ?_
   rintro rs o ⟨rfl,rfl⟩
   rw [h4]
   refine wF ?_;clear hK K
   refine Run.c ?_ ?_
   ·intro h;exact absurd h (by simp)
   intro _
   refine Run.k [0] [] ?_
   refine Run.nq ?_
   exact rest
  | true=>
   obtain⟨k1,_,k3,k4⟩:=cc_on he
   have hk:((sumS (ccX d):Int) != sizeE d)=false:=by rw [k1];simp
   refine Run.g fun K hK=>?_
   refine .inr ⟨rfl,?_⟩
   refine FunA.e hP hT (c_spec_SizeOf d) ?_
   rw [hk]
   refine wW ?_
   refine .inr ⟨rfl,?_⟩
   refine FunA.callW hP hT (c_sameWords (cenX d) (cenX d) om (fun r hr=>by have:=l4 r hr;omega)) (by simp only [AW7,simprocAttr];first | done | exact⟨⟨rfl,rfl⟩,rfl,rfl⟩ | simp [argO,convV]) ?_
   rintro rs o ⟨rfl,rfl⟩
   rw [h3]
   refine wW ?_
   refine .inr ⟨rfl,?_⟩
   refine FunA.e hP hT (c_spec_SizeOf d) ?_
   rw [k3]
   refine wW ?_
   refine .inr ⟨rfl,?_⟩
   refine FunA.cW hPJ hTJ (c_impl_OrderCounts d) ?_
   rintro rs o ⟨rfl,rfl⟩
   refine wW ?_
   refine .inr ⟨rfl,?_⟩
   refine FunA.e hP hT (c_spec_OrderCounts d) ?_
   refine .inr ⟨rfl,?_⟩
   refine FunA.cW hP hT (c_sameInts (ocX d) (ocX d) om) ?_
   rintro rs o ⟨rfl,rfl⟩
   rw [h4]
   refine wF ?_;clear hK K
   refine Run.c ?_ ?_
   ·intro h;exact absurd h (by simp)
   intro _
   refine Run.k [0] [] ?_
   refine Run.nq ?_
   exact rest
 refine Run.g fun K hK=>?_
 refine FunA.cW hP hT (c_DrawCoxeterNumber code hcl) ?_
 rintro rs o ⟨e,⟨e1,e2⟩,rfl,rfl⟩
 refine wF ?_;clear hK K
 refine Run.k [0,23] [] ?_
 have m1:=coxE_le e
 have n1:(coxN e != coxN e)=false:=by simp
 have n2:(isC e != isC e)=false:=by simp
 have n3:(coxE e == coxE e)=true:=by simp
 refine Run.g fun K hK=>?_
 refine FunA.e hP hT (c_impl_CoxeterNumber e om) ?_
 refine wE ?_;clear hK K
 refine Run.g fun K hK=>?_
 refine FunA.e hP hT (c_impl_CoxeterElement e om) ?_
 refine wE ?_;clear hK K
 refine Run.g fun K hK=>?_
 refine FunA.e hP hT (c_spec_CoxeterElement e om) ?_
 refine wE ?_;clear hK K
 refine Run.k [0,23,24,25,26,27,28] [0,1] ?_
 refine Run.l 0 [0,23,24,25,26,27,28] ?_
 refine Run.l 1 [0,23,24,25,26,27,28] ?_
 refine Run.k [0,23,24,25,26,27,28] [] ?_
 refine Run.g fun K hK=>?_
 refine FunA.e hP hT (c_spec_CoxeterNumber e om) ?_
 try rw [n1]
 try simp only [AW7,simprocAttr,hX]
 try rw [n2]
 try simp only [AW7,simprocAttr,hX]
 refine .inr ⟨rfl,?_⟩
 refine FunA.cW hP hT (c_sameInts (coxE e) (coxE e) om) ?_
 rintro rs o ⟨rfl,rfl⟩
 rw [n3]
 refine wF ?_;clear hK K
 refine Run.c ?_ ?_
 ·intro h;exact absurd h (by simp)
 intro _
 refine Run.k [23,24] [] ?_
 refine Run.g fun K hK=>?_
 refine FunA.cW hP hT (c_spec_PositiveRoots e) ?_
 rintro rs o ⟨rfl,ys,p1,p2,p3,rfl⟩
 refine wF ?_;clear hK K
 refine Run.k [23,24,29,30] [0] ?_
 cases hf:isF e with
 | false=>
  have hN:coxN e=0:=by unfold coxN;rw [hf];rfl
  have hys:=p2 hf
  subst hys
  rw [hN]
  refine Run.g fun K hK=>?_
  refine .inl (CallG.off (.bool false) ?_)
  refine wF ?_;clear hK K
  refine Run.r [2] ?_
  rfl
 | true=>
  obtain⟨g1,g2⟩:=p1 hf
  have hF:=isF_iff.1 hf
  have hlen:=g1.len hF.1.2.1 om om
  have hN:coxN e=(cxN e 12 1:Nat):=by unfold coxN;rw [hf];rfl
  have hrl:(rw2 ys).length=ys.length:=by simp [rw2]
  rw [hN]
  cases hc1:decide (((partsS e).length:Int)=1) with
  | false=>
   refine Run.nq ?_;refine Run.regionW hC (fun K hK=>?_);refine wWW ?_
   refine .inr ⟨rfl,?_⟩
   refine FunA.cW hP hT (c_spec_IsConnected e hF.1) ?_
   rintro rs o ⟨rfl,rfl⟩
   rw [hc1]
   refine wWW ?_
   refine wE ?_;clear hK K
   refine Run.r [2] ?_
   rfl
  | true=>
   have hc2:(partsS e).length=1:=by rw [dtE]at hc1;omega
   have hcnt:=rts_count hF hc2 (strR_nodup g1.st) fun z=>⟨fun h=>g1.mem z h,g2 z⟩
   rw [hrl]at hcnt
   have hE:((2:Int)*(ys.length:Int) == (e.length:Int)*((cxN e 12 1:Nat):Int))=true:=by
    rw [beq_iff_eq];exact_mod_cast hcnt
   refine Run.g fun K hK=>?_
   refine .inr ⟨rfl,?_⟩
   refine FunA.cW hP hT (c_spec_IsConnected e hF.1) ?_
   rintro rs o ⟨rfl,rfl⟩
   rw [hc1]
   refine wW ?_
   rw [wrap_id (n:=(2:Int)*(ys.length:Int)) om,wrap_id (n:=(e.length:Int)*((cxN e 12 1:Nat):Int)) (by rw [<- show((2*ys.length:Nat):Int)=(e.length:Int)*((cxN e 12 1:Nat):Int) by rw [hcnt];push_cast;rfl];push_cast;omega),hE]
   refine wF ?_;clear hK K
   refine Run.r [2] ?_
   rfl
theorem maxGl:Tryz.prog.globalNamed maxN=some (spltL_ren.g 1):=by kernel_rfl
theorem laidS {W:World} (hS:W.ShapedOpen Tryz.prog):Laid Tryz.prog W (fun _=>False):=
 ⟨fun g hg=>(nomatch ((show Tryz.prog.globalNamed tabN=none by kernel_rfl).symm.trans hg)),fun g hg=>⟨fun k=>k,by
  rw [<- Option.some.inj (maxGl.symm.trans hg)]
  exact cell_of_shapedOpen_int (zero:=#[.int .i64 0]) (t:=3) hS (of_decide_eq_true (by kernel_rfl)) (by kernel_rfl) (by kernel_rfl) (by kernel_rfl) (by kernel_rfl) Tryz.underlying3⟩⟩
end Go.Proofs.YtcinngodeoidnaaGreatDoor
namespace Go
variable {H:Type} {enc:TypeId×Value->H}
theorem handed_and_shaped {a:Assume} {C:Checked} {os:Os} {f:FuncId} {fn:Func} {s:ChangeSpec} {conds:List PathCond} {apart fresh handsOn again:Bool} {X:World->Array Value->Prop}
  (hX:∀(w w':World) (args:Array Value),w.heap=w'.heap->X w args->X w' args)
  (own:ownKnob C.prog.godebug=none) (started:os.Started) (noInit:C.prog.inits.idxOf? f=none) (hfn:C.prog.funcs[f]? = some fn)
  (witness:∃(w:World) (tape:Tape) (i:Input),w.os=os/\(w.forCall tape i).Shaped C.prog/\i.vars=[]/\Input.okWide C.prog (w.forCall tape i) .any w.heap.size f i /\
   ((s.pre enc C.prog fn conds apart (w.forCall tape i).memory i.args/\X (w.forCall tape i).memory i.args)/\sizedMet enc C.prog fn (OpenSpec.ofChange s) apart (w.forCall tape i).memory i.args)/\a.holds C.prog (lone (Frame.enter C.prog f i.args .normal) [] (w.forCall tape i)))
  (contract:∀(W:World) (base:Nat) (args:Array Value) (ds gs:List (DataW H)) (before:List MemPlace),
   (∀(j:Nat) t v,fn.params[j]? = some t->args[j]? = some v->Value.okWide C.prog W .any base t v) ->
   DataW.Whole enc C.prog fn.params.toList s.vars apart W args.toList ds gs before ->
   conds.all (PathCond.test C.prog ⟨fn.params.toList,ds,s.plain.varTypes C.prog,gs⟩)=true ->
   (DataW.weightsEach C.prog (fn.params.toList ++ s.plain.varTypes C.prog) (ds ++ gs)).all (·<=reachBytes)=true->X W args->W.ShapedOpen C.prog ->
   a.holds C.prog (lone (Frame.enter C.prog f args .normal) [] W) ->
   Calls C.prog f args W fun e W'=>∃ v,e=.returned v/\s.post enc C.prog fn apart fresh handsOn again W args v W') :
  ReturnsInHanded a C os f .any (fun w args=>(s.pre enc C.prog fn conds apart w args/\X w args)/\sizedMet enc C.prog fn (OpenSpec.ofChange s) apart w args) (s.post enc C.prog fn apart fresh handsOn again):=by
 refine returnsInHanded_of_calls own started noInit witness ?_
 intro w tape i _ hsh _ hok hpre hholds
 obtain⟨_,_,_,fn',hfn',_,_,_,_,hval⟩:=hok
 have e:fn'=fn:=Option.some.inj (hfn'.symm.trans hfn)
 subst e
 obtain⟨⟨⟨ds,gs,before,hw,hc⟩,hx⟩,hz⟩:=hpre
 have hw':=DataW.Whole.of_heap (w':=w.forCall tape i) (by rfl) hw
 refine(contract (w.forCall tape i) w.heap.size i.args ds gs before hval hw' hc (hz.weights hw) (hX _ _ _ (by rfl) hx) hsh hholds).mono fun e W' ⟨v,he,hp⟩=>?_
 subst he
 exact ChangeSpec.post_blind hp
end Go
