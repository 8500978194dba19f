/- The program's lists of positive roots; the list of a finite matrix. -/
import Derived.Test.YtcinngodeoidnaaGreatB25
import Derived.Test.YtcinngodeoidnaaGreatB23
import Derived.Test.YtcinngodeoidnaaGreatB16
import Derived.Test.YtcinngodeoidnaaGreatB20
import Derived.Test.YtcinngodeoidnaaGreatB13
import Derived.Test.YtcinngodeoidnaaGreatB18
import Derived.Test.YtcinngodeoidnaaGreatB15
import Derived.Test.YtcinngodeoidnaaGreatB24
import Derived.Test.YtcinngodeoidnaaGreatB22
set_option linter.unusedVariables false
set_option linter.unusedSimpArgs false
namespace Go.Proofs.YtcinngodeoidnaaGreat
open Go Go.Aw Go.Cox
def RAll (c:LL) (h:Int) (L:LL):Prop:=RL c h L/\∀ z,RS c h z->z∈L
theorem RAll.ext {c:LL} {h:Int} {L M:LL} (a:RAll c h L) (b:RAll c h M):L=M:=
 strR_ext a.1.st b.1.st fun x=>⟨fun hx=>b.2 x (a.1.mem x hx),fun hx=>a.2 x (b.1.mem x hx)⟩
open Classical in
noncomputable def rutO (c:LL) (h:Int):List (List Int):=if k:CartanP c/\(1<=h/\h<=12)/\∃ L,RAll c h L then Classical.choose k.2.2 else []
theorem rutO_eq {c:LL} {h:Int} {L:LL} (hc:CartanP c) (hh:1<=h/\h<=12) (k:RAll c h L):rutO c h=L:=by
 have k2:CartanP c/\(1<=h/\h<=12)/\∃ L,RAll c h L:=⟨hc,hh,L,k⟩
 unfold rutO
 rw [dif_pos k2]
 exact(Classical.choose_spec k2.2.2).ext k
theorem rutO_off {c:LL} {h:Int} (k:¬(CartanP c/\1<=h/\h<=12)):rutO c h=[]:=by
 unfold rutO
 rw [dif_neg fun q=>k ⟨q.1,q.2.1⟩]
theorem c_impl_RootsUpTo (c:LL) (h:Int):FunA B 36 [.sl false (.row false) c,.int .i64 h] (fun rs o=>rs=[.own 0 0]/\(CartanP c/\1<=h/\h<=12->RAll c h (rutO c h))/\o=[.arr (.row true) (rutO c h) 0 true]):=by
 refine wk Tryz.call36 Tryz.func36 rfl Tryz.ntmps36 fun C hC hP hT hfn hpin hfin hX=>wW ?_
 refine Run.R ?_
 refine Run.g fun K hK=>?_
 refine FunA.e hP hT (c_impl_IsCartan c) ?_
 refine wE ?_;clear hK K
 refine Run.c ?_ ?_
 ·intro q
  have hn:¬(CartanP c/\1<=h/\h<=12):=by
   rintro⟨hc,h1,h2⟩
   rw [isC_true hc]at q
   simp at q
   omega
  refine Run.R ?_
  refine Run.torows hC 0 rfl ?_
  simp only [AW7,simprocAttr]
  refine Run.k [4] [0] ?_
  refine Run.r [4] ?_
  rw [rutO_off hn]
  exact⟨rfl,fun k=>absurd k hn,rfl⟩
 intro q
 have hn:CartanP c/\1<=h/\h<=12:=by
  cases hb:isC c with
  | false=>rw [hb]at q;simp at q
  | true=>rw [hb]at q;simp at q;exact⟨isC_iff.1 hb,by omega,by omega⟩
 refine Run.g fun K hK=>?_
 refine FunA.cW hP hT (c_impl_pairedRoots c h hn.1 hn.2.1 hn.2.2) ?_
 rintro rs o ⟨L,zs,hL,rfl,rfl⟩
 refine wF ?_;clear hK K
 refine Run.R ?_
 refine Run.k [4] [0] ?_
 refine Run.r [4] ?_
 rw [rutO_eq hn.1 hn.2 hL]
 exact⟨rfl,fun _=>hL,rfl⟩
theorem c_impl_PositiveRoots (c:LL):FunA B 42 [.sl false (.row false) c] (fun rs o=>rs=[.own 0 0,.bool (isF c)]/\(isF c=true->RAll c 12 (rutO c 12))/\∃ L,L=(if isF c=true then rutO c 12 else [])/\o=[.arr (.row true) L 0 true]):=by
 refine wk Tryz.call42 Tryz.func42 rfl Tryz.ntmps42 fun C hC hP hT hfn hpin hfin hX=>wW ?_
 refine Run.R ?_
 refine Run.g fun K hK=>?_
 refine FunA.e hP hT (c_impl_IsFinite c) ?_
 refine wE ?_;clear hK K
 refine Run.c ?_ ?_
 ·intro h
  have h:isF c=false:=by simpa using h
  refine Run.R ?_
  refine Run.torows hC 0 rfl ?_
  simp only [AW7,simprocAttr]
  refine Run.k [2,3] [0] ?_
  refine Run.r [2,3] ?_
  rw [h]
  exact⟨rfl,fun k=>absurd k (by simp),[],by simp,rfl⟩
 intro h
 have h:isF c=true:=by simpa using h
 have hF:=isF_iff.1 h
 refine Run.g fun K hK=>?_
 refine FunA.cW hP hT (c_impl_RootsUpTo c 12) ?_
 rintro rs o ⟨rfl,hA,rfl⟩
 refine wF ?_;clear hK K
 refine Run.k [2,3] [0] ?_
 refine Run.r [2,3] ?_
 rw [h]
 exact⟨rfl,fun _=>hA ⟨hF.1,by omega,by omega⟩,_,by simp,rfl⟩
open Go Go.Aw Go.Cox
noncomputable def rofB (c:LL):Bool:=isF c && (rutO c 12).all (rflB c)
noncomputable def rofX (c:LL):List (List Int):=if rofB c=true then srt ((rutO c 12).map (rflX c))else []
theorem rof_nodup {c:LL} (hA:RAll c 12 (rutO c 12)):∀ {L:LL},L.Sublist (rutO c 12)->L.all (rflB c)=true->(L.map (rflX c)).Nodup:=by
 intro L hs hb
 have hn:=(strR_nodup hA.1.st).sublist hs
 clear hs
 induction L with
 | nil=>exact List.nodup_nil
 | cons r L ih=>
  simp only [List.all_cons,bAnd]at hb
  obtain⟨h1,h2⟩:=List.nodup_cons.1 hn
  refine List.nodup_cons.2 ⟨fun hm=>?_,ih hb.2 h2⟩
  obtain⟨r',hr',e⟩:=List.mem_map.1 hm
  have:=rfl_inj (alT.1 hb.2 r' hr') hb.1 e
  exact h1 (this▸hr')
theorem rut_len {c:LL} (hA:RAll c 12 (rutO c 12)) (hc:CartanP c):(rutO c 12).length<=28561:=hA.1.len hc.2.1 om om
theorem rofX_len (c:LL):(rofX c).length<=28561:=by
 unfold rofX
 split
 ·rename_i h
  unfold rofB at h
  simp only [bAnd]at h
  have hF:=isF_iff.1 h.1
  have:=srt_len ((rutO c 12).map (rflX c))
  rw [List.length_map]at this
  by_cases k:∃ L,RAll c 12 L
  ·obtain⟨L,hL⟩:=k
   have e:=rutO_eq hF.1 ⟨by omega,by omega⟩ hL
   have:=rut_len (by rw [e];exact hL) hF.1
   omega
  ·have e:rutO c 12=[]:=by unfold rutO;rw [dif_neg fun q=>k q.2.2]
   rw [e]at this ⊢
   simp only [List.map_nil,lenN]at this ⊢
   omega
 ·simp
theorem srt_mem2 {L:LL} {z:LI} (h:z∈srt L):z∈L:=by
 exact((srt_spec L).2 z).1 h
theorem rofX_rows (c:LL):∀ r∈rofX c,r.length<=15:=fun r hr=>by
 unfold rofX at hr
 split at hr
 ·obtain⟨z,_,rfl⟩:=List.mem_map.1 (srt_mem2 hr)
  exact rflX_le c z
 ·cases hr
theorem take_all {α:Type} (f:α->Bool) (L:List α) (k:Nat) (d:α) (hk:k < L.length):(L.take (k+1)).all f=((L.take k).all f && f (L.getD k d)):=by
 rw [List.take_succ_eq_append_getElem hk,List.all_append]
 simp [gdE,hk]
theorem all_false2 {α:Type} {f:α->Bool} {L:List α} {k:Nat} {d:α} (hk:k < L.length) (h:f (L.getD k d)=false):L.all f=false:=by
 rw [List.all_eq_false]
 refine⟨L[k],List.getElem_mem hk,?_⟩
 rw [gdE,geE hk,Option.getD_some]at h
 simp [h]
set_option maxHeartbeats 1000000 in
theorem c_impl_ReflectionsOfR (c:LL) :
  FunA B 17 [.sl false (.row false) c] (fun rs o=>∃ ys g nn rest,(rw2 ys=rofX c/\nn=true/\rest=[.bool (rofB c)])/\(lb1 ys).Nodup/\rest.all flatAV=true/\rs=.own 0 g :: rest/\o=[.arr .lrow ys g nn]):=by
 refine wk Tryz.call17 Tryz.func17 rfl Tryz.ntmps17 fun C hC hP hT hfn hpin hfin hX=>wW ?_
 refine Run.R ?_
 refine Run.g fun K hK=>?_
 refine FunA.cW hP hT (c_impl_PositiveRoots c) ?_
 rintro rs o ⟨rfl,hA,L,hL,rfl⟩
 refine wF ?_;clear hK K
 refine Run.R ?_
 refine Run.c ?_ ?_
 ·intro h
  have h:isF c=false:=by simpa using h
  have hb:rofB c=false:=by unfold rofB;rw [h];rfl
  have hx:rofX c=[]:=by unfold rofX;rw [hb];rfl
  refine Run.R ?_
  refine Run.k [2,3] [1] ?_
  refine Run.r [2,3] ?_
  exact⟨[],0,true,[.bool false],⟨hx.symm,rfl,by rw [hb]⟩,List.nodup_nil,rfl,rfl,rfl⟩
 intro h
 have h:isF c=true:=by simpa using h
 have hF:=isF_iff.1 h
 have hA:=hA h
 rw [if_pos h]at hL
 subst hL
 have hll:=rut_len hA hF.1
 generalize hLe:rutO c 12=L at *
 refine Run.R ?_
 refine Run.R ?_
 refine Run.k [0,2,3,6,20,21,22] [0,1] ?_
 refine Run.loopI (X:=Nat×List (Nat×List Int)) (fun x=>⟨43,[(0,true,.v (.sl false (.row false) c)),(2,true,.v (.nils)),(3,true,.v (.bool false)),(6,true,.v (.own 1 0)),(20,true,.v (.own 0 0)),(21,true,.v (.int .i64 ((L.length:Nat)))),(22,true,.v (.int .i64 (x.1)))],[.arr (.row true) (L) 0 true,.arr .lrow (x.2) 0 true]⟩) (fun x=>x.1<=L.length/\(L.take x.1).all (rflB c)=true/\rw2 x.2=(L.take x.1).map (rflX c)/\(lb1 x.2).Nodup) (fun x=>L.length - x.1) ((0,[])) (⟨nz0 _,rfl,rfl,by simp [lb1]⟩) ?_ ?_
 ·exact Le.s
 rintro⟨k,ys⟩ ⟨hk,hB,hE,hN⟩ ih
 try simp only []
 simp only []at hk hB hE hN
 have hyl:ys.length=k:=by have:=congrArg List.length hE;simpa [rw2,hk] using this
 refine Run.R ?_
 refine Run.c ?_ ?_
 ·intro q
  have q:k < L.length:=by rw [dtE]at q;omega
  refine Run.R ?_
  refine Run.g fun K hK=>?_
  refine FunA.e hP hT (c_impl_ReflectionOf c (L.getD k [])) ?_
  refine wE ?_;clear hK K
  refine Run.R ?_
  refine Run.c ?_ ?_
  ·intro hr
   have hr:rflB c (L.getD k [])=false:=by simpa using hr
   have hb:rofB c=false:=by unfold rofB;rw [h,hLe,all_false2 q hr];rfl
   have hx:rofX c=[]:=by unfold rofX;rw [hb];rfl
   refine Run.R ?_
   refine Run.k [2,3] [3] ?_
   refine Run.r [2,3] ?_
   exact⟨[],0,true,[.bool false],⟨hx.symm,rfl,by rw [hb]⟩,List.nodup_nil,rfl,rfl,rfl⟩
  intro hr
  have hr:rflB c (L.getD k [])=true:=by simpa using hr
  have hE2:rw2 (ys ++ [(0,rflX c (L.getD k []))])=(L.take (k+1)).map (rflX c):=by
   rw [rw2_app,hE,List.take_succ_eq_append_getElem q,List.map_append]
   simp [rw2,gdE,q]
  refine Run.g fun K hK=>?_
  intro l hl
  (repeat(with_reducible refine And.intro ?_ ?_);exact vc0)
  refine wE ?_;clear hK K
  have hN2:(lb1 (ys ++ [(l,rflX c (L.getD k []))])).Nodup:=by
   have:=lb_ins (ys:=[]) (i:=0) (w:=rflX c (L.getD k [])) (by simpa [lb1] using hN) (hl (.arr .lrow ys 0 true) (by simp) _ _ _ rfl) (by simp)
   simpa [lb1] using this
  refine Run.RW ?_
  refine Run.k [0,2,3,6,20,21,22] [0,1] ?_
  refine Run.le ?_ (ih (k+1,ys ++ [(l,rflX c (L.getD k []))]) ⟨q,by simp only [];rw [take_all _ _ _ [] q,hB,hr];rfl,by simp only [rw2,List.map_append,List.map_cons,List.map_nil]at hE2 ⊢;exact hE2,hN2⟩ (by simp only [];omega))
  exact Le.sub (by rfl) (by simp only [AW7,simprocAttr];try simp)
 intro q
 have q:k=L.length:=by rw [dfE]at q;omega
 subst q
 rw [tkL]at hB hE
 have hb:rofB c=true:=by unfold rofB;rw [h,hLe,hB];rfl
 have hx:rofX c=srt (L.map (rflX c)):=by unfold rofX;rw [if_pos hb,hLe]
 refine Run.x ?_
 refine Run.g fun K hK=>?_
 refine ACall.sort hP hT srtL rfl cmpW_swo 1 0 rfl om (fun a b ha _=>c_impl_CompareWords a b ?_) ?_
 ·rcases ha with rfl | ha
  ·simp
  ·have ha:a∈rw2 ys:=ha
   rw [hE]at ha
   obtain⟨z,_,rfl⟩:=List.mem_map.1 ha
   have:=rflX_le c z
   omega
 intro ys' hp hs
 refine wF ?_;clear hK K
 refine Run.R ?_
 refine Run.k [2,3] [1] ?_
 refine Run.r [2,3] ?_
 refine⟨ys',0,true,[.bool true],⟨?_,rfl,by rw [hb]⟩,?_,rfl,rfl,rfl⟩
 ·rw [hx]
  refine sorted_srt (rof_nodup (by rw [hLe];exact hA) (by rw [hLe];exact List.Sublist.refl _) hB) ?_ ?_
  ·rw [<- hE];exact hp.map _
  ·exact List.pairwise_map.2 hs
 ·exact(hp.map _).nodup_iff.2 hN
theorem c_impl_ReflectionsOf (c:LL) :
  FunA B 17 [.sl false (.row false) c] (fun rs o=>rs=[.own 0 0,.bool (rofB c)]/\∃ hs,hs.length=(rofX c).length/\o=[.mat hs (rofX c) 0 true]):=
 (FunA.mat (by rfl) (post:=fun rows nn rest=>rows=rofX c/\nn=true/\rest=[.bool (rofB c)]) (c_impl_ReflectionsOfR c)).mono fun rs o ⟨hs,rows,nn,rest,⟨h1,h2,h3⟩,h4,h5,h6⟩=>by subst h1 h2 h3;exact⟨h5,hs,h4,h6⟩
set_option maxHeartbeats 1000000 in
theorem c_spec_ReflectionsOfR (c:LL) :
  FunA B 18 [.sl false (.row false) c] (fun rs o=>∃ ys g nn rest,(rw2 ys=rofX c/\nn=true/\rest=[.bool (rofB c)])/\(lb1 ys).Nodup/\rest.all flatAV=true/\rs=.own 0 g :: rest/\o=[.arr .lrow ys g nn]):=by
 refine wk Tryz.call18 Tryz.func18 rfl Tryz.ntmps18 fun C hC hP hT hfn hpin hfin hX=>wW ?_
 refine Run.R ?_
 refine Run.R ?_
 refine Run.g fun K hK=>?_
 refine FunA.cW hP hT (c_spec_PositiveRoots c) ?_
 rintro rs o ⟨rfl,ps,hA,hz,hps,rfl⟩
 refine wF ?_;clear hK K
 refine Run.R ?_
 cases h:isF c with
 | false=>
  have hb:rofB c=false:=by unfold rofB;rw [h];rfl
  have hx:rofX c=[]:=by unfold rofX;rw [hb];rfl
  have hz:=hz h
  subst hz
  refine Run.loopI (X:=Unit) (fun _=>⟨42,[(0,true,.v (.sl false (.row false) c)),(4,true,.v (.own 0 0)),(5,true,.v (.own 1 0)),(6,true,.v (.bool false)),(7,true,.v (.int .i64 0))],[.arr .lrow [] 0 true,.arr .lrow [] 0 true]⟩) (fun _=>True) (fun _=>0) () trivial ?_ ?_
  ·exact Le.sub (by rfl) (by simp only [AW7,simprocAttr,hX];try simp)
  rintro _ _ _
  refine Run.R ?_
  refine Run.c ?_ ?_
  ·intro q;simp at q
  intro _
  refine Run.x ?_
  refine Run.R ?_
  refine Run.k [2,3] [0] ?_
  refine Run.r [2,3] ?_
  exact⟨[],0,true,[.bool false],⟨hx.symm,rfl,by rw [hb]⟩,List.nodup_nil,rfl,rfl,rfl⟩
 | true=>
  have hF:=isF_iff.1 h
  have hA:=hA h
  have hRe:rutO c 12=rw2 ps:=rutO_eq hF.1 ⟨by omega,by omega⟩ hA
  have hAr:RAll c 12 (rutO c 12):=by rw [hRe];exact hA
  have hll:=rut_len hAr hF.1
  rw [hRe]at hll
  have hll:ps.length<=28561:=by simpa [rw2] using hll
  have hgk:∀ k,k < ps.length->(rutO c 12).getD k []=(ps.getD k (0,[])).2:=fun k hk=>by rw [hRe];simp [rw2,gdE,hk]
  have hlen:(rutO c 12).length=ps.length:=by rw [hRe];simp [rw2]
  generalize hLe:rutO c 12=L at *
  refine Run.k [0,4,5,6,7] [0,1] ?_
  refine Run.loopI (X:=Nat×List (Nat×List Int)) (fun x=>⟨42,[(0,true,.v (.sl false (.row false) c)),(4,true,.v (.own 0 0)),(5,true,.v (.own 1 0)),(6,true,.v (.bool true)),(7,true,.v (.int .i64 (x.1)))],[.arr .lrow (x.2) 0 true,.arr .lrow (ps) 0 true]⟩) (fun x=>x.1<=L.length/\(L.take x.1).all (rflB c)=true/\rw2 x.2=srt ((L.take x.1).map (rflX c))/\(lb1 x.2).Nodup) (fun x=>L.length - x.1) ((0,[])) (⟨nz0 _,rfl,rfl,by simp [lb1]⟩) ?_ ?_
  ·exact Le.s
  rintro⟨k,ys⟩ ⟨hk,hB,hE,hN⟩ ih
  try simp only []
  simp only []at hk hB hE hN
  have hyl:ys.length<=k:=by
   have:=srt_len ((L.take k).map (rflX c))
   rw [<- hE]at this
   simp [rw2]at this
   omega
  refine Run.R ?_
  refine Run.c ?_ ?_
  ·intro q
   have q:k < L.length:=by
    cases hd:decide ((k:Int) < ps.length) with
    | true=>rw [dtE]at hd;omega
    | false=>rw [hd]at q;cases q
   have hg:=hgk k om
   refine Run.g fun K hK=>?_
   refine FunA.cW hP hT (c_spec_ReflectionOf c (ps.getD k (0,[])).2) ?_
   rintro rs o ⟨rfl,rfl⟩
   rw [<- hg]
   refine wF ?_;clear hK K
   refine Run.R ?_
   refine Run.c ?_ ?_
   ·intro hr
    have hr:rflB c (L.getD k [])=false:=by simpa using hr
    have hb:rofB c=false:=by unfold rofB;rw [h,hLe,all_false2 q hr];rfl
    have hx:rofX c=[]:=by unfold rofX;rw [hb];rfl
    refine Run.R ?_
    refine Run.k [2,3] [3] ?_
    refine Run.r [2,3] ?_
    exact⟨[],0,true,[.bool false],⟨hx.symm,rfl,by rw [hb]⟩,List.nodup_nil,rfl,rfl,rfl⟩
   intro hr
   have hr:rflB c (L.getD k [])=true:=by simpa using hr
   have hst:(L.take (k+1)).map (rflX c)=(L.take k).map (rflX c) ++ [rflX c (L.getD k [])]:=by
    rw [List.take_succ_eq_append_getElem q,List.map_append]
    simp [gdE,q]
   have hxl:=rflX_le c (L.getD k [])
   refine Run.g fun K hK=>?_
   refine FunM.call hP hT (c_spec_l11Put ys (rflX c (L.getD k [])) hN om om true) 0 0 (by simp only [AW7,simprocAttr];rfl) (by simp) rfl (by simp only [AW7,simprocAttr];try simp) ?_
   rintro rs o' obs' ⟨rfl,ys',hy',hN',e⟩
   injection e with e1 e2
   subst e1 e2
   refine wF ?_;clear hK K
   refine Run.RW ?_
   refine Run.k [0,4,5,6,7] [3,1] ?_
   refine Run.le ?_ (ih (k+1,ys') ⟨q,by simp only [];rw [take_all _ _ _ [] q,hB,hr];rfl,by simp only [];rw [hy',hE,hst,srt_snoc],hN'⟩ (by simp only [];omega))
   exact Le.sub (by rfl) (by simp only [AW7,simprocAttr];try simp)
  intro q
  have q:k=L.length:=by
   cases hd:decide ((k:Int) < ps.length) with
   | true=>rw [hd]at q;cases q
   | false=>rw [dfE]at hd;omega
  subst q
  rw [tkL]at hB hE
  have hb:rofB c=true:=by unfold rofB;rw [h,hLe,hB];rfl
  have hx:rofX c=srt (L.map (rflX c)):=by unfold rofX;rw [if_pos hb,hLe]
  refine Run.x ?_
  refine Run.R ?_
  refine Run.k [2,3] [0] ?_
  refine Run.r [2,3] ?_
  exact⟨ys,0,true,[.bool true],⟨by rw [hx];exact hE,rfl,by rw [hb]⟩,hN,rfl,rfl,rfl⟩
theorem c_spec_ReflectionsOf (c:LL) :
  FunA B 18 [.sl false (.row false) c] (fun rs o=>rs=[.own 0 0,.bool (rofB c)]/\∃ hs,hs.length=(rofX c).length/\o=[.mat hs (rofX c) 0 true]):=
 (FunA.mat (by rfl) (post:=fun rows nn rest=>rows=rofX c/\nn=true/\rest=[.bool (rofB c)]) (c_spec_ReflectionsOfR c)).mono fun rs o ⟨hs,rows,nn,rest,⟨h1,h2,h3⟩,h4,h5,h6⟩=>by subst h1 h2 h3;exact⟨h5,hs,h4,h6⟩
def upto (n:Nat):List Int:=(List.range n).map fun(i:Nat)=>(i:Int)
def cxN (c:LL):Nat->Nat->Nat
 | 0,k=>k
 | f+1,k=>if itW c (upto c.length) k (ones c.length)=ones c.length then k else cxN c f (k+1)
def nbI (c:LL) (i:Nat):List Int:=((List.range c.length).filter fun j=>!(j == i) && !(ent c i j == 0)).map Int.ofNat
def stJ (p:List Bool×List Int) (j:Int):List Bool×List Int:=bif p.1.getD j.toNat false then p else(p.1.set j.toNat true,p.2 ++ [j])
def grP (c:LL):Nat->Nat->List Bool×List Int->List Bool×List Int
 | 0,_,p=>p
 | f+1,k,p=>bif Nat.blt k p.2.length then grP c f (k+1) ((nbI c (p.2.getD k 0).toNat).foldl stJ p)else p
def partS (c:LL) (i:Nat):List Int:=((List.range c.length).filter fun(k:Nat)=>(grP c (c.length+1) 0 ((List.replicate c.length false).set i true,[(i:Int)])).1.getD k false).map Int.ofNat
def partsS (c:LL):List (List Int):=((List.range c.length).map (partS c)).zipIdx.filterMap fun p=>bif p.1.getD 0 0 == (p.2:Int)then some p.1 else none
set_option maxRecDepth 100000
theorem all_take {l:List (List (List Int))} {p:List (List Int)->Bool} (n:Nat) (h1:(l.take n).all p=true) (h2:(l.drop n).all p=true):l.all p=true:=by
 have e:=congrArg (fun x=>x.all p) (List.take_append_drop n l)
 rw [<- e]
 simp only [List.all_append,h1,h2,Bool.and_self]
def upsC (c:LL) (r:LI) (acc:LL):List (List Int):=
 ((List.range c.length).map fun(i:Nat)=>mirL c (i:Int) r).filter fun m=>sgnR m == 1 && decide (hgt m<=12) && decide (hgt r < hgt m) && !acc.elem m
def growR (c:LL):Nat->List (List Int)->List (List Int)->List (List Int)
 | 0,_,acc=>acc
 | _+1,[],acc=>acc
 | f+1,r :: todo,acc=>growR c f (todo ++ upsC c r acc) (acc ++ upsC c r acc)
def simsC (c:LL):List (List Int):=(List.range c.length).map (simL c.length)
def rtsC (c:LL):List (List Int):=growR c 30 (simsC c) (simsC c)
def ndB:List (List Int)->Bool
 | []=>true
 | x :: l=>!l.elem x && ndB l
def chkR (c:LL):Bool:=
 (rtsC c).all (fun r=>(upsC c r (rtsC c)).isEmpty) && ndB (rtsC c) && (!((partsS c).length == 1) || 2*(rtsC c).length == c.length*cxN c 12 1)
theorem elem_iff {l:LL} {x:LI}:l.elem x=true↔x∈l:=by simp [List.elem_iff]
theorem ndB_iff:∀ {l:LL},ndB l=true->l.Nodup
 | [],_=>List.nodup_nil
 | x :: l,h=>by
  simp only [ndB,bAnd,Bool.not_eq_true']at h
  refine List.nodup_cons.2 ⟨fun hm=>?_,ndB_iff h.2⟩
  rw [elem_iff.2 hm]at h;cases h.1
theorem upsC_rs {c:LL} {r:LI} {acc:LL} (hr:RS c 12 r):∀ z∈upsC c r acc,RS c 12 z:=by
 intro z hz
 unfold upsC at hz
 obtain⟨h1,h2⟩:=List.mem_filter.1 hz
 obtain⟨i,hi,rfl⟩:=List.mem_map.1 h1
 simp only [bAnd,beq_iff_eq,dtE]at h2
 exact .up r i hr (List.mem_range.1 hi) h2.1.1.1 h2.1.1.2 h2.1.2
theorem growR_rs {c:LL}:∀(f:Nat) (todo acc:LL),(∀ z∈todo,RS c 12 z)->(∀ z∈acc,RS c 12 z)->∀ z∈growR c f todo acc,RS c 12 z
 | 0,_,_,_,h2=>h2
 | _+1,[],_,_,h2=>h2
 | f+1,r :: todo,acc,h1,h2=>by
  have hu:=upsC_rs (acc:=acc) (h1 r (mcS ..))
  refine growR_rs f _ _ (fun z hz=>?_) (fun z hz=>?_)
  ·rcases List.mem_append.1 hz with hz | hz
   ·exact h1 z (mcM _ hz)
   ·exact hu z hz
  ·rcases List.mem_append.1 hz with hz | hz
   ·exact h2 z hz
   ·exact hu z hz
theorem growR_sub {c:LL}:∀(f:Nat) (todo acc:LL),∀ z∈acc,z∈growR c f todo acc
 | 0,_,_,_,h=>h
 | _+1,[],_,_,h=>h
 | f+1,r :: todo,acc,z,h=>growR_sub f _ _ z (List.mem_append.2 (.inl h))
theorem sims_rs {c:LL}:∀ z∈simsC c,RS c 12 z:=fun z hz=>by
 obtain⟨i,hi,rfl⟩:=List.mem_map.1 hz
 exact .sim i (List.mem_range.1 hi)
theorem rts_rs {c:LL}:∀ z∈rtsC c,RS c 12 z:=growR_rs 30 _ _ sims_rs sims_rs
theorem rts_all {c:LL} (h:(rtsC c).all (fun r=>(upsC c r (rtsC c)).isEmpty)=true):∀ z,RS c 12 z->z∈rtsC c:=fun z hz=>by
 induction hz with
 | sim i hi=>exact growR_sub _ _ _ _ (List.mem_map.2 ⟨i,List.mem_range.2 hi,rfl⟩)
 | up r i _ hi a b d ih=>
  have h1:=alT.1 h r ih
  rw [List.isEmpty_iff]at h1
  by_cases hm:mirL c i r∈rtsC c
  ·exact hm
  ·have:mirL c i r∈upsC c r (rtsC c):=by
    unfold upsC
    refine List.mem_filter.2 ⟨List.mem_map.2 ⟨i,List.mem_range.2 hi,rfl⟩,?_⟩
    have he:(rtsC c).elem (mirL c i r)=false:=by
     cases e:(rtsC c).elem (mirL c i r) with
     | false=>rfl
     | true=>exact absurd (elem_iff.1 e) hm
    simp only [a,he,b,d,decide_true,beq_self_eq_true,Bool.and_self,Bool.not_false]
   rw [h1]at this;cases this
set_option maxRecDepth 100000
theorem chkR1:(finM 1).all chkR=true:=by decide +kernel
theorem chkR2:(finM 2).all chkR=true:=by decide +kernel
theorem chkR3:(finM 3).all chkR=true:=by decide +kernel
theorem chkR4a:((finM 4).take 70).all chkR=true:=by decide +kernel
theorem chkR4b:(((finM 4).drop 70).take 60).all chkR=true:=by decide +kernel
theorem chkR4c:(((finM 4).drop 130).take 60).all chkR=true:=by decide +kernel
theorem chkR4d:((finM 4).drop 190).all chkR=true:=by decide +kernel
theorem chkR_fin {c:LL} (hF:FinP c):chkR c=true:=by
 refine fin_chk hF chkR1 chkR2 chkR3 (all_take 70 chkR4a (all_take 60 chkR4b (all_take 60 ?_ ?_)))
 ·rw [List.drop_drop];exact chkR4c
 ·rw [List.drop_drop,List.drop_drop];exact chkR4d
def chkC (c:LL):Bool:=(rtsC c).all fun r=>(List.range c.length).all fun(i:Nat)=>r == simL c.length i || (rtsC c).elem (mirL c (i:Int) r)
set_option maxRecDepth 100000
theorem chkC1:(finM 1).all chkC=true:=by decide +kernel
theorem chkC2:(finM 2).all chkC=true:=by decide +kernel
theorem chkC3:(finM 3).all chkC=true:=by decide +kernel
theorem chkC4a:((finM 4).take 70).all chkC=true:=by decide +kernel
theorem chkC4b:(((finM 4).drop 70).take 60).all chkC=true:=by decide +kernel
theorem chkC4c:(((finM 4).drop 130).take 60).all chkC=true:=by decide +kernel
theorem chkC4d:((finM 4).drop 190).all chkC=true:=by decide +kernel
theorem chkC_fin {c:LL} (hF:FinP c):chkC c=true:=by
 refine fin_chk hF chkC1 chkC2 chkC3 (all_take 70 chkC4a (all_take 60 chkC4b (all_take 60 ?_ ?_)))
 ·rw [List.drop_drop];exact chkC4c
 ·rw [List.drop_drop,List.drop_drop];exact chkC4d
theorem rts_mir {c:LL} (hF:FinP c) {r:LI} (hr:r∈rtsC c) {i:Nat} (hi:i < c.length):r=simL c.length i\/mirL c (i:Int) r∈rtsC c:=by
 have h:=alT.1 (alT.1 (chkC_fin hF) r hr) i (List.mem_range.2 hi)
 simp only [Bool.or_eq_true,beq_iff_eq]at h
 rcases h with h | h
 ·exact .inl h
 ·exact .inr (elem_iff.1 h)
theorem neg_neg_l (r:LI):negL (negL r)=r:=by
 apply List.ext_getElem (by simp [negL])
 intro k k1 k2
 simp [negL]
theorem rts_rt {c:LL} (hF:FinP c) {i:Nat} (hi:i < c.length):∀ w:List Int,letters c.length w->actR c w (simL c.length i)∈rtsC c\/negL (actR c w (simL c.length i))∈rtsC c
 | [],_=>.inl (growR_sub 30 _ _ _ (List.mem_map.2 ⟨i,List.mem_range.2 hi,rfl⟩))
 | j :: w,hw=>by
  obtain⟨hj,hw⟩:=letters_cons.1 hw
  have ej:((j.toNat:Nat):Int)=j:=by omega
  have e:actR c (j :: w) (simL c.length i)=mirL c j (actR c w (simL c.length i)):=rfl
  have hs:simL c.length j.toNat∈rtsC c:=growR_sub 30 _ _ _ (List.mem_map.2 ⟨j.toNat,List.mem_range.2 om,rfl⟩)
  have hm:mirL c j (simL c.length j.toNat)=negL (simL c.length j.toNat):=by
   have:=mir_sim hF.1 (i:=j.toNat) om
   rwa [ej]at this
  rw [e]
  rcases rts_rt hF hi w hw with h | h
  ·rcases rts_mir hF h (i:=j.toNat) om with h1 | h1
   ·right;rw [h1,hm,neg_neg_l];exact hs
   ·left;rwa [ej]at h1
  ·rcases rts_mir hF h (i:=j.toNat) om with h1 | h1
   ·left
    rw [<- neg_neg_l (actR c w (simL c.length i)),mir_neg,h1,hm,neg_neg_l];exact hs
   ·right;rw [ej,mir_neg]at h1;exact h1
theorem map_set {f:Int->Int} (l:LI) (m:Nat) (h:m < l.length):((l.take m).map f ++ l.drop m).set m (f (l.getD m 0))=(l.take (m+1)).map f ++ l.drop (m+1):=by
 rw [<- take_snoc 0 l m h,List.set_append,if_neg (by simp;omega)]
 have:l.drop m=l.getD m 0 :: l.drop (m+1):=by
  rw [List.drop_eq_getElem_cons h];simp [gdE,h]
 rw [this]
 simp [Nat.min_eq_left (Nat.le_of_lt h)]
set_option maxRecDepth 100000
theorem rts_mem {c:LL} (hF:FinP c) (z:LI):z∈rtsC c↔RS c 12 z:=by
 have h:=chkR_fin hF
 unfold chkR at h
 simp only [bAnd]at h
 exact⟨rts_rs z,rts_all h.1.1 z⟩
theorem rts_nodup {c:LL} (hF:FinP c):(rtsC c).Nodup:=by
 have h:=chkR_fin hF
 unfold chkR at h
 simp only [bAnd]at h
 exact ndB_iff h.1.2
theorem pick_N (L:List (Int×Int)) (h:∀ p∈L,p.1≠0) (a b:Int) (hab:a≠0\/b≠0):∃ N:Int,(∀ p∈L,N*p.1+p.2≠0)/\N*a+b≠0:=by
 obtain⟨M,hM0,hM⟩:∃ M:Int,0<=M/\∀ p∈L,-M<=p.2/\p.2<=M:=by
  clear h
  induction L with
  | nil=>exact⟨0,by omega,by simp⟩
  | cons p L ih=>
   obtain⟨M,h0,hM⟩:=ih
   refine⟨M+p.2.natAbs,by omega,fun q hq=>?_⟩
   rcases List.mem_cons.1 hq with rfl | hq
   ·omega
   ·have:=hM q hq;omega
 have key:∀ N:Int,M < N->∀ p∈L,N*p.1+p.2≠0:=fun N hN p hp=>by
  have h1:=hM p hp
  have h2:=h p hp
  rcases Int.lt_or_gt_of_ne h2 with h3 | h3
  ·have:=Int.mul_le_mul_of_nonneg_left (show p.1<=-1 by omega) (show 0<=N by omega)
   omega
  ·have:=Int.mul_le_mul_of_nonneg_left (show 1<=p.1 by omega) (show 0<=N by omega)
   omega
 by_cases e:(M+1)*a+b=0
 ·refine⟨M+2,key _ om,fun e2=>?_⟩
  have h1:(M+2)*a=(M+1)*a+a:=by grind
  have:a=0:=by omega
  rcases hab with h | h
  ·exact h this
  ·rw [this]at e;omega
 ·exact⟨M+1,key _ om,e⟩
theorem generic {I:Type} (f:I->Vec->Int) (hf:∀ i (x y:Int) (u v:Vec),f i (fun k=>x*u k+y*v k)=x*f i u+y*f i v) (S:Vec->Prop) (hS:∀(x y:Int) (u v:Vec),S u->S v->S (fun k=>x*u k+y*v k)) (h0:∃ v,S v) :
  ∀ L:List I,(∀ i∈L,∃ y,S y/\f i y≠0)->∃ v,S v/\∀ i∈L,f i v≠0
 | [],_=>by obtain⟨v,hv⟩:=h0;exact⟨v,hv,by simp⟩
 | i :: L,h=>by
  obtain⟨v,hv,h1⟩:=generic f hf S hS h0 L fun j hj=>h j (mcM _ hj)
  obtain⟨y,hy,h2⟩:=h i (mcS ..)
  obtain⟨N,h3,h4⟩:=pick_N (L.map fun j=>(f j v,f j y)) (fun p hp=>by
   obtain⟨j,hj,rfl⟩:=List.mem_map.1 hp;exact h1 j hj) (f i v) (f i y) (.inr h2)
  refine⟨fun k=>N*v k+1*y k,hS _ _ _ _ hv hy,fun j hj=>?_⟩
  rw [hf,Int.one_mul]
  rcases List.mem_cons.1 hj with rfl | hj
  ·exact h4
  ·exact h3 _ (List.mem_map.2 ⟨j,hj,rfl⟩)
theorem exists_max {α:Type} (F:α->Int):∀ l:List α,l≠[]->∃ a∈l,∀ b∈l,F b<=F a
 | [],h=>absurd rfl h
 | [a],_=>⟨a,by simp,by simp⟩
 | a :: b :: l,_=>by
  obtain⟨m,h1,h2⟩:=exists_max F (b :: l) (by simp)
  by_cases h:F a<=F m
  ·refine⟨m,mcM _ h1,fun z hz=>?_⟩
   rcases List.mem_cons.1 hz with rfl | hz
   ·exact h
   ·exact h2 z hz
  ·refine⟨a,mcS ..,fun z hz=>?_⟩
   rcases List.mem_cons.1 hz with rfl | hz
   ·omega
   ·have:=h2 z hz;omega
section
variable {c:LL} (hF:FinP c)
def FixF (c:LL) (w:List Nat) (y:Vec):Prop:=∀ k,k < c.length->actF (matA c) c.length w y k=y k
include hF in
theorem all_word (w:List Nat) (hw:∀ i∈w,i < c.length):∃ g∈allL c,∀ x k,k < c.length->actF (matA c) c.length (nat g) x k=actF (matA c) c.length w x k:=by
 have hl:letters c.length (w.map Int.ofNat):=fun i hi=>by
  obtain⟨j,hj,rfl⟩:=List.mem_map.1 hi
  have:=hw j hj
  simp;omega
 have hn:nat (w.map Int.ofNat)=w:=by simp [nat,Function.comp_def]
 obtain⟨h1,h2⟩:=fin_nf hF hl
 refine⟨_,((allL_spec hF).2 _).2 h1,fun x k hk=>?_⟩
 rw [actF_same hF.1 h1.1 hl h2 x k hk,hn]
include hF in
theorem not_regular {w:List Nat} (hw:∀ i∈w,i < c.length) {v:Vec} (hv:FixF c w v) (hr:∀ g∈allL c,∀ i,i < c.length->lamF (matA c) c.length (actF (matA c) c.length (nat g) v) i≠0):∀ x,act (matA c) w x=x:=by
 have hA:=matA_cartan hF.1
 have hall:=allL_spec hF
 have hne:allL c≠[]:=fun e=>by
  have h:[]∈allL c:=(hall.2 []).2 ((outS_mem hF.1 (show 0<=30 by omega) []).1 (by simp [outS])).1
  rw [e]at h;cases h
 obtain⟨g,hg,hmax⟩:=exists_max (fun g=>sumN c.length (actF (matA c) c.length (nat g) v)) (allL c) hne
 have hgn:=letters_nat ((hall.2 g).1 hg).1
 have hpos:∀ i,i < c.length->0 < lamF (matA c) c.length (actF (matA c) c.length (nat g) v) i:=fun i hi=>by
  have h0:=hr g hg i hi
  obtain⟨g',hg',he⟩:=all_word hF (i :: nat g) (fun j hj=>by
   rcases List.mem_cons.1 hj with rfl | hj
   ·exact hi
   ·exact hgn j hj)
  have h1:=hmax g' hg'
  rw [sumN_congr c.length (f:=actF (matA c) c.length (nat g') v) (g:=fun k=>actF (matA c) c.length (nat g) v k+(-1)*(if k=i then lamF (matA c) c.length (actF (matA c) c.length (nat g) v) i else 0)) (fun k hk=>by rw [he v k hk,actF_cons,mirF_eq];omega),
   sumN_add,sumN_mul,sumN_one c.length hi (fun j _ hj=>if_neg hj),if_pos rfl]at h1
  omega
 have hfix:act (matA c) (nat g ++ w) (lamF (matA c) c.length v)=act (matA c) (nat g) (lamF (matA c) c.length v):=by
  rw [act_append,<- lamF_act (matA c) v w hw]
  congr 1
  funext k
  exact lamF_congr hv k
 have hpos':∀ i,i < c.length->0 < act (matA c) (nat g) (lamF (matA c) c.length v) i:=fun i hi=>by
  rw [<- lamF_act (matA c) v _ hgn];exact hpos i hi
 have hrev:∀ i∈(nat g).reverse,i < c.length:=fun i hi=>hgn i (by simpa using hi)
 intro x
 have hall2:∀ i∈nat g ++ w ++ (nat g).reverse,i < c.length:=fun i hi=>by
  rcases List.mem_append.1 hi with hi | hi
  ·rcases List.mem_append.1 hi with hi | hi
   ·exact hgn i hi
   ·exact hw i hi
  ·exact hrev i hi
 have hback:∀ z,act (matA c) (nat g).reverse (act (matA c) (nat g) z)=z:=fun z=>by rw [act_reverse];exact run_act hA _ hgn z
 have h3:=faithful hA hpos' hall2 (b:=[]) (by simp) (by rw [act_append,hback,hfix];rfl) (act (matA c) (nat g) x)
 rw [act_append,hback,act_append]at h3
 have h4:act (matA c) (nat g) (act (matA c) w x)=act (matA c) (nat g) x:=h3
 rw [<- hback (act (matA c) w x),h4,hback]
def cor (c:LL) (g:List Nat) (i:Nat) (y:Vec):Int:=lamF (matA c) c.length (actF (matA c) c.length g y) i
def rtF (c:LL) (g:List Nat) (i:Nat):Vec:=actF (matA c) c.length g.reverse (unitF i)
def rfW (g:List Nat) (i:Nat):List Nat:=g.reverse ++ i :: g
theorem cor_lin (g:List Nat) (i:Nat) (x y:Int) (u v:Vec):cor c g i (fun k=>x*u k+y*v k)=x*cor c g i u+y*cor c g i v:=by
 unfold cor;rw [actF_lin,lamF_lin]
include hF in
theorem rf_act {g:List Nat} (hg:∀ j∈g,j < c.length) (i:Nat) (y:Vec):actF (matA c) c.length (rfW g i) y=fun k=>1*y k+(-(cor c g i y))*rtF c g i k:=by
 have hA:=matA_cartan hF.1
 unfold rfW
 rw [actF_append,actF_cons,mirF_shift,actF_lin,actF_rev hA y g hg]
 rfl
include hF in
theorem cor_root {g:List Nat} (hg:∀ j∈g,j < c.length) {i:Nat} (hi:i < c.length):cor c g i (rtF c g i)=2:=by
 have hA:=matA_cartan hF.1
 unfold cor rtF
 rw [actF_rev2 hA _ g hg,lamF_unit _ hi];exact hA.diag i hi
include hF in
theorem cor_bF {g:List Nat} (hg:∀ j∈g,j < c.length) {i:Nat} (hi:i < c.length) (y:Vec):cor c g i y*bF c (rtF c g i) (rtF c g i)=2*bF c y (rtF c g i):=by
 have hA:=matA_cartan hF.1
 have hgr:∀ j∈g.reverse,j < c.length:=fun j hj=>hg j (by simpa using hj)
 have h1:=bF_unit hF hi (actF (matA c) c.length g y)
 have h2:bF c y (rtF c g i)=bF c (actF (matA c) c.length g y) (unitF i):=by
  rw [<- bF_act hF y (rtF c g i) g hg]
  unfold rtF
  rw [actF_rev2 hA _ g hg]
 have h3:bF c (rtF c g i) (rtF c g i)=bF c (unitF i) (unitF i):=bF_act hF _ _ _ hgr
 rw [h2,h3];exact h1
include hF in
theorem root_bF {g:List Nat} (hg:∀ j∈g,j < c.length) {i:Nat} (hi:i < c.length):bF c (rtF c g i) (rtF c g i)≠0:=by
 have hgr:∀ j∈g.reverse,j < c.length:=fun j hj=>hg j (by simpa using hj)
 rw [show bF c (rtF c g i) (rtF c g i)=bF c (unitF i) (unitF i)from bF_act hF _ _ _ hgr]
 exact bF_unit_pos hF hi
include hF in
theorem carter_root {w:List Nat} (hw:∀ i∈w,i < c.length) (hne:¬∀ x,act (matA c) w x=x):∃ g∈allL c,∃ i,i < c.length/\∀ y,FixF c w y->cor c (nat g) i y=0:=by
 apply Classical.byContradiction
 intro hno
 have h1:∀ g∈allL c,∀ i,i < c.length->∃ y,FixF c w y/\cor c (nat g) i y≠0:=fun g hg i hi=>by
  apply Classical.byContradiction
  intro h
  refine hno ⟨g,hg,i,hi,fun y hy=>?_⟩
  apply Classical.byContradiction
  intro h2
  exact h ⟨y,hy,h2⟩
 have hlin:∀(x y:Int) (u v:Vec),FixF c w u->FixF c w v->FixF c w (fun k=>x*u k+y*v k):=fun x y u v hu hv k hk=>by
  rw [actF_lin];simp only [];rw [hu k hk,hv k hk]
 let L:List (List Int×Nat):=(allL c).flatMap fun g=>(List.range c.length).map fun i=>(g,i)
 have hLm:∀ p:List Int×Nat,p∈L↔p.1∈allL c/\p.2 < c.length:=fun p=>by
  simp only [L,List.mem_flatMap,List.mem_map,List.mem_range]
  constructor
  ·rintro⟨g,hg,i,hi,rfl⟩;exact⟨hg,hi⟩
  ·rintro⟨hg,hi⟩;exact⟨p.1,hg,p.2,hi,rfl⟩
 obtain⟨v,hv,hvr⟩:=generic (I:=List Int×Nat) (fun p y=>cor c (nat p.1) p.2 y) (fun p=>cor_lin (nat p.1) p.2) (FixF c w) hlin ⟨fun _=>0,fun k hk=>by
  have:=actF_lin (matA c) c.length 0 0 (fun _=>0) (fun _=>0) w
  simp only [Int.zero_mul,Int.add_zero]at this
  rw [this]⟩ L (fun p hp=>h1 p.1 ((hLm p).1 hp).1 p.2 ((hLm p).1 hp).2)
 exact hne (not_regular hF hw hv fun g hg i hi=>hvr (g,i) ((hLm (g,i)).2 ⟨hg,hi⟩))
def pwW (w:List Nat):Nat->List Nat
 | 0=>[]
 | k+1=>w ++ pwW w k
theorem pw_mem {n:Nat} {w:List Nat} (hw:∀ i∈w,i < n):∀ k,∀ i∈pwW w k,i < n
 | 0,i,h=>by simp [pwW]at h
 | k+1,i,h=>by
  rcases List.mem_append.1 h with h | h
  ·exact hw i h
  ·exact pw_mem hw k i h
theorem pw_add (A:Mat) (n:Nat) (w:List Nat) (x:Vec) (b:Nat):∀ a,actF A n (pwW w (a+b)) x=actF A n (pwW w a) (actF A n (pwW w b) x)
 | 0=>by simp [pwW,actF]
 | a+1=>by
  rw [show a+1+b=(a+b)+1 by omega]
  show actF A n (w ++ pwW w (a+b)) x=actF A n (w ++ pwW w a) _
  rw [actF_append,pw_add A n w x b a,actF_append]
theorem pigeon {α:Type} [DecidableEq α] (f:Nat->α) (l:List α) (h:∀ k,f k∈l):∃ a b,a < b/\f a=f b:=by
 apply Classical.byContradiction
 intro hno
 have hnd:((List.range (l.length+1)).map f).Nodup:=by
  refine nodup_on f (fun a ha b hb e=>?_) List.nodup_range
  rcases Nat.lt_trichotomy a b with h1 | h1 | h1
  ·exact absurd ⟨a,b,h1,e⟩ hno
  ·exact h1
  ·exact absurd ⟨b,a,h1,e.symm⟩ hno
 have:=nodup_le hnd (fun z hz=>by obtain⟨k,_,rfl⟩:=List.mem_map.1 hz;exact h k)
 simp at this
 omega
include hF in
theorem pw_order {w:List Nat} (hw:∀ i∈w,i < c.length):∃ m,0 < m/\∀ x k,k < c.length->actF (matA c) c.length (pwW w m) x k=x k:=by
 have hA:=matA_cartan hF.1
 have hch:∀ j,∃ g∈allL c,∀ x k,k < c.length->actF (matA c) c.length (nat g) x k=actF (matA c) c.length (pwW w j) x k:=fun j=>all_word hF _ (pw_mem hw j)
 obtain⟨a,b,hab,he⟩:=pigeon (fun j=>(hch j).choose) (allL c) (fun j=>(hch j).choose_spec.1)
 have ha:=(hch a).choose_spec.2
 have hb:=(hch b).choose_spec.2
 have he:(hch a).choose=(hch b).choose:=he
 rw [he]at ha
 refine⟨b - a,by omega,fun x k hk=>?_⟩
 have h1:∀ k,k < c.length->actF (matA c) c.length (pwW w a) x k=actF (matA c) c.length (pwW w a) (actF (matA c) c.length (pwW w (b - a)) x) k:=fun k hk=>by
  rw [<- ha x k hk,hb x k hk,<- pw_add,show a+(b - a)=b by omega]
 have hrv:∀ i∈(pwW w a).reverse,i < c.length:=fun i hi=>pw_mem hw a i (by simpa using hi)
 have h2:=actF_congr (A:=matA c) h1 _ hrv k hk
 rw [actF_rev hA x _ (pw_mem hw a),actF_rev hA _ _ (pw_mem hw a)]at h2
 exact h2.symm
def sumP (A:Mat) (n:Nat) (w:List Nat) (x:Vec):Nat->Vec
 | 0=>fun _=>0
 | m+1=>fun k=>1*sumP A n w x m k+1*actF A n (pwW w m) x k
theorem actF_zero (A:Mat) (n:Nat) (w:List Nat):actF A n w (fun _=>0)=fun _=>0:=by
 have:=actF_lin A n 0 0 (fun _=>0) (fun _=>0) w
 simpa using this
theorem sumP_act (A:Mat) (n:Nat) (w:List Nat) (x:Vec):∀ m,actF A n w (sumP A n w x m)=fun k=>sumP A n w x m k+actF A n (pwW w m) x k - x k
 | 0=>by
  show actF A n w (fun _=>0)=_
  rw [actF_zero];funext k;simp [sumP,pwW,actF]
 | m+1=>by
  show actF A n w (fun k=>1*sumP A n w x m k+1*actF A n (pwW w m) x k)=_
  rw [actF_lin,sumP_act A n w x m]
  funext k
  have:actF A n (pwW w (m+1)) x=actF A n w (actF A n (pwW w m) x):=by show actF A n (w ++ pwW w m) x=_;rw [actF_append]
  simp only [sumP]
  rw [this];omega
theorem sumP_moved (A:Mat) (n:Nat) (w:List Nat) (x:Vec):∀ m:Nat,∃ z:Vec,∀ k,actF A n w z k - z k=(m:Int)*x k - sumP A n w x m k
 | 0=>⟨fun _=>0,fun k=>by rw [actF_zero];simp [sumP]⟩
 | m+1=>by
  obtain⟨z,hz⟩:=sumP_moved A n w x m
  refine⟨fun k=>1*z k+(-1)*sumP A n w x m k,fun k=>?_⟩
  rw [actF_lin,sumP_act A n w x m]
  have:=hz k
  simp only [sumP]
  push_cast
  rw [Int.add_mul]
  omega
include hF in
theorem carter_moved {w:List Nat} (hw:∀ i∈w,i < c.length) {g:List Nat} (hg:∀ j∈g,j < c.length) {i:Nat} (hi:i < c.length) (h:∀ y,FixF c w y->cor c g i y=0) :
  ∃ m:Int,m≠0/\∃ z:Vec,∀ k,k < c.length->actF (matA c) c.length w z k=z k+m*rtF c g i k:=by
 obtain⟨m,hm,ho⟩:=pw_order hF hw
 obtain⟨z,hz⟩:=sumP_moved (matA c) c.length w (rtF c g i) m
 have hfix:FixF c w (sumP (matA c) c.length w (rtF c g i) m):=fun k hk=>by
  rw [sumP_act];simp only [];rw [ho _ k hk];omega
 have hperp:bF c (sumP (matA c) c.length w (rtF c g i) m) (rtF c g i)=0:=by
  have h1:=cor_bF hF hg hi (sumP (matA c) c.length w (rtF c g i) m)
  rw [h _ hfix,Int.zero_mul]at h1
  omega
 have hp:∀ j,bF c (actF (matA c) c.length (pwW w j) (rtF c g i)) (sumP (matA c) c.length w (rtF c g i) m)=0:=fun j=>by
  have hfj:∀ j,∀ k,k < c.length->actF (matA c) c.length (pwW w j) (sumP (matA c) c.length w (rtF c g i) m) k=sumP (matA c) c.length w (rtF c g i) m k:=by
   intro j
   induction j with
   | zero=>intro k _;rfl
   | succ j ih=>
    intro k hk
    show actF (matA c) c.length (w ++ pwW w j) _ k=_
    rw [actF_append,actF_congr ih w hw k hk];exact hfix k hk
  rw [<- bF_congr hF (fun k _=>rfl) (hfj j),bF_act hF _ _ _ (pw_mem hw j),bF_symm]
  exact hperp
 have hsq:∀ j,bF c (sumP (matA c) c.length w (rtF c g i) j) (sumP (matA c) c.length w (rtF c g i) m)=0:=by
  intro j
  induction j with
  | zero=>
   have:=bF_lin (c:=c) 0 0 (fun _=>0) (fun _=>0) (sumP (matA c) c.length w (rtF c g i) m)
   simpa [sumP] using this
  | succ j ih=>
   show bF c (fun k=>1*sumP (matA c) c.length w (rtF c g i) j k+1*actF (matA c) c.length (pwW w j) (rtF c g i) k) _=0
   rw [bF_lin,ih,hp j];rfl
 have h0:=bF_zero hF (hsq m)
 refine⟨m,by omega,z,fun k hk=>?_⟩
 have:=hz k
 rw [h0 k hk]at this
 omega
include hF in
theorem carter_back {w:List Nat} (hw:∀ i∈w,i < c.length) {g:List Nat} (hg:∀ j∈g,j < c.length) {i:Nat} (hi:i < c.length) {m:Int} (hm:m≠0) {z:Vec} (hz:∀ k,k < c.length->actF (matA c) c.length w z k=z k+m*rtF c g i k) :
  FixF c (rfW g i ++ w) z:=by
 have h1:bF c (actF (matA c) c.length w z) (actF (matA c) c.length w z)=bF c z z:=bF_act hF z z w hw
 have h2:bF c (actF (matA c) c.length w z) (actF (matA c) c.length w z)=bF c (fun k=>1*z k+m*rtF c g i k) (fun k=>1*z k+m*rtF c g i k):=bF_congr hF (fun k hk=>by rw [hz k hk];omega) (fun k hk=>by rw [hz k hk];omega)
 rw [h2,bF_lin,bF_linr,bF_linr,bF_symm (rtF c g i) z]at h1
 have h3:=cor_bF hF hg hi z
 have h4:=root_bF hF hg hi
 have h5:cor c g i z = -m:=by
  generalize bF c z z=p at h1
  generalize bF c z (rtF c g i)=q at h1 h3
  generalize bF c (rtF c g i) (rtF c g i)=r at h1 h3 h4
  generalize cor c g i z=x at h3
  have e1:m*(2*q+m*r)=0:=by grind
  have e2:2*q+m*r=0:=by
   rcases Int.mul_eq_zero.1 e1 with e | e
   ·exact absurd e hm
   ·exact e
  have e3:(x+m)*r=0:=by grind
  rcases Int.mul_eq_zero.1 e3 with e | e
  ·omega
  ·exact absurd e h4
 intro k hk
 have hrf:∀ j∈rfW g i,j < c.length:=fun j hj=>by
  unfold rfW at hj
  rcases List.mem_append.1 hj with h | h
  ·exact hg j (by simpa using h)
  ·rcases List.mem_cons.1 h with rfl | h
   ·exact hi
   ·exact hg j h
 rw [actF_append,actF_congr (v:=fun k=>1*z k+m*rtF c g i k) (fun k hk=>by rw [hz k hk];omega) _ hrf k hk,actF_lin,rf_act hF hg,rf_act hF hg,cor_root hF hg hi,h5]
 simp only []
 grind
end
end Go.Proofs.YtcinngodeoidnaaGreat
