/- The classes of conjugate elements: their sizes; both sides with rows of their own. -/
import Derived.Test.YtcinngodeoidnaaGreatDoorB22
import Derived.Test.YtcinngodeoidnaaGreatDoorB15
set_option linter.unusedVariables false
set_option linter.unusedSimpArgs false
namespace Go.Proofs.YtcinngodeoidnaaGreatDoor
open Go Go.Aw Go.Cox
section
variable {c:LL} (hF:FinP c)
include hF
theorem ccK_good {st:List Bool×List Int} (h:GoodC (allL c).length st) {n:Nat} (hn:n < st.2.length):GoodC (allL c).length (ccK c (allL c) st n):=by
 have hm:st.2.getD n 0∈st.2:=by rw [gdE,geE hn];exact List.getElem_mem _
 obtain⟨h1,h2,_⟩:=h.mem _ hm
 unfold ccK
 generalize st.2.getD n 0=k at h1 h2
 have key:∀ m,m<=c.length->GoodC (allL c).length ((List.range m).foldl (ccS c (allL c) k) st):=by
  intro m
  induction m with
  | zero=>intro _;exact h
  | succ m ih=>intro hm;rw [foldl_rs];exact ccS_good hF ⟨h1,h2⟩ om (ih om)
 exact key _ (Nat.le_refl _)
theorem ccW_good:∀(f n:Nat) (st:List Bool×List Int),GoodC (allL c).length st->GoodC (allL c).length (ccW c (allL c) f n st)
 | 0,_,_,h=>h
 | f+1,n,st,h=>by
  unfold ccW
  split
  ·rename_i hn;exact ccW_good f (n+1) _ (ccK_good hF h hn)
  ·exact h
theorem ccO_inv:∀ k,k<=(allL c).length->∀ st,(List.range k).foldl (ccO c (allL c)) (List.replicate (allL c).length false,[])=st->st.1.length=(allL c).length/\st.2.length<=k/\∀ r∈st.2,r.length<=(allL c).length:=by
 intro k
 induction k with
 | zero=>
  intro _ st h
  simp only [List.range_zero,List.foldl_nil]at h
  rw [<- h]
  simp only [List.length_replicate,lenN,Nat.le_refl,true_and]
  intro r hr;cases hr
 | succ k ih=>
  intro hk st h
  rw [<- h]
  obtain⟨h1,h2,h3⟩:=ih om _ rfl
  rw [foldl_rs]
  generalize (List.range k).foldl (ccO c (allL c)) (List.replicate (allL c).length false,[])=st at h1 h2 h3 ⊢
  cases hs:st.1.getD k false with
  | true=>rw [ccO_seen hs];exact⟨h1,by omega,h3⟩
  | false=>
   rw [ccO_new hs]
   have hg0:GoodC (allL c).length (st.1.set k true,[(k:Int)]):=by
    refine⟨by simpa using h1,by simp,fun x hx=>?_⟩
    simp at hx;subst hx
    exact⟨by omega,by omega,by rw [Int.toNat_natCast,getD_setB _ _ _ om,if_pos rfl]⟩
   have hg:=ccW_good hF (allL c).length 0 _ hg0
   generalize ccW c (allL c) (allL c).length 0 (st.1.set k true,[(k:Int)])=R at hg ⊢
   refine⟨hg.l,by simp only [lenA,lenC,lenN];omega,fun r hr=>?_⟩
   simp only []at hr
   rcases List.mem_append.1 hr with hr | hr
   ·exact h3 r hr
   ·rw [List.mem_singleton]at hr;rw [hr]
    rw [sortI_len];exact hg.len
end
theorem ccX_len (c:LL):(ccX c).length<=200:=by
 unfold ccX
 cases he:elsB c 48 with
 | true=>
  obtain⟨hF,_,hl,_⟩:=elsB_fin he om
  have:=(ccO_inv hF _ (Nat.le_refl _) _ rfl).2.1
  rw [if_pos rfl]
  unfold ccL;omega
 | false=>simp [ccL]
theorem ccX_rows (c:LL):∀ r∈ccX c,r.length<=200:=by
 unfold ccX
 cases he:elsB c 48 with
 | true=>
  obtain⟨hF,_,hl,_⟩:=elsB_fin he om
  rw [if_pos rfl]
  intro r hr
  have:=(ccO_inv hF _ (Nat.le_refl _) _ rfl).2.2 r hr
  omega
 | false=>simp [ccL]
theorem c_impl_ConjugacyClasses (c:LL):FunA BJ 42 [.sl false (.row false) c] (fun rs o=>rs=[.own 0 0,.bool (elsB c 48)]/\∃ hs,hs.length=(ccX c).length/\o=[.mat hs (ccX c) 0 true]):=
 (FunA.mat (by rfl) (post:=fun rows nn rest=>rows=ccX c/\nn=true/\rest=[.bool (elsB c 48)]) (c_impl_ConjugacyClassesR c)).mono fun rs o ⟨hs,rows,nn,rest,⟨h1,h2,h3⟩,h4,h5,h6⟩=>by subst h1 h2 h3;exact⟨h5,hs,h4,h6⟩
theorem c_spec_ConjugacyClasses (c:LL):FunA B 43 [.sl false (.row false) c] (fun rs o=>rs=[.own 0 0,.bool (elsB c 48)]/\∃ hs,hs.length=(ccX c).length/\o=[.mat hs (ccX c) 0 true]):=
 (FunA.mat (by rfl) (post:=fun rows nn rest=>rows=ccX c/\nn=true/\rest=[.bool (elsB c 48)]) (c_spec_ConjugacyClassesR c)).mono fun rs o ⟨hs,rows,nn,rest,⟨h1,h2,h3⟩,h4,h5,h6⟩=>by subst h1 h2 h3;exact⟨h5,hs,h4,h6⟩
def pwL (c:LL) (w:LI):Nat->List Int->Int->Int
 | 0,_,_=>0
 | f+1,p,k=>if (redL c (p ++ w)).length=0 then k else if 15 < (redL c (p ++ w)).length then 0 else pwL c w f (redL c (p ++ w)) (k+1)
noncomputable def ordE (c:LL) (w:LI):Int:=if wordB c w && (isF c || decide ((redL c w).length<=7))then pwL c w 60 [] 1 else 0
theorem pwL_le (c:LL) (w:LI):∀(f:Nat) (p:LI) (k:Int),0<=k->0<=pwL c w f p k/\pwL c w f p k<=k+f
 | 0,_,_,h=>by unfold pwL;omega
 | f+1,p,k,h=>by
  have:=pwL_le c w f (redL c (p ++ w)) (k+1) om
  unfold pwL
  repeat' split
  all_goals omega
theorem ordE_le (c:LL) (w:LI):0<=ordE c w/\ordE c w<=61:=by
 unfold ordE
 split
 ·have:=pwL_le c w 60 [] 1 om;omega
 ·omega
set_option maxHeartbeats 1000000 in
theorem c_impl_OrderOfElement (c:LL) (w:LI):FunA B 38 [.sl false (.row false) c,.sl false .int w] (fun rs o=>rs=[.int .i64 (ordE c w)]/\o=[]):=by
 refine wk Tryz.call38 Tryz.func38 rfl Tryz.ntmps38 fun C hC hP hT hfn hpin hfin hX=>wW ?_
 refine Run.R ?_
 refine Run.g fun K hK=>?_
 refine FunA.cW hP hT (c_impl_IsWord c w) ?_
 rintro rs o ⟨rfl,rfl⟩
 cases hw:wordB c w with
 | false=>
  refine wW ?_
  refine .inl (CallG.off (.bool false) ?_)
  refine wW ?_
  refine .inl (CallG.off (.int .i64 0) ?_)
  refine wF ?_;clear hK K
  refine Run.c ?_ ?_
  rotate_left
  ·intro h;cases h
  intro _
  refine Run.R ?_
  refine Run.r [4] ?_
  simp [ordE,hw]
 | true=>
  obtain⟨hc,h1,h2⟩:=wordB_iff.1 hw
  obtain⟨a1,a2,a3,a4,a5⟩:=red_spec hc h2 om
  refine wW ?_
  refine .inl (FunA.callG hP hT (c_impl_IsFinite c) (fun _=>rfl) (fun _=>by simp only [AW7,simprocAttr]) ?_)
  refine wW ?_
  refine .inl (FunA.callG hP hT (c_impl_lengthOf c w hc h2 om) (fun _=>rfl) (fun _=>by simp only [AW7,simprocAttr]) ?_)
  refine wF ?_;clear hK K
  refine Run.c ?_ ?_
  ·intro h
   have e:ordE c w=0:=by
    unfold ordE
    rw [hw,if_neg]
    intro h3
    revert h h3
    cases isF c
    ·simp;omega
    ·simp
   refine Run.R ?_
   refine Run.r [4] ?_
   rw [e];exact⟨rfl,rfl⟩
  intro h
  have e:ordE c w=pwL c w 60 [] 1:=by
   unfold ordE
   rw [hw,if_pos]
   revert h
   cases isF c
   ·simp;omega
   ·simp
  refine Run.R ?_
  refine Run.R ?_
  refine Run.k [0,1,5,6] [0] ?_
  refine Run.loopI (X:=Nat×List Int) (fun x=>⟨39,[(0,true,.v (.sl false (.row false) c)),(1,true,.v (.sl false .int w)),(5,true,.v (.own 0 0)),(6,true,.v (.int .i64 (((x.1:Nat):Int))))],[.arr .int (x.2) 0 true]⟩) (fun x=>(1<=x.1/\x.1<=61)/\letters c.length x.2/\x.2.length<=15/\ordE c w=pwL c w (61 - x.1) x.2 x.1) (fun x=>61 - x.1) ((1,[])) (⟨⟨by decide,by decide⟩,letters_nil _,by simp,e⟩) ?_ ?_
  ·exact Le.s
  rintro⟨k,p⟩ ⟨⟨hk,hk2⟩,hp,hp2,hpe⟩ ihO
  try simp only []
  simp only []at hk hk2 hp hp2 hpe
  clear e
  refine Run.R ?_
  refine Run.c ?_ ?_
  rotate_left
  ·intro h3
   have h3:k=61:=by rw [dfE]at h3;omega
   subst h3
   refine Run.x ?_
   refine Run.R ?_
   refine Run.k [4] [] ?_
   refine Run.r [4] ?_
   rw [hpe];exact⟨rfl,rfl⟩
  intro h3
  have h3:k<=60:=by rw [dtE]at h3;omega
  have hlw:letters c.length (p ++ w):=letters_append.2 ⟨hp,h2⟩
  have hcr:=c_impl_reduced c (p ++ w) hc hlw (by simp;omega)
  obtain⟨b1,_⟩:=red_spec hc hlw (by simp;omega)
  rw [show 61 - k=(61 - (k+1))+1 by omega]at hpe
  unfold pwL at hpe
  generalize redL c (p ++ w)=p' at hcr b1 hpe
  refine Run.g fun K hK=>?_
  refine FunA.cW hP hT (c_impl_ConcatWords p w om om) ?_
  rintro rs o ⟨n1,rfl,rfl⟩
  refine wW ?_
  refine FunA.e hP hT (hcr) ?_
  refine wE ?_;clear hK K
  refine Run.R ?_
  refine Run.c ?_ ?_
  ·intro h4
   have h4:p'.length=0:=by simpa using h4
   rw [if_pos h4]at hpe
   refine Run.R ?_
   refine Run.k [4] [] ?_
   refine Run.r [4] ?_
   rw [hpe];exact⟨rfl,rfl⟩
  intro h4
  have h4:¬p'.length=0:=by simpa using h4
  rw [if_neg h4]at hpe
  refine Run.R ?_
  refine Run.c ?_ ?_
  ·intro h5
   have h5:15 < p'.length:=by rw [dtE]at h5;omega
   rw [if_pos h5]at hpe
   refine Run.R ?_
   refine Run.k [4] [] ?_
   refine Run.r [4] ?_
   rw [hpe];exact⟨rfl,rfl⟩
  intro h5
  have h5:¬15 < p'.length:=by rw [dfE]at h5;omega
  rw [if_neg h5]at hpe
  refine Run.k [0,1,5,6] [2] ?_
  refine Run.RW ?_
  exact Run.j (ihO ((k+1,p')) (⟨⟨by omega,by omega⟩,b1,by simp only [];omega,by simpa using hpe⟩) mz)
theorem pwL_red {c:LL} {w x:LI} (h:imageL c x=imageL c w):∀(f:Nat) (p:LI) (k:Int),pwL c x f p k=pwL c w f p k
 | 0,_,_=>rfl
 | f+1,p,k=>by
  have e:redL c (p ++ x)=redL c (p ++ w):=red_eq (by rw [image_append,image_append,h])
  unfold pwL
  rw [e,pwL_red h f]
set_option maxHeartbeats 1000000 in
theorem c_spec_OrderOfElement (c:LL) (w:LI) (hcl:c.length<=1048576):FunA B 106 [.sl false (.row false) c,.sl false .int w] (fun rs o=>rs=[.int .i64 (ordE c w)]/\o=[]):=by
 refine wk Tryz.call106 Tryz.func106 rfl Tryz.ntmps106 fun C hC hP hT hfn hpin hfin hX=>wW ?_
 refine Run.R ?_
 refine Run.g fun K hK=>?_
 refine FunA.e hP hT (c_spec_NormalForm c w hcl) ?_
 refine wE ?_;clear hK K
 cases hw:wordB c w with
 | false=>
  refine Run.g fun K hK=>?_
  refine .inl (CallG.off (.bool false) ?_)
  refine wF ?_;clear hK K
  refine Run.c ?_ ?_
  rotate_left
  ·intro h;cases h
  intro _
  refine Run.R ?_
  refine Run.k [4] [] ?_
  refine Run.r [4] ?_
  simp [ordE,hw]
 | true=>
  obtain⟨hc,h1,h2⟩:=wordB_iff.1 hw
  obtain⟨a1,a2,a3,a4,a5⟩:=red_spec hc h2 om
  have en:nfW c w=redL c w:=by unfold nfW;rw [if_pos hw]
  rw [en]
  refine Run.g fun K hK=>?_
  refine .inl (FunA.callG hP hT (c_spec_IsFinite c) (fun _=>rfl) (fun _=>by simp only [AW7,simprocAttr]) ?_)
  refine wF ?_;clear hK K
  refine Run.c ?_ ?_
  ·intro h
   have e:ordE c w=0:=by
    unfold ordE
    rw [hw,if_neg]
    intro h3
    revert h h3
    cases isF c
    ·simp;omega
    ·simp
   refine Run.R ?_
   refine Run.k [4] [] ?_
   refine Run.r [4] ?_
   rw [e];exact⟨rfl,rfl⟩
  intro h
  have e:ordE c w=pwL c (redL c w) 60 [] 1:=by
   rw [pwL_red a4]
   unfold ordE
   rw [hw,if_pos]
   revert h
   cases isF c
   ·simp;omega
   ·simp
  unfold pwL at e
  have hx15:(redL c w).length<=15:=by omega
  have e0:redL c ([] ++ redL c w)=redL c w:=red_eq (by simpa using a4)
  rw [e0,if_neg (show ¬15 < (redL c w).length by omega)]at e
  generalize redL c w=x at e a1 hx15
  have hx16:x.length<=140737488355328:=by omega
  refine Run.R ?_
  refine Run.R ?_
  refine Run.k [0,5,7,8] [0,1] ?_
  refine Run.loopI (X:=Nat×List Int) (fun y=>⟨46,[(0,true,.v (.sl false (.row false) c)),(5,true,.v (.own 0 0)),(7,true,.v (.own 1 0)),(8,true,.v (.int .i64 (((y.1:Nat):Int))))],[.arr .int (x) 0 true,.arr .int (y.2) 0 true]⟩) (fun y=>(1<=y.1/\y.1<=61)/\letters c.length y.2/\y.2.length<=15/\((y.1<=60/\ordE c w=if y.2.length=0 then(y.1:Int)else pwL c x (60 - y.1) y.2 (y.1+1))\/(y.1=61/\ordE c w=0))) (fun y=>61 - y.1) ((1,x)) (⟨⟨by simp only [];omega,by simp only [];omega⟩,a1,hx15,.inl ⟨by simp only [];omega,e⟩⟩) ?_ ?_
  ·exact Le.s
  rintro⟨k,p⟩ ⟨⟨hk,hk2⟩,hp,hp2,hpe⟩ ihO
  try simp only []
  simp only []at hk hk2 hp hp2 hpe
  clear e
  refine Run.R ?_
  refine Run.c ?_ ?_
  rotate_left
  ·intro h3
   have h3:k=61:=by rw [dfE]at h3;omega
   have hpe:ordE c w=0:=by rcases hpe with⟨h,_⟩ | ⟨_,h⟩<;>first | omega | exact h
   refine Run.x ?_
   refine Run.R ?_
   refine Run.k [4] [] ?_
   refine Run.r [4] ?_
   rw [hpe];exact⟨rfl,rfl⟩
  intro h3
  have h3:k<=60:=by rw [dtE]at h3;omega
  have hpe:ordE c w=if p.length=0 then(k:Int)else pwL c x (60 - k) p (k+1):=by rcases hpe with⟨_,h⟩ | ⟨h,_⟩<;>first | exact h | omega
  refine Run.R ?_
  refine Run.c ?_ ?_
  ·intro h4
   have h4:p.length=0:=by simpa using h4
   rw [if_pos h4]at hpe
   refine Run.R ?_
   refine Run.k [4] [] ?_
   refine Run.r [4] ?_
   rw [hpe];exact⟨rfl,rfl⟩
  intro h4
  have h4:¬p.length=0:=by simpa using h4
  rw [if_neg h4]at hpe
  have hlw:letters c.length (p ++ x):=letters_append.2 ⟨hp,a1⟩
  have hcr:=c_spec_l8Normal c (p ++ x) hc hlw (by simp;omega)
  obtain⟨b1,_⟩:=red_spec hc hlw (by simp;omega)
  have hst:15 < (redL c (p ++ x)).length->ordE c w=0:=fun h=>by
   rw [hpe]
   cases hf:60 - k with
   | zero=>rfl
   | succ f=>unfold pwL;rw [if_neg om,if_pos h]
  have hst2:¬15 < (redL c (p ++ x)).length->((k+1<=60/\ordE c w=if (redL c (p ++ x)).length=0 then((k+1:Nat):Int)else pwL c x (60 - (k+1)) (redL c (p ++ x)) (((k+1:Nat):Int)+1))\/(k+1=61/\ordE c w=0)):=fun h=>by
   by_cases hk60:k=60
   ·right;exact⟨by omega,by rw [hpe,hk60];rfl⟩
   ·left
    refine⟨by omega,?_⟩
    rw [hpe,show 60 - k=(60 - (k+1))+1 by omega]
    conv=>lhs;unfold pwL
    rw [if_neg h]
    simp
  clear hpe
  generalize redL c (p ++ x)=p' at hcr b1 hst hst2
  refine Run.g fun K hK=>?_
  refine FunA.e hP hT (c_spec_ConcatWords p x om om) ?_
  refine FunA.e hP hT (hcr) ?_
  refine wE ?_;clear hK K
  refine Run.R ?_
  refine Run.c ?_ ?_
  ·intro h5
   have h5:15 < p'.length:=by rw [dtE]at h5;omega
   refine Run.R ?_
   refine Run.k [4] [] ?_
   refine Run.r [4] ?_
   rw [hst h5];exact⟨rfl,rfl⟩
  intro h5
  have h5:¬15 < p'.length:=by rw [dfE]at h5;omega
  refine Run.k [0,5,7,8] [0,3] ?_
  refine Run.RW ?_
  exact Run.j (ihO ((k+1,p')) (⟨⟨by omega,by omega⟩,b1,by simp only [];omega,hst2 h5⟩) mz)
theorem filt_step {α:Type} (p:α->Bool) (d:α) (zs:List α) (k:Nat) (h:k < zs.length):(zs.take (k+1)).filter p=(zs.take k).filter p ++ (if p (zs.getD k d)then [zs.getD k d]else []):=by
 have e:zs.take (k+1)=zs.take k ++ [zs.getD k d]:=by
  rw [List.take_add_one,gdE,geE h];rfl
 rw [e,List.filter_append]
 generalize zs.getD k d=y
 by_cases hp:p y=true
 ·simp [hp]
 ·simp [hp]
theorem filt_nodup (p:Nat×List Int->Bool) {zs:List (Nat×List Int)} (h:(lb1 zs).Nodup) (k:Nat):(lb1 ((zs.take k).filter p)).Nodup:=
 h.sublist (((List.filter_sublist).trans (List.take_sublist k zs)).map _)
theorem filt_rows (q:List Int->Bool) (zs:List (Nat×List Int)):rw2 (zs.filter fun p=>q p.2)=(rw2 zs).filter q:=by
 unfold rw2
 rw [List.filter_map]
 rfl
theorem filt_len {α:Type} (p:α->Bool) (zs:List α) (k:Nat):((zs.take k).filter p).length<=k:=
 Nat.le_trans (List.length_filter_le _ _) (by rw [List.length_take];omega)
theorem all_succ (f:Nat->Bool) (i:Nat):(List.range (i+1)).all f=((List.range i).all f && f i):=by rw [List.range_succ];simp
noncomputable def cenE (c:LL) (w:LI):Bool:=(List.range c.length).all fun(i:Nat)=>commB c w [(i:Int)]
noncomputable def cenX (c:LL):List (List Int):=if elsB c 48 then(allL c).filter (cenE c)else []
set_option maxHeartbeats 1000000 in
theorem c_impl_CentralElementsR (c:LL):FunA BJ 44 [.sl false (.row false) c] (fun rs o=>∃ ys g nn rest,(rw2 ys=cenX c/\nn=true/\rest=[.bool (elsB c 48)])/\(lb1 ys).Nodup/\rest.all flatAV=true/\rs=.own 0 g :: rest/\o=[.arr .lrow ys g nn]):=by
 refine FunA.walk BJ_ok (fn:=Tryz.f44) (fun vs w=>Tryz.call44 vs w) Tryz.func44 rfl (by rw [Tryz.ntmps44];simp) (fun C hC hP hT hΓ hbt hfn hpin hfin=>?_);haveI hDJ:DrLe BJ C:=⟨fun h=>by rw [hbt.2.2.2]at h;cases h⟩;have hPJ:=hP;have hTJ:=hT;replace hP:B.P=C.P:=hP;replace hT:B.tid=C.tid:=hT;have hX:=BXJ;rw [<- hΓ,<- hbt.1,<- hbt.2.1,<- hbt.2.2.1]at hX;rw [hTJ]at hX;rw [Tryz.ntmps44];simp only [AW7,simprocAttr,hX]
 refine Run.R ?_
 cases he:elsB c 48 with
 | false=>
  refine Run.g fun K hK=>?_
  refine FunA.cW hPJ hTJ (c_impl_few0 c he) ?_
  rintro rs o ⟨rfl,rfl⟩
  refine wF ?_;clear hK K
  refine Run.R ?_
  refine Run.c ?_ ?_
  rotate_left
  ·intro h;cases h
  intro _
  refine Run.R ?_
  refine Run.k [2,3] [0] ?_
  refine Run.r [2,3] ?_
  exact⟨[],0,true,[.bool (elsB c 48)],⟨by unfold cenX;rw [he];rfl,rfl,rfl⟩,by simp [lb1],rfl,by rw [he],rfl⟩
 | true=>
  obtain⟨hF,_,hl200,_⟩:=elsB_fin he om
  have hn:=hF.1.2.1
  refine Run.g fun K hK=>?_
  refine FunA.cW hPJ hTJ (c_impl_few1 c he) ?_
  rintro rs o ⟨zs,⟨hz,hzn⟩,rfl,rfl⟩
  have hzl:zs.length=(allL c).length:=by rw [<- hz,rwl]
  refine wF ?_;clear hK K
  refine Run.R ?_
  refine Run.c ?_ ?_
  ·intro h;cases h
  intro _
  refine Run.R ?_
  refine Run.R ?_
  refine Run.k [0,6,20,21,22] [0] ?_
  refine Run.loopI (X:=Nat) (fun k=>⟨47,[(0,true,.v (.sl false (.row false) c)),(6,true,.v (.own 0 0)),(20,true,.v (.sl true .lrow zs)),(21,true,.v (.int .i64 ((zs.length:Nat)))),(22,true,.v (.int .i64 k))],[.arr .lrow (((zs.take k).filter fun p=>cenE c p.2)) 0 true]⟩) (fun k=>k<=zs.length) (fun k=>zs.length - k) (0) (nz0 _) ?_ ?_
  ·exact Le.s
  rintro k hk ih
  try simp only []
  refine Run.R ?_
  refine Run.c ?_ ?_
  rotate_left
  ·intro h
   have h:k=zs.length:=by rw [dfE]at h;omega
   refine Run.x ?_
   refine Run.R ?_
   refine Run.k [2,3] [0] ?_
   refine Run.r [2,3] ?_
   refine⟨_,0,true,[.bool (elsB c 48)],⟨?_,rfl,rfl⟩,filt_nodup _ hzn _,rfl,by rw [he],rfl⟩
   rw [h,tkL,filt_rows,hz]
   unfold cenX;rw [he];rfl
  intro h
  have h:k < zs.length:=by rw [dtE]at h;omega
  have hst:=filt_step (fun p:Nat×List Int=>cenE c p.2) (0,[]) zs k h
  have hfl:=filt_len (fun p:Nat×List Int=>cenE c p.2) zs k
  generalize (zs.take k).filter (fun p:Nat×List Int=>cenE c p.2)=out at hst hfl ⊢
  have hob:(out.length+1)*24<=140737488355328:=by omega
  refine Run.R ?_
  refine Run.R ?_
  refine Run.R ?_
  refine Run.k [0,6,20,21,22,8,9,27,28] [0] ?_
  generalize hw:zs.getD k (0,[])=lw at *
  obtain⟨l,w⟩:=lw
  simp only []at hst ⊢
  refine Run.loopI (X:=Nat) (fun i=>⟨47,[(0,true,.v (.sl false (.row false) c)),(6,true,.v (.own 0 0)),(20,true,.v (.sl true .lrow zs)),(21,true,.v (.int .i64 ((zs.length:Nat)))),(22,true,.v (.int .i64 k)),(8,true,.v (.lr l w)),(9,true,.v (.bool (((List.range i).all fun(i:Nat)=>commB c w [(i:Int)])))),(27,true,.v (.int .i64 ((c.length:Nat)))),(28,true,.v (.int .i64 i))],[.arr .lrow (out) 0 true]⟩) (fun i=>i<=c.length) (fun i=>c.length - i) (0) (nz0 _) ?_ ?_
  ·exact Le.s
  rintro i hi ihK
  try simp only []
  refine Run.R ?_
  refine Run.c ?_ ?_
  rotate_left
  ·intro h2
   have h2:i=c.length:=by rw [dfE]at h2;omega
   subst h2
   have hce:((List.range c.length).all fun(i:Nat)=>commB c w [(i:Int)])=cenE c w:=rfl
   rw [hce]
   refine Run.x ?_
   refine Run.R ?_
   refine Run.c ?_ ?_
   ·intro h3
    rw [h3,if_pos rfl]at hst
    refine Run.R ?_
    refine Run.RW ?_
    refine Run.k [0,6,20,21,22] [0] ?_
    refine Run.le ?_ (ih (k+1) (h) (by(try simp only [lenA,lenC,lenN]);omega))
    exact Le.sub (by first | rfl | (simp only [hst];done) | (rw [hst];rfl)) (by simp only [AW7,simprocAttr];try simp)
   ·intro h3
    rw [h3,if_neg (by decide),List.append_nil]at hst
    refine Run.RW ?_
    refine Run.k [0,6,20,21,22] [0] ?_
    refine Run.le ?_ (ih (k+1) (h) (by(try simp only [lenA,lenC,lenN]);omega))
    exact Le.sub (by first | rfl | (simp only [hst];done) | (rw [hst];rfl)) (by simp only [AW7,simprocAttr];try simp)
  intro h2
  have h2:i < c.length:=by rw [dtE]at h2;omega
  have hall:=all_succ (fun(i:Nat)=>commB c w [(i:Int)]) i
  refine Run.R ?_
  cases hb:(List.range i).all fun(i:Nat)=>commB c w [(i:Int)] with
  | false=>
   rw [hb,Bool.false_and]at hall
   refine Run.g fun K hK=>?_
   refine .inl (CallG.off (.bool false) ?_)
   refine wF ?_;clear hK K
   refine Run.RW ?_
   refine Run.k [0,6,20,21,22,8,9,27,28] [0] ?_
   refine Run.le ?_ (ihK (i+1) om om)
   exact Le.sub (by rfl) (by simp only [hall,AW7,simprocAttr];try simp)
  | true=>
   rw [hb,Bool.true_and]at hall
   refine Run.g fun K hK=>?_
   refine .inr ⟨rfl,?_⟩
   refine FunA.e hP hT (c_impl_DoCommute c w [(i:Int)]) ?_
   refine wE ?_;clear hK K
   refine Run.RW ?_
   refine Run.k [0,6,20,21,22,8,9,27,28] [0] ?_
   refine Run.le ?_ (ihK (i+1) om om)
   exact Le.sub (by rfl) (by simp only [hall,AW7,simprocAttr];try simp)
set_option maxHeartbeats 1000000 in
theorem c_spec_CentralElementsR (c:LL):FunA B 45 [.sl false (.row false) c] (fun rs o=>∃ ys g nn rest,(rw2 ys=cenX c/\nn=true/\rest=[.bool (elsB c 48)])/\(lb1 ys).Nodup/\rest.all flatAV=true/\rs=.own 0 g :: rest/\o=[.arr .lrow ys g nn]):=by
 refine wk Tryz.call45 Tryz.func45 rfl Tryz.ntmps45 fun C hC hP hT hfn hpin hfin hX=>wW ?_
 refine Run.R ?_
 refine Run.R ?_
 refine Run.g fun K hK=>?_
 refine FunA.cW hP hT (c_spec_l18Small c) ?_
 rintro rs o ⟨rfl,zs,⟨hz,hzn⟩,rfl⟩
 have hzl:zs.length=(if elsB c 48 then allL c else []).length:=by rw [<- hz];simp [rw2]
 have hz200:zs.length<=200:=by
  rw [hzl]
  split
  ·rename_i h;exact(elsB_fin h om).2.2.1
  ·simp
 have hcl:0 < zs.length->c.length<=4:=fun h=>by
  cases he:elsB c 48 with
  | true=>exact(elsB_fin he om).1.1.2.1
  | false=>rw [he]at hzl;have:zs.length=0:=hzl;omega
 refine wF ?_;clear hK K
 refine Run.R ?_
 refine Run.k [0,4,5,6,7] [0,1] ?_
 refine Run.loopI (X:=Nat) (fun k=>⟨49,[(0,true,.v (.sl false (.row false) c)),(4,true,.v (.own 0 0)),(5,true,.v (.own 1 0)),(6,true,.v (.bool ((elsB c 48)))),(7,true,.v (.int .i64 k))],[.arr .lrow (((zs.take k).filter fun p=>cenE c p.2)) 0 true,.arr .lrow (zs) 0 true]⟩) (fun k=>k<=zs.length) (fun k=>zs.length - k) (0) (nz0 _) ?_ ?_
 ·exact Le.s
 rintro k hk ih
 try simp only []
 refine Run.R ?_
 refine Run.c ?_ ?_
 rotate_left
 ·intro h
  have h:k=zs.length:=by rw [dfE]at h;omega
  refine Run.x ?_
  refine Run.R ?_
  refine Run.k [2,3] [0] ?_
  refine Run.r [2,3] ?_
  refine⟨_,0,true,[.bool (elsB c 48)],⟨?_,rfl,rfl⟩,filt_nodup _ hzn _,rfl,rfl,rfl⟩
  rw [h,tkL,filt_rows,hz]
  unfold cenX
  cases elsB c 48<;>rfl
 intro h
 have h:k < zs.length:=by rw [dtE]at h;omega
 have hn:=hcl om
 have hst:=filt_step (fun p:Nat×List Int=>cenE c p.2) (0,[]) zs k h
 have hfl:=filt_len (fun p:Nat×List Int=>cenE c p.2) zs k
 generalize (zs.take k).filter (fun p:Nat×List Int=>cenE c p.2)=out at hst hfl ⊢
 have hob:(out.length+1)*24<=140737488355328:=by omega
 refine Run.R ?_
 refine Run.R ?_
 refine Run.k [0,4,5,6,7,8,9] [0,1] ?_
 generalize hw:zs.getD k (0,[])=lw at hst
 obtain⟨l,w⟩:=lw
 simp only []at hst
 refine Run.loopI (X:=Nat) (fun i=>⟨49,[(0,true,.v (.sl false (.row false) c)),(4,true,.v (.own 0 0)),(5,true,.v (.own 1 0)),(6,true,.v (.bool ((elsB c 48)))),(7,true,.v (.int .i64 k)),(8,true,.v (.bool (((List.range i).all fun(i:Nat)=>commB c w [(i:Int)])))),(9,true,.v (.int .i64 i))],[.arr .lrow (out) 0 true,.arr .lrow (zs) 0 true]⟩) (fun i=>i<=c.length) (fun i=>c.length - i) (0) (nz0 _) ?_ ?_
 ·exact Le.s
 rintro i hi ihK
 try simp only []
 refine Run.R ?_
 refine Run.c ?_ ?_
 rotate_left
 ·intro h2
  have h2:i=c.length:=by rw [dfE]at h2;omega
  subst h2
  have hce:((List.range c.length).all fun(i:Nat)=>commB c w [(i:Int)])=cenE c w:=rfl
  rw [hce]
  refine Run.x ?_
  refine Run.R ?_
  refine Run.c ?_ ?_
  ·intro h3
   rw [h3,if_pos rfl]at hst
   refine Run.g fun K hK=>?_
   try simp only [hw]
   refine wF ?_;clear hK K
   refine Run.RW ?_
   refine Run.k [0,4,5,6,7] [0,1] ?_
   refine Run.le ?_ (ih (k+1) (h) (by(try simp only [lenA,lenC,lenN]);omega))
   exact Le.sub (by first | rfl | (simp only [hst];done) | (rw [hst];rfl)) (by simp only [AW7,simprocAttr];try simp)
  ·intro h3
   rw [h3,if_neg (by decide),List.append_nil]at hst
   refine Run.RW ?_
   refine Run.k [0,4,5,6,7] [0,1] ?_
   refine Run.le ?_ (ih (k+1) (h) (by(try simp only [lenA,lenC,lenN]);omega))
   exact Le.sub (by first | rfl | (simp only [hst];done) | (rw [hst];rfl)) (by simp only [AW7,simprocAttr];try simp)
 intro h2
 have h2:i < c.length:=by rw [dtE]at h2;omega
 have hall:=all_succ (fun(i:Nat)=>commB c w [(i:Int)]) i
 cases hb:(List.range i).all fun(i:Nat)=>commB c w [(i:Int)] with
 | false=>
  rw [hb,Bool.false_and]at hall
  refine Run.g fun K hK=>?_
  refine .inl (CallG.off (.bool false) ?_)
  refine wF ?_;clear hK K
  refine Run.RW ?_
  refine Run.k [0,4,5,6,7,8,9] [0,1] ?_
  refine Run.le ?_ (ihK (i+1) om om)
  exact Le.sub (by rfl) (by simp only [hall,AW7,simprocAttr];try simp)
 | true=>
  rw [hb,Bool.true_and]at hall
  refine Run.g fun K hK=>?_
  try simp only [hw]
  refine wW ?_
  refine .inr ⟨rfl,?_⟩
  refine FunA.e hP hT (c_spec_DoCommute c w [(i:Int)] om) ?_
  refine wE ?_;clear hK K
  refine Run.RW ?_
  refine Run.k [0,4,5,6,7,8,9] [0,1] ?_
  refine Run.le ?_ (ihK (i+1) om om)
  exact Le.sub (by rfl) (by simp only [hall,AW7,simprocAttr];try simp)
theorem cenX_len (c:LL):(cenX c).length<=200:=by
 unfold cenX
 split
 ·rename_i h
  have:=(elsB_fin h om).2.2.1
  have:=List.length_filter_le (cenE c) (allL c)
  omega
 ·simp
theorem cenX_rows (c:LL):∀ r∈cenX c,r.length<=30:=by
 intro r hr
 unfold cenX at hr
 split at hr
 ·rename_i h
  exact(((allL_spec (elsB_fin h om).1).2 r).1 (List.mem_filter.1 hr).1).2.2
 ·cases hr
theorem c_impl_CentralElements (c:LL):FunA BJ 44 [.sl false (.row false) c] (fun rs o=>rs=[.own 0 0,.bool (elsB c 48)]/\∃ hs,hs.length=(cenX c).length/\o=[.mat hs (cenX c) 0 true]):=
 (FunA.mat (by rfl) (post:=fun rows nn rest=>rows=cenX c/\nn=true/\rest=[.bool (elsB c 48)]) (c_impl_CentralElementsR c)).mono fun rs o ⟨hs,rows,nn,rest,⟨h1,h2,h3⟩,h4,h5,h6⟩=>by subst h1 h2 h3;exact⟨h5,hs,h4,h6⟩
theorem c_spec_CentralElements (c:LL):FunA B 45 [.sl false (.row false) c] (fun rs o=>rs=[.own 0 0,.bool (elsB c 48)]/\∃ hs,hs.length=(cenX c).length/\o=[.mat hs (cenX c) 0 true]):=
 (FunA.mat (by rfl) (post:=fun rows nn rest=>rows=cenX c/\nn=true/\rest=[.bool (elsB c 48)]) (c_spec_CentralElementsR c)).mono fun rs o ⟨hs,rows,nn,rest,⟨h1,h2,h3⟩,h4,h5,h6⟩=>by subst h1 h2 h3;exact⟨h5,hs,h4,h6⟩
end Go.Proofs.YtcinngodeoidnaaGreatDoor
