/- The dimension of what an element fixes: what the functions of both sides do. -/
import Derived.Test.YtcinngodeoidnaaGreatDoorB14
import Derived.Test.YtcinngodeoidnaaGreatDoorB7
import Derived.Test.YtcinngodeoidnaaGreatDoorB11
set_option linter.unusedVariables false
set_option linter.unusedSimpArgs false
namespace Go.Proofs.YtcinngodeoidnaaGreatDoor
open Go Go.Aw Go.Cox
def fxR (c:LL) (w:LI) (i:Nat):List Int:=(actR c w (simL c.length i)).set i ((actR c w (simL c.length i)).getD i 0 - 1)
def fxM (c:LL) (w:LI):List (List Int):=(List.range c.length).map (fxR c w)
noncomputable def fixN (c:LL) (w:LI):Int:=if wordB c w && isF c then(c.length:Int) - (rkG rowI c.length (fxM c w) 0 0:Nat)else -1
theorem fxR_len (c:LL) (w:LI) (i:Nat):(fxR c w i).length=c.length:=by
 unfold fxR;rw [List.length_set,actR_len,simL_len]
theorem fxR_bnd {c:LL} {w:LI} (hF:FinP c) (hw:letters c.length w) {i:Nat} (hi:i < c.length):Bnd 8 (fxR c w i):=by
 have h:=(fin_all hF).2.2 w i hw hi
 intro x hx
 unfold fxR at hx
 rcases List.mem_or_eq_of_mem_set hx with hx | rfl
 ·have:=h x hx;omega
 ·have hl:i < (actR c w (simL c.length i)).length:=by rw [actR_len,simL_len];exact hi
  have:=h ((actR c w (simL c.length i)).getD i 0) (by rw [getD_eq hl];exact List.getElem_mem hl)
  omega
theorem fxM_ok {c:LL} {w:LI} (hF:FinP c) (hw:letters c.length w):OKM c.length 8 (fxM c w):=by
 refine⟨by simp [fxM],fun k hk=>?_⟩
 have e:(fxM c w).getD k []=fxR c w k:=by simp [fxM,List.getD,hk]
 rw [e]
 exact⟨fxR_len c w k,fxR_bnd hF hw hk⟩
theorem fxR_get (c:LL) (w:LI) {i k:Nat} (_:i < c.length) (hk:k < c.length):(fxR c w i).getD k 0=(actR c w (simL c.length i)).getD k 0 - (simL c.length i).getD k 0:=by
 have hl:(actR c w (simL c.length i)).length=c.length:=by rw [actR_len,simL_len]
 have hs:(simL c.length i).getD k 0=if k=i then 1 else 0:=by
  unfold simL
  simp only [List.getD,List.getElem?_set,List.length_replicate]
  by_cases h:i=k
  ·subst h;simp [hk]
  ·rw [if_neg h,if_neg (Ne.symm h)];simp [hk]
 rw [hs]
 unfold fxR
 simp only [List.getD,List.getElem?_set]
 by_cases h:i=k
 ·subst h;simp [hl,hk]
 ·rw [if_neg h,if_neg (Ne.symm h)];simp
theorem rkG_le (g:List (List Int)->Nat->Nat->Nat->List Int):∀(f:Nat) (M:LL) (r c:Nat),r<=M.length->rkG g f M r c<=M.length
 | 0,M,r,c,h=>h
 | f+1,M,r,c,h=>by
  have hg:=pvt_ge M c (M.length - r) r
  simp only [rkG]
  split
  ·exact rkG_le g f M r (c+1) h
  ·have:=rkG_le g f (elim (fun N k=>g N r c k) (M.length - (r+1)) (r+1) (swp M r (pvt M c (M.length - r) r))) (r+1) (c+1) (by rw [elim_len,swp_len];omega)
   rw [elim_len,swp_len]at this
   exact this
theorem fxM_take (c:LL) (w:LI) {i:Nat} (h:i < c.length):(List.range (i+1)).map (fxR c w)=(List.range i).map (fxR c w) ++ [fxR c w i]:=by
 rw [List.range_succ,List.map_append];rfl
theorem actB {c:LL} {w:LI} (hF:FinP c) (hw:letters c.length w) {i:Nat} (hi:i < c.length) (j:Nat):Bnd 100000000000000000 (actR c (w.drop j) (simL c.length i)):=by
 intro x hx
 have:=(fin_all hF).2.2 (w.drop j) i (fun a ha=>hw a (List.mem_of_mem_drop ha)) hi x hx
 omega
set_option maxHeartbeats 1000000 in
theorem c_impl_FixedRank (c:LL) (w:LI) (_:c.length<=1048576) :
  FunA B 97 [.sl false (.row false) c,.sl false .int w] (fun rs o=>rs=[.int .i64 (fixN c w)]/\o=[]):=by
 refine FunA.walk0 B_ok (fn:=Tryz.f97) (fun vs w=>Tryz.call97 vs w) Tryz.func97 rfl (by rw [Tryz.ntmps97];simp) rfl (fun C hC hP hT hΓ hbt hfn hpin hnoL hfin=>?_);have hX:=BX;rw [<- hΓ,<- hbt.1,<- hbt.2.1,<- hbt.2.2.1]at hX;rw [hT]at hX;rw [Tryz.ntmps97];simp only [AW7,simprocAttr,hX]
 refine Run.R ?_
 by_cases hwb:wordB c w=true
 rotate_left
 ·have hwb:wordB c w=false:=by simpa using hwb
  have e:fixN c w = -1:=by simp [fixN,hwb]
  refine Run.g fun K hK=>?_
  refine FunA.cW hP hT (c_impl_IsWord c w) ?_
  rintro rs o ⟨rfl,rfl⟩
  simp only [hwb]
  refine wW ?_
  refine .inl (CallG.off (.bool false) ?_)
  refine wF ?_;clear hK K
  refine Run.c ?_ ?_
  rotate_left
  ·intro h;cases h
  intro _
  refine Run.R ?_
  refine Run.r [4] ?_
  rw [e];exact⟨rfl,rfl⟩
 refine Run.g fun K hK=>?_
 refine FunA.cW hP hT (c_impl_IsWord c w) ?_
 rintro rs o ⟨rfl,rfl⟩
 simp only [hwb]
 refine wW ?_
 refine .inr ⟨rfl,?_⟩
 refine FunA.e hP hT (c_impl_IsFinite c) ?_
 refine wE ?_;clear hK K
 refine Run.c ?_ ?_
 ·intro h
  have hf:isF c=false:=by simpa using h
  have e:fixN c w = -1:=by simp [fixN,hf]
  refine Run.R ?_
  refine Run.r [4] ?_
  rw [e];exact⟨rfl,rfl⟩
 intro h
 have hf:isF c=true:=by simpa using h
 have hF:=isF_iff.1 hf
 obtain⟨hc,hwl,hw⟩:=wordB_iff.1 hwb
 have hn:=hc.2.1
 have hfx:fixN c w=(c.length:Int) - (rkG rowI c.length (fxM c w) 0 0:Nat):=by simp [fixN,hwb,hf]
 refine Run.R ?_
 refine Run.R ?_
 refine Run.k [0,1,5,19,20] [0] ?_
 refine Run.loopI (X:=List (Nat×List Int)×Nat×Bool) (fun x=>⟨46,[(0,true,.v (.sl false (.row false) c)),(1,true,.v (.sl false .int w)),(5,true,.v (.own 0 0)),(19,true,.v (.int .i64 (c.length))),(20,true,.v (.int .i64 (x.2.1)))],[.arr .lrow x.1 0 x.2.2]⟩) (fun x=>x.2.1<=c.length/\rws x.1=(List.range x.2.1).map (fxR c w)/\(x.1.map (·.1)).Nodup) (fun x=>c.length - x.2.1) (([],0,true)) (⟨nz0 _,rfl,by simp⟩) ?_ ?_
 ·exact Le.s
 rintro⟨ys,i,nn⟩ ⟨hi,hys,hnd⟩ ih
 try simp only []
 simp only []at hi hys hnd
 refine Run.R ?_
 refine Run.c ?_ ?_
 ·intro h
  have h:i < c.length:=by rw [dtE]at h;omega
  refine Run.R ?_
  refine Run.g fun K hK=>?_
  refine FunA.e hP hT (c_impl_simple c.length i om om) ?_
  refine FunA.e hP hT (c_impl_actedRoot c w (simL c.length i) hc hw (simL_len _ _) om (actB hF hw h)) ?_
  refine wE ?_;clear hK K
  have hal:(actR c w (simL c.length i)).length=c.length:=by rw [actR_len,simL_len]
  have hab:=(fxR_bnd hF hw h).at' om i
  have hag:(fxR c w i).getD i 0=(actR c w (simL c.length i)).getD i 0 - 1:=by unfold fxR;simp [List.getD,hal,h]
  rw [hag]at hab
  have hyl:ys.length=i:=by rw [<- rws_len,hys];simp
  refine Run.RW ?_
  refine Run.k [0,1,5,7,19,20] [0,2] ?_
  refine Run.tolr 1 [0,1,5,7,19,20] rfl (fun q hq=>?_);simp only [AL,frV_cons,frV_nil,AW7,simprocAttr]
  refine Run.R ?_
  refine Run.k [0,1,5,19,20] [0] ?_
  have hnd2:((ys ++ [(q,fxR c w i)]).map (·.1)).Nodup:=by
   rw [List.map_append,List.nodup_append]
   refine⟨hnd,by simp,fun a ha b hb=>?_⟩
   simp at hb
   subst hb
   obtain⟨p,hp,rfl⟩:=List.mem_map.1 ha
   exact hq _ (mcS ..) _ _ _ rfl p hp
  have hys2:rws (ys ++ [(q,fxR c w i)])=(List.range (i+1)).map (fxR c w):=by
   rw [fxM_take c w h,<- hys];simp [rws]
  refine Run.RW ?_
  exact Run.j (ih ((ys ++ [(q,fxR c w i)],i+1,true)) (⟨h,hys2,hnd2⟩) mz)
 intro h
 have hic:i=c.length:=by rw [dfE]at h;omega
 refine Run.x ?_
 have hys:rws ys=fxM c w:=by rw [hys,hic];rfl
 refine Run.togm 0 [0,5] rfl hnoL hnd rfl (fun hs F hnd hmap=>?_);simp only [AG,frV_cons,frV_nil,AW7,simprocAttr]
 have hmp:hs.map F=fxM c w:=by rw [hmap];exact hys
 have hinj:InjL hs:=fun a b ha hb e=>by
  rw [getD_eq ha,getD_eq hb]at e
  have hp:=List.pairwise_iff_getElem.1 hnd
  rcases Nat.lt_trichotomy a b with h1 | h1 | h1
  ·exact(List.pairwise_iff_getElem.1 ‹hs.Nodup› a b ha hb h1 e).elim
  ·exact h1
  ·exact(List.pairwise_iff_getElem.1 ‹hs.Nodup› b a hb ha h1 e.symm).elim
 refine Run.g fun K hK=>?_
 refine FunO.callGm hP hT (c_impl_rankOf c.length hs F hs (fxM c w) hmp hinj (fun _ h=>h) hn (fxM_ok hF hw) nn) 0 0 (by simp only [AW7,simprocAttr];rfl) (by simp) (by simp only [AW7,simprocAttr]) ?_
 rintro rs o' obs' ⟨rfl,F',hs',h⟩
 obtain⟨rfl,rfl⟩:=List.cons.inj h
 have hrk:=rkG_le rowI c.length (fxM c w) 0 0 (nz0 _)
 rw [(fxM_ok hF hw).1]at hrk
 simp(disch:=omega) only [wrap_id,AW7,simprocAttr,hX];(repeat(with_reducible refine And.intro ?_ ?_);exact vc0)
 refine wE ?_;clear hK K
 refine Run.k [4] [] ?_
 refine Run.r [4] ?_
 rw [hfx];exact⟨rfl,rfl⟩
noncomputable def absN (c:LL) (w:LI):Int:=if wordB c w && isF c then((rkG rowI c.length (fxM c w) 0 0:Nat):Int)else -1
theorem absN_fix (c:LL) (w:LI):(fixN c w < 0/\absN c w = -1)\/(0<=fixN c w/\absN c w=(c.length:Int) - fixN c w/\fixN c w<=c.length):=by
 unfold fixN absN
 cases h:wordB c w && isF c with
 | false=>left;simp
 | true=>
  right
  have hl:=rkG_le rowI c.length (fxM c w) 0 0 (nz0 _)
  have e:(fxM c w).length=c.length:=by simp [fxM]
  rw [e]at hl
  simp only [if_true]
  omega
noncomputable def mulB (c:LL) (a b:LI):Bool:=wordB c a && wordB c b && decide ((redL c (a ++ b)).length<=15)
noncomputable def mulX (c:LL) (a b:LI):List Int:=if mulB c a b then redL c (a ++ b)else []
theorem mul_off {c:LL} {a b:LI} (h:(wordB c a && wordB c b)=false):mulB c a b=false/\mulX c a b=[]:=by
 have:mulB c a b=false:=by unfold mulB;rw [h];rfl
 exact⟨this,by simp [mulX,this]⟩
theorem mul_on {c:LL} {a b:LI} (h:(wordB c a && wordB c b)=true):mulB c a b=decide ((redL c (a ++ b)).length<=15)/\mulX c a b=if (redL c (a ++ b)).length<=15 then redL c (a ++ b)else []:=by
 have:mulB c a b=decide ((redL c (a ++ b)).length<=15):=by unfold mulB;rw [h];rfl
 exact⟨this,by simp [mulX,this]⟩
theorem mulX_le (c:LL) (a b:LI):(mulX c a b).length<=15:=by
 unfold mulX
 split
 ·rename_i h;simp only [mulB,bAnd,dtE]at h;exact h.2
 ·simp
theorem c_impl_AbsoluteLength (c:LL) (w:LI) (hcl:c.length<=1048576) :
  FunA B 40 [.sl false (.row false) c,.sl false .int w] (fun rs o=>rs=[.int .i64 (absN c w)]/\o=[]):=by
 refine wk Tryz.call40 Tryz.func40 rfl Tryz.ntmps40 fun C hC hP hT hfn hpin hfin hX=>wW ?_
 refine Run.R ?_
 refine Run.g fun K hK=>?_
 refine FunA.e hP hT (c_impl_FixedRank c w hcl) ?_
 refine wE ?_;clear hK K
 refine Run.R ?_
 refine Run.c ?_ ?_
 ·intro h
  have h:fixN c w < 0:=by rw [dtE]at h;exact h
  have e:absN c w = -1:=by rcases absN_fix c w with h1 | h1<;>omega
  refine Run.R ?_
  refine Run.r [4] ?_
  rw [e];exact⟨rfl,rfl⟩
 intro h
 have h:¬fixN c w < 0:=by rw [dfE]at h;exact h
 have e:absN c w=(c.length:Int) - fixN c w/\fixN c w<=c.length:=by rcases absN_fix c w with h1 | h1<;>omega
 refine Run.RW ?_
 refine Run.r [4] ?_
 rw [e.1];exact⟨rfl,rfl⟩
theorem c_impl_MultiplyElements (c:LL) (a b:LI) (hcl:c.length<=1048576) :
  FunA B 135 [.sl false (.row false) c,.sl false .int a,.sl false .int b] (fun rs o=>rs=[.own 0 0,.bool (mulB c a b)]/\o=[.arr .int (mulX c a b) 0 true]):=by
 refine wk Tryz.call135 Tryz.func135 rfl Tryz.ntmps135 fun C hC hP hT hfn hpin hfin hX=>wW ?_
 refine Run.R ?_
 by_cases ha:wordB c a=true
 rotate_left
 ·have ha:wordB c a=false:=by simpa using ha
  obtain⟨e1,e2⟩:=mul_off (c:=c) (a:=a) (b:=b) (by rw [ha];rfl)
  refine Run.g fun K hK=>?_
  refine FunA.cW hP hT (c_impl_IsWord c a) ?_
  rintro rs o ⟨rfl,rfl⟩
  simp only [ha]
  refine wW ?_
  refine .inl (CallG.off (.bool false) ?_)
  refine wF ?_;clear hK K
  refine Run.c ?_ ?_
  rotate_left
  ·intro h;cases h
  intro _
  refine Run.R ?_
  refine Run.k [6,7] [0] ?_
  refine Run.r [6,7] ?_
  rw [e1,e2];exact⟨rfl,rfl⟩
 refine Run.g fun K hK=>?_
 refine FunA.cW hP hT (c_impl_IsWord c a) ?_
 rintro rs o ⟨rfl,rfl⟩
 simp only [ha]
 refine wW ?_
 refine .inr ⟨rfl,?_⟩
 refine FunA.e hP hT (c_impl_IsWord c b) ?_
 refine wE ?_;clear hK K
 refine Run.c ?_ ?_
 ·intro h
  have hb:wordB c b=false:=by simpa using h
  obtain⟨e1,e2⟩:=mul_off (c:=c) (a:=a) (b:=b) (by rw [ha,hb];rfl)
  refine Run.R ?_
  refine Run.k [6,7] [0] ?_
  refine Run.r [6,7] ?_
  rw [e1,e2];exact⟨rfl,rfl⟩
 intro h
 have hb:wordB c b=true:=by simpa using h
 obtain⟨e1,e2⟩:=mul_on (c:=c) (a:=a) (b:=b) (by rw [ha,hb];rfl)
 obtain⟨hc,a1,a2⟩:=wordB_iff.1 ha
 obtain⟨_,b1,b2⟩:=wordB_iff.1 hb
 have hlet:letters c.length (a ++ b):=letters_append.2 ⟨a2,b2⟩
 have hll:(a ++ b).length<=30:=by simp;omega
 refine Run.g fun K hK=>?_
 refine FunA.cW hP hT (c_impl_ConcatWords a b om om) ?_
 rintro rs o ⟨nn2,rfl,rfl⟩
 refine wW ?_
 refine FunA.e hP hT (c_impl_reduced c (a ++ b) hc hlet om) ?_
 refine wE ?_;clear hK K
 refine Run.R ?_
 refine Run.c ?_ ?_
 ·intro h
  have h:¬(redL c (a ++ b)).length<=15:=by simp at h;omega
  refine Run.R ?_
  refine Run.k [6,7] [2] ?_
  refine Run.r [6,7] ?_
  rw [e1,e2,if_neg h];exact⟨by simp [h],rfl⟩
 intro h
 have h:(redL c (a ++ b)).length<=15:=by simp at h;omega
 refine Run.R ?_
 refine Run.k [6,7] [1] ?_
 refine Run.r [6,7] ?_
 rw [e1,e2,if_pos h];exact⟨by simp [h],rfl⟩
theorem c_spec_MultiplyElements (c:LL) (a b:LI) (hcl:c.length<=1048576) :
  FunA B 93 [.sl false (.row false) c,.sl false .int a,.sl false .int b] (fun rs o=>rs=[.own 0 0,.bool (mulB c a b)]/\o=[.arr .int (mulX c a b) 0 true]):=by
 refine wk Tryz.call93 Tryz.func93 rfl Tryz.ntmps93 fun C hC hP hT hfn hpin hfin hX=>wW ?_
 refine Run.R ?_
 by_cases ha:wordB c a=true
 rotate_left
 ·have ha:wordB c a=false:=by simpa using ha
  obtain⟨e1,e2⟩:=mul_off (c:=c) (a:=a) (b:=b) (by rw [ha];rfl)
  refine Run.g fun K hK=>?_
  refine FunA.cW hP hT (c_spec_IsWord c a hcl) ?_
  rintro rs o ⟨rfl,rfl⟩
  simp only [ha]
  refine wW ?_
  refine .inl (CallG.off (.bool false) ?_)
  refine wF ?_;clear hK K
  refine Run.c ?_ ?_
  rotate_left
  ·intro h;cases h
  intro _
  refine Run.R ?_
  refine Run.k [6,7] [0] ?_
  refine Run.r [6,7] ?_
  rw [e1,e2];exact⟨rfl,rfl⟩
 refine Run.g fun K hK=>?_
 refine FunA.cW hP hT (c_spec_IsWord c a hcl) ?_
 rintro rs o ⟨rfl,rfl⟩
 simp only [ha]
 refine wW ?_
 refine .inr ⟨rfl,?_⟩
 refine FunA.e hP hT (c_spec_IsWord c b hcl) ?_
 refine wE ?_;clear hK K
 refine Run.c ?_ ?_
 ·intro h
  have hb:wordB c b=false:=by simpa using h
  obtain⟨e1,e2⟩:=mul_off (c:=c) (a:=a) (b:=b) (by rw [ha,hb];rfl)
  refine Run.R ?_
  refine Run.k [6,7] [0] ?_
  refine Run.r [6,7] ?_
  rw [e1,e2];exact⟨rfl,rfl⟩
 intro h
 have hb:wordB c b=true:=by simpa using h
 obtain⟨e1,e2⟩:=mul_on (c:=c) (a:=a) (b:=b) (by rw [ha,hb];rfl)
 obtain⟨hc,a1,a2⟩:=wordB_iff.1 ha
 obtain⟨_,b1,b2⟩:=wordB_iff.1 hb
 have hlet:letters c.length (a ++ b):=letters_append.2 ⟨a2,b2⟩
 have hll:(a ++ b).length<=30:=by simp;omega
 refine Run.g fun K hK=>?_
 refine FunA.e hP hT (c_spec_ConcatWords a b om om) ?_
 refine FunA.e hP hT (c_spec_l9Fit c (a ++ b) hc hlet om) ?_
 refine wE ?_;clear hK K
 refine Run.R ?_
 refine Run.k [6,7] [1] ?_
 refine Run.r [6,7] ?_
 rw [e1,e2];exact⟨rfl,rfl⟩
theorem c_big (code:LI):FunA B 5 [.sl false .byte code] (fun rs o=>rs=[.bool (decide (1048576 < code.length))]/\o=[]):=by
 refine wk Tryz.call5 Tryz.func5 rfl Tryz.ntmps5 fun C hC hP hT hfn hpin hfin hX=>wW ?_
 refine Run.R ?_
 refine Run.R ?_
 refine Run.r [2] ?_
 have:decide ((1048576:Int) < (code.length:Int))=decide (1048576 < code.length):=by
  by_cases h:1048576 < code.length
  ·rw [decide_eq_true h,decide_eq_true];omega
  ·rw [decide_eq_false h,decide_eq_false];omega
 first | exact⟨by rw [this],rfl⟩ | simpa using this
theorem c_sameInts (p q:LI) (hp:p.length<=4503599627370496):FunA B 9 [.sl false .int p,.sl false .int q] (fun rs o=>rs=[.bool (p == q)]/\o=[]):=by
 refine wk Tryz.call9 Tryz.func9 rfl Tryz.ntmps9 fun C hC hP hT hfn hpin hfin hX=>wW ?_
 refine Run.R ?_
 refine Run.R ?_
 refine Run.c ?_ ?_
 ·intro hc
  refine Run.R ?_
  refine Run.r [4] ?_
  have:p≠q:=fun h=>by simp [h]at hc
  simpa using this
 intro hc
 have hl:p.length=q.length:=by simp at hc;omega
 refine Run.R ?_
 refine Run.loopI (X:=Nat) (fun i=>⟨26,[(0,true,.v (.sl false .int p)),(1,true,.v (.sl false .int q)),(5,true,.v (.int .i64 i)),(4,true,.v (.bool false))],[]⟩) (fun i=>i<=p.length/\p.take i=q.take i) (fun i=>p.length - i) (0) (⟨nz0 _,rfl⟩) ?_ ?_
 ·exact Le.s
 rintro i ⟨hi,ht⟩ ih
 try simp only []
 refine Run.R ?_
 refine Run.c ?_ ?_
 ·intro hc2
  have hc2:i < p.length:=by simpa using hc2
  refine Run.nq ?_;refine Run.regionD hC true [0,1,2,3,4,5,6,7,8] (by kernel_rfl) (fun K hK=>?_);simp only [AW7,simprocAttr,hX];(repeat(with_reducible refine And.intro ?_ ?_);exact vc0);refine wE ?_;clear hK K
  refine Run.c ?_ ?_
  ·intro hne
   refine Run.R ?_
   refine Run.r [4] ?_
   have:p≠q:=fun h=>by simp [h]at hne
   simpa using this
  ·intro he
   have he:p.getD i 0=q.getD i 0:=by simpa using he
   have ht2:p.take (i+1)=q.take (i+1):=by rw [<- take_snoc 0 p i hc2,<- take_snoc 0 q i om,ht,he]
   refine Run.RW ?_
   exact Run.j (ih (i+1) (⟨hc2,ht2⟩) mz)
 ·intro hc2
  have hc2:i=p.length:=by simp at hc2;omega
  refine Run.x ?_
  refine Run.R ?_
  refine Run.r [4] ?_
  subst hc2
  rw [tkL,hl,tkL]at ht
  simpa using ht
theorem c_spec_SignOf (w:LI):FunA B 39 [.sl false .int w] (fun rs o=>rs=[.int .i64 (if w.length % 2=0 then 1 else -1)]/\o=[]):=by
 have e:((w.length:Int).tmod 2 == 0)=decide (w.length % 2=0):=by
  have h:(w.length:Int).tmod 2=((w.length % 2:Nat):Int):=rfl
  rw [h]
  rcases Nat.mod_two_eq_zero_or_one w.length with h | h<;>rw [h]<;>rfl
 refine wk Tryz.call39 Tryz.func39 rfl Tryz.ntmps39 fun C hC hP hT hfn hpin hfin hX=>wW ?_
 refine Run.R ?_
 refine Run.R ?_
 rw [e]
 refine Run.c ?_ ?_
 ·intro h
  have h:w.length % 2=0:=by simpa using h
  refine Run.R ?_
  refine Run.r [2] ?_
  simp [h]
 intro h
 have h:¬w.length % 2=0:=by simpa using h
 refine Run.R ?_
 refine Run.r [2] ?_
 simp [h]
theorem getD_take {α:Type} {d:α} {p q:List α} {i:Nat} (hp:i < p.length) (hq:i < q.length) (ht:p.take i=q.take i) (he:p.getD i d=q.getD i d):p.take (i+1)=q.take (i+1):=by rw [<- take_snoc d p i hp,<- take_snoc d q i hq,ht,he]
theorem c_sameWords (p q:LL) (hp:p.length<=4503599627370496) (hr:∀ r∈p,r.length<=4503599627370496):FunA B 23 [.sl false (.row false) p,.sl false (.row false) q] (fun rs o=>rs=[.bool (p == q)]/\o=[]):=by
 refine wk Tryz.call23 Tryz.func23 rfl Tryz.ntmps23 fun C hC hP hT hfn hpin hfin hX=>wW ?_
 refine Run.R ?_
 refine Run.R ?_
 refine Run.c ?_ ?_
 ·intro hc
  refine Run.R ?_
  refine Run.r [4] ?_
  have:p≠q:=fun h=>by simp [h]at hc
  simpa using this
 intro hc
 have hl:p.length=q.length:=by simp at hc;omega
 refine Run.R ?_
 refine Run.loopI (X:=Nat) (fun i=>⟨27,[(0,true,.v (.sl false (.row false) p)),(1,true,.v (.sl false (.row false) q)),(5,true,.v (.int .i64 i)),(4,true,.v (.bool false))],[]⟩) (fun i=>i<=p.length/\p.take i=q.take i) (fun i=>p.length - i) (0) (⟨nz0 _,rfl⟩) ?_ ?_
 ·exact Le.s
 rintro i ⟨hi,ht⟩ ih
 try simp only []
 refine Run.R ?_
 refine Run.c ?_ ?_
 ·intro hc2
  have hc2:i < p.length:=by simpa using hc2
  have hri:(p.getD i []).length<=4503599627370496:=by
   rw [gdE,geE hc2]
   exact hr _ (List.getElem_mem hc2)
  refine Run.nq ?_;refine Run.regionD hC true [0,1,2,3,4,5,6,7,8,9] (by kernel_rfl) (fun K hK=>?_);simp only [AW7,simprocAttr,hX];(repeat(with_reducible refine And.intro ?_ ?_);exact vc0)
  refine FunA.callD hP hT (c_sameInts (p.getD i []) (q.getD i []) hri) (by simp only [AW7,simprocAttr]) ?_
  rintro rs o ⟨rfl,rfl⟩
  refine wF ?_;clear hK K
  refine Run.c ?_ ?_
  ·intro hne
   refine Run.R ?_
   refine Run.r [4] ?_
   have:p≠q:=fun h=>by simp [h]at hne
   simpa using this
  ·intro he
   have he:p.getD i []=q.getD i []:=by simpa using he
   have ht2:=getD_take hc2 om ht he
   refine Run.RW ?_
   exact Run.j (ih (i+1) (⟨hc2,ht2⟩) mz)
 ·intro hc2
  have hc2:i=p.length:=by simp at hc2;omega
  refine Run.x ?_
  refine Run.R ?_
  refine Run.r [4] ?_
  subst hc2
  rw [tkL,hl,tkL]at ht
  simpa using ht
noncomputable def sameB (c:LL) (u v:LI):Bool:=wordB c u && wordB c v && (imageL c u == imageL c v)
theorem c_impl_same (c:LL) (u v:LI) (hc:CartanP c) (hu:letters c.length u) (hv:letters c.length v) (hul:u.length<=31) (hvl:v.length<=31) :
  FunA B 64 [.sl false (.row false) c,.sl false .int u,.sl false .int v] (fun rs o=>rs=[.bool (imageL c u == imageL c v)]/\o=[]):=by
 have hn:=hc.2.1
 refine wk Tryz.call64 Tryz.func64 rfl Tryz.ntmps64 fun C hC hP hT hfn hpin hfin hX=>wW ?_
 refine Run.R ?_
 refine Run.g fun K hK=>?_
 refine FunA.e hP hT (c_impl_image c u hc hu hul) ?_
 refine FunA.e hP hT (c_impl_image c v hc hv hvl) ?_
 refine FunA.callW hP hT (c_slices_Equal (imageL c u) (imageL c v) (by rw [imageL_length];omega)) (by simp only [AW7,simprocAttr];first | done | decide | exact⟨rfl,rfl⟩) ?_
 rintro rs o ⟨rfl,rfl⟩
 refine wF ?_;clear hK K
 refine Run.k [6] [] ?_
 refine Run.r [6] ?_
 exact⟨rfl,rfl⟩
theorem c_impl_AreSame (c:LL) (u v:LI) (hcl:c.length<=1048576) :
  FunA B 13 [.sl false (.row false) c,.sl false .int u,.sl false .int v] (fun rs o=>rs=[.bool (sameB c u v)]/\o=[]):=by
 refine wk Tryz.call13 Tryz.func13 rfl Tryz.ntmps13 fun C hC hP hT hfn hpin hfin hX=>wW ?_
 refine Run.R ?_
 refine Run.g fun K hK=>?_
 refine FunA.cW hP hT (c_impl_IsWord c u) ?_
 rintro rs o ⟨rfl,rfl⟩
 cases hu:wordB c u with
 | false=>
  refine wW ?_
  refine .inl (CallG.off (.bool false) ?_)
  refine wW ?_
  refine .inl (CallG.off (.bool false) ?_)
  refine wF ?_;clear hK K
  refine Run.r [6] ?_
  simp [sameB,hu]
 | true=>
  refine wW ?_
  refine .inl (FunA.callG hP hT (c_impl_IsWord c v) (fun _=>rfl) (fun _=>by simp only [AW7,simprocAttr]) ?_)
  cases hv:wordB c v with
  | false=>
   refine wW ?_
   refine .inl (CallG.off (.bool false) ?_)
   refine wF ?_;clear hK K
   refine Run.r [6] ?_
   simp [sameB,hu,hv]
  | true=>
   obtain⟨hc,h1,h2⟩:=wordB_iff.1 hu
   obtain⟨_,h3,h4⟩:=wordB_iff.1 hv
   refine wW ?_
   refine .inl (FunA.callG hP hT (c_impl_same c u v hc (by assumption) (by assumption) om om) (fun _=>rfl) (fun _=>by simp only [AW7,simprocAttr]) ?_)
   refine wF ?_;clear hK K
   refine Run.r [6] ?_
   simp [sameB,hu,hv]
theorem c_spec_AreSame (c:LL) (u v:LI) (hcl:c.length<=1048576) :
  FunA B 92 [.sl false (.row false) c,.sl false .int u,.sl false .int v] (fun rs o=>rs=[.bool (sameB c u v)]/\o=[]):=by
 refine wk Tryz.call92 Tryz.func92 rfl Tryz.ntmps92 fun C hC hP hT hfn hpin hfin hX=>wW ?_
 refine Run.R ?_
 refine Run.g fun K hK=>?_
 refine FunA.cW hP hT (c_spec_IsWord c u hcl) ?_
 rintro rs o ⟨rfl,rfl⟩
 cases hu:wordB c u with
 | false=>
  refine wW ?_
  refine .inl (CallG.off (.bool false) ?_)
  refine wW ?_
  refine .inl (CallG.off (.bool false) ?_)
  refine wW ?_
  refine .inl (CallG.off (.bool false) ?_)
  refine wW ?_
  refine .inl (CallG.off (.bool false) ?_)
  refine wF ?_;clear hK K
  refine Run.r [6] ?_
  simp [sameB,hu]
 | true=>
  refine wW ?_
  refine .inl (FunA.callG hP hT (c_spec_IsWord c v hcl) (fun _=>rfl) (fun _=>by simp only [AW7,simprocAttr]) ?_)
  cases hv:wordB c v with
  | false=>
   refine wW ?_
   refine .inl (CallG.off (.bool false) ?_)
   refine wW ?_
   refine .inl (CallG.off (.bool false) ?_)
   refine wW ?_
   refine .inl (CallG.off (.bool false) ?_)
   refine wF ?_;clear hK K
   refine Run.r [6] ?_
   simp [sameB,hu,hv]
  | true=>
   obtain⟨hc,h1,h2⟩:=wordB_iff.1 hu
   obtain⟨_,h3,h4⟩:=wordB_iff.1 hv
   have hn:=hc.2.1
   refine wW ?_
   refine .inr ⟨rfl,?_⟩
   refine FunA.e hP hT (c_spec_l8Image c u hc (by assumption) om) ?_
   refine .inr ⟨rfl,?_⟩
   refine FunA.e hP hT (c_spec_l8Image c v hc (by assumption) om) ?_
   refine .inr ⟨rfl,?_⟩
   refine FunA.callW hP hT (c_spec_EqualWords (imageL c u) (imageL c v) (by rw [imageL_length];omega)) (by simp only [AW7,simprocAttr];first | done | decide | exact⟨rfl,rfl⟩) ?_
   rintro rs o ⟨rfl,rfl⟩
   refine wF ?_;clear hK K
   refine Run.k [6] [] ?_
   refine Run.r [6] ?_
   simp [sameB,hu,hv]
noncomputable def commB (c:LL) (a b:LI):Bool:=wordB c a && wordB c b && (imageL c (a ++ b) == imageL c (b ++ a))
theorem c_impl_DoCommute (c:LL) (a b:LI):FunA B 104 [.sl false (.row false) c,.sl false .int a,.sl false .int b] (fun rs o=>rs=[.bool (commB c a b)]/\o=[]):=by
 refine wk Tryz.call104 Tryz.func104 rfl Tryz.ntmps104 fun C hC hP hT hfn hpin hfin hX=>wW ?_
 refine Run.R ?_
 refine Run.g fun K hK=>?_
 refine FunA.cW hP hT (c_impl_IsWord c a) ?_
 rintro rs o ⟨rfl,rfl⟩
 cases ha:wordB c a with
 | false=>
  refine wW ?_
  refine .inl (CallG.off (.bool false) ?_)
  refine wW ?_
  refine .inl (CallG.off (.sl false .int []) ?_)
  refine wW ?_
  refine .inl (CallG.off (.sl false .int []) ?_)
  refine wW ?_
  refine .inl (CallG.off (.bool false) ?_)
  refine wF ?_;clear hK K
  refine Run.r [6] ?_
  simp [commB,ha]
 | true=>
  refine wW ?_
  refine .inl (FunA.callG hP hT (c_impl_IsWord c b) (fun _=>rfl) (fun _=>by simp only [AW7,simprocAttr]) ?_)
  cases hb:wordB c b with
  | false=>
   refine wW ?_
   refine .inl (CallG.off (.sl false .int []) ?_)
   refine wW ?_
   refine .inl (CallG.off (.sl false .int []) ?_)
   refine wW ?_
   refine .inl (CallG.off (.bool false) ?_)
   refine wF ?_;clear hK K
   refine Run.r [6] ?_
   simp [commB,ha,hb]
  | true=>
   obtain⟨hc,h1,h2⟩:=wordB_iff.1 ha
   obtain⟨_,h3,h4⟩:=wordB_iff.1 hb
   refine wW ?_
   refine .inr ⟨rfl,?_⟩
   refine FunA.cW hP hT (c_impl_ConcatWords a b om om) ?_
   rintro rs o ⟨n1,rfl,rfl⟩
   refine wW ?_
   refine .inr ⟨rfl,?_⟩
   refine FunA.cW hP hT (c_impl_ConcatWords b a om om) ?_
   rintro rs o ⟨n2,rfl,rfl⟩
   refine wW ?_
   refine .inr ⟨rfl,?_⟩
   refine FunA.callW hP hT (c_impl_same c (a ++ b) (b ++ a) hc (letters_append.2 ⟨h2,h4⟩) (letters_append.2 ⟨h4,h2⟩) (by simp;omega) (by simp;omega)) (by simp only [AW7,simprocAttr];first | done | decide | exact⟨rfl,rfl⟩) ?_
   rintro rs o ⟨rfl,rfl⟩
   refine wF ?_;clear hK K
   refine Run.k [6] [] ?_
   refine Run.r [6] ?_
   simp [commB,ha,hb]
theorem c_spec_DoCommute (c:LL) (a b:LI) (hcl:c.length<=1048576):FunA B 105 [.sl false (.row false) c,.sl false .int a,.sl false .int b] (fun rs o=>rs=[.bool (commB c a b)]/\o=[]):=by
 refine wk Tryz.call105 Tryz.func105 rfl Tryz.ntmps105 fun C hC hP hT hfn hpin hfin hX=>wW ?_
 refine Run.R ?_
 refine Run.g fun K hK=>?_
 refine FunA.cW hP hT (c_spec_IsWord c a hcl) ?_
 rintro rs o ⟨rfl,rfl⟩
 cases ha:wordB c a with
 | false=>
  refine wW ?_
  refine .inl (CallG.off (.bool false) ?_)
  refine wW ?_
  refine .inl (CallG.off (.sl false .int []) ?_)
  refine wW ?_
  refine .inl (CallG.off (.sl false .int []) ?_)
  refine wW ?_
  refine .inl (CallG.off (.sl false .int []) ?_)
  refine wW ?_
  refine .inl (CallG.off (.sl false .int []) ?_)
  refine wW ?_
  refine .inl (CallG.off (.bool false) ?_)
  refine wF ?_;clear hK K
  refine Run.r [6] ?_
  simp [commB,ha]
 | true=>
  refine wW ?_
  refine .inl (FunA.callG hP hT (c_spec_IsWord c b hcl) (fun _=>rfl) (fun _=>by simp only [AW7,simprocAttr]) ?_)
  cases hb:wordB c b with
  | false=>
   refine wW ?_
   refine .inl (CallG.off (.sl false .int []) ?_)
   refine wW ?_
   refine .inl (CallG.off (.sl false .int []) ?_)
   refine wW ?_
   refine .inl (CallG.off (.sl false .int []) ?_)
   refine wW ?_
   refine .inl (CallG.off (.sl false .int []) ?_)
   refine wW ?_
   refine .inl (CallG.off (.bool false) ?_)
   refine wF ?_;clear hK K
   refine Run.r [6] ?_
   simp [commB,ha,hb]
  | true=>
   obtain⟨hc,h1,h2⟩:=wordB_iff.1 ha
   obtain⟨_,h3,h4⟩:=wordB_iff.1 hb
   have hn:=hc.2.1
   refine wW ?_
   refine .inr ⟨rfl,?_⟩
   refine FunA.e hP hT (c_spec_ConcatWords a b om om) ?_
   refine .inr ⟨rfl,?_⟩
   refine FunA.e hP hT (c_spec_l8Image c (a ++ b) hc (letters_append.2 ⟨h2,h4⟩) (by simp;omega)) ?_
   refine .inr ⟨rfl,?_⟩
   refine FunA.e hP hT (c_spec_ConcatWords b a om om) ?_
   refine .inr ⟨rfl,?_⟩
   refine FunA.e hP hT (c_spec_l8Image c (b ++ a) hc (letters_append.2 ⟨h4,h2⟩) (by simp;omega)) ?_
   refine .inr ⟨rfl,?_⟩
   refine FunA.callW hP hT (c_spec_EqualWords (imageL c (a ++ b)) (imageL c (b ++ a)) (by rw [imageL_length];omega)) (by simp only [AW7,simprocAttr];first | done | decide | exact⟨rfl,rfl⟩) ?_
   rintro rs o ⟨rfl,rfl⟩
   refine wF ?_;clear hK K
   refine Run.k [6] [] ?_
   refine Run.r [6] ?_
   simp [commB,ha,hb]
noncomputable def cjB (c:LL) (w by':LI):Bool:=mulB c by'.reverse w && mulB c (mulX c by'.reverse w) by'
noncomputable def cjX (c:LL) (w by':LI):List Int:=if cjB c w by' then mulX c (mulX c by'.reverse w) by' else []
theorem mulX_off {c:LL} {a b:LI} (h:mulB c a b=false):mulX c a b=[]:=by unfold mulX;rw [h];rfl
theorem cjX_le (c:LL) (w x:LI):(cjX c w x).length<=15:=by
 unfold cjX
 split
 ·exact mulX_le c _ _
 ·simp
theorem c_impl_ConjugateElement (c:LL) (w x:LI) (hcl:c.length<=1048576) (hx:x.length<=1048576) :
  FunA B 89 [.sl false (.row false) c,.sl false .int w,.sl false .int x] (fun rs o=>rs=[.own 0 0,.bool (cjB c w x)]/\o=[.arr .int (cjX c w x) 0 true]):=by
 refine wk Tryz.call89 Tryz.func89 rfl Tryz.ntmps89 fun C hC hP hT hfn hpin hfin hX=>wW ?_
 refine Run.R ?_
 refine Run.g fun K hK=>?_
 refine FunA.e hP hT (c_impl_ReverseWord x hx) ?_
 refine FunA.e hP hT (c_impl_MultiplyElements c x.reverse w hcl) ?_
 refine wE ?_;clear hK K
 refine Run.R ?_
 refine Run.c ?_ ?_
 ·intro h
  have h:mulB c x.reverse w=false:=by simpa using h
  have e:cjB c w x=false:=by unfold cjB;rw [h];rfl
  have e2:cjX c w x=[]:=by unfold cjX;rw [e];rfl
  refine Run.R ?_
  refine Run.k [6,7] [2] ?_
  refine Run.r [6,7] ?_
  rw [e,e2];exact⟨rfl,rfl⟩
 intro h
 have h:mulB c x.reverse w=true:=by simpa using h
 have e:cjB c w x=mulB c (mulX c x.reverse w) x:=by unfold cjB;rw [h];rfl
 have e2:cjX c w x=mulX c (mulX c x.reverse w) x:=by
  unfold cjX;rw [e]
  cases hm:mulB c (mulX c x.reverse w) x
  ·rw [mulX_off hm];rfl
  ·rfl
 refine Run.g fun K hK=>?_
 refine FunA.e hP hT (c_impl_MultiplyElements c (mulX c x.reverse w) x hcl) ?_
 refine wE ?_;clear hK K
 skip
 refine Run.k [6,7] [2] ?_
 refine Run.r [6,7] ?_
 rw [e,e2];exact⟨rfl,rfl⟩
theorem c_spec_ConjugateElement (c:LL) (w x:LI) (hcl:c.length<=1048576) (hx:x.length<=1048576) :
  FunA B 37 [.sl false (.row false) c,.sl false .int w,.sl false .int x] (fun rs o=>rs=[.own 0 0,.bool (cjB c w x)]/\o=[.arr .int (cjX c w x) 0 true]):=by
 refine wk Tryz.call37 Tryz.func37 rfl Tryz.ntmps37 fun C hC hP hT hfn hpin hfin hX=>wW ?_
 refine Run.R ?_
 refine Run.g fun K hK=>?_
 refine FunA.e hP hT (c_spec_ReverseWord x hx) ?_
 refine FunA.e hP hT (c_spec_MultiplyElements c x.reverse w hcl) ?_
 refine wE ?_;clear hK K
 refine Run.R ?_
 refine Run.c ?_ ?_
 ·intro h
  have h:mulB c x.reverse w=false:=by simpa using h
  have e:cjB c w x=false:=by unfold cjB;rw [h];rfl
  have e2:cjX c w x=[]:=by unfold cjX;rw [e];rfl
  refine Run.R ?_
  refine Run.k [6,7] [2] ?_
  refine Run.r [6,7] ?_
  rw [e,e2];exact⟨rfl,rfl⟩
 intro h
 have h:mulB c x.reverse w=true:=by simpa using h
 have e:cjB c w x=mulB c (mulX c x.reverse w) x:=by unfold cjB;rw [h];rfl
 have e2:cjX c w x=mulX c (mulX c x.reverse w) x:=by
  unfold cjX;rw [e]
  cases hm:mulB c (mulX c x.reverse w) x
  ·rw [mulX_off hm];rfl
  ·rfl
 refine Run.g fun K hK=>?_
 refine FunA.e hP hT (c_spec_MultiplyElements c (mulX c x.reverse w) x hcl) ?_
 refine wE ?_;clear hK K
 refine Run.R ?_
 refine Run.k [6,7] [2] ?_
 refine Run.r [6,7] ?_
 rw [e,e2];exact⟨rfl,rfl⟩
theorem c_DrawConjugacyClasses (code:LI) (hl:code.length<=1048576):FunA B 41 [.sl false .byte code] (fun rs o=>∃ c,(1<=c.length/\c.length<=5)/\rs=[.sl true (.row true) c]/\o=[]):=by
 refine wk Tryz.call41 Tryz.func41 rfl Tryz.ntmps41 fun C hC hP hT hfn hpin hfin hX=>wW ?_
 refine Run.R ?_
 refine Run.g fun K hK=>?_
 refine ACall.new hP om fun s=>?_
 refine wW ?_
 refine FunO.callCur hP hT (c_l13Finite s) 0 0 (by first | rfl | (simp only [AW7,simprocAttr];done) | (simp only [AW7,simprocAttr];rfl)) (by simp only [AW7,simprocAttr]) ?_
 rintro rs o' obs' ⟨c,g,nn,⟨c1,c2⟩,rfl,rfl,ho⟩
 injection ho with ho1 ho2;subst ho1 ho2
 refine wF ?_;clear hK K
 refine Run.k [2] [1] ?_
 refine Run.l 0 [2] ?_
 refine Run.k [2] [] ?_
 refine Run.r [2] ?_
 exact⟨c,⟨c1,c2⟩,rfl,rfl⟩
theorem c_DrawCoxeterNumber (code:LI) (hl:code.length<=1048576):FunA B 48 [.sl false .byte code] (fun rs o=>∃ c,(1<=c.length/\c.length<=5)/\rs=[.sl true (.row true) c]/\o=[]):=by
 refine wk Tryz.call48 Tryz.func48 rfl Tryz.ntmps48 fun C hC hP hT hfn hpin hfin hX=>wW ?_
 refine Run.R ?_
 refine Run.g fun K hK=>?_
 refine ACall.new hP om fun s=>?_
 refine wW ?_
 refine FunO.callCur hP hT (c_l2Any s) 0 0 (by first | rfl | (simp only [AW7,simprocAttr];done) | (simp only [AW7,simprocAttr];rfl)) (by simp only [AW7,simprocAttr]) ?_
 rintro rs o' obs' ⟨c,g,nn,⟨c1,c2⟩,rfl,rfl,ho⟩
 injection ho with ho1 ho2;subst ho1 ho2
 refine wF ?_;clear hK K
 refine Run.k [2] [1] ?_
 refine Run.l 0 [2] ?_
 refine Run.k [2] [] ?_
 refine Run.r [2] ?_
 exact⟨c,⟨c1,c2⟩,rfl,rfl⟩
theorem jn12 {C:Ctx} {k k':List Item} {σ σ':St} (rest:Run C k' σ') (h:Run C k' σ'->Run C k σ):Run C k σ:=h rest
theorem c_DrawAreConjugate (code:LI) (hl:code.length<=1048576):FunA B 34 [.sl false .byte code] (fun rs o=>∃ c u v,(1<=c.length/\c.length<=5)/\u.length<=15/\v.length<=15/\rs=[.sl true (.row true) c,.sl true .int u,.sl true .int v]/\o=[]):=by
 refine wk Tryz.call34 Tryz.func34 rfl Tryz.ntmps34 fun C hC hP hT hfn hpin hfin hX=>wW ?_
 refine Run.R ?_
 refine Run.g fun K hK=>?_
 refine ACall.new hP om fun s=>?_
 refine wF ?_;clear hK K
 refine Run.g fun K hK=>?_
 refine FunO.callCur hP hT (c_l13Finite s) 0 0 (by first | rfl | (simp only [AW7,simprocAttr];done) | (simp only [AW7,simprocAttr];rfl)) (by simp only [AW7,simprocAttr]) ?_
 rintro rs o' obs' ⟨c,g,nn,⟨c1,c2⟩,rfl,rfl,ho⟩
 injection ho with ho1 ho2;subst ho1 ho2
 refine wF ?_;clear hK K
 refine Run.g fun K hK=>?_
 refine FunO.callCur hP hT (c_l5Word s c 5 om om) 0 0 (by first | rfl | (simp only [AW7,simprocAttr];done) | (simp only [AW7,simprocAttr];rfl)) (by simp only [AW7,simprocAttr];decide) ?_
 rintro rs o' obs' ⟨u,nn,hu,hul,rfl,rfl,ho⟩
 injection ho with ho1 ho2;subst ho1 ho2
 refine wF ?_;clear hK K
 refine Run.k [0,5,6,7] [0,1,2] ?_
 refine Run.g fun K hK=>?_
 refine FunO.callCur hP hT (c_l1Once s 2 (by decide) (by decide)) 0 0 (by first | rfl | (simp only [AW7,simprocAttr];done) | (simp only [AW7,simprocAttr];rfl)) (by simp only [AW7,simprocAttr]) ?_
 rintro rs o' obs' ⟨x,rfl,ho⟩
 injection ho with ho1 ho2;subst ho1 ho2
 refine wF ?_;clear hK K
 refine Run.k [5,6,7,18] [0,1,2] ?_
 apply jn12 (σ':=⟨37,[(5,true,.v (.own 0 0)),(6,true,.v (.own 1 0)),(7,true,.v (.own 2 0))],[.cur s 0,.arr (.row true) c 0 true,.arr .int u 0 true]⟩)
 case h=>
  intro rest
  refine Run.c ?_ ?_
  ·intro _
   refine Run.g fun K hK=>?_
   refine FunO.callCur hP hT (c_l5Word s c 4 om om) 0 0 (by first | rfl | (simp only [AW7,simprocAttr];done) | (simp only [AW7,simprocAttr];rfl)) (by simp only [AW7,simprocAttr];decide) ?_
   rintro rs o' obs' ⟨w,nn,hw,hwl,rfl,rfl,ho⟩
   injection ho with ho1 ho2;subst ho1 ho2
   refine wW ?_
   refine FunA.e hP hT (c_spec_ConjugateElement c u w om om) ?_
   refine wE ?_;clear hK K
   refine Run.k [5,6,7,8,9] [0,1,2,4] ?_
   refine Run.R ?_
   refine Run.c ?_ ?_
   ·intro _
    refine Run.R ?_
    refine Run.k [2,3,4] [1,2,3] ?_
    refine Run.l 0 [2,3,4] ?_
    refine Run.l 1 [2,3,4] ?_
    refine Run.l 2 [2,3,4] ?_
    refine Run.k [2,3,4] [] ?_
    refine Run.r [2,3,4] ?_
    exact⟨c,u,_,⟨c1,c2⟩,by omega,cjX_le c u w,rfl,rfl⟩
   intro _
   refine Run.k [5,6,7] [0,1,2] ?_
   refine Run.nq ?_
   exact rest
  intro _
  refine Run.k [5,6,7] [0,1,2] ?_
  refine Run.nq ?_
  exact rest
 refine Run.g fun K hK=>?_
 refine FunO.callCur hP hT (c_l5Word s c 5 om om) 0 0 (by first | rfl | (simp only [AW7,simprocAttr];done) | (simp only [AW7,simprocAttr];rfl)) (by simp only [AW7,simprocAttr];decide) ?_
 rintro rs o' obs' ⟨w,nn,hw,hwl,rfl,rfl,ho⟩
 injection ho with ho1 ho2;subst ho1 ho2
 refine wF ?_;clear hK K
 refine Run.k [2,3,4] [1,2,3] ?_
 refine Run.l 0 [2,3,4] ?_
 refine Run.l 1 [2,3,4] ?_
 refine Run.l 2 [2,3,4] ?_
 refine Run.k [2,3,4] [] ?_
 refine Run.r [2,3,4] ?_
 exact⟨c,u,w,⟨c1,c2⟩,by omega,by omega,rfl,rfl⟩
end Go.Proofs.YtcinngodeoidnaaGreatDoor
