/- Matrices that are drawn, and words. -/
import Derived.Test.YtcinngodeoidnaaGreatB10
set_option linter.unusedVariables false
set_option linter.unusedSimpArgs false
namespace Go.Proofs.YtcinngodeoidnaaGreat
open Go Go.Aw
def SqM (c:LL):Prop:=1<=c.length/\c.length<=4/\∀ r∈c,r.length=c.length
instance (c:LL):Decidable (SqM c):=by unfold SqM;infer_instance
theorem SqM.row {c:LL} (h:SqM c) {i:Nat} (hi:i < c.length):(c.getD i []).length=c.length:=by
 rw [gdE,geE hi]
 exact h.2.2 _ (List.getElem_mem hi)
theorem SqM.set1 {c:LL} (h:SqM c) (i j:Nat) (a:Int):SqM (set1 c i j a):=by
 have e:=set1_len c i j a
 refine⟨by rw [e];exact h.1,by rw [e];exact h.2.1,fun r hr=>?_⟩
 rw [e]
 obtain⟨k,hk,rfl⟩:=List.getElem_of_mem hr
 have hr:=set1_row c i j k a
 rw [gdE,geE hk]at hr
 simp only [Option.getD_some]at hr
 rw [hr]
 exact h.row om
def fN:List (List UInt8):=[[65,49],[65,50],[65,50],[65,51],[65,51],[66,50],[66,50],[66,51],[67,51],[71,50]]
def iN:List (List UInt8):=[[65,49,126],[65,50,126],[67,50,126],[71,50,126],[65,51,126],[68,52],[65,52]]
theorem fN_ok:∀ n∈fN,n∈tcN/\SqM (tcM n):=by decide
theorem iN_ok:∀ n∈iN,n∈tcN/\SqM (tcM n):=by decide
theorem sq_cartan {c:LL} (h:SqM c) (hb:∀ i∈List.range c.length,∀ j∈List.range c.length,¬((i=j/\ent c i j≠2)\/(i≠j/\(ent c i j < -3\/ent c i j > 0\/¬(ent c i j=0↔ent c j i=0))))):CartanP c:=
 ⟨h.1,h.2.1,fun i hi=>h.row hi,fun i j hi hj=>hb i (List.mem_range.2 hi) j (List.mem_range.2 hj)⟩
theorem fN_car:∀ n∈fN,(tcM n).length < 3->∀ i∈List.range (tcM n).length,∀ j∈List.range (tcM n).length,¬((i=j/\ent (tcM n) i j≠2)\/(i≠j/\(ent (tcM n) i j < -3\/ent (tcM n) i j > 0\/¬(ent (tcM n) i j=0↔ent (tcM n) j i=0)))):=by decide
def SqO (s:Value) (o:List O):Prop:=∃ hs c,SqM c/\o=[.cur s 0,.mat hs c 0 true]
theorem c_l2Finite (s:Value):FunO B 133 [.own 0 0] (.cur s 0) (fun rs o=>rs=[.own 1 0]/\SqO s o):=by
 refine FunO.walk B_ok (fn:=Tryz.f133) (fun vs w=>Tryz.call133 vs w) Tryz.func133 rfl (by rw [Tryz.ntmps133];simp) (fun C hC hP hT hΓ hbt hfn hpin hfin=>?_);have hX:=BX;rw [<- hΓ,<- hbt.1,<- hbt.2.1,<- hbt.2.2.1,<- hbt.2.2.2.2]at hX;rw [hT]at hX;rw [Tryz.ntmps133];simp only [AW7,simprocAttr,hX]
 refine Run.R ?_
 refine Run.g fun K hK=>?_
 refine⟨by simp [maxLen],?_⟩
 refine FunO.callCur hP hT (c_l1Pick s fN (by decide) (by decide)) 0 0 (by first | rfl | (simp only [AW7,simprocAttr];done) | (simp only [AW7,simprocAttr];rfl)) (by simp only [AW7,simprocAttr];exact⟨by decide,rfl⟩) ?_
 rintro rs o' obs' ⟨nm,rfl,hnm,ho⟩
 injection ho with ho1 ho2;subst ho1 ho2
 obtain⟨hm,hsq⟩:=fN_ok nm hnm
 have hcar:=fN_car nm hnm
 refine wW ?_
 refine FunA.cW hP hT (c_TypeCartan nm hm) ?_
 rintro rs o ⟨rfl,hs,rfl⟩
 refine wF ?_;clear hK K
 refine Run.kp [0,3] [0,2] ?_
 by_cases h3:(tcM nm).length < 3
 ·have hd:decide (((tcM nm).length:Int) < 3)=true:=by rw [dtE];omega
  have hca:CartanP (tcM nm):=sq_cartan hsq (hcar h3)
  have hcb:CartanP (tcM [65,49]):=sq_cartan (fN_ok [65,49] (by decide)).2 (fN_car [65,49] (by decide) (by decide))
  have hl1:(tcM [65,49]).length=1:=by decide
  refine Run.g fun K hK=>?_
  rw [hd]
  refine .inr ⟨rfl,?_⟩
  refine FunO.callCur hP hT (c_l1Once s 4 (by decide) (by decide)) 0 0 (by first | rfl | (simp only [AW7,simprocAttr];done) | (simp only [AW7,simprocAttr];rfl)) (by simp only [AW7,simprocAttr]) ?_
  rintro rs o' obs' ⟨x,rfl,ho⟩
  injection ho with ho1 ho2;subst ho1 ho2
  refine wF ?_;clear hK K
  refine Run.kp [0,3,22] [0,1] ?_
  refine Run.c ?_ ?_
  ·intro hx
   refine Run.g fun K hK=>?_
   refine FunA.cW hP hT (c_TypeCartan [65,49] (by decide)) ?_
   rintro rs o ⟨rfl,hs1,rfl⟩
   refine wF ?_;clear hK K
   refine Run.g fun K hK=>?_
   refine FunA.cW hP hT (c_JoinCartans (tcM nm) (tcM [65,49]) hca hcb om) ?_
   rintro rs o ⟨rfl,hs2,rows,rfl,hr1,hr2⟩
   refine wF ?_;clear hK K
   refine Run.R ?_
   refine Run.kp [0,2] [0,3] ?_
   refine Run.rW [2] (hfin _ _ _ rfl rfl ⟨rfl,rfl⟩ ?_)
   exact⟨rfl,hs2,rows,⟨by omega,by omega,fun r hr=>by rw [hr2 r hr,hr1]⟩,rfl⟩
  intro hx
  refine Run.R ?_
  refine Run.kp [0,2] [0,1] ?_
  refine Run.rW [2] (hfin _ _ _ rfl rfl ⟨rfl,rfl⟩ ?_)
  exact⟨rfl,hs,_,hsq,rfl⟩
 have hd:decide (((tcM nm).length:Int) < 3)=false:=by rw [dfE];omega
 refine Run.g fun K hK=>?_
 rw [hd]
 refine .inl (CallG.off (.bool false) ?_)
 refine wF ?_;clear hK K
 refine Run.c ?_ ?_
 ·intro h;exact absurd h (by simp)
 intro _
 refine Run.R ?_
 refine Run.kp [0,2] [0,1] ?_
 refine Run.rW [2] (hfin _ _ _ rfl rfl ⟨rfl,rfl⟩ ?_)
 exact⟨rfl,hs,_,hsq,rfl⟩
theorem c_l2Infinite (s:Value):FunO B 179 [.own 0 0] (.cur s 0) (fun rs o=>rs=[.own 1 0]/\SqO s o):=by
 refine FunO.walk B_ok (fn:=Tryz.f179) (fun vs w=>Tryz.call179 vs w) Tryz.func179 rfl (by rw [Tryz.ntmps179];simp) (fun C hC hP hT hΓ hbt hfn hpin hfin=>?_);have hX:=BX;rw [<- hΓ,<- hbt.1,<- hbt.2.1,<- hbt.2.2.1,<- hbt.2.2.2.2]at hX;rw [hT]at hX;rw [Tryz.ntmps179];simp only [AW7,simprocAttr,hX]
 refine Run.R ?_
 refine Run.g fun K hK=>?_
 refine⟨by simp [maxLen],?_⟩
 refine FunO.callCur hP hT (c_l1Pick s iN (by decide) (by decide)) 0 0 (by first | rfl | (simp only [AW7,simprocAttr];done) | (simp only [AW7,simprocAttr];rfl)) (by simp only [AW7,simprocAttr];exact⟨by decide,rfl⟩) ?_
 rintro rs o' obs' ⟨nm,rfl,hnm,ho⟩
 injection ho with ho1 ho2;subst ho1 ho2
 obtain⟨hm,hsq⟩:=iN_ok nm hnm
 have hl:=hsq.1
 have hl4:=hsq.2.1
 refine wW ?_
 refine FunA.cW hP hT (c_TypeCartan nm hm) ?_
 rintro rs o ⟨rfl,hs,rfl⟩
 refine wF ?_;clear hK K
 refine Run.kp [0,3] [0,2] ?_
 refine Run.g fun K hK=>?_
 refine FunO.callCur hP hT (c_l1Once s 3 (by decide) (by decide)) 0 0 (by first | rfl | (simp only [AW7,simprocAttr];done) | (simp only [AW7,simprocAttr];rfl)) (by simp only [AW7,simprocAttr]) ?_
 rintro rs o' obs' ⟨x,rfl,ho⟩
 injection ho with ho1 ho2;subst ho1 ho2
 refine wF ?_;clear hK K
 refine Run.kp [0,3,15] [0,1] ?_
 refine Run.c ?_ ?_
 rotate_left
 ·intro _
  refine Run.R ?_
  refine Run.kp [0,2] [0,1] ?_
  refine Run.rW [2] (hfin _ _ _ rfl rfl ⟨rfl,rfl⟩ ?_)
  exact⟨rfl,hs,_,hsq,rfl⟩
 intro _
 refine Run.g fun K hK=>?_
 refine FunO.callCur hP hT (c_l1Below s (tcM nm).length om om) 0 0 (by first | rfl | (simp only [AW7,simprocAttr];done) | (simp only [AW7,simprocAttr];rfl)) (by simp only [AW7,simprocAttr]) ?_
 rintro rs o' obs' ⟨i,rfl,i0,i1,ho⟩
 injection ho with ho1 ho2;subst ho1 ho2
 have i1:=i1 om
 refine wF ?_;clear hK K
 refine Run.g fun K hK=>?_
 refine FunO.callCur hP hT (c_l1Below s (tcM nm).length om om) 0 0 (by first | rfl | (simp only [AW7,simprocAttr];done) | (simp only [AW7,simprocAttr];rfl)) (by simp only [AW7,simprocAttr]) ?_
 rintro rs o' obs' ⟨j,rfl,j0,j1,ho⟩
 injection ho with ho1 ho2;subst ho1 ho2
 have j1:=j1 om
 refine wF ?_;clear hK K
 refine Run.kp [0,3,5,6] [0,1] ?_
 refine Run.R ?_
 refine Run.c ?_ ?_
 rotate_left
 ·intro _
  refine Run.R ?_
  refine Run.kp [0,2] [0,1] ?_
  refine Run.rW [2] (hfin _ _ _ rfl rfl ⟨rfl,rfl⟩ ?_)
  exact⟨rfl,hs,_,hsq,rfl⟩
 intro _
 obtain⟨i,rfl⟩:∃ k:Nat,i=k:=⟨i.toNat,by omega⟩
 obtain⟨j,rfl⟩:∃ k:Nat,j=k:=⟨j.toNat,by omega⟩
 refine Run.g fun K hK=>?_
 refine FunO.callCur hP hT (c_l1Below s 3 (by decide) (by decide)) 0 0 (by first | rfl | (simp only [AW7,simprocAttr];done) | (simp only [AW7,simprocAttr];rfl)) (by simp only [AW7,simprocAttr]) ?_
 rintro rs o' obs' ⟨p,rfl,p0,p1,ho⟩
 injection ho with ho1 ho2;subst ho1 ho2
 have p1:=p1 om
 refine wWW ?_
 refine FunO.callCur hP hT (c_l1Below s 3 (by decide) (by decide)) 0 0 (by first | rfl | (simp only [AW7,simprocAttr];done) | (simp only [AW7,simprocAttr];rfl)) (by simp only [AW7,simprocAttr]) ?_
 rintro rs o' obs' ⟨q,rfl,q0,q1,ho⟩
 injection ho with ho1 ho2;subst ho1 ho2
 have q1:=q1 om
 refine wWW ?_
 have hri:=hsq.row (i:=i) om
 have hrj:=hsq.row (i:=j) om
 refine FunA.cW hP hT (c_l2Set (tcM nm) i j (-1 - p) (-1 - q) om (fun r hr=>by rw [hsq.2.2 r hr];omega) om om om om) ?_
 rintro rs o ⟨rfl,hs2,rfl⟩
 refine wF ?_;clear hK K
 refine Run.kp [0,2] [0,2] ?_
 refine Run.rW [2] (hfin _ _ _ rfl rfl ⟨rfl,rfl⟩ ?_)
 refine⟨rfl,hs2,_,?_,rfl⟩
 exact(hsq.set1 i j (-1 - p)).set1 j i (-1 - q)
theorem c_l2Drawn (s:Value):FunO B 142 [.own 0 0] (.cur s 0) (fun rs o=>rs=[.own 1 0]/\SqO s o):=by
 refine FunO.walk B_ok (fn:=Tryz.f142) (fun vs w=>Tryz.call142 vs w) Tryz.func142 rfl (by rw [Tryz.ntmps142];simp) (fun C hC hP hT hΓ hbt hfn hpin hfin=>?_);have hX:=BX;rw [<- hΓ,<- hbt.1,<- hbt.2.1,<- hbt.2.2.1,<- hbt.2.2.2.2]at hX;rw [hT]at hX;rw [Tryz.ntmps142];simp only [AW7,simprocAttr,hX]
 refine Run.R ?_
 refine Run.g fun K hK=>?_
 refine FunO.callCur hP hT (c_l1Once s 3 (by decide) (by decide)) 0 0 (by first | rfl | (simp only [AW7,simprocAttr];done) | (simp only [AW7,simprocAttr];rfl)) (by simp only [AW7,simprocAttr]) ?_
 rintro rs o' obs' ⟨x,rfl,ho⟩
 injection ho with ho1 ho2;subst ho1 ho2
 refine wF ?_;clear hK K
 refine Run.c ?_ ?_
 ·intro _
  refine Run.g fun K hK=>?_
  refine FunO.callCur hP hT (c_l2Infinite s) 0 0 (by first | rfl | (simp only [AW7,simprocAttr];done) | (simp only [AW7,simprocAttr];rfl)) (by simp only [AW7,simprocAttr]) ?_
  rintro rs o' obs' ⟨rfl,hs,c,hsq,ho⟩
  injection ho with ho1 ho2;subst ho1 ho2
  refine wF ?_;clear hK K
  refine Run.rW [2] (hfin _ _ _ rfl rfl ⟨rfl,rfl⟩ ?_)
  exact⟨rfl,hs,c,hsq,rfl⟩
 intro _
 refine Run.g fun K hK=>?_
 refine FunO.callCur hP hT (c_l2Finite s) 0 0 (by first | rfl | (simp only [AW7,simprocAttr];done) | (simp only [AW7,simprocAttr];rfl)) (by simp only [AW7,simprocAttr]) ?_
 rintro rs o' obs' ⟨rfl,hs,c,hsq,ho⟩
 injection ho with ho1 ho2;subst ho1 ho2
 refine wF ?_;clear hK K
 refine Run.rW [2] (hfin _ _ _ rfl rfl ⟨rfl,rfl⟩ ?_)
 exact⟨rfl,hs,c,hsq,rfl⟩
theorem c_l5Word (s:Value) (c:LL) (m:Nat) (hc:c.length<=100) (hm:m<=100):FunO B 103 [.own 0 0,.sl false (.row false) c,.int .i64 m] (.cur s 0) (fun rs o=>∃ w nn,(∀ k∈w,0<=k/\(0 < c.length->k < (c.length:Int)))/\w.length<=m/\nn=true/\rs=[.own 1 0]/\o=[.cur s 0,.arr .int w 0 nn]):=by
 refine FunO.walk B_ok (fn:=Tryz.f103) (fun vs w=>Tryz.call103 vs w) Tryz.func103 rfl (by rw [Tryz.ntmps103];simp) (fun C hC hP hT hΓ hbt hfn hpin hfin=>?_);have hX:=BX;rw [<- hΓ,<- hbt.1,<- hbt.2.1,<- hbt.2.2.1,<- hbt.2.2.2.2]at hX;rw [hT]at hX;rw [Tryz.ntmps103];simp only [AW7,simprocAttr,hX]
 refine Run.R ?_
 refine Run.R ?_
 refine Run.nq ?_;refine Run.regionW hC (fun K hK=>?_);refine wWW ?_
 refine FunO.callCur hP hT (c_l1Below s (m+1) om om) 0 0 (by first | rfl | (simp only [AW7,simprocAttr];done) | (simp only [AW7,simprocAttr];rfl)) (by simp only [AW7,simprocAttr]) ?_
 rintro rs o' obs' ⟨x,rfl,x0,x1,ho⟩
 injection ho with ho1 ho2;subst ho1 ho2
 have x1:=x1 om
 refine wF ?_;clear hK K
 obtain⟨x,rfl⟩:∃ k:Nat,x=k:=⟨x.toNat,by omega⟩
 refine Run.kp [0,1,7,8] [0,1] ?_
 refine Run.loopI (X:=List Int×Nat) (fun y=>⟨27,[(0,true,.v (.own 0 0)),(1,true,.v (.sl false (.row false) c)),(7,true,.v (.own 1 0)),(8,true,.v (.int .i64 (y.2)))],[.cur s 0,.arr .int (y.1) 0 true]⟩) (fun y=>y.1.length+y.2<=m/\(∀ k∈y.1,0<=k/\(0 < c.length->k < (c.length:Int)))) (fun y=>y.2) (([],x)) (⟨by simp;omega,by simp⟩) ?_ ?_
 ·exact Le.s
 rintro⟨w,n⟩ ⟨hwl,hw⟩ ih
 try simp only []
 simp only []at hwl hw
 refine Run.R ?_
 refine Run.c ?_ ?_
 rotate_left
 ·intro _
  refine Run.x ?_
  refine Run.R ?_
  refine Run.kp [0,6] [0,1] ?_
  refine Run.rW [6] (hfin _ _ _ rfl rfl ⟨rfl,rfl⟩ ?_)
  exact⟨w,true,hw,by omega,rfl,rfl,rfl⟩
 intro h
 have h:0 < n:=by rw [dtE]at h;omega
 refine Run.g fun K hK=>?_
 have hb:-1000<=(if (c.length:Int) > 1 then(c.length:Int)else 1)/\(if (c.length:Int) > 1 then(c.length:Int)else 1)<=256:=by split<;>omega
 have hb2:0 < c.length->(if (c.length:Int) > 1 then(c.length:Int)else 1)<=c.length:=by intro h;split<;>omega
 have hb3:0 < (if (c.length:Int) > 1 then(c.length:Int)else 1):=by split<;>omega
 refine FunO.callCur hP hT (c_l1Below s _ hb.1 hb.2) 0 0 (by first | rfl | (simp only [AW7,simprocAttr];done) | (simp only [AW7,simprocAttr];rfl)) (by simp only [AW7,simprocAttr]) ?_
 rintro rs o' obs' ⟨v,rfl,v0,v1,ho⟩
 injection ho with ho1 ho2;subst ho1 ho2
 have v1:=v1 hb3
 generalize (if (c.length:Int) > 1 then(c.length:Int)else 1)=z at *
 refine wF ?_;clear hK K
 have e:(n:Int) - 1=((n - 1:Nat):Int):=by omega
 have hw2:∀ k∈w ++ [v],0<=k/\(0 < c.length->k < (c.length:Int)):=by
  intro k hk
  rw [List.mem_append,List.mem_singleton]at hk
  rcases hk with hk | rfl
  ·exact hw k hk
  ·exact⟨v0,fun h=>by have:=hb2 h;omega⟩
 refine Run.kp [0,1,7,8] [0,1] ?_
 refine Run.RW ?_
 rw [e]
 exact Run.j (ih ((w ++ [v],n - 1)) (⟨by simp;omega,hw2⟩) mz)
theorem c_l2Any (s:Value):FunO B 105 [.own 0 0] (.cur s 0) (fun rs o=>∃ c g nn,(1<=c.length/\c.length<=5)/\nn=true/\rs=[.own 1 g]/\o=[.cur s 0,.arr (.row true) c g nn]):=by
 refine FunO.walk B_ok (fn:=Tryz.f105) (fun vs w=>Tryz.call105 vs w) Tryz.func105 rfl (by rw [Tryz.ntmps105];simp) (fun C hC hP hT hΓ hbt hfn hpin hfin=>?_);have hX:=BX;rw [<- hΓ,<- hbt.1,<- hbt.2.1,<- hbt.2.2.1,<- hbt.2.2.2.2]at hX;rw [hT]at hX;rw [Tryz.ntmps105];simp only [AW7,simprocAttr,hX]
 refine Run.R ?_
 refine Run.g fun K hK=>?_
 refine FunO.callCur hP hT (c_l2Drawn s) 0 0 (by first | rfl | (simp only [AW7,simprocAttr];done) | (simp only [AW7,simprocAttr];rfl)) (by simp only [AW7,simprocAttr]) ?_
 rintro rs o' obs' ⟨rfl,hs,c,hsq,ho⟩
 injection ho with ho1 ho2;subst ho1 ho2
 have hl:=hsq.1
 have hl4:=hsq.2.1
 refine wF ?_;clear hK K
 refine Run.g fun K hK=>?_
 refine FunO.callCur hP hT (c_l1Once s 12 (by decide) (by decide)) 0 0 (by first | rfl | (simp only [AW7,simprocAttr];done) | (simp only [AW7,simprocAttr];rfl)) (by simp only [AW7,simprocAttr]) ?_
 rintro rs o' obs' ⟨x,rfl,ho⟩
 injection ho with ho1 ho2;subst ho1 ho2
 refine wF ?_;clear hK K
 refine Run.kp [0,3,8] [0,1] ?_
 refine Run.c ?_ ?_
 rotate_left
 ·intro _
  refine Run.R ?_
  refine Run.kp [0,2] [0,1] ?_
  refine Run.unmat hC 1 rfl ?_
  simp only [AW7,simprocAttr]
  refine Run.rW [2] (hfin _ _ _ rfl rfl ⟨rfl,rfl⟩ ?_)
  exact⟨c,0,true,⟨by omega,by omega⟩,rfl,rfl,rfl⟩
 intro _
 refine Run.g fun K hK=>?_
 refine FunO.callCur hP hT (c_l1Below s c.length om om) 0 0 (by first | rfl | (simp only [AW7,simprocAttr];done) | (simp only [AW7,simprocAttr];rfl)) (by simp only [AW7,simprocAttr]) ?_
 rintro rs o' obs' ⟨i,rfl,i0,i1,ho⟩
 injection ho with ho1 ho2;subst ho1 ho2
 have i1:=i1 om
 obtain⟨i,rfl⟩:∃ k:Nat,i=k:=⟨i.toNat,by omega⟩
 have hrow:=hsq.row (i:=i) om
 refine wF ?_;clear hK K
 refine Run.kp [0,3,4] [0,1] ?_
 refine Run.matfact 1 rfl fun hl0 hd hz=>?_
 obtain⟨q1,e1,m1,x1⟩:=mat_head hl0 hd hz (i:=i) om om
 have hq:c.length=(c.getD (hs.idxOf (some q1)) []).length:=by rw [x1];exact hrow.symm
 refine Run.g fun K hK=>?_
 rw [e1,hrow,Q_src_cur m1 hq,x1]
 simp only [AW7,simprocAttr,hX]
 refine⟨by simp only [lenN];omega,⟨by omega,by omega⟩,fun h0=>?_⟩
 refine wE ?_;clear hK K
 have hcc:c.set i (c.getD i [])=c:=by
  have hi:i < c.length:=by omega
  apply List.ext_getElem?
  intro j
  by_cases hj:i=j
  ·subst hj;rw [List.getElem?_set_self hi,gdE,geE hi];rfl
  ·rw [List.getElem?_set_ne hj]
 rw [hcc]
 generalize hs.set i (some h0)=hs2 at *
 refine Run.kp [0,3,4] [0,1] ?_
 refine Run.g fun K hK=>?_
 refine FunO.callCur hP hT (c_l1Below s 3 (by decide) (by decide)) 0 0 (by first | rfl | (simp only [AW7,simprocAttr];done) | (simp only [AW7,simprocAttr];rfl)) (by simp only [AW7,simprocAttr]) ?_
 rintro rs o' obs' ⟨z,rfl,z0,z1,ho⟩
 injection ho with ho1 ho2;subst ho1 ho2
 refine wF ?_;clear hK K
 refine Run.kp [0,3,4,23] [0,1] ?_
 refine Run.R ?_
 refine Run.c ?_ ?_
 ·intro _
  refine Run.matfact 1 rfl fun hl0 hd hz=>?_
  obtain⟨q2,e2,m2,x2⟩:=mat_head hl0 hd hz (i:=i) om om
  have hq2:0 < (c.getD (hs2.idxOf (some q2)) []).length:=by rw [x2];omega
  refine Run.nq ?_;refine Run.regionD hC true [0,1,2,3,4,5,6,7,8] (by kernel_rfl) (fun K hK=>?_);simp only [AW7,simprocAttr,hX];(repeat(with_reducible refine And.intro ?_ ?_);exact vc0)
  refine FunO.callCurD hP hT (c_l1PickInt s [-4,1,0,2] (by decide) (by decide)) 0 0 (by first | rfl | (simp only [AW7,simprocAttr];done) | (simp only [AW7,simprocAttr];rfl)) (fun _ _ ⟨_,_,_,h⟩=>h) (by simp only [AW7,simprocAttr];first | done | decide | exact⟨by decide,rfl⟩) ?_
  rintro rs ⟨v,rfl,hv,_⟩
  rw [e2]
  simp only [AW7,simprocAttr,hX]
  refine⟨by omega,⟨m2,hq2⟩,?_⟩
  refine hK _ ?_;clear hK K;refine Run.nq ?_
  refine Run.R ?_
  refine Run.kp [0,2] [0,1] ?_
  refine Run.unmat hC 1 rfl ?_
  simp only [AW7,simprocAttr]
  refine Run.rW [2] (hfin _ _ _ rfl rfl ⟨rfl,rfl⟩ ?_)
  refine⟨_,0,true,⟨?_,?_⟩,rfl,rfl,rfl⟩<;>simp only [setM,List.length_set]<;>omega
 intro _
 refine Run.R ?_
 refine Run.c ?_ ?_
 ·intro _
  refine Run.unmat hC 1 rfl ?_
  simp only [AW7,simprocAttr]
  refine Run.R ?_
  refine Run.R ?_
  refine Run.kp [0,2] [0,1] ?_
  refine Run.rW [2] (hfin _ _ _ rfl rfl ⟨rfl,rfl⟩ ?_)
  refine⟨_,0,true,⟨?_,?_⟩,rfl,rfl,rfl⟩<;>simp<;>omega
 intro _
 refine Run.R ?_
 refine Run.c ?_ ?_
 ·intro _
  refine Run.unmat hC 1 rfl ?_
  simp only [AW7,simprocAttr]
  refine Run.g fun K hK=>?_
  refine fun l hl=>⟨by simp only [List.map_cons,List.map_nil,lenC,lenN];omega,?_⟩
  refine wE ?_;clear hK K
  refine Run.R ?_
  refine Run.kp [0,2] [0,1] ?_
  refine Run.rW [2] (hfin _ _ _ rfl rfl ⟨rfl,rfl⟩ ?_)
  refine⟨_,0,true,⟨?_,?_⟩,rfl,rfl,rfl⟩<;>simp<;>omega
 intro _
 refine Run.R ?_
 refine Run.kp [0,2] [0,1] ?_
 refine Run.unmat hC 1 rfl ?_
 simp only [AW7,simprocAttr]
 refine Run.rW [2] (hfin _ _ _ rfl rfl ⟨rfl,rfl⟩ ?_)
 exact⟨c,0,true,⟨by omega,by omega⟩,rfl,rfl,rfl⟩
open Go.Cox
abbrev matA (c:LL):Mat:=fun k i=>ent c k i
def vecL (v:LI):Vec:=fun k=>v.getD k 0
theorem matA_cartan {c:LL} (h:CartanP c):Cartan (matA c) c.length where
 diag:=fun i hi=>by
  have:=h.2.2.2 i i hi hi
  unfold badE at this
  exact Classical.byContradiction fun hn=>this (.inl ⟨rfl,hn⟩)
 nonpos:=fun i j hi hj hij=>by
  have:=h.2.2.2 i j hi hj
  unfold badE at this
  exact Classical.byContradiction fun hn=>this (.inr ⟨hij,.inr (.inl (by show ent c i j > 0;have:¬ent c i j<=0:=hn;omega))⟩)
 zero:=fun i j hi hj hz=>by
  by_cases hij:i=j
  ·subst hij;exact hz
  ·have:=h.2.2.2 i j hi hj
   unfold badE at this
   have h2:ent c i j=0↔ent c j i=0:=Classical.byContradiction fun hn=>this (.inr ⟨hij,.inr (.inr hn)⟩)
   exact h2.1 hz
theorem ent_le {c:LL} (h:CartanP c) (i j:Nat) (hi:i < c.length) (hj:j < c.length):-3<=ent c i j/\ent c i j<=2:=by
 have hA:=matA_cartan h
 by_cases hij:i=j
 ·subst hij
  have:ent c i i=2:=hA.diag i hi
  omega
 ·have h1:ent c i j<=0:=hA.nonpos i j hi hj hij
  have:=h.2.2.2 i j hi hj
  unfold badE at this
  have h2:¬ent c i j < -3:=fun hn=>this (.inr ⟨hij,.inl hn⟩)
  omega
def reflL (c:LL) (i:Int) (v:LI):List Int:=(List.range v.length).map fun k=>v.getD k 0 - v.getD i.toNat 0*ent c k i.toNat
theorem reflL_length (c:LL) (i:Int) (v:LI):(reflL c i v).length=v.length:=by simp [reflL]
theorem reflL_get (c:LL) (i:Int) (v:LI) (k:Nat) (hk:k < v.length):(reflL c i v).getD k 0=v.getD k 0 - v.getD i.toNat 0*ent c k i.toNat:=by
 simp [reflL,gdE,hk]
theorem vec_refl {c:LL} {v:LI} (hv:v.length=c.length) (i:Int):vecL (reflL c i v)=refl (matA c) i.toNat (vecL v):=by
 funext k
 show(reflL c i v).getD k 0=v.getD k 0 - v.getD i.toNat 0*ent c k i.toNat
 by_cases hk:k < v.length
 ·exact reflL_get c i v k hk
 ·have h1:(reflL c i v).getD k 0=0:=by
   rw [gdE,geN (by rw [reflL_length];omega)];rfl
  have h2:v.getD k 0=0:=by rw [gdE,geN om];rfl
  have h3:ent c k i.toNat=0:=by
   have:c.getD k []=[]:=by rw [gdE,geN om];rfl
   simp only [ent,this]
   simp
  rw [h1,h2,h3]
  simp
def actL (c:LL) (w:LI) (v:LI):List Int:=w.foldr (reflL c) v
theorem actL_length (c:LL) (v:LI):∀ w,(actL c w v).length=v.length
 | []=>rfl
 | i :: w=>by show(reflL c i (actL c w v)).length=_;rw [reflL_length,actL_length c v w]
def nat (w:LI):List Nat:=w.map Int.toNat
theorem vec_act {c:LL} {v:LI} (hv:v.length=c.length):∀ w,vecL (actL c w v)=act (matA c) (nat w) (vecL v)
 | []=>rfl
 | i :: w=>by
  show vecL (reflL c i (actL c w v))=refl (matA c) i.toNat (act (matA c) (nat w) (vecL v))
  rw [vec_refl (by rw [actL_length,hv]),vec_act hv w]
theorem actL_append (c:LL) (a b v:LI):actL c (a ++ b) v=actL c a (actL c b v):=by simp [actL,List.foldr_append]
def letters (n:Nat) (w:LI):Prop:=∀ i∈w,0<=i/\i < n
theorem letters_nat {n:Nat} {w:LI} (h:letters n w):∀ i∈nat w,i < n:=by
 intro i hi
 obtain⟨x,hx,rfl⟩:=List.mem_map.1 hi
 have:=h x hx
 omega
def ones (n:Nat):List Int:=List.replicate n 1
theorem ones_length (n:Nat):(ones n).length=n:=by simp [ones]
theorem vec_ones (n:Nat):∀ i,i < n->0 < vecL (ones n) i:=by
 intro i hi
 simp [vecL,ones,gdE,hi]
theorem vec_inj {a b:LI} (h:a.length=b.length) (hv:vecL a=vecL b):a=b:=by
 apply List.ext_getElem?
 intro i
 by_cases hi:i < a.length
 ·have:=congrFun hv i
  simp only [vecL,gdE,geE hi,geE (show i < b.length by omega),Option.getD_some]at this
  rw [geE hi,geE om,this]
 ·rw [geN om,geN om]
def imageL (c:LL) (w:LI):List Int:=actL c w (ones c.length)
theorem imageL_length (c:LL) (w:LI):(imageL c w).length=c.length:=by rw [imageL,actL_length,ones_length]
def Bd (M:Int) (v:LI):Prop:=∀ k,-M<=v.getD k 0/\v.getD k 0<=M
theorem Bd.refl {c:LL} (hc:CartanP c) {v:LI} (hv:v.length=c.length) {M:Int} (h:Bd M v) {i:Int} (hi:0<=i/\i < c.length):Bd (4*M) (reflL c i v):=by
 intro k
 have h0:=h k
 by_cases hk:k < v.length
 ·rw [reflL_get c i v k hk]
  have h1:=h i.toNat
  have h2:=ent_le hc k i.toNat om om
  generalize v.getD i.toNat 0=x at *
  generalize ent c k i.toNat=e at *
  have h3:-(3*M)<=x*e/\x*e<=3*M:=by
   have he:e = -3\/e = -2\/e = -1\/e=0\/e=1\/e=2:=by omega
   rcases he with rfl | rfl | rfl | rfl | rfl | rfl<;>omega
  omega
 ·rw [gdE,geN (by rw [reflL_length];omega)]
  simp only [Option.getD_none]
  omega
theorem Bd.ones (n:Nat):Bd 1 (ones n):=by
 intro k
 simp only [Go.Proofs.YtcinngodeoidnaaGreat.ones,gdE,List.getElem?_replicate]
 split<;>simp
theorem Bd.mono {M N:Int} (h:M<=N) {v:LI} (k:Bd M v):Bd N v:=fun i=>by have:=k i;omega
theorem Bd.image {c:LL} (hc:CartanP c):∀(w:LI),letters c.length w->Bd (4 ^ w.length) (imageL c w)
 | [],_=>by simpa [imageL,actL] using Bd.ones c.length
 | i :: w,h=>by
  have:=(Bd.image hc w (fun i hi=>h i (mcM _ hi))).refl hc (imageL_length c w) (h i (mcS ..))
  have e:(4:Int) ^ (i :: w).length=4*4 ^ w.length:=by rw [lenC,Int.pow_succ];omega
  rw [e]
  exact this
theorem pow4_le {a b:Nat} (h:a<=b):(4:Int) ^ a<=4 ^ b:=by
 induction b with
 | zero=>have:a=0:=by omega
         subst this;exact Int.le_refl _
 | succ b ih=>
  by_cases hab:a=b+1
  ·subst hab;exact Int.le_refl _
  ·have h1:=ih om
   have h2:(0:Int) < 4 ^ b:=Int.pow_pos (by decide)
   rw [Int.pow_succ]
   omega
def firstNeg (v:LI):Nat->Int
 | 0=>-1
 | n+1=>if firstNeg v n < 0 then(if v.getD n 0 < 0 then(n:Int)else -1)else firstNeg v n
theorem firstNeg_spec (v:LI):∀ n,(firstNeg v n = -1/\∀ k,k < n->0<=v.getD k 0)\/∃ i:Nat,firstNeg v n=i/\i < n/\v.getD i 0 < 0/\∀ k,k < i->0<=v.getD k 0
 | 0=>.inl ⟨rfl,by omega⟩
 | n+1=>by
  simp only [firstNeg]
  rcases firstNeg_spec v n with⟨h1,h2⟩ | ⟨i,h1,h2,h3,h4⟩
  ·rw [if_pos om]
   by_cases h:v.getD n 0 < 0
   ·rw [if_pos h];exact .inr ⟨n,rfl,by omega,h,h2⟩
   ·rw [if_neg h]
    refine .inl ⟨rfl,fun k hk=>?_⟩
    rcases Nat.lt_succ_iff_lt_or_eq.1 hk with hk | rfl
    ·exact h2 k hk
    ·omega
  ·rw [if_neg om]
   exact .inr ⟨i,h1,by omega,h3,h4⟩
def fstN (v:LI):Int:=firstNeg v v.length
def nfL (c:LL):Nat->List Int->List Int
 | 0,_=>[]
 | f+1,v=>if fstN v < 0 then []else fstN v :: nfL c f (reflL c (fstN v) v)
def Far (c:LL) (L:Nat) (v:LI):Prop:=v.length=c.length/\∃ t,Play (matA c) c.length (vecL v) t (vecL (ones c.length))/\t.length=L
theorem dom_ones (c:LL):∀ i,i < c.length->0<=vecL (ones c.length) i:=fun i hi=>Int.le_of_lt (vec_ones c.length i hi)
theorem Far.uniq {c:LL} (hc:CartanP c) {L M:Nat} {v:LI} (h:Far c L v) (k:Far c M v):L=M:=by
 obtain⟨_,s,hs,rfl⟩:=h
 obtain⟨_,t,ht,rfl⟩:=k
 obtain⟨r,hr,hb⟩:=conv (matA_cartan hc) _ rfl hs (dom_ones c) ht
 obtain⟨q,hq,hb2⟩:=conv (matA_cartan hc) _ rfl ht (dom_ones c) hs
 have h1:=hb.length
 have h2:=hb2.length
 simp at h1 h2
 omega
theorem Far.nz {c:LL} (hc:CartanP c) {L:Nat} {v:LI} (h:Far c L v):∀ i,i < c.length->v.getD i 0≠0:=by
 obtain⟨_,s,hs,rfl⟩:=h
 exact nonzero (matA_cartan hc) _ rfl hs (vec_ones c.length)
theorem Far.down {c:LL} (hc:CartanP c) {L:Nat} {v:LI} (h:Far c L v) {i:Int} (hi:0<=i/\i < c.length) (hv:v.getD i.toNat 0 < 0):∃ M,L=M+1/\Far c M (reflL c i v):=by
 obtain⟨hl,s,hs,rfl⟩:=h
 obtain⟨t,ht,hb⟩:=conv (matA_cartan hc) _ rfl hs (dom_ones c) (Play.cons (show i.toNat < c.length by omega) hv (.nil _))
 have:=hb.length
 simp at this
 refine⟨t.length,this,by rw [reflL_length,hl],t,?_,rfl⟩
 rw [vec_refl hl]
 exact ht
theorem Far.up {c:LL} (hc:CartanP c) {L:Nat} {v:LI} (h:Far c L v) {i:Int} (hi:0<=i/\i < c.length) (hv:0 < v.getD i.toNat 0):Far c (L+1) (reflL c i v):=by
 obtain⟨hl,s,hs,rfl⟩:=h
 have hd:=(matA_cartan hc).diag i.toNat om
 refine⟨by rw [reflL_length,hl],i.toNat :: s,.cons om ?_ ?_,by simp⟩
 ·rw [vec_refl hl,refl_self hd]
  show -(v.getD i.toNat 0) < 0
  omega
 ·rw [vec_refl hl,refl_refl hd]
  exact hs
theorem Far.image {c:LL} (hc:CartanP c) {w:LI} (h:letters c.length w):∃ L,L<=w.length/\L % 2=w.length % 2/\Far c L (imageL c w):=by
 obtain⟨t,ht,hl,hm,_⟩:=back (matA_cartan hc) (vec_ones c.length) (nat w) (letters_nat h)
 have e:(nat w).length=w.length:=by simp [nat]
 refine⟨t.length,by omega,by omega,imageL_length c w,t,?_,rfl⟩
 rw [imageL,vec_act (ones_length _)]
 exact ht
theorem Far.zero {c:LL} {v:LI} (h:Far c 0 v):v=ones c.length:=by
 obtain⟨hl,s,hs,h0⟩:=h
 have:s=[]:=nilZ h0
 subst this
 have e:vecL (Go.Proofs.YtcinngodeoidnaaGreat.ones c.length)=vecL v:=hs.run
 exact vec_inj (by rw [ones_length,hl]) e.symm
theorem play_inv {A:Mat} {n i:Nat} {v u:Vec} {w:List Nat} (h:Play A n v (i :: w) u):i < n/\v i < 0:=by
 cases h with
 | cons hi hv _=>exact⟨hi,hv⟩
theorem Far.ones (c:LL):Far c 0 (ones c.length):=⟨ones_length _,[],.nil _,rfl⟩
theorem fst_of_far {c:LL} (hc:CartanP c) {L:Nat} {v:LI} (h:Far c L v):(fstN v = -1/\L=0)\/(0<=fstN v/\fstN v < c.length/\v.getD (fstN v).toNat 0 < 0/\∃ M,L=M+1/\Far c M (reflL c (fstN v) v)):=by
 have hl:=h.1
 rcases firstNeg_spec v v.length with⟨h1,h2⟩ | ⟨i,h1,h2,h3,_⟩
 ·refine .inl ⟨h1,?_⟩
  obtain⟨_,s,hs,rfl⟩:=h
  cases s with
  | nil=>rfl
  | cons i s=>
   obtain⟨hi,hv⟩:=play_inv hs
   have:=h2 i om
   exact absurd hv (by show ¬v.getD i 0 < 0;omega)
 ·have e:fstN v=i:=h1
  rw [e]
  refine .inr ⟨by omega,by omega,by simpa using h3,?_⟩
  exact h.down hc om (by simpa using h3)
theorem nfL_far {c:LL} (hc:CartanP c):∀(f L:Nat) {v:LI},Far c L v->L<=f->(nfL c f v).length=L/\letters c.length (nfL c f v)/\imageL c (nfL c f v)=v
 | 0,L,v,h,hf=>by
  have:L=0:=by omega
  subst this
  exact⟨rfl,by simp [nfL,letters],h.zero.symm▸rfl⟩
 | f+1,L,v,h,hf=>by
  simp only [nfL]
  rcases fst_of_far hc h with⟨h1,h2⟩ | ⟨h1,h2,h3,M,h4,h5⟩
  ·rw [if_pos om]
   subst h2
   exact⟨rfl,by simp [letters],h.zero.symm▸rfl⟩
  ·rw [if_neg om]
   obtain⟨k1,k2,k3⟩:=nfL_far hc f M h5 om
   refine⟨by simp [k1,h4],fun i hi=>?_,?_⟩
   ·rcases List.mem_cons.1 hi with rfl | hi
    ·exact⟨h1,h2⟩
    ·exact k2 i hi
   ·show reflL c (fstN v) (imageL c (nfL c f (reflL c (fstN v) v)))=v
    rw [k3]
    apply vec_inj (by rw [reflL_length,reflL_length])
    rw [vec_refl (by rw [reflL_length,h.1]),vec_refl h.1,refl_refl ((matA_cartan hc).diag _ om)]
theorem same_elt {c:LL} (hc:CartanP c) {a b:LI} (ha:letters c.length a) (hb:letters c.length b) (h:imageL c a=imageL c b) {v:LI} (hv:v.length=c.length):actL c a v=actL c b v:=by
 apply vec_inj (by rw [actL_length,actL_length])
 rw [vec_act hv,vec_act hv]
 refine faithful (matA_cartan hc) (vec_ones c.length) (letters_nat ha) (letters_nat hb) ?_ _
 rw [<- vec_act (ones_length _),<- vec_act (ones_length _)]
 exact congrArg vecL h
def redL (c:LL) (w:LI):List Int:=nfL c 31 (imageL c w)
theorem letters_nil (n:Nat):letters n []:=by simp [letters]
theorem letters_cons {n:Nat} {i:Int} {w:LI}:letters n (i :: w)↔(0<=i/\i < n)/\letters n w:=by simp [letters]
theorem letters_append {n:Nat} {a b:LI}:letters n (a ++ b)↔letters n a/\letters n b:=by
 simp only [letters,List.mem_append]
 constructor
 ·intro h;exact⟨fun i hi=>h i (.inl hi),fun i hi=>h i (.inr hi)⟩
 ·rintro⟨h1,h2⟩ i (hi | hi)
  ·exact h1 i hi
  ·exact h2 i hi
theorem letters_reverse {n:Nat} {a:LI} (h:letters n a):letters n a.reverse:=fun i hi=>h i (by simpa using hi)
theorem red_spec {c:LL} (hc:CartanP c) {w:LI} (hw:letters c.length w) (hl:w.length<=31) :
  letters c.length (redL c w)/\(redL c w).length<=w.length/\(redL c w).length % 2=w.length % 2/\imageL c (redL c w)=imageL c w/\Far c (redL c w).length (imageL c w):=by
 obtain⟨L,h1,h2,h3⟩:=Far.image hc hw
 obtain⟨k1,k2,k3⟩:=nfL_far hc 31 L h3 om
 have e:(redL c w).length=L:=k1
 exact⟨k2,by omega,by omega,k3,by rw [e];exact h3⟩
theorem red_eq {c:LL} {a b:LI} (h:imageL c a=imageL c b):redL c a=redL c b:=by unfold redL;rw [h]
def Red (c:LL) (w:LI):Prop:=letters c.length w/\Far c w.length (imageL c w)
theorem red_Red {c:LL} (hc:CartanP c) {w:LI} (hw:letters c.length w) (hl:w.length<=31):Red c (redL c w):=by
 obtain⟨h1,_,_,h4,h5⟩:=red_spec hc hw hl
 exact⟨h1,by rw [h4];exact h5⟩
theorem Red.nil (c:LL):Red c []:=⟨letters_nil _,Far.ones c⟩
theorem image_cons (c:LL) (i:Int) (w:LI):imageL c (i :: w)=reflL c i (imageL c w):=rfl
theorem image_append (c:LL) (a b:LI):imageL c (a ++ b)=actL c a (imageL c b):=actL_append c a b _
theorem refl2 {c:LL} (hc:CartanP c) {i:Int} (hi:0<=i/\i < c.length) {v:LI} (hv:v.length=c.length):reflL c i (reflL c i v)=v:=by
 apply vec_inj (by rw [reflL_length,reflL_length])
 rw [vec_refl (by rw [reflL_length,hv]),vec_refl hv,refl_refl ((matA_cartan hc).diag _ om)]
theorem act_rev {c:LL} (hc:CartanP c):∀(w:LI),letters c.length w->∀ {v:LI},v.length=c.length->actL c w.reverse (actL c w v)=v
 | [],_,_,_=>rfl
 | i :: w,h,v,hv=>by
  rw [List.reverse_cons,actL_append]
  show actL c w.reverse (reflL c i (reflL c i (actL c w v)))=v
  rw [refl2 hc (h i (mcS ..)) (by rw [actL_length,hv])]
  exact act_rev hc w (fun j hj=>h j (mcM _ hj)) hv
theorem rev_same {c:LL} (hc:CartanP c) {a b:LI} (ha:letters c.length a) (hb:letters c.length b) (h:imageL c a=imageL c b) {v:LI} (hv:v.length=c.length) :
  actL c a.reverse v=actL c b.reverse v:=by
 have h1:=act_rev hc b.reverse (letters_reverse hb) hv
 rw [List.reverse_reverse]at h1
 have h2:actL c a (actL c b.reverse v)=v:=by
  rw [same_elt hc ha hb h (by rw [actL_length,hv])];exact h1
 have h3:=act_rev hc a ha (v:=actL c b.reverse v) (by rw [actL_length,hv])
 rw [h2]at h3
 exact h3
theorem weak_same {c:LL} (hc:CartanP c) {u v x y:LI} (hu:letters c.length u) (hx:letters c.length x) (h1:imageL c u=imageL c x) (h2:imageL c v=imageL c y) :
  redL c (u.reverse ++ v)=redL c (x.reverse ++ y):=by
 apply red_eq
 rw [image_append,image_append,h2]
 exact rev_same hc hu hx h1 (imageL_length c y)
theorem fst_zero {c:LL} (hc:CartanP c) {L:Nat} {v:LI} (h:Far c L v):fstN v < 0↔L=0:=by
 rcases fst_of_far hc h with⟨h1,h2⟩ | ⟨h1,_,_,M,h4,_⟩
 ·constructor
  ·intro _;exact h2
  ·intro _;omega
 ·constructor
  ·intro h;omega
  ·intro h;omega
def firstIn (v:LI):List Int->Int
 | []=>-1
 | i :: s=>if v.getD i.toNat 0 < 0 then i else firstIn v s
def lpL (c:LL) (s:LI):Nat->List Int->List Int×List Int
 | 0,v=>([],v)
 | f+1,v=>if firstIn v s < 0 then([],v) else((firstIn v s) :: (lpL c s f (reflL c (firstIn v s) v)).1,(lpL c s f (reflL c (firstIn v s) v)).2)
def WordP (c:LL) (w:LI):Prop:=CartanP c/\w.length<=15/\letters c.length w
open Classical in
noncomputable def wordB (c:LL) (w:LI):Bool:=decide (WordP c w)
theorem wordB_iff {c:LL} {w:LI}:wordB c w=true↔WordP c w:=by simp [wordB]
def ptB (c:LL) (i:Int):Bool:=decide (0<=i/\i < c.length)
theorem c_impl_isPoint (c:LL) (i:Int):FunA B 113 [.sl false (.row false) c,.int .i64 i] (fun rs o=>rs=[.bool (ptB c i)]/\o=[]):=by
 refine wk Tryz.call113 Tryz.func113 rfl Tryz.ntmps113 fun C hC hP hT hfn hpin hfin hX=>wW ?_
 refine Run.R ?_
 refine Run.R ?_
 refine Run.r [4] ?_
 refine⟨?_,rfl⟩
 congr 2
 unfold ptB
 by_cases h:0<=i<;>simp [h]
theorem getD_mem {w:LI} {i:Nat} (h:i < w.length):w.getD i 0∈w:=by
 rw [show w.getD i 0=w[i]from by simp [h]];exact List.getElem_mem h
theorem letters_getD {n:Nat} {w:LI}:letters n w↔∀ i,i < w.length->0<=w.getD i 0/\w.getD i 0 < n:=by
 constructor
 ·intro h i hi;exact h _ (getD_mem hi)
 ·intro h x hx
  obtain⟨i,hi,rfl⟩:=List.getElem_of_mem hx
  have:=h i hi
  rwa [show w.getD i 0=w[i]from by simp [hi]]at this
open Classical in
noncomputable def letB (c:LL) (w:LI):Bool:=decide (letters c.length w)
theorem letB_iff {c:LL} {w:LI}:letB c w=true↔letters c.length w:=by simp [letB]
theorem c_impl_isWordOf (c:LL) (w:LI):FunA B 131 [.sl false (.row false) c,.sl false .int w] (fun rs o=>rs=[.bool (letB c w)]/\o=[]):=by
 refine wk Tryz.call131 Tryz.func131 rfl Tryz.ntmps131 fun C hC hP hT hfn hpin hfin hX=>wW ?_
 refine Run.len 1 rfl fun hlens=>?_
 refine Run.R ?_
 refine Run.R ?_
 refine Run.loopI (X:=Nat) (fun i=>⟨18,[(0,true,.v (.sl false (.row false) c)),(4,true,.v (.bool false)),(7,true,.v (.sl false .int w)),(8,true,.v (.int .i64 w.length)),(9,true,.v (.int .i64 i))],[]⟩) (fun i=>i<=w.length/\∀ k,k < i->0<=w.getD k 0/\w.getD k 0 < c.length) (fun i=>w.length - i) 0 ⟨nz0 _,by omega⟩ ?_ ?_
 ·exact Le.sub (by simp only [AW7,simprocAttr]) (by simp only [AW7,simprocAttr];try simp)
 rintro i ⟨hi,hset⟩ ih
 refine Run.R ?_
 refine Run.c ?_ ?_
 ·intro hc
  have hc:i < w.length:=by simpa using hc
  refine Run.R ?_
  refine Run.g fun K hK=>?_
  refine FunA.e hP hT (c_impl_isPoint c (w.getD i 0)) ?_
  refine wE ?_;clear hK K
  refine Run.c ?_ ?_
  ·intro hb
   have hb:¬(0<=w.getD i 0/\w.getD i 0 < c.length):=by
    revert hb;unfold ptB
    cases h:decide (0<=w.getD i 0/\w.getD i 0 < (c.length:Int)) with
    | true=>intro hb;cases hb
    | false=>intro _;exact of_decide_eq_false h
   refine Run.R ?_
   refine Run.r [4] ?_
   refine⟨?_,rfl⟩
   have:letB c w=false:=by
    cases h:letB c w with
    | false=>rfl
    | true=>exact absurd (letters_getD.1 (letB_iff.1 h) i hc) hb
   rw [this]
  ·intro hb
   have hb:0<=w.getD i 0/\w.getD i 0 < c.length:=by
    revert hb;unfold ptB
    cases h:decide (0<=w.getD i 0/\w.getD i 0 < (c.length:Int)) with
    | true=>intro _;exact of_decide_eq_true h
    | false=>intro hb;cases hb
   refine Run.RW ?_
   refine Run.le ?_ (ih (i+1) ⟨hc,fun k hk=>?_⟩ om)
   ·exact Le.sub (by simp only [AW7,simprocAttr]) (by simp only [AW7,simprocAttr,Option.some.injEq,Prod.mk.injEq,Sl.v.injEq,AV.int.injEq,AV.own.injEq,AV.bool.injEq];try(repeat' apply And.intro);all_goals omega)
   ·rcases Nat.lt_succ_iff_lt_or_eq.1 hk with h | rfl
    ·exact hset k h
    ·exact hb
 ·intro hc
  have hc:i=w.length:=by simp at hc;omega
  subst hc
  refine Run.x ?_
  refine Run.R ?_
  refine Run.r [4] ?_
  refine⟨?_,rfl⟩
  rw [letB_iff.2 (letters_getD.2 hset)]
theorem wordB_eq (c:LL) (w:LI):wordB c w=(isC c && decide (w.length<=15) && letB c w):=by
 rw [Bool.eq_iff_iff,wordB_iff]
 simp only [bAnd,isC_iff,dtE,letB_iff,WordP]
 exact and_assoc.symm
theorem c_impl_IsWord (c:LL) (w:LI):FunA B 82 [.sl false (.row false) c,.sl false .int w] (fun rs o=>rs=[.bool (wordB c w)]/\o=[]):=by
 refine wk Tryz.call82 Tryz.func82 rfl Tryz.ntmps82 fun C hC hP hT hfn hpin hfin hX=>wW ?_
 refine Run.R ?_
 refine Run.g fun K hK=>?_
 refine FunA.e hP hT (c_impl_IsCartan c) ?_
 refine .inl (FunA.callG hP hT (c_impl_isWordOf c w) (fun _=>rfl) (fun _=>by simp only [AW7,simprocAttr]) ?_)
 refine wF ?_;clear hK K
 refine Run.r [4] ?_
 refine⟨?_,rfl⟩
 rw [wordB_eq]
 congr 2
 by_cases h:w.length<=15
 ·have h':(w.length:Int)<=15:=by omega
  cases isC c<;>simp [h,h']
 ·have h':¬(w.length:Int)<=15:=by omega
  cases isC c<;>simp [h,h']
theorem c_spec_IsWord (c:LL) (w:LI) (hcl:c.length<=1048576):FunA B 85 [.sl false (.row false) c,.sl false .int w] (fun rs o=>rs=[.bool (wordB c w)]/\o=[]):=by
 refine wk Tryz.call85 Tryz.func85 rfl Tryz.ntmps85 fun C hC hP hT hfn hpin hfin hX=>wW ?_
 refine Run.len 1 rfl fun hlens=>?_
 refine Run.R ?_
 refine Run.R ?_
 refine Run.loopI (X:=Nat) (fun i=>⟨28,[(0,true,.v (.sl false (.row false) c)),(1,true,.v (.sl false .int w)),(4,true,.v (.bool false)),(5,true,.v (.int .i64 i))],[]⟩) (fun i=>i<=w.length/\∀ k,k < i->0<=w.getD k 0/\w.getD k 0 < c.length) (fun i=>w.length - i) 0 ⟨nz0 _,by omega⟩ ?_ ?_
 ·exact Le.sub (by simp only [AW7,simprocAttr]) (by simp only [AW7,simprocAttr];try simp)
 rintro i ⟨hi,hset⟩ ih
 refine Run.R ?_
 refine Run.c ?_ ?_
 ·intro hc
  have hc:i < w.length:=by simpa using hc
  refine Run.keep [0,1,4,5] ?_;simp only [AK,Nat.reduceBEq]
  refine Run.nq ?_;refine Run.regionW hC (fun K hK=>?_);refine wWW ?_
  refine FunA.e hP hT (c_spec_l1In (w.getD i 0) 0 ((c.length:Int) - 1)) ?_
  refine wE ?_;clear hK K
  have key:inB (w.getD i 0) 0 ((c.length:Int) - 1)=true↔0<=w.getD i 0/\w.getD i 0 < c.length:=by rw [inB_iff];omega
  refine Run.c ?_ ?_
  ·intro hb
   have hb:¬(0<=w.getD i 0/\w.getD i 0 < c.length):=fun h=>by rw [key.2 h]at hb;cases hb
   refine Run.R ?_
   refine Run.r [4] ?_
   refine⟨?_,rfl⟩
   have:wordB c w=false:=by
    cases h:wordB c w with
    | false=>rfl
    | true=>exact absurd (letters_getD.1 (wordB_iff.1 h).2.2 i hc) hb
   rw [this]
  ·intro hb
   have hb:0<=w.getD i 0/\w.getD i 0 < c.length:=by
    refine key.1 ?_
    revert hb
    cases inB (w.getD i 0) 0 ((c.length:Int) - 1)<;>simp
   refine Run.RW ?_
   refine Run.le ?_ (ih (i+1) ⟨hc,fun k hk=>?_⟩ om)
   ·exact Le.sub (by simp only [AW7,simprocAttr]) (by simp only [AW7,simprocAttr,Option.some.injEq,Prod.mk.injEq,Sl.v.injEq,AV.int.injEq,AV.own.injEq,AV.bool.injEq];try(repeat' apply And.intro);all_goals omega)
   ·rcases Nat.lt_succ_iff_lt_or_eq.1 hk with h | rfl
    ·exact hset k h
    ·exact hb
 ·intro hc
  have hc:i=w.length:=by simp at hc;omega
  subst hc
  refine Run.x ?_
  refine Run.g fun K hK=>?_
  refine FunA.e hP hT (c_spec_IsCartan c) ?_
  refine wE ?_;clear hK K
  refine Run.r [4] ?_
  refine⟨?_,rfl⟩
  rw [wordB_eq,letB_iff.2 (letters_getD.2 hset)]
  congr 2
  by_cases h:w.length<=15
  ·have h':(w.length:Int)<=15:=by omega
   cases isC c<;>simp [h,h']
  ·have h':¬(w.length:Int)<=15:=by omega
   cases isC c<;>simp [h,h']
theorem ones_succ (n:Nat):ones n ++ [(1:Int)]=ones (n+1):=by simp [ones,List.replicate_succ']
theorem c_impl_ones (n:Nat) (hn:n<=1048576):FunA B 158 [.int .i64 n] (fun rs o=>rs=[.own 0 0]/\o=[.arr .int (ones n) 0 true]):=by
 refine wk Tryz.call158 Tryz.func158 rfl Tryz.ntmps158 fun C hC hP hT hfn hpin hfin hX=>wW ?_
 refine Run.R ?_
 refine Run.R ?_
 refine Run.R ?_
 refine Run.loopI (X:=Nat) (fun i=>⟨13,[(2,true,.v .nils),(3,true,.v (.own 0 i)),(5,true,.v (.int .i64 n)),(6,true,.v (.int .i64 i))],[.arr .int (ones i) i true]⟩) (fun i=>i<=n) (fun i=>n - i) 0 (nz0 _) ?_ ?_
 ·exact Le.sub (by rfl) (by simp only [AW7,simprocAttr,hX];try simp)
 rintro i hi ih
 have hll:=ones_length i
 refine Run.R ?_
 refine Run.c ?_ ?_
 ·intro hc
  have hc:i < n:=by simpa using hc
  refine Run.R ?_
  refine Run.RW ?_
  refine Run.le ?_ (ih (i+1) hc om)
  refine Le.cut0 hpin [_] (by rw [<- ones_succ];rfl) ?_ rfl
  simp only [AW7,simprocAttr];try simp
 ·intro hc
  have hc:i=n:=by simp at hc;omega
  subst hc
  refine Run.x ?_
  refine Run.R ?_
  refine Run.le (Le.re (obs':=[.arr .int (ones i) 0 true]) hpin [0] [(2,true,.own 0 0)] rfl (by simp [leOs,leO_arr,oAt]) (by refine⟨⟨_,rfl,?_⟩,trivial⟩;simp [leAV,oAt,genO])) ?_
  simp only [frV_cons,frV_nil]
  refine Run.r [2] ?_
  exact⟨rfl,rfl⟩
theorem wrap_sub_wrap (a b:Int):IntKind.i64.wrap (a - IntKind.i64.wrap b)=IntKind.i64.wrap (a - b):=by
 unfold IntKind.wrap
 simp [IntKind.bits,IntKind.signed]
 omega
def reflM (c:LL) (i:Int) (v:LI) (m:Nat):List Int:=(List.range v.length).map fun k=>if k < m then v.getD k 0 - v.getD i.toNat 0*ent c k i.toNat else v.getD k 0
theorem reflM_length (c:LL) (i:Int) (v:LI) (m:Nat):(reflM c i v m).length=v.length:=by simp [reflM]
theorem reflM_zero (c:LL) (i:Int) (v:LI):reflM c i v 0=v:=by
 apply List.ext_getElem?
 intro k
 by_cases hk:k < v.length
 ·simp [reflM,hk]
 ·rw [geN (by rw [reflM_length];omega),geN om]
theorem reflM_end (c:LL) (i:Int) (v:LI):reflM c i v v.length=reflL c i v:=by
 simp only [reflM,reflL]
 apply List.map_congr_left
 intro k hk
 rw [if_pos (List.mem_range.1 hk)]
theorem reflM_get (c:LL) (i:Int) (v:LI) (m:Nat) (h:m < v.length):(reflM c i v m).getD m 0=v.getD m 0:=by
 simp [reflM,gdE,h]
theorem reflM_set (c:LL) (i:Int) (v:LI) (m:Nat) (h:m < v.length):(reflM c i v m).set m (v.getD m 0 - v.getD i.toNat 0*ent c m i.toNat)=reflM c i v (m+1):=by
 apply List.ext_getElem?
 intro k
 rw [List.getElem?_set]
 simp only [reflM,List.length_map,List.length_range]
 by_cases hk:m=k
 ·subst hk
  simp [h]
 ·rw [if_neg hk]
  by_cases h1:k < v.length
  ·simp only [List.getElem?_map,List.getElem?_range h1,Option.map_some]
   have:(k < m)=(k < m+1):=by simp only [eq_iff_iff];omega
   simp [this]
  ·rw [geN (by simpa using h1),geN (by simpa using h1)]
theorem c_impl_reflected (c:LL) (i:Int) (v:LI) (hc:CartanP c) (hv:v.length=c.length) (hi:0<=i/\i < c.length) (hB:Bd 9223372036854775807 (reflL c i v)) :
  FunM B 156 [.sl false (.row false) c,.int .i64 i,.own 0 0] .int v true (fun rs o=>rs=[]/\o=[.arr .int (reflL c i v) 0 true]):=by
 have hn:=hc.2.1
 have hrow:=hc.2.2.1
 refine FunM.walk B_ok (fn:=Tryz.f156) (fun vs w=>Tryz.call156 vs w) Tryz.func156 rfl (by rw [Tryz.ntmps156];simp) (fun C hC hP hT hΓ hbt hfn hpin hfin=>?_);have hX:=BX;rw [<- hΓ,<- hbt.1,<- hbt.2.1,<- hbt.2.2.1,<- hbt.2.2.2.2]at hX;rw [hT]at hX;rw [Tryz.ntmps156];simp only [AW7,simprocAttr,hX]
 refine Run.R ?_
 refine Run.R ?_
 refine Run.keep [0,1,2,6,13,14] ?_;simp only [AK,Nat.reduceBEq]
 refine Run.loopI (X:=Nat) (fun m=>⟨33,[(0,true,.v (.sl false (.row false) c)),(1,true,.v (.int .i64 i)),(2,true,.v (.own 0 0)),(6,true,.v (.int .i64 (v.getD i.toNat 0))),(13,true,.v (.int .i64 v.length)),(14,true,.v (.int .i64 m))],[.arr .int (reflM c i v m) 0 true]⟩) (fun m=>m<=v.length) (fun m=>v.length - m) 0 (nz0 _) ?_ ?_
 ·exact Le.sub (by rw [reflM_zero]) (by simp only [AW7,simprocAttr,hX];try simp)
 rintro m hm ih
 have hml:=reflM_length c i v m
 refine Run.R ?_
 refine Run.c ?_ ?_
 ·intro h
  have h:m < v.length:=by simpa using h
  have hrm:=hrow m om
  refine Run.R ?_
  refine Run.nq ?_;refine Run.regionD hC true [0,1,2,3,4,5,6,7,8,9,10,11,12,13,14,15] (by kernel_rfl) (fun K hK=>?_);simp only [AW7,simprocAttr,hX];(repeat(with_reducible refine And.intro ?_ ?_);exact vc0);refine wE ?_;clear hK K
  have e1:IntKind.i64.wrap ((reflM c i v m).getD m 0 - IntKind.i64.wrap (v.getD i.toNat 0*ent c m i.toNat))=v.getD m 0 - v.getD i.toNat 0*ent c m i.toNat:=by
   rw [reflM_get c i v m h,wrap_sub_wrap]
   have:=hB m
   rw [reflL_get c i v m h]at this
   exact wrap_id om
  simp only [e1]
  refine Run.RW ?_
  refine Run.le ?_ (ih (m+1) h om)
  refine Le.sub (by rw [reflM_set c i v m h]) ?_
  simp only [AW7,simprocAttr];try simp
 ·intro h
  have h:m=v.length:=by simp at h;omega
  subst h
  refine Run.x ?_
  rw [reflM_end]
  refine Run.doneW (xs:=[]) [] (by decide) (by rw [hfn];rfl) rfl trivial (hfin _ _ _ rfl rfl rfl ?_)
  exact⟨rfl,rfl⟩
end Go.Proofs.YtcinngodeoidnaaGreat
