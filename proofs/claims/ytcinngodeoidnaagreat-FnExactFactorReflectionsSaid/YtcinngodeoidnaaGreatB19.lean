/- Every positive root that is not simple is lowered by a letter; so a search by reflections finds the roots up to a height, no others. No program is named here. -/
import Derived.Test.YtcinngodeoidnaaGreatB17
import Derived.Test.YtcinngodeoidnaaGreatB18
import Derived.Test.YtcinngodeoidnaaGreatB12
set_option linter.unusedVariables false
set_option linter.unusedSimpArgs false
namespace Go.Proofs.YtcinngodeoidnaaGreat
open Go Go.Aw Go.Cox
def prF (A:Mat) (n:Nat) (m r:Vec):Int:=sumN n (fun k=>m k*lamF A n r k)
theorem pr_mir {A B:Mat} {n i:Nat} (hA:Cartan A n) (hB:∀ i j,i < n->j < n->B i j=A j i) (hi:i < n) (m r:Vec):prF A n (mirF B n i m) (mirF A n i r)=prF A n m r:=by
 unfold prF
 rw [lamF_mir A hi]
 have e1:∀ k,refl A i (lamF A n r) k=lamF A n r k - lamF A n r i*A k i:=fun k=>rfl
 have hb:lamF B n m i=sumN n (fun k=>m k*A k i):=sumN_congr n fun j hj=>by rw [hB i j hi hj,Int.mul_comm]
 rw [sumN_congr n (g:=fun k=>(m k*lamF A n r k+(-(lamF A n r i))*(m k*A k i))+(-1)*((if k=i then lamF B n m i else 0)*(lamF A n r k - lamF A n r i*A k i))) (fun k _=>by rw [mirF_eq,e1];grind)]
 rw [sumN_add,sumN_add,sumN_mul,sumN_mul,<- hb,sumN_one (f:=fun k=>(if k=i then lamF B n m i else 0)*(lamF A n r k - lamF A n r i*A k i)) n hi (fun j _ hj=>by rw [if_neg hj,Int.zero_mul])]
 simp only [if_true,hA.diag i hi]
 grind
theorem pr_act {A B:Mat} {n:Nat} (hA:Cartan A n) (hB:∀ i j,i < n->j < n->B i j=A j i) (m r:Vec):∀ w:List Nat,(∀ i∈w,i < n)->prF A n (actF B n w m) (actF A n w r)=prF A n m r
 | [],_=>rfl
 | i :: w,h=>by
  rw [actF_cons,actF_cons,pr_mir hA hB (h i (mcS ..))]
  exact pr_act hA hB m r w fun j hj=>h j (mcM _ hj)
theorem pr_unit {A:Mat} {n i:Nat} (hA:Cartan A n) (hi:i < n):prF A n (unitF i) (unitF i)=2:=by
 unfold prF
 rw [sumN_one n hi (fun j _ hj=>by unfold unitF;rw [if_neg hj,Int.zero_mul]),lamF_unit A hi,hA.diag i hi]
 simp [unitF]
theorem hgt_sumN (r:LI):hgt r=sumN r.length (vecL r):=by
 have key:∀ k,k<=r.length->hgt (r.take k)=sumN k (vecL r):=by
  intro k
  induction k with
  | zero=>intro _;rfl
  | succ k ih=>intro hk;rw [hgt_snoc r k om,ih om];rfl
 have:=key r.length (Nat.le_refl _)
 rwa [tkL]at this
theorem hgt_mir {c:LL} (hc:CartanP c) {i:Nat} (hi:i < c.length) {r:LI} (hr:r.length=c.length):hgt (mirL c i r)=hgt r - lamF (matA c) c.length (vecL r) i:=by
 rw [hgt_sumN,hgt_sumN r,mir_len,mir_vec hc om hr,hr,Int.toNat_natCast]
 rw [sumN_congr c.length (g:=fun k=>vecL r k+(-1)*(if k=i then lamF (matA c) c.length (vecL r) i else 0)) (fun k _=>by rw [mirF_eq];grind),sumN_add,sumN_mul,sumN_one (f:=fun k=>if k=i then lamF (matA c) c.length (vecL r) i else 0) c.length hi (fun j _ hj=>by rw [if_neg hj])]
 simp only [if_true]
 omega
theorem low_root {c:LL} (hc:CartanP c) {r:LI} (h:Rt c r) (hs:sgnR r=1):∃ k,k < c.length/\0 < lamF (matA c) c.length (vecL r) k:=by
 obtain⟨w,i,hw,hi,rfl⟩:=h
 have hc':=trL_cartan hc
 have hl:=trL_len c
 have hi':i < (trL c).length:=by rw [hl];exact hi
 have hw':letters (trL c).length w:=by rw [hl];exact hw
 have h1:¬(imageL c w.reverse).getD i 0 < 0:=fun hn=>by have:=(root_iff hc hw hi).2 hn;omega
 have hs':sgnR (actR (trL c) w (simL (trL c).length i))=1:=by
  rcases Rt.sign hc' ⟨w,i,hw',hi',rfl⟩with h | h
  ·exact h
  ·exact absurd ((img_tr hc (letters_reverse hw) hi).2 ((root_iff hc' hw' hi').1 h)) h1
 have hp:=(sgn_pos_iff.1 hs').1
 refine Classical.byContradiction fun hn=>?_
 have hle:∀ k,k < c.length->lamF (matA c) c.length (vecL (actR c w (simL c.length i))) k<=0:=fun k hk=>by
  exact Int.not_lt.1 fun h=>hn ⟨k,hk,h⟩
 have e:=pr_act (A:=matA c) (B:=matA (trL c)) (n:=c.length) (matA_cartan hc) (fun a b ha hb=>trL_ent c ha hb) (unitF i) (unitF i) (nat w) (letters_nat hw)
 rw [pr_unit (matA_cartan hc) hi]at e
 have e1:=actR_vec hc (simL_len c.length i) w hw
 have e2:=actR_vec hc' (simL_len (trL c).length i) w hw'
 rw [vec_sim hi]at e1
 rw [vec_sim hi',hl]at e2
 rw [<- e1,<- e2]at e
 rw [hl]at hp
 have hz:=(sumN_nonneg (f:=fun k=>(-1)*(vecL (actR (trL c) w (simL c.length i)) k*lamF (matA c) c.length (vecL (actR c w (simL c.length i))) k)) c.length (fun k hk=>by
  have a:=hp k
  have b:=hle k hk
  have:=Int.mul_nonneg a (show 0<=-(lamF (matA c) c.length (vecL (actR c w (simL c.length i))) k) by omega)
  show 0<=(-1)*((actR (trL c) w (simL c.length i)).getD k 0*_)
  grind)).1
 rw [sumN_mul]at hz
 unfold prF at e
 rw [e]at hz
 omega
theorem rs_rt {c:LL} (hc:CartanP c) {h:Int}:∀(N:Nat) {r:LI},(hgt r).toNat<=N->Rt c r->sgnR r=1->hgt r<=h->RS c h r:=by
 intro N
 induction N with
 | zero=>
  intro r hN hr hs _
  obtain⟨k,hk,hl⟩:=low_root hc hr hs
  have h0:=hgt_nonneg (sgn_nn hs)
  have hz:=hgt_zero (sgn_nn hs) om
  obtain⟨q,hq⟩:=(sgn_pos_iff.1 hs).2
  rw [hz,gdE,List.getElem?_replicate]at hq
  split at hq<;>simp at hq
 | succ N ih=>
  intro r hN hr hs hh
  obtain⟨k,hk,hl⟩:=low_root hc hr hs
  have hm:=hgt_mir hc hk hr.len
  have hr':=hr.mir (i:=(k:Int)) om
  rcases hr'.sign hc with h1 | h1
  ·have h0:=hgt_nonneg (sgn_nn h1)
   have hb:mirL c k (mirL c k r)=r:=mir2 hc om hr.len
   have:=RS.up (mirL c k r) k (ih om hr' h1 om) hk (by rw [hb];exact hs) (by rw [hb];exact hh) (by rw [hb];omega)
   rwa [hb]at this
  ·rw [only_sim hc hr hk hs h1]
   exact .sim k hk
theorem RS.rt {c:LL} {h:Int} {r:LI} (k:RS c h r):Rt c r:=by
 induction k with
 | sim i hi=>exact Rt.sim hi
 | up r i _ hi _ _ _ ih=>exact ih.mir om
def addP (h:Int) (L:LL) (r:LI):List (List Int):=if r∉L/\sgnR r=1/\hgt r<=h then L ++ [r]else L
theorem addP_sub {h:Int} {L:LL} {r z:LI} (hz:z∈L):z∈addP h L r:=by
 unfold addP;split
 ·exact List.mem_append_left _ hz
 ·exact hz
theorem addP_get {h:Int} {L:LL} {r:LI} {k:Nat} (hk:k < L.length):(addP h L r).getD k []=L.getD k []:=by
 unfold addP;split
 ·simp [gdE,List.getElem?_append_left hk]
 ·rfl
theorem addP_in {h:Int} {L:LL} {r:LI} (h1:sgnR r=1) (h2:hgt r<=h):r∈addP h L r:=by
 unfold addP;split
 ·simp
 ·rename_i hn
  refine Classical.byContradiction fun hz=>hn ⟨hz,h1,h2⟩
structure PL (c:LL) (h:Int) (L:LL):Prop where
 nd:L.Nodup
 mem:∀ z∈L,RS c h z
theorem PL.nil (c:LL) (h:Int):PL c h []:=⟨List.nodup_nil,fun _ hz=>by cases hz⟩
theorem PL.add {c:LL} (hc:CartanP c) {h:Int} {L:LL} (k:PL c h L) {r:LI} (hr:Rt c r):PL c h (addP h L r):=by
 unfold addP
 split
 ·rename_i hq
  obtain⟨h1,h2,h3⟩:=hq
  refine⟨List.nodup_append.2 ⟨k.nd,by simp,fun a ha b hb e=>?_⟩,fun z hz=>?_⟩
  ·simp at hb;subst hb;subst e;exact h1 ha
  ·rcases List.mem_append.1 hz with hz | hz
   ·exact k.mem z hz
   ·simp at hz;subst hz;exact rs_rt hc _ (Nat.le_refl _) hr h2 h3
 ·exact k
def PD (c:LL) (h:Int) (L:LL) (k m:Nat):Prop:=∀ j i,j < k\/(j=k/\i < m)->i < c.length->sgnR (mirL c i (L.getD j []))=1->hgt (mirL c i (L.getD j []))<=h->mirL c i (L.getD j [])∈L
theorem PD.zero (c:LL) (h:Int) (L:LL):PD c h L 0 0:=fun j i hj=>by omega
theorem PD.next {c:LL} {h:Int} {L:LL} {k:Nat} (p:PD c h L k c.length):PD c h L (k+1) 0:=fun j i hj hi=>p j i om hi
theorem PD.add {c:LL} {h:Int} {L:LL} {k m:Nat} (p:PD c h L k m) (hk:k < L.length):PD c h (addP h L (mirL c m (L.getD k []))) k (m+1):=fun j i hj hi h1 h2=>by
 rw [addP_get om]at h1 h2 ⊢
 by_cases e:j=k/\i=m
 ·obtain⟨rfl,rfl⟩:=e
  exact addP_in h1 h2
 ·exact addP_sub (p j i om hi h1 h2)
theorem PD.all {c:LL} {h:Int} {L:LL} (p:PD c h L L.length 0) (hs:∀ i,i < c.length->simL c.length i∈L) {z:LI} (hz:RS c h z):z∈L:=by
 induction hz with
 | sim i hi=>exact hs i hi
 | up r i _ hi h1 h2 _ ih=>
  obtain⟨j,hj,e⟩:=List.getElem_of_mem ih
  have e2:L.getD j []=r:=by simp [gdE,hj,e]
  have:=p j i (.inl hj) hi
  rw [e2]at this
  exact this h1 h2
set_option maxHeartbeats 2000000 in
theorem c_add (r s:LI) (H:Int) (hb lb sb mb:Nat) (xs:List (List Int×List Int)) (hr:Bnd 1000000000000000000 r) (hl:r.length<=4) (hx:∀ z∈xs.map (·.1),z.length=r.length) (hxl:xs.length<=1000000) :
  FunO B 146 [.sl true .int r,.sl true .int s,.hp sb 0,.hp hb 0,.hp lb 0] (.bag ⟨4,hb,H,lb,true,xs,sb,mb,⟨true,false⟩,mlR (xs.map (·.1))⟩ 0)
   (fun rs o=>rs=[]/\∃ g,o=[.bag ⟨4,hb,H,lb,true,addX H xs (r,s),sb,mb,⟨true,false⟩,mlR ((addX H xs (r,s)).map (·.1))⟩ g]):=by
 have hget:=mlR_get hl hx
 refine FunO.walk B_ok (fn:=Tryz.f146) (fun vs w=>Tryz.call146 vs w) Tryz.func146 rfl (by rw [Tryz.ntmps146];simp) (fun C hC hP hT hΓ hbt hfn hpin hfin=>?_);have hX:=BX;rw [<- hΓ,<- hbt.1,<- hbt.2.1,<- hbt.2.2.1,<- hbt.2.2.2.2]at hX;rw [hT]at hX;rw [Tryz.ntmps146];simp only [AW7,simprocAttr,hX]
 refine Run.g fun K hK=>?_
 rw [wst_arr]
 refine wF ?_;clear hK K
 refine Run.g fun K hK=>?_
 rw [wsl_arr]
 refine wW ?_
 rw [Q_cpA]
 refine wF ?_;clear hK K
 rw [show List.take 4 r ++ List.drop r.length [0,0,0,0]=kR r from rfl]
 refine Run.nq ?_;refine Run.regionD hC true [0,1,2,3,4,5,6,7,8,9,10,12,11,13,14] (by kernel_rfl) (fun K hK=>?_);simp only [AW7,simprocAttr,hX];(repeat(with_reducible refine And.intro ?_ ?_);exact vc0)
 simp only [List.getD_cons_zero,hget]
 refine .inl (FunA.callG hP hT (c_impl_RootSign r) (fun _=>rfl) (fun _=>by simp only [AW7,simprocAttr]) ?_)
 refine wW ?_
 refine .inl (FunA.callG hP hT (c_impl_HeightOf r hr hl) (fun _=>rfl) (fun _=>by simp only [AW7,simprocAttr]) ?_)
 refine wF ?_;clear hK K
 refine Run.c ?_ ?_
 ·intro h
  have hA:r∉xs.map (·.1)/\sgnR r=1/\hgt r<=H:=by
   by_cases hm:r∈xs.map (·.1)
   ·rw [decide_eq_true hm]at h;cases h
   ·rw [decide_eq_false hm]at h
    simp only [Bool.not_false,cond_true]at h
    cases hs:sgnR r == 1 with
    | false=>rw [hs]at h;cases h
    | true=>rw [hs]at h;exact⟨hm,by simpa using hs,by simpa using h⟩
  have hadd:addX H xs (r,s)=xs ++ [(r,s)]:=if_pos hA
  have hput:=mlR_put hl hx hA.1
  refine Run.R ?_
  simp only [List.getD_cons_zero,hput]
  refine Run.R ?_
  refine Run.le (Le.cut (fr':=[]) (obs':=[.bag ⟨4,hb,H,lb,true,xs ++ [(r,s)],sb,mb,⟨true,false⟩,mlR (xs.map (·.1) ++ [r])⟩ 1]) [_,_] (by rw [hpin];exact Nat.le_refl _) rfl trivial rfl) ?_
  refine Run.doneW [] (by decide) (by rw [hfn];rfl) rfl trivial (hfin _ _ _ rfl rfl ⟨_,_,rfl⟩ ?_)
  exact⟨rfl,1,by rw [hadd];simp⟩
 ·intro h
  have hA:¬(r∉xs.map (·.1)/\sgnR r=1/\hgt r<=H):=by
   rintro⟨h1,h2,h3⟩
   rw [decide_eq_false h1]at h
   simp [h2,h3]at h
  have hadd:addX H xs (r,s)=xs:=if_neg hA
  refine Run.le (Le.cut (fr':=[]) (obs':=[.bag ⟨4,hb,H,lb,true,xs,sb,mb,⟨true,false⟩,mlR (xs.map (·.1))⟩ 0]) [_] (by rw [hpin];exact Nat.le_refl _) rfl trivial rfl) ?_
  refine Run.nq ?_
  refine Run.doneW [] (by decide) (by rw [hfn];rfl) rfl trivial (hfin _ _ _ rfl rfl ⟨_,_,rfl⟩ ?_)
  exact⟨rfl,0,by rw [hadd]⟩
theorem c_cmpPair (a b:List Int×List Int) (ha:Bnd 1000000000000000000 a.1) (hb:Bnd 1000000000000000000 b.1) (h4:a.1.length<=4) (hl:a.1.length=b.1.length) :
  FunA B 148 [.prv a,.prv b] (fun rs o=>rs=[.int .i64 (cmpR a.1 b.1)]/\o=[]):=by
 refine wk Tryz.call148 Tryz.func148 rfl Tryz.ntmps148 fun C hC hP hT hfn hpin hfin hX=>wW ?_
 refine Run.R ?_
 refine Run.g fun K hK=>?_
 refine FunA.e hP hT (c_impl_compareRoots a.1 b.1 ha hb h4 hl) ?_
 refine wE ?_;clear hK K
 refine Run.k [4] [] ?_
 refine Run.r [4] ?_
 exact⟨rfl,rfl⟩
theorem c_impl_TransposeCartan (c:LL) (hc:CartanP c):FunA B 145 [.sl false (.row false) c] (fun rs o=>rs=[.own 0 0]/\∃ ys,rw2 ys=trL c/\o=[.arr .lrow ys 0 true]):=by
 have hn:=hc.2.1
 have hb:=isC_true hc
 refine wk Tryz.call145 Tryz.func145 rfl Tryz.ntmps145 fun C hC hP hT hfn hpin hfin hX=>wW ?_
 refine Run.R ?_
 refine Run.g fun K hK=>?_
 refine FunA.cW hP hT (c_impl_IsCartan c) ?_
 rintro rs o ⟨rfl,rfl⟩
 rw [hb]
 refine wF ?_;clear hK K
 refine Run.c ?_ ?_
 ·intro h;cases h
 intro _
 refine Run.R ?_
 refine Run.R ?_
 refine Run.k [0,2,3,13,14] [0] ?_
 refine Run.loopI (X:=Nat×List (Nat×List Int)) (fun m=>⟨40,[(0,true,.v (.sl false (.row false) c)),(2,true,.v (.nils)),(3,true,.v (.own 0 0)),(13,true,.v (.int .i64 ((c.length:Nat)))),(14,true,.v (.int .i64 (m.1)))],[.arr .lrow (m.2) 0 true]⟩) (fun m=>m.1<=c.length/\rw2 m.2=(trL c).take m.1) (fun m=>c.length - m.1) ((0,[])) (⟨nz0 _,rfl⟩) ?_ ?_
 ·exact Le.s
 rintro⟨m,ys⟩ ⟨hm,hy⟩ ih
 try simp only []
 simp only []at hm hy
 have hyl:ys.length=m:=by have:=congrArg List.length hy;simpa [rw2,trL_len,hm] using this
 refine Run.R ?_
 refine Run.c ?_ ?_
 ·intro h
  have h:m < c.length:=by simpa using h
  refine Run.R ?_
  refine Run.R ?_
  refine Run.R ?_
  refine Run.k [0,2,3,13,14,4,5,19,20] [0,1] ?_
  refine Run.loopI (X:=Nat) (fun k=>⟨40,[(0,true,.v (.sl false (.row false) c)),(2,true,.v (.nils)),(3,true,.v (.own 0 0)),(13,true,.v (.int .i64 ((c.length:Nat)))),(14,true,.v (.int .i64 m)),(4,true,.v (.int .i64 m)),(5,true,.v (.own 1 0)),(19,true,.v (.int .i64 ((c.length:Nat)))),(20,true,.v (.int .i64 k))],[.arr .lrow (ys) 0 true,.arr .int (((List.range k).map fun j=>ent c j m)) 0 true]⟩) (fun k=>k<=c.length) (fun k=>c.length - k) (0) (nz0 _) ?_ ?_
  ·exact Le.s
  rintro k hk ih2
  try simp only []
  refine Run.R ?_
  refine Run.c ?_ ?_
  ·intro h2
   have h2:k < c.length:=by simpa using h2
   have hr:=hc.2.2.1 k h2
   have hsn:((List.range (k+1)).map fun j=>ent c j m)=((List.range k).map fun j=>ent c j m) ++ [(c.getD k []).getD m 0]:=by rw [List.range_succ,List.map_append];rfl
   refine Run.R ?_
   refine Run.R ?_
   refine Run.RW ?_
   refine Run.k [0,2,3,13,14,4,5,19,20] [0,1] ?_
   refine Run.le ?_ (ih2 (k+1) om om)
   exact Le.sub (by rw [hsn]) (by simp only [AW7,simprocAttr];try simp)
  ·intro h2
   have h2:k=c.length:=by simp at h2;omega
   subst h2
   have hrow:(trL c).getD m []=(List.range c.length).map fun j=>ent c j m:=trL_row c h
   have hst:rw2 (ys ++ [(0,(List.range c.length).map fun j=>ent c j m)])=(trL c).take (m+1):=by
    rw [rw2_app,hy]
    rw [List.take_succ_eq_append_getElem (by rw [trL_len];exact h)]
    congr 1
    simp only [rw2,List.map_cons,List.map_nil]
    rw [<- hrow]
    simp [gdE,show m < (trL c).length by rw [trL_len];exact h]
   refine Run.x ?_
   refine Run.g fun K hK=>?_
   intro l hl
   refine wF ?_;clear hK K
   refine Run.RW ?_
   refine Run.k [0,2,3,13,14] [0] ?_
   refine Run.le ?_ (ih (m+1,ys ++ [(l,(List.range c.length).map fun j=>ent c j m)]) ⟨h,by simp only [rw2,List.map_append,List.map_cons,List.map_nil]at hst ⊢;exact hst⟩ (by simp only [];omega))
   exact Le.sub (by rfl) (by simp only [AW7,simprocAttr];try simp)
 ·intro h
  have h:m=c.length:=by simp at h;omega
  subst h
  rw [List.take_of_length_le (by rw [trL_len];exact Nat.le_refl _)]at hy
  refine Run.x ?_
  refine Run.R ?_
  refine Run.k [2] [0] ?_
  refine Run.r [2] ?_
  exact⟨rfl,ys,hy,rfl⟩
def rowP (c:LL) (s:LI) (i:Int):List Int:=s.map fun j=>ent c i.toNat j.toNat
theorem map_snoc {α β:Type} (f:α->β) (s:List α) (d:α) (k:Nat) (h:k < s.length):(s.take k).map f ++ [f (s.getD k d)]=(s.take (k+1)).map f:=by
 rw [<- take_snoc d s k h];simp
theorem letters_mem {n:Nat} {s:LI} (h:letters n s) {k:Nat} (hk:k < s.length):0<=s.getD k 0/\s.getD k 0 < n:=h _ (getD_mem hk)
theorem c_impl_picked (c:LL) (s:LI) (hcl:c.length<=4) (hc:∀ i,i < c.length->(c.getD i []).length=c.length) (hs:letters c.length s) (hl:s.length<=1048576) :
  FunA B 192 [.sl false (.row false) c,.sl false .int s] (fun rs o=>rs=[.own 0 0]/\∃ ys,ys.map (·.2)=pick c s/\o=[.arr .lrow ys 0 true]):=by
 refine wk Tryz.call192 Tryz.func192 rfl Tryz.ntmps192 fun C hC hP hT hfn hpin hfin hX=>wW ?_
 refine Run.R ?_
 refine Run.R ?_
 refine Run.R ?_
 refine Run.loopI (X:=Nat×List (Nat×List Int)) (fun m=>⟨42,[(0,true,.v (.sl false (.row false) c)),(1,true,.v (.sl false .int s)),(4,true,.v (.nils)),(5,true,.v (.own 0 0)),(12,true,.v (.sl false .int s)),(13,true,.v (.int .i64 (s.length))),(14,true,.v (.int .i64 (m.1)))],[.arr .lrow (m.2) 0 true]⟩) (fun m=>m.1<=s.length/\m.2.map (·.2)=(s.take m.1).map (rowP c s)) (fun m=>s.length - m.1) ((0,[])) (⟨nz0 _,rfl⟩) ?_ ?_
 ·exact Le.s
 rintro⟨m,ys⟩ ⟨hm,hy⟩ ih
 try simp only []
 simp only []at hm hy
 have hyl:ys.length=m:=by have:=congrArg List.length hy;simpa [hm] using this
 refine Run.R ?_
 refine Run.c ?_ ?_
 ·intro h
  have h:m < s.length:=by simpa using h
  obtain⟨a1,a2⟩:=letters_mem hs h
  have hr:=hc (s.getD m 0).toNat om
  refine Run.R ?_
  refine Run.R ?_
  refine Run.R ?_
  refine Run.k [0,1,4,5,7,8,12,13,14,19,20,21] [0,1] ?_
  refine Run.loopI (X:=Nat) (fun k=>⟨42,[(0,true,.v (.sl false (.row false) c)),(1,true,.v (.sl false .int s)),(4,true,.v (.nils)),(5,true,.v (.own 0 0)),(7,true,.v (.int .i64 ((s.getD m 0)))),(8,true,.v (.own 1 0)),(12,true,.v (.sl false .int s)),(13,true,.v (.int .i64 (s.length))),(14,true,.v (.int .i64 m)),(19,true,.v (.sl false .int s)),(20,true,.v (.int .i64 (s.length))),(21,true,.v (.int .i64 k))],[.arr .lrow (ys) 0 true,.arr .int (((s.take k).map fun j=>ent c (s.getD m 0).toNat j.toNat)) 0 true]⟩) (fun k=>k<=s.length) (fun k=>s.length - k) (0) (nz0 _) ?_ ?_
  ·exact Le.s
  rintro k hk ih2
  try simp only []
  refine Run.R ?_
  refine Run.c ?_ ?_
  ·intro h2
   have h2:k < s.length:=by simpa using h2
   obtain⟨b1,b2⟩:=letters_mem hs h2
   have hsn:=map_snoc (fun j=>ent c (s.getD m 0).toNat j.toNat) s 0 k h2
   refine Run.R ?_
   refine Run.R ?_
   refine Run.RW ?_
   refine Run.k [0,1,4,5,7,8,12,13,14,19,20,21] [0,1] ?_
   refine Run.le ?_ (ih2 (k+1) om om)
   exact Le.sub (by rw [<- hsn]) (by simp only [AW7,simprocAttr];try simp)
  ·intro h2
   have h2:k=s.length:=by simp at h2;omega
   subst h2
   rw [tkL]
   refine Run.x ?_
   refine Run.g fun K hK=>?_
   intro l hl
   refine wF ?_;clear hK K
   refine Run.RW ?_
   refine Run.k [0,1,4,5,12,13,14] [0] ?_
   refine Run.le ?_ (ih (m+1,ys ++ [(l,rowP c s (s.getD m 0))]) ⟨h,by simp only [List.map_append,hy,List.map_cons,List.map_nil];exact map_snoc (rowP c s) s 0 m h⟩ (by simp only [];omega))
   exact Le.sub (by rfl) (by simp only [AW7,simprocAttr];try simp)
 ·intro h
  have h:m=s.length:=by simp at h;omega
  subst h
  rw [tkL]at hy
  refine Run.x ?_
  refine Run.R ?_
  refine Run.r [4] ?_
  exact⟨rfl,ys,hy,rfl⟩
def bnd:Nat->Int
 | 0=>1
 | n+1=>3*(n+1)*bnd n
theorem bnd_pos:∀ n,0<=bnd n
 | 0=>by decide
 | n+1=>by have:=bnd_pos n;unfold bnd;have:(0:Int)<=3*(n+1):=by omega
           exact Int.mul_nonneg this (bnd_pos n)
def Sq (n:Nat) (m:LL):Prop:=m.length=n/\∀ r∈m,r.length=n/\∀ x∈r,-3<=x/\x<=3
theorem Sq.minor {n:Nat} {m:LL} (h:Sq (n+1) m) (j:Nat) (hj:j < n+1):Sq n (minorL m j):=by
 refine⟨by simp [minorL,h.1],fun r hr=>?_⟩
 simp only [minorL,List.mem_map]at hr
 obtain⟨r0,h0,rfl⟩:=hr
 obtain⟨h1,h2⟩:=h.2 r0 (List.mem_of_mem_drop h0)
 refine⟨by simp [h1];omega,fun x hx=>?_⟩
 rcases List.mem_append.1 hx with hx | hx
 ·exact h2 x (List.mem_of_mem_take hx)
 ·exact h2 x (List.mem_of_mem_drop hx)
def sgn (j:Nat):Int:=if j % 2=1 then -1 else 1
def detS (n:Nat) (m:LL) (j:Nat):Int:=(List.range j).foldl (fun s j=>s+sgn j*(m.getD 0 []).getD j 0*detN n (minorL m j)) 0
theorem detS_succ (n:Nat) (m:LL) (j:Nat):detS n m (j+1)=detS n m j+sgn j*(m.getD 0 []).getD j 0*detN n (minorL m j):=by
 simp [detS,List.range_succ]
theorem detN_eq (n:Nat) (m:LL):detN (n+1) m=detS n m (n+1):=rfl
theorem sgn_cases (j:Nat):sgn j=1\/sgn j = -1:=by unfold sgn;split<;>simp
theorem sgn_succ (j:Nat):sgn (j+1) = -sgn j:=by unfold sgn;rcases Nat.mod_two_eq_zero_or_one j with h | h<;>simp [h,Nat.add_mod]
theorem abs_mul3 {x d b:Int} (hx:-3<=x/\x<=3) (hd:-b<=d/\d<=b):-(3*b)<=x*d/\x*d<=3*b:=by
 obtain⟨h1,h2⟩:=hx
 have:x = -3\/x = -2\/x = -1\/x=0\/x=1\/x=2\/x=3:=by omega
 rcases this with rfl | rfl | rfl | rfl | rfl | rfl | rfl<;>omega
theorem det_le:∀(n:Nat) (m:LL),Sq n m->-bnd n<=detN n m/\detN n m<=bnd n
 | 0,m,_=>by simp [detN,bnd]
 | n+1,m,h=>by
  have key:∀ j,j<=n+1->-(3*j*bnd n)<=detS n m j/\detS n m j<=3*j*bnd n:=by
   intro j
   induction j with
   | zero=>intro _;simp [detS]
   | succ j ih=>
    intro hj
    obtain⟨i1,i2⟩:=ih om
    have hd:=det_le n _ (h.minor j om)
    have hr:m.getD 0 []∈m:=by
     have:0 < m.length:=by rw [h.1];omega
     simp [gdE,this]
    obtain⟨r1,r2⟩:=h.2 _ hr
    have hx:=r2 _ (getD_mem (w:=m.getD 0 []) (i:=j) om)
    have h3:=abs_mul3 hx hd
    rw [detS_succ]
    have e:(3:Int)*((j+1:Nat):Int)*bnd n=3*j*bnd n+3*bnd n:=by push_cast;grind
    rw [e]
    rcases sgn_cases j with hs | hs<;>rw [hs]
    ·rw [Int.one_mul];omega
    ·rw [Int.neg_mul,Int.one_mul,Int.neg_mul];omega
  have:=key (n+1) (Nat.le_refl _)
  rw [detN_eq]
  simpa [bnd] using this
theorem bnd_le:∀ n:Nat,n<=4->bnd n<=1944:=by decide
theorem detS_le {n:Nat} {m:LL} (h:Sq (n+1) m) (hn:n+1<=4):∀ j,j<=n+1->-7776<=detS n m j/\detS n m j<=7776:=by
 intro j
 have hb:=bnd_le n om
 have hb0:=bnd_pos n
 have key:∀ j,j<=n+1->-((j:Int)*1944)<=detS n m j/\detS n m j<=(j:Int)*1944:=by
  have hbn:3*bnd n<=1944:=by
   have:∀ n:Nat,n<=3->3*bnd n<=1944:=by decide
   exact this n om
  intro j
  induction j with
  | zero=>intro _;simp [detS]
  | succ j ih=>
   intro hj
   obtain⟨i1,i2⟩:=ih om
   have hd:=det_le n _ (h.minor j om)
   have hr:m.getD 0 []∈m:=by
    have:0 < m.length:=by rw [h.1];omega
    simp [gdE,this]
   obtain⟨r1,r2⟩:=h.2 _ hr
   have hx:=r2 _ (getD_mem (w:=m.getD 0 []) (i:=j) om)
   have h3:=abs_mul3 hx hd
   rw [detS_succ]
   rcases sgn_cases j with hs | hs<;>rw [hs]
   ·rw [Int.one_mul];push_cast;omega
   ·rw [Int.neg_mul,Int.one_mul,Int.neg_mul];push_cast;omega
 intro hj
 have:=key j hj
 omega
theorem det_term {n:Nat} {m:LL} (h:Sq (n+1) m) (hn:n+1<=4) (j:Nat) (hj:j < n+1):(-3<=(m.getD 0 []).getD j 0/\(m.getD 0 []).getD j 0<=3)/\(-1944<=detN n (minorL m j)/\detN n (minorL m j)<=1944) /\
  (-1944<=(m.getD 0 []).getD j 0*detN n (minorL m j)/\(m.getD 0 []).getD j 0*detN n (minorL m j)<=1944)/\(m.getD 0 []).length=n+1:=by
 have hr:m.getD 0 []∈m:=by
  have:0 < m.length:=by rw [h.1];omega
  simp [gdE,this]
 obtain⟨r1,r2⟩:=h.2 _ hr
 have hx:=r2 _ (getD_mem (w:=m.getD 0 []) (i:=j) om)
 have hd:=det_le n _ (h.minor j hj)
 have hb:3*bnd n<=1944:=by
  have:∀ n:Nat,n<=3->3*bnd n<=1944:=by decide
  exact this n om
 have hb0:=bnd_pos n
 have h3:=abs_mul3 hx hd
 exact⟨hx,by omega,by omega,r1⟩
theorem c_impl_determinant (n:Nat):∀(m:LL),n<=4->Sq n m->FunA B 191 [.sl false (.row false) m] (fun rs o=>rs=[.int .i64 (detN n m)]/\o=[]):=by
 induction n with
 | zero=>
  intro m _ hm
  have hm0:m=[]:=nilZ hm.1
  subst hm0
  refine wk Tryz.call191 Tryz.func191 rfl Tryz.ntmps191 fun C hC hP hT hfn hpin hfin hX=>wW ?_
  refine Run.R ?_
  refine Run.R ?_
  refine Run.c ?_ ?_
  ·intro h
   refine Run.R ?_
   refine Run.r [2] ?_
   exact⟨rfl,rfl⟩
  ·intro h
   simp at h
 | succ n ihn=>
  intro m hn hm
  have hml:=hm.1
  refine wk Tryz.call191 Tryz.func191 rfl Tryz.ntmps191 fun C hC hP hT hfn hpin hfin hX=>wW ?_
  refine Run.R ?_
  refine Run.R ?_
  refine Run.c ?_ ?_
  ·intro h
   simp [hml]at h
   omega
  intro h
  clear h
  have hr0:=(det_term hm hn 0 om).2.2.2
  have hS0:detS n m 0=0:=rfl
  have hg0:sgn 0=1:=rfl
  refine Run.R ?_
  refine Run.R ?_
  rw [show((m.getD 0 []).length:Int)=((n+1:Nat):Int)from by rw [hr0]]
  refine Run.le (Le.sub (fr':=[(0,true,.v (.sl false (.row false) m)),(2,true,.v (.int .i64 0)),(3,true,.v (.int .i64 (detS n m 0))),(4,true,.v (.int .i64 (sgn 0))),(15,true,.v (.sl false .int (m.getD 0 []))),(16,true,.v (.int .i64 (n+1:Nat))),(17,true,.v (.int .i64 (0:Nat)))]) rfl (by simp only [AW7,simprocAttr];simp [hS0,hg0])) ?_
  refine Run.loopI (X:=Nat) (fun j=>⟨58,[(0,true,.v (.sl false (.row false) m)),(2,true,.v (.int .i64 0)),(3,true,.v (.int .i64 ((detS n m j)))),(4,true,.v (.int .i64 ((sgn j)))),(15,true,.v (.sl false .int ((m.getD 0 [])))),(16,true,.v (.int .i64 (((n+1:Nat))))),(17,true,.v (.int .i64 j))],[]⟩) (fun j=>j<=n+1) (fun j=>n+1 - j) (0) (nz0 _) ?_ ?_
  ·exact Le.s
  rintro j hj ih
  try simp only []
  refine Run.R ?_
  refine Run.c ?_ ?_
  ·intro h
   have h:j < n+1:=by simp at h;omega
   obtain⟨t1,t2,t3,t4⟩:=det_term hm hn j h
   obtain⟨d1,d2⟩:=detS_le hm hn j om
   obtain⟨e1,e2⟩:=detS_le hm hn (j+1) om
   have hsn:=detS_succ n m j
   have hss:=sgn_succ j
   have hsq:=hm.minor j h
   have hsc:=sgn_cases j
   have hp1:-3<=sgn j*(m.getD 0 []).getD j 0/\sgn j*(m.getD 0 []).getD j 0<=3:=by rcases hsc with hs | hs<;>rw [hs]<;>omega
   refine Run.R ?_
   refine Run.R ?_
   refine Run.c ?_ ?_
   ·intro hx
    have hx:(m.getD 0 []).getD j 0≠0:=by simpa using hx
    refine Run.R ?_
    refine Run.R ?_
    have htl:List.take (m.length - 1) (m.drop 1)=m.drop 1:=List.take_of_length_le (by simp)
    have htn:(m.drop 1).length=n:=by simp [hml]
    have ht2:List.take n m.tail=m.tail:=List.take_of_length_le (by simp [hml])
    refine Run.keep [0,2,3,4,5,6,7,15,16,17,26,27,28] ?_;simp only [AK,Nat.reduceBEq]
    refine Run.le (Le.sub (fr':=[(0,true,.v (.sl false (.row false) m)),(2,true,.v (.int .i64 0)),(3,true,.v (.int .i64 (detS n m j))),(4,true,.v (.int .i64 (sgn j))),(5,true,.v (.int .i64 j)),(6,true,.v (.int .i64 ((m.getD 0 []).getD j 0))),(7,true,.v (.own 0 0)),(15,true,.v (.sl false .int (m.getD 0 []))),(16,true,.v (.int .i64 (n+1:Nat))),(17,true,.v (.int .i64 j)),(26,true,.v (.sl false (.row false) (m.drop 1))),(27,true,.v (.int .i64 n)),(28,true,.v (.int .i64 (0:Nat)))]) rfl (by simp only [AW7,simprocAttr];simp [htl,htn,hml,ht2])) ?_
    refine Run.loopI (X:=Nat×List (Nat×List Int)) (fun k=>⟨58,[(0,true,.v (.sl false (.row false) m)),(2,true,.v (.int .i64 0)),(3,true,.v (.int .i64 ((detS n m j)))),(4,true,.v (.int .i64 ((sgn j)))),(5,true,.v (.int .i64 j)),(6,true,.v (.int .i64 (((m.getD 0 []).getD j 0)))),(7,true,.v (.own 0 0)),(15,true,.v (.sl false .int ((m.getD 0 [])))),(16,true,.v (.int .i64 (((n+1:Nat))))),(17,true,.v (.int .i64 j)),(26,true,.v (.sl false (.row false) ((m.drop 1)))),(27,true,.v (.int .i64 n)),(28,true,.v (.int .i64 (k.1)))],[.arr .lrow (k.2) 0 true]⟩) (fun k=>k.1<=n/\k.2.map (·.2)=((m.drop 1).take k.1).map (fun r=>r.take j ++ r.drop (j+1))) (fun k=>n - k.1) ((0,[])) (⟨nz0 _,rfl⟩) ?_ ?_
    ·exact Le.s
    rintro⟨k,ys⟩ ⟨hk,hy⟩ ih2
    try simp only []
    simp only []at hk hy
    have hyl:ys.length=k:=by have:=congrArg List.length hy;simp at this;omega
    refine Run.R ?_
    refine Run.c ?_ ?_
    ·intro h2
     have h2:k < n:=by simp at h2;omega
     have hmem:(m.drop 1).getD k []∈m:=by
      have:(m.drop 1).getD k []=m.getD (k+1) []:=by simp [gdE,List.getElem?_drop,Nat.add_comm]
      rw [this]
      simp [gdE,show k+1 < m.length by omega]
     have hrl:=(hm.2 _ hmem).1
     refine Run.R ?_
     refine Run.keep [0,2,3,4,5,6,7,9,15,16,17,26,27,28] ?_;simp only [AK,Nat.reduceBEq]
     refine Run.nq ?_;refine Run.regionD hC true [0,2,3,4,6,7,8,9,1,5,10,11,12,13] (by kernel_rfl) (fun K hK=>?_);simp(disch:=omega) only [wrap_id,AW7,simprocAttr,hX];(repeat(with_reducible refine And.intro ?_ ?_);exact vc0)
     intro l hl
     (repeat(with_reducible refine And.intro ?_ ?_);exact vc0)
     refine wE ?_;clear hK K
     refine Run.RW ?_
     refine Run.k [0,2,3,4,5,6,7,15,16,17,26,27,28] [0] ?_
     refine Run.le ?_ (ih2 (k+1,ys ++ [(l,((m.drop 1).getD k []).take j ++ ((m.drop 1).getD k []).drop (j+1))]) ⟨h2,by simp only [List.map_append,hy,List.map_cons,List.map_nil];exact map_snoc (fun r:List Int=>r.take j ++ r.drop (j+1)) (m.drop 1) [] k om⟩ (by simp only [];omega))
     have e1:List.take (j - 0) (List.drop 0 ((List.drop 1 m).getD k [])) ++ List.take (List.length ((List.drop 1 m).getD k []) - ((j:Int)+1).toNat) (List.drop ((j:Int)+1).toNat ((List.drop 1 m).getD k []))=((m.drop 1).getD k []).take j ++ ((m.drop 1).getD k []).drop (j+1):=by
      rw [Nat.sub_zero,List.drop_zero,show((j:Int)+1).toNat=j+1 by omega,List.take_of_length_le (l:=List.drop (j+1) _) (by simp)]
     exact Le.sub (by rw [e1]) (by simp only [AW7,simprocAttr];try simp)
    ·intro h2
     have h2:k=n:=by simp at h2;omega
     rw [List.take_of_length_le om]at hy
     have hy:ys.map (·.2)=minorL m j:=hy
     refine Run.x ?_
     refine Run.g fun K hK=>?_
     refine FunA.callW hP hT (ihn (minorL m j) om hsq) (by simp only [AW7,simprocAttr];exact hy.symm) ?_
     rintro rs o ⟨rfl,rfl⟩
     simp(disch:=omega) only [wrap_id,AW7,simprocAttr,hX]
     (repeat(with_reducible refine And.intro ?_ ?_);exact vc0)
     refine wE ?_;clear hK K
     rw [<- hsn]
     refine Run.keep [0,2,3,4,15,16,17] ?_;simp only [AK,Nat.reduceBEq]
     refine Run.RW ?_
     refine Run.RW ?_
     refine Run.k [0,2,3,4,15,16,17] [] ?_
     refine Run.le ?_ (ih (j+1) om om)
     exact Le.sub (by rfl) (by rw [hss];simp only [AW7,simprocAttr];simp)
   ·intro hx
    have hx:(m.getD 0 []).getD j 0=0:=by simpa using hx
    rw [hx]at hsn
    simp only [Int.mul_zero,Int.zero_mul,Int.add_zero]at hsn
    refine Run.RW ?_
    refine Run.RW ?_
    refine Run.le ?_ (ih (j+1) om om)
    exact Le.sub (by rfl) (by rw [hss,hsn];simp only [AW7,simprocAttr];simp)
  ·intro h
   have h:j=n+1:=by simp at h;omega
   subst h
   refine Run.x ?_
   refine Run.R ?_
   refine Run.r [2] ?_
   exact⟨rfl,rfl⟩
theorem setL_letters:∀ k:Nat,k < 16->∀ n:Nat,n<=4->k < 2 ^ n->∀ x∈setL k,0<=x/\x < (n:Int):=by decide
theorem setL_len:∀ k:Nat,k < 16->(setL k).length<=4:=by decide
theorem pow_le16:∀ n:Nat,n<=4->2 ^ n<=16:=by decide
theorem pick_sq {c:LL} (hc:CartanP c) {s:LI} (hs:letters c.length s):Sq s.length (pick c s):=by
 refine⟨by simp [pick],fun r hr=>?_⟩
 simp only [pick,List.mem_map]at hr
 obtain⟨i,hi,rfl⟩:=hr
 refine⟨by simp,fun x hx=>?_⟩
 simp only [List.mem_map]at hx
 obtain⟨j,hj,rfl⟩:=hx
 obtain⟨a1,a2⟩:=hs i hi
 obtain⟨b1,b2⟩:=hs j hj
 have:=ent_le hc i.toNat j.toNat om om
 omega
def minors (c:LL) (k:Nat):List Int:=(List.range k).map fun i=>mn c (i+1)
theorem minors_succ (c:LL) (k:Nat):minors c k ++ [mn c (k+1)]=minors c (k+1):=by simp [minors,List.range_succ]
theorem minors_len (c:LL) (k:Nat):(minors c k).length=k:=by simp [minors]
theorem minors_get (c:LL) (n k:Nat) (h:k < n):(minors c n).getD k 0=mn c (k+1):=by simp [minors,gdE,h]
noncomputable def pmin (c:LL):List Int:=if isC c then minors c (2 ^ c.length - 1)else []
theorem shl_one:∀ n:Nat,n<=4->IntKind.i64.wrap (1*2 ^ min n IntKind.i64.bits)=((2 ^ n:Nat):Int):=by decide
theorem c_impl_PrincipalMinors (c:LL):FunA B 174 [.sl false (.row false) c] (fun rs o=>rs=[.own 0 0]/\o=[.arr .int (pmin c) 0 true]):=by
 refine wk Tryz.call174 Tryz.func174 rfl Tryz.ntmps174 fun C hC hP hT hfn hpin hfin hX=>wW ?_
 refine Run.R ?_
 refine Run.R ?_
 refine Run.g fun K hK=>?_
 refine FunA.e hP hT (c_impl_IsCartan c) ?_
 refine wE ?_;clear hK K
 refine Run.c ?_ ?_
 ·intro hb
  have hb:isC c=false:=by simpa using hb
  have hp:pmin c=[]:=by simp [pmin,hb]
  refine Run.R ?_
  refine Run.r [2] ?_
  exact⟨rfl,by rw [hp]⟩
 ·intro hb
  have hb:isC c=true:=by simpa using hb
  have hc:=isC_iff.1 hb
  have hn:=hc.2.1
  have hn1:=hc.1
  have hsh:=shl_one c.length hn
  have hpw:=pow_le16 c.length hn
  have hp1:1<=2 ^ c.length:=Nat.one_le_two_pow
  refine Run.R ?_
  refine Run.le (Le.sub (fr':=[(0,true,.v (.sl false (.row false) c)),(2,true,.v .nils),(3,true,.v (.own 0 0)),(4,true,.v (.int .i64 ((0+1:Nat))))]) rfl (by simp only [AW7,simprocAttr];try simp)) ?_
  refine Run.loopI (X:=Nat) (fun k=>⟨26,[(0,true,.v (.sl false (.row false) c)),(2,true,.v (.nils)),(3,true,.v (.own 0 0)),(4,true,.v (.int .i64 (((k+1:Nat)))))],[.arr .int ((minors c k)) 0 true]⟩) (fun k=>k+1<=2 ^ c.length) (fun k=>2 ^ c.length - k) (0) om ?_ ?_
  ·exact Le.s
  rintro k hk ih
  try simp only []
  have hml:=minors_len c k
  refine Run.g fun K hK=>?_
  simp only [hsh]
  refine wE ?_;clear hK K
  refine Run.c ?_ ?_
  ·intro h
   have h:k+1 < 2 ^ c.length:=Int.ofNat_lt.1 (of_decide_eq_true h)
   have hl:=setL_letters (k+1) om c.length hn h
   have hll:=setL_len (k+1) om
   have hsq:=pick_sq hc hl
   refine Run.g fun K hK=>?_
   refine FunA.e hP hT (c_impl_setOf (k+1) om) ?_
   refine FunA.cW hP hT (c_impl_picked c (setL (k+1)) hn hc.2.2.1 hl om) ?_
   rintro rs o ⟨rfl,ys,hy,rfl⟩
   refine wW ?_
   refine FunA.callW hP hT (c_impl_determinant (setL (k+1)).length (pick c (setL (k+1))) hll hsq) (by simp only [AW7,simprocAttr];exact hy.symm) ?_
   rintro rs o ⟨rfl,rfl⟩
   refine wF ?_;clear hK K
   refine Run.RW ?_
   refine Run.k [0,2,3,4] [0] ?_
   refine Run.le ?_ (ih (k+1) om om)
   exact Le.sub (by rw [<- minors_succ];rfl) (by simp only [AW7,simprocAttr];try simp)
  ·intro h
   have h:k+1=2 ^ c.length:=by have h:=of_decide_eq_false h;rw [Int.ofNat_lt]at h;omega
   have hp:pmin c=minors c k:=by simp only [pmin,hb,if_true];rw [show 2 ^ c.length - 1=k by omega]
   refine Run.x ?_
   refine Run.R ?_
   refine Run.r [2] ?_
   exact⟨rfl,by rw [hp]⟩
theorem c_impl_WitnessOf (c:LL):FunA B 140 [.sl false (.row false) c] (fun rs o=>rs=[.own 0 0]/\∃ xs,(xs=[]↔∀ k,k < (pmin c).length->0 < (pmin c).getD k 0)/\xs.length<=4/\o=[.arr .int xs 0 true]):=by
 have hpl:(pmin c).length<=15:=by
  unfold pmin
  split
  ·rename_i hb
   have hc:=isC_iff.1 hb
   have:=pow_le16 c.length hc.2.1
   rw [minors_len];omega
  ·simp
 refine wk Tryz.call140 Tryz.func140 rfl Tryz.ntmps140 fun C hC hP hT hfn hpin hfin hX=>wW ?_
 refine Run.R ?_
 refine Run.g fun K hK=>?_
 refine FunA.e hP hT (c_impl_PrincipalMinors c) ?_
 refine wE ?_;clear hK K
 refine Run.loopI (X:=Nat) (fun k=>⟨20,[(0,true,.v (.sl false (.row false) c)),(2,true,.v (.nils)),(6,true,.v (.own 0 0)),(7,true,.v (.int .i64 ((pmin c).length))),(8,true,.v (.int .i64 k))],[.arr .int ((pmin c)) 0 true]⟩) (fun k=>k<=(pmin c).length/\∀ j,j < k->0 < (pmin c).getD j 0) (fun k=>(pmin c).length - k) (0) (⟨nz0 _,fun j hj=>by omega⟩) ?_ ?_
 ·exact Le.s
 rintro k ⟨hk,hpos⟩ ih
 try simp only []
 refine Run.R ?_
 refine Run.c ?_ ?_
 ·intro h
  have h:k < (pmin c).length:=by simpa using h
  refine Run.R ?_
  refine Run.R ?_
  refine Run.c ?_ ?_
  ·intro h2
   have h2:(pmin c).getD k 0<=0:=by simpa using h2
   refine Run.nq ?_;refine Run.regionW hC (fun K hK=>?_);refine wWW ?_
   refine FunA.callW hP hT (c_impl_setOf (k+1) om) (by simp only [AW7,simprocAttr];simp) ?_
   rintro rs o ⟨rfl,rfl⟩
   refine wF ?_;clear hK K
   refine Run.k [2] [1] ?_
   refine Run.r [2] ?_
   refine⟨rfl,setL (k+1),⟨fun he=>absurd he (setL_ne (k+1) om om),fun hall=>?_⟩,setL_len (k+1) om,rfl⟩
   have:=hall k h
   omega
  ·intro h2
   have h2:0 < (pmin c).getD k 0:=by simp at h2;simpa [gdE] using h2
   refine Run.RW ?_
   refine Run.le ?_ (ih (k+1) ⟨h,fun j hj=>by rcases Nat.lt_or_ge j k with q | q;exact hpos j q;rw [show j=k by omega];exact h2⟩ om)
   exact Le.sub (by rfl) (by simp only [AW7,simprocAttr];try simp)
 ·intro h
  have h:k=(pmin c).length:=by simp at h;omega
  subst h
  refine Run.x ?_
  refine Run.R ?_
  refine Run.k [2] [1] ?_
  refine Run.r [2] ?_
  exact⟨rfl,[],⟨fun _=>hpos,fun _=>rfl⟩,by simp,rfl⟩
open Classical in
noncomputable def isF (c:LL):Bool:=decide (FinP c)
theorem isF_iff {c:LL}:isF c=true↔FinP c:=by simp [isF]
theorem isF_pmin {c:LL} (hb:isC c=true) {xs:LI} (h:xs=[]↔∀ k,k < (pmin c).length->0 < (pmin c).getD k 0):isF c=((xs.length:Int) == 0):=by
 have e:FinP c↔xs=[]:=by
  rw [h]
  have hp:pmin c=minors c (2 ^ c.length - 1):=by simp [pmin,hb]
  rw [hp,minors_len]
  constructor
  ·rintro⟨_,hf⟩ k hk
   rw [minors_get c _ k hk]
   exact hf (k+1) om om
  ·intro hf
   refine⟨isC_iff.1 hb,fun k h1 h2=>?_⟩
   have:=hf (k - 1) om
   rw [minors_get c _ _ om,show k - 1+1=k by omega]at this
   exact this
 cases hx:isF c with
 | true=>
  have:=e.1 (isF_iff.1 hx)
  subst this;rfl
 | false=>
  have hn:xs≠[]:=fun hh=>by rw [isF_iff.2 (e.2 hh)]at hx;cases hx
  have:xs.length≠0:=fun hh=>hn (nilZ hh)
  symm
  simp [hn]
theorem isF_not {c:LL} (hb:isC c=false):isF c=false:=by
 cases hx:isF c with
 | false=>rfl
 | true=>rw [isC_true (isF_iff.1 hx).1]at hb;cases hb
theorem c_impl_IsFinite (c:LL):FunA B 97 [.sl false (.row false) c] (fun rs o=>rs=[.bool (isF c)]/\o=[]):=by
 refine wk Tryz.call97 Tryz.func97 rfl Tryz.ntmps97 fun C hC hP hT hfn hpin hfin hX=>wW ?_
 refine Run.R ?_
 refine Run.g fun K hK=>?_
 refine FunA.e hP hT (c_impl_IsCartan c) ?_
 cases hb:isC c with
 | false=>
  have hf:=isF_not hb
  refine wW ?_
  refine .inl (CallG.off (.sl false .int []) ?_)
  refine wF ?_;clear hK K
  refine Run.r [2] ?_
  simp [hf]
 | true=>
  refine .inr ⟨rfl,?_⟩
  refine FunA.cW hP hT (c_impl_WitnessOf c) ?_
  rintro rs o ⟨rfl,xs,hxs,hl,rfl⟩
  have hf:=isF_pmin hb hxs
  refine wF ?_;clear hK K
  refine Run.k [2] [] ?_
  refine Run.r [2] ?_
  simp [hf]
end Go.Proofs.YtcinngodeoidnaaGreat
