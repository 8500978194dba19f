/- The matrices of the named types: impl.TypeCartan, branch by branch (written by wip/tools/gentyp.py). -/
import Derived.Test.YtcinngodeoidnaaGreatDoorB9
import Derived.Test.YtcinngodeoidnaaGreatDoorB16
import Derived.Test.YtcinngodeoidnaaGreatDoorB14
import Derived.Shelf.Sort.Plain
set_option linter.unusedVariables false
set_option linter.unusedSimpArgs false
namespace Go.Proofs.YtcinngodeoidnaaGreatDoor
open Go Go.Aw
theorem c_impl_chainR (n:Nat) (hn:n<=8):FunA B 233 [.int .i64 n] (fun rs o=>∃ ys g nn rest,(rw2 ys=chL n/\nn=true/\rest=[])/\(lb1 ys).Nodup/\rest.all flatAV=true/\rs=.own 0 g :: rest/\o=[.arr .lrow ys g nn]):=by
 refine wk Tryz.call233 Tryz.func233 rfl Tryz.ntmps233 fun C hC hP hT hfn hpin hfin hX=>wW ?_
 refine Run.R ?_
 refine Run.R ?_
 refine Run.R ?_
 refine Run.loopI (X:=List (Nat×List Int)×Nat) (fun y=>⟨36,[(0,true,.v (.int .i64 n)),(3,true,.v (.own 0 0)),(7,true,.v (.int .i64 n)),(8,true,.v (.int .i64 (y.2)))],[.arr .lrow (y.1) 0 true]⟩) (fun y=>y.2<=n/\rw2 y.1=(List.range y.2).map (chR n)/\(lb1 y.1).Nodup) (fun y=>n - y.2) (([],0)) (⟨nz0 _,rfl,by simp [lb1]⟩) ?_ ?_
 ·exact Le.s
 rintro⟨ys,i⟩ ⟨hi,hE,hN⟩ ih
 try simp only []
 simp only []at hi hE hN
 refine Run.R ?_
 refine Run.c ?_ ?_
 rotate_left
 ·intro h
  have h:i=n:=by rw [dfE]at h;omega
  subst h
  refine Run.x ?_
  refine Run.R ?_
  refine Run.r [2] ?_
  exact⟨ys,0,true,[],⟨hE,rfl,rfl⟩,hN,rfl,rfl,rfl⟩
 intro h
 have h:i < n:=by rw [dtE]at h;omega
 have e1:((i:Int) - 1).toNat=i - 1:=by omega
 have e2:((i:Int)+1).toNat=i+1:=by omega
 have hyl:ys.length=i:=by
  have:(rw2 ys).length=ys.length:=by simp [rw2]
  rw [hE]at this;simpa using this.symm
 have hch:=chR_eq n i h
 refine Run.R ?_
 refine Run.R ?_
 refine Run.R ?_
 refine Run.R ?_
 refine Run.c ?_ ?_
 ·intro h1
  have h1:0 < i:=by rw [dtE]at h1;omega
  refine Run.RW ?_
  refine Run.RW ?_
  refine Run.c ?_ ?_
  ·intro h2
   have h2:i+1 < n:=by rw [dtE]at h2;omega
   rw [if_pos h2,if_pos h1]at hch
   refine Run.RW ?_
   rw [e1,e2,hch]
   refine Run.k [0,3,4,5,7,8] [0,1] ?_
   refine Run.tolr 1 [0,3,4,5,7,8] rfl (fun q hq=>?_);simp only [AL,frV_cons,frV_nil,AW7,simprocAttr]
   refine Run.R ?_
   refine Run.k [0,3,7,8] [0] ?_
   have hnd2:(lb1 (ys ++ [(q,chR n i)])).Nodup:=by
    rw [lb1_app,List.nodup_append]
    refine⟨hN,by simp [lb1],fun a ha b hb=>?_⟩
    simp [lb1]at hb
    subst hb
    obtain⟨p,hp,rfl⟩:=List.mem_map.1 ha
    exact hq _ (mcS ..) _ _ _ rfl p hp
   have hE2:rw2 (ys ++ [(q,chR n i)])=(List.range (i+1)).map (chR n):=by
    rw [chL_snoc,<- hE];simp [rw2]
   refine Run.RW ?_
   exact Run.j (ih ((ys ++ [(q,chR n i)],i+1)) (⟨h,hE2,hnd2⟩) mz)
  intro h2
  have h2:¬i+1 < n:=by rw [dfE]at h2;omega
  rw [if_neg h2,if_pos h1]at hch
  rw [e1,hch]
  refine Run.k [0,3,4,5,7,8] [0,1] ?_
  refine Run.tolr 1 [0,3,4,5,7,8] rfl (fun q hq=>?_);simp only [AL,frV_cons,frV_nil,AW7,simprocAttr]
  refine Run.R ?_
  refine Run.k [0,3,7,8] [0] ?_
  have hnd2:(lb1 (ys ++ [(q,chR n i)])).Nodup:=by
   rw [lb1_app,List.nodup_append]
   refine⟨hN,by simp [lb1],fun a ha b hb=>?_⟩
   simp [lb1]at hb
   subst hb
   obtain⟨p,hp,rfl⟩:=List.mem_map.1 ha
   exact hq _ (mcS ..) _ _ _ rfl p hp
  have hE2:rw2 (ys ++ [(q,chR n i)])=(List.range (i+1)).map (chR n):=by
   rw [chL_snoc,<- hE];simp [rw2]
  refine Run.RW ?_
  exact Run.j (ih ((ys ++ [(q,chR n i)],i+1)) (⟨h,hE2,hnd2⟩) mz)
 intro h1
 have h1:¬0 < i:=by rw [dfE]at h1;omega
 refine Run.RW ?_
 refine Run.c ?_ ?_
 ·intro h2
  have h2:i+1 < n:=by rw [dtE]at h2;omega
  rw [if_pos h2,if_neg h1]at hch
  refine Run.RW ?_
  rw [e2,hch]
  refine Run.k [0,3,4,5,7,8] [0,1] ?_
  refine Run.tolr 1 [0,3,4,5,7,8] rfl (fun q hq=>?_);simp only [AL,frV_cons,frV_nil,AW7,simprocAttr]
  refine Run.R ?_
  refine Run.k [0,3,7,8] [0] ?_
  have hnd2:(lb1 (ys ++ [(q,chR n i)])).Nodup:=by
   rw [lb1_app,List.nodup_append]
   refine⟨hN,by simp [lb1],fun a ha b hb=>?_⟩
   simp [lb1]at hb
   subst hb
   obtain⟨p,hp,rfl⟩:=List.mem_map.1 ha
   exact hq _ (mcS ..) _ _ _ rfl p hp
  have hE2:rw2 (ys ++ [(q,chR n i)])=(List.range (i+1)).map (chR n):=by
   rw [chL_snoc,<- hE];simp [rw2]
  refine Run.RW ?_
  exact Run.j (ih ((ys ++ [(q,chR n i)],i+1)) (⟨h,hE2,hnd2⟩) mz)
 intro h2
 have h2:¬i+1 < n:=by rw [dfE]at h2;omega
 rw [if_neg h2,if_neg h1]at hch
 rw [hch]
 refine Run.k [0,3,4,5,7,8] [0,1] ?_
 refine Run.tolr 1 [0,3,4,5,7,8] rfl (fun q hq=>?_);simp only [AL,frV_cons,frV_nil,AW7,simprocAttr]
 refine Run.R ?_
 refine Run.k [0,3,7,8] [0] ?_
 have hnd2:(lb1 (ys ++ [(q,chR n i)])).Nodup:=by
  rw [lb1_app,List.nodup_append]
  refine⟨hN,by simp [lb1],fun a ha b hb=>?_⟩
  simp [lb1]at hb
  subst hb
  obtain⟨p,hp,rfl⟩:=List.mem_map.1 ha
  exact hq _ (mcS ..) _ _ _ rfl p hp
 have hE2:rw2 (ys ++ [(q,chR n i)])=(List.range (i+1)).map (chR n):=by
  rw [chL_snoc,<- hE];simp [rw2]
 refine Run.RW ?_
 exact Run.j (ih ((ys ++ [(q,chR n i)],i+1)) (⟨h,hE2,hnd2⟩) mz)
theorem c_impl_chain (n:Nat) (hn:n<=8):FunA B 233 [.int .i64 n] (fun rs o=>rs=[.own 0 0]/\∃ hs,o=[.mat hs (chL n) 0 true]):=
 (FunA.mat (by rfl) (post:=fun rows nn rest=>rows=chL n/\nn=true/\rest=[]) (c_impl_chainR n hn)).mono fun rs o ⟨hs,rows,nn,rest,⟨h1,h2,h3⟩,h4,h5,h6⟩=>by subst h1 h2 h3;exact⟨h5,hs,h6⟩
def withL:List (List Int)->List Int->List (List Int)
 | c,i :: j :: a :: r=>withL (set1 c i.toNat j.toNat a) r
 | c,_=>c
def okW (n:Nat):List Int->Bool
 | i :: j :: _ :: r=>decide (0<=i) && decide (i < n) && decide (0<=j) && decide (j < n) && okW n r
 | _=>true
theorem withL_drop (n:Nat) (c:LL) (es:LI) (m:Nat) (h:m+2 < es.length) (hok:okW n (es.drop m)=true):(0<=es.getD m 0/\es.getD m 0 < n)/\(0<=es.getD (m+1) 0/\es.getD (m+1) 0 < n)/\okW n (es.drop (m+3))=true/\withL c (es.drop m)=withL (set1 c (es.getD m 0).toNat (es.getD (m+1) 0).toNat (es.getD (m+2) 0)) (es.drop (m+3)):=by
 rw [List.drop_eq_getElem_cons (by omega:m < es.length),List.drop_eq_getElem_cons (by omega:m+1 < es.length),List.drop_eq_getElem_cons (by omega:m+2 < es.length)]at hok ⊢
 have e0:es[m]=es.getD m 0:=by simp [gdE,show m < es.length by omega]
 have e1:es[m+1]=es.getD (m+1) 0:=by simp [gdE,show m+1 < es.length by omega]
 have e2:es[m+2]=es.getD (m+2) 0:=by simp [gdE,show m+2 < es.length by omega]
 simp only [okW,bAnd,dtE,e0,e1]at hok
 refine⟨⟨hok.1.1.1.1,hok.1.1.1.2⟩,⟨hok.1.1.2,hok.1.2⟩,hok.2,?_⟩
 simp only [withL,e0,e1,e2]
theorem withL_end (c:LL):∀(es:LI),es.length < 3->withL c es=c
 | [],_=>rfl
 | [_],_=>rfl
 | [_,_],_=>rfl
 | _ :: _ :: _ :: _,h=>by simp at h;omega
set_option maxHeartbeats 1000000 in
theorem c_impl_with (hs:List (Option Nat)) (c:LL) (es:LI) (hl:es.length<=100) (hc:c.length<=100) (hr:∀ k,k < c.length->(c.getD k []).length=c.length) (hok:okW c.length es=true) :
  FunO B 234 [.own 0 0,.sl false .int es] (.mat hs c 0 true) (fun rs o=>rs=[.own 0 0]/\o=[.mat hs (withL c es) 0 true]):=by
 refine FunO.walk B_ok (fn:=Tryz.f234) (fun vs w=>Tryz.call234 vs w) Tryz.func234 rfl (by rw [Tryz.ntmps234];simp) (fun C hC hP hT hΓ hbt hfn hpin hfin=>?_);have hX:=BX;rw [<- hΓ,<- hbt.1,<- hbt.2.1,<- hbt.2.2.1]at hX;rw [hT]at hX;rw [Tryz.ntmps234];simp only [AW7,simprocAttr,hX]
 refine Run.R ?_
 refine Run.R ?_
 refine Run.loopI (X:=Nat×List (List Int)) (fun x=>⟨32,[(0,true,.v (.own 0 0)),(1,true,.v (.sl false .int es)),(4,true,.v .nils),(5,true,.v (.int .i64 x.1))],[.mat hs x.2 0 true]⟩) (fun x=>(x.1<=es.length/\x.2.length=c.length/\∀ k,k < c.length->(x.2.getD k []).length=c.length)/\okW c.length (es.drop x.1)=true/\withL x.2 (es.drop x.1)=withL c es) (fun x=>es.length - x.1) (0,c) ⟨⟨nz0 _,rfl,hr⟩,hok,rfl⟩ ?_ ?_
 ·exact Le.sub (by rfl) (by first | exact⟨rfl,rfl,rfl,rfl⟩ | simp only [AW7,simprocAttr,hX];try simp)
 rintro⟨m,c'⟩ ⟨⟨hm,hcl,hrl⟩,hok',hE⟩ ih
 simp only []at hm hcl hrl hok' hE
 refine Run.RW ?_
 refine Run.c ?_ ?_
 rotate_left
 ·intro h
  have h:es.length < m+3:=by rw [dfE]at h;omega
  rw [withL_end _ _ (by simp;omega)]at hE
  subst hE
  refine Run.x ?_
  refine Run.R ?_
  refine Run.rW [4] (hfin _ _ _ rfl rfl ⟨rfl,_,_,rfl⟩ ?_)
  exact⟨rfl,rfl⟩
 intro h
 have h:m+2 < es.length:=by rw [dtE]at h;omega
 obtain⟨⟨p0,p1⟩,⟨q0,q1⟩,hok2,hst⟩:=withL_drop c.length c' es m h hok'
 rw [hE]at hst
 have t1:((m:Int)+1).toNat=m+1:=by omega
 have t2:((m:Int)+2).toNat=m+2:=by omega
 refine Run.matfact 0 rfl fun hl1 hd hz=>?_
 have hrw:=hrl (es.getD m 0).toNat om
 obtain⟨q,e1,m1,x1⟩:=mat_head (i:=(es.getD m 0).toNat) hl1 hd hz om (by rw [hrl _ om];omega)
 have hl2:hs.length=(set1 c' (es.getD m 0).toNat (es.getD (m+1) 0).toNat (es.getD (m+2) 0)).length:=by rw [set1_len];exact hl1
 have hv1:(es.getD (m+1) 0).toNat < (c'.getD (hs.idxOf (some q)) []).length:=by rw [x1,hrl _ om];omega
 have hs1:setM hs c' q (es.getD (m+1) 0).toNat (es.getD (m+2) 0)=set1 c' (es.getD m 0).toNat (es.getD (m+1) 0).toNat (es.getD (m+2) 0):=by unfold setM set1;rw [x1]
 refine Run.nq ?_;refine Run.regionD hC true [0,1,2,3,4,5,6,7,8,9,10,11,12,13,14,15,16,17,18] (by kernel_rfl) (fun K hK=>?_);simp(disch:=omega) only [wrap_id,AW7,simprocAttr,hX];(repeat(with_reducible refine And.intro ?_ ?_);exact vc0)
 rw [e1,t1,t2]
 refine wWW ?_
 refine wE ?_;clear hK K
 rw [hs1]
 refine Run.RW ?_
 refine Run.le ?_ (ih (m+3,set1 c' (es.getD m 0).toNat (es.getD (m+1) 0).toNat (es.getD (m+2) 0)) ⟨⟨by simp only [];omega,by rw [set1_len];exact hcl,fun k hk=>by rw [set1_row];exact hrl k hk⟩,hok2,hst.symm⟩ (by simp only [];omega))
 exact Le.sub (by rfl) (by simp only [AW7,simprocAttr];try simp)
set_option maxHeartbeats 2000000 in
theorem c_impl_TypeCartan (nm:List UInt8) (hm:nm∈tcN):FunA B 216 [.str nm] (fun rs o=>rs=[.own 0 0,.bool true]/\∃ hs,o=[.mat hs (tcM nm) 0 true]):=by
 refine wk Tryz.call216 Tryz.func216 rfl Tryz.ntmps216 fun C hC hP hT hfn hpin hfin hX=>wW ?_
 refine Run.R ?_
 refine Run.R ?_
 refine Run.R ?_
 refine Run.c ?_ ?_
 ·intro h
  have h:nm=[65,49]:=by simpa using h
  subst h
  refine Run.c ?_ ?_
  rotate_left
  ·intro h;exact absurd h (by decide)
  intro _
  refine Run.g fun K hK=>?_
  refine FunA.callW hP hT (c_impl_chain 1 om) (by simp only [AW7,simprocAttr];try(first | rfl | trivial)) ?_
  rintro rs o ⟨rfl,hs,rfl⟩
  refine wF ?_;clear hK K
  refine Run.k [2,3] [0] ?_
  refine Run.r [2,3] ?_
  exact⟨rfl,hs,rfl⟩
 intro n0
 have n0:¬nm=[65,49]:=by simpa using n0
 refine Run.R ?_
 refine Run.c ?_ ?_
 ·intro h
  have h:nm=[65,50]:=by simpa using h
  subst h
  refine Run.c ?_ ?_
  rotate_left
  ·intro h;exact absurd h (by decide)
  intro _
  refine Run.g fun K hK=>?_
  refine FunA.callW hP hT (c_impl_chain 2 om) (by simp only [AW7,simprocAttr];try(first | rfl | trivial)) ?_
  rintro rs o ⟨rfl,hs,rfl⟩
  refine wF ?_;clear hK K
  refine Run.k [2,3] [0] ?_
  refine Run.r [2,3] ?_
  exact⟨rfl,hs,rfl⟩
 intro n1
 have n1:¬nm=[65,50]:=by simpa using n1
 refine Run.R ?_
 refine Run.c ?_ ?_
 ·intro h
  have h:nm=[65,51]:=by simpa using h
  subst h
  refine Run.c ?_ ?_
  rotate_left
  ·intro h;exact absurd h (by decide)
  intro _
  refine Run.g fun K hK=>?_
  refine FunA.callW hP hT (c_impl_chain 3 om) (by simp only [AW7,simprocAttr];try(first | rfl | trivial)) ?_
  rintro rs o ⟨rfl,hs,rfl⟩
  refine wF ?_;clear hK K
  refine Run.k [2,3] [0] ?_
  refine Run.r [2,3] ?_
  exact⟨rfl,hs,rfl⟩
 intro n2
 have n2:¬nm=[65,51]:=by simpa using n2
 refine Run.R ?_
 refine Run.c ?_ ?_
 ·intro h
  have h:nm=[65,52]:=by simpa using h
  subst h
  refine Run.g fun K hK=>?_
  refine FunA.callW hP hT (c_impl_chain 4 om) (by simp only [AW7,simprocAttr];try(first | rfl | trivial)) ?_
  rintro rs o ⟨rfl,hs,rfl⟩
  refine wF ?_;clear hK K
  refine Run.k [2,3] [0] ?_
  refine Run.r [2,3] ?_
  exact⟨rfl,hs,rfl⟩
 intro n3
 have n3:¬nm=[65,52]:=by simpa using n3
 refine Run.R ?_
 refine Run.c ?_ ?_
 ·intro h
  have h:nm=[66,50]:=by simpa using h
  subst h
  refine Run.c ?_ ?_
  rotate_left
  ·intro h;exact absurd h (by decide)
  intro _
  refine Run.R ?_
  refine Run.g fun K hK=>?_
  refine FunA.callW hP hT (c_impl_chain 2 om) (by simp only [AW7,simprocAttr];try(first | rfl | trivial)) ?_
  rintro rs o ⟨rfl,hs,rfl⟩
  refine wW ?_
  refine FunO.callMat hP hT (c_impl_with hs (chL 2) [(1),(0),(-2)] (by decide) (by decide) (by decide) (by decide)) 0 0 (by simp only [AW7,simprocAttr];rfl) (by simp) (by simp only [AW7,simprocAttr];try(first | rfl | trivial)) ?_
  rintro rs o' obs' ⟨rfl,ho⟩
  injection ho with ho1 ho2;subst ho1 ho2
  refine wF ?_;clear hK K
  refine Run.k [2,3] [0] ?_
  refine Run.r [2,3] ?_
  exact⟨rfl,hs,rfl⟩
 intro n4
 have n4:¬nm=[66,50]:=by simpa using n4
 refine Run.R ?_
 refine Run.c ?_ ?_
 ·intro h
  have h:nm=[66,51]:=by simpa using h
  subst h
  refine Run.c ?_ ?_
  rotate_left
  ·intro h;exact absurd h (by decide)
  intro _
  refine Run.R ?_
  refine Run.g fun K hK=>?_
  refine FunA.callW hP hT (c_impl_chain 3 om) (by simp only [AW7,simprocAttr];try(first | rfl | trivial)) ?_
  rintro rs o ⟨rfl,hs,rfl⟩
  refine wW ?_
  refine FunO.callMat hP hT (c_impl_with hs (chL 3) [(2),(1),(-2)] (by decide) (by decide) (by decide) (by decide)) 0 0 (by simp only [AW7,simprocAttr];rfl) (by simp) (by simp only [AW7,simprocAttr];try(first | rfl | trivial)) ?_
  rintro rs o' obs' ⟨rfl,ho⟩
  injection ho with ho1 ho2;subst ho1 ho2
  refine wF ?_;clear hK K
  refine Run.k [2,3] [0] ?_
  refine Run.r [2,3] ?_
  exact⟨rfl,hs,rfl⟩
 intro n5
 have n5:¬nm=[66,51]:=by simpa using n5
 refine Run.R ?_
 refine Run.c ?_ ?_
 ·intro h
  have h:nm=[66,52]:=by simpa using h
  subst h
  refine Run.R ?_
  refine Run.g fun K hK=>?_
  refine FunA.callW hP hT (c_impl_chain 4 om) (by simp only [AW7,simprocAttr];try(first | rfl | trivial)) ?_
  rintro rs o ⟨rfl,hs,rfl⟩
  refine wW ?_
  refine FunO.callMat hP hT (c_impl_with hs (chL 4) [(3),(2),(-2)] (by decide) (by decide) (by decide) (by decide)) 0 0 (by simp only [AW7,simprocAttr];rfl) (by simp) (by simp only [AW7,simprocAttr];try(first | rfl | trivial)) ?_
  rintro rs o' obs' ⟨rfl,ho⟩
  injection ho with ho1 ho2;subst ho1 ho2
  refine wF ?_;clear hK K
  refine Run.k [2,3] [0] ?_
  refine Run.r [2,3] ?_
  exact⟨rfl,hs,rfl⟩
 intro n6
 have n6:¬nm=[66,52]:=by simpa using n6
 refine Run.R ?_
 refine Run.c ?_ ?_
 ·intro h
  have h:nm=[67,51]:=by simpa using h
  subst h
  refine Run.c ?_ ?_
  rotate_left
  ·intro h;exact absurd h (by decide)
  intro _
  refine Run.R ?_
  refine Run.g fun K hK=>?_
  refine FunA.callW hP hT (c_impl_chain 3 om) (by simp only [AW7,simprocAttr];try(first | rfl | trivial)) ?_
  rintro rs o ⟨rfl,hs,rfl⟩
  refine wW ?_
  refine FunO.callMat hP hT (c_impl_with hs (chL 3) [(1),(2),(-2)] (by decide) (by decide) (by decide) (by decide)) 0 0 (by simp only [AW7,simprocAttr];rfl) (by simp) (by simp only [AW7,simprocAttr];try(first | rfl | trivial)) ?_
  rintro rs o' obs' ⟨rfl,ho⟩
  injection ho with ho1 ho2;subst ho1 ho2
  refine wF ?_;clear hK K
  refine Run.k [2,3] [0] ?_
  refine Run.r [2,3] ?_
  exact⟨rfl,hs,rfl⟩
 intro n7
 have n7:¬nm=[67,51]:=by simpa using n7
 refine Run.R ?_
 refine Run.c ?_ ?_
 ·intro h
  have h:nm=[67,52]:=by simpa using h
  subst h
  refine Run.R ?_
  refine Run.g fun K hK=>?_
  refine FunA.callW hP hT (c_impl_chain 4 om) (by simp only [AW7,simprocAttr];try(first | rfl | trivial)) ?_
  rintro rs o ⟨rfl,hs,rfl⟩
  refine wW ?_
  refine FunO.callMat hP hT (c_impl_with hs (chL 4) [(2),(3),(-2)] (by decide) (by decide) (by decide) (by decide)) 0 0 (by simp only [AW7,simprocAttr];rfl) (by simp) (by simp only [AW7,simprocAttr];try(first | rfl | trivial)) ?_
  rintro rs o' obs' ⟨rfl,ho⟩
  injection ho with ho1 ho2;subst ho1 ho2
  refine wF ?_;clear hK K
  refine Run.k [2,3] [0] ?_
  refine Run.r [2,3] ?_
  exact⟨rfl,hs,rfl⟩
 intro n8
 have n8:¬nm=[67,52]:=by simpa using n8
 refine Run.R ?_
 refine Run.c ?_ ?_
 ·intro h
  have h:nm=[68,52]:=by simpa using h
  subst h
  refine Run.g fun K hK=>?_
  refine FunA.callW hP hT (c_impl_chain 4 om) (by simp only [AW7,simprocAttr];try(first | rfl | trivial)) ?_
  rintro rs o ⟨rfl,hs,rfl⟩
  refine wW ?_
  refine FunO.callMat hP hT (c_impl_with hs (chL 4) [(2),(3),(0),(3),(2),(0),(1),(3),(-1),(3),(1),(-1)] (by decide) (by decide) (by decide) (by decide)) 0 0 (by simp only [AW7,simprocAttr];rfl) (by simp) (by simp only [AW7,simprocAttr];try(first | rfl | trivial)) ?_
  rintro rs o' obs' ⟨rfl,ho⟩
  injection ho with ho1 ho2;subst ho1 ho2
  refine wF ?_;clear hK K
  refine Run.k [2,3] [0] ?_
  refine Run.r [2,3] ?_
  exact⟨rfl,hs,rfl⟩
 intro n9
 have n9:¬nm=[68,52]:=by simpa using n9
 refine Run.R ?_
 refine Run.c ?_ ?_
 ·intro h
  have h:nm=[70,52]:=by simpa using h
  subst h
  refine Run.g fun K hK=>?_
  refine FunA.callW hP hT (c_impl_chain 4 om) (by simp only [AW7,simprocAttr];try(first | rfl | trivial)) ?_
  rintro rs o ⟨rfl,hs,rfl⟩
  refine wW ?_
  refine FunO.callMat hP hT (c_impl_with hs (chL 4) [(2),(1),(-2)] (by decide) (by decide) (by decide) (by decide)) 0 0 (by simp only [AW7,simprocAttr];rfl) (by simp) (by simp only [AW7,simprocAttr];try(first | rfl | trivial)) ?_
  rintro rs o' obs' ⟨rfl,ho⟩
  injection ho with ho1 ho2;subst ho1 ho2
  refine wF ?_;clear hK K
  refine Run.k [2,3] [0] ?_
  refine Run.r [2,3] ?_
  exact⟨rfl,hs,rfl⟩
 intro n10
 have n10:¬nm=[70,52]:=by simpa using n10
 refine Run.R ?_
 refine Run.c ?_ ?_
 ·intro h
  have h:nm=[71,50]:=by simpa using h
  subst h
  refine Run.g fun K hK=>?_
  refine FunA.callW hP hT (c_impl_chain 2 om) (by simp only [AW7,simprocAttr];try(first | rfl | trivial)) ?_
  rintro rs o ⟨rfl,hs,rfl⟩
  refine wW ?_
  refine FunO.callMat hP hT (c_impl_with hs (chL 2) [(1),(0),(-3)] (by decide) (by decide) (by decide) (by decide)) 0 0 (by simp only [AW7,simprocAttr];rfl) (by simp) (by simp only [AW7,simprocAttr];try(first | rfl | trivial)) ?_
  rintro rs o' obs' ⟨rfl,ho⟩
  injection ho with ho1 ho2;subst ho1 ho2
  refine wF ?_;clear hK K
  refine Run.k [2,3] [0] ?_
  refine Run.r [2,3] ?_
  exact⟨rfl,hs,rfl⟩
 intro n11
 have n11:¬nm=[71,50]:=by simpa using n11
 refine Run.R ?_
 refine Run.c ?_ ?_
 ·intro h
  have h:nm=[65,49,126]:=by simpa using h
  subst h
  refine Run.g fun K hK=>?_
  refine FunA.callW hP hT (c_impl_chain 2 om) (by simp only [AW7,simprocAttr];try(first | rfl | trivial)) ?_
  rintro rs o ⟨rfl,hs,rfl⟩
  refine wW ?_
  refine FunO.callMat hP hT (c_impl_with hs (chL 2) [(0),(1),(-2),(1),(0),(-2)] (by decide) (by decide) (by decide) (by decide)) 0 0 (by simp only [AW7,simprocAttr];rfl) (by simp) (by simp only [AW7,simprocAttr];try(first | rfl | trivial)) ?_
  rintro rs o' obs' ⟨rfl,ho⟩
  injection ho with ho1 ho2;subst ho1 ho2
  refine wF ?_;clear hK K
  refine Run.k [2,3] [0] ?_
  refine Run.r [2,3] ?_
  exact⟨rfl,hs,rfl⟩
 intro n12
 have n12:¬nm=[65,49,126]:=by simpa using n12
 refine Run.R ?_
 refine Run.c ?_ ?_
 ·intro h
  have h:nm=[65,50,126]:=by simpa using h
  subst h
  refine Run.g fun K hK=>?_
  refine FunA.callW hP hT (c_impl_chain 3 om) (by simp only [AW7,simprocAttr];try(first | rfl | trivial)) ?_
  rintro rs o ⟨rfl,hs,rfl⟩
  refine wW ?_
  refine FunO.callMat hP hT (c_impl_with hs (chL 3) [(0),(2),(-1),(2),(0),(-1)] (by decide) (by decide) (by decide) (by decide)) 0 0 (by simp only [AW7,simprocAttr];rfl) (by simp) (by simp only [AW7,simprocAttr];try(first | rfl | trivial)) ?_
  rintro rs o' obs' ⟨rfl,ho⟩
  injection ho with ho1 ho2;subst ho1 ho2
  refine wF ?_;clear hK K
  refine Run.k [2,3] [0] ?_
  refine Run.r [2,3] ?_
  exact⟨rfl,hs,rfl⟩
 intro n13
 have n13:¬nm=[65,50,126]:=by simpa using n13
 refine Run.R ?_
 refine Run.c ?_ ?_
 ·intro h
  have h:nm=[65,51,126]:=by simpa using h
  subst h
  refine Run.g fun K hK=>?_
  refine FunA.callW hP hT (c_impl_chain 4 om) (by simp only [AW7,simprocAttr];try(first | rfl | trivial)) ?_
  rintro rs o ⟨rfl,hs,rfl⟩
  refine wW ?_
  refine FunO.callMat hP hT (c_impl_with hs (chL 4) [(0),(3),(-1),(3),(0),(-1)] (by decide) (by decide) (by decide) (by decide)) 0 0 (by simp only [AW7,simprocAttr];rfl) (by simp) (by simp only [AW7,simprocAttr];try(first | rfl | trivial)) ?_
  rintro rs o' obs' ⟨rfl,ho⟩
  injection ho with ho1 ho2;subst ho1 ho2
  refine wF ?_;clear hK K
  refine Run.k [2,3] [0] ?_
  refine Run.r [2,3] ?_
  exact⟨rfl,hs,rfl⟩
 intro n14
 have n14:¬nm=[65,51,126]:=by simpa using n14
 refine Run.R ?_
 refine Run.c ?_ ?_
 ·intro h
  have h:nm=[67,50,126]:=by simpa using h
  subst h
  refine Run.g fun K hK=>?_
  refine FunA.callW hP hT (c_impl_chain 3 om) (by simp only [AW7,simprocAttr];try(first | rfl | trivial)) ?_
  rintro rs o ⟨rfl,hs,rfl⟩
  refine wW ?_
  refine FunO.callMat hP hT (c_impl_with hs (chL 3) [(1),(0),(-2),(1),(2),(-2)] (by decide) (by decide) (by decide) (by decide)) 0 0 (by simp only [AW7,simprocAttr];rfl) (by simp) (by simp only [AW7,simprocAttr];try(first | rfl | trivial)) ?_
  rintro rs o' obs' ⟨rfl,ho⟩
  injection ho with ho1 ho2;subst ho1 ho2
  refine wF ?_;clear hK K
  refine Run.k [2,3] [0] ?_
  refine Run.r [2,3] ?_
  exact⟨rfl,hs,rfl⟩
 intro n15
 have n15:¬nm=[67,50,126]:=by simpa using n15
 refine Run.R ?_
 refine Run.c ?_ ?_
 ·intro h
  have h:nm=[71,50,126]:=by simpa using h
  subst h
  refine Run.g fun K hK=>?_
  refine FunA.callW hP hT (c_impl_chain 3 om) (by simp only [AW7,simprocAttr];try(first | rfl | trivial)) ?_
  rintro rs o ⟨rfl,hs,rfl⟩
  refine wW ?_
  refine FunO.callMat hP hT (c_impl_with hs (chL 3) [(2),(1),(-3)] (by decide) (by decide) (by decide) (by decide)) 0 0 (by simp only [AW7,simprocAttr];rfl) (by simp) (by simp only [AW7,simprocAttr];try(first | rfl | trivial)) ?_
  rintro rs o' obs' ⟨rfl,ho⟩
  injection ho with ho1 ho2;subst ho1 ho2
  refine wF ?_;clear hK K
  refine Run.k [2,3] [0] ?_
  refine Run.r [2,3] ?_
  exact⟨rfl,hs,rfl⟩
 intro n16
 have n16:¬nm=[71,50,126]:=by simpa using n16
 exact absurd hm (by simp [tcN,n0,n1,n2,n3,n4,n5,n6,n7,n8,n9,n10,n11,n12,n13,n14,n15,n16])
open Go.Cox
def nbC (c:LL) (i j:Nat):Bool:=!(j == i) && !(ent c i j == 0)
def nbK (c:LL) (i k:Nat):List Int:=((List.range k).filter (nbC c i)).map Int.ofNat
theorem nbK_all (c:LL) (i:Nat):nbK c i c.length=nbI c i:=rfl
theorem nbK_step (c:LL) (i k:Nat):nbK c i (k+1)=if nbC c i k=true then nbK c i k ++ [(k:Int)]else nbK c i k:=by
 unfold nbK
 rw [List.range_succ,List.filter_append,List.map_append]
 by_cases h:nbC c i k=true
 ·rw [if_pos h];simp [h]
 ·have h:nbC c i k=false:=by simpa using h
  rw [if_neg (by simp [h])];simp [h]
theorem nbK_len (c:LL) (i k:Nat):(nbK c i k).length<=k:=by
 unfold nbK
 rw [List.length_map]
 exact Nat.le_trans (List.length_filter_le ..) (by simp)
theorem nbI_mem {c:LL} {i:Nat}:letters c.length (nbI c i):=by
 intro x hx
 simp only [nbI,List.mem_map,List.mem_filter,List.mem_range]at hx
 obtain⟨j,⟨h1,_⟩,rfl⟩:=hx
 exact⟨by simp,by simpa using h1⟩
theorem nbC_eq (c:LL) (i k:Nat):(bif (k:Int) != (i:Int)then ent c i k != 0 else false)=nbC c i k:=by
 unfold nbC
 by_cases h:k=i
 ·subst h;simp
 ·have h1:(k == i)=false:=by simpa using h
  have h2:((k:Int) != (i:Int))=true:=by simp;omega
  rw [h1,h2];rfl
theorem c_impl_NeighboursOf (c:LL) (i:Nat) (hc:CartanP c) (hi:i < c.length):FunA B 214 [.sl false (.row false) c,.int .i64 i] (fun rs o=>rs=[.own 0 0]/\o=[.arr .int (nbI c i) 0 true]):=by
 have hn:=hc.2.1
 have hrow:=hc.2.2.1
 have hpt:ptB c i=true:=by simp [ptB];omega
 refine wk Tryz.call214 Tryz.func214 rfl Tryz.ntmps214 fun C hC hP hT hfn hpin hfin hX=>wW ?_
 refine Run.R ?_
 refine Run.R ?_
 refine Run.g fun K hK=>?_
 refine FunA.cW hP hT (c_impl_IsCartan c) ?_
 rintro rs o ⟨rfl,rfl⟩
 rw [isC_true hc]
 refine wW ?_
 refine .inl (FunA.callG hP hT (c_impl_isPoint c i) (fun _=>rfl) (fun _=>by simp only [AW7,simprocAttr]) ?_)
 rw [hpt]
 refine wF ?_;clear hK K
 refine Run.c ?_ ?_
 ·intro h;simp at h
 intro _
 refine Run.R ?_
 refine Run.k [0,1,4,5,18,19,20] [0] ?_
 refine Run.loopI (X:=Nat) (fun k=>⟨42,[(0,true,.v (.sl false (.row false) c)),(1,true,.v (.int .i64 i)),(4,true,.v (.nils)),(5,true,.v (.own 0 0)),(18,true,.v (.sl false (.row false) c)),(19,true,.v (.int .i64 (c.length))),(20,true,.v (.int .i64 k))],[.arr .int ((nbK c i k)) 0 true]⟩) (fun k=>k<=c.length) (fun k=>c.length - k) (0) (nz0 _) ?_ ?_
 ·exact Le.s
 rintro k hk ih
 try simp only []
 have hll:=nbK_len c i k
 refine Run.R ?_
 refine Run.c ?_ ?_
 rotate_left
 ·intro h
  have h:k=c.length:=by rw [dfE]at h;omega
  subst h
  refine Run.x ?_
  refine Run.R ?_
  refine Run.r [4] ?_
  exact⟨rfl,by rw [nbK_all]⟩
 intro h
 have h:k < c.length:=by rw [dtE]at h;omega
 have hri:=hrow i hi
 refine Run.R ?_
 refine Run.R ?_
 refine Run.c ?_ ?_
 ·intro h2
  have h2:nbC c i k=true:=by rw [<- nbC_eq];exact h2
  have e:=nbK_step c i k
  rw [if_pos h2]at e
  refine Run.R ?_
  refine Run.RW ?_
  refine Run.k [0,1,4,5,18,19,20] [0] ?_
  refine Run.le ?_ (ih (k+1) om (by(try simp only [lenA,lenC,lenN]);omega))
  exact Le.sub (by first | rfl | (simp only [e];done) | (rw [e];rfl)) (by simp only [AW7,simprocAttr];try simp)
 ·intro h2
  have h2:nbC c i k=false:=by rw [<- nbC_eq];exact h2
  have e:=nbK_step c i k
  rw [if_neg (by simp [h2])]at e
  refine Run.RW ?_
  refine Run.le ?_ (ih (k+1) om (by(try simp only [lenA,lenC,lenN]);omega))
  exact Le.sub (by first | rfl | (simp only [e];done) | (rw [e];rfl)) (by simp only [AW7,simprocAttr];try simp)
theorem c_spec_NeighboursOf (c:LL) (i:Nat) (hc:CartanP c) (hi:i < c.length):FunA B 184 [.sl false (.row false) c,.int .i64 i] (fun rs o=>rs=[.own 0 0]/\o=[.arr .int (nbI c i) 0 true]):=by
 have hn:=hc.2.1
 have hrow:=hc.2.2.1
 have hin:inB (i:Int) 0 ((c.length:Int) - 1)=true:=by simp [inB];omega
 refine wk Tryz.call184 Tryz.func184 rfl Tryz.ntmps184 fun C hC hP hT hfn hpin hfin hX=>wW ?_
 refine Run.R ?_
 refine Run.R ?_
 refine Run.R ?_
 refine Run.loopI (X:=Nat) (fun k=>⟨43,[(0,true,.v (.sl false (.row false) c)),(1,true,.v (.int .i64 i)),(4,true,.v (.nils)),(5,true,.v (.own 0 0)),(6,true,.v (.int .i64 k))],[.arr .int ((nbK c i k)) 0 true]⟩) (fun k=>k<=c.length) (fun k=>c.length - k) (0) (nz0 _) ?_ ?_
 ·exact Le.s
 rintro k hk ih
 try simp only []
 have hll:=nbK_len c i k
 rcases Nat.lt_or_ge k c.length with h | h
 ·have hd:decide ((k:Int) < c.length)=true:=by simp;exact h
  refine Run.g fun K hK=>?_
  rw [hd]
  refine .inl (FunA.callG hP hT (c_spec_IsCartan c) (fun _=>rfl) (fun _=>by simp only [AW7,simprocAttr]) ?_)
  rw [isC_true hc]
  refine wWW ?_
  refine .inl (FunA.callG hP hT (c_spec_l1In i 0 ((c.length:Int) - 1)) (fun _=>rfl) (fun _=>by simp only [AW7,simprocAttr]) ?_)
  rw [hin]
  refine wF ?_;clear hK K
  refine Run.c ?_ ?_
  rotate_left
  ·intro h;simp at h
  intro _
  have hri:=hrow i hi
  refine Run.R ?_
  refine Run.c ?_ ?_
  ·intro h2
   have h2:nbC c i k=true:=by rw [<- nbC_eq];exact h2
   have e:=nbK_step c i k
   rw [if_pos h2]at e
   refine Run.R ?_
   refine Run.RW ?_
   refine Run.k [0,1,4,5,6] [0] ?_
   refine Run.le ?_ (ih (k+1) om (by(try simp only [lenA,lenC,lenN]);omega))
   exact Le.sub (by first | rfl | (simp only [e];done) | (rw [e];rfl)) (by simp only [AW7,simprocAttr];try simp)
  ·intro h2
   have h2:nbC c i k=false:=by rw [<- nbC_eq];exact h2
   have e:=nbK_step c i k
   rw [if_neg (by simp [h2])]at e
   refine Run.RW ?_
   refine Run.le ?_ (ih (k+1) om (by(try simp only [lenA,lenC,lenN]);omega))
   exact Le.sub (by first | rfl | (simp only [e];done) | (rw [e];rfl)) (by simp only [AW7,simprocAttr];try simp)
 ·have h:k=c.length:=by omega
  subst h
  have hd:decide ((c.length:Int) < c.length)=false:=by simp
  refine Run.g fun K hK=>?_
  rw [hd]
  refine .inl (CallG.off (.bool false) ?_)
  refine wWW ?_
  refine .inl (CallG.off (.bool false) ?_)
  refine wF ?_;clear hK K
  refine Run.c ?_ ?_
  ·intro h;simp at h
  intro _
  refine Run.x ?_
  refine Run.R ?_
  refine Run.r [4] ?_
  exact⟨rfl,by rw [nbK_all]⟩
def AscI (l:LI):Prop:=l.Pairwise fun a b=>a<=b
theorem insI_perm (x:Int):∀ l,(insI x l).Perm (x :: l)
 | []=>.refl _
 | y :: l=>by
  simp only [insI]
  by_cases h:x<=y
  ·rw [decide_eq_true h,cond_true]
  ·rw [decide_eq_false h,cond_false]
   exact((insI_perm x l).cons y).trans (.swap x y l)
theorem insI_asc (x:Int):∀ {l},AscI l->AscI (insI x l)
 | [],_=>by unfold AscI;simp [insI]
 | y :: l,h=>by
  obtain⟨h1,h2⟩:=List.pairwise_cons.1 h
  simp only [insI]
  by_cases hx:x<=y
  ·rw [decide_eq_true hx,cond_true]
   refine List.pairwise_cons.2 ⟨fun z hz=>?_,h⟩
   rcases List.mem_cons.1 hz with rfl | hz
   ·exact hx
   ·have:=h1 z hz;omega
  ·rw [decide_eq_false hx,cond_false]
   refine List.pairwise_cons.2 ⟨fun z hz=>?_,insI_asc x h2⟩
   rcases List.mem_cons.1 ((insI_perm x l).mem_iff.1 hz)with rfl | hz
   ·omega
   ·exact h1 z hz
theorem sortI_spec:∀ l,(sortI l).Perm l/\AscI (sortI l)
 | []=>⟨.refl _,List.Pairwise.nil⟩
 | x :: l=>by
  obtain⟨h1,h2⟩:=sortI_spec l
  exact⟨(insI_perm x _).trans (h1.cons x),insI_asc x h2⟩
theorem asc_uniq:∀ {a b:LI},a.Perm b->AscI a->AscI b->a=b
 | [],b,h,_,_=>h.nil_eq
 | x :: a,[],h,_,_=>absurd h.symm.nil_eq (by simp)
 | x :: a,y :: b,h,ha,hb=>by
  obtain⟨a1,a2⟩:=List.pairwise_cons.1 ha
  obtain⟨b1,b2⟩:=List.pairwise_cons.1 hb
  have hxy:x=y:=by
   rcases List.mem_cons.1 (h.mem_iff.1 (mcS ..))with e | e
   ·exact e
   ·rcases List.mem_cons.1 (h.mem_iff.2 (mcS ..))with e2 | e2
    ·exact e2.symm
    ·have:=b1 x e;have:=a1 y e2;omega
  subst hxy
  rw [asc_uniq ((List.perm_cons x).1 h) a2 b2]
theorem merge_sortI (l:LI):l.mergeSort (fun x y=>decide (x<=y))=sortI l:=by
 refine asc_uniq ((List.mergeSort_perm l _).trans (sortI_spec l).1.symm) ?_ (sortI_spec l).2
 have:=List.pairwise_mergeSort (le:=fun x y:Int=>decide (x<=y)) (by intro a b c;simp;omega) (by intro a b;simp;omega) l
 exact this.imp fun h=>by simpa using h
theorem sortI_len (l:LI):(sortI l).length=l.length:=(sortI_spec l).1.length_eq
theorem gr_heap (w:World) (blk:Nat) (n:Nat) (d:Array Int) (os:Array Obj) (b:Nat) (hb:b < w.heap.size) :
  (Go.Sort.grow (Go.Sort.putRow (Value.int .i64) (Go.Sort.ahead w n) blk 0 d) os).heap[b]? = if b=blk then(w.heap[b]?).map (Go.Sort.onCells (Go.Sort.putCells (Value.int .i64) 0 d))else w.heap[b]?:=by
 show((w.heap.modify blk (Go.Sort.onCells (Go.Sort.putCells (Value.int .i64) 0 d))) ++ os)[b]? = _
 rw [Array.getElem?_append,if_pos (by simpa using hb),Array.getElem?_modify]
 by_cases h:b=blk
 ·rw [if_pos h,if_pos h.symm]
 ·rw [if_neg h,if_neg (Ne.symm h)]
theorem ACall.sortI {B C:Ctx} (hP:B.P=C.P) (hT:B.tid=C.tid) {ρs:Go.Shelf.Ren} (L:Lays.n189 B.P ρs) {f:FuncId} (hf:ρs.f 189=f) (hcall:∀(vs:Array Value) (w:World),(callFunc f vs).run B.P w=.ok (.enter f vs) w) {obs:List O} (id gg:Nat) {xs:LI}
  (ho:oAt obs id=.arr .int xs gg true) (hxb:xs.length<=1048576) {K:Sl->List O->Prop} (hk:K (.t []) (oSet obs id (.arr .int (Go.Proofs.YtcinngodeoidnaaGreatDoor.sortI xs) gg true))):ACall C obs f [.own id gg] fun x o=>Later (K x o):=by
 refine⟨fun vs w=>by rw [<- hP];exact hcall vs w,fun w ρ vs rr hl hx=>?_⟩
 have hid:id < obs.length:=by
  rcases Nat.lt_or_ge id obs.length with h | h
  ·exact h
  ·rw [oAt_eq,geN h]at ho;cases ho
 have ho':obs[id]? = some (.arr .int xs gg true):=by rw [oAt_get hid,ho]
 match vs,hl with
 | [u1],_=>
 have a1:=hx 0 _ u1 rfl rfl
 obtain⟨_,a1⟩:=(show AVRel (C.V w obs ρ) obs ρ (.own id gg) u1 from a1)
 have hu1:u1=ρ id:=(a1 gg (by unfold genOf;rw [ho'];rfl)).2 rfl
 obtain⟨cs,hown,henc,hnn,hml⟩:=rr.os id _ ho'
 have hcs:=enc_ints henc
 subst hcs
 rcases hown.2 with⟨hv,_⟩ | ⟨b,cap,cur,hv,_,hg,h1,h2,h3,h4⟩
 ·exact(hnn rfl hv).elim
 simp only [E.size,Nat.mul_one]at h3 h4
 have hblk:b < w.heap.size:=(ageS.1 hg).1
 have hcc:∀ i (hi:i < xs.length),cur[i]? = some (.int .i64 xs[i]):=fun i hi=>by
  have:=congrArg (fun l=>l[i]?) h4
  simp only [List.getElem?_take,if_pos hi,List.getElem?_map,geE hi,Option.map_some]at this
  simpa using this
 have hH:Go.Sort.Holds (Value.int .i64) w b 0 xs.toArray:=fun j hj=>by
  have hj:j < xs.length:=by simpa using hj
  refine⟨?_,?_⟩
  ·simp only [World.cell?,hg,Nat.zero_add]
   show cur[j]? = _
   rw [hcc j hj]
   simp [hj]
  ·simp [World.frozen?,hg]
 have main:=Any.slices_Sort_int L b 0 cap xs w hH hblk om
 rw [hf,hP]at main
 subst hu1
 rw [hv]
 refine main.mono fun e w' ⟨he,n,os,hw'⟩=>⟨.tuple #[],he,.t [],?_⟩
 rw [merge_sortI]at hw'
 have hlen:=sortI_len xs
 have hheap:=fun b' (hb:b' < w.heap.size)=>gr_heap w b n (Go.Proofs.YtcinngodeoidnaaGreatDoor.sortI xs).toArray os b' hb
 have hext:Ext (fun b'=>fpo (ρ id) (.arr .int xs gg true) b') w w':=by
  rw [hw']
  refine⟨rfl,rfl,rfl,?_,Nat.le_add_right _ _,fun b' hb' hS=>?_⟩
  ·show w.heap.size<=((w.heap.modify b _) ++ os).size
   simp
  ·rw [hheap b' hb',if_neg]
   intro e
   subst e
   exact hS (by simp [fpo,hv,Value.ownBlock])
 have hfb:∀ b',fpo (ρ id) (.arr .int (Go.Proofs.YtcinngodeoidnaaGreatDoor.sortI xs) gg true) b'->fpo (ρ id) (.arr .int xs gg true) b'\/w.heap.size<=b':=fun b' hb'=>.inl hb'
 have T:=Turn.one rr id (.arr .int xs gg true) (.arr .int (Go.Proofs.YtcinngodeoidnaaGreatDoor.sortI xs) gg true) (ρ id) ho' hext (w':=w') ?_ hfb (fun c' hc=>⟨gg,rfl,.inl ⟨(by cases hc;rfl),rfl⟩⟩)
 ·have hst:=T.step rr
  refine⟨obs.set id (.arr .int (Go.Proofs.YtcinngodeoidnaaGreatDoor.sortI xs) gg true),_,hst,⟨[],rfl,rfl,by simp⟩,?_⟩
  rw [oSet_eq]at hk
  exact hk
 ·refine⟨(Go.Proofs.YtcinngodeoidnaaGreatDoor.sortI xs).map (Value.int .i64),⟨by simp [E.size],.inr ⟨b,cap,Go.Sort.putCells (Value.int .i64) 0 (Go.Proofs.YtcinngodeoidnaaGreatDoor.sortI xs).toArray cur,by rw [hlen];exact hv,nz0 _,?_,by rw [hlen];exact h1,h2,by simpa [Go.Sort.putCells,E.size] using h3,?_⟩⟩,⟨by simp [E.size],fun i hi=>?_⟩,fun _=>by rw [hv];simp,by rw [hlen];exact hml⟩
  ·rw [hw',hheap b hblk,if_pos rfl,hg]
   rfl
  ·rw [hlen]
   apply List.ext_getElem?
   intro i
   simp only [E.size,Nat.mul_one]
   by_cases hi:i < xs.length
   ·rw [List.getElem?_take_of_lt hi]
    have hic:i < cur.size:=by rw [h3];omega
    rw [Array.getElem?_toList]
    unfold Go.Sort.putCells
    rw [Array.getElem?_mapIdx,Array.getElem?_eq_getElem hic]
    simp [hlen,hi]
   ·rw [geN (by simp;omega),geN (by simp [hlen];omega)]
  ·refine⟨.int .i64 (Go.Proofs.YtcinngodeoidnaaGreatDoor.sortI xs)[i],rfl,fun j hj=>?_⟩
   have:j=0:=by simp [E.size]at hj;omega
   subst this
   simp [E.size,Value.cells,hi]
def sortIL_ren:Go.Shelf.Ren:=⟨fun | 189=>101 | 125=>143 | 257=>142 | 128=>180 | 129=>181 | 294=>171 | 295=>172 | 296=>173 | 297=>174 | 298=>175 | 299=>176 | 216=>177 | 300=>178 | 301=>179 | 328=>202 | 329=>203 | 330=>204 | 331=>205 | 332=>206 | 215=>207 | 343=>221 | n=>n,fun | 28=>25 | 3=>3 | 46=>95 | 0=>0 | 51=>117 | 53=>119 | 4=>4 | 183=>109 | 182=>108 | 131=>114 | 5=>5 | 9=>9 | 218=>129 | 222=>133 | 228=>148 | 229=>149 | n=>n,fun n=>n⟩
theorem sortIL:Lays.n189 Tryz.prog sortIL_ren where
 mixed:=by kernel_rfl
 f125:=Tryz.func143.trans (congrArg some (by kernel_rfl))
 f128:=Tryz.func180.trans (congrArg some (by kernel_rfl))
 f129:=Tryz.func181.trans (congrArg some (by kernel_rfl))
 f189:=Tryz.func101.trans (congrArg some (by kernel_rfl))
 f215:=Tryz.func207.trans (congrArg some (by kernel_rfl))
 f216:=Tryz.func177.trans (congrArg some (by kernel_rfl))
 f257:=Tryz.func142.trans (congrArg some (by kernel_rfl))
 f294:=Tryz.func171.trans (congrArg some (by kernel_rfl))
 f295:=Tryz.func172.trans (congrArg some (by kernel_rfl))
 f296:=Tryz.func173.trans (congrArg some (by kernel_rfl))
 f297:=Tryz.func174.trans (congrArg some (by kernel_rfl))
 f298:=Tryz.func175.trans (congrArg some (by kernel_rfl))
 f299:=Tryz.func176.trans (congrArg some (by kernel_rfl))
 f300:=Tryz.func178.trans (congrArg some (by kernel_rfl))
 f301:=Tryz.func179.trans (congrArg some (by kernel_rfl))
 f328:=Tryz.func202.trans (congrArg some (by kernel_rfl))
 f329:=Tryz.func203.trans (congrArg some (by kernel_rfl))
 f330:=Tryz.func204.trans (congrArg some (by kernel_rfl))
 f331:=Tryz.func205.trans (congrArg some (by kernel_rfl))
 f332:=Tryz.func206.trans (congrArg some (by kernel_rfl))
 f343:=Tryz.func221.trans (congrArg some (by kernel_rfl))
 t0:=Tryz.underlying0
 a0:=Tryz.isAgg0
 z0:=Tryz.sizeOf0
 v0:=Tryz.zeroValue0
 t3:=Tryz.underlying3
 a3:=Tryz.isAgg3
 z3:=Tryz.sizeOf3
 v3:=Tryz.zeroValue3
 t4:=Tryz.underlying4
 a4:=Tryz.isAgg4
 z4:=Tryz.sizeOf4
 v4:=Tryz.zeroValue4
 t5:=Tryz.underlying5
 a5:=Tryz.isAgg5
 z5:=Tryz.sizeOf5
 v5:=Tryz.zeroValue5
 t9:=Tryz.underlying9
 a9:=Tryz.isAgg9
 z9:=Tryz.sizeOf9
 v9:=Tryz.zeroValue9
 t28:=Tryz.underlying25
 a28:=Tryz.isAgg25
 z28:=Tryz.sizeOf25
 v28:=Tryz.zeroValue25
 t46:=Tryz.underlying95
 a46:=Tryz.isAgg95
 z46:=Tryz.sizeOf95
 v46:=Tryz.zeroValue95
 t51:=Tryz.underlying117
 a51:=Tryz.isAgg117
 z51:=Tryz.sizeOf117
 v51:=Tryz.zeroValue117
 t53:=Tryz.underlying119
 a53:=Tryz.isAgg119
 z53:=Tryz.sizeOf119
 v53:=Tryz.zeroValue119
 t131:=Tryz.underlying114
 a131:=Tryz.isAgg114
 z131:=Tryz.sizeOf114
 v131:=Tryz.zeroValue114
 t182:=Tryz.underlying108
 a182:=Tryz.isAgg108
 z182:=Tryz.sizeOf108
 v182:=Tryz.zeroValue108
 t183:=Tryz.underlying109
 a183:=Tryz.isAgg109
 z183:=Tryz.sizeOf109
 v183:=Tryz.zeroValue109
 t218:=Tryz.underlying129
 a218:=Tryz.isAgg129
 z218:=Tryz.sizeOf129
 v218:=Tryz.zeroValue129
 t222:=Tryz.underlying133
 a222:=Tryz.isAgg133
 z222:=Tryz.sizeOf133
 v222:=Tryz.zeroValue133
 t228:=Tryz.underlying148
 a228:=Tryz.isAgg148
 z228:=Tryz.sizeOf148
 v228:=Tryz.zeroValue148
 t229:=Tryz.underlying149
 a229:=Tryz.isAgg149
 z229:=Tryz.sizeOf149
 v229:=Tryz.zeroValue149
end Go.Proofs.YtcinngodeoidnaaGreatDoor
