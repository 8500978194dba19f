/- The rank: the program's walk, in place. -/
import Derived.Test.YtcinngodeoidnaaGreatB17
import Derived.Test.YtcinngodeoidnaaGreatB20
set_option linter.unusedVariables false
set_option linter.unusedSimpArgs false
namespace Go.Proofs.YtcinngodeoidnaaGreat
open Go Go.Aw Go.Cox
def InjL (hs:List Nat):Prop:=∀ i j,i < hs.length->j < hs.length->hs.getD i 0=hs.getD j 0->i=j
theorem map_getD (F:Nat->List Int) (hs:List Nat) {k:Nat} (h:k < hs.length):(hs.map F).getD k []=F (hs.getD k 0):=by
 simp [List.getD,geE h]
theorem map_upd {F F2:Nat->List Int} {hs:List Nat} (hi:InjL hs) {k:Nat} (hk:k < hs.length) (h:∀ q,q≠hs.getD k 0->F2 q=F q):hs.map F2=(hs.map F).set k (F2 (hs.getD k 0)):=by
 apply List.ext_getElem
 ·simp
 ·intro i h1 h2
  simp only [List.length_map]at h1
  rw [List.getElem_map,List.getElem_set]
  by_cases e:k=i
  ·subst e;rw [if_pos rfl,getD_eq h1]
  ·rw [if_neg e,List.getElem_map]
   apply h
   intro q
   rw [<- getD_eq (d:=0) h1]at q
   exact e (hi _ _ h1 hk q).symm
theorem map_swp (F:Nat->List Int) (hs:List Nat) {r a:Nat} (hr:r < hs.length) (ha:a < hs.length):((hs.set r (hs.getD a 0)).set a (hs.getD r 0)).map F=swp (hs.map F) r a:=by
 unfold swp
 rw [map_getD F hs ha,map_getD F hs hr,List.map_set,List.map_set]
theorem nset_get (M:List Nat) (k j:Nat) (x:Nat) (hk:k < M.length):(M.set k x).getD j 0=if j=k then x else M.getD j 0:=by
 simp only [List.getD,List.getElem?_set]
 by_cases h:k=j
 ·subst h;simp [hk]
 ·rw [if_neg h,if_neg (Ne.symm h)]
theorem inj_swp {hs:List Nat} (hi:InjL hs) {r a:Nat} (hr:r < hs.length) (ha:a < hs.length):InjL ((hs.set r (hs.getD a 0)).set a (hs.getD r 0)):=by
 have key:∀ i,i < hs.length->((hs.set r (hs.getD a 0)).set a (hs.getD r 0)).getD i 0=hs.getD (if i=a then r else if i=r then a else i) 0:=fun i h=>by
  rw [nset_get _ _ _ _ (by simpa using ha),nset_get _ _ _ _ hr]
  split
  ·rfl
  ·split<;>rfl
 intro i j h1 h2 h3
 simp only [List.length_set]at h1 h2
 rw [key i h1,key j h2]at h3
 have:=hi _ _ (by split<;>(try split)<;>omega) (by split<;>(try split)<;>omega) h3
 split at this<;>split at this<;>(try split at this)<;>(try split at this)<;>omega
theorem set_self (M:LL) (k:Nat):M.set k (M.getD k [])=M:=by
 apply List.ext_getElem?
 intro i
 rw [List.getElem?_set]
 by_cases h:k=i
 ·subst h
  by_cases hk:k < M.length<;>simp [hk]
 ·rw [if_neg h]
def Gd (D:List Nat) (n:Nat) (A:LL) (F:Nat->List Int) (hs:List Nat) (r c:Nat):Prop:=
 InjL hs/\(∀ h∈hs,h∈D)/\OKM n (beta r) (hs.map F)/\r<=n/\c<=n/\rkG rowI (n - c) (hs.map F) r c=rkG rowI n A 0 0
theorem gdM {hs:List Nat} {k:Nat} (h:k < hs.length):hs.getD k 0∈hs:=by rw [getD_eq h];exact List.getElem_mem h
def half (x z:LI) (j:Nat):List Int:=z.take j ++ x.drop j
theorem half_len {x z:LI} (h:z.length=x.length) (j:Nat):(half x z j).length=x.length:=by simp [half];omega
theorem half_get {x z:LI} (h:z.length=x.length) {j:Nat} (hj:j < x.length):(half x z j).getD j 0=x.getD j 0:=by
 have:(z.take j).length=j:=by simp;omega
 simp [half,List.getD,List.getElem?_append,this,List.getElem?_drop]
theorem half_set {x z:LI} (h:z.length=x.length) {j:Nat} (hj:j < x.length):(half x z j).set j (z.getD j 0)=half x z (j+1):=by
 have h1:(z.take j).length=j:=by simp;omega
 unfold half
 rw [List.set_append_right _ _ om,h1,Nat.sub_self,List.drop_eq_getElem_cons hj,List.set_cons_zero,getD_eq (by omega:j < z.length)]
 rw [List.take_succ_eq_append_getElem (by omega:j < z.length),List.append_assoc];rfl
theorem half_zero (x z:LI):half x z 0=x:=by simp [half]
theorem half_all {x z:LI} (h:z.length=x.length):half x z x.length=z:=by simp [half,<- h]
theorem Mid.skip {n r k:Nat} {M:LL} (h:Mid n r k M) (_:k < n):Mid n r (k+1) M:=
 ⟨h.1,fun j hj hjk=>h.2 j hj om⟩
set_option maxHeartbeats 4000000 in
theorem c_impl_rankOf (n:Nat) (D:List Nat) (F:Nat->List Int) (hs:List Nat) (A:LL) (hA:hs.map F=A) (hin:InjL hs) (hsub:∀ h∈hs,h∈D) (hn:n<=4) (hok:OKM n 8 A) (nn:Bool) :
  FunO B 100 [.own 0 0] (.gm D F hs 0 nn) (fun rs o=>rs=[.int .i64 (rkG rowI n A 0 0:Nat)]/\∃ F' hs',o=[.gm D F' hs' 0 nn]):=by
 have hG0:Gd D n A F hs 0 0:=⟨hin,hsub,by rw [hA];exact hok,by omega,by omega,by rw [hA];rfl⟩
 refine FunO.walk B_ok (fn:=Tryz.f100) (fun vs w=>Tryz.call100 vs w) Tryz.func100 rfl (by rw [Tryz.ntmps100];simp) (fun C hC hP hT hΓ hbt hfn hpin hfin=>?_);have hX:=BX;rw [<- hΓ,<- hbt.1,<- hbt.2.1,<- hbt.2.2.1,<- hbt.2.2.2.2]at hX;rw [hT]at hX;rw [Tryz.ntmps100];simp only [AW7,simprocAttr,hX]
 refine Run.R ?_
 refine Run.R ?_
 refine Run.R ?_
 refine Run.loopI (X:=(Nat->List Int)×List Nat×Nat×Nat) (fun x=>⟨118,[(0,true,.v (.own 0 0)),(3,true,.v (.int .i64 (x.2.2.1))),(4,true,.v (.int .i64 (x.2.2.2)))],[.gm D x.1 x.2.1 0 nn]⟩) (fun x=>Gd D n A x.1 x.2.1 x.2.2.1 x.2.2.2) (fun x=>n - x.2.2.2) ((F,hs,0,0)) (hG0) ?_ ?_
 ·exact Le.s
 rintro⟨G,hs1,r,c⟩ hG ihO
 try simp only []
 simp only []at hG
 clear hok hsub hin hA hG0
 obtain⟨hin,hsub,hok,hr,hcn,hE⟩:=hG
 have hl:hs1.length=n:=by simpa using hok.1
 by_cases hc:c < n
 rotate_left
 ·have hcc:decide ((c:Int) < hs1.length)=false:=by rw [dfE];omega
  refine Run.g fun K hK=>?_
  simp only [hcc]
  refine wF ?_;clear hK K
  refine Run.c ?_ ?_
  ·intro h;cases h
  intro _
  refine Run.x ?_
  refine Run.R ?_
  rw [show n - c=0 by omega]at hE
  refine Run.retW [2] (by decide) (by rw [hfn];rfl) (by simp only [AW7,simprocAttr,hX];rfl) (by simp only [AW7,simprocAttr,hX]) (hfin _ _ _ rfl rfl ⟨rfl,_,_,_,rfl⟩ ?_)
  rw [<- hE];exact⟨rfl,_,_,rfl⟩
 have hcc:decide ((c:Int) < hs1.length)=true:=by rw [dtE];omega
 by_cases hrn:r < n
 rotate_left
 ·have hrr:decide ((r:Int) < hs1.length)=false:=by rw [dfE];omega
  refine Run.g fun K hK=>?_
  simp only [hcc,hrr]
  refine wF ?_;clear hK K
  refine Run.c ?_ ?_
  ·intro h;cases h
  intro _
  refine Run.x ?_
  refine Run.R ?_
  have hrr:r=(hs1.map G).length:=by simp;omega
  have hE2:=hE
  rw [hrr,rkG_top,<- hrr]at hE2
  refine Run.retW [2] (by decide) (by rw [hfn];rfl) (by simp only [AW7,simprocAttr,hX];rfl) (by simp only [AW7,simprocAttr,hX]) (hfin _ _ _ rfl rfl ⟨rfl,_,_,_,rfl⟩ ?_)
  rw [<- hE2];exact⟨rfl,_,_,rfl⟩
 have hrr:decide ((r:Int) < hs1.length)=true:=by rw [dtE];omega
 refine Run.g fun K hK=>?_
 simp only [hcc,hrr]
 refine wF ?_;clear hK K
 refine Run.c ?_ ?_
 rotate_left
 ·intro h;cases h
 intro _
 have hget:∀ k,k < n->hs1.getD k 0∈D/\(G (hs1.getD k 0)).length=n/\(hs1.map G).getD k []=G (hs1.getD k 0):=fun k hk=>by
  have e:=map_getD G hs1 (k:=k) om
  exact⟨hsub _ (gdM om),by rw [<- e];exact(hok.2 k hk).1,e⟩
 refine Run.R ?_
 refine Run.loopI (X:=Nat) (fun a=>⟨118,[(0,true,.v (.own 0 0)),(3,true,.v (.int .i64 r)),(4,true,.v (.int .i64 c)),(5,true,.v (.int .i64 a))],[.gm D G hs1 0 nn]⟩) (fun a=>r<=a/\a<=n/\pvt (hs1.map G) c (n - a) a=pvt (hs1.map G) c (n - r) r) (fun a=>n - a) (r) (⟨by omega,by omega,rfl⟩) ?_ ?_
 ·exact Le.s
 rintro a ⟨hra,han,hpv⟩ ih
 try simp only []
 by_cases ha:a < n
 ·obtain⟨m1,m2,m3⟩:=hget a ha
  have haa:decide ((a:Int) < hs1.length)=true:=by rw [dtE];omega
  refine Run.g fun K hK=>?_
  simp only [haa]
  refine wF ?_;clear hK K
  refine Run.c ?_ ?_
  ·intro h
   have h0:((hs1.map G).getD a []).getD c 0=0:=by rw [m3];simpa using h
   refine Run.RW ?_
   have hpv2:pvt (hs1.map G) c (n - (a+1)) (a+1)=pvt (hs1.map G) c (n - r) r:=by
    rw [<- hpv,show n - a=(n - (a+1))+1 by omega]
    simp only [pvt]
    rw [if_pos h0]
   exact Run.j (ih (a+1) (⟨by omega,by omega,hpv2⟩) mz)
  intro h
  have h0:((hs1.map G).getD a []).getD c 0≠0:=by rw [m3];simpa using h
  have hpa:pvt (hs1.map G) c (n - r) r=a:=by
   rw [<- hpv,show n - a=(n - (a+1))+1 by omega]
   simp only [pvt]
   rw [if_neg h0]
  refine Run.x ?_
  refine Run.R ?_
  refine Run.c ?_ ?_
  ·intro h;exfalso;simp at h;omega
  intro _
  obtain⟨p1,p2,p3⟩:=hget r hrn
  refine Run.nq ?_;refine Run.regionD hC true [0,1,2,3,4,5,6,7,8,9,10,11,12,13,14,15] (by kernel_rfl) (fun K hK=>?_);simp only [AW7,simprocAttr,hX];(repeat(with_reducible refine And.intro ?_ ?_);exact vc0)
  refine wE ?_;clear hK K
  refine Run.RW ?_
  have hmw:=map_swp G hs1 (r:=r) (a:=a) om om
  have hin2:=inj_swp hin (r:=r) (a:=a) om om
  have hl2:((hs1.set r (hs1.getD a 0)).set a (hs1.getD r 0)).length=n:=by simp [hl]
  have hsub2:∀ h∈(hs1.set r (hs1.getD a 0)).set a (hs1.getD r 0),h∈D:=fun h hh=>by
   rcases List.mem_or_eq_of_mem_set hh with hh | rfl
   ·rcases List.mem_or_eq_of_mem_set hh with hh | rfl
    ·exact hsub _ hh
    ·exact m1
   ·exact p1
  have hok2:OKM n (beta r) (((hs1.set r (hs1.getD a 0)).set a (hs1.getD r 0)).map G):=by rw [hmw];exact hok.swp hrn ha
  have hE2:rkG rowI (n - (c+1)) (elim (fun N k=>rowI N r c k) (n - (r+1)) (r+1) (((hs1.set r (hs1.getD a 0)).set a (hs1.getD r 0)).map G)) (r+1) (c+1)=rkG rowI n A 0 0:=by
   rw [<- hE,show n - c=(n - (c+1))+1 by omega,hmw]
   simp only [rkG]
   rw [hok.1,hpa,if_neg om]
  generalize hh2:(hs1.set r (hs1.getD a 0)).set a (hs1.getD r 0)=hs2 at *
  refine Run.keep [0,3,4,6] ?_;simp only [AK,Nat.reduceBEq]
  refine Run.loopI (X:=(Nat->List Int)×Nat) (fun x=>⟨118,[(0,true,.v (.own 0 0)),(3,true,.v (.int .i64 r)),(4,true,.v (.int .i64 c)),(6,true,.v (.int .i64 (x.2)))],[.gm D x.1 hs2 0 nn]⟩) (fun x=>(r < x.2/\x.2<=n)/\Mid n r x.2 (hs2.map x.1)/\elim (fun N k=>rowI N r c k) (n - x.2) x.2 (hs2.map x.1)=elim (fun N k=>rowI N r c k) (n - (r+1)) (r+1) (hs2.map G)) (fun x=>n - x.2) ((G,r+1)) (⟨by omega,Mid.start hok2 _,rfl⟩) ?_ ?_
  ·exact Le.s
  rintro⟨H,k⟩ ⟨⟨hrk,hkn⟩,hmid,hel⟩ ihK
  try simp only []
  simp only []at hrk hkn hmid hel
  clear ih hget m1 m2 m3 haa h h0 hpa p1 p2 p3 hh2 hmw hcc hrr hE hok hsub hin
  have hget:∀ k,k < n->hs2.getD k 0∈D/\(H (hs2.getD k 0)).length=n/\(hs2.map H).getD k []=H (hs2.getD k 0):=fun k hk=>by
   have e:=map_getD H hs2 (k:=k) om
   exact⟨hsub2 _ (gdM om),by rw [<- e];exact(hmid.1.2 k hk).1,e⟩
  refine Run.R ?_
  refine Run.c ?_ ?_
  rotate_left
  ·intro h
   have hkk:k=n:=by simp at h;omega
   refine Run.x ?_
   refine Run.RW ?_
   refine Run.RW ?_
   rw [hkk,Nat.sub_self]at hel
   simp only [elim]at hel
   rw [<- hel]at hE2
   exact Run.j (ihO ((H,hs2,r+1,c+1)) (⟨hin2,hsub2,hmid.1,hrn,hc,hE2⟩) mz)
  intro h
  have hk:k < n:=by simp at h;omega
  obtain⟨p1,p2,p3⟩:=hget r hrn
  obtain⟨q1,q2,q3⟩:=hget k hk
  refine Run.nq ?_;refine Run.regionD hC true [0,1,2,3,4,5,6,7,8,9,10,11,12,13,14,15] (by kernel_rfl) (fun K hK=>?_);simp only [AW7,simprocAttr,hX];(repeat(with_reducible refine And.intro ?_ ?_);exact vc0)
  refine wE ?_;clear hK K
  refine Run.R ?_
  refine Run.c ?_ ?_
  ·intro h
   have h0:((hs2.map H).getD k []).getD c 0=0:=by rw [q3];simpa using h
   refine Run.x ?_
   refine Run.RW ?_
   have hel2:elim (fun N k=>rowI N r c k) (n - (k+1)) (k+1) (hs2.map H)=elim (fun N k=>rowI N r c k) (n - (r+1)) (r+1) (hs2.map G):=by
    rw [<- hel,show n - k=(n - (k+1))+1 by omega]
    simp only [elim]
    unfold rowI
    rw [if_pos h0,set_self]
   exact Run.j (ihK ((H,k+1)) (⟨⟨by omega,by omega⟩,hmid.skip hk,hel2⟩) mz)
  intro h
  have h0:((hs2.map H).getD k []).getD c 0≠0:=by rw [q3];simpa using h
  have hrow:=hmid.row (c:=c) hk hrk hn
  have hel2:elim (fun N k=>rowI N r c k) (n - (k+1)) (k+1) ((hs2.map H).set k (rowS (hs2.map H) r c k))=elim (fun N k=>rowI N r c k) (n - (r+1)) (r+1) (hs2.map G):=by
   rw [<- hel,show n - k=(n - (k+1))+1 by omega]
   simp only [elim]
   unfold rowI
   rw [if_neg h0]
  refine Run.R ?_
  refine Run.keep [0,3,4,6,7,8,85,86] ?_;simp only [AK,Nat.reduceBEq]
  have hZ:∀ j,j < n->(rowS (hs2.map H) r c k).getD j 0=(H (hs2.getD r 0)).getD c 0*(H (hs2.getD k 0)).getD j 0 - (H (hs2.getD k 0)).getD c 0*(H (hs2.getD r 0)).getD j 0:=fun j hj=>by
   unfold rowS;rw [p3,q3,lin_get _ _ _ _ om om]
  have hrb:=hmid.2 r hrn (.inl (Nat.le_refl _))
  have hkb:=hmid.2 k hk (.inr (Nat.le_refl _))
  have b0:=beta_pos r
  have bq:=beta_sq (r:=r) om
  have b1:=beta_pos (r+1)
  rw [p3]at hrb
  rw [q3]at hkb
  have hne:hs2.getD r 0≠hs2.getD k 0:=fun e=>by have:=hin2 r k om om e;omega
  generalize hzz:rowS (hs2.map H) r c k=Z at *
  refine Run.loopI (X:=(Nat->List Int)×Nat) (fun x=>⟨118,[(0,true,.v (.own 0 0)),(3,true,.v (.int .i64 r)),(4,true,.v (.int .i64 c)),(6,true,.v (.int .i64 k)),(7,true,.v (.int .i64 ((H (hs2.getD r 0)).getD c 0))),(8,true,.v (.int .i64 ((H (hs2.getD k 0)).getD c 0))),(85,true,.v (.int .i64 ((H (hs2.getD k 0)).length))),(86,true,.v (.int .i64 (x.2)))],[.gm D x.1 hs2 0 nn]⟩) (fun x=>x.2<=n/\(∀ q,q≠hs2.getD k 0->x.1 q=H q)/\x.1 (hs2.getD k 0)=half (H (hs2.getD k 0)) Z x.2) (fun x=>n - x.2) ((H,0)) (⟨by omega,fun _ _=>rfl,by rw [half_zero]⟩) ?_ ?_
  ·exact Le.s
  rintro⟨J,j⟩ ⟨hjn,hJ1,hJ2⟩ ihJ
  try simp only []
  simp only []at hjn hJ1 hJ2
  have l1:(J (hs2.getD k 0)).length=n:=by rw [hJ2,half_len om,q2]
  have l2:(J (hs2.getD r 0)).length=n:=by rw [hJ1 _ hne,p2]
  refine Run.R ?_
  refine Run.c ?_ ?_
  rotate_left
  ·intro h
   have hjj:j=n:=by rw [dfE]at h;omega
   refine Run.x ?_
   refine Run.RW ?_
   rw [hjj,<- q2,half_all om]at hJ2
   have hmp:=map_upd hin2 (F2:=J) (F:=H) (k:=k) om hJ1
   rw [hJ2]at hmp
   have hm2:=hmid.put hk hrk hrow
   rw [<- hmp]at hm2 hel2
   exact Run.j (ihK ((J,k+1)) (⟨⟨by omega,by omega⟩,hm2,hel2⟩) mz)
  intro h
  have hj:j < n:=by rw [dtE]at h;omega
  refine Run.R ?_
  refine Run.nq ?_;refine Run.regionD hC true [0,1,2,3,4,5,6,7,8,9,10,11,12,13,14,15,16,17,18,19,20,21,22,23,24,25] (by kernel_rfl) (fun K hK=>?_);simp only [AW7,simprocAttr,hX];(repeat(with_reducible refine And.intro ?_ ?_);exact vc0)
  refine wE ?_;clear hK K
  have e1:IntKind.i64.wrap (IntKind.i64.wrap ((H (hs2.getD r 0)).getD c 0*(J (hs2.getD k 0)).getD j 0) - IntKind.i64.wrap ((H (hs2.getD k 0)).getD c 0*(J (hs2.getD r 0)).getD j 0))=Z.getD j 0:=by
   rw [hJ2,half_get om om,hJ1 _ hne,hZ j hj]
   have m1:=mul_bnd (hrb.at' om c) (hkb.at' om j)
   have m2:=mul_bnd (hkb.at' om c) (hrb.at' om j)
   have w1:=wrap_id (n:=(H (hs2.getD r 0)).getD c 0*(H (hs2.getD k 0)).getD j 0) om
   have w2:=wrap_id (n:=(H (hs2.getD k 0)).getD c 0*(H (hs2.getD r 0)).getD j 0) om
   rw [w1,w2,wrap_id om]
  simp only [e1]
  refine Run.RW ?_
  have hJ3:∀ q,q≠hs2.getD k 0->updF J (hs2.getD k 0) j (Z.getD j 0) q=H q:=fun q hq=>by
   unfold updF;rw [if_neg hq];exact hJ1 q hq
  have hJ4:updF J (hs2.getD k 0) j (Z.getD j 0) (hs2.getD k 0)=half (H (hs2.getD k 0)) Z (j+1):=by
   unfold updF;rw [if_pos rfl,hJ2,half_set om om]
  exact Run.j (ihJ ((updF J (hs2.getD k 0) j (Z.getD j 0),j+1)) (⟨by omega,hJ3,hJ4⟩) mz)
 ·have haa:decide ((a:Int) < hs1.length)=false:=by rw [dfE];omega
  have hae:a=n:=by omega
  refine Run.g fun K hK=>?_
  simp only [haa]
  refine wF ?_;clear hK K
  refine Run.c ?_ ?_
  ·intro h;cases h
  intro _
  refine Run.x ?_
  refine Run.R ?_
  refine Run.c ?_ ?_
  rotate_left
  ·intro h;exfalso;simp at h;omega
  intro _
  refine Run.x ?_
  refine Run.RW ?_
  have hpv:pvt (hs1.map G) c (n - r) r=n:=by rw [<- hpv,hae,Nat.sub_self];rfl
  have hE2:=hE
  rw [show n - c=(n - (c+1))+1 by omega]at hE2
  simp only [rkG]at hE2
  rw [hok.1,if_pos hpv]at hE2
  exact Run.j (ihO ((G,hs1,r,c+1)) (⟨hin,hsub,hok,hr,hc,hE2⟩) mz)
def GdS (n:Nat) (A:LL) (M:LL) (r c:Nat):Prop:=
 OKM n (beta r) M/\r<=n/\c<=n/\rkG rowS (n - c) M r c=rkG rowS n A 0 0
def rws (ys:List (Nat×List Int)):List (List Int):=ys.map (·.2)
theorem rws_getD (ys:List (Nat×List Int)) (k:Nat):(rws ys).getD k []=(ys.getD k (0,[])).2:=by
 unfold rws
 simp only [List.getD,List.getElem?_map]
 cases ys[k]?<;>rfl
theorem rws_len (ys:List (Nat×List Int)):(rws ys).length=ys.length:=by simp [rws]
theorem rws_set (ys:List (Nat×List Int)) (k q:Nat) (x:LI):rws (ys.set k (q,x))=(rws ys).set k x:=by simp [rws,List.map_set]
theorem takeI_snoc (Z:LI) (j:Nat) (h:j < Z.length):Z.take (j+1)=Z.take j ++ [Z.getD j 0]:=by
 rw [getD_eq h,List.take_succ_eq_append_getElem h]
theorem rws_set2 (ys:List (Nat×List Int)) (k:Nat) (y:Nat×List Int):rws (ys.set k y)=(rws ys).set k y.2:=by simp [rws,List.map_set]
set_option maxHeartbeats 4000000 in
theorem c_spec_l17Rank (n:Nat) (ys:List (Nat×List Int)) (A:LL) (hA:rws ys=A) (hn:n<=4) (hok:OKM n 8 A) (nn:Bool) :
  FunM B 102 [.own 0 0] .lrow ys nn (fun rs o=>rs=[.int .i64 (rkG rowS n A 0 0:Nat)]/\∃ ys',o=[.arr .lrow ys' 0 nn]):=by
 have hG0:GdS n A (rws ys) 0 0:=⟨by rw [hA];exact hok,by omega,by omega,by rw [hA];rfl⟩
 refine FunM.walk B_ok (fn:=Tryz.f102) (fun vs w=>Tryz.call102 vs w) Tryz.func102 rfl (by rw [Tryz.ntmps102];simp) (fun C hC hP hT hΓ hbt hfn hpin hfin=>?_);have hX:=BX;rw [<- hΓ,<- hbt.1,<- hbt.2.1,<- hbt.2.2.1,<- hbt.2.2.2.2]at hX;rw [hT]at hX;rw [Tryz.ntmps102];simp only [AW7,simprocAttr,hX]
 refine Run.R ?_
 refine Run.R ?_
 refine Run.R ?_
 refine Run.loopI (X:=List (Nat×List Int)×Nat×Nat) (fun x=>⟨102,[(0,true,.v (.own 0 0)),(3,true,.v (.int .i64 (x.2.1))),(4,true,.v (.int .i64 (x.2.2)))],[.arr .lrow x.1 0 nn]⟩) (fun x=>GdS n A (rws x.1) x.2.1 x.2.2) (fun x=>n - x.2.2) ((ys,0,0)) (hG0) ?_ ?_
 ·exact Le.s
 rintro⟨y1,r,c⟩ hG ihO
 try simp only []
 simp only []at hG
 clear hok hA hG0
 obtain⟨hok,hr,hcn,hE⟩:=hG
 have hl:y1.length=n:=by rw [<- rws_len];exact hok.1
 refine Run.R ?_
 refine Run.c ?_ ?_
 rotate_left
 ·intro h
  have hc:c=n:=by rw [dfE]at h;omega
  refine Run.x ?_
  refine Run.R ?_
  rw [hc,Nat.sub_self]at hE
  refine Run.retW [2] (by decide) (by rw [hfn];rfl) (by simp only [AW7,simprocAttr,hX];rfl) (by simp only [AW7,simprocAttr,hX]) (hfin _ _ _ rfl rfl rfl ?_)
  rw [<- hE];exact⟨rfl,_,rfl⟩
 intro h
 have hc:c < n:=by rw [dtE]at h;omega
 have hget:∀ k,k < n->(y1.getD k (0,[])).2.length=n/\(rws y1).getD k []=(y1.getD k (0,[])).2:=fun k hk=>by
  have e:=rws_getD y1 k
  exact⟨by rw [<- e];exact(hok.2 k hk).1,e⟩
 refine Run.R ?_
 refine Run.loopI (X:=Nat) (fun a=>⟨102,[(0,true,.v (.own 0 0)),(3,true,.v (.int .i64 r)),(4,true,.v (.int .i64 c)),(5,true,.v (.int .i64 a))],[.arr .lrow y1 0 nn]⟩) (fun a=>r<=a/\a<=n/\pvt (rws y1) c (n - a) a=pvt (rws y1) c (n - r) r) (fun a=>n - a) (r) (⟨by omega,by omega,rfl⟩) ?_ ?_
 ·exact Le.s
 rintro a ⟨hra,han,hpv⟩ ih
 try simp only []
 by_cases ha:a < n
 ·obtain⟨m2,m3⟩:=hget a ha
  have haa:decide ((a:Int) < y1.length)=true:=by rw [dtE];omega
  refine Run.g fun K hK=>?_
  simp only [haa]
  refine wF ?_;clear hK K
  refine Run.c ?_ ?_
  ·intro h
   have h0:((rws y1).getD a []).getD c 0=0:=by rw [m3];simpa using h
   refine Run.RW ?_
   have hpv2:pvt (rws y1) c (n - (a+1)) (a+1)=pvt (rws y1) c (n - r) r:=by
    rw [<- hpv,show n - a=(n - (a+1))+1 by omega]
    simp only [pvt]
    rw [if_pos h0]
   exact Run.j (ih (a+1) (⟨by omega,by omega,hpv2⟩) mz)
  intro h
  have h0:((rws y1).getD a []).getD c 0≠0:=by rw [m3];simpa using h
  have hpa:pvt (rws y1) c (n - r) r=a:=by
   rw [<- hpv,show n - a=(n - (a+1))+1 by omega]
   simp only [pvt]
   rw [if_neg h0]
  refine Run.x ?_
  refine Run.R ?_
  refine Run.c ?_ ?_
  ·intro h;exfalso;simp at h;omega
  intro _
  obtain⟨p2,p3⟩:=hget r om
  have hrn:r < n:=by omega
  refine Run.R ?_
  refine Run.R ?_
  refine Run.R ?_
  refine Run.RW ?_
  have hmw:rws ((y1.set a (y1.getD r (0,[]))).set r (y1.getD a (0,[])))=swp (rws y1) r a:=by
   rw [rws_set2,rws_set2,<- p3,<- m3,swp_comm _ (by rw [rws_len];omega) (by rw [rws_len];omega)]
  have hok2:OKM n (beta r) (rws ((y1.set a (y1.getD r (0,[]))).set r (y1.getD a (0,[])))):=by rw [hmw];exact hok.swp hrn ha
  have hE2:rkG rowS (n - (c+1)) (elim (fun N k=>rowS N r c k) (n - (r+1)) (r+1) (rws ((y1.set a (y1.getD r (0,[]))).set r (y1.getD a (0,[]))))) (r+1) (c+1)=rkG rowS n A 0 0:=by
   rw [<- hE,show n - c=(n - (c+1))+1 by omega,hmw]
   simp only [rkG]
   rw [hok.1,hpa,if_neg om]
  have hP2:(rws ((y1.set a (y1.getD r (0,[]))).set r (y1.getD a (0,[])))).getD r []=(y1.getD a (0,[])).2:=by
   rw [hmw,swp_get _ (by rw [rws_len];omega) (by rw [rws_len];omega),<- m3]
   split
   ·rename_i e;rw [e]
   ·rw [if_pos rfl]
  generalize hh2:(y1.set a (y1.getD r (0,[]))).set r (y1.getD a (0,[]))=y2 at *
  refine Run.keep [0,3,4,6,7] ?_;simp only [AK,Nat.reduceBEq]
  generalize hzp:(y1.getD a (0,[])).2=P at *
  generalize hzq:(y1.getD a (0,[])).1=pq at *
  refine Run.loopI (X:=List (Nat×List Int)×Nat) (fun x=>⟨102,[(0,true,.v (.own 0 0)),(3,true,.v (.int .i64 r)),(4,true,.v (.int .i64 c)),(6,true,.v (.lr pq P)),(7,true,.v (.int .i64 (x.2)))],[.arr .lrow x.1 0 nn]⟩) (fun x=>(r < x.2/\x.2<=n)/\Mid n r x.2 (rws x.1)/\elim (fun N k=>rowS N r c k) (n - x.2) x.2 (rws x.1)=elim (fun N k=>rowS N r c k) (n - (r+1)) (r+1) (rws y2)/\(rws x.1).getD r []=P) (fun x=>n - x.2) ((y2,r+1)) (⟨by omega,Mid.start hok2 _,rfl,hP2⟩) ?_ ?_
  ·exact Le.s
  rintro⟨y,k⟩ ⟨⟨hrk,hkn⟩,hmid,hel,hP⟩ ihK
  try simp only []
  simp only []at hrk hkn hmid hel hP
  clear ih hget m3 haa h h0 hpa p2 p3 hh2 hmw hE hok
  have hly:y.length=n:=by rw [<- rws_len];exact hmid.1.1
  refine Run.R ?_
  refine Run.c ?_ ?_
  rotate_left
  ·intro h
   have hkk:k=n:=by rw [dfE]at h;omega
   refine Run.x ?_
   refine Run.RW ?_
   refine Run.RW ?_
   rw [hkk,Nat.sub_self]at hel
   simp only [elim]at hel
   rw [<- hel]at hE2
   exact Run.j (ihO ((y,r+1,c+1)) (⟨hmid.1,hrn,hc,hE2⟩) mz)
  intro h
  have hk:k < n:=by rw [dtE]at h;omega
  have q3:=rws_getD y k
  have q2:(y.getD k (0,[])).2.length=n:=by rw [<- q3];exact(hmid.1.2 k hk).1
  have hrow:=hmid.row (c:=c) hk hrk hn
  have hel2:elim (fun N k=>rowS N r c k) (n - (k+1)) (k+1) ((rws y).set k (rowS (rws y) r c k))=elim (fun N k=>rowS N r c k) (n - (r+1)) (r+1) (rws y2):=by
   rw [<- hel,show n - k=(n - (k+1))+1 by omega]
   simp only [elim]
  have hZ:∀ j,j < n->(rowS (rws y) r c k).getD j 0=P.getD c 0*(y.getD k (0,[])).2.getD j 0 - (y.getD k (0,[])).2.getD c 0*P.getD j 0:=fun j hj=>by
   unfold rowS;rw [hP,q3,lin_get _ _ _ _ om om]
  have hrb:=hmid.2 r hrn (.inl (Nat.le_refl _))
  have hkb:=hmid.2 k hk (.inr (Nat.le_refl _))
  have b0:=beta_pos r
  have bq:=beta_sq (r:=r) om
  have b1:=beta_pos (r+1)
  rw [hP]at hrb
  rw [q3]at hkb
  have hP2:(rws (y.set k (0,rowS (rws y) r c k))).getD r []=P:=by
   rw [rws_set,set_get _ _ _ _ (by rw [rws_len];omega),if_neg om];exact hP
  rw [rws_set]at hP2
  generalize hzz:rowS (rws y) r c k=Z at *
  refine Run.R ?_
  refine Run.R ?_
  refine Run.keep [0,3,4,6,7,8,9] ?_;simp only [AK,Nat.reduceBEq]
  refine Run.loopI (X:=Nat) (fun j=>⟨102,[(0,true,.v (.own 0 0)),(3,true,.v (.int .i64 r)),(4,true,.v (.int .i64 c)),(6,true,.v (.lr pq P)),(7,true,.v (.int .i64 k)),(8,true,.v (.own 1 0)),(9,true,.v (.int .i64 j))],[.arr .lrow y 0 nn,.arr .int ((Z.take j)) 0 true]⟩) (fun j=>j<=n) (fun j=>n - j) (0) om ?_ ?_
  ·exact Le.s
  rintro j hjn ihJ
  try simp only []
  refine Run.R ?_
  refine Run.c ?_ ?_
  rotate_left
  ·intro h
   have hjj:j=Z.length:=by rw [dfE]at h;omega
   refine Run.x ?_
   rw [hjj,tkL]
   refine Run.tolr 1 [0,3,4,6,7,8] rfl (fun q hq=>?_);simp only [AL,frV_cons,frV_nil,AW7,simprocAttr]
   refine Run.R ?_
   refine Run.kp [0,3,4,6,7] [0] ?_
   refine Run.RW ?_
   have hm2:=hmid.put hk hrk hrow
   rw [<- rws_set y k q]at hm2 hel2 hP2
   exact Run.j (ihK ((y.set k (q,Z),k+1)) (⟨⟨by omega,by omega⟩,hm2,hel2,hP2⟩) mz)
  intro h
  have hj:j < n:=by rw [dtE]at h;omega
  have e1:IntKind.i64.wrap (IntKind.i64.wrap ((y.getD k (0,[])).2.getD j 0*P.getD c 0) - IntKind.i64.wrap ((y.getD k (0,[])).2.getD c 0*P.getD j 0))=Z.getD j 0:=by
   rw [hZ j hj]
   have m1:=mul_bnd (hkb.at' om j) (hrb.at' om c)
   have m2:=mul_bnd (hkb.at' om c) (hrb.at' om j)
   have w1:=wrap_id (n:=(y.getD k (0,[])).2.getD j 0*P.getD c 0) om
   have w2:=wrap_id (n:=(y.getD k (0,[])).2.getD c 0*P.getD j 0) om
   rw [w1,w2,wrap_id om,Int.mul_comm (P.getD c 0)]
  refine Run.nq ?_;refine Run.regionD hC true [0,1,2,3,4,5,6,7,8,9,10,11,12,13,14,15,16,17,18,19,20,21,22,23,24,25,26,27,28] (by kernel_rfl) (fun K hK=>?_);simp only [AW7,simprocAttr,hX];(repeat(with_reducible refine And.intro ?_ ?_);exact vc0)
  refine wE ?_;clear hK K
  simp only [e1]
  refine Run.kp [0,3,4,6,7,8,9] [0,1] ?_
  refine Run.RW ?_
  refine Run.le ?_ (ihJ (j+1) om (by(try simp only [lenA,lenC,lenN]);omega))
  exact Le.sub (by first | rfl | (simp only [takeI_snoc Z j om];done) | (rw [takeI_snoc Z j om];rfl)) (by simp only [AW7,simprocAttr];try simp)
 ·have haa:decide ((a:Int) < y1.length)=false:=by rw [dfE];omega
  have hae:a=n:=by omega
  refine Run.g fun K hK=>?_
  simp only [haa]
  refine wF ?_;clear hK K
  refine Run.c ?_ ?_
  ·intro h;cases h
  intro _
  refine Run.x ?_
  refine Run.R ?_
  refine Run.c ?_ ?_
  rotate_left
  ·intro h;exfalso;simp at h;omega
  intro _
  refine Run.x ?_
  refine Run.RW ?_
  have hpv:pvt (rws y1) c (n - r) r=n:=by rw [<- hpv,hae,Nat.sub_self];rfl
  have hE2:=hE
  rw [show n - c=(n - (c+1))+1 by omega]at hE2
  simp only [rkG]at hE2
  rw [hok.1,if_pos hpv]at hE2
  exact Run.j (ihO ((y1,r,c+1)) (⟨hok,hr,hc,hE2⟩) mz)
def fxR (c:LL) (w:LI) (i:Nat):List Int:=(actR c w (simL c.length i)).set i ((actR c w (simL c.length i)).getD i 0 - 1)
def fxM (c:LL) (w:LI):List (List Int):=(List.range c.length).map (fxR c w)
noncomputable def fixN (c:LL) (w:LI):Int:=if wordB c w && isF c then(c.length:Int) - (rkG rowI c.length (fxM c w) 0 0:Nat)else -1
theorem fxR_len (c:LL) (w:LI) (i:Nat):(fxR c w i).length=c.length:=by
 unfold fxR;rw [List.length_set,actR_len,simL_len]
theorem fxR_bnd {c:LL} {w:LI} (hF:FinP c) (hw:letters c.length w) {i:Nat} (hi:i < c.length):Bnd 8 (fxR c w i):=by
 have h:=(fin_all hF).2.2 w i hw hi
 intro x hx
 unfold fxR at hx
 rcases List.mem_or_eq_of_mem_set hx with hx | rfl
 ·have:=h x hx;omega
 ·have hl:i < (actR c w (simL c.length i)).length:=by rw [actR_len,simL_len];exact hi
  have:=h ((actR c w (simL c.length i)).getD i 0) (by rw [getD_eq hl];exact List.getElem_mem hl)
  omega
theorem fxM_ok {c:LL} {w:LI} (hF:FinP c) (hw:letters c.length w):OKM c.length 8 (fxM c w):=by
 refine⟨by simp [fxM],fun k hk=>?_⟩
 have e:(fxM c w).getD k []=fxR c w k:=by simp [fxM,List.getD,hk]
 rw [e]
 exact⟨fxR_len c w k,fxR_bnd hF hw hk⟩
theorem fxM_rank {c:LL} {w:LI} (hF:FinP c) (hw:letters c.length w):rkG rowS c.length (fxM c w) 0 0=rkG rowI c.length (fxM c w) 0 0:=
 rk_same _ (MulM.refl (fxM_ok hF hw)) (nz0 _)
theorem fxR_get (c:LL) (w:LI) {i k:Nat} (_:i < c.length) (hk:k < c.length):(fxR c w i).getD k 0=(actR c w (simL c.length i)).getD k 0 - (simL c.length i).getD k 0:=by
 have hl:(actR c w (simL c.length i)).length=c.length:=by rw [actR_len,simL_len]
 have hs:(simL c.length i).getD k 0=if k=i then 1 else 0:=by
  unfold simL
  simp only [List.getD,List.getElem?_set,List.length_replicate]
  by_cases h:i=k
  ·subst h;simp [hk]
  ·rw [if_neg h,if_neg (Ne.symm h)];simp [hk]
 rw [hs]
 unfold fxR
 simp only [List.getD,List.getElem?_set]
 by_cases h:i=k
 ·subst h;simp [hl,hk]
 ·rw [if_neg h,if_neg (Ne.symm h)];simp
theorem rkG_le (g:List (List Int)->Nat->Nat->Nat->List Int):∀(f:Nat) (M:LL) (r c:Nat),r<=M.length->rkG g f M r c<=M.length
 | 0,M,r,c,h=>h
 | f+1,M,r,c,h=>by
  have hg:=pvt_ge M c (M.length - r) r
  simp only [rkG]
  split
  ·exact rkG_le g f M r (c+1) h
  ·have:=rkG_le g f (elim (fun N k=>g N r c k) (M.length - (r+1)) (r+1) (swp M r (pvt M c (M.length - r) r))) (r+1) (c+1) (by rw [elim_len,swp_len];omega)
   rw [elim_len,swp_len]at this
   exact this
theorem fxM_take (c:LL) (w:LI) {i:Nat} (h:i < c.length):(List.range (i+1)).map (fxR c w)=(List.range i).map (fxR c w) ++ [fxR c w i]:=by
 rw [List.range_succ,List.map_append];rfl
theorem actB {c:LL} {w:LI} (hF:FinP c) (hw:letters c.length w) {i:Nat} (hi:i < c.length) (j:Nat):Bnd 100000000000000000 (actR c (w.drop j) (simL c.length i)):=by
 intro x hx
 have:=(fin_all hF).2.2 (w.drop j) i (fun a ha=>hw a (List.mem_of_mem_drop ha)) hi x hx
 omega
set_option maxHeartbeats 1000000 in
theorem c_impl_FixedRank (c:LL) (w:LI) (_:c.length<=1048576) :
  FunA B 25 [.sl false (.row false) c,.sl false .int w] (fun rs o=>rs=[.int .i64 (fixN c w)]/\o=[]):=by
 refine FunA.walk0 B_ok (fn:=Tryz.f25) (fun vs w=>Tryz.call25 vs w) Tryz.func25 rfl (by rw [Tryz.ntmps25];simp) rfl (fun C hC hP hT hΓ hbt hfn hpin hnoL hfin=>?_);have hX:=BX;rw [<- hΓ,<- hbt.1,<- hbt.2.1,<- hbt.2.2.1,<- hbt.2.2.2.2]at hX;rw [hT]at hX;rw [Tryz.ntmps25];simp only [AW7,simprocAttr,hX]
 refine Run.R ?_
 by_cases hwb:wordB c w=true
 rotate_left
 ·have hwb:wordB c w=false:=by simpa using hwb
  have e:fixN c w = -1:=by simp [fixN,hwb]
  refine Run.g fun K hK=>?_
  refine FunA.cW hP hT (c_impl_IsWord c w) ?_
  rintro rs o ⟨rfl,rfl⟩
  simp only [hwb]
  refine wW ?_
  refine .inl (CallG.off (.bool false) ?_)
  refine wF ?_;clear hK K
  refine Run.c ?_ ?_
  rotate_left
  ·intro h;cases h
  intro _
  refine Run.R ?_
  refine Run.r [4] ?_
  rw [e];exact⟨rfl,rfl⟩
 refine Run.g fun K hK=>?_
 refine FunA.cW hP hT (c_impl_IsWord c w) ?_
 rintro rs o ⟨rfl,rfl⟩
 simp only [hwb]
 refine wW ?_
 refine .inr ⟨rfl,?_⟩
 refine FunA.e hP hT (c_impl_IsFinite c) ?_
 refine wE ?_;clear hK K
 refine Run.c ?_ ?_
 ·intro h
  have hf:isF c=false:=by simpa using h
  have e:fixN c w = -1:=by simp [fixN,hf]
  refine Run.R ?_
  refine Run.r [4] ?_
  rw [e];exact⟨rfl,rfl⟩
 intro h
 have hf:isF c=true:=by simpa using h
 have hF:=isF_iff.1 hf
 obtain⟨hc,hwl,hw⟩:=wordB_iff.1 hwb
 have hn:=hc.2.1
 have hfx:fixN c w=(c.length:Int) - (rkG rowI c.length (fxM c w) 0 0:Nat):=by simp [fixN,hwb,hf]
 refine Run.R ?_
 refine Run.R ?_
 refine Run.k [0,1,5,19,20] [0] ?_
 refine Run.loopI (X:=List (Nat×List Int)×Nat×Bool) (fun x=>⟨46,[(0,true,.v (.sl false (.row false) c)),(1,true,.v (.sl false .int w)),(5,true,.v (.own 0 0)),(19,true,.v (.int .i64 (c.length))),(20,true,.v (.int .i64 (x.2.1)))],[.arr .lrow x.1 0 x.2.2]⟩) (fun x=>x.2.1<=c.length/\rws x.1=(List.range x.2.1).map (fxR c w)/\(x.1.map (·.1)).Nodup) (fun x=>c.length - x.2.1) (([],0,true)) (⟨nz0 _,rfl,by simp⟩) ?_ ?_
 ·exact Le.s
 rintro⟨ys,i,nn⟩ ⟨hi,hys,hnd⟩ ih
 try simp only []
 simp only []at hi hys hnd
 refine Run.R ?_
 refine Run.c ?_ ?_
 ·intro h
  have h:i < c.length:=by rw [dtE]at h;omega
  refine Run.R ?_
  refine Run.g fun K hK=>?_
  refine FunA.e hP hT (c_impl_simple c.length i om om) ?_
  refine FunA.e hP hT (c_impl_actedRoot c w (simL c.length i) hc hw (simL_len _ _) om (actB hF hw h)) ?_
  refine wE ?_;clear hK K
  have hal:(actR c w (simL c.length i)).length=c.length:=by rw [actR_len,simL_len]
  have hab:=(fxR_bnd hF hw h).at' om i
  have hag:(fxR c w i).getD i 0=(actR c w (simL c.length i)).getD i 0 - 1:=by unfold fxR;simp [List.getD,hal,h]
  rw [hag]at hab
  have hyl:ys.length=i:=by rw [<- rws_len,hys];simp
  refine Run.RW ?_
  refine Run.k [0,1,5,7,19,20] [0,2] ?_
  refine Run.tolr 1 [0,1,5,7,19,20] rfl (fun q hq=>?_);simp only [AL,frV_cons,frV_nil,AW7,simprocAttr]
  refine Run.R ?_
  refine Run.k [0,1,5,19,20] [0] ?_
  have hnd2:((ys ++ [(q,fxR c w i)]).map (·.1)).Nodup:=by
   rw [List.map_append,List.nodup_append]
   refine⟨hnd,by simp,fun a ha b hb=>?_⟩
   simp at hb
   subst hb
   obtain⟨p,hp,rfl⟩:=List.mem_map.1 ha
   exact hq _ (mcS ..) _ _ _ rfl p hp
  have hys2:rws (ys ++ [(q,fxR c w i)])=(List.range (i+1)).map (fxR c w):=by
   rw [fxM_take c w h,<- hys];simp [rws]
  refine Run.RW ?_
  exact Run.j (ih ((ys ++ [(q,fxR c w i)],i+1,true)) (⟨h,hys2,hnd2⟩) mz)
 intro h
 have hic:i=c.length:=by rw [dfE]at h;omega
 refine Run.x ?_
 have hys:rws ys=fxM c w:=by rw [hys,hic];rfl
 refine Run.togm 0 [0,5] rfl hnoL hnd rfl (fun hs F hnd hmap=>?_);simp only [AG,frV_cons,frV_nil,AW7,simprocAttr]
 have hmp:hs.map F=fxM c w:=by rw [hmap];exact hys
 have hinj:InjL hs:=fun a b ha hb e=>by
  rw [getD_eq ha,getD_eq hb]at e
  have hp:=List.pairwise_iff_getElem.1 hnd
  rcases Nat.lt_trichotomy a b with h1 | h1 | h1
  ·exact(List.pairwise_iff_getElem.1 ‹hs.Nodup› a b ha hb h1 e).elim
  ·exact h1
  ·exact(List.pairwise_iff_getElem.1 ‹hs.Nodup› b a hb ha h1 e.symm).elim
 refine Run.g fun K hK=>?_
 refine FunO.callGm hP hT (c_impl_rankOf c.length hs F hs (fxM c w) hmp hinj (fun _ h=>h) hn (fxM_ok hF hw) nn) 0 0 (by simp only [AW7,simprocAttr];rfl) (by simp) (by simp only [AW7,simprocAttr]) ?_
 rintro rs o' obs' ⟨rfl,F',hs',h⟩
 obtain⟨rfl,rfl⟩:=List.cons.inj h
 have hrk:=rkG_le rowI c.length (fxM c w) 0 0 (nz0 _)
 rw [(fxM_ok hF hw).1]at hrk
 simp(disch:=omega) only [wrap_id,AW7,simprocAttr,hX];(repeat(with_reducible refine And.intro ?_ ?_);exact vc0)
 refine wE ?_;clear hK K
 refine Run.k [4] [] ?_
 refine Run.r [4] ?_
 rw [hfx];exact⟨rfl,rfl⟩
set_option maxHeartbeats 1000000 in
theorem c_spec_FixedRank (c:LL) (w:LI) (hcl:c.length<=1048576) :
  FunA B 26 [.sl false (.row false) c,.sl false .int w] (fun rs o=>rs=[.int .i64 (fixN c w)]/\o=[]):=by
 refine wk Tryz.call26 Tryz.func26 rfl Tryz.ntmps26 fun C hC hP hT hfn hpin hfin hX=>wW ?_
 refine Run.R ?_
 by_cases hwb:wordB c w=true
 rotate_left
 ·have hwb:wordB c w=false:=by simpa using hwb
  have e:fixN c w = -1:=by simp [fixN,hwb]
  refine Run.g fun K hK=>?_
  refine FunA.cW hP hT (c_spec_IsWord c w hcl) ?_
  rintro rs o ⟨rfl,rfl⟩
  simp only [hwb]
  refine wW ?_
  refine .inl (CallG.off (.bool false) ?_)
  refine wF ?_;clear hK K
  refine Run.c ?_ ?_
  rotate_left
  ·intro h;cases h
  intro _
  refine Run.R ?_
  refine Run.r [4] ?_
  rw [e];exact⟨rfl,rfl⟩
 refine Run.g fun K hK=>?_
 refine FunA.cW hP hT (c_spec_IsWord c w hcl) ?_
 rintro rs o ⟨rfl,rfl⟩
 simp only [hwb]
 refine wW ?_
 refine .inr ⟨rfl,?_⟩
 refine FunA.e hP hT (c_spec_IsFinite c) ?_
 refine wE ?_;clear hK K
 refine Run.c ?_ ?_
 ·intro h
  have hf:isF c=false:=by simpa using h
  have e:fixN c w = -1:=by simp [fixN,hf]
  refine Run.R ?_
  refine Run.r [4] ?_
  rw [e];exact⟨rfl,rfl⟩
 intro h
 have hf:isF c=true:=by simpa using h
 have hF:=isF_iff.1 hf
 have hW:=wordB_iff.1 hwb
 obtain⟨hc,hwl,hw⟩:=hW
 have hn:=hc.2.1
 have hfx:fixN c w=(c.length:Int) - (rkG rowI c.length (fxM c w) 0 0:Nat):=by simp [fixN,hwb,hf]
 refine Run.R ?_
 refine Run.R ?_
 refine Run.k [0,1,5,6] [0] ?_
 refine Run.loopI (X:=List (Nat×List Int)×Nat×Bool) (fun x=>⟨62,[(0,true,.v (.sl false (.row false) c)),(1,true,.v (.sl false .int w)),(5,true,.v (.own 0 0)),(6,true,.v (.int .i64 (x.2.1)))],[.arr .lrow x.1 0 x.2.2]⟩) (fun x=>x.2.1<=c.length/\rws x.1=(List.range x.2.1).map (fxR c w)) (fun x=>c.length - x.2.1) (([],0,true)) (⟨nz0 _,rfl⟩) ?_ ?_
 ·exact Le.s
 rintro⟨ys,i,nn⟩ ⟨hi,hys⟩ ih
 try simp only []
 simp only []at hi hys
 have hyl:ys.length=i:=by rw [<- rws_len,hys];simp
 refine Run.R ?_
 refine Run.c ?_ ?_
 ·intro h
  have h:i < c.length:=by rw [dtE]at h;omega
  have hal:(actR c w (simL c.length i)).length=c.length:=by rw [actR_len,simL_len]
  have hsl:=simL_len c.length i
  have hfl:=fxR_len c w i
  refine Run.g fun K hK=>?_
  refine FunA.e hP hT (c_spec_SimpleRoot c (i:Int) hc om) ?_
  refine wE ?_;clear hK K
  refine Run.g fun K hK=>?_
  refine FunA.e hP hT (c_spec_ActOnRoot c w (simL c.length i) (wordB_iff.1 hwb) (simL_len _ _) (actB hF hw h)) ?_
  refine wE ?_;clear hK K
  refine Run.R ?_
  refine Run.R ?_
  refine Run.k [0,1,5,6,7,8,9,10] [0,1,2,3] ?_
  refine Run.loopI (X:=Nat) (fun k=>⟨62,[(0,true,.v (.sl false (.row false) c)),(1,true,.v (.sl false .int w)),(5,true,.v (.own 0 0)),(6,true,.v (.int .i64 i)),(7,true,.v (.own 1 0)),(8,true,.v (.own 2 0)),(9,true,.v (.own 3 0)),(10,true,.v (.int .i64 k))],[.arr .lrow ys 0 nn,.arr .int ((simL c.length i)) 0 true,.arr .int ((actR c w (simL c.length i))) 0 true,.arr .int (((fxR c w i).take k)) 0 true]⟩) (fun k=>k<=c.length) (fun k=>c.length - k) (0) (nz0 _) ?_ ?_
  ·exact Le.s
  rintro k hk ihK
  try simp only []
  refine Run.R ?_
  refine Run.c ?_ ?_
  ·intro h2
   have h2:k < c.length:=by rw [dtE]at h2;omega
   have hg:=fxR_get c w h h2
   have hb:=(fxR_bnd hF hw h).at' om k
   have e1:IntKind.i64.wrap ((actR c w (simL c.length i)).getD k 0 - (simL c.length i).getD k 0)=(fxR c w i).getD k 0:=by
    rw [<- hg];exact wrap_id om
   refine Run.nq ?_;refine Run.regionD hC true [0,1,2,3,4,5,6,7,8,9,10,11,12] (by kernel_rfl) (fun K hK=>?_);simp only [AW7,simprocAttr,hX];(repeat(with_reducible refine And.intro ?_ ?_);exact vc0)
   refine wE ?_;clear hK K
   simp only [e1]
   refine Run.k [0,1,5,6,7,8,9,10] [0,1,2,3] ?_
   refine Run.RW ?_
   refine Run.le ?_ (ihK (k+1) om (by(try simp only [lenA,lenC,lenN]);omega))
   exact Le.sub (by first | rfl | (simp only [takeI_snoc (fxR c w i) k om];done) | (rw [takeI_snoc (fxR c w i) k om];rfl)) (by simp only [AW7,simprocAttr];try simp)
  intro h2
  have h2:k=(fxR c w i).length:=by rw [dfE]at h2;omega
  refine Run.x ?_
  rw [h2,tkL]
  refine Run.k [0,1,5,6,9] [0,3] ?_
  refine Run.tolr 1 [0,1,5,6,9] rfl (fun q hq=>?_);simp only [AL,frV_cons,frV_nil,AW7,simprocAttr]
  refine Run.R ?_
  have hys2:rws (ys ++ [(q,fxR c w i)])=(List.range (i+1)).map (fxR c w):=by
   rw [fxM_take c w h,<- hys];simp [rws]
  refine Run.k [0,1,5,6] [0] ?_
  refine Run.RW ?_
  exact Run.j (ih ((ys ++ [(q,fxR c w i)],i+1,true)) (⟨h,hys2⟩) mz)
 intro h
 have hic:i=c.length:=by rw [dfE]at h;omega
 refine Run.x ?_
 have hys:rws ys=fxM c w:=by rw [hys,hic];rfl
 refine Run.k [0,1,5] [0] ?_
 refine Run.g fun K hK=>?_
 refine FunM.call hP hT (c_spec_l17Rank c.length ys (fxM c w) hys hn (fxM_ok hF hw) nn) 0 0 (by simp only [AW7,simprocAttr];rfl) (by simp) rfl (by simp only [AW7,simprocAttr];try simp) ?_
 rintro rs o' obs' ⟨rfl,ys',h⟩
 obtain⟨rfl,rfl⟩:=List.cons.inj h
 have hrk:=rkG_le rowI c.length (fxM c w) 0 0 (nz0 _)
 rw [(fxM_ok hF hw).1]at hrk
 rw [fxM_rank hF hw]
 simp(disch:=omega) only [wrap_id,AW7,simprocAttr,hX];(repeat(with_reducible refine And.intro ?_ ?_);exact vc0)
 refine wE ?_;clear hK K
 refine Run.k [4] [] ?_
 refine Run.r [4] ?_
 rw [hfx];exact⟨rfl,rfl⟩
noncomputable def absN (c:LL) (w:LI):Int:=if wordB c w && isF c then((rkG rowI c.length (fxM c w) 0 0:Nat):Int)else -1
theorem absN_fix (c:LL) (w:LI):(fixN c w < 0/\absN c w = -1)\/(0<=fixN c w/\absN c w=(c.length:Int) - fixN c w/\fixN c w<=c.length):=by
 unfold fixN absN
 cases h:wordB c w && isF c with
 | false=>left;simp
 | true=>
  right
  have hl:=rkG_le rowI c.length (fxM c w) 0 0 (nz0 _)
  have e:(fxM c w).length=c.length:=by simp [fxM]
  rw [e]at hl
  simp only [if_true]
  omega
noncomputable def mulB (c:LL) (a b:LI):Bool:=wordB c a && wordB c b && decide ((redL c (a ++ b)).length<=15)
noncomputable def mulX (c:LL) (a b:LI):List Int:=if mulB c a b then redL c (a ++ b)else []
theorem mul_off {c:LL} {a b:LI} (h:(wordB c a && wordB c b)=false):mulB c a b=false/\mulX c a b=[]:=by
 have:mulB c a b=false:=by unfold mulB;rw [h];rfl
 exact⟨this,by simp [mulX,this]⟩
theorem mul_on {c:LL} {a b:LI} (h:(wordB c a && wordB c b)=true):mulB c a b=decide ((redL c (a ++ b)).length<=15)/\mulX c a b=if (redL c (a ++ b)).length<=15 then redL c (a ++ b)else []:=by
 have:mulB c a b=decide ((redL c (a ++ b)).length<=15):=by unfold mulB;rw [h];rfl
 exact⟨this,by simp [mulX,this]⟩
theorem c_impl_AbsoluteLength (c:LL) (w:LI) (hcl:c.length<=1048576) :
  FunA B 23 [.sl false (.row false) c,.sl false .int w] (fun rs o=>rs=[.int .i64 (absN c w)]/\o=[]):=by
 refine wk Tryz.call23 Tryz.func23 rfl Tryz.ntmps23 fun C hC hP hT hfn hpin hfin hX=>wW ?_
 refine Run.R ?_
 refine Run.g fun K hK=>?_
 refine FunA.e hP hT (c_impl_FixedRank c w hcl) ?_
 refine wE ?_;clear hK K
 refine Run.R ?_
 refine Run.c ?_ ?_
 ·intro h
  have h:fixN c w < 0:=by rw [dtE]at h;exact h
  have e:absN c w = -1:=by rcases absN_fix c w with h1 | h1<;>omega
  refine Run.R ?_
  refine Run.r [4] ?_
  rw [e];exact⟨rfl,rfl⟩
 intro h
 have h:¬fixN c w < 0:=by rw [dfE]at h;exact h
 have e:absN c w=(c.length:Int) - fixN c w/\fixN c w<=c.length:=by rcases absN_fix c w with h1 | h1<;>omega
 refine Run.RW ?_
 refine Run.r [4] ?_
 rw [e.1];exact⟨rfl,rfl⟩
theorem c_impl_MultiplyElements (c:LL) (a b:LI) (hcl:c.length<=1048576) :
  FunA B 94 [.sl false (.row false) c,.sl false .int a,.sl false .int b] (fun rs o=>rs=[.own 0 0,.bool (mulB c a b)]/\o=[.arr .int (mulX c a b) 0 true]):=by
 refine wk Tryz.call94 Tryz.func94 rfl Tryz.ntmps94 fun C hC hP hT hfn hpin hfin hX=>wW ?_
 refine Run.R ?_
 by_cases ha:wordB c a=true
 rotate_left
 ·have ha:wordB c a=false:=by simpa using ha
  obtain⟨e1,e2⟩:=mul_off (c:=c) (a:=a) (b:=b) (by rw [ha];rfl)
  refine Run.g fun K hK=>?_
  refine FunA.cW hP hT (c_impl_IsWord c a) ?_
  rintro rs o ⟨rfl,rfl⟩
  simp only [ha]
  refine wW ?_
  refine .inl (CallG.off (.bool false) ?_)
  refine wF ?_;clear hK K
  refine Run.c ?_ ?_
  rotate_left
  ·intro h;cases h
  intro _
  refine Run.R ?_
  refine Run.k [6,7] [0] ?_
  refine Run.r [6,7] ?_
  rw [e1,e2];exact⟨rfl,rfl⟩
 refine Run.g fun K hK=>?_
 refine FunA.cW hP hT (c_impl_IsWord c a) ?_
 rintro rs o ⟨rfl,rfl⟩
 simp only [ha]
 refine wW ?_
 refine .inr ⟨rfl,?_⟩
 refine FunA.e hP hT (c_impl_IsWord c b) ?_
 refine wE ?_;clear hK K
 refine Run.c ?_ ?_
 ·intro h
  have hb:wordB c b=false:=by simpa using h
  obtain⟨e1,e2⟩:=mul_off (c:=c) (a:=a) (b:=b) (by rw [ha,hb];rfl)
  refine Run.R ?_
  refine Run.k [6,7] [0] ?_
  refine Run.r [6,7] ?_
  rw [e1,e2];exact⟨rfl,rfl⟩
 intro h
 have hb:wordB c b=true:=by simpa using h
 obtain⟨e1,e2⟩:=mul_on (c:=c) (a:=a) (b:=b) (by rw [ha,hb];rfl)
 obtain⟨hc,a1,a2⟩:=wordB_iff.1 ha
 obtain⟨_,b1,b2⟩:=wordB_iff.1 hb
 have hlet:letters c.length (a ++ b):=letters_append.2 ⟨a2,b2⟩
 have hll:(a ++ b).length<=30:=by simp;omega
 refine Run.g fun K hK=>?_
 refine FunA.cW hP hT (c_impl_ConcatWords a b om om) ?_
 rintro rs o ⟨nn2,rfl,rfl⟩
 refine wW ?_
 refine FunA.e hP hT (c_impl_reduced c (a ++ b) hc hlet om) ?_
 refine wE ?_;clear hK K
 refine Run.R ?_
 refine Run.c ?_ ?_
 ·intro h
  have h:¬(redL c (a ++ b)).length<=15:=by simp at h;omega
  refine Run.R ?_
  refine Run.k [6,7] [2] ?_
  refine Run.r [6,7] ?_
  rw [e1,e2,if_neg h];exact⟨by simp [h],rfl⟩
 intro h
 have h:(redL c (a ++ b)).length<=15:=by simp at h;omega
 refine Run.R ?_
 refine Run.k [6,7] [1] ?_
 refine Run.r [6,7] ?_
 rw [e1,e2,if_pos h];exact⟨by simp [h],rfl⟩
theorem c_spec_AbsoluteLength (c:LL) (w:LI) (hcl:c.length<=1048576) :
  FunA B 24 [.sl false (.row false) c,.sl false .int w] (fun rs o=>rs=[.int .i64 (absN c w)]/\o=[]):=by
 refine wk Tryz.call24 Tryz.func24 rfl Tryz.ntmps24 fun C hC hP hT hfn hpin hfin hX=>wW ?_
 refine Run.R ?_
 refine Run.g fun K hK=>?_
 refine FunA.e hP hT (c_spec_FixedRank c w hcl) ?_
 refine wE ?_;clear hK K
 refine Run.R ?_
 refine Run.c ?_ ?_
 ·intro h
  have h:fixN c w < 0:=by rw [dtE]at h;exact h
  have e:absN c w = -1:=by rcases absN_fix c w with h1 | h1<;>omega
  refine Run.R ?_
  refine Run.r [4] ?_
  rw [e];exact⟨rfl,rfl⟩
 intro h
 have h:¬fixN c w < 0:=by rw [dfE]at h;exact h
 have e:absN c w=(c.length:Int) - fixN c w/\fixN c w<=c.length:=by rcases absN_fix c w with h1 | h1<;>omega
 refine Run.RW ?_
 refine Run.r [4] ?_
 rw [e.1];exact⟨rfl,rfl⟩
end Go.Proofs.YtcinngodeoidnaaGreat
