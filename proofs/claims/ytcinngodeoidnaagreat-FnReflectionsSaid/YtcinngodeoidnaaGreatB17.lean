/- The rank: the program's walk, in place. -/
import Derived.Test.YtcinngodeoidnaaGreatB16
import Derived.Test.YtcinngodeoidnaaGreatB14
set_option linter.unusedVariables false
set_option linter.unusedSimpArgs false
namespace Go.Proofs.YtcinngodeoidnaaGreat
open Go Go.Aw Go.Cox
def InjL (hs:List Nat):Prop:=∀ i j,i < hs.length->j < hs.length->hs.getD i 0=hs.getD j 0->i=j
theorem map_getD (F:Nat->List Int) (hs:List Nat) {k:Nat} (h:k < hs.length):(hs.map F).getD k []=F (hs.getD k 0):=by
 simp [List.getD,geE h]
theorem map_upd {F F2:Nat->List Int} {hs:List Nat} (hi:InjL hs) {k:Nat} (hk:k < hs.length) (h:∀ q,q≠hs.getD k 0->F2 q=F q):hs.map F2=(hs.map F).set k (F2 (hs.getD k 0)):=by
 apply List.ext_getElem
 ·simp
 ·intro i h1 h2
  simp only [List.length_map]at h1
  rw [List.getElem_map,List.getElem_set]
  by_cases e:k=i
  ·subst e;rw [if_pos rfl,getD_eq h1]
  ·rw [if_neg e,List.getElem_map]
   apply h
   intro q
   rw [<- getD_eq (d:=0) h1]at q
   exact e (hi _ _ h1 hk q).symm
theorem map_swp (F:Nat->List Int) (hs:List Nat) {r a:Nat} (hr:r < hs.length) (ha:a < hs.length):((hs.set r (hs.getD a 0)).set a (hs.getD r 0)).map F=swp (hs.map F) r a:=by
 unfold swp
 rw [map_getD F hs ha,map_getD F hs hr,List.map_set,List.map_set]
theorem nset_get (M:List Nat) (k j:Nat) (x:Nat) (hk:k < M.length):(M.set k x).getD j 0=if j=k then x else M.getD j 0:=by
 simp only [List.getD,List.getElem?_set]
 by_cases h:k=j
 ·subst h;simp [hk]
 ·rw [if_neg h,if_neg (Ne.symm h)]
theorem inj_swp {hs:List Nat} (hi:InjL hs) {r a:Nat} (hr:r < hs.length) (ha:a < hs.length):InjL ((hs.set r (hs.getD a 0)).set a (hs.getD r 0)):=by
 have key:∀ i,i < hs.length->((hs.set r (hs.getD a 0)).set a (hs.getD r 0)).getD i 0=hs.getD (if i=a then r else if i=r then a else i) 0:=fun i h=>by
  rw [nset_get _ _ _ _ (by simpa using ha),nset_get _ _ _ _ hr]
  split
  ·rfl
  ·split<;>rfl
 intro i j h1 h2 h3
 simp only [List.length_set]at h1 h2
 rw [key i h1,key j h2]at h3
 have:=hi _ _ (by split<;>(try split)<;>omega) (by split<;>(try split)<;>omega) h3
 split at this<;>split at this<;>(try split at this)<;>(try split at this)<;>omega
theorem set_self (M:LL) (k:Nat):M.set k (M.getD k [])=M:=by
 apply List.ext_getElem?
 intro i
 rw [List.getElem?_set]
 by_cases h:k=i
 ·subst h
  by_cases hk:k < M.length<;>simp [hk]
 ·rw [if_neg h]
def Gd (D:List Nat) (n:Nat) (A:LL) (F:Nat->List Int) (hs:List Nat) (r c:Nat):Prop:=
 InjL hs/\(∀ h∈hs,h∈D)/\OKM n (beta r) (hs.map F)/\r<=n/\c<=n/\rkG rowI (n - c) (hs.map F) r c=rkG rowI n A 0 0
theorem gdM {hs:List Nat} {k:Nat} (h:k < hs.length):hs.getD k 0∈hs:=by rw [getD_eq h];exact List.getElem_mem h
def half (x z:LI) (j:Nat):List Int:=z.take j ++ x.drop j
theorem half_len {x z:LI} (h:z.length=x.length) (j:Nat):(half x z j).length=x.length:=by simp [half];omega
theorem half_get {x z:LI} (h:z.length=x.length) {j:Nat} (hj:j < x.length):(half x z j).getD j 0=x.getD j 0:=by
 have:(z.take j).length=j:=by simp;omega
 simp [half,List.getD,List.getElem?_append,this,List.getElem?_drop]
theorem half_set {x z:LI} (h:z.length=x.length) {j:Nat} (hj:j < x.length):(half x z j).set j (z.getD j 0)=half x z (j+1):=by
 have h1:(z.take j).length=j:=by simp;omega
 unfold half
 rw [List.set_append_right _ _ om,h1,Nat.sub_self,List.drop_eq_getElem_cons hj,List.set_cons_zero,getD_eq (by omega:j < z.length)]
 rw [List.take_succ_eq_append_getElem (by omega:j < z.length),List.append_assoc];rfl
theorem half_zero (x z:LI):half x z 0=x:=by simp [half]
theorem half_all {x z:LI} (h:z.length=x.length):half x z x.length=z:=by simp [half,<- h]
theorem Mid.skip {n r k:Nat} {M:LL} (h:Mid n r k M) (_:k < n):Mid n r (k+1) M:=
 ⟨h.1,fun j hj hjk=>h.2 j hj om⟩
set_option maxHeartbeats 4000000 in
theorem c_impl_rankOf (n:Nat) (D:List Nat) (F:Nat->List Int) (hs:List Nat) (A:LL) (hA:hs.map F=A) (hin:InjL hs) (hsub:∀ h∈hs,h∈D) (hn:n<=4) (hok:OKM n 8 A) (nn:Bool) :
  FunO B 100 [.own 0 0] (.gm D F hs 0 nn) (fun rs o=>rs=[.int .i64 (rkG rowI n A 0 0:Nat)]/\∃ F' hs',o=[.gm D F' hs' 0 nn]):=by
 have hG0:Gd D n A F hs 0 0:=⟨hin,hsub,by rw [hA];exact hok,by omega,by omega,by rw [hA];rfl⟩
 refine FunO.walk B_ok (fn:=Tryz.f100) (fun vs w=>Tryz.call100 vs w) Tryz.func100 rfl (by rw [Tryz.ntmps100];simp) (fun C hC hP hT hΓ hbt hfn hpin hfin=>?_);have hX:=BX;rw [<- hΓ,<- hbt.1,<- hbt.2.1,<- hbt.2.2.1,<- hbt.2.2.2.2]at hX;rw [hT]at hX;rw [Tryz.ntmps100];simp only [AW7,simprocAttr,hX]
 refine Run.R ?_
 refine Run.R ?_
 refine Run.R ?_
 refine Run.loopI (X:=(Nat->List Int)×List Nat×Nat×Nat) (fun x=>⟨118,[(0,true,.v (.own 0 0)),(3,true,.v (.int .i64 (x.2.2.1))),(4,true,.v (.int .i64 (x.2.2.2)))],[.gm D x.1 x.2.1 0 nn]⟩) (fun x=>Gd D n A x.1 x.2.1 x.2.2.1 x.2.2.2) (fun x=>n - x.2.2.2) ((F,hs,0,0)) (hG0) ?_ ?_
 ·exact Le.s
 rintro⟨G,hs1,r,c⟩ hG ihO
 try simp only []
 simp only []at hG
 clear hok hsub hin hA hG0
 obtain⟨hin,hsub,hok,hr,hcn,hE⟩:=hG
 have hl:hs1.length=n:=by simpa using hok.1
 by_cases hc:c < n
 rotate_left
 ·have hcc:decide ((c:Int) < hs1.length)=false:=by rw [dfE];omega
  refine Run.g fun K hK=>?_
  simp only [hcc]
  refine wF ?_;clear hK K
  refine Run.c ?_ ?_
  ·intro h;cases h
  intro _
  refine Run.x ?_
  refine Run.R ?_
  rw [show n - c=0 by omega]at hE
  refine Run.retW [2] (by decide) (by rw [hfn];rfl) (by simp only [AW7,simprocAttr,hX];rfl) (by simp only [AW7,simprocAttr,hX]) (hfin _ _ _ rfl rfl ⟨rfl,_,_,_,rfl⟩ ?_)
  rw [<- hE];exact⟨rfl,_,_,rfl⟩
 have hcc:decide ((c:Int) < hs1.length)=true:=by rw [dtE];omega
 by_cases hrn:r < n
 rotate_left
 ·have hrr:decide ((r:Int) < hs1.length)=false:=by rw [dfE];omega
  refine Run.g fun K hK=>?_
  simp only [hcc,hrr]
  refine wF ?_;clear hK K
  refine Run.c ?_ ?_
  ·intro h;cases h
  intro _
  refine Run.x ?_
  refine Run.R ?_
  have hrr:r=(hs1.map G).length:=by simp;omega
  have hE2:=hE
  rw [hrr,rkG_top,<- hrr]at hE2
  refine Run.retW [2] (by decide) (by rw [hfn];rfl) (by simp only [AW7,simprocAttr,hX];rfl) (by simp only [AW7,simprocAttr,hX]) (hfin _ _ _ rfl rfl ⟨rfl,_,_,_,rfl⟩ ?_)
  rw [<- hE2];exact⟨rfl,_,_,rfl⟩
 have hrr:decide ((r:Int) < hs1.length)=true:=by rw [dtE];omega
 refine Run.g fun K hK=>?_
 simp only [hcc,hrr]
 refine wF ?_;clear hK K
 refine Run.c ?_ ?_
 rotate_left
 ·intro h;cases h
 intro _
 have hget:∀ k,k < n->hs1.getD k 0∈D/\(G (hs1.getD k 0)).length=n/\(hs1.map G).getD k []=G (hs1.getD k 0):=fun k hk=>by
  have e:=map_getD G hs1 (k:=k) om
  exact⟨hsub _ (gdM om),by rw [<- e];exact(hok.2 k hk).1,e⟩
 refine Run.R ?_
 refine Run.loopI (X:=Nat) (fun a=>⟨118,[(0,true,.v (.own 0 0)),(3,true,.v (.int .i64 r)),(4,true,.v (.int .i64 c)),(5,true,.v (.int .i64 a))],[.gm D G hs1 0 nn]⟩) (fun a=>r<=a/\a<=n/\pvt (hs1.map G) c (n - a) a=pvt (hs1.map G) c (n - r) r) (fun a=>n - a) (r) (⟨by omega,by omega,rfl⟩) ?_ ?_
 ·exact Le.s
 rintro a ⟨hra,han,hpv⟩ ih
 try simp only []
 by_cases ha:a < n
 ·obtain⟨m1,m2,m3⟩:=hget a ha
  have haa:decide ((a:Int) < hs1.length)=true:=by rw [dtE];omega
  refine Run.g fun K hK=>?_
  simp only [haa]
  refine wF ?_;clear hK K
  refine Run.c ?_ ?_
  ·intro h
   have h0:((hs1.map G).getD a []).getD c 0=0:=by rw [m3];simpa using h
   refine Run.RW ?_
   have hpv2:pvt (hs1.map G) c (n - (a+1)) (a+1)=pvt (hs1.map G) c (n - r) r:=by
    rw [<- hpv,show n - a=(n - (a+1))+1 by omega]
    simp only [pvt]
    rw [if_pos h0]
   exact Run.j (ih (a+1) (⟨by omega,by omega,hpv2⟩) mz)
  intro h
  have h0:((hs1.map G).getD a []).getD c 0≠0:=by rw [m3];simpa using h
  have hpa:pvt (hs1.map G) c (n - r) r=a:=by
   rw [<- hpv,show n - a=(n - (a+1))+1 by omega]
   simp only [pvt]
   rw [if_neg h0]
  refine Run.x ?_
  refine Run.R ?_
  refine Run.c ?_ ?_
  ·intro h;exfalso;simp at h;omega
  intro _
  obtain⟨p1,p2,p3⟩:=hget r hrn
  refine Run.nq ?_;refine Run.regionD hC true [0,1,2,3,4,5,6,7,8,9,10,11,12,13,14,15] (by kernel_rfl) (fun K hK=>?_);simp only [AW7,simprocAttr,hX];(repeat(with_reducible refine And.intro ?_ ?_);exact vc0)
  refine wE ?_;clear hK K
  refine Run.RW ?_
  have hmw:=map_swp G hs1 (r:=r) (a:=a) om om
  have hin2:=inj_swp hin (r:=r) (a:=a) om om
  have hl2:((hs1.set r (hs1.getD a 0)).set a (hs1.getD r 0)).length=n:=by simp [hl]
  have hsub2:∀ h∈(hs1.set r (hs1.getD a 0)).set a (hs1.getD r 0),h∈D:=fun h hh=>by
   rcases List.mem_or_eq_of_mem_set hh with hh | rfl
   ·rcases List.mem_or_eq_of_mem_set hh with hh | rfl
    ·exact hsub _ hh
    ·exact m1
   ·exact p1
  have hok2:OKM n (beta r) (((hs1.set r (hs1.getD a 0)).set a (hs1.getD r 0)).map G):=by rw [hmw];exact hok.swp hrn ha
  have hE2:rkG rowI (n - (c+1)) (elim (fun N k=>rowI N r c k) (n - (r+1)) (r+1) (((hs1.set r (hs1.getD a 0)).set a (hs1.getD r 0)).map G)) (r+1) (c+1)=rkG rowI n A 0 0:=by
   rw [<- hE,show n - c=(n - (c+1))+1 by omega,hmw]
   simp only [rkG]
   rw [hok.1,hpa,if_neg om]
  generalize hh2:(hs1.set r (hs1.getD a 0)).set a (hs1.getD r 0)=hs2 at *
  refine Run.keep [0,3,4,6] ?_;simp only [AK,Nat.reduceBEq]
  refine Run.loopI (X:=(Nat->List Int)×Nat) (fun x=>⟨118,[(0,true,.v (.own 0 0)),(3,true,.v (.int .i64 r)),(4,true,.v (.int .i64 c)),(6,true,.v (.int .i64 (x.2)))],[.gm D x.1 hs2 0 nn]⟩) (fun x=>(r < x.2/\x.2<=n)/\Mid n r x.2 (hs2.map x.1)/\elim (fun N k=>rowI N r c k) (n - x.2) x.2 (hs2.map x.1)=elim (fun N k=>rowI N r c k) (n - (r+1)) (r+1) (hs2.map G)) (fun x=>n - x.2) ((G,r+1)) (⟨by omega,Mid.start hok2 _,rfl⟩) ?_ ?_
  ·exact Le.s
  rintro⟨H,k⟩ ⟨⟨hrk,hkn⟩,hmid,hel⟩ ihK
  try simp only []
  simp only []at hrk hkn hmid hel
  clear ih hget m1 m2 m3 haa h h0 hpa p1 p2 p3 hh2 hmw hcc hrr hE hok hsub hin
  have hget:∀ k,k < n->hs2.getD k 0∈D/\(H (hs2.getD k 0)).length=n/\(hs2.map H).getD k []=H (hs2.getD k 0):=fun k hk=>by
   have e:=map_getD H hs2 (k:=k) om
   exact⟨hsub2 _ (gdM om),by rw [<- e];exact(hmid.1.2 k hk).1,e⟩
  refine Run.R ?_
  refine Run.c ?_ ?_
  rotate_left
  ·intro h
   have hkk:k=n:=by simp at h;omega
   refine Run.x ?_
   refine Run.RW ?_
   refine Run.RW ?_
   rw [hkk,Nat.sub_self]at hel
   simp only [elim]at hel
   rw [<- hel]at hE2
   exact Run.j (ihO ((H,hs2,r+1,c+1)) (⟨hin2,hsub2,hmid.1,hrn,hc,hE2⟩) mz)
  intro h
  have hk:k < n:=by simp at h;omega
  obtain⟨p1,p2,p3⟩:=hget r hrn
  obtain⟨q1,q2,q3⟩:=hget k hk
  refine Run.nq ?_;refine Run.regionD hC true [0,1,2,3,4,5,6,7,8,9,10,11,12,13,14,15] (by kernel_rfl) (fun K hK=>?_);simp only [AW7,simprocAttr,hX];(repeat(with_reducible refine And.intro ?_ ?_);exact vc0)
  refine wE ?_;clear hK K
  refine Run.R ?_
  refine Run.c ?_ ?_
  ·intro h
   have h0:((hs2.map H).getD k []).getD c 0=0:=by rw [q3];simpa using h
   refine Run.x ?_
   refine Run.RW ?_
   have hel2:elim (fun N k=>rowI N r c k) (n - (k+1)) (k+1) (hs2.map H)=elim (fun N k=>rowI N r c k) (n - (r+1)) (r+1) (hs2.map G):=by
    rw [<- hel,show n - k=(n - (k+1))+1 by omega]
    simp only [elim]
    unfold rowI
    rw [if_pos h0,set_self]
   exact Run.j (ihK ((H,k+1)) (⟨⟨by omega,by omega⟩,hmid.skip hk,hel2⟩) mz)
  intro h
  have h0:((hs2.map H).getD k []).getD c 0≠0:=by rw [q3];simpa using h
  have hrow:=hmid.row (c:=c) hk hrk hn
  have hel2:elim (fun N k=>rowI N r c k) (n - (k+1)) (k+1) ((hs2.map H).set k (rowS (hs2.map H) r c k))=elim (fun N k=>rowI N r c k) (n - (r+1)) (r+1) (hs2.map G):=by
   rw [<- hel,show n - k=(n - (k+1))+1 by omega]
   simp only [elim]
   unfold rowI
   rw [if_neg h0]
  refine Run.R ?_
  refine Run.keep [0,3,4,6,7,8,85,86] ?_;simp only [AK,Nat.reduceBEq]
  have hZ:∀ j,j < n->(rowS (hs2.map H) r c k).getD j 0=(H (hs2.getD r 0)).getD c 0*(H (hs2.getD k 0)).getD j 0 - (H (hs2.getD k 0)).getD c 0*(H (hs2.getD r 0)).getD j 0:=fun j hj=>by
   unfold rowS;rw [p3,q3,lin_get _ _ _ _ om om]
  have hrb:=hmid.2 r hrn (.inl (Nat.le_refl _))
  have hkb:=hmid.2 k hk (.inr (Nat.le_refl _))
  have b0:=beta_pos r
  have bq:=beta_sq (r:=r) om
  have b1:=beta_pos (r+1)
  rw [p3]at hrb
  rw [q3]at hkb
  have hne:hs2.getD r 0≠hs2.getD k 0:=fun e=>by have:=hin2 r k om om e;omega
  generalize hzz:rowS (hs2.map H) r c k=Z at *
  refine Run.loopI (X:=(Nat->List Int)×Nat) (fun x=>⟨118,[(0,true,.v (.own 0 0)),(3,true,.v (.int .i64 r)),(4,true,.v (.int .i64 c)),(6,true,.v (.int .i64 k)),(7,true,.v (.int .i64 ((H (hs2.getD r 0)).getD c 0))),(8,true,.v (.int .i64 ((H (hs2.getD k 0)).getD c 0))),(85,true,.v (.int .i64 ((H (hs2.getD k 0)).length))),(86,true,.v (.int .i64 (x.2)))],[.gm D x.1 hs2 0 nn]⟩) (fun x=>x.2<=n/\(∀ q,q≠hs2.getD k 0->x.1 q=H q)/\x.1 (hs2.getD k 0)=half (H (hs2.getD k 0)) Z x.2) (fun x=>n - x.2) ((H,0)) (⟨by omega,fun _ _=>rfl,by rw [half_zero]⟩) ?_ ?_
  ·exact Le.s
  rintro⟨J,j⟩ ⟨hjn,hJ1,hJ2⟩ ihJ
  try simp only []
  simp only []at hjn hJ1 hJ2
  have l1:(J (hs2.getD k 0)).length=n:=by rw [hJ2,half_len om,q2]
  have l2:(J (hs2.getD r 0)).length=n:=by rw [hJ1 _ hne,p2]
  refine Run.R ?_
  refine Run.c ?_ ?_
  rotate_left
  ·intro h
   have hjj:j=n:=by rw [dfE]at h;omega
   refine Run.x ?_
   refine Run.RW ?_
   rw [hjj,<- q2,half_all om]at hJ2
   have hmp:=map_upd hin2 (F2:=J) (F:=H) (k:=k) om hJ1
   rw [hJ2]at hmp
   have hm2:=hmid.put hk hrk hrow
   rw [<- hmp]at hm2 hel2
   exact Run.j (ihK ((J,k+1)) (⟨⟨by omega,by omega⟩,hm2,hel2⟩) mz)
  intro h
  have hj:j < n:=by rw [dtE]at h;omega
  refine Run.R ?_
  refine Run.nq ?_;refine Run.regionD hC true [0,1,2,3,4,5,6,7,8,9,10,11,12,13,14,15,16,17,18,19,20,21,22,23,24,25] (by kernel_rfl) (fun K hK=>?_);simp only [AW7,simprocAttr,hX];(repeat(with_reducible refine And.intro ?_ ?_);exact vc0)
  refine wE ?_;clear hK K
  have e1:IntKind.i64.wrap (IntKind.i64.wrap ((H (hs2.getD r 0)).getD c 0*(J (hs2.getD k 0)).getD j 0) - IntKind.i64.wrap ((H (hs2.getD k 0)).getD c 0*(J (hs2.getD r 0)).getD j 0))=Z.getD j 0:=by
   rw [hJ2,half_get om om,hJ1 _ hne,hZ j hj]
   have m1:=mul_bnd (hrb.at' om c) (hkb.at' om j)
   have m2:=mul_bnd (hkb.at' om c) (hrb.at' om j)
   have w1:=wrap_id (n:=(H (hs2.getD r 0)).getD c 0*(H (hs2.getD k 0)).getD j 0) om
   have w2:=wrap_id (n:=(H (hs2.getD k 0)).getD c 0*(H (hs2.getD r 0)).getD j 0) om
   rw [w1,w2,wrap_id om]
  simp only [e1]
  refine Run.RW ?_
  have hJ3:∀ q,q≠hs2.getD k 0->updF J (hs2.getD k 0) j (Z.getD j 0) q=H q:=fun q hq=>by
   unfold updF;rw [if_neg hq];exact hJ1 q hq
  have hJ4:updF J (hs2.getD k 0) j (Z.getD j 0) (hs2.getD k 0)=half (H (hs2.getD k 0)) Z (j+1):=by
   unfold updF;rw [if_pos rfl,hJ2,half_set om om]
  exact Run.j (ihJ ((updF J (hs2.getD k 0) j (Z.getD j 0),j+1)) (⟨by omega,hJ3,hJ4⟩) mz)
 ·have haa:decide ((a:Int) < hs1.length)=false:=by rw [dfE];omega
  have hae:a=n:=by omega
  refine Run.g fun K hK=>?_
  simp only [haa]
  refine wF ?_;clear hK K
  refine Run.c ?_ ?_
  ·intro h;cases h
  intro _
  refine Run.x ?_
  refine Run.R ?_
  refine Run.c ?_ ?_
  rotate_left
  ·intro h;exfalso;simp at h;omega
  intro _
  refine Run.x ?_
  refine Run.RW ?_
  have hpv:pvt (hs1.map G) c (n - r) r=n:=by rw [<- hpv,hae,Nat.sub_self];rfl
  have hE2:=hE
  rw [show n - c=(n - (c+1))+1 by omega]at hE2
  simp only [rkG]at hE2
  rw [hok.1,if_pos hpv]at hE2
  exact Run.j (ihO ((G,hs1,r,c+1)) (⟨hin,hsub,hok,hr,hc,hE2⟩) mz)
def GdS (n:Nat) (A:LL) (M:LL) (r c:Nat):Prop:=
 OKM n (beta r) M/\r<=n/\c<=n/\rkG rowS (n - c) M r c=rkG rowS n A 0 0
def rws (ys:List (Nat×List Int)):List (List Int):=ys.map (·.2)
theorem rws_getD (ys:List (Nat×List Int)) (k:Nat):(rws ys).getD k []=(ys.getD k (0,[])).2:=by
 unfold rws
 simp only [List.getD,List.getElem?_map]
 cases ys[k]?<;>rfl
theorem rws_len (ys:List (Nat×List Int)):(rws ys).length=ys.length:=by simp [rws]
theorem rws_set (ys:List (Nat×List Int)) (k q:Nat) (x:LI):rws (ys.set k (q,x))=(rws ys).set k x:=by simp [rws,List.map_set]
theorem takeI_snoc (Z:LI) (j:Nat) (h:j < Z.length):Z.take (j+1)=Z.take j ++ [Z.getD j 0]:=by
 rw [getD_eq h,List.take_succ_eq_append_getElem h]
theorem rws_set2 (ys:List (Nat×List Int)) (k:Nat) (y:Nat×List Int):rws (ys.set k y)=(rws ys).set k y.2:=by simp [rws,List.map_set]
set_option maxHeartbeats 4000000 in
theorem c_spec_l17Rank (n:Nat) (ys:List (Nat×List Int)) (A:LL) (hA:rws ys=A) (hn:n<=4) (hok:OKM n 8 A) (nn:Bool) :
  FunM B 102 [.own 0 0] .lrow ys nn (fun rs o=>rs=[.int .i64 (rkG rowS n A 0 0:Nat)]/\∃ ys',o=[.arr .lrow ys' 0 nn]):=by
 have hG0:GdS n A (rws ys) 0 0:=⟨by rw [hA];exact hok,by omega,by omega,by rw [hA];rfl⟩
 refine FunM.walk B_ok (fn:=Tryz.f102) (fun vs w=>Tryz.call102 vs w) Tryz.func102 rfl (by rw [Tryz.ntmps102];simp) (fun C hC hP hT hΓ hbt hfn hpin hfin=>?_);have hX:=BX;rw [<- hΓ,<- hbt.1,<- hbt.2.1,<- hbt.2.2.1,<- hbt.2.2.2.2]at hX;rw [hT]at hX;rw [Tryz.ntmps102];simp only [AW7,simprocAttr,hX]
 refine Run.R ?_
 refine Run.R ?_
 refine Run.R ?_
 refine Run.loopI (X:=List (Nat×List Int)×Nat×Nat) (fun x=>⟨102,[(0,true,.v (.own 0 0)),(3,true,.v (.int .i64 (x.2.1))),(4,true,.v (.int .i64 (x.2.2)))],[.arr .lrow x.1 0 nn]⟩) (fun x=>GdS n A (rws x.1) x.2.1 x.2.2) (fun x=>n - x.2.2) ((ys,0,0)) (hG0) ?_ ?_
 ·exact Le.s
 rintro⟨y1,r,c⟩ hG ihO
 try simp only []
 simp only []at hG
 clear hok hA hG0
 obtain⟨hok,hr,hcn,hE⟩:=hG
 have hl:y1.length=n:=by rw [<- rws_len];exact hok.1
 refine Run.R ?_
 refine Run.c ?_ ?_
 rotate_left
 ·intro h
  have hc:c=n:=by rw [dfE]at h;omega
  refine Run.x ?_
  refine Run.R ?_
  rw [hc,Nat.sub_self]at hE
  refine Run.retW [2] (by decide) (by rw [hfn];rfl) (by simp only [AW7,simprocAttr,hX];rfl) (by simp only [AW7,simprocAttr,hX]) (hfin _ _ _ rfl rfl rfl ?_)
  rw [<- hE];exact⟨rfl,_,rfl⟩
 intro h
 have hc:c < n:=by rw [dtE]at h;omega
 have hget:∀ k,k < n->(y1.getD k (0,[])).2.length=n/\(rws y1).getD k []=(y1.getD k (0,[])).2:=fun k hk=>by
  have e:=rws_getD y1 k
  exact⟨by rw [<- e];exact(hok.2 k hk).1,e⟩
 refine Run.R ?_
 refine Run.loopI (X:=Nat) (fun a=>⟨102,[(0,true,.v (.own 0 0)),(3,true,.v (.int .i64 r)),(4,true,.v (.int .i64 c)),(5,true,.v (.int .i64 a))],[.arr .lrow y1 0 nn]⟩) (fun a=>r<=a/\a<=n/\pvt (rws y1) c (n - a) a=pvt (rws y1) c (n - r) r) (fun a=>n - a) (r) (⟨by omega,by omega,rfl⟩) ?_ ?_
 ·exact Le.s
 rintro a ⟨hra,han,hpv⟩ ih
 try simp only []
 by_cases ha:a < n
 ·obtain⟨m2,m3⟩:=hget a ha
  have haa:decide ((a:Int) < y1.length)=true:=by rw [dtE];omega
  refine Run.g fun K hK=>?_
  simp only [haa]
  refine wF ?_;clear hK K
  refine Run.c ?_ ?_
  ·intro h
   have h0:((rws y1).getD a []).getD c 0=0:=by rw [m3];simpa using h
   refine Run.RW ?_
   have hpv2:pvt (rws y1) c (n - (a+1)) (a+1)=pvt (rws y1) c (n - r) r:=by
    rw [<- hpv,show n - a=(n - (a+1))+1 by omega]
    simp only [pvt]
    rw [if_pos h0]
   exact Run.j (ih (a+1) (⟨by omega,by omega,hpv2⟩) mz)
  intro h
  have h0:((rws y1).getD a []).getD c 0≠0:=by rw [m3];simpa using h
  have hpa:pvt (rws y1) c (n - r) r=a:=by
   rw [<- hpv,show n - a=(n - (a+1))+1 by omega]
   simp only [pvt]
   rw [if_neg h0]
  refine Run.x ?_
  refine Run.R ?_
  refine Run.c ?_ ?_
  ·intro h;exfalso;simp at h;omega
  intro _
  obtain⟨p2,p3⟩:=hget r om
  have hrn:r < n:=by omega
  refine Run.R ?_
  refine Run.R ?_
  refine Run.R ?_
  refine Run.RW ?_
  have hmw:rws ((y1.set a (y1.getD r (0,[]))).set r (y1.getD a (0,[])))=swp (rws y1) r a:=by
   rw [rws_set2,rws_set2,<- p3,<- m3,swp_comm _ (by rw [rws_len];omega) (by rw [rws_len];omega)]
  have hok2:OKM n (beta r) (rws ((y1.set a (y1.getD r (0,[]))).set r (y1.getD a (0,[])))):=by rw [hmw];exact hok.swp hrn ha
  have hE2:rkG rowS (n - (c+1)) (elim (fun N k=>rowS N r c k) (n - (r+1)) (r+1) (rws ((y1.set a (y1.getD r (0,[]))).set r (y1.getD a (0,[]))))) (r+1) (c+1)=rkG rowS n A 0 0:=by
   rw [<- hE,show n - c=(n - (c+1))+1 by omega,hmw]
   simp only [rkG]
   rw [hok.1,hpa,if_neg om]
  have hP2:(rws ((y1.set a (y1.getD r (0,[]))).set r (y1.getD a (0,[])))).getD r []=(y1.getD a (0,[])).2:=by
   rw [hmw,swp_get _ (by rw [rws_len];omega) (by rw [rws_len];omega),<- m3]
   split
   ·rename_i e;rw [e]
   ·rw [if_pos rfl]
  generalize hh2:(y1.set a (y1.getD r (0,[]))).set r (y1.getD a (0,[]))=y2 at *
  refine Run.keep [0,3,4,6,7] ?_;simp only [AK,Nat.reduceBEq]
  generalize hzp:(y1.getD a (0,[])).2=P at *
  generalize hzq:(y1.getD a (0,[])).1=pq at *
  refine Run.loopI (X:=List (Nat×List Int)×Nat) (fun x=>⟨102,[(0,true,.v (.own 0 0)),(3,true,.v (.int .i64 r)),(4,true,.v (.int .i64 c)),(6,true,.v (.lr pq P)),(7,true,.v (.int .i64 (x.2)))],[.arr .lrow x.1 0 nn]⟩) (fun x=>(r < x.2/\x.2<=n)/\Mid n r x.2 (rws x.1)/\elim (fun N k=>rowS N r c k) (n - x.2) x.2 (rws x.1)=elim (fun N k=>rowS N r c k) (n - (r+1)) (r+1) (rws y2)/\(rws x.1).getD r []=P) (fun x=>n - x.2) ((y2,r+1)) (⟨by omega,Mid.start hok2 _,rfl,hP2⟩) ?_ ?_
  ·exact Le.s
  rintro⟨y,k⟩ ⟨⟨hrk,hkn⟩,hmid,hel,hP⟩ ihK
  try simp only []
  simp only []at hrk hkn hmid hel hP
  clear ih hget m3 haa h h0 hpa p2 p3 hh2 hmw hE hok
  have hly:y.length=n:=by rw [<- rws_len];exact hmid.1.1
  refine Run.R ?_
  refine Run.c ?_ ?_
  rotate_left
  ·intro h
   have hkk:k=n:=by rw [dfE]at h;omega
   refine Run.x ?_
   refine Run.RW ?_
   refine Run.RW ?_
   rw [hkk,Nat.sub_self]at hel
   simp only [elim]at hel
   rw [<- hel]at hE2
   exact Run.j (ihO ((y,r+1,c+1)) (⟨hmid.1,hrn,hc,hE2⟩) mz)
  intro h
  have hk:k < n:=by rw [dtE]at h;omega
  have q3:=rws_getD y k
  have q2:(y.getD k (0,[])).2.length=n:=by rw [<- q3];exact(hmid.1.2 k hk).1
  have hrow:=hmid.row (c:=c) hk hrk hn
  have hel2:elim (fun N k=>rowS N r c k) (n - (k+1)) (k+1) ((rws y).set k (rowS (rws y) r c k))=elim (fun N k=>rowS N r c k) (n - (r+1)) (r+1) (rws y2):=by
   rw [<- hel,show n - k=(n - (k+1))+1 by omega]
   simp only [elim]
  have hZ:∀ j,j < n->(rowS (rws y) r c k).getD j 0=P.getD c 0*(y.getD k (0,[])).2.getD j 0 - (y.getD k (0,[])).2.getD c 0*P.getD j 0:=fun j hj=>by
   unfold rowS;rw [hP,q3,lin_get _ _ _ _ om om]
  have hrb:=hmid.2 r hrn (.inl (Nat.le_refl _))
  have hkb:=hmid.2 k hk (.inr (Nat.le_refl _))
  have b0:=beta_pos r
  have bq:=beta_sq (r:=r) om
  have b1:=beta_pos (r+1)
  rw [hP]at hrb
  rw [q3]at hkb
  have hP2:(rws (y.set k (0,rowS (rws y) r c k))).getD r []=P:=by
   rw [rws_set,set_get _ _ _ _ (by rw [rws_len];omega),if_neg om];exact hP
  rw [rws_set]at hP2
  generalize hzz:rowS (rws y) r c k=Z at *
  refine Run.R ?_
  refine Run.R ?_
  refine Run.keep [0,3,4,6,7,8,9] ?_;simp only [AK,Nat.reduceBEq]
  refine Run.loopI (X:=Nat) (fun j=>⟨102,[(0,true,.v (.own 0 0)),(3,true,.v (.int .i64 r)),(4,true,.v (.int .i64 c)),(6,true,.v (.lr pq P)),(7,true,.v (.int .i64 k)),(8,true,.v (.own 1 0)),(9,true,.v (.int .i64 j))],[.arr .lrow y 0 nn,.arr .int ((Z.take j)) 0 true]⟩) (fun j=>j<=n) (fun j=>n - j) (0) om ?_ ?_
  ·exact Le.s
  rintro j hjn ihJ
  try simp only []
  refine Run.R ?_
  refine Run.c ?_ ?_
  rotate_left
  ·intro h
   have hjj:j=Z.length:=by rw [dfE]at h;omega
   refine Run.x ?_
   rw [hjj,tkL]
   refine Run.tolr 1 [0,3,4,6,7,8] rfl (fun q hq=>?_);simp only [AL,frV_cons,frV_nil,AW7,simprocAttr]
   refine Run.R ?_
   refine Run.kp [0,3,4,6,7] [0] ?_
   refine Run.RW ?_
   have hm2:=hmid.put hk hrk hrow
   rw [<- rws_set y k q]at hm2 hel2 hP2
   exact Run.j (ihK ((y.set k (q,Z),k+1)) (⟨⟨by omega,by omega⟩,hm2,hel2,hP2⟩) mz)
  intro h
  have hj:j < n:=by rw [dtE]at h;omega
  have e1:IntKind.i64.wrap (IntKind.i64.wrap ((y.getD k (0,[])).2.getD j 0*P.getD c 0) - IntKind.i64.wrap ((y.getD k (0,[])).2.getD c 0*P.getD j 0))=Z.getD j 0:=by
   rw [hZ j hj]
   have m1:=mul_bnd (hkb.at' om j) (hrb.at' om c)
   have m2:=mul_bnd (hkb.at' om c) (hrb.at' om j)
   have w1:=wrap_id (n:=(y.getD k (0,[])).2.getD j 0*P.getD c 0) om
   have w2:=wrap_id (n:=(y.getD k (0,[])).2.getD c 0*P.getD j 0) om
   rw [w1,w2,wrap_id om,Int.mul_comm (P.getD c 0)]
  refine Run.nq ?_;refine Run.regionD hC true [0,1,2,3,4,5,6,7,8,9,10,11,12,13,14,15,16,17,18,19,20,21,22,23,24,25,26,27,28] (by kernel_rfl) (fun K hK=>?_);simp only [AW7,simprocAttr,hX];(repeat(with_reducible refine And.intro ?_ ?_);exact vc0)
  refine wE ?_;clear hK K
  simp only [e1]
  refine Run.kp [0,3,4,6,7,8,9] [0,1] ?_
  refine Run.RW ?_
  refine Run.le ?_ (ihJ (j+1) om (by(try simp only [lenA,lenC,lenN]);omega))
  exact Le.sub (by first | rfl | (simp only [takeI_snoc Z j om];done) | (rw [takeI_snoc Z j om];rfl)) (by simp only [AW7,simprocAttr];try simp)
 ·have haa:decide ((a:Int) < y1.length)=false:=by rw [dfE];omega
  have hae:a=n:=by omega
  refine Run.g fun K hK=>?_
  simp only [haa]
  refine wF ?_;clear hK K
  refine Run.c ?_ ?_
  ·intro h;cases h
  intro _
  refine Run.x ?_
  refine Run.R ?_
  refine Run.c ?_ ?_
  rotate_left
  ·intro h;exfalso;simp at h;omega
  intro _
  refine Run.x ?_
  refine Run.RW ?_
  have hpv:pvt (rws y1) c (n - r) r=n:=by rw [<- hpv,hae,Nat.sub_self];rfl
  have hE2:=hE
  rw [show n - c=(n - (c+1))+1 by omega]at hE2
  simp only [rkG]at hE2
  rw [hok.1,if_pos hpv]at hE2
  exact Run.j (ihO ((y1,r,c+1)) (⟨hok,hr,hc,hE2⟩) mz)
def rowP (c:LL) (s:LI) (i:Int):List Int:=s.map fun j=>ent c i.toNat j.toNat
theorem map_snoc {α β:Type} (f:α->β) (s:List α) (d:α) (k:Nat) (h:k < s.length):(s.take k).map f ++ [f (s.getD k d)]=(s.take (k+1)).map f:=by
 rw [<- take_snoc d s k h];simp
theorem letters_mem {n:Nat} {s:LI} (h:letters n s) {k:Nat} (hk:k < s.length):0<=s.getD k 0/\s.getD k 0 < n:=h _ (getD_mem hk)
theorem c_impl_picked (c:LL) (s:LI) (hcl:c.length<=4) (hc:∀ i,i < c.length->(c.getD i []).length=c.length) (hs:letters c.length s) (hl:s.length<=1048576) :
  FunA B 192 [.sl false (.row false) c,.sl false .int s] (fun rs o=>rs=[.own 0 0]/\∃ ys,ys.map (·.2)=pick c s/\o=[.arr .lrow ys 0 true]):=by
 refine wk Tryz.call192 Tryz.func192 rfl Tryz.ntmps192 fun C hC hP hT hfn hpin hfin hX=>wW ?_
 refine Run.R ?_
 refine Run.R ?_
 refine Run.R ?_
 refine Run.loopI (X:=Nat×List (Nat×List Int)) (fun m=>⟨42,[(0,true,.v (.sl false (.row false) c)),(1,true,.v (.sl false .int s)),(4,true,.v (.nils)),(5,true,.v (.own 0 0)),(12,true,.v (.sl false .int s)),(13,true,.v (.int .i64 (s.length))),(14,true,.v (.int .i64 (m.1)))],[.arr .lrow (m.2) 0 true]⟩) (fun m=>m.1<=s.length/\m.2.map (·.2)=(s.take m.1).map (rowP c s)) (fun m=>s.length - m.1) ((0,[])) (⟨nz0 _,rfl⟩) ?_ ?_
 ·exact Le.s
 rintro⟨m,ys⟩ ⟨hm,hy⟩ ih
 try simp only []
 simp only []at hm hy
 have hyl:ys.length=m:=by have:=congrArg List.length hy;simpa [hm] using this
 refine Run.R ?_
 refine Run.c ?_ ?_
 ·intro h
  have h:m < s.length:=by simpa using h
  obtain⟨a1,a2⟩:=letters_mem hs h
  have hr:=hc (s.getD m 0).toNat om
  refine Run.R ?_
  refine Run.R ?_
  refine Run.R ?_
  refine Run.k [0,1,4,5,7,8,12,13,14,19,20,21] [0,1] ?_
  refine Run.loopI (X:=Nat) (fun k=>⟨42,[(0,true,.v (.sl false (.row false) c)),(1,true,.v (.sl false .int s)),(4,true,.v (.nils)),(5,true,.v (.own 0 0)),(7,true,.v (.int .i64 ((s.getD m 0)))),(8,true,.v (.own 1 0)),(12,true,.v (.sl false .int s)),(13,true,.v (.int .i64 (s.length))),(14,true,.v (.int .i64 m)),(19,true,.v (.sl false .int s)),(20,true,.v (.int .i64 (s.length))),(21,true,.v (.int .i64 k))],[.arr .lrow (ys) 0 true,.arr .int (((s.take k).map fun j=>ent c (s.getD m 0).toNat j.toNat)) 0 true]⟩) (fun k=>k<=s.length) (fun k=>s.length - k) (0) (nz0 _) ?_ ?_
  ·exact Le.s
  rintro k hk ih2
  try simp only []
  refine Run.R ?_
  refine Run.c ?_ ?_
  ·intro h2
   have h2:k < s.length:=by simpa using h2
   obtain⟨b1,b2⟩:=letters_mem hs h2
   have hsn:=map_snoc (fun j=>ent c (s.getD m 0).toNat j.toNat) s 0 k h2
   refine Run.R ?_
   refine Run.R ?_
   refine Run.RW ?_
   refine Run.k [0,1,4,5,7,8,12,13,14,19,20,21] [0,1] ?_
   refine Run.le ?_ (ih2 (k+1) om om)
   exact Le.sub (by rw [<- hsn]) (by simp only [AW7,simprocAttr];try simp)
  ·intro h2
   have h2:k=s.length:=by simp at h2;omega
   subst h2
   rw [tkL]
   refine Run.x ?_
   refine Run.g fun K hK=>?_
   intro l hl
   refine wF ?_;clear hK K
   refine Run.RW ?_
   refine Run.k [0,1,4,5,12,13,14] [0] ?_
   refine Run.le ?_ (ih (m+1,ys ++ [(l,rowP c s (s.getD m 0))]) ⟨h,by simp only [List.map_append,hy,List.map_cons,List.map_nil];exact map_snoc (rowP c s) s 0 m h⟩ (by simp only [];omega))
   exact Le.sub (by rfl) (by simp only [AW7,simprocAttr];try simp)
 ·intro h
  have h:m=s.length:=by simp at h;omega
  subst h
  rw [tkL]at hy
  refine Run.x ?_
  refine Run.R ?_
  refine Run.r [4] ?_
  exact⟨rfl,ys,hy,rfl⟩
def bnd:Nat->Int
 | 0=>1
 | n+1=>3*(n+1)*bnd n
theorem bnd_pos:∀ n,0<=bnd n
 | 0=>by decide
 | n+1=>by have:=bnd_pos n;unfold bnd;have:(0:Int)<=3*(n+1):=by omega
           exact Int.mul_nonneg this (bnd_pos n)
def Sq (n:Nat) (m:LL):Prop:=m.length=n/\∀ r∈m,r.length=n/\∀ x∈r,-3<=x/\x<=3
theorem Sq.minor {n:Nat} {m:LL} (h:Sq (n+1) m) (j:Nat) (hj:j < n+1):Sq n (minorL m j):=by
 refine⟨by simp [minorL,h.1],fun r hr=>?_⟩
 simp only [minorL,List.mem_map]at hr
 obtain⟨r0,h0,rfl⟩:=hr
 obtain⟨h1,h2⟩:=h.2 r0 (List.mem_of_mem_drop h0)
 refine⟨by simp [h1];omega,fun x hx=>?_⟩
 rcases List.mem_append.1 hx with hx | hx
 ·exact h2 x (List.mem_of_mem_take hx)
 ·exact h2 x (List.mem_of_mem_drop hx)
def sgn (j:Nat):Int:=if j % 2=1 then -1 else 1
def detS (n:Nat) (m:LL) (j:Nat):Int:=(List.range j).foldl (fun s j=>s+sgn j*(m.getD 0 []).getD j 0*detN n (minorL m j)) 0
theorem detS_succ (n:Nat) (m:LL) (j:Nat):detS n m (j+1)=detS n m j+sgn j*(m.getD 0 []).getD j 0*detN n (minorL m j):=by
 simp [detS,List.range_succ]
theorem detN_eq (n:Nat) (m:LL):detN (n+1) m=detS n m (n+1):=rfl
theorem sgn_cases (j:Nat):sgn j=1\/sgn j = -1:=by unfold sgn;split<;>simp
theorem sgn_succ (j:Nat):sgn (j+1) = -sgn j:=by unfold sgn;rcases Nat.mod_two_eq_zero_or_one j with h | h<;>simp [h,Nat.add_mod]
theorem abs_mul3 {x d b:Int} (hx:-3<=x/\x<=3) (hd:-b<=d/\d<=b):-(3*b)<=x*d/\x*d<=3*b:=by
 obtain⟨h1,h2⟩:=hx
 have:x = -3\/x = -2\/x = -1\/x=0\/x=1\/x=2\/x=3:=by omega
 rcases this with rfl | rfl | rfl | rfl | rfl | rfl | rfl<;>omega
theorem det_le:∀(n:Nat) (m:LL),Sq n m->-bnd n<=detN n m/\detN n m<=bnd n
 | 0,m,_=>by simp [detN,bnd]
 | n+1,m,h=>by
  have key:∀ j,j<=n+1->-(3*j*bnd n)<=detS n m j/\detS n m j<=3*j*bnd n:=by
   intro j
   induction j with
   | zero=>intro _;simp [detS]
   | succ j ih=>
    intro hj
    obtain⟨i1,i2⟩:=ih om
    have hd:=det_le n _ (h.minor j om)
    have hr:m.getD 0 []∈m:=by
     have:0 < m.length:=by rw [h.1];omega
     simp [gdE,this]
    obtain⟨r1,r2⟩:=h.2 _ hr
    have hx:=r2 _ (getD_mem (w:=m.getD 0 []) (i:=j) om)
    have h3:=abs_mul3 hx hd
    rw [detS_succ]
    have e:(3:Int)*((j+1:Nat):Int)*bnd n=3*j*bnd n+3*bnd n:=by push_cast;grind
    rw [e]
    rcases sgn_cases j with hs | hs<;>rw [hs]
    ·rw [Int.one_mul];omega
    ·rw [Int.neg_mul,Int.one_mul,Int.neg_mul];omega
  have:=key (n+1) (Nat.le_refl _)
  rw [detN_eq]
  simpa [bnd] using this
theorem bnd_le:∀ n:Nat,n<=4->bnd n<=1944:=by decide
theorem detS_le {n:Nat} {m:LL} (h:Sq (n+1) m) (hn:n+1<=4):∀ j,j<=n+1->-7776<=detS n m j/\detS n m j<=7776:=by
 intro j
 have hb:=bnd_le n om
 have hb0:=bnd_pos n
 have key:∀ j,j<=n+1->-((j:Int)*1944)<=detS n m j/\detS n m j<=(j:Int)*1944:=by
  have hbn:3*bnd n<=1944:=by
   have:∀ n:Nat,n<=3->3*bnd n<=1944:=by decide
   exact this n om
  intro j
  induction j with
  | zero=>intro _;simp [detS]
  | succ j ih=>
   intro hj
   obtain⟨i1,i2⟩:=ih om
   have hd:=det_le n _ (h.minor j om)
   have hr:m.getD 0 []∈m:=by
    have:0 < m.length:=by rw [h.1];omega
    simp [gdE,this]
   obtain⟨r1,r2⟩:=h.2 _ hr
   have hx:=r2 _ (getD_mem (w:=m.getD 0 []) (i:=j) om)
   have h3:=abs_mul3 hx hd
   rw [detS_succ]
   rcases sgn_cases j with hs | hs<;>rw [hs]
   ·rw [Int.one_mul];push_cast;omega
   ·rw [Int.neg_mul,Int.one_mul,Int.neg_mul];push_cast;omega
 intro hj
 have:=key j hj
 omega
theorem det_term {n:Nat} {m:LL} (h:Sq (n+1) m) (hn:n+1<=4) (j:Nat) (hj:j < n+1):(-3<=(m.getD 0 []).getD j 0/\(m.getD 0 []).getD j 0<=3)/\(-1944<=detN n (minorL m j)/\detN n (minorL m j)<=1944) /\
  (-1944<=(m.getD 0 []).getD j 0*detN n (minorL m j)/\(m.getD 0 []).getD j 0*detN n (minorL m j)<=1944)/\(m.getD 0 []).length=n+1:=by
 have hr:m.getD 0 []∈m:=by
  have:0 < m.length:=by rw [h.1];omega
  simp [gdE,this]
 obtain⟨r1,r2⟩:=h.2 _ hr
 have hx:=r2 _ (getD_mem (w:=m.getD 0 []) (i:=j) om)
 have hd:=det_le n _ (h.minor j hj)
 have hb:3*bnd n<=1944:=by
  have:∀ n:Nat,n<=3->3*bnd n<=1944:=by decide
  exact this n om
 have hb0:=bnd_pos n
 have h3:=abs_mul3 hx hd
 exact⟨hx,by omega,by omega,r1⟩
theorem c_impl_determinant (n:Nat):∀(m:LL),n<=4->Sq n m->FunA B 191 [.sl false (.row false) m] (fun rs o=>rs=[.int .i64 (detN n m)]/\o=[]):=by
 induction n with
 | zero=>
  intro m _ hm
  have hm0:m=[]:=nilZ hm.1
  subst hm0
  refine wk Tryz.call191 Tryz.func191 rfl Tryz.ntmps191 fun C hC hP hT hfn hpin hfin hX=>wW ?_
  refine Run.R ?_
  refine Run.R ?_
  refine Run.c ?_ ?_
  ·intro h
   refine Run.R ?_
   refine Run.r [2] ?_
   exact⟨rfl,rfl⟩
  ·intro h
   simp at h
 | succ n ihn=>
  intro m hn hm
  have hml:=hm.1
  refine wk Tryz.call191 Tryz.func191 rfl Tryz.ntmps191 fun C hC hP hT hfn hpin hfin hX=>wW ?_
  refine Run.R ?_
  refine Run.R ?_
  refine Run.c ?_ ?_
  ·intro h
   simp [hml]at h
   omega
  intro h
  clear h
  have hr0:=(det_term hm hn 0 om).2.2.2
  have hS0:detS n m 0=0:=rfl
  have hg0:sgn 0=1:=rfl
  refine Run.R ?_
  refine Run.R ?_
  rw [show((m.getD 0 []).length:Int)=((n+1:Nat):Int)from by rw [hr0]]
  refine Run.le (Le.sub (fr':=[(0,true,.v (.sl false (.row false) m)),(2,true,.v (.int .i64 0)),(3,true,.v (.int .i64 (detS n m 0))),(4,true,.v (.int .i64 (sgn 0))),(15,true,.v (.sl false .int (m.getD 0 []))),(16,true,.v (.int .i64 (n+1:Nat))),(17,true,.v (.int .i64 (0:Nat)))]) rfl (by simp only [AW7,simprocAttr];simp [hS0,hg0])) ?_
  refine Run.loopI (X:=Nat) (fun j=>⟨58,[(0,true,.v (.sl false (.row false) m)),(2,true,.v (.int .i64 0)),(3,true,.v (.int .i64 ((detS n m j)))),(4,true,.v (.int .i64 ((sgn j)))),(15,true,.v (.sl false .int ((m.getD 0 [])))),(16,true,.v (.int .i64 (((n+1:Nat))))),(17,true,.v (.int .i64 j))],[]⟩) (fun j=>j<=n+1) (fun j=>n+1 - j) (0) (nz0 _) ?_ ?_
  ·exact Le.s
  rintro j hj ih
  try simp only []
  refine Run.R ?_
  refine Run.c ?_ ?_
  ·intro h
   have h:j < n+1:=by simp at h;omega
   obtain⟨t1,t2,t3,t4⟩:=det_term hm hn j h
   obtain⟨d1,d2⟩:=detS_le hm hn j om
   obtain⟨e1,e2⟩:=detS_le hm hn (j+1) om
   have hsn:=detS_succ n m j
   have hss:=sgn_succ j
   have hsq:=hm.minor j h
   have hsc:=sgn_cases j
   have hp1:-3<=sgn j*(m.getD 0 []).getD j 0/\sgn j*(m.getD 0 []).getD j 0<=3:=by rcases hsc with hs | hs<;>rw [hs]<;>omega
   refine Run.R ?_
   refine Run.R ?_
   refine Run.c ?_ ?_
   ·intro hx
    have hx:(m.getD 0 []).getD j 0≠0:=by simpa using hx
    refine Run.R ?_
    refine Run.R ?_
    have htl:List.take (m.length - 1) (m.drop 1)=m.drop 1:=List.take_of_length_le (by simp)
    have htn:(m.drop 1).length=n:=by simp [hml]
    have ht2:List.take n m.tail=m.tail:=List.take_of_length_le (by simp [hml])
    refine Run.keep [0,2,3,4,5,6,7,15,16,17,26,27,28] ?_;simp only [AK,Nat.reduceBEq]
    refine Run.le (Le.sub (fr':=[(0,true,.v (.sl false (.row false) m)),(2,true,.v (.int .i64 0)),(3,true,.v (.int .i64 (detS n m j))),(4,true,.v (.int .i64 (sgn j))),(5,true,.v (.int .i64 j)),(6,true,.v (.int .i64 ((m.getD 0 []).getD j 0))),(7,true,.v (.own 0 0)),(15,true,.v (.sl false .int (m.getD 0 []))),(16,true,.v (.int .i64 (n+1:Nat))),(17,true,.v (.int .i64 j)),(26,true,.v (.sl false (.row false) (m.drop 1))),(27,true,.v (.int .i64 n)),(28,true,.v (.int .i64 (0:Nat)))]) rfl (by simp only [AW7,simprocAttr];simp [htl,htn,hml,ht2])) ?_
    refine Run.loopI (X:=Nat×List (Nat×List Int)) (fun k=>⟨58,[(0,true,.v (.sl false (.row false) m)),(2,true,.v (.int .i64 0)),(3,true,.v (.int .i64 ((detS n m j)))),(4,true,.v (.int .i64 ((sgn j)))),(5,true,.v (.int .i64 j)),(6,true,.v (.int .i64 (((m.getD 0 []).getD j 0)))),(7,true,.v (.own 0 0)),(15,true,.v (.sl false .int ((m.getD 0 [])))),(16,true,.v (.int .i64 (((n+1:Nat))))),(17,true,.v (.int .i64 j)),(26,true,.v (.sl false (.row false) ((m.drop 1)))),(27,true,.v (.int .i64 n)),(28,true,.v (.int .i64 (k.1)))],[.arr .lrow (k.2) 0 true]⟩) (fun k=>k.1<=n/\k.2.map (·.2)=((m.drop 1).take k.1).map (fun r=>r.take j ++ r.drop (j+1))) (fun k=>n - k.1) ((0,[])) (⟨nz0 _,rfl⟩) ?_ ?_
    ·exact Le.s
    rintro⟨k,ys⟩ ⟨hk,hy⟩ ih2
    try simp only []
    simp only []at hk hy
    have hyl:ys.length=k:=by have:=congrArg List.length hy;simp at this;omega
    refine Run.R ?_
    refine Run.c ?_ ?_
    ·intro h2
     have h2:k < n:=by simp at h2;omega
     have hmem:(m.drop 1).getD k []∈m:=by
      have:(m.drop 1).getD k []=m.getD (k+1) []:=by simp [gdE,List.getElem?_drop,Nat.add_comm]
      rw [this]
      simp [gdE,show k+1 < m.length by omega]
     have hrl:=(hm.2 _ hmem).1
     refine Run.R ?_
     refine Run.keep [0,2,3,4,5,6,7,9,15,16,17,26,27,28] ?_;simp only [AK,Nat.reduceBEq]
     refine Run.nq ?_;refine Run.regionD hC true [0,2,3,4,6,7,8,9,1,5,10,11,12,13] (by kernel_rfl) (fun K hK=>?_);simp(disch:=omega) only [wrap_id,AW7,simprocAttr,hX];(repeat(with_reducible refine And.intro ?_ ?_);exact vc0)
     intro l hl
     (repeat(with_reducible refine And.intro ?_ ?_);exact vc0)
     refine wE ?_;clear hK K
     refine Run.RW ?_
     refine Run.k [0,2,3,4,5,6,7,15,16,17,26,27,28] [0] ?_
     refine Run.le ?_ (ih2 (k+1,ys ++ [(l,((m.drop 1).getD k []).take j ++ ((m.drop 1).getD k []).drop (j+1))]) ⟨h2,by simp only [List.map_append,hy,List.map_cons,List.map_nil];exact map_snoc (fun r:List Int=>r.take j ++ r.drop (j+1)) (m.drop 1) [] k om⟩ (by simp only [];omega))
     have e1:List.take (j - 0) (List.drop 0 ((List.drop 1 m).getD k [])) ++ List.take (List.length ((List.drop 1 m).getD k []) - ((j:Int)+1).toNat) (List.drop ((j:Int)+1).toNat ((List.drop 1 m).getD k []))=((m.drop 1).getD k []).take j ++ ((m.drop 1).getD k []).drop (j+1):=by
      rw [Nat.sub_zero,List.drop_zero,show((j:Int)+1).toNat=j+1 by omega,List.take_of_length_le (l:=List.drop (j+1) _) (by simp)]
     exact Le.sub (by rw [e1]) (by simp only [AW7,simprocAttr];try simp)
    ·intro h2
     have h2:k=n:=by simp at h2;omega
     rw [List.take_of_length_le om]at hy
     have hy:ys.map (·.2)=minorL m j:=hy
     refine Run.x ?_
     refine Run.g fun K hK=>?_
     refine FunA.callW hP hT (ihn (minorL m j) om hsq) (by simp only [AW7,simprocAttr];exact hy.symm) ?_
     rintro rs o ⟨rfl,rfl⟩
     simp(disch:=omega) only [wrap_id,AW7,simprocAttr,hX]
     (repeat(with_reducible refine And.intro ?_ ?_);exact vc0)
     refine wE ?_;clear hK K
     rw [<- hsn]
     refine Run.keep [0,2,3,4,15,16,17] ?_;simp only [AK,Nat.reduceBEq]
     refine Run.RW ?_
     refine Run.RW ?_
     refine Run.k [0,2,3,4,15,16,17] [] ?_
     refine Run.le ?_ (ih (j+1) om om)
     exact Le.sub (by rfl) (by rw [hss];simp only [AW7,simprocAttr];simp)
   ·intro hx
    have hx:(m.getD 0 []).getD j 0=0:=by simpa using hx
    rw [hx]at hsn
    simp only [Int.mul_zero,Int.zero_mul,Int.add_zero]at hsn
    refine Run.RW ?_
    refine Run.RW ?_
    refine Run.le ?_ (ih (j+1) om om)
    exact Le.sub (by rfl) (by rw [hss,hsn];simp only [AW7,simprocAttr];simp)
  ·intro h
   have h:j=n+1:=by simp at h;omega
   subst h
   refine Run.x ?_
   refine Run.R ?_
   refine Run.r [2] ?_
   exact⟨rfl,rfl⟩
end Go.Proofs.YtcinngodeoidnaaGreat
