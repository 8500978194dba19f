/- Sums, systems of equations, independent vectors: as much linear algebra as the rank of a matrix asks for. No program is named here. -/
import Derived.Test.YtcinngodeoidnaaGreatDoorB13
import Derived.Test.YtcinngodeoidnaaGreatDoorB10
import Derived.Test.YtcinngodeoidnaaGreatDoorB16
import Derived.Test.YtcinngodeoidnaaGreatDoorB11
set_option linter.unusedVariables false
set_option linter.unusedSimpArgs false
namespace Go.Proofs.YtcinngodeoidnaaGreatDoor
open Go Go.Aw Go.Cox
def sumN:Nat->(Nat->Int)->Int
 | 0,_=>0
 | n+1,f=>sumN n f+f n
theorem sumN_succ (n:Nat) (f:Nat->Int):sumN (n+1) f=sumN n f+f n:=rfl
theorem sumN_congr {f g:Nat->Int}:∀ n,(∀ i,i < n->f i=g i)->sumN n f=sumN n g
 | 0,_=>rfl
 | n+1,h=>by unfold sumN;rw [sumN_congr n (fun i hi=>h i om),h n om]
theorem sumN_zero:∀ n,sumN n (fun _=>0)=0
 | 0=>rfl
 | n+1=>by unfold sumN;rw [sumN_zero n];rfl
theorem sumN_zero' {f:Nat->Int} (n:Nat) (h:∀ i,i < n->f i=0):sumN n f=0:=(sumN_congr n h).trans (sumN_zero n)
theorem sumN_add (f g:Nat->Int):∀ n,sumN n (fun i=>f i+g i)=sumN n f+sumN n g
 | 0=>rfl
 | n+1=>by simp only [sumN_succ];rw [sumN_add f g n];omega
theorem sumN_mul (m:Int) (f:Nat->Int):∀ n,sumN n (fun i=>m*f i)=m*sumN n f
 | 0=>by simp [sumN]
 | n+1=>by unfold sumN;rw [sumN_mul m f n,Int.mul_add]
theorem sumN_mulr (m:Int) (f:Nat->Int) (n:Nat):sumN n (fun i=>f i*m)=sumN n f*m:=by
 rw [Int.mul_comm,<- sumN_mul];exact sumN_congr n fun i _=>Int.mul_comm ..
theorem sumN_comm (f:Nat->Nat->Int) (m:Nat):∀ n,sumN n (fun i=>sumN m (f i))=sumN m (fun j=>sumN n (fun i=>f i j))
 | 0=>(sumN_zero m).symm
 | n+1=>by
  rw [show sumN (n+1) (fun i=>sumN m (f i))=sumN n (fun i=>sumN m (f i))+sumN m (f n)from rfl,sumN_comm f m n,<- sumN_add]
  rfl
theorem sumN_one {f:Nat->Int} {p:Nat}:∀ n,p < n->(∀ i,i < n->i≠p->f i=0)->sumN n f=f p
 | 0,h,_=>by omega
 | n+1,h,hf=>by
  unfold sumN
  by_cases e:p=n
  ·subst e
   rw [sumN_zero' p (fun i hi=>hf i om om)];omega
  ·rw [sumN_one n om (fun i hi=>hf i om),hf n om om];omega
def skp (p j:Nat):Nat:=if j < p then j else j+1
theorem sumN_skp (f:Nat->Int) (p:Nat):∀ n,p<=n->sumN (n+1) f=f p+sumN n (fun j=>f (skp p j))
 | 0,h=>by
  have:p=0:=by omega
  subst this;simp [sumN]
 | n+1,h=>by
  rw [show sumN (n+1+1) f=sumN (n+1) f+f (n+1)from rfl]
  by_cases e:p=n+1
  ·subst e
   rw [sumN_congr (n+1) (f:=fun j=>f (skp (n+1) j)) (g:=f) (fun i hi=>by unfold skp;rw [if_pos hi])]
   omega
  ·rw [sumN_skp f p n om]
   rw [show sumN (n+1) (fun j=>f (skp p j))=sumN n (fun j=>f (skp p j))+f (skp p n)from rfl]
   rw [show skp p n=n+1 by unfold skp;rw [if_neg om]]
   omega
theorem solve:∀(r s:Nat),r < s->∀ A:Nat->Nat->Int,∃ x:Nat->Int,(∃ j,j < s/\x j≠0)/\∀ i,i < r->sumN s (fun j=>A i j*x j)=0
 | 0,s,h,_=>⟨fun _=>1,⟨0,h,by decide⟩,fun i hi=>by omega⟩
 | r+1,0,h,_=>by omega
 | r+1,s+1,h,A=>by
  by_cases hz:∀ j,j < s+1->A r j=0
  ·obtain⟨x,hx,he⟩:=solve r (s+1) om A
   refine⟨x,hx,fun i hi=>?_⟩
   by_cases e:i=r
   ·subst e
    exact sumN_zero' _ fun j hj=>by rw [hz j hj];simp
   ·exact he i om
  ·obtain⟨p,hp⟩:=Classical.not_forall.1 hz
   have hps:p < s+1:=Classical.byContradiction fun h=>hp fun h2=>absurd h2 h
   have hp:A r p≠0:=fun h=>hp fun _=>h
   obtain⟨y,⟨j0,hj0,hy⟩,he⟩:=solve r s om (fun i j=>A r p*A i (skp p j) - A r (skp p j)*A i p)
   let unsk:Nat->Nat:=fun j=>if j < p then j else j - 1
   let x:Nat->Int:=fun j=>if j=p then -(sumN s (fun j=>A r (skp p j)*y j))else A r p*y (unsk j)
   have hxp:x p = -(sumN s (fun j=>A r (skp p j)*y j)):=by simp only [x,if_true]
   have hxk:∀ j,x (skp p j)=A r p*y j:=fun j=>by
    have h1:skp p j≠p:=by unfold skp;split<;>omega
    have h2:unsk (skp p j)=j:=by
     simp only [unsk,skp]
     split
     ·rename_i h;simp [h]
     ·rename_i h;rw [if_neg om];omega
    simp only [x,if_neg h1,h2]
   refine⟨x,⟨skp p j0,by unfold skp;split<;>omega,by rw [hxk];exact Int.mul_ne_zero hp hy⟩,fun i hi=>?_⟩
   have h0:sumN s (fun j=>A i (skp p j)*x (skp p j))=A r p*sumN s (fun j=>A i (skp p j)*y j):=by
    rw [<- sumN_mul]
    exact sumN_congr s fun j _=>by rw [hxk];exact Int.mul_left_comm ..
   rw [sumN_skp _ p s om,hxp]
   rw [show sumN s (fun j=>A i (skp p j)*x (skp p j))=_ from h0]
   by_cases e:i=r
   ·subst e
    rw [Int.mul_neg];omega
   ·have h3:=he i om
    rw [sumN_congr s (g:=fun j=>A r p*(A i (skp p j)*y j)+(-(A i p))*(A r (skp p j)*y j)) (fun j _=>by grind),sumN_add,sumN_mul,sumN_mul]at h3
    rw [Int.mul_neg,<- Int.neg_mul]
    rw [Int.add_comm];exact h3
def Gen (r:Nat) (S:Vec->Prop):Prop:=∃ g:Nat->Vec,∀ v,S v->∃ m:Int,m≠0/\∃ a:Nat->Int,∀ k,m*v k=sumN r (fun i=>a i*g i k)
def Ind (r:Nat) (S:Vec->Prop):Prop:=∃ h:Nat->Vec,(∀ j,j < r->S (h j))/\∀ x:Nat->Int,(∀ k,sumN r (fun j=>x j*h j k)=0)->∀ j,j < r->x j=0
theorem steinitz {r s:Nat} {S:Vec->Prop} (hG:Gen r S) (hI:Ind s S):s<=r:=by
 rcases Nat.lt_or_ge r s with h | h
 ·exfalso
  obtain⟨g,hg⟩:=hG
  obtain⟨v,hv,hi⟩:=hI
  have hch:∀ j,∃ m:Int,m≠0/\∃ a:Nat->Int,j < s->∀ k,m*v j k=sumN r (fun i=>a i*g i k):=fun j=>by
   by_cases hj:j < s
   ·obtain⟨m,h1,a,h2⟩:=hg _ (hv j hj)
    exact⟨m,h1,a,fun _=>h2⟩
   ·exact⟨1,by decide,fun _=>0,fun h=>absurd h hj⟩
  let m:Nat->Int:=fun j=>(hch j).choose
  have hm:∀ j,m j≠0:=fun j=>(hch j).choose_spec.1
  let a:Nat->Nat->Int:=fun j=>(hch j).choose_spec.2.choose
  have ha:∀ j,j < s->∀ k,m j*v j k=sumN r (fun i=>a j i*g i k):=fun j=>(hch j).choose_spec.2.choose_spec
  obtain⟨x,⟨j0,hj0,hx⟩,he⟩:=solve r s h (fun i j=>a j i)
  have:=hi (fun j=>x j*m j) (fun k=>by
   rw [sumN_congr s (g:=fun j=>sumN r (fun i=>(a j i*x j)*g i k)) (fun j hj=>by
    rw [Int.mul_assoc,ha j hj k,<- sumN_mul]
    exact sumN_congr r fun i _=>by grind)]
   rw [sumN_comm]
   exact sumN_zero' r fun i hi=>by rw [sumN_mulr,he i hi];simp) j0 hj0
  exact Int.mul_ne_zero hx (hm j0) this
 ·exact h
theorem Ind.mono {r:Nat} {S T:Vec->Prop} (h:Ind r S) (hs:∀ v,S v->T v):Ind r T:=by
 obtain⟨g,h1,h2⟩:=h;exact⟨g,fun j hj=>hs _ (h1 j hj),h2⟩
theorem Gen.mono {r:Nat} {S T:Vec->Prop} (h:Gen r T) (hs:∀ v,S v->T v):Gen r S:=by
 obtain⟨g,h1⟩:=h;exact⟨g,fun v hv=>h1 v (hs v hv)⟩
def Sp (M:LL) (v:Vec):Prop:=∃ a:Nat->Int,∀ k,v k=sumN M.length (fun i=>a i*(M.getD i []).getD k 0)
theorem Sp.row {M:LL} {i:Nat} (h:i < M.length):Sp M (vecL (M.getD i [])):=
 ⟨fun j=>if j=i then 1 else 0,fun k=>by
  rw [sumN_one M.length h (fun j _ hj=>by simp only [];rw [if_neg hj,Int.zero_mul])]
  simp [vecL]⟩
theorem Sp.comb {M:LL} {u v:Vec} (hu:Sp M u) (hv:Sp M v) (x y:Int):Sp M (fun k=>x*u k+y*v k):=by
 obtain⟨a,ha⟩:=hu
 obtain⟨b,hb⟩:=hv
 refine⟨fun i=>x*a i+y*b i,fun k=>?_⟩
 simp only []
 rw [ha k,hb k,<- sumN_mul,<- sumN_mul,<- sumN_add]
 exact sumN_congr _ fun i _=>by grind
theorem Sp.sum {M:LL} {f:Nat->Vec} {x:Nat->Int}:∀ n,(∀ i,i < n->Sp M (f i))->Sp M (fun k=>sumN n (fun i=>x i*f i k))
 | 0,_=>⟨fun _=>0,fun k=>by rw [sumN_zero' _ fun i _=>by rw [Int.zero_mul]];rfl⟩
 | n+1,h=>by
  have:=Sp.comb (Sp.sum (x:=x) n (fun i hi=>h i om)) (h n om) 1 (x n)
  refine(congrArg (Sp M) (funext fun k=>?_)).mp this
  simp only [sumN_succ];omega
def Sub (M N:LL):Prop:=∀ i,i < M.length->∃ m:Int,m≠0/\Sp N (fun k=>m*(M.getD i []).getD k 0)
theorem prodN:∀(n:Nat) (m:Nat->Int),(∀ i,i < n->m i≠0)->∃ P:Int,P≠0/\∀ i,i < n->∃ q,P=q*m i
 | 0,_,_=>⟨1,by decide,fun i hi=>by omega⟩
 | n+1,m,h=>by
  obtain⟨P,h1,h2⟩:=prodN n m (fun i hi=>h i om)
  refine⟨P*m n,Int.mul_ne_zero h1 (h n om),fun i hi=>?_⟩
  by_cases e:i=n
  ·subst e;exact⟨P,rfl⟩
  ·obtain⟨q,hq⟩:=h2 i om
   exact⟨q*m n,by rw [hq];grind⟩
theorem Sub.sp {M N:LL} (h:Sub M N) {v:Vec} (hv:Sp M v):∃ m:Int,m≠0/\Sp N (fun k=>m*v k):=by
 obtain⟨a,ha⟩:=hv
 have hch:∀ i,∃ m:Int,m≠0/\(i < M.length->Sp N (fun k=>m*(M.getD i []).getD k 0)):=fun i=>by
  by_cases hi:i < M.length
  ·obtain⟨m,h1,h2⟩:=h i hi;exact⟨m,h1,fun _=>h2⟩
  ·exact⟨1,by decide,fun h=>absurd h hi⟩
 let m:Nat->Int:=fun i=>(hch i).choose
 have hm:∀ i,m i≠0:=fun i=>(hch i).choose_spec.1
 have hs:∀ i,i < M.length->Sp N (fun k=>m i*(M.getD i []).getD k 0):=fun i=>(hch i).choose_spec.2
 obtain⟨P,hP,hq⟩:=prodN M.length m (fun i _=>hm i)
 have hch2:∀ i,∃ q:Int,i < M.length->P=q*m i:=fun i=>by
  by_cases hi:i < M.length
  ·obtain⟨q,h1⟩:=hq i hi;exact⟨q,fun _=>h1⟩
  ·exact⟨0,fun h=>absurd h hi⟩
 let q:Nat->Int:=fun i=>(hch2 i).choose
 have hqs:∀ i,i < M.length->P=q i*m i:=fun i=>(hch2 i).choose_spec
 refine⟨P,hP,?_⟩
 have:=Sp.sum (M:=N) (f:=fun i k=>m i*(M.getD i []).getD k 0) (x:=fun i=>a i*q i) M.length hs
 refine(congrArg (Sp N) (funext fun k=>?_)).mp this
 rw [ha k,<- sumN_mul]
 exact sumN_congr _ fun i hi=>by rw [hqs i hi];grind
theorem Sub.trans {M N K:LL} (h:Sub M N) (k:Sub N K):Sub M K:=fun i hi=>by
 obtain⟨m,h1,h2⟩:=h i hi
 obtain⟨m',h3,h4⟩:=k.sp h2
 exact⟨m'*m,Int.mul_ne_zero h3 h1,(congrArg (Sp K) (funext fun k=>by grind)).mp h4⟩
theorem Sub.refl (M:LL):Sub M M:=fun i hi=>⟨1,by decide,(congrArg (Sp M) (funext fun k=>by simp [vecL])).mp (Sp.row hi)⟩
theorem Gen.of_sub {M N:LL} (h:Sub M N) {r:Nat} (hG:Gen r (Sp N)):Gen r (Sp M):=by
 obtain⟨g,hg⟩:=hG
 refine⟨g,fun v hv=>?_⟩
 obtain⟨m,h1,h2⟩:=h.sp hv
 obtain⟨m',h3,a,h4⟩:=hg _ h2
 exact⟨m'*m,Int.mul_ne_zero h3 h1,a,fun k=>by rw [<- h4 k];grind⟩
theorem Ind.of_sub {M N:LL} (h:Sub M N) {r:Nat} (hI:Ind r (Sp M)):Ind r (Sp N):=by
 obtain⟨g,hg,hi⟩:=hI
 have hch:∀ j,∃ m:Int,m≠0/\(j < r->Sp N (fun k=>m*g j k)):=fun j=>by
  by_cases hj:j < r
  ·obtain⟨m,h1,h2⟩:=h.sp (hg j hj);exact⟨m,h1,fun _=>h2⟩
  ·exact⟨1,by decide,fun h=>absurd h hj⟩
 let m:Nat->Int:=fun i=>(hch i).choose
 have hm:∀ i,m i≠0:=fun i=>(hch i).choose_spec.1
 refine⟨fun j k=>m j*g j k,fun j hj=>(hch j).choose_spec.2 hj,fun x hx j hj=>?_⟩
 have:=hi (fun j=>x j*m j) (fun k=>by rw [<- hx k];exact sumN_congr _ fun j _=>by grind) j hj
 rcases Int.mul_eq_zero.1 this with h | h
 ·exact h
 ·exact absurd h (hm j)
def Stp (M:LL) (r:Nat):Prop:=∃ p:Nat->Nat,∀ i,i < r->(M.getD i []).getD (p i) 0≠0/\∀ j,i < j->j < M.length->(M.getD j []).getD (p i) 0=0
theorem Stp.ind {M:LL} {r:Nat} (h:Stp M r) (hr:r<=M.length):Ind r (Sp M):=by
 obtain⟨p,hp⟩:=h
 refine⟨fun j=>vecL (M.getD j []),fun j hj=>Sp.row om,fun x hx j hj=>?_⟩
 induction j using Nat.strongRecOn with
 | ind j ih=>
  have h1:=hx (p j)
  rw [sumN_one r hj (fun i hi hij=>by
   show x i*vecL (M.getD i []) (p j)=0
   rcases Nat.lt_or_ge i j with h2 | h2
   ·rw [ih i h2 hi,Int.zero_mul]
   ·rw [show vecL (M.getD i []) (p j)=0 from(hp j hj).2 i om om,Int.mul_zero])]at h1
  rcases Int.mul_eq_zero.1 h1 with h3 | h3
  ·exact h3
  ·exact absurd h3 (hp j hj).1
theorem gen_top {M:LL} {r:Nat} (h:∀ i,r<=i->i < M.length->∀ k,(M.getD i []).getD k 0=0) (hr:r<=M.length):Gen r (Sp M):=by
 refine⟨fun i=>vecL (M.getD i []),fun v ⟨a,ha⟩=>⟨1,by decide,a,fun k=>?_⟩⟩
 rw [Int.one_mul,ha k]
 have key:∀ d,r+d<=M.length->sumN (r+d) (fun i=>a i*(M.getD i []).getD k 0)=sumN r (fun i=>a i*(M.getD i []).getD k 0):=by
  intro d
  induction d with
  | zero=>intro _;rfl
  | succ d ih=>intro hd;rw [<- Nat.add_assoc,sumN_succ,ih om,h (r+d) om om k];omega
 have:=key (M.length - r) om
 rw [show r+(M.length - r)=M.length by omega]at this
 exact this
def Wid (n:Nat) (M:LL):Prop:=∀ i,i < M.length->(M.getD i []).length=n
theorem getD_set (M:LL) (k j:Nat) (x:LI) (hk:k < M.length):(M.set k x).getD j []=if j=k then x else M.getD j []:=set_get M k j x hk
theorem sub_eq {M N:LL} (h:∀ i,i < M.length->∃ j,j < N.length/\N.getD j []=M.getD i []):Sub M N:=fun i hi=>by
 obtain⟨j,h1,h2⟩:=h i hi
 refine⟨1,by decide,?_⟩
 have:=Sp.row h1
 rw [h2]at this
 exact(congrArg (Sp N) (funext fun k=>by simp [vecL])).mp this
theorem swp_sub {M:LL} {r a:Nat} (hr:r < M.length) (ha:a < M.length):Sub M (swp M r a)/\Sub (swp M r a) M:=by
 refine⟨sub_eq fun i hi=>?_,sub_eq fun i hi=>?_⟩
 ·by_cases h1:i=a
  ·refine⟨r,by rw [swp_len];exact hr,?_⟩
   rw [swp_get M hr ha]
   by_cases h2:r=a
   ·rw [if_pos h2,h1,<- h2]
   ·rw [if_neg h2,if_pos rfl,h1]
  ·by_cases h2:i=r
   ·exact⟨a,by rw [swp_len];exact ha,by rw [swp_get M hr ha,if_pos rfl,h2]⟩
   ·exact⟨i,by rw [swp_len];exact hi,by rw [swp_get M hr ha,if_neg h1,if_neg h2]⟩
 ·rw [swp_len]at hi
  rw [swp_get M hr ha]
  by_cases h1:i=a
  ·exact⟨r,hr,by rw [if_pos h1]⟩
  ·by_cases h2:i=r
   ·exact⟨a,ha,by rw [if_neg h1,if_pos h2]⟩
   ·exact⟨i,hi,by rw [if_neg h1,if_neg h2]⟩
theorem row_sub {n:Nat} {M:LL} (hW:Wid n M) {r c k:Nat} (hr:r < k) (hk:k < M.length) (hp:(M.getD r []).getD c 0≠0) :
  Sub M (M.set k (rowI M r c k))/\Sub (M.set k (rowI M r c k)) M/\Wid n (M.set k (rowI M r c k))/\((M.set k (rowI M r c k)).getD k []).getD c 0=0:=by
 unfold rowI
 by_cases h0:(M.getD k []).getD c 0=0
 ·rw [if_pos h0]
  have e:M.set k (M.getD k [])=M:=by
   apply List.ext_getElem (by simp)
   intro i h1 h2
   rw [List.getElem_set]
   split
   ·rename_i h;subst h;simp [List.getD,hk]
   ·rfl
  rw [e]
  exact⟨Sub.refl M,Sub.refl M,hW,h0⟩
 ·rw [if_neg h0]
  have hg:∀ j,(rowS M r c k).getD j 0=(M.getD r []).getD c 0*(M.getD k []).getD j 0 - (M.getD k []).getD c 0*(M.getD r []).getD j 0:=by
   intro j
   have l1:=hW r om
   have l2:=hW k hk
   by_cases hj:j < n
   ·exact lin_get _ _ _ _ om om
   ·have e1:(rowS M r c k).getD j 0=0:=getD_out (by unfold rowS;rw [lin_len];omega)
    have e2:(M.getD k []).getD j 0=0:=getD_out om
    have e3:(M.getD r []).getD j 0=0:=getD_out om
    rw [e1,e2,e3];omega
  refine⟨fun i hi=>?_,fun i hi=>?_,fun i hi=>?_,?_⟩
  ·by_cases e:i=k
   ·subst e
    refine⟨_,hp,?_⟩
    have h1:Sp (M.set i (rowS M r c i)) (vecL ((M.set i (rowS M r c i)).getD i [])):=Sp.row (by simpa using hi)
    have h2:Sp (M.set i (rowS M r c i)) (vecL ((M.set i (rowS M r c i)).getD r [])):=Sp.row (by simp;omega)
    rw [getD_set _ _ _ _ hi,if_pos rfl]at h1
    rw [getD_set _ _ _ _ hi,if_neg om]at h2
    refine(congrArg (Sp _) (funext fun j=>?_)).mp (h1.comb h2 1 ((M.getD i []).getD c 0))
    simp only [vecL]
    rw [hg j];grind
   ·refine⟨1,by decide,?_⟩
    have h1:Sp (M.set k (rowS M r c k)) (vecL ((M.set k (rowS M r c k)).getD i [])):=Sp.row (by simpa using hi)
    rw [getD_set _ _ _ _ hk,if_neg e]at h1
    exact(congrArg (Sp _) (funext fun j=>by simp [vecL])).mp h1
  ·have hi:i < M.length:=by simpa using hi
   rw [getD_set _ _ _ _ hk]
   refine⟨1,by decide,?_⟩
   by_cases e:i=k
   ·rw [if_pos e]
    refine(congrArg (Sp M) (funext fun j=>?_)).mp ((Sp.row hk).comb (Sp.row (show r < M.length by omega)) ((M.getD r []).getD c 0) (-((M.getD k []).getD c 0)))
    simp only [vecL]
    rw [hg j];grind
   ·rw [if_neg e]
    exact(congrArg (Sp M) (funext fun j=>by simp [vecL])).mp (Sp.row hi)
  ·have hi:i < M.length:=by simpa using hi
   rw [getD_set _ _ _ _ hk]
   by_cases e:i=k
   ·rw [if_pos e]
    unfold rowS
    rw [lin_len,hW k hk,hW r om];omega
   ·rw [if_neg e];exact hW i hi
  ·rw [getD_set _ _ _ _ hk,if_pos rfl,hg c]
   grind
theorem elim_sub {n r c:Nat}:∀(f k:Nat) {M:LL},Wid n M->r < k->k+f<=M.length->(M.getD r []).getD c 0≠0 ->
  Sub M (elim (fun N k=>rowI N r c k) f k M)/\Sub (elim (fun N k=>rowI N r c k) f k M) M/\Wid n (elim (fun N k=>rowI N r c k) f k M) /\
   (∀ i,i < k->(elim (fun N k=>rowI N r c k) f k M).getD i []=M.getD i [])/\(∀ i,k<=i->i < k+f->((elim (fun N k=>rowI N r c k) f k M).getD i []).getD c 0=0) /\
   ∀ q,(M.getD r []).getD q 0=0->(∀ i,k<=i->i < k+f->(M.getD i []).getD q 0=0)->∀ i,k<=i->i < k+f->((elim (fun N k=>rowI N r c k) f k M).getD i []).getD q 0=0
 | 0,k,M,hW,_,_,_=>⟨Sub.refl M,Sub.refl M,hW,fun _ _=>rfl,fun i h1 h2=>by omega,fun q _ _ i h1 h2=>by omega⟩
 | f+1,k,M,hW,hr,hk,hp=>by
  simp only [elim]
  obtain⟨a1,a2,a3,a4⟩:=row_sub hW hr (show k < M.length by omega) hp
  have hkl:k < M.length:=by omega
  have hge:∀ j,j≠k->(M.set k (rowI M r c k)).getD j []=M.getD j []:=fun j hj=>by rw [getD_set _ _ _ _ hkl,if_neg hj]
  have hrk:r≠k:=by omega
  have hpr:((M.set k (rowI M r c k)).getD r []).getD c 0≠0:=by rw [hge r hrk];exact hp
  obtain⟨b1,b2,b3,b4,b5,b6⟩:=elim_sub (n:=n) (r:=r) (c:=c) f (k+1) a3 om (by rw [List.length_set];omega) hpr
  refine⟨a1.trans b1,b2.trans a2,b3,fun i hi=>by rw [b4 i om,hge i om],fun i h1 h2=>?_,fun q hq hz i h1 h2=>?_⟩
  ·by_cases e:i=k
   ·rw [e,b4 k om];exact a4
   ·exact b5 i om om
  ·by_cases e:i=k
   ·rw [e,b4 k om,getD_set _ _ _ _ hkl,if_pos rfl]
    have hz0:=hz k om om
    unfold rowI
    split
    ·exact hz0
    ·have l1:=hW r om
     have l2:=hW k hkl
     by_cases hqn:q < n
     ·rw [show(rowS M r c k).getD q 0=_ from lin_get _ _ _ _ om om,hq,hz0];simp
     ·rw [getD_out (by unfold rowS;rw [lin_len];omega)]
   ·refine b6 q (by rw [hge r hrk];exact hq) (fun j h3 h4=>by rw [hge j om];exact hz j om om) i om om
theorem pvt_zero (M:LL) (c:Nat):∀ f k,pvt M c f k=k+f->∀ i,k<=i->i < k+f->(M.getD i []).getD c 0=0
 | 0,k,_,i,h1,h2=>by omega
 | f+1,k,h,i,h1,h2=>by
  unfold pvt at h
  split at h
  ·rename_i h0
   by_cases e:i=k
   ·rw [e];exact h0
   ·exact pvt_zero M c f (k+1) om i om om
  ·omega
theorem rk_spec {n:Nat}:∀(f:Nat) {M:LL} {r c:Nat},Wid n M->r<=M.length->c+f=n->Stp M r->(∀ i,r<=i->i < M.length->∀ q,q < c->(M.getD i []).getD q 0=0) ->
  Gen (rkG rowI f M r c) (Sp M)/\Ind (rkG rowI f M r c) (Sp M)
 | 0,M,r,c,hW,hr,hc,hS,hz=>by
  refine⟨gen_top (fun i h1 h2 k=>?_) hr,hS.ind hr⟩
  by_cases hk:k < c
  ·exact hz i h1 h2 k hk
  ·exact getD_out (by rw [hW i h2];omega)
 | f+1,M,r,c,hW,hr,hc,hS,hz=>by
  simp only [rkG]
  have hg:=pvt_ge M c (M.length - r) r
  by_cases h0:pvt M c (M.length - r) r=M.length
  ·rw [if_pos h0]
   refine rk_spec f hW hr om hS (fun i h1 h2 q hq=>?_)
   by_cases e:q=c
   ·rw [e];exact pvt_zero M c (M.length - r) r om i h1 om
   ·exact hz i h1 h2 q om
  ·rw [if_neg h0]
   have hlt:pvt M c (M.length - r) r < M.length:=by omega
   have hrl:r < M.length:=by omega
   have hne:=pvt_ne M c (M.length - r) r om
   generalize pvt M c (M.length - r) r=a at hg h0 hlt hne ⊢
   obtain⟨s1,s2⟩:=swp_sub hrl hlt
   have hsg:=swp_get M hrl hlt
   have hsl:=swp_len M r a
   have hsr:(swp M r a).getD r []=M.getD a []:=by
    rw [hsg]
    by_cases e:r=a
    ·rw [if_pos e,e]
    ·rw [if_neg e,if_pos rfl]
   have hsW:Wid n (swp M r a):=fun i hi=>by
    rw [hsl]at hi
    rw [hsg]
    split
    ·exact hW r hrl
    ·split
     ·exact hW a hlt
     ·exact hW i hi
   have hpv:((swp M r a).getD r []).getD c 0≠0:=by rw [hsr];exact hne
   obtain⟨e1,e2,e3,e4,e5,e6⟩:=elim_sub (n:=n) (r:=r) (c:=c) (M.length - (r+1)) (r+1) hsW om (by rw [hsl];omega) hpv
   have hel:(elim (fun N k=>rowI N r c k) (M.length - (r+1)) (r+1) (swp M r a)).length=M.length:=by rw [elim_len,hsl]
   generalize elim (fun N k=>rowI N r c k) (M.length - (r+1)) (r+1) (swp M r a)=E at e1 e2 e3 e4 e5 e6 hel ⊢
   have hzE:∀ q,(∀ i,r<=i->i < M.length->(M.getD i []).getD q 0=0)->∀ j,r<=j->j < M.length->(E.getD j []).getD q 0=0:=fun q hq j h1 h2=>by
    have hsq:∀ i,r<=i->i < M.length->((swp M r a).getD i []).getD q 0=0:=fun i h3 h4=>by
     rw [hsg]
     split
     ·exact hq r om hrl
     ·split
      ·exact hq a om hlt
      ·exact hq i h3 h4
    by_cases e:j=r
    ·rw [e,e4 r om];exact hsq r om hrl
    ·exact e6 q (hsq r om hrl) (fun i h3 h4=>hsq i om om) j om om
   have hup:∀ i,i < r->E.getD i []=M.getD i []:=fun i hi=>by rw [e4 i om,hsg,if_neg om,if_neg om]
   obtain⟨p,hp⟩:=hS
   have hS2:Stp E (r+1):=by
    refine⟨fun i=>if i=r then c else p i,fun i hi=>?_⟩
    by_cases e:i=r
    ·subst e
     simp only [if_true]
     refine⟨by rw [e4 i om];exact hpv,fun j h1 h2=>?_⟩
     rw [hel]at h2
     exact e5 j om om
    ·simp only [if_neg e]
     refine⟨by rw [hup i om];exact(hp i om).1,fun j h1 h2=>?_⟩
     rw [hel]at h2
     by_cases hj:j < r
     ·rw [hup j hj];exact(hp i om).2 j h1 h2
     ·exact hzE (p i) (fun i' h3 h4=>(hp i om).2 i' om h4) j om h2
   have hz2:∀ i,r+1<=i->i < E.length->∀ q,q < c+1->(E.getD i []).getD q 0=0:=fun i h1 h2 q hq=>by
    rw [hel]at h2
    by_cases e:q=c
    ·rw [e];exact e5 i h1 om
    ·exact hzE q (fun i' h3 h4=>hz i' h3 h4 q om) i om h2
   obtain⟨g1,g2⟩:=rk_spec f e3 (by rw [hel];omega) om hS2 hz2
   exact⟨Gen.of_sub (s1.trans e1) g1,Ind.of_sub (e2.trans s2) g2⟩
theorem rk_gen {n:Nat} {M:LL} (hW:Wid n M):Gen (rkG rowI n M 0 0) (Sp M)/\Ind (rkG rowI n M 0 0) (Sp M):=
 rk_spec n hW (nz0 _) om ⟨fun _=>0,fun i hi=>by omega⟩ (fun i _ _ q hq=>by omega)
end Go.Proofs.YtcinngodeoidnaaGreatDoor
namespace Go.Cox
variable {A:Mat} {n:Nat}
theorem act_lin (A:Mat) (N:Int) (u v:Vec):∀ w,act A w (fun k=>u k+N*v k)=fun k=>act A w u k+N*act A w v k
 | []=>rfl
 | i :: w=>by
  rw [act_cons,act_lin A N u v w,act_cons,act_cons]
  funext k
  simp only [refl]
  grind
theorem play_len (hA:Cartan A n) {u u':Vec} (hu:∀ i,i < n->0 < u i) (hu':∀ i,i < n->0 < u' i) {w t t':List Nat} (hw:∀ i∈w,i < n) (h:Play A n (act A w u) t u) (h':Play A n (act A w u') t' u'):t.length=t'.length:=by
 have key:∀ {u u':Vec} {t t':List Nat},(∀ i,i < n->0 < u i)->(∀ i,i < n->0 < u' i)->Play A n (act A w u) t u->Play A n (act A w u') t' u'->t'.length<=t.length:=by
  intro u u' t t' hu hu' h h'
  obtain⟨s,hs,_,_,es⟩:=back hA hu w hw
  obtain⟨s',hs',hl,_,_⟩:=back hA hu' s hs.mem
  rw [es]at hs'
  obtain⟨r,_,hb⟩:=conv hA _ rfl hs (fun i hi=>Int.le_of_lt (hu i hi)) h
  obtain⟨r',_,hb'⟩:=conv hA _ rfl h (fun i hi=>Int.le_of_lt (hu i hi)) hs
  obtain⟨q,_,hq⟩:=conv hA _ rfl hs' (fun i hi=>Int.le_of_lt (hu' i hi)) h'
  have h1:=hb.length
  have h2:=hq.length
  have h3:=hb'.length
  simp at h1 h2 h3
  omega
 exact Nat.le_antisymm (key hu' hu h' h) (key hu hu' h h')
theorem sign_indep (hA:Cartan A n) {u u':Vec} (hu:∀ i,i < n->0 < u i) (hu':∀ i,i < n->0 < u' i) {w:List Nat} (hw:∀ i∈w,i < n) {j:Nat} (hj:j < n) (h:act A w u j < 0):act A w u' j < 0:=by
 obtain⟨t,ht,_,_,_⟩:=back hA hu w hw
 obtain⟨t',ht',_,_,_⟩:=back hA hu' w hw
 have hnz:=nonzero hA _ rfl ht' hu' j hj
 refine Classical.byContradiction fun hn=>?_
 have hpos:0 < act A w u' j:=by omega
 have e:=play_len hA hu hu' hw ht ht'
 have hjw:∀ i∈j :: w,i < n:=fun i hi=>by rcases List.mem_cons.1 hi with rfl | hi;exact hj;exact hw i hi
 obtain⟨r,hr,hb⟩:=conv hA _ rfl ht (fun i hi=>Int.le_of_lt (hu i hi)) (.cons hj h (.nil _))
 have h1:Play A n (act A (j :: w) u') (j :: t') u':=.cons hj (by rw [act_cons,refl_self (hA.diag j hj)];omega) (by rw [act_cons,refl_refl (hA.diag j hj)];exact ht')
 have:=play_len hA hu hu' hjw hr h1
 have h2:=hb.length
 simp at h2 this
 omega
theorem coh_pos (hA:Cartan A n) {u:Vec} (hu:∀ i,i < n->0 < u i) {w:List Nat} (hw:∀ i∈w,i < n) {j:Nat} (hj:j < n) (h:0 < act A w u j) {v:Vec} (hv:∀ i,i < n->0<=v i):0<=act A w v j:=by
 refine Classical.byContradiction fun hn=>?_
 have hu':∀ i,i < n->0 < (fun k=>u k+(act A w u j+1)*v k) i:=fun i hi=>by
  have h1:=hu i hi
  have h2:0<=(act A w u j+1)*v i:=Int.mul_nonneg om (hv i hi)
  show 0 < u i+(act A w u j+1)*v i
  omega
 have e:=congrFun (act_lin A (act A w u j+1) u v w) j
 have hneg:act A w (fun k=>u k+(act A w u j+1)*v k) j < 0:=by
  rw [e]
  have h3:(act A w u j+1)*act A w v j<=(act A w u j+1)*(-1):=Int.mul_le_mul_of_nonneg_left om om
  omega
 have:=sign_indep hA hu' hu hw hj hneg
 omega
theorem coh_neg (hA:Cartan A n) {u:Vec} (hu:∀ i,i < n->0 < u i) {w:List Nat} (hw:∀ i∈w,i < n) {j:Nat} (hj:j < n) (h:act A w u j < 0) {v:Vec} (hv:∀ i,i < n->0<=v i):act A w v j<=0:=by
 have e:act A (j :: w) u j = -act A w u j:=by rw [act_cons,refl_self (hA.diag j hj)]
 have e2:act A (j :: w) v j = -act A w v j:=by rw [act_cons,refl_self (hA.diag j hj)]
 have:=coh_pos hA hu (w:=j :: w) (fun i hi=>by rcases List.mem_cons.1 hi with rfl | hi;exact hj;exact hw i hi) hj om hv
 omega
theorem turn (hA:Cartan A n) {u:Vec} (hu:∀ i,i < n->0 < u i) {p:List Nat} (hp:∀ i∈p,i < n) {s i:Nat} (hs:s < n) (hi:i < n) (h1:0 < act A p u s) (h2:act A (p ++ [i]) u s < 0):∀ x,act A (s :: p) x=act A (p ++ [i]) x:=by
 let v:Vec:=fun k=>if k=i then 0 else 1
 have hv:∀ j,j < n->0<=v j:=fun j _=>by show 0<=(if j=i then(0:Int)else 1);split<;>omega
 have hvi:v i=0:=if_pos rfl
 have rv:refl A i v=v:=by funext k;simp only [refl,hvi];omega
 have hpi:∀ j∈p ++ [i],j < n:=fun j hj=>by
  rcases List.mem_append.1 hj with hj | hj
  ·exact hp j hj
  ·simp at hj;rw [hj];exact hi
 have f1:=coh_pos hA hu hp hs h1 hv
 have f2:=coh_neg hA hu hpi hs h2 hv
 rw [act_append]at f2
 have e0:act A [i] v=v:=rv
 rw [e0]at f2
 have f0:act A p v s=0:=by omega
 have hsp:act A (s :: p) v=act A p v:=by
  rw [act_cons];funext k;simp only [refl,f0];omega
 have hyl:∀ j∈p.reverse ++ (s :: p),j < n:=fun j hj=>by
  rcases List.mem_append.1 hj with hj | hj
  ·exact hp j (by simpa using hj)
  ·rcases List.mem_cons.1 hj with rfl | hj
   ·exact hs
   ·exact hp j hj
 have rp:∀ x,act A p.reverse (act A p x)=x:=fun x=>by rw [act_reverse,run_act hA p hp]
 have rp2:∀ x,act A p (act A p.reverse x)=x:=fun x=>by rw [act_reverse,act_run hA p hp]
 have hyv:act A (p.reverse ++ (s :: p)) v=v:=by rw [act_append,hsp,rp]
 obtain⟨t,ht,_,_,et⟩:=back hA hu (p.reverse ++ (s :: p)) hyl
 have hti:∀ x,act A (p.reverse ++ (s :: p)) x=refl A i x:=by
  generalize hy0:act A (p.reverse ++ (s :: p)) u=y0 at ht
  cases ht with
  | nil=>
   exfalso
   have:=et u
   rw [act_nil,act_append]at this
   have h3:=congrArg (act A p) this
   rw [rp2,act_cons]at h3
   have h4:=congrFun h3 s
   rw [refl_self (hA.diag s hs)]at h4
   omega
  | @cons _ _ b t' hb hyb ht'=>
   have hbi:b=i:=by
    have:=coh_neg hA hu hyl hb (by rw [hy0];exact hyb) hv
    rw [hyv]at this
    refine Classical.byContradiction fun hn=>?_
    have:v b=1:=if_neg hn
    omega
   subst hbi
   cases ht' with
   | nil=>intro x;rw [<- et];rfl
   | @cons _ _ b' t'' hb' hyb' _=>
    exfalso
    have hyl2:∀ j∈b :: (p.reverse ++ (s :: p)),j < n:=fun j hj=>by
     rcases List.mem_cons.1 hj with rfl | hj
     ·exact hb
     ·exact hyl j hj
    have hyb2:act A (b :: (p.reverse ++ (s :: p))) u b' < 0:=by rw [act_cons,hy0];exact hyb'
    have:=coh_neg hA hu hyl2 hb' hyb2 hv
    rw [act_cons,hyv,rv]at this
    have hbi':b'=b:=by
     refine Classical.byContradiction fun hn=>?_
     have:v b'=1:=if_neg hn
     omega
    subst hbi'
    rw [act_cons,refl_self (hA.diag _ hb),hy0]at hyb2
    omega
 intro x
 have h5:=congrArg (act A p) (hti x)
 rw [act_append,rp2]at h5
 rw [h5,act_append]
 rfl
theorem exch (hA:Cartan A n) {u:Vec} (hu:∀ i,i < n->0 < u i) {s:Nat} (hs:s < n):∀(w p:List Nat),(∀ i∈w,i < n)->(∀ i∈p,i < n)->0 < act A p u s->act A (p ++ w) u s < 0 ->
  ∃ a i b,w=a ++ i :: b/\∀ x,act A (s :: (p ++ w)) x=act A (p ++ (a ++ b)) x
 | [],p,_,_,h1,h2=>by rw [List.append_nil]at h2;omega
 | i :: w,p,hw,hp,h1,h2=>by
  have hi:=hw i (mcS ..)
  have hw':∀ j∈w,j < n:=fun j hj=>hw j (mcM _ hj)
  have hpi:∀ j∈p ++ [i],j < n:=fun j hj=>by
   rcases List.mem_append.1 hj with hj | hj
   ·exact hp j hj
   ·simp at hj;rw [hj];exact hi
  obtain⟨t,ht,_,_,_⟩:=back hA hu (p ++ [i]) hpi
  have hnz:=nonzero hA _ rfl ht hu s hs
  have e:p ++ i :: w=p ++ [i] ++ w:=by simp
  by_cases h3:act A (p ++ [i]) u s < 0
  ·refine⟨[],i,w,rfl,fun x=>?_⟩
   have:=turn hA hu hp hs hi h1 h3 (act A w x)
   rw [act_cons,e,act_append A (p ++ [i]) w,act_append A p ([] ++ w),<- turn hA hu hp hs hi h1 h3,act_cons,refl_refl (hA.diag s hs)]
   rfl
  ·obtain⟨a,j,b,h4,h5⟩:=exch hA hu hs w (p ++ [i]) hw' hpi om (by rw [<- e];exact h2)
   refine⟨i :: a,j,b,by rw [h4];rfl,fun x=>?_⟩
   rw [e,h5]
   simp
end Go.Cox
namespace Go.Proofs.YtcinngodeoidnaaGreatDoor
open Go Go.Aw Go.Cox
def delA (x:LI) (k:Nat):List Int:=x.take k ++ x.drop (k+1)
theorem delA_app (u t:LI) (a:Int) {k:Nat} (h:u.length=k):delA (u ++ a :: t) k=u ++ t:=by
 subst h
 simp [delA]
theorem delA_len {x:LI} {k:Nat} (h:k < x.length):(delA x k).length+1=x.length:=by unfold delA;simp;omega
theorem delA_nat (w:LI) (k:Nat):nat (delA w k)=(nat w).take k ++ (nat w).drop (k+1):=by
 simp [nat,delA,List.map_take,List.map_drop]
theorem delA_sub (w:LI) (k:Nat):(delA w k).Sublist w:=by
 unfold delA
 have h:=List.take_append_drop k w
 have h2:(w.take k ++ w.drop (k+1)).Sublist (w.take k ++ w.drop k):=by
  refine List.Sublist.append (List.Sublist.refl _) ?_
  rw [<- List.drop_drop]
  exact List.drop_sublist 1 _
 rwa [h]at h2
theorem letters_sub {n:Nat} {u w:LI} (h:u.Sublist w) (hw:letters n w):letters n u:=fun i hi=>hw i (h.subset hi)
theorem exL {c:LL} (hc:CartanP c) {p w:LI} (hp:letters c.length p) (hw:letters c.length w) {s:Int} (hs:0<=s/\s < c.length) (h1:0 < (imageL c p).getD s.toNat 0) (h2:(imageL c (p ++ w)).getD s.toNat 0 < 0) :
  ∃ k,k < w.length/\imageL c (s :: (p ++ w))=imageL c (p ++ delA w k):=by
 have hA:=matA_cartan hc
 have hpw:=letters_append.2 ⟨hp,hw⟩
 have nap:∀ a b:List Int,nat (a ++ b)=nat a ++ nat b:=fun a b=>by simp [nat]
 have e1:vecL (imageL c p)=act (matA c) (nat p) (vecL (ones c.length)):=vec_act (ones_length _) p
 have e2:vecL (imageL c (p ++ w))=act (matA c) (nat p ++ nat w) (vecL (ones c.length)):=by rw [<- nap];exact vec_act (ones_length _) _
 obtain⟨a,i,b,hab,hx⟩:=exch hA (vec_ones c.length) (s:=s.toNat) om (nat w) (nat p) (letters_nat hw) (letters_nat hp) (by rw [<- e1];exact h1) (by rw [<- e2];exact h2)
 have hk:a.length < w.length:=by
  have:=congrArg List.length hab
  simp [nat]at this
  omega
 refine⟨a.length,hk,?_⟩
 apply vec_inj (by rw [imageL_length,imageL_length])
 rw [imageL,imageL,vec_act (ones_length _),vec_act (ones_length _)]
 have e3:nat (s :: (p ++ w))=s.toNat :: (nat p ++ nat w):=by rw [<- nap];rfl
 have e4:nat (p ++ delA w a.length)=nat p ++ (a ++ b):=by
  rw [nap,delA_nat,hab]
  simp
 rw [e3,e4]
 exact hx _
theorem exW {c:LL} (hc:CartanP c) {w:LI} (hw:letters c.length w) {s:Int} (hs:0<=s/\s < c.length) (h2:(imageL c w).getD s.toNat 0 < 0):∃ k,k < w.length/\imageL c (s :: w)=imageL c (delA w k):=by
 have:=exL hc (letters_nil _) hw hs (by
  show 0 < (ones c.length).getD s.toNat 0
  have hh:s.toNat < c.length:=by omega
  simp [ones,List.getD,hh]) (by simpa using h2)
 simpa using this
def SubI (c:LL) (w v:LI):Prop:=∃ u,u.Sublist w/\imageL c u=v
theorem SubI.mono {c:LL} {w x v:LI} (h:SubI c w v) (k:w.Sublist x):SubI c x v:=by
 obtain⟨u,h1,h2⟩:=h
 exact⟨u,h1.trans k,h2⟩
theorem SubI.self (c:LL) (w:LI):SubI c w (imageL c w):=⟨w,List.Sublist.refl _,rfl⟩
theorem SubI.len {c:LL} {w v:LI} (h:SubI c w v):v.length=c.length:=by
 obtain⟨u,_,rfl⟩:=h
 exact imageL_length c u
theorem refl_at' {c:LL} (hc:CartanP c) {i:Int} (hi:0<=i/\i < c.length) {v:LI} (hv:v.length=c.length):(reflL c i v).getD i.toNat 0 = - v.getD i.toNat 0:=by
 have d:ent c i.toNat i.toNat=2:=(matA_cartan hc).diag i.toNat om
 have g:=reflL_get c i v i.toNat om
 rw [d]at g
 omega
theorem sub_cons {c:LL} (hc:CartanP c) {i:Int} {w:LI} (hw:letters c.length (i :: w)) {v:LI} (hv:v.length=c.length) :
  SubI c (i :: w) v↔if v.getD i.toNat 0 < 0 then SubI c w (reflL c i v)else SubI c w v:=by
 obtain⟨hi,hr⟩:=letters_cons.1 hw
 constructor
 ·rintro⟨u,hu0,rfl⟩
  rcases List.sublist_cons_iff.1 hu0 with hu | ⟨r,rfl,hu⟩
  ·split
   ·rename_i h
    obtain⟨k,_,hk⟩:=exW hc (letters_sub hu hr) hi h
    exact⟨delA u k,(delA_sub u k).trans hu,by rw [<- hk];rfl⟩
   ·exact⟨u,hu,rfl⟩
  ·have hrl:=letters_sub hu hr
   split
   ·refine⟨r,hu,?_⟩
    exact(refl2 hc hi (imageL_length c r)).symm
   ·rename_i h
    have e:=refl_at' hc hi (imageL_length c r)
    have hnz:(imageL c r).getD i.toNat 0≠0:=by
     obtain⟨L,_,_,k3⟩:=Far.image hc hrl
     exact k3.nz hc i.toNat om
    have h:¬(reflL c i (imageL c r)).getD i.toNat 0 < 0:=h
    obtain⟨k,_,hk⟩:=exW hc hrl hi om
    exact⟨delA r k,(delA_sub r k).trans hu,hk.symm⟩
 ·intro h
  split at h
  ·obtain⟨u,h1,h2⟩:=h
   refine⟨i :: u,List.Sublist.cons_cons i h1,?_⟩
   show reflL c i (imageL c u)=v
   rw [h2,refl2 hc hi hv]
  ·exact h.mono (List.sublist_cons_self i w)
theorem len_app {c:LL} (hc:CartanP c) {a b:LI} (ha:letters c.length a) (hb:letters c.length b) {K M:Nat} (h1:Far c K (imageL c (a ++ b))) (h2:Far c M (imageL c b)) (hM:M<=31):K<=a.length+M:=by
 obtain⟨r1,r2,r3⟩:=nfL_far hc 31 M h2 hM
 obtain⟨L,k1,_,k3⟩:=Far.image hc (w:=a ++ nfL c 31 (imageL c b)) (letters_append.2 ⟨ha,r2⟩)
 rw [image_append,r3,<- image_append]at k3
 have:=h1.uniq hc k3
 simp at k1
 omega
theorem Red.tail {c:LL} (hc:CartanP c) {a b:LI} (hl:b.length<=31) (h:Red c (a ++ b)):Red c b:=by
 obtain⟨ha,hb⟩:=letters_append.1 h.1
 obtain⟨L,k1,_,k3⟩:=Far.image hc hb
 have:=len_app hc ha hb h.2 k3 om
 simp at this
 have e:L=b.length:=by omega
 exact⟨hb,by rw [<- e];exact k3⟩
theorem Red.rev {c:LL} (hc:CartanP c) {a:LI} (hl:a.length<=31) (h:Red c a):Red c a.reverse:=by
 have hr:=letters_reverse h.1
 obtain⟨a1,a2,a3,a4,a5⟩:=red_spec hc hr (by simpa using hl)
 have e:imageL c (redL c a.reverse).reverse=imageL c a:=by
  have:=rev_same hc a1 hr a4 (ones_length c.length)
  rw [List.reverse_reverse]at this
  exact this
 obtain⟨L,k1,_,k3⟩:=Far.image hc (letters_reverse a1)
 rw [e]at k3
 have:=h.2.uniq hc k3
 simp at k1 a2
 refine⟨hr,?_⟩
 have e2:(redL c a.reverse).length=a.reverse.length:=by simp;omega
 rw [<- e2]
 exact a5
theorem Red.head {c:LL} (hc:CartanP c) {a b:LI} (hl:a.length+b.length<=31) (h:Red c (a ++ b)):Red c a:=by
 have h1:=h.rev hc (by simpa using hl)
 rw [List.reverse_append]at h1
 have h2:=(h1.tail hc (by simp;omega)).rev hc (by simp;omega)
 rwa [List.reverse_reverse]at h2
theorem Red.pos {c:LL} (hc:CartanP c) {i:Int} {b:LI} (h:Red c (i :: b)):0 < (imageL c b).getD i.toNat 0:=by
 obtain⟨hi,hb⟩:=letters_cons.1 h.1
 obtain⟨L,k1,_,k3⟩:=Far.image hc hb
 have hnz:=k3.nz hc i.toNat om
 refine Classical.byContradiction fun hn=>?_
 obtain⟨M,h1,h2⟩:=k3.down hc hi om
 have:=h.2.uniq hc h2
 simp at this
 omega
theorem Red.up {c:LL} (hc:CartanP c) {i:Int} (hi:0<=i/\i < c.length) {b:LI} (h:Red c b) (hp:0 < (imageL c b).getD i.toNat 0):Red c (i :: b):=
 ⟨letters_cons.2 ⟨hi,h.1⟩,h.2.up hc hi hp⟩
theorem Red.of {c:LL} (hc:CartanP c) {a b:LI} (ha:letters c.length a) (h:Red c b) (he:imageL c a=imageL c b) (hl:a.length<=b.length):Red c a:=by
 obtain⟨L,k1,_,k3⟩:=Far.image hc ha
 have h2:=h.2
 rw [<- he]at h2
 have:=h2.uniq hc k3
 have e:b.length=a.length:=by omega
 rw [e]at h2
 exact⟨ha,h2⟩
theorem exS {c:LL} (hc:CartanP c) {y u:LI} (hy:Red c y) (hl:y.length<=30) (hu:letters c.length u) (he:imageL c u=imageL c y) {k:Nat} (hk:k < y.length):∃ j,j < u.length/\imageL c (delA u j)=imageL c (delA y k):=by
 obtain⟨a,i,b,hab,hak⟩:∃ a i b,y=a ++ i :: b/\a.length=k:=⟨y.take k,y[k],y.drop (k+1),by rw [<- List.drop_eq_getElem_cons hk,List.take_append_drop],by simp;omega⟩
 have hlen:y.length=a.length+b.length+1:=by rw [hab];simp;omega
 have hyab:=hy
 rw [hab]at hyab
 obtain⟨la,lib⟩:=letters_append.1 hyab.1
 obtain⟨hi,lb⟩:=letters_cons.1 lib
 have h1:0 < (imageL c a.reverse).getD i.toNat 0:=by
  have h2:Red c ((a ++ [i]) ++ b):=by simpa using hyab
  have h3:=(h2.head hc (by simp;omega)).rev hc (by simp;omega)
  rw [List.reverse_append]at h3
  exact Red.pos hc h3
 have hib:Red c (i :: b):=hyab.tail hc (by simp;omega)
 have hra:=letters_reverse la
 have e1:imageL c (a.reverse ++ u)=imageL c (i :: b):=by
  rw [image_append,he,hab,image_append]
  exact act_rev hc a la (imageL_length c _)
 have h2:(imageL c (a.reverse ++ u)).getD i.toNat 0 < 0:=by
  rw [e1,image_cons,refl_at' hc hi (imageL_length c b)]
  have:=Red.pos hc hib
  omega
 obtain⟨j,hj,hx⟩:=exL hc hra hu hi h1 h2
 refine⟨j,hj,?_⟩
 rw [image_cons,e1,image_cons,refl2 hc hi (imageL_length c b),image_append]at hx
 have h3:=congrArg (actL c a) hx
 have h4:=act_rev hc a.reverse hra (v:=imageL c (delA u j)) (imageL_length c _)
 rw [List.reverse_reverse]at h4
 rw [h4]at h3
 rw [<- h3,hab,delA_app a b i hak,image_append]
theorem chain_T {c:LL} (hc:CartanP c):∀(n:Nat) (y:LI),y.length=n->n<=30->Red c y ->
  (∀ v,SubI c y v->v≠imageL c y->∃ k,k < y.length/\Red c (delA y k)/\SubI c (delA y k) v) /\
  (∀ u,letters c.length u->imageL c u=imageL c y->∀ v,SubI c y v->SubI c u v):=by
 intro n
 induction n using Nat.strongRecOn with
 | _ n ih=>
  intro y hyn hn hy
  have chain:∀ v,SubI c y v->v≠imageL c y->∃ k,k < y.length/\Red c (delA y k)/\SubI c (delA y k) v:=by
   intro v hv hne
   cases y with
   | nil=>
    obtain⟨u,hu,rfl⟩:=hv
    have:u=[]:=List.sublist_nil.1 hu
    subst this
    exact(hne rfl).elim
   | cons i y1=>
    obtain⟨hi,lr⟩:=letters_cons.1 hy.1
    simp at hyn
    have hy1:Red c y1:=Red.tail hc (a:=[i]) om hy
    have hvl:=hv.len
    rw [sub_cons hc hy.1 hvl]at hv
    split at hv
    ·rename_i hneg
     have hne1:reflL c i v≠imageL c y1:=fun e=>hne (by
      have:=congrArg (reflL c i) e
      rw [refl2 hc hi hvl]at this
      exact this)
     obtain⟨k,hk,hR,hS⟩:=(ih (n - 1) om y1 om om hy1).1 _ hv hne1
     have hdl:=delA_len hk
     by_cases hpos:(imageL c (delA y1 k)).getD i.toNat 0 < 0
     ·obtain⟨j,hj,hx⟩:=exW hc hR.1 hi hpos
      have ljd:=letters_sub (delA_sub (delA y1 k) j) hR.1
      have eL:imageL c (i :: delA (delA y1 k) j)=imageL c (delA y1 k):=by
       rw [image_cons,<- hx,image_cons,refl2 hc hi (imageL_length c _)]
      have hdl2:=delA_len hj
      have lI:letters c.length (i :: delA (delA y1 k) j):=letters_cons.2 ⟨hi,ljd⟩
      have hR2:Red c (i :: delA (delA y1 k) j):=Red.of hc lI hR eL (by simp;omega)
      have s1:=(ih (delA y1 k).length om _ rfl om hR).2 _ lI eL _ hS
      rw [sub_cons hc lI (by rw [reflL_length,hvl]),if_neg (by rw [refl_at' hc hi hvl];omega)]at s1
      have s2:SubI c (i :: delA (delA y1 k) j) v:=by
       rw [sub_cons hc lI hvl,if_pos hneg];exact s1
      have s3:=(ih (i :: delA (delA y1 k) j).length (by simp;omega) _ rfl (by simp;omega) hR2).2 _ hR.1 eL.symm _ s2
      exact⟨0,by simp,by simpa [delA] using hy1,by
       have:=s3.mono (delA_sub y1 k)
       simpa [delA] using this⟩
     ·have hnz:=hR.2.nz hc i.toNat om
      have e:delA (i :: y1) (k+1)=i :: delA y1 k:=by simp [delA]
      refine⟨k+1,by simp;omega,?_,?_⟩
      ·rw [e];exact hR.up hc hi om
      ·rw [e,sub_cons hc (letters_cons.2 ⟨hi,hR.1⟩) hvl,if_pos hneg];exact hS
    ·exact⟨0,by simp,by simpa [delA] using hy1,by simpa [delA] using hv⟩
  refine⟨chain,fun u hu he v hv=>?_⟩
  by_cases hne:v=imageL c y
  ·rw [hne,<- he];exact SubI.self c u
  ·obtain⟨k,hk,hR,hS⟩:=chain v hv hne
   obtain⟨j,hj,hx⟩:=exS hc hy om hu he hk
   have hdl:=delA_len hk
   exact((ih (delA y k).length om _ rfl om hR).2 _ (letters_sub (delA_sub u j) hu) hx _ hS).mono (delA_sub u j)
theorem sub_word {c:LL} (hc:CartanP c) {y u:LI} (hy:Red c y) (hl:y.length<=30) (hu:letters c.length u) (he:imageL c u=imageL c y) {v:LI} (h:SubI c y v):SubI c u v:=(chain_T hc _ y rfl hl hy).2 u hu he v h
def Low (c:LL) (x z:LI):Prop:=Nf c z/\SubI c x (imageL c z)
theorem Low.self {c:LL} {x:LI} (h:Nf c x):Low c x x:=⟨h,SubI.self c x⟩
theorem Low.trans {c:LL} (hc:CartanP c) {x y z:LI} (h:Low c x y) (k:Low c y z) (hx:letters c.length x):Low c x z:=by
 obtain⟨hy,u,hu,he⟩:=h
 exact⟨k.1,(sub_word hc (hy.red hc) hy.2.2 (letters_sub hu hx) he k.2).mono hu⟩
theorem Low.len {c:LL} (hc:CartanP c) {x z:LI} (hx:letters c.length x) (h:Low c x z):z.length<=x.length:=by
 obtain⟨hz,u,hu,he⟩:=h
 have:=hz.short hc (letters_sub hu hx) he
 have:=hu.length_le
 omega
theorem Low.none {c:LL} (hc:CartanP c) (z:LI):Low c [] z↔z=[]:=by
 constructor
 ·rintro⟨hn,u,hu,he⟩
  have:u=[]:=List.sublist_nil.1 hu
  subst this
  rw [<- hn.2.1,<- red_eq he,red_of_nil hc]
 ·rintro rfl
  exact⟨⟨letters_nil _,red_of_nil hc,by simp⟩,[],List.Sublist.refl _,rfl⟩
end Go.Proofs.YtcinngodeoidnaaGreatDoor
namespace Go.Cox
variable {A B:Mat} {n:Nat}
def SameB (A B:Mat) (n:Nat):Prop:=∀ i j,i < n->j < n->bond A i j=bond B i j
theorem SameB.symm (h:SameB A B n):SameB B A n:=fun i j hi hj=>(h i j hi hj).symm
theorem Br.to (h:SameB A B n) {a b:List Nat} (k:Br A n a b):Br B n a b:=by
 induction k with
 | refl w=>exact .refl w
 | trans _ _ h k=>exact .trans h k
 | cons i _ h=>exact .cons i h
 | braid i j t hi hj hij hb=>
  rw [h i j hi hj]at hb ⊢
  exact .braid i j t hi hj hij hb
theorem back2 (hA:Cartan A n) (hB:Cartan B n) (hS:SameB A B n) {u:Vec} (hu:∀ i,i < n->0 < u i):∀(w:List Nat),(∀ i∈w,i < n)->∃ t,Play A n (act A w u) t u/\t.length<=w.length/\(∀ x,act A t x=act A w x)/\∀ x,act B t x=act B w x
 | [],_=>⟨[],.nil _,Nat.le_refl _,fun _=>rfl,fun _=>rfl⟩
 | i :: w,h=>by
  have hi:=h i (mcS ..)
  obtain⟨t,hp,hl,he,he'⟩:=back2 hA hB hS hu w (fun k hk=>h k (mcM _ hk))
  have hnz:=nonzero hA _ rfl hp hu i hi
  rw [act_cons]
  rcases Int.lt_or_gt_of_ne hnz with hneg | hpos
  ·obtain⟨s,hs,hbr⟩:=conv hA _ rfl hp (fun i hi=>Int.le_of_lt (hu i hi)) (.cons hi hneg (.nil _))
   have hlen:=hbr.length
   simp at hlen
   refine⟨s,hs,by simp;omega,fun x=>?_,fun x=>?_⟩
   ·rw [act_cons,<- he,act_br hA hbr hp.mem]
    simp only [List.cons_append,List.nil_append,act_cons]
    rw [refl_refl (hA.diag i hi)]
   ·rw [act_cons,<- he',act_br hB (hbr.to hS) hp.mem]
    simp only [List.cons_append,List.nil_append,act_cons]
    rw [refl_refl (hB.diag i hi)]
  ·refine⟨i :: t,.cons hi (by rw [refl_self (hA.diag i hi)];omega) (by rw [refl_refl (hA.diag i hi)];exact hp),by simp;omega,fun x=>?_,fun x=>?_⟩
   ·rw [act_cons,act_cons,he]
   ·rw [act_cons,act_cons,he']
theorem faithful2 (hA:Cartan A n) (hB:Cartan B n) (hS:SameB A B n) {u:Vec} (hu:∀ i,i < n->0 < u i) {a b:List Nat} (ha:∀ i∈a,i < n) (hb:∀ i∈b,i < n) (h:act A a u=act A b u) (x:Vec):act B a x=act B b x:=by
 obtain⟨s,hs,_,_,es⟩:=back2 hA hB hS hu a ha
 obtain⟨t,ht,_,_,et⟩:=back2 hA hB hS hu b hb
 rw [h]at hs
 obtain⟨r,hr,hbr⟩:=conv hA _ rfl hs (fun i hi=>Int.le_of_lt (hu i hi)) ht
 have hr0:r=[]:=by
  cases hr with
  | nil=>rfl
  | cons hi hv _=>exact absurd (hu _ hi) om
 subst hr0
 rw [<- es,<- et,act_br hB (hbr.to hS) hs.mem,List.append_nil]
end Go.Cox
namespace Go.Proofs.YtcinngodeoidnaaGreatDoor
open Go Go.Aw Go.Cox
def trL (c:LL):List (List Int):=(List.range c.length).map fun i=>(List.range c.length).map fun j=>ent c j i
theorem trL_len (c:LL):(trL c).length=c.length:=by simp [trL]
theorem trL_row (c:LL) {i:Nat} (hi:i < c.length):(trL c).getD i []=(List.range c.length).map fun j=>ent c j i:=by
 simp [trL,gdE,hi]
theorem trL_ent (c:LL) {i j:Nat} (hi:i < c.length) (hj:j < c.length):ent (trL c) i j=ent c j i:=by
 unfold ent
 rw [trL_row c hi]
 simp [gdE,hj]
theorem trL_cartan {c:LL} (hc:CartanP c):CartanP (trL c):=by
 refine⟨by rw [trL_len];exact hc.1,by rw [trL_len];exact hc.2.1,fun i hi=>?_,fun i j hi hj=>?_⟩
 ·rw [trL_len]at hi ⊢;rw [trL_row c hi];simp
 ·rw [trL_len]at hi hj
  have h1:=hc.2.2.2 j i hj hi
  have h2:=hc.2.2.2 i j hi hj
  unfold badE at *
  rw [trL_ent c hi hj,trL_ent c hj hi]
  intro h
  rcases h with⟨rfl,h⟩ | ⟨h0,h⟩
  ·exact h1 (.inl ⟨rfl,h⟩)
  ·refine h1 (.inr ⟨Ne.symm h0,?_⟩)
   rcases h with h | h | h
   ·exact .inl h
   ·exact .inr (.inl h)
   ·exact .inr (.inr h)
theorem tr_same (c:LL):SameB (matA c) (matA (trL c)) c.length:=fun i j hi hj=>by
 unfold bond
 rw [show matA (trL c) i j=matA c j i from trL_ent c hi hj,show matA (trL c) j i=matA c i j from trL_ent c hj hi,Int.mul_comm]
theorem dot_set:∀(a r:LI) (i:Nat) (x:Int),i < a.length->i < r.length->dotL a (r.set i x)=dotL a r+a.getD i 0*(x - r.getD i 0)
 | y :: a,z :: r,0,x,_,_=>by simp [dotL];grind
 | y :: a,z :: r,i+1,x,h1,h2=>by
  have:=dot_set a r i x (by simpa using h1) (by simpa using h2)
  simp [dotL]at this ⊢
  omega
theorem dot_lin (u v a r:LI) (m:Int) (h1:u.length=r.length) (h2:v.length=r.length) (h3:a.length=r.length) (h:∀ k,k < r.length->u.getD k 0=v.getD k 0 - m*a.getD k 0):dotL u r=dotL v r - m*dotL a r:=by
 induction r generalizing u v a with
 | nil=>
  obtain rfl:=List.length_eq_zero_iff.1 h1
  obtain rfl:=List.length_eq_zero_iff.1 h2
  obtain rfl:=List.length_eq_zero_iff.1 h3
  simp [dotL]
 | cons q r ih=>
  match u,v,a,h1,h2,h3,h with
  | x :: u,y :: v,z :: a,h1,h2,h3,h=>
   have ih:=ih u v a (by simpa using h1) (by simpa using h2) (by simpa using h3) (fun k hk=>by simpa using h (k+1) (by simpa using hk))
   have h0:=h 0 (by simp)
   simp at h0
   simp only [dotL,ih,h0]
   grind
theorem dot_sim:∀(n:Nat) (r:LI) (k:Nat),r.length=n->k < n->dotL (simL n k) r=r.getD k 0:=by
 have z:∀(n:Nat) (r:LI),dotL (List.replicate n 0) r=0:=by
  intro n
  induction n with
  | zero=>intro r;simp [dotL]
  | succ n ih=>intro r;cases r with
   | nil=>simp [dotL]
   | cons x r=>simp [List.replicate_succ,dotL,ih]
 intro n
 induction n with
 | zero=>intro r k _ h;omega
 | succ n ih=>
  intro r k hl hk
  cases r with
  | nil=>simp at hl
  | cons x r=>
   cases k with
   | zero=>simp [simL,List.replicate_succ,dotL,z]
   | succ k=>
    have:=ih r k (by simpa using hl) om
    simp [simL,List.replicate_succ,dotL]at this ⊢
    exact this
theorem dot_mir {c:LL} (hc:CartanP c) {i:Int} (hi:0<=i/\i < c.length) {v r:LI} (hv:v.length=c.length) (hr:r.length=c.length):dotL (reflL (trL c) i v) r=dotL v (mirL c i r):=by
 have hi2:i.toNat < c.length:=by omega
 unfold mirL
 rw [dot_set v r _ _ om om]
 rw [dot_lin (reflL (trL c) i v) v (c.getD i.toNat []) r (v.getD i.toNat 0) (by rw [reflL_length];omega) om (by rw [hc.2.2.1 _ hi2,hr]) (fun k hk=>by
  rw [reflL_get _ _ _ _ om,trL_ent c om hi2])]
 grind
theorem dot_act {c:LL} (hc:CartanP c) {r:LI} (hr:r.length=c.length):∀(w:LI),letters c.length w->∀ {v:LI},v.length=c.length->dotL v (actR c w r)=dotL (actL (trL c) w.reverse v) r
 | [],_,v,hv=>rfl
 | i :: w,hw,v,hv=>by
  obtain⟨h1,h2⟩:=letters_cons.1 hw
  rw [List.reverse_cons,actL_append]
  show dotL v (mirL c i (actR c w r))=dotL (actL (trL c) w.reverse (reflL (trL c) i v)) r
  rw [<- dot_mir hc h1 hv (by rw [actR_len,hr])]
  exact dot_act hc hr w h2 (by rw [reflL_length,hv])
theorem actR_append (c:LL) (a b r:LI):actR c (a ++ b) r=actR c a (actR c b r):=by simp [actR,List.foldr_append]
theorem actR_same {c:LL} (hc:CartanP c) {a b:LI} (ha:letters c.length a) (hb:letters c.length b) (h:imageL c a=imageL c b) {r:LI} (hr:r.length=c.length):actR c a r=actR c b r:=by
 have hA:=matA_cartan hc
 have hB:=matA_cartan (trL_cartan hc)
 rw [trL_len]at hB
 have hr':imageL c a.reverse=imageL c b.reverse:=rev_same hc ha hb h (ones_length _)
 have hw:act (matA c) (nat a.reverse) (vecL (ones c.length))=act (matA c) (nat b.reverse) (vecL (ones c.length)):=by
  rw [<- vec_act (ones_length _),<- vec_act (ones_length _)]
  exact congrArg vecL hr'
 have hf:=faithful2 hA hB (tr_same c) (vec_ones c.length) (letters_nat (letters_reverse ha)) (letters_nat (letters_reverse hb)) hw
 have key:∀ v:List Int,v.length=c.length->actL (trL c) a.reverse v=actL (trL c) b.reverse v:=fun v hv=>by
  apply vec_inj (by rw [actL_length,actL_length])
  rw [vec_act (by rw [trL_len,hv]),vec_act (by rw [trL_len,hv])]
  exact hf _
 have hla:(actR c a r).length=c.length:=by rw [actR_len,hr]
 have hlb:(actR c b r).length=c.length:=by rw [actR_len,hr]
 apply vec_inj (by rw [hla,hlb])
 funext k
 show(actR c a r).getD k 0=(actR c b r).getD k 0
 by_cases hk:k < c.length
 ·rw [<- dot_sim _ _ k hla hk,<- dot_sim _ _ k hlb hk,dot_act hc hr a ha (simL_len _ _),dot_act hc hr b hb (simL_len _ _),key _ (simL_len _ _)]
 ·rw [gdE,gdE,geN om,geN om]
def Rt (c:LL) (r:LI):Prop:=∃(w:LI) (i:Nat),letters c.length w/\i < c.length/\r=actR c w (simL c.length i)
theorem Rt.len {c:LL} {r:LI} (h:Rt c r):r.length=c.length:=by
 obtain⟨w,i,_,_,rfl⟩:=h;rw [actR_len,simL_len]
theorem Rt.act {c:LL} {r:LI} (h:Rt c r) {w:LI} (hw:letters c.length w):Rt c (actR c w r):=by
 obtain⟨p,i,h1,h2,rfl⟩:=h
 exact⟨w ++ p,i,letters_append.2 ⟨hw,h1⟩,h2,(actR_append _ _ _ _).symm⟩
end Go.Proofs.YtcinngodeoidnaaGreatDoor
