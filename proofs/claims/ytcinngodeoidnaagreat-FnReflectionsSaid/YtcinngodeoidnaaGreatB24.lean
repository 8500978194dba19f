/- Sums, systems of equations, independent vectors: as much linear algebra as the rank of a matrix asks for. No program is named here. -/
import Derived.Test.YtcinngodeoidnaaGreatB16
import Derived.Test.YtcinngodeoidnaaGreatB14
import Derived.Test.YtcinngodeoidnaaGreatB20
import Derived.Test.YtcinngodeoidnaaGreatB21
set_option linter.unusedVariables false
set_option linter.unusedSimpArgs false
namespace Go.Proofs.YtcinngodeoidnaaGreat
open Go Go.Aw Go.Cox
def sumN:Nat->(Nat->Int)->Int
 | 0,_=>0
 | n+1,f=>sumN n f+f n
theorem sumN_succ (n:Nat) (f:Nat->Int):sumN (n+1) f=sumN n f+f n:=rfl
theorem sumN_congr {f g:Nat->Int}:∀ n,(∀ i,i < n->f i=g i)->sumN n f=sumN n g
 | 0,_=>rfl
 | n+1,h=>by unfold sumN;rw [sumN_congr n (fun i hi=>h i om),h n om]
theorem sumN_zero:∀ n,sumN n (fun _=>0)=0
 | 0=>rfl
 | n+1=>by unfold sumN;rw [sumN_zero n];rfl
theorem sumN_zero' {f:Nat->Int} (n:Nat) (h:∀ i,i < n->f i=0):sumN n f=0:=(sumN_congr n h).trans (sumN_zero n)
theorem sumN_add (f g:Nat->Int):∀ n,sumN n (fun i=>f i+g i)=sumN n f+sumN n g
 | 0=>rfl
 | n+1=>by simp only [sumN_succ];rw [sumN_add f g n];omega
theorem sumN_mul (m:Int) (f:Nat->Int):∀ n,sumN n (fun i=>m*f i)=m*sumN n f
 | 0=>by simp [sumN]
 | n+1=>by unfold sumN;rw [sumN_mul m f n,Int.mul_add]
theorem sumN_mulr (m:Int) (f:Nat->Int) (n:Nat):sumN n (fun i=>f i*m)=sumN n f*m:=by
 rw [Int.mul_comm,<- sumN_mul];exact sumN_congr n fun i _=>Int.mul_comm ..
theorem sumN_comm (f:Nat->Nat->Int) (m:Nat):∀ n,sumN n (fun i=>sumN m (f i))=sumN m (fun j=>sumN n (fun i=>f i j))
 | 0=>(sumN_zero m).symm
 | n+1=>by
  rw [show sumN (n+1) (fun i=>sumN m (f i))=sumN n (fun i=>sumN m (f i))+sumN m (f n)from rfl,sumN_comm f m n,<- sumN_add]
  rfl
theorem sumN_one {f:Nat->Int} {p:Nat}:∀ n,p < n->(∀ i,i < n->i≠p->f i=0)->sumN n f=f p
 | 0,h,_=>by omega
 | n+1,h,hf=>by
  unfold sumN
  by_cases e:p=n
  ·subst e
   rw [sumN_zero' p (fun i hi=>hf i om om)];omega
  ·rw [sumN_one n om (fun i hi=>hf i om),hf n om om];omega
def skp (p j:Nat):Nat:=if j < p then j else j+1
theorem sumN_skp (f:Nat->Int) (p:Nat):∀ n,p<=n->sumN (n+1) f=f p+sumN n (fun j=>f (skp p j))
 | 0,h=>by
  have:p=0:=by omega
  subst this;simp [sumN]
 | n+1,h=>by
  rw [show sumN (n+1+1) f=sumN (n+1) f+f (n+1)from rfl]
  by_cases e:p=n+1
  ·subst e
   rw [sumN_congr (n+1) (f:=fun j=>f (skp (n+1) j)) (g:=f) (fun i hi=>by unfold skp;rw [if_pos hi])]
   omega
  ·rw [sumN_skp f p n om]
   rw [show sumN (n+1) (fun j=>f (skp p j))=sumN n (fun j=>f (skp p j))+f (skp p n)from rfl]
   rw [show skp p n=n+1 by unfold skp;rw [if_neg om]]
   omega
theorem solve:∀(r s:Nat),r < s->∀ A:Nat->Nat->Int,∃ x:Nat->Int,(∃ j,j < s/\x j≠0)/\∀ i,i < r->sumN s (fun j=>A i j*x j)=0
 | 0,s,h,_=>⟨fun _=>1,⟨0,h,by decide⟩,fun i hi=>by omega⟩
 | r+1,0,h,_=>by omega
 | r+1,s+1,h,A=>by
  by_cases hz:∀ j,j < s+1->A r j=0
  ·obtain⟨x,hx,he⟩:=solve r (s+1) om A
   refine⟨x,hx,fun i hi=>?_⟩
   by_cases e:i=r
   ·subst e
    exact sumN_zero' _ fun j hj=>by rw [hz j hj];simp
   ·exact he i om
  ·obtain⟨p,hp⟩:=Classical.not_forall.1 hz
   have hps:p < s+1:=Classical.byContradiction fun h=>hp fun h2=>absurd h2 h
   have hp:A r p≠0:=fun h=>hp fun _=>h
   obtain⟨y,⟨j0,hj0,hy⟩,he⟩:=solve r s om (fun i j=>A r p*A i (skp p j) - A r (skp p j)*A i p)
   let unsk:Nat->Nat:=fun j=>if j < p then j else j - 1
   let x:Nat->Int:=fun j=>if j=p then -(sumN s (fun j=>A r (skp p j)*y j))else A r p*y (unsk j)
   have hxp:x p = -(sumN s (fun j=>A r (skp p j)*y j)):=by simp only [x,if_true]
   have hxk:∀ j,x (skp p j)=A r p*y j:=fun j=>by
    have h1:skp p j≠p:=by unfold skp;split<;>omega
    have h2:unsk (skp p j)=j:=by
     simp only [unsk,skp]
     split
     ·rename_i h;simp [h]
     ·rename_i h;rw [if_neg om];omega
    simp only [x,if_neg h1,h2]
   refine⟨x,⟨skp p j0,by unfold skp;split<;>omega,by rw [hxk];exact Int.mul_ne_zero hp hy⟩,fun i hi=>?_⟩
   have h0:sumN s (fun j=>A i (skp p j)*x (skp p j))=A r p*sumN s (fun j=>A i (skp p j)*y j):=by
    rw [<- sumN_mul]
    exact sumN_congr s fun j _=>by rw [hxk];exact Int.mul_left_comm ..
   rw [sumN_skp _ p s om,hxp]
   rw [show sumN s (fun j=>A i (skp p j)*x (skp p j))=_ from h0]
   by_cases e:i=r
   ·subst e
    rw [Int.mul_neg];omega
   ·have h3:=he i om
    rw [sumN_congr s (g:=fun j=>A r p*(A i (skp p j)*y j)+(-(A i p))*(A r (skp p j)*y j)) (fun j _=>by grind),sumN_add,sumN_mul,sumN_mul]at h3
    rw [Int.mul_neg,<- Int.neg_mul]
    rw [Int.add_comm];exact h3
def Gen (r:Nat) (S:Vec->Prop):Prop:=∃ g:Nat->Vec,∀ v,S v->∃ m:Int,m≠0/\∃ a:Nat->Int,∀ k,m*v k=sumN r (fun i=>a i*g i k)
def Ind (r:Nat) (S:Vec->Prop):Prop:=∃ h:Nat->Vec,(∀ j,j < r->S (h j))/\∀ x:Nat->Int,(∀ k,sumN r (fun j=>x j*h j k)=0)->∀ j,j < r->x j=0
theorem steinitz {r s:Nat} {S:Vec->Prop} (hG:Gen r S) (hI:Ind s S):s<=r:=by
 rcases Nat.lt_or_ge r s with h | h
 ·exfalso
  obtain⟨g,hg⟩:=hG
  obtain⟨v,hv,hi⟩:=hI
  have hch:∀ j,∃ m:Int,m≠0/\∃ a:Nat->Int,j < s->∀ k,m*v j k=sumN r (fun i=>a i*g i k):=fun j=>by
   by_cases hj:j < s
   ·obtain⟨m,h1,a,h2⟩:=hg _ (hv j hj)
    exact⟨m,h1,a,fun _=>h2⟩
   ·exact⟨1,by decide,fun _=>0,fun h=>absurd h hj⟩
  let m:Nat->Int:=fun j=>(hch j).choose
  have hm:∀ j,m j≠0:=fun j=>(hch j).choose_spec.1
  let a:Nat->Nat->Int:=fun j=>(hch j).choose_spec.2.choose
  have ha:∀ j,j < s->∀ k,m j*v j k=sumN r (fun i=>a j i*g i k):=fun j=>(hch j).choose_spec.2.choose_spec
  obtain⟨x,⟨j0,hj0,hx⟩,he⟩:=solve r s h (fun i j=>a j i)
  have:=hi (fun j=>x j*m j) (fun k=>by
   rw [sumN_congr s (g:=fun j=>sumN r (fun i=>(a j i*x j)*g i k)) (fun j hj=>by
    rw [Int.mul_assoc,ha j hj k,<- sumN_mul]
    exact sumN_congr r fun i _=>by grind)]
   rw [sumN_comm]
   exact sumN_zero' r fun i hi=>by rw [sumN_mulr,he i hi];simp) j0 hj0
  exact Int.mul_ne_zero hx (hm j0) this
 ·exact h
theorem Ind.mono {r:Nat} {S T:Vec->Prop} (h:Ind r S) (hs:∀ v,S v->T v):Ind r T:=by
 obtain⟨g,h1,h2⟩:=h;exact⟨g,fun j hj=>hs _ (h1 j hj),h2⟩
theorem Gen.mono {r:Nat} {S T:Vec->Prop} (h:Gen r T) (hs:∀ v,S v->T v):Gen r S:=by
 obtain⟨g,h1⟩:=h;exact⟨g,fun v hv=>h1 v (hs v hv)⟩
def Sp (M:LL) (v:Vec):Prop:=∃ a:Nat->Int,∀ k,v k=sumN M.length (fun i=>a i*(M.getD i []).getD k 0)
theorem Sp.row {M:LL} {i:Nat} (h:i < M.length):Sp M (vecL (M.getD i [])):=
 ⟨fun j=>if j=i then 1 else 0,fun k=>by
  rw [sumN_one M.length h (fun j _ hj=>by simp only [];rw [if_neg hj,Int.zero_mul])]
  simp [vecL]⟩
theorem Sp.comb {M:LL} {u v:Vec} (hu:Sp M u) (hv:Sp M v) (x y:Int):Sp M (fun k=>x*u k+y*v k):=by
 obtain⟨a,ha⟩:=hu
 obtain⟨b,hb⟩:=hv
 refine⟨fun i=>x*a i+y*b i,fun k=>?_⟩
 simp only []
 rw [ha k,hb k,<- sumN_mul,<- sumN_mul,<- sumN_add]
 exact sumN_congr _ fun i _=>by grind
theorem Sp.sum {M:LL} {f:Nat->Vec} {x:Nat->Int}:∀ n,(∀ i,i < n->Sp M (f i))->Sp M (fun k=>sumN n (fun i=>x i*f i k))
 | 0,_=>⟨fun _=>0,fun k=>by rw [sumN_zero' _ fun i _=>by rw [Int.zero_mul]];rfl⟩
 | n+1,h=>by
  have:=Sp.comb (Sp.sum (x:=x) n (fun i hi=>h i om)) (h n om) 1 (x n)
  refine(congrArg (Sp M) (funext fun k=>?_)).mp this
  simp only [sumN_succ];omega
def Sub (M N:LL):Prop:=∀ i,i < M.length->∃ m:Int,m≠0/\Sp N (fun k=>m*(M.getD i []).getD k 0)
theorem prodN:∀(n:Nat) (m:Nat->Int),(∀ i,i < n->m i≠0)->∃ P:Int,P≠0/\∀ i,i < n->∃ q,P=q*m i
 | 0,_,_=>⟨1,by decide,fun i hi=>by omega⟩
 | n+1,m,h=>by
  obtain⟨P,h1,h2⟩:=prodN n m (fun i hi=>h i om)
  refine⟨P*m n,Int.mul_ne_zero h1 (h n om),fun i hi=>?_⟩
  by_cases e:i=n
  ·subst e;exact⟨P,rfl⟩
  ·obtain⟨q,hq⟩:=h2 i om
   exact⟨q*m n,by rw [hq];grind⟩
theorem Sub.sp {M N:LL} (h:Sub M N) {v:Vec} (hv:Sp M v):∃ m:Int,m≠0/\Sp N (fun k=>m*v k):=by
 obtain⟨a,ha⟩:=hv
 have hch:∀ i,∃ m:Int,m≠0/\(i < M.length->Sp N (fun k=>m*(M.getD i []).getD k 0)):=fun i=>by
  by_cases hi:i < M.length
  ·obtain⟨m,h1,h2⟩:=h i hi;exact⟨m,h1,fun _=>h2⟩
  ·exact⟨1,by decide,fun h=>absurd h hi⟩
 let m:Nat->Int:=fun i=>(hch i).choose
 have hm:∀ i,m i≠0:=fun i=>(hch i).choose_spec.1
 have hs:∀ i,i < M.length->Sp N (fun k=>m i*(M.getD i []).getD k 0):=fun i=>(hch i).choose_spec.2
 obtain⟨P,hP,hq⟩:=prodN M.length m (fun i _=>hm i)
 have hch2:∀ i,∃ q:Int,i < M.length->P=q*m i:=fun i=>by
  by_cases hi:i < M.length
  ·obtain⟨q,h1⟩:=hq i hi;exact⟨q,fun _=>h1⟩
  ·exact⟨0,fun h=>absurd h hi⟩
 let q:Nat->Int:=fun i=>(hch2 i).choose
 have hqs:∀ i,i < M.length->P=q i*m i:=fun i=>(hch2 i).choose_spec
 refine⟨P,hP,?_⟩
 have:=Sp.sum (M:=N) (f:=fun i k=>m i*(M.getD i []).getD k 0) (x:=fun i=>a i*q i) M.length hs
 refine(congrArg (Sp N) (funext fun k=>?_)).mp this
 rw [ha k,<- sumN_mul]
 exact sumN_congr _ fun i hi=>by rw [hqs i hi];grind
theorem Sub.trans {M N K:LL} (h:Sub M N) (k:Sub N K):Sub M K:=fun i hi=>by
 obtain⟨m,h1,h2⟩:=h i hi
 obtain⟨m',h3,h4⟩:=k.sp h2
 exact⟨m'*m,Int.mul_ne_zero h3 h1,(congrArg (Sp K) (funext fun k=>by grind)).mp h4⟩
theorem Sub.refl (M:LL):Sub M M:=fun i hi=>⟨1,by decide,(congrArg (Sp M) (funext fun k=>by simp [vecL])).mp (Sp.row hi)⟩
theorem Gen.of_sub {M N:LL} (h:Sub M N) {r:Nat} (hG:Gen r (Sp N)):Gen r (Sp M):=by
 obtain⟨g,hg⟩:=hG
 refine⟨g,fun v hv=>?_⟩
 obtain⟨m,h1,h2⟩:=h.sp hv
 obtain⟨m',h3,a,h4⟩:=hg _ h2
 exact⟨m'*m,Int.mul_ne_zero h3 h1,a,fun k=>by rw [<- h4 k];grind⟩
theorem Ind.of_sub {M N:LL} (h:Sub M N) {r:Nat} (hI:Ind r (Sp M)):Ind r (Sp N):=by
 obtain⟨g,hg,hi⟩:=hI
 have hch:∀ j,∃ m:Int,m≠0/\(j < r->Sp N (fun k=>m*g j k)):=fun j=>by
  by_cases hj:j < r
  ·obtain⟨m,h1,h2⟩:=h.sp (hg j hj);exact⟨m,h1,fun _=>h2⟩
  ·exact⟨1,by decide,fun h=>absurd h hj⟩
 let m:Nat->Int:=fun i=>(hch i).choose
 have hm:∀ i,m i≠0:=fun i=>(hch i).choose_spec.1
 refine⟨fun j k=>m j*g j k,fun j hj=>(hch j).choose_spec.2 hj,fun x hx j hj=>?_⟩
 have:=hi (fun j=>x j*m j) (fun k=>by rw [<- hx k];exact sumN_congr _ fun j _=>by grind) j hj
 rcases Int.mul_eq_zero.1 this with h | h
 ·exact h
 ·exact absurd h (hm j)
def Stp (M:LL) (r:Nat):Prop:=∃ p:Nat->Nat,∀ i,i < r->(M.getD i []).getD (p i) 0≠0/\∀ j,i < j->j < M.length->(M.getD j []).getD (p i) 0=0
theorem Stp.ind {M:LL} {r:Nat} (h:Stp M r) (hr:r<=M.length):Ind r (Sp M):=by
 obtain⟨p,hp⟩:=h
 refine⟨fun j=>vecL (M.getD j []),fun j hj=>Sp.row om,fun x hx j hj=>?_⟩
 induction j using Nat.strongRecOn with
 | ind j ih=>
  have h1:=hx (p j)
  rw [sumN_one r hj (fun i hi hij=>by
   show x i*vecL (M.getD i []) (p j)=0
   rcases Nat.lt_or_ge i j with h2 | h2
   ·rw [ih i h2 hi,Int.zero_mul]
   ·rw [show vecL (M.getD i []) (p j)=0 from(hp j hj).2 i om om,Int.mul_zero])]at h1
  rcases Int.mul_eq_zero.1 h1 with h3 | h3
  ·exact h3
  ·exact absurd h3 (hp j hj).1
theorem gen_top {M:LL} {r:Nat} (h:∀ i,r<=i->i < M.length->∀ k,(M.getD i []).getD k 0=0) (hr:r<=M.length):Gen r (Sp M):=by
 refine⟨fun i=>vecL (M.getD i []),fun v ⟨a,ha⟩=>⟨1,by decide,a,fun k=>?_⟩⟩
 rw [Int.one_mul,ha k]
 have key:∀ d,r+d<=M.length->sumN (r+d) (fun i=>a i*(M.getD i []).getD k 0)=sumN r (fun i=>a i*(M.getD i []).getD k 0):=by
  intro d
  induction d with
  | zero=>intro _;rfl
  | succ d ih=>intro hd;rw [<- Nat.add_assoc,sumN_succ,ih om,h (r+d) om om k];omega
 have:=key (M.length - r) om
 rw [show r+(M.length - r)=M.length by omega]at this
 exact this
def Wid (n:Nat) (M:LL):Prop:=∀ i,i < M.length->(M.getD i []).length=n
theorem getD_set (M:LL) (k j:Nat) (x:LI) (hk:k < M.length):(M.set k x).getD j []=if j=k then x else M.getD j []:=set_get M k j x hk
theorem sub_eq {M N:LL} (h:∀ i,i < M.length->∃ j,j < N.length/\N.getD j []=M.getD i []):Sub M N:=fun i hi=>by
 obtain⟨j,h1,h2⟩:=h i hi
 refine⟨1,by decide,?_⟩
 have:=Sp.row h1
 rw [h2]at this
 exact(congrArg (Sp N) (funext fun k=>by simp [vecL])).mp this
theorem swp_sub {M:LL} {r a:Nat} (hr:r < M.length) (ha:a < M.length):Sub M (swp M r a)/\Sub (swp M r a) M:=by
 refine⟨sub_eq fun i hi=>?_,sub_eq fun i hi=>?_⟩
 ·by_cases h1:i=a
  ·refine⟨r,by rw [swp_len];exact hr,?_⟩
   rw [swp_get M hr ha]
   by_cases h2:r=a
   ·rw [if_pos h2,h1,<- h2]
   ·rw [if_neg h2,if_pos rfl,h1]
  ·by_cases h2:i=r
   ·exact⟨a,by rw [swp_len];exact ha,by rw [swp_get M hr ha,if_pos rfl,h2]⟩
   ·exact⟨i,by rw [swp_len];exact hi,by rw [swp_get M hr ha,if_neg h1,if_neg h2]⟩
 ·rw [swp_len]at hi
  rw [swp_get M hr ha]
  by_cases h1:i=a
  ·exact⟨r,hr,by rw [if_pos h1]⟩
  ·by_cases h2:i=r
   ·exact⟨a,ha,by rw [if_neg h1,if_pos h2]⟩
   ·exact⟨i,hi,by rw [if_neg h1,if_neg h2]⟩
theorem row_sub {n:Nat} {M:LL} (hW:Wid n M) {r c k:Nat} (hr:r < k) (hk:k < M.length) (hp:(M.getD r []).getD c 0≠0) :
  Sub M (M.set k (rowI M r c k))/\Sub (M.set k (rowI M r c k)) M/\Wid n (M.set k (rowI M r c k))/\((M.set k (rowI M r c k)).getD k []).getD c 0=0:=by
 unfold rowI
 by_cases h0:(M.getD k []).getD c 0=0
 ·rw [if_pos h0]
  have e:M.set k (M.getD k [])=M:=by
   apply List.ext_getElem (by simp)
   intro i h1 h2
   rw [List.getElem_set]
   split
   ·rename_i h;subst h;simp [List.getD,hk]
   ·rfl
  rw [e]
  exact⟨Sub.refl M,Sub.refl M,hW,h0⟩
 ·rw [if_neg h0]
  have hg:∀ j,(rowS M r c k).getD j 0=(M.getD r []).getD c 0*(M.getD k []).getD j 0 - (M.getD k []).getD c 0*(M.getD r []).getD j 0:=by
   intro j
   have l1:=hW r om
   have l2:=hW k hk
   by_cases hj:j < n
   ·exact lin_get _ _ _ _ om om
   ·have e1:(rowS M r c k).getD j 0=0:=getD_out (by unfold rowS;rw [lin_len];omega)
    have e2:(M.getD k []).getD j 0=0:=getD_out om
    have e3:(M.getD r []).getD j 0=0:=getD_out om
    rw [e1,e2,e3];omega
  refine⟨fun i hi=>?_,fun i hi=>?_,fun i hi=>?_,?_⟩
  ·by_cases e:i=k
   ·subst e
    refine⟨_,hp,?_⟩
    have h1:Sp (M.set i (rowS M r c i)) (vecL ((M.set i (rowS M r c i)).getD i [])):=Sp.row (by simpa using hi)
    have h2:Sp (M.set i (rowS M r c i)) (vecL ((M.set i (rowS M r c i)).getD r [])):=Sp.row (by simp;omega)
    rw [getD_set _ _ _ _ hi,if_pos rfl]at h1
    rw [getD_set _ _ _ _ hi,if_neg om]at h2
    refine(congrArg (Sp _) (funext fun j=>?_)).mp (h1.comb h2 1 ((M.getD i []).getD c 0))
    simp only [vecL]
    rw [hg j];grind
   ·refine⟨1,by decide,?_⟩
    have h1:Sp (M.set k (rowS M r c k)) (vecL ((M.set k (rowS M r c k)).getD i [])):=Sp.row (by simpa using hi)
    rw [getD_set _ _ _ _ hk,if_neg e]at h1
    exact(congrArg (Sp _) (funext fun j=>by simp [vecL])).mp h1
  ·have hi:i < M.length:=by simpa using hi
   rw [getD_set _ _ _ _ hk]
   refine⟨1,by decide,?_⟩
   by_cases e:i=k
   ·rw [if_pos e]
    refine(congrArg (Sp M) (funext fun j=>?_)).mp ((Sp.row hk).comb (Sp.row (show r < M.length by omega)) ((M.getD r []).getD c 0) (-((M.getD k []).getD c 0)))
    simp only [vecL]
    rw [hg j];grind
   ·rw [if_neg e]
    exact(congrArg (Sp M) (funext fun j=>by simp [vecL])).mp (Sp.row hi)
  ·have hi:i < M.length:=by simpa using hi
   rw [getD_set _ _ _ _ hk]
   by_cases e:i=k
   ·rw [if_pos e]
    unfold rowS
    rw [lin_len,hW k hk,hW r om];omega
   ·rw [if_neg e];exact hW i hi
  ·rw [getD_set _ _ _ _ hk,if_pos rfl,hg c]
   grind
theorem elim_sub {n r c:Nat}:∀(f k:Nat) {M:LL},Wid n M->r < k->k+f<=M.length->(M.getD r []).getD c 0≠0 ->
  Sub M (elim (fun N k=>rowI N r c k) f k M)/\Sub (elim (fun N k=>rowI N r c k) f k M) M/\Wid n (elim (fun N k=>rowI N r c k) f k M) /\
   (∀ i,i < k->(elim (fun N k=>rowI N r c k) f k M).getD i []=M.getD i [])/\(∀ i,k<=i->i < k+f->((elim (fun N k=>rowI N r c k) f k M).getD i []).getD c 0=0) /\
   ∀ q,(M.getD r []).getD q 0=0->(∀ i,k<=i->i < k+f->(M.getD i []).getD q 0=0)->∀ i,k<=i->i < k+f->((elim (fun N k=>rowI N r c k) f k M).getD i []).getD q 0=0
 | 0,k,M,hW,_,_,_=>⟨Sub.refl M,Sub.refl M,hW,fun _ _=>rfl,fun i h1 h2=>by omega,fun q _ _ i h1 h2=>by omega⟩
 | f+1,k,M,hW,hr,hk,hp=>by
  simp only [elim]
  obtain⟨a1,a2,a3,a4⟩:=row_sub hW hr (show k < M.length by omega) hp
  have hkl:k < M.length:=by omega
  have hge:∀ j,j≠k->(M.set k (rowI M r c k)).getD j []=M.getD j []:=fun j hj=>by rw [getD_set _ _ _ _ hkl,if_neg hj]
  have hrk:r≠k:=by omega
  have hpr:((M.set k (rowI M r c k)).getD r []).getD c 0≠0:=by rw [hge r hrk];exact hp
  obtain⟨b1,b2,b3,b4,b5,b6⟩:=elim_sub (n:=n) (r:=r) (c:=c) f (k+1) a3 om (by rw [List.length_set];omega) hpr
  refine⟨a1.trans b1,b2.trans a2,b3,fun i hi=>by rw [b4 i om,hge i om],fun i h1 h2=>?_,fun q hq hz i h1 h2=>?_⟩
  ·by_cases e:i=k
   ·rw [e,b4 k om];exact a4
   ·exact b5 i om om
  ·by_cases e:i=k
   ·rw [e,b4 k om,getD_set _ _ _ _ hkl,if_pos rfl]
    have hz0:=hz k om om
    unfold rowI
    split
    ·exact hz0
    ·have l1:=hW r om
     have l2:=hW k hkl
     by_cases hqn:q < n
     ·rw [show(rowS M r c k).getD q 0=_ from lin_get _ _ _ _ om om,hq,hz0];simp
     ·rw [getD_out (by unfold rowS;rw [lin_len];omega)]
   ·refine b6 q (by rw [hge r hrk];exact hq) (fun j h3 h4=>by rw [hge j om];exact hz j om om) i om om
theorem pvt_zero (M:LL) (c:Nat):∀ f k,pvt M c f k=k+f->∀ i,k<=i->i < k+f->(M.getD i []).getD c 0=0
 | 0,k,_,i,h1,h2=>by omega
 | f+1,k,h,i,h1,h2=>by
  unfold pvt at h
  split at h
  ·rename_i h0
   by_cases e:i=k
   ·rw [e];exact h0
   ·exact pvt_zero M c f (k+1) om i om om
  ·omega
theorem rk_spec {n:Nat}:∀(f:Nat) {M:LL} {r c:Nat},Wid n M->r<=M.length->c+f=n->Stp M r->(∀ i,r<=i->i < M.length->∀ q,q < c->(M.getD i []).getD q 0=0) ->
  Gen (rkG rowI f M r c) (Sp M)/\Ind (rkG rowI f M r c) (Sp M)
 | 0,M,r,c,hW,hr,hc,hS,hz=>by
  refine⟨gen_top (fun i h1 h2 k=>?_) hr,hS.ind hr⟩
  by_cases hk:k < c
  ·exact hz i h1 h2 k hk
  ·exact getD_out (by rw [hW i h2];omega)
 | f+1,M,r,c,hW,hr,hc,hS,hz=>by
  simp only [rkG]
  have hg:=pvt_ge M c (M.length - r) r
  by_cases h0:pvt M c (M.length - r) r=M.length
  ·rw [if_pos h0]
   refine rk_spec f hW hr om hS (fun i h1 h2 q hq=>?_)
   by_cases e:q=c
   ·rw [e];exact pvt_zero M c (M.length - r) r om i h1 om
   ·exact hz i h1 h2 q om
  ·rw [if_neg h0]
   have hlt:pvt M c (M.length - r) r < M.length:=by omega
   have hrl:r < M.length:=by omega
   have hne:=pvt_ne M c (M.length - r) r om
   generalize pvt M c (M.length - r) r=a at hg h0 hlt hne ⊢
   obtain⟨s1,s2⟩:=swp_sub hrl hlt
   have hsg:=swp_get M hrl hlt
   have hsl:=swp_len M r a
   have hsr:(swp M r a).getD r []=M.getD a []:=by
    rw [hsg]
    by_cases e:r=a
    ·rw [if_pos e,e]
    ·rw [if_neg e,if_pos rfl]
   have hsW:Wid n (swp M r a):=fun i hi=>by
    rw [hsl]at hi
    rw [hsg]
    split
    ·exact hW r hrl
    ·split
     ·exact hW a hlt
     ·exact hW i hi
   have hpv:((swp M r a).getD r []).getD c 0≠0:=by rw [hsr];exact hne
   obtain⟨e1,e2,e3,e4,e5,e6⟩:=elim_sub (n:=n) (r:=r) (c:=c) (M.length - (r+1)) (r+1) hsW om (by rw [hsl];omega) hpv
   have hel:(elim (fun N k=>rowI N r c k) (M.length - (r+1)) (r+1) (swp M r a)).length=M.length:=by rw [elim_len,hsl]
   generalize elim (fun N k=>rowI N r c k) (M.length - (r+1)) (r+1) (swp M r a)=E at e1 e2 e3 e4 e5 e6 hel ⊢
   have hzE:∀ q,(∀ i,r<=i->i < M.length->(M.getD i []).getD q 0=0)->∀ j,r<=j->j < M.length->(E.getD j []).getD q 0=0:=fun q hq j h1 h2=>by
    have hsq:∀ i,r<=i->i < M.length->((swp M r a).getD i []).getD q 0=0:=fun i h3 h4=>by
     rw [hsg]
     split
     ·exact hq r om hrl
     ·split
      ·exact hq a om hlt
      ·exact hq i h3 h4
    by_cases e:j=r
    ·rw [e,e4 r om];exact hsq r om hrl
    ·exact e6 q (hsq r om hrl) (fun i h3 h4=>hsq i om om) j om om
   have hup:∀ i,i < r->E.getD i []=M.getD i []:=fun i hi=>by rw [e4 i om,hsg,if_neg om,if_neg om]
   obtain⟨p,hp⟩:=hS
   have hS2:Stp E (r+1):=by
    refine⟨fun i=>if i=r then c else p i,fun i hi=>?_⟩
    by_cases e:i=r
    ·subst e
     simp only [if_true]
     refine⟨by rw [e4 i om];exact hpv,fun j h1 h2=>?_⟩
     rw [hel]at h2
     exact e5 j om om
    ·simp only [if_neg e]
     refine⟨by rw [hup i om];exact(hp i om).1,fun j h1 h2=>?_⟩
     rw [hel]at h2
     by_cases hj:j < r
     ·rw [hup j hj];exact(hp i om).2 j h1 h2
     ·exact hzE (p i) (fun i' h3 h4=>(hp i om).2 i' om h4) j om h2
   have hz2:∀ i,r+1<=i->i < E.length->∀ q,q < c+1->(E.getD i []).getD q 0=0:=fun i h1 h2 q hq=>by
    rw [hel]at h2
    by_cases e:q=c
    ·rw [e];exact e5 i h1 om
    ·exact hzE q (fun i' h3 h4=>hz i' h3 h4 q om) i om h2
   obtain⟨g1,g2⟩:=rk_spec f e3 (by rw [hel];omega) om hS2 hz2
   exact⟨Gen.of_sub (s1.trans e1) g1,Ind.of_sub (e2.trans s2) g2⟩
theorem rk_gen {n:Nat} {M:LL} (hW:Wid n M):Gen (rkG rowI n M 0 0) (Sp M)/\Ind (rkG rowI n M 0 0) (Sp M):=
 rk_spec n hW (nz0 _) om ⟨fun _=>0,fun i hi=>by omega⟩ (fun i _ _ q hq=>by omega)
def cI (rows:List (List Nat)):List (List Int):=rows.zipIdx.map fun r=>r.1.zipIdx.map fun x=>if x.2=r.2 then 2 else -(x.1:Int)
def finCR:Nat->List (List (List Nat)×List (List Nat))
 | 1=>[([[0]],[[0]])]
 | 2=>prN.map fun p=>([[0,p.2],[p.1,0]],[[0,p.1],[p.2,0]])
 | 3=>prN.flatMap fun p=>prN.flatMap fun q=>(prN.filter fun r=>d3 p q r).map fun r=>(col3 p q r,row3 p q r)
 | 4=>prN.flatMap fun p=>prN.flatMap fun q=>(prN.filter fun r=>d3 p q r).flatMap fun r=>prN.flatMap fun s=>(prN.filter fun t=>d3 p s t).flatMap fun t=>(prN.filter fun u=>d3 q s u && d3 r t u && d4 p q r s t u).map fun u=>(col4 p q r s t u,row4 p q r s t u)
 | _=>[]
def finM (n:Nat):List (List (List Int)):=(finCR n).map fun x=>cI x.2
theorem fits_eq {c:LL} (hc:CartanP c) {cols rows:List (List Nat)} (h:Fits c cols rows):c=cI rows:=by
 have hA:=matA_cartan hc
 have hrow:=hc.2.2.1
 apply List.ext_getElem (by simp [cI,h.rl])
 intro i h1 h2
 have hr:=(h.cr i h1).2.1
 have hrl:i < rows.length:=by rw [h.rl];exact h1
 have hr':rows[i].length=c.length:=by rw [<- hr,gdE,geE hrl];rfl
 have hci:c[i].length=c.length:=by have:=hrow i h1;rwa [gdE,geE h1]at this
 apply List.ext_getElem (by simp [cI,hr',hci])
 intro k k1 k2
 have hk:k < c.length:=by omega
 have e1:c[i][k]=ent c i k:=by simp [ent,gdE,h1,k1]
 rw [e1]
 have e2:(cI rows)[i][k]=if k=i then 2 else -((rows[i]'hrl)[k]'om:Int):=by simp [cI]
 rw [e2]
 by_cases hki:k=i
 ·subst hki;rw [if_pos rfl];exact hA.diag k hk
 ·rw [if_neg hki,(h.ce i k h1 hk hki).2]
  simp [gdE,hrl,show k < rows[i].length by omega]
theorem fin_rows {c:LL} (hF:FinP c):∃ cols rows,Fits c cols rows/\(cols,rows)∈finCR c.length:=by
 obtain⟨hc,hm⟩:=hF
 have hA:=matA_cartan hc
 have dg:∀ i,i < c.length->ent c i i=2:=fun i hi=>hA.diag i hi
 have hn1:=hc.1
 have hn4:=hc.2.1
 have h1:c.length=1\/c.length=2\/c.length=3\/c.length=4:=by omega
 rcases h1 with hn | hn | hn | hn
 ·refine⟨[[0]],[[0]],⟨by rw [hn];rfl,by rw [hn];rfl,fun i hi=>?_,fun i k hi hk hki=>by omega⟩,by rw [hn];exact mcS ..⟩
  have:i=0:=by omega
  subst this
  rw [hn];exact⟨rfl,rfl,rfl⟩
 ·obtain⟨p,hp,p1,p2⟩:=pair_of hc (i:=0) (j:=1) om om (by decide) (by have:=hm 3 om (by rw [hn];decide);rw [show mn c 3=detN 2 (pick c [0,1])from rfl,mn2]at this;exact this)
  refine⟨[[0,p.2],[p.1,0]],[[0,p.1],[p.2,0]],⟨by rw [hn];rfl,by rw [hn];rfl,fun i hi=>?_,fun i k hi hk hki=>?_⟩,by rw [hn];exact List.mem_map.2 ⟨p,hp,rfl⟩⟩
  ·rw [hn]at hi ⊢
   rcases(show i=0\/i=1 by omega)with rfl | rfl<;>exact⟨rfl,rfl,rfl⟩
  ·rw [hn]at hi hk
   rcases(show i=0\/i=1 by omega)with rfl | rfl<;>rcases(show k=0\/k=1 by omega)with rfl | rfl<;>first | (exact absurd rfl hki) | exact⟨p2,p1⟩ | exact⟨p1,p2⟩
 ·obtain⟨p,hp,p1,p2⟩:=pair_of hc (i:=0) (j:=1) om om (by decide) (by have:=hm 3 om (by rw [hn];decide);rw [show mn c 3=detN 2 (pick c [0,1])from rfl,mn2]at this;exact this)
  obtain⟨q,hq,q1,q2⟩:=pair_of hc (i:=0) (j:=2) om om (by decide) (by have:=hm 5 om (by rw [hn];decide);rw [show mn c 5=detN 2 (pick c [0,2])from rfl,mn2]at this;exact this)
  obtain⟨r,hr,r1,r2⟩:=pair_of hc (i:=1) (j:=2) om om (by decide) (by have:=hm 6 om (by rw [hn];decide);rw [show mn c 6=detN 2 (pick c [1,2])from rfl,mn2]at this;exact this)
  have hd:d3 p q r=true:=d3_of (a:=ent c) (dg 0 om) (dg 1 om) (dg 2 om) p1 p2 q1 q2 r1 r2 (by have:=hm 7 om (by rw [hn];decide);rw [show mn c 7=detN 3 (pick c [0,1,2])from rfl,mn3]at this;exact this)
  refine⟨col3 p q r,row3 p q r,⟨by rw [hn];rfl,by rw [hn];rfl,fun i hi=>?_,fun i k hi hk hki=>?_⟩,?_⟩
  ·rw [hn]at hi ⊢
   rcases(show i=0\/i=1\/i=2 by omega)with rfl | rfl | rfl<;>exact⟨rfl,rfl,rfl⟩
  ·rw [hn]at hi hk
   rcases(show i=0\/i=1\/i=2 by omega)with rfl | rfl | rfl<;>rcases(show k=0\/k=1\/k=2 by omega)with rfl | rfl | rfl <;>
    first | (exact absurd rfl hki) | exact⟨p2,p1⟩ | exact⟨p1,p2⟩ | exact⟨q2,q1⟩ | exact⟨q1,q2⟩ | exact⟨r2,r1⟩ | exact⟨r1,r2⟩
  ·rw [hn]
   exact List.mem_flatMap.2 ⟨p,hp,List.mem_flatMap.2 ⟨q,hq,List.mem_map.2 ⟨r,List.mem_filter.2 ⟨hr,hd⟩,rfl⟩⟩⟩
 ·obtain⟨p,hp,p1,p2⟩:=pair_of hc (i:=0) (j:=1) om om (by decide) (by have:=hm 3 om (by rw [hn];decide);rw [show mn c 3=detN 2 (pick c [0,1])from rfl,mn2]at this;exact this)
  obtain⟨q,hq,q1,q2⟩:=pair_of hc (i:=0) (j:=2) om om (by decide) (by have:=hm 5 om (by rw [hn];decide);rw [show mn c 5=detN 2 (pick c [0,2])from rfl,mn2]at this;exact this)
  obtain⟨r,hr,r1,r2⟩:=pair_of hc (i:=1) (j:=2) om om (by decide) (by have:=hm 6 om (by rw [hn];decide);rw [show mn c 6=detN 2 (pick c [1,2])from rfl,mn2]at this;exact this)
  obtain⟨s,hs,s1,s2⟩:=pair_of hc (i:=0) (j:=3) om om (by decide) (by have:=hm 9 om (by rw [hn];decide);rw [show mn c 9=detN 2 (pick c [0,3])from rfl,mn2]at this;exact this)
  obtain⟨t,ht,t1,t2⟩:=pair_of hc (i:=1) (j:=3) om om (by decide) (by have:=hm 10 om (by rw [hn];decide);rw [show mn c 10=detN 2 (pick c [1,3])from rfl,mn2]at this;exact this)
  obtain⟨u,hu,u1,u2⟩:=pair_of hc (i:=2) (j:=3) om om (by decide) (by have:=hm 12 om (by rw [hn];decide);rw [show mn c 12=detN 2 (pick c [2,3])from rfl,mn2]at this;exact this)
  have g0:=dg 0 om
  have g1:=dg 1 om
  have g2:=dg 2 om
  have g3:=dg 3 om
  have ha:d3 p q r=true:=d3_of (a:=ent c) g0 g1 g2 p1 p2 q1 q2 r1 r2 (by have:=hm 7 om (by rw [hn];decide);rw [show mn c 7=detN 3 (pick c [0,1,2])from rfl,mn3]at this;exact this)
  have hb:d3 p s t=true:=d3_of (a:=ent c) g0 g1 g3 p1 p2 s1 s2 t1 t2 (by have:=hm 11 om (by rw [hn];decide);rw [show mn c 11=detN 3 (pick c [0,1,3])from rfl,mn3]at this;exact this)
  have hcc:d3 q s u=true:=d3_of (a:=ent c) g0 g2 g3 q1 q2 s1 s2 u1 u2 (by have:=hm 13 om (by rw [hn];decide);rw [show mn c 13=detN 3 (pick c [0,2,3])from rfl,mn3]at this;exact this)
  have hd:d3 r t u=true:=d3_of (a:=ent c) g1 g2 g3 r1 r2 t1 t2 u1 u2 (by have:=hm 14 om (by rw [hn];decide);rw [show mn c 14=detN 3 (pick c [1,2,3])from rfl,mn3]at this;exact this)
  have he:d4 p q r s t u=true:=by
   have:=hm 15 om (by rw [hn];decide)
   rw [show mn c 15=detN 4 (pick c [0,1,2,3])from rfl,mn4]at this
   unfold e3 at this
   rw [g0,g1,g2,g3,p1,p2,q1,q2,r1,r2,s1,s2,t1,t2,u1,u2]at this
   apply Nat.ble_eq_true_of_le
   refine Int.ofNat_le.1 ?_
   push_cast
   grind
  refine⟨col4 p q r s t u,row4 p q r s t u,⟨by rw [hn];rfl,by rw [hn];rfl,fun i hi=>?_,fun i k hi hk hki=>?_⟩,?_⟩
  ·rw [hn]at hi ⊢
   rcases(show i=0\/i=1\/i=2\/i=3 by omega)with rfl | rfl | rfl | rfl<;>exact⟨rfl,rfl,rfl⟩
  ·rw [hn]at hi hk
   rcases(show i=0\/i=1\/i=2\/i=3 by omega)with rfl | rfl | rfl | rfl<;>rcases(show k=0\/k=1\/k=2\/k=3 by omega)with rfl | rfl | rfl | rfl <;>
    first | (exact absurd rfl hki) | exact⟨p2,p1⟩ | exact⟨p1,p2⟩ | exact⟨q2,q1⟩ | exact⟨q1,q2⟩ | exact⟨r2,r1⟩ | exact⟨r1,r2⟩ | exact⟨s2,s1⟩ | exact⟨s1,s2⟩ | exact⟨t2,t1⟩ | exact⟨t1,t2⟩ | exact⟨u2,u1⟩ | exact⟨u1,u2⟩
  ·rw [hn]
   exact List.mem_flatMap.2 ⟨p,hp,List.mem_flatMap.2 ⟨q,hq,List.mem_flatMap.2 ⟨r,List.mem_filter.2 ⟨hr,ha⟩,List.mem_flatMap.2 ⟨s,hs,List.mem_flatMap.2 ⟨t,List.mem_filter.2 ⟨ht,hb⟩,List.mem_map.2 ⟨u,List.mem_filter.2 ⟨hu,by rw [hcc,hd,he];rfl⟩,rfl⟩⟩⟩⟩⟩⟩
theorem fin_mem {c:LL} (hF:FinP c):c∈finM c.length:=by
 obtain⟨cols,rows,h1,h2⟩:=fin_rows hF
 exact List.mem_map.2 ⟨(cols,rows),h2,(fits_eq hF.1 h1).symm⟩
theorem fin_chk {c:LL} (hF:FinP c) {chk:List (List Int)->Bool} (h1:(finM 1).all chk=true) (h2:(finM 2).all chk=true) (h3:(finM 3).all chk=true) (h4:(finM 4).all chk=true):chk c=true:=by
 have hm:=fin_mem hF
 have hn1:=hF.1.1
 have hn4:=hF.1.2.1
 rcases(show c.length=1\/c.length=2\/c.length=3\/c.length=4 by omega)with hn | hn | hn | hn<;>rw [hn]at hm
 ·exact alT.1 h1 c hm
 ·exact alT.1 h2 c hm
 ·exact alT.1 h3 c hm
 ·exact alT.1 h4 c hm
def addN (a:LL) (v:LI):List (List Int):=if v∈a then a else a ++ [v]
def nxI (c:LL) (x:LI) (a:LL) (i:Nat):List (List Int):=if x.getD i 0 < 0 then a else addN a (reflL c i x)
def nxX (c:LL) (a:LL) (x:LI):List (List Int):=(List.range c.length).foldl (nxI c x) a
def nxS (c:LL) (sh:LL):List (List Int):=sh.foldl (nxX c) []
def shl (c:LL):Nat->List (List Int)
 | 0=>[ones c.length]
 | L+1=>nxS c (shl c L)
theorem addN_mem (a:LL) (v z:LI):z∈addN a v↔z∈a\/z=v:=by
 unfold addN
 by_cases h:v∈a
 ·rw [if_pos h]
  constructor
  ·exact .inl
  ·rintro(h1 | rfl)<;>assumption
 ·rw [if_neg h];simp
theorem addN_nodup {a:LL} (h:a.Nodup) (v:LI):(addN a v).Nodup:=by
 unfold addN
 by_cases hv:v∈a
 ·rw [if_pos hv];exact h
 ·rw [if_neg hv,List.nodup_append]
  exact⟨h,by simp,fun x hx y hy e=>hv (by simp at hy;rw [<- hy,<- e];exact hx)⟩
theorem nxI_mem (c:LL) (x:LI) (a:LL) (i:Nat) (z:LI):z∈nxI c x a i↔z∈a\/(0<=x.getD i 0/\z=reflL c i x):=by
 unfold nxI
 by_cases h:x.getD i 0 < 0
 ·rw [if_pos h]
  constructor
  ·exact .inl
  ·rintro(h1 | ⟨h1,_⟩)
   ·exact h1
   ·omega
 ·rw [if_neg h,addN_mem]
  constructor
  ·rintro(h1 | h1)
   ·exact .inl h1
   ·exact .inr ⟨by omega,h1⟩
  ·rintro(h1 | ⟨_,h1⟩)
   ·exact .inl h1
   ·exact .inr h1
theorem nxI_fold (c:LL) (x:LI):∀(l:List Nat) (a:LL),(∀ z,z∈l.foldl (nxI c x) a↔z∈a\/∃ i∈l,0<=x.getD i 0/\z=reflL c i x)/\(a.Nodup->(l.foldl (nxI c x) a).Nodup)
 | [],a=>⟨fun z=>by simp,id⟩
 | i :: l,a=>by
  obtain⟨h1,h2⟩:=nxI_fold c x l (nxI c x a i)
  refine⟨fun z=>?_,fun hn=>h2 ?_⟩
  ·rw [List.foldl_cons,h1,nxI_mem]
   constructor
   ·rintro((h | h) | ⟨j,hj,h⟩)
    ·exact .inl h
    ·exact .inr ⟨i,mcS ..,h⟩
    ·exact .inr ⟨j,mcM _ hj,h⟩
   ·rintro(h | ⟨j,hj,h⟩)
    ·exact .inl (.inl h)
    ·rcases List.mem_cons.1 hj with rfl | hj
     ·exact .inl (.inr h)
     ·exact .inr ⟨j,hj,h⟩
  ·unfold nxI
   split
   ·exact hn
   ·exact addN_nodup hn _
theorem nxX_fold (c:LL):∀(sh a:LL),(∀ z,z∈sh.foldl (nxX c) a↔z∈a\/∃ x∈sh,∃ i,i < c.length/\0<=x.getD i 0/\z=reflL c i x)/\(a.Nodup->(sh.foldl (nxX c) a).Nodup)
 | [],a=>⟨fun z=>by simp,id⟩
 | x :: sh,a=>by
  obtain⟨h1,h2⟩:=nxX_fold c sh (nxX c a x)
  obtain⟨k1,k2⟩:=nxI_fold c x (List.range c.length) a
  refine⟨fun z=>?_,fun hn=>h2 (k2 hn)⟩
  rw [List.foldl_cons,h1,show z∈nxX c a x↔_ from k1 z]
  constructor
  ·rintro((h | ⟨i,hi,h⟩) | ⟨y,hy,h⟩)
   ·exact .inl h
   ·exact .inr ⟨x,mcS ..,i,List.mem_range.1 hi,h⟩
   ·exact .inr ⟨y,mcM _ hy,h⟩
  ·rintro(h | ⟨y,hy,i,hi,h⟩)
   ·exact .inl (.inl h)
   ·rcases List.mem_cons.1 hy with rfl | hy
    ·exact .inl (.inr ⟨i,List.mem_range.2 hi,h⟩)
    ·exact .inr ⟨y,hy,i,hi,h⟩
theorem far_step {c:LL} (hc:CartanP c) {L:Nat} {v:LI}:Far c (L+1) v↔∃ x,Far c L x/\∃ i,i < c.length/\0<=x.getD i 0/\v=reflL c i x:=by
 constructor
 ·intro h
  rcases fst_of_far hc h with⟨_,h2⟩ | ⟨h1,h2,h3,M,h4,h5⟩
  ·omega
  ·have:M=L:=by omega
   subst this
   have hk:(((fstN v).toNat:Nat):Int)=fstN v:=by omega
   refine⟨_,h5,(fstN v).toNat,by omega,?_,?_⟩
   ·rw [reflL_get c (fstN v) v (fstN v).toNat (by rw [h.1];omega),show ent c (fstN v).toNat (fstN v).toNat=2 from(matA_cartan hc).diag _ om]
    omega
   ·rw [hk,refl2 hc ⟨h1,h2⟩ h.1]
 ·rintro⟨x,hx,i,hi,h0,rfl⟩
  have:=hx.nz hc i hi
  exact hx.up hc ⟨by omega,by omega⟩ (by rw [Int.toNat_natCast];omega)
theorem shl_spec {c:LL} (hc:CartanP c):∀ L,(shl c L).Nodup/\∀ v,v∈shl c L↔Far c L v
 | 0=>⟨by simp [shl],fun v=>by
   simp only [shl,List.mem_singleton]
   exact⟨fun h=>h▸Far.ones c,fun h=>h.zero⟩⟩
 | L+1=>by
  obtain⟨h1,h2⟩:=shl_spec hc L
  obtain⟨k1,k2⟩:=nxX_fold c (shl c L) []
  refine⟨k2 List.nodup_nil,fun v=>?_⟩
  rw [show v∈shl c (L+1)↔_ from k1 v,far_step hc]
  constructor
  ·rintro(h | ⟨x,hx,h⟩)
   ·simp at h
   ·exact⟨x,(h2 x).1 hx,h⟩
  ·rintro⟨x,hx,h⟩
   exact .inr ⟨x,(h2 x).2 hx,h⟩
def wds (c:LL) (L:Nat):List (List Int):=(shl c L).map (nfL c 31)
def outS (c:LL):Nat->List (List Int)
 | 0=>[[]]
 | L+1=>outS c L ++ srt (wds c (L+1))
def allL (c:LL):List (List Int):=outS c 25
theorem wds_mem {c:LL} (hc:CartanP c) {L:Nat} (hL:L<=30) (w:LI):w∈wds c L↔Nf c w/\w.length=L:=by
 unfold wds
 rw [List.mem_map]
 constructor
 ·rintro⟨v,hv,rfl⟩
  have hf:=((shl_spec hc L).2 v).1 hv
  obtain⟨n1,n2,n3⟩:=nfL_far hc 31 L hf om
  exact⟨⟨n2,by unfold redL;rw [n3],by omega⟩,n1⟩
 ·rintro⟨hn,rfl⟩
  exact⟨imageL c w,((shl_spec hc _).2 _).2 (hn.far hc),hn.2.1⟩
theorem outS_mem {c:LL} (hc:CartanP c):∀ {L:Nat},L<=30->∀ w,w∈outS c L↔Nf c w/\w.length<=L
 | 0,_,w=>by
  simp only [outS,List.mem_singleton]
  constructor
  ·rintro rfl
   refine⟨⟨letters_nil _,?_,by simp⟩,by simp⟩
   have:=red_Red hc (letters_nil _) (w:=[]) (by simp)
   have h:=(red_far hc (Far.ones c) om (w:=[]))
   exact nilZ h.1
  ·rintro⟨_,h⟩
   exact nilZ om
 | L+1,hL,w=>by
  simp only [outS,List.mem_append,(srt_spec _).2,outS_mem hc (show L<=30 by omega) w,wds_mem hc hL w]
  constructor
  ·rintro(⟨h1,h2⟩ | ⟨h1,h2⟩)<;>exact⟨h1,by omega⟩
  ·rintro⟨h1,h2⟩
   rcases Nat.lt_or_ge w.length (L+1)with h | h
   ·exact .inl ⟨h1,by omega⟩
   ·exact .inr ⟨h1,by omega⟩
theorem cmpW_short {p q:LI} (h:p.length < q.length):cmpW p q < 0:=by unfold cmpW;rw [if_pos h];decide
theorem outS_strict {c:LL} (hc:CartanP c):∀ {L:Nat},L<=30->StrictW (outS c L)
 | 0,_=>by unfold StrictW outS;simp
 | L+1,hL=>by
  refine List.pairwise_append.2 ⟨outS_strict hc om,(srt_spec _).1,fun a ha b hb=>?_⟩
  have h1:=(outS_mem hc om a).1 ha
  have h2:=(wds_mem hc hL b).1 (((srt_spec _).2 b).1 hb)
  exact cmpW_short om
theorem allL_spec {c:LL} (hF:FinP c):StrictW (allL c)/\∀ w,w∈allL c↔Nf c w:=by
 refine⟨outS_strict hF.1 om,fun w=>?_⟩
 rw [show w∈allL c↔_ from outS_mem hF.1 om w]
 refine⟨fun h=>h.1,fun h=>⟨h,?_⟩⟩
 have:=fin_len hF _ (h.far hF.1)
 omega
def mirF (A:Mat) (n i:Nat) (r:Vec):Vec:=fun k=>if k=i then r i - sumN n (fun j=>A i j*r j)else r k
def actF (A:Mat) (n:Nat) (w:List Nat) (r:Vec):Vec:=w.foldr (mirF A n) r
def lamF (A:Mat) (n:Nat) (r:Vec):Vec:=fun k=>sumN n (fun j=>A k j*r j)
theorem actF_append (A:Mat) (n:Nat) (a b:List Nat) (r:Vec):actF A n (a ++ b) r=actF A n a (actF A n b r):=by simp [actF,List.foldr_append]
theorem actF_cons (A:Mat) (n i:Nat) (w:List Nat) (r:Vec):actF A n (i :: w) r=mirF A n i (actF A n w r):=rfl
theorem mirF_eq (A:Mat) (n i:Nat) (r:Vec) (k:Nat):mirF A n i r k=r k - (if k=i then lamF A n r i else 0):=by
 unfold mirF
 by_cases h:k=i
 ·rw [if_pos h,if_pos h,h];rfl
 ·rw [if_neg h,if_neg h];omega
theorem lamF_lin (A:Mat) (n:Nat) (x y:Int) (u v:Vec) (k:Nat):lamF A n (fun k=>x*u k+y*v k) k=x*lamF A n u k+y*lamF A n v k:=by
 unfold lamF
 rw [<- sumN_mul,<- sumN_mul,<- sumN_add]
 exact sumN_congr n fun j _=>by grind
theorem lamF_congr {A:Mat} {n:Nat} {u v:Vec} (h:∀ k,k < n->u k=v k) (k:Nat):lamF A n u k=lamF A n v k:=sumN_congr n fun j hj=>by rw [h j hj]
theorem mirF_lin (A:Mat) (n i:Nat) (x y:Int) (u v:Vec):mirF A n i (fun k=>x*u k+y*v k)=fun k=>x*mirF A n i u k+y*mirF A n i v k:=by
 funext k
 rw [mirF_eq,mirF_eq,mirF_eq,lamF_lin]
 split<;>grind
theorem actF_lin (A:Mat) (n:Nat) (x y:Int) (u v:Vec):∀ w,actF A n w (fun k=>x*u k+y*v k)=fun k=>x*actF A n w u k+y*actF A n w v k
 | []=>rfl
 | i :: w=>by rw [actF_cons,actF_lin A n x y u v w,mirF_lin];rfl
theorem mirF_congr {A:Mat} {n i:Nat} (hi:i < n) {u v:Vec} (h:∀ k,k < n->u k=v k):∀ k,k < n->mirF A n i u k=mirF A n i v k:=fun k hk=>by
 rw [mirF_eq,mirF_eq,h k hk,lamF_congr h i]
theorem actF_congr {A:Mat} {n:Nat} {u v:Vec} (h:∀ k,k < n->u k=v k):∀(w:List Nat),(∀ i∈w,i < n)->∀ k,k < n->actF A n w u k=actF A n w v k
 | [],_=>h
 | i :: w,hw=>mirF_congr (hw i (mcS ..)) (actF_congr h w fun j hj=>hw j (mcM _ hj))
theorem lamF_mir (A:Mat) {n i:Nat} (hi:i < n) (r:Vec):lamF A n (mirF A n i r)=refl A i (lamF A n r):=by
 funext k
 unfold refl
 show sumN n (fun j=>A k j*mirF A n i r j)=lamF A n r k - lamF A n r i*A k i
 have e:sumN n (fun j=>A k j*(if j=i then lamF A n r i else 0))=lamF A n r i*A k i:=by
  rw [sumN_one n hi (fun j _ hj=>by rw [if_neg hj,Int.mul_zero]),if_pos rfl,Int.mul_comm]
 rw [sumN_congr n (g:=fun j=>A k j*r j+(-1)*(A k j*(if j=i then lamF A n r i else 0))) (fun j _=>by rw [mirF_eq];grind),sumN_add,sumN_mul,e]
 show lamF A n r k+_=_
 omega
theorem lamF_act (A:Mat) {n:Nat} (r:Vec):∀(w:List Nat),(∀ i∈w,i < n)->lamF A n (actF A n w r)=act A w (lamF A n r)
 | [],_=>rfl
 | i :: w,hw=>by rw [actF_cons,lamF_mir A (hw i (mcS ..)),lamF_act A r w fun j hj=>hw j (mcM _ hj)];rfl
theorem mirF_mirF {A:Mat} {n i:Nat} (hA:Cartan A n) (hi:i < n) (r:Vec):mirF A n i (mirF A n i r)=r:=by
 funext k
 rw [mirF_eq,mirF_eq,lamF_mir A hi,refl_self (hA.diag i hi)]
 split<;>omega
theorem actF_rev {A:Mat} {n:Nat} (hA:Cartan A n) (r:Vec):∀(w:List Nat),(∀ i∈w,i < n)->actF A n w.reverse (actF A n w r)=r
 | [],_=>rfl
 | i :: w,hw=>by
  rw [List.reverse_cons,actF_append,actF_cons]
  show actF A n w.reverse (mirF A n i (mirF A n i (actF A n w r)))=r
  rw [mirF_mirF hA (hw i (mcS ..)),actF_rev hA r w fun j hj=>hw j (mcM _ hj)]
theorem actF_rev2 {A:Mat} {n:Nat} (hA:Cartan A n) (r:Vec) (w:List Nat) (hw:∀ i∈w,i < n):actF A n w (actF A n w.reverse r)=r:=by
 have:=actF_rev hA r w.reverse (fun i hi=>hw i (by simpa using hi))
 rwa [List.reverse_reverse]at this
def unitF (i:Nat):Vec:=fun k=>if k=i then 1 else 0
theorem lamF_unit (A:Mat) {n i:Nat} (hi:i < n) (k:Nat):lamF A n (unitF i) k=A k i:=by
 unfold lamF
 rw [sumN_one n hi (fun j _ hj=>by unfold unitF;rw [if_neg hj,Int.mul_zero])]
 simp [unitF]
theorem mirF_unit {A:Mat} {n i:Nat} (hA:Cartan A n) (hi:i < n):mirF A n i (unitF i)=fun k=>(-1)*unitF i k:=by
 funext k
 rw [mirF_eq,lamF_unit A hi,hA.diag i hi]
 unfold unitF
 split<;>omega
theorem mirF_shift (A:Mat) (n i:Nat) (r:Vec):mirF A n i r=fun k=>1*r k+(-(lamF A n r i))*unitF i k:=by
 funext k
 rw [mirF_eq]
 unfold unitF
 split<;>grind
theorem dotL_sum {a r:LI} (h:a.length=r.length):dotL a r=sumN r.length (fun j=>a.getD j 0*r.getD j 0):=by
 have key:∀ k,k<=r.length->dotL (a.take k) (r.take k)=sumN k (fun j=>a.getD j 0*r.getD j 0):=by
  intro k
  induction k with
  | zero=>intro _;rfl
  | succ k ih=>intro hk;rw [dot_snoc a r k om om,ih om];rfl
 have:=key r.length (Nat.le_refl _)
 rwa [tkL,<- h,tkL,h]at this
theorem mir_vec {c:LL} (hc:CartanP c) {i:Int} (hi:0<=i/\i < c.length) {r:LI} (hr:r.length=c.length):vecL (mirL c i r)=mirF (matA c) c.length i.toNat (vecL r):=by
 funext k
 have hrow:=(row_bnd hc (i:=i.toNat) om).2
 unfold mirL mirF
 show(List.set _ _ _).getD k 0=_
 rw [dotL_sum om]
 simp only [List.getD,List.getElem?_set]
 by_cases h:i.toNat=k
 ·subst h
  rw [if_pos rfl,if_pos om,if_pos rfl,hr]
  rfl
 ·rw [if_neg h,if_neg (Ne.symm h)];rfl
theorem actR_vec {c:LL} (hc:CartanP c) {r:LI} (hr:r.length=c.length):∀(w:LI),letters c.length w->vecL (actR c w r)=actF (matA c) c.length (nat w) (vecL r)
 | [],_=>rfl
 | i :: w,hw=>by
  obtain⟨h1,h2⟩:=letters_cons.1 hw
  show vecL (mirL c i (actR c w r))=mirF _ _ _ (actF _ _ (nat w) _)
  rw [mir_vec hc h1 (by rw [actR_len];exact hr),actR_vec hc hr w h2]
theorem vec_sim {n i:Nat} (hi:i < n):vecL (simL n i)=unitF i:=by
 funext k
 unfold simL unitF
 show(List.set _ _ _).getD k 0=_
 simp only [List.getD,List.getElem?_set,List.length_replicate]
 by_cases h:i=k
 ·subst h;simp [hi]
 ·rw [if_neg h,if_neg (Ne.symm h)]
  by_cases hk:k < n
  ·simp [hk]
  ·simp [hk]
theorem actF_same {c:LL} (hc:CartanP c) {a b:LI} (ha:letters c.length a) (hb:letters c.length b) (h:imageL c a=imageL c b) (x:Vec):∀ k,k < c.length->actF (matA c) c.length (nat a) x k=actF (matA c) c.length (nat b) x k:=by
 intro k hk
 have hr:((List.range c.length).map x).length=c.length:=by simp
 have hx:∀ k,k < c.length->x k=vecL ((List.range c.length).map x) k:=fun k hk=>by simp [vecL,hk]
 rw [actF_congr hx (nat a) (letters_nat ha) k hk,actF_congr hx (nat b) (letters_nat hb) k hk,<- actR_vec hc hr a ha,<- actR_vec hc hr b hb,actR_same hc ha hb h hr]
theorem fin_nf {c:LL} (hF:FinP c) {w:LI} (hw:letters c.length w):Nf c (redL c w)/\imageL c (redL c w)=imageL c w:=by
 obtain⟨L,_,_,h⟩:=Far.image hF.1 hw
 have hL:=fin_len hF _ h
 obtain⟨h1,h2,h3⟩:=red_far hF.1 h om
 exact⟨⟨h2,red_eq h3,by omega⟩,h3⟩
def sumG:List (List Int)->(List Int->Int)->Int
 | [],_=>0
 | g :: l,F=>F g+sumG l F
theorem sumG_perm (F:List Int->Int) {a b:LL} (h:a.Perm b):sumG a F=sumG b F:=by
 induction h with
 | nil=>rfl
 | cons x _ ih=>simp only [sumG,ih]
 | swap x y l=>simp only [sumG];omega
 | trans _ _ ih1 ih2=>rw [ih1,ih2]
theorem sumG_map (F:List Int->Int) (φ:List Int->List Int):∀ l,sumG (l.map φ) F=sumG l (fun g=>F (φ g))
 | []=>rfl
 | g :: l=>by simp only [List.map_cons,sumG,sumG_map F φ l]
theorem sumG_congr {F G:List Int->Int}:∀ {l},(∀ g∈l,F g=G g)->sumG l F=sumG l G
 | [],_=>rfl
 | g :: l,h=>by simp only [sumG];rw [h g (mcS ..),sumG_congr fun x hx=>h x (mcM _ hx)]
theorem sumG_lin (x y:Int) (F G:List Int->Int):∀ l,sumG l (fun g=>x*F g+y*G g)=x*sumG l F+y*sumG l G
 | []=>by simp [sumG]
 | g :: l=>by simp only [sumG];rw [sumG_lin x y F G l];grind
theorem sumG_nonneg {F:List Int->Int}:∀ {l},(∀ g∈l,0<=F g)->0<=sumG l F/\∀ g∈l,F g<=sumG l F
 | [],_=>⟨by simp [sumG],by simp⟩
 | g :: l,h=>by
  obtain⟨h1,h2⟩:=sumG_nonneg (l:=l) fun x hx=>h x (mcM _ hx)
  have:=h g (mcS ..)
  simp only [sumG]
  refine⟨by omega,fun z hz=>?_⟩
  rcases List.mem_cons.1 hz with rfl | hz
  ·omega
  ·have:=h2 z hz;omega
theorem sq_nn (a:Int):0<=a*a:=by
 rcases Int.le_total 0 a with h | h
 ·exact Int.mul_nonneg h h
 ·exact Int.mul_nonneg_of_nonpos_of_nonpos h h
theorem sumN_nonneg {f:Nat->Int}:∀ n,(∀ i,i < n->0<=f i)->0<=sumN n f/\∀ i,i < n->f i<=sumN n f
 | 0,_=>⟨by simp [sumN],fun i hi=>by omega⟩
 | n+1,h=>by
  obtain⟨h1,h2⟩:=sumN_nonneg n fun i hi=>h i om
  have:=h n om
  simp only [sumN_succ]
  refine⟨by omega,fun i hi=>?_⟩
  by_cases e:i=n
  ·subst e;omega
  ·have:=h2 i om;omega
section
variable {c:LL} (hF:FinP c)
def bT (c:LL) (x y:Vec) (g:LI):Int:=sumN c.length (fun k=>actF (matA c) c.length (nat g) x k*actF (matA c) c.length (nat g) y k)
def bF (c:LL) (x y:Vec):Int:=sumG (allL c) (bT c x y)
theorem bF_symm (x y:Vec):bF c x y=bF c y x:=sumG_congr fun g _=>sumN_congr _ fun k _=>Int.mul_comm ..
theorem bF_lin (a b:Int) (u v y:Vec):bF c (fun k=>a*u k+b*v k) y=a*bF c u y+b*bF c v y:=by
 unfold bF
 rw [<- sumG_lin]
 refine sumG_congr fun g _=>?_
 unfold bT
 rw [actF_lin,<- sumN_mul,<- sumN_mul,<- sumN_add]
 exact sumN_congr _ fun k _=>by grind
theorem bF_linr (a b:Int) (u v y:Vec):bF c y (fun k=>a*u k+b*v k)=a*bF c y u+b*bF c y v:=by
 rw [bF_symm,bF_lin,bF_symm u y,bF_symm v y]
include hF in
theorem bF_congr {x x' y y':Vec} (h:∀ k,k < c.length->x k=x' k) (h':∀ k,k < c.length->y k=y' k):bF c x y=bF c x' y':=by
 refine sumG_congr fun g hg=>sumN_congr _ fun k hk=>?_
 have hn:=letters_nat (((allL_spec hF).2 g).1 hg).1
 rw [actF_congr h _ hn k hk,actF_congr h' _ hn k hk]
include hF in
theorem bF_zero {x:Vec} (h:bF c x x=0):∀ k,k < c.length->x k=0:=by
 intro k hk
 have hnil:[]∈allL c:=((allL_spec hF).2 []).2 ((outS_mem hF.1 (show 0<=30 by omega) []).1 (by simp [outS])).1
 have h1:∀ g,0<=bT c x x g:=fun g=>(sumN_nonneg _ fun k _=>sq_nn _).1
 have h2:=(sumG_nonneg (F:=bT c x x) (l:=allL c) fun g _=>h1 g).2 [] hnil
 have h3:=(sumN_nonneg (f:=fun k=>actF (matA c) c.length (nat []) x k*actF (matA c) c.length (nat []) x k) c.length fun k _=>sq_nn _).2 k hk
 have h4:x k*x k<=0:=by
  have e:bF c x x=sumG (allL c) (bT c x x):=rfl
  have e2:bT c x x []=sumN c.length (fun k=>actF (matA c) c.length (nat []) x k*actF (matA c) c.length (nat []) x k):=rfl
  have e3:x k*x k=actF (matA c) c.length (nat []) x k*actF (matA c) c.length (nat []) x k:=rfl
  omega
 have h5:=sq_nn (x k)
 have h6:x k*x k=0:=by omega
 rcases Int.mul_eq_zero.1 h6 with h | h<;>exact h
include hF in
theorem all_shift {i:Nat} (hi:i < c.length):((allL c).map fun g=>redL c (g ++ [(i:Int)])).Perm (allL c):=by
 have hc:=hF.1
 have hall:=allL_spec hF
 have hnd:(allL c).Nodup:=List.Pairwise.imp (fun {a b} h e=>by rw [e,cmpW_self]at h;omega) hall.1
 have hi1:letters c.length [(i:Int)]:=letter1 hi
 have hin:∀ g∈allL c,redL c (g ++ [(i:Int)])∈allL c:=fun g hg=>(hall.2 _).2 (fin_nf hF (letters_append.2 ⟨((hall.2 g).1 hg).1,hi1⟩)).1
 have hinv:∀ g∈allL c,redL c (redL c (g ++ [(i:Int)]) ++ [(i:Int)])=g:=fun g hg=>by
  have hg':=(hall.2 g).1 hg
  have hl:=letters_append.2 ⟨hg'.1,hi1⟩
  obtain⟨h1,h2⟩:=fin_nf hF hl
  have e:imageL c (redL c (g ++ [(i:Int)]) ++ [(i:Int)])=imageL c g:=by
   rw [image_append,same_elt hc h1.1 hl h2 (imageL_length c _),<- image_append,List.append_assoc,image_append]
   show actL c g (reflL c i (reflL c i (ones c.length)))=_
   rw [refl2 hc ⟨by omega,by omega⟩ (ones_length _)]
   rfl
  rw [red_eq e];exact hg'.2.1
 have hnd2:((allL c).map fun g=>redL c (g ++ [(i:Int)])).Nodup:=by
  refine nodup_on _ ?_ hnd
  intro a ha b hb h
  rw [<- hinv a ha,<- hinv b hb,h]
 refine(List.perm_ext_iff_of_nodup hnd2 hnd).2 fun z=>?_
 constructor<;>intro hz
 ·obtain⟨g,hg,rfl⟩:=List.mem_map.1 hz
  exact hin g hg
 ·exact List.mem_map.2 ⟨_,hin z hz,hinv z hz⟩
include hF in
theorem bF_mir {i:Nat} (hi:i < c.length) (x y:Vec):bF c (mirF (matA c) c.length i x) (mirF (matA c) c.length i y)=bF c x y:=by
 have hc:=hF.1
 have hall:=allL_spec hF
 have hi1:letters c.length [(i:Int)]:=letter1 hi
 show _=sumG (allL c) (bT c x y)
 rw [<- sumG_perm _ (all_shift hF hi),sumG_map]
 refine sumG_congr fun g hg=>sumN_congr _ fun k hk=>?_
 have hl:=letters_append.2 ⟨((hall.2 g).1 hg).1,hi1⟩
 obtain⟨h1,h2⟩:=fin_nf hF hl
 have e:∀ z,actF (matA c) c.length (nat (redL c (g ++ [(i:Int)]))) z k=actF (matA c) c.length (nat g) (mirF (matA c) c.length i z) k:=fun z=>by
  rw [actF_same hc h1.1 hl h2 z k hk]
  have:nat (g ++ [(i:Int)])=nat g ++ [i]:=by simp [nat]
  rw [this,actF_append]
  rfl
 rw [e,e]
include hF in
theorem bF_act (x y:Vec):∀(w:List Nat),(∀ i∈w,i < c.length)->bF c (actF (matA c) c.length w x) (actF (matA c) c.length w y)=bF c x y
 | [],_=>rfl
 | i :: w,hw=>by rw [actF_cons,actF_cons,bF_mir hF (hw i (mcS ..)),bF_act x y w fun j hj=>hw j (mcM _ hj)]
include hF in
theorem bF_unit {i:Nat} (hi:i < c.length) (z:Vec):lamF (matA c) c.length z i*bF c (unitF i) (unitF i)=2*bF c z (unitF i):=by
 have hA:=matA_cartan hF.1
 have h1:=bF_mir hF hi z (unitF i)
 rw [mirF_unit hA hi,mirF_shift]at h1
 have h2:bF c (fun k=>1*z k + -lamF (matA c) c.length z i*unitF i k) (fun k=>(-1)*unitF i k)=(-1)*(bF c z (unitF i) - lamF (matA c) c.length z i*bF c (unitF i) (unitF i)):=by
  have e:(fun k=>(-1)*unitF i k)=(fun k=>(-1)*unitF i k+0*unitF i k):=by funext k;omega
  rw [e,bF_linr,bF_lin]
  grind
 rw [h2]at h1
 omega
include hF in
theorem bF_unit_pos {i:Nat} (hi:i < c.length):bF c (unitF i) (unitF i)≠0:=fun h=>by
 have:=bF_zero hF h i hi
 simp [unitF]at this
end
end Go.Proofs.YtcinngodeoidnaaGreat
