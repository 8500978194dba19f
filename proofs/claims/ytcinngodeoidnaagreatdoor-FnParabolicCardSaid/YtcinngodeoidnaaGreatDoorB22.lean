/- Sums, systems of equations, independent vectors: as much linear algebra as the rank of a matrix asks for. No program is named here. -/
import Derived.Test.YtcinngodeoidnaaGreatDoorB13
import Derived.Test.YtcinngodeoidnaaGreatDoorB10
import Derived.Test.YtcinngodeoidnaaGreatDoorB15
import Derived.Test.YtcinngodeoidnaaGreatDoorB11
import Derived.Test.YtcinngodeoidnaaGreatDoorB16
import Derived.Test.YtcinngodeoidnaaGreatDoorB14
import Derived.Test.YtcinngodeoidnaaGreatDoorB21
set_option linter.unusedVariables false
set_option linter.unusedSimpArgs false
namespace Go.Proofs.YtcinngodeoidnaaGreatDoor
open Go Go.Aw Go.Cox
def sumN:Nat→(Nat→Int)→Int
 | 0,_=>0
 | n+1,f=>sumN n f+f n
theorem sumN_succ (n:Nat) (f:Nat→Int):sumN (n+1) f=sumN n f+f n:=rfl
theorem sumN_congr {f g:Nat→Int}:∀ n,(∀ i,i < n→f i=g i)→sumN n f=sumN n g
 | 0,_=>rfl
 | n+1,h=>by unfold sumN;rw [sumN_congr n (fun i hi=>h i (by omega)),h n (by omega)]
theorem sumN_zero:∀ n,sumN n (fun _=>0)=0
 | 0=>rfl
 | n+1=>by unfold sumN;rw [sumN_zero n];rfl
theorem sumN_zero' {f:Nat→Int} (n:Nat) (h:∀ i,i < n→f i=0):sumN n f=0:=(sumN_congr n h).trans (sumN_zero n)
theorem sumN_add (f g:Nat→Int):∀ n,sumN n (fun i=>f i+g i)=sumN n f+sumN n g
 | 0=>rfl
 | n+1=>by simp only [sumN_succ];rw [sumN_add f g n];omega
theorem sumN_mul (m:Int) (f:Nat→Int):∀ n,sumN n (fun i=>m*f i)=m*sumN n f
 | 0=>by simp [sumN]
 | n+1=>by unfold sumN;rw [sumN_mul m f n,Int.mul_add]
theorem sumN_one {f:Nat→Int} {p:Nat}:∀ n,p < n→(∀ i,i < n→i≠p→f i=0)→sumN n f=f p
 | 0,h,_=>by omega
 | n+1,h,hf=>by
  unfold sumN
  by_cases e:p=n
  ·subst e
   rw [sumN_zero' p (fun i hi=>hf i (by omega) (by omega))];omega
  ·rw [sumN_one n (by omega) (fun i hi=>hf i (by omega)),hf n (by omega) (by omega)];omega
def Gen (r:Nat) (S:Vec→Prop):Prop:=∃ g:Nat→Vec,∀ v,S v→∃ m:Int,m≠0∧∃ a:Nat→Int,∀ k,m*v k=sumN r (fun i=>a i*g i k)
def Ind (r:Nat) (S:Vec→Prop):Prop:=∃ h:Nat→Vec,(∀ j,j < r→S (h j))∧∀ x:Nat→Int,(∀ k,sumN r (fun j=>x j*h j k)=0)→∀ j,j < r→x j=0
theorem Ind.mono {r:Nat} {S T:Vec→Prop} (h:Ind r S) (hs:∀ v,S v→T v):Ind r T:=by
 obtain⟨g,h1,h2⟩:=h;exact⟨g,fun j hj=>hs _ (h1 j hj),h2⟩
theorem Gen.mono {r:Nat} {S T:Vec→Prop} (h:Gen r T) (hs:∀ v,S v→T v):Gen r S:=by
 obtain⟨g,h1⟩:=h;exact⟨g,fun v hv=>h1 v (hs v hv)⟩
def Sp (M:List (List Int)) (v:Vec):Prop:=∃ a:Nat→Int,∀ k,v k=sumN M.length (fun i=>a i*(M.getD i []).getD k 0)
theorem Sp.row {M:List (List Int)} {i:Nat} (h:i < M.length):Sp M (vecL (M.getD i [])):=
 ⟨fun j=>if j=i then 1 else 0,fun k=>by
  rw [sumN_one M.length h (fun j _ hj=>by simp only [];rw [if_neg hj,Int.zero_mul])]
  simp [vecL]⟩
theorem Sp.comb {M:List (List Int)} {u v:Vec} (hu:Sp M u) (hv:Sp M v) (x y:Int):Sp M (fun k=>x*u k+y*v k):=by
 obtain⟨a,ha⟩:=hu
 obtain⟨b,hb⟩:=hv
 refine⟨fun i=>x*a i+y*b i,fun k=>?_⟩
 simp only []
 rw [ha k,hb k,← sumN_mul,← sumN_mul,← sumN_add]
 exact sumN_congr _ fun i _=>by grind
theorem Sp.sum {M:List (List Int)} {f:Nat→Vec} {x:Nat→Int}:∀ n,(∀ i,i < n→Sp M (f i))→Sp M (fun k=>sumN n (fun i=>x i*f i k))
 | 0,_=>⟨fun _=>0,fun k=>by rw [sumN_zero' _ fun i _=>by rw [Int.zero_mul]];rfl⟩
 | n+1,h=>by
  have:=Sp.comb (Sp.sum (x:=x) n (fun i hi=>h i (by omega))) (h n (by omega)) 1 (x n)
  refine(congrArg (Sp M) (funext fun k=>?_)).mp this
  simp only [sumN_succ];omega
def Sub (M N:List (List Int)):Prop:=∀ i,i < M.length→∃ m:Int,m≠0∧Sp N (fun k=>m*(M.getD i []).getD k 0)
theorem prodN:∀(n:Nat) (m:Nat→Int),(∀ i,i < n→m i≠0)→∃ P:Int,P≠0∧∀ i,i < n→∃ q,P=q*m i
 | 0,_,_=>⟨1,by decide,fun i hi=>by omega⟩
 | n+1,m,h=>by
  obtain⟨P,h1,h2⟩:=prodN n m (fun i hi=>h i (by omega))
  refine⟨P*m n,Int.mul_ne_zero h1 (h n (by omega)),fun i hi=>?_⟩
  by_cases e:i=n
  ·subst e;exact⟨P,rfl⟩
  ·obtain⟨q,hq⟩:=h2 i (by omega)
   exact⟨q*m n,by rw [hq];grind⟩
theorem Sub.sp {M N:List (List Int)} (h:Sub M N) {v:Vec} (hv:Sp M v):∃ m:Int,m≠0∧Sp N (fun k=>m*v k):=by
 obtain⟨a,ha⟩:=hv
 have hch:∀ i,∃ m:Int,m≠0∧(i < M.length→Sp N (fun k=>m*(M.getD i []).getD k 0)):=fun i=>by
  by_cases hi:i < M.length
  ·obtain⟨m,h1,h2⟩:=h i hi;exact⟨m,h1,fun _=>h2⟩
  ·exact⟨1,by decide,fun h=>absurd h hi⟩
 let m:Nat→Int:=fun i=>(hch i).choose
 have hm:∀ i,m i≠0:=fun i=>(hch i).choose_spec.1
 have hs:∀ i,i < M.length→Sp N (fun k=>m i*(M.getD i []).getD k 0):=fun i=>(hch i).choose_spec.2
 obtain⟨P,hP,hq⟩:=prodN M.length m (fun i _=>hm i)
 have hch2:∀ i,∃ q:Int,i < M.length→P=q*m i:=fun i=>by
  by_cases hi:i < M.length
  ·obtain⟨q,h1⟩:=hq i hi;exact⟨q,fun _=>h1⟩
  ·exact⟨0,fun h=>absurd h hi⟩
 let q:Nat→Int:=fun i=>(hch2 i).choose
 have hqs:∀ i,i < M.length→P=q i*m i:=fun i=>(hch2 i).choose_spec
 refine⟨P,hP,?_⟩
 have:=Sp.sum (M:=N) (f:=fun i k=>m i*(M.getD i []).getD k 0) (x:=fun i=>a i*q i) M.length hs
 refine(congrArg (Sp N) (funext fun k=>?_)).mp this
 rw [ha k,← sumN_mul]
 exact sumN_congr _ fun i hi=>by rw [hqs i hi];grind
theorem Sub.trans {M N K:List (List Int)} (h:Sub M N) (k:Sub N K):Sub M K:=fun i hi=>by
 obtain⟨m,h1,h2⟩:=h i hi
 obtain⟨m',h3,h4⟩:=k.sp h2
 exact⟨m'*m,Int.mul_ne_zero h3 h1,(congrArg (Sp K) (funext fun k=>by grind)).mp h4⟩
theorem Sub.refl (M:List (List Int)):Sub M M:=fun i hi=>⟨1,by decide,(congrArg (Sp M) (funext fun k=>by simp [vecL])).mp (Sp.row hi)⟩
end Go.Proofs.YtcinngodeoidnaaGreatDoor
namespace Go.Cox
variable {A:Mat} {n:Nat}
theorem act_lin (A:Mat) (N:Int) (u v:Vec):∀ w,act A w (fun k=>u k+N*v k)=fun k=>act A w u k+N*act A w v k
 | []=>rfl
 | i :: w=>by
  rw [act_cons,act_lin A N u v w,act_cons,act_cons]
  funext k
  simp only [refl]
  grind
theorem play_len (hA:Cartan A n) {u u':Vec} (hu:∀ i,i < n→0 < u i) (hu':∀ i,i < n→0 < u' i) {w t t':List Nat} (hw:∀ i∈w,i < n) (h:Play A n (act A w u) t u) (h':Play A n (act A w u') t' u'):t.length=t'.length:=by
 have key:∀ {u u':Vec} {t t':List Nat},(∀ i,i < n→0 < u i)→(∀ i,i < n→0 < u' i)→Play A n (act A w u) t u→Play A n (act A w u') t' u'→t'.length≤t.length:=by
  intro u u' t t' hu hu' h h'
  obtain⟨s,hs,_,_,es⟩:=back hA hu w hw
  obtain⟨s',hs',hl,_,_⟩:=back hA hu' s hs.mem
  rw [es]at hs'
  obtain⟨r,_,hb⟩:=conv hA _ rfl hs (fun i hi=>Int.le_of_lt (hu i hi)) h
  obtain⟨r',_,hb'⟩:=conv hA _ rfl h (fun i hi=>Int.le_of_lt (hu i hi)) hs
  obtain⟨q,_,hq⟩:=conv hA _ rfl hs' (fun i hi=>Int.le_of_lt (hu' i hi)) h'
  have h1:=hb.length
  have h2:=hq.length
  have h3:=hb'.length
  simp at h1 h2 h3
  omega
 exact Nat.le_antisymm (key hu' hu h' h) (key hu hu' h h')
theorem sign_indep (hA:Cartan A n) {u u':Vec} (hu:∀ i,i < n→0 < u i) (hu':∀ i,i < n→0 < u' i) {w:List Nat} (hw:∀ i∈w,i < n) {j:Nat} (hj:j < n) (h:act A w u j < 0):act A w u' j < 0:=by
 obtain⟨t,ht,_,_,_⟩:=back hA hu w hw
 obtain⟨t',ht',_,_,_⟩:=back hA hu' w hw
 have hnz:=nonzero hA _ rfl ht' hu' j hj
 refine Classical.byContradiction fun hn=>?_
 have hpos:0 < act A w u' j:=by omega
 have e:=play_len hA hu hu' hw ht ht'
 have hjw:∀ i∈j :: w,i < n:=fun i hi=>by rcases List.mem_cons.1 hi with rfl | hi;exact hj;exact hw i hi
 obtain⟨r,hr,hb⟩:=conv hA _ rfl ht (fun i hi=>Int.le_of_lt (hu i hi)) (.cons hj h (.nil _))
 have h1:Play A n (act A (j :: w) u') (j :: t') u':=.cons hj (by rw [act_cons,refl_self (hA.diag j hj)];omega) (by rw [act_cons,refl_refl (hA.diag j hj)];exact ht')
 have:=play_len hA hu hu' hjw hr h1
 have h2:=hb.length
 simp at h2 this
 omega
theorem coh_pos (hA:Cartan A n) {u:Vec} (hu:∀ i,i < n→0 < u i) {w:List Nat} (hw:∀ i∈w,i < n) {j:Nat} (hj:j < n) (h:0 < act A w u j) {v:Vec} (hv:∀ i,i < n→0≤v i):0≤act A w v j:=by
 refine Classical.byContradiction fun hn=>?_
 have hu':∀ i,i < n→0 < (fun k=>u k+(act A w u j+1)*v k) i:=fun i hi=>by
  have h1:=hu i hi
  have h2:0≤(act A w u j+1)*v i:=Int.mul_nonneg (by omega) (hv i hi)
  show 0 < u i+(act A w u j+1)*v i
  omega
 have e:=congrFun (act_lin A (act A w u j+1) u v w) j
 have hneg:act A w (fun k=>u k+(act A w u j+1)*v k) j < 0:=by
  rw [e]
  have h3:(act A w u j+1)*act A w v j≤(act A w u j+1)*(-1):=Int.mul_le_mul_of_nonneg_left (by omega) (by omega)
  omega
 have:=sign_indep hA hu' hu hw hj hneg
 omega
theorem coh_neg (hA:Cartan A n) {u:Vec} (hu:∀ i,i < n→0 < u i) {w:List Nat} (hw:∀ i∈w,i < n) {j:Nat} (hj:j < n) (h:act A w u j < 0) {v:Vec} (hv:∀ i,i < n→0≤v i):act A w v j≤0:=by
 have e:act A (j :: w) u j = -act A w u j:=by rw [act_cons,refl_self (hA.diag j hj)]
 have e2:act A (j :: w) v j = -act A w v j:=by rw [act_cons,refl_self (hA.diag j hj)]
 have:=coh_pos hA hu (w:=j :: w) (fun i hi=>by rcases List.mem_cons.1 hi with rfl | hi;exact hj;exact hw i hi) hj (by omega) hv
 omega
theorem turn (hA:Cartan A n) {u:Vec} (hu:∀ i,i < n→0 < u i) {p:List Nat} (hp:∀ i∈p,i < n) {s i:Nat} (hs:s < n) (hi:i < n) (h1:0 < act A p u s) (h2:act A (p ++ [i]) u s < 0):∀ x,act A (s :: p) x=act A (p ++ [i]) x:=by
 let v:Vec:=fun k=>if k=i then 0 else 1
 have hv:∀ j,j < n→0≤v j:=fun j _=>by show 0≤(if j=i then(0:Int)else 1);split<;>omega
 have hvi:v i=0:=if_pos rfl
 have rv:refl A i v=v:=by funext k;simp only [refl,hvi];omega
 have hpi:∀ j∈p ++ [i],j < n:=fun j hj=>by
  rcases List.mem_append.1 hj with hj | hj
  ·exact hp j hj
  ·simp at hj;rw [hj];exact hi
 have f1:=coh_pos hA hu hp hs h1 hv
 have f2:=coh_neg hA hu hpi hs h2 hv
 rw [act_append]at f2
 have e0:act A [i] v=v:=rv
 rw [e0]at f2
 have f0:act A p v s=0:=by omega
 have hsp:act A (s :: p) v=act A p v:=by
  rw [act_cons];funext k;simp only [refl,f0];omega
 have hyl:∀ j∈p.reverse ++ (s :: p),j < n:=fun j hj=>by
  rcases List.mem_append.1 hj with hj | hj
  ·exact hp j (by simpa using hj)
  ·rcases List.mem_cons.1 hj with rfl | hj
   ·exact hs
   ·exact hp j hj
 have rp:∀ x,act A p.reverse (act A p x)=x:=fun x=>by rw [act_reverse,run_act hA p hp]
 have rp2:∀ x,act A p (act A p.reverse x)=x:=fun x=>by rw [act_reverse,act_run hA p hp]
 have hyv:act A (p.reverse ++ (s :: p)) v=v:=by rw [act_append,hsp,rp]
 obtain⟨t,ht,_,_,et⟩:=back hA hu (p.reverse ++ (s :: p)) hyl
 have hti:∀ x,act A (p.reverse ++ (s :: p)) x=refl A i x:=by
  generalize hy0:act A (p.reverse ++ (s :: p)) u=y0 at ht
  cases ht with
  | nil=>
   exfalso
   have:=et u
   rw [act_nil,act_append]at this
   have h3:=congrArg (act A p) this
   rw [rp2,act_cons]at h3
   have h4:=congrFun h3 s
   rw [refl_self (hA.diag s hs)]at h4
   omega
  | @cons _ _ b t' hb hyb ht'=>
   have hbi:b=i:=by
    have:=coh_neg hA hu hyl hb (by rw [hy0];exact hyb) hv
    rw [hyv]at this
    refine Classical.byContradiction fun hn=>?_
    have:v b=1:=if_neg hn
    omega
   subst hbi
   cases ht' with
   | nil=>intro x;rw [← et];rfl
   | @cons _ _ b' t'' hb' hyb' _=>
    exfalso
    have hyl2:∀ j∈b :: (p.reverse ++ (s :: p)),j < n:=fun j hj=>by
     rcases List.mem_cons.1 hj with rfl | hj
     ·exact hb
     ·exact hyl j hj
    have hyb2:act A (b :: (p.reverse ++ (s :: p))) u b' < 0:=by rw [act_cons,hy0];exact hyb'
    have:=coh_neg hA hu hyl2 hb' hyb2 hv
    rw [act_cons,hyv,rv]at this
    have hbi':b'=b:=by
     refine Classical.byContradiction fun hn=>?_
     have:v b'=1:=if_neg hn
     omega
    subst hbi'
    rw [act_cons,refl_self (hA.diag _ hb),hy0]at hyb2
    omega
 intro x
 have h5:=congrArg (act A p) (hti x)
 rw [act_append,rp2]at h5
 rw [h5,act_append]
 rfl
theorem exch (hA:Cartan A n) {u:Vec} (hu:∀ i,i < n→0 < u i) {s:Nat} (hs:s < n):∀(w p:List Nat),(∀ i∈w,i < n)→(∀ i∈p,i < n)→0 < act A p u s→act A (p ++ w) u s < 0 →
  ∃ a i b,w=a ++ i :: b∧∀ x,act A (s :: (p ++ w)) x=act A (p ++ (a ++ b)) x
 | [],p,_,_,h1,h2=>by rw [List.append_nil]at h2;omega
 | i :: w,p,hw,hp,h1,h2=>by
  have hi:=hw i (List.mem_cons_self ..)
  have hw':∀ j∈w,j < n:=fun j hj=>hw j (List.mem_cons_of_mem _ hj)
  have hpi:∀ j∈p ++ [i],j < n:=fun j hj=>by
   rcases List.mem_append.1 hj with hj | hj
   ·exact hp j hj
   ·simp at hj;rw [hj];exact hi
  obtain⟨t,ht,_,_,_⟩:=back hA hu (p ++ [i]) hpi
  have hnz:=nonzero hA _ rfl ht hu s hs
  have e:p ++ i :: w=p ++ [i] ++ w:=by simp
  by_cases h3:act A (p ++ [i]) u s < 0
  ·refine⟨[],i,w,rfl,fun x=>?_⟩
   have:=turn hA hu hp hs hi h1 h3 (act A w x)
   rw [act_cons,e,act_append A (p ++ [i]) w,act_append A p ([] ++ w),← turn hA hu hp hs hi h1 h3,act_cons,refl_refl (hA.diag s hs)]
   rfl
  ·obtain⟨a,j,b,h4,h5⟩:=exch hA hu hs w (p ++ [i]) hw' hpi (by omega) (by rw [← e];exact h2)
   refine⟨i :: a,j,b,by rw [h4];rfl,fun x=>?_⟩
   rw [e,h5]
   simp
end Go.Cox
namespace Go.Proofs.YtcinngodeoidnaaGreatDoor
open Go Go.Aw Go.Cox
def delA (x:List Int) (k:Nat):List Int:=x.take k ++ x.drop (k+1)
def bcF (c:List (List Int)) (x:List Int) (k:Nat):Option (List Int):=if (redL c (delA x k)).length+1=x.length then some (redL c (delA x k))else none
def bcT (c:List (List Int)) (x:List Int) (n:Nat):List (List Int):=(List.range n).filterMap (bcF c x)
theorem delA_app (u t:List Int) (a:Int) {k:Nat} (h:u.length=k):delA (u ++ a :: t) k=u ++ t:=by
 subst h
 simp [delA]
theorem delA_len {x:List Int} {k:Nat} (h:k < x.length):(delA x k).length+1=x.length:=by unfold delA;simp;omega
end Go.Proofs.YtcinngodeoidnaaGreatDoor
namespace Go.Proofs.YtcinngodeoidnaaGreatDoor
open Go Go.Aw Go.Cox
theorem delA_nat (w:List Int) (k:Nat):nat (delA w k)=(nat w).take k ++ (nat w).drop (k+1):=by
 simp [nat,delA,List.map_take,List.map_drop]
theorem delA_sub (w:List Int) (k:Nat):(delA w k).Sublist w:=by
 unfold delA
 have h:=List.take_append_drop k w
 have h2:(w.take k ++ w.drop (k+1)).Sublist (w.take k ++ w.drop k):=by
  refine List.Sublist.append (List.Sublist.refl _) ?_
  rw [← List.drop_drop]
  exact List.drop_sublist 1 _
 rwa [h]at h2
theorem letters_sub {n:Nat} {u w:List Int} (h:u.Sublist w) (hw:letters n w):letters n u:=fun i hi=>hw i (h.subset hi)
theorem exL {c:List (List Int)} (hc:CartanP c) {p w:List Int} (hp:letters c.length p) (hw:letters c.length w) {s:Int} (hs:0≤s∧s < c.length) (h1:0 < (imageL c p).getD s.toNat 0) (h2:(imageL c (p ++ w)).getD s.toNat 0 < 0) :
  ∃ k,k < w.length∧imageL c (s :: (p ++ w))=imageL c (p ++ delA w k):=by
 have hA:=matA_cartan hc
 have hpw:=letters_append.2 ⟨hp,hw⟩
 have nap:∀ a b:List Int,nat (a ++ b)=nat a ++ nat b:=fun a b=>by simp [nat]
 have e1:vecL (imageL c p)=act (matA c) (nat p) (vecL (ones c.length)):=vec_act (ones_length _) p
 have e2:vecL (imageL c (p ++ w))=act (matA c) (nat p ++ nat w) (vecL (ones c.length)):=by rw [← nap];exact vec_act (ones_length _) _
 obtain⟨a,i,b,hab,hx⟩:=exch hA (vec_ones c.length) (s:=s.toNat) (by omega) (nat w) (nat p) (letters_nat hw) (letters_nat hp) (by rw [← e1];exact h1) (by rw [← e2];exact h2)
 have hk:a.length < w.length:=by
  have:=congrArg List.length hab
  simp [nat]at this
  omega
 refine⟨a.length,hk,?_⟩
 apply vec_inj (by rw [imageL_length,imageL_length])
 rw [imageL,imageL,vec_act (ones_length _),vec_act (ones_length _)]
 have e3:nat (s :: (p ++ w))=s.toNat :: (nat p ++ nat w):=by rw [← nap];rfl
 have e4:nat (p ++ delA w a.length)=nat p ++ (a ++ b):=by
  rw [nap,delA_nat,hab]
  simp
 rw [e3,e4]
 exact hx _
theorem exW {c:List (List Int)} (hc:CartanP c) {w:List Int} (hw:letters c.length w) {s:Int} (hs:0≤s∧s < c.length) (h2:(imageL c w).getD s.toNat 0 < 0):∃ k,k < w.length∧imageL c (s :: w)=imageL c (delA w k):=by
 have:=exL hc (letters_nil _) hw hs (by
  show 0 < (ones c.length).getD s.toNat 0
  have hh:s.toNat < c.length:=by omega
  simp [ones,List.getD,hh]) (by simpa using h2)
 simpa using this
def SubI (c:List (List Int)) (w v:List Int):Prop:=∃ u,u.Sublist w∧imageL c u=v
theorem SubI.mono {c:List (List Int)} {w x v:List Int} (h:SubI c w v) (k:w.Sublist x):SubI c x v:=by
 obtain⟨u,h1,h2⟩:=h
 exact⟨u,h1.trans k,h2⟩
theorem SubI.self (c:List (List Int)) (w:List Int):SubI c w (imageL c w):=⟨w,List.Sublist.refl _,rfl⟩
theorem SubI.len {c:List (List Int)} {w v:List Int} (h:SubI c w v):v.length=c.length:=by
 obtain⟨u,_,rfl⟩:=h
 exact imageL_length c u
theorem refl_at' {c:List (List Int)} (hc:CartanP c) {i:Int} (hi:0≤i∧i < c.length) {v:List Int} (hv:v.length=c.length):(reflL c i v).getD i.toNat 0 = - v.getD i.toNat 0:=by
 have d:ent c i.toNat i.toNat=2:=(matA_cartan hc).diag i.toNat (by omega)
 have g:=reflL_get c i v i.toNat (by omega)
 rw [d]at g
 omega
theorem sub_cons {c:List (List Int)} (hc:CartanP c) {i:Int} {w:List Int} (hw:letters c.length (i :: w)) {v:List Int} (hv:v.length=c.length) :
  SubI c (i :: w) v↔if v.getD i.toNat 0 < 0 then SubI c w (reflL c i v)else SubI c w v:=by
 obtain⟨hi,hr⟩:=letters_cons.1 hw
 constructor
 ·rintro⟨u,hu0,rfl⟩
  rcases List.sublist_cons_iff.1 hu0 with hu | ⟨r,rfl,hu⟩
  ·split
   ·rename_i h
    obtain⟨k,_,hk⟩:=exW hc (letters_sub hu hr) hi h
    exact⟨delA u k,(delA_sub u k).trans hu,by rw [← hk];rfl⟩
   ·exact⟨u,hu,rfl⟩
  ·have hrl:=letters_sub hu hr
   split
   ·refine⟨r,hu,?_⟩
    exact(refl2 hc hi (imageL_length c r)).symm
   ·rename_i h
    have e:=refl_at' hc hi (imageL_length c r)
    have hnz:(imageL c r).getD i.toNat 0≠0:=by
     obtain⟨L,_,_,k3⟩:=Far.image hc hrl
     exact k3.nz hc i.toNat (by omega)
    have h:¬(reflL c i (imageL c r)).getD i.toNat 0 < 0:=h
    obtain⟨k,_,hk⟩:=exW hc hrl hi (by omega)
    exact⟨delA r k,(delA_sub r k).trans hu,hk.symm⟩
 ·intro h
  split at h
  ·obtain⟨u,h1,h2⟩:=h
   refine⟨i :: u,List.Sublist.cons_cons i h1,?_⟩
   show reflL c i (imageL c u)=v
   rw [h2,refl2 hc hi hv]
  ·exact h.mono (List.sublist_cons_self i w)
theorem len_app {c:List (List Int)} (hc:CartanP c) {a b:List Int} (ha:letters c.length a) (hb:letters c.length b) {K M:Nat} (h1:Far c K (imageL c (a ++ b))) (h2:Far c M (imageL c b)) (hM:M≤31):K≤a.length+M:=by
 obtain⟨r1,r2,r3⟩:=nfL_far hc 31 M h2 hM
 obtain⟨L,k1,_,k3⟩:=Far.image hc (w:=a ++ nfL c 31 (imageL c b)) (letters_append.2 ⟨ha,r2⟩)
 rw [image_append,r3,← image_append]at k3
 have:=h1.uniq hc k3
 simp at k1
 omega
theorem Red.tail {c:List (List Int)} (hc:CartanP c) {a b:List Int} (hl:b.length≤31) (h:Red c (a ++ b)):Red c b:=by
 obtain⟨ha,hb⟩:=letters_append.1 h.1
 obtain⟨L,k1,_,k3⟩:=Far.image hc hb
 have:=len_app hc ha hb h.2 k3 (by omega)
 simp at this
 have e:L=b.length:=by omega
 exact⟨hb,by rw [← e];exact k3⟩
theorem Red.rev {c:List (List Int)} (hc:CartanP c) {a:List Int} (hl:a.length≤31) (h:Red c a):Red c a.reverse:=by
 have hr:=letters_reverse h.1
 obtain⟨a1,a2,a3,a4,a5⟩:=red_spec hc hr (by simpa using hl)
 have e:imageL c (redL c a.reverse).reverse=imageL c a:=by
  have:=rev_same hc a1 hr a4 (ones_length c.length)
  rw [List.reverse_reverse]at this
  exact this
 obtain⟨L,k1,_,k3⟩:=Far.image hc (letters_reverse a1)
 rw [e]at k3
 have:=h.2.uniq hc k3
 simp at k1 a2
 refine⟨hr,?_⟩
 have e2:(redL c a.reverse).length=a.reverse.length:=by simp;omega
 rw [← e2]
 exact a5
theorem Red.head {c:List (List Int)} (hc:CartanP c) {a b:List Int} (hl:a.length+b.length≤31) (h:Red c (a ++ b)):Red c a:=by
 have h1:=h.rev hc (by simpa using hl)
 rw [List.reverse_append]at h1
 have h2:=(h1.tail hc (by simp;omega)).rev hc (by simp;omega)
 rwa [List.reverse_reverse]at h2
theorem Red.pos {c:List (List Int)} (hc:CartanP c) {i:Int} {b:List Int} (h:Red c (i :: b)):0 < (imageL c b).getD i.toNat 0:=by
 obtain⟨hi,hb⟩:=letters_cons.1 h.1
 obtain⟨L,k1,_,k3⟩:=Far.image hc hb
 have hnz:=k3.nz hc i.toNat (by omega)
 refine Classical.byContradiction fun hn=>?_
 obtain⟨M,h1,h2⟩:=k3.down hc hi (by omega)
 have:=h.2.uniq hc h2
 simp at this
 omega
theorem Red.up {c:List (List Int)} (hc:CartanP c) {i:Int} (hi:0≤i∧i < c.length) {b:List Int} (h:Red c b) (hp:0 < (imageL c b).getD i.toNat 0):Red c (i :: b):=
 ⟨letters_cons.2 ⟨hi,h.1⟩,h.2.up hc hi hp⟩
theorem Red.of {c:List (List Int)} (hc:CartanP c) {a b:List Int} (ha:letters c.length a) (h:Red c b) (he:imageL c a=imageL c b) (hl:a.length≤b.length):Red c a:=by
 obtain⟨L,k1,_,k3⟩:=Far.image hc ha
 have h2:=h.2
 rw [← he]at h2
 have:=h2.uniq hc k3
 have e:b.length=a.length:=by omega
 rw [e]at h2
 exact⟨ha,h2⟩
theorem exS {c:List (List Int)} (hc:CartanP c) {y u:List Int} (hy:Red c y) (hl:y.length≤30) (hu:letters c.length u) (he:imageL c u=imageL c y) {k:Nat} (hk:k < y.length):∃ j,j < u.length∧imageL c (delA u j)=imageL c (delA y k):=by
 obtain⟨a,i,b,hab,hak⟩:∃ a i b,y=a ++ i :: b∧a.length=k:=⟨y.take k,y[k],y.drop (k+1),by rw [← List.drop_eq_getElem_cons hk,List.take_append_drop],by simp;omega⟩
 have hlen:y.length=a.length+b.length+1:=by rw [hab];simp;omega
 have hyab:=hy
 rw [hab]at hyab
 obtain⟨la,lib⟩:=letters_append.1 hyab.1
 obtain⟨hi,lb⟩:=letters_cons.1 lib
 have h1:0 < (imageL c a.reverse).getD i.toNat 0:=by
  have h2:Red c ((a ++ [i]) ++ b):=by simpa using hyab
  have h3:=(h2.head hc (by simp;omega)).rev hc (by simp;omega)
  rw [List.reverse_append]at h3
  exact Red.pos hc h3
 have hib:Red c (i :: b):=hyab.tail hc (by simp;omega)
 have hra:=letters_reverse la
 have e1:imageL c (a.reverse ++ u)=imageL c (i :: b):=by
  rw [image_append,he,hab,image_append]
  exact act_rev hc a la (imageL_length c _)
 have h2:(imageL c (a.reverse ++ u)).getD i.toNat 0 < 0:=by
  rw [e1,image_cons,refl_at' hc hi (imageL_length c b)]
  have:=Red.pos hc hib
  omega
 obtain⟨j,hj,hx⟩:=exL hc hra hu hi h1 h2
 refine⟨j,hj,?_⟩
 rw [image_cons,e1,image_cons,refl2 hc hi (imageL_length c b),image_append]at hx
 have h3:=congrArg (actL c a) hx
 have h4:=act_rev hc a.reverse hra (v:=imageL c (delA u j)) (imageL_length c _)
 rw [List.reverse_reverse]at h4
 rw [h4]at h3
 rw [← h3,hab,delA_app a b i hak,image_append]
theorem chain_T {c:List (List Int)} (hc:CartanP c):∀(n:Nat) (y:List Int),y.length=n→n≤30→Red c y →
  (∀ v,SubI c y v→v≠imageL c y→∃ k,k < y.length∧Red c (delA y k)∧SubI c (delA y k) v) ∧
  (∀ u,letters c.length u→imageL c u=imageL c y→∀ v,SubI c y v→SubI c u v):=by
 intro n
 induction n using Nat.strongRecOn with
 | _ n ih=>
  intro y hyn hn hy
  have chain:∀ v,SubI c y v→v≠imageL c y→∃ k,k < y.length∧Red c (delA y k)∧SubI c (delA y k) v:=by
   intro v hv hne
   cases y with
   | nil=>
    obtain⟨u,hu,rfl⟩:=hv
    have:u=[]:=List.sublist_nil.1 hu
    subst this
    exact(hne rfl).elim
   | cons i y1=>
    obtain⟨hi,lr⟩:=letters_cons.1 hy.1
    simp at hyn
    have hy1:Red c y1:=Red.tail hc (a:=[i]) (by omega) hy
    have hvl:=hv.len
    rw [sub_cons hc hy.1 hvl]at hv
    split at hv
    ·rename_i hneg
     have hne1:reflL c i v≠imageL c y1:=fun e=>hne (by
      have:=congrArg (reflL c i) e
      rw [refl2 hc hi hvl]at this
      exact this)
     obtain⟨k,hk,hR,hS⟩:=(ih (n - 1) (by omega) y1 (by omega) (by omega) hy1).1 _ hv hne1
     have hdl:=delA_len hk
     by_cases hpos:(imageL c (delA y1 k)).getD i.toNat 0 < 0
     ·obtain⟨j,hj,hx⟩:=exW hc hR.1 hi hpos
      have ljd:=letters_sub (delA_sub (delA y1 k) j) hR.1
      have eL:imageL c (i :: delA (delA y1 k) j)=imageL c (delA y1 k):=by
       rw [image_cons,← hx,image_cons,refl2 hc hi (imageL_length c _)]
      have hdl2:=delA_len hj
      have lI:letters c.length (i :: delA (delA y1 k) j):=letters_cons.2 ⟨hi,ljd⟩
      have hR2:Red c (i :: delA (delA y1 k) j):=Red.of hc lI hR eL (by simp;omega)
      have s1:=(ih (delA y1 k).length (by omega) _ rfl (by omega) hR).2 _ lI eL _ hS
      rw [sub_cons hc lI (by rw [reflL_length,hvl]),if_neg (by rw [refl_at' hc hi hvl];omega)]at s1
      have s2:SubI c (i :: delA (delA y1 k) j) v:=by
       rw [sub_cons hc lI hvl,if_pos hneg];exact s1
      have s3:=(ih (i :: delA (delA y1 k) j).length (by simp;omega) _ rfl (by simp;omega) hR2).2 _ hR.1 eL.symm _ s2
      exact⟨0,by simp,by simpa [delA] using hy1,by
       have:=s3.mono (delA_sub y1 k)
       simpa [delA] using this⟩
     ·have hnz:=hR.2.nz hc i.toNat (by omega)
      have e:delA (i :: y1) (k+1)=i :: delA y1 k:=by simp [delA]
      refine⟨k+1,by simp;omega,?_,?_⟩
      ·rw [e];exact hR.up hc hi (by omega)
      ·rw [e,sub_cons hc (letters_cons.2 ⟨hi,hR.1⟩) hvl,if_pos hneg];exact hS
    ·exact⟨0,by simp,by simpa [delA] using hy1,by simpa [delA] using hv⟩
  refine⟨chain,fun u hu he v hv=>?_⟩
  by_cases hne:v=imageL c y
  ·rw [hne,← he];exact SubI.self c u
  ·obtain⟨k,hk,hR,hS⟩:=chain v hv hne
   obtain⟨j,hj,hx⟩:=exS hc hy (by omega) hu he hk
   have hdl:=delA_len hk
   exact((ih (delA y k).length (by omega) _ rfl (by omega) hR).2 _ (letters_sub (delA_sub u j) hu) hx _ hS).mono (delA_sub u j)
theorem sub_word {c:List (List Int)} (hc:CartanP c) {y u:List Int} (hy:Red c y) (hl:y.length≤30) (hu:letters c.length u) (he:imageL c u=imageL c y) {v:List Int} (h:SubI c y v):SubI c u v:=(chain_T hc _ y rfl hl hy).2 u hu he v h
theorem sub_chain {c:List (List Int)} (hc:CartanP c) {y:List Int} (hy:Red c y) (hl:y.length≤30) {v:List Int} (h:SubI c y v) (hne:v≠imageL c y):∃ k,k < y.length∧Red c (delA y k)∧SubI c (delA y k) v:=(chain_T hc _ y rfl hl hy).1 v h hne
def Low (c:List (List Int)) (x z:List Int):Prop:=Nf c z∧SubI c x (imageL c z)
theorem nf_same {c:List (List Int)} {a b:List Int} (ha:Nf c a) (hb:Nf c b) (h:imageL c a=imageL c b):a=b:=by
 rw [← ha.2.1,← hb.2.1];exact red_eq h
theorem Low.self {c:List (List Int)} {x:List Int} (h:Nf c x):Low c x x:=⟨h,SubI.self c x⟩
theorem Low.trans {c:List (List Int)} (hc:CartanP c) {x y z:List Int} (h:Low c x y) (k:Low c y z) (hx:letters c.length x):Low c x z:=by
 obtain⟨hy,u,hu,he⟩:=h
 exact⟨k.1,(sub_word hc (hy.red hc) hy.2.2 (letters_sub hu hx) he k.2).mono hu⟩
theorem Low.len {c:List (List Int)} (hc:CartanP c) {x z:List Int} (hx:letters c.length x) (h:Low c x z):z.length≤x.length:=by
 obtain⟨hz,u,hu,he⟩:=h
 have:=hz.short hc (letters_sub hu hx) he
 have:=hu.length_le
 omega
theorem Low.all {c:List (List Int)} (hc:CartanP c) {L:List (List Int)} (hL:∀ y∈L,Nf c y) (hcl:∀ y∈L,∀ z∈bcT c y y.length,z∈L):∀(n:Nat) (y z:List Int),y.length=n→y∈L→Low c y z→z∈L:=by
 intro n
 induction n using Nat.strongRecOn with
 | _ n ih=>
  intro y z hyn hy hz
  have hny:=hL y hy
  by_cases hne:imageL c z=imageL c y
  ·rw [nf_same hz.1 hny hne];exact hy
  ·obtain⟨k,hk,hR,hS⟩:=sub_chain hc (hny.red hc) hny.2.2 hz.2 hne
   have hdl:=delA_len hk
   have hb:=hny.2.2
   obtain⟨a1,a2,a3,a4,a5⟩:=red_spec hc hR.1 (by omega)
   have hlen:(redL c (delA y k)).length=(delA y k).length:=a5.uniq hc hR.2
   have hin:redL c (delA y k)∈bcT c y y.length:=by
    refine List.mem_filterMap.2 ⟨k,List.mem_range.2 hk,?_⟩
    unfold bcF
    rw [if_pos (by omega)]
   have h2:=hcl y hy _ hin
   exact ih _ (by omega) _ z rfl h2 ⟨hz.1,sub_word hc hR (by omega) a1 a4 hS⟩
theorem Low.none {c:List (List Int)} (hc:CartanP c) (z:List Int):Low c [] z↔z=[]:=by
 constructor
 ·rintro⟨hn,u,hu,he⟩
  have:u=[]:=List.sublist_nil.1 hu
  subst this
  rw [← hn.2.1,← red_eq he,red_of_nil hc]
 ·rintro rfl
  exact⟨⟨letters_nil _,red_of_nil hc,by simp⟩,[],List.Sublist.refl _,rfl⟩
end Go.Proofs.YtcinngodeoidnaaGreatDoor
namespace Go.Cox
variable {A B:Mat} {n:Nat}
def SameB (A B:Mat) (n:Nat):Prop:=∀ i j,i < n→j < n→bond A i j=bond B i j
theorem SameB.symm (h:SameB A B n):SameB B A n:=fun i j hi hj=>(h i j hi hj).symm
theorem Br.to (h:SameB A B n) {a b:List Nat} (k:Br A n a b):Br B n a b:=by
 induction k with
 | refl w=>exact .refl w
 | trans _ _ h k=>exact .trans h k
 | cons i _ h=>exact .cons i h
 | braid i j t hi hj hij hb=>
  rw [h i j hi hj]at hb ⊢
  exact .braid i j t hi hj hij hb
theorem back2 (hA:Cartan A n) (hB:Cartan B n) (hS:SameB A B n) {u:Vec} (hu:∀ i,i < n→0 < u i):∀(w:List Nat),(∀ i∈w,i < n)→∃ t,Play A n (act A w u) t u∧t.length≤w.length∧(∀ x,act A t x=act A w x)∧∀ x,act B t x=act B w x
 | [],_=>⟨[],.nil _,Nat.le_refl _,fun _=>rfl,fun _=>rfl⟩
 | i :: w,h=>by
  have hi:=h i (List.mem_cons_self ..)
  obtain⟨t,hp,hl,he,he'⟩:=back2 hA hB hS hu w (fun k hk=>h k (List.mem_cons_of_mem _ hk))
  have hnz:=nonzero hA _ rfl hp hu i hi
  rw [act_cons]
  rcases Int.lt_or_gt_of_ne hnz with hneg | hpos
  ·obtain⟨s,hs,hbr⟩:=conv hA _ rfl hp (fun i hi=>Int.le_of_lt (hu i hi)) (.cons hi hneg (.nil _))
   have hlen:=hbr.length
   simp at hlen
   refine⟨s,hs,by simp;omega,fun x=>?_,fun x=>?_⟩
   ·rw [act_cons,← he,act_br hA hbr hp.mem]
    simp only [List.cons_append,List.nil_append,act_cons]
    rw [refl_refl (hA.diag i hi)]
   ·rw [act_cons,← he',act_br hB (hbr.to hS) hp.mem]
    simp only [List.cons_append,List.nil_append,act_cons]
    rw [refl_refl (hB.diag i hi)]
  ·refine⟨i :: t,.cons hi (by rw [refl_self (hA.diag i hi)];omega) (by rw [refl_refl (hA.diag i hi)];exact hp),by simp;omega,fun x=>?_,fun x=>?_⟩
   ·rw [act_cons,act_cons,he]
   ·rw [act_cons,act_cons,he']
theorem play_le2 (hA:Cartan A n) (hB:Cartan B n) (hS:SameB A B n) {u u':Vec} (hu:∀ i,i < n→0 < u i) (hu':∀ i,i < n→0 < u' i) {w t t':List Nat} (hw:∀ i∈w,i < n) (h:Play A n (act A w u) t u) (h':Play B n (act B w u') t' u'):t'.length≤t.length:=by
 obtain⟨s,hs,_,_,es⟩:=back2 hA hB hS hu w hw
 obtain⟨s',hs',hl,_,_⟩:=back hB hu' s hs.mem
 rw [es]at hs'
 obtain⟨r,_,hb⟩:=conv hA _ rfl hs (fun i hi=>Int.le_of_lt (hu i hi)) h
 obtain⟨r',_,hb'⟩:=conv hA _ rfl h (fun i hi=>Int.le_of_lt (hu i hi)) hs
 obtain⟨q,_,hq⟩:=conv hB _ rfl hs' (fun i hi=>Int.le_of_lt (hu' i hi)) h'
 have h1:=hb.length
 have h2:=hq.length
 have h3:=hb'.length
 simp at h1 h2 h3
 omega
theorem play_len2 (hA:Cartan A n) (hB:Cartan B n) (hS:SameB A B n) {u u':Vec} (hu:∀ i,i < n→0 < u i) (hu':∀ i,i < n→0 < u' i) {w t t':List Nat} (hw:∀ i∈w,i < n) (h:Play A n (act A w u) t u) (h':Play B n (act B w u') t' u'):t.length=t'.length:=
 Nat.le_antisymm (play_le2 hB hA hS.symm hu' hu hw h' h) (play_le2 hA hB hS hu hu' hw h h')
theorem sign2 (hA:Cartan A n) (hB:Cartan B n) (hS:SameB A B n) {u u':Vec} (hu:∀ i,i < n→0 < u i) (hu':∀ i,i < n→0 < u' i) {w:List Nat} (hw:∀ i∈w,i < n) {j:Nat} (hj:j < n) (h:act A w u j < 0):act B w u' j < 0:=by
 obtain⟨t,ht,_,_,_⟩:=back hA hu w hw
 obtain⟨t',ht',_,_,_⟩:=back hB hu' w hw
 have hnz:=nonzero hB _ rfl ht' hu' j hj
 refine Classical.byContradiction fun hn=>?_
 have hpos:0 < act B w u' j:=by omega
 have e:=play_len2 hA hB hS hu hu' hw ht ht'
 have hjw:∀ i∈j :: w,i < n:=fun i hi=>by rcases List.mem_cons.1 hi with rfl | hi;exact hj;exact hw i hi
 obtain⟨r,hr,hb⟩:=conv hA _ rfl ht (fun i hi=>Int.le_of_lt (hu i hi)) (.cons hj h (.nil _))
 have h1:Play B n (act B (j :: w) u') (j :: t') u':=.cons hj (by rw [act_cons,refl_self (hB.diag j hj)];omega) (by rw [act_cons,refl_refl (hB.diag j hj)];exact ht')
 have:=play_len2 hA hB hS hu hu' hjw hr h1
 have h2:=hb.length
 simp at h2 this
 omega
end Go.Cox
namespace Go.Proofs.YtcinngodeoidnaaGreatDoor
open Go Go.Aw Go.Cox
theorem img_nz {c:List (List Int)} (hc:CartanP c) {w:List Int} (hw:letters c.length w) {j:Nat} (hj:j < c.length):(imageL c w).getD j 0≠0:=by
 obtain⟨L,_,_,h⟩:=Far.image hc hw
 exact h.nz hc j hj
theorem img_vec (c:List (List Int)) (w:List Int) (j:Nat):(imageL c w).getD j 0=act (matA c) (nat w) (vecL (ones c.length)) j:=by
 have:=congrFun (vec_act (c:=c) (ones_length c.length) w) j
 exact this
theorem actR_append (c:List (List Int)) (a b r:List Int):actR c (a ++ b) r=actR c a (actR c b r):=by simp [actR,List.foldr_append]
def Rt (c:List (List Int)) (r:List Int):Prop:=∃(w:List Int) (i:Nat),letters c.length w∧i < c.length∧r=actR c w (simL c.length i)
theorem Rt.len {c:List (List Int)} {r:List Int} (h:Rt c r):r.length=c.length:=by
 obtain⟨w,i,_,_,rfl⟩:=h;rw [actR_len,simL_len]
theorem Rt.act {c:List (List Int)} {r:List Int} (h:Rt c r) {w:List Int} (hw:letters c.length w):Rt c (actR c w r):=by
 obtain⟨p,i,h1,h2,rfl⟩:=h
 exact⟨w ++ p,i,letters_append.2 ⟨hw,h1⟩,h2,(actR_append _ _ _ _).symm⟩
end Go.Proofs.YtcinngodeoidnaaGreatDoor
namespace Go.Proofs.YtcinngodeoidnaaGreatDoor
open Go Go.Aw Go.Cox
theorem fin_nf {c:List (List Int)} (hF:FinP c) {w:List Int} (hw:letters c.length w):Nf c (redL c w)∧imageL c (redL c w)=imageL c w:=by
 obtain⟨L,_,_,h⟩:=Far.image hF.1 hw
 have hL:=fin_len hF _ h
 obtain⟨h1,h2,h3⟩:=red_far hF.1 h (by omega)
 exact⟨⟨h2,red_eq h3,by omega⟩,h3⟩
section
variable {c:List (List Int)} (hF:FinP c)
end
end Go.Proofs.YtcinngodeoidnaaGreatDoor
namespace Go.Proofs.YtcinngodeoidnaaGreatDoor
open Go Go.Aw Go.Cox
section
variable {c:List (List Int)} (hF:FinP c)
end
end Go.Proofs.YtcinngodeoidnaaGreatDoor
namespace Go.Proofs.YtcinngodeoidnaaGreatDoor
open Go Go.Aw Go.Cox
section
variable {c:List (List Int)} (hF:FinP c)
include hF
end
end Go.Proofs.YtcinngodeoidnaaGreatDoor
namespace Go.Proofs.YtcinngodeoidnaaGreatDoor
open Go Go.Aw Go.Cox
theorem far_le_negs {c:List (List Int)} (hc:CartanP c) {L:Nat} (hF0:Far c L (negs c.length)):∀(M:Nat) {v:List Int},Far c M v→M≤L∧Far c (L - M) (negL v):=by
 intro M
 induction M with
 | zero=>
  intro v h
  have:v=ones c.length:=h.zero
  subst this
  refine⟨Nat.zero_le _,?_⟩
  have e:negL (ones c.length)=negs c.length:=by simp [negL,ones,negs]
  rw [e];exact hF0
 | succ M ih=>
  intro v h
  rcases fst_of_far hc h with⟨_,h2⟩ | ⟨h1,h2,h3,K,h4,h5⟩
  ·omega
  ·have:K=M:=by omega
   subst this
   obtain⟨i1,i2⟩:=ih h5
   have hvl:v.length=c.length:=h.1
   have hg:(reflL c (fstN v) v).getD (fstN v).toNat 0 = -(v.getD (fstN v).toNat 0):=by
    rw [reflL_get c (fstN v) v (fstN v).toNat (by omega),show ent c (fstN v).toNat (fstN v).toNat=2 from(matA_cartan hc).diag _ (by omega)]
    omega
   have hneg:(negL (reflL c (fstN v) v)).getD (fstN v).toNat 0 < 0:=by rw [negL_get,hg];omega
   obtain⟨N,n1,n2⟩:=i2.down hc ⟨h1,h2⟩ hneg
   have hcomm:reflL c (fstN v) (negL (reflL c (fstN v) v))=negL v:=by
    have h7:∀ x:List Int,reflL c (fstN v) (negL x)=negL (reflL c (fstN v) x):=by
     intro x
     apply List.ext_getElem?
     intro k
     by_cases hk:k < x.length
     ·have e1:=reflL_get c (fstN v) (negL x) k (by simpa [negL] using hk)
      have e2:=negL_get (reflL c (fstN v) x) k
      rw [reflL_get c (fstN v) x k hk]at e2
      rw [negL_get,negL_get]at e1
      have e4:(reflL c (fstN v) (negL x)).getD k 0=(negL (reflL c (fstN v) x)).getD k 0:=by rw [e1,e2];grind
      have l1:k < (reflL c (fstN v) (negL x)).length:=by rw [reflL_length];simpa [negL] using hk
      have l2:k < (negL (reflL c (fstN v) x)).length:=by simp only [negL,List.length_map,reflL_length];exact hk
      rw [List.getElem?_eq_getElem l1,List.getElem?_eq_getElem l2]
      simpa [List.getD_eq_getElem?_getD,l1,l2] using e4
     ·rw [List.getElem?_eq_none (by rw [reflL_length];simp [negL];omega),List.getElem?_eq_none (by simp only [negL,List.length_map,reflL_length];omega)]
    rw [h7,refl2 hc ⟨h1,h2⟩ hvl]
   rw [hcomm]at n2
   refine⟨by omega,?_⟩
   rw [show L - (K+1)=N by omega]
   exact n2
def capN (c:List (List Int)):Bool:=decide (200 < sizeI c) || (decide (imageL c (nfL c 15 (negs c.length))=negs c.length) && (decide ((nfL c 15 (negs c.length)).length≤15) && (nfL c 15 (negs c.length)).all fun i=>decide (0≤i) && decide (i < c.length)))
set_option maxRecDepth 100000 in
theorem cap1:(finM 1).all capN=true:=by decide +kernel
set_option maxRecDepth 100000 in
theorem cap2:(finM 2).all capN=true:=by decide +kernel
set_option maxRecDepth 100000 in
theorem cap3:(finM 3).all capN=true:=by decide +kernel
set_option maxRecDepth 100000 in
theorem cap4:(finM 4).all capN=true:=by decide +kernel
theorem short_all {c:List (List Int)} (hF:FinP c) (hs:sizeI c≤200) {w:List Int} (hw:w∈allL c):w.length≤15:=by
 have hc:=hF.1
 have h:=fin_chk hF cap1 cap2 cap3 cap4
 unfold capN at h
 rw [decide_eq_false (show ¬200 < sizeI c by omega),Bool.false_or]at h
 simp only [Bool.and_eq_true,decide_eq_true_eq,List.all_eq_true]at h
 obtain⟨h1,h2,h3⟩:=h
 have hl:letters c.length (nfL c 15 (negs c.length)):=fun i hi=>h3 i hi
 obtain⟨L,k1,_,k3⟩:=Far.image hc hl
 rw [h1]at k3
 have:=(far_le_negs hc k3 _ (((allL_spec hF).2 w).1 hw |>.far hc)).1
 omega
def noLd (c:List (List Int)) (s w:List Int):Bool:=!s.any fun i=>decide ((imageL c w).getD i.toNat 0 < 0)
noncomputable def clB (c:List (List Int)) (s:List Int):Bool:=elsB c 200 && isSetB c s
noncomputable def clX (c:List (List Int)) (s:List Int):List (List Int):=if clB c s then(allL c).filter (noLd c s)else []
theorem isSet_letters {c:List (List Int)} {s:List Int} (h:isSetB c s=true):letters c.length s:=by
 unfold isSetB at h
 simp only [Bool.and_eq_true]at h
 have:=setB_iff.1 h.2
 exact letters_getD.2 fun i hi=>by have:=this i hi;omega
theorem leader_iff {c:List (List Int)} (hF:FinP c) {s w:List Int} (hs:isSetB c s=true) (hw:w∈allL c) (hl:w.length≤15):(leftY c s w == w)=noLd c s w:=by
 have hc:=hF.1
 have hnf:=((allL_spec hF).2 w).1 hw
 have hfar:=hnf.far hc
 have hsl:=isSet_letters hs
 have hlb:leftB c s w=true:=by unfold leftB;rw [wordB_iff.2 ⟨hc,hl,hnf.1⟩,hs];rfl
 have hY:leftY c s w=nfL c 31 (lpL c s 31 (imageL c w)).2:=by unfold leftY;rw [if_pos hlb]
 rw [hY,Bool.eq_iff_iff]
 unfold noLd
 rcases firstIn_spec (imageL c w) s hsl with⟨h1,h2⟩ | ⟨h1,h2,h3,h4⟩
 ·have e1:(s.any fun i=>decide ((imageL c w).getD i.toNat 0 < 0))=false:=by
   rw [List.any_eq_false]
   intro i hi
   have:=h2 i hi
   simp only [decide_eq_true_eq];omega
  rw [e1,lp_stop (by omega)]
  have e2:nfL c 31 (imageL c w)=w:=hnf.2.1
  rw [e2];simp
 ·have e1:(s.any fun i=>decide ((imageL c w).getD i.toNat 0 < 0))=true:=List.any_eq_true.2 ⟨_,h3,decide_eq_true h4⟩
  rw [e1]
  obtain⟨_,_,M,m1,m2,_⟩:=lpL_far hc hsl 31 w.length hfar (by omega)
  have hlen:0 < (lpL c s 31 (imageL c w)).1.length:=by rw [lp_step (by omega)];simp
  obtain⟨n1,_⟩:=nfL_far hc 31 M m2 (by omega)
  constructor
  ·intro h
   have h:nfL c 31 (lpL c s 31 (imageL c w)).2=w:=by simpa using h
   rw [h]at n1;omega
  ·intro h;cases h
theorem clX_len (c:List (List Int)) (s:List Int):(clX c s).length≤200:=by
 unfold clX
 split
 ·rename_i h
  unfold clB at h
  rw [Bool.and_eq_true]at h
  have:=(elsB_fin h.1 (by omega)).2.2.1
  have:=List.length_filter_le (noLd c s) (allL c)
  omega
 ·simp
theorem clX_rows (c:List (List Int)) (s:List Int):∀ r∈clX c s,r.length≤30:=by
 intro r hr
 unfold clX at hr
 split at hr
 ·rename_i h
  unfold clB at h
  rw [Bool.and_eq_true]at h
  exact(((allL_spec (elsB_fin h.1 (by omega)).1).2 r).1 (List.mem_filter.1 hr).1).2.2
 ·cases hr
theorem els_sizeI {c:List (List Int)} (h:elsB c 200=true):sizeI c≤200:=by
 unfold elsB at h
 rw [Bool.and_eq_true,decide_eq_true_eq]at h
 have e:sizeE c=sizeI c:=by unfold sizeE;rw [if_pos h.1]
 omega
end Go.Proofs.YtcinngodeoidnaaGreatDoor
namespace Go.Proofs.YtcinngodeoidnaaGreatDoor
open Go Go.Aw Go.Cox
theorem fibres {α β:Type} [DecidableEq β] (f:α→β) (d:Nat):∀(O:List β) (l:List α),O.Nodup→(∀ x∈l,f x∈O)→(∀ y∈O,(l.filter fun x=>decide (f x=y)).length=d)→l.length=O.length*d
 | [],l,_,h,_=>by
  cases l with
  | nil=>simp
  | cons x l=>exact absurd (h x (List.mem_cons_self ..)) (by simp)
 | y :: O,l,hn,h,hd=>by
  obtain⟨n1,n2⟩:=List.nodup_cons.1 hn
  have e1:l.length=(l.filter fun x=>decide (f x=y)).length+(l.filter fun x=>!decide (f x=y)).length:=by
   clear h hd
   induction l with
   | nil=>rfl
   | cons x l ih=>
    by_cases e:f x=y
    ·simp [e];omega
    ·simp [e];omega
  have ih:=fibres f d O (l.filter fun x=>!decide (f x=y)) n2 (fun x hx=>by
   obtain⟨h1,h2⟩:=List.mem_filter.1 hx
   rcases List.mem_cons.1 (h x h1)with e | e
   ·simp [e]at h2
   ·exact e) (fun z hz=>by
   rw [← hd z (List.mem_cons_of_mem _ hz),List.filter_filter]
   congr 1
   refine List.filter_congr fun x _=>?_
   by_cases e:f x=z
   ·have:f x≠y:=fun e2=>n1 (by rw [← e2,e];exact hz)
    simp [e];rw [← e];exact this
   ·simp [e])
  rw [e1,ih,hd y (List.mem_cons_self ..),List.length_cons,Nat.add_mul];omega
section
variable {c:List (List Int)} (hF:FinP c)
include hF
end
end Go.Proofs.YtcinngodeoidnaaGreatDoor
namespace Go.Proofs.YtcinngodeoidnaaGreatDoor
open Go Go.Aw Go.Cox
section
variable {c:List (List Int)} (hF:FinP c)
include hF
theorem img_mul {a a' b b':List Int} (ha:letters c.length a) (ha':letters c.length a') (h1:imageL c a=imageL c a') (h2:imageL c b=imageL c b'):imageL c (a ++ b)=imageL c (a' ++ b'):=by
 rw [image_append,image_append,h2]
 exact same_elt hF.1 ha ha' h1 (imageL_length c b')
theorem img_red {w:List Int} (hw:letters c.length w):imageL c (redL c w)=imageL c w:=(fin_nf hF hw).2
theorem mem_red {w:List Int} (hw:letters c.length w):redL c w∈allL c:=((allL_spec hF).2 _).2 (fin_nf hF hw).1
theorem mem_let {w:List Int} (hw:w∈allL c):letters c.length w:=(((allL_spec hF).2 w).1 hw).1
theorem mem_self {w:List Int} (hw:w∈allL c):redL c w=w:=(((allL_spec hF).2 w).1 hw).2.1
theorem mem_ext {a b:List Int} (ha:a∈allL c) (hb:b∈allL c) (h:imageL c a=imageL c b):a=b:=by
 rw [← mem_self hF ha,← mem_self hF hb];exact red_eq h
theorem all_nodup:(allL c).Nodup:=List.Pairwise.imp (fun {a b} h e=>by rw [e,cmpW_self]at h;omega) (allL_spec hF).1
def CenP (c:List (List Int)) (w:List Int):Prop:=∀ s:Nat,s < c.length→imageL c (w ++ [(s:Int)])=imageL c ([(s:Int)] ++ w)
theorem CenP.congr {a b:List Int} (ha:letters c.length a) (hb:letters c.length b) (h:imageL c a=imageL c b) (k:CenP c a):CenP c b:=fun s hs=>by
 rw [← img_mul hF ha hb h (rfl:imageL c [(s:Int)]=_),k s hs]
 exact img_mul hF (letter1 hs) (letter1 hs) rfl h
end
end Go.Proofs.YtcinngodeoidnaaGreatDoor
namespace Go.Cox
variable {A B:Mat} {m n:Nat}
structure Lab (A B:Mat) (m n:Nat) (f:Nat→Nat):Prop where
 lt:∀ i,i < m→f i < n
 ne:∀ i j,i < m→j < m→i≠j→f i≠f j
 bd:∀ i j,i < m→j < m→bond A i j=bond B (f i) (f j)
theorem alt_map (f:Nat→Nat):∀(k i j:Nat),(alt i j k).map f=alt (f i) (f j) k
 | 0,_,_=>rfl
 | k+1,i,j=>by simp only [alt,List.map_cons];rw [alt_map f k j i]
theorem Br.lab {f:Nat→Nat} (h:Lab A B m n f) {a b:List Nat} (k:Br A m a b):Br B n (a.map f) (b.map f):=by
 induction k with
 | refl w=>exact .refl _
 | trans _ _ h k=>exact .trans h k
 | cons i _ h=>exact .cons _ h
 | braid i j t hi hj hij hb=>
  rw [List.map_append,List.map_append,alt_map,alt_map]
  rw [h.bd i j hi hj]at hb ⊢
  exact .braid _ _ _ (h.lt i hi) (h.lt j hj) (h.ne i j hi hj hij) hb
theorem Lab.mem {f:Nat→Nat} (h:Lab A B m n f) {t:List Nat} (ht:∀ i∈t,i < m):∀ i∈t.map f,i < n:=fun i hi=>by
 obtain⟨k,hk,rfl⟩:=List.mem_map.1 hi
 exact h.lt k (ht k hk)
theorem backf (hA:Cartan A m) (hB:Cartan B n) {f:Nat→Nat} (hS:Lab A B m n f) {u:Vec} (hu:∀ i,i < m→0 < u i):∀(w:List Nat),(∀ i∈w,i < m)→∃ t,Play A m (act A w u) t u∧(∀ x,act A t x=act A w x)∧∀ x,act B (t.map f) x=act B (w.map f) x
 | [],_=>⟨[],.nil _,fun _=>rfl,fun _=>rfl⟩
 | i :: w,h=>by
  have hi:=h i (List.mem_cons_self ..)
  obtain⟨t,hp,he,he'⟩:=backf hA hB hS hu w (fun k hk=>h k (List.mem_cons_of_mem _ hk))
  have hnz:=nonzero hA _ rfl hp hu i hi
  rw [act_cons]
  rcases Int.lt_or_gt_of_ne hnz with hneg | hpos
  ·obtain⟨s,hs,hbr⟩:=conv hA _ rfl hp (fun i hi=>Int.le_of_lt (hu i hi)) (.cons hi hneg (.nil _))
   refine⟨s,hs,fun x=>?_,fun x=>?_⟩
   ·rw [act_cons,← he,act_br hA hbr hp.mem]
    simp only [List.cons_append,List.nil_append,act_cons]
    rw [refl_refl (hA.diag i hi)]
   ·rw [List.map_cons,act_cons,← he',act_br hB (hbr.lab hS) (hS.mem hp.mem)]
    simp only [List.cons_append,List.nil_append,List.map_cons,act_cons]
    rw [refl_refl (hB.diag _ (hS.lt i hi))]
  ·refine⟨i :: t,.cons hi (by rw [refl_self (hA.diag i hi)];omega) (by rw [refl_refl (hA.diag i hi)];exact hp),fun x=>?_,fun x=>?_⟩
   ·rw [act_cons,act_cons,he]
   ·rw [List.map_cons,List.map_cons,act_cons,act_cons,he']
theorem faithf (hA:Cartan A m) (hB:Cartan B n) {f:Nat→Nat} (hS:Lab A B m n f) {u:Vec} (hu:∀ i,i < m→0 < u i) {a b:List Nat} (ha:∀ i∈a,i < m) (hb:∀ i∈b,i < m) (h:act A a u=act A b u) (x:Vec):act B (a.map f) x=act B (b.map f) x:=by
 obtain⟨s,hs,_,es⟩:=backf hA hB hS hu a ha
 obtain⟨t,ht,_,et⟩:=backf hA hB hS hu b hb
 rw [h]at hs
 obtain⟨r,hr,hbr⟩:=conv hA _ rfl hs (fun i hi=>Int.le_of_lt (hu i hi)) ht
 have hr0:r=[]:=by
  cases hr with
  | nil=>rfl
  | cons hi hv _=>exact absurd (hu _ hi) (by omega)
 subst hr0
 rw [List.append_nil]at hbr
 rw [← es,← et,act_br hB (hbr.lab hS) (hS.mem hs.mem)]
end Go.Cox
namespace Go.Proofs.YtcinngodeoidnaaGreatDoor
open Go Go.Aw Go.Cox
def relW (s u:List Int):List Int:=u.map fun i=>s.getD i.toNat 0
def rsV (s v:List Int):List Int:=s.map fun i=>v.getD i.toNat 0
theorem rsV_len (s v:List Int):(rsV s v).length=s.length:=by simp [rsV]
theorem rsV_get (s v:List Int) {k:Nat} (hk:k < s.length):(rsV s v).getD k 0=v.getD (s.getD k 0).toNat 0:=by
 simp [rsV,List.getD_eq_getElem?_getD,hk]
theorem pick_len (c:List (List Int)) (s:List Int):(pick c s).length=s.length:=by simp [pick]
theorem relW_let {n:Nat} {s u:List Int} (hs:setP n s) (hu:letters s.length u):letters n (relW s u):=fun i hi=>by
 obtain⟨k,hk,rfl⟩:=List.mem_map.1 hi
 have:=hu k hk
 have:=hs k.toNat (by omega)
 exact⟨this.1,this.2.1⟩
theorem relW_nat (s u:List Int):nat (relW s u)=(nat u).map fun k=>(s.getD k 0).toNat:=by
 simp [relW,nat]
theorem gd0 {l:List Int} {k:Nat} (h:k < l.length):l.getD k 0=l[k]:=by simp [List.getD_eq_getElem?_getD,h]
theorem rs_refl (c:List (List Int)) {s:List Int} (hs:setP c.length s) {v:List Int} (hv:v.length=c.length) {i:Int} (hi:0≤i∧i < s.length):rsV s (reflL c (s.getD i.toNat 0) v)=reflL (pick c s) i (rsV s v):=by
 apply List.ext_getElem (by rw [rsV_len,reflL_length,rsV_len])
 intro k h1 h2
 have hk:k < s.length:=by rwa [rsV_len]at h1
 obtain⟨a1,a2,_⟩:=hs k hk
 have e1:(rsV s (reflL c (s.getD i.toNat 0) v)).getD k 0=(reflL (pick c s) i (rsV s v)).getD k 0:=by
  rw [rsV_get _ _ hk,reflL_get _ _ _ _ (by omega),reflL_get _ _ _ _ (by rw [rsV_len];exact hk),rsV_get _ _ hk,rsV_get _ _ (by omega),pick_ent hk (by omega)]
 rwa [gd0 h1,gd0 h2]at e1
theorem rs_act (c:List (List Int)) {s:List Int} (hs:setP c.length s) {v:List Int} (hv:v.length=c.length):∀ u:List Int,letters s.length u→rsV s (actL c (relW s u) v)=actL (pick c s) u (rsV s v)
 | [],_=>rfl
 | i :: u,h=>by
  obtain⟨hi,hu⟩:=letters_cons.1 h
  show rsV s (reflL c (s.getD i.toNat 0) (actL c (relW s u) v))=reflL (pick c s) i (actL (pick c s) u (rsV s v))
  rw [rs_refl c hs (by rw [actL_length];exact hv) hi,rs_act c hs hv u hu]
theorem lab_pick {c:List (List Int)} {s:List Int} (hs:setP c.length s):Lab (matA (pick c s)) (matA c) s.length c.length fun k=>(s.getD k 0).toNat where
 lt i hi:=by have:=hs i hi;omega
 ne i j hi hj h e:=by
  have h1:=hs i hi
  have h2:=hs j hj
  rcases Nat.lt_or_gt_of_ne h with q | q
  ·have:=setP_mono hs i j q hj;omega
  ·have:=setP_mono hs j i q hi;omega
 bd i j hi hj:=by
  have e1:∀ i j,i < s.length→j < s.length→matA (pick c s) i j=matA c (s.getD i 0).toNat (s.getD j 0).toNat:=fun i j hi hj=>pick_ent hi hj
  unfold bond
  rw [e1 i j hi hj,e1 j i hj hi]
section
variable {c:List (List Int)} (hc:CartanP c) {s:List Int} (hs:setP c.length s) (hne:s≠[])
include hc hs hne
theorem par_same {a b:List Int} (ha:letters s.length a) (hb:letters s.length b) (h:imageL (pick c s) a=imageL (pick c s) b) {v:List Int} (hv:v.length=c.length):actL c (relW s a) v=actL c (relW s b) v:=by
 have hP:=pick_cartan hc hs hne
 have hl:=pick_len c s
 have hA:Cartan (matA (pick c s)) s.length:=by rw [← hl];exact matA_cartan hP
 apply vec_inj (by rw [actL_length,actL_length])
 rw [vec_act hv,vec_act hv,relW_nat,relW_nat]
 refine faithf hA (matA_cartan hc) (lab_pick hs) (u:=vecL (ones (pick c s).length)) (fun i hi=>vec_ones _ i (by rw [hl];exact hi)) (letters_nat ha) (letters_nat hb) ?_ _
 have e:=congrArg vecL h
 unfold imageL at e
 rwa [vec_act (ones_length _),vec_act (ones_length _)]at e
theorem par_inj {a b x y:List Int} (ha:letters s.length a) (hb:letters s.length b) (hx:x.length=s.length) (hy:y.length=s.length) (px:∀ k,k < s.length→0 < x.getD k 0) (py:∀ k,k < s.length→0 < y.getD k 0)
  (h:actL (pick c s) a x=actL (pick c s) b y):imageL (pick c s) a=imageL (pick c s) b:=by
 have hP:=pick_cartan hc hs hne
 have hl:=pick_len c s
 have hal:letters (pick c s).length a:=by rw [hl];exact ha
 have hbl:letters (pick c s).length b:=by rw [hl];exact hb
 have hA:=matA_cartan hP
 have hz:letters (pick c s).length (a.reverse ++ b):=letters_append.2 ⟨letters_reverse hal,hbl⟩
 have e1:x=actL (pick c s) (a.reverse ++ b) y:=by
  rw [actL_append,← h,act_rev hP a hal (by rw [hl];exact hx)]
 have e2:imageL (pick c s) (a.reverse ++ b)=ones (pick c s).length:=by
  obtain⟨L,_,_,hL⟩:=Far.image hP hz
  rcases fst_of_far hP hL with⟨_,h0⟩ | ⟨h1,h2,h3,_⟩
  ·subst h0;exact hL.zero
  ·exfalso
   have hj:(fstN (imageL (pick c s) (a.reverse ++ b))).toNat < (pick c s).length:=by omega
   rw [img_vec]at h3
   have h4:=sign2 hA hA (fun _ _ _ _=>rfl) (fun i hi=>vec_ones _ i hi) (u':=vecL y) (fun i hi=>py i (by rw [← hl];exact hi)) (letters_nat hz) hj h3
   rw [← vec_act (by rw [hl];exact hy),← e1]at h4
   have:=px _ (by rw [← hl];exact hj)
   have h4:x.getD (fstN (imageL (pick c s) (a.reverse ++ b))).toNat 0 < 0:=h4
   omega
 have e3:=act_rev hP a.reverse (letters_reverse hal) (v:=imageL (pick c s) b) (imageL_length _ _)
 rw [List.reverse_reverse]at e3
 have e4:actL (pick c s) a.reverse (imageL (pick c s) b)=ones (pick c s).length:=by rw [← e2,image_append]
 rw [e4]at e3
 exact e3
end
end Go.Proofs.YtcinngodeoidnaaGreatDoor
