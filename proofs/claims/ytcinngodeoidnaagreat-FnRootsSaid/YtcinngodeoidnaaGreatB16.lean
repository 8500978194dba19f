/- The dimension of what an element fixes: what the functions of both sides do. -/
import Derived.Test.YtcinngodeoidnaaGreatB14
import Derived.Test.YtcinngodeoidnaaGreatB15
import Derived.Test.YtcinngodeoidnaaGreatB9
import Derived.Test.YtcinngodeoidnaaGreatB12
import Derived.Test.YtcinngodeoidnaaGreatB11
import Derived.Test.YtcinngodeoidnaaGreatB13
set_option linter.unusedVariables false
set_option linter.unusedSimpArgs false
namespace Go.Proofs.YtcinngodeoidnaaGreat
open Go Go.Aw Go.Cox
theorem c_big (code:LI):FunA B 7 [.sl false .byte code] (fun rs o=>rs=[.bool (decide (1048576 < code.length))]/\o=[]):=by
 refine wk Tryz.call7 Tryz.func7 rfl Tryz.ntmps7 fun C hC hP hT hfn hpin hfin hX=>wW ?_
 refine Run.R ?_
 refine Run.R ?_
 refine Run.r [2] ?_
 have:decide ((1048576:Int) < (code.length:Int))=decide (1048576 < code.length):=by
  by_cases h:1048576 < code.length
  ·rw [decide_eq_true h,decide_eq_true];omega
  ·rw [decide_eq_false h,decide_eq_false];omega
 first | exact⟨by rw [this],rfl⟩ | simpa using this
theorem c_sameInts (p q:LI) (hp:p.length<=4503599627370496):FunA B 11 [.sl false .int p,.sl false .int q] (fun rs o=>rs=[.bool (p == q)]/\o=[]):=by
 refine wk Tryz.call11 Tryz.func11 rfl Tryz.ntmps11 fun C hC hP hT hfn hpin hfin hX=>wW ?_
 refine Run.R ?_
 refine Run.R ?_
 refine Run.c ?_ ?_
 ·intro hc
  refine Run.R ?_
  refine Run.r [4] ?_
  have:p≠q:=fun h=>by simp [h]at hc
  simpa using this
 intro hc
 have hl:p.length=q.length:=by simp at hc;omega
 refine Run.R ?_
 refine Run.loopI (X:=Nat) (fun i=>⟨26,[(0,true,.v (.sl false .int p)),(1,true,.v (.sl false .int q)),(5,true,.v (.int .i64 i)),(4,true,.v (.bool false))],[]⟩) (fun i=>i<=p.length/\p.take i=q.take i) (fun i=>p.length - i) (0) (⟨nz0 _,rfl⟩) ?_ ?_
 ·exact Le.s
 rintro i ⟨hi,ht⟩ ih
 try simp only []
 refine Run.R ?_
 refine Run.c ?_ ?_
 ·intro hc2
  have hc2:i < p.length:=by simpa using hc2
  refine Run.nq ?_;refine Run.regionD hC true [0,1,2,3,4,5,6,7,8] (by kernel_rfl) (fun K hK=>?_);simp only [AW7,simprocAttr,hX];(repeat(with_reducible refine And.intro ?_ ?_);exact vc0);refine wE ?_;clear hK K
  refine Run.c ?_ ?_
  ·intro hne
   refine Run.R ?_
   refine Run.r [4] ?_
   have:p≠q:=fun h=>by simp [h]at hne
   simpa using this
  ·intro he
   have he:p.getD i 0=q.getD i 0:=by simpa using he
   have ht2:p.take (i+1)=q.take (i+1):=by rw [<- take_snoc 0 p i hc2,<- take_snoc 0 q i om,ht,he]
   refine Run.RW ?_
   exact Run.j (ih (i+1) (⟨hc2,ht2⟩) mz)
 ·intro hc2
  have hc2:i=p.length:=by simp at hc2;omega
  refine Run.x ?_
  refine Run.R ?_
  refine Run.r [4] ?_
  subst hc2
  rw [tkL,hl,tkL]at ht
  simpa using ht
theorem getD_take {α:Type} {d:α} {p q:List α} {i:Nat} (hp:i < p.length) (hq:i < q.length) (ht:p.take i=q.take i) (he:p.getD i d=q.getD i d):p.take (i+1)=q.take (i+1):=by rw [<- take_snoc d p i hp,<- take_snoc d q i hq,ht,he]
theorem c_sameWords (p q:LL) (hp:p.length<=4503599627370496) (hr:∀ r∈p,r.length<=4503599627370496):FunA B 19 [.sl false (.row false) p,.sl false (.row false) q] (fun rs o=>rs=[.bool (p == q)]/\o=[]):=by
 refine wk Tryz.call19 Tryz.func19 rfl Tryz.ntmps19 fun C hC hP hT hfn hpin hfin hX=>wW ?_
 refine Run.R ?_
 refine Run.R ?_
 refine Run.c ?_ ?_
 ·intro hc
  refine Run.R ?_
  refine Run.r [4] ?_
  have:p≠q:=fun h=>by simp [h]at hc
  simpa using this
 intro hc
 have hl:p.length=q.length:=by simp at hc;omega
 refine Run.R ?_
 refine Run.loopI (X:=Nat) (fun i=>⟨27,[(0,true,.v (.sl false (.row false) p)),(1,true,.v (.sl false (.row false) q)),(5,true,.v (.int .i64 i)),(4,true,.v (.bool false))],[]⟩) (fun i=>i<=p.length/\p.take i=q.take i) (fun i=>p.length - i) (0) (⟨nz0 _,rfl⟩) ?_ ?_
 ·exact Le.s
 rintro i ⟨hi,ht⟩ ih
 try simp only []
 refine Run.R ?_
 refine Run.c ?_ ?_
 ·intro hc2
  have hc2:i < p.length:=by simpa using hc2
  have hri:(p.getD i []).length<=4503599627370496:=by
   rw [gdE,geE hc2]
   exact hr _ (List.getElem_mem hc2)
  refine Run.nq ?_;refine Run.regionD hC true [0,1,2,3,4,5,6,7,8,9] (by kernel_rfl) (fun K hK=>?_);simp only [AW7,simprocAttr,hX];(repeat(with_reducible refine And.intro ?_ ?_);exact vc0)
  refine FunA.callD hP hT (c_sameInts (p.getD i []) (q.getD i []) hri) (by simp only [AW7,simprocAttr]) ?_
  rintro rs o ⟨rfl,rfl⟩
  refine wF ?_;clear hK K
  refine Run.c ?_ ?_
  ·intro hne
   refine Run.R ?_
   refine Run.r [4] ?_
   have:p≠q:=fun h=>by simp [h]at hne
   simpa using this
  ·intro he
   have he:p.getD i []=q.getD i []:=by simpa using he
   have ht2:=getD_take hc2 om ht he
   refine Run.RW ?_
   exact Run.j (ih (i+1) (⟨hc2,ht2⟩) mz)
 ·intro hc2
  have hc2:i=p.length:=by simp at hc2;omega
  refine Run.x ?_
  refine Run.R ?_
  refine Run.r [4] ?_
  subst hc2
  rw [tkL,hl,tkL]at ht
  simpa using ht
theorem jn12 {C:Ctx} {k k':List Item} {σ σ':St} (rest:Run C k' σ') (h:Run C k' σ'->Run C k σ):Run C k σ:=h rest
theorem c_spec_l7In (rows:LL) (w:LI) (hl:rows.length<=1048576) (hr:∀ r∈rows,r.length<=1048576) :
  FunA B 112 [.sl false (.row false) rows,.sl false .int w] (fun rs o=>rs=[.bool (decide (w∈rows))]/\o=[]):=by
 refine wk Tryz.call112 Tryz.func112 rfl Tryz.ntmps112 fun C hC hP hT hfn hpin hfin hX=>wW ?_
 refine Run.R ?_
 refine Run.R ?_
 refine Run.loopI (X:=Nat) (fun i=>⟨18,[(0,true,.v (.sl false (.row false) rows)),(1,true,.v (.sl false .int w)),(5,true,.v (.int .i64 i))],[]⟩) (fun i=>i<=rows.length/\∀ j,j < i->rows.getD j []≠w) (fun i=>rows.length - i) (0) (⟨nz0 _,fun j h=>by omega⟩) ?_ ?_
 ·exact Le.s
 rintro i ⟨hi,hne⟩ ih
 try simp only []
 refine Run.R ?_
 refine Run.c ?_ ?_
 rotate_left
 ·intro h
  have h:i=rows.length:=by rw [dfE]at h;omega
  refine Run.x ?_
  refine Run.R ?_
  refine Run.r [4] ?_
  have hm:¬w∈rows:=fun hm=>by
   obtain⟨j,hj,e⟩:=List.getElem_of_mem hm
   exact hne j om (by rw [getD_eq hj];exact e)
  exact⟨by simp [hm],rfl⟩
 intro h
 have h:i < rows.length:=by rw [dtE]at h;omega
 have hri:(rows.getD i []).length<=1048576:=hr _ (by rw [getD_eq h];exact List.getElem_mem h)
 refine Run.g fun K hK=>?_
 refine FunA.e hP hT (c_spec_EqualWords (rows.getD i []) w om) ?_
 refine wE ?_;clear hK K
 refine Run.c ?_ ?_
 ·intro h2
  have h2:rows.getD i []=w:=by simpa using h2
  refine Run.R ?_
  refine Run.r [4] ?_
  have hm:w∈rows:=by rw [<- h2,getD_eq h];exact List.getElem_mem h
  exact⟨by simp [hm],rfl⟩
 intro h2
 have h2:rows.getD i []≠w:=by intro e;rw [e]at h2;simp at h2
 have hne2:∀ j,j < i+1->rows.getD j []≠w:=fun j hj=>by
  by_cases e:j=i
  ·rw [e];exact h2
  ·exact hne j om
 refine Run.RW ?_
 exact Run.j (ih (i+1) (⟨by omega,hne2⟩) mz)
end Go.Proofs.YtcinngodeoidnaaGreat
namespace Go.Cox
variable {A:Mat} {n:Nat}
theorem act_lin (A:Mat) (N:Int) (u v:Vec):∀ w,act A w (fun k=>u k+N*v k)=fun k=>act A w u k+N*act A w v k
 | []=>rfl
 | i :: w=>by
  rw [act_cons,act_lin A N u v w,act_cons,act_cons]
  funext k
  simp only [refl]
  grind
theorem play_len (hA:Cartan A n) {u u':Vec} (hu:∀ i,i < n->0 < u i) (hu':∀ i,i < n->0 < u' i) {w t t':List Nat} (hw:∀ i∈w,i < n) (h:Play A n (act A w u) t u) (h':Play A n (act A w u') t' u'):t.length=t'.length:=by
 have key:∀ {u u':Vec} {t t':List Nat},(∀ i,i < n->0 < u i)->(∀ i,i < n->0 < u' i)->Play A n (act A w u) t u->Play A n (act A w u') t' u'->t'.length<=t.length:=by
  intro u u' t t' hu hu' h h'
  obtain⟨s,hs,_,_,es⟩:=back hA hu w hw
  obtain⟨s',hs',hl,_,_⟩:=back hA hu' s hs.mem
  rw [es]at hs'
  obtain⟨r,_,hb⟩:=conv hA _ rfl hs (fun i hi=>Int.le_of_lt (hu i hi)) h
  obtain⟨r',_,hb'⟩:=conv hA _ rfl h (fun i hi=>Int.le_of_lt (hu i hi)) hs
  obtain⟨q,_,hq⟩:=conv hA _ rfl hs' (fun i hi=>Int.le_of_lt (hu' i hi)) h'
  have h1:=hb.length
  have h2:=hq.length
  have h3:=hb'.length
  simp at h1 h2 h3
  omega
 exact Nat.le_antisymm (key hu' hu h' h) (key hu hu' h h')
theorem sign_indep (hA:Cartan A n) {u u':Vec} (hu:∀ i,i < n->0 < u i) (hu':∀ i,i < n->0 < u' i) {w:List Nat} (hw:∀ i∈w,i < n) {j:Nat} (hj:j < n) (h:act A w u j < 0):act A w u' j < 0:=by
 obtain⟨t,ht,_,_,_⟩:=back hA hu w hw
 obtain⟨t',ht',_,_,_⟩:=back hA hu' w hw
 have hnz:=nonzero hA _ rfl ht' hu' j hj
 refine Classical.byContradiction fun hn=>?_
 have hpos:0 < act A w u' j:=by omega
 have e:=play_len hA hu hu' hw ht ht'
 have hjw:∀ i∈j :: w,i < n:=fun i hi=>by rcases List.mem_cons.1 hi with rfl | hi;exact hj;exact hw i hi
 obtain⟨r,hr,hb⟩:=conv hA _ rfl ht (fun i hi=>Int.le_of_lt (hu i hi)) (.cons hj h (.nil _))
 have h1:Play A n (act A (j :: w) u') (j :: t') u':=.cons hj (by rw [act_cons,refl_self (hA.diag j hj)];omega) (by rw [act_cons,refl_refl (hA.diag j hj)];exact ht')
 have:=play_len hA hu hu' hjw hr h1
 have h2:=hb.length
 simp at h2 this
 omega
theorem coh_pos (hA:Cartan A n) {u:Vec} (hu:∀ i,i < n->0 < u i) {w:List Nat} (hw:∀ i∈w,i < n) {j:Nat} (hj:j < n) (h:0 < act A w u j) {v:Vec} (hv:∀ i,i < n->0<=v i):0<=act A w v j:=by
 refine Classical.byContradiction fun hn=>?_
 have hu':∀ i,i < n->0 < (fun k=>u k+(act A w u j+1)*v k) i:=fun i hi=>by
  have h1:=hu i hi
  have h2:0<=(act A w u j+1)*v i:=Int.mul_nonneg om (hv i hi)
  show 0 < u i+(act A w u j+1)*v i
  omega
 have e:=congrFun (act_lin A (act A w u j+1) u v w) j
 have hneg:act A w (fun k=>u k+(act A w u j+1)*v k) j < 0:=by
  rw [e]
  have h3:(act A w u j+1)*act A w v j<=(act A w u j+1)*(-1):=Int.mul_le_mul_of_nonneg_left om om
  omega
 have:=sign_indep hA hu' hu hw hj hneg
 omega
theorem coh_neg (hA:Cartan A n) {u:Vec} (hu:∀ i,i < n->0 < u i) {w:List Nat} (hw:∀ i∈w,i < n) {j:Nat} (hj:j < n) (h:act A w u j < 0) {v:Vec} (hv:∀ i,i < n->0<=v i):act A w v j<=0:=by
 have e:act A (j :: w) u j = -act A w u j:=by rw [act_cons,refl_self (hA.diag j hj)]
 have e2:act A (j :: w) v j = -act A w v j:=by rw [act_cons,refl_self (hA.diag j hj)]
 have:=coh_pos hA hu (w:=j :: w) (fun i hi=>by rcases List.mem_cons.1 hi with rfl | hi;exact hj;exact hw i hi) hj om hv
 omega
theorem turn (hA:Cartan A n) {u:Vec} (hu:∀ i,i < n->0 < u i) {p:List Nat} (hp:∀ i∈p,i < n) {s i:Nat} (hs:s < n) (hi:i < n) (h1:0 < act A p u s) (h2:act A (p ++ [i]) u s < 0):∀ x,act A (s :: p) x=act A (p ++ [i]) x:=by
 let v:Vec:=fun k=>if k=i then 0 else 1
 have hv:∀ j,j < n->0<=v j:=fun j _=>by show 0<=(if j=i then(0:Int)else 1);split<;>omega
 have hvi:v i=0:=if_pos rfl
 have rv:refl A i v=v:=by funext k;simp only [refl,hvi];omega
 have hpi:∀ j∈p ++ [i],j < n:=fun j hj=>by
  rcases List.mem_append.1 hj with hj | hj
  ·exact hp j hj
  ·simp at hj;rw [hj];exact hi
 have f1:=coh_pos hA hu hp hs h1 hv
 have f2:=coh_neg hA hu hpi hs h2 hv
 rw [act_append]at f2
 have e0:act A [i] v=v:=rv
 rw [e0]at f2
 have f0:act A p v s=0:=by omega
 have hsp:act A (s :: p) v=act A p v:=by
  rw [act_cons];funext k;simp only [refl,f0];omega
 have hyl:∀ j∈p.reverse ++ (s :: p),j < n:=fun j hj=>by
  rcases List.mem_append.1 hj with hj | hj
  ·exact hp j (by simpa using hj)
  ·rcases List.mem_cons.1 hj with rfl | hj
   ·exact hs
   ·exact hp j hj
 have rp:∀ x,act A p.reverse (act A p x)=x:=fun x=>by rw [act_reverse,run_act hA p hp]
 have rp2:∀ x,act A p (act A p.reverse x)=x:=fun x=>by rw [act_reverse,act_run hA p hp]
 have hyv:act A (p.reverse ++ (s :: p)) v=v:=by rw [act_append,hsp,rp]
 obtain⟨t,ht,_,_,et⟩:=back hA hu (p.reverse ++ (s :: p)) hyl
 have hti:∀ x,act A (p.reverse ++ (s :: p)) x=refl A i x:=by
  generalize hy0:act A (p.reverse ++ (s :: p)) u=y0 at ht
  cases ht with
  | nil=>
   exfalso
   have:=et u
   rw [act_nil,act_append]at this
   have h3:=congrArg (act A p) this
   rw [rp2,act_cons]at h3
   have h4:=congrFun h3 s
   rw [refl_self (hA.diag s hs)]at h4
   omega
  | @cons _ _ b t' hb hyb ht'=>
   have hbi:b=i:=by
    have:=coh_neg hA hu hyl hb (by rw [hy0];exact hyb) hv
    rw [hyv]at this
    refine Classical.byContradiction fun hn=>?_
    have:v b=1:=if_neg hn
    omega
   subst hbi
   cases ht' with
   | nil=>intro x;rw [<- et];rfl
   | @cons _ _ b' t'' hb' hyb' _=>
    exfalso
    have hyl2:∀ j∈b :: (p.reverse ++ (s :: p)),j < n:=fun j hj=>by
     rcases List.mem_cons.1 hj with rfl | hj
     ·exact hb
     ·exact hyl j hj
    have hyb2:act A (b :: (p.reverse ++ (s :: p))) u b' < 0:=by rw [act_cons,hy0];exact hyb'
    have:=coh_neg hA hu hyl2 hb' hyb2 hv
    rw [act_cons,hyv,rv]at this
    have hbi':b'=b:=by
     refine Classical.byContradiction fun hn=>?_
     have:v b'=1:=if_neg hn
     omega
    subst hbi'
    rw [act_cons,refl_self (hA.diag _ hb),hy0]at hyb2
    omega
 intro x
 have h5:=congrArg (act A p) (hti x)
 rw [act_append,rp2]at h5
 rw [h5,act_append]
 rfl
theorem exch (hA:Cartan A n) {u:Vec} (hu:∀ i,i < n->0 < u i) {s:Nat} (hs:s < n):∀(w p:List Nat),(∀ i∈w,i < n)->(∀ i∈p,i < n)->0 < act A p u s->act A (p ++ w) u s < 0 ->
  ∃ a i b,w=a ++ i :: b/\∀ x,act A (s :: (p ++ w)) x=act A (p ++ (a ++ b)) x
 | [],p,_,_,h1,h2=>by rw [List.append_nil]at h2;omega
 | i :: w,p,hw,hp,h1,h2=>by
  have hi:=hw i (mcS ..)
  have hw':∀ j∈w,j < n:=fun j hj=>hw j (mcM _ hj)
  have hpi:∀ j∈p ++ [i],j < n:=fun j hj=>by
   rcases List.mem_append.1 hj with hj | hj
   ·exact hp j hj
   ·simp at hj;rw [hj];exact hi
  obtain⟨t,ht,_,_,_⟩:=back hA hu (p ++ [i]) hpi
  have hnz:=nonzero hA _ rfl ht hu s hs
  have e:p ++ i :: w=p ++ [i] ++ w:=by simp
  by_cases h3:act A (p ++ [i]) u s < 0
  ·refine⟨[],i,w,rfl,fun x=>?_⟩
   have:=turn hA hu hp hs hi h1 h3 (act A w x)
   rw [act_cons,e,act_append A (p ++ [i]) w,act_append A p ([] ++ w),<- turn hA hu hp hs hi h1 h3,act_cons,refl_refl (hA.diag s hs)]
   rfl
  ·obtain⟨a,j,b,h4,h5⟩:=exch hA hu hs w (p ++ [i]) hw' hpi om (by rw [<- e];exact h2)
   refine⟨i :: a,j,b,by rw [h4];rfl,fun x=>?_⟩
   rw [e,h5]
   simp
end Go.Cox
namespace Go.Proofs.YtcinngodeoidnaaGreat
open Go Go.Aw
theorem cmpN_neg (p q:LI):∀ n i,cmpN q p n i = - cmpN p q n i
 | 0,i=>rfl
 | n+1,i=>by
  have ih:=cmpN_neg p q n (i+1)
  simp only [cmpN]
  by_cases h1:p.getD i 0 < q.getD i 0
  ·rw [if_pos h1,if_neg om,if_pos om];rfl
  ·by_cases h2:p.getD i 0 > q.getD i 0
   ·have h3:q.getD i 0 < p.getD i 0:=h2
    simp only [h1,h2,h3,if_true,if_false]
   ·rw [if_neg h1,if_neg h2,if_neg om,if_neg om];exact ih
theorem cmpW_neg (p q:LI):cmpW q p = - cmpW p q:=by
 unfold cmpW
 by_cases h1:p.length < q.length
 ·rw [if_pos h1,if_neg om,if_pos om];rfl
 ·by_cases h2:p.length > q.length
  ·have h3:q.length < p.length:=h2
   simp only [h1,h2,h3,if_true,if_false]
  ·rw [if_neg h1,if_neg h2,if_neg om,if_neg om,show q.length=p.length by omega];exact cmpN_neg p q _ 0
def StrictW (l:LL):Prop:=l.Pairwise fun p q=>cmpW p q < 0
theorem StrictW.nil:StrictW []:=List.Pairwise.nil
theorem putS_true (w:LI):∀ l,putS w true l=l
 | []=>rfl
 | x :: l=>by simp only [putS];rw [if_neg (by simp),Bool.true_or,putS_true w l]
theorem putS_mem (w:LI):∀(l:LL) (z:LI),z∈putS w false l↔z=w\/z∈l
 | [],z=>by simp [putS]
 | x :: l,z=>by
  simp only [putS]
  by_cases h:cmpW w x < 0
  ·rw [if_pos ⟨h,trivial⟩,putS_true];simp
  ·rw [if_neg (by simp [h])]
   by_cases h0:cmpW w x=0
   ·have e:=(cmpW_zero w x).1 h0
    rw [show(false || cmpW w x == 0)=true by simp [h0],putS_true,e];simp
   ·rw [show(false || cmpW w x == 0)=false by simp [h0]]
    simp only [List.mem_cons,putS_mem w l z]
    constructor
    ·rintro(h | h | h)<;>simp [h]
    ·rintro(h | h | h)<;>simp [h]
theorem putS_strict (w:LI):∀ {l:LL},StrictW l->StrictW (putS w false l)
 | [],_=>by unfold StrictW;simp [putS]
 | x :: l,hl=>by
  obtain⟨h1,h2⟩:=List.pairwise_cons.1 hl
  simp only [putS]
  by_cases h:cmpW w x < 0
  ·rw [if_pos ⟨h,trivial⟩,putS_true]
   refine List.pairwise_cons.2 ⟨fun z hz=>?_,hl⟩
   rcases List.mem_cons.1 hz with rfl | hz
   ·exact h
   ·exact cmpW_lt_trans h (h1 z hz)
  ·rw [if_neg (by simp [h])]
   by_cases h0:cmpW w x=0
   ·rw [show(false || cmpW w x == 0)=true by simp [h0],putS_true];exact hl
   ·rw [show(false || cmpW w x == 0)=false by simp [h0]]
    refine List.pairwise_cons.2 ⟨fun z hz=>?_,putS_strict w h2⟩
    rcases(putS_mem w l z).1 hz with rfl | hz
    ·have:=cmpW_neg z x;omega
    ·exact h1 z hz
def srtL' (l0 L:LL):List (List Int):=L.foldl (fun l w=>putS w false l) l0
def srt (L:LL):List (List Int):=srtL' [] L
theorem srt_spec (L:LL):StrictW (srt L)/\∀ z,z∈srt L↔z∈L:=by
 have key:∀(L l0:LL),StrictW l0->StrictW (srtL' l0 L)/\∀ z,z∈srtL' l0 L↔z∈l0\/z∈L:=by
  intro L
  induction L with
  | nil=>intro l0 h;exact⟨h,fun z=>by simp [srtL']⟩
  | cons w L ih=>
   intro l0 h
   obtain⟨h1,h2⟩:=ih (putS w false l0) (putS_strict w h)
   refine⟨h1,fun z=>?_⟩
   show z∈srtL' (putS w false l0) L↔_
   rw [h2 z,putS_mem]
   simp only [List.mem_cons]
   constructor
   ·rintro((h | h) | h)<;>simp [h]
   ·rintro(h | h | h)<;>simp [h]
 obtain⟨h1,h2⟩:=key L [] StrictW.nil
 exact⟨h1,fun z=>by rw [show srt L=srtL' [] L from rfl,h2 z];simp⟩
open Go.Cox
def delA (x:LI) (k:Nat):List Int:=x.take k ++ x.drop (k+1)
theorem delA_app (u t:LI) (a:Int) {k:Nat} (h:u.length=k):delA (u ++ a :: t) k=u ++ t:=by
 subst h
 simp [delA]
theorem delA_len {x:LI} {k:Nat} (h:k < x.length):(delA x k).length+1=x.length:=by unfold delA;simp;omega
def Pre (c:LL) (x z:LI):Prop:=letters c.length z/\redL c z=z/\∃ v,letters c.length v/\imageL c (z ++ v)=imageL c x/\z.length+v.length=x.length
def Nf (c:LL) (x:LI):Prop:=letters c.length x/\redL c x=x/\x.length<=30
theorem nf_idem {c:LL} (hc:CartanP c) {w:LI} (hw:letters c.length w) (hl:w.length<=31):redL c (redL c w)=redL c w:=red_eq (red_spec hc hw hl).2.2.2.1
theorem Nf.red {c:LL} (hc:CartanP c) {x:LI} (h:Nf c x):Red c x:=by
 have:=red_Red hc h.1 (by have:=h.2.2;omega)
 rwa [h.2.1]at this
theorem Nf.far {c:LL} (hc:CartanP c) {x:LI} (h:Nf c x):Far c x.length (imageL c x):=(h.red hc).2
theorem Nf.short {c:LL} (hc:CartanP c) {x:LI} (h:Nf c x) {u:LI} (hu:letters c.length u) (he:imageL c u=imageL c x):x.length<=u.length:=by
 obtain⟨L,h1,_,h3⟩:=Far.image hc hu
 rw [he]at h3
 have:=(h.far hc).uniq hc h3
 omega
theorem Pre.nf {c:LL} {x z:LI} (hx:Nf c x) (h:Pre c x z):Nf c z:=by
 obtain⟨h1,h2,v,h3,h4,h5⟩:=h
 exact⟨h1,h2,by have:=hx.2.2;omega⟩
theorem Pre.refl {c:LL} {x:LI} (hx:Nf c x):Pre c x x:=⟨hx.1,hx.2.1,[],letters_nil _,by rw [List.append_nil],by simp⟩
theorem nf_red {c:LL} (hc:CartanP c) {u:LI} (hu:letters c.length u) (hl:u.length<=31) (hr:(redL c u).length<=30):Nf c (redL c u):=
 ⟨(red_spec hc hu hl).1,nf_idem hc hu hl,hr⟩
theorem letter1 {n:Nat} {i:Nat} (h:i < n):letters n [(i:Int)]:=letters_cons.2 ⟨by omega,letters_nil _⟩
theorem image_same_app {c:LL} (hc:CartanP c) {a b:LI} (ha:letters c.length a) (hb:letters c.length b) (h:imageL c a=imageL c b) (t:LI):imageL c (a ++ t)=imageL c (b ++ t):=by
 rw [image_append,image_append];exact same_elt hc ha hb h (imageL_length c _)
theorem image_two {c:LL} (hc:CartanP c) (y:LI) {i:Nat} (hi:i < c.length) (t:LI):imageL c (y ++ [(i:Int)] ++ ((i:Int) :: t))=imageL c (y ++ t):=by
 rw [List.append_assoc,image_append,image_append]
 show actL c y (reflL c i (reflL c i (imageL c t)))=_
 rw [refl2 hc (i:=(i:Int)) om (imageL_length c _)]
 exact(image_append c y t).symm
theorem Pre.down {c:LL} (hc:CartanP c) {x y:LI} (hx:Nf c x) (hy:Pre c x y) {i:Nat} (hi:i < c.length) (hlt:(redL c (y ++ [(i:Int)])).length < y.length):Pre c x (redL c (y ++ [(i:Int)])):=by
 have hny:=hy.nf hx
 obtain⟨h1,h2,v,h3,h4,h5⟩:=hy
 have hl:letters c.length (y ++ [(i:Int)]):=letters_append.2 ⟨h1,letter1 hi⟩
 have hlen:(y ++ [(i:Int)]).length<=31:=by have:=hny.2.2;simp;omega
 obtain⟨a1,a2,a3,a4,a5⟩:=red_spec hc hl hlen
 have hvi:letters c.length ((i:Int) :: v):=letters_cons.2 ⟨by omega,h3⟩
 have him:imageL c (redL c (y ++ [(i:Int)]) ++ ((i:Int) :: v))=imageL c x:=by
  rw [image_same_app hc a1 hl a4,image_two hc y hi,h4]
 have hs:=hx.short hc (letters_append.2 ⟨a1,hvi⟩) him
 simp at hs a3
 refine⟨a1,nf_idem hc hl hlen,(i:Int) :: v,hvi,him,?_⟩
 simp
 omega
theorem red_of_nil {c:LL} (hc:CartanP c):redL c []=[]:=by
 have:=(red_spec hc (letters_nil c.length) (by simp)).2.1
 exact nilZ (by simpa using this)
theorem Pre.nil {c:LL} (hc:CartanP c) {x:LI} (hx:Nf c x):Pre c x []:=⟨letters_nil _,red_of_nil hc,x,hx.1,rfl,by simp⟩
theorem wkB_pre {c:LL} (hc:CartanP c) {x l:LI} (hx:Nf c x) (hx15:x.length<=15) (hl:Nf c l) (hl15:l.length<=15):wkB c l x=true↔Pre c x l:=by
 have hW1:wordB c l=true:=wordB_iff.2 ⟨hc,hl15,hl.1⟩
 have hW2:wordB c x=true:=wordB_iff.2 ⟨hc,hx15,hx.1⟩
 have hrl:=letters_reverse hl.1
 have hlx:letters c.length (l.reverse ++ x):=letters_append.2 ⟨hrl,hx.1⟩
 have hlen:(l.reverse ++ x).length<=31:=by simp;omega
 obtain⟨a1,a2,a3,a4,a5⟩:=red_spec hc hlx hlen
 have hback:imageL c (l ++ redL c (l.reverse ++ x))=imageL c x:=by
  rw [image_append,a4,image_append]
  have:=act_rev hc l.reverse hrl (v:=imageL c x) (imageL_length c _)
  rw [List.reverse_reverse]at this
  exact this
 unfold wkB
 rw [hW1,hW2,hl.2.1,hx.2.1]
 simp only [Bool.true_and,dtE]
 constructor
 ·intro h
  exact⟨hl.1,hl.2.1,_,a1,hback,h⟩
 ·rintro⟨h1,h2,v,h3,h4,h5⟩
  have hs:=hx.short hc (letters_append.2 ⟨hl.1,a1⟩) hback
  have hv:imageL c (l.reverse ++ x)=imageL c v:=by
   rw [image_append,<- h4,image_append]
   exact act_rev hc l hl.1 (imageL_length c _)
  obtain⟨L,k1,_,k3⟩:=Far.image hc h3
  rw [<- hv]at k3
  have:=a5.uniq hc k3
  simp at hs
  omega
theorem nodup_on {α β:Type} (f:α->β):∀ {l:List α},(∀ a∈l,∀ b∈l,f a=f b->a=b)->l.Nodup->(l.map f).Nodup
 | [],_,_=>by simp
 | x :: l,h,hn=>by
  obtain⟨h1,h2⟩:=List.nodup_cons.1 hn
  rw [List.map_cons,List.nodup_cons]
  refine⟨fun hm=>?_,nodup_on f (fun a ha b hb=>h a (mcM _ ha) b (mcM _ hb)) h2⟩
  obtain⟨y,hy,e⟩:=List.mem_map.1 hm
  rw [h y (mcM _ hy) x (mcS ..) e]at hy
  exact h1 hy
theorem nodup_le {α:Type} [DecidableEq α]:∀ {a b:List α},a.Nodup->(∀ x∈a,x∈b)->a.length<=b.length
 | [],b,_,_=>nz0 _
 | x :: a,b,hn,h=>by
  obtain⟨h1,h2⟩:=List.nodup_cons.1 hn
  have hx:=h x (mcS ..)
  have:=nodup_le (a:=a) (b:=b.erase x) h2 (fun y hy=>by
   have hne:y≠x:=fun e=>h1 (e▸hy)
   exact(List.mem_erase_of_ne hne).2 (h y (mcM _ hy)))
  rw [List.length_erase_of_mem hx]at this
  have hp:0 < b.length:=List.length_pos_of_mem hx
  simp only [lenC]
  omega
def FewP (R:List Int->Prop):Prop:=∃ L:List (List Int),L.Nodup/\(∀ z,z∈L↔R z)/\L.length<=200
open Classical in
noncomputable def fewB (R:List Int->Prop):Bool:=decide (FewP R)
open Classical in
noncomputable def fewL (R:List Int->Prop):List (List Int):=if h:FewP R then srt h.choose else []
theorem fewL_mem {R:List Int->Prop} {z:LI} (h:z∈fewL R):R z:=by
 unfold fewL at h
 split at h
 ·rename_i hf
  rw [(srt_spec _).2]at h
  exact(hf.choose_spec.2.1 z).1 h
 ·simp at h
theorem delA_nat (w:LI) (k:Nat):nat (delA w k)=(nat w).take k ++ (nat w).drop (k+1):=by
 simp [nat,delA,List.map_take,List.map_drop]
theorem delA_sub (w:LI) (k:Nat):(delA w k).Sublist w:=by
 unfold delA
 have h:=List.take_append_drop k w
 have h2:(w.take k ++ w.drop (k+1)).Sublist (w.take k ++ w.drop k):=by
  refine List.Sublist.append (List.Sublist.refl _) ?_
  rw [<- List.drop_drop]
  exact List.drop_sublist 1 _
 rwa [h]at h2
theorem letters_sub {n:Nat} {u w:LI} (h:u.Sublist w) (hw:letters n w):letters n u:=fun i hi=>hw i (h.subset hi)
theorem exL {c:LL} (hc:CartanP c) {p w:LI} (hp:letters c.length p) (hw:letters c.length w) {s:Int} (hs:0<=s/\s < c.length) (h1:0 < (imageL c p).getD s.toNat 0) (h2:(imageL c (p ++ w)).getD s.toNat 0 < 0) :
  ∃ k,k < w.length/\imageL c (s :: (p ++ w))=imageL c (p ++ delA w k):=by
 have hA:=matA_cartan hc
 have hpw:=letters_append.2 ⟨hp,hw⟩
 have nap:∀ a b:List Int,nat (a ++ b)=nat a ++ nat b:=fun a b=>by simp [nat]
 have e1:vecL (imageL c p)=act (matA c) (nat p) (vecL (ones c.length)):=vec_act (ones_length _) p
 have e2:vecL (imageL c (p ++ w))=act (matA c) (nat p ++ nat w) (vecL (ones c.length)):=by rw [<- nap];exact vec_act (ones_length _) _
 obtain⟨a,i,b,hab,hx⟩:=exch hA (vec_ones c.length) (s:=s.toNat) om (nat w) (nat p) (letters_nat hw) (letters_nat hp) (by rw [<- e1];exact h1) (by rw [<- e2];exact h2)
 have hk:a.length < w.length:=by
  have:=congrArg List.length hab
  simp [nat]at this
  omega
 refine⟨a.length,hk,?_⟩
 apply vec_inj (by rw [imageL_length,imageL_length])
 rw [imageL,imageL,vec_act (ones_length _),vec_act (ones_length _)]
 have e3:nat (s :: (p ++ w))=s.toNat :: (nat p ++ nat w):=by rw [<- nap];rfl
 have e4:nat (p ++ delA w a.length)=nat p ++ (a ++ b):=by
  rw [nap,delA_nat,hab]
  simp
 rw [e3,e4]
 exact hx _
theorem exW {c:LL} (hc:CartanP c) {w:LI} (hw:letters c.length w) {s:Int} (hs:0<=s/\s < c.length) (h2:(imageL c w).getD s.toNat 0 < 0):∃ k,k < w.length/\imageL c (s :: w)=imageL c (delA w k):=by
 have:=exL hc (letters_nil _) hw hs (by
  show 0 < (ones c.length).getD s.toNat 0
  have hh:s.toNat < c.length:=by omega
  simp [ones,List.getD,hh]) (by simpa using h2)
 simpa using this
def SubI (c:LL) (w v:LI):Prop:=∃ u,u.Sublist w/\imageL c u=v
theorem SubI.mono {c:LL} {w x v:LI} (h:SubI c w v) (k:w.Sublist x):SubI c x v:=by
 obtain⟨u,h1,h2⟩:=h
 exact⟨u,h1.trans k,h2⟩
theorem SubI.self (c:LL) (w:LI):SubI c w (imageL c w):=⟨w,List.Sublist.refl _,rfl⟩
theorem SubI.len {c:LL} {w v:LI} (h:SubI c w v):v.length=c.length:=by
 obtain⟨u,_,rfl⟩:=h
 exact imageL_length c u
theorem refl_at' {c:LL} (hc:CartanP c) {i:Int} (hi:0<=i/\i < c.length) {v:LI} (hv:v.length=c.length):(reflL c i v).getD i.toNat 0 = - v.getD i.toNat 0:=by
 have d:ent c i.toNat i.toNat=2:=(matA_cartan hc).diag i.toNat om
 have g:=reflL_get c i v i.toNat om
 rw [d]at g
 omega
theorem sub_cons {c:LL} (hc:CartanP c) {i:Int} {w:LI} (hw:letters c.length (i :: w)) {v:LI} (hv:v.length=c.length) :
  SubI c (i :: w) v↔if v.getD i.toNat 0 < 0 then SubI c w (reflL c i v)else SubI c w v:=by
 obtain⟨hi,hr⟩:=letters_cons.1 hw
 constructor
 ·rintro⟨u,hu0,rfl⟩
  rcases List.sublist_cons_iff.1 hu0 with hu | ⟨r,rfl,hu⟩
  ·split
   ·rename_i h
    obtain⟨k,_,hk⟩:=exW hc (letters_sub hu hr) hi h
    exact⟨delA u k,(delA_sub u k).trans hu,by rw [<- hk];rfl⟩
   ·exact⟨u,hu,rfl⟩
  ·have hrl:=letters_sub hu hr
   split
   ·refine⟨r,hu,?_⟩
    exact(refl2 hc hi (imageL_length c r)).symm
   ·rename_i h
    have e:=refl_at' hc hi (imageL_length c r)
    have hnz:(imageL c r).getD i.toNat 0≠0:=by
     obtain⟨L,_,_,k3⟩:=Far.image hc hrl
     exact k3.nz hc i.toNat om
    have h:¬(reflL c i (imageL c r)).getD i.toNat 0 < 0:=h
    obtain⟨k,_,hk⟩:=exW hc hrl hi om
    exact⟨delA r k,(delA_sub r k).trans hu,hk.symm⟩
 ·intro h
  split at h
  ·obtain⟨u,h1,h2⟩:=h
   refine⟨i :: u,List.Sublist.cons_cons i h1,?_⟩
   show reflL c i (imageL c u)=v
   rw [h2,refl2 hc hi hv]
  ·exact h.mono (List.sublist_cons_self i w)
theorem len_app {c:LL} (hc:CartanP c) {a b:LI} (ha:letters c.length a) (hb:letters c.length b) {K M:Nat} (h1:Far c K (imageL c (a ++ b))) (h2:Far c M (imageL c b)) (hM:M<=31):K<=a.length+M:=by
 obtain⟨r1,r2,r3⟩:=nfL_far hc 31 M h2 hM
 obtain⟨L,k1,_,k3⟩:=Far.image hc (w:=a ++ nfL c 31 (imageL c b)) (letters_append.2 ⟨ha,r2⟩)
 rw [image_append,r3,<- image_append]at k3
 have:=h1.uniq hc k3
 simp at k1
 omega
theorem Red.tail {c:LL} (hc:CartanP c) {a b:LI} (hl:b.length<=31) (h:Red c (a ++ b)):Red c b:=by
 obtain⟨ha,hb⟩:=letters_append.1 h.1
 obtain⟨L,k1,_,k3⟩:=Far.image hc hb
 have:=len_app hc ha hb h.2 k3 om
 simp at this
 have e:L=b.length:=by omega
 exact⟨hb,by rw [<- e];exact k3⟩
theorem Red.rev {c:LL} (hc:CartanP c) {a:LI} (hl:a.length<=31) (h:Red c a):Red c a.reverse:=by
 have hr:=letters_reverse h.1
 obtain⟨a1,a2,a3,a4,a5⟩:=red_spec hc hr (by simpa using hl)
 have e:imageL c (redL c a.reverse).reverse=imageL c a:=by
  have:=rev_same hc a1 hr a4 (ones_length c.length)
  rw [List.reverse_reverse]at this
  exact this
 obtain⟨L,k1,_,k3⟩:=Far.image hc (letters_reverse a1)
 rw [e]at k3
 have:=h.2.uniq hc k3
 simp at k1 a2
 refine⟨hr,?_⟩
 have e2:(redL c a.reverse).length=a.reverse.length:=by simp;omega
 rw [<- e2]
 exact a5
theorem Red.head {c:LL} (hc:CartanP c) {a b:LI} (hl:a.length+b.length<=31) (h:Red c (a ++ b)):Red c a:=by
 have h1:=h.rev hc (by simpa using hl)
 rw [List.reverse_append]at h1
 have h2:=(h1.tail hc (by simp;omega)).rev hc (by simp;omega)
 rwa [List.reverse_reverse]at h2
theorem Red.pos {c:LL} (hc:CartanP c) {i:Int} {b:LI} (h:Red c (i :: b)):0 < (imageL c b).getD i.toNat 0:=by
 obtain⟨hi,hb⟩:=letters_cons.1 h.1
 obtain⟨L,k1,_,k3⟩:=Far.image hc hb
 have hnz:=k3.nz hc i.toNat om
 refine Classical.byContradiction fun hn=>?_
 obtain⟨M,h1,h2⟩:=k3.down hc hi om
 have:=h.2.uniq hc h2
 simp at this
 omega
theorem Red.up {c:LL} (hc:CartanP c) {i:Int} (hi:0<=i/\i < c.length) {b:LI} (h:Red c b) (hp:0 < (imageL c b).getD i.toNat 0):Red c (i :: b):=
 ⟨letters_cons.2 ⟨hi,h.1⟩,h.2.up hc hi hp⟩
theorem Red.of {c:LL} (hc:CartanP c) {a b:LI} (ha:letters c.length a) (h:Red c b) (he:imageL c a=imageL c b) (hl:a.length<=b.length):Red c a:=by
 obtain⟨L,k1,_,k3⟩:=Far.image hc ha
 have h2:=h.2
 rw [<- he]at h2
 have:=h2.uniq hc k3
 have e:b.length=a.length:=by omega
 rw [e]at h2
 exact⟨ha,h2⟩
theorem exS {c:LL} (hc:CartanP c) {y u:LI} (hy:Red c y) (hl:y.length<=30) (hu:letters c.length u) (he:imageL c u=imageL c y) {k:Nat} (hk:k < y.length):∃ j,j < u.length/\imageL c (delA u j)=imageL c (delA y k):=by
 obtain⟨a,i,b,hab,hak⟩:∃ a i b,y=a ++ i :: b/\a.length=k:=⟨y.take k,y[k],y.drop (k+1),by rw [<- List.drop_eq_getElem_cons hk,List.take_append_drop],by simp;omega⟩
 have hlen:y.length=a.length+b.length+1:=by rw [hab];simp;omega
 have hyab:=hy
 rw [hab]at hyab
 obtain⟨la,lib⟩:=letters_append.1 hyab.1
 obtain⟨hi,lb⟩:=letters_cons.1 lib
 have h1:0 < (imageL c a.reverse).getD i.toNat 0:=by
  have h2:Red c ((a ++ [i]) ++ b):=by simpa using hyab
  have h3:=(h2.head hc (by simp;omega)).rev hc (by simp;omega)
  rw [List.reverse_append]at h3
  exact Red.pos hc h3
 have hib:Red c (i :: b):=hyab.tail hc (by simp;omega)
 have hra:=letters_reverse la
 have e1:imageL c (a.reverse ++ u)=imageL c (i :: b):=by
  rw [image_append,he,hab,image_append]
  exact act_rev hc a la (imageL_length c _)
 have h2:(imageL c (a.reverse ++ u)).getD i.toNat 0 < 0:=by
  rw [e1,image_cons,refl_at' hc hi (imageL_length c b)]
  have:=Red.pos hc hib
  omega
 obtain⟨j,hj,hx⟩:=exL hc hra hu hi h1 h2
 refine⟨j,hj,?_⟩
 rw [image_cons,e1,image_cons,refl2 hc hi (imageL_length c b),image_append]at hx
 have h3:=congrArg (actL c a) hx
 have h4:=act_rev hc a.reverse hra (v:=imageL c (delA u j)) (imageL_length c _)
 rw [List.reverse_reverse]at h4
 rw [h4]at h3
 rw [<- h3,hab,delA_app a b i hak,image_append]
theorem chain_T {c:LL} (hc:CartanP c):∀(n:Nat) (y:LI),y.length=n->n<=30->Red c y ->
  (∀ v,SubI c y v->v≠imageL c y->∃ k,k < y.length/\Red c (delA y k)/\SubI c (delA y k) v) /\
  (∀ u,letters c.length u->imageL c u=imageL c y->∀ v,SubI c y v->SubI c u v):=by
 intro n
 induction n using Nat.strongRecOn with
 | _ n ih=>
  intro y hyn hn hy
  have chain:∀ v,SubI c y v->v≠imageL c y->∃ k,k < y.length/\Red c (delA y k)/\SubI c (delA y k) v:=by
   intro v hv hne
   cases y with
   | nil=>
    obtain⟨u,hu,rfl⟩:=hv
    have:u=[]:=List.sublist_nil.1 hu
    subst this
    exact(hne rfl).elim
   | cons i y1=>
    obtain⟨hi,lr⟩:=letters_cons.1 hy.1
    simp at hyn
    have hy1:Red c y1:=Red.tail hc (a:=[i]) om hy
    have hvl:=hv.len
    rw [sub_cons hc hy.1 hvl]at hv
    split at hv
    ·rename_i hneg
     have hne1:reflL c i v≠imageL c y1:=fun e=>hne (by
      have:=congrArg (reflL c i) e
      rw [refl2 hc hi hvl]at this
      exact this)
     obtain⟨k,hk,hR,hS⟩:=(ih (n - 1) om y1 om om hy1).1 _ hv hne1
     have hdl:=delA_len hk
     by_cases hpos:(imageL c (delA y1 k)).getD i.toNat 0 < 0
     ·obtain⟨j,hj,hx⟩:=exW hc hR.1 hi hpos
      have ljd:=letters_sub (delA_sub (delA y1 k) j) hR.1
      have eL:imageL c (i :: delA (delA y1 k) j)=imageL c (delA y1 k):=by
       rw [image_cons,<- hx,image_cons,refl2 hc hi (imageL_length c _)]
      have hdl2:=delA_len hj
      have lI:letters c.length (i :: delA (delA y1 k) j):=letters_cons.2 ⟨hi,ljd⟩
      have hR2:Red c (i :: delA (delA y1 k) j):=Red.of hc lI hR eL (by simp;omega)
      have s1:=(ih (delA y1 k).length om _ rfl om hR).2 _ lI eL _ hS
      rw [sub_cons hc lI (by rw [reflL_length,hvl]),if_neg (by rw [refl_at' hc hi hvl];omega)]at s1
      have s2:SubI c (i :: delA (delA y1 k) j) v:=by
       rw [sub_cons hc lI hvl,if_pos hneg];exact s1
      have s3:=(ih (i :: delA (delA y1 k) j).length (by simp;omega) _ rfl (by simp;omega) hR2).2 _ hR.1 eL.symm _ s2
      exact⟨0,by simp,by simpa [delA] using hy1,by
       have:=s3.mono (delA_sub y1 k)
       simpa [delA] using this⟩
     ·have hnz:=hR.2.nz hc i.toNat om
      have e:delA (i :: y1) (k+1)=i :: delA y1 k:=by simp [delA]
      refine⟨k+1,by simp;omega,?_,?_⟩
      ·rw [e];exact hR.up hc hi om
      ·rw [e,sub_cons hc (letters_cons.2 ⟨hi,hR.1⟩) hvl,if_pos hneg];exact hS
    ·exact⟨0,by simp,by simpa [delA] using hy1,by simpa [delA] using hv⟩
  refine⟨chain,fun u hu he v hv=>?_⟩
  by_cases hne:v=imageL c y
  ·rw [hne,<- he];exact SubI.self c u
  ·obtain⟨k,hk,hR,hS⟩:=chain v hv hne
   obtain⟨j,hj,hx⟩:=exS hc hy om hu he hk
   have hdl:=delA_len hk
   exact((ih (delA y k).length om _ rfl om hR).2 _ (letters_sub (delA_sub u j) hu) hx _ hS).mono (delA_sub u j)
theorem sub_word {c:LL} (hc:CartanP c) {y u:LI} (hy:Red c y) (hl:y.length<=30) (hu:letters c.length u) (he:imageL c u=imageL c y) {v:LI} (h:SubI c y v):SubI c u v:=(chain_T hc _ y rfl hl hy).2 u hu he v h
def Low (c:LL) (x z:LI):Prop:=Nf c z/\SubI c x (imageL c z)
theorem Low.self {c:LL} {x:LI} (h:Nf c x):Low c x x:=⟨h,SubI.self c x⟩
theorem Low.trans {c:LL} (hc:CartanP c) {x y z:LI} (h:Low c x y) (k:Low c y z) (hx:letters c.length x):Low c x z:=by
 obtain⟨hy,u,hu,he⟩:=h
 exact⟨k.1,(sub_word hc (hy.red hc) hy.2.2 (letters_sub hu hx) he k.2).mono hu⟩
theorem Low.len {c:LL} (hc:CartanP c) {x z:LI} (hx:letters c.length x) (h:Low c x z):z.length<=x.length:=by
 obtain⟨hz,u,hu,he⟩:=h
 have:=hz.short hc (letters_sub hu hx) he
 have:=hu.length_le
 omega
theorem Low.none {c:LL} (hc:CartanP c) (z:LI):Low c [] z↔z=[]:=by
 constructor
 ·rintro⟨hn,u,hu,he⟩
  have:u=[]:=List.sublist_nil.1 hu
  subst this
  rw [<- hn.2.1,<- red_eq he,red_of_nil hc]
 ·rintro rfl
  exact⟨⟨letters_nil _,red_of_nil hc,by simp⟩,[],List.Sublist.refl _,rfl⟩
end Go.Proofs.YtcinngodeoidnaaGreat
