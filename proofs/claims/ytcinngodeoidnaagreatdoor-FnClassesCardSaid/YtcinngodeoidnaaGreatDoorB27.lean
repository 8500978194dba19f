/- The order of the word of all points. -/
import Derived.Test.YtcinngodeoidnaaGreatDoorB14
import Derived.Test.YtcinngodeoidnaaGreatDoorB26
import Derived.Test.YtcinngodeoidnaaGreatDoorB13
import Derived.Test.YtcinngodeoidnaaGreatDoorB21
import Derived.Test.YtcinngodeoidnaaGreatDoorB24
import Derived.Test.YtcinngodeoidnaaGreatDoorB8
set_option linter.unusedVariables false
set_option linter.unusedSimpArgs false
namespace Go.Proofs.YtcinngodeoidnaaGreatDoor
open Go Go.Aw Go.Cox
def pwN (w:LI):Nat->List Int
 | 0=>[]
 | n+1=>pwN w n ++ w
theorem pwN_act (c:LL) (w:LI):∀(n:Nat) (v:LI),actL c (pwN w n) v=itW c w n v
 | 0,v=>rfl
 | n+1,v=>by rw [pwN,actL_append,pwN_act c w n];rfl
theorem itW_succ (c:LL) (w:LI):∀(n:Nat) (v:LI),itW c w (n+1) v=actL c w (itW c w n v)
 | 0,_=>rfl
 | n+1,v=>by show itW c w (n+1) (actL c w v)=_;rw [itW_succ c w n];rfl
theorem pwN_letters {n:Nat} {w:LI} (h:letters n w):∀ k,letters n (pwN w k)
 | 0=>letters_nil n
 | k+1=>letters_append.2 ⟨pwN_letters h k,h⟩
theorem upto_letters (n:Nat):letters n (upto n):=by
 intro i hi
 simp only [upto,List.mem_map,List.mem_range]at hi
 obtain⟨k,hk,rfl⟩:=hi
 omega
def cxN (c:LL):Nat->Nat->Nat
 | 0,k=>k
 | f+1,k=>if itW c (upto c.length) k (ones c.length)=ones c.length then k else cxN c f (k+1)
noncomputable def coxN (c:LL):Int:=if isF c then(cxN c 12 1:Nat)else 0
theorem fin_ord {c:LL} (hF:FinP c):∃ k,1<=k/\k<=12/\itW c (upto c.length) k (ones c.length)=ones c.length:=(fin_all hF).2.1
def Ahead (c:LL) (k:Nat):Prop:=1<=k/\k<=12/\cxN c 12 1=cxN c (13 - k) k/\∀ j,1<=j->j < k->itW c (upto c.length) j (ones c.length)≠ones c.length
theorem Ahead.one (c:LL):Ahead c 1:=⟨by omega,by omega,rfl,fun j h1 h2=>by omega⟩
theorem Ahead.done {c:LL} {k:Nat} (h:Ahead c k) (e:itW c (upto c.length) k (ones c.length)=ones c.length):cxN c 12 1=k:=by
 obtain⟨h1,h2,h3,_⟩:=h
 rw [h3,show 13 - k=(12 - k)+1 by omega,cxN,if_pos e]
theorem Ahead.next {c:LL} (hF:FinP c) {k:Nat} (h:Ahead c k) (e:itW c (upto c.length) k (ones c.length)≠ones c.length):Ahead c (k+1):=by
 obtain⟨h1,h2,h3,h4⟩:=h
 have hn:∀ j,1<=j->j < k+1->itW c (upto c.length) j (ones c.length)≠ones c.length:=fun j q1 q2=>by
  rcases Nat.lt_or_ge j k with q | q
  ·exact h4 j q1 q
  ·rw [show j=k by omega];exact e
 obtain⟨m,m1,m2,m3⟩:=fin_ord hF
 have hm:k+1<=m:=by
  rcases Nat.lt_or_ge m (k+1)with q | q
  ·exact absurd m3 (hn m m1 q)
  ·exact q
 refine⟨by omega,by omega,?_,hn⟩
 rw [h3,show 13 - k=(12 - k)+1 by omega,cxN,if_neg e,show 13 - (k+1)=12 - k by omega]
theorem red_nil {c:LL} (hc:CartanP c) {w:LI} (hw:letters c.length w) (hl:w.length<=31):redL c w=[]↔imageL c w=ones c.length:=by
 obtain⟨a1,a2,a3,a4,a5⟩:=red_spec hc hw hl
 constructor
 ·intro h;rw [<- a4,h];rfl
 ·intro h
  rw [h]at a5
  exact nilZ (a5.uniq hc (Far.ones c))
theorem fin_red {c:LL} (hF:FinP c) {w:LI} (hw:letters c.length w) (hl:w.length<=31):(redL c w).length<=24:=by
 obtain⟨a1,a2,a3,a4,a5⟩:=red_spec hF.1 hw hl
 exact fin_len hF _ a5
theorem c_impl_CoxeterNumber (c:LL) (hcl:c.length<=1048576):FunA B 49 [.sl false (.row false) c] (fun rs o=>rs=[.int .i64 (coxN c)]/\o=[]):=by
 refine wk Tryz.call49 Tryz.func49 rfl Tryz.ntmps49 fun C hC hP hT hfn hpin hfin hX=>wW ?_
 refine Run.R ?_
 refine Run.g fun K hK=>?_
 refine FunA.e hP hT (c_impl_IsFinite c) ?_
 refine wE ?_;clear hK K
 refine Run.c ?_ ?_
 ·intro h
  have h:isF c=false:=by simpa using h
  refine Run.R ?_
  refine Run.r [2] ?_
  simp [coxN,h]
 intro h
 have h:isF c=true:=by simpa using h
 have hF:=isF_iff.1 h
 have hc:=hF.1
 have hn:=hc.2.1
 have hcx:coxE c=upto c.length:=by simp [coxE,isC_true hc]
 have hul:=upto_length c.length
 have hup:=upto_letters c.length
 refine Run.g fun K hK=>?_
 refine FunA.cW hP hT (c_impl_CoxeterElement c hcl) ?_
 rintro rs o ⟨rfl,rfl⟩
 rw [hcx]
 refine wF ?_;clear hK K
 refine Run.R ?_
 refine Run.R ?_
 refine Run.k [0,2,3,5,6] [0,1] ?_
 refine Run.le (Le.sub (fr':=[(0,true,.v (.sl false (.row false) c)),(2,true,.v (.int .i64 0)),(3,true,.v (.own 0 0)),(5,true,.v (.own 1 0)),(6,true,.v (.int .i64 (1:Nat)))]) rfl (by simp only [AW7,simprocAttr];try simp)) ?_
 refine Run.loopI (X:=Nat×List Int×Bool) (fun k=>⟨27,[(0,true,.v (.sl false (.row false) c)),(2,true,.v (.int .i64 0)),(3,true,.v (.own 0 0)),(5,true,.v (.own 1 0)),(6,true,.v (.int .i64 (k.1)))],[.arr .int ((upto c.length)) 0 true,.arr .int k.2.1 0 true]⟩) (fun k=>Ahead c k.1/\letters c.length k.2.1/\k.2.1.length<=24/\imageL c k.2.1=itW c (upto c.length) (k.1 - 1) (ones c.length)) (fun k=>13 - k.1) ((1,[],true)) (⟨Ahead.one c,letters_nil _,by simp,rfl⟩) ?_ ?_
 ·exact Le.s
 rintro⟨k,p,nn⟩ ⟨hA,hp,hpl,hpi⟩ ih
 try simp only []
 simp only []at hA hp hpl hpi
 have hk:=hA.1
 have hk2:=hA.2.1
 have hlet:letters c.length (p ++ upto c.length):=letters_append.2 ⟨hp,hup⟩
 have hll:(p ++ upto c.length).length<=28:=by simp;omega
 obtain⟨a1,a2,a3,a4,a5⟩:=red_spec hc hlet om
 have himg:imageL c (p ++ upto c.length)=itW c (upto c.length) k (ones c.length):=by
  rw [image_append]
  have e1:imageL c p=imageL c (pwN (upto c.length) (k - 1)):=by rw [hpi];exact(pwN_act c (upto c.length) (k - 1) (ones c.length)).symm
  rw [same_elt hc hp (pwN_letters hup (k - 1)) e1 (imageL_length c _),pwN_act]
  show itW c (upto c.length) (k - 1+1) (ones c.length)=_
  rw [show k - 1+1=k by omega]
 have hr24:=fin_red hF hlet om
 have hnil:=red_nil hc hlet om
 refine Run.g fun K hK=>?_
 refine FunA.cW hP hT (c_impl_ConcatWords p (upto c.length) om om) ?_
 rintro rs o ⟨nn2,rfl,rfl⟩
 refine wW ?_
 refine FunA.e hP hT (c_impl_reduced c (p ++ upto c.length) hc hlet om) ?_
 refine wE ?_;clear hK K
 refine Run.R ?_
 refine Run.c ?_ ?_
 ·intro h2
  have h2:redL c (p ++ upto c.length)=[]:=by simpa using h2
  have he:=hA.done (by rw [<- himg];exact hnil.1 h2)
  refine Run.R ?_
  refine Run.k [2] [] ?_
  refine Run.r [2] ?_
  simp [coxN,h,he]
 ·intro h2
  have h2:redL c (p ++ upto c.length)≠[]:=by simpa using h2
  have he:=hA.next hF (by rw [<- himg];exact fun e=>h2 (hnil.2 e))
  refine Run.RW ?_
  refine Run.k [0,2,3,5,6] [0,3] ?_
  refine Run.le ?_ (ih (k+1,redL c (p ++ upto c.length),true) ⟨he,a1,hr24,by simp only [];rw [a4,himg,Nat.add_sub_cancel]⟩ (by simp only [];omega))
  exact Le.sub (by rfl) (by simp only [AW7,simprocAttr];try simp)
theorem c_spec_ActOnWeight (c:LL) (w v:LI) (hw:WordP c w) (hv:v.length=c.length) (hB:∀ j,Bd 9223372036854775807 (actL c (w.drop j) v)) :
  FunA B 110 [.sl false (.row false) c,.sl false .int w,.sl false .int v] (fun rs o=>rs=[.own 0 0]/\o=[.arr .int (actL c w v) 0 true]):=by
 have hc:=hw.1
 have hn:=hc.2.1
 have hl:=hw.2.1
 have hwb:wordB c w=true:=wordB_iff.2 hw
 refine wk Tryz.call110 Tryz.func110 rfl Tryz.ntmps110 fun C hC hP hT hfn hpin hfin hX=>wW ?_
 refine Run.R ?_
 refine Run.R ?_
 refine Run.RW ?_
 refine Run.k [0,1,2,6,7,8] [0] ?_
 refine Run.le (Le.sub (fr':=[(0,true,.v (.sl false (.row false) c)),(1,true,.v (.sl false .int w)),(2,true,.v (.sl false .int v)),(6,true,.v .nils),(7,true,.v (.own 0 0)),(8,true,.v (.int .i64 ((w.length:Int) - 1)))]) rfl (by simp only [AW7,simprocAttr];try simp)) ?_
 have hd0:actL c (w.drop w.length) v=v:=by rw [List.drop_length];rfl
 refine Run.le (Le.re (obs':=[.arr .int (actL c (w.drop w.length) v) 0 true]) hpin [0] [(0,true,.sl false (.row false) c),(1,true,.sl false .int w),(2,true,.sl false .int v),(6,true,.nils),(7,true,.own 0 0),(8,true,.int .i64 ((w.length:Int) - 1))] rfl (by simp [leOs,leO_arr,oAt,actL]) (by refine⟨⟨_,rfl,?_⟩,⟨_,rfl,?_⟩,⟨_,rfl,?_⟩,⟨_,rfl,?_⟩,⟨_,rfl,?_⟩,⟨_,rfl,?_⟩,trivial⟩<;>simp [leAV,oAt,genO])) ?_
 simp only [frV_cons,frV_nil]
 refine Run.loopI (X:=Nat) (fun j=>⟨39,[(0,true,.v (.sl false (.row false) c)),(1,true,.v (.sl false .int w)),(2,true,.v (.sl false .int v)),(6,true,.v (.nils)),(7,true,.v (.own 0 0)),(8,true,.v (.int .i64 (((j:Int) - 1))))],[.arr .int ((actL c (w.drop j) v)) 0 true]⟩) (fun j=>j<=w.length) (fun j=>j) (w.length) (Nat.le_refl _) ?_ ?_
 ·exact Le.s
 rintro j hj ih
 try simp only []
 have hal:=actL_length c v (w.drop j)
 refine Run.g fun K hK=>?_
 cases j with
 | zero=>
  have e1:decide ((0:Int)<=((0:Nat):Int) - 1)=false:=by decide
  simp only [e1]
  refine .inl (CallG.off (.bool false) ?_)
  refine wF ?_;clear hK K
  refine Run.c ?_ ?_
  ·intro h;cases h
  intro h
  refine Run.x ?_
  refine Run.R ?_
  refine Run.r [6] ?_
  exact⟨rfl,by rw [List.drop_zero]⟩
 | succ j=>
  have e1:decide ((0:Int)<=((j+1:Nat):Int) - 1)=true:=by rw [dtE];omega
  have e2:((j+1:Nat):Int) - 1=j:=by omega
  simp only [e1]
  refine .inr ⟨rfl,?_⟩
  refine FunA.cW hP hT (c_spec_IsWord c w om) ?_
  rintro rs o ⟨rfl,rfl⟩
  simp only [hwb]
  refine wF ?_;clear hK K
  refine Run.c ?_ ?_
  rotate_left
  ·intro h;simp [hv]at h
  intro h
  clear h
  rw [e2]
  have hlet:=letters_getD.1 hw.2.2 j om
  have hdr:=actL_drop c w v j om
  have hBj:=hB j
  rw [hdr]at hBj
  refine Run.g fun K hK=>?_
  refine FunA.e hP hT (c_spec_l6Reflect c (w.getD j 0) (actL c (w.drop (j+1)) v) hc om hlet hBj) ?_
  refine wE ?_;clear hK K
  rw [<- hdr]
  refine Run.RW ?_
  refine Run.k [0,1,2,6,7,8] [1] ?_
  refine Run.le ?_ (ih j om om)
  exact Le.sub (by rfl) (by simp only [AW7,simprocAttr];try simp)
theorem c_spec_CoxeterNumber (c:LL) (hcl:c.length<=1048576):FunA B 52 [.sl false (.row false) c] (fun rs o=>rs=[.int .i64 (coxN c)]/\o=[]):=by
 refine wk Tryz.call52 Tryz.func52 rfl Tryz.ntmps52 fun C hC hP hT hfn hpin hfin hX=>wW ?_
 refine Run.R ?_
 refine Run.g fun K hK=>?_
 refine FunA.e hP hT (c_spec_CoxeterElement c hcl) ?_
 refine wE ?_;clear hK K
 refine Run.g fun K hK=>?_
 cases hb:isC c with
 | false=>
  refine wW ?_
  refine .inl (CallG.off (.bool false) ?_)
  refine wF ?_;clear hK K
  refine Run.c ?_ ?_
  ·intro h
   refine Run.R ?_
   refine Run.k [2] [] ?_
   refine Run.r [2] ?_
   simp [coxN,isF_not hb]
  ·intro h;cases h
 | true=>
  refine wW ?_
  refine .inr ⟨rfl,?_⟩
  refine FunA.e hP hT (c_spec_IsFinite c) ?_
  refine wE ?_;clear hK K
  refine Run.c ?_ ?_
  ·intro h
   have h:isF c=false:=by simpa using h
   refine Run.R ?_
   refine Run.k [2] [] ?_
   refine Run.r [2] ?_
   simp [coxN,h]
  intro h
  have h:isF c=true:=by simpa using h
  have hF:=isF_iff.1 h
  have hc:=hF.1
  have hn:=hc.2.1
  have hcx:coxE c=upto c.length:=by simp [coxE,isC_true hc]
  have hul:=upto_length c.length
  have hup:=upto_letters c.length
  have hW:WordP c (upto c.length):=⟨hc,by omega,hup⟩
  rw [hcx]
  refine Run.g fun K hK=>?_
  refine FunA.e hP hT (c_spec_RhoOf c hc) ?_
  refine wE ?_;clear hK K
  refine Run.R ?_
  refine Run.k [0,2,3,5,6] [0,1] ?_
  refine Run.le (Le.sub (fr':=[(0,true,.v (.sl false (.row false) c)),(2,true,.v (.int .i64 0)),(3,true,.v (.own 0 0)),(5,true,.v (.own 1 0)),(6,true,.v (.int .i64 (1:Nat)))]) rfl (by simp only [AW7,simprocAttr];try simp)) ?_
  refine Run.loopI (X:=Nat×List Int) (fun k=>⟨34,[(0,true,.v (.sl false (.row false) c)),(2,true,.v (.int .i64 0)),(3,true,.v (.own 0 0)),(5,true,.v (.own 1 0)),(6,true,.v (.int .i64 (k.1)))],[.arr .int ((upto c.length)) 0 true,.arr .int (k.2) 0 true]⟩) (fun k=>Ahead c k.1/\k.2=itW c (upto c.length) (k.1 - 1) (ones c.length)) (fun k=>13 - k.1) ((1,ones c.length)) (⟨Ahead.one c,rfl⟩) ?_ ?_
  ·exact Le.s
  rintro⟨k,v⟩ ⟨hA,hv⟩ ih
  try simp only []
  simp only []at hA hv
  have hk:=hA.1
  have hk2:=hA.2.1
  have hvi:imageL c (pwN (upto c.length) (k - 1))=v:=by rw [hv];exact pwN_act c _ _ _
  have hpl:=pwN_letters hup (k - 1)
  obtain⟨L0,_,_,hf0⟩:=Far.image hc hpl
  have hL0:=fin_len hF _ hf0
  have hvl:v.length=c.length:=by rw [<- hvi];exact imageL_length c _
  have hB:∀ j,Bd 9223372036854775807 (actL c ((upto c.length).drop j) v):=by
   intro j
   have hd:=letters_drop hup j
   obtain⟨L1,_,_,hf1⟩:=Far.image hc (letters_append.2 ⟨hd,hpl⟩)
   have hL1:=fin_len hF _ hf1
   have:=far_bd hc hf1 om
   rwa [image_append,hvi]at this
  have hstep:actL c (upto c.length) v=itW c (upto c.length) k (ones c.length):=by
   rw [hv,<- itW_succ,show k - 1+1=k by omega]
  have hal:=actL_length c v (upto c.length)
  refine Run.R ?_
  refine Run.c ?_ ?_
  rotate_left
  ·intro h2;simp at h2;omega
  intro h2
  clear h2
  refine Run.g fun K hK=>?_
  refine FunA.e hP hT (c_spec_ActOnWeight c (upto c.length) v hW hvl hB) ?_
  refine wE ?_;clear hK K
  refine Run.g fun K hK=>?_
  refine FunA.e hP hT (c_spec_RhoOf c hc) ?_
  refine FunA.e hP hT (c_spec_EqualWords (actL c (upto c.length) v) (ones c.length) om) ?_
  refine wE ?_;clear hK K
  refine Run.c ?_ ?_
  ·intro h2
   have h2:actL c (upto c.length) v=ones c.length:=by simpa using h2
   have he:=hA.done (by rw [<- hstep];exact h2)
   refine Run.R ?_
   refine Run.k [2] [] ?_
   refine Run.r [2] ?_
   simp [coxN,h,he]
  ·intro h2
   have h2:actL c (upto c.length) v≠ones c.length:=by simpa using h2
   have he:=hA.next hF (by rw [<- hstep];exact h2)
   refine Run.RW ?_
   refine Run.k [0,2,3,5,6] [0,2] ?_
   refine Run.le ?_ (ih (k+1,actL c (upto c.length) v) ⟨he,by simp only [];rw [hstep,Nat.add_sub_cancel]⟩ (by simp only [];omega))
   exact Le.sub (by rfl) (by simp only [AW7,simprocAttr];try simp)
def Fst (c:LL) (x:LI) (i:Nat):Prop:=(imageL c x).getD i 0 < 0
theorem front {c:LL} (hc:CartanP c) {x:LI} (hx:Nf c x) {i:Nat} (hi:i < c.length) (h:Fst c x i):Nf c (redL c ((i:Int) :: x))/\(redL c ((i:Int) :: x)).length+1=x.length/\imageL c (redL c ((i:Int) :: x))=reflL c i (imageL c x):=by
 have hlet:letters c.length ((i:Int) :: x):=letters_cons.2 ⟨by omega,hx.1⟩
 have hlen:((i:Int) :: x).length<=31:=by have:=hx.2.2;simp;omega
 obtain⟨a1,a2,a3,a4,a5⟩:=red_spec hc hlet hlen
 obtain⟨M,hM,hF⟩:=(hx.far hc).down hc (i:=(i:Int)) om h
 have hL:(redL c ((i:Int) :: x)).length=M:=by
  rw [image_cons]at a5
  exact a5.uniq hc hF
 exact⟨nf_red hc hlet hlen (by have:=hx.2.2;omega),by omega,by rw [a4,image_cons]⟩
theorem refl_at {c:LL} (hc:CartanP c) {i:Nat} (hi:i < c.length) {v:LI} (hv:v.length=c.length):(reflL c i v).getD i 0 = - v.getD i 0:=by
 have d:ent c i i=2:=(matA_cartan hc).diag i hi
 have g:=reflL_get c (i:Int) v i om
 rw [Int.toNat_natCast,d]at g
 omega
theorem fst_or {c:LL} (hc:CartanP c) {x:LI} (hx:Nf c x) {i:Nat} (hi:i < c.length):Fst c x i\/Far c (x.length+1) (reflL c i (imageL c x)):=by
 have hz:=(hx.far hc).nz hc i hi
 by_cases h:(imageL c x).getD i 0 < 0
 ·exact .inl h
 ·exact .inr ((hx.far hc).up hc (i:=(i:Int)) om (by simp only [Int.toNat_natCast];omega))
theorem front_down {c:LL} (hc:CartanP c) {x z:LI} (hx:Nf c x) (hz:Pre c x z) {i:Nat} (hi:i < c.length) (h:Fst c z i):Fst c x i/\Pre c (redL c ((i:Int) :: x)) (redL c ((i:Int) :: z)):=by
 have hnz:=hz.nf hx
 obtain⟨n1,n2,n3⟩:=front hc hnz hi h
 obtain⟨h1,h2,v,h3,h4,h5⟩:=hz
 have him:imageL c (redL c ((i:Int) :: z) ++ v)=reflL c i (imageL c x):=by
  rw [image_same_app hc n1.1 (letters_cons.2 ⟨by omega,h1⟩:letters c.length ((i:Int) :: z)) (by rw [n3,image_cons]) v]
  show reflL c i (imageL c (z ++ v))=_
  rw [h4]
 have hlv:letters c.length (redL c ((i:Int) :: z) ++ v):=letters_append.2 ⟨n1.1,h3⟩
 have hfx:Fst c x i:=by
  rcases fst_or hc hx hi with h6 | h6
  ·exact h6
  ·obtain⟨L,k1,_,k3⟩:=Far.image hc hlv
   rw [him]at k3
   have:=h6.uniq hc k3
   simp at k1
   omega
 obtain⟨m1,m2,m3⟩:=front hc hx hi hfx
 exact⟨hfx,n1.1,n1.2.1,v,h3,by rw [him,m3],by omega⟩
theorem front_up {c:LL} (hc:CartanP c) {x z:LI} (hx:Nf c x) {i:Nat} (hi:i < c.length) (h:Fst c x i) (hz:Pre c (redL c ((i:Int) :: x)) z) :
  Pre c x (redL c ((i:Int) :: z))/\(redL c ((i:Int) :: z)).length=z.length+1/\Fst c (redL c ((i:Int) :: z)) i/\redL c ((i:Int) :: redL c ((i:Int) :: z))=z:=by
 obtain⟨m1,m2,m3⟩:=front hc hx hi h
 have hnz:=hz.nf m1
 obtain⟨h1,h2,v,h3,h4,h5⟩:=hz
 have hlet:letters c.length ((i:Int) :: z):=letters_cons.2 ⟨by omega,h1⟩
 have hzl:((i:Int) :: z).length<=31:=by have:=hnz.2.2;simp;omega
 obtain⟨a1,a2,a3,a4,a5⟩:=red_spec hc hlet hzl
 have him:imageL c (redL c ((i:Int) :: z) ++ v)=imageL c x:=by
  rw [image_same_app hc a1 hlet a4 v]
  show reflL c i (imageL c (z ++ v))=_
  rw [h4,m3,refl2 hc (i:=(i:Int)) om (imageL_length c _)]
 have hs:=hx.short hc (letters_append.2 ⟨a1,h3⟩) him
 simp at hs a2
 have hlen:(redL c ((i:Int) :: z)).length=z.length+1:=by omega
 have hback:imageL c ((i:Int) :: redL c ((i:Int) :: z))=imageL c z:=by
  rw [image_cons,a4,image_cons,refl2 hc (i:=(i:Int)) om (imageL_length c _)]
 refine⟨⟨a1,nf_idem hc hlet hzl,v,h3,him,by omega⟩,hlen,?_,by rw [red_eq hback];exact h2⟩
 show(imageL c (redL c ((i:Int) :: z))).getD i 0 < 0
 rw [a4,image_cons,refl_at hc hi (imageL_length c _)]
 rcases fst_or hc hnz hi with h6 | h6
 ·obtain⟨_,q2,q3⟩:=front hc hnz hi h6
  omega
 ·have hp:=(hnz.far hc).nz hc i hi
  by_cases h7:(imageL c z).getD i 0 < 0
  ·obtain⟨_,q2,q3⟩:=front hc hnz hi h7
   omega
  ·omega
def Two (c:LL) (i t:Nat) (q:LI):Prop:=Fst c q i/\Fst c q t/\∀ x,Nf c x->Fst c x i->Fst c x t->Pre c x q
theorem first_of {c:LL} (hc:CartanP c) {x:LI} (hx:Nf c x) (hne:x≠[]):∃ i,i < c.length/\Fst c x i:=by
 cases x with
 | nil=>exact(hne rfl).elim
 | cons a x=>
  obtain⟨h1,h2⟩:=letters_cons.1 hx.1
  have ha:((a.toNat:Nat):Int)=a:=by omega
  refine⟨a.toNat,by omega,?_⟩
  rcases fst_or hc hx (i:=a.toNat) om with h | h
  ·exact h
  ·exfalso
   have e:reflL c (a.toNat:Nat) (imageL c (a :: x))=imageL c x:=by
    rw [ha,image_cons];exact refl2 hc h1 (imageL_length c _)
   rw [e]at h
   obtain⟨L,k1,_,k3⟩:=Far.image hc h2
   have:=h.uniq hc k3
   simp at this
   omega
theorem meet_le {c:LL} (hc:CartanP c) (h2:∀ i t,i < c.length->t < c.length->i≠t->(∃ x,Nf c x/\Fst c x i/\Fst c x t)->∃ q,Two c i t q) :
  ∀(n:Nat) (x y z w:LI),x.length=n->Nf c x->Nf c y->Pre c x z->Pre c y z->Pre c x w->Pre c y w->(∀ u,Pre c x u->Pre c y u->u.length<=z.length)->Pre c z w:=by
 intro n
 induction n with
 | zero=>
  intro x y z w hn hx hy hz _ hw _ _
  obtain⟨_,_,v,_,_,h5⟩:=hw
  have:w=[]:=nilZ om
  rw [this];exact Pre.nil hc (hz.nf hx)
 | succ n ih=>
  intro x y z w hn hx hy hxz hyz hxw hyw hmax
  have hnz:=hxz.nf hx
  have same:∀(i:Nat) (w:LI),i < c.length->Pre c x w->Pre c y w->Fst c z i->Fst c w i->Pre c z w:=by
   intro i w hi hxw hyw hzi hwi
   have hnw:=hxw.nf hx
   obtain⟨f1,g1⟩:=front_down hc hx hxz hi hzi
   obtain⟨_,g2⟩:=front_down hc hy hyz hi hzi
   obtain⟨_,g3⟩:=front_down hc hx hxw hi hwi
   obtain⟨f2,g4⟩:=front_down hc hy hyw hi hwi
   obtain⟨m1,m2,_⟩:=front hc hx hi f1
   obtain⟨m3,m4,_⟩:=front hc hy hi f2
   obtain⟨m5,m6,m7⟩:=front hc hnz hi hzi
   obtain⟨m8,m9,m10⟩:=front hc hnw hi hwi
   have key:=ih _ _ _ _ om m1 m3 g1 g2 g3 g4 (fun u hu1 hu2=>by
    obtain⟨p1,p2,_⟩:=front_up hc hx hi f1 hu1
    obtain⟨p3,_⟩:=front_up hc hy hi f2 hu2
    have:=hmax _ p1 p3
    omega)
   obtain⟨p1,_⟩:=front_up hc hnz hi hzi key
   have e:redL c ((i:Int) :: redL c ((i:Int) :: w))=w:=by
    have:imageL c ((i:Int) :: redL c ((i:Int) :: w))=imageL c w:=by
     rw [image_cons,m10,refl2 hc (i:=(i:Int)) om (imageL_length c _)]
    rw [red_eq this];exact hnw.2.1
   rwa [e]at p1
  by_cases hw0:w=[]
  ·rw [hw0];exact Pre.nil hc hnz
  have hnw:=hxw.nf hx
  obtain⟨i,hi,hwi⟩:=first_of hc hnw hw0
  rcases fst_or hc hnz hi with hzi | hzi
  ·exact same i w hi hxw hyw hzi hwi
  by_cases hzi2:Fst c z i
  ·exact same i w hi hxw hyw hzi2 hwi
  exfalso
  have hz0:z≠[]:=fun e=>by
   have:=hmax w hxw hyw
   rw [e]at this
   exact hw0 (nilZ (by simpa using this))
  obtain⟨t,ht,hzt⟩:=first_of hc hnz hz0
  have hit:i≠t:=fun e=>hzi2 (e▸hzt)
  have x1:=(front_down hc hx hxw hi hwi).1
  have x2:=(front_down hc hx hxz ht hzt).1
  have y1:=(front_down hc hy hyw hi hwi).1
  have y2:=(front_down hc hy hyz ht hzt).1
  obtain⟨q,q1,q2,q3⟩:=h2 i t hi ht hit ⟨x,hx,x1,x2⟩
  have hzq:=same t q ht (q3 x hx x1 x2) (q3 y hy y1 y2) hzt q2
  exact hzi2 (front_down hc hnz hzq hi q1).1
def fireL (c:LL):List Nat->List Int->List Int
 | [],v=>v
 | i :: l,v=>fireL c l (reflL c i v)
theorem fireL_length (c:LL):∀(l:List Nat) (v:LI),(fireL c l v).length=v.length
 | [],_=>rfl
 | i :: l,v=>by show(fireL c l (reflL c i v)).length=_;rw [fireL_length,reflL_length]
theorem vec_fire {c:LL}:∀(l:List Nat) {v:LI},v.length=c.length->vecL (fireL c l v)=run (matA c) l (vecL v)
 | [],_,_=>rfl
 | i :: l,v,hv=>by
  show vecL (fireL c l (reflL c i v))=run (matA c) l (refl (matA c) i (vecL v))
  rw [vec_fire l (by rw [reflL_length,hv]),vec_refl hv,Int.toNat_natCast]
theorem act_fire {c:LL} (hc:CartanP c):∀(l:List Nat) {v:LI},(∀ i∈l,i < c.length)->v.length=c.length->actL c (l.map Int.ofNat) (fireL c l v)=v
 | [],_,_,_=>rfl
 | i :: l,v,hl,hv=>by
  show reflL c (i:Int) (actL c (l.map Int.ofNat) (fireL c l (reflL c i v)))=v
  have hi:=hl i (mcS ..)
  rw [act_fire hc l (fun j hj=>hl j (mcM _ hj)) (by rw [reflL_length,hv]),refl2 hc (i:=(i:Int)) om hv]
theorem bond_le (A:Mat) (i j:Nat):bond A i j<=6:=by
 unfold bond;repeat' split
 all_goals omega
theorem far_poly {c:LL} (hc:CartanP c) {i t:Nat} (hi:i < c.length) (ht:t < c.length) (hit:i≠t) {L:Nat} {v:LI} (h:Far c L v) (h1:v.getD i 0 < 0) (h2:v.getD t 0 < 0) :
  0 < bond (matA c) i t/\∃ M,L=M+bond (matA c) i t/\Far c M (fireL c (alt i t (bond (matA c) i t)) v):=by
 have hA:=matA_cartan hc
 obtain⟨hl,s,hs,rfl⟩:=h
 have hb:bond (matA c) i t≠0:=by
  intro hb
  have h3:matA c i t < 0/\matA c t i < 0/\4<=matA c i t*matA c t i:=by
   rcases bonds hA hi ht hit with⟨h1,h2⟩ | ⟨h1,h2⟩ | ⟨h1,h2⟩ | ⟨h1,h2⟩ | ⟨h1,h2⟩ | ⟨h1,h2⟩ | h
   ·rw [bond,h1,h2]at hb;simp at hb
   ·rw [bond,h1,h2]at hb;simp at hb
   ·rw [bond,h1,h2]at hb;simp at hb
   ·rw [bond,h1,h2]at hb;simp at hb
   ·rw [bond,h1,h2]at hb;simp at hb
   ·rw [bond,h1,h2]at hb;simp at hb
   ·exact h
  have hpos:0 < vecL v i*matA c t i:=Int.mul_pos_of_neg_of_neg h1 h3.2.1
  have hcc:-(matA c t i)*vecL v i = -(vecL v i*matA c t i):=by grind
  have h2':vecL v t < 0:=h2
  obtain⟨x,hx⟩:=endless hA (s.length+1) hi ht hit h3.1 h3.2.1 h3.2.2 (vecL v) h1 (by rw [hcc];omega)
  obtain⟨r,_,hbr⟩:=conv hA _ rfl hs (dom_ones c) hx
  have:=hbr.length
  simp [alt_length]at this
  omega
 obtain⟨r,hr,hbr⟩:=conv hA _ rfl hs (dom_ones c) (polygon hA hi ht hit hb (vecL v) h1 h2)
 have hlen:=hbr.length
 simp [alt_length]at hlen
 refine⟨by omega,r.length,by omega,by rw [fireL_length,hl],r,?_,rfl⟩
 rw [vec_fire _ hl]
 exact hr
theorem alt_letters {c:LL} {i t:Nat} (hi:i < c.length) (ht:t < c.length) (m:Nat):letters c.length ((alt i t m).map Int.ofNat):=by
 intro a ha
 obtain⟨j,hj,rfl⟩:=List.mem_map.1 ha
 have hj':j < c.length:=by rcases alt_mem hj with rfl | rfl<;>assumption
 show(0:Int)<=(j:Int)/\(j:Int) < c.length
 omega
theorem nat_map (l:List Nat):nat (l.map Int.ofNat)=l:=by
 induction l with
 | nil=>rfl
 | cons i l ih=>show(Int.toNat (Int.ofNat i)) :: nat (l.map Int.ofNat)=_;rw [ih];rfl
theorem fst_alt {c:LL} (hc:CartanP c) {i t:Nat} (hi:i < c.length) (ht:t < c.length) {m:Nat} (hm:m<=31) (hm0:0 < m) (h:(redL c ((alt i t m).map Int.ofNat)).length=m):Fst c (redL c ((alt i t m).map Int.ofNat)) i:=by
 obtain⟨k,rfl⟩:∃ k,m=k+1:=⟨m - 1,by omega⟩
 have hlet:=alt_letters hi ht (k+1)
 have hlen:((alt i t (k+1)).map Int.ofNat).length<=31:=by simp [alt_length];omega
 obtain⟨a1,a2,a3,a4,a5⟩:=red_spec hc hlet hlen
 show(imageL c _).getD i 0 < 0
 rw [a4]
 have hnz:=a5.nz hc i hi
 refine Classical.byContradiction fun hn=>?_
 have h5:=a5.up hc (i:=(i:Int)) om (by simp only [Int.toNat_natCast];omega)
 have e:reflL c (i:Int) (imageL c ((alt i t (k+1)).map Int.ofNat))=imageL c ((alt t i k).map Int.ofNat):=
  refl2 hc (i:=(i:Int)) om (imageL_length c _)
 rw [e]at h5
 obtain⟨L,k1,_,k3⟩:=Far.image hc (alt_letters ht hi k)
 have:=h5.uniq hc k3
 simp [alt_length]at k1
 omega
theorem two_all {c:LL} (hc:CartanP c) (i t:Nat) (hi:i < c.length) (ht:t < c.length) (hit:i≠t) (hx:∃ x,Nf c x/\Fst c x i/\Fst c x t):∃ q,Two c i t q:=by
 obtain⟨x,hx,hxi,hxt⟩:=hx
 have hA:=matA_cartan hc
 have hb6:=bond_le (matA c) i t
 obtain⟨hb0,M,hM,hF⟩:=far_poly hc hi ht hit (hx.far hc) hxi hxt
 have hmem:∀ j∈alt i t (bond (matA c) i t),j < c.length:=fun j hj=>by rcases alt_mem hj with rfl | rfl<;>assumption
 have hlet:=alt_letters (c:=c) hi ht (bond (matA c) i t)
 have hlen:((alt i t (bond (matA c) i t)).map Int.ofNat).length<=31:=by simp [alt_length];omega
 obtain⟨a1,a2,a3,a4,a5⟩:=red_spec hc hlet hlen
 have key:∀ y,Nf c y->Fst c y i->Fst c y t->Pre c y (redL c ((alt i t (bond (matA c) i t)).map Int.ofNat))/\(redL c ((alt i t (bond (matA c) i t)).map Int.ofNat)).length=bond (matA c) i t:=by
  intro y hy hyi hyt
  obtain⟨_,M,k1,k2⟩:=far_poly hc hi ht hit (hy.far hc) hyi hyt
  have hM:M<=31:=by have:=hy.2.2;omega
  obtain⟨r1,r2,r3⟩:=nfL_far hc 31 M k2 hM
  have him:imageL c (redL c ((alt i t (bond (matA c) i t)).map Int.ofNat) ++ nfL c 31 (fireL c (alt i t (bond (matA c) i t)) (imageL c y)))=imageL c y:=by
   rw [image_same_app hc a1 hlet a4,image_append,r3,act_fire hc _ hmem (imageL_length c y)]
  have hs:=hy.short hc (letters_append.2 ⟨a1,r2⟩) him
  simp at hs
  simp [alt_length]at a2
  exact⟨⟨a1,nf_idem hc hlet hlen,_,r2,him,by omega⟩,by omega⟩
 have hfull:=(key x hx hxi hxt).2
 refine⟨_,fst_alt hc hi ht om hb0 hfull,?_,fun y h1 h2 h3=>(key y h1 h2 h3).1⟩
 have e:imageL c ((alt i t (bond (matA c) i t)).map Int.ofNat)=imageL c ((alt t i (bond (matA c) i t)).map Int.ofNat):=by
  apply vec_inj (by rw [imageL_length,imageL_length])
  rw [imageL,imageL,vec_act (ones_length _),vec_act (ones_length _),nat_map,nat_map]
  have:=act_br hA (a:=alt i t (bond (matA c) i t)) (b:=alt t i (bond (matA c) i t)) (by simpa using Br.braid (A:=matA c) (n:=c.length) i t [] hi ht hit om) hmem
  exact this _
 rw [red_eq e]
 rw [red_eq e]at hfull
 exact fst_alt hc ht hi om hb0 hfull
theorem meet_top {c:LL} (hc:CartanP c) {x y z w:LI} (hx:Nf c x) (hy:Nf c y) (h1:Pre c x z) (h2:Pre c y z) (h3:Pre c x w) (h4:Pre c y w) (h5:∀ u,Pre c x u->Pre c y u->u.length<=z.length):Pre c z w:=
 meet_le hc (two_all hc) _ x y z w rfl hx hy h1 h2 h3 h4 h5
theorem fewL_iff {R:List Int->Prop} (h:fewB R=true) (z:LI):z∈fewL R↔R z:=by
 have h:FewP R:=by simpa [fewB] using h
 unfold fewL
 rw [dif_pos h,(srt_spec _).2]
 exact h.choose_spec.2.1 z
theorem preX_iff {c:LL} {w:LI} (h:preB c w=true) (z:LI):z∈preX c w↔Pre c (redL c w) z:=by
 unfold preB at h
 cases hw:wordB c w with
 | false=>rw [hw]at h;cases h
 | true=>rw [hw]at h;unfold preX;rw [hw,if_pos rfl];exact fewL_iff (by simpa using h) z
theorem preX_word {c:LL} {w z:LI} (h:z∈preX c w):WordP c z/\Nf c z:=by
 obtain⟨hw,hp⟩:=preX_pre h
 have hn:=hp.nf (word_nf hw).1
 exact⟨⟨(wordB_iff.1 hw).1,preX_rows c w z h,hn.1⟩,hn⟩
theorem wkB_red {c:LL} {l v:LI} (hv:wordB c v=true):wkB c l (redL c v)=wkB c l v:=by
 obtain⟨hx,hx15⟩:=word_nf hv
 obtain⟨hc,h2,h3⟩:=wordB_iff.1 hv
 have hr:wordB c (redL c v)=true:=wordB_iff.2 ⟨hc,hx15,hx.1⟩
 unfold wkB
 rw [hv,hr,hx.2.1]
 cases hl:wordB c l with
 | false=>rfl
 | true=>
  obtain⟨_,_,k3⟩:=wordB_iff.1 hl
  rw [weak_same hc k3 k3 rfl (red_spec hc h3 om).2.2.2.1]
theorem wk_pre {c:LL} {l v:LI} (hv:wordB c v=true) (hl:WordP c l) (hn:Nf c l):wkB c l v=true↔Pre c (redL c v) l:=by
 obtain⟨hx,hx15⟩:=word_nf hv
 rw [<- wkB_red hv]
 exact wkB_pre hl.1 hx hx15 hn hl.2.1
def MeetP (c:LL) (u v b:LI):Prop:=b∈preX c u/\wkB c b v=true/\∀ z∈preX c u,wkB c z v=true->z.length<=b.length
theorem Pre.same {c:LL} {x z:LI} (hx:Nf c x) (h:Pre c x z) (hl:z.length=x.length):z=x:=by
 obtain⟨_,h2,v,_,h4,h5⟩:=h
 have:v=[]:=nilZ om
 subst this
 rw [List.append_nil]at h4
 rw [<- h2,red_eq h4,hx.2.1]
theorem MeetP.uniq {c:LL} {u v a b:LI} (hv:wordB c v=true) (hu:preB c u=true) (ha:MeetP c u v a) (hb:MeetP c u v b):a=b:=by
 obtain⟨a1,a2,a3⟩:=ha
 obtain⟨b1,b2,b3⟩:=hb
 obtain⟨wa,na⟩:=preX_word a1
 obtain⟨wb,nb⟩:=preX_word b1
 have hc:=wa.1
 have hwu:=(preX_pre a1).1
 have h:=meet_top hc (word_nf hwu).1 (word_nf hv).1 ((preX_iff hu a).1 a1) ((wk_pre hv wa na).1 a2) ((preX_iff hu b).1 b1) ((wk_pre hv wb nb).1 b2) (fun z h1 h2=>by
  have h3:=(preX_iff hu z).2 h1
  obtain⟨wz,nz⟩:=preX_word h3
  exact a3 z h3 ((wk_pre hv wz nz).2 h2))
 have e:a.length=b.length:=Nat.le_antisymm (b3 a a1 a2) (a3 b b1 b2)
 exact(h.same na e.symm).symm
def gtL:List Int->List Int->Bool
 | x :: a,y :: b=>if x=y then gtL a b else decide (y < x)
 | _,_=>false
def befR (a b:LI):Bool:=if hgt a=hgt b then gtL a b else decide (hgt a < hgt b)
theorem gtL_at:∀(a b:LI) (i:Nat),i < a.length->i < b.length->a.take i=b.take i->a.getD i 0≠b.getD i 0->gtL a b=decide (b.getD i 0 < a.getD i 0)
 | [],_,i,h,_,_,_=>by simp at h
 | _ :: _,[],i,_,h,_,_=>by simp at h
 | x :: a,y :: b,0,_,_,_,h=>by
  simp at h
  simp [gtL,h]
 | x :: a,y :: b,i+1,h1,h2,h3,h4=>by
  simp only [List.take_succ_cons,List.cons.injEq]at h3
  obtain⟨rfl,h3⟩:=h3
  have ih:=gtL_at a b i (by simpa using h1) (by simpa using h2) h3 (by simpa using h4)
  simp only [gtL,if_pos,List.getD_cons_succ]
  exact ih
theorem gtL_no:∀(a b:LI) (i:Nat),i<=a.length->i<=b.length->a.take i=b.take i->(i=a.length\/i=b.length)->gtL a b=false
 | [],_,i,_,_,_,_=>by simp [gtL]
 | _ :: _,[],i,_,_,_,_=>by simp [gtL]
 | x :: a,y :: b,0,_,_,_,h=>by simp at h
 | x :: a,y :: b,i+1,h1,h2,h3,h4=>by
  simp only [List.take_succ_cons,List.cons.injEq]at h3
  obtain⟨rfl,h3⟩:=h3
  have ih:=gtL_no a b i (by simpa using h1) (by simpa using h2) h3 (by simpa using h4)
  simp only [gtL,if_pos]
  exact ih
theorem c_spec_l7Before (a b:LI) (ha:Bnd 1000000000000000000 a) (hb:Bnd 1000000000000000000 b) (hal:a.length<=4) (hbl:b.length<=4):FunA B 183 [.sl false .int a,.sl false .int b] (fun rs o=>rs=[.bool (befR a b)]/\o=[]):=by
 refine wk Tryz.call183 Tryz.func183 rfl Tryz.ntmps183 fun C hC hP hT hfn hpin hfin hX=>wW ?_
 refine Run.R ?_
 refine Run.g fun K hK=>?_
 refine FunA.e hP hT (c_spec_HeightOf a ha hal) ?_
 refine wE ?_;clear hK K
 refine Run.g fun K hK=>?_
 refine FunA.e hP hT (c_spec_HeightOf b hb hbl) ?_
 refine wE ?_;clear hK K
 refine Run.R ?_
 refine Run.c ?_ ?_
 ·intro h
  have h:hgt a≠hgt b:=by simpa using h
  refine Run.R ?_
  refine Run.r [4] ?_
  exact⟨by simp [befR,h],rfl⟩
 intro h
 have h:hgt a=hgt b:=by simpa using h
 have hbe:befR a b=gtL a b:=by simp [befR,h]
 refine Run.R ?_
 refine Run.loopI (X:=Nat) (fun i=>⟨48,[(0,true,.v (.sl false .int a)),(1,true,.v (.sl false .int b)),(7,true,.v (.int .i64 i))],[]⟩) (fun i=>i<=a.length/\i<=b.length/\a.take i=b.take i) (fun i=>a.length - i) (0) (⟨nz0 _,nz0 _,rfl⟩) ?_ ?_
 ·exact Le.s
 rintro i ⟨hi,hi2,ht⟩ ih
 try simp only []
 refine Run.R ?_
 refine Run.c ?_ ?_
 rotate_left
 ·intro h2
  have h2:i=a.length\/i=b.length:=by
   by_cases h3:i < a.length
   ·by_cases h4:i < b.length
    ·rw [decide_eq_true (by omega:(i:Int) < a.length),decide_eq_true (by omega:(i:Int) < b.length)]at h2
     cases h2
    ·omega
   ·omega
  refine Run.x ?_
  refine Run.R ?_
  refine Run.r [4] ?_
  exact⟨by rw [hbe,gtL_no a b i hi hi2 ht h2],rfl⟩
 intro h2
 have h2:i < a.length/\i < b.length:=by
  by_cases h3:i < a.length
  ·by_cases h4:i < b.length
   ·exact⟨h3,h4⟩
   ·rw [decide_eq_true (by omega:(i:Int) < a.length),decide_eq_false (by omega:¬(i:Int) < b.length)]at h2
    cases h2
  ·rw [decide_eq_false (by omega:¬(i:Int) < a.length)]at h2
   cases h2
 obtain⟨h3,h4⟩:=h2
 refine Run.nq ?_;refine Run.regionD hC true [0,1,2,3,4,5,6,7,8] (by kernel_rfl) (fun K hK=>?_);simp only [AW7,simprocAttr,hX];(repeat(with_reducible refine And.intro ?_ ?_);exact vc0)
 refine wE ?_;clear hK K
 refine Run.c ?_ ?_
 ·intro h5
  have h5:a.getD i 0≠b.getD i 0:=by simpa using h5
  refine Run.nq ?_;refine Run.regionD hC true [0,1,2,3,4,5,6,7,8,9] (by kernel_rfl) (fun K hK=>?_);simp only [AW7,simprocAttr,hX];(repeat(with_reducible refine And.intro ?_ ?_);exact vc0)
  refine wE ?_;clear hK K
  refine Run.r [4] ?_
  exact⟨by rw [hbe,gtL_at a b i h3 h4 ht h5],rfl⟩
 intro h5
 have h5:a.getD i 0=b.getD i 0:=by simpa using h5
 refine Run.RW ?_
 exact Run.j (ih (i+1) (⟨by omega,by omega,by rw [<- take_snoc 0 a i h3,<- take_snoc 0 b i h4,ht,h5]⟩) mz)
def putR (w:LI):Bool->List (List Int)->List (List Int)
 | b,[]=>if b then []else [w]
 | b,x :: l=>if b=false/\befR w x=true then w :: x :: putR w true l else x :: putR w b l
theorem putR_true (w:LI):∀ l,putR w true l=l
 | []=>rfl
 | x :: l=>by simp [putR,putR_true w l]
theorem putR_perm (w:LI):∀ l,(putR w false l).Perm (w :: l)
 | []=>by simp [putR]
 | x :: l=>by
  simp only [putR]
  split
  ·rw [putR_true]
  ·exact((putR_perm w l).cons x).trans (.swap w x l)
def SmR (r:LI):Prop:=r.length<=4/\Bnd 1000000000000000000 r
set_option maxHeartbeats 1000000 in
theorem c_spec_l7Put (ys:List (Nat×List Int)) (w:LI) (hnd:(lb1 ys).Nodup) (hyl:ys.length<=100000) (hw:SmR w) (hys:∀ r∈rw2 ys,SmR r) (nn:Bool) :
  FunM B 146 [.own 0 0,.sl false .int w] .lrow ys nn (fun rs o=>rs=[.own 1 0]/\∃ ys',rw2 ys'=putR w false (rw2 ys)/\(lb1 ys').Nodup/\o=[.arr .lrow ys 0 nn,.arr .lrow ys' 0 true]):=by
 have hwl:=hw.1
 refine FunM.walk B_ok (fn:=Tryz.f146) (fun vs w=>Tryz.call146 vs w) Tryz.func146 rfl (by rw [Tryz.ntmps146];simp) (fun C hC hP hT hΓ hbt hfn hpin hfin=>?_);have hX:=BX;rw [<- hΓ,<- hbt.1,<- hbt.2.1,<- hbt.2.2.1]at hX;rw [hT]at hX;rw [Tryz.ntmps146];simp only [AW7,simprocAttr,hX]
 refine Run.R ?_
 refine Run.R ?_
 refine Run.R ?_
 refine Run.R ?_
 refine Run.kp [0,1,5,6,7] [0,1] ?_
 refine Run.loopI (X:=List (Nat×List Int)×Bool×Nat) (fun x=>⟨47,[(0,true,.v (.own 0 0)),(1,true,.v (.sl false .int w)),(5,true,.v (.own 1 0)),(6,true,.v (.bool (x.2.1))),(7,true,.v (.int .i64 (x.2.2)))],[.arr .lrow ys 0 nn,.arr .lrow (x.1) 0 true]⟩) (fun x=>x.2.2<=ys.length/\x.1.length<=2*x.2.2/\rw2 x.1 ++ putR w x.2.1 (rw2 (ys.drop x.2.2))=putR w false (rw2 ys)/\(lb1 x.1 ++ lb1 (ys.drop x.2.2)).Nodup) (fun x=>ys.length - x.2.2) (([],false,0)) (⟨nz0 _,by simp,rfl,hnd⟩) ?_ ?_
 ·exact Le.s
 rintro⟨zs,b,i⟩ ⟨hi,hzl,hE,hN⟩ ih
 try simp only []
 simp only []at hi hzl hE hN
 refine Run.R ?_
 refine Run.c ?_ ?_
 rotate_left
 ·intro h
  have hie:i=ys.length:=by rw [dfE]at h;omega
  refine Run.x ?_
  refine Run.R ?_
  refine Run.c ?_ ?_
  ·intro hb
   have hb:b=false:=by simpa using hb
   subst hb
   refine Run.g fun K hK=>?_
   intro q hq
   have hN3:=lb_ins (w:=w) hN (hq (.arr .lrow zs 0 true) (.tail _ (.head _)) _ _ _ rfl) (hq (.arr .lrow ys 0 nn) (.head _) _ _ _ rfl)
   rw [hie,List.drop_length]at hE hN3
   have e0:lb1 ([]:List (Nat×List Int))=[]:=rfl
   rw [e0,List.append_nil]at hN3
   (repeat(with_reducible refine And.intro ?_ ?_);exact vc0)
   refine wE ?_;clear hK K
   refine Run.R ?_
   refine Run.kp [4] [0,1] ?_
   refine Run.retW [4] (by decide) (by rw [hfn];rfl) (by simp only [AW7,simprocAttr,hX];rfl) (by simp only [AW7,simprocAttr,hX]) (hfin _ _ _ rfl rfl rfl ?_)
   exact⟨rfl,_,by rw [<- hE,rw2_app];simp [putR,rw2],hN3,rfl⟩
  intro hb
  have hb:b=true:=by simpa using hb
  subst hb
  refine Run.R ?_
  refine Run.kp [4] [0,1] ?_
  rw [hie,List.drop_length]at hE hN
  have e0:lb1 ([]:List (Nat×List Int))=[]:=rfl
  rw [e0,List.append_nil]at hN
  refine Run.retW [4] (by decide) (by rw [hfn];rfl) (by simp only [AW7,simprocAttr,hX];rfl) (by simp only [AW7,simprocAttr,hX]) (hfin _ _ _ rfl rfl rfl ?_)
  exact⟨rfl,zs,by rw [<- hE];simp [putR,rw2],hN,rfl⟩
 intro h
 have h:i < ys.length:=by rw [dtE]at h;omega
 have hyi:SmR (ys.getD i (0,[])).2:=hys _ (by unfold rw2;rw [getD_eq h];exact List.mem_map_of_mem (List.getElem_mem h))
 have hd:rw2 (ys.drop i)=(ys.getD i (0,[])).2 :: rw2 (ys.drop (i+1)):=by rw [drop_cons' ys h];rfl
 rw [hd]at hE
 simp only [putR]at hE
 have hN2:=lb_step h hN
 by_cases hlt:b=false/\befR w (ys.getD i (0,[])).2=true
 ·rw [if_pos hlt]at hE
  obtain⟨rfl,hl1⟩:=hlt
  refine Run.g fun K hK=>?_
  refine .inr ⟨rfl,?_⟩
  refine FunA.cW hP hT (c_spec_l7Before w (ys.getD i (0,[])).2 hw.2 hyi.2 hw.1 hyi.1) ?_
  rintro rs o ⟨rfl,rfl⟩
  rw [hl1]
  refine wF ?_;clear hK K
  refine Run.c ?_ ?_
  rotate_left
  ·intro h;cases h
  intro _
  refine Run.g fun K hK=>?_
  intro q hq
  have hN3:=lb_ins (w:=w) hN (hq (.arr .lrow zs 0 true) (.tail _ (.head _)) _ _ _ rfl) (hq (.arr .lrow ys 0 nn) (.head _) _ _ _ rfl)
  (repeat(with_reducible refine And.intro ?_ ?_);exact vc0)
  refine wE ?_;clear hK K
  refine Run.R ?_
  refine Run.R ?_
  have hN4:=lb_step h hN3
  refine Run.kp [0,1,5,6,7] [0,1] ?_
  refine Run.RW ?_
  exact Run.j (ih ((zs ++ [(q,w)] ++ [((ys.getD i (0,[])).1,(ys.getD i (0,[])).2)],true,i+1)) (⟨h,by simp only [lenA,lenC,lenN];omega,by rw [rw2_app,rw2_app,List.append_assoc,List.append_assoc,<- hE];simp [rw2],hN4⟩) mz)
 rw [if_neg hlt]at hE
 cases b with
 | true=>
  refine Run.g fun K hK=>?_
  refine .inl (CallG.off (.bool false) ?_)
  refine wF ?_;clear hK K
  refine Run.c ?_ ?_
  ·intro h;cases h
  intro _
  refine Run.R ?_
  refine Run.kp [0,1,5,6,7] [0,1] ?_
  refine Run.RW ?_
  exact Run.j (ih ((zs ++ [((ys.getD i (0,[])).1,(ys.getD i (0,[])).2)],true,i+1)) (⟨h,by simp;omega,by rw [rw2_app,List.append_assoc,<- hE];simp [rw2],hN2⟩) mz)
 | false=>
  have hl0:befR w (ys.getD i (0,[])).2=false:=by simpa using hlt
  refine Run.g fun K hK=>?_
  refine .inr ⟨rfl,?_⟩
  refine FunA.cW hP hT (c_spec_l7Before w (ys.getD i (0,[])).2 hw.2 hyi.2 hw.1 hyi.1) ?_
  rintro rs o ⟨rfl,rfl⟩
  rw [hl0]
  refine wF ?_;clear hK K
  refine Run.c ?_ ?_
  ·intro h;cases h
  intro _
  refine Run.R ?_
  refine Run.kp [0,1,5,6,7] [0,1] ?_
  refine Run.RW ?_
  exact Run.j (ih ((zs ++ [((ys.getD i (0,[])).1,(ys.getD i (0,[])).2)],false,i+1)) (⟨h,by simp;omega,by rw [rw2_app,List.append_assoc,<- hE];simp [rw2],hN2⟩) mz)
theorem gtL_irr:∀ a:List Int,gtL a a=false
 | []=>rfl
 | x :: a=>by unfold gtL;rw [if_pos rfl];exact gtL_irr a
theorem gtL_trans:∀ {a b d:LI},gtL a b=true->gtL b d=true->gtL a d=true
 | [],_,_,h,_=>by unfold gtL at h;cases h
 | x :: a,[],_,h,_=>by unfold gtL at h;cases h
 | x :: a,y :: b,[],_,h=>by unfold gtL at h;cases h
 | x :: a,y :: b,z :: d,h1,h2=>by
  unfold gtL at h1 h2 ⊢
  by_cases e1:x=y
  ·subst e1
   rw [if_pos rfl]at h1
   by_cases e2:x=z
   ·subst e2;rw [if_pos rfl]at h2 ⊢;exact gtL_trans h1 h2
   ·rw [if_neg e2]at h2 ⊢;exact h2
  ·rw [if_neg e1]at h1
   by_cases e2:y=z
   ·subst e2;rw [if_neg e1];exact h1
   ·rw [if_neg e2]at h2
    rw [dtE]at h1 h2
    rw [if_neg om,dtE];omega
theorem gtL_total:∀ {a b:LI},a.length=b.length->a≠b->gtL a b=true\/gtL b a=true
 | [],[],_,h=>absurd rfl h
 | [],y :: b,h,_=>by simp at h
 | x :: a,[],h,_=>by simp at h
 | x :: a,y :: b,hl,h=>by
  unfold gtL
  by_cases e:x=y
  ·subst e
   rw [if_pos rfl,if_pos rfl]
   exact gtL_total (by simpa using hl) (fun e=>h (by rw [e]))
  ·rw [if_neg e,if_neg (Ne.symm e),dtE,dtE];omega
theorem befR_irr (a:LI):befR a a=false:=by unfold befR;rw [if_pos rfl];exact gtL_irr a
theorem befR_trans {a b d:LI} (h1:befR a b=true) (h2:befR b d=true):befR a d=true:=by
 unfold befR at h1 h2 ⊢
 by_cases e1:hgt a=hgt b
 ·rw [if_pos e1]at h1
  by_cases e2:hgt b=hgt d
  ·rw [if_pos e2]at h2;rw [if_pos (e1.trans e2)];exact gtL_trans h1 h2
  ·rw [if_neg e2]at h2;rw [if_neg om,e1];exact h2
 ·rw [if_neg e1]at h1
  rw [dtE]at h1
  by_cases e2:hgt b=hgt d
  ·rw [if_neg om,dtE];omega
  ·rw [if_neg e2,dtE]at h2
   rw [if_neg om,dtE];omega
theorem befR_total {a b:LI} (hl:a.length=b.length) (h:a≠b):befR a b=true\/befR b a=true:=by
 unfold befR
 by_cases e:hgt a=hgt b
 ·rw [if_pos e,if_pos e.symm];exact gtL_total hl h
 ·rw [if_neg e,if_neg (Ne.symm e),dtE,dtE];omega
def StrR (l:LL):Prop:=l.Pairwise fun p q=>befR p q=true
theorem strR_nodup {l:LL} (h:StrR l):l.Nodup:=List.Pairwise.imp (fun {a b} h e=>by rw [e,befR_irr]at h;cases h) h
theorem putR_mem (w:LI) (l:LL) (x:LI):x∈putR w false l↔x=w\/x∈l:=by
 rw [(putR_perm w l).mem_iff,List.mem_cons]
theorem putR_str {w:LI} {n:Nat} (hw:w.length=n):∀ {l:LL},StrR l->w∉l->(∀ x∈l,x.length=n)->StrR (putR w false l)
 | [],_,_,_=>by unfold StrR;simp [putR]
 | x :: l,h,hn,hl=>by
  obtain⟨h1,h2⟩:=List.pairwise_cons.1 h
  simp only [putR]
  split
  ·rename_i hb
   rw [putR_true]
   exact List.pairwise_cons.2 ⟨fun z hz=>by
    rcases List.mem_cons.1 hz with rfl | hz
    ·exact hb.2
    ·exact befR_trans hb.2 (h1 z hz),h⟩
  ·rename_i hb
   have hxw:befR x w=true:=by
    rcases befR_total (a:=x) (b:=w) (by rw [hl x (mcS ..),hw]) (fun e=>hn (by rw [e];exact mcS ..))with h3 | h3
    ·exact h3
    ·exact absurd (by simp [h3]) hb
   refine List.pairwise_cons.2 ⟨fun z hz=>?_,putR_str hw h2 (fun hm=>hn (mcM _ hm)) (fun z hz=>hl z (mcM _ hz))⟩
   rcases(putR_mem w l z).1 hz with rfl | hz
   ·exact hxw
   ·exact h1 z hz
theorem putR_keep {w:LI}:∀ {l:LL} {k:Nat},k < l.length->(∀ j,j<=k->befR w (l.getD j [])=false)->∀ j,j<=k->(putR w false l).getD j []=l.getD j []
 | [],k,hk,_,_,_=>by simp at hk
 | x :: l,k,hk,h,j,hj=>by
  have h0:=h 0 om
  simp only [List.getD_cons_zero]at h0
  simp only [putR]
  rw [if_neg (by rw [h0];simp)]
  match j,k,hk,h,hj with
  | 0,_,_,_,_=>rfl
  | j+1,k+1,hk,h,hj=>
   simp only [List.getD_cons_succ]
   exact putR_keep (k:=k) (by simpa using hk) (fun i hi=>by have:=h (i+1) om;simpa using this) j om
inductive RS (c:LL) (h:Int):List Int->Prop
 | sim (i:Nat):i < c.length->RS c h (simL c.length i)
 | up (r:LI) (i:Nat):RS c h r->i < c.length->sgnR (mirL c i r)=1->hgt (mirL c i r)<=h->hgt r < hgt (mirL c i r)->RS c h (mirL c i r)
theorem hgt_sum:∀(r:LI),(∀ x∈r,0<=x)->∀ x∈r,x<=hgt r
 | [],_,x,hx=>by cases hx
 | y :: r,h,x,hx=>by
  have h0:=h y (mcS ..)
  have hr:∀ z∈r,0<=z:=fun z hz=>h z (mcM _ hz)
  have hn:∀(r:LI),(∀ x∈r,0<=x)->0<=hgt r:=by
   intro r
   induction r with
   | nil=>intro _;exact Int.le_refl 0
   | cons z r ih=>
    intro h
    have:=ih fun x hx=>h x (mcM _ hx)
    have:=h z (mcS ..)
    show 0<=z+hgt r
    omega
  show x<=y+hgt r
  rcases List.mem_cons.1 hx with rfl | hx
  ·have:=hn r hr;omega
  ·have:=hgt_sum r hr x hx;omega
theorem sgn_nn {r:LI} (h:sgnR r=1):∀ x∈r,0<=x:=by
 intro x hx
 have h1:=(sgnR_one.1 h).2
 unfold negA at h1
 rw [List.any_eq_false]at h1
 have:=h1 x hx
 simpa using this
theorem sim_nn (n i:Nat):∀ x∈simL n i,0<=x:=fun x hx=>by
 unfold simL at hx
 rcases List.mem_or_eq_of_mem_set hx with hx | rfl
 ·rw [(List.mem_replicate.1 hx).2];decide
 ·decide
theorem RS.len {c:LL} {h:Int} {r:LI} (k:RS c h r):r.length=c.length:=by
 induction k with
 | sim i hi=>exact simL_len _ _
 | up r i _ _ _ _ _ ih=>rw [mir_len];exact ih
theorem RS.nn {c:LL} {h:Int} {r:LI} (k:RS c h r):∀ x∈r,0<=x:=by
 cases k with
 | sim i hi=>exact sim_nn _ _
 | up r i _ _ hs _ _=>exact sgn_nn hs
theorem RS.hle {c:LL} {h:Int} (h1:1<=h) {r:LI} (k:RS c h r):hgt r<=h:=by
 cases k with
 | sim i hi=>rw [hgt_sim _ _ hi];exact h1
 | up r i _ _ _ hh _=>exact hh
theorem RS.box {c:LL} {h:Int} (h1:1<=h) {r:LI} (k:RS c h r):∀ x∈r,0<=x/\x<=h:=fun x hx=>⟨k.nn x hx,by have:=hgt_sum r k.nn x hx;have:=k.hle h1;omega⟩
def enc13:List Int->Nat
 | []=>0
 | x :: l=>x.toNat+13*enc13 l
theorem enc13_inj:∀ {a b:LI},a.length=b.length->(∀ x∈a,0<=x/\x<=12)->(∀ x∈b,0<=x/\x<=12)->enc13 a=enc13 b->a=b
 | [],[],_,_,_,_=>rfl
 | [],_ :: _,h,_,_,_=>by simp at h
 | _ :: _,[],h,_,_,_=>by simp at h
 | x :: a,y :: b,hl,ha,hb,h=>by
  have h1:=ha x (mcS ..)
  have h2:=hb y (mcS ..)
  simp only [enc13]at h
  rw [enc13_inj (a:=a) (b:=b) (by simpa using hl) (fun z hz=>ha z (mcM _ hz)) (fun z hz=>hb z (mcM _ hz)) om,show x=y by omega]
theorem enc13_lt:∀ {a:LI},(∀ x∈a,0<=x/\x<=12)->enc13 a < 13 ^ a.length
 | [],_=>by simp [enc13]
 | x :: a,h=>by
  have h1:=h x (mcS ..)
  have ih:=enc13_lt (a:=a) fun z hz=>h z (mcM _ hz)
  simp only [enc13,lenC,Nat.pow_succ]
  omega
theorem box_count {n:Nat} (hn:n<=4) {l:LL} (hd:l.Nodup) (h:∀ r∈l,r.length=n/\∀ x∈r,0<=x/\x<=12):l.length<=28561:=by
 have h1:(l.map enc13).Nodup:=nodup_on _ (fun a ha b hb e=>enc13_inj (by rw [(h a ha).1,(h b hb).1]) (h a ha).2 (h b hb).2 e) hd
 have h2:=nodup_le h1 (b:=List.range 28561) fun x hx=>by
  obtain⟨r,hr,rfl⟩:=List.mem_map.1 hx
  have:=enc13_lt (h r hr).2
  rw [(h r hr).1]at this
  have:13 ^ n<=13 ^ 4:=Nat.pow_le_pow_right (by decide) hn
  exact List.mem_range.2 om
 simpa using h2
end Go.Proofs.YtcinngodeoidnaaGreatDoor
