/- Images and normal forms: what the functions of both sides do. -/
import Derived.Test.YtcinngodeoidnaaGreatB11
import Derived.Test.YtcinngodeoidnaaGreatB9
import Derived.Test.YtcinngodeoidnaaGreatB10
import Derived.KernelRfl
set_option linter.unusedVariables false
set_option linter.unusedSimpArgs false
namespace Go.Proofs.YtcinngodeoidnaaGreat
open Go Go.Aw Go.Cox
theorem reflL_snoc (c:LL) (i:Int) (v:LI) (m:Nat) (h:m < v.length):(reflL c i v).take m ++ [v.getD m 0 - v.getD i.toNat 0*ent c m i.toNat]=(reflL c i v).take (m+1):=by
 rw [<- take_snoc 0 _ m (by rw [reflL_length];exact h),reflL_get c i v m h]
theorem c_spec_l6Reflect (c:LL) (i:Int) (v:LI) (hc:CartanP c) (hv:v.length=c.length) (hi:0<=i/\i < c.length) (hB:Bd 9223372036854775807 (reflL c i v)) :
  FunA B 151 [.sl false (.row false) c,.int .i64 i,.sl false .int v] (fun rs o=>rs=[.own 0 0]/\o=[.arr .int (reflL c i v) 0 true]):=by
 have hn:=hc.2.1
 have hrow:=hc.2.2.1
 have hrl:=reflL_length c i v
 refine wk Tryz.call151 Tryz.func151 rfl Tryz.ntmps151 fun C hC hP hT hfn hpin hfin hX=>wW ?_
 refine Run.R ?_
 refine Run.R ?_
 refine Run.R ?_
 refine Run.loopI (X:=Nat) (fun m=>⟨37,[(0,true,.v (.sl false (.row false) c)),(1,true,.v (.int .i64 i)),(2,true,.v (.sl false .int v)),(6,true,.v .nils),(7,true,.v (.own 0 m)),(8,true,.v (.int .i64 m))],[.arr .int ((reflL c i v).take m) m true]⟩) (fun m=>m<=v.length) (fun m=>v.length - m) 0 (nz0 _) ?_ ?_
 ·exact Le.sub (by rfl) (by simp only [AW7,simprocAttr,hX];try simp)
 rintro m hm ih
 have hll:((reflL c i v).take m).length=m:=by simp;omega
 refine Run.R ?_
 refine Run.c ?_ ?_
 ·intro h
  have h:m < v.length:=by simpa using h
  have hrm:=hrow m om
  refine Run.keep [0,1,2,6,7,8] ?_;simp only [AK,Nat.reduceBEq]
  refine Run.nq ?_
  refine Run.regionD hC true [0,1,2,3,4,5,6,7,8,9,10,11,12,13,14,15,16,17,18,19,20] (by kernel_rfl) (fun K hK=>?_)
  simp only [AW7,simprocAttr,hX]
  (repeat(with_reducible refine And.intro ?_ ?_);exact vc0)
  refine wE ?_;clear hK K
  have e1:IntKind.i64.wrap (v.getD m 0 - IntKind.i64.wrap (v.getD i.toNat 0*ent c m i.toNat))=v.getD m 0 - v.getD i.toNat 0*ent c m i.toNat:=by
   rw [wrap_sub_wrap]
   have:=hB m
   rw [reflL_get c i v m h]at this
   exact wrap_id om
  simp only [e1]
  refine Run.RW ?_
  refine Run.le ?_ (ih (m+1) h om)
  refine Le.cut0 hpin [_] (by rw [<- reflL_snoc c i v m h];rfl) ?_ rfl
  simp only [AW7,simprocAttr];try simp
 ·intro h
  have h:m=v.length:=by simp at h;omega
  subst h
  refine Run.x ?_
  refine Run.R ?_
  refine Run.le (Le.re (obs':=[.arr .int (reflL c i v) 0 true]) hpin [0] [(6,true,.own 0 0)] rfl (by simp [leOs,leO_arr,oAt,<- hrl]) (by refine⟨⟨_,rfl,?_⟩,trivial⟩;simp [leAV,oAt,genO])) ?_
  simp only [frV_cons,frV_nil]
  refine Run.r [6] ?_
  exact⟨rfl,rfl⟩
theorem actL_drop (c:LL) (w v:LI) (j:Nat) (h:j < w.length):actL c (w.drop j) v=reflL c (w.getD j 0) (actL c (w.drop (j+1)) v):=by
 rw [List.drop_eq_getElem_cons h,show w.getD j 0=w[j]from by simp [h]]
 rfl
theorem c_impl_acted (c:LL) (w v:LI) (hc:CartanP c) (hw:letters c.length w) (hv:v.length=c.length) (hB:∀ j,Bd 9223372036854775807 (actL c (w.drop j) v)) (hl:w.length<=1048576) :
  FunA B 157 [.sl false (.row false) c,.sl false .int w,.sl false .int v] (fun rs o=>rs=[.own 0 0]/\o=[.arr .int (actL c w v) 0 true]):=by
 have hn:=hc.2.1
 refine wk Tryz.call157 Tryz.func157 rfl Tryz.ntmps157 fun C hC hP hT hfn hpin hfin hX=>wW ?_
 refine Run.R ?_
 refine Run.R ?_
 refine Run.le (Le.re (obs':=[.arr .int v 0 true]) hpin [0] [(0,true,.sl false (.row false) c),(1,true,.sl false .int w),(6,true,.nils),(7,true,.own 0 0)] rfl (by simp [leOs,leO_arr,oAt]) (by refine⟨⟨_,rfl,?_⟩,⟨_,rfl,?_⟩,⟨_,rfl,?_⟩,⟨_,rfl,?_⟩,trivial⟩<;>simp [leAV,oAt,genO])) ?_
 simp only [frV_cons,frV_nil]
 refine Run.RW ?_
 refine Run.loopI (X:=Nat) (fun m=>⟨27,[(0,true,.v (.sl false (.row false) c)),(1,true,.v (.sl false .int w)),(6,true,.v .nils),(7,true,.v (.own 0 0)),(8,true,.v (.int .i64 ((w.length:Int) - 1 - m)))],[.arr .int (actL c (w.drop (w.length - m)) v) 0 true]⟩) (fun m=>m<=w.length) (fun m=>w.length - m) 0 (nz0 _) ?_ ?_
 ·exact Le.sub (by simp [actL]) (by simp only [AW7,simprocAttr,hX];try simp)
 rintro m hm ih
 refine Run.R ?_
 refine Run.c ?_ ?_
 ·intro h
  have h:m < w.length:=by simp at h;omega
  have e1:((w.length:Int) - 1 - m).toNat=w.length - (m+1):=by omega
  have e2:w.length - (m+1)+1=w.length - m:=by omega
  have hd:=actL_drop c w v (w.length - (m+1)) om
  rw [e2]at hd
  have hlet:=letters_getD.1 hw (w.length - (m+1)) om
  have hB':=hB (w.length - (m+1))
  rw [hd]at hB'
  refine Run.g fun K hK=>?_
  simp only [e1]
  refine FunM.call hP hT (c_impl_reflected c (w.getD (w.length - (m+1)) 0) (actL c (w.drop (w.length - m)) v) hc (by rw [actL_length,hv]) hlet hB') 0 0 (by simp only [AW7,simprocAttr];rfl) (by simp) rfl (by simp only [AW7,simprocAttr];try simp) ?_
  rintro rs o' obs' ⟨rfl,h⟩
  obtain⟨rfl,rfl⟩:=List.cons.inj h
  refine wF ?_;clear hK K
  refine Run.RW ?_
  refine Run.le ?_ (ih (m+1) om om)
  refine Le.sub (by rw [hd]) ?_
  simp only [AW7,simprocAttr];try simp;omega
 ·intro h
  have h:m=w.length:=by simp at h;omega
  subst h
  rw [show w.length - w.length=0 from by omega,List.drop_zero]
  refine Run.x ?_
  refine Run.R ?_
  refine Run.keep [6] ?_;simp only [AK,Nat.reduceBEq]
  refine Run.r [6] ?_
  exact⟨rfl,rfl⟩
theorem image_bd {c:LL} (hc:CartanP c) {w:LI} (hw:letters c.length w) (hl:w.length<=31):Bd 4611686018427387904 (imageL c w):=by
 refine(Bd.image hc w hw).mono ?_
 have h:((4:Int) ^ w.length)<=4 ^ 31:=pow4_le hl
 have e:((4:Int) ^ 31)=4611686018427387904:=by decide
 rw [e]at h
 exact h
theorem letters_drop {n:Nat} {w:LI} (h:letters n w) (j:Nat):letters n (w.drop j):=fun i hi=>h i (List.mem_of_mem_drop hi)
theorem c_impl_image (c:LL) (w:LI) (hc:CartanP c) (hw:letters c.length w) (hl:w.length<=31) :
  FunA B 129 [.sl false (.row false) c,.sl false .int w] (fun rs o=>rs=[.own 0 0]/\o=[.arr .int (imageL c w) 0 true]):=by
 have hn:=hc.2.1
 refine wk Tryz.call129 Tryz.func129 rfl Tryz.ntmps129 fun C hC hP hT hfn hpin hfin hX=>wW ?_
 refine Run.R ?_
 refine Run.g fun K hK=>?_
 refine FunA.e hP hT (c_impl_ones c.length om) ?_
 refine FunA.e hP hT (c_impl_acted c w (ones c.length) hc hw (ones_length _) (fun j=>(image_bd hc (letters_drop hw j) (by simp;omega)).mono (by decide)) om) ?_
 refine wE ?_;clear hK K
 refine Run.le (Le.re (obs':=[.arr .int (imageL c w) 0 true]) hpin [1] [(4,true,.own 0 0)] rfl (by simp [leOs,leO_arr,oAt,imageL]) (by refine⟨⟨_,rfl,?_⟩,trivial⟩;simp [leAV,oAt,genO])) ?_
 simp only [frV_cons,frV_nil]
 refine Run.r [4] ?_
 exact⟨rfl,rfl⟩
theorem firstNeg_more (v:LI):∀ n m,n<=m->0<=firstNeg v n->firstNeg v m=firstNeg v n:=by
 intro n m h h0
 induction m with
 | zero=>have:n=0:=by omega
         subst this;rfl
 | succ m ih=>
  by_cases hn:n=m+1
  ·subst hn;rfl
  ·have:=ih om
   simp only [firstNeg]
   rw [if_neg om,this]
theorem c_impl_firstDescent (v:LI) (hl:v.length<=1048576):FunA B 155 [.sl false .int v] (fun rs o=>rs=[.int .i64 (fstN v)]/\o=[]):=by
 refine wk Tryz.call155 Tryz.func155 rfl Tryz.ntmps155 fun C hC hP hT hfn hpin hfin hX=>wW ?_
 refine Run.R ?_
 refine Run.R ?_
 refine Run.loopI (X:=Nat) (fun i=>⟨16,[(2,true,.v (.int .i64 0)),(5,true,.v (.sl false .int v)),(6,true,.v (.int .i64 v.length)),(7,true,.v (.int .i64 i))],[]⟩) (fun i=>i<=v.length/\firstNeg v i < 0) (fun i=>v.length - i) 0 ⟨nz0 _,by simp [firstNeg]⟩ ?_ ?_
 ·exact Le.sub (by simp only [AW7,simprocAttr]) (by simp only [AW7,simprocAttr];try simp)
 rintro i ⟨hi,hf⟩ ih
 refine Run.R ?_
 refine Run.c ?_ ?_
 ·intro h
  have h:i < v.length:=by simpa using h
  refine Run.R ?_
  refine Run.R ?_
  have hs:firstNeg v (i+1)=if v.getD i 0 < 0 then(i:Int)else -1:=by simp only [firstNeg];rw [if_pos hf]
  refine Run.c ?_ ?_
  ·intro hx
   have hx:v.getD i 0 < 0:=by simpa using hx
   refine Run.R ?_
   refine Run.r [2] ?_
   refine⟨?_,rfl⟩
   rw [if_pos hx]at hs
   unfold fstN
   rw [firstNeg_more v (i+1) v.length h om,hs]
  ·intro hx
   have hx:¬v.getD i 0 < 0:=by simpa using hx
   refine Run.RW ?_
   refine Run.le ?_ (ih (i+1) ⟨h,by rw [hs,if_neg hx];decide⟩ om)
   exact Le.sub (by simp only [AW7,simprocAttr]) (by simp only [AW7,simprocAttr,Option.some.injEq,Prod.mk.injEq,Sl.v.injEq,AV.int.injEq,AV.own.injEq,AV.bool.injEq];try(repeat' apply And.intro);all_goals omega)
 ·intro h
  have h:i=v.length:=by simp at h;omega
  subst h
  refine Run.x ?_
  refine Run.R ?_
  refine Run.r [2] ?_
  refine⟨?_,rfl⟩
  have:fstN v = -1:=by
   unfold fstN
   rcases firstNeg_spec v v.length with⟨h1,_⟩ | ⟨i,h1,_⟩
   ·exact h1
   ·rw [h1]at hf;omega
  rw [this]
theorem nf_letters {c:LL} (hc:CartanP c):∀(f L:Nat) {v:LI},Far c L v->L<=f->∀ j,j < L->fstN (imageL c ((nfL c f v).drop j))=(nfL c f v).getD j 0
 | 0,L,v,h,hf,j,hj=>by omega
 | f+1,L,v,h,hf,j,hj=>by
  obtain⟨k1,k2,k3⟩:=nfL_far hc (f+1) L h hf
  rcases fst_of_far hc h with⟨h1,h2⟩ | ⟨h1,h2,h3,M,h4,h5⟩
  ·omega
  ·have e:nfL c (f+1) v=fstN v :: nfL c f (reflL c (fstN v) v):=by simp only [nfL];rw [if_neg om]
   cases j with
   | zero=>rw [List.drop_zero,k3,e];rfl
   | succ j=>
    rw [e,List.drop_succ_cons]
    have:=nf_letters hc f M h5 om j om
    rw [this]
    simp
theorem nf_steps {c:LL} (hc:CartanP c) {L:Nat} {v:LI} (h:Far c L v) (hL:L<=31) :
  (nfL c 31 v).length=L/\letters c.length (nfL c 31 v)/\imageL c (nfL c 31 v)=v /\
  (∀ j,j < L->fstN (imageL c ((nfL c 31 v).drop j))=(nfL c 31 v).getD j 0/\reflL c ((nfL c 31 v).getD j 0) (imageL c ((nfL c 31 v).drop j))=imageL c ((nfL c 31 v).drop (j+1))) /\
  fstN (imageL c ((nfL c 31 v).drop L)) < 0/\∀ j,Far c (L - j) (imageL c ((nfL c 31 v).drop j)):=by
 obtain⟨k1,k2,k3⟩:=nfL_far hc 31 L h hL
 have hfar:∀ j,Far c (L - j) (imageL c ((nfL c 31 v).drop j)):=by
  intro j
  induction j with
  | zero=>rw [List.drop_zero,k3];exact h
  | succ j ih=>
   by_cases hj:j < L
   ·have hlet:=nf_letters hc 31 L h hL j hj
    have hd:=actL_drop c (nfL c 31 v) (ones c.length) j om
    have hg:=letters_getD.1 k2 j om
    rcases fst_of_far hc ih with⟨_,h2⟩ | ⟨_,_,_,M,h4,h5⟩
    ·omega
    ·rw [hlet]at h5
     have e:reflL c ((nfL c 31 v).getD j 0) (imageL c ((nfL c 31 v).drop j))=imageL c ((nfL c 31 v).drop (j+1)):=by
      show reflL c _ (actL c _ _)=actL c _ _
      rw [hd]
      exact refl2 hc hg (imageL_length c _)
     rw [e]at h5
     rw [show L - (j+1)=M from by omega]
     exact h5
   ·rw [List.drop_eq_nil_of_le om,show L - (j+1)=0 from by omega]
    exact Far.ones c
 refine⟨k1,k2,k3,fun j hj=>⟨nf_letters hc 31 L h hL j hj,?_⟩,?_,hfar⟩
 ·have hd:=actL_drop c (nfL c 31 v) (ones c.length) j om
  show reflL c _ (actL c _ _)=actL c _ _
  rw [hd]
  exact refl2 hc (letters_getD.1 k2 j om) (imageL_length c _)
 ·have:=hfar L
  rw [Nat.sub_self]at this
  exact(fst_zero hc this).2 rfl
theorem c_impl_normal (c:LL) (v:LI) (L:Nat) (hc:CartanP c) (hF:Far c L v) (hL:L<=31) :
  FunA B 128 [.sl false (.row false) c,.sl false .int v] (fun rs o=>rs=[.own 0 0]/\o=[.arr .int (nfL c 31 v) 0 true]):=by
 have hn:=hc.2.1
 have hvl:v.length=c.length:=hF.1
 obtain⟨s1,s2,s3,s4,s5,s6⟩:=nf_steps hc hF hL
 obtain⟨r,hr⟩:∃ r,r=nfL c 31 v:=⟨_,rfl⟩
 rw [<- hr]at s1 s2 s3 s4 s5 s6 ⊢
 have hbd:∀ j,Bd 9223372036854775807 (imageL c (r.drop j)):=fun j=>(image_bd hc (letters_drop s2 j) (by simp;omega)).mono (by decide)
 refine wk Tryz.call128 Tryz.func128 rfl Tryz.ntmps128 fun C hC hP hT hfn hpin hfin hX=>wW ?_
 refine Run.R ?_
 refine Run.R ?_
 refine Run.le (Le.re (obs':=[.arr .int v 0 true]) hpin [0] [(0,true,.sl false (.row false) c),(1,true,.own 0 0),(4,true,.nils)] rfl (by simp [leOs,leO_arr,oAt]) (by refine⟨⟨_,rfl,?_⟩,⟨_,rfl,?_⟩,⟨_,rfl,?_⟩,trivial⟩<;>simp [leAV,oAt,genO])) ?_
 simp only [frV_cons,frV_nil]
 refine Run.R ?_
 refine Run.loopI (X:=Nat) (fun j=>⟨24,[(0,true,.v (.sl false (.row false) c)),(1,true,.v (.own 0 0)),(4,true,.v .nils),(5,true,.v (.own 1 j))],[.arr .int (imageL c (r.drop j)) 0 true,.arr .int (r.take j) j true]⟩) (fun j=>j<=L) (fun j=>L - j) 0 (nz0 _) ?_ ?_
 ·exact Le.sub (by rw [List.drop_zero,s3];rfl) (by simp only [AW7,simprocAttr,hX];try simp)
 rintro j hj ih
 have hil:=imageL_length c (r.drop j)
 have htl:(r.take j).length=j:=by simp;omega
 refine Run.g fun K hK=>?_
 refine FunA.e hP hT (c_impl_firstDescent (imageL c (r.drop j)) om) ?_
 refine wE ?_;clear hK K
 refine Run.R ?_
 refine Run.c ?_ ?_
 ·intro h
  have h:fstN (imageL c (r.drop j)) < 0:=by simpa using h
  have hjL:j=L:=by
   have:=(fst_zero hc (s6 j)).1 h
   omega
  subst hjL
  refine Run.R ?_
  refine Run.le (Le.re (obs':=[.arr .int r 0 true]) hpin [1] [(4,true,.own 0 0)] rfl (by simp [leOs,leO_arr,oAt,<- s1]) (by refine⟨⟨_,rfl,?_⟩,trivial⟩;simp [leAV,oAt,genO])) ?_
  simp only [frV_cons,frV_nil]
  refine Run.r [4] ?_
  exact⟨rfl,rfl⟩
 ·intro h
  have h:¬fstN (imageL c (r.drop j)) < 0:=by simpa using h
  have hjL:j < L:=by
   refine Classical.byContradiction fun hn=>h ?_
   rw [show j=L from by omega];exact s5
  obtain⟨q1,q2⟩:=s4 j hjL
  rw [q1]
  have hB':=hbd (j+1)
  rw [<- q2]at hB'
  refine Run.R ?_
  refine Run.le (Le.cut0 hpin [_] (fr':=[(0,true,.v (.sl false (.row false) c)),(1,true,.v (.own 0 0)),(4,true,.v .nils),(5,true,.v (.own 1 (j+1))),(6,true,.v (.int .i64 (r.getD j 0)))]) (obs':=[.arr .int (imageL c (r.drop j)) 0 true,.arr .int (r.take j ++ [r.getD j 0]) (j+1) true]) rfl (by simp only [AW7,simprocAttr];try simp) rfl) ?_
  rw [take_snoc 0 r j om]
  refine Run.g fun K hK=>?_
  refine FunM.call hP hT (c_impl_reflected c (r.getD j 0) (imageL c (r.drop j)) hc hil (letters_getD.1 s2 j om) hB') 0 0 (by simp only [AW7,simprocAttr];rfl) (by simp) rfl (by simp only [AW7,simprocAttr];try simp) ?_
  rintro rs o' obs' ⟨rfl,h⟩
  obtain⟨rfl,rfl⟩:=List.cons.inj h
  refine wF ?_;clear hK K
  refine Run.le ?_ (ih (j+1) hjL om)
  exact Le.sub (by rw [q2]) (by simp only [AW7,simprocAttr];try simp)
theorem fst_pos {c:LL} (hc:CartanP c) {M:Nat} {v:LI} (h:Far c M v) {k:Nat} (hk:k < c.length) (hpre:∀ q,q < k->0 < v.getD q 0) (hv:¬0 < v.getD k 0):fstN v=k:=by
 have hz:=h.nz hc k hk
 rcases firstNeg_spec v v.length with⟨_,h2⟩ | ⟨i,h1,h2,h3,h4⟩
 ·have:=h2 k (by rw [h.1];exact hk);omega
 ·have e:fstN v=i:=h1
  rw [e]
  by_cases hik:i < k
  ·have:=hpre i hik;omega
  ·by_cases hki:k < i
   ·have:=h4 k hki;omega
   ·omega
theorem fst_none {c:LL} (hc:CartanP c) {M:Nat} {v:LI} (h:Far c M v) (hpre:∀ q,q < c.length->0 < v.getD q 0):M=0:=by
 rcases fst_of_far hc h with⟨_,h2⟩ | ⟨h1,h2,h3,_⟩
 ·exact h2
 ·have:=hpre (fstN v).toNat om;omega
theorem c_spec_l8Form (c:LL) (v:LI) (L:Nat) (hc:CartanP c) (hF:Far c L v) (hL:L<=31) :
  FunA B 114 [.sl false (.row false) c,.sl false .int v] (fun rs o=>rs=[.own 0 0]/\o=[.arr .int (nfL c 31 v) 0 true]):=by
 have hn:=hc.2.1
 have hvl:v.length=c.length:=hF.1
 obtain⟨s1,s2,s3,s4,s5,s6⟩:=nf_steps hc hF hL
 obtain⟨r,hr⟩:∃ r,r=nfL c 31 v:=⟨_,rfl⟩
 rw [<- hr]at s1 s2 s3 s4 s5 s6 ⊢
 have hbd:∀ j,Bd 9223372036854775807 (imageL c (r.drop j)):=fun j=>(image_bd hc (letters_drop s2 j) (by simp;omega)).mono (by decide)
 refine wk Tryz.call114 Tryz.func114 rfl Tryz.ntmps114 fun C hC hP hT hfn hpin hfin hX=>wW ?_
 refine Run.R ?_
 refine Run.R ?_
 refine Run.R ?_
 refine Run.keep [0,1,4,5,6] ?_;simp only [AK,Nat.reduceBEq]
 have fin:∀ j,j=L->r.take j=r:=fun j hj=>by rw [hj,<- s1,tkL]
 refine Run.loopI (X:=Nat×Bool) (fun x=>⟨40,[(0,true,.v (.sl false (.row false) c)),(1,true,.v (.sl x.2 .int (imageL c (r.drop x.1)))),(4,true,.v .nils),(5,true,.v (.own 0 x.1)),(6,true,.v (.int .i64 x.1))],[.arr .int (r.take x.1) x.1 true]⟩) (fun x=>x.1<=L) (fun x=>32 - x.1) (0,false) (by simp) ?_ ?_
 ·exact Le.sub (by rfl) (by simp only [AW7,simprocAttr,hX];try simp [s3])
 rintro⟨j,fl⟩ hj ih
 simp only []at hj ⊢
 have hil:=imageL_length c (r.drop j)
 have htl:(r.take j).length=j:=by simp;omega
 refine Run.R ?_
 refine Run.keep [0,1,4,5,6,10] ?_;simp only [AK,Nat.reduceBEq]
 refine Run.c ?_ ?_
 ·intro h
  refine Run.R ?_
  refine Run.keep [0,1,4,5,6,7] ?_;simp only [AK,Nat.reduceBEq]
  refine Run.loopI (X:=Nat) (fun k=>⟨40,[(0,true,.v (.sl false (.row false) c)),(1,true,.v (.sl fl .int (imageL c (r.drop j)))),(4,true,.v .nils),(5,true,.v (.own 0 j)),(6,true,.v (.int .i64 j)),(7,true,.v (.int .i64 k))],[.arr .int (r.take j) j true]⟩) (fun k=>k<=c.length/\∀ q,q < k->0 < (imageL c (r.drop j)).getD q 0) (fun k=>c.length - k) 0 ⟨nz0 _,by omega⟩ ?_ ?_
  ·exact Le.sub (by rfl) (by simp only [AW7,simprocAttr,hX];try simp)
  rintro k ⟨hk,hpre⟩ ihk
  refine Run.R ?_
  refine Run.keep [0,1,4,5,6,7,23] ?_;simp only [AK,Nat.reduceBEq]
  refine Run.c ?_ ?_
  ·intro h2
   have h2:k < c.length/\0 < (imageL c (r.drop j)).getD k 0:=by
    rw [hil]at h2
    by_cases hq:k < c.length
    ·have hq':(k:Int) < c.length:=by omega
     simp only [hq',decide_true,cond_true,dtE]at h2
     exact⟨hq,h2⟩
    ·have hq':¬(k:Int) < c.length:=by omega
     simp [hq']at h2
   refine Run.RW ?_
   refine Run.le ?_ (ihk (k+1) ⟨h2.1,fun q hq=>?_⟩ om)
   ·exact Le.sub (by simp only [AW7,simprocAttr]) (by simp only [AW7,simprocAttr,Option.some.injEq,Prod.mk.injEq,Sl.v.injEq,AV.int.injEq,AV.own.injEq,AV.bool.injEq];try(repeat' apply And.intro);all_goals omega)
   ·rcases Nat.lt_succ_iff_lt_or_eq.1 hq with h | rfl
    ·exact hpre q h
    ·exact h2.2
  ·intro h2
   refine Run.x ?_
   refine Run.R ?_
   refine Run.keep [0,1,4,5,6,7,29] ?_;simp only [AK,Nat.reduceBEq]
   refine Run.c ?_ ?_
   ·intro h3
    have h3:k=c.length:=by rw [hil]at h3;simp at h3;omega
    subst h3
    have hz:=fst_none hc (s6 j) hpre
    refine Run.R ?_
    refine Run.le (Le.re (obs':=[.arr .int r 0 true]) hpin [0] [(4,true,.own 0 0)] rfl (by rw [fin j om];simp [leOs,leO_arr,oAt]) (by refine⟨⟨_,rfl,?_⟩,trivial⟩;simp [leAV,oAt,genO])) ?_
    simp only [frV_cons,frV_nil]
    refine Run.r [4] ?_
    exact⟨rfl,rfl⟩
   ·intro h3
    have h3:k < c.length:=by
     have:¬k=c.length:=by rw [hil]at h3;intro hk;subst hk;simp at h3
     omega
    have hnp:¬0 < (imageL c (r.drop j)).getD k 0:=by
     intro hp
     rw [hil]at h2
     have hq':(k:Int) < c.length:=by omega
     simp only [hq',decide_true,cond_true,dfE]at h2
     exact h2 hp
    have hfk:=fst_pos hc (s6 j) h3 hpre hnp
    have hjL:j < L:=by
     refine Classical.byContradiction fun hn2=>?_
     have:j=L:=by omega
     rw [this]at hfk
     omega
    obtain⟨q1,q2⟩:=s4 j hjL
    rw [hfk]at q1
    have hB':=hbd (j+1)
    rw [<- q2]at hB'
    have hlet:=letters_getD.1 s2 j om
    rw [q1]
    refine Run.R ?_
    refine Run.le (Le.cut0 hpin [_] (fr':=[(0,true,.v (.sl false (.row false) c)),(1,true,.v (.sl fl .int (imageL c (r.drop j)))),(4,true,.v .nils),(5,true,.v (.own 0 (j+1))),(6,true,.v (.int .i64 j)),(7,true,.v (.int .i64 (r.getD j 0)))]) (obs':=[.arr .int (r.take j ++ [r.getD j 0]) (j+1) true]) rfl (by simp only [AW7,simprocAttr];try simp) rfl) ?_
    rw [take_snoc 0 r j om]
    refine Run.g fun K hK=>?_
    refine FunA.e hP hT (c_spec_l6Reflect c (r.getD j 0) (imageL c (r.drop j)) hc hil hlet hB') ?_
    refine wE ?_;clear hK K
    refine Run.RW ?_
    refine Run.le (Le.letgo 1 [(0,true,.sl false (.row false) c),(1,true,.sl true .int (reflL c (r.getD j 0) (imageL c (r.drop j)))),(4,true,.nils),(5,true,.own 0 (j+1)),(6,true,.int .i64 ((j:Int)+1))] rfl ?_) ?_
    ·exact⟨.inl rfl,.inr ⟨rfl,rfl⟩,.inl rfl,.inl rfl,.inl rfl,trivial⟩
    simp only [frV_cons,frV_nil,q2]
    refine Run.le ?_ (ih (j+1,true) hjL (by simp only [];omega))
    exact Le.cut0 hpin [.dead] (by rfl) (by simp only [AW7,simprocAttr];try simp) rfl
 ·intro h
  have h:¬(j:Int)<=30:=by simpa using h
  refine Run.x ?_
  refine Run.R ?_
  refine Run.le (Le.re (obs':=[.arr .int r 0 true]) hpin [0] [(4,true,.own 0 0)] rfl (by rw [fin j om];simp [leOs,leO_arr,oAt]) (by refine⟨⟨_,rfl,?_⟩,trivial⟩;simp [leAV,oAt,genO])) ?_
  simp only [frV_cons,frV_nil]
  refine Run.r [4] ?_
  exact⟨rfl,rfl⟩
theorem c_impl_reduced (c:LL) (w:LI) (hc:CartanP c) (hw:letters c.length w) (hl:w.length<=31) :
  FunA B 76 [.sl false (.row false) c,.sl false .int w] (fun rs o=>rs=[.own 0 0]/\o=[.arr .int (redL c w) 0 true]):=by
 obtain⟨L,h1,h2,h3⟩:=Far.image hc hw
 have hn:=hc.2.1
 refine wk Tryz.call76 Tryz.func76 rfl Tryz.ntmps76 fun C hC hP hT hfn hpin hfin hX=>wW ?_
 refine Run.R ?_
 refine Run.g fun K hK=>?_
 refine FunA.e hP hT (c_impl_image c w hc hw hl) ?_
 refine FunA.e hP hT (c_impl_normal c (imageL c w) L hc h3 om) ?_
 refine wE ?_;clear hK K
 refine Run.le (Le.re (obs':=[.arr .int (redL c w) 0 true]) hpin [1] [(4,true,.own 0 0)] rfl (by simp [leOs,leO_arr,oAt,redL]) (by refine⟨⟨_,rfl,?_⟩,trivial⟩;simp [leAV,oAt,genO])) ?_
 simp only [frV_cons,frV_nil]
 refine Run.r [4] ?_
 exact⟨rfl,rfl⟩
def setP (n:Nat) (s:LI):Prop:=∀ i,i < s.length->0<=s.getD i 0/\s.getD i 0 < n/\(0 < i->s.getD (i - 1) 0 < s.getD i 0)
open Classical in
noncomputable def setB (c:LL) (s:LI):Bool:=decide (setP c.length s)
theorem setB_iff {c:LL} {s:LI}:setB c s=true↔setP c.length s:=by simp [setB]
noncomputable def isSetB (c:LL) (s:LI):Bool:=isC c && setB c s
theorem c_spec_l3Set (c:LL) (s:LI) (hc:c.length<=1048576):FunA B 193 [.sl false (.row false) c,.sl false .int s] (fun rs o=>rs=[.bool (isSetB c s)]/\o=[]):=by
 refine wk Tryz.call193 Tryz.func193 rfl Tryz.ntmps193 fun C hC hP hT hfn hpin hfin hX=>wW ?_
 refine Run.len 1 rfl fun hlens=>?_
 refine Run.R ?_
 refine Run.R ?_
 refine Run.loopI (X:=Nat) (fun i=>⟨39,[(0,true,.v (.sl false (.row false) c)),(1,true,.v (.sl false .int s)),(4,true,.v (.bool false)),(5,true,.v (.int .i64 i))],[]⟩) (fun i=>i<=s.length/\∀ k,k < i->0<=s.getD k 0/\s.getD k 0 < c.length/\(0 < k->s.getD (k - 1) 0 < s.getD k 0)) (fun i=>s.length - i) 0 ⟨nz0 _,by omega⟩ ?_ ?_
 ·exact Le.sub (by simp only [AW7,simprocAttr]) (by simp only [AW7,simprocAttr];try simp)
 rintro i ⟨hi,hset⟩ ih
 refine Run.R ?_
 refine Run.c ?_ ?_
 ·intro hc
  have hc:i < s.length:=by simpa using hc
  refine Run.keep [0,1,4,5] ?_;simp only [AK,Nat.reduceBEq]
  refine Run.nq ?_
  refine Run.regionD hC true [0,1,2,3,4,5,6,7,8,9,10,11,12,13,14,15,16,17,18,19,20,21,22,23,24] (by kernel_rfl) (fun K hK=>?_)
  simp(disch:=omega) only [wrap_id,AW7,simprocAttr,hX]
  (repeat(with_reducible refine And.intro ?_ ?_);exact vc0)
  refine FunA.callD hP hT (c_spec_l1In (s.getD i 0) 0 ((c.length:Int) - 1)) (by simp only [AW7,simprocAttr]) ?_
  rintro rs o ⟨rfl,rfl⟩
  refine wWW ?_
  refine wE ?_;clear hK K
  refine Run.keep [0,1,4,5,36] ?_;simp only [AK,Nat.reduceBEq]
  have key:(bif !inB (s.getD i 0) 0 ((c.length:Int) - 1)then true else bif decide (0 < (i:Int))then decide (s.getD i 0<=s.getD ((i:Int) - 1).toNat 0)else false)=true↔¬(0<=s.getD i 0/\s.getD i 0 < c.length/\(0 < i->s.getD (i - 1) 0 < s.getD i 0)):=by
   have e:((i:Int) - 1).toNat=i - 1:=by omega
   rw [e]
   cases hin:inB (s.getD i 0) 0 ((c.length:Int) - 1) with
   | false=>
    have:¬(0<=s.getD i 0/\s.getD i 0<=(c.length:Int) - 1):=fun h=>by rw [inB_iff.2 h]at hin;cases hin
    simp only [Bool.not_false,cond_true,true_iff]
    omega
   | true=>
    have:=inB_iff.1 hin
    simp only [Bool.not_true,cond_false]
    by_cases h0:0 < i
    ·have h0':(0:Int) < i:=by omega
     simp only [h0',decide_true,cond_true,dtE]
     omega
    ·have h0':¬(0:Int) < i:=by omega
     simp only [h0',decide_false,cond_false]
     simp only [Bool.false_eq_true,false_iff]
     omega
  refine Run.c ?_ ?_
  ·intro hb
   refine Run.R ?_
   refine Run.r [4] ?_
   refine⟨?_,rfl⟩
   have:setB c s=false:=by
    cases h:setB c s with
    | false=>rfl
    | true=>exact absurd (setB_iff.1 h i hc) (key.1 hb)
   simp [isSetB,this]
  ·intro hb
   have hb:0<=s.getD i 0/\s.getD i 0 < c.length/\(0 < i->s.getD (i - 1) 0 < s.getD i 0):=by
    refine Classical.byContradiction fun h=>?_
    have:=key.2 h
    rw [this]at hb
    cases hb
   refine Run.RW ?_
   refine Run.le ?_ (ih (i+1) ⟨hc,fun k hk=>?_⟩ om)
   ·exact Le.sub (by simp only [AW7,simprocAttr]) (by simp only [AW7,simprocAttr,Option.some.injEq,Prod.mk.injEq,Sl.v.injEq,AV.int.injEq,AV.own.injEq,AV.bool.injEq];try(repeat' apply And.intro);all_goals omega)
   ·rcases Nat.lt_succ_iff_lt_or_eq.1 hk with h | rfl
    ·exact hset k h
    ·exact hb
 ·intro hc
  have hc:i=s.length:=by simp at hc;omega
  subst hc
  refine Run.x ?_
  refine Run.g fun K hK=>?_
  refine FunA.e hP hT (c_spec_IsCartan c) ?_
  refine wE ?_;clear hK K
  refine Run.r [4] ?_
  refine⟨?_,rfl⟩
  have:setB c s=true:=setB_iff.2 hset
  simp [isSetB,this]
def inL:Nat->List (List Nat)->List Nat
 | _,[]=>[]
 | 0,r :: _=>r
 | n+1,_ :: l=>inL n l
def inN:Nat->List Nat->Nat
 | _,[]=>0
 | 0,x :: _=>x
 | n+1,_ :: l=>inN n l
def inP:Nat->List (Nat×Nat)->Nat×Nat
 | _,[]=>(0,0)
 | 0,x :: _=>x
 | n+1,_ :: l=>inP n l
def rpV (a:Nat×Nat) (i:Nat):Nat->List (Nat×Nat)->List Nat->List (Nat×Nat)
 | k,x :: v,b :: col=>(bif Nat.beq k i then(x.2,x.1) else(Nat.add x.1 (Nat.mul a.1 b),Nat.add x.2 (Nat.mul a.2 b))) :: rpV a i (k+1) v col
 | _,_,_=>[]
def rfV (cols:List (List Nat)) (i:Nat) (v:List (Nat×Nat)):List (Nat×Nat):=rpV (inP i v) i 0 v (inL i cols)
def fnV:List (Nat×Nat)->Nat->Option Nat
 | [],_=>none
 | x :: l,k=>bif Nat.ble x.2 x.1 then fnV l (k+1)else some k
def onV:List (Nat×Nat)->Bool
 | []=>true
 | x :: l=>Nat.beq x.1 (Nat.add x.2 1) && onV l
def plV (cols:List (List Nat)):Nat->List (Nat×Nat)->Bool
 | 0,v=>onV v
 | f+1,v=>match fnV v 0 with
  | none=>onV v
  | some i=>plV cols f (rfV cols i v)
def cxV (cols:List (List Nat)):Nat->List (Nat×Nat)->List (Nat×Nat)
 | 0,v=>v
 | n+1,v=>cxV cols n (rfV cols n v)
def orV (cols:List (List Nat)) (n:Nat):Nat->List (Nat×Nat)->Bool
 | 0,_=>false
 | f+1,v=>onV (cxV cols n v) || orV cols n f (cxV cols n v)
def eqR:List Nat->List Nat->Bool
 | [],[]=>true
 | x :: a,y :: b=>Nat.beq x y && eqR a b
 | _,_=>false
def hasR (r:List Nat):List (List Nat)->Bool
 | []=>false
 | s :: l=>eqR r s || hasR r l
def dtR:List Nat->List Nat->Nat
 | x :: a,y :: b=>Nat.add (Nat.mul x y) (dtR a b)
 | _,_=>0
def stR:Nat->Nat->List Nat->List Nat
 | _,_,[]=>[]
 | 0,y,_ :: l=>y :: l
 | n+1,y,x :: l=>x :: stR n y l
def unR (n i:Nat):List Nat:=stR i 1 (List.replicate n 0)
def upR (r:List Nat) (q:List (List Nat)):Nat->List (List Nat)->List (List Nat)
 | _,[]=>[]
 | i,row :: rows=>bif Nat.ble (dtR row r) (Nat.mul 2 (inN i r))then upR r q (i+1) rows else
   bif hasR (stR i (Nat.sub (dtR row r) (inN i r)) r) q then upR r q (i+1) rows else stR i (Nat.sub (dtR row r) (inN i r)) r :: upR r q (i+1) rows
def grR (rows:List (List Nat)):Nat->List (List Nat)->List (List Nat)->List (List Nat)
 | 0,_,d=>d
 | _+1,[],d=>d
 | f+1,r :: q,d=>grR rows f (q ++ upR r q 0 rows) (r :: d)
def okR (P:List (List Nat)) (n:Nat) (r:List Nat):Nat->List (List Nat)->Bool
 | _,[]=>true
 | i,row :: rows=>(eqR r (unR n i) || (Nat.ble (inN i r) (dtR row r) && hasR (stR i (Nat.sub (dtR row r) (inN i r)) r) P)) && okR P n r (i+1) rows
def smR:List Nat->Bool
 | []=>true
 | x :: l=>Nat.ble x 6 && smR l
def unsR (n:Nat):Nat->List (List Nat)
 | 0=>[]
 | k+1=>unR n k :: unsR n k
def clR (rows:List (List Nat)) (n:Nat) (P:List (List Nat)):Bool:=
 (unsR n n).all (fun r=>hasR r P) && P.all fun r=>Nat.beq r.length n && smR r && okR P n r 0 rows
def godC (cols rows:List (List Nat)) (n:Nat):Bool:=
 plV cols 24 (List.replicate n (0,1)) && orV cols n 12 (List.replicate n (1,0)) && clR rows n (grR rows 30 (unsR n n) [])
def prN:List (Nat×Nat):=[(0,0),(1,1),(1,2),(2,1),(1,3),(3,1)]
def d3 (p q r:Nat×Nat):Bool:=Nat.ble (Nat.add (Nat.add (Nat.mul 2 (Nat.add (Nat.add (Nat.mul p.1 p.2) (Nat.mul q.1 q.2)) (Nat.mul r.1 r.2))) (Nat.add (Nat.mul (Nat.mul p.1 r.1) q.2) (Nat.mul (Nat.mul q.1 r.2) p.2))) 1) 8
def col4 (p q r s t u:Nat×Nat):List (List Nat):=[[0,p.2,q.2,s.2],[p.1,0,r.2,t.2],[q.1,r.1,0,u.2],[s.1,t.1,u.1,0]]
def row4 (p q r s t u:Nat×Nat):List (List Nat):=[[0,p.1,q.1,s.1],[p.2,0,r.1,t.1],[q.2,r.2,0,u.1],[s.2,t.2,u.2,0]]
def col3 (p q r:Nat×Nat):List (List Nat):=[[0,p.2,q.2],[p.1,0,r.2],[q.1,r.1,0]]
def row3 (p q r:Nat×Nat):List (List Nat):=[[0,p.1,q.1],[p.2,0,r.1],[q.2,r.2,0]]
def d4 (p q r s t u:Nat×Nat):Bool:=
 Nat.ble (4*(p.1*p.2+q.1*q.2+r.1*r.2+s.1*s.2+t.1*t.2+u.1*u.2)+2*(p.1*r.1*q.2+q.1*r.2*p.2+p.1*t.1*s.2+s.1*t.2*p.2+q.1*u.1*s.2+s.1*u.2*q.2+r.1*u.1*t.2+t.1*u.2*r.2) +
  (p.1*r.1*u.1*s.2+s.1*u.2*r.2*p.2+p.1*t.1*u.2*q.2+q.1*u.1*t.2*p.2+q.1*r.2*t.1*s.2+s.1*t.2*r.1*q.2)+1) (16+(p.1*p.2*(u.1*u.2)+q.1*q.2*(t.1*t.2)+s.1*s.2*(r.1*r.2)))
def ck4 (p:Nat×Nat):Bool:=prN.all fun q=>prN.all fun r=>!d3 p q r || prN.all fun s=>prN.all fun t=>!d3 p s t || prN.all fun u=>!d3 q s u || !d3 r t u || !d4 p q r s t u || godC (col4 p q r s t u) (row4 p q r s t u) 4
def ck3:Bool:=prN.all fun p=>prN.all fun q=>prN.all fun r=>!d3 p q r || godC (col3 p q r) (row3 p q r) 3
def ck2:Bool:=prN.all fun p=>godC [[0,p.2],[p.1,0]] [[0,p.1],[p.2,0]] 2
theorem ck1_true:godC [[0]] [[0]] 1=true:=by decide +kernel
theorem ck2_true:ck2=true:=by decide +kernel
theorem ck3_true:ck3=true:=by decide +kernel
theorem ck4_0:ck4 (0,0)=true:=by decide +kernel
theorem ck4_1:ck4 (1,1)=true:=by decide +kernel
theorem ck4_2:ck4 (1,2)=true:=by decide +kernel
theorem ck4_3:ck4 (2,1)=true:=by decide +kernel
theorem ck4_4:ck4 (1,3)=true:=by decide +kernel
theorem ck4_5:ck4 (3,1)=true:=by decide +kernel
end Go.Proofs.YtcinngodeoidnaaGreat
