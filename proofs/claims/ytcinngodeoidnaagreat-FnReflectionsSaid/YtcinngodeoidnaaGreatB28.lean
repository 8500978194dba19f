/- What the law on reflections says: in plain terms; the program's IsInvolution, and the law's own minus. -/
import Derived.Test.YtcinngodeoidnaaGreatB23
import Derived.Test.YtcinngodeoidnaaGreatB27
import Derived.Test.YtcinngodeoidnaaGreatB19
import Derived.Test.YtcinngodeoidnaaGreatB13
set_option linter.unusedVariables false
set_option linter.unusedSimpArgs false
namespace Go.Proofs.YtcinngodeoidnaaGreat
open Go Go.Aw Go.Cox
theorem bnd_neg {M:Int} {r:LI} (h:Bnd M r):Bnd M (negL r):=fun x hx=>by
 obtain⟨y,hy,rfl⟩:=List.mem_map.1 hx
 have:=h y hy
 omega
theorem rfl_bnd {c:LL} {r:LI} (h:rflB c r=true) (j:Nat):Bnd 100000000000000000 (actR c ((rflX c r).drop j) r):=by
 obtain⟨hc,hr,_,t,i,hi,ht,htl,e1,e2⟩:=rfl_facts h
 obtain⟨x1,x2,x3,_⟩:=rfl_neg h
 have hle:=rflX_le c r
 by_cases q:((rflX c r).drop j).length<=7
 ·rw [e1,<- actR_append,<- e1]
  exact actR_small hc (letters_append.2 ⟨letters_drop x1 j,ht⟩) (by rw [lenA];omega) i
 ·have hp:((rflX c r).take j).length<=7:=by
   rw [List.length_drop]at q
   rw [List.length_take]
   omega
  have e:actR c ((rflX c r).drop j) r=negL (actR c ((rflX c r).take j).reverse r):=by
   have k1:actR c ((rflX c r).take j) (actR c ((rflX c r).drop j) r)=negL r:=by rw [<- actR_append,List.take_append_drop];exact x3
   have k2:=congrArg (actR c ((rflX c r).take j).reverse) k1
   rw [actR_rev hc _ (letters_take x1 j) (by rw [actR_len];exact hr),actR_neg]at k2
   exact k2
  rw [e]
  refine bnd_neg ?_
  have k3:=actR_small hc (letters_append.2 ⟨letters_reverse (letters_take x1 j),ht⟩) (by rw [lenA,List.length_reverse];omega) i
  rw [actR_append,<- e1]at k3
  exact k3
theorem rfl_root_bnd {c:LL} {r:LI} (h:rflB c r=true):Bnd 100000000000000000 r/\r.length<=4:=by
 obtain⟨hc,hr,_⟩:=rfl_facts h
 have:=rfl_bnd h 15
 rw [List.drop_eq_nil_of_le (rflX_le c r)]at this
 exact⟨this,by rw [hr];exact hc.2.1⟩
theorem rfl_inv {c:LL} {r:LI} (h:rflB c r=true):wordB c (rflX c r)=true/\0 < (redL c (rflX c r)).length/\imageL c (rflX c r)=imageL c (rflX c r).reverse:=by
 obtain⟨hc,_⟩:=rfl_facts h
 obtain⟨x1,x2,_,x4⟩:=rfl_neg h
 have hle:=rflX_le c r
 have h3:=(red_spec hc x1 om).2.2.1
 refine⟨wordB_iff.2 ⟨hc,hle,x1⟩,by omega,?_⟩
 have k:=congrArg (actL c (rflX c r).reverse) x4
 rw [image_append,act_rev hc _ x1 (imageL_length _ _)]at k
 exact k
theorem fac_prod {c:LL} (hb:rofB c=true):∀ {k:Nat} {x:LI} {L:LL},letters c.length x->x.length<=15->rkW c x=k->facL c k x=some L->(∀ s∈L,letters c.length s)/\imageL c L.flatten=imageL c x/\x.length % 2=k % 2
 | 0,x,L,hx,hl,hk,h=>by
  cases h
  have hF:=rof_fin hb
  have e:=rk_zero hF hx hk
  refine⟨fun s hs=>(nomatch hs),e.symm,?_⟩
  obtain⟨_,_,a3,_⟩:=red_spec hF.1 hx om
  have:redL c x=redL c []:=red_eq (by rw [e];rfl)
  have h2:=(red_spec hF.1 (letters_nil c.length) (w:=[]) (by simp)).2.1
  rw [this]at a3
  simp only [lenN]at h2
  omega
 | k+1,x,L,hx,hl,hk,h=>by
  have hF:=rof_fin hb
  have hc:=hF.1
  obtain⟨f1,_,f3⟩:=fac_spec hb hx hl om
  simp only [facL]at h
  split at h
  ·rename_i h15
   obtain⟨M,hM,rfl⟩:=Option.map_eq_some_iff.1 h
   have hm:facS c x∈rofX c:=rof_at f1
   obtain⟨r,_,hr,es⟩:=rof_from hb hm
   obtain⟨s1,s2,_,s4⟩:=rfl_neg hr
   rw [<- es]at s1 s2 s4
   have hs15:=(rof_word hb hm).2
   have hcat:=letters_append.2 ⟨s1,hx⟩
   obtain⟨a1,a2,a3,a4,_⟩:=red_spec hc hcat (by rw [lenA];omega)
   have hnx:letters c.length (facN c x):=a1
   obtain⟨b1,b2,b3⟩:=fac_prod hb hnx h15 (by have:=f3 h15;omega) hM
   refine⟨fun s hs=>?_,?_,?_⟩
   ·rcases List.mem_cons.1 hs with rfl | hs
    ·exact s1
    ·exact b1 s hs
   ·rw [List.flatten_cons,image_append,b2]
    unfold facN
    rw [a4,image_append,<- actL_append]
    have:=same_elt hc (letters_append.2 ⟨s1,s1⟩) (letters_nil _) (b:=[]) (by rw [s4];rfl) (imageL_length c x)
    rw [this];rfl
   ·have e:(facN c x).length=(redL c (facS c x ++ x)).length:=rfl
    rw [e,a3,lenA]at b3
    omega
  ·cases h
theorem fac_law {c:LL} {w:LI} (h:facB c w=true):CartanP c/\isF c=true/\letters c.length w/\w.length<=15/\(facX c w).length=rkW c w/\(∀ s∈facX c w,letters c.length s/\s.length<=15)/\imageL c (facX c w).flatten=imageL c w/\w.length % 2=rkW c w % 2/\rkW c w<=(redL c w).length:=by
 have hr:=facX_rows c w
 have hX:facX c w=(facL c (rkW c w) w).getD []:=by unfold facX;rw [if_pos h]
 unfold facB at h
 simp only [bAnd]at h
 obtain⟨⟨h1,h2⟩,h3⟩:=h
 obtain⟨L,hL⟩:=Option.isSome_iff_exists.1 h3
 rw [hL,Option.getD_some]at hX
 rw [hX]at hr ⊢
 obtain⟨hc,k2,k3⟩:=wordB_iff.1 h1
 have hF:=rof_fin h2
 obtain⟨p1,p2,p3⟩:=fac_prod h2 k3 k2 rfl hL
 obtain⟨a1,_⟩:=red_spec hc k3 om
 have hk:=rk_len hF (redL c w) a1
 rw [rk_red hc k3 om]at hk
 exact⟨hc,isF_iff.2 hF,k3,k2,facL_len hL,fun s hs=>⟨p1 s hs,hr s hs⟩,p2,p3,hk⟩
def PrP (c:LL) (L:LL) (i:Nat) (x:LI):Prop:=letters c.length x/\x.length<=15/\imageL c x=imageL c (L.take i).flatten
theorem prP_word {c:LL} {L:LL} {i:Nat} {x:LI} (hc:CartanP c) (h:PrP c L i x):wordB c x=true:=wordB_iff.2 ⟨hc,h.2.1,h.1⟩
theorem letters_flat {n:Nat} {L:LL} (h:∀ s∈L,letters n s):letters n L.flatten:=fun i hi=>by
 obtain⟨s,hs,k⟩:=List.mem_flatten.1 hi
 exact h s hs i k
theorem prP_step {c:LL} {L:LL} {i:Nat} {x:LI} (hc:CartanP c) (hL:∀ s∈L,letters c.length s/\s.length<=15) (h:PrP c L i x) (hi:i < L.length) (hm:mulB c x (L.getD i [])=true):PrP c L (i+1) (mulX c x (L.getD i [])):=by
 obtain⟨h1,h2,h3⟩:=h
 have hs:L.getD i []∈L:=by rw [gdE,geE hi];exact List.getElem_mem _
 obtain⟨s1,s2⟩:=hL _ hs
 have hcat:=letters_append.2 ⟨h1,s1⟩
 obtain⟨a1,_,_,a4,_⟩:=red_spec hc hcat (by rw [lenA];omega)
 have e:mulX c x (L.getD i [])=redL c (x ++ L.getD i []):=by unfold mulX;rw [if_pos hm]
 have ht:L.take (i+1)=L.take i ++ [L.getD i []]:=by
  rw [List.take_add_one,gdE,geE hi];rfl
 refine⟨by rw [e];exact a1,mulX_le _ _ _,?_⟩
 rw [e,a4,ht,List.flatten_append,image_append,image_append]
 have e2:[L.getD i []].flatten=L.getD i []:=by simp
 rw [e2]
 exact same_elt hc h1 (letters_flat fun s k=>(hL s (List.mem_of_mem_take k)).1) h3 (imageL_length _ _)
theorem prP_end {c:LL} {w x:LI} (h:facB c w=true) (hx:PrP c (facX c w) (facX c w).length x):sameB c x w=true:=by
 obtain⟨hc,_,k3,k2,_,_,p2,_⟩:=fac_law h
 unfold sameB
 rw [prP_word hc hx,wordB_iff.2 ⟨hc,k2,k3⟩,hx.2.2,tkL,p2]
 simp
theorem c_impl_IsInvolution (c:LL) (w:LI) (hw:wordB c w=true) (h1:0 < (redL c w).length) (h2:imageL c w=imageL c w.reverse):FunA B 12 [.sl false (.row false) c,.sl false .int w] (fun rs o=>rs=[.bool true]/\o=[]):=by
 obtain⟨hc,h15,hl⟩:=wordB_iff.1 hw
 have hd:decide ((0:Int) < ((redL c w).length:Int))=true:=by rw [dtE];omega
 have hs:(imageL c w == imageL c w.reverse)=true:=by rw [h2];simp
 refine wk Tryz.call12 Tryz.func12 rfl Tryz.ntmps12 fun C hC hP hT hfn hpin hfin hX=>wW ?_
 refine Run.R ?_
 refine Run.g fun K hK=>?_
 refine FunA.cW hP hT (c_impl_IsWord c w) ?_
 rintro rs o ⟨rfl,rfl⟩
 rw [hw]
 refine wW ?_
 refine .inr ⟨rfl,?_⟩
 refine FunA.e hP hT (c_impl_lengthOf c w hc hl om) ?_
 try rw [hd]
 simp only [AW7,simprocAttr,hX]
 refine .inr ⟨rfl,?_⟩
 refine FunA.e hP hT (c_impl_ReverseWord w om) ?_
 refine .inr ⟨rfl,?_⟩
 refine FunA.cW hP hT (c_impl_same c w w.reverse hc hl (letters_reverse hl) om (by simp;omega)) ?_
 rintro rs o ⟨rfl,rfl⟩
 rw [hs]
 refine wF ?_;clear hK K
 refine Run.k [4] [] ?_
 refine Run.r [4] ?_
 exact⟨rfl,rfl⟩
theorem c_minus (r:LI) (hb:Bnd 100000000000000000 r) (hl:r.length<=4):FunA B 14 [.sl false .int r] (fun rs o=>rs=[.own 0 0]/\o=[.arr .int (negL r) 0 true]):=by
 refine wk Tryz.call14 Tryz.func14 rfl Tryz.ntmps14 fun C hC hP hT hfn hpin hfin hX=>wW ?_
 refine Run.R ?_
 refine Run.R ?_
 refine Run.R ?_
 refine Run.k [0,3,4] [0] ?_
 refine Run.loopI (X:=Nat) (fun i=>⟨21,[(0,true,.v (.sl false .int r)),(3,true,.v (.own 0 0)),(4,true,.v (.int .i64 i))],[.arr .int (((negL r).take i)) 0 true]⟩) (fun i=>i<=r.length) (fun i=>r.length - i) (0) (nz0 _) ?_ ?_
 ·exact Le.s
 rintro i hi ih
 try simp only []
 refine Run.R ?_
 refine Run.c ?_ ?_
 rotate_left
 ·intro h
  have h:i=r.length:=by rw [dfE]at h;omega
  subst h
  refine Run.x ?_
  refine Run.R ?_
  refine Run.k [2] [0] ?_
  refine Run.r [2] ?_
  refine⟨rfl,?_⟩
  rw [List.take_of_length_le (by simp [negL])]
 intro h
 have h:i < r.length:=by rw [dtE]at h;omega
 have hx:=hb _ (show r.getD i 0∈r by rw [gdE,geE h];exact List.getElem_mem _)
 have ht:(negL r).take (i+1)=(negL r).take i ++ [0 - r.getD i 0]:=by
  rw [List.take_add_one,geE (by simpa [negL] using h),Int.zero_sub]
  simp [negL,gdE,h]
 refine Run.RW ?_
 refine Run.k [0,3,4] [0] ?_
 refine Run.RW ?_
 refine Run.le ?_ (ih (i+1) om (by(try simp only [lenA,lenC,lenN]);omega))
 exact Le.sub (by first | rfl | (simp only [ht];done) | (rw [ht];rfl)) (by simp only [AW7,simprocAttr];try simp)
theorem jnR {C:Ctx} {k k':List Item} {σ σ':St} (rest:Run C k' σ') (h:Run C k' σ'->Run C k σ):Run C k σ:=h rest
set_option maxHeartbeats 20000000 in
theorem c_FnReflections (code:LI) (hwf:∀ n∈code,(Lit.int .u8 n).wf=true):FunA B 3 [.sl false .byte code] (fun rs _=>rs=[.bool true]):=by
 refine wk Tryz.call3 Tryz.func3 rfl Tryz.ntmps3 fun C hC hP hT hfn hpin hfin hX=>wW ?_
 refine Run.R ?_
 refine Run.g fun K hK=>?_
 refine FunA.e hP hT (c_big code) ?_
 refine wE ?_;clear hK K
 refine Run.c ?_ ?_
 ·intro _
  refine Run.R ?_
  refine Run.r [2] ?_
  rfl
 intro hb
 have hcl:code.length<=1048576:=by
  have hb:¬1048576 < code.length:=by simpa using hb
  omega
 refine Run.g fun K hK=>?_
 refine FunA.cW hP hT (c_DrawReflectionOf code hcl) ?_
 rintro rs o ⟨c,r,⟨c1,c2⟩,hr,rfl,rfl⟩
 refine wF ?_;clear hK K
 refine Run.k [0,3,4] [] ?_
 refine Run.g fun K hK=>?_
 refine FunA.e hP hT (c_impl_ReflectionOf c r) ?_
 refine wE ?_;clear hK K
 refine Run.g fun K hK=>?_
 refine FunA.e hP hT (c_spec_ReflectionOf c r) ?_
 refine wE ?_;clear hK K
 refine Run.k [0,3,4,5,6,7,8] [0,1] ?_
 refine Run.l 0 [0,3,4,5,6,7,8] ?_
 refine Run.l 1 [0,3,4,5,6,7,8] ?_
 refine Run.k [0,3,4,5,6,7,8] [] ?_
 have hle:=rflX_le c r
 have hr6:=hr.1
 have hxx:(rflX c r == rflX c r)=true:=by simp
 have hrr:(r == r)=true:=by simp
 have hnn:(negL r == negL r)=true:=by simp
 have hnl:(negL r).length=r.length:=by simp [negL]
 apply jnR (σ':=⟨253,[(0,true,.v (.sl false .byte code))],[]⟩)
 case h=>
  intro rest
  cases hB:rflB c r with
  | false=>
   refine Run.g fun K hK=>?_
   refine .inr ⟨rfl,?_⟩
   refine FunA.cW hP hT (c_sameInts (rflX c r) (rflX c r) om) ?_
   rintro rs o ⟨rfl,rfl⟩
   rw [hxx]
   refine wW ?_
   refine .inl (CallG.off (.bool false) ?_)
   refine wW ?_
   refine .inl (CallG.off (.sl false .int []) ?_)
   refine wW ?_
   refine .inl (CallG.off (.sl false .int []) ?_)
   refine wW ?_
   refine .inl (CallG.off (.bool false) ?_)
   refine wF ?_;clear hK K
   refine Run.c ?_ ?_
   ·intro h;exact absurd h (by simp)
   intro _
   refine Run.k [0,6] [] ?_
   refine Run.R ?_
   refine Run.c ?_ ?_
   ·intro h;cases h
   intro _
   refine Run.k [0] [] ?_
   refine Run.nq ?_
   exact rest
  | true=>
   obtain⟨i1,i2,i3⟩:=rfl_inv hB
   obtain⟨x1,x2,x3,x4⟩:=rfl_neg hB
   obtain⟨b1,b2⟩:=rfl_root_bnd hB
   obtain⟨hc,hrl,_⟩:=rfl_facts hB
   refine Run.g fun K hK=>?_
   refine .inr ⟨rfl,?_⟩
   refine FunA.cW hP hT (c_sameInts (rflX c r) (rflX c r) om) ?_
   rintro rs o ⟨rfl,rfl⟩
   rw [hxx]
   refine wW ?_
   refine .inr ⟨rfl,?_⟩
   refine FunA.e hP hT (c_impl_IsInvolution c (rflX c r) i1 i2 i3) ?_
   refine .inr ⟨rfl,?_⟩
   refine FunA.cW hP hT (c_spec_ActOnRoot c (rflX c r) r ⟨hc,hle,x1⟩ hrl (rfl_bnd hB)) ?_
   rintro rs o ⟨rfl,rfl⟩
   rw [x3]
   refine wW ?_
   refine .inr ⟨rfl,?_⟩
   refine FunA.e hP hT (c_minus r b1 b2) ?_
   refine .inr ⟨rfl,?_⟩
   refine FunA.cW hP hT (c_sameInts (negL r) (negL r) om) ?_
   rintro rs o ⟨rfl,rfl⟩
   rw [hnn]
   refine wF ?_;clear hK K
   refine Run.c ?_ ?_
   ·intro h;exact absurd h (by simp)
   intro _
   refine Run.k [0,3,4,6,7] [] ?_
   refine Run.R ?_
   refine Run.c ?_ ?_
   rotate_left
   ·intro h;cases h
   intro _
   refine Run.g fun K hK=>?_
   refine FunA.cW hP hT (c_impl_RootOfReflection c (rflX c r) om) ?_
   rintro rs o ⟨rfl,rfl⟩
   rw [(ror_back hB).1,(ror_back hB).2]
   refine wF ?_;clear hK K
   refine Run.g fun K hK=>?_
   refine .inr ⟨rfl,?_⟩
   refine FunA.cW hP hT (c_sameInts r r om) ?_
   rintro rs o ⟨rfl,rfl⟩
   rw [hrr]
   refine wF ?_;clear hK K
   refine Run.c ?_ ?_
   ·intro h;exact absurd h (by simp)
   intro _
   refine Run.k [0] [] ?_
   refine Run.nq ?_
   exact rest
 refine Run.g fun K hK=>?_
 refine FunA.cW hP hT (c_DrawReflectionsOf code hcl) ?_
 rintro rs o ⟨d,⟨d1,d2⟩,rfl,rfl⟩
 refine wF ?_;clear hK K
 refine Run.k [0,11] [] ?_
 have l1:=rofX_len d
 have l2:=rofX_rows d
 have h1:(rofB d != rofB d)=false:=by simp
 have h2:(rofX d == rofX d)=true:=by simp
 refine Run.g fun K hK=>?_
 refine FunA.cW hP hT (c_impl_ReflectionsOf d) ?_
 rintro rs o ⟨rfl,q1,_,rfl⟩
 refine wF ?_;clear hK K
 refine Run.g fun K hK=>?_
 refine FunA.cW hP hT (c_spec_ReflectionsOf d) ?_
 rintro rs o ⟨rfl,q2,_,rfl⟩
 refine wF ?_;clear hK K
 refine Run.k [0,12,13,14,15] [0,1] ?_
 refine Run.g fun K hK=>?_
 rw [h1]
 simp only [AW7,simprocAttr,hX]
 refine .inr ⟨rfl,?_⟩
 refine FunA.callW hP hT (c_sameWords (rofX d) (rofX d) om (fun r hr=>by have:=l2 r hr;omega)) (by simp only [AW7,simprocAttr];first | done | exact⟨⟨rfl,rfl⟩,rfl,rfl⟩ | simp [argO,convV]) ?_
 rintro rs o ⟨rfl,rfl⟩
 rw [h2]
 refine wF ?_;clear hK K
 refine Run.c ?_ ?_
 ·intro h;exact absurd h (by simp)
 intro _
 refine Run.k [0] [] ?_
 refine Run.g fun K hK=>?_
 refine FunA.cW hP hT (c_DrawFactorReflections code hcl) ?_
 rintro rs o ⟨e,w,⟨e1,e2⟩,hw,rfl,rfl⟩
 refine wF ?_;clear hK K
 refine Run.k [0,16,17] [] ?_
 have l3:=facX_len e w
 have l4:=facX_rows e w
 have h3:(facB e w != facB e w)=false:=by simp
 have h4:(facX e w == facX e w)=true:=by simp
 have h5:(absN e w != absN e w)=false:=by simp
 have h6:(fixN e w != fixN e w)=false:=by simp
 refine Run.g fun K hK=>?_
 refine FunA.cW hP hT (c_impl_FactorReflections e w om) ?_
 rintro rs o ⟨rfl,q3,_,rfl⟩
 refine wF ?_;clear hK K
 refine Run.g fun K hK=>?_
 refine FunA.cW hP hT (c_spec_FactorReflections e w om) ?_
 rintro rs o ⟨rfl,q4,_,rfl⟩
 refine wF ?_;clear hK K
 refine Run.g fun K hK=>?_
 refine FunA.e hP hT (c_impl_AbsoluteLength e w om) ?_
 refine wE ?_;clear hK K
 refine Run.k [0,16,17,18,19,20,21,22] [0,1] ?_
 refine Run.g fun K hK=>?_
 rw [h3]
 simp only [AW7,simprocAttr,hX]
 refine .inr ⟨rfl,?_⟩
 refine FunA.callW hP hT (c_sameWords (facX e w) (facX e w) om (fun r hr=>by have:=l4 r hr;omega)) (by simp only [AW7,simprocAttr];first | done | exact⟨⟨rfl,rfl⟩,rfl,rfl⟩ | simp [argO,convV]) ?_
 rintro rs o ⟨rfl,rfl⟩
 rw [h4]
 refine wW ?_
 refine .inr ⟨rfl,?_⟩
 refine FunA.e hP hT (c_spec_AbsoluteLength e w om) ?_
 rw [h5]
 refine wW ?_
 refine .inr ⟨rfl,?_⟩
 refine FunA.e hP hT (c_impl_FixedRank e w om) ?_
 refine .inr ⟨rfl,?_⟩
 refine FunA.e hP hT (c_spec_FixedRank e w om) ?_
 rw [h6]
 refine wF ?_;clear hK K
 refine Run.c ?_ ?_
 ·intro h;exact absurd h (by simp)
 intro _
 refine Run.k [0,16,17,19,20,22] [1] ?_
 refine Run.unmat hC 0 rfl ?_
 simp only [AW7,simprocAttr]
 refine Run.l 0 [0,16,17,19,20,22] ?_
 refine Run.k [0,16,17,19,20,22] [] ?_
 apply jnR (σ':=⟨253,[(0,true,.v (.sl false .byte code))],[]⟩)
 case h=>
  intro rest
  refine Run.R ?_
  refine Run.c ?_ ?_
  rotate_left
  ·intro _
   refine Run.k [0] [] ?_
   refine Run.nq ?_
   exact rest
  intro hfb
  obtain⟨hc,hF,k3,k2,n1,n2,n3,n4,n5⟩:=fac_law hfb
  have hwb:wordB e w=true:=wordB_iff.2 ⟨hc,k2,k3⟩
  rw [absN_on hwb hF]
  have z1:(((facX e w).length:Int) != ((rkW e w:Nat):Int))=false:=by rw [n1];simp
  have z2:(((rkW e w:Nat):Int).tmod 2 != ((w.length:Nat):Int).tmod 2)=false:=by
   rw [Int.tmod_eq_emod_of_nonneg om,Int.tmod_eq_emod_of_nonneg om,show((rkW e w:Nat):Int) % 2=((w.length:Nat):Int) % 2 by omega]
   simp
  have z3:decide (((redL e w).length:Int) < ((rkW e w:Nat):Int))=false:=by rw [dfE];omega
  refine Run.R ?_
  refine Run.R ?_
  refine Run.k [0,16,17,20,22,23,24] [0] ?_
  refine Run.loopI (X:=Nat×List Int) (fun p=>⟨253,[(0,true,.v (.sl false .byte code)),(16,true,.v (.sl true (.row true) e)),(17,true,.v (.sl true .int w)),(20,true,.v (.sl true (.row true) ((facX e w)))),(22,true,.v (.int .i64 ((rkW e w:Nat)))),(23,true,.v (.own 0 0)),(24,true,.v (.int .i64 (p.1)))],[.arr .int (p.2) 0 true]⟩) (fun p=>p.1<=(facX e w).length/\PrP e (facX e w) p.1 p.2) (fun p=>(facX e w).length - p.1) ((0,[])) (⟨nz0 _,letters_nil _,by simp,by simp⟩) ?_ ?_
  ·exact Le.s
  rintro⟨i,x⟩ ⟨hi,hx⟩ ih
  try simp only []
  simp only []at hi hx
  have hx15:=hx.2.1
  refine Run.R ?_
  refine Run.c ?_ ?_
  ·intro h
   have h:i < (facX e w).length:=by rw [dtE]at h;omega
   refine Run.g fun K hK=>?_
   refine FunA.e hP hT (c_spec_MultiplyElements e x ((facX e w).getD i []) om) ?_
   refine wE ?_;clear hK K
   refine Run.R ?_
   refine Run.c ?_ ?_
   ·intro _
    refine Run.R ?_
    refine Run.r [2] ?_
    rfl
   intro hm
   have hm:mulB e x ((facX e w).getD i [])=true:=by simpa using hm
   refine Run.R ?_
   refine Run.k [0,16,17,20,22,23,24] [1] ?_
   refine Run.RW ?_
   exact Run.j (ih ((i+1,mulX e x ((facX e w).getD i []))) (⟨h,prP_step hc n2 hx h hm⟩) mz)
  intro h
  have h:i=(facX e w).length:=by rw [dfE]at h;omega
  subst h
  refine Run.x ?_
  refine Run.g fun K hK=>?_
  refine FunA.cW hP hT (c_impl_AreSame e x w om) ?_
  rintro rs o ⟨rfl,rfl⟩
  rw [prP_end hfb hx]
  refine wW ?_
  rw [z1]
  simp only [AW7,simprocAttr,hX]
  rw [z2]
  simp only [AW7,simprocAttr,hX]
  refine .inr ⟨rfl,?_⟩
  refine FunA.cW hP hT (c_spec_LengthOf e w om) ?_
  rintro rs o ⟨rfl,rfl⟩
  rw [if_pos hwb]
  refine wW ?_
  rw [z3]
  refine wF ?_;clear hK K
  refine Run.c ?_ ?_
  ·intro h;exact absurd h (by simp)
  intro _
  refine Run.k [0] [] ?_
  refine Run.nq ?_
  exact rest
 refine Run.g fun K hK=>?_
 refine FunA.cW hP hT (c_DrawIsAbsoluteBelow code hcl) ?_
 rintro rs o ⟨f,u,v,⟨f1,f2⟩,hu,hv,rfl,rfl⟩
 refine wF ?_;clear hK K
 refine Run.g fun K hK=>?_
 refine FunA.cW hP hT (c_DrawRootOfReflection code hcl) ?_
 rintro rs o ⟨g,y,⟨g1,g2⟩,hy,rfl,rfl⟩
 refine wF ?_;clear hK K
 refine Run.k [27,28,29,30,31] [] ?_
 refine Run.g fun K hK=>?_
 refine FunA.e hP hT (c_impl_RootOfReflection g y om) ?_
 refine wE ?_;clear hK K
 refine Run.g fun K hK=>?_
 refine FunA.e hP hT (c_spec_RootOfReflection g y om) ?_
 refine wE ?_;clear hK K
 refine Run.k [27,28,29,32,33,34,35] [0,1] ?_
 refine Run.l 0 [27,28,29,32,33,34,35] ?_
 refine Run.l 1 [27,28,29,32,33,34,35] ?_
 refine Run.k [27,28,29,32,33,34,35] [] ?_
 have m3:(rorX g y == rorX g y)=true:=by simp
 refine Run.g fun K hK=>?_
 refine FunA.e hP hT (c_impl_IsAbsoluteBelow f u v om) ?_
 refine FunA.e hP hT (c_spec_IsAbsoluteBelow f u v om) ?_
 refine .inr ⟨rfl,?_⟩
 refine FunA.cW hP hT (c_sameInts (rorX g y) (rorX g y) (by have:=rorX_le g y;omega)) ?_
 rintro rs o ⟨rfl,rfl⟩
 rw [m3]
 refine wF ?_;clear hK K
 refine Run.r [2] ?_
 rfl
end Go.Proofs.YtcinngodeoidnaaGreat
