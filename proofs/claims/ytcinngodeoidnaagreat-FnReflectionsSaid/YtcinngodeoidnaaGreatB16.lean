/- The reflection with a positive root: what the reference does. -/
import Derived.Test.YtcinngodeoidnaaGreatB15
set_option linter.unusedVariables false
set_option linter.unusedSimpArgs false
namespace Go.Proofs.YtcinngodeoidnaaGreat
open Go Go.Aw Go.Cox
theorem Run.joinP {C:Ctx} {i j:Item} {k:List Item} {σ:St} (σ':St) (p:Prop) (h1:p->Run C k σ') (h2:(p->Run C k σ')->Run C (i :: j :: k) σ):Run C (i :: j :: k) σ:=h2 h1
theorem c_spec_ReflectionOf (c:LL) (r:LI) :
  FunA B 10 [.sl false (.row false) c,.sl false .int r] (fun rs o=>rs=[.own 0 0,.bool (rflB c r)]/\o=[.arr .int (rflX c r) 0 true]):=by
 refine wk Tryz.call10 Tryz.func10 rfl Tryz.ntmps10 fun C hC hP hT hfn hpin hfin hX=>wW ?_
 refine Run.R ?_
 refine Run.g fun K hK=>?_
 refine FunA.e hP hT (c_spec_IsRootVector c r) ?_
 refine .inl (FunA.callG hP hT (c_spec_RootSign r) (fun _=>rfl) (fun _=>by simp only [AW7,simprocAttr]) ?_)
 refine wF ?_;clear hK K
 refine Run.c ?_ ?_
 ·intro h
  have h:(wgtB c r && (sgnR r == 1))=false:=by
   revert h
   cases wgtB c r with
   | false=>simp
   | true=>
    intro h
    have h:sgnR r<=0:=by simpa using h
    have:=sgnR_pos.1 h
    simpa using this
  obtain⟨e1,e2⟩:=rfl_none (rfl_off h)
  refine Run.R ?_
  refine Run.k [4,5] [0] ?_
  refine Run.r [4,5] ?_
  rw [e1,e2];exact⟨rfl,rfl⟩
 intro h
 have hwb:wgtB c r=true:=by revert h;cases wgtB c r<;>simp
 have hsg:sgnR r=1:=by
  revert h;rw [hwb];intro h
  have h:¬sgnR r<=0:=by simpa using h
  cases Int.decEq (sgnR r) 1 with
  | isTrue h1=>exact h1
  | isFalse h1=>exact absurd (sgnR_pos.2 h1) h
 obtain⟨hc,hw⟩:=wgtB_iff.1 hwb
 have hn:=hc.2.1
 have hO:=rfl_on hwb hsg
 have hrl:=hw.1
 refine Run.R ?_
 refine Run.R ?_
 refine Run.R ?_
 refine Run.k [0,1,6,7,8] [0,1] ?_
 refine Run.loopI (X:=List Int×List Int) (fun x=>⟨92,[(0,true,.v (.sl false (.row false) c)),(1,true,.v (.sl false .int r)),(6,true,.v (.own 0 0)),(7,true,.v (.own 1 0)),(8,true,.v (.int .i64 (x.2.length)))],[.arr .int (x.1) 0 true,.arr .int (x.2) 0 true]⟩) (fun x=>Dn c x.1/\x.2.length<=8/\letters c.length x.2/\(x.2.length<=7->rflO c r=rflP c (7 - x.2.length) x.1 x.2)/\(x.2.length=8->rflO c r=none)) (fun x=>8 - x.2.length) ((r,[])) (⟨Dn.start hc hw hsg,by simp,letters_nil _,fun _=>hO,fun h=>by simp at h⟩) ?_ ?_
 ·exact Le.s
 rintro⟨s,p⟩ ⟨hD,hp8,hpl,hE,hZ⟩ ihO
 try simp only []
 simp only []at hD hp8 hpl hE hZ
 have hb:=hD.bnd
 have hl:=hD.len
 refine Run.R ?_
 refine Run.c ?_ ?_
 rotate_left
 ·intro h1
  have h1:p.length=8:=by simp at h1;omega
  obtain⟨e1,e2⟩:=rfl_none (hZ h1)
  refine Run.x ?_
  refine Run.R ?_
  refine Run.k [4,5] [2] ?_
  refine Run.r [4,5] ?_
  rw [e1,e2];exact⟨rfl,rfl⟩
 intro h1
 have h1:p.length<=7:=by simp at h1;omega
 have hE:=hE h1
 clear hZ
 refine Run.R ?_
 refine Run.k [0,1,6,7,8,9] [0,1] ?_
 refine Run.joinP ⟨92,[(0,true,.v (.sl false (.row false) c)),(1,true,.v (.sl false .int r)),(6,true,.v (.own 0 0)),(7,true,.v (.own 1 0)),(8,true,.v (.int .i64 p.length))],[.arr .int s 0 true,.arr .int p 0 true]⟩ (simI c s=none) ?_ (fun cont=>?_)
 rotate_left
 ·refine Run.loopI (X:=Nat) (fun k=>⟨92,[(0,true,.v (.sl false (.row false) c)),(1,true,.v (.sl false .int r)),(6,true,.v (.own 0 0)),(7,true,.v (.own 1 0)),(8,true,.v (.int .i64 (p.length))),(9,true,.v (.int .i64 k))],[.arr .int (s) 0 true,.arr .int (p) 0 true]⟩) (fun k=>k<=c.length/\∀ j,j < k->(s == simL c.length j)=false) (fun k=>c.length - k) (0) (⟨nz0 _,by omega⟩) ?_ ?_
  ·exact Le.s
  rintro k ⟨hk,hpre⟩ ih
  try simp only []
  refine Run.R ?_
  refine Run.c ?_ ?_
  ·intro h2
   have h2:k < c.length:=by simpa using h2
   have hsl:=simL_len c.length k
   refine Run.g fun K hK=>?_
   refine FunA.e hP hT (c_spec_SimpleRoot c (k:Int) hc om) ?_
   refine FunA.e hP hT (c_spec_EqualWords s (simL c.length k) om) ?_
   refine wE ?_;clear hK K
   refine Run.c ?_ ?_
   ·intro h3
    have hsi:simI c s=some k:=find_some h2 h3 hpre
    have hz:=hE.trans (rflP_sim hsi _ _)
    have hlw:letters c.length (p ++ [(k:Int)] ++ p.reverse):=letters_append.2 ⟨letters_append.2 ⟨hpl,letters_cons.2 ⟨by omega,letters_nil _⟩⟩,letters_reverse hpl⟩
    have hll:(p ++ [(k:Int)] ++ p.reverse).length<=31:=by simp;omega
    refine Run.g fun K hK=>?_
    refine FunA.e hP hT (c_spec_ConcatWords p [(k:Int)] om (by simp)) ?_
    refine FunA.e hP hT (c_spec_ReverseWord p om) ?_
    refine FunA.e hP hT (c_spec_ConcatWords (p ++ [(k:Int)]) p.reverse (by simp;omega) (by simp;omega)) ?_
    refine wE ?_;clear hK K
    refine Run.g fun K hK=>?_
    refine FunA.e hP hT (c_spec_l9Fit c (p ++ [(k:Int)] ++ p.reverse) hc hlw hll) ?_
    refine wE ?_;clear hK K
    refine Run.R ?_
    have e1:rflB c r=decide ((redL c (p ++ [(k:Int)] ++ p.reverse)).length<=15):=by unfold rflB;rw [hz];rfl
    have e2:rflX c r=if (redL c (p ++ [(k:Int)] ++ p.reverse)).length<=15 then redL c (p ++ [(k:Int)] ++ p.reverse)else []:=by
     unfold rflX;rw [e1,hz];simp only [dtE];rfl
    refine Run.k [4,5] [7] ?_
    refine Run.r [4,5] ?_
    rw [e1,e2];exact⟨rfl,rfl⟩
   ·intro h3
    have hp2:∀ j,j < k+1->(s == simL c.length j)=false:=fun j hj=>by
     by_cases hjk:j=k
     ·subst hjk;exact h3
     ·exact hpre j om
    refine Run.k [0,1,6,7,8,9] [0,1] ?_
    refine Run.RW ?_
    exact Run.j (ih (k+1) (⟨by omega,hp2⟩) mz)
  ·intro h2
   have h2:k=c.length:=by simp at h2;omega
   subst h2
   refine Run.exit rfl ?_
   refine Run.le ?_ (cont (find_none hpre))
   exact Le.sub (by rfl) (by simp only [AW7,simprocAttr];try simp)
 intro hsi
 refine Run.R ?_
 refine Run.joinP ⟨92,[(0,true,.v (.sl false (.row false) c)),(1,true,.v (.sl false .int r)),(6,true,.v (.own 0 0)),(7,true,.v (.own 1 0)),(8,true,.v (.int .i64 p.length)),(13,true,.v (.int .i64 ((lowI c s).getD c.length:Nat)))],[.arr .int s 0 true,.arr .int p 0 true]⟩ True ?_ (fun cont=>?_)
 rotate_left
 ·refine Run.loopI (X:=Nat) (fun k=>⟨92,[(0,true,.v (.sl false (.row false) c)),(1,true,.v (.sl false .int r)),(6,true,.v (.own 0 0)),(7,true,.v (.own 1 0)),(8,true,.v (.int .i64 (p.length))),(13,true,.v (.int .i64 k))],[.arr .int (s) 0 true,.arr .int (p) 0 true]⟩) (fun k=>k<=c.length/\∀ j,j < k->decide (hgt (mirL c j s) < hgt s)=false) (fun k=>c.length - k) (0) (⟨nz0 _,by omega⟩) ?_ ?_
  ·exact Le.s
  rintro k ⟨hk,hpre⟩ ih
  try simp only []
  by_cases h2:k < c.length
  ·have h2':decide ((k:Int) < c.length)=true:=by rw [dtE];omega
   have hmb:=mir_bnd hc (i:=(k:Int)) om hl (M:=4000) om hb
   have hml:=mir_len c k s
   refine Run.g fun K hK=>?_
   simp only [h2']
   refine .inr ⟨rfl,?_⟩
   refine FunA.e hP hT (c_spec_l7Reflect c (k:Int) s hc om hl (fun x hx=>by have:=hb x hx;omega)) ?_
   refine .inr ⟨rfl,?_⟩
   refine FunA.e hP hT (c_spec_HeightOf (mirL c k s) (fun x hx=>by have:=hmb x hx;omega) om) ?_
   refine .inr ⟨rfl,?_⟩
   refine FunA.e hP hT (c_spec_HeightOf s (fun x hx=>by have:=hb x hx;omega) om) ?_
   refine wE ?_;clear hK K
   refine Run.c ?_ ?_
   ·intro h3
    have h3:decide (hgt (mirL c k s) < hgt s)=false:=by simp at h3;simp;omega
    have hp2:∀ j,j < k+1->decide (hgt (mirL c j s) < hgt s)=false:=fun j hj=>by
     by_cases hjk:j=k
     ·subst hjk;exact h3
     ·exact hpre j om
    refine Run.k [0,1,6,7,8,13] [0,1] ?_
    refine Run.RW ?_
    exact Run.j (ih (k+1) (⟨by omega,hp2⟩) mz)
   ·intro h3
    have h3:decide (hgt (mirL c k s) < hgt s)=true:=by simp at h3;simp;omega
    have hlo:lowI c s=some k:=find_some h2 h3 hpre
    refine Run.k [0,1,6,7,8,13] [0,1] ?_
    refine Run.exit rfl ?_
    refine Run.le ?_ (cont trivial)
    rw [hlo]
    exact Le.sub (by rfl) (by simp only [AW7,simprocAttr];try simp)
  ·have h2':decide ((k:Int) < c.length)=false:=by rw [dfE];omega
   have hkk:k=c.length:=by omega
   subst hkk
   have hlo:lowI c s=none:=find_none hpre
   refine Run.g fun K hK=>?_
   simp only [h2']
   refine .inl (CallG.off (.sl false .int []) ?_)
   refine wW ?_
   refine .inl (CallG.off (.int .i64 0) ?_)
   refine wW ?_
   refine .inl (CallG.off (.int .i64 0) ?_)
   refine wF ?_;clear hK K
   refine Run.c ?_ ?_
   ·intro h;cases h
   intro _
   refine Run.exit rfl ?_
   refine Run.le ?_ (cont trivial)
   rw [hlo]
   exact Le.sub (by rfl) (by simp only [AW7,simprocAttr];try simp)
 intro _
 refine Run.R ?_
 refine Run.c ?_ ?_
 ·intro h2
  have h2:(lowI c s).getD c.length=c.length:=by simp at h2;omega
  have hlo:lowI c s=none:=by
   cases hlo:lowI c s with
   | none=>rfl
   | some i=>have:=(find_some' hlo).1;rw [hlo]at h2;simp at h2;omega
  obtain⟨e1,e2⟩:=rfl_none (hE.trans (rflP_stop hsi hlo _ _))
  refine Run.R ?_
  refine Run.k [4,5] [2] ?_
  refine Run.r [4,5] ?_
  rw [e1,e2];exact⟨rfl,rfl⟩
 intro h2
 have h2:¬(lowI c s).getD c.length=c.length:=by simp at h2;omega
 obtain⟨i,hlo⟩:∃ i,lowI c s=some i:=by
  cases hlo:lowI c s with
  | some i=>exact⟨i,rfl⟩
  | none=>rw [hlo]at h2;exact absurd rfl h2
 obtain⟨hi,hlt,_⟩:=find_some' hlo
 have hml:=mir_len c i s
 rw [hlo]
 simp only [Option.getD_some]
 refine Run.g fun K hK=>?_
 refine FunA.e hP hT (c_spec_l7Reflect c (i:Int) s hc om hl (fun x hx=>by have:=hb x hx;omega)) ?_
 refine wE ?_;clear hK K
 refine Run.R ?_
 refine Run.g fun K hK=>?_
 refine FunA.e hP hT (c_spec_RootSign (mirL c i s)) ?_
 refine wE ?_;clear hK K
 refine Run.c ?_ ?_
 ·intro h3
  have h3:¬sgnR (mirL c i s)=1:=sgnR_pos.1 (by simpa using h3)
  have hz:rflO c r=none:=by
   rw [hE]
   rcases Nat.lt_or_ge p.length 7 with hp | hp
   ·rw [show 7 - p.length=(7 - (p.length+1))+1 by omega,rflP_step hsi hlo,if_neg h3]
   ·rw [show 7 - p.length=0 by omega,rflP_zero hsi]
  obtain⟨e1,e2⟩:=rfl_none hz
  refine Run.R ?_
  refine Run.k [4,5] [4] ?_
  refine Run.r [4,5] ?_
  rw [e1,e2];exact⟨rfl,rfl⟩
 intro h3
 have h3:sgnR (mirL c i s)=1:=by
  cases Int.decEq (sgnR (mirL c i s)) 1 with
  | isTrue h1=>exact h1
  | isFalse h1=>have:=sgnR_pos.2 h1;simp at h3;omega
 refine Run.k [0,1,6,7,8] [2,1] ?_
 refine Run.RW ?_
 have hl1:(p ++ [(i:Int)]).length=p.length+1:=by simp
 refine Run.le ?_ (ihO ((mirL c i s,p ++ [(i:Int)])) (⟨hD.next hlo h3,by simp only [];omega,letters_append.2 ⟨hpl,letters_cons.2 ⟨by omega,letters_nil _⟩⟩,fun h7=>by rw [hE,show 7 - p.length=(7 - (p ++ [(i:Int)]).length)+1 by simp only []at h7;omega,rflP_step hsi hlo,if_pos h3],fun h8=>by rw [hE,show 7 - p.length=0 by simp only []at h8;omega,rflP_zero hsi]⟩) (by(try simp only [lenA,lenC,lenN]);omega))
 exact Le.sub (by first | rfl | (simp only [hl1];done) | (rw [hl1];rfl)) (by simp only [AW7,simprocAttr];try simp)
def actR (c:LL) (w r:LI):List Int:=w.foldr (mirL c) r
theorem actR_len (c:LL) (r:LI):∀ w,(actR c w r).length=r.length
 | []=>rfl
 | i :: w=>by show(mirL c i (actR c w r)).length=_;rw [mir_len,actR_len c r w]
theorem actR_drop (c:LL) (w r:LI) (j:Nat) (h:j < w.length):actR c (w.drop j) r=mirL c (w.getD j 0) (actR c (w.drop (j+1)) r):=by
 have e:w.drop j=w.getD j 0 :: w.drop (j+1):=by rw [List.drop_eq_getElem_cons h];simp [h]
 rw [e];rfl
theorem actR_bnd {c:LL} (hc:CartanP c) {r:LI} (hl:r.length=c.length) {M:Int} (hM:0<=M) (hr:Bnd M r):∀ w,letters c.length w->Bnd (13 ^ w.length*M) (actR c w r)
 | [],_=>by simpa [actR] using hr
 | i :: w,hw=>by
  obtain⟨h1,h2⟩:=letters_cons.1 hw
  have ih:=actR_bnd hc hl hM hr w h2
  have h3:=mir_bnd hc h1 (by rw [actR_len];exact hl) (Int.mul_nonneg (Int.pow_nonneg (by decide)) hM) ih
  show Bnd _ (mirL c i (actR c w r))
  rw [lenC,Int.pow_succ,Int.mul_comm (13 ^ w.length) 13,Int.mul_assoc]
  exact h3
theorem pow13_le {a b:Nat} (h:a<=b):(13:Int) ^ a<=13 ^ b:=by
 induction b with
 | zero=>have:a=0:=by omega
         subst this;exact Int.le_refl _
 | succ b ih=>
  by_cases hab:a=b+1
  ·subst hab;exact Int.le_refl _
  ·have:=ih om
   have h0:(0:Int)<=13 ^ b:=Int.pow_nonneg (by decide)
   rw [Int.pow_succ];omega
theorem simL_bnd (n i:Nat):Bnd 1 (simL n i):=by
 intro x hx
 unfold simL at hx
 rcases List.mem_or_eq_of_mem_set hx with h | h
 ·have:=List.eq_of_mem_replicate h;omega
 ·omega
theorem actR_small {c:LL} (hc:CartanP c) {w:LI} (hw:letters c.length w) (hl:w.length<=15) (i:Nat):Bnd 100000000000000000 (actR c w (simL c.length i)):=by
 have h:=actR_bnd hc (simL_len c.length i) (by decide) (simL_bnd c.length i) w hw
 have h2:=pow13_le hl
 intro x hx
 have:=h x hx
 have e:(13:Int) ^ 15=51185893014090757:=by decide
 omega
theorem c_impl_actedRoot (c:LL) (w r:LI) (hc:CartanP c) (hw:letters c.length w) (hl:r.length=c.length) (hwl:w.length<=1048576) (hB:∀ j,Bnd 100000000000000000 (actR c (w.drop j) r)) :
  FunA B 98 [.sl false (.row false) c,.sl false .int w,.sl false .int r] (fun rs o=>rs=[.own 0 0]/\o=[.arr .int (actR c w r) 0 true]):=by
 have hn:=hc.2.1
 refine wk Tryz.call98 Tryz.func98 rfl Tryz.ntmps98 fun C hC hP hT hfn hpin hfin hX=>wW ?_
 refine Run.R ?_
 refine Run.R ?_
 refine Run.RW ?_
 refine Run.k [0,1,2,7,8] [0] ?_
 have hd0:actR c (w.drop w.length) r=r:=by rw [List.drop_length];rfl
 refine Run.le (Le.sub (fr':=[(0,true,.v (.sl false (.row false) c)),(1,true,.v (.sl false .int w)),(2,true,.v (.sl false .int r)),(7,true,.v (.own 0 0)),(8,true,.v (.int .i64 ((w.length:Int) - 1)))]) (obs':=[.arr .int (actR c (w.drop w.length) r) 0 true]) (by rw [hd0]) (by simp only [AW7,simprocAttr];try simp)) ?_
 refine Run.loopI (X:=Nat) (fun j=>⟨27,[(0,true,.v (.sl false (.row false) c)),(1,true,.v (.sl false .int w)),(2,true,.v (.sl false .int r)),(7,true,.v (.own 0 0)),(8,true,.v (.int .i64 (((j:Int) - 1))))],[.arr .int ((actR c (w.drop j) r)) 0 true]⟩) (fun j=>j<=w.length) (fun j=>j) (w.length) (Nat.le_refl _) ?_ ?_
 ·exact Le.s
 rintro j hj ih
 try simp only []
 have hal:=actR_len c r (w.drop j)
 cases j with
 | zero=>
  refine Run.R ?_
  refine Run.c ?_ ?_
  ·intro h;simp at h
  intro _
  refine Run.x ?_
  refine Run.R ?_
  refine Run.k [6] [0] ?_
  refine Run.r [6] ?_
  exact⟨rfl,by rw [List.drop_zero]⟩
 | succ j=>
  have e2:((j+1:Nat):Int) - 1=j:=by omega
  rw [e2]
  refine Run.R ?_
  refine Run.c ?_ ?_
  rotate_left
  ·intro h;simp at h
  intro _
  have hlet:=letters_getD.1 hw j om
  have hdr:=actR_drop c w r j om
  refine Run.g fun K hK=>?_
  refine FunA.e hP hT (c_impl_mirrored c (w.getD j 0) (actR c (w.drop (j+1)) r) hc hlet om (hB (j+1))) ?_
  refine wE ?_;clear hK K
  rw [<- hdr]
  refine Run.RW ?_
  refine Run.k [0,1,2,7,8] [1] ?_
  exact Run.j (ih (j) om mz)
theorem c_spec_ActOnRoot (c:LL) (w r:LI) (hW:WordP c w) (hl:r.length=c.length) (hB:∀ j,Bnd 100000000000000000 (actR c (w.drop j) r)) :
  FunA B 13 [.sl false (.row false) c,.sl false .int w,.sl false .int r] (fun rs o=>rs=[.own 0 0]/\o=[.arr .int (actR c w r) 0 true]):=by
 have hc:=hW.1
 have hn:=hc.2.1
 have hwl:=hW.2.1
 have hwb:wordB c w=true:=wordB_iff.2 hW
 refine wk Tryz.call13 Tryz.func13 rfl Tryz.ntmps13 fun C hC hP hT hfn hpin hfin hX=>wW ?_
 refine Run.R ?_
 refine Run.R ?_
 refine Run.RW ?_
 refine Run.k [0,1,2,7,8] [0] ?_
 have hd0:actR c (w.drop w.length) r=r:=by rw [List.drop_length];rfl
 refine Run.le (Le.sub (fr':=[(0,true,.v (.sl false (.row false) c)),(1,true,.v (.sl false .int w)),(2,true,.v (.sl false .int r)),(7,true,.v (.own 0 0)),(8,true,.v (.int .i64 ((w.length:Int) - 1)))]) (obs':=[.arr .int (actR c (w.drop w.length) r) 0 true]) (by rw [hd0]) (by simp only [AW7,simprocAttr];try simp)) ?_
 refine Run.loopI (X:=Nat) (fun j=>⟨39,[(0,true,.v (.sl false (.row false) c)),(1,true,.v (.sl false .int w)),(2,true,.v (.sl false .int r)),(7,true,.v (.own 0 0)),(8,true,.v (.int .i64 (((j:Int) - 1))))],[.arr .int ((actR c (w.drop j) r)) 0 true]⟩) (fun j=>j<=w.length) (fun j=>j) (w.length) (Nat.le_refl _) ?_ ?_
 ·exact Le.s
 rintro j hj ih
 try simp only []
 have hal:=actR_len c r (w.drop j)
 cases j with
 | zero=>
  have e1:decide ((0:Int)<=((0:Nat):Int) - 1)=false:=by decide
  refine Run.g fun K hK=>?_
  try simp only [e1]
  refine .inl (CallG.off (.bool false) ?_)
  refine wF ?_;clear hK K
  refine Run.c ?_ ?_
  ·intro h;cases h
  intro _
  refine Run.x ?_
  refine Run.R ?_
  refine Run.k [6] [0] ?_
  refine Run.r [6] ?_
  exact⟨rfl,by rw [List.drop_zero]⟩
 | succ j=>
  have e1:decide ((0:Int)<=((j+1:Nat):Int) - 1)=true:=by rw [dtE];omega
  have e2:((j+1:Nat):Int) - 1=j:=by omega
  refine Run.g fun K hK=>?_
  simp only [e1]
  refine .inr ⟨rfl,?_⟩
  refine FunA.cW hP hT (c_spec_IsWord c w om) ?_
  rintro rs o ⟨rfl,rfl⟩
  simp only [hwb]
  refine wF ?_;clear hK K
  refine Run.c ?_ ?_
  rotate_left
  ·intro h;simp [hl]at h
  intro _
  rw [e2]
  have hlet:=letters_getD.1 hW.2.2 j om
  have hdr:=actR_drop c w r j om
  refine Run.g fun K hK=>?_
  refine FunA.e hP hT (c_spec_l7Reflect c (w.getD j 0) (actR c (w.drop (j+1)) r) hc hlet om (hB (j+1))) ?_
  refine wE ?_;clear hK K
  rw [<- hdr]
  refine Run.RW ?_
  refine Run.k [0,1,2,7,8] [1] ?_
  exact Run.j (ih (j) om mz)
def sq (c:LL) (w:LI) (k:Nat):List Int:=actR c (w.take k) (simL c.length (w.getD k 0).toNat)
def seqL (c:LL) (w:LI):List (List Int):=(List.range w.length).map (sq c w)
theorem sq_len (c:LL) (w:LI) (k:Nat):(sq c w k).length=c.length:=by unfold sq;rw [actR_len,simL_len]
theorem seq_small {c:LL} {w:LI} (hW:WordP c w) (k i:Nat) (j:Nat):Bnd 100000000000000000 (actR c ((w.take k).drop j) (simL c.length i)):=
 actR_small hW.1 (letters_drop (letters_take hW.2.2 k) j) (by have:=hW.2.1;simp;omega) i
theorem word_take {c:LL} {w:LI} (hW:WordP c w) (k:Nat):WordP c (w.take k):=⟨hW.1,by have:=hW.2.1;simp;omega,letters_take hW.2.2 k⟩
theorem range_snoc {α:Type} (f:Nat->α) (k:Nat):(List.range k).map f ++ [f k]=(List.range (k+1)).map f:=by simp [List.range_succ]
theorem c_impl_sequence (c:LL) (w:LI) (hW:WordP c w) :
  FunA B 86 [.sl false (.row false) c,.sl false .int w] (fun rs o=>rs=[.own 0 0]/\∃ ys,ys.map (·.2)=seqL c w/\o=[.arr .lrow ys 0 true]):=by
 have hc:=hW.1
 have hn:=hc.2.1
 have hwl:=hW.2.1
 refine wk Tryz.call86 Tryz.func86 rfl Tryz.ntmps86 fun C hC hP hT hfn hpin hfin hX=>wW ?_
 refine Run.R ?_
 refine Run.R ?_
 refine Run.R ?_
 refine Run.loopI (X:=Nat×List (Nat×List Int)) (fun m=>⟨30,[(0,true,.v (.sl false (.row false) c)),(1,true,.v (.sl false .int w)),(4,true,.v (.nils)),(5,true,.v (.own 0 0)),(9,true,.v (.sl false .int w)),(10,true,.v (.int .i64 (w.length))),(11,true,.v (.int .i64 (m.1)))],[.arr .lrow (m.2) 0 true]⟩) (fun m=>m.1<=w.length/\m.2.map (·.2)=(List.range m.1).map (sq c w)) (fun m=>w.length - m.1) ((0,[])) (⟨nz0 _,rfl⟩) ?_ ?_
 ·exact Le.s
 rintro⟨m,ys⟩ ⟨hm,hy⟩ ih
 try simp only []
 simp only []at hm hy
 have hyl:ys.length=m:=by have:=congrArg List.length hy;simpa using this
 refine Run.R ?_
 refine Run.c ?_ ?_
 ·intro h
  have h:m < w.length:=by simpa using h
  have hlet:=letters_getD.1 hW.2.2 m h
  have hsl:=simL_len c.length (w.getD m 0).toNat
  refine Run.R ?_
  refine Run.nq ?_;refine Run.regionD hC true [0,1,2,3,4,5,6,7,8,9,10,11,12] (by kernel_rfl) (fun K hK=>?_);simp only [AW7,simprocAttr,hX];(repeat(with_reducible refine And.intro ?_ ?_);exact vc0)
  refine FunA.callD hP hT (c_impl_simple c.length (w.getD m 0) om hlet) (by simp only [AW7,simprocAttr]) ?_
  rintro rs o ⟨rfl,rfl⟩
  refine wW ?_
  rw [show List.take (m - 0) (List.drop 0 w)=w.take m by simp]
  refine FunA.callD hP hT (c_impl_actedRoot c (w.take m) (simL c.length (w.getD m 0).toNat) hc (letters_take hW.2.2 m) hsl (by simp;omega) (seq_small hW m _)) (by simp only [AW7,simprocAttr]) ?_
  rintro rs o ⟨rfl,rfl⟩
  refine wW ?_
  intro l hl
  refine wF ?_;clear hK K
  refine Run.RW ?_
  refine Run.k [0,1,4,5,9,10,11] [0] ?_
  exact Run.j (ih ((m+1,ys ++ [(l,sq c w m)])) (⟨h,by rw [List.map_append,hy];exact range_snoc (sq c w) m⟩) mz)
 ·intro h
  have h:m=w.length:=by simp at h;omega
  subst h
  refine Run.x ?_
  refine Run.R ?_
  refine Run.k [4] [0] ?_
  refine Run.r [4] ?_
  exact⟨rfl,ys,hy,rfl⟩
def lin (a:Int) (x:LI) (b:Int) (y:LI):List Int:=List.zipWith (fun p q=>a*p - b*q) x y
def rowS (M:LL) (r c k:Nat):List Int:=lin ((M.getD r []).getD c 0) (M.getD k []) ((M.getD k []).getD c 0) (M.getD r [])
def rowI (M:LL) (r c k:Nat):List Int:=if (M.getD k []).getD c 0=0 then M.getD k []else rowS M r c k
def elim (g:List (List Int)->Nat->List Int):Nat->Nat->List (List Int)->List (List Int)
 | 0,_,M=>M
 | f+1,k,M=>elim g f (k+1) (M.set k (g M k))
def pvt (M:LL) (c:Nat):Nat->Nat->Nat
 | 0,k=>k
 | f+1,k=>if (M.getD k []).getD c 0=0 then pvt M c f (k+1)else k
def swp (M:LL) (r a:Nat):List (List Int):=(M.set r (M.getD a [])).set a (M.getD r [])
def rkG (g:List (List Int)->Nat->Nat->Nat->List Int):Nat->List (List Int)->Nat->Nat->Nat
 | 0,_,r,_=>r
 | f+1,M,r,c=>if pvt M c (M.length - r) r=M.length then rkG g f M r (c+1) else
   rkG g f (elim (fun N k=>g N r c k) (M.length - (r+1)) (r+1) (swp M r (pvt M c (M.length - r) r))) (r+1) (c+1)
theorem lin_len (a:Int) (x:LI) (b:Int) (y:LI):(lin a x b y).length=min x.length y.length:=by simp [lin]
theorem lin_get (a:Int) (x:LI) (b:Int) (y:LI) {j:Nat} (h:j < x.length) (h2:j < y.length):(lin a x b y).getD j 0=a*x.getD j 0 - b*y.getD j 0:=by
 simp [lin,List.getD,List.getElem?_zipWith,geE h,geE h2]
theorem getD_out {x:LI} {j:Nat} (h:x.length<=j):x.getD j 0=0:=by simp [List.getD,geN h]
theorem mul_bnd {b p q:Int} (hp:-b<=p/\p<=b) (hq:-b<=q/\q<=b):-(b*b)<=p*q/\p*q<=b*b:=by
 have h:(p*q).natAbs<=(b*b).natAbs:=by
  rw [Int.natAbs_mul,Int.natAbs_mul]
  exact Nat.mul_le_mul om om
 have h0:0<=b*b:=Int.mul_nonneg om om
 omega
theorem lin_bnd {b m:Int} {x y:LI} {p q:Int} (hm:2*(b*b)<=m) (hb:0<=b) (hx:Bnd b x) (hy:Bnd b y) (hp:-b<=p/\p<=b) (hq:-b<=q/\q<=b):Bnd m (lin p x q y):=by
 intro z hz
 unfold lin at hz
 rw [List.mem_iff_getElem]at hz
 obtain⟨i,hi,rfl⟩:=hz
 rw [List.getElem_zipWith]
 simp only [List.length_zipWith]at hi
 have h1:=hx _ (List.getElem_mem (l:=x) (n:=i) om)
 have h2:=hy _ (List.getElem_mem (l:=y) (n:=i) om)
 have e1:=mul_bnd hp h1
 have e2:=mul_bnd hq h2
 omega
theorem pvt_ge (M:LL) (c:Nat):∀ f k,k<=pvt M c f k/\pvt M c f k<=k+f
 | 0,k=>by simp [pvt]
 | f+1,k=>by
  simp only [pvt]
  split
  ·have:=pvt_ge M c f (k+1);omega
  ·omega
theorem pvt_ne (M:LL) (c:Nat):∀ f k,pvt M c f k < k+f->(M.getD (pvt M c f k) []).getD c 0≠0
 | 0,k,h=>by simp [pvt]at h
 | f+1,k,h=>by
  simp only [pvt]at h ⊢
  split at h
  ·rename_i h0;rw [if_pos h0];exact pvt_ne M c f (k+1) om
  ·rename_i h0;rw [if_neg h0];exact h0
theorem swp_len (M:LL) (r a:Nat):(swp M r a).length=M.length:=by simp [swp]
theorem swp_get (M:LL) {r a:Nat} (hr:r < M.length) (ha:a < M.length) (k:Nat):(swp M r a).getD k []=if k=a then M.getD r []else if k=r then M.getD a []else M.getD k []:=by
 simp only [swp,List.getD,List.getElem?_set,List.length_set]
 by_cases h1:a=k
 ·subst h1;simp [ha]
 ·rw [if_neg h1,if_neg (Ne.symm h1)]
  by_cases h2:r=k
  ·subst h2;simp [hr]
  ·rw [if_neg h2,if_neg (Ne.symm h2)]
theorem swp_comm (M:LL) {r a:Nat} (hr:r < M.length) (ha:a < M.length):(M.set a (M.getD r [])).set r (M.getD a [])=swp M r a:=by
 by_cases h:r=a
 ·subst h;rfl
 ·unfold swp;rw [List.set_comm _ _ (Ne.symm h)]
def OKM (n:Nat) (b:Int) (M:LL):Prop:=M.length=n/\∀ k,k < n->(M.getD k []).length=n/\Bnd b (M.getD k [])
def beta:Nat->Int
 | 0=>8
 | 1=>128
 | 2=>32768
 | _=>2147483648
theorem beta_pos (r:Nat):8<=beta r/\beta r<=2147483648:=by
 match r with
 | 0=>decide
 | 1=>decide
 | 2=>decide
 | n+3=>simp [beta]
theorem beta_up (r:Nat):beta r<=beta (r+1):=by
 match r with
 | 0=>decide
 | 1=>decide
 | 2=>decide
 | n+3=>simp [beta]
theorem beta_sq {r:Nat} (h:r<=2):2*(beta r*beta r)<=beta (r+1):=by
 match r,h with
 | 0,_=>decide
 | 1,_=>decide
 | 2,_=>decide
theorem Bnd.mono {a b:Int} (h:a<=b) {x:LI} (hx:Bnd a x):Bnd b x:=fun y hy=>by have:=hx y hy;omega
theorem Bnd.at' {b:Int} (hb:0<=b) {x:LI} (hx:Bnd b x) (j:Nat):-b<=x.getD j 0/\x.getD j 0<=b:=by
 by_cases h:j < x.length
 ·rw [getD_eq h];exact hx _ (List.getElem_mem h)
 ·rw [getD_out om];omega
def Mid (n r k:Nat) (M:LL):Prop:=OKM n (beta (r+1)) M/\∀ j,j < n->(j<=r\/k<=j)->Bnd (beta r) (M.getD j [])
theorem Mid.start {n r:Nat} {M:LL} (h:OKM n (beta r) M) (k:Nat):Mid n r k M:=
 ⟨⟨h.1,fun k hk=>⟨(h.2 k hk).1,(h.2 k hk).2.mono (beta_up r)⟩⟩,fun j hj _=>(h.2 j hj).2⟩
theorem set_get (M:LL) (k j:Nat) (x:LI) (hk:k < M.length):(M.set k x).getD j []=if j=k then x else M.getD j []:=by
 simp only [List.getD,List.getElem?_set]
 by_cases h:k=j
 ·subst h;simp [hk]
 ·rw [if_neg h,if_neg (Ne.symm h)]
theorem Mid.row {n r k c:Nat} {M:LL} (h:Mid n r k M) (hk:k < n) (hr:r < k) (hn:n<=4):(rowS M r c k).length=n/\Bnd (beta (r+1)) (rowS M r c k):=by
 obtain⟨⟨h1,h2⟩,h3⟩:=h
 refine⟨by unfold rowS;rw [lin_len,(h2 k hk).1,(h2 r om).1];omega,?_⟩
 have b0:=beta_pos r
 have b1:=h3 k hk (.inr (Nat.le_refl _))
 have b2:=h3 r om (.inl (Nat.le_refl _))
 exact lin_bnd (beta_sq om) om b1 b2 (b2.at' om c) (b1.at' om c)
theorem Mid.put {n r k:Nat} {M:LL} {x:LI} (h:Mid n r k M) (hk:k < n) (hr:r < k) (hx:x.length=n/\Bnd (beta (r+1)) x):Mid n r (k+1) (M.set k x):=by
 obtain⟨⟨h1,h2⟩,h3⟩:=h
 refine⟨⟨by simp [h1],fun j hj=>?_⟩,fun j hj hjk=>?_⟩
 ·rw [set_get _ _ _ _ om]
  split
  ·exact hx
  ·exact h2 j hj
 ·rw [set_get _ _ _ _ om,if_neg om]
  exact h3 j hj om
theorem OKM.swp {n r a:Nat} {b:Int} {M:LL} (h:OKM n b M) (hr:r < n) (ha:a < n):OKM n b (swp M r a):=by
 obtain⟨h1,h2⟩:=h
 refine⟨by rw [swp_len,h1],fun k hk=>?_⟩
 rw [swp_get M om om]
 split
 ·exact h2 r hr
 ·split
  ·exact h2 a ha
  ·exact h2 k hk
def MulM (n:Nat) (M N:LL):Prop:=N.length=M.length/\∀ k,k < M.length->(M.getD k []).length=n/\(N.getD k []).length=n/\∃ l:Int,l≠0/\∀ j,(N.getD k []).getD j 0=l*(M.getD k []).getD j 0
theorem MulM.zero {n:Nat} {M N:LL} (h:MulM n M N) {k:Nat} (hk:k < M.length) (c:Nat):(N.getD k []).getD c 0=0↔(M.getD k []).getD c 0=0:=by
 obtain⟨_,_,l,hl,h2⟩:=h.2 k hk
 rw [h2 c,Int.mul_eq_zero]
 simp [hl]
theorem MulM.pvt {n:Nat} {M N:LL} (h:MulM n M N) (c:Nat):∀ f k,k+f<=M.length->pvt N c f k=pvt M c f k
 | 0,k,_=>rfl
 | f+1,k,hk=>by
  have:=h.zero (k:=k) om c
  simp only [Go.Proofs.YtcinngodeoidnaaGreat.pvt]
  by_cases h0:(M.getD k []).getD c 0=0
  ·rw [if_pos h0,if_pos (this.2 h0)];exact h.pvt c f (k+1) om
  ·rw [if_neg h0,if_neg (fun q=>h0 (this.1 q))]
theorem MulM.swp {n:Nat} {M N:LL} (h:MulM n M N) {r a:Nat} (hr:r < M.length) (ha:a < M.length):MulM n (swp M r a) (swp N r a):=by
 have hl:=h.1
 refine⟨by rw [swp_len,swp_len,hl],fun k hk=>?_⟩
 rw [swp_len]at hk
 rw [swp_get M hr ha,swp_get N om om]
 split
 ·exact h.2 r hr
 ·split
  ·exact h.2 a ha
  ·exact h.2 k hk
theorem MulM.put {n:Nat} {M N:LL} (h:MulM n M N) {r c k:Nat} (hr:r < k) (hk:k < M.length) (hp:(M.getD r []).getD c 0≠0):MulM n (M.set k (rowI M r c k)) (N.set k (rowS N r c k)):=by
 have hl:=h.1
 obtain⟨a1,a2,l,hl0,a3⟩:=h.2 k hk
 obtain⟨b1,b2,m,hm0,b3⟩:=h.2 r om
 refine⟨by simp [hl],fun j hj=>?_⟩
 simp only [List.length_set]at hj
 rw [set_get _ _ _ _ hk,set_get _ _ _ _ om]
 by_cases hjk:j=k
 ·rw [if_pos hjk,if_pos hjk]
  have hS:(rowS N r c k).length=n:=by unfold rowS;rw [lin_len,a2,b2];omega
  have gS:∀ j,j < n->(rowS N r c k).getD j 0=(N.getD r []).getD c 0*(N.getD k []).getD j 0 - (N.getD k []).getD c 0*(N.getD r []).getD j 0:=fun j hj=>by
   unfold rowS;rw [lin_get _ _ _ _ om om]
  unfold rowI
  by_cases h0:(M.getD k []).getD c 0=0
  ·rw [if_pos h0]
   refine⟨a1,hS,m*(M.getD r []).getD c 0*l,?_,fun j=>?_⟩
   ·exact Int.mul_ne_zero (Int.mul_ne_zero hm0 hp) hl0
   ·by_cases hj:j < n
    ·rw [gS j hj,a3 c,h0,a3 j,b3 c,Int.mul_zero,Int.zero_mul,Int.sub_zero];simp only [Int.mul_assoc]
    ·rw [getD_out (x:=rowS N r c k) om,getD_out (x:=M.getD k []) om,Int.mul_zero]
  ·rw [if_neg h0]
   have hM:(rowS M r c k).length=n:=by unfold rowS;rw [lin_len,a1,b1];omega
   refine⟨hM,hS,m*l,Int.mul_ne_zero hm0 hl0,fun j=>?_⟩
   by_cases hj:j < n
   ·rw [gS j hj,a3 c,a3 j,b3 c,b3 j]
    unfold rowS
    rw [lin_get _ _ _ _ om om,Int.mul_sub]
    congr 1
    ·rw [Int.mul_assoc,Int.mul_left_comm ((M.getD r []).getD c 0),Int.mul_assoc]
    ·rw [Int.mul_comm m l,Int.mul_assoc l m,Int.mul_assoc l,Int.mul_left_comm m]
   ·rw [getD_out (x:=rowS N r c k) om,getD_out (x:=rowS M r c k) om,Int.mul_zero]
 ·rw [if_neg hjk,if_neg hjk];exact h.2 j hj
theorem MulM.elim {n r c:Nat}:∀(f k:Nat) {M N:LL},MulM n M N->r < k->k+f<=M.length->(M.getD r []).getD c 0≠0->MulM n (elim (fun N k=>rowI N r c k) f k M) (elim (fun N k=>rowS N r c k) f k N)
 | 0,k,M,N,h,_,_,_=>h
 | f+1,k,M,N,h,hr,hk,hp=>by
  simp only [Go.Proofs.YtcinngodeoidnaaGreat.elim]
  refine MulM.elim f (k+1) (h.put hr om hp) om (by simp;omega) ?_
  rw [set_get _ _ _ _ om,if_neg om]
  exact hp
theorem elim_len (g:List (List Int)->Nat->List Int):∀(f k:Nat) (M:LL),(elim g f k M).length=M.length
 | 0,k,M=>rfl
 | f+1,k,M=>by simp only [elim];rw [elim_len g f];simp
theorem rk_same {n:Nat}:∀(f:Nat) {M N:LL} {r c:Nat},MulM n M N->r<=M.length->rkG rowS f N r c=rkG rowI f M r c
 | 0,M,N,r,c,h,_=>rfl
 | f+1,M,N,r,c,h,hr=>by
  have hl:=h.1
  simp only [rkG]
  have hp:=h.pvt c (M.length - r) r om
  rw [hl,hp]
  have hg:=pvt_ge M c (M.length - r) r
  by_cases h0:pvt M c (M.length - r) r=M.length
  ·rw [if_pos h0,if_pos h0];exact rk_same f h hr
  ·rw [if_neg h0,if_neg h0]
   have hlt:pvt M c (M.length - r) r < M.length:=by omega
   have hsw:=h.swp (r:=r) (a:=pvt M c (M.length - r) r) om hlt
   refine rk_same f (MulM.elim _ _ hsw om (by rw [swp_len];omega) ?_) (by rw [elim_len,swp_len];omega)
   rw [swp_get M om hlt]
   have hne:=pvt_ne M c (M.length - r) r om
   split
   ·rename_i e;rw [<- e]at hne;exact hne
   ·rw [if_pos rfl];exact hne
theorem MulM.refl {n:Nat} {b:Int} {M:LL} (h:OKM n b M):MulM n M M:=
 ⟨rfl,fun k hk=>⟨(h.2 k (by rw [<- h.1];exact hk)).1,(h.2 k (by rw [<- h.1];exact hk)).1,1,by decide,fun j=>by rw [Int.one_mul]⟩⟩
theorem rkG_top (g:List (List Int)->Nat->Nat->Nat->List Int):∀(f:Nat) (M:LL) (c:Nat),rkG g f M M.length c=M.length
 | 0,_,_=>rfl
 | f+1,M,c=>by
  simp only [rkG]
  have:=pvt_ge M c (M.length - M.length) M.length
  rw [if_pos om]
  exact rkG_top g f M (c+1)
end Go.Proofs.YtcinngodeoidnaaGreat
