/- Roots put into an ordered list; the inversions of an element, and how many two elements share: the reference's functions. -/
import Derived.Test.YtcinngodeoidnaaGreatB16
import Derived.Test.YtcinngodeoidnaaGreatB9
import Derived.Test.YtcinngodeoidnaaGreatB17
import Derived.Test.YtcinngodeoidnaaGreatB15
set_option linter.unusedVariables false
set_option linter.unusedSimpArgs false
namespace Go.Proofs.YtcinngodeoidnaaGreat
open Go Go.Aw Go.Cox
def gtL:List Int->List Int->Bool
 | x :: a,y :: b=>if x=y then gtL a b else decide (y < x)
 | _,_=>false
def befR (a b:LI):Bool:=if hgt a=hgt b then gtL a b else decide (hgt a < hgt b)
theorem gtL_at:∀(a b:LI) (i:Nat),i < a.length->i < b.length->a.take i=b.take i->a.getD i 0≠b.getD i 0->gtL a b=decide (b.getD i 0 < a.getD i 0)
 | [],_,i,h,_,_,_=>by simp at h
 | _ :: _,[],i,_,h,_,_=>by simp at h
 | x :: a,y :: b,0,_,_,_,h=>by
  simp at h
  simp [gtL,h]
 | x :: a,y :: b,i+1,h1,h2,h3,h4=>by
  simp only [List.take_succ_cons,List.cons.injEq]at h3
  obtain⟨rfl,h3⟩:=h3
  have ih:=gtL_at a b i (by simpa using h1) (by simpa using h2) h3 (by simpa using h4)
  simp only [gtL,if_pos,List.getD_cons_succ]
  exact ih
theorem gtL_no:∀(a b:LI) (i:Nat),i<=a.length->i<=b.length->a.take i=b.take i->(i=a.length\/i=b.length)->gtL a b=false
 | [],_,i,_,_,_,_=>by simp [gtL]
 | _ :: _,[],i,_,_,_,_=>by simp [gtL]
 | x :: a,y :: b,0,_,_,_,h=>by simp at h
 | x :: a,y :: b,i+1,h1,h2,h3,h4=>by
  simp only [List.take_succ_cons,List.cons.injEq]at h3
  obtain⟨rfl,h3⟩:=h3
  have ih:=gtL_no a b i (by simpa using h1) (by simpa using h2) h3 (by simpa using h4)
  simp only [gtL,if_pos]
  exact ih
theorem c_spec_l7Before (a b:LI) (ha:Bnd 1000000000000000000 a) (hb:Bnd 1000000000000000000 b) (hal:a.length<=4) (hbl:b.length<=4):FunA B 150 [.sl false .int a,.sl false .int b] (fun rs o=>rs=[.bool (befR a b)]/\o=[]):=by
 refine wk Tryz.call150 Tryz.func150 rfl Tryz.ntmps150 fun C hC hP hT hfn hpin hfin hX=>wW ?_
 refine Run.R ?_
 refine Run.g fun K hK=>?_
 refine FunA.e hP hT (c_spec_HeightOf a ha hal) ?_
 refine wE ?_;clear hK K
 refine Run.g fun K hK=>?_
 refine FunA.e hP hT (c_spec_HeightOf b hb hbl) ?_
 refine wE ?_;clear hK K
 refine Run.R ?_
 refine Run.c ?_ ?_
 ·intro h
  have h:hgt a≠hgt b:=by simpa using h
  refine Run.R ?_
  refine Run.r [4] ?_
  exact⟨by simp [befR,h],rfl⟩
 intro h
 have h:hgt a=hgt b:=by simpa using h
 have hbe:befR a b=gtL a b:=by simp [befR,h]
 refine Run.R ?_
 refine Run.loopI (X:=Nat) (fun i=>⟨48,[(0,true,.v (.sl false .int a)),(1,true,.v (.sl false .int b)),(7,true,.v (.int .i64 i))],[]⟩) (fun i=>i<=a.length/\i<=b.length/\a.take i=b.take i) (fun i=>a.length - i) (0) (⟨nz0 _,nz0 _,rfl⟩) ?_ ?_
 ·exact Le.s
 rintro i ⟨hi,hi2,ht⟩ ih
 try simp only []
 refine Run.R ?_
 refine Run.c ?_ ?_
 rotate_left
 ·intro h2
  have h2:i=a.length\/i=b.length:=by
   by_cases h3:i < a.length
   ·by_cases h4:i < b.length
    ·rw [decide_eq_true (by omega:(i:Int) < a.length),decide_eq_true (by omega:(i:Int) < b.length)]at h2
     cases h2
    ·omega
   ·omega
  refine Run.x ?_
  refine Run.R ?_
  refine Run.r [4] ?_
  exact⟨by rw [hbe,gtL_no a b i hi hi2 ht h2],rfl⟩
 intro h2
 have h2:i < a.length/\i < b.length:=by
  by_cases h3:i < a.length
  ·by_cases h4:i < b.length
   ·exact⟨h3,h4⟩
   ·rw [decide_eq_true (by omega:(i:Int) < a.length),decide_eq_false (by omega:¬(i:Int) < b.length)]at h2
    cases h2
  ·rw [decide_eq_false (by omega:¬(i:Int) < a.length)]at h2
   cases h2
 obtain⟨h3,h4⟩:=h2
 refine Run.nq ?_;refine Run.regionD hC true [0,1,2,3,4,5,6,7,8] (by kernel_rfl) (fun K hK=>?_);simp only [AW7,simprocAttr,hX];(repeat(with_reducible refine And.intro ?_ ?_);exact vc0)
 refine wE ?_;clear hK K
 refine Run.c ?_ ?_
 ·intro h5
  have h5:a.getD i 0≠b.getD i 0:=by simpa using h5
  refine Run.nq ?_;refine Run.regionD hC true [0,1,2,3,4,5,6,7,8,9] (by kernel_rfl) (fun K hK=>?_);simp only [AW7,simprocAttr,hX];(repeat(with_reducible refine And.intro ?_ ?_);exact vc0)
  refine wE ?_;clear hK K
  refine Run.r [4] ?_
  exact⟨by rw [hbe,gtL_at a b i h3 h4 ht h5],rfl⟩
 intro h5
 have h5:a.getD i 0=b.getD i 0:=by simpa using h5
 refine Run.RW ?_
 exact Run.j (ih (i+1) (⟨by omega,by omega,by rw [<- take_snoc 0 a i h3,<- take_snoc 0 b i h4,ht,h5]⟩) mz)
def putR (w:LI):Bool->List (List Int)->List (List Int)
 | b,[]=>if b then []else [w]
 | b,x :: l=>if b=false/\befR w x=true then w :: x :: putR w true l else x :: putR w b l
theorem putR_true (w:LI):∀ l,putR w true l=l
 | []=>rfl
 | x :: l=>by simp [putR,putR_true w l]
theorem putR_perm (w:LI):∀ l,(putR w false l).Perm (w :: l)
 | []=>by simp [putR]
 | x :: l=>by
  simp only [putR]
  split
  ·rw [putR_true]
  ·exact((putR_perm w l).cons x).trans (.swap w x l)
def SmR (r:LI):Prop:=r.length<=4/\Bnd 1000000000000000000 r
set_option maxHeartbeats 1000000 in
theorem c_spec_l7Put (ys:List (Nat×List Int)) (w:LI) (hnd:(lb1 ys).Nodup) (hyl:ys.length<=100000) (hw:SmR w) (hys:∀ r∈rw2 ys,SmR r) (nn:Bool) :
  FunM B 111 [.own 0 0,.sl false .int w] .lrow ys nn (fun rs o=>rs=[.own 1 0]/\∃ ys',rw2 ys'=putR w false (rw2 ys)/\(lb1 ys').Nodup/\o=[.arr .lrow ys 0 nn,.arr .lrow ys' 0 true]):=by
 have hwl:=hw.1
 refine FunM.walk B_ok (fn:=Tryz.f111) (fun vs w=>Tryz.call111 vs w) Tryz.func111 rfl (by rw [Tryz.ntmps111];simp) (fun C hC hP hT hΓ hbt hfn hpin hfin=>?_);have hX:=BX;rw [<- hΓ,<- hbt.1,<- hbt.2.1,<- hbt.2.2.1,<- hbt.2.2.2.2]at hX;rw [hT]at hX;rw [Tryz.ntmps111];simp only [AW7,simprocAttr,hX]
 refine Run.R ?_
 refine Run.R ?_
 refine Run.R ?_
 refine Run.R ?_
 refine Run.kp [0,1,5,6,7] [0,1] ?_
 refine Run.loopI (X:=List (Nat×List Int)×Bool×Nat) (fun x=>⟨47,[(0,true,.v (.own 0 0)),(1,true,.v (.sl false .int w)),(5,true,.v (.own 1 0)),(6,true,.v (.bool (x.2.1))),(7,true,.v (.int .i64 (x.2.2)))],[.arr .lrow ys 0 nn,.arr .lrow (x.1) 0 true]⟩) (fun x=>x.2.2<=ys.length/\x.1.length<=2*x.2.2/\rw2 x.1 ++ putR w x.2.1 (rw2 (ys.drop x.2.2))=putR w false (rw2 ys)/\(lb1 x.1 ++ lb1 (ys.drop x.2.2)).Nodup) (fun x=>ys.length - x.2.2) (([],false,0)) (⟨nz0 _,by simp,rfl,hnd⟩) ?_ ?_
 ·exact Le.s
 rintro⟨zs,b,i⟩ ⟨hi,hzl,hE,hN⟩ ih
 try simp only []
 simp only []at hi hzl hE hN
 refine Run.R ?_
 refine Run.c ?_ ?_
 rotate_left
 ·intro h
  have hie:i=ys.length:=by rw [dfE]at h;omega
  refine Run.x ?_
  refine Run.R ?_
  refine Run.c ?_ ?_
  ·intro hb
   have hb:b=false:=by simpa using hb
   subst hb
   refine Run.g fun K hK=>?_
   intro q hq
   have hN3:=lb_ins (w:=w) hN (hq (.arr .lrow zs 0 true) (.tail _ (.head _)) _ _ _ rfl) (hq (.arr .lrow ys 0 nn) (.head _) _ _ _ rfl)
   rw [hie,List.drop_length]at hE hN3
   have e0:lb1 ([]:List (Nat×List Int))=[]:=rfl
   rw [e0,List.append_nil]at hN3
   (repeat(with_reducible refine And.intro ?_ ?_);exact vc0)
   refine wE ?_;clear hK K
   refine Run.R ?_
   refine Run.kp [4] [0,1] ?_
   refine Run.retW [4] (by decide) (by rw [hfn];rfl) (by simp only [AW7,simprocAttr,hX];rfl) (by simp only [AW7,simprocAttr,hX]) (hfin _ _ _ rfl rfl rfl ?_)
   exact⟨rfl,_,by rw [<- hE,rw2_app];simp [putR,rw2],hN3,rfl⟩
  intro hb
  have hb:b=true:=by simpa using hb
  subst hb
  refine Run.R ?_
  refine Run.kp [4] [0,1] ?_
  rw [hie,List.drop_length]at hE hN
  have e0:lb1 ([]:List (Nat×List Int))=[]:=rfl
  rw [e0,List.append_nil]at hN
  refine Run.retW [4] (by decide) (by rw [hfn];rfl) (by simp only [AW7,simprocAttr,hX];rfl) (by simp only [AW7,simprocAttr,hX]) (hfin _ _ _ rfl rfl rfl ?_)
  exact⟨rfl,zs,by rw [<- hE];simp [putR,rw2],hN,rfl⟩
 intro h
 have h:i < ys.length:=by rw [dtE]at h;omega
 have hyi:SmR (ys.getD i (0,[])).2:=hys _ (by unfold rw2;rw [getD_eq h];exact List.mem_map_of_mem (List.getElem_mem h))
 have hd:rw2 (ys.drop i)=(ys.getD i (0,[])).2 :: rw2 (ys.drop (i+1)):=by rw [drop_cons' ys h];rfl
 rw [hd]at hE
 simp only [putR]at hE
 have hN2:=lb_step h hN
 by_cases hlt:b=false/\befR w (ys.getD i (0,[])).2=true
 ·rw [if_pos hlt]at hE
  obtain⟨rfl,hl1⟩:=hlt
  refine Run.g fun K hK=>?_
  refine .inr ⟨rfl,?_⟩
  refine FunA.cW hP hT (c_spec_l7Before w (ys.getD i (0,[])).2 hw.2 hyi.2 hw.1 hyi.1) ?_
  rintro rs o ⟨rfl,rfl⟩
  rw [hl1]
  refine wF ?_;clear hK K
  refine Run.c ?_ ?_
  rotate_left
  ·intro h;cases h
  intro _
  refine Run.g fun K hK=>?_
  intro q hq
  have hN3:=lb_ins (w:=w) hN (hq (.arr .lrow zs 0 true) (.tail _ (.head _)) _ _ _ rfl) (hq (.arr .lrow ys 0 nn) (.head _) _ _ _ rfl)
  (repeat(with_reducible refine And.intro ?_ ?_);exact vc0)
  refine wE ?_;clear hK K
  refine Run.R ?_
  refine Run.R ?_
  have hN4:=lb_step h hN3
  refine Run.kp [0,1,5,6,7] [0,1] ?_
  refine Run.RW ?_
  exact Run.j (ih ((zs ++ [(q,w)] ++ [((ys.getD i (0,[])).1,(ys.getD i (0,[])).2)],true,i+1)) (⟨h,by simp only [lenA,lenC,lenN];omega,by rw [rw2_app,rw2_app,List.append_assoc,List.append_assoc,<- hE];simp [rw2],hN4⟩) mz)
 rw [if_neg hlt]at hE
 cases b with
 | true=>
  refine Run.g fun K hK=>?_
  refine .inl (CallG.off (.bool false) ?_)
  refine wF ?_;clear hK K
  refine Run.c ?_ ?_
  ·intro h;cases h
  intro _
  refine Run.R ?_
  refine Run.kp [0,1,5,6,7] [0,1] ?_
  refine Run.RW ?_
  exact Run.j (ih ((zs ++ [((ys.getD i (0,[])).1,(ys.getD i (0,[])).2)],true,i+1)) (⟨h,by simp;omega,by rw [rw2_app,List.append_assoc,<- hE];simp [rw2],hN2⟩) mz)
 | false=>
  have hl0:befR w (ys.getD i (0,[])).2=false:=by simpa using hlt
  refine Run.g fun K hK=>?_
  refine .inr ⟨rfl,?_⟩
  refine FunA.cW hP hT (c_spec_l7Before w (ys.getD i (0,[])).2 hw.2 hyi.2 hw.1 hyi.1) ?_
  rintro rs o ⟨rfl,rfl⟩
  rw [hl0]
  refine wF ?_;clear hK K
  refine Run.c ?_ ?_
  ·intro h;cases h
  intro _
  refine Run.R ?_
  refine Run.kp [0,1,5,6,7] [0,1] ?_
  refine Run.RW ?_
  exact Run.j (ih ((zs ++ [((ys.getD i (0,[])).1,(ys.getD i (0,[])).2)],false,i+1)) (⟨h,by simp;omega,by rw [rw2_app,List.append_assoc,<- hE];simp [rw2],hN2⟩) mz)
theorem gtL_irr:∀ a:List Int,gtL a a=false
 | []=>rfl
 | x :: a=>by unfold gtL;rw [if_pos rfl];exact gtL_irr a
theorem gtL_trans:∀ {a b d:LI},gtL a b=true->gtL b d=true->gtL a d=true
 | [],_,_,h,_=>by unfold gtL at h;cases h
 | x :: a,[],_,h,_=>by unfold gtL at h;cases h
 | x :: a,y :: b,[],_,h=>by unfold gtL at h;cases h
 | x :: a,y :: b,z :: d,h1,h2=>by
  unfold gtL at h1 h2 ⊢
  by_cases e1:x=y
  ·subst e1
   rw [if_pos rfl]at h1
   by_cases e2:x=z
   ·subst e2;rw [if_pos rfl]at h2 ⊢;exact gtL_trans h1 h2
   ·rw [if_neg e2]at h2 ⊢;exact h2
  ·rw [if_neg e1]at h1
   by_cases e2:y=z
   ·subst e2;rw [if_neg e1];exact h1
   ·rw [if_neg e2]at h2
    rw [dtE]at h1 h2
    rw [if_neg om,dtE];omega
theorem gtL_total:∀ {a b:LI},a.length=b.length->a≠b->gtL a b=true\/gtL b a=true
 | [],[],_,h=>absurd rfl h
 | [],y :: b,h,_=>by simp at h
 | x :: a,[],h,_=>by simp at h
 | x :: a,y :: b,hl,h=>by
  unfold gtL
  by_cases e:x=y
  ·subst e
   rw [if_pos rfl,if_pos rfl]
   exact gtL_total (by simpa using hl) (fun e=>h (by rw [e]))
  ·rw [if_neg e,if_neg (Ne.symm e),dtE,dtE];omega
theorem befR_irr (a:LI):befR a a=false:=by unfold befR;rw [if_pos rfl];exact gtL_irr a
theorem befR_trans {a b d:LI} (h1:befR a b=true) (h2:befR b d=true):befR a d=true:=by
 unfold befR at h1 h2 ⊢
 by_cases e1:hgt a=hgt b
 ·rw [if_pos e1]at h1
  by_cases e2:hgt b=hgt d
  ·rw [if_pos e2]at h2;rw [if_pos (e1.trans e2)];exact gtL_trans h1 h2
  ·rw [if_neg e2]at h2;rw [if_neg om,e1];exact h2
 ·rw [if_neg e1]at h1
  rw [dtE]at h1
  by_cases e2:hgt b=hgt d
  ·rw [if_neg om,dtE];omega
  ·rw [if_neg e2,dtE]at h2
   rw [if_neg om,dtE];omega
theorem befR_total {a b:LI} (hl:a.length=b.length) (h:a≠b):befR a b=true\/befR b a=true:=by
 unfold befR
 by_cases e:hgt a=hgt b
 ·rw [if_pos e,if_pos e.symm];exact gtL_total hl h
 ·rw [if_neg e,if_neg (Ne.symm e),dtE,dtE];omega
def StrR (l:LL):Prop:=l.Pairwise fun p q=>befR p q=true
theorem strR_ext:∀ {a b:LL},StrR a->StrR b->(∀ x,x∈a↔x∈b)->a=b
 | [],[],_,_,_=>rfl
 | [],y :: b,_,_,h=>absurd ((h y).2 (mcS ..)) (by simp)
 | x :: a,[],_,_,h=>absurd ((h x).1 (mcS ..)) (by simp)
 | x :: a,y :: b,ha,hb,h=>by
  obtain⟨a1,a2⟩:=List.pairwise_cons.1 ha
  obtain⟨b1,b2⟩:=List.pairwise_cons.1 hb
  have hxy:x=y:=by
   rcases List.mem_cons.1 ((h x).1 (mcS ..))with e | e
   ·exact e
   ·rcases List.mem_cons.1 ((h y).2 (mcS ..))with e2 | e2
    ·exact e2.symm
    ·have:=befR_trans (b1 x e) (a1 y e2)
     rw [befR_irr]at this;cases this
  subst hxy
  have hx:∀ {l:LL},(∀ z∈l,befR x z=true)->x∉l:=fun h hm=>by have:=h x hm;rw [befR_irr]at this;cases this
  rw [strR_ext a2 b2 fun z=>?_]
  constructor
  ·intro hz
   rcases List.mem_cons.1 ((h z).1 (mcM _ hz))with e | e
   ·subst e;exact absurd hz (hx a1)
   ·exact e
  ·intro hz
   rcases List.mem_cons.1 ((h z).2 (mcM _ hz))with e | e
   ·subst e;exact absurd hz (hx b1)
   ·exact e
theorem strR_nodup {l:LL} (h:StrR l):l.Nodup:=List.Pairwise.imp (fun {a b} h e=>by rw [e,befR_irr]at h;cases h) h
theorem putR_mem (w:LI) (l:LL) (x:LI):x∈putR w false l↔x=w\/x∈l:=by
 rw [(putR_perm w l).mem_iff,List.mem_cons]
theorem putR_str {w:LI} {n:Nat} (hw:w.length=n):∀ {l:LL},StrR l->w∉l->(∀ x∈l,x.length=n)->StrR (putR w false l)
 | [],_,_,_=>by unfold StrR;simp [putR]
 | x :: l,h,hn,hl=>by
  obtain⟨h1,h2⟩:=List.pairwise_cons.1 h
  simp only [putR]
  split
  ·rename_i hb
   rw [putR_true]
   exact List.pairwise_cons.2 ⟨fun z hz=>by
    rcases List.mem_cons.1 hz with rfl | hz
    ·exact hb.2
    ·exact befR_trans hb.2 (h1 z hz),h⟩
  ·rename_i hb
   have hxw:befR x w=true:=by
    rcases befR_total (a:=x) (b:=w) (by rw [hl x (mcS ..),hw]) (fun e=>hn (by rw [e];exact mcS ..))with h3 | h3
    ·exact h3
    ·exact absurd (by simp [h3]) hb
   refine List.pairwise_cons.2 ⟨fun z hz=>?_,putR_str hw h2 (fun hm=>hn (mcM _ hm)) (fun z hz=>hl z (mcM _ hz))⟩
   rcases(putR_mem w l z).1 hz with rfl | hz
   ·exact hxw
   ·exact h1 z hz
theorem putR_keep {w:LI}:∀ {l:LL} {k:Nat},k < l.length->(∀ j,j<=k->befR w (l.getD j [])=false)->∀ j,j<=k->(putR w false l).getD j []=l.getD j []
 | [],k,hk,_,_,_=>by simp at hk
 | x :: l,k,hk,h,j,hj=>by
  have h0:=h 0 om
  simp only [List.getD_cons_zero]at h0
  simp only [putR]
  rw [if_neg (by rw [h0];simp)]
  match j,k,hk,h,hj with
  | 0,_,_,_,_=>rfl
  | j+1,k+1,hk,h,hj=>
   simp only [List.getD_cons_succ]
   exact putR_keep (k:=k) (by simpa using hk) (fun i hi=>by have:=h (i+1) om;simpa using this) j om
inductive RS (c:LL) (h:Int):List Int->Prop
 | sim (i:Nat):i < c.length->RS c h (simL c.length i)
 | up (r:LI) (i:Nat):RS c h r->i < c.length->sgnR (mirL c i r)=1->hgt (mirL c i r)<=h->hgt r < hgt (mirL c i r)->RS c h (mirL c i r)
theorem hgt_sum:∀(r:LI),(∀ x∈r,0<=x)->∀ x∈r,x<=hgt r
 | [],_,x,hx=>by cases hx
 | y :: r,h,x,hx=>by
  have h0:=h y (mcS ..)
  have hr:∀ z∈r,0<=z:=fun z hz=>h z (mcM _ hz)
  have hn:∀(r:LI),(∀ x∈r,0<=x)->0<=hgt r:=by
   intro r
   induction r with
   | nil=>intro _;exact Int.le_refl 0
   | cons z r ih=>
    intro h
    have:=ih fun x hx=>h x (mcM _ hx)
    have:=h z (mcS ..)
    show 0<=z+hgt r
    omega
  show x<=y+hgt r
  rcases List.mem_cons.1 hx with rfl | hx
  ·have:=hn r hr;omega
  ·have:=hgt_sum r hr x hx;omega
theorem sgn_nn {r:LI} (h:sgnR r=1):∀ x∈r,0<=x:=by
 intro x hx
 have h1:=(sgnR_one.1 h).2
 unfold negA at h1
 rw [List.any_eq_false]at h1
 have:=h1 x hx
 simpa using this
theorem sim_nn (n i:Nat):∀ x∈simL n i,0<=x:=fun x hx=>by
 unfold simL at hx
 rcases List.mem_or_eq_of_mem_set hx with hx | rfl
 ·rw [(List.mem_replicate.1 hx).2];decide
 ·decide
theorem RS.len {c:LL} {h:Int} {r:LI} (k:RS c h r):r.length=c.length:=by
 induction k with
 | sim i hi=>exact simL_len _ _
 | up r i _ _ _ _ _ ih=>rw [mir_len];exact ih
theorem RS.nn {c:LL} {h:Int} {r:LI} (k:RS c h r):∀ x∈r,0<=x:=by
 cases k with
 | sim i hi=>exact sim_nn _ _
 | up r i _ _ hs _ _=>exact sgn_nn hs
theorem RS.hle {c:LL} {h:Int} (h1:1<=h) {r:LI} (k:RS c h r):hgt r<=h:=by
 cases k with
 | sim i hi=>rw [hgt_sim _ _ hi];exact h1
 | up r i _ _ _ hh _=>exact hh
theorem RS.box {c:LL} {h:Int} (h1:1<=h) {r:LI} (k:RS c h r):∀ x∈r,0<=x/\x<=h:=fun x hx=>⟨k.nn x hx,by have:=hgt_sum r k.nn x hx;have:=k.hle h1;omega⟩
def enc13:List Int->Nat
 | []=>0
 | x :: l=>x.toNat+13*enc13 l
theorem enc13_inj:∀ {a b:LI},a.length=b.length->(∀ x∈a,0<=x/\x<=12)->(∀ x∈b,0<=x/\x<=12)->enc13 a=enc13 b->a=b
 | [],[],_,_,_,_=>rfl
 | [],_ :: _,h,_,_,_=>by simp at h
 | _ :: _,[],h,_,_,_=>by simp at h
 | x :: a,y :: b,hl,ha,hb,h=>by
  have h1:=ha x (mcS ..)
  have h2:=hb y (mcS ..)
  simp only [enc13]at h
  rw [enc13_inj (a:=a) (b:=b) (by simpa using hl) (fun z hz=>ha z (mcM _ hz)) (fun z hz=>hb z (mcM _ hz)) om,show x=y by omega]
theorem enc13_lt:∀ {a:LI},(∀ x∈a,0<=x/\x<=12)->enc13 a < 13 ^ a.length
 | [],_=>by simp [enc13]
 | x :: a,h=>by
  have h1:=h x (mcS ..)
  have ih:=enc13_lt (a:=a) fun z hz=>h z (mcM _ hz)
  simp only [enc13,lenC,Nat.pow_succ]
  omega
theorem box_count {n:Nat} (hn:n<=4) {l:LL} (hd:l.Nodup) (h:∀ r∈l,r.length=n/\∀ x∈r,0<=x/\x<=12):l.length<=28561:=by
 have h1:(l.map enc13).Nodup:=nodup_on _ (fun a ha b hb e=>enc13_inj (by rw [(h a ha).1,(h b hb).1]) (h a ha).2 (h b hb).2 e) hd
 have h2:=nodup_le h1 (b:=List.range 28561) fun x hx=>by
  obtain⟨r,hr,rfl⟩:=List.mem_map.1 hx
  have:=enc13_lt (h r hr).2
  rw [(h r hr).1]at this
  have:13 ^ n<=13 ^ 4:=Nat.pow_le_pow_right (by decide) hn
  exact List.mem_range.2 om
 simpa using h2
def UpC (c:LL) (h:Int) (r:LI) (i:Nat):Prop:=sgnR (mirL c i r)=1/\hgt (mirL c i r)<=h/\hgt r < hgt (mirL c i r)
structure RL (c:LL) (h:Int) (L:LL):Prop where
 st:StrR L
 mem:∀ z∈L,RS c h z
 sim:∀ i,i < c.length->simL c.length i∈L
theorem RL.len {c:LL} {h:Int} (hn:c.length<=4) (h1:1<=h) (h2:h<=12) {L:LL} (k:RL c h L):L.length<=28561:=
 box_count hn (strR_nodup k.st) fun r hr=>⟨(k.mem r hr).len,fun x hx=>by have:=(k.mem r hr).box h1 x hx;omega⟩
theorem RL.put {c:LL} {h:Int} {L:LL} (k:RL c h L) {w:LI} (hw:RS c h w) (hn:w∉L):RL c h (putR w false L):=
 ⟨putR_str hw.len k.st hn (fun x hx=>(k.mem x hx).len),fun z hz=>by
  rcases(putR_mem w L z).1 hz with rfl | hz
  ·exact hw
  ·exact k.mem z hz,fun i hi=>(putR_mem w L _).2 (.inr (k.sim i hi))⟩
theorem RL.keep {c:LL} {h:Int} {L:LL} (k:RL c h L) {w:LI} {m:Nat} (hm:m < L.length) (hw:hgt (L.getD m []) < hgt w):∀ j,j<=m->(putR w false L).getD j []=L.getD j []:=by
 refine putR_keep hm fun j hj=>?_
 have hgm:L.getD m []=L[m]:=by simp [gdE,hm]
 have hgj:L.getD j []=L[j]:=by simp [gdE,show j < L.length by omega]
 have hle:hgt (L.getD j [])<=hgt (L.getD m []):=by
  by_cases e:j=m
  ·rw [e];exact Int.le_refl _
  ·have hp:=k.st
   unfold StrR at hp
   rw [List.pairwise_iff_getElem]at hp
   have:=hp j m om hm om
   rw [hgm,hgj]
   unfold befR at this
   split at this
   ·omega
   ·rw [dtE]at this;omega
 unfold befR
 rw [if_neg om,dfE];omega
theorem mem_rwk2 {ys:List (Nat×List Int)} {z:LI}:z∈rw2 ys↔∃ j,j < ys.length/\(rw2 ys).getD j []=z:=by
 constructor
 ·intro h
  obtain⟨j,hj,e⟩:=List.getElem_of_mem h
  rw [rwl]at hj
  exact⟨j,hj,by rw [gdE,geE (by rw [rwl];exact hj),Option.getD_some];exact e⟩
 ·rintro⟨j,hj,rfl⟩
  rw [gdE,geE (by rw [rwl];exact hj),Option.getD_some]
  exact List.getElem_mem _
theorem sgn_pos {r:LI} (h:0 < sgnR r):sgnR r=1:=by
 unfold sgnR at h ⊢
 cases e1:posA r<;>cases e2:negA r<;>simp [e1,e2]at h ⊢
theorem rs_small {c:LL} (hn:c.length<=4) {h:Int} (h1:1<=h) (h2:h<=12) {r:LI} (k:RS c h r):SmR r/\Bnd 100000000000000000 r/\r.length<=4:=
 ⟨⟨by rw [k.len];exact hn,fun x hx=>by have:=k.box h1 x hx;omega⟩,fun x hx=>by have:=k.box h1 x hx;omega,by rw [k.len];exact hn⟩
set_option maxHeartbeats 2000000 in
theorem c_spec_RootsUpTo1 (c:LL) (h:Int) (hc:CartanP c) (h1:1<=h) (h2:h<=12):FunA B 37 [.sl false (.row false) c,.int .i64 h] (fun rs o=>rs=[.own 0 0]/\∃ ys,(RL c h (rw2 ys)/\(∀ z,RS c h z->z∈rw2 ys)/\(lb1 ys).Nodup)/\o=[.arr .lrow ys 0 true]):=by
 have hn:=hc.2.1
 have hb:=isC_true hc
 have hin:inB h 1 12=true:=inB_iff.2 ⟨h1,h2⟩
 refine wk Tryz.call37 Tryz.func37 rfl Tryz.ntmps37 fun C hC hP hT hfn hpin hfin hX=>wW ?_
 refine Run.R ?_
 refine Run.R ?_
 refine Run.g fun K hK=>?_
 refine FunA.cW hP hT (c_spec_IsCartan c) ?_
 rintro rs o ⟨rfl,rfl⟩
 rw [hb]
 refine wW ?_
 refine .inl (FunA.callG hP hT (c_spec_l1In h 1 12) (fun _=>rfl) (fun _=>by simp only [AW7,simprocAttr]) ?_)
 rw [hin]
 refine wF ?_;clear hK K
 refine Run.c ?_ ?_
 ·intro h;cases h
 intro _
 refine Run.R ?_
 refine Run.k [0,1,5,6] [0] ?_
 refine Run.loopI (X:=Nat×List (Nat×List Int)) (fun x=>⟨79,[(0,true,.v (.sl false (.row false) c)),(1,true,.v (.int .i64 h)),(5,true,.v (.own 0 0)),(6,true,.v (.int .i64 (x.1)))],[.arr .lrow (x.2) 0 true]⟩) (fun x=>(x.1<=c.length/\x.2.length=x.1)/\StrR (rw2 x.2)/\(lb1 x.2).Nodup/\∀ z,z∈rw2 x.2↔∃ i,i < x.1/\z=simL c.length i) (fun x=>c.length - x.1) ((0,[])) (⟨⟨nz0 _,rfl⟩,List.Pairwise.nil,by simp [lb1],fun z=>by simp [rw2]⟩) ?_ ?_
 ·exact Le.s
 rintro⟨k,ys⟩ ⟨⟨hk,hyk⟩,hS,hN,hM⟩ ih
 try simp only []
 simp only []at hk hyk hS hN hM
 have hsimL:∀ z∈rw2 ys,RS c h z:=fun z hz=>by
  obtain⟨i,hi,rfl⟩:=(hM z).1 hz
  exact .sim i om
 refine Run.R ?_
 refine Run.c ?_ ?_
 ·intro h3
  have h3:k < c.length:=by rw [dtE]at h3;omega
  have hnew:simL c.length k∉rw2 ys:=fun hm=>by
   obtain⟨i,hi,e⟩:=(hM _).1 hm
   have e1:(simL c.length k).getD i 0=(simL c.length i).getD i 0:=by rw [e]
   have h5:∀ a b,b < c.length->(simL c.length a).getD b 0=if a=b then 1 else 0:=fun a b hb=>by
    unfold simL
    simp only [List.getD,List.getElem?_set,List.length_replicate]
    by_cases e:a=b
    ·subst e;simp [hb]
    ·rw [if_neg e,if_neg e];simp [hb]
   rw [h5 k i om,h5 i i om,if_pos rfl,if_neg om]at e1
   cases e1
  have hrs:RS c h (simL c.length k):=.sim k h3
  refine Run.g fun K hK=>?_
  refine FunA.e hP hT (c_spec_SimpleRoot c k hc ⟨by omega,by omega⟩) ?_
  refine FunM.call hP hT (c_spec_l7Put ys (simL c.length k) hN om (rs_small hn h1 h2 hrs).1 (fun r hr=>(rs_small hn h1 h2 (hsimL r hr)).1) true) 0 0 (by simp only [AW7,simprocAttr];rfl) (by simp) rfl (by simp only [AW7,simprocAttr];try simp) ?_
  rintro rs o' obs' ⟨rfl,ys',hE3,hN3,h7⟩
  obtain⟨rfl,rfl⟩:=List.cons.inj h7
  refine wF ?_;clear hK K
  have hl3:ys'.length=k+1:=by
   have:=congrArg List.length hE3
   rw [(putR_perm _ _).length_eq]at this
   simp [rw2]at this;omega
  have hM3:∀ z,z∈rw2 ys'↔∃ i,i < k+1/\z=simL c.length i:=fun z=>by
   rw [hE3,putR_mem,hM]
   constructor
   ·rintro(rfl | ⟨i,hi,rfl⟩)
    ·exact⟨k,by omega,rfl⟩
    ·exact⟨i,by omega,rfl⟩
   ·rintro⟨i,hi,rfl⟩
    by_cases e:i=k
    ·subst e;exact .inl rfl
    ·exact .inr ⟨i,by omega,rfl⟩
  have hS3:StrR (rw2 ys'):=by rw [hE3];exact putR_str (simL_len _ _) hS hnew (fun x hx=>(hsimL x hx).len)
  refine Run.k [0,1,5,6] [2] ?_
  refine Run.RW ?_
  exact Run.j (ih ((k+1,ys')) (⟨⟨h3,hl3⟩,hS3,hN3,hM3⟩) mz)
 intro h3
 have h3:k=c.length:=by rw [dfE]at h3;omega
 subst h3
 have hRL:RL c h (rw2 ys):=⟨hS,hsimL,fun i hi=>(hM _).2 ⟨i,hi,rfl⟩⟩
 clear hM hsimL hyk
 refine Run.x ?_
 refine Run.R ?_
 refine Run.k [0,1,5,7] [0] ?_
 refine Run.loopI (X:=Nat×List (Nat×List Int)) (fun x=>⟨79,[(0,true,.v (.sl false (.row false) c)),(1,true,.v (.int .i64 h)),(5,true,.v (.own 0 0)),(7,true,.v (.int .i64 (x.1)))],[.arr .lrow (x.2) 0 true]⟩) (fun x=>x.1<=x.2.length/\RL c h (rw2 x.2)/\(lb1 x.2).Nodup/\∀ j,j < x.1->∀ i,i < c.length->UpC c h ((rw2 x.2).getD j []) i->mirL c i ((rw2 x.2).getD j [])∈rw2 x.2) (fun x=>30000 - x.1) ((0,ys)) (⟨nz0 _,hRL,hN,fun j hj=>by omega⟩) ?_ ?_
 ·exact Le.s
 rintro⟨k,zs⟩ ⟨hk2,hR,hN2,hD⟩ ihO
 try simp only []
 simp only []at hk2 hR hN2 hD
 clear hRL hS hN
 have hzl:=hR.len hn h1 h2
 rw [rwl]at hzl
 refine Run.R ?_
 refine Run.c ?_ ?_
 rotate_left
 ·intro h3
  have h3:k=zs.length:=by rw [dfE]at h3;omega
  have hall:∀ z,RS c h z->z∈rw2 zs:=fun z hz=>by
   induction hz with
   | sim i hi=>exact hR.sim i hi
   | up r i _ hi a b d ihr=>
    obtain⟨j,hj,e⟩:=mem_rwk2.1 ihr
    have:=hD j om i hi (by rw [e];exact⟨a,b,d⟩)
    rwa [e]at this
  refine Run.x ?_
  refine Run.R ?_
  refine Run.k [4] [0] ?_
  refine Run.r [4] ?_
  exact⟨rfl,zs,⟨hR,hall,hN2⟩,rfl⟩
 intro h3
 have h3:k < zs.length:=by rw [dtE]at h3;omega
 refine Run.R ?_
 refine Run.k [0,1,5,7,8] [0] ?_
 generalize hy:(rw2 zs).getD k []=y at *
 refine Run.loopI (X:=Nat×List (Nat×List Int)) (fun x=>⟨79,[(0,true,.v (.sl false (.row false) c)),(1,true,.v (.int .i64 h)),(5,true,.v (.own 0 0)),(7,true,.v (.int .i64 k)),(8,true,.v (.int .i64 (x.1)))],[.arr .lrow (x.2) 0 true]⟩) (fun x=>(x.1<=c.length/\k < x.2.length)/\RL c h (rw2 x.2)/\(lb1 x.2).Nodup/\(rw2 x.2).getD k []=y/\(∀ j,j < k->∀ i,i < c.length->UpC c h ((rw2 x.2).getD j []) i->mirL c i ((rw2 x.2).getD j [])∈rw2 x.2)/\∀ i,i < x.1->UpC c h y i->mirL c i y∈rw2 x.2) (fun x=>c.length - x.1) ((0,zs)) (⟨⟨nz0 _,h3⟩,hR,hN2,hy,hD,fun i hi=>by omega⟩) ?_ ?_
 ·exact Le.s
 rintro⟨i,us⟩ ⟨⟨hi,hku⟩,hR2,hN3,hy2,hD2,hU⟩ ihK
 try simp only []
 simp only []at hi hku hR2 hN3 hy2 hD2 hU
 have hul:=hR2.len hn h1 h2
 rw [rwl]at hul
 refine Run.R ?_
 refine Run.c ?_ ?_
 rotate_left
 ·intro h4
  have h4:i=c.length:=by rw [dfE]at h4;omega
  subst h4
  refine Run.x ?_
  refine Run.RW ?_
  refine Run.k [0,1,5,7] [0] ?_
  refine Run.le ?_ (ihO ((k+1,us)) (⟨hku,hR2,hN3,fun j hj i hi hup=>(by
   by_cases e:j=k
   ·subst e;rw [hy2]at hup ⊢;exact hU i hi hup
   ·exact hD2 j om i hi hup)⟩) (by(try simp only [lenA,lenC,lenN]);omega))
  exact Le.sub (by rfl) (by simp only [AW7,simprocAttr];try simp)
 intro h4
 have h4:i < c.length:=by rw [dtE]at h4;omega
 have hym:y∈rw2 us:=by rw [<- hy2];exact mem_rwk2.2 ⟨k,hku,rfl⟩
 have hys:=hR2.mem y hym
 obtain⟨y1,y2,y3⟩:=rs_small hn h1 h2 hys
 have hgu:=rwg us k
 rw [hy2]at hgu
 have hml:=mir_len c i y
 have hmb:Bnd (13*12) (mirL c i y):=mir_bnd hc (i:=(i:Int)) ⟨by omega,by omega⟩ hys.len (by decide) (fun x hx=>by have:=hys.box h1 x hx;omega)
 have hmB:Bnd 1000000000000000000 (mirL c i y):=fun x hx=>by have:=hmb x hx;omega
 have hyB:Bnd 1000000000000000000 y:=y1.2
 have hul2:∀ r∈us.map (·.2),r.length<=1048576:=fun r hr=>by
  have hr:r∈rw2 us:=hr
  have:=(rs_small hn h1 h2 (hR2.mem r hr)).2.2;omega
 have hmap:us.map (·.2)=rw2 us:=rfl
 have hcond:(sgnR (mirL c i y)=1/\hgt (mirL c i y)<=h/\hgt y < hgt (mirL c i y))↔UpC c h y i:=Iff.rfl
 refine Run.g fun K hK=>?_
 try simp only [hgu]
 refine FunA.e hP hT (c_spec_l7Reflect c i y hc ⟨by omega,by omega⟩ hys.len y2) ?_
 refine wE ?_;clear hK K
 generalize hr:mirL c i y=r at *
 refine Run.nq ?_;refine Run.regionD hC true [0,1,2,3,4,6,5,7,8,9,10,11,12,13,14,15,16,18,19,20,21,17,22,23,24] (by kernel_rfl) (fun K hK=>?_);simp only [AW7,simprocAttr,hX];(repeat(with_reducible refine And.intro ?_ ?_);exact vc0)
 refine FunA.e hP hT (c_spec_RootSign r) ?_
 refine⟨Keeps.refl _,?_⟩
 refine .inl (FunA.callG hP hT (c_spec_HeightOf r hmB (by rw [hml];exact y3)) (fun _=>rfl) (fun _=>by simp only [AW7,simprocAttr]) ?_)
 refine wW ?_
 refine .inl (FunA.callG hP hT (c_spec_l7In (us.map (·.2)) r (by simp;omega) hul2) (fun _=>rfl) (fun _=>by simp only [AW7,simprocAttr]) ?_)
 refine wW ?_
 refine .inl (FunA.callG hP hT (c_spec_HeightOf r hmB (by rw [hml];exact y3)) (fun _=>rfl) (fun _=>by simp only [AW7,simprocAttr]) ?_)
 refine wW ?_
 simp only [hgu]
 refine .inl (FunA.callG hP hT (c_spec_HeightOf y hyB y3) (fun _=>rfl) (fun _=>by simp only [AW7,simprocAttr]) ?_)
 refine wF ?_;clear hK K
 rw [hmap]
 refine Run.c ?_ ?_
 ·intro h5
  have h6:(sgnR r=1/\hgt r<=h/\hgt y < hgt r)/\r∉rw2 us:=by
   cases e1:decide (0 < sgnR r)<;>cases e2:decide (hgt r<=h)<;>cases e3:decide (r∈rw2 us)<;>cases e4:decide (hgt y < hgt r)<;>simp only [e1,e2,e3,e4,cond_true,cond_false,Bool.not_true,Bool.not_false,reduceCtorEq]at h5
   simp only [dtE,dfE]at e1 e2 e3 e4
   have:=sgn_pos e1
   exact⟨⟨this,e2,e4⟩,e3⟩
  obtain⟨hup,hnew⟩:=h6
  have hrs:RS c h r:=by
   subst hr
   exact .up y i hys h4 hup.1 hup.2.1 hup.2.2
  refine Run.k [0,1,5,7,8,9] [0,1] ?_
  refine Run.g fun K hK=>?_
  refine FunM.call hP hT (c_spec_l7Put us r hN3 om (rs_small hn h1 h2 hrs).1 (fun z hz=>(rs_small hn h1 h2 (hR2.mem z hz)).1) true) 0 0 (by simp only [AW7,simprocAttr];rfl) (by simp) rfl (by simp only [AW7,simprocAttr];try simp) ?_
  rintro rs o' obs' ⟨rfl,us',hE4,hN4,h7⟩
  obtain⟨rfl,rfl⟩:=List.cons.inj h7
  refine wF ?_;clear hK K
  have hR3:RL c h (rw2 us'):=by rw [hE4];exact hR2.put hrs hnew
  have hku':k < (rw2 us).length:=by rw [rwl];exact hku
  have hkeep:∀ j,j<=k->(rw2 us').getD j []=(rw2 us).getD j []:=by
   rw [hE4];exact hR2.keep hku' (by rw [hy2];exact hup.2.2)
  have hsub:∀ z,z∈rw2 us->z∈rw2 us':=fun z hz=>by rw [hE4];exact(putR_mem _ _ _).2 (.inr hz)
  have hl4:us'.length=us.length+1:=by
   have:=congrArg List.length hE4
   rw [(putR_perm _ _).length_eq]at this
   simp [rw2]at this;omega
  have hD3:∀ j,j < k->∀ i,i < c.length->UpC c h ((rw2 us').getD j []) i->mirL c i ((rw2 us').getD j [])∈rw2 us':=fun j hj i hi hu=>by
   rw [hkeep j om]at hu ⊢
   exact hsub _ (hD2 j hj i hi hu)
  have hU3:∀ a,a < i+1->UpC c h y a->mirL c a y∈rw2 us':=fun a ha hu=>by
   by_cases e:a=i
   ·subst e;rw [hr,hE4];exact(putR_mem _ _ _).2 (.inl rfl)
   ·exact hsub _ (hU a om hu)
  have hku4:k < us'.length:=by omega
  refine Run.RW ?_
  refine Run.k [0,1,5,7,8] [2] ?_
  exact Run.j (ihK ((i+1,us')) (⟨⟨h4,hku4⟩,hR3,hN4,(hkeep k (Nat.le_refl k)).trans hy2,hD3,hU3⟩) mz)
 intro h5
 have h6:UpC c h y i->r∈rw2 us:=fun hu=>by
  unfold UpC at hu
  rw [hr]at hu
  have e1:decide (0 < sgnR r)=true:=by rw [hu.1];rfl
  have e2:decide (hgt r<=h)=true:=decide_eq_true hu.2.1
  have e4:decide (hgt y < hgt r)=true:=decide_eq_true hu.2.2
  cases e3:decide (r∈rw2 us) with
  | true=>rwa [dtE]at e3
  | false=>simp only [e1,e2,e3,e4,cond_true,cond_false,Bool.not_true,Bool.not_false,reduceCtorEq]at h5
 have hU3:∀ a,a < i+1->UpC c h y a->mirL c a y∈rw2 us:=fun a ha hu=>by
  by_cases e:a=i
  ·subst e;rw [hr];exact h6 hu
  ·exact hU a om hu
 refine Run.RW ?_
 refine Run.k [0,1,5,7,8] [0] ?_
 exact Run.j (ihK ((i+1,us)) (⟨⟨h4,hku⟩,hR2,hN3,hy2,hD2,hU3⟩) mz)
theorem c_l1BelowL (s:Value) (n:Int) (hn0:256 < n) (hn:n<=1000000):FunO B 106 [.own 0 0,.int .i64 n] (.cur s 0) (fun rs o=>∃ x:Int,rs=[.int .i64 x]/\0<=x/\(0 < n->x < n)/\o=[.cur s 0]):=by
 refine FunO.walk B_ok (fn:=Tryz.f106) (fun vs w=>Tryz.call106 vs w) Tryz.func106 rfl (by rw [Tryz.ntmps106];simp) (fun C hC hP hT hΓ hbt hfn hpin hfin=>?_);have hX:=BX;rw [<- hΓ,<- hbt.1,<- hbt.2.1,<- hbt.2.2.1,<- hbt.2.2.2.2]at hX;rw [hT]at hX;rw [Tryz.ntmps106];simp only [AW7,simprocAttr,hX]
 refine Run.R ?_
 refine Run.R ?_
 refine Run.c ?_ ?_
 ·intro h
  have h:n<=0:=by simpa using h
  omega
 intro _
 refine Run.R ?_
 refine Run.c ?_ ?_
 ·intro h2
  have h2:n<=256:=by simpa using h2
  omega
 intro _
 refine Run.g fun K hK=>?_
 refine FunO.callCur hP hT (c_l1Byte s) 0 0 (by first | rfl | (simp only [AW7,simprocAttr];done) | (simp only [AW7,simprocAttr];rfl)) (by simp only [AW7,simprocAttr]) ?_
 rintro rs o' obs' ⟨x,rfl,x0,x1,ho⟩
 injection ho with ho1 ho2;subst ho1 ho2
 refine wF ?_;clear hK K
 refine Run.g fun K hK=>?_
 refine FunO.callCur hP hT (c_l1Byte s) 0 0 (by first | rfl | (simp only [AW7,simprocAttr];done) | (simp only [AW7,simprocAttr];rfl)) (by simp only [AW7,simprocAttr]) ?_
 rintro rs o' obs' ⟨y,rfl,y0,y1,ho⟩
 injection ho with ho1 ho2;subst ho1 ho2
 refine wF ?_;clear hK K
 refine Run.g fun K hK=>?_
 refine FunO.callCur hP hT (c_l1Byte s) 0 0 (by first | rfl | (simp only [AW7,simprocAttr];done) | (simp only [AW7,simprocAttr];rfl)) (by simp only [AW7,simprocAttr]) ?_
 rintro rs o' obs' ⟨z,rfl,z0,z1,ho⟩
 injection ho with ho1 ho2;subst ho1 ho2
 refine wF ?_;clear hK K
 refine Run.g fun K hK=>?_
 refine FunO.callCur hP hT (c_l1Byte s) 0 0 (by first | rfl | (simp only [AW7,simprocAttr];done) | (simp only [AW7,simprocAttr];rfl)) (by simp only [AW7,simprocAttr]) ?_
 rintro rs o' obs' ⟨u,rfl,u0,u1,ho⟩
 injection ho with ho1 ho2;subst ho1 ho2
 refine wF ?_;clear hK K
 have hm:(x*16777216+y*65536+z*256+u).tmod n=(x*16777216+y*65536+z*256+u) % n:=Int.tmod_eq_emod_of_nonneg om
 have hm0:=Int.emod_nonneg (x*16777216+y*65536+z*256+u) (by omega:n≠0)
 have hm1:=Int.emod_lt_of_pos (x*16777216+y*65536+z*256+u) (by omega:0 < n)
 refine Run.RW ?_
 refine Run.rW [4] (hfin _ _ _ rfl rfl ⟨rfl,rfl⟩ ?_)
 exact⟨_,rfl,by omega,by omega,rfl⟩
theorem c_l1BelowG (s:Value) (n:Int) (hn0:-1000<=n) (hn:n<=1000000):FunO B 106 [.own 0 0,.int .i64 n] (.cur s 0) (fun rs o=>∃ x:Int,rs=[.int .i64 x]/\0<=x/\(0 < n->x < n)/\o=[.cur s 0]):=by
 by_cases h:n<=256
 ·exact c_l1Below s n hn0 h
 ·exact c_l1BelowL s n om hn
theorem c_l6Weight (s:Value) (c:LL) (hc:c.length<=100):FunO B 153 [.own 0 0,.sl false (.row false) c,.int .i64 4] (.cur s 0) (fun rs o=>∃ w nn,(∀ k∈w,-4<=k/\k<=4)/\w.length=c.length/\nn=true/\rs=[.own 1 0]/\o=[.cur s 0,.arr .int w 0 nn]):=by
 refine FunO.walk B_ok (fn:=Tryz.f153) (fun vs w=>Tryz.call153 vs w) Tryz.func153 rfl (by rw [Tryz.ntmps153];simp) (fun C hC hP hT hΓ hbt hfn hpin hfin=>?_);have hX:=BX;rw [<- hΓ,<- hbt.1,<- hbt.2.1,<- hbt.2.2.1,<- hbt.2.2.2.2]at hX;rw [hT]at hX;rw [Tryz.ntmps153];simp only [AW7,simprocAttr,hX]
 refine Run.R ?_
 refine Run.R ?_
 refine Run.R ?_
 refine Run.kp [0,1,2,7,8] [0,1] ?_
 refine Run.loopI (X:=List Int) (fun w=>⟨27,[(0,true,.v (.own 0 0)),(1,true,.v (.sl false (.row false) c)),(2,true,.v (.int .i64 4)),(7,true,.v (.own 1 0)),(8,true,.v (.int .i64 ((w.length:Nat))))],[.cur s 0,.arr .int (w) 0 true]⟩) (fun w=>w.length<=c.length/\(∀ k∈w,-4<=k/\k<=4)) (fun w=>c.length - w.length) ([]) (⟨by simp,by simp⟩) ?_ ?_
 ·exact Le.s
 rintro w ⟨hwl,hw⟩ ih
 try simp only []
 refine Run.R ?_
 refine Run.c ?_ ?_
 rotate_left
 ·intro h
  have h:w.length=c.length:=by rw [dfE]at h;omega
  refine Run.x ?_
  refine Run.R ?_
  refine Run.kp [0,6] [0,1] ?_
  refine Run.rW [6] (hfin _ _ _ rfl rfl ⟨rfl,rfl⟩ ?_)
  exact⟨w,true,hw,h,rfl,rfl,rfl⟩
 intro h
 have h:w.length < c.length:=by rw [dtE]at h;omega
 refine Run.g fun K hK=>?_
 refine FunO.callCur hP hT (c_l1Below s 9 (by decide) (by decide)) 0 0 (by first | rfl | (simp only [AW7,simprocAttr];done) | (simp only [AW7,simprocAttr];rfl)) (by simp only [AW7,simprocAttr];first | done | rfl | exact⟨rfl,rfl⟩) ?_
 rintro rs o' obs' ⟨v,rfl,v0,v1,ho⟩
 injection ho with ho1 ho2;subst ho1 ho2
 have v1:=v1 (by decide)
 refine wWW ?_
 refine wE ?_;clear hK K
 have hw2:∀ k∈w ++ [v - 4],-4<=k/\k<=4:=by
  intro k hk
  rw [List.mem_append,List.mem_singleton]at hk
  rcases hk with hk | rfl
  ·exact hw k hk
  ·omega
 refine Run.kp [0,1,2,7,8] [0,1] ?_
 refine Run.RW ?_
 refine Run.le ?_ (ih (w ++ [v - 4]) (⟨by simp;omega,hw2⟩) (by(try simp only [lenA,lenC,lenN]);omega))
 exact Le.sub (by first | rfl | (simp only [lenA,lenC,lenN];done) | (rw [lenA,lenC,lenN];rfl)) (by simp only [AW7,simprocAttr];try simp)
def Sm2 (r:LI):Prop:=r.length<=6/\∀ x∈r,-2000<=x/\x<=2000
theorem c_l6Any (code:LI) (hl:code.length<=1048576):FunA B 118 [.sl false .byte code] (fun rs o=>∃ c r,(1<=c.length/\c.length<=5)/\Sm2 r/\rs=[.sl true (.row true) c,.sl true .int r]/\o=[]):=by
 refine wk Tryz.call118 Tryz.func118 rfl Tryz.ntmps118 fun C hC hP hT hfn hpin hfin hX=>wW ?_
 refine Run.R ?_
 refine Run.g fun K hK=>?_
 refine ACall.new hP om fun s=>?_
 refine wF ?_;clear hK K
 refine Run.g fun K hK=>?_
 refine FunO.callCur hP hT (c_l2Any s) 0 0 (by first | rfl | (simp only [AW7,simprocAttr];done) | (simp only [AW7,simprocAttr];rfl)) (by simp only [AW7,simprocAttr]) ?_
 rintro rs o' obs' ⟨c,g,nn,⟨c1,c2⟩,rfl,rfl,ho⟩
 injection ho with ho1 ho2;subst ho1 ho2
 refine wF ?_;clear hK K
 refine Run.g fun K hK=>?_
 refine FunO.callCur hP hT (c_l6Weight s c om) 0 0 (by first | rfl | (simp only [AW7,simprocAttr];done) | (simp only [AW7,simprocAttr];rfl)) (by simp only [AW7,simprocAttr];decide) ?_
 rintro rs o' obs' ⟨w,nn,hw,hwl,rfl,rfl,ho⟩
 injection ho with ho1 ho2;subst ho1 ho2
 refine wF ?_;clear hK K
 refine Run.g fun K hK=>?_
 refine FunO.callCur hP hT (c_l1Below s 14 (by decide) (by decide)) 0 0 (by first | rfl | (simp only [AW7,simprocAttr];done) | (simp only [AW7,simprocAttr];rfl)) (by simp only [AW7,simprocAttr]) ?_
 rintro rs o' obs' ⟨x,rfl,x0,x1,ho⟩
 injection ho with ho1 ho2;subst ho1 ho2
 refine wF ?_;clear hK K
 refine Run.R ?_
 refine Run.c ?_ ?_
 ·intro h0
  refine Run.R ?_
  refine Run.k [5,6] [0,1,2] ?_
  refine Run.R ?_
  refine Run.k [2,3] [1,2] ?_
  refine Run.l 0 [2,3] ?_
  refine Run.l 1 [2,3] ?_
  refine Run.k [2,3] [] ?_
  refine Run.r [2,3] ?_
  exact⟨c,w ++ [1],⟨c1,c2⟩,⟨by simp;omega,fun x hx=>by
   rw [List.mem_append,List.mem_singleton]at hx
   rcases hx with hx | rfl
   ·have h3:-4<=x/\x<=4:=hw x hx
    exact⟨by omega,by omega⟩
   ·exact⟨by decide,by decide⟩⟩,rfl,rfl⟩
 intro _
 refine Run.R ?_
 refine Run.c ?_ ?_
 ·intro h1
  refine Run.g fun K hK=>?_
  refine FunO.callCur hP hT (c_l1PickInt s [-1000,1000,1001] (by decide) (by decide)) 0 0 (by first | rfl | (simp only [AW7,simprocAttr];done) | (simp only [AW7,simprocAttr];rfl)) (by simp only [AW7,simprocAttr];first | done | decide | exact⟨by decide,rfl⟩) ?_
  rintro rs o' obs' ⟨v,rfl,hv,ho⟩
  injection ho with ho1 ho2;subst ho1 ho2
  refine wF ?_;clear hK K
  refine Run.k [5,6] [0,1,2] ?_
  refine Run.R ?_
  refine Run.k [2,3] [1,2] ?_
  refine Run.l 0 [2,3] ?_
  refine Run.l 1 [2,3] ?_
  refine Run.k [2,3] [] ?_
  refine Run.r [2,3] ?_
  refine⟨c,w.set 0 v,⟨c1,c2⟩,⟨by simp;omega,fun x hx=>?_⟩,rfl,rfl⟩
  rcases List.mem_or_eq_of_mem_set hx with hx | rfl
  ·have h3:-4<=x/\x<=4:=hw x hx
   exact⟨by omega,by omega⟩
  ·simp only [List.mem_cons,List.not_mem_nil,or_false]at hv;omega
 intro _
 refine Run.k [5,6] [0,1,2] ?_
 refine Run.nq ?_
 refine Run.R ?_
 refine Run.k [2,3] [1,2] ?_
 refine Run.l 0 [2,3] ?_
 refine Run.l 1 [2,3] ?_
 refine Run.k [2,3] [] ?_
 refine Run.r [2,3] ?_
 exact⟨c,w,⟨c1,c2⟩,⟨by omega,fun x hx=>by
  have h3:-4<=x/\x<=4:=hw x hx
  exact⟨by omega,by omega⟩⟩,rfl,rfl⟩
theorem c_l7Any (code:LI) (hl:code.length<=1048576):FunA B 71 [.sl false .byte code] (fun rs o=>∃ c r,(1<=c.length/\c.length<=5)/\Sm2 r/\rs=[.sl true (.row true) c,.sl true .int r]/\o=[]):=by
 refine wk Tryz.call71 Tryz.func71 rfl Tryz.ntmps71 fun C hC hP hT hfn hpin hfin hX=>wW ?_
 refine Run.R ?_
 refine Run.g fun K hK=>?_
 refine ACall.new hP om fun s=>?_
 refine wF ?_;clear hK K
 refine Run.g fun K hK=>?_
 refine FunO.callCur hP hT (c_l2Any s) 0 0 (by first | rfl | (simp only [AW7,simprocAttr];done) | (simp only [AW7,simprocAttr];rfl)) (by simp only [AW7,simprocAttr]) ?_
 rintro rs o' obs' ⟨c,g,nn,⟨c1,c2⟩,rfl,rfl,ho⟩
 injection ho with ho1 ho2;subst ho1 ho2
 refine wF ?_;clear hK K
 refine Run.k [0,4,5] [0,1] ?_
 apply jn12 (σ':=⟨39,[(0,true,.v (.sl false .byte code))],[]⟩)
 case h=>
  intro rest
  refine Run.g fun K hK=>?_
  refine FunA.cW hP hT (c_spec_IsCartan c) ?_
  rintro rs o ⟨rfl,rfl⟩
  cases hc:isC c with
  | false=>
   refine wW ?_
   refine .inl (CallG.off (.bool false) ?_)
   refine wF ?_;clear hK K
   refine Run.c ?_ ?_
   ·intro h;cases h
   intro _
   refine Run.k [0] [] ?_
   refine Run.nq ?_
   exact rest
  | true=>
   have hcp:=isC_iff.1 hc
   refine wW ?_
   refine .inr ⟨rfl,?_⟩
   refine FunO.callCur hP hT (c_l1Once s 4 (by decide) (by decide)) 0 0 (by first | rfl | (simp only [AW7,simprocAttr];done) | (simp only [AW7,simprocAttr];rfl)) (by simp only [AW7,simprocAttr]) ?_
   rintro rs o' obs' ⟨x,rfl,ho⟩
   injection ho with ho1 ho2;subst ho1 ho2
   refine wF ?_;clear hK K
   refine Run.c ?_ ?_
   rotate_left
   ·intro _
    refine Run.k [0] [] ?_
    refine Run.nq ?_
    exact rest
   intro _
   refine Run.g fun K hK=>?_
   refine FunA.cW hP hT (c_spec_RootsUpTo1 c 4 hcp (by decide) (by decide)) ?_
   rintro rs o ⟨rfl,ys,⟨hR,_,hN⟩,rfl⟩
   refine wF ?_;clear hK K
   refine Run.k [4,5,6] [0,1,2] ?_
   have hyl:ys.length=(rw2 ys).length:=by simp [rw2]
   have hb:=hR.len hcp.2.1 (by decide) (by decide)
   have hpos:0 < (rw2 ys).length:=List.length_pos_of_mem (hR.sim 0 om)
   refine Run.g fun K hK=>?_
   refine FunO.callCur hP hT (c_l1BelowG s ys.length om om) 0 0 (by first | rfl | (simp only [AW7,simprocAttr];done) | (simp only [AW7,simprocAttr];rfl)) (by simp only [AW7,simprocAttr]) ?_
   rintro rs o' obs' ⟨x,rfl,x0,x1,ho⟩
   injection ho with ho1 ho2;subst ho1 ho2
   have x1:=x1 om
   obtain⟨i,rfl⟩:∃ k:Nat,x=k:=⟨x.toNat,by omega⟩
   have hrs:RS c 4 (ys.getD i (0,[])).2:=by
    have e:(ys.getD i (0,[])).2=(rw2 ys)[i]:=by
     have h:i < ys.length:=by omega
     simp [rw2,gdE,geE h]
    rw [e]
    exact hR.mem _ (List.getElem_mem _)
   have hrl:(ys.getD i (0,[])).2.length<=5:=by rw [hrs.len];omega
   have hrb:=hrs.box (by decide)
   refine wF ?_;clear hK K
   refine Run.k [2,3] [1,3] ?_
   refine Run.l 0 [2,3] ?_
   refine Run.l 1 [2,3] ?_
   refine Run.k [2,3] [] ?_
   refine Run.r [2,3] ?_
   exact⟨c,(ys.getD i (0,[])).2,⟨c1,c2⟩,⟨by omega,fun x hx=>by
    have h3:0<=x/\x<=4:=hrb x hx
    exact⟨by omega,by omega⟩⟩,rfl,rfl⟩
 refine Run.g fun K hK=>?_
 refine FunA.cW hP hT (c_l6Any code hl) ?_
 rintro rs o ⟨d,r,d1,d2,rfl,rfl⟩
 refine wF ?_;clear hK K
 refine Run.R ?_
 refine Run.k [2,3] [] ?_
 refine Run.r [2,3] ?_
 exact⟨d,r,d1,d2,rfl,rfl⟩
end Go.Proofs.YtcinngodeoidnaaGreat
