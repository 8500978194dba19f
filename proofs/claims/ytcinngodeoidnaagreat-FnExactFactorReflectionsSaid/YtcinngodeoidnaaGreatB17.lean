/- Roots put into an ordered list; the inversions of an element, and how many two elements share: the reference's functions. -/
import Derived.Test.YtcinngodeoidnaaGreatB14
import Derived.Test.YtcinngodeoidnaaGreatB15
import Derived.Test.YtcinngodeoidnaaGreatB16
import Derived.Test.YtcinngodeoidnaaGreatB13
set_option linter.unusedVariables false
set_option linter.unusedSimpArgs false
namespace Go.Proofs.YtcinngodeoidnaaGreat
open Go Go.Aw Go.Cox
def gtL:List Int->List Int->Bool
 | x :: a,y :: b=>if x=y then gtL a b else decide (y < x)
 | _,_=>false
def befR (a b:LI):Bool:=if hgt a=hgt b then gtL a b else decide (hgt a < hgt b)
theorem gtL_at:∀(a b:LI) (i:Nat),i < a.length->i < b.length->a.take i=b.take i->a.getD i 0≠b.getD i 0->gtL a b=decide (b.getD i 0 < a.getD i 0)
 | [],_,i,h,_,_,_=>by simp at h
 | _ :: _,[],i,_,h,_,_=>by simp at h
 | x :: a,y :: b,0,_,_,_,h=>by
  simp at h
  simp [gtL,h]
 | x :: a,y :: b,i+1,h1,h2,h3,h4=>by
  simp only [List.take_succ_cons,List.cons.injEq]at h3
  obtain⟨rfl,h3⟩:=h3
  have ih:=gtL_at a b i (by simpa using h1) (by simpa using h2) h3 (by simpa using h4)
  simp only [gtL,if_pos,List.getD_cons_succ]
  exact ih
theorem gtL_no:∀(a b:LI) (i:Nat),i<=a.length->i<=b.length->a.take i=b.take i->(i=a.length\/i=b.length)->gtL a b=false
 | [],_,i,_,_,_,_=>by simp [gtL]
 | _ :: _,[],i,_,_,_,_=>by simp [gtL]
 | x :: a,y :: b,0,_,_,_,h=>by simp at h
 | x :: a,y :: b,i+1,h1,h2,h3,h4=>by
  simp only [List.take_succ_cons,List.cons.injEq]at h3
  obtain⟨rfl,h3⟩:=h3
  have ih:=gtL_no a b i (by simpa using h1) (by simpa using h2) h3 (by simpa using h4)
  simp only [gtL,if_pos]
  exact ih
theorem c_spec_l7Before (a b:LI) (ha:Bnd 1000000000000000000 a) (hb:Bnd 1000000000000000000 b) (hal:a.length<=4) (hbl:b.length<=4):FunA B 150 [.sl false .int a,.sl false .int b] (fun rs o=>rs=[.bool (befR a b)]/\o=[]):=by
 refine wk Tryz.call150 Tryz.func150 rfl Tryz.ntmps150 fun C hC hP hT hfn hpin hfin hX=>wW ?_
 refine Run.R ?_
 refine Run.g fun K hK=>?_
 refine FunA.e hP hT (c_spec_HeightOf a ha hal) ?_
 refine wE ?_;clear hK K
 refine Run.g fun K hK=>?_
 refine FunA.e hP hT (c_spec_HeightOf b hb hbl) ?_
 refine wE ?_;clear hK K
 refine Run.R ?_
 refine Run.c ?_ ?_
 ·intro h
  have h:hgt a≠hgt b:=by simpa using h
  refine Run.R ?_
  refine Run.r [4] ?_
  exact⟨by simp [befR,h],rfl⟩
 intro h
 have h:hgt a=hgt b:=by simpa using h
 have hbe:befR a b=gtL a b:=by simp [befR,h]
 refine Run.R ?_
 refine Run.loopI (X:=Nat) (fun i=>⟨48,[(0,true,.v (.sl false .int a)),(1,true,.v (.sl false .int b)),(7,true,.v (.int .i64 i))],[]⟩) (fun i=>i<=a.length/\i<=b.length/\a.take i=b.take i) (fun i=>a.length - i) (0) (⟨nz0 _,nz0 _,rfl⟩) ?_ ?_
 ·exact Le.s
 rintro i ⟨hi,hi2,ht⟩ ih
 try simp only []
 refine Run.R ?_
 refine Run.c ?_ ?_
 rotate_left
 ·intro h2
  have h2:i=a.length\/i=b.length:=by
   by_cases h3:i < a.length
   ·by_cases h4:i < b.length
    ·rw [decide_eq_true (by omega:(i:Int) < a.length),decide_eq_true (by omega:(i:Int) < b.length)]at h2
     cases h2
    ·omega
   ·omega
  refine Run.x ?_
  refine Run.R ?_
  refine Run.r [4] ?_
  exact⟨by rw [hbe,gtL_no a b i hi hi2 ht h2],rfl⟩
 intro h2
 have h2:i < a.length/\i < b.length:=by
  by_cases h3:i < a.length
  ·by_cases h4:i < b.length
   ·exact⟨h3,h4⟩
   ·rw [decide_eq_true (by omega:(i:Int) < a.length),decide_eq_false (by omega:¬(i:Int) < b.length)]at h2
    cases h2
  ·rw [decide_eq_false (by omega:¬(i:Int) < a.length)]at h2
   cases h2
 obtain⟨h3,h4⟩:=h2
 refine Run.nq ?_;refine Run.regionD hC true [0,1,2,3,4,5,6,7,8] (by kernel_rfl) (fun K hK=>?_);simp only [AW7,simprocAttr,hX];(repeat(with_reducible refine And.intro ?_ ?_);exact vc0)
 refine wE ?_;clear hK K
 refine Run.c ?_ ?_
 ·intro h5
  have h5:a.getD i 0≠b.getD i 0:=by simpa using h5
  refine Run.nq ?_;refine Run.regionD hC true [0,1,2,3,4,5,6,7,8,9] (by kernel_rfl) (fun K hK=>?_);simp only [AW7,simprocAttr,hX];(repeat(with_reducible refine And.intro ?_ ?_);exact vc0)
  refine wE ?_;clear hK K
  refine Run.r [4] ?_
  exact⟨by rw [hbe,gtL_at a b i h3 h4 ht h5],rfl⟩
 intro h5
 have h5:a.getD i 0=b.getD i 0:=by simpa using h5
 refine Run.RW ?_
 exact Run.j (ih (i+1) (⟨by omega,by omega,by rw [<- take_snoc 0 a i h3,<- take_snoc 0 b i h4,ht,h5]⟩) mz)
def putR (w:LI):Bool->List (List Int)->List (List Int)
 | b,[]=>if b then []else [w]
 | b,x :: l=>if b=false/\befR w x=true then w :: x :: putR w true l else x :: putR w b l
theorem putR_true (w:LI):∀ l,putR w true l=l
 | []=>rfl
 | x :: l=>by simp [putR,putR_true w l]
theorem putR_perm (w:LI):∀ l,(putR w false l).Perm (w :: l)
 | []=>by simp [putR]
 | x :: l=>by
  simp only [putR]
  split
  ·rw [putR_true]
  ·exact((putR_perm w l).cons x).trans (.swap w x l)
def SmR (r:LI):Prop:=r.length<=4/\Bnd 1000000000000000000 r
set_option maxHeartbeats 1000000 in
theorem c_spec_l7Put (ys:List (Nat×List Int)) (w:LI) (hnd:(lb1 ys).Nodup) (hyl:ys.length<=100000) (hw:SmR w) (hys:∀ r∈rw2 ys,SmR r) (nn:Bool) :
  FunM B 111 [.own 0 0,.sl false .int w] .lrow ys nn (fun rs o=>rs=[.own 1 0]/\∃ ys',rw2 ys'=putR w false (rw2 ys)/\(lb1 ys').Nodup/\o=[.arr .lrow ys 0 nn,.arr .lrow ys' 0 true]):=by
 have hwl:=hw.1
 refine FunM.walk B_ok (fn:=Tryz.f111) (fun vs w=>Tryz.call111 vs w) Tryz.func111 rfl (by rw [Tryz.ntmps111];simp) (fun C hC hP hT hΓ hbt hfn hpin hfin=>?_);have hX:=BX;rw [<- hΓ,<- hbt.1,<- hbt.2.1,<- hbt.2.2.1,<- hbt.2.2.2.2]at hX;rw [hT]at hX;rw [Tryz.ntmps111];simp only [AW7,simprocAttr,hX]
 refine Run.R ?_
 refine Run.R ?_
 refine Run.R ?_
 refine Run.R ?_
 refine Run.kp [0,1,5,6,7] [0,1] ?_
 refine Run.loopI (X:=List (Nat×List Int)×Bool×Nat) (fun x=>⟨47,[(0,true,.v (.own 0 0)),(1,true,.v (.sl false .int w)),(5,true,.v (.own 1 0)),(6,true,.v (.bool (x.2.1))),(7,true,.v (.int .i64 (x.2.2)))],[.arr .lrow ys 0 nn,.arr .lrow (x.1) 0 true]⟩) (fun x=>x.2.2<=ys.length/\x.1.length<=2*x.2.2/\rw2 x.1 ++ putR w x.2.1 (rw2 (ys.drop x.2.2))=putR w false (rw2 ys)/\(lb1 x.1 ++ lb1 (ys.drop x.2.2)).Nodup) (fun x=>ys.length - x.2.2) (([],false,0)) (⟨nz0 _,by simp,rfl,hnd⟩) ?_ ?_
 ·exact Le.s
 rintro⟨zs,b,i⟩ ⟨hi,hzl,hE,hN⟩ ih
 try simp only []
 simp only []at hi hzl hE hN
 refine Run.R ?_
 refine Run.c ?_ ?_
 rotate_left
 ·intro h
  have hie:i=ys.length:=by rw [dfE]at h;omega
  refine Run.x ?_
  refine Run.R ?_
  refine Run.c ?_ ?_
  ·intro hb
   have hb:b=false:=by simpa using hb
   subst hb
   refine Run.g fun K hK=>?_
   intro q hq
   have hN3:=lb_ins (w:=w) hN (hq (.arr .lrow zs 0 true) (.tail _ (.head _)) _ _ _ rfl) (hq (.arr .lrow ys 0 nn) (.head _) _ _ _ rfl)
   rw [hie,List.drop_length]at hE hN3
   have e0:lb1 ([]:List (Nat×List Int))=[]:=rfl
   rw [e0,List.append_nil]at hN3
   (repeat(with_reducible refine And.intro ?_ ?_);exact vc0)
   refine wE ?_;clear hK K
   refine Run.R ?_
   refine Run.kp [4] [0,1] ?_
   refine Run.retW [4] (by decide) (by rw [hfn];rfl) (by simp only [AW7,simprocAttr,hX];rfl) (by simp only [AW7,simprocAttr,hX]) (hfin _ _ _ rfl rfl rfl ?_)
   exact⟨rfl,_,by rw [<- hE,rw2_app];simp [putR,rw2],hN3,rfl⟩
  intro hb
  have hb:b=true:=by simpa using hb
  subst hb
  refine Run.R ?_
  refine Run.kp [4] [0,1] ?_
  rw [hie,List.drop_length]at hE hN
  have e0:lb1 ([]:List (Nat×List Int))=[]:=rfl
  rw [e0,List.append_nil]at hN
  refine Run.retW [4] (by decide) (by rw [hfn];rfl) (by simp only [AW7,simprocAttr,hX];rfl) (by simp only [AW7,simprocAttr,hX]) (hfin _ _ _ rfl rfl rfl ?_)
  exact⟨rfl,zs,by rw [<- hE];simp [putR,rw2],hN,rfl⟩
 intro h
 have h:i < ys.length:=by rw [dtE]at h;omega
 have hyi:SmR (ys.getD i (0,[])).2:=hys _ (by unfold rw2;rw [getD_eq h];exact List.mem_map_of_mem (List.getElem_mem h))
 have hd:rw2 (ys.drop i)=(ys.getD i (0,[])).2 :: rw2 (ys.drop (i+1)):=by rw [drop_cons' ys h];rfl
 rw [hd]at hE
 simp only [putR]at hE
 have hN2:=lb_step h hN
 by_cases hlt:b=false/\befR w (ys.getD i (0,[])).2=true
 ·rw [if_pos hlt]at hE
  obtain⟨rfl,hl1⟩:=hlt
  refine Run.g fun K hK=>?_
  refine .inr ⟨rfl,?_⟩
  refine FunA.cW hP hT (c_spec_l7Before w (ys.getD i (0,[])).2 hw.2 hyi.2 hw.1 hyi.1) ?_
  rintro rs o ⟨rfl,rfl⟩
  rw [hl1]
  refine wF ?_;clear hK K
  refine Run.c ?_ ?_
  rotate_left
  ·intro h;cases h
  intro _
  refine Run.g fun K hK=>?_
  intro q hq
  have hN3:=lb_ins (w:=w) hN (hq (.arr .lrow zs 0 true) (.tail _ (.head _)) _ _ _ rfl) (hq (.arr .lrow ys 0 nn) (.head _) _ _ _ rfl)
  (repeat(with_reducible refine And.intro ?_ ?_);exact vc0)
  refine wE ?_;clear hK K
  refine Run.R ?_
  refine Run.R ?_
  have hN4:=lb_step h hN3
  refine Run.kp [0,1,5,6,7] [0,1] ?_
  refine Run.RW ?_
  exact Run.j (ih ((zs ++ [(q,w)] ++ [((ys.getD i (0,[])).1,(ys.getD i (0,[])).2)],true,i+1)) (⟨h,by simp only [lenA,lenC,lenN];omega,by rw [rw2_app,rw2_app,List.append_assoc,List.append_assoc,<- hE];simp [rw2],hN4⟩) mz)
 rw [if_neg hlt]at hE
 cases b with
 | true=>
  refine Run.g fun K hK=>?_
  refine .inl (CallG.off (.bool false) ?_)
  refine wF ?_;clear hK K
  refine Run.c ?_ ?_
  ·intro h;cases h
  intro _
  refine Run.R ?_
  refine Run.kp [0,1,5,6,7] [0,1] ?_
  refine Run.RW ?_
  exact Run.j (ih ((zs ++ [((ys.getD i (0,[])).1,(ys.getD i (0,[])).2)],true,i+1)) (⟨h,by simp;omega,by rw [rw2_app,List.append_assoc,<- hE];simp [rw2],hN2⟩) mz)
 | false=>
  have hl0:befR w (ys.getD i (0,[])).2=false:=by simpa using hlt
  refine Run.g fun K hK=>?_
  refine .inr ⟨rfl,?_⟩
  refine FunA.cW hP hT (c_spec_l7Before w (ys.getD i (0,[])).2 hw.2 hyi.2 hw.1 hyi.1) ?_
  rintro rs o ⟨rfl,rfl⟩
  rw [hl0]
  refine wF ?_;clear hK K
  refine Run.c ?_ ?_
  ·intro h;cases h
  intro _
  refine Run.R ?_
  refine Run.kp [0,1,5,6,7] [0,1] ?_
  refine Run.RW ?_
  exact Run.j (ih ((zs ++ [((ys.getD i (0,[])).1,(ys.getD i (0,[])).2)],false,i+1)) (⟨h,by simp;omega,by rw [rw2_app,List.append_assoc,<- hE];simp [rw2],hN2⟩) mz)
theorem c_impl_pairing_w (a r:LI) (hl:a.length=r.length):FunA B 120 [.sl false .int a,.sl false .int r] (fun rs o=>(∃ n,rs=[.int .i64 n])/\o=[]):=by
 refine wk Tryz.call120 Tryz.func120 rfl Tryz.ntmps120 fun C hC hP hT hfn hpin hfin hX=>wW ?_
 refine Run.len 1 rfl fun hlen=>?_
 refine Run.R ?_
 refine Run.R ?_
 refine Run.R ?_
 refine Run.loopI (X:=Nat×Int) (fun x=>⟨25,[(0,true,.v (.sl false .int a)),(1,true,.v (.sl false .int r)),(4,true,.v (.int .i64 0)),(5,true,.v (.int .i64 (x.2))),(8,true,.v (.sl false .int r)),(9,true,.v (.int .i64 (r.length))),(10,true,.v (.int .i64 (x.1)))],[]⟩) (fun x=>x.1<=r.length) (fun x=>r.length - x.1) ((0,0)) (nz0 _) ?_ ?_
 ·exact Le.s
 rintro⟨k,s⟩ hk ih
 try simp only []
 simp only at hk
 refine Run.R ?_
 refine Run.c ?_ ?_
 ·intro hc
  have hc:k < r.length:=by simpa using hc
  refine Run.R ?_
  refine Run.R ?_
  refine Run.RW ?_
  refine Run.le ?_ (ih (k+1,IntKind.i64.wrap (s+IntKind.i64.wrap (a.getD k 0*r.getD k 0))) (by simp only;omega) (by simp only;omega))
  exact Le.sub (by rfl) (by simp only [AW7,simprocAttr];try simp)
 ·intro hc
  have hc:k=r.length:=by simp at hc;omega
  subst hc
  refine Run.x ?_
  refine Run.R ?_
  refine Run.r [4] ?_
  exact⟨⟨_,rfl⟩,rfl⟩
theorem c_impl_mirrored_w (c:LL) (i:Int) (r:LI) (hi:0<=i/\i < c.length) (hl:r.length=c.length) (hrow:(c.getD i.toNat []).length=c.length) (hc4:c.length<=4) :
  FunA B 72 [.sl false (.row false) c,.int .i64 i,.sl false .int r] (fun rs o=>rs=[.own 0 0]/\∃ ys:List Int,ys.length=r.length/\o=[.arr .int ys 0 true]):=by
 refine wk Tryz.call72 Tryz.func72 rfl Tryz.ntmps72 fun C hC hP hT hfn hpin hfin hX=>wW ?_
 refine Run.R ?_
 refine Run.R ?_
 refine Run.k [0,1,2,6,7] [0] ?_
 refine Run.nq ?_;refine Run.regionD hC true [0,1,2,3,4,5,6,7,8,9,10,11,12] (by kernel_rfl) (fun K hK=>?_);simp only [AW7,simprocAttr,hX];(repeat(with_reducible refine And.intro ?_ ?_);exact vc0)
 refine FunA.callD hP hT (c_impl_pairing_w (c.getD i.toNat []) r om) (by simp only [AW7,simprocAttr]) ?_
 rintro rs o ⟨⟨n,rfl⟩,rfl⟩
 refine wF ?_;clear hK K
 refine Run.R ?_
 refine Run.k [6] [0] ?_
 refine Run.r [6] ?_
 exact⟨rfl,_,by simp,rfl⟩
def cmpR (a b:LI):Int:=if hgt a < hgt b then -1 else if hgt a > hgt b then 1 else cmpW b a
theorem gt_cmpN {a b:LI} (hl:a.length=b.length):∀(n i:Nat),i+n=a.length->(gtL (a.drop i) (b.drop i)=true↔cmpN b a n i < 0)
 | 0,i,h=>by rw [List.drop_of_length_le om,List.drop_of_length_le om];simp [gtL,cmpN]
 | n+1,i,h=>by
  have h1:i < a.length:=by omega
  have h2:i < b.length:=by omega
  have ih:=gt_cmpN hl n (i+1) om
  rw [List.drop_eq_getElem_cons h1,List.drop_eq_getElem_cons h2]
  unfold gtL cmpN
  rw [getD_eq h1,getD_eq h2]
  by_cases e:a[i]=b[i]
  ·rw [if_pos e,if_neg om,if_neg om];exact ih
  ·rw [if_neg e,dtE]
   split
   ·omega
   ·split<;>omega
theorem befR_cmp {a b:LI} (hl:a.length=b.length):befR a b=true↔cmpR a b < 0:=by
 unfold befR cmpR
 by_cases e:hgt a=hgt b
 ·rw [if_pos e,if_neg om,if_neg om]
  unfold cmpW
  rw [if_neg om,if_neg om,<- hl]
  exact gt_cmpN hl a.length 0 om
 ·rw [if_neg e,dtE]
  split
  ·omega
  ·split<;>omega
theorem cmpR_swo:Go.Sort.SWO (ltOf fun p q:List Int×List Int=>cmpR p.1 q.1):=by
 refine⟨fun x=>?_,fun x y z h1 h2=>?_,fun x y z h1 h2=>?_⟩
 ·have:cmpR x.1 x.1=0:=by unfold cmpR;rw [if_neg om,if_neg om,cmpW_self]
  unfold ltOf;rw [dfE];show ¬cmpR x.1 x.1 < 0;omega
 ·unfold ltOf at *
  rw [dtE]at *
  unfold cmpR at *
  dsimp only at h1 h2 ⊢
  split at h1
  ·split at h2
   ·rw [if_pos om];omega
   ·split at h2
    ·omega
    ·rw [if_pos om];omega
  ·split at h1
   ·omega
   ·split at h2
    ·rw [if_pos om];omega
    ·split at h2
     ·omega
     ·rw [if_neg om,if_neg om];exact cmpW_lt_trans h2 h1
 ·unfold ltOf at *
  rw [dfE]at *
  unfold cmpR at *
  dsimp only at h1 h2 ⊢
  split at h1
  ·omega
  ·split at h1
   ·split at h2
    ·omega
    ·split at h2
     ·rw [if_neg om,if_pos om];omega
     ·rw [if_neg om,if_pos om];omega
   ·split at h2
    ·omega
    ·split at h2
     ·rw [if_neg om,if_pos om];omega
     ·rw [if_neg om,if_neg om]
      have:=cmpW_ge_trans (p:=z.1) (q:=y.1) (r:=x.1) om om
      omega
theorem c_impl_compareRoots (a b:LI) (ha:Bnd 1000000000000000000 a) (hb:Bnd 1000000000000000000 b) (h4:a.length<=4) (hl:a.length=b.length) :
  FunA B 149 [.sl false .int a,.sl false .int b] (fun rs o=>rs=[.int .i64 (cmpR a b)]/\o=[]):=by
 refine wk Tryz.call149 Tryz.func149 rfl Tryz.ntmps149 fun C hC hP hT hfn hpin hfin hX=>wW ?_
 refine Run.R ?_
 refine Run.g fun K hK=>?_
 refine FunA.e hP hT (c_impl_HeightOf a ha h4) ?_
 refine FunA.e hP hT (c_impl_HeightOf b hb om) ?_
 refine FunA.e hP hT (c_cmpCompare (hgt a) (hgt b)) ?_
 refine FunA.cW hP hT (c_slicesCompare b a om) ?_
 rintro rs o ⟨⟨v,rfl,hv⟩,rfl⟩
 refine wW ?_
 refine FunA.e hP hT (c_cmpOr [cmpI (hgt a) (hgt b),v] (by simp)) ?_
 refine wE ?_;clear hK K
 have e:orL [cmpI (hgt a) (hgt b),v]=cmpR a b:=by
  have hv':v=cmpW b a:=by rw [hv om];unfold cmpW;rw [if_neg om,if_neg om]
  simp only [orL]
  unfold cmpI cmpR
  by_cases k1:hgt a < hgt b
  ·rw [if_pos k1,if_pos k1];rfl
  ·by_cases k2:hgt a > hgt b
   ·rw [if_neg k1,if_pos k2,if_neg k1,if_pos k2];rfl
   ·rw [if_neg k1,if_neg k2,if_neg k1,if_neg k2,if_pos rfl,<- hv']
    split
    ·rename_i h;exact h.symm
    ·rfl
 refine Run.k [4] [] ?_
 refine Run.r [4] ?_
 rw [e];exact⟨rfl,rfl⟩
def kR (r:LI):List Int:=r.take 4 ++ [0,0,0,0].drop r.length
def mlR (L:LL):List (MK×MV):=L.map fun r=>(MK.vec (kR r),MV.bool true)
theorem kR_inj {a b:LI} (h4:b.length<=4) (hl:a.length=b.length) (h:kR a=kR b):a=b:=by
 unfold kR at h
 rw [List.take_of_length_le om,List.take_of_length_le h4,hl]at h
 exact List.append_cancel_right h
theorem mlR_find {r:LI} (h4:r.length<=4):∀(L:LL) (i:Nat),(∀ z∈L,z.length=r.length)->(r∈L->∃ j,mfindI (mlR L) (.vec (kR r)) i=some (j,.bool true))/\(r∉L->mfindI (mlR L) (.vec (kR r)) i=none)
 | [],i,_=>⟨fun h=>by simp at h,fun _=>rfl⟩
 | z :: L,i,h=>by
  have ih:=mlR_find h4 L (i+1) fun y hy=>h y (mcM _ hy)
  show(_->∃ j,(if (MK.vec (kR r))=MK.vec (kR z)then some (i,MV.bool true)else mfindI (mlR L) (.vec (kR r)) (i+1))=_)/\(_->(if (MK.vec (kR r))=MK.vec (kR z)then some (i,MV.bool true)else mfindI (mlR L) (.vec (kR r)) (i+1))=none)
  by_cases e:r=z
  ·subst e
   rw [if_pos rfl]
   exact⟨fun _=>⟨i,rfl⟩,fun hn=>absurd (mcS ..) hn⟩
  ·have hne:¬MK.vec (kR r)=MK.vec (kR z):=fun hk=>e (kR_inj (by rw [h z (mcS ..)];exact h4) (h z (mcS ..)).symm (MK.vec.inj hk))
   rw [if_neg hne]
   refine⟨fun hm=>ih.1 ?_,fun hn=>ih.2 fun hm=>hn (mcM _ hm)⟩
   rcases List.mem_cons.1 hm with hm | hm
   ·exact absurd hm e
   ·exact hm
theorem mlR_get {r:LI} (h4:r.length<=4) {L:LL} (h:∀ z∈L,z.length=r.length):mgetB (mlR L) (.vec (kR r))=decide (r∈L):=by
 unfold mgetB mfind
 by_cases hm:r∈L
 ·obtain⟨j,e⟩:=(mlR_find h4 L 0 h).1 hm
  rw [e,decide_eq_true hm];rfl
 ·rw [(mlR_find h4 L 0 h).2 hm,decide_eq_false hm];rfl
theorem mlR_put {r:LI} (h4:r.length<=4) {L:LL} (h:∀ z∈L,z.length=r.length) (hm:r∉L):mput (mlR L) (.vec (kR r)) (.bool true)=mlR (L ++ [r]):=by
 unfold mput
 rw [(mlR_find h4 L 0 h).2 hm]
 simp [mlR]
def addX (H:Int) (xs:List (List Int×List Int)) (p:List Int×List Int):List (List Int×List Int):=if p.1∉xs.map (·.1)/\sgnR p.1=1/\hgt p.1<=H then xs ++ [p]else xs
theorem gtL_irr:∀ a:List Int,gtL a a=false
 | []=>rfl
 | x :: a=>by unfold gtL;rw [if_pos rfl];exact gtL_irr a
theorem gtL_trans:∀ {a b d:LI},gtL a b=true->gtL b d=true->gtL a d=true
 | [],_,_,h,_=>by unfold gtL at h;cases h
 | x :: a,[],_,h,_=>by unfold gtL at h;cases h
 | x :: a,y :: b,[],_,h=>by unfold gtL at h;cases h
 | x :: a,y :: b,z :: d,h1,h2=>by
  unfold gtL at h1 h2 ⊢
  by_cases e1:x=y
  ·subst e1
   rw [if_pos rfl]at h1
   by_cases e2:x=z
   ·subst e2;rw [if_pos rfl]at h2 ⊢;exact gtL_trans h1 h2
   ·rw [if_neg e2]at h2 ⊢;exact h2
  ·rw [if_neg e1]at h1
   by_cases e2:y=z
   ·subst e2;rw [if_neg e1];exact h1
   ·rw [if_neg e2]at h2
    rw [dtE]at h1 h2
    rw [if_neg om,dtE];omega
theorem gtL_total:∀ {a b:LI},a.length=b.length->a≠b->gtL a b=true\/gtL b a=true
 | [],[],_,h=>absurd rfl h
 | [],y :: b,h,_=>by simp at h
 | x :: a,[],h,_=>by simp at h
 | x :: a,y :: b,hl,h=>by
  unfold gtL
  by_cases e:x=y
  ·subst e
   rw [if_pos rfl,if_pos rfl]
   exact gtL_total (by simpa using hl) (fun e=>h (by rw [e]))
  ·rw [if_neg e,if_neg (Ne.symm e),dtE,dtE];omega
theorem befR_irr (a:LI):befR a a=false:=by unfold befR;rw [if_pos rfl];exact gtL_irr a
theorem befR_trans {a b d:LI} (h1:befR a b=true) (h2:befR b d=true):befR a d=true:=by
 unfold befR at h1 h2 ⊢
 by_cases e1:hgt a=hgt b
 ·rw [if_pos e1]at h1
  by_cases e2:hgt b=hgt d
  ·rw [if_pos e2]at h2;rw [if_pos (e1.trans e2)];exact gtL_trans h1 h2
  ·rw [if_neg e2]at h2;rw [if_neg om,e1];exact h2
 ·rw [if_neg e1]at h1
  rw [dtE]at h1
  by_cases e2:hgt b=hgt d
  ·rw [if_neg om,dtE];omega
  ·rw [if_neg e2,dtE]at h2
   rw [if_neg om,dtE];omega
theorem befR_total {a b:LI} (hl:a.length=b.length) (h:a≠b):befR a b=true\/befR b a=true:=by
 unfold befR
 by_cases e:hgt a=hgt b
 ·rw [if_pos e,if_pos e.symm];exact gtL_total hl h
 ·rw [if_neg e,if_neg (Ne.symm e),dtE,dtE];omega
def StrR (l:LL):Prop:=l.Pairwise fun p q=>befR p q=true
theorem strR_ext:∀ {a b:LL},StrR a->StrR b->(∀ x,x∈a↔x∈b)->a=b
 | [],[],_,_,_=>rfl
 | [],y :: b,_,_,h=>absurd ((h y).2 (mcS ..)) (by simp)
 | x :: a,[],_,_,h=>absurd ((h x).1 (mcS ..)) (by simp)
 | x :: a,y :: b,ha,hb,h=>by
  obtain⟨a1,a2⟩:=List.pairwise_cons.1 ha
  obtain⟨b1,b2⟩:=List.pairwise_cons.1 hb
  have hxy:x=y:=by
   rcases List.mem_cons.1 ((h x).1 (mcS ..))with e | e
   ·exact e
   ·rcases List.mem_cons.1 ((h y).2 (mcS ..))with e2 | e2
    ·exact e2.symm
    ·have:=befR_trans (b1 x e) (a1 y e2)
     rw [befR_irr]at this;cases this
  subst hxy
  have hx:∀ {l:LL},(∀ z∈l,befR x z=true)->x∉l:=fun h hm=>by have:=h x hm;rw [befR_irr]at this;cases this
  rw [strR_ext a2 b2 fun z=>?_]
  constructor
  ·intro hz
   rcases List.mem_cons.1 ((h z).1 (mcM _ hz))with e | e
   ·subst e;exact absurd hz (hx a1)
   ·exact e
  ·intro hz
   rcases List.mem_cons.1 ((h z).2 (mcM _ hz))with e | e
   ·subst e;exact absurd hz (hx b1)
   ·exact e
theorem strR_nodup {l:LL} (h:StrR l):l.Nodup:=List.Pairwise.imp (fun {a b} h e=>by rw [e,befR_irr]at h;cases h) h
theorem putR_mem (w:LI) (l:LL) (x:LI):x∈putR w false l↔x=w\/x∈l:=by
 rw [(putR_perm w l).mem_iff,List.mem_cons]
theorem putR_str {w:LI} {n:Nat} (hw:w.length=n):∀ {l:LL},StrR l->w∉l->(∀ x∈l,x.length=n)->StrR (putR w false l)
 | [],_,_,_=>by unfold StrR;simp [putR]
 | x :: l,h,hn,hl=>by
  obtain⟨h1,h2⟩:=List.pairwise_cons.1 h
  simp only [putR]
  split
  ·rename_i hb
   rw [putR_true]
   exact List.pairwise_cons.2 ⟨fun z hz=>by
    rcases List.mem_cons.1 hz with rfl | hz
    ·exact hb.2
    ·exact befR_trans hb.2 (h1 z hz),h⟩
  ·rename_i hb
   have hxw:befR x w=true:=by
    rcases befR_total (a:=x) (b:=w) (by rw [hl x (mcS ..),hw]) (fun e=>hn (by rw [e];exact mcS ..))with h3 | h3
    ·exact h3
    ·exact absurd (by simp [h3]) hb
   refine List.pairwise_cons.2 ⟨fun z hz=>?_,putR_str hw h2 (fun hm=>hn (mcM _ hm)) (fun z hz=>hl z (mcM _ hz))⟩
   rcases(putR_mem w l z).1 hz with rfl | hz
   ·exact hxw
   ·exact h1 z hz
theorem putR_keep {w:LI}:∀ {l:LL} {k:Nat},k < l.length->(∀ j,j<=k->befR w (l.getD j [])=false)->∀ j,j<=k->(putR w false l).getD j []=l.getD j []
 | [],k,hk,_,_,_=>by simp at hk
 | x :: l,k,hk,h,j,hj=>by
  have h0:=h 0 om
  simp only [List.getD_cons_zero]at h0
  simp only [putR]
  rw [if_neg (by rw [h0];simp)]
  match j,k,hk,h,hj with
  | 0,_,_,_,_=>rfl
  | j+1,k+1,hk,h,hj=>
   simp only [List.getD_cons_succ]
   exact putR_keep (k:=k) (by simpa using hk) (fun i hi=>by have:=h (i+1) om;simpa using this) j om
inductive RS (c:LL) (h:Int):List Int->Prop
 | sim (i:Nat):i < c.length->RS c h (simL c.length i)
 | up (r:LI) (i:Nat):RS c h r->i < c.length->sgnR (mirL c i r)=1->hgt (mirL c i r)<=h->hgt r < hgt (mirL c i r)->RS c h (mirL c i r)
theorem hgt_sum:∀(r:LI),(∀ x∈r,0<=x)->∀ x∈r,x<=hgt r
 | [],_,x,hx=>by cases hx
 | y :: r,h,x,hx=>by
  have h0:=h y (mcS ..)
  have hr:∀ z∈r,0<=z:=fun z hz=>h z (mcM _ hz)
  have hn:∀(r:LI),(∀ x∈r,0<=x)->0<=hgt r:=by
   intro r
   induction r with
   | nil=>intro _;exact Int.le_refl 0
   | cons z r ih=>
    intro h
    have:=ih fun x hx=>h x (mcM _ hx)
    have:=h z (mcS ..)
    show 0<=z+hgt r
    omega
  show x<=y+hgt r
  rcases List.mem_cons.1 hx with rfl | hx
  ·have:=hn r hr;omega
  ·have:=hgt_sum r hr x hx;omega
theorem sgn_nn {r:LI} (h:sgnR r=1):∀ x∈r,0<=x:=by
 intro x hx
 have h1:=(sgnR_one.1 h).2
 unfold negA at h1
 rw [List.any_eq_false]at h1
 have:=h1 x hx
 simpa using this
theorem sim_nn (n i:Nat):∀ x∈simL n i,0<=x:=fun x hx=>by
 unfold simL at hx
 rcases List.mem_or_eq_of_mem_set hx with hx | rfl
 ·rw [(List.mem_replicate.1 hx).2];decide
 ·decide
theorem RS.len {c:LL} {h:Int} {r:LI} (k:RS c h r):r.length=c.length:=by
 induction k with
 | sim i hi=>exact simL_len _ _
 | up r i _ _ _ _ _ ih=>rw [mir_len];exact ih
theorem RS.nn {c:LL} {h:Int} {r:LI} (k:RS c h r):∀ x∈r,0<=x:=by
 cases k with
 | sim i hi=>exact sim_nn _ _
 | up r i _ _ hs _ _=>exact sgn_nn hs
theorem RS.hle {c:LL} {h:Int} (h1:1<=h) {r:LI} (k:RS c h r):hgt r<=h:=by
 cases k with
 | sim i hi=>rw [hgt_sim _ _ hi];exact h1
 | up r i _ _ _ hh _=>exact hh
theorem RS.box {c:LL} {h:Int} (h1:1<=h) {r:LI} (k:RS c h r):∀ x∈r,0<=x/\x<=h:=fun x hx=>⟨k.nn x hx,by have:=hgt_sum r k.nn x hx;have:=k.hle h1;omega⟩
def enc13:List Int->Nat
 | []=>0
 | x :: l=>x.toNat+13*enc13 l
theorem enc13_inj:∀ {a b:LI},a.length=b.length->(∀ x∈a,0<=x/\x<=12)->(∀ x∈b,0<=x/\x<=12)->enc13 a=enc13 b->a=b
 | [],[],_,_,_,_=>rfl
 | [],_ :: _,h,_,_,_=>by simp at h
 | _ :: _,[],h,_,_,_=>by simp at h
 | x :: a,y :: b,hl,ha,hb,h=>by
  have h1:=ha x (mcS ..)
  have h2:=hb y (mcS ..)
  simp only [enc13]at h
  rw [enc13_inj (a:=a) (b:=b) (by simpa using hl) (fun z hz=>ha z (mcM _ hz)) (fun z hz=>hb z (mcM _ hz)) om,show x=y by omega]
theorem enc13_lt:∀ {a:LI},(∀ x∈a,0<=x/\x<=12)->enc13 a < 13 ^ a.length
 | [],_=>by simp [enc13]
 | x :: a,h=>by
  have h1:=h x (mcS ..)
  have ih:=enc13_lt (a:=a) fun z hz=>h z (mcM _ hz)
  simp only [enc13,lenC,Nat.pow_succ]
  omega
theorem box_count {n:Nat} (hn:n<=4) {l:LL} (hd:l.Nodup) (h:∀ r∈l,r.length=n/\∀ x∈r,0<=x/\x<=12):l.length<=28561:=by
 have h1:(l.map enc13).Nodup:=nodup_on _ (fun a ha b hb e=>enc13_inj (by rw [(h a ha).1,(h b hb).1]) (h a ha).2 (h b hb).2 e) hd
 have h2:=nodup_le h1 (b:=List.range 28561) fun x hx=>by
  obtain⟨r,hr,rfl⟩:=List.mem_map.1 hx
  have:=enc13_lt (h r hr).2
  rw [(h r hr).1]at this
  have:13 ^ n<=13 ^ 4:=Nat.pow_le_pow_right (by decide) hn
  exact List.mem_range.2 om
 simpa using h2
def lin (a:Int) (x:LI) (b:Int) (y:LI):List Int:=List.zipWith (fun p q=>a*p - b*q) x y
def rowS (M:LL) (r c k:Nat):List Int:=lin ((M.getD r []).getD c 0) (M.getD k []) ((M.getD k []).getD c 0) (M.getD r [])
def rowI (M:LL) (r c k:Nat):List Int:=if (M.getD k []).getD c 0=0 then M.getD k []else rowS M r c k
def elim (g:List (List Int)->Nat->List Int):Nat->Nat->List (List Int)->List (List Int)
 | 0,_,M=>M
 | f+1,k,M=>elim g f (k+1) (M.set k (g M k))
def pvt (M:LL) (c:Nat):Nat->Nat->Nat
 | 0,k=>k
 | f+1,k=>if (M.getD k []).getD c 0=0 then pvt M c f (k+1)else k
def swp (M:LL) (r a:Nat):List (List Int):=(M.set r (M.getD a [])).set a (M.getD r [])
def rkG (g:List (List Int)->Nat->Nat->Nat->List Int):Nat->List (List Int)->Nat->Nat->Nat
 | 0,_,r,_=>r
 | f+1,M,r,c=>if pvt M c (M.length - r) r=M.length then rkG g f M r (c+1) else
   rkG g f (elim (fun N k=>g N r c k) (M.length - (r+1)) (r+1) (swp M r (pvt M c (M.length - r) r))) (r+1) (c+1)
theorem lin_len (a:Int) (x:LI) (b:Int) (y:LI):(lin a x b y).length=min x.length y.length:=by simp [lin]
theorem lin_get (a:Int) (x:LI) (b:Int) (y:LI) {j:Nat} (h:j < x.length) (h2:j < y.length):(lin a x b y).getD j 0=a*x.getD j 0 - b*y.getD j 0:=by
 simp [lin,List.getD,List.getElem?_zipWith,geE h,geE h2]
theorem getD_out {x:LI} {j:Nat} (h:x.length<=j):x.getD j 0=0:=by simp [List.getD,geN h]
theorem mul_bnd {b p q:Int} (hp:-b<=p/\p<=b) (hq:-b<=q/\q<=b):-(b*b)<=p*q/\p*q<=b*b:=by
 have h:(p*q).natAbs<=(b*b).natAbs:=by
  rw [Int.natAbs_mul,Int.natAbs_mul]
  exact Nat.mul_le_mul om om
 have h0:0<=b*b:=Int.mul_nonneg om om
 omega
theorem lin_bnd {b m:Int} {x y:LI} {p q:Int} (hm:2*(b*b)<=m) (hb:0<=b) (hx:Bnd b x) (hy:Bnd b y) (hp:-b<=p/\p<=b) (hq:-b<=q/\q<=b):Bnd m (lin p x q y):=by
 intro z hz
 unfold lin at hz
 rw [List.mem_iff_getElem]at hz
 obtain⟨i,hi,rfl⟩:=hz
 rw [List.getElem_zipWith]
 simp only [List.length_zipWith]at hi
 have h1:=hx _ (List.getElem_mem (l:=x) (n:=i) om)
 have h2:=hy _ (List.getElem_mem (l:=y) (n:=i) om)
 have e1:=mul_bnd hp h1
 have e2:=mul_bnd hq h2
 omega
theorem pvt_ge (M:LL) (c:Nat):∀ f k,k<=pvt M c f k/\pvt M c f k<=k+f
 | 0,k=>by simp [pvt]
 | f+1,k=>by
  simp only [pvt]
  split
  ·have:=pvt_ge M c f (k+1);omega
  ·omega
theorem pvt_ne (M:LL) (c:Nat):∀ f k,pvt M c f k < k+f->(M.getD (pvt M c f k) []).getD c 0≠0
 | 0,k,h=>by simp [pvt]at h
 | f+1,k,h=>by
  simp only [pvt]at h ⊢
  split at h
  ·rename_i h0;rw [if_pos h0];exact pvt_ne M c f (k+1) om
  ·rename_i h0;rw [if_neg h0];exact h0
theorem swp_len (M:LL) (r a:Nat):(swp M r a).length=M.length:=by simp [swp]
theorem swp_get (M:LL) {r a:Nat} (hr:r < M.length) (ha:a < M.length) (k:Nat):(swp M r a).getD k []=if k=a then M.getD r []else if k=r then M.getD a []else M.getD k []:=by
 simp only [swp,List.getD,List.getElem?_set,List.length_set]
 by_cases h1:a=k
 ·subst h1;simp [ha]
 ·rw [if_neg h1,if_neg (Ne.symm h1)]
  by_cases h2:r=k
  ·subst h2;simp [hr]
  ·rw [if_neg h2,if_neg (Ne.symm h2)]
theorem swp_comm (M:LL) {r a:Nat} (hr:r < M.length) (ha:a < M.length):(M.set a (M.getD r [])).set r (M.getD a [])=swp M r a:=by
 by_cases h:r=a
 ·subst h;rfl
 ·unfold swp;rw [List.set_comm _ _ (Ne.symm h)]
def OKM (n:Nat) (b:Int) (M:LL):Prop:=M.length=n/\∀ k,k < n->(M.getD k []).length=n/\Bnd b (M.getD k [])
def beta:Nat->Int
 | 0=>8
 | 1=>128
 | 2=>32768
 | _=>2147483648
theorem beta_pos (r:Nat):8<=beta r/\beta r<=2147483648:=by
 match r with
 | 0=>decide
 | 1=>decide
 | 2=>decide
 | n+3=>simp [beta]
theorem beta_up (r:Nat):beta r<=beta (r+1):=by
 match r with
 | 0=>decide
 | 1=>decide
 | 2=>decide
 | n+3=>simp [beta]
theorem beta_sq {r:Nat} (h:r<=2):2*(beta r*beta r)<=beta (r+1):=by
 match r,h with
 | 0,_=>decide
 | 1,_=>decide
 | 2,_=>decide
theorem Bnd.mono {a b:Int} (h:a<=b) {x:LI} (hx:Bnd a x):Bnd b x:=fun y hy=>by have:=hx y hy;omega
theorem Bnd.at' {b:Int} (hb:0<=b) {x:LI} (hx:Bnd b x) (j:Nat):-b<=x.getD j 0/\x.getD j 0<=b:=by
 by_cases h:j < x.length
 ·rw [getD_eq h];exact hx _ (List.getElem_mem h)
 ·rw [getD_out om];omega
def Mid (n r k:Nat) (M:LL):Prop:=OKM n (beta (r+1)) M/\∀ j,j < n->(j<=r\/k<=j)->Bnd (beta r) (M.getD j [])
theorem Mid.start {n r:Nat} {M:LL} (h:OKM n (beta r) M) (k:Nat):Mid n r k M:=
 ⟨⟨h.1,fun k hk=>⟨(h.2 k hk).1,(h.2 k hk).2.mono (beta_up r)⟩⟩,fun j hj _=>(h.2 j hj).2⟩
theorem set_get (M:LL) (k j:Nat) (x:LI) (hk:k < M.length):(M.set k x).getD j []=if j=k then x else M.getD j []:=by
 simp only [List.getD,List.getElem?_set]
 by_cases h:k=j
 ·subst h;simp [hk]
 ·rw [if_neg h,if_neg (Ne.symm h)]
theorem Mid.row {n r k c:Nat} {M:LL} (h:Mid n r k M) (hk:k < n) (hr:r < k) (hn:n<=4):(rowS M r c k).length=n/\Bnd (beta (r+1)) (rowS M r c k):=by
 obtain⟨⟨h1,h2⟩,h3⟩:=h
 refine⟨by unfold rowS;rw [lin_len,(h2 k hk).1,(h2 r om).1];omega,?_⟩
 have b0:=beta_pos r
 have b1:=h3 k hk (.inr (Nat.le_refl _))
 have b2:=h3 r om (.inl (Nat.le_refl _))
 exact lin_bnd (beta_sq om) om b1 b2 (b2.at' om c) (b1.at' om c)
theorem Mid.put {n r k:Nat} {M:LL} {x:LI} (h:Mid n r k M) (hk:k < n) (hr:r < k) (hx:x.length=n/\Bnd (beta (r+1)) x):Mid n r (k+1) (M.set k x):=by
 obtain⟨⟨h1,h2⟩,h3⟩:=h
 refine⟨⟨by simp [h1],fun j hj=>?_⟩,fun j hj hjk=>?_⟩
 ·rw [set_get _ _ _ _ om]
  split
  ·exact hx
  ·exact h2 j hj
 ·rw [set_get _ _ _ _ om,if_neg om]
  exact h3 j hj om
theorem OKM.swp {n r a:Nat} {b:Int} {M:LL} (h:OKM n b M) (hr:r < n) (ha:a < n):OKM n b (swp M r a):=by
 obtain⟨h1,h2⟩:=h
 refine⟨by rw [swp_len,h1],fun k hk=>?_⟩
 rw [swp_get M om om]
 split
 ·exact h2 r hr
 ·split
  ·exact h2 a ha
  ·exact h2 k hk
def MulM (n:Nat) (M N:LL):Prop:=N.length=M.length/\∀ k,k < M.length->(M.getD k []).length=n/\(N.getD k []).length=n/\∃ l:Int,l≠0/\∀ j,(N.getD k []).getD j 0=l*(M.getD k []).getD j 0
theorem MulM.zero {n:Nat} {M N:LL} (h:MulM n M N) {k:Nat} (hk:k < M.length) (c:Nat):(N.getD k []).getD c 0=0↔(M.getD k []).getD c 0=0:=by
 obtain⟨_,_,l,hl,h2⟩:=h.2 k hk
 rw [h2 c,Int.mul_eq_zero]
 simp [hl]
theorem MulM.pvt {n:Nat} {M N:LL} (h:MulM n M N) (c:Nat):∀ f k,k+f<=M.length->pvt N c f k=pvt M c f k
 | 0,k,_=>rfl
 | f+1,k,hk=>by
  have:=h.zero (k:=k) om c
  simp only [Go.Proofs.YtcinngodeoidnaaGreat.pvt]
  by_cases h0:(M.getD k []).getD c 0=0
  ·rw [if_pos h0,if_pos (this.2 h0)];exact h.pvt c f (k+1) om
  ·rw [if_neg h0,if_neg (fun q=>h0 (this.1 q))]
theorem MulM.swp {n:Nat} {M N:LL} (h:MulM n M N) {r a:Nat} (hr:r < M.length) (ha:a < M.length):MulM n (swp M r a) (swp N r a):=by
 have hl:=h.1
 refine⟨by rw [swp_len,swp_len,hl],fun k hk=>?_⟩
 rw [swp_len]at hk
 rw [swp_get M hr ha,swp_get N om om]
 split
 ·exact h.2 r hr
 ·split
  ·exact h.2 a ha
  ·exact h.2 k hk
theorem MulM.put {n:Nat} {M N:LL} (h:MulM n M N) {r c k:Nat} (hr:r < k) (hk:k < M.length) (hp:(M.getD r []).getD c 0≠0):MulM n (M.set k (rowI M r c k)) (N.set k (rowS N r c k)):=by
 have hl:=h.1
 obtain⟨a1,a2,l,hl0,a3⟩:=h.2 k hk
 obtain⟨b1,b2,m,hm0,b3⟩:=h.2 r om
 refine⟨by simp [hl],fun j hj=>?_⟩
 simp only [List.length_set]at hj
 rw [set_get _ _ _ _ hk,set_get _ _ _ _ om]
 by_cases hjk:j=k
 ·rw [if_pos hjk,if_pos hjk]
  have hS:(rowS N r c k).length=n:=by unfold rowS;rw [lin_len,a2,b2];omega
  have gS:∀ j,j < n->(rowS N r c k).getD j 0=(N.getD r []).getD c 0*(N.getD k []).getD j 0 - (N.getD k []).getD c 0*(N.getD r []).getD j 0:=fun j hj=>by
   unfold rowS;rw [lin_get _ _ _ _ om om]
  unfold rowI
  by_cases h0:(M.getD k []).getD c 0=0
  ·rw [if_pos h0]
   refine⟨a1,hS,m*(M.getD r []).getD c 0*l,?_,fun j=>?_⟩
   ·exact Int.mul_ne_zero (Int.mul_ne_zero hm0 hp) hl0
   ·by_cases hj:j < n
    ·rw [gS j hj,a3 c,h0,a3 j,b3 c,Int.mul_zero,Int.zero_mul,Int.sub_zero];simp only [Int.mul_assoc]
    ·rw [getD_out (x:=rowS N r c k) om,getD_out (x:=M.getD k []) om,Int.mul_zero]
  ·rw [if_neg h0]
   have hM:(rowS M r c k).length=n:=by unfold rowS;rw [lin_len,a1,b1];omega
   refine⟨hM,hS,m*l,Int.mul_ne_zero hm0 hl0,fun j=>?_⟩
   by_cases hj:j < n
   ·rw [gS j hj,a3 c,a3 j,b3 c,b3 j]
    unfold rowS
    rw [lin_get _ _ _ _ om om,Int.mul_sub]
    congr 1
    ·rw [Int.mul_assoc,Int.mul_left_comm ((M.getD r []).getD c 0),Int.mul_assoc]
    ·rw [Int.mul_comm m l,Int.mul_assoc l m,Int.mul_assoc l,Int.mul_left_comm m]
   ·rw [getD_out (x:=rowS N r c k) om,getD_out (x:=rowS M r c k) om,Int.mul_zero]
 ·rw [if_neg hjk,if_neg hjk];exact h.2 j hj
theorem MulM.elim {n r c:Nat}:∀(f k:Nat) {M N:LL},MulM n M N->r < k->k+f<=M.length->(M.getD r []).getD c 0≠0->MulM n (elim (fun N k=>rowI N r c k) f k M) (elim (fun N k=>rowS N r c k) f k N)
 | 0,k,M,N,h,_,_,_=>h
 | f+1,k,M,N,h,hr,hk,hp=>by
  simp only [Go.Proofs.YtcinngodeoidnaaGreat.elim]
  refine MulM.elim f (k+1) (h.put hr om hp) om (by simp;omega) ?_
  rw [set_get _ _ _ _ om,if_neg om]
  exact hp
theorem elim_len (g:List (List Int)->Nat->List Int):∀(f k:Nat) (M:LL),(elim g f k M).length=M.length
 | 0,k,M=>rfl
 | f+1,k,M=>by simp only [elim];rw [elim_len g f];simp
theorem rk_same {n:Nat}:∀(f:Nat) {M N:LL} {r c:Nat},MulM n M N->r<=M.length->rkG rowS f N r c=rkG rowI f M r c
 | 0,M,N,r,c,h,_=>rfl
 | f+1,M,N,r,c,h,hr=>by
  have hl:=h.1
  simp only [rkG]
  have hp:=h.pvt c (M.length - r) r om
  rw [hl,hp]
  have hg:=pvt_ge M c (M.length - r) r
  by_cases h0:pvt M c (M.length - r) r=M.length
  ·rw [if_pos h0,if_pos h0];exact rk_same f h hr
  ·rw [if_neg h0,if_neg h0]
   have hlt:pvt M c (M.length - r) r < M.length:=by omega
   have hsw:=h.swp (r:=r) (a:=pvt M c (M.length - r) r) om hlt
   refine rk_same f (MulM.elim _ _ hsw om (by rw [swp_len];omega) ?_) (by rw [elim_len,swp_len];omega)
   rw [swp_get M om hlt]
   have hne:=pvt_ne M c (M.length - r) r om
   split
   ·rename_i e;rw [<- e]at hne;exact hne
   ·rw [if_pos rfl];exact hne
theorem MulM.refl {n:Nat} {b:Int} {M:LL} (h:OKM n b M):MulM n M M:=
 ⟨rfl,fun k hk=>⟨(h.2 k (by rw [<- h.1];exact hk)).1,(h.2 k (by rw [<- h.1];exact hk)).1,1,by decide,fun j=>by rw [Int.one_mul]⟩⟩
theorem rkG_top (g:List (List Int)->Nat->Nat->Nat->List Int):∀(f:Nat) (M:LL) (c:Nat),rkG g f M M.length c=M.length
 | 0,_,_=>rfl
 | f+1,M,c=>by
  simp only [rkG]
  have:=pvt_ge M c (M.length - M.length) M.length
  rw [if_pos om]
  exact rkG_top g f M (c+1)
end Go.Proofs.YtcinngodeoidnaaGreat
