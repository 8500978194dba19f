/- The table of left products: the program's side. -/
import Derived.Test.YtcinngodeoidnaaGreatDoorB21
import Derived.Test.YtcinngodeoidnaaGreatDoorB17
set_option linter.unusedVariables false
set_option linter.unusedSimpArgs false
namespace Go.Proofs.YtcinngodeoidnaaGreatDoor
open Go Go.Aw Go.Cox
def Plc (l:LL) (k:Nat) (m:List (MK×MV)):Prop:=∀ j,j < k->mgetI m (.str (fmtW (l.getD j [])))=j
theorem Plc.put {l:LL} (hl:∀ r∈l,letters 4 r) (hn:l.Nodup) {k:Nat} (hk:k < l.length) {m:List (MK×MV)} (h:Plc l k m):Plc l (k+1) (mput m (.str (fmtW (l.getD k []))) (.int k)):=by
 intro j hj
 rw [mgetI_put]
 by_cases e:j=k
 ·rw [e,if_pos rfl]
 ·have h1:l.getD j []=l[j]:=by simp [gdE,show j < l.length by omega]
  have h2:l.getD k []=l[k]:=by simp [gdE,hk]
  rw [if_neg,h j om]
  intro e2
  injection e2 with e2
  rw [h1,h2]at e2
  have e3:=fmtW_inj (hl _ (List.getElem_mem (show j < l.length by omega))) (hl _ (List.getElem_mem hk)) e2
  have hp:=List.nodup_iff_pairwise_ne.1 hn
  rw [List.pairwise_iff_getElem]at hp
  exact hp j k om hk om e3
theorem Plc.at {l:LL} {m:List (MK×MV)} (hn:l.Nodup) (h:Plc l l.length m) {w:LI} (hw:w∈l):mgetI m (.str (fmtW w))=ixL l w:=by
 have hlt:=List.idxOf_lt_length_of_mem hw
 have hg:l[l.idxOf w]=w:=List.getElem_idxOf hlt
 have:=h _ hlt
 rw [gdE,geE hlt,Option.getD_some,hg]at this
 rw [this]
 unfold ixL
 rw [if_pos hw]
theorem c_impl_places (l:LL) (hl:∀ r∈l,letters 4 r/\r.length<=100) (hn:l.Nodup) (hll:l.length<=1048576):FunA B 98 [.sl false (.row false) l] (fun rs o=>rs=[.own 0 0]/\∃ m,Plc l l.length m/\o=[.mp ⟨false,true⟩ m 0]):=by
 refine wk Tryz.call98 Tryz.func98 rfl Tryz.ntmps98 fun C hC hP hT hfn hpin hfin hX=>wW ?_
 refine Run.R ?_
 refine Run.R ?_
 refine Run.R ?_
 refine Run.k [0,2,3,7,8,9] [0] ?_
 refine Run.loopI (X:=Nat×List (MK×MV)) (fun x=>⟨20,[(0,true,.v (.sl false (.row false) l)),(3,true,.v (.own 0 0)),(7,true,.v (.sl false (.row false) l)),(8,true,.v (.int .i64 ((l.length:Nat)))),(9,true,.v (.int .i64 (x.1)))],[.mp ⟨false,true⟩ x.2 0]⟩) (fun x=>x.1<=l.length/\Plc l x.1 x.2) (fun x=>l.length - x.1) ((0,[])) (⟨nz0 _,fun j hj=>by omega⟩) ?_ ?_
 ·exact Le.s
 rintro⟨k,m⟩ ⟨hk,hPl⟩ ih
 try simp only []
 simp only []at hk hPl
 refine Run.R ?_
 refine Run.c ?_ ?_
 rotate_left
 ·intro h
  have h:k=l.length:=by rw [dfE]at h;omega
  subst h
  refine Run.x ?_
  refine Run.R ?_
  refine Run.k [2] [0] ?_
  refine Run.r [2] ?_
  exact⟨rfl,m,hPl,rfl⟩
 intro h
 have h:k < l.length:=by rw [dtE]at h;omega
 obtain⟨h1,h2⟩:=hl _ (show l.getD k []∈l by rw [gdE,geE h];exact List.getElem_mem _)
 have hP2:=hPl.put (fun r hr=>(hl r hr).1) hn h
 refine Run.R ?_
 refine Run.g fun K hK=>?_
 refine FunA.e hP hT (c_impl_FormatWord (l.getD k []) h1 om) ?_
 refine wE ?_;clear hK K
 refine Run.RW ?_
 refine Run.k [0,3,7,8,9] [0] ?_
 exact Run.j (ih ((k+1,mput m (.str (fmtW (l.getD k []))) (.int k))) (⟨h,hP2⟩) mz)
theorem elsB_mono {c:LL} {n m:Int} (h:elsB c n=true) (hnm:n<=m):elsB c m=true:=by
 unfold elsB at h ⊢
 rw [bAnd,dtE]at h ⊢
 exact⟨h.1,by omega⟩
theorem c_impl_few0 (c:LL) (he:elsB c 48=false):FunA BJ 88 [.sl false (.row false) c,.int .i64 48] (fun rs o=>rs=[.nils,.bool false]/\o=[]):=by
 refine FunA.walk BJ_ok (fn:=Tryz.f88) (fun vs w=>Tryz.call88 vs w) Tryz.func88 rfl (by rw [Tryz.ntmps88];simp) (fun C hC hP hT hΓ hbt hfn hpin hfin=>?_);haveI hDJ:DrLe BJ C:=⟨fun h=>by rw [hbt.2.2.2]at h;cases h⟩;have hPJ:=hP;have hTJ:=hT;replace hP:B.P=C.P:=hP;replace hT:B.tid=C.tid:=hT;have hX:=BXJ;rw [<- hΓ,<- hbt.1,<- hbt.2.1,<- hbt.2.2.1]at hX;rw [hTJ]at hX;rw [Tryz.ntmps88];simp only [AW7,simprocAttr,hX]
 refine Run.R ?_
 refine Run.g fun K hK=>?_
 refine FunA.e hP hT (c_impl_IsFinite c) ?_
 refine .inl (FunA.callG hPJ hTJ (c_impl_SizeOf c) (fun _=>rfl) (fun _=>by simp only [AW7,simprocAttr]) ?_)
 refine wF ?_;clear hK K
 refine Run.c ?_ ?_
 ·intro _
  refine Run.R ?_
  refine Run.r [4,5] ?_
  exact⟨rfl,rfl⟩
 intro h
 exfalso
 unfold elsB at he
 cases hf:isF c
 ·rw [hf]at h;cases h
 ·rw [hf]at h he
  have h:decide (48 < sizeE c)=false:=h
  rw [dfE]at h
  simp at he
  omega
theorem c_impl_few1 (c:LL) (he:elsB c 48=true):FunA BJ 88 [.sl false (.row false) c,.int .i64 48] (fun rs o=>∃ ys,(rw2 ys=allL c/\(lb1 ys).Nodup)/\rs=[.sl true .lrow ys,.bool true]/\o=[]):=by
 refine FunA.walk BJ_ok (fn:=Tryz.f88) (fun vs w=>Tryz.call88 vs w) Tryz.func88 rfl (by rw [Tryz.ntmps88];simp) (fun C hC hP hT hΓ hbt hfn hpin hfin=>?_);haveI hDJ:DrLe BJ C:=⟨fun h=>by rw [hbt.2.2.2]at h;cases h⟩;have hPJ:=hP;have hTJ:=hT;replace hP:B.P=C.P:=hP;replace hT:B.tid=C.tid:=hT;have hX:=BXJ;rw [<- hΓ,<- hbt.1,<- hbt.2.1,<- hbt.2.2.1]at hX;rw [hTJ]at hX;rw [Tryz.ntmps88];simp only [AW7,simprocAttr,hX]
 refine Run.R ?_
 refine Run.g fun K hK=>?_
 refine FunA.e hP hT (c_impl_IsFinite c) ?_
 refine .inl (FunA.callG hPJ hTJ (c_impl_SizeOf c) (fun _=>rfl) (fun _=>by simp only [AW7,simprocAttr]) ?_)
 refine wF ?_;clear hK K
 refine Run.c ?_ ?_
 ·intro h
  exfalso
  unfold elsB at he
  rw [bAnd,dtE]at he
  rw [he.1]at h
  have h:decide (48 < sizeE c)=true:=h
  rw [dtE]at h
  omega
 intro _
 refine Run.g fun K hK=>?_
 refine FunA.cW hPJ hTJ (c_impl_ElementsOf1 c (elsB_mono he om)) ?_
 rintro rs o ⟨ys,hy,rfl,rfl⟩
 refine wF ?_;clear hK K
 refine Run.r [4,5] ?_
 exact⟨ys,hy,rfl,rfl⟩
theorem c_spec_l18Small (c:LL):FunA B 91 [.sl false (.row false) c] (fun rs o=>rs=[.own 0 0,.bool (elsB c 48)]/\∃ ys,(rw2 ys=(if elsB c 48 then allL c else [])/\(lb1 ys).Nodup)/\o=[.arr .lrow ys 0 true]):=by
 refine wk Tryz.call91 Tryz.func91 rfl Tryz.ntmps91 fun C hC hP hT hfn hpin hfin hX=>wW ?_
 refine Run.R ?_
 refine Run.g fun K hK=>?_
 refine FunA.e hP hT (c_spec_SizeOf c) ?_
 refine wE ?_;clear hK K
 have hsm:=elsB_small c 48
 refine Run.R ?_
 refine Run.c ?_ ?_
 ·intro h
  have h:elsB c 48=false:=by
   rw [hsm]
   by_cases h1:sizeE c < 1
   ·rw [decide_eq_true h1];rfl
   ·rw [decide_eq_false h1]at h ⊢
    have h:decide (48 < sizeE c)=true:=h
    rw [h];rfl
  refine Run.R ?_
  refine Run.k [2,3] [0] ?_
  refine Run.r [2,3] ?_
  exact⟨by rw [h],[],⟨by rw [h];rfl,by simp [lb1]⟩,rfl⟩
 intro h
 have h:elsB c 48=true:=by
  rw [hsm]
  by_cases h1:sizeE c < 1
  ·rw [decide_eq_true h1]at h;cases h
  ·rw [decide_eq_false h1]at h ⊢
   have h:decide (48 < sizeE c)=false:=h
   rw [h];rfl
 obtain⟨hF,_,hl,_⟩:=elsB_fin h om
 refine Run.g fun K hK=>?_
 refine FunA.cW hP hT (c_spec_l13All c hF hl) ?_
 rintro rs o ⟨rfl,ys,hy,rfl⟩
 refine wF ?_;clear hK K
 refine Run.k [2,3] [0] ?_
 refine Run.r [2,3] ?_
 exact⟨by rw [h],ys,⟨by rw [h];exact hy.1,hy.2⟩,rfl⟩
def l5P (x:Int):Bool->List Int->List Int
 | pl,[]=>if pl then []else [x]
 | pl,y :: l=>if decide (x < y) && !(pl || y == x)then x :: y :: l5P x true l else y :: l5P x (pl || y == x) l
theorem l5P_cons (x:Int) (pl:Bool) (y:Int) (l:LI):l5P x pl (y :: l)=if decide (x < y) && !(pl || y == x)then x :: y :: l5P x true l else y :: l5P x (pl || y == x) l:=rfl
theorem l5P_true (x:Int):∀ l,l5P x true l=l
 | []=>rfl
 | y :: l=>by unfold l5P;simp [l5P_true x l]
theorem l5P_ins {x:Int}:∀ {l:LI},x∉l->l5P x false l=insI x l
 | [],_=>rfl
 | y :: l,h=>by
  have h1:¬y=x:=fun e=>h (by rw [e];exact mcS ..)
  have h2:x∉l:=fun hm=>h (mcM _ hm)
  have hb:(y == x)=false:=by simpa using h1
  unfold l5P
  simp only [insI]
  rw [hb,l5P_true,show(false || false)=false from rfl,l5P_ins h2]
  by_cases e:x < y
  ·rw [decide_eq_true e,decide_eq_true (show x<=y by omega)];rfl
  ·rw [decide_eq_false e,decide_eq_false (show ¬x<=y by omega)];rfl
theorem l5P_fold:∀(l a:LI),AscI a->(∀ x∈l,x∉a)->l.Nodup->(l.foldl (fun a x=>l5P x false a) a).Perm (l ++ a)/\AscI (l.foldl (fun a x=>l5P x false a) a)
 | [],a,h,_,_=>⟨.refl _,h⟩
 | x :: l,a,h,hx,hn=>by
  obtain⟨n1,n2⟩:=List.nodup_cons.1 hn
  have hxa:=hx x (mcS ..)
  rw [List.foldl_cons,l5P_ins hxa]
  have hp:=insI_perm x a
  obtain⟨h1,h2⟩:=l5P_fold l (insI x a) (insI_asc x h) (fun y hy hm=>by
   rcases List.mem_cons.1 (hp.mem_iff.1 hm)with rfl | hm
   ·exact n1 hy
   ·exact hx y (mcM _ hy) hm) n2
  exact⟨h1.trans (((List.Perm.refl l).append hp).trans List.perm_middle),h2⟩
theorem l5P_sort {l:LI} (h:l.Nodup):l.foldl (fun a x=>l5P x false a) []=sortI l:=by
 obtain⟨h1,h2⟩:=l5P_fold l [] List.Pairwise.nil (by simp) h
 obtain⟨k1,k2⟩:=sortI_spec l
 exact asc_uniq ((by simpa using h1:(l.foldl (fun a x=>l5P x false a) []).Perm l).trans k1.symm) h2 k2
theorem l5P_len (x:Int):∀(pl:Bool) (l:LI),(l5P x pl l).length<=l.length+1
 | pl,[]=>by unfold l5P;split<;>simp
 | pl,y :: l=>by
  unfold l5P
  split
  ·rw [l5P_true];simp
  ·simp only [lenC];have:=l5P_len x (pl || y == x) l;omega
theorem c_spec_l5Put (l:LI) (x:Int) (hl:l.length<=1048576):FunA B 103 [.sl false .int l,.int .i64 x] (fun rs o=>rs=[.own 0 0]/\o=[.arr .int (l5P x false l) 0 true]):=by
 refine wk Tryz.call103 Tryz.func103 rfl Tryz.ntmps103 fun C hC hP hT hfn hpin hfin hX=>wW ?_
 refine Run.R ?_
 refine Run.R ?_
 refine Run.R ?_
 refine Run.R ?_
 refine Run.k [0,1,5,6,7] [0] ?_
 refine Run.loopI (X:=Nat×List Int×Bool) (fun s=>⟨49,[(0,true,.v (.sl false .int l)),(1,true,.v (.int .i64 x)),(5,true,.v (.own 0 0)),(6,true,.v (.bool (s.2.2))),(7,true,.v (.int .i64 (s.1)))],[.arr .int (s.2.1) 0 true]⟩) (fun s=>s.1<=l.length/\s.2.1.length<=s.1+(bif s.2.2 then 1 else 0)/\s.2.1 ++ l5P x s.2.2 (l.drop s.1)=l5P x false l) (fun s=>l.length - s.1) ((0,[],false)) (⟨nz0 _,by simp,by simp⟩) ?_ ?_
 ·exact Le.s
 rintro⟨i,out,pl⟩ ⟨hi,ho,hE⟩ ih
 try simp only []
 simp only []at hi ho hE
 have ho2:out.length<=i+1:=by cases pl<;>simp at ho<;>omega
 refine Run.R ?_
 refine Run.c ?_ ?_
 rotate_left
 ·intro h
  have h:i=l.length:=by rw [dfE]at h;omega
  subst h
  rw [List.drop_length]at hE
  have hz1:(out.length + [x].length)*8<=140737488355328:=by simp only [lenC,lenN];omega
  refine Run.x ?_
  refine Run.R ?_
  cases pl with
  | true=>
   refine Run.c ?_ ?_
   ·intro h2;cases h2
   intro _
   refine Run.R ?_
   refine Run.k [4] [0] ?_
   refine Run.r [4] ?_
   refine⟨rfl,?_⟩
   rw [<- hE];simp [l5P]
  | false=>
   refine Run.c ?_ ?_
   rotate_left
   ·intro h2;cases h2
   intro _
   refine Run.R ?_
   refine Run.R ?_
   refine Run.k [4] [0] ?_
   refine Run.r [4] ?_
   refine⟨rfl,?_⟩
   rw [<- hE];rfl
 intro h
 have h:i < l.length:=by rw [dtE]at h;omega
 have hdr:l.drop i=l.getD i 0 :: l.drop (i+1):=by
  rw [List.drop_eq_getElem_cons h,gdE,geE h];rfl
 have hst:=l5P_cons x pl (l.getD i 0) (l.drop (i+1))
 refine Run.R ?_
 generalize hy:l.getD i 0=y at *
 obtain⟨pl1,hpe⟩:∃ pl1,pl1=(pl || y == x):=⟨_,rfl⟩
 rw [<- hpe]at hst
 have hpl1:pl1=false->out.length<=i:=fun e=>by
  rw [e]at hpe
  cases pl
  ·simpa using ho
  ·simp at hpe
 have hpl2:out.length<=i+(bif pl1 then 1 else 0):=by
  cases pl1
  ·simpa using hpl1 rfl
  ·simpa using ho2
 refine Run.c ?_ ?_
 ·intro h2
  have e1:pl1=true:=by
   have:(y == x)=true:=by simpa using h2
   rw [hpe,this,Bool.or_true]
  refine Run.R ?_
  rw [show AV.bool true=AV.bool pl1 by rw [e1]]
  refine Run.g fun K hK=>?_
  try simp only [hy]
  refine wF ?_;clear hK K
  refine Run.c ?_ ?_
  ·intro h3
   have h3:decide (x < y)=true/\pl1=false:=by revert h3;cases decide (x < y)<;>cases pl1<;>simp
   rw [if_pos (by rw [h3.1,h3.2];rfl)]at hst
   have hz1:(out.length + [x].length)*8<=140737488355328:=by simp only [lenC,lenN];omega
   have hz2:((out ++ [x]).length + [y].length)*8<=140737488355328:=by simp only [lenA,lenC,lenN];omega
   refine Run.R ?_
   refine Run.R ?_
   refine Run.g fun K hK=>?_
   try simp only [hy]
   refine wF ?_;clear hK K
   refine Run.RW ?_
   refine Run.k [0,1,5,6,7] [0] ?_
   exact Run.j (ih ((i+1,out ++ [x] ++ [y],true)) (⟨h,by have:=hpl1 h3.2;simp only [lenA,lenC,lenN,cond_true];omega,by rw [<- hE,hdr,hst];simp⟩) mz)
  ·intro h3
   have h3:¬(decide (x < y) && !pl1)=true:=by revert h3;cases decide (x < y)<;>cases pl1<;>simp
   rw [if_neg h3]at hst
   have hz1:(out.length + [y].length)*8<=140737488355328:=by simp only [lenC,lenN];omega
   refine Run.g fun K hK=>?_
   try simp only [hy]
   refine wF ?_;clear hK K
   refine Run.RW ?_
   refine Run.k [0,1,5,6,7] [0] ?_
   exact Run.j (ih ((i+1,out ++ [y],pl1)) (⟨h,by simp only [lenA,lenC,lenN];cases pl1<;>simp at hpl2 ⊢<;>omega,by rw [<- hE,hdr,hst];simp⟩) mz)
 ·intro h2
  have e1:pl1=pl:=by
   have:(y == x)=false:=by simpa using h2
   rw [hpe,this,Bool.or_false]
  rw [<- e1]
  refine Run.g fun K hK=>?_
  try simp only [hy]
  refine wF ?_;clear hK K
  refine Run.c ?_ ?_
  ·intro h3
   have h3:decide (x < y)=true/\pl1=false:=by revert h3;cases decide (x < y)<;>cases pl1<;>simp
   rw [if_pos (by rw [h3.1,h3.2];rfl)]at hst
   have hz1:(out.length + [x].length)*8<=140737488355328:=by simp only [lenC,lenN];omega
   have hz2:((out ++ [x]).length + [y].length)*8<=140737488355328:=by simp only [lenA,lenC,lenN];omega
   refine Run.R ?_
   refine Run.R ?_
   refine Run.g fun K hK=>?_
   try simp only [hy]
   refine wF ?_;clear hK K
   refine Run.RW ?_
   refine Run.k [0,1,5,6,7] [0] ?_
   exact Run.j (ih ((i+1,out ++ [x] ++ [y],true)) (⟨h,by have:=hpl1 h3.2;simp only [lenA,lenC,lenN,cond_true];omega,by rw [<- hE,hdr,hst];simp⟩) mz)
  ·intro h3
   have h3:¬(decide (x < y) && !pl1)=true:=by revert h3;cases decide (x < y)<;>cases pl1<;>simp
   rw [if_neg h3]at hst
   have hz1:(out.length + [y].length)*8<=140737488355328:=by simp only [lenC,lenN];omega
   refine Run.g fun K hK=>?_
   try simp only [hy]
   refine wF ?_;clear hK K
   refine Run.RW ?_
   refine Run.k [0,1,5,6,7] [0] ?_
   exact Run.j (ih ((i+1,out ++ [y],pl1)) (⟨h,by simp only [lenA,lenC,lenN];cases pl1<;>simp at hpl2 ⊢<;>omega,by rw [<- hE,hdr,hst];simp⟩) mz)
def cjI (c:LL) (l:LL) (k:Int) (s:Nat):Int:=ixL l (redL c ([(s:Int)] ++ l.getD k.toNat [] ++ [(s:Int)]))
def ccS (c:LL) (l:LL) (k:Int) (st:List Bool×List Int) (s:Nat):List Bool×List Int:=
 if st.1.getD (cjI c l k s).toNat false then st else(st.1.set (cjI c l k s).toNat true,st.2 ++ [cjI c l k s])
def ccK (c:LL) (l:LL) (st:List Bool×List Int) (n:Nat):List Bool×List Int:=(List.range c.length).foldl (ccS c l (st.2.getD n 0)) st
def ccW (c:LL) (l:LL):Nat->Nat->List Bool×List Int->List Bool×List Int
 | 0,_,st=>st
 | f+1,n,st=>if n < st.2.length then ccW c l f (n+1) (ccK c l st n)else st
def ccO (c:LL) (l:LL) (st:List Bool×List (List Int)) (k:Nat):List Bool×List (List Int):=
 if st.1.getD k false then st else((ccW c l l.length 0 (st.1.set k true,[(k:Int)])).1,st.2 ++ [sortI (ccW c l l.length 0 (st.1.set k true,[(k:Int)])).2])
def ccL (c:LL) (l:LL):List (List Int):=((List.range l.length).foldl (ccO c l) (List.replicate l.length false,[])).2
noncomputable def ccX (c:LL):List (List Int):=ccL c (if elsB c 48 then allL c else [])
theorem ccS_seen {c l:LL} {k v:Int} {st:List Bool×List Int} {s:Nat} (hv:cjI c l k s=v) (h:st.1.getD v.toNat false=true):ccS c l k st s=st:=by unfold ccS;rw [hv,if_pos h]
theorem ccS_new {c l:LL} {k v:Int} {st:List Bool×List Int} {s:Nat} (hv:cjI c l k s=v) (h:st.1.getD v.toNat false=false):ccS c l k st s=(st.1.set v.toNat true,st.2 ++ [v]):=by unfold ccS;rw [hv,if_neg (by rw [h];decide)]
theorem ccO_seen {c l:LL} {st:List Bool×List (List Int)} {k:Nat} (h:st.1.getD k false=true):ccO c l st k=st:=by unfold ccO;rw [if_pos h]
theorem ccO_new {c l:LL} {st:List Bool×List (List Int)} {k:Nat} (h:st.1.getD k false=false):ccO c l st k=((ccW c l l.length 0 (st.1.set k true,[(k:Int)])).1,st.2 ++ [sortI (ccW c l l.length 0 (st.1.set k true,[(k:Int)])).2]):=by unfold ccO;rw [if_neg (by rw [h];decide)]
theorem ccW_stop (c l):∀(f n:Nat) (st:List Bool×List Int),st.2.length<=n->ccW c l f n st=st
 | 0,_,_,_=>rfl
 | f+1,n,st,h=>by unfold ccW;rw [if_neg om]
theorem foldl_rs {α:Type} (f:α->Nat->α) (a:α) (k:Nat):(List.range (k+1)).foldl f a=f ((List.range k).foldl f a) k:=by rw [List.range_succ,List.foldl_append];rfl
structure GoodC (n:Nat) (st:List Bool×List Int):Prop where
 l:st.1.length=n
 nd:st.2.Nodup
 mem:∀ x∈st.2,0<=x/\x < n/\st.1.getD x.toNat false=true
theorem getD_setB (l:List Bool) (i j:Nat) (h:i < l.length):(l.set i true).getD j false=if j=i then true else l.getD j false:=by
 simp only [List.getD,List.getElem?_set]
 by_cases e:i=j
 ·subst e;simp [h]
 ·rw [if_neg e,if_neg (Ne.symm e)]
theorem GoodC.put {n:Nat} {st:List Bool×List Int} (h:GoodC n st) {x:Int} (hx:0<=x/\x < n) (hf:st.1.getD x.toNat false=false):GoodC n (st.1.set x.toNat true,st.2 ++ [x]):=by
 have hl:=h.l
 refine⟨by simpa using hl,?_,fun y hy=>?_⟩
 ·rw [List.nodup_append]
  refine⟨h.nd,by simp,fun a ha b hb e=>?_⟩
  simp at hb
  subst hb e
  have:=(h.mem _ ha).2.2
  rw [hf]at this;cases this
 ·simp only []
  rw [getD_setB _ _ _ om]
  rcases List.mem_append.1 hy with hy | hy
  ·obtain⟨h1,h2,h3⟩:=h.mem y hy
   refine⟨h1,h2,?_⟩
   split
   ·rfl
   ·exact h3
  ·simp at hy;subst hy;simp;exact hx
theorem nodup_int_le {n:Nat} {l:LI} (h:l.Nodup) (hm:∀ x∈l,0<=x/\x < n):l.length<=n:=by
 have h1:(l.map Int.toNat).Nodup:=by
  unfold List.Nodup
  rw [List.pairwise_map]
  refine List.Pairwise.imp_of_mem (fun {a b} ha hb hab e=>hab ?_) h
  have:=hm a ha;have:=hm b hb;omega
 have h2:=nodup_le h1 (b:=List.range n) fun x hx=>by
  obtain⟨y,hy,rfl⟩:=List.mem_map.1 hx
  have:=hm y hy
  exact List.mem_range.2 om
 simpa using h2
theorem GoodC.len {n:Nat} {st:List Bool×List Int} (h:GoodC n st):st.2.length<=n:=nodup_int_le h.nd fun x hx=>⟨(h.mem x hx).1,(h.mem x hx).2.1⟩
theorem ixL_mem {l:LL} {w:LI} (h:w∈l):0<=ixL l w/\ixL l w < l.length/\l.getD (ixL l w).toNat []=w:=by
 have hlt:=List.idxOf_lt_length_of_mem h
 have hg:l[l.idxOf w]=w:=List.getElem_idxOf hlt
 unfold ixL
 rw [if_pos h]
 refine⟨by omega,by omega,?_⟩
 rw [Int.toNat_natCast,gdE,geE hlt];exact hg
section
variable {c:LL} (hF:FinP c)
include hF
theorem cj_mem {k:Int} (hk:0<=k/\k < (allL c).length) {s:Nat} (hs:s < c.length):redL c ([(s:Int)] ++ (allL c).getD k.toNat [] ++ [(s:Int)])∈allL c/\letters c.length ([(s:Int)] ++ (allL c).getD k.toNat [] ++ [(s:Int)])/\([(s:Int)] ++ (allL c).getD k.toNat [] ++ [(s:Int)]).length<=26:=by
 have hall:=allL_spec hF
 have hm:(allL c).getD k.toNat []∈allL c:=by rw [gdE,geE om];exact List.getElem_mem _
 have hnf:=(hall.2 _).1 hm
 have h24:=fin_len hF _ (hnf.far hF.1)
 have hl:letters c.length ([(s:Int)] ++ (allL c).getD k.toNat [] ++ [(s:Int)]):=letters_append.2 ⟨letters_append.2 ⟨letter1 hs,hnf.1⟩,letter1 hs⟩
 have hln:([(s:Int)] ++ (allL c).getD k.toNat [] ++ [(s:Int)]).length<=26:=by simp only [lenA,lenC,lenN];omega
 obtain⟨L,_,_,hfar⟩:=Far.image hF.1 hl
 have hL:=fin_len hF _ hfar
 obtain⟨h1,_⟩:=red_far hF.1 hfar om
 exact⟨(hall.2 _).2 (nf_red hF.1 hl om om),hl,hln⟩
theorem ccS_good {k:Int} (hk:0<=k/\k < (allL c).length) {s:Nat} (hs:s < c.length) {st:List Bool×List Int} (h:GoodC (allL c).length st):GoodC (allL c).length (ccS c (allL c) k st s):=by
 obtain⟨h1,h2,_⟩:=ixL_mem (cj_mem hF hk hs).1
 unfold ccS
 cases e:st.1.getD (cjI c (allL c) k s).toNat false
 ·rw [if_neg (by decide)];exact h.put ⟨h1,h2⟩ e
 ·rw [if_pos rfl];exact h
end
theorem getD_appL {a b:LI} {n:Nat} (h:n < a.length):(a ++ b).getD n 0=a.getD n 0:=by
 simp [gdE,List.getElem?_append,h]
set_option maxHeartbeats 1000000 in
theorem c_impl_ConjugacyClassesR (c:LL):FunA BJ 42 [.sl false (.row false) c] (fun rs o=>∃ ys g nn rest,(rw2 ys=ccX c/\nn=true/\rest=[.bool (elsB c 48)])/\(lb1 ys).Nodup/\rest.all flatAV=true/\rs=.own 0 g :: rest/\o=[.arr .lrow ys g nn]):=by
 refine FunA.walk BJ_ok (fn:=Tryz.f42) (fun vs w=>Tryz.call42 vs w) Tryz.func42 rfl (by rw [Tryz.ntmps42];simp) (fun C hC hP hT hΓ hbt hfn hpin hfin=>?_);haveI hDJ:DrLe BJ C:=⟨fun h=>by rw [hbt.2.2.2]at h;cases h⟩;have hPJ:=hP;have hTJ:=hT;replace hP:B.P=C.P:=hP;replace hT:B.tid=C.tid:=hT;have hX:=BXJ;rw [<- hΓ,<- hbt.1,<- hbt.2.1,<- hbt.2.2.1]at hX;rw [hTJ]at hX;rw [Tryz.ntmps42];simp only [AW7,simprocAttr,hX]
 refine Run.R ?_
 cases he:elsB c 48 with
 | false=>
  refine Run.g fun K hK=>?_
  refine FunA.cW hPJ hTJ (c_impl_few0 c he) ?_
  rintro rs o ⟨rfl,rfl⟩
  refine wF ?_;clear hK K
  refine Run.R ?_
  refine Run.c ?_ ?_
  rotate_left
  ·intro h;cases h
  intro _
  refine Run.R ?_
  refine Run.k [2,3] [0] ?_
  refine Run.r [2,3] ?_
  exact⟨[],0,true,[.bool (elsB c 48)],⟨by unfold ccX;rw [he];rfl,rfl,rfl⟩,by simp [lb1],rfl,by rw [he],rfl⟩
 | true=>
  obtain⟨hF,_,hl200,_⟩:=elsB_fin he om
  have hc:=hF.1
  have hn:=hc.2.1
  have hall:=allL_spec hF
  have hand:(allL c).Nodup:=List.Pairwise.imp (fun {a b} h e=>by rw [e,cmpW_self]at h;omega) hall.1
  have hal:∀ r∈allL c,letters 4 r/\r.length<=100:=fun r hr=>by
   have h1:=(hall.2 r).1 hr
   exact⟨fun x hx=>by have:=h1.1 x hx;omega,by have:=h1.2.2;omega⟩
  have hccx:ccX c=ccL c (allL c):=by unfold ccX;rw [he];rfl
  refine Run.g fun K hK=>?_
  refine FunA.cW hPJ hTJ (c_impl_few1 c he) ?_
  rintro rs o ⟨zs,⟨hz,_⟩,rfl,rfl⟩
  have hzl:zs.length=(allL c).length:=by rw [<- hz,rwl]
  have hmap:zs.map (·.2)=allL c:=hz
  refine wF ?_;clear hK K
  refine Run.R ?_
  refine Run.c ?_ ?_
  ·intro h;cases h
  intro _
  refine Run.g fun K hK=>?_
  refine FunA.cW hP hT (c_impl_places (zs.map (·.2)) (by rw [hmap];exact hal) (by rw [hmap];exact hand) (by rw [hmap];omega)) ?_
  rintro rs o ⟨rfl,m,hm,rfl⟩
  rw [hmap]at hm
  refine wF ?_;clear hK K
  refine Run.R ?_
  refine Run.R ?_
  refine Run.R ?_
  refine Run.k [0,4,6,7,8,29,30] [0,1,2] ?_
  refine Run.loopI (X:=Nat×List Bool×List (Nat×List Int)) (fun x=>⟨92,[(0,true,.v (.sl false (.row false) c)),(4,true,.v (.sl true .lrow zs)),(6,true,.v (.own 0 0)),(7,true,.v (.own 1 0)),(8,true,.v (.own 2 0)),(29,true,.v (.int .i64 ((zs.length:Nat)))),(30,true,.v (.int .i64 (x.1)))],[.mp ⟨false,true⟩ m 0,.arr .bool (x.2.1) 0 true,.arr .lrow (x.2.2) 0 true]⟩) (fun x=>(x.1<=zs.length/\x.2.2.length<=x.1)/\(List.range x.1).foldl (ccO c (allL c)) (List.replicate (allL c).length false,[])=(x.2.1,rw2 x.2.2)/\(lb1 x.2.2).Nodup/\x.2.1.length=(allL c).length) (fun x=>zs.length - x.1) ((0,List.replicate zs.length false,[])) (⟨⟨nz0 _,Nat.le_refl _⟩,by simp only [List.range_zero,List.foldl_nil,hzl,rw2,List.map_nil],by simp [lb1],by simp [hzl]⟩) ?_ ?_
  ·exact Le.s
  rintro⟨k,seen,ys⟩ ⟨⟨hk,hyk⟩,hE,hN,hsl⟩ ihO
  try simp only []
  simp only []at hk hyk hE hN hsl
  refine Run.R ?_
  refine Run.c ?_ ?_
  rotate_left
  ·intro h
   have h:k=zs.length:=by rw [dfE]at h;omega
   refine Run.x ?_
   refine Run.R ?_
   refine Run.k [2,3] [2] ?_
   refine Run.r [2,3] ?_
   refine⟨ys,0,true,[.bool (elsB c 48)],⟨?_,rfl,rfl⟩,hN,rfl,by rw [he],rfl⟩
   rw [hccx]
   unfold ccL
   rw [show(allL c).length=k by omega]at hE ⊢
   rw [hE]
  intro h
  have h:k < zs.length:=by rw [dtE]at h;omega
  have hstO:=foldl_rs (ccO c (allL c)) (List.replicate (allL c).length false,[]) k
  rw [hE]at hstO
  refine Run.R ?_
  refine Run.R ?_
  refine Run.c ?_ ?_
  ·intro h2
   rw [ccO_seen (st:=(seen,rw2 ys)) h2]at hstO
   refine Run.x ?_
   refine Run.RW ?_
   refine Run.k [0,4,6,7,8,29,30] [0,1,2] ?_
   exact Run.j (ihO ((k+1,seen,ys)) (⟨⟨h,by simp only [];omega⟩,hstO,hN,hsl⟩) mz)
  intro h2
  rw [ccO_new (st:=(seen,rw2 ys)) h2]at hstO
  simp only []at hstO
  have hg0:GoodC (allL c).length (seen.set k true,[(k:Int)]):=by
   refine⟨by simpa using hsl,by simp,fun x hx=>?_⟩
   simp at hx;subst hx
   exact⟨by omega,by omega,by rw [Int.toNat_natCast,getD_setB _ _ _ om,if_pos rfl]⟩
  generalize hR:ccW c (allL c) (allL c).length 0 (seen.set k true,[(k:Int)])=R at hstO
  refine Run.R ?_
  refine Run.R ?_
  refine Run.R ?_
  refine Run.k [0,4,6,7,8,29,30,10,11] [0,1,2,3] ?_
  refine Run.loopI (X:=Nat×List Bool×List Int) (fun y=>⟨92,[(0,true,.v (.sl false (.row false) c)),(4,true,.v (.sl true .lrow zs)),(6,true,.v (.own 0 0)),(7,true,.v (.own 1 0)),(8,true,.v (.own 2 0)),(29,true,.v (.int .i64 ((zs.length:Nat)))),(30,true,.v (.int .i64 k)),(10,true,.v (.own 3 0)),(11,true,.v (.int .i64 (y.1)))],[.mp ⟨false,true⟩ m 0,.arr .bool (y.2.1) 0 true,.arr .lrow (ys) 0 true,.arr .int (y.2.2) 0 true]⟩) (fun y=>GoodC (allL c).length y.2/\y.1<=y.2.2.length/\ccW c (allL c) ((allL c).length - y.1) y.1 y.2=R) (fun y=>(allL c).length - y.1) ((0,seen.set k true,[(k:Int)])) (⟨hg0,nz0 _,by simp only [Nat.sub_zero];exact hR⟩) ?_ ?_
  ·exact Le.s
  rintro⟨n,sn,cl⟩ ⟨hG,hn2,hW⟩ ihK
  try simp only []
  simp only []at hG hn2 hW
  have hcl:=hG.len
  simp only []at hcl
  refine Run.R ?_
  refine Run.c ?_ ?_
  rotate_left
  ·intro h3
   have h3:n=cl.length:=by rw [dfE]at h3;omega
   have hRe:R=(sn,cl):=by rw [<- hW];exact ccW_stop c (allL c) _ _ _ (by simp only [];omega)
   rw [hRe]at hstO
   simp only []at hstO
   have hcb:cl.length<=1048576:=by omega
   have hzb:(ys.length+1)*24<=140737488355328:=by omega
   have hsl2:sn.length=(allL c).length:=hG.l
   refine Run.x ?_
   refine Run.g fun K hK=>?_
   refine ACall.sortI hPJ hTJ sortIL rfl (fun vs w=>Tryz.call101 vs w) 3 0 rfl hcb ?_
   refine wF ?_;clear hK K
   refine Run.g fun K hK=>?_
   intro q hq
   refine wF ?_;clear hK K
   refine Run.RW ?_
   refine Run.k [0,4,6,7,8,29,30] [0,1,2] ?_
   exact Run.j (ihO ((k+1,sn,ys ++ [(q,Go.Proofs.YtcinngodeoidnaaGreatDoor.sortI cl)])) (⟨⟨h,by simp only [lenA,lenC,lenN];omega⟩,by rw [hstO];simp [rw2],row_fresh hN (fun p hp=>hq _ (mcM _ (mcM _ (mcS ..))) _ _ _ rfl p hp),hsl2⟩) mz)
  intro h3
  have h3:n < cl.length:=by rw [dtE]at h3;omega
  rw [show(allL c).length - n=((allL c).length - (n+1))+1 by omega]at hW
  unfold ccW at hW
  rw [if_pos (by simp only [];exact h3)]at hW
  have hkm:cl.getD n 0∈cl:=by rw [gdE,geE h3];exact List.getElem_mem _
  obtain⟨hk1,hk2,_⟩:=hG.mem _ hkm
  unfold ccK at hW
  simp only []at hW hk1 hk2
  refine Run.R ?_
  refine Run.k [0,4,6,7,8,29,30,10,11,49,50] [0,1,2,3] ?_
  refine Run.loopI (X:=Nat×List Bool×List Int) (fun z=>⟨92,[(0,true,.v (.sl false (.row false) c)),(4,true,.v (.sl true .lrow zs)),(6,true,.v (.own 0 0)),(7,true,.v (.own 1 0)),(8,true,.v (.own 2 0)),(29,true,.v (.int .i64 ((zs.length:Nat)))),(30,true,.v (.int .i64 k)),(10,true,.v (.own 3 0)),(11,true,.v (.int .i64 n)),(49,true,.v (.int .i64 ((c.length:Nat)))),(50,true,.v (.int .i64 (z.1)))],[.mp ⟨false,true⟩ m 0,.arr .bool (z.2.1) 0 true,.arr .lrow (ys) 0 true,.arr .int (z.2.2) 0 true]⟩) (fun z=>z.1<=c.length/\GoodC (allL c).length z.2/\(List.range z.1).foldl (ccS c (allL c) (cl.getD n 0)) (sn,cl)=z.2/\n < z.2.2.length/\z.2.2.getD n 0=cl.getD n 0) (fun z=>c.length - z.1) ((0,sn,cl)) (⟨nz0 _,hG,rfl,h3,rfl⟩) ?_ ?_
  ·exact Le.s
  rintro⟨i,s2,c2⟩ ⟨hi,hG2,hS,hn3,hkk⟩ ihJ
  try simp only []
  simp only []at hi hG2 hS hn3 hkk
  refine Run.R ?_
  refine Run.c ?_ ?_
  rotate_left
  ·intro h4
   have h4:i=c.length:=by rw [dfE]at h4;omega
   subst h4
   rw [hS]at hW
   refine Run.x ?_
   refine Run.RW ?_
   refine Run.k [0,4,6,7,8,29,30,10,11] [0,1,2,3] ?_
   exact Run.j (ihK ((n+1,s2,c2)) (⟨hG2,hn3,hW⟩) mz)
  intro h4
  have h4:i < c.length:=by rw [dtE]at h4;omega
  have hsS:=foldl_rs (ccS c (allL c) (cl.getD n 0)) (sn,cl) i
  rw [hS]at hsS
  have hgS:=ccS_good hF ⟨hk1,hk2⟩ h4 hG2
  rw [<- hsS]at hgS
  obtain⟨hxm,hxl,hxn⟩:=cj_mem hF ⟨hk1,hk2⟩ h4
  obtain⟨hx1,hx2,_⟩:=ixL_mem hxm
  have hat:=hm.at hand hxm
  obtain⟨hf1,hf2⟩:=hal _ hxm
  have hcI:cjI c (allL c) (cl.getD n 0) i=ixL (allL c) (redL c ([(i:Int)] ++ (allL c).getD (cl.getD n 0).toNat [] ++ [(i:Int)])):=rfl
  have hgw:=rwg zs (cl.getD n 0).toNat
  rw [hz]at hgw
  have hcr:=c_impl_reduced c ([(i:Int)] ++ (allL c).getD (cl.getD n 0).toNat [] ++ [(i:Int)]) hc hxl om
  generalize hw:(allL c).getD (cl.getD n 0).toNat []=w at *
  have hfl:([[(i:Int)],w,[(i:Int)]]:LL).flatten=[(i:Int)] ++ w ++ [(i:Int)]:=by simp
  have hwl:w.length<=26:=by simp only [lenA]at hxn;omega
  rw [<- hfl]at hcr hxm hat hf1 hf2 hcI hx1 hx2
  generalize redL c ([[(i:Int)],w,[(i:Int)]]:LL).flatten=xw at hcr hxm hat hf1 hf2 hcI hx1 hx2
  generalize hv:ixL (allL c) xw=v at hat hcI hx1 hx2
  have hkl:(cl.getD n 0).toNat < zs.length:=by omega
  have hs2l:s2.length=(allL c).length:=hG2.l
  have hc2l:=hG2.len
  simp only []at hc2l
  have hzb2:(c2.length + [v].length)*8<=140737488355328:=by simp only [lenC,lenN];omega
  refine Run.R ?_
  refine Run.g fun K hK=>?_
  rw [hkk]
  refine wW ?_
  try simp only [hgw]
  refine FunA.cW hP hT (c_slices_Concat [[(i:Int)],w,[(i:Int)]] (by simp [sumL];omega) (by simp)) ?_
  rintro rs o ⟨nn,rfl,rfl⟩
  refine wW ?_
  refine FunA.e hP hT (hcr) ?_
  refine FunA.e hP hT (c_impl_FormatWord xw hf1 om) ?_
  rw [hat]
  refine wF ?_;clear hK K
  refine Run.k [0,4,6,7,8,29,30,10,11,49,50,12,13] [0,1,2,3] ?_
  refine Run.R ?_
  refine Run.c ?_ ?_
  ·intro h5
   have h5:s2.getD v.toNat false=false:=by simpa [-List.getD_eq_getElem?_getD] using h5
   rw [ccS_new (st:=(s2,c2)) hcI h5]at hsS
   rw [hsS]at hgS
   simp only []at hsS
   refine Run.R ?_
   refine Run.R ?_
   refine Run.RW ?_
   refine Run.k [0,4,6,7,8,29,30,10,11,49,50] [0,1,2,3] ?_
   exact Run.j (ihJ ((i+1,s2.set v.toNat true,c2 ++ [v])) (⟨h4,hgS,hsS,by simp only [lenA];omega,by rw [<- hkk];exact getD_appL hn3⟩) mz)
  ·intro h5
   have h5:s2.getD v.toNat false=true:=by simpa [-List.getD_eq_getElem?_getD] using h5
   rw [ccS_seen (st:=(s2,c2)) hcI h5]at hsS
   rw [hsS]at hgS
   refine Run.RW ?_
   refine Run.k [0,4,6,7,8,29,30,10,11,49,50] [0,1,2,3] ?_
   exact Run.j (ihJ ((i+1,s2,c2)) (⟨h4,hgS,hsS,hn3,hkk⟩) mz)
theorem fold_snoc {α:Type} (f:α->Int->α) (a:α) (l:LI) (j:Nat) (h:j < l.length):(l.take (j+1)).foldl f a=f ((l.take j).foldl f a) (l.getD j 0):=by
 have e:l.take (j+1)=l.take j ++ [l.getD j 0]:=by
  rw [List.take_add_one,gdE,geE h];rfl
 rw [e,List.foldl_append];rfl
set_option maxHeartbeats 1000000 in
theorem c_spec_ConjugacyClassesR (c:LL):FunA B 43 [.sl false (.row false) c] (fun rs o=>∃ ys g nn rest,(rw2 ys=ccX c/\nn=true/\rest=[.bool (elsB c 48)])/\(lb1 ys).Nodup/\rest.all flatAV=true/\rs=.own 0 g :: rest/\o=[.arr .lrow ys g nn]):=by
 refine wk Tryz.call43 Tryz.func43 rfl Tryz.ntmps43 fun C hC hP hT hfn hpin hfin hX=>wW ?_
 refine Run.R ?_
 refine Run.R ?_
 refine Run.g fun K hK=>?_
 refine FunA.cW hP hT (c_spec_l18Small c) ?_
 rintro rs o ⟨rfl,zs,⟨hz,_⟩,rfl⟩
 have hzl:zs.length=(if elsB c 48 then allL c else []).length:=by rw [<- hz,rwl]
 refine wF ?_;clear hK K
 have hccx:ccX c=ccL c (rw2 zs):=by unfold ccX;rw [<- hz]
 have hzn:(rw2 zs).length=zs.length:=rwl zs
 have hz200:zs.length<=200:=by
  rw [hzl]
  split
  ·rename_i h;exact(elsB_fin h om).2.2.1
  ·simp
 refine Run.R ?_
 refine Run.R ?_
 refine Run.k [0,4,5,6,7,8] [0,1,2] ?_
 refine Run.loopI (X:=Nat×List Bool×List (Nat×List Int)) (fun x=>⟨103,[(0,true,.v (.sl false (.row false) c)),(4,true,.v (.own 0 0)),(5,true,.v (.own 1 0)),(6,true,.v (.bool ((elsB c 48)))),(7,true,.v (.own 2 0)),(8,true,.v (.int .i64 (x.1)))],[.arr .lrow (x.2.2) 0 true,.arr .lrow (zs) 0 true,.arr .bool (x.2.1) 0 true]⟩) (fun x=>(x.1<=zs.length/\x.2.2.length<=x.1)/\(List.range x.1).foldl (ccO c (rw2 zs)) (List.replicate (rw2 zs).length false,[])=(x.2.1,rw2 x.2.2)/\(lb1 x.2.2).Nodup/\x.2.1.length=zs.length) (fun x=>zs.length - x.1) ((0,List.replicate zs.length false,[])) (⟨⟨nz0 _,Nat.le_refl _⟩,by simp only [List.range_zero,List.foldl_nil,hzn];simp [rw2],by simp [lb1],by simp⟩) ?_ ?_
 ·exact Le.s
 rintro⟨k,seen,ys⟩ ⟨⟨hk,hyk⟩,hE,hN,hsl⟩ ihO
 try simp only []
 simp only []at hk hyk hE hN hsl
 refine Run.R ?_
 refine Run.c ?_ ?_
 rotate_left
 ·intro h
  have h:k=zs.length:=by rw [dfE]at h;omega
  refine Run.x ?_
  refine Run.R ?_
  refine Run.k [2,3] [0] ?_
  refine Run.r [2,3] ?_
  refine⟨ys,0,true,[.bool (elsB c 48)],⟨?_,rfl,rfl⟩,hN,rfl,rfl,rfl⟩
  rw [hccx]
  unfold ccL
  rw [show(rw2 zs).length=k by omega]at hE ⊢
  rw [hE]
 intro h
 have h:k < zs.length:=by rw [dtE]at h;omega
 have he:elsB c 48=true:=by
  cases he:elsB c 48
  ·exfalso;rw [he]at hzl;have:zs.length=0:=hzl;omega
  ·rfl
 have hza:rw2 zs=allL c:=by rw [hz,he,if_pos rfl]
 obtain⟨hF,_,hl200,_⟩:=elsB_fin he om
 have hc:=hF.1
 have hn:=hc.2.1
 have hall:=allL_spec hF
 have hrl:∀ r∈zs.map (·.2),r.length<=1048576:=fun r hr=>by
  have hr:r∈rw2 zs:=hr
  rw [hza]at hr
  have:=((hall.2 r).1 hr).2.2;omega
 have hmap:zs.map (·.2)=allL c:=hza
 rw [hza]at hzn hE hccx ihO
 have hstO:=foldl_rs (ccO c (allL c)) (List.replicate (allL c).length false,[]) k
 rw [hE]at hstO
 refine Run.R ?_
 refine Run.c ?_ ?_
 ·intro h2
  rw [ccO_seen (st:=(seen,rw2 ys)) h2]at hstO
  refine Run.x ?_
  refine Run.RW ?_
  refine Run.k [0,4,5,6,7,8] [0,1,2] ?_
  exact Run.j (ihO ((k+1,seen,ys)) (⟨⟨h,by simp only [];omega⟩,hstO,hN,hsl⟩) mz)
 intro h2
 rw [ccO_new (st:=(seen,rw2 ys)) h2]at hstO
 simp only []at hstO
 have hg0:GoodC (allL c).length (seen.set k true,[(k:Int)]):=by
  refine⟨by rw [hzn];simpa using hsl,by simp,fun x hx=>?_⟩
  simp at hx;subst hx
  exact⟨by omega,by omega,by rw [Int.toNat_natCast,getD_setB _ _ _ om,if_pos rfl]⟩
 generalize hR:ccW c (allL c) (allL c).length 0 (seen.set k true,[(k:Int)])=R at hstO
 refine Run.R ?_
 refine Run.R ?_
 refine Run.R ?_
 refine Run.k [0,4,5,6,7,8,9,10] [0,1,2,3] ?_
 refine Run.loopI (X:=Nat×List Bool×List Int) (fun y=>⟨103,[(0,true,.v (.sl false (.row false) c)),(4,true,.v (.own 0 0)),(5,true,.v (.own 1 0)),(6,true,.v (.bool ((elsB c 48)))),(7,true,.v (.own 2 0)),(8,true,.v (.int .i64 k)),(9,true,.v (.own 3 0)),(10,true,.v (.int .i64 (y.1)))],[.arr .lrow (ys) 0 true,.arr .lrow (zs) 0 true,.arr .bool (y.2.1) 0 true,.arr .int (y.2.2) 0 true]⟩) (fun y=>GoodC (allL c).length y.2/\y.1<=y.2.2.length/\ccW c (allL c) ((allL c).length - y.1) y.1 y.2=R) (fun y=>(allL c).length - y.1) ((0,seen.set k true,[(k:Int)])) (⟨hg0,nz0 _,by simp only [Nat.sub_zero];exact hR⟩) ?_ ?_
 ·exact Le.s
 rintro⟨n,sn,cl⟩ ⟨hG,hn2,hW⟩ ihK
 try simp only []
 simp only []at hG hn2 hW
 have hcl:=hG.len
 simp only []at hcl
 refine Run.R ?_
 refine Run.c ?_ ?_
 rotate_left
 ·intro h3
  have h3:n=cl.length:=by rw [dfE]at h3;omega
  have hRe:R=(sn,cl):=by rw [<- hW];exact ccW_stop c (allL c) _ _ _ (by simp only [];omega)
  rw [hRe]at hstO
  simp only []at hstO
  have hzb:(ys.length+1)*24<=140737488355328:=by omega
  have hsl2:sn.length=zs.length:=by rw [<- hzn];exact hG.l
  refine Run.x ?_
  refine Run.R ?_
  refine Run.R ?_
  refine Run.k [0,4,5,6,7,8,9,13,14] [0,1,2,3,4] ?_
  refine Run.loopI (X:=Nat×List Int) (fun y=>⟨103,[(0,true,.v (.sl false (.row false) c)),(4,true,.v (.own 0 0)),(5,true,.v (.own 1 0)),(6,true,.v (.bool ((elsB c 48)))),(7,true,.v (.own 2 0)),(8,true,.v (.int .i64 k)),(9,true,.v (.own 3 0)),(13,true,.v (.own 4 0)),(14,true,.v (.int .i64 (y.1)))],[.arr .lrow (ys) 0 true,.arr .lrow (zs) 0 true,.arr .bool (sn) 0 true,.arr .int (cl) 0 true,.arr .int (y.2) 0 true]⟩) (fun y=>y.1<=cl.length/\(cl.take y.1).foldl (fun a x=>l5P x false a) []=y.2/\y.2.length<=y.1) (fun y=>cl.length - y.1) ((0,[])) (⟨nz0 _,rfl,Nat.le_refl _⟩) ?_ ?_
  ·exact Le.s
  rintro⟨j,so⟩ ⟨hj,hS,hso⟩ ihJ
  try simp only []
  simp only []at hj hS hso
  refine Run.R ?_
  refine Run.c ?_ ?_
  rotate_left
  ·intro h5
   have h5:j=cl.length:=by rw [dfE]at h5;omega
   rw [h5,tkL,l5P_sort hG.nd]at hS
   rw [hS]at hstO
   refine Run.x ?_
   refine Run.g fun K hK=>?_
   intro q hq
   refine wF ?_;clear hK K
   refine Run.RW ?_
   refine Run.k [0,4,5,6,7,8] [0,1,2] ?_
   refine Run.le ?_ (ihO (k+1,sn,ys ++ [(q,so)]) ⟨⟨h,by simp only [lenA,lenC,lenN];omega⟩,by rw [hstO];simp [rw2],row_fresh hN (fun p hp=>hq _ (mcS ..) _ _ _ rfl p hp),hsl2⟩ (by simp only [];omega))
   exact Le.sub (by first | rfl | simp) (by simp only [AW7,simprocAttr];try simp)
  intro h5
  have h5:j < cl.length:=by rw [dtE]at h5;omega
  have hsn:=fold_snoc (fun a x=>l5P x false a) [] cl j h5
  rw [hS]at hsn
  have hll:=l5P_len (cl.getD j 0) false so
  generalize hcj:cl.getD j 0=x at hsn hll
  refine Run.g fun K hK=>?_
  try rw [hcj]
  refine FunA.e hP hT (c_spec_l5Put so x om) ?_
  refine wE ?_;clear hK K
  refine Run.RW ?_
  refine Run.k [0,4,5,6,7,8,9,13,14] [0,1,2,3,5] ?_
  refine Run.le ?_ (ihJ (j+1,l5P x false so) ⟨h5,hsn,by simp only [];omega⟩ (by simp only [];omega))
  exact Le.sub (by first | rfl | simp) (by simp only [AW7,simprocAttr];try simp)
 intro h3
 have h3:n < cl.length:=by rw [dtE]at h3;omega
 rw [show(allL c).length - n=((allL c).length - (n+1))+1 by omega]at hW
 unfold ccW at hW
 rw [if_pos (by simp only [];exact h3)]at hW
 have hkm:cl.getD n 0∈cl:=by rw [gdE,geE h3];exact List.getElem_mem _
 obtain⟨hk1,hk2,_⟩:=hG.mem _ hkm
 unfold ccK at hW
 simp only []at hW hk1 hk2
 refine Run.R ?_
 refine Run.k [0,4,5,6,7,8,9,10,11] [0,1,2,3] ?_
 refine Run.loopI (X:=Nat×List Bool×List Int) (fun z=>⟨103,[(0,true,.v (.sl false (.row false) c)),(4,true,.v (.own 0 0)),(5,true,.v (.own 1 0)),(6,true,.v (.bool ((elsB c 48)))),(7,true,.v (.own 2 0)),(8,true,.v (.int .i64 k)),(9,true,.v (.own 3 0)),(10,true,.v (.int .i64 n)),(11,true,.v (.int .i64 (z.1)))],[.arr .lrow (ys) 0 true,.arr .lrow (zs) 0 true,.arr .bool (z.2.1) 0 true,.arr .int (z.2.2) 0 true]⟩) (fun z=>z.1<=c.length/\GoodC (allL c).length z.2/\(List.range z.1).foldl (ccS c (allL c) (cl.getD n 0)) (sn,cl)=z.2/\n < z.2.2.length/\z.2.2.getD n 0=cl.getD n 0) (fun z=>c.length - z.1) ((0,sn,cl)) (⟨nz0 _,hG,rfl,h3,rfl⟩) ?_ ?_
 ·exact Le.s
 rintro⟨i,s2,c2⟩ ⟨hi,hG2,hS,hn3,hkk⟩ ihJ
 try simp only []
 simp only []at hi hG2 hS hn3 hkk
 refine Run.R ?_
 refine Run.c ?_ ?_
 rotate_left
 ·intro h4
  have h4:i=c.length:=by rw [dfE]at h4;omega
  subst h4
  rw [hS]at hW
  refine Run.x ?_
  refine Run.RW ?_
  refine Run.k [0,4,5,6,7,8,9,10] [0,1,2,3] ?_
  exact Run.j (ihK ((n+1,s2,c2)) (⟨hG2,hn3,hW⟩) mz)
 intro h4
 have h4:i < c.length:=by rw [dtE]at h4;omega
 have hsS:=foldl_rs (ccS c (allL c) (cl.getD n 0)) (sn,cl) i
 rw [hS]at hsS
 have hgS:=ccS_good hF ⟨hk1,hk2⟩ h4 hG2
 rw [<- hsS]at hgS
 obtain⟨hxm,hxl,hxn⟩:=cj_mem hF ⟨hk1,hk2⟩ h4
 obtain⟨hx1,hx2,_⟩:=ixL_mem hxm
 have hcI:cjI c (allL c) (cl.getD n 0) i=ixL (allL c) (redL c ([(i:Int)] ++ (allL c).getD (cl.getD n 0).toNat [] ++ [(i:Int)])):=rfl
 have hgw:=rwg zs (cl.getD n 0).toNat
 rw [hza]at hgw
 have hcr:=c_spec_l8Normal c ([(i:Int)] ++ (allL c).getD (cl.getD n 0).toNat [] ++ [(i:Int)]) hc hxl om
 have hxw30:(redL c ([(i:Int)] ++ (allL c).getD (cl.getD n 0).toNat [] ++ [(i:Int)])).length<=30:=((hall.2 _).1 hxm).2.2
 generalize hw:(allL c).getD (cl.getD n 0).toNat []=w at *
 have hwl:w.length<=26:=by simp only [lenA]at hxn;omega
 generalize redL c ([(i:Int)] ++ w ++ [(i:Int)])=xw at hcr hxm hcI hx1 hx2 hxw30
 generalize hv:ixL (allL c) xw=v at hcI hx1 hx2
 have hkl:(cl.getD n 0).toNat < zs.length:=by omega
 have hs2l:s2.length=(allL c).length:=hG2.l
 have hc2l:=hG2.len
 simp only []at hc2l
 have hzb2:(c2.length + [v].length)*8<=140737488355328:=by simp only [lenC,lenN];omega
 refine Run.g fun K hK=>?_
 rw [hkk]
 refine wW ?_
 try simp only [hgw]
 refine FunA.e hP hT (c_spec_ConcatWords [(i:Int)] w (by simp) om) ?_
 refine FunA.e hP hT (c_spec_ConcatWords ([(i:Int)] ++ w) [(i:Int)] (by simp;omega) (by simp)) ?_
 refine FunA.e hP hT (hcr) ?_
 refine FunA.cW hP hT (c_spec_IndexOfElement (zs.map (·.2)) xw hrl (by simp;omega)) ?_
 rintro rs o ⟨rfl,rfl⟩
 rw [hmap,hv]
 refine wF ?_;clear hK K
 refine Run.k [0,4,5,6,7,8,9,10,11,12] [0,1,2,3] ?_
 refine Run.R ?_
 have hv0:decide (0<=v)=true:=by rw [dtE];exact hx1
 rw [hv0]
 refine Run.c ?_ ?_
 ·intro h5
  have h5:s2.getD v.toNat false=false:=by simpa [-List.getD_eq_getElem?_getD] using h5
  rw [ccS_new (st:=(s2,c2)) hcI h5]at hsS
  rw [hsS]at hgS
  simp only []at hsS
  refine Run.R ?_
  refine Run.R ?_
  refine Run.RW ?_
  refine Run.k [0,4,5,6,7,8,9,10,11] [0,1,2,3] ?_
  exact Run.j (ihJ ((i+1,s2.set v.toNat true,c2 ++ [v])) (⟨h4,hgS,hsS,by simp only [lenA];omega,by rw [<- hkk];exact getD_appL hn3⟩) mz)
 ·intro h5
  have h5:s2.getD v.toNat false=true:=by simpa [-List.getD_eq_getElem?_getD] using h5
  rw [ccS_seen (st:=(s2,c2)) hcI h5]at hsS
  rw [hsS]at hgS
  refine Run.RW ?_
  refine Run.k [0,4,5,6,7,8,9,10,11] [0,1,2,3] ?_
  exact Run.j (ihJ ((i+1,s2,c2)) (⟨h4,hgS,hsS,hn3,hkk⟩) mz)
end Go.Proofs.YtcinngodeoidnaaGreatDoor
