/- The connected parts of a diagram: what the program's function does. -/
import Derived.Test.YtcinngodeoidnaaGreatDoorB17
import Derived.Test.YtcinngodeoidnaaGreatDoorB8
import Derived.Test.YtcinngodeoidnaaGreatDoorB9
import Derived.Test.YtcinngodeoidnaaGreatDoorB14
set_option linter.unusedVariables false
set_option linter.unusedSimpArgs false
namespace Go.Proofs.YtcinngodeoidnaaGreatDoor
open Go Go.Aw Go.Cox
theorem count_set {l:List Bool} {i:Nat} (hi:i < l.length) (h:l.getD i false=false):(l.set i true).count true=l.count true+1:=by
 have e:l[i]=false:=by simpa [gdE,hi] using h
 rw [List.count_set hi,e]
 simp
structure Gr (n:Nat) (p:List Bool×List Int):Prop where
 l1:p.1.length=n
 l2:letters n p.2
 l3:p.2.length<=p.1.count true
theorem Gr.le {n:Nat} {p:List Bool×List Int} (h:Gr n p):p.2.length<=n:=by
 have h1:=h.l3
 have h2:=List.count_le_length (a:=true) (l:=p.1)
 have:=h.l1
 omega
theorem stJ_on {p:List Bool×List Int} {j:Int} (h:p.1.getD j.toNat false=true):stJ p j=p:=by unfold stJ;rw [h];rfl
theorem stJ_off {p:List Bool×List Int} {j:Int} (h:p.1.getD j.toNat false=false):stJ p j=(p.1.set j.toNat true,p.2 ++ [j]):=by unfold stJ;rw [h];rfl
theorem Gr.st {n:Nat} {p:List Bool×List Int} (h:Gr n p) {j:Int} (hj:0<=j/\j < n):Gr n (stJ p j):=by
 cases hb:p.1.getD j.toNat false with
 | true=>rw [stJ_on hb];exact h
 | false=>
  rw [stJ_off hb]
  refine⟨by simp [h.l1],letters_append.2 ⟨h.l2,letters_cons.2 ⟨hj,letters_nil _⟩⟩,?_⟩
  have:=h.l3
  rw [count_set (by rw [h.l1];omega) hb]
  simp
  omega
theorem grP_done {c:LL} {f k:Nat} {p:List Bool×List Int} (h:p.2.length<=k):grP c f k p=p:=by
 cases f with
 | zero=>rfl
 | succ f=>
  have:Nat.blt k p.2.length=false:=by
   rw [Bool.eq_false_iff];intro e;rw [Nat.blt_eq]at e;omega
  simp only [grP,this,cond_false]
theorem grP_step {c:LL} {f k:Nat} {p:List Bool×List Int} (h:k < p.2.length):grP c (f+1) k p=grP c f (k+1) ((nbI c (p.2.getD k 0).toNat).foldl stJ p):=by
 have:Nat.blt k p.2.length=true:=by rw [Nat.blt_eq];exact h
 simp only [grP,this,cond_true]
theorem Gr.fold {n:Nat}:∀(l:LI) {p:List Bool×List Int},Gr n p->letters n l->Gr n (l.foldl stJ p)
 | [],_,h,_=>h
 | j :: l,_,h,hl=>by
  obtain⟨h1,h2⟩:=letters_cons.1 hl
  exact Gr.fold l (h.st h1) h2
theorem Gr.grow {c:LL}:∀(f k:Nat) {p:List Bool×List Int},Gr c.length p->Gr c.length (grP c f k p)
 | 0,_,_,h=>h
 | f+1,k,p,h=>by
  rcases Nat.lt_or_ge k p.2.length with hk | hk
  ·rw [grP_step hk]
   exact Gr.grow f (k+1) (h.fold _ nbI_mem)
  ·rw [grP_done hk];exact h
theorem fold_take {α β:Type} (f:β->α->β) (d:α) (l:List α) (b:β) (k:Nat) (h:k < l.length):(l.take (k+1)).foldl f b=f ((l.take k).foldl f b) (l.getD k d):=by
 rw [<- take_snoc d l k h,List.foldl_append];rfl
theorem Gr.one {n:Nat} {seen:List Bool} (h:seen.length=n) {i:Nat} (hi:i < n):Gr n (seen.set i true,[(i:Int)]):=by
 refine⟨by simp [h],letters_cons.2 ⟨⟨by omega,by omega⟩,letters_nil _⟩,?_⟩
 show 1<=(seen.set i true).count true
 exact List.count_pos_iff.2 (List.mem_iff_getElem.2 ⟨i,by simp [h,hi],by simp⟩)
theorem ptS_on {c:LL} {p:List Bool×List (List Int)} {i:Nat} (h:p.1.getD i false=true):ptS c p i=p:=by unfold ptS;rw [h];rfl
theorem ptS_off {c:LL} {p:List Bool×List (List Int)} {i:Nat} (h:p.1.getD i false=false):ptS c p i =
  ((grP c (c.length+1) 0 (p.1.set i true,[(i:Int)])).1,p.2 ++ [sortI (grP c (c.length+1) 0 (p.1.set i true,[(i:Int)])).2]):=by unfold ptS;rw [h];rfl
theorem range_fold {β:Type} (f:β->Nat->β) (b:β) (i:Nat):(List.range (i+1)).foldl f b=f ((List.range i).foldl f b) i:=by
 rw [List.range_succ,List.foldl_append];rfl
theorem c_impl_PartsOf (c:LL) (hc:CartanP c):FunA B 197 [.sl false (.row false) c] (fun rs o=>rs=[.own 0 0]/\∃ ys,rw2 ys=partsI c/\o=[.arr .lrow ys 0 true]):=by
 have hn:=hc.2.1
 refine wk Tryz.call197 Tryz.func197 rfl Tryz.ntmps197 fun C hC hP hT hfn hpin hfin hX=>wW ?_
 refine Run.R ?_
 refine Run.R ?_
 refine Run.g fun K hK=>?_
 refine FunA.cW hP hT (c_impl_IsCartan c) ?_
 rintro rs o ⟨rfl,rfl⟩
 rw [isC_true hc]
 refine wF ?_;clear hK K
 refine Run.c ?_ ?_
 ·intro h;simp at h
 intro _
 refine Run.R ?_
 refine Run.R ?_
 refine Run.k [0,2,3,4,18,19,20] [0,1] ?_
 refine Run.loopI (X:=Nat×List Bool×List (Nat×List Int)) (fun x=>⟨70,[(0,true,.v (.sl false (.row false) c)),(2,true,.v (.nils)),(3,true,.v (.own 0 0)),(4,true,.v (.own 1 0)),(19,true,.v (.int .i64 (c.length))),(20,true,.v (.int .i64 (x.1)))],[.arr .lrow (x.2.2) 0 true,.arr .bool (x.2.1) 0 true]⟩) (fun x=>(x.1<=c.length/\x.2.1.length=c.length/\x.2.2.length<=x.1)/\(List.range x.1).foldl (ptS c) (List.replicate c.length false,[])=(x.2.1,rw2 x.2.2)) (fun x=>c.length - x.1) ((0,List.replicate c.length false,[])) (⟨⟨nz0 _,by simp,by simp⟩,rfl⟩) ?_ ?_
 ·exact Le.s
 rintro⟨i,seen,ys⟩ ⟨⟨hi,hs,hyl⟩,hE⟩ ih
 try simp only []
 simp only []at hi hs hyl hE
 refine Run.R ?_
 refine Run.c ?_ ?_
 rotate_left
 ·intro h
  have h:i=c.length:=by rw [dfE]at h;omega
  subst h
  refine Run.x ?_
  refine Run.R ?_
  refine Run.k [2] [0] ?_
  refine Run.r [2] ?_
  exact⟨rfl,ys,by unfold partsI;rw [hE],rfl⟩
 intro h
 have h:i < c.length:=by rw [dtE]at h;omega
 have hstep:=range_fold (ptS c) (List.replicate c.length false,[]) i
 rw [hE]at hstep
 refine Run.R ?_
 refine Run.R ?_
 refine Run.c ?_ ?_
 ·intro hb
  rw [ptS_on hb]at hstep
  refine Run.x ?_
  refine Run.RW ?_
  refine Run.k [0,2,3,4,19,20] [0,1] ?_
  exact Run.j (ih ((i+1,seen,ys)) (⟨⟨h,hs,by simp only [];omega⟩,hstep⟩) mz)
 intro hb
 have hb:seen.getD i false=false:=hb
 rw [ptS_off hb]at hstep
 have hg0:=Gr.one hs h
 refine Run.R ?_
 refine Run.R ?_
 refine Run.R ?_
 refine Run.k [0,2,3,4,5,6,7,19,20] [0,1,2] ?_
 generalize hG:grP c (c.length+1) 0 (seen.set i true,[(i:Int)])=G at hstep
 refine Run.loopI (X:=Nat×Nat×List Bool×List Int) (fun x=>⟨70,[(0,true,.v (.sl false (.row false) c)),(2,true,.v (.nils)),(3,true,.v (.own 0 0)),(4,true,.v (.own 1 0)),(5,true,.v (.int .i64 i)),(6,true,.v (.own 2 0)),(7,true,.v (.int .i64 (x.1))),(19,true,.v (.int .i64 (c.length))),(20,true,.v (.int .i64 i))],[.arr .lrow (ys) 0 true,.arr .bool (x.2.2.1) 0 true,.arr .int (x.2.2.2) 0 true]⟩) (fun x=>(x.1+x.2.1=c.length+1/\Gr c.length x.2.2)/\grP c x.2.1 x.1 x.2.2=G) (fun x=>c.length+1 - x.1) ((0,c.length+1,seen.set i true,[(i:Int)])) (⟨⟨by simp only [];omega,hg0⟩,hG⟩) ?_ ?_
 ·exact Le.s
 rintro⟨k,f,s2,part⟩ ⟨⟨hkf,hg⟩,hG2⟩ ihO
 try simp only []
 simp only []at hkf hg hG2
 have hpl:=hg.le
 simp only []at hpl
 refine Run.R ?_
 refine Run.c ?_ ?_
 rotate_left
 ·intro h2
  have h2:part.length<=k:=by rw [dfE]at h2;omega
  rw [grP_done h2]at hG2
  subst hG2
  simp only []at hstep
  refine Run.x ?_
  refine Run.g fun K hK=>?_
  refine ACall.sortI hP hT sortIL rfl (fun vs w=>Tryz.call101 vs w) 2 0 rfl om ?_
  refine wF ?_;clear hK K
  refine Run.g fun K hK=>?_
  intro l hl
  refine wF ?_;clear hK K
  refine Run.RW ?_
  refine Run.k [0,2,3,4,19,20] [0,1] ?_
  exact Run.j (ih ((i+1,s2,ys ++ [(l,sortI part)])) (⟨⟨h,hg.l1,by simp only [lenA,lenC,lenN];omega⟩,by rw [hstep];simp [rw2]⟩) mz)
 intro h2
 have h2:k < part.length:=by rw [dtE]at h2;omega
 obtain⟨f',rfl⟩:∃ f',f=f'+1:=⟨f - 1,by omega⟩
 rw [grP_step h2]at hG2
 have hG2:grP c f' (k+1) ((nbI c (part.getD k 0).toNat).foldl stJ (s2,part))=G:=hG2
 obtain⟨p1,p2⟩:=letters_mem (show letters c.length part from hg.l2) h2
 obtain⟨p,hp⟩:∃ p:Nat,part.getD k 0=(p:Int):=⟨(part.getD k 0).toNat,by omega⟩
 rw [hp,Int.toNat_natCast]at hG2
 rw [hp]at p1 p2
 have hnl:=nbK_len c p c.length
 rw [nbK_all]at hnl
 refine Run.g fun K hK=>?_
 rw [hp]
 refine FunA.e hP hT (c_impl_NeighboursOf c p hc om) ?_
 refine wE ?_;clear hK K
 refine Run.k [0,2,3,4,5,6,7,19,20,43,44,45] [0,1,2,3] ?_
 refine Run.loopI (X:=Nat×List Bool×List Int) (fun x=>⟨70,[(0,true,.v (.sl false (.row false) c)),(2,true,.v (.nils)),(3,true,.v (.own 0 0)),(4,true,.v (.own 1 0)),(5,true,.v (.int .i64 i)),(6,true,.v (.own 2 0)),(7,true,.v (.int .i64 k)),(19,true,.v (.int .i64 (c.length))),(20,true,.v (.int .i64 i)),(43,true,.v (.own 3 0)),(44,true,.v (.int .i64 ((nbI c p).length))),(45,true,.v (.int .i64 (x.1)))],[.arr .lrow (ys) 0 true,.arr .bool (x.2.1) 0 true,.arr .int (x.2.2) 0 true,.arr .int ((nbI c p)) 0 true]⟩) (fun x=>(x.1<=(nbI c p).length/\Gr c.length x.2)/\((nbI c p).take x.1).foldl stJ (s2,part)=x.2) (fun x=>(nbI c p).length - x.1) ((0,s2,part)) (⟨⟨nz0 _,hg⟩,rfl⟩) ?_ ?_
 ·exact Le.s
 rintro⟨m,s3,part3⟩ ⟨⟨hm,hg3⟩,hF⟩ ihK
 try simp only []
 simp only []at hm hg3 hF
 have hpl3:=hg3.le
 simp only []at hpl3
 refine Run.R ?_
 refine Run.c ?_ ?_
 rotate_left
 ·intro h3
  have h3:m=(nbI c p).length:=by rw [dfE]at h3;omega
  rw [h3,tkL]at hF
  rw [hF]at hG2
  refine Run.x ?_
  refine Run.RW ?_
  refine Run.k [0,2,3,4,5,6,7,19,20] [0,1,2] ?_
  refine Run.le ?_ (ihO (k+1,f',s3,part3) ⟨⟨by simp only [];omega,hg3⟩,hG2⟩ (by simp only [];omega))
  exact Le.sub (by first | rfl | simp) (by simp only [AW7,simprocAttr];try simp)
 intro h3
 have h3:m < (nbI c p).length:=by rw [dtE]at h3;omega
 obtain⟨j1,j2⟩:=letters_mem (nbI_mem (c:=c) (i:=p)) h3
 have hst:=fold_take stJ 0 (nbI c p) (s2,part) m h3
 rw [hF]at hst
 have hs3:=hg3.l1
 simp only []at hs3
 have hg4:=hg3.st ⟨j1,j2⟩
 refine Run.R ?_
 refine Run.R ?_
 refine Run.c ?_ ?_
 ·intro hb3
  have hb3:s3.getD ((nbI c p).getD m 0).toNat false=false:=by simpa using hb3
  rw [stJ_off hb3]at hst hg4
  refine Run.R ?_
  refine Run.R ?_
  refine Run.RW ?_
  refine Run.k [0,2,3,4,5,6,7,19,20,43,44,45] [0,1,2,3] ?_
  exact Run.j (ihK ((m+1,s3.set ((nbI c p).getD m 0).toNat true,part3 ++ [(nbI c p).getD m 0])) (⟨⟨by simp only [];omega,hg4⟩,hst⟩) mz)
 ·intro hb3
  have hb3:s3.getD ((nbI c p).getD m 0).toNat false=true:=by simpa using hb3
  rw [stJ_on hb3]at hst
  refine Run.RW ?_
  exact Run.j (ihK ((m+1,s3,part3)) (⟨⟨by simp only [];omega,hg3⟩,hst⟩) mz)
theorem stJ_keep {p:List Bool×List Int} {j:Int} {i:Nat} (h:p.1.getD i false=true):(stJ p j).1.getD i false=true:=by
 unfold stJ
 cases hb:p.1.getD j.toNat false with
 | true=>exact h
 | false=>
  simp only [cond_false]
  have hi:i < p.1.length:=by
   rcases Nat.lt_or_ge i p.1.length with h' | h'
   ·exact h'
   ·simp [gdE,geN h']at h
  by_cases e:j.toNat=i
  ·subst e;simp [gdE,hi]
  ·simp only [gdE]at h ⊢
   rw [List.getElem?_set_ne e];exact h
theorem fold_keep {i:Nat}:∀(l:LI) {p:List Bool×List Int},p.1.getD i false=true->(l.foldl stJ p).1.getD i false=true
 | [],_,h=>h
 | j :: l,_,h=>fold_keep l (stJ_keep h)
theorem grP_keep {c:LL} {i:Nat}:∀(f k:Nat) {p:List Bool×List Int},p.1.getD i false=true->(grP c f k p).1.getD i false=true
 | 0,_,_,h=>h
 | f+1,k,p,h=>by
  rcases Nat.lt_or_ge k p.2.length with hk | hk
  ·rw [grP_step hk];exact grP_keep f (k+1) (fold_keep _ h)
  ·rw [grP_done hk];exact h
def marks (c:LL) (i:Nat):List Bool:=(grP c (c.length+1) 0 ((List.replicate c.length false).set i true,[(i:Int)])).1
def mkK (s:List Bool) (k:Nat):List Int:=((List.range k).filter fun(k:Nat)=>s.getD k false).map Int.ofNat
theorem mkK_all (c:LL) (i:Nat):mkK (marks c i) c.length=partS c i:=rfl
theorem mkK_step (s:List Bool) (k:Nat):mkK s (k+1)=if s.getD k false=true then mkK s k ++ [(k:Int)]else mkK s k:=by
 unfold mkK
 rw [List.range_succ,List.filter_append,List.map_append]
 by_cases h:s.getD k false=true
 ·rw [if_pos h,List.filter_cons_of_pos (p:=fun(k:Nat)=>s.getD k false) h];rfl
 ·have h:s.getD k false=false:=by simpa using h
  rw [if_neg (by rw [h];decide),List.filter_cons_of_neg (p:=fun(k:Nat)=>s.getD k false) (by rw [h];decide)];exact List.append_nil _
theorem mkK_len (s:List Bool) (k:Nat):(mkK s k).length<=k:=by
 unfold mkK
 rw [List.length_map]
 exact Nat.le_trans (List.length_filter_le ..) (by simp)
theorem marks_self {c:LL} {i:Nat} (hi:i < c.length):(marks c i).getD i false=true:=
 grP_keep _ _ (by simp [gdE,hi])
theorem partS_letters (c:LL) (i:Nat):letters c.length (partS c i):=by
 intro x hx
 simp only [partS,List.mem_map,List.mem_filter,List.mem_range]at hx
 obtain⟨j,⟨h1,_⟩,rfl⟩:=hx
 exact⟨by simp,by simpa using h1⟩
theorem partS_ne {c:LL} {i:Nat} (hi:i < c.length):0 < (partS c i).length:=by
 apply List.length_pos_of_mem (a:=(i:Int))
 exact List.mem_map.2 ⟨i,List.mem_filter.2 ⟨List.mem_range.2 hi,marks_self hi⟩,rfl⟩
theorem c_spec_l3Part (c:LL) (i:Nat) (hc:CartanP c) (hi:i < c.length):FunA B 152 [.sl false (.row false) c,.int .i64 i] (fun rs o=>rs=[.own 0 0]/\o=[.arr .int (partS c i) 0 true]):=by
 have hn:=hc.2.1
 have hg0:=Gr.one (seen:=List.replicate c.length false) (n:=c.length) (by simp) hi
 refine wk Tryz.call152 Tryz.func152 rfl Tryz.ntmps152 fun C hC hP hT hfn hpin hfin hX=>wW ?_
 refine Run.R ?_
 refine Run.R ?_
 refine Run.R ?_
 refine Run.R ?_
 refine Run.R ?_
 refine Run.k [0,1,4,5,6,7] [0,1] ?_
 generalize hG:grP c (c.length+1) 0 ((List.replicate c.length false).set i true,[(i:Int)])=G
 have hGm:G.1=marks c i:=by rw [<- hG];rfl
 refine Run.loopI (X:=Nat×Nat×List Bool×List Int) (fun x=>⟨75,[(0,true,.v (.sl false (.row false) c)),(1,true,.v (.int .i64 i)),(4,true,.v (.nils)),(5,true,.v (.own 0 0)),(6,true,.v (.own 1 0)),(7,true,.v (.int .i64 (x.1)))],[.arr .bool (x.2.2.1) 0 true,.arr .int (x.2.2.2) 0 true]⟩) (fun x=>(x.1+x.2.1=c.length+1/\Gr c.length x.2.2)/\grP c x.2.1 x.1 x.2.2=G) (fun x=>c.length+1 - x.1) ((0,c.length+1,(List.replicate c.length false).set i true,[(i:Int)])) (⟨⟨by simp only [];omega,hg0⟩,hG⟩) ?_ ?_
 ·exact Le.s
 rintro⟨k,f,s2,part⟩ ⟨⟨hkf,hg⟩,hG2⟩ ihO
 try simp only []
 simp only []at hkf hg hG2
 have hpl:=hg.le
 simp only []at hpl
 refine Run.R ?_
 refine Run.c ?_ ?_
 rotate_left
 ·intro h2
  have h2:part.length<=k:=by rw [dfE]at h2;omega
  rw [grP_done h2]at hG2
  subst hG2
  have hs2:s2=marks c i:=hGm
  have hs2l:s2.length=c.length:=hg.l1
  refine Run.x ?_
  refine Run.R ?_
  refine Run.R ?_
  refine Run.k [0,1,4,5,10,11] [0,2] ?_
  refine Run.loopI (X:=Nat) (fun m=>⟨75,[(0,true,.v (.sl false (.row false) c)),(1,true,.v (.int .i64 i)),(4,true,.v (.nils)),(5,true,.v (.own 0 0)),(10,true,.v (.own 1 0)),(11,true,.v (.int .i64 m))],[.arr .bool (s2) 0 true,.arr .int ((mkK s2 m)) 0 true]⟩) (fun m=>m<=c.length) (fun m=>c.length - m) (0) (nz0 _) ?_ ?_
  ·exact Le.s
  rintro m hm ih
  try simp only []
  have hml:=mkK_len s2 m
  refine Run.R ?_
  refine Run.c ?_ ?_
  rotate_left
  ·intro h3
   have h3:m=c.length:=by rw [dfE]at h3;omega
   subst h3
   refine Run.x ?_
   refine Run.R ?_
   refine Run.k [4] [1] ?_
   refine Run.r [4] ?_
   exact⟨rfl,by rw [<- mkK_all,<- hs2]⟩
  intro h3
  have h3:m < c.length:=by rw [dtE]at h3;omega
  have e:=mkK_step s2 m
  refine Run.R ?_
  refine Run.c ?_ ?_
  ·intro hb
   have hb:s2.getD m false=true:=hb
   rw [if_pos hb]at e
   refine Run.R ?_
   refine Run.RW ?_
   refine Run.k [0,1,4,5,10,11] [0,1] ?_
   refine Run.le ?_ (ih (m+1) om (by(try simp only [lenA,lenC,lenN]);omega))
   exact Le.sub (by first | rfl | (simp only [e];done) | (rw [e];rfl)) (by simp only [AW7,simprocAttr];try simp)
  ·intro hb
   have hb:s2.getD m false=false:=hb
   rw [if_neg (by rw [hb];decide)]at e
   refine Run.RW ?_
   refine Run.le ?_ (ih (m+1) om (by(try simp only [lenA,lenC,lenN]);omega))
   exact Le.sub (by first | rfl | (simp only [e];done) | (rw [e];rfl)) (by simp only [AW7,simprocAttr];try simp)
 intro h2
 have h2:k < part.length:=by rw [dtE]at h2;omega
 obtain⟨f',rfl⟩:∃ f',f=f'+1:=⟨f - 1,by omega⟩
 rw [grP_step h2]at hG2
 have hG2:grP c f' (k+1) ((nbI c (part.getD k 0).toNat).foldl stJ (s2,part))=G:=hG2
 obtain⟨p1,p2⟩:=letters_mem (show letters c.length part from hg.l2) h2
 obtain⟨p,hp⟩:∃ p:Nat,part.getD k 0=(p:Int):=⟨(part.getD k 0).toNat,by omega⟩
 rw [hp,Int.toNat_natCast]at hG2
 rw [hp]at p1 p2
 have hnl:=nbK_len c p c.length
 rw [nbK_all]at hnl
 refine Run.g fun K hK=>?_
 rw [hp]
 refine FunA.e hP hT (c_spec_NeighboursOf c p hc om) ?_
 refine wE ?_;clear hK K
 refine Run.R ?_
 refine Run.k [0,1,4,5,6,7,8,9] [0,1,2] ?_
 refine Run.loopI (X:=Nat×List Bool×List Int) (fun x=>⟨75,[(0,true,.v (.sl false (.row false) c)),(1,true,.v (.int .i64 i)),(4,true,.v (.nils)),(5,true,.v (.own 0 0)),(6,true,.v (.own 1 0)),(7,true,.v (.int .i64 k)),(8,true,.v (.own 2 0)),(9,true,.v (.int .i64 (x.1)))],[.arr .bool (x.2.1) 0 true,.arr .int (x.2.2) 0 true,.arr .int ((nbI c p)) 0 true]⟩) (fun x=>(x.1<=(nbI c p).length/\Gr c.length x.2)/\((nbI c p).take x.1).foldl stJ (s2,part)=x.2) (fun x=>(nbI c p).length - x.1) ((0,s2,part)) (⟨⟨nz0 _,hg⟩,rfl⟩) ?_ ?_
 ·exact Le.s
 rintro⟨m,s3,part3⟩ ⟨⟨hm,hg3⟩,hF⟩ ihK
 try simp only []
 simp only []at hm hg3 hF
 have hpl3:=hg3.le
 simp only []at hpl3
 refine Run.R ?_
 refine Run.c ?_ ?_
 rotate_left
 ·intro h3
  have h3:m=(nbI c p).length:=by rw [dfE]at h3;omega
  rw [h3,tkL]at hF
  rw [hF]at hG2
  refine Run.x ?_
  refine Run.RW ?_
  refine Run.k [0,1,4,5,6,7] [0,1] ?_
  refine Run.le ?_ (ihO (k+1,f',s3,part3) ⟨⟨by simp only [];omega,hg3⟩,hG2⟩ (by simp only [];omega))
  exact Le.sub (by first | rfl | simp) (by simp only [AW7,simprocAttr];try simp)
 intro h3
 have h3:m < (nbI c p).length:=by rw [dtE]at h3;omega
 obtain⟨j1,j2⟩:=letters_mem (nbI_mem (c:=c) (i:=p)) h3
 have hst:=fold_take stJ 0 (nbI c p) (s2,part) m h3
 rw [hF]at hst
 have hs3:=hg3.l1
 simp only []at hs3
 have hg4:=hg3.st ⟨j1,j2⟩
 refine Run.R ?_
 refine Run.c ?_ ?_
 ·intro hb3
  have hb3:s3.getD ((nbI c p).getD m 0).toNat false=false:=by simpa using hb3
  rw [stJ_off hb3]at hst hg4
  refine Run.R ?_
  refine Run.R ?_
  refine Run.RW ?_
  refine Run.k [0,1,4,5,6,7,8,9] [0,1,2] ?_
  exact Run.j (ihK ((m+1,s3.set ((nbI c p).getD m 0).toNat true,part3 ++ [(nbI c p).getD m 0])) (⟨⟨by simp only [];omega,hg4⟩,hst⟩) mz)
 ·intro hb3
  have hb3:s3.getD ((nbI c p).getD m 0).toNat false=true:=by simpa using hb3
  rw [stJ_on hb3]at hst
  refine Run.RW ?_
  exact Run.j (ihK ((m+1,s3,part3)) (⟨⟨by simp only [];omega,hg3⟩,hst⟩) mz)
def ptK (c:LL) (k:Nat):List (List Int):=((List.range k).map (partS c)).zipIdx.filterMap fun p=>bif p.1.getD 0 0 == (p.2:Int)then some p.1 else none
theorem ptK_step (c:LL) (k:Nat):ptK c (k+1)=if (partS c k).getD 0 0=(k:Int)then ptK c k ++ [partS c k]else ptK c k:=by
 unfold ptK
 rw [List.range_succ,List.map_append,List.zipIdx_append,List.filterMap_append]
 by_cases h:(partS c k).getD 0 0=(k:Int)
 ·rw [if_pos h]
  have h':((partS c k)[0]?.getD 0 == (k:Int))=true:=by rw [<- gdE];simpa using h
  simp [h']
 ·rw [if_neg h]
  have h':((partS c k)[0]?.getD 0 == (k:Int))=false:=by rw [<- gdE];simpa using h
  simp [h']
theorem c_spec_PartsOf (c:LL) (hc:CartanP c):FunA B 112 [.sl false (.row false) c] (fun rs o=>rs=[.own 0 0]/\∃ ys,rw2 ys=partsS c/\o=[.arr .lrow ys 0 true]):=by
 have hn:=hc.2.1
 refine wk Tryz.call112 Tryz.func112 rfl Tryz.ntmps112 fun C hC hP hT hfn hpin hfin hX=>wW ?_
 refine Run.R ?_
 refine Run.R ?_
 refine Run.R ?_
 refine Run.loopI (X:=Nat×List (Nat×List Int)) (fun x=>⟨30,[(0,true,.v (.sl false (.row false) c)),(2,true,.v (.nils)),(3,true,.v (.own 0 0)),(4,true,.v (.int .i64 (x.1)))],[.arr .lrow (x.2) 0 true]⟩) (fun x=>(x.1<=c.length/\x.2.length<=x.1)/\rw2 x.2=ptK c x.1) (fun x=>c.length - x.1) ((0,[])) (⟨⟨nz0 _,by simp⟩,rfl⟩) ?_ ?_
 ·exact Le.s
 rintro⟨i,ys⟩ ⟨⟨hi,hyl⟩,hE⟩ ih
 try simp only []
 simp only []at hi hyl hE
 rcases Nat.lt_or_ge i c.length with h | h
 ·have hd:decide ((i:Int) < c.length)=true:=by simp;exact h
  refine Run.g fun K hK=>?_
  rw [hd]
  refine .inl (FunA.callG hP hT (c_spec_IsCartan c) (fun _=>rfl) (fun _=>by simp only [AW7,simprocAttr]) ?_)
  rw [isC_true hc]
  refine wF ?_;clear hK K
  refine Run.c ?_ ?_
  rotate_left
  ·intro h;simp at h
  intro _
  have hpn:=partS_ne h
  have hst:=ptK_step c i
  refine Run.g fun K hK=>?_
  refine FunA.e hP hT (c_spec_l3Part c i hc h) ?_
  refine wE ?_;clear hK K
  refine Run.R ?_
  refine Run.c ?_ ?_
  ·intro h2
   have h2:(partS c i).getD 0 0=(i:Int):=by simpa using h2
   rw [if_pos h2]at hst
   refine Run.g fun K hK=>?_
   intro l hl
   refine wF ?_;clear hK K
   refine Run.RW ?_
   refine Run.k [0,2,3,4] [0] ?_
   exact Run.j (ih ((i+1,ys ++ [(l,partS c i)])) (⟨⟨h,by simp only [lenA,lenC,lenN];omega⟩,by rw [hst,<- hE];simp [rw2]⟩) mz)
  ·intro h2
   have h2:¬(partS c i).getD 0 0=(i:Int):=by simpa using h2
   rw [if_neg h2]at hst
   refine Run.RW ?_
   refine Run.k [0,2,3,4] [0] ?_
   exact Run.j (ih ((i+1,ys)) (⟨⟨h,by simp only [];omega⟩,by rw [hst,<- hE]⟩) mz)
 ·have h:i=c.length:=by omega
  subst h
  have hd:decide ((c.length:Int) < c.length)=false:=by simp
  refine Run.g fun K hK=>?_
  rw [hd]
  refine .inl (CallG.off (.bool false) ?_)
  refine wF ?_;clear hK K
  refine Run.c ?_ ?_
  ·intro h;simp at h
  intro _
  refine Run.x ?_
  refine Run.R ?_
  refine Run.r [2] ?_
  exact⟨rfl,ys,hE,rfl⟩
theorem c_impl_IsConnected (c:LL) (hc:CartanP c):FunA B 215 [.sl false (.row false) c] (fun rs o=>rs=[.bool ((partsI c).length == 1)]/\o=[]):=by
 refine wk Tryz.call215 Tryz.func215 rfl Tryz.ntmps215 fun C hC hP hT hfn hpin hfin hX=>wW ?_
 refine Run.R ?_
 refine Run.g fun K hK=>?_
 refine FunA.cW hP hT (c_impl_PartsOf c hc) ?_
 rintro rs o ⟨rfl,ys,hy,rfl⟩
 refine wF ?_;clear hK K
 refine Run.k [2] [] ?_
 refine Run.r [2] ?_
 have e:ys.length=(partsI c).length:=by rw [<- hy];simp [rw2]
 rw [e]
 refine⟨?_,rfl⟩
 congr 2
 rw [Bool.eq_iff_iff]
 simp
 omega
def extO (n:Nat) (x:Nat) (o:LI):List (List Int):=((List.range x).filter fun(y:Nat)=>!decide ((y:Int)∈o)).map fun(y:Nat)=>o ++ [(y:Int)]
def ordK (n i k:Nat):List (List Int):=((ordN n i).take k).flatMap (extO n n)
theorem ordK_all (n i:Nat):ordK n i (ordN n i).length=ordN n (i+1):=by
 unfold ordK;rw [tkL];rfl
theorem ordK_step (n i k:Nat) (h:k < (ordN n i).length):ordK n i (k+1)=ordK n i k ++ extO n n ((ordN n i).getD k []):=by
 unfold ordK
 rw [<- take_snoc [] _ k h,List.flatMap_append]
 simp
theorem extO_step (n x:Nat) (o:LI):extO n (x+1) o=if (x:Int)∈o then extO n x o else extO n x o ++ [o ++ [(x:Int)]]:=by
 unfold extO
 rw [List.range_succ,List.filter_append,List.map_append]
 by_cases h:(x:Int)∈o
 ·rw [if_pos h]
  simp [h]
 ·rw [if_neg h]
  simp [h]
theorem ordN_small:∀ n,n < 5->∀ i,i < 5->(ordN n i).length<=24/\∀ o∈ordN n i,o.length=i:=by decide +kernel
theorem ordN_fine:∀ n,n < 5->∀ o∈ordN n n,o.length=n/\o.Nodup/\∀ x∈o,0<=x/\x < (n:Int):=by decide +kernel
theorem c_spec_l3Orders (n:Nat) (hn:n<=4):FunA B 192 [.int .i64 n] (fun rs o=>rs=[.own 0 0]/\∃ ys,rw2 ys=ordN n n/\o=[.arr .lrow ys 0 true]):=by
 refine wk Tryz.call192 Tryz.func192 rfl Tryz.ntmps192 fun C hC hP hT hfn hpin hfin hX=>wW ?_
 refine Run.R ?_
 refine Run.g fun K hK=>?_
 intro l hl
 refine wF ?_;clear hK K
 refine Run.R ?_
 refine Run.k [0,2,3,4] [1] ?_
 refine Run.loopI (X:=Nat×List (Nat×List Int)) (fun x=>⟨48,[(0,true,.v (.int .i64 n)),(2,true,.v (.nils)),(3,true,.v (.own 0 0)),(4,true,.v (.int .i64 (x.1)))],[.arr .lrow (x.2) 0 true]⟩) (fun x=>x.1<=n/\rw2 x.2=ordN n x.1) (fun x=>n - x.1) ((0,[(l,[])])) (⟨nz0 _,rfl⟩) ?_ ?_
 ·exact Le.s
 rintro⟨i,ys⟩ ⟨hi,hE⟩ ihO
 try simp only []
 simp only []at hi hE
 have hyl:ys.length=(ordN n i).length:=by rw [<- hE];simp [rw2]
 obtain⟨hb,hol⟩:=ordN_small n om i om
 refine Run.R ?_
 refine Run.c ?_ ?_
 rotate_left
 ·intro h
  have h:i=n:=by rw [dfE]at h;omega
  subst h
  refine Run.x ?_
  refine Run.R ?_
  refine Run.k [2] [0] ?_
  refine Run.r [2] ?_
  exact⟨rfl,ys,hE,rfl⟩
 intro h
 have h:i < n:=by rw [dtE]at h;omega
 refine Run.R ?_
 refine Run.R ?_
 refine Run.k [0,2,3,4,5,6] [0,1] ?_
 refine Run.loopI (X:=Nat×List (Nat×List Int)) (fun x=>⟨48,[(0,true,.v (.int .i64 n)),(2,true,.v (.nils)),(3,true,.v (.own 0 0)),(4,true,.v (.int .i64 i)),(5,true,.v (.own 1 0)),(6,true,.v (.int .i64 (x.1)))],[.arr .lrow (ys) 0 true,.arr .lrow (x.2) 0 true]⟩) (fun x=>(x.1<=ys.length/\x.2.length<=4*x.1)/\rw2 x.2=ordK n i x.1) (fun x=>ys.length - x.1) ((0,[])) (⟨⟨nz0 _,by simp⟩,rfl⟩) ?_ ?_
 ·exact Le.s
 rintro⟨k,zs⟩ ⟨⟨hk,hzl⟩,hZ⟩ ihK
 try simp only []
 simp only []at hk hzl hZ
 refine Run.R ?_
 refine Run.c ?_ ?_
 rotate_left
 ·intro h2
  have h2:k=ys.length:=by rw [dfE]at h2;omega
  subst h2
  rw [hyl,ordK_all]at hZ
  refine Run.x ?_
  refine Run.R ?_
  refine Run.RW ?_
  refine Run.k [0,2,3,4] [1] ?_
  refine Run.le ?_ (ihO (i+1,zs) ⟨h,hZ⟩ (by simp only [];omega))
  exact Le.sub (by first | rfl | simp) (by simp only [AW7,simprocAttr];try simp)
 intro h2
 have h2:k < ys.length:=by rw [dtE]at h2;omega
 have hk2:k < (ordN n i).length:=by omega
 have hst:=ordK_step n i k hk2
 have hgo:(ys.getD k (0,[])).2=(ordN n i).getD k []:=by rw [<- hE];simp [rw2,gdE,h2]
 have hlo:((ordN n i).getD k []).length<=4:=by
  have:=hol _ (by simp [gdE,hk2]:(ordN n i).getD k []∈ordN n i)
  omega
 generalize ho:(ordN n i).getD k []=o at *
 refine Run.R ?_
 refine Run.k [0,2,3,4,5,6,7] [0,1] ?_
 refine Run.loopI (X:=Nat×List (Nat×List Int)) (fun x=>⟨48,[(0,true,.v (.int .i64 n)),(2,true,.v (.nils)),(3,true,.v (.own 0 0)),(4,true,.v (.int .i64 i)),(5,true,.v (.own 1 0)),(6,true,.v (.int .i64 k)),(7,true,.v (.int .i64 (x.1)))],[.arr .lrow (ys) 0 true,.arr .lrow (x.2) 0 true]⟩) (fun x=>(x.1<=n/\x.2.length<=4*k+x.1)/\rw2 x.2=ordK n i k ++ extO n x.1 o) (fun x=>n - x.1) ((0,zs)) (⟨⟨nz0 _,by simp only [];omega⟩,by rw [hZ];simp [extO]⟩) ?_ ?_
 ·exact Le.s
 rintro⟨x,us⟩ ⟨⟨hx,hul⟩,hU⟩ ihJ
 try simp only []
 simp only []at hx hul hU
 refine Run.R ?_
 refine Run.c ?_ ?_
 rotate_left
 ·intro h3
  have h3:x=n:=by rw [dfE]at h3;omega
  subst h3
  rw [<- hst]at hU
  refine Run.x ?_
  refine Run.RW ?_
  exact Run.j (ihK ((k+1,us)) (⟨⟨h2,by simp only [];omega⟩,hU⟩) mz)
 intro h3
 have h3:x < n:=by rw [dtE]at h3;omega
 have he:=extO_step n x o
 refine Run.g fun K hK=>?_
 try rw [hgo]
 refine FunA.cW hP hT (c_spec_l3Has o (x:Int)) ?_
 rintro rs ob ⟨rfl,rfl⟩
 refine wF ?_;clear hK K
 refine Run.c ?_ ?_
 ·intro h4
  have h4:¬(x:Int)∈o:=by simpa using h4
  rw [if_neg h4]at he
  refine Run.g fun K hK=>?_
  try rw [hgo]
  intro l2 hl2
  refine wF ?_;clear hK K
  refine Run.RW ?_
  refine Run.k [0,2,3,4,5,6,7] [0,1] ?_
  exact Run.j (ihJ ((x+1,us ++ [(l2,o ++ [(x:Int)])])) (⟨⟨h3,by simp only [lenA,lenC,lenN];omega⟩,by rw [he,<- List.append_assoc,<- hU];simp [rw2]⟩) mz)
 ·intro h4
  have h4:(x:Int)∈o:=by simpa using h4
  rw [if_pos h4]at he
  refine Run.RW ?_
  exact Run.j (ihJ ((x+1,us)) (⟨⟨h3,by simp only [];omega⟩,by rw [he];exact hU⟩) mz)
theorem rows_ne {a b:LL} (i:Nat) (h:a.getD i []≠b.getD i []):a≠b:=fun e=>h (by rw [e])
theorem ints_ne {a b:LI} (i:Nat) (h:a.getD i 0≠b.getD i 0):a≠b:=fun e=>h (by rw [e])
theorem rows_ext {a b:LL} (h:a.length=b.length) (h2:∀ i,i < a.length->a.getD i []=b.getD i []):a=b:=by
 apply List.ext_getElem h
 intro i h3 h4
 have:=h2 i h3
 simpa [gdE,h3,h4] using this
theorem ints_ext {a b:LI} (h:a.length=b.length) (h2:∀ i,i < a.length->a.getD i 0=b.getD i 0):a=b:=by
 apply List.ext_getElem h
 intro i h3 h4
 have:=h2 i h3
 simpa [gdE,h3,h4] using this
theorem c_spec_EqualCartans (a b:LL) (hr:∀ k,k < a.length->(a.getD k []).length<=1048576):FunA B 194 [.sl false (.row false) a,.sl false (.row false) b] (fun rs o=>rs=[.bool (decide (a=b))]/\o=[]):=by
 refine wk Tryz.call194 Tryz.func194 rfl Tryz.ntmps194 fun C hC hP hT hfn hpin hfin hX=>wW ?_
 refine Run.len 0 rfl fun hla=>?_
 refine Run.len 1 rfl fun hlb=>?_
 refine Run.R ?_
 refine Run.R ?_
 refine Run.c ?_ ?_
 ·intro h
  have h:a.length≠b.length:=by rw [bne_iff_ne]at h;omega
  refine Run.R ?_
  refine Run.r [4] ?_
  exact⟨by rw [decide_eq_false (fun e=>h (by rw [e]))],rfl⟩
 intro h
 have h:a.length=b.length:=by rw [bne_eq_false_iff_eq]at h;omega
 refine Run.R ?_
 refine Run.k [0,1,4,5] [] ?_
 refine Run.loopI (X:=Nat) (fun i=>⟨53,[(0,true,.v (.sl false (.row false) a)),(1,true,.v (.sl false (.row false) b)),(4,true,.v (.bool false)),(5,true,.v (.int .i64 i))],[]⟩) (fun i=>i<=a.length/\∀ k,k < i->a.getD k []=b.getD k []) (fun i=>a.length - i) (0) (⟨nz0 _,fun k hk=>by omega⟩) ?_ ?_
 ·exact Le.s
 rintro i ⟨hi,hE⟩ ihO
 try simp only []
 refine Run.R ?_
 refine Run.c ?_ ?_
 rotate_left
 ·intro h2
  have h2:i=a.length:=by rw [dfE]at h2;omega
  subst h2
  refine Run.x ?_
  refine Run.R ?_
  refine Run.r [4] ?_
  exact⟨by rw [decide_eq_true (rows_ext h hE)],rfl⟩
 intro h2
 have h2:i < a.length:=by rw [dtE]at h2;omega
 have hxl:=hr i h2
 generalize hx:a.getD i []=x at hxl
 generalize hy:b.getD i []=y
 refine Run.nq ?_;refine Run.regionD hC true [0,1,2,3,4,5,6,7,8,9,10] (by kernel_rfl) (fun K hK=>?_);simp only [AW7,simprocAttr,hX];(repeat(with_reducible refine And.intro ?_ ?_);exact vc0)
 rw [hx,hy]
 refine wE ?_;clear hK K
 refine Run.c ?_ ?_
 ·intro h3
  have h3:x.length≠y.length:=by rw [bne_iff_ne]at h3;omega
  refine Run.R ?_
  refine Run.r [4] ?_
  exact⟨by rw [decide_eq_false (rows_ne i (by rw [hx,hy];exact fun e=>h3 (by rw [e])))],rfl⟩
 intro h3
 have h3:x.length=y.length:=by rw [bne_eq_false_iff_eq]at h3;omega
 refine Run.R ?_
 refine Run.k [0,1,4,5,6] [] ?_
 refine Run.loopI (X:=Nat) (fun j=>⟨53,[(0,true,.v (.sl false (.row false) a)),(1,true,.v (.sl false (.row false) b)),(4,true,.v (.bool false)),(5,true,.v (.int .i64 i)),(6,true,.v (.int .i64 j))],[]⟩) (fun j=>j<=x.length/\∀ k,k < j->x.getD k 0=y.getD k 0) (fun j=>x.length - j) (0) (⟨nz0 _,fun k hk=>by omega⟩) ?_ ?_
 ·exact Le.s
 rintro j ⟨hj,hF⟩ ih
 try simp only []
 refine Run.g fun K hK=>?_
 rw [hx]
 refine wE ?_;clear hK K
 refine Run.c ?_ ?_
 rotate_left
 ·intro h4
  have h4:j=x.length:=by rw [dfE]at h4;omega
  subst h4
  have hxy:=ints_ext h3 hF
  refine Run.x ?_
  refine Run.RW ?_
  refine Run.k [0,1,4,5] [] ?_
  refine Run.le ?_ (ihO (i+1) (⟨h2,fun k hk=>(by
   by_cases hk2:k=i
   ·subst hk2;rw [hx,hy];exact hxy
   ·exact hE k om)⟩) (by(try simp only [lenA,lenC,lenN]);omega))
  exact Le.sub (by rfl) (by simp only [AW7,simprocAttr];try simp)
 intro h4
 have h4:j < x.length:=by rw [dtE]at h4;omega
 refine Run.nq ?_;refine Run.regionD hC true [0,1,2,3,4,5,6,7,8,9,10,11,12,13,14] (by kernel_rfl) (fun K hK=>?_);simp only [AW7,simprocAttr,hX];(repeat(with_reducible refine And.intro ?_ ?_);exact vc0)
 rw [hx,hy]
 refine wE ?_;clear hK K
 refine Run.c ?_ ?_
 ·intro h5
  have h5:x.getD j 0≠y.getD j 0:=by simpa [-List.getD_eq_getElem?_getD] using h5
  refine Run.R ?_
  refine Run.r [4] ?_
  exact⟨by rw [decide_eq_false (rows_ne i (by rw [hx,hy];exact ints_ne j h5))],rfl⟩
 ·intro h5
  have h5:x.getD j 0=y.getD j 0:=by simpa [-List.getD_eq_getElem?_getD] using h5
  refine Run.RW ?_
  refine Run.k [0,1,4,5,6] [] ?_
  refine Run.le ?_ (ih (j+1) (⟨h4,fun k hk=>(by
   by_cases hk2:k=j
   ·subst hk2;exact h5
   ·exact hF k om)⟩) (by(try simp only [lenA,lenC,lenN]);omega))
  exact Le.sub (by rfl) (by simp only [AW7,simprocAttr];try simp)
theorem c_spec_RelabelCartan (c:LL) (s:LI) (hc:CartanP c) (hlet:letters c.length s) (hnd:s.Nodup) (hsl:s.length=c.length) :
  FunA B 193 [.sl false (.row false) c,.sl false .int s] (fun rs o=>rs=[.own 0 0,.bool true]/\∃ ys,ys.map (·.2)=pick c s/\o=[.arr .lrow ys 0 true]):=by
 have hn:=hc.2.1
 refine wk Tryz.call193 Tryz.func193 rfl Tryz.ntmps193 fun C hC hP hT hfn hpin hfin hX=>wW ?_
 refine Run.R ?_
 refine Run.g fun K hK=>?_
 refine FunA.cW hP hT (c_spec_IsCartan c) ?_
 rintro rs o ⟨rfl,rfl⟩
 rw [isC_true hc]
 refine wF ?_;clear hK K
 refine Run.c ?_ ?_
 ·intro h
  simp [hsl]at h
 intro h
 clear h
 refine Run.R ?_
 refine Run.k [0,1,4,5,6] [] ?_
 refine Run.loopI (X:=Nat) (fun m=>⟨83,[(0,true,.v (.sl false (.row false) c)),(1,true,.v (.sl false .int s)),(4,true,.v (.nils)),(5,true,.v (.bool false)),(6,true,.v (.int .i64 m))],[]⟩) (fun m=>m<=s.length) (fun m=>s.length - m) (0) (nz0 _) ?_ ?_
 ·exact Le.s
 rintro m hm ihO
 try simp only []
 refine Run.R ?_
 refine Run.c ?_ ?_
 ·intro h
  have h:m < s.length:=by simpa using h
  obtain⟨a1,a2⟩:=letters_mem hlet h
  have hno:¬s.getD m 0∈s.take m:=by
   intro hi
   obtain⟨k,hk,e⟩:=List.getElem_of_mem hi
   have hk:k < m:=by simp at hk;omega
   rw [List.getElem_take]at e
   rw [gdE,geE h,Option.getD_some]at e
   have:=(List.nodup_iff_pairwise_ne.1 hnd)
   rw [List.pairwise_iff_getElem]at this
   exact this k m om h hk e
  refine Run.nq ?_;refine Run.regionD hC true [0,1,2,3,4,5,6,7,8,9,10,11,12,13,14,15,16,17,18] (by kernel_rfl) (fun K hK=>?_);simp(disch:=omega) only [wrap_id,AW7,simprocAttr,hX];(repeat(with_reducible refine And.intro ?_ ?_);exact vc0)
  refine FunA.callD hP hT (c_spec_l1In (s.getD m 0) 0 ((c.length:Int) - 1)) (by simp only [AW7,simprocAttr]) ?_
  rintro rs o ⟨rfl,rfl⟩
  have hin:inB (s.getD m 0) 0 ((c.length:Int) - 1)=true:=inB_iff.2 om
  rw [hin]
  refine wWW ?_
  rw [Nat.sub_zero,List.drop_zero]
  refine .inl (FunA.callG hP hT (c_spec_l3Has (s.take m) (s.getD m 0)) (fun _=>rfl) (fun _=>by simp only [AW7,simprocAttr]) ?_)
  rw [decide_eq_false hno]
  refine wWW ?_
  refine wE ?_;clear hK K
  refine Run.c ?_ ?_
  ·intro h2;simp at h2
  intro _
  refine Run.RW ?_
  refine Run.k [0,1,4,5,6] [] ?_
  exact Run.j (ihO (m+1) om mz)
 intro h
 clear h
 refine Run.x ?_
 refine Run.R ?_
 refine Run.R ?_
 refine Run.k [0,1,4,5,7,8] [0] ?_
 refine Run.loopI (X:=Nat×List (Nat×List Int)) (fun m=>⟨83,[(0,true,.v (.sl false (.row false) c)),(1,true,.v (.sl false .int s)),(4,true,.v (.nils)),(5,true,.v (.bool false)),(7,true,.v (.own 0 0)),(8,true,.v (.int .i64 (m.1)))],[.arr .lrow (m.2) 0 true]⟩) (fun m=>m.1<=s.length/\m.2.map (·.2)=(s.take m.1).map (rowP c s)) (fun m=>s.length - m.1) ((0,[])) (⟨nz0 _,rfl⟩) ?_ ?_
 ·exact Le.s
 rintro⟨m,ys⟩ ⟨hm,hy⟩ ih
 try simp only []
 simp only []at hm hy
 have hyl:ys.length=m:=by have:=congrArg List.length hy;simpa [hm] using this
 refine Run.R ?_
 refine Run.c ?_ ?_
 ·intro h
  have h:m < s.length:=by simpa using h
  obtain⟨a1,a2⟩:=letters_mem hlet h
  have hr:=hc.2.2.1 (s.getD m 0).toNat om
  refine Run.R ?_
  refine Run.R ?_
  refine Run.k [0,1,4,5,7,8,9,10] [0,1] ?_
  refine Run.loopI (X:=Nat) (fun k=>⟨83,[(0,true,.v (.sl false (.row false) c)),(1,true,.v (.sl false .int s)),(4,true,.v (.nils)),(5,true,.v (.bool false)),(7,true,.v (.own 0 0)),(8,true,.v (.int .i64 m)),(9,true,.v (.own 1 0)),(10,true,.v (.int .i64 k))],[.arr .lrow (ys) 0 true,.arr .int (((s.take k).map fun j=>ent c (s.getD m 0).toNat j.toNat)) 0 true]⟩) (fun k=>k<=s.length) (fun k=>s.length - k) (0) (nz0 _) ?_ ?_
  ·exact Le.s
  rintro k hk ih2
  try simp only []
  refine Run.R ?_
  refine Run.c ?_ ?_
  ·intro h2
   have h2:k < s.length:=by simpa using h2
   obtain⟨b1,b2⟩:=letters_mem hlet h2
   have hsn:=map_snoc (fun j=>ent c (s.getD m 0).toNat j.toNat) s 0 k h2
   refine Run.nq ?_;refine Run.regionD hC true [0,1,2,3,4,5,6,7,8,9,10,11,12,13,14,15,16] (by kernel_rfl) (fun K hK=>?_);simp only [AW7,simprocAttr,hX];(repeat(with_reducible refine And.intro ?_ ?_);exact vc0)
   refine wE ?_;clear hK K
   refine Run.RW ?_
   refine Run.k [0,1,4,5,7,8,9,10] [0,1] ?_
   refine Run.le ?_ (ih2 (k+1) om om)
   exact Le.sub (by rw [<- hsn]) (by simp only [AW7,simprocAttr];try simp)
  ·intro h2
   have h2:k=s.length:=by simp at h2;omega
   subst h2
   rw [tkL]
   refine Run.x ?_
   refine Run.g fun K hK=>?_
   intro l hl
   refine wF ?_;clear hK K
   refine Run.RW ?_
   refine Run.k [0,1,4,5,7,8] [0] ?_
   refine Run.le ?_ (ih (m+1,ys ++ [(l,rowP c s (s.getD m 0))]) ⟨h,by simp only [List.map_append,hy,List.map_cons,List.map_nil];exact map_snoc (rowP c s) s 0 m h⟩ (by simp only [];omega))
   exact Le.sub (by rfl) (by simp only [AW7,simprocAttr];try simp)
 ·intro h
  have h:m=s.length:=by simp at h;omega
  subst h
  rw [tkL]at hy
  refine Run.x ?_
  refine Run.R ?_
  refine Run.r [4,5] ?_
  exact⟨rfl,ys,hy,rfl⟩
theorem isoS_any {a b:LL} (ha:CartanP a) (hb:CartanP b) (h:a.length=b.length):isoS a b=(ordN a.length a.length).any fun o=>decide (pick a o=b):=by
 unfold isoS
 rw [<- ctB_eq,<- ctB_eq,isC_true ha,isC_true hb]
 simp [h]
theorem any_at {α:Type} {p:α->Bool} (d:α) {l:List α} (k:Nat) (h:k < l.length) (hp:p (l.getD k d)=true):l.any p=true:=by
 rw [List.any_eq_true]
 exact⟨_,by rw [gdE,geE h];exact List.getElem_mem h,hp⟩
theorem any_none {α:Type} {p:α->Bool} (d:α) {l:List α} (h:∀ k,k < l.length->p (l.getD k d)=false):l.any p=false:=by
 rw [List.any_eq_false]
 intro x hx e
 obtain⟨k,hk,rfl⟩:=List.getElem_of_mem hx
 have:=h k hk
 rw [gdE,geE hk,Option.getD_some]at this
 rw [this]at e
 cases e
theorem c_spec_AreIsomorphic (a b:LL) (ha:CartanP a) (hb:CartanP b):FunA B 165 [.sl false (.row false) a,.sl false (.row false) b] (fun rs o=>(rs=[.own 0 0,.bool false]/\isoS a b=false/\o=[.arr .int [] 0 true])\/(∃ l xs,rs=[.lr l xs,.bool true]/\isoS a b=true/\o=[])):=by
 have hn:=ha.2.1
 refine wk Tryz.call165 Tryz.func165 rfl Tryz.ntmps165 fun C hC hP hT hfn hpin hfin hX=>wW ?_
 refine Run.R ?_
 refine Run.g fun K hK=>?_
 refine FunA.cW hP hT (c_spec_IsCartan a) ?_
 rintro rs o ⟨rfl,rfl⟩
 rw [isC_true ha]
 refine wW ?_
 refine .inl (FunA.callG hP hT (c_spec_IsCartan b) (fun _=>rfl) (fun _=>by simp only [AW7,simprocAttr]) ?_)
 rw [isC_true hb]
 refine wF ?_;clear hK K
 refine Run.c ?_ ?_
 ·intro h
  have h:a.length≠b.length:=by intro e;simp [e]at h
  refine Run.R ?_
  refine Run.r [4,5] ?_
  refine .inl ⟨rfl,?_,rfl⟩
  unfold isoS
  rw [show(a.length == b.length)=false by simpa using h]
  rfl
 intro h
 have h:a.length=b.length:=by simp at h;omega
 have hiso:=isoS_any ha hb h
 have hfine:=ordN_fine a.length om
 have hol:=(ordN_small a.length om a.length om).1
 refine Run.g fun K hK=>?_
 refine FunA.cW hP hT (c_spec_l3Orders a.length hn) ?_
 rintro rs o ⟨rfl,ys,hE,rfl⟩
 refine wF ?_;clear hK K
 have hyl:ys.length=(ordN a.length a.length).length:=by rw [<- hE];simp [rw2]
 refine Run.R ?_
 refine Run.k [0,1,4,5,6,7] [0] ?_
 refine Run.loopI (X:=Nat) (fun k=>⟨52,[(0,true,.v (.sl false (.row false) a)),(1,true,.v (.sl false (.row false) b)),(4,true,.v (.nils)),(5,true,.v (.bool false)),(6,true,.v (.own 0 0)),(7,true,.v (.int .i64 k))],[.arr .lrow (ys) 0 true]⟩) (fun k=>k<=ys.length/\∀ j,j < k->decide (pick a ((ordN a.length a.length).getD j [])=b)=false) (fun k=>ys.length - k) (0) (⟨nz0 _,fun j hj=>by omega⟩) ?_ ?_
 ·exact Le.s
 rintro k ⟨hk,hF⟩ ih
 try simp only []
 refine Run.R ?_
 refine Run.c ?_ ?_
 rotate_left
 ·intro h2
  have h2:k=ys.length:=by rw [dfE]at h2;omega
  subst h2
  refine Run.x ?_
  refine Run.R ?_
  refine Run.k [4,5] [1] ?_
  refine Run.r [4,5] ?_
  refine .inl ⟨rfl,?_,rfl⟩
  rw [hiso]
  exact any_none [] fun j hj=>hF j om
 intro h2
 have h2:k < ys.length:=by rw [dtE]at h2;omega
 have hk2:k < (ordN a.length a.length).length:=by omega
 have hgo:(ys.getD k (0,[])).2=(ordN a.length a.length).getD k []:=by rw [<- hE];simp [rw2,gdE,h2]
 obtain⟨f1,f2,f3⟩:=hfine _ (by simp [gdE,hk2]:(ordN a.length a.length).getD k []∈ordN a.length a.length)
 generalize ho:(ordN a.length a.length).getD k []=s at *
 refine Run.g fun K hK=>?_
 try rw [hgo]
 refine FunA.cW hP hT (c_spec_RelabelCartan a s ha f3 f2 f1) ?_
 rintro rs o ⟨rfl,zs,hz,rfl⟩
 refine wF ?_;clear hK K
 refine Run.g fun K hK=>?_
 refine FunA.cW hP hT (c_spec_EqualCartans (zs.map (·.2)) b (by
  intro q hq
  rw [hz]at hq ⊢
  simp [pick,gdE,show q < s.length by simpa [pick] using hq];omega)) ?_
 rintro rs o ⟨rfl,rfl⟩
 refine wF ?_;clear hK K
 rw [hz]
 refine Run.c ?_ ?_
 ·intro h3
  have h3:pick a s=b:=by simpa using h3
  refine Run.R ?_
  refine Run.k [4,5] [] ?_
  refine Run.r [4,5] ?_
  refine .inr ⟨_,_,rfl,?_,rfl⟩
  rw [hiso]
  exact any_at [] k hk2 (by rw [ho];exact decide_eq_true h3)
 ·intro h3
  refine Run.RW ?_
  refine Run.k [0,1,4,5,6,7] [0] ?_
  refine Run.le ?_ (ih (k+1) (⟨h2,fun j hj=>(by
   by_cases hj2:j=k
   ·subst hj2;rw [ho];exact h3
   ·exact hF j om)⟩) (by(try simp only [lenA,lenC,lenN]);omega))
  exact Le.sub (by rfl) (by simp only [AW7,simprocAttr];try simp)
end Go.Proofs.YtcinngodeoidnaaGreatDoor
