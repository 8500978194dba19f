/- The names of a group: the reference's side. -/
import Derived.Test.YtcinngodeoidnaaGreatDoorB18
import Derived.Test.YtcinngodeoidnaaGreatDoorB19
import Derived.Test.YtcinngodeoidnaaGreatDoorB17
import Derived.Test.YtcinngodeoidnaaGreatDoorB12
import Derived.Test.YtcinngodeoidnaaGreatDoorB11
set_option linter.unusedVariables false
set_option linter.unusedSimpArgs false
namespace Go.Proofs.YtcinngodeoidnaaGreatDoor
open Go Go.Aw Go.Cox
theorem splitK_x:∀(s:List UInt8),∃ h t,Lib.split s [120]=h :: t/\∀ p,cutX p s=(p ++ h) :: t
 | []=>⟨[],[],by unfold Lib.split;rw [Lib.count_miss (by simp [Lib.index])];rfl,fun p=>by simp [cutX]⟩
 | b :: l=>by
  obtain⟨h,t,e1,e2⟩:=splitK_x l
  by_cases hb:b=120
  ·subst hb
   refine⟨[],h :: t,?_,fun p=>?_⟩
   ·have hix:Lib.index (120 :: l) [120]=((0:Nat):Int):=by rw [Lib.index];simp [List.isPrefixOf]
    unfold Lib.split at e1 ⊢
    rw [Lib.count_cons_eq,Nat.add_comm,Lib.splitK,if_neg (by rw [hix];simp),hix]
    simp only [Int.toNat_natCast,Nat.zero_add,List.take_zero,lenC,lenN,List.drop_succ_cons,List.drop_zero]
    rw [e1]
   ·simp only [cutX,beq_self_eq_true,cond_true,List.append_nil]
    rw [e2 []];rfl
  ·refine⟨b :: h,t,?_,fun p=>?_⟩
   ·unfold Lib.split at e1 ⊢
    rw [Lib.count_cons_ne b 120 l hb]
    have hp:([120]:List UInt8).isPrefixOf (b :: l)=false:=by simp [List.isPrefixOf,Ne.symm hb]
    have hix:Lib.index (b :: l) [120]=if Lib.index l [120] == -1 then -1 else Lib.index l [120]+1:=by rw [Lib.index,hp];simp
    cases hk:Lib.count l [120] with
    | zero=>
     rw [hk]at e1
     simp only [Lib.splitK]at e1 ⊢
     injection e1 with a1 a2
     rw [a1,a2]
    | succ k=>
     rw [hk]at e1
     simp only [Lib.splitK]at e1 ⊢
     by_cases hm:Lib.index l [120] = -1
     ·rw [hix,if_pos (beq_iff_eq.2 hm)]
      rw [if_pos (beq_iff_eq.2 hm)]at e1
      rw [if_pos (beq_iff_eq.2 rfl)]
      injection e1 with a1 a2
      rw [a1,a2]
     ·have hge:=Lib.index_ge l [120]
      obtain⟨j,hj⟩:∃ j:Nat,Lib.index l [120]=j:=⟨(Lib.index l [120]).toNat,by omega⟩
      rw [if_neg (fun e=>hm (beq_iff_eq.1 e))]at e1
      rw [hix,if_neg (fun e=>hm (beq_iff_eq.1 e)),if_neg (fun e=>by have:=beq_iff_eq.1 e;omega)]
      rw [hj]at e1 ⊢
      rw [show((j:Int)+1).toNat=j+1 by omega]
      rw [Int.toNat_natCast]at e1
      simp only [Nat.add_zero,List.take_succ_cons,lenC,lenN,Nat.zero_add]at e1 ⊢
      rw [show j+1+1=(j+1)+1 from rfl,List.drop_succ_cons]
      injection e1 with a1 a2
      rw [a1,a2]
   ·have h2:(b == 120)=false:=by rw [Bool.eq_false_iff];exact fun e=>hb (beq_iff_eq.1 e)
    simp only [cutX,h2,cond_false]
    rw [e2]
    simp
theorem split_cutX (s:List UInt8):Lib.split s [120]=cutX [] s:=by
 obtain⟨h,t,e1,e2⟩:=splitK_x s
 rw [e1,e2];rfl
theorem join_X:∀ l:List (List UInt8),Lib.join l [120]=joinX l
 | []=>rfl
 | [x]=>Lib.join_one _ _
 | x :: y :: l=>by
  have ih:=join_X (y :: l)
  rw [Lib.join_cons]at ih ⊢
  simp only [joinX,<- ih,Lib.joinTail,List.map_cons,List.flatten_cons]
  simp
theorem joinX_snoc (x:List UInt8):∀ l:List (List UInt8),joinX (l ++ [x])=if l=[]then x else joinX l ++ [120] ++ x
 | []=>rfl
 | [y]=>by simp [joinX]
 | y :: z :: l=>by
  have ih:=joinX_snoc x (z :: l)
  rw [if_neg (by simp)]at ih ⊢
  simp only [List.cons_append,joinX]at ih ⊢
  rw [ih]
  simp
theorem joinX_cut:∀(l:List (List UInt8)),l≠[]->(∀ x∈l,(120:UInt8)∉x)->cutX [] (joinX l)=l:=by
 have key:∀(x p r:List UInt8),(120:UInt8)∉x->cutX p (x ++ 120 :: r)=(p ++ x) :: cutX [] r:=by
  intro x
  induction x with
  | nil=>intro p r _;simp [cutX]
  | cons b x ih=>
   intro p r h
   have hb:(b == 120)=false:=by rw [Bool.eq_false_iff];exact fun e=>h (by rw [beq_iff_eq.1 e];exact mcS ..)
   simp only [List.cons_append,cutX,hb,cond_false]
   rw [ih _ _ (fun e=>h (mcM _ e))]
   simp
 have key2:∀(x p:List UInt8),(120:UInt8)∉x->cutX p x=[p ++ x]:=by
  intro x
  induction x with
  | nil=>intro p _;simp [cutX]
  | cons b x ih=>
   intro p h
   have hb:(b == 120)=false:=by rw [Bool.eq_false_iff];exact fun e=>h (by rw [beq_iff_eq.1 e];exact mcS ..)
   simp only [cutX,hb,cond_false]
   rw [ih _ (fun e=>h (mcM _ e))]
   simp
 intro l
 induction l with
 | nil=>intro h;exact absurd rfl h
 | cons x l ih=>
  intro _ h
  cases l with
  | nil=>simp only [joinX];rw [key2 _ _ (h x (mcS ..))];rfl
  | cons y l=>
   simp only [joinX,List.append_assoc,List.singleton_append]
   rw [key _ _ _ (h x (mcS ..)),ih (by simp) (fun z hz=>h z (mcM _ hz))]
   rfl
theorem firstT_mem (iso:List (List Int)->List (List Int)->Bool) (a:LL):∀ l:List (List UInt8×List (List Int)×Nat),firstT iso a l=[63]\/firstT iso a l∈l.map (·.1)
 | []=>.inl rfl
 | t :: l=>by
  simp only [firstT]
  cases iso a t.2.1
  ·rcases firstT_mem iso a l with h | h
   ·exact .inl h
   ·exact .inr (mcM _ h)
  ·exact .inr (mcS ..)
theorem firstT_ok (iso:List (List Int)->List (List Int)->Bool) (a:LL):(120:UInt8)∉firstT iso a tyL/\(firstT iso a tyL).length<=3:=by
 rcases firstT_mem iso a tyL with h | h
 ·rw [h];decide
 ·exact(by decide:∀ x∈tyL.map (·.1),(120:UInt8)∉x/\x.length<=3) _ h
theorem sizeL_pos {l:List (List UInt8)} (h:0 < sizeL l):∀ x∈l,0 < sizeT x:=by
 rw [sizeL_eq]at h
 split at h
 ·have key:∀(l:List (List UInt8)) (n:Nat),0 < l.foldl (fun(n:Nat) p=>n*sizeT p) n->(0 < n/\∀ x∈l,0 < sizeT x):=by
   intro l
   induction l with
   | nil=>intro n h;exact⟨h,by simp⟩
   | cons a l ih=>
    intro n h
    obtain⟨h1,h2⟩:=ih _ h
    have h1:0 < n*sizeT a:=h1
    obtain⟨h3,h4⟩:0 < n/\0 < sizeT a:=by
     constructor
     ·exact Nat.pos_of_ne_zero fun e=>by rw [e,Nat.zero_mul]at h1;omega
     ·exact Nat.pos_of_ne_zero fun e=>by rw [e,Nat.mul_zero]at h1;omega
    exact⟨h3,fun x hx=>by
     rcases List.mem_cons.1 hx with rfl | hx
     ·exact h4
     ·exact h2 x hx⟩
  exact(key l 1 (by unfold szN at h;omega)).2
 ·omega
theorem name_fine {c:LL} (hF:FinP c):∀ p∈partsS c,nameS (pick c p)≠[63]:=by
 intro p hp e
 obtain⟨h1,h2,_⟩:=fin_size hF
 rw [h1]at h2
 unfold sizeS at h2
 rw [joinX_cut _ (by intro e2;rw [List.map_eq_nil_iff]at e2;rw [e2]at hp;cases hp) (fun x hx=>by
  obtain⟨q,_,rfl⟩:=List.mem_map.1 hx
  exact(firstT_ok _ _).1)]at h2
 have:=sizeL_pos h2 _ (List.mem_map.2 ⟨p,hp,e⟩)
 revert this
 decide
theorem partsS_set {c:LL}:∀ p∈partsS c,setP c.length p/\p≠[]:=by
 intro p hp
 unfold partsS at hp
 rw [List.mem_filterMap]at hp
 obtain⟨⟨q,i⟩,hq,he⟩:=hp
 cases hb:((q.getD 0 0 == (i:Int)))
 ·simp only [hb,cond_false]at he;cases he
 ·simp only [hb,cond_true,Option.some.injEq]at he
  subst he
  obtain⟨h0,h1⟩:=List.mem_zipIdx' hq
  simp only [List.length_map,List.length_range,List.getElem_map,List.getElem_range]at h0 h1
  subst h1
  refine⟨fun k hk=>?_,fun e=>?_⟩
  ·obtain⟨a1,a2⟩:=letters_mem (partS_letters c i) hk
   refine⟨a1,a2,fun h=>?_⟩
   have hs:(partS c i).Pairwise fun a b=>a < b:=by
    unfold partS
    rw [List.pairwise_map]
    refine List.Pairwise.imp ?_ (List.Pairwise.filter _ List.pairwise_lt_range)
    intro a b hab
    exact Int.ofNat_lt.2 hab
   rw [List.pairwise_iff_getElem]at hs
   have:=hs (k - 1) k om hk om
   simpa [gdE,hk,show k - 1 < (partS c i).length by omega] using this
  ·have:=partS_ne (c:=c) h0
   rw [e]at this
   simp at this
theorem partsS_len (c:LL):(partsS c).length<=c.length:=by
 unfold partsS
 refine Nat.le_trans (List.length_filterMap_le ..) ?_
 simp
theorem c_spec_IsConnected (c:LL) (hc:CartanP c):FunA B 54 [.sl false (.row false) c] (fun rs o=>rs=[.bool (decide (((partsS c).length:Int)=1))]/\o=[]):=by
 refine wk Tryz.call54 Tryz.func54 rfl Tryz.ntmps54 fun C hC hP hT hfn hpin hfin hX=>wW ?_
 refine Run.R ?_
 refine Run.g fun K hK=>?_
 refine FunA.cW hP hT (c_spec_PartsOf c hc) ?_
 rintro rs o ⟨rfl,ys,hy,rfl⟩
 refine wF ?_;clear hK K
 refine Run.k [2] [] ?_
 refine Run.r [2] ?_
 have e:ys.length=(partsS c).length:=by rw [<- hy];simp [rw2]
 rw [e]
 refine⟨?_,rfl⟩
 congr 2
theorem c_spec_l4Names:FunA B 164 [] (fun rs o=>rs=[.own 0 0]/\o=[.arr .str (tyL.map (·.1)) 0 true]):=by
 refine wk Tryz.call164 Tryz.func164 rfl Tryz.ntmps164 fun C hC hP hT hfn hpin hfin hX=>wW ?_
 refine Run.R ?_
 refine Run.g fun K hK=>?_
 refine⟨by simp [maxLen],?_⟩
 refine wE ?_;clear hK K
 refine Run.k [0] [0] ?_
 refine Run.r [0] ?_
 exact⟨rfl,rfl⟩
theorem firstT_take (iso:List (List Int)->List (List Int)->Bool) (a:LL):∀(l:List (List UInt8×List (List Int)×Nat)) (k:Nat),k < l.length->(∀ j,j < k->iso a (l.getD j ([],[],0)).2.1=false)->iso a (l.getD k ([],[],0)).2.1=true->firstT iso a l=(l.getD k ([],[],0)).1
 | [],k,h,_,_=>by simp at h
 | t :: l,0,_,_,h=>by simp only [firstT];rw [show iso a t.2.1=true from h];rfl
 | t :: l,k+1,hk,h1,h2=>by
  simp only [firstT]
  rw [show iso a t.2.1=false from h1 0 om]
  exact firstT_take iso a l k (by simpa using hk) (fun j hj=>h1 (j+1) om) h2
theorem firstT_none (iso:List (List Int)->List (List Int)->Bool) (a:LL):∀(l:List (List UInt8×List (List Int)×Nat)),(∀ j,j < l.length->iso a (l.getD j ([],[],0)).2.1=false)->firstT iso a l=[63]
 | [],_=>rfl
 | t :: l,h1=>by
  simp only [firstT]
  rw [show iso a t.2.1=false from h1 0 (by simp)]
  exact firstT_none iso a l (fun j hj=>h1 (j+1) (by simpa using hj))
def tyA (k:Nat):List UInt8×List (List Int)×Nat:=tyL.getD k ([],[],0)
theorem tyA_fine:∀ k,k < 17->tcM (tyA k).1=(tyA k).2.1/\(tyA k).1∈tcN/\ctB (tyA k).2.1=true/\(tyL.map (·.1)).getD k []=(tyA k).1:=by decide +kernel
theorem tyA_cartan {k:Nat} (h:k < 17):CartanP (tyA k).2.1:=isC_iff.1 (by rw [ctB_eq];exact(tyA_fine k h).2.2.1)
theorem c_spec_NameOfPart (c:LL) (hc:CartanP c) (hne:nameS c≠[63]):FunA B 132 [.sl false (.row false) c] (fun rs o=>rs=[.str (nameS c)]/\o=[]):=by
 have hlen:(tyL.map (·.1)).length=17:=by decide
 refine wk Tryz.call132 Tryz.func132 rfl Tryz.ntmps132 fun C hC hP hT hfn hpin hfin hX=>wW ?_
 refine Run.R ?_
 refine Run.g fun K hK=>?_
 refine FunA.e hP hT (c_spec_l4Names) ?_
 refine wE ?_;clear hK K
 refine Run.R ?_
 refine Run.k [0,2,3,4] [0] ?_
 refine Run.loopI (X:=Nat) (fun k=>⟨38,[(0,true,.v (.sl false (.row false) c)),(2,true,.v (.str ([]))),(3,true,.v (.own 0 0)),(4,true,.v (.int .i64 k))],[.arr .str ((tyL.map (·.1))) 0 true]⟩) (fun k=>k<=17/\∀ j,j < k->isoS c (tyL.getD j ([],[],0)).2.1=false) (fun k=>17 - k) (0) (⟨by omega,fun j hj=>by omega⟩) ?_ ?_
 ·exact Le.s
 rintro k ⟨hk,hF⟩ ih
 try simp only []
 refine Run.g fun K hK=>?_
 rw [hlen]
 refine wE ?_;clear hK K
 refine Run.c ?_ ?_
 rotate_left
 ·intro h
  have h:k=17:=by rw [dfE]at h;omega
  subst h
  exact absurd (firstT_none isoS c tyL (fun j hj=>hF j hj)) hne
 intro h
 have h:k < 17:=by rw [dtE]at h;omega
 obtain⟨t1,t2,t3,t4⟩:=tyA_fine k h
 have hct:=tyA_cartan h
 refine Run.g fun K hK=>?_
 rw [t4]
 refine FunA.cW hP hT (c_TypeCartan (tyA k).1 t2) ?_
 rintro rs o ⟨rfl,hs,rfl⟩
 rw [t1]
 refine wF ?_;clear hK K
 refine Run.g fun K hK=>?_
 refine FunA.cW hP hT (c_spec_AreIsomorphic c (tyA k).2.1 hc hct) ?_
 rintro rs o h2
 rcases h2 with⟨rfl,hi,rfl⟩ | ⟨l,xs,rfl,hi,rfl⟩
 ·refine wF ?_;clear hK K
  refine Run.R ?_
  refine Run.c ?_ ?_
  ·intro h3;cases h3
  intro _
  refine Run.RW ?_
  refine Run.k [0,2,3,4] [0] ?_
  refine Run.le ?_ (ih (k+1) (⟨h,fun j hj=>(by
   by_cases hj2:j=k
   ·subst hj2;exact hi
   ·exact hF j om)⟩) (by(try simp only [lenA,lenC,lenN]);omega))
  exact Le.sub (by rfl) (by simp only [AW7,simprocAttr];try simp)
 ·refine wF ?_;clear hK K
  refine Run.R ?_
  refine Run.c ?_ ?_
  rotate_left
  ·intro h3;cases h3
  intro _
  refine Run.R ?_
  rw [t4]
  refine Run.k [2] [] ?_
  refine Run.r [2] ?_
  exact⟨by rw [show nameS c=(tyA k).1 from firstT_take isoS c tyL k h hF hi],rfl⟩
theorem c_spec_NameOf (c:LL) (hc:CartanP c) (hne:∀ p∈partsS c,nameS (pick c p)≠[63]):FunA B 81 [.sl false (.row false) c] (fun rs o=>rs=[.str (joinX ((partsS c).map fun p=>nameS (pick c p)))]/\o=[]):=by
 have hn:=hc.2.1
 have hpl:=partsS_len c
 refine wk Tryz.call81 Tryz.func81 rfl Tryz.ntmps81 fun C hC hP hT hfn hpin hfin hX=>wW ?_
 refine Run.R ?_
 refine Run.g fun K hK=>?_
 refine FunA.cW hP hT (c_spec_PartsOf c hc) ?_
 rintro rs o ⟨rfl,ys,hy,rfl⟩
 refine wF ?_;clear hK K
 have hyl:ys.length=(partsS c).length:=by rw [<- hy];simp [rw2]
 refine Run.R ?_
 refine Run.R ?_
 refine Run.k [0,2,3,4,5] [0] ?_
 refine Run.loopI (X:=Nat×List UInt8) (fun x=>⟨34,[(0,true,.v (.sl false (.row false) c)),(2,true,.v (.str ([]))),(3,true,.v (.own 0 0)),(4,true,.v (.str (x.2))),(5,true,.v (.int .i64 (x.1)))],[.arr .lrow (ys) 0 true]⟩) (fun x=>(x.1<=ys.length/\x.2.length<=4*x.1)/\x.2=joinX (((partsS c).take x.1).map fun p=>nameS (pick c p))) (fun x=>ys.length - x.1) ((0,[])) (⟨⟨nz0 _,by simp⟩,rfl⟩) ?_ ?_
 ·exact Le.s
 rintro⟨k,s⟩ ⟨⟨hk,hsl⟩,hS⟩ ih
 try simp only []
 simp only []at hk hsl hS
 refine Run.R ?_
 refine Run.c ?_ ?_
 rotate_left
 ·intro h
  have h:k=ys.length:=by rw [dfE]at h;omega
  subst h
  rw [hyl,tkL]at hS
  refine Run.x ?_
  refine Run.R ?_
  refine Run.k [2] [] ?_
  refine Run.r [2] ?_
  exact⟨by rw [hS],rfl⟩
 intro h
 have h:k < ys.length:=by rw [dtE]at h;omega
 have hgp:(ys.getD k (0,[])).2=(partsS c).getD k []:=by rw [<- hy];simp [rw2,gdE,h]
 have hpm:(partsS c).getD k []∈partsS c:=by rw [gdE,geE om];exact List.getElem_mem _
 obtain⟨hset,hpne⟩:=partsS_set _ hpm
 have hnp:=hne _ hpm
 have hst:joinX (((partsS c).take (k+1)).map fun p=>nameS (pick c p))=if k=0 then nameS (pick c ((partsS c).getD k []))else s ++ [120] ++ nameS (pick c ((partsS c).getD k [])):=by
  rw [<- take_snoc [] _ k om,List.map_append,List.map_cons,List.map_nil,joinX_snoc,hS]
  by_cases h0:k=0
  ·rw [if_pos (by rw [h0];rfl),if_pos h0]
  ·rw [if_neg (by
    intro e
    rw [List.map_eq_nil_iff]at e
    have:=congrArg List.length e
    rw [List.length_take,lenN]at this
    omega),if_neg h0]
 have hnl:=(firstT_ok isoS (pick c ((partsS c).getD k []))).2
 have hcp:=pick_cartan hc hset hpne
 generalize (partsS c).getD k []=p at *
 have hnl:(nameS (pick c p)).length<=3:=hnl
 generalize hnm:nameS (pick c p)=nm at *
 have hnmS:nameS (pick c p)≠[63]:=by rw [hnm];exact hnp
 have hm1:s.length + [(120:UInt8)].length<=maxLen:=by simp [maxLen];omega
 have hm2:s.length+nm.length<=maxLen:=by simp [maxLen];omega
 have hm3:(s ++ [120]).length+nm.length<=maxLen:=by simp [maxLen];omega
 refine Run.R ?_
 refine Run.c ?_ ?_
 ·intro h0
  have h0:¬k=0:=by rw [dtE]at h0;omega
  rw [if_neg h0]at hst
  refine Run.R ?_
  refine Run.g fun K hK=>?_
  try rw [hgp]
  refine FunA.cW hP hT (c_spec_SubCartan c p hc hset hpne) ?_
  rintro rs o ⟨rfl,zs,hz,rfl⟩
  refine wF ?_;clear hK K
  refine Run.g fun K hK=>?_
  rw [<- hz]at hcp hnmS hnm
  refine FunA.cW hP hT (c_spec_NameOfPart (zs.map (·.2)) hcp hnmS) ?_
  rintro rs o ⟨rfl,rfl⟩
  rw [hnm]
  refine wF ?_;clear hK K
  refine Run.RW ?_
  refine Run.k [0,2,3,4,5] [0] ?_
  exact Run.j (ih ((k+1,s ++ [120] ++ nm)) (⟨⟨h,by simp only [lenA,lenC,lenN];omega⟩,hst.symm⟩) mz)
 ·intro h0
  have h0:k=0:=by rw [dfE]at h0;omega
  rw [if_pos h0]at hst
  have hs0:s=[]:=nilZ om
  subst hs0
  refine Run.g fun K hK=>?_
  try rw [hgp]
  refine FunA.cW hP hT (c_spec_SubCartan c p hc hset hpne) ?_
  rintro rs o ⟨rfl,zs,hz,rfl⟩
  refine wF ?_;clear hK K
  refine Run.g fun K hK=>?_
  rw [<- hz]at hcp hnmS hnm
  refine FunA.cW hP hT (c_spec_NameOfPart (zs.map (·.2)) hcp hnmS) ?_
  rintro rs o ⟨rfl,rfl⟩
  rw [hnm]
  refine wF ?_;clear hK K
  refine Run.RW ?_
  refine Run.k [0,2,3,4,5] [0] ?_
  exact Run.j (ih ((k+1,[] ++ nm)) (⟨⟨h,by simp only [List.nil_append];omega⟩,hst.symm⟩) mz)
theorem joinX_len:∀ l:List (List UInt8),(∀ x∈l,x.length<=3)->(joinX l).length<=4*l.length
 | [],_=>by simp [joinX]
 | [x],h=>by have:=h x (mcS ..);simp [joinX];omega
 | x :: y :: l,h=>by
  have ih:=joinX_len (y :: l) (fun z hz=>h z (mcM _ hz))
  have:=h x (mcS ..)
  simp only [joinX,lenA,lenC,lenN]at ih ⊢
  omega
noncomputable def sizeE (c:LL):Int:=if isF c then sizeI c else 0
theorem c_spec_SizeOf (c:LL):FunA B 25 [.sl false (.row false) c] (fun rs o=>rs=[.int .i64 (sizeE c)]/\o=[]):=by
 refine wk Tryz.call25 Tryz.func25 rfl Tryz.ntmps25 fun C hC hP hT hfn hpin hfin hX=>wW ?_
 refine Run.R ?_
 refine Run.g fun K hK=>?_
 refine FunA.e hP hT (c_spec_IsFinite c) ?_
 refine wE ?_;clear hK K
 refine Run.c ?_ ?_
 ·intro h
  have h:isF c=false:=by simpa using h
  refine Run.R ?_
  refine Run.k [2] [] ?_
  refine Run.r [2] ?_
  exact⟨by unfold sizeE;rw [h];rfl,rfl⟩
 intro h
 have h:isF c=true:=by simpa using h
 have hF:=isF_iff.1 h
 have hn:=hF.1.2.1
 have hpl:=partsS_len c
 have hjl:=joinX_len ((partsS c).map fun p=>nameS (pick c p)) (fun x hx=>by
  obtain⟨q,_,rfl⟩:=List.mem_map.1 hx
  exact(firstT_ok _ _).2)
 rw [List.length_map]at hjl
 refine Run.g fun K hK=>?_
 refine FunA.e hP hT (c_spec_NameOf c hF.1 (name_fine hF)) ?_
 refine FunA.e hP hT (c_spec_SizeByName (joinX ((partsS c).map fun p=>nameS (pick c p))) om) ?_
 refine wE ?_;clear hK K
 refine Run.k [2] [] ?_
 refine Run.r [2] ?_
 exact⟨by unfold sizeE;rw [if_pos h,(fin_size hF).1];rfl,rfl⟩
def fitK (a b:LL) (order:LI) (i j:Nat):Bool:=(order.take j).zipIdx.all fun p=>decide (ent a i p.1.toNat=ent b order.length p.2) && decide (ent a p.1.toNat i=ent b p.2 order.length)
theorem fitK_all (a b:LL) (order:LI) (i:Nat):fitK a b order i order.length=fitM a b order i:=by
 unfold fitK fitM;rw [tkL]
theorem fitK_step (a b:LL) (order:LI) (i j:Nat) (h:j < order.length):fitK a b order i (j+1)=(fitK a b order i j && (decide (ent a i (order.getD j 0).toNat=ent b order.length j) && decide (ent a (order.getD j 0).toNat i=ent b j order.length))):=by
 unfold fitK
 rw [<- take_snoc 0 order j h,List.zipIdx_append,List.all_append]
 simp only [List.zipIdx_cons,List.zipIdx_nil,List.all_cons,List.all_nil,Bool.and_true,List.length_take,Nat.zero_add]
 rw [show min j order.length=j by omega]
theorem bif_and (x y z:Bool):(bif (bif x then y else false)then z else false)=(x && (y && z)):=by cases x<;>cases y<;>cases z<;>rfl
theorem range_drop (n i:Nat) (h:i < n):(List.range n).drop i=i :: (List.range n).drop (i+1):=by
 rw [List.drop_eq_getElem_cons (by simpa using h)];simp
theorem mtL_one (a b:LL) (rec:List Int->Int->List (List Int)) (order:LI) (hrec:∀ o,(rec o 1).length<=1):∀ l:List Nat,(mtL a b rec order 1 l []).length<=1
 | []=>by simp [mtL]
 | i :: r=>by
  simp only [mtL]
  cases decide ((i:Int)∈order)
  ·rw [cond_false]
   cases fitM a b order i
   ·simp only [cond_false,List.append_nil,lenN]
    exact mtL_one a b rec order hrec r
   ·simp only [cond_true,List.nil_append,lenN]
    have:=hrec (order ++ [(i:Int)])
    by_cases h:(1:Int)<=((rec (order ++ [(i:Int)]) (1 - (0:Nat))).length:Int)
    ·rw [decide_eq_true h,cond_true]
     exact this
    ·rw [decide_eq_false h,cond_false]
     have e:rec (order ++ [(i:Int)]) (1 - (0:Nat))=[]:=nilZ om
     rw [e]
     exact mtL_one a b rec order hrec r
  ·rw [cond_true]
   exact mtL_one a b rec order hrec r
theorem mtI_one (a b:LL):∀(f:Nat) (o:LI),(mtI a b f o 1).length<=1
 | 0,o=>by simp [mtI]
 | f+1,o=>mtL_one a b (mtI a b f) o (mtI_one a b f) _
theorem mtL_skip (a b:LL) (rec:List Int->Int->List (List Int)) (order:LI) (i:Nat) (r:List Nat) (h:(i:Int)∈order):mtL a b rec order 1 (i :: r) []=mtL a b rec order 1 r []:=by
 simp only [mtL];rw [decide_eq_true h,cond_true]
theorem mtL_nofit (a b:LL) (rec:List Int->Int->List (List Int)) (order:LI) (i:Nat) (r:List Nat) (h:¬(i:Int)∈order) (hf:fitM a b order i=false):mtL a b rec order 1 (i :: r) []=mtL a b rec order 1 r []:=by
 simp only [mtL];rw [decide_eq_false h,cond_false,hf];rfl
theorem mtL_fit (a b:LL) (rec:List Int->Int->List (List Int)) (order:LI) (i:Nat) (r:List Nat) (h:¬(i:Int)∈order) (hf:fitM a b order i=true):mtL a b rec order 1 (i :: r) []=if 1<=(rec (order ++ [(i:Int)]) 1).length then rec (order ++ [(i:Int)]) 1 else mtL a b rec order 1 r []:=by
 simp only [mtL];rw [decide_eq_false h,cond_false,hf]
 simp only [cond_true,List.nil_append,lenN]
 have e0:((1:Int) - ((0:Nat):Int))=1:=rfl
 simp only [e0]
 by_cases h1:1<=(rec (order ++ [(i:Int)]) 1).length
 ·rw [if_pos h1,decide_eq_true om,cond_true]
 ·rw [if_neg h1,decide_eq_false om,cond_false]
  have e:rec (order ++ [(i:Int)]) 1=[]:=nilZ om
  rw [e]
theorem c_CloneN (w:LI) (hl:w.length<=1048576) (hne:w≠[]):FunA B 245 [.sl false .int w] (fun rs o=>rs=[.own 0 0]/\o=[.arr .int w 0 true]):=by
 refine wk Tryz.call245 Tryz.func245 rfl Tryz.ntmps245 fun C hC hP hT hfn hpin hfin hX=>wW ?_
 refine Run.R ?_
 cases w with
 | nil=>exact absurd rfl hne
 | cons x w=>
  refine Run.R ?_
  refine Run.c ?_ ?_
  ·intro h
   simp at h
  ·intro h
   refine Run.R ?_
   refine Run.le (Le.re (obs':=[.arr .int (x :: w) 0 true]) hpin [0] [(2,true,.own 0 0)] rfl (by simp [leOs,leO_arr,oAt]) (by refine⟨⟨_,rfl,?_⟩,trivial⟩;simp [leAV,oAt,genO])) ?_
   simp only [frV_cons,frV_nil]
   refine Run.r [2] ?_
   exact⟨rfl,rfl⟩
set_option maxHeartbeats 1000000 in
theorem c_impl_matches (a b:LL) (ha:CartanP a) (hb:CartanP b) (hab:a.length=b.length):∀(f:Nat) (order:LI),letters a.length order->order.length+f=b.length ->
  FunA B 235 [.sl false (.row false) a,.sl false (.row false) b,.sl false .int order,.int .i64 1] (fun rs o=>rs=[.own 0 0]/\∃ ys,rw2 ys=mtI a b f order 1/\o=[.arr .lrow ys 0 true]):=by
 have hn:=ha.2.1
 intro f
 induction f with
 | zero=>
  intro order hlet hlen
  refine wk Tryz.call235 Tryz.func235 rfl Tryz.ntmps235 fun C hC hP hT hfn hpin hfin hX=>wW ?_
  refine Run.R ?_
  refine Run.R ?_
  refine Run.R ?_
  refine Run.c ?_ ?_
  rotate_left
  ·intro h;exfalso;rw [show order.length=b.length by omega]at h;simp at h
  intro _
  refine Run.g fun K hK=>?_
  refine FunA.e hP hT (c_CloneN order om (fun e=>by rw [e]at hlen;have:=hb.1;simp at hlen;omega)) ?_
  intro l hl
  refine wF ?_;clear hK K
  refine Run.k [8] [1] ?_
  refine Run.r [8] ?_
  exact⟨rfl,[(l,order)],rfl,rfl⟩
 | succ f ihf=>
  intro order hlet hlen
  refine wk Tryz.call235 Tryz.func235 rfl Tryz.ntmps235 fun C hC hP hT hfn hpin hfin hX=>wW ?_
  refine Run.R ?_
  refine Run.R ?_
  refine Run.R ?_
  refine Run.c ?_ ?_
  ·intro h;exfalso;have h:(order.length:Int)=b.length:=by simpa using h
   omega
  intro _
  refine Run.R ?_
  refine Run.R ?_
  refine Run.k [0,1,2,3,8,9,10,26,27] [0] ?_
  refine Run.loopI (X:=Nat) (fun i=>⟨97,[(0,true,.v (.sl false (.row false) a)),(1,true,.v (.sl false (.row false) b)),(2,true,.v (.sl false .int order)),(3,true,.v (.int .i64 1)),(8,true,.v (.nils)),(9,true,.v (.int .i64 ((order.length:Nat)))),(10,true,.v (.own 0 0)),(26,true,.v (.int .i64 ((a.length:Nat)))),(27,true,.v (.int .i64 i))],[.arr .lrow ([]) 0 true]⟩) (fun i=>i<=a.length/\mtL a b (mtI a b f) order 1 ((List.range a.length).drop i) []=mtI a b (f+1) order 1) (fun i=>a.length - i) (0) (⟨nz0 _,rfl⟩) ?_ ?_
  ·exact Le.s
  rintro i ⟨hi,hE⟩ ih
  try simp only []
  refine Run.R ?_
  refine Run.c ?_ ?_
  rotate_left
  ·intro h
   have h:i=a.length:=by rw [dfE]at h;omega
   subst h
   rw [List.drop_eq_nil_of_le (by simp)]at hE
   refine Run.x ?_
   refine Run.R ?_
   refine Run.k [8] [0] ?_
   refine Run.r [8] ?_
   exact⟨rfl,[],by rw [<- hE];rfl,rfl⟩
  intro h
  have h:i < a.length:=by rw [dtE]at h;omega
  rw [range_drop a.length i h]at hE
  refine Run.R ?_
  refine Run.g fun K hK=>?_
  refine FunA.e hP hT (c_slices_Contains order (i:Int) om) ?_
  refine wE ?_;clear hK K
  refine Run.c ?_ ?_
  ·intro h2
   have h2:(i:Int)∈order:=by simpa using h2
   rw [mtL_skip _ _ _ _ _ _ h2]at hE
   refine Run.x ?_
   refine Run.RW ?_
   refine Run.k [0,1,2,3,8,9,10,26,27] [0] ?_
   exact Run.j (ih (i+1) (⟨h,hE⟩) mz)
  intro h2
  have h2:¬(i:Int)∈order:=by simpa using h2
  refine Run.R ?_
  refine Run.R ?_
  refine Run.k [0,1,2,3,8,9,10,11,12,26,27,33,34,35] [0] ?_
  refine Run.loopI (X:=Nat) (fun j=>⟨97,[(0,true,.v (.sl false (.row false) a)),(1,true,.v (.sl false (.row false) b)),(2,true,.v (.sl false .int order)),(3,true,.v (.int .i64 1)),(8,true,.v (.nils)),(9,true,.v (.int .i64 ((order.length:Nat)))),(10,true,.v (.own 0 0)),(11,true,.v (.int .i64 i)),(12,true,.v (.bool ((fitK a b order i j)))),(26,true,.v (.int .i64 ((a.length:Nat)))),(27,true,.v (.int .i64 i)),(33,true,.v (.sl false .int order)),(34,true,.v (.int .i64 ((order.length:Nat)))),(35,true,.v (.int .i64 j))],[.arr .lrow ([]) 0 true]⟩) (fun j=>j<=order.length) (fun j=>order.length - j) (0) (nz0 _) ?_ ?_
  ·exact Le.s
  rintro j hj ihK
  try simp only []
  refine Run.R ?_
  refine Run.c ?_ ?_
  ·intro h3
   have h3:j < order.length:=by rw [dtE]at h3;omega
   have hst:=fitK_step a b order i j h3
   obtain⟨p1,p2⟩:=letters_mem hlet h3
   have r1:=ha.2.2.1 i h
   have r2:=ha.2.2.1 (order.getD j 0).toNat om
   have r3:=hb.2.2.1 order.length om
   have r4:=hb.2.2.1 j om
   have eq1:∀ x y:Int,(x == y)=decide (x=y):=fun x y=>by rw [Bool.eq_iff_iff];simp
   refine Run.R ?_
   refine Run.nq ?_;refine Run.regionD hC true [0,1,2,3,4,5,6,7,8,9,10,11,12,13,14,15,16,17,18,19,20,21,22,23,24,25,26,27,28,29,30,31,32,33,34,35] (by kernel_rfl) (fun K hK=>?_);simp only [AW7,simprocAttr,hX];(repeat(with_reducible refine And.intro ?_ ?_);exact vc0)
   refine wE ?_;clear hK K
   have hfe:(bif (bif fitK a b order i j then(a.getD i []).getD (order.getD j 0).toNat 0 == (b.getD order.length []).getD j 0 else false) then(a.getD (order.getD j 0).toNat []).getD i 0 == (b.getD j []).getD order.length 0 else false)=fitK a b order i (j+1):=by
    rw [hst,bif_and,eq1,eq1]
    first | done | rfl
   rw [hfe]
   refine Run.RW ?_
   refine Run.k [0,1,2,3,8,9,10,11,12,26,27,33,34,35] [0] ?_
   exact Run.j (ihK (j+1) om mz)
  intro h3
  have h3:j=order.length:=by rw [dfE]at h3;omega
  subst h3
  rw [fitK_all]
  refine Run.x ?_
  refine Run.R ?_
  refine Run.c ?_ ?_
  ·intro h4
   have h4:fitM a b order i=true:=h4
   rw [mtL_fit _ _ _ _ _ _ h2 h4]at hE
   have hl2:letters a.length (order ++ [(i:Int)]):=letters_append.2 ⟨hlet,by intro x hx;simp at hx;subst hx;omega⟩
   have hone:=mtI_one a b f (order ++ [(i:Int)])
   refine Run.g fun K hK=>?_
   refine FunA.cW hP hT (c_slices_Clone order om) ?_
   rintro rs o ⟨nn,rfl,rfl⟩
   refine wW ?_
   refine FunA.callW hP hT (ihf (order ++ [(i:Int)]) hl2 (by simp only [lenA,lenC,lenN];omega)) (by simp only [AW7,simprocAttr];first | rfl | trivial) ?_
   rintro rs o ⟨rfl,ys,hy,rfl⟩
   have hyl:ys.length=(mtI a b f (order ++ [(i:Int)]) 1).length:=by rw [<- hy];simp [rw2]
   refine wF ?_;clear hK K
   refine Run.R ?_
   refine Run.c ?_ ?_
   ·intro h5
    have h5:1<=ys.length:=by rw [dtE]at h5;omega
    rw [if_pos om]at hE
    refine Run.x ?_
    refine Run.R ?_
    refine Run.k [8] [0] ?_
    refine Run.r [8] ?_
    exact⟨rfl,ys,hy.trans hE,rfl⟩
   ·intro h5
    have h5:ys.length=0:=by rw [dfE]at h5;omega
    have h6:ys=[]:=nilZ h5
    subst h6
    rw [if_neg om]at hE
    refine Run.RW ?_
    refine Run.k [0,1,2,3,8,9,10,26,27] [0] ?_
    exact Run.j (ih (i+1) (⟨h,hE⟩) mz)
  ·intro h4
   have h4:fitM a b order i=false:=h4
   rw [mtL_nofit _ _ _ _ _ _ h2 h4]at hE
   refine Run.R ?_
   refine Run.c ?_ ?_
   ·intro h5;simp at h5
   intro _
   refine Run.RW ?_
   refine Run.k [0,1,2,3,8,9,10,26,27] [0] ?_
   exact Run.j (ih (i+1) (⟨h,hE⟩) mz)
theorem isoI_eq {a b:LL} (ha:CartanP a) (hb:CartanP b) (h:a.length=b.length):isoI a b = !(mtI a b b.length [] 1).isEmpty:=by
 unfold isoI
 rw [<- ctB_eq,<- ctB_eq,isC_true ha,isC_true hb]
 simp [h]
theorem c_impl_AreIsomorphic (a b:LL) (ha:CartanP a) (hb:CartanP b):FunA B 217 [.sl false (.row false) a,.sl false (.row false) b] (fun rs o=>(rs=[.own 0 0,.bool false]/\isoI a b=false/\o=[.arr .int [] 0 true])\/(∃ l xs,rs=[.lr l xs,.bool true]/\isoI a b=true/\o=[])):=by
 have hn:=ha.2.1
 refine wk Tryz.call217 Tryz.func217 rfl Tryz.ntmps217 fun C hC hP hT hfn hpin hfin hX=>wW ?_
 refine Run.R ?_
 refine Run.g fun K hK=>?_
 refine FunA.cW hP hT (c_impl_IsCartan a) ?_
 rintro rs o ⟨rfl,rfl⟩
 rw [isC_true ha]
 refine wW ?_
 refine .inl (FunA.callG hP hT (c_impl_IsCartan b) (fun _=>rfl) (fun _=>by simp only [AW7,simprocAttr]) ?_)
 rw [isC_true hb]
 refine wF ?_;clear hK K
 refine Run.c ?_ ?_
 ·intro h
  have h:a.length≠b.length:=by intro e;simp [e]at h
  refine Run.R ?_
  refine Run.r [4,5] ?_
  refine .inl ⟨rfl,?_,rfl⟩
  unfold isoI
  rw [show(a.length == b.length)=false by simpa using h]
  rfl
 intro h
 have h:a.length=b.length:=by simp at h;omega
 have hiso:=isoI_eq ha hb h
 refine Run.g fun K hK=>?_
 refine FunA.cW hP hT (c_impl_matches a b ha hb h b.length [] (letters_nil _) (by simp)) ?_
 rintro rs o ⟨rfl,ys,hy,rfl⟩
 refine wF ?_;clear hK K
 rw [<- hy]at hiso
 refine Run.R ?_
 refine Run.c ?_ ?_
 ·intro h2
  have h2:ys=[]:=by
   have h2:(ys.length:Int)=0:=by simpa using h2
   exact nilZ om
  subst h2
  refine Run.R ?_
  refine Run.k [4,5] [1] ?_
  refine Run.r [4,5] ?_
  exact .inl ⟨rfl,hiso,rfl⟩
 ·intro h2
  have h2:0 < ys.length:=by
   have h2:¬(ys.length:Int)=0:=by simpa using h2
   omega
  refine Run.R ?_
  refine Run.k [4,5] [] ?_
  refine Run.r [4,5] ?_
  refine .inr ⟨_,_,rfl,?_,rfl⟩
  rw [hiso]
  cases ys with
  | nil=>simp at h2
  | cons y ys=>rfl
def tyNames:List UInt8:=[65,49,32,65,50,32,65,51,32,65,52,32,66,50,32,66,51,32,66,52,32,67,51,32,67,52,32,68,52,32,70,52,32,71,50,32,65,49,126,32,65,50,126,32,65,51,126,32,67,50,126,32,71,50,126]
theorem tyNames_split:Lib.split tyNames [32]=tyL.map (·.1):=by decide +kernel
theorem c_impl_NameOfPart (c:LL) (hc:CartanP c):FunA B 198 [.sl false (.row false) c] (fun rs o=>rs=[.str (nameI c)]/\o=[]):=by
 have hlen:(tyL.map (·.1)).length=17:=by decide
 have hct1:ctB c=true:=by rw [<- ctB_eq];exact isC_true hc
 refine wk Tryz.call198 Tryz.func198 rfl Tryz.ntmps198 fun C hC hP hT hfn hpin hfin hX=>wW ?_
 refine Run.R ?_
 refine Run.g fun K hK=>?_
 refine FunA.e hP hT (c_impl_IsConnected c hc) ?_
 refine wE ?_;clear hK K
 refine Run.c ?_ ?_
 ·intro h
  have h:((partsI c).length == 1)=false:=by simpa using h
  refine Run.R ?_
  refine Run.r [2] ?_
  exact⟨by unfold nameI;rw [h,hct1];rfl,rfl⟩
 intro h
 have h:((partsI c).length == 1)=true:=by simpa using h
 have hnm:nameI c=firstT isoI c tyL:=by unfold nameI;rw [h,hct1];rfl
 refine Run.g fun K hK=>?_
 refine FunA.callW hP hT (c_strings_Split tyNames 32 (by decide)) (by simp only [AW7,simprocAttr];rfl) ?_
 rintro rs o ⟨rfl,rfl⟩
 rw [tyNames_split]
 refine wF ?_;clear hK K
 rw [hlen]
 refine Run.k [0,2,12,13,14] [0] ?_
 refine Run.loopI (X:=Nat) (fun k=>⟨32,[(0,true,.v (.sl false (.row false) c)),(2,true,.v (.str ([]))),(12,true,.v (.own 0 0)),(13,true,.v (.int .i64 ((17:Nat)))),(14,true,.v (.int .i64 k))],[.arr .str ((tyL.map (·.1))) 0 true]⟩) (fun k=>k<=17/\∀ j,j < k->isoI c (tyL.getD j ([],[],0)).2.1=false) (fun k=>17 - k) (0) (⟨by omega,fun j hj=>by omega⟩) ?_ ?_
 ·exact Le.s
 rintro k ⟨hk,hF⟩ ih
 try simp only []
 refine Run.R ?_
 refine Run.c ?_ ?_
 rotate_left
 ·intro h
  have h:k=17:=by rw [dfE]at h;omega
  subst h
  refine Run.x ?_
  refine Run.R ?_
  refine Run.k [2] [] ?_
  refine Run.r [2] ?_
  exact⟨by rw [hnm,firstT_none isoI c tyL (fun j hj=>hF j hj)],rfl⟩
 intro h
 have h:k < 17:=by rw [dtE]at h;omega
 obtain⟨t1,t2,t3,t4⟩:=tyA_fine k h
 have hct:=tyA_cartan h
 refine Run.R ?_
 rw [t4]
 refine Run.g fun K hK=>?_
 refine FunA.cW hP hT (c_impl_TypeCartan (tyA k).1 t2) ?_
 rintro rs o ⟨rfl,hs,rfl⟩
 rw [t1]
 refine wF ?_;clear hK K
 refine Run.g fun K hK=>?_
 refine FunA.cW hP hT (c_impl_AreIsomorphic c (tyA k).2.1 hc hct) ?_
 rintro rs o h2
 rcases h2 with⟨rfl,hi,rfl⟩ | ⟨l,xs,rfl,hi,rfl⟩
 ·refine wF ?_;clear hK K
  refine Run.R ?_
  refine Run.c ?_ ?_
  ·intro h3;cases h3
  intro _
  refine Run.RW ?_
  refine Run.k [0,2,12,13,14] [0] ?_
  refine Run.le ?_ (ih (k+1) (⟨h,fun j hj=>(by
   by_cases hj2:j=k
   ·subst hj2;exact hi
   ·exact hF j om)⟩) (by(try simp only [lenA,lenC,lenN]);omega))
  exact Le.sub (by rfl) (by simp only [AW7,simprocAttr];try simp)
 ·refine wF ?_;clear hK K
  refine Run.R ?_
  refine Run.c ?_ ?_
  rotate_left
  ·intro h3;cases h3
  intro _
  refine Run.R ?_
  refine Run.k [2] [] ?_
  refine Run.r [2] ?_
  exact⟨by rw [hnm,show firstT isoI c tyL=(tyA k).1 from firstT_take isoI c tyL k h hF hi],rfl⟩
def setOk (n:Nat) (p:LI):Bool:=Nat.blt 0 p.length && (List.range p.length).all fun i=>decide (0<=p.getD i 0) && (decide (p.getD i 0 < (n:Int)) && (Nat.beq i 0 || decide (p.getD (i - 1) 0 < p.getD i 0)))
def chkP (c:LL):Bool:=Nat.ble (partsI c).length c.length && (partsI c).all (setOk c.length)
set_option maxRecDepth 100000 in
theorem chkP1:(finM 1).all chkP=true:=by decide +kernel
set_option maxRecDepth 100000 in
theorem chkP2:(finM 2).all chkP=true:=by decide +kernel
set_option maxRecDepth 100000 in
theorem chkP3:(finM 3).all chkP=true:=by decide +kernel
set_option maxRecDepth 100000 in
theorem chkP4:(finM 4).all chkP=true:=by decide +kernel
theorem partsI_set {c:LL} (hF:FinP c):(partsI c).length<=c.length/\∀ p∈partsI c,setP c.length p/\p≠[]:=by
 have h:=fin_chk hF chkP1 chkP2 chkP3 chkP4
 simp only [chkP,setOk,bAnd,Bool.or_eq_true,alT,List.mem_range,dtE]at h
 refine⟨Nat.le_of_ble_eq_true h.1,fun p hp=>⟨fun i hi=>?_,fun e=>?_⟩⟩
 ·obtain⟨h1,h2,h3⟩:=(h.2 p hp).2 i hi
  exact⟨h1,h2,fun h0=>h3.resolve_left fun e=>by have:=Nat.eq_of_beq_eq_true e;omega⟩
 ·have:=(h.2 p hp).1
  rw [e]at this
  cases this
theorem c_impl_NameOf (c:LL) (hF:FinP c):FunA BJ 167 [.sl false (.row false) c] (fun rs o=>rs=[.str (joinX ((partsI c).map fun p=>nameI (pick c p)))]/\o=[]):=by
 have hc:=hF.1
 have hn:=hc.2.1
 obtain⟨hpl,hps⟩:=partsI_set hF
 refine FunA.walk BJ_ok (fn:=Tryz.f167) (fun vs w=>Tryz.call167 vs w) Tryz.func167 rfl (by rw [Tryz.ntmps167];simp) (fun C hC hP hT hΓ hbt hfn hpin hfin=>?_);haveI hDJ:DrLe BJ C:=⟨fun h=>by rw [hbt.2.2.2]at h;cases h⟩;have hPJ:=hP;have hTJ:=hT;replace hP:B.P=C.P:=hP;replace hT:B.tid=C.tid:=hT;have hX:=BXJ;rw [<- hΓ,<- hbt.1,<- hbt.2.1,<- hbt.2.2.1]at hX;rw [hTJ]at hX;rw [Tryz.ntmps167];simp only [AW7,simprocAttr,hX]
 refine Run.R ?_
 refine Run.R ?_
 refine Run.g fun K hK=>?_
 refine FunA.cW hP hT (c_impl_PartsOf c hc) ?_
 rintro rs o ⟨rfl,ys,hy,rfl⟩
 refine wF ?_;clear hK K
 have hyl:ys.length=(partsI c).length:=by rw [<- hy];simp [rw2]
 refine Run.k [0,2,3,8,9,10] [0,1] ?_
 refine Run.loopI (X:=Nat) (fun k=>⟨24,[(0,true,.v (.sl false (.row false) c)),(2,true,.v (.str ([]))),(3,true,.v (.own 0 0)),(8,true,.v (.own 1 0)),(9,true,.v (.int .i64 ((ys.length:Nat)))),(10,true,.v (.int .i64 k))],[.arr .str ((((partsI c).take k).map fun p=>nameI (pick c p))) 0 true,.arr .lrow (ys) 0 true]⟩) (fun k=>k<=ys.length) (fun k=>ys.length - k) (0) (nz0 _) ?_ ?_
 ·exact Le.s
 rintro k hk ih
 try simp only []
 have hkl:(((partsI c).take k).map fun p=>nameI (pick c p)).length<=4:=by rw [List.length_map,List.length_take];omega
 refine Run.R ?_
 refine Run.c ?_ ?_
 rotate_left
 ·intro h
  have h:k=ys.length:=by rw [dfE]at h;omega
  subst h
  rw [hyl,tkL]
  refine Run.x ?_
  have hjl:=joinX_len ((partsI c).map fun p=>nameI (pick c p)) (fun x hx=>by
   obtain⟨q,_,rfl⟩:=List.mem_map.1 hx
   unfold nameI
   cases ctB (pick c q) && (partsI (pick c q)).length == 1
   ·simp
   ·exact(firstT_ok _ _).2)
  rw [List.length_map]at hjl
  have hjx:=join_X ((partsI c).map fun p=>nameI (pick c p))
  refine Run.g fun K hK=>?_
  refine FunA.cW hPJ hTJ (c_strings_Join ((partsI c).map fun p=>nameI (pick c p)) [120] (by rw [List.length_map];omega) (by rw [hjx];omega)) ?_
  rintro rs o ⟨rfl,rfl⟩
  rw [hjx]
  refine wF ?_;clear hK K
  refine Run.k [2] [] ?_
  refine Run.r [2] ?_
  exact⟨rfl,rfl⟩
 intro h
 have h:k < ys.length:=by rw [dtE]at h;omega
 have hgp:(ys.getD k (0,[])).2=(partsI c).getD k []:=by rw [<- hy];simp [rw2,gdE,h]
 have hpm:(partsI c).getD k []∈partsI c:=by rw [gdE,geE om];exact List.getElem_mem _
 obtain⟨hset,hpne⟩:=hps _ hpm
 have hst:=map_snoc (fun p=>nameI (pick c p)) (partsI c) [] k om
 have hcp:=pick_cartan hc hset hpne
 have hp4:=set_len hset
 generalize (partsI c).getD k []=p at *
 refine Run.g fun K hK=>?_
 try rw [hgp]
 refine wF ?_;clear hK K
 try rw [hgp]
 refine Run.g fun K hK=>?_
 try rw [hgp]
 refine FunA.cW hP hT (c_impl_picked c p hn hc.2.2.1 (set_letters hset) om) ?_
 rintro rs o ⟨rfl,zs,hz,rfl⟩
 rw [<- hz]at hcp hst
 have hnl:(nameI (zs.map (·.2))).length<=maxLen:=by
  unfold nameI
  cases ctB (zs.map (·.2)) && (partsI (zs.map (·.2))).length == 1
  ·simp
  ·have:=(firstT_ok isoI (zs.map (·.2))).2
   simp only [cond_true]
   unfold maxLen
   omega
 refine wW ?_
 refine FunA.e hP hT (c_impl_NameOfPart (zs.map (·.2)) hcp) ?_
 refine wE ?_;clear hK K
 refine Run.RW ?_
 refine Run.k [0,2,3,8,9,10] [0,1] ?_
 refine Run.le ?_ (ih (k+1) om (by(try simp only [lenA,lenC,lenN]);omega))
 exact Le.sub (by first | rfl | (simp only [<- hst];done) | (rw [<- hst];rfl)) (by simp only [AW7,simprocAttr];try simp)
theorem c_impl_SizeByName (s:List UInt8) (hs:s.length<=1000):FunA B 166 [.str s] (fun rs o=>rs=[.int .i64 (sizeL (cutX [] s))]/\o=[]):=by
 refine wk Tryz.call166 Tryz.func166 rfl Tryz.ntmps166 fun C hC hP hT hfn hpin hfin hX=>wW ?_
 refine Run.R ?_
 refine Run.g fun K hK=>?_
 refine FunA.cW hP hT (c_strings_Split s 120 om) ?_
 rintro rs o ⟨rfl,rfl⟩
 rw [split_cutX]
 refine wF ?_;clear hK K
 have hl:=cutX_len s []
 have hsz:=sizeL_eq (cutX [] s)
 generalize cutX [] s=l at *
 refine Run.R ?_
 refine Run.c ?_ ?_
 ·intro h
  have h:4 < l.length:=by rw [dtE]at h;omega
  refine Run.R ?_
  refine Run.k [2] [] ?_
  refine Run.r [2] ?_
  exact⟨by rw [hsz,if_neg om],rfl⟩
 intro h
 have h4:l.length<=4:=by rw [dfE]at h;omega
 refine Run.R ?_
 refine Run.R ?_
 refine Run.k [0,2,3,4,12,13,14] [0] ?_
 refine Run.loopI (X:=Nat) (fun i=>⟨24,[(0,true,.v (.str s)),(2,true,.v (.int .i64 0)),(3,true,.v (.own 0 0)),(4,true,.v (.int .i64 (((szN (l.take i):Nat))))),(12,true,.v (.own 0 0)),(13,true,.v (.int .i64 ((l.length:Nat)))),(14,true,.v (.int .i64 i))],[.arr .str (l) 0 true]⟩) (fun i=>i<=l.length) (fun i=>l.length - i) (0) (nz0 _) ?_ ?_
 ·exact Le.s
 rintro i hi ih
 try simp only []
 refine Run.R ?_
 refine Run.c ?_ ?_
 rotate_left
 ·intro h
  have h:i=l.length:=by rw [dfE]at h;omega
  subst h
  rw [tkL]
  refine Run.x ?_
  refine Run.R ?_
  refine Run.k [2] [] ?_
  refine Run.r [2] ?_
  exact⟨by rw [hsz,if_pos h4],rfl⟩
 intro h
 have h:i < l.length:=by rw [dtE]at h;omega
 have hst:=szN_step l i h
 have hb1:=szN_le l i
 have hb2:=szN_le l (i+1)
 have hb3:=pow_small i om
 have hb4:=pow_small (i+1) om
 refine Run.R ?_
 have hw:IntKind.i64.wrap (((szN (l.take i):Nat):Int)*((sizeT (l.getD i []):Nat):Int))=((szN (l.take (i+1)):Nat):Int):=by
  rw [hst,<- Int.natCast_mul,wrap_id (by rw [<- hst];omega)]
 refine Run.g fun K hK=>?_
 refine FunA.e hP hT (c_impl_sizeOfType (l.getD i [])) ?_
 rw [hw]
 refine wF ?_;clear hK K
 refine Run.RW ?_
 refine Run.k [0,2,3,4,12,13,14] [0] ?_
 exact Run.j (ih (i+1) om mz)
theorem c_impl_SizeOf (c:LL):FunA BJ 134 [.sl false (.row false) c] (fun rs o=>rs=[.int .i64 (sizeE c)]/\o=[]):=by
 refine FunA.walk BJ_ok (fn:=Tryz.f134) (fun vs w=>Tryz.call134 vs w) Tryz.func134 rfl (by rw [Tryz.ntmps134];simp) (fun C hC hP hT hΓ hbt hfn hpin hfin=>?_);haveI hDJ:DrLe BJ C:=⟨fun h=>by rw [hbt.2.2.2]at h;cases h⟩;have hPJ:=hP;have hTJ:=hT;replace hP:B.P=C.P:=hP;replace hT:B.tid=C.tid:=hT;have hX:=BXJ;rw [<- hΓ,<- hbt.1,<- hbt.2.1,<- hbt.2.2.1]at hX;rw [hTJ]at hX;rw [Tryz.ntmps134];simp only [AW7,simprocAttr,hX]
 refine Run.R ?_
 refine Run.g fun K hK=>?_
 refine FunA.e hP hT (c_impl_IsFinite c) ?_
 refine wE ?_;clear hK K
 refine Run.c ?_ ?_
 ·intro h
  have h:isF c=false:=by simpa using h
  refine Run.R ?_
  refine Run.r [2] ?_
  exact⟨by unfold sizeE;rw [h];rfl,rfl⟩
 intro h
 have h:isF c=true:=by simpa using h
 have hF:=isF_iff.1 h
 have hn:=hF.1.2.1
 obtain⟨hpl,_⟩:=partsI_set hF
 have hjl:=joinX_len ((partsI c).map fun p=>nameI (pick c p)) (fun x hx=>by
  obtain⟨q,_,rfl⟩:=List.mem_map.1 hx
  unfold nameI
  cases ctB (pick c q) && (partsI (pick c q)).length == 1
  ·simp
  ·exact(firstT_ok _ _).2)
 rw [List.length_map]at hjl
 refine Run.g fun K hK=>?_
 refine FunA.cW hPJ hTJ (c_impl_NameOf c hF) ?_
 rintro rs o ⟨rfl,rfl⟩
 refine wW ?_
 refine FunA.e hP hT (c_impl_SizeByName (joinX ((partsI c).map fun p=>nameI (pick c p))) om) ?_
 refine wE ?_;clear hK K
 refine Run.k [2] [] ?_
 refine Run.r [2] ?_
 exact⟨by unfold sizeE;rw [if_pos h];rfl,rfl⟩
end Go.Proofs.YtcinngodeoidnaaGreatDoor
