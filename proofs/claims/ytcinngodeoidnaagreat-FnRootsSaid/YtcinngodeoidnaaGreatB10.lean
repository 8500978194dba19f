/- What a Cartan matrix is, and that the program and the reference tell it alike. -/
import Derived.Test.YtcinngodeoidnaaGreatB9
set_option linter.unusedVariables false
set_option linter.unusedSimpArgs false
namespace Go.Proofs.YtcinngodeoidnaaGreat
open Go Go.Aw
abbrev ent (c:LL) (i j:Nat):Int:=(c.getD i []).getD j 0
def badE (c:LL) (i j:Nat):Prop:=(i=j/\ent c i j≠2)\/(i≠j/\(ent c i j < -3\/ent c i j > 0\/¬(ent c i j=0↔ent c j i=0)))
def CartanP (c:LL):Prop:=1<=c.length/\c.length<=4/\(∀ i,i < c.length->(c.getD i []).length=c.length)/\∀ i j,i < c.length->j < c.length->¬badE c i j
open Classical in
noncomputable def isC (c:LL):Bool:=decide (CartanP c)
theorem isC_iff {c:LL}:isC c=true↔CartanP c:=by simp [isC]
theorem isC_false {c:LL} (h:¬CartanP c):isC c=false:=by simp [isC,h]
theorem isC_true {c:LL} (h:CartanP c):isC c=true:=isC_iff.2 h
theorem badE_impl (c:LL) (i j:Nat):(bif bif (i:Int) == (j:Int)then ent c i j != 2 else false then true
        else
         bif (i:Int) != (j:Int) then
          bif
            bif decide (ent c i j < -3)then true
            else decide (0 < ent c i j) then
           true
          else(ent c i j == 0) != (ent c j i == 0)
         else false)=true↔badE c i j:=by
 unfold badE
 have e:((i:Int) == (j:Int))=decide (i=j):=by
  rw [Bool.eq_iff_iff];simp;omega
 have e2:((i:Int) != (j:Int)) = !decide (i=j):=by rw [<- e];rfl
 rw [e,e2]
 generalize ent c i j=x
 generalize ent c j i=y
 have e3:(x == 0)=decide (x=0):=by rw [Bool.eq_iff_iff];simp
 have e4:(y == 0)=decide (y=0):=by rw [Bool.eq_iff_iff];simp
 rw [e3,e4]
 by_cases h:i=j
 ·simp [h]
 ·simp only [h,decide_false,cond_false,Bool.not_false,cond_true,false_and,ne_eq,not_false_eq_true,true_and,false_or]
  by_cases h1:x < -3
  ·simp [h1]
  ·by_cases h2:0 < x
   ·simp [h2]
   ·simp only [h1,h2,decide_false,cond_false,false_or]
    by_cases h3:x=0<;>by_cases h4:y=0<;>simp [h3,h4]
theorem c_impl_IsCartan (c:LL):FunA B 107 [.sl false (.row false) c] (fun rs o=>rs=[.bool (isC c)]/\o=[]):=by
 refine wk Tryz.call107 Tryz.func107 rfl Tryz.ntmps107 fun C hC hP hT hfn hpin hfin hX=>wW ?_
 refine Run.len 0 rfl fun hlen=>?_
 refine Run.R ?_
 refine Run.R ?_
 refine Run.R ?_
 refine Run.keep [0,2,3,16] ?_;simp only [AK,Nat.reduceBEq]
 refine Run.c ?_ ?_
 ·intro hc
  refine Run.R ?_
  refine Run.r [2] ?_
  refine⟨?_,rfl⟩
  rw [isC_false fun h=>?_]
  obtain⟨h1,h2,_⟩:=h
  by_cases h3:(c.length:Int) < 1
  ·omega
  ·simp [h3]at hc;omega
 intro hc
 have hn:1<=c.length/\c.length<=4:=by
  by_cases h3:(c.length:Int) < 1
  ·simp [h3]at hc
  ·simp [h3]at hc;omega
 refine Run.R ?_
 refine Run.keep [0,2,3,17,18,19] ?_;simp only [AK,Nat.reduceBEq]
 refine Run.loopI (X:=Nat) (fun i=>⟨78,[(0,true,.v (.sl false (.row false) c)),(2,true,.v (.bool false)),(3,true,.v (.int .i64 c.length)),(17,true,.v (.sl false (.row false) c)),(18,true,.v (.int .i64 c.length)),(19,true,.v (.int .i64 i))],[]⟩) (fun i=>i<=c.length/\∀ k,k < i->(c.getD k []).length=c.length) (fun i=>c.length - i) 0 ⟨nz0 _,by omega⟩ ?_ ?_
 ·exact Le.sub (by simp only [AW7,simprocAttr]) (by simp only [AW7,simprocAttr];try simp)
 rintro i ⟨hi,hrow⟩ ih
 refine Run.R ?_
 refine Run.c ?_ ?_
 ·intro hc2
  have hc2:i < c.length:=by simpa using hc2
  refine Run.R ?_
  refine Run.R ?_
  refine Run.c ?_ ?_
  ·intro hne
   refine Run.R ?_
   refine Run.r [2] ?_
   refine⟨?_,rfl⟩
   rw [isC_false fun h=>?_]
   have:=h.2.2.1 i hc2
   have hne:¬(c.getD i []).length=c.length:=by simp [-List.getD_eq_getElem?_getD]at hne;omega
   exact hne this
  ·intro heq
   have heq:(c.getD i []).length=c.length:=by simp [-List.getD_eq_getElem?_getD]at heq;omega
   refine Run.RW ?_
   refine Run.le ?_ (ih (i+1) ⟨hc2,fun k hk=>?_⟩ om)
   ·exact Le.sub (by simp only [AW7,simprocAttr]) (by simp only [AW7,simprocAttr,Option.some.injEq,Prod.mk.injEq,Sl.v.injEq,AV.int.injEq,AV.own.injEq,AV.bool.injEq];try(repeat' apply And.intro);all_goals omega)
   ·rcases Nat.lt_succ_iff_lt_or_eq.1 hk with h | rfl
    ·exact hrow k h
    ·exact heq
 intro hc2
 have hc2:i=c.length:=by simp at hc2;omega
 subst hc2
 refine Run.x ?_
 refine Run.R ?_
 refine Run.keep [0,2,3,28,29] ?_;simp only [AK,Nat.reduceBEq]
 refine Run.loopI (X:=Nat) (fun i=>⟨78,[(0,true,.v (.sl false (.row false) c)),(2,true,.v (.bool false)),(3,true,.v (.int .i64 c.length)),(28,true,.v (.int .i64 c.length)),(29,true,.v (.int .i64 i))],[]⟩) (fun i=>i<=c.length/\∀ k j,k < i->j < c.length->¬badE c k j) (fun i=>c.length - i) 0 ⟨nz0 _,by omega⟩ ?_ ?_
 ·exact Le.sub (by simp only [AW7,simprocAttr]) (by simp only [AW7,simprocAttr];try simp)
 clear ih
 rintro i ⟨hi,hcel⟩ ih
 refine Run.R ?_
 refine Run.c ?_ ?_
 ·intro hc2
  have hc2:i < c.length:=by simpa using hc2
  have hri:=hrow i hc2
  refine Run.R ?_
  refine Run.R ?_
  refine Run.keep [0,2,3,28,29,6,32,33] ?_;simp only [AK,Nat.reduceBEq]
  refine Run.loopI (X:=Nat) (fun j=>⟨78,[(0,true,.v (.sl false (.row false) c)),(2,true,.v (.bool false)),(3,true,.v (.int .i64 c.length)),(28,true,.v (.int .i64 c.length)),(29,true,.v (.int .i64 i)),(6,true,.v (.int .i64 i)),(32,true,.v (.int .i64 c.length)),(33,true,.v (.int .i64 j))],[]⟩) (fun j=>j<=c.length/\∀ q,q < j->¬badE c i q) (fun j=>c.length - j) 0 ⟨nz0 _,by omega⟩ ?_ ?_
  ·exact Le.sub (by simp only [AW7,simprocAttr]) (by simp only [AW7,simprocAttr];try simp)
  rintro j ⟨hj,hcj⟩ ihj
  refine Run.R ?_
  refine Run.c ?_ ?_
  ·intro hc3
   have hc3:j < c.length:=by simpa using hc3
   have hrj:=hrow j hc3
   refine Run.R ?_
   refine Run.R ?_
   refine Run.R ?_
   refine Run.keep [0,2,3,28,29,6,32,33,75] ?_;simp only [AK,Nat.reduceBEq]
   refine Run.c ?_ ?_
   ·intro hb
    have hb:=(badE_impl c i j).1 hb
    refine Run.R ?_
    refine Run.r [2] ?_
    refine⟨?_,rfl⟩
    rw [isC_false fun h=>h.2.2.2 i j hc2 hc3 hb]
   ·intro hb
    have hb:¬badE c i j:=fun h=>by
     have:=(badE_impl c i j).2 h
     rw [this]at hb
     cases hb
    refine Run.RW ?_
    refine Run.le ?_ (ihj (j+1) ⟨hc3,fun q hq=>?_⟩ om)
    ·exact Le.sub (by simp only [AW7,simprocAttr]) (by simp only [AW7,simprocAttr,Option.some.injEq,Prod.mk.injEq,Sl.v.injEq,AV.int.injEq,AV.own.injEq,AV.bool.injEq];try(repeat' apply And.intro);all_goals omega)
    ·rcases Nat.lt_succ_iff_lt_or_eq.1 hq with h | rfl
     ·exact hcj q h
     ·exact hb
  ·intro hc3
   have hc3:j=c.length:=by simp at hc3;omega
   subst hc3
   refine Run.x ?_
   refine Run.RW ?_
   refine Run.le ?_ (ih (i+1) ⟨hc2,fun k q hk hq=>?_⟩ om)
   ·exact Le.sub (by simp only [AW7,simprocAttr]) (by simp only [AW7,simprocAttr,Option.some.injEq,Prod.mk.injEq,Sl.v.injEq,AV.int.injEq,AV.own.injEq,AV.bool.injEq];try(repeat' apply And.intro);all_goals omega)
   ·rcases Nat.lt_succ_iff_lt_or_eq.1 hk with h | rfl
    ·exact hcel k q h hq
    ·exact hcj q hq
 ·intro hc2
  have hc2:i=c.length:=by simp at hc2;omega
  subst hc2
  refine Run.x ?_
  refine Run.R ?_
  refine Run.r [2] ?_
  refine⟨?_,rfl⟩
  rw [isC_true ⟨hn.1,hn.2,hrow,fun k q hk hq=>hcel k q hk hq⟩]
def inB (x lo hi:Int):Bool:=bif decide (x≥lo)then decide (x<=hi)else false
theorem inB_iff {x lo hi:Int}:inB x lo hi=true↔lo<=x/\x<=hi:=by
 unfold inB
 by_cases h:x≥lo<;>simp [h]<;>omega
theorem c_spec_l1In (x lo hi:Int):FunA B 110 [.int .i64 x,.int .i64 lo,.int .i64 hi] (fun rs o=>rs=[.bool (inB x lo hi)]/\o=[]):=by
 refine wk Tryz.call110 Tryz.func110 rfl Tryz.ntmps110 fun C hC hP hT hfn hpin hfin hX=>wW ?_
 refine Run.R ?_
 refine Run.R ?_
 refine Run.r [6] ?_
 exact⟨rfl,rfl⟩
theorem badE_spec (c:LL) (i j:Nat):(bif bif (i:Int) == (j:Int)then ent c i j != 2 else false then true
        else
         bif (i:Int) != (j:Int) then
          bif !inB (ent c i j) (-3) 0 then true
          else(ent c i j == 0) != (ent c j i == 0)
         else false)=true↔badE c i j:=by
 rw [<- badE_impl]
 have:(!inB (ent c i j) (-3) 0)=(bif decide (ent c i j < -3)then true else decide (0 < ent c i j)):=by
  generalize ent c i j=x
  unfold inB
  by_cases h1:x < -3
  ·have:¬x≥-3:=by omega
   simp [h1,this]
  ·have:x≥-3:=by omega
   by_cases h2:0 < x
   ·have h3:¬x<=0:=by omega
    simp [h1,this,h2,h3]
   ·have h3:x<=0:=by omega
    simp [h1,this,h2,h3]
 rw [this]
theorem c_spec_IsCartan (c:LL):FunA B 109 [.sl false (.row false) c] (fun rs o=>rs=[.bool (isC c)]/\o=[]):=by
 refine wk Tryz.call109 Tryz.func109 rfl Tryz.ntmps109 fun C hC hP hT hfn hpin hfin hX=>wW ?_
 refine Run.len 0 rfl fun hlen=>?_
 refine Run.R ?_
 refine Run.R ?_
 refine Run.loopI (X:=Nat) (fun i=>⟨83,[(0,true,.v (.sl false (.row false) c)),(2,true,.v (.bool false)),(3,true,.v (.int .i64 i))],[]⟩) (fun i=>i<=c.length/\∀ k,k < i->(c.getD k []).length=c.length) (fun i=>c.length - i) 0 ⟨nz0 _,by omega⟩ ?_ ?_
 ·exact Le.sub (by simp only [AW7,simprocAttr]) (by simp only [AW7,simprocAttr];try simp)
 rintro i ⟨hi,hrow⟩ ih
 refine Run.R ?_
 refine Run.c ?_ ?_
 ·intro hc2
  have hc2:i < c.length:=by simpa using hc2
  refine Run.R ?_
  refine Run.c ?_ ?_
  ·intro hne
   refine Run.R ?_
   refine Run.r [2] ?_
   refine⟨?_,rfl⟩
   rw [isC_false fun h=>?_]
   have:=h.2.2.1 i hc2
   have hne:¬(c.getD i []).length=c.length:=by simp [-List.getD_eq_getElem?_getD]at hne;omega
   exact hne this
  ·intro heq
   have heq:(c.getD i []).length=c.length:=by simp [-List.getD_eq_getElem?_getD]at heq;omega
   refine Run.RW ?_
   refine Run.le ?_ (ih (i+1) ⟨hc2,fun k hk=>?_⟩ om)
   ·exact Le.sub (by simp only [AW7,simprocAttr]) (by simp only [AW7,simprocAttr,Option.some.injEq,Prod.mk.injEq,Sl.v.injEq,AV.int.injEq,AV.own.injEq,AV.bool.injEq];try(repeat' apply And.intro);all_goals omega)
   ·rcases Nat.lt_succ_iff_lt_or_eq.1 hk with h | rfl
    ·exact hrow k h
    ·exact heq
 intro hc2
 have hc2:i=c.length:=by simp at hc2;omega
 subst hc2
 refine Run.x ?_
 refine Run.R ?_
 refine Run.keep [0,2,4] ?_;simp only [AK,Nat.reduceBEq]
 refine Run.loopI (X:=Nat) (fun i=>⟨83,[(0,true,.v (.sl false (.row false) c)),(2,true,.v (.bool false)),(4,true,.v (.int .i64 i))],[]⟩) (fun i=>i<=c.length/\∀ k j,k < i->j < c.length->¬badE c k j) (fun i=>c.length - i) 0 ⟨nz0 _,by omega⟩ ?_ ?_
 ·exact Le.sub (by simp only [AW7,simprocAttr]) (by simp only [AW7,simprocAttr];try simp)
 clear ih
 rintro i ⟨hi,hcel⟩ ih
 refine Run.R ?_
 refine Run.c ?_ ?_
 ·intro hc2
  have hc2:i < c.length:=by simpa using hc2
  have hri:=hrow i hc2
  refine Run.R ?_
  refine Run.keep [0,2,4,5] ?_;simp only [AK,Nat.reduceBEq]
  refine Run.loopI (X:=Nat) (fun j=>⟨83,[(0,true,.v (.sl false (.row false) c)),(2,true,.v (.bool false)),(4,true,.v (.int .i64 i)),(5,true,.v (.int .i64 j))],[]⟩) (fun j=>j<=c.length/\∀ q,q < j->¬badE c i q) (fun j=>c.length - j) 0 ⟨nz0 _,by omega⟩ ?_ ?_
  ·exact Le.sub (by simp only [AW7,simprocAttr]) (by simp only [AW7,simprocAttr];try simp)
  rintro j ⟨hj,hcj⟩ ihj
  refine Run.R ?_
  refine Run.c ?_ ?_
  ·intro hc3
   have hc3:j < c.length:=by simpa using hc3
   have hrj:=hrow j hc3
   refine Run.keep [0,2,4,5] ?_;simp only [AK,Nat.reduceBEq]
   refine Run.nq ?_
   refine Run.regionD hC true [0,1,2,3,4,5,6,7,8,9,10,11,12,13,14,15,16,17,18,19,20,21,22,23,24,25,26,27,28,29,30,31,32,33,34,35,36,37,38,39,40,41,42,43,44,45,46,47] (by kernel_rfl) (fun K hK=>?_)
   simp only [AW7,simprocAttr,hX]
   (repeat(with_reducible refine And.intro ?_ ?_);exact vc0)
   refine .inl (FunA.callG hP hT (c_spec_l1In (ent c i j) (-3) 0) (fun _=>rfl) (fun _=>by simp only [AW7,simprocAttr]) ?_)
   refine wW ?_
   refine hK _ ?_
   clear hK K
   refine Run.nq ?_
   refine Run.c ?_ ?_
   ·intro hb
    have hb:=(badE_spec c i j).1 hb
    refine Run.R ?_
    refine Run.r [2] ?_
    refine⟨?_,rfl⟩
    rw [isC_false fun h=>h.2.2.2 i j hc2 hc3 hb]
   ·intro hb
    have hb:¬badE c i j:=fun h=>by
     have:=(badE_spec c i j).2 h
     rw [this]at hb
     cases hb
    refine Run.keep [0,2,4,5] ?_;simp only [AK,Nat.reduceBEq]
    refine Run.RW ?_
    refine Run.le ?_ (ihj (j+1) ⟨hc3,fun q hq=>?_⟩ om)
    ·exact Le.sub (by simp only [AW7,simprocAttr]) (by simp only [AW7,simprocAttr,Option.some.injEq,Prod.mk.injEq,Sl.v.injEq,AV.int.injEq,AV.own.injEq,AV.bool.injEq];try(repeat' apply And.intro);all_goals omega)
    ·rcases Nat.lt_succ_iff_lt_or_eq.1 hq with h | rfl
     ·exact hcj q h
     ·exact hb
  ·intro hc3
   have hc3:j=c.length:=by simp at hc3;omega
   subst hc3
   refine Run.x ?_
   refine Run.RW ?_
   refine Run.le ?_ (ih (i+1) ⟨hc2,fun k q hk hq=>?_⟩ om)
   ·exact Le.sub (by simp only [AW7,simprocAttr]) (by simp only [AW7,simprocAttr,Option.some.injEq,Prod.mk.injEq,Sl.v.injEq,AV.int.injEq,AV.own.injEq,AV.bool.injEq];try(repeat' apply And.intro);all_goals omega)
   ·rcases Nat.lt_succ_iff_lt_or_eq.1 hk with h | rfl
    ·exact hcel k q h hq
    ·exact hcj q hq
 ·intro hc2
  have hc2:i=c.length:=by simp at hc2;omega
  subst hc2
  refine Run.x ?_
  refine Run.g fun K hK=>?_
  refine FunA.e hP hT (c_spec_l1In (c.length:Int) 1 4) ?_
  refine wE ?_;clear hK K
  refine Run.r [2] ?_
  refine⟨?_,rfl⟩
  have:isC c=inB c.length 1 4:=by
   rw [Bool.eq_iff_iff,isC_iff,inB_iff]
   constructor
   ·intro h;have h1:=h.1;have h2:=h.2.1;omega
   ·intro h;exact⟨by omega,by omega,hrow,fun k q hk hq=>hcel k q hk hq⟩
  rw [this]
theorem c_l1Pick (s:Value) (l:List (List UInt8)) (h0:0 < l.length) (hl:l.length<=256):FunO B 160 [.own 0 0,.sl false .str l] (.cur s 0) (fun rs o=>∃ x:List UInt8,rs=[.str x]/\x∈l/\o=[.cur s 0]):=by
 refine FunO.walk B_ok (fn:=Tryz.f160) (fun vs w=>Tryz.call160 vs w) Tryz.func160 rfl (by rw [Tryz.ntmps160];simp) (fun C hC hP hT hΓ hbt hfn hpin hfin=>?_);have hX:=BX;rw [<- hΓ,<- hbt.1,<- hbt.2.1,<- hbt.2.2.1,<- hbt.2.2.2.2]at hX;rw [hT]at hX;rw [Tryz.ntmps160];simp only [AW7,simprocAttr,hX]
 refine Run.R ?_
 refine Run.g fun K hK=>?_
 refine FunO.callCur hP hT (c_l1Below s l.length om om) 0 0 (by first | rfl | (simp only [AW7,simprocAttr];done) | (simp only [AW7,simprocAttr];rfl)) (by simp only [AW7,simprocAttr]) ?_
 rintro rs o' obs' ⟨x,rfl,x0,x1,ho⟩
 injection ho with ho1 ho2;subst ho1 ho2
 have x1:=x1 om
 refine wWW ?_
 refine wE ?_;clear hK K
 refine Run.rW [4] (hfin _ _ _ rfl rfl ⟨rfl,rfl⟩ ?_)
 refine⟨_,rfl,?_,rfl⟩
 rw [gdE,geE om]
 simp
def chR (n i:Nat):List Int:=(List.range n).map fun j=>if j=i then 2 else if j+1=i\/i+1=j then -1 else 0
def chL (n:Nat):List (List Int):=(List.range n).map (chR n)
theorem chR_eq (n i:Nat) (hi:i < n):(if i+1 < n then(if 0 < i then((List.replicate n (0:Int)).set i 2).set (i - 1) (-1) else(List.replicate n (0:Int)).set i 2).set (i+1) (-1) else(if 0 < i then((List.replicate n (0:Int)).set i 2).set (i - 1) (-1) else(List.replicate n (0:Int)).set i 2))=chR n i:=by
 apply List.ext_getElem?
 intro j
 unfold chR
 by_cases hj:j < n
 ·by_cases h1:i+1 < n<;>by_cases h2:0 < i<;>simp only [h1,h2,if_true,if_false,List.getElem?_set,List.length_set,List.length_replicate,List.getElem?_map,List.getElem?_range hj,Option.map_some,List.getElem?_replicate,hj]<;>(repeat' split)<;>first | rfl | omega | (simp;omega) | simp_all
 ·rw [geN,geN]
  ·simp;omega
  ·split<;>split<;>simp<;>omega
theorem chL_snoc (n i:Nat):(List.range (i+1)).map (chR n)=(List.range i).map (chR n) ++ [chR n i]:=by rw [List.range_succ];simp
theorem c_l2ChainR (n:Nat) (hn:n<=8):FunA B 184 [.int .i64 n] (fun rs o=>∃ ys g nn rest,(rw2 ys=chL n/\nn=true/\rest=[])/\(lb1 ys).Nodup/\rest.all flatAV=true/\rs=.own 0 g :: rest/\o=[.arr .lrow ys g nn]):=by
 refine wk Tryz.call184 Tryz.func184 rfl Tryz.ntmps184 fun C hC hP hT hfn hpin hfin hX=>wW ?_
 refine Run.R ?_
 refine Run.R ?_
 refine Run.R ?_
 refine Run.loopI (X:=List (Nat×List Int)×Nat) (fun y=>⟨36,[(0,true,.v (.int .i64 n)),(3,true,.v (.own 0 0)),(4,true,.v (.int .i64 (y.2)))],[.arr .lrow (y.1) 0 true]⟩) (fun y=>y.2<=n/\rw2 y.1=(List.range y.2).map (chR n)/\(lb1 y.1).Nodup) (fun y=>n - y.2) (([],0)) (⟨nz0 _,rfl,by simp [lb1]⟩) ?_ ?_
 ·exact Le.s
 rintro⟨ys,i⟩ ⟨hi,hE,hN⟩ ih
 try simp only []
 simp only []at hi hE hN
 refine Run.R ?_
 refine Run.c ?_ ?_
 rotate_left
 ·intro h
  have h:i=n:=by rw [dfE]at h;omega
  subst h
  refine Run.x ?_
  refine Run.R ?_
  refine Run.r [2] ?_
  exact⟨ys,0,true,[],⟨hE,rfl,rfl⟩,hN,rfl,rfl,rfl⟩
 intro h
 have h:i < n:=by rw [dtE]at h;omega
 have e1:((i:Int) - 1).toNat=i - 1:=by omega
 have e2:((i:Int)+1).toNat=i+1:=by omega
 have hyl:ys.length=i:=by
  have:(rw2 ys).length=ys.length:=by simp [rw2]
  rw [hE]at this;simpa using this.symm
 have hch:=chR_eq n i h
 refine Run.R ?_
 refine Run.R ?_
 refine Run.R ?_
 refine Run.c ?_ ?_
 ·intro h1
  have h1:0 < i:=by rw [dtE]at h1;omega
  refine Run.RW ?_
  refine Run.RW ?_
  refine Run.c ?_ ?_
  ·intro h2
   have h2:i+1 < n:=by rw [dtE]at h2;omega
   rw [if_pos h2,if_pos h1]at hch
   refine Run.RW ?_
   rw [e1,e2,hch]
   refine Run.k [0,3,4,5] [0,1] ?_
   refine Run.tolr 1 [0,3,4,5] rfl (fun q hq=>?_);simp only [AL,frV_cons,frV_nil,AW7,simprocAttr]
   refine Run.R ?_
   refine Run.k [0,3,4] [0] ?_
   have hnd2:(lb1 (ys ++ [(q,chR n i)])).Nodup:=by
    rw [lb1_app,List.nodup_append]
    refine⟨hN,by simp [lb1],fun a ha b hb=>?_⟩
    simp [lb1]at hb
    subst hb
    obtain⟨p,hp,rfl⟩:=List.mem_map.1 ha
    exact hq _ (mcS ..) _ _ _ rfl p hp
   have hE2:rw2 (ys ++ [(q,chR n i)])=(List.range (i+1)).map (chR n):=by
    rw [chL_snoc,<- hE];simp [rw2]
   refine Run.RW ?_
   exact Run.j (ih ((ys ++ [(q,chR n i)],i+1)) (⟨h,hE2,hnd2⟩) mz)
  intro h2
  have h2:¬i+1 < n:=by rw [dfE]at h2;omega
  rw [if_neg h2,if_pos h1]at hch
  rw [e1,hch]
  refine Run.k [0,3,4,5] [0,1] ?_
  refine Run.tolr 1 [0,3,4,5] rfl (fun q hq=>?_);simp only [AL,frV_cons,frV_nil,AW7,simprocAttr]
  refine Run.R ?_
  refine Run.k [0,3,4] [0] ?_
  have hnd2:(lb1 (ys ++ [(q,chR n i)])).Nodup:=by
   rw [lb1_app,List.nodup_append]
   refine⟨hN,by simp [lb1],fun a ha b hb=>?_⟩
   simp [lb1]at hb
   subst hb
   obtain⟨p,hp,rfl⟩:=List.mem_map.1 ha
   exact hq _ (mcS ..) _ _ _ rfl p hp
  have hE2:rw2 (ys ++ [(q,chR n i)])=(List.range (i+1)).map (chR n):=by
   rw [chL_snoc,<- hE];simp [rw2]
  refine Run.RW ?_
  exact Run.j (ih ((ys ++ [(q,chR n i)],i+1)) (⟨h,hE2,hnd2⟩) mz)
 intro h1
 have h1:¬0 < i:=by rw [dfE]at h1;omega
 refine Run.RW ?_
 refine Run.c ?_ ?_
 ·intro h2
  have h2:i+1 < n:=by rw [dtE]at h2;omega
  rw [if_pos h2,if_neg h1]at hch
  refine Run.RW ?_
  rw [e2,hch]
  refine Run.k [0,3,4,5] [0,1] ?_
  refine Run.tolr 1 [0,3,4,5] rfl (fun q hq=>?_);simp only [AL,frV_cons,frV_nil,AW7,simprocAttr]
  refine Run.R ?_
  refine Run.k [0,3,4] [0] ?_
  have hnd2:(lb1 (ys ++ [(q,chR n i)])).Nodup:=by
   rw [lb1_app,List.nodup_append]
   refine⟨hN,by simp [lb1],fun a ha b hb=>?_⟩
   simp [lb1]at hb
   subst hb
   obtain⟨p,hp,rfl⟩:=List.mem_map.1 ha
   exact hq _ (mcS ..) _ _ _ rfl p hp
  have hE2:rw2 (ys ++ [(q,chR n i)])=(List.range (i+1)).map (chR n):=by
   rw [chL_snoc,<- hE];simp [rw2]
  refine Run.RW ?_
  exact Run.j (ih ((ys ++ [(q,chR n i)],i+1)) (⟨h,hE2,hnd2⟩) mz)
 intro h2
 have h2:¬i+1 < n:=by rw [dfE]at h2;omega
 rw [if_neg h2,if_neg h1]at hch
 rw [hch]
 refine Run.k [0,3,4,5] [0,1] ?_
 refine Run.tolr 1 [0,3,4,5] rfl (fun q hq=>?_);simp only [AL,frV_cons,frV_nil,AW7,simprocAttr]
 refine Run.R ?_
 refine Run.k [0,3,4] [0] ?_
 have hnd2:(lb1 (ys ++ [(q,chR n i)])).Nodup:=by
  rw [lb1_app,List.nodup_append]
  refine⟨hN,by simp [lb1],fun a ha b hb=>?_⟩
  simp [lb1]at hb
  subst hb
  obtain⟨p,hp,rfl⟩:=List.mem_map.1 ha
  exact hq _ (mcS ..) _ _ _ rfl p hp
 have hE2:rw2 (ys ++ [(q,chR n i)])=(List.range (i+1)).map (chR n):=by
  rw [chL_snoc,<- hE];simp [rw2]
 refine Run.RW ?_
 exact Run.j (ih ((ys ++ [(q,chR n i)],i+1)) (⟨h,hE2,hnd2⟩) mz)
theorem c_l2Chain (n:Nat) (hn:n<=8):FunA B 184 [.int .i64 n] (fun rs o=>rs=[.own 0 0]/\∃ hs,o=[.mat hs (chL n) 0 true]):=
 (FunA.mat (by rfl) (post:=fun rows nn rest=>rows=chL n/\nn=true/\rest=[]) (c_l2ChainR n hn)).mono fun rs o ⟨hs,rows,nn,rest,⟨h1,h2,h3⟩,h4,h5,h6⟩=>by subst h1 h2 h3;exact⟨h5,hs,h6⟩
theorem c_l2CopyR (c:LL) (hc:c.length<=100) (hr:∀ r∈c,r.length<=100):FunA B 205 [.sl false (.row false) c] (fun rs o=>∃ ys g nn rest,(rw2 ys=c/\nn=true/\rest=[])/\(lb1 ys).Nodup/\rest.all flatAV=true/\rs=.own 0 g :: rest/\o=[.arr .lrow ys g nn]):=by
 refine wk Tryz.call205 Tryz.func205 rfl Tryz.ntmps205 fun C hC hP hT hfn hpin hfin hX=>wW ?_
 refine Run.R ?_
 refine Run.R ?_
 refine Run.R ?_
 refine Run.loopI (X:=List (Nat×List Int)×Nat) (fun y=>⟨22,[(0,true,.v (.sl false (.row false) c)),(3,true,.v (.own 0 0)),(4,true,.v (.int .i64 (y.2)))],[.arr .lrow (y.1) 0 true]⟩) (fun y=>y.2<=c.length/\rw2 y.1=c.take y.2/\(lb1 y.1).Nodup) (fun y=>c.length - y.2) (([],0)) (⟨nz0 _,rfl,by simp [lb1]⟩) ?_ ?_
 ·exact Le.s
 rintro⟨ys,i⟩ ⟨hi,hE,hN⟩ ih
 try simp only []
 simp only []at hi hE hN
 refine Run.R ?_
 refine Run.c ?_ ?_
 rotate_left
 ·intro h
  have h:i=c.length:=by rw [dfE]at h;omega
  subst h
  refine Run.x ?_
  refine Run.R ?_
  refine Run.r [2] ?_
  exact⟨ys,0,true,[],⟨by rw [hE,tkL],rfl,rfl⟩,hN,rfl,rfl,rfl⟩
 intro h
 have h:i < c.length:=by rw [dtE]at h;omega
 have hyl:ys.length=i:=by
  have:(rw2 ys).length=ys.length:=by simp [rw2]
  rw [hE]at this
  simp at this
  omega
 have hrl:(c.getD i []).length<=100:=by
  rw [gdE,geE h]
  exact hr _ (List.getElem_mem h)
 refine Run.g fun K hK=>?_
 refine⟨by simp only [lenN];omega,fun q hq=>⟨by simp only [lenC,lenN];omega,?_⟩⟩
 refine wE ?_;clear hK K
 refine Run.k [0,3,4] [0] ?_
 have hnd2:(lb1 (ys ++ [(q,c.getD i [])])).Nodup:=by
  rw [lb1_app,List.nodup_append]
  refine⟨hN,by simp [lb1],fun a ha b hb=>?_⟩
  simp [lb1]at hb
  subst hb
  obtain⟨p,hp,rfl⟩:=List.mem_map.1 ha
  exact hq _ (mcS ..) _ _ _ rfl p hp
 have hE2:rw2 (ys ++ [(q,c.getD i [])])=c.take (i+1):=by
  rw [<- take_snoc [] c i h,<- hE];simp [rw2]
 refine Run.RW ?_
 exact Run.j (ih ((ys ++ [(q,c.getD i [])],i+1)) (⟨h,hE2,hnd2⟩) mz)
theorem c_l2Copy (c:LL) (hc:c.length<=100) (hr:∀ r∈c,r.length<=100):FunA B 205 [.sl false (.row false) c] (fun rs o=>rs=[.own 0 0]/\∃ hs,o=[.mat hs c 0 true]):=
 (FunA.mat (by rfl) (post:=fun rows nn rest=>rows=c/\nn=true/\rest=[]) (c_l2CopyR c hc hr)).mono fun rs o ⟨hs,rows,nn,rest,⟨h1,h2,h3⟩,h4,h5,h6⟩=>by subst h1 h2 h3;exact⟨h5,hs,h6⟩
def set1 (c:LL) (i j:Nat) (a:Int):List (List Int):=c.set i ((c.getD i []).set j a)
theorem set1_len (c:LL) (i j:Nat) (a:Int):(set1 c i j a).length=c.length:=by simp [set1]
theorem set1_row (c:LL) (i j k:Nat) (a:Int):((set1 c i j a).getD k []).length=(c.getD k []).length:=by
 unfold set1
 simp only [gdE]
 by_cases h:i=k
 ·subst h
  by_cases hi:i < c.length
  ·rw [List.getElem?_set_self hi];simp
  ·rw [List.set_eq_of_length_le om]
 ·rw [List.getElem?_set_ne h]
theorem c_l2Set (c:LL) (i j:Nat) (a b:Int) (hc:c.length<=100) (hr:∀ r∈c,r.length<=100) (hi:i < c.length) (hj:j < c.length) (h1:j < (c.getD i []).length) (h2:i < (c.getD j []).length) :
  FunA B 185 [.sl false (.row false) c,.int .i64 i,.int .i64 j,.int .i64 a,.int .i64 b] (fun rs o=>rs=[.own 0 0]/\∃ hs,o=[.mat hs (set1 (set1 c i j a) j i b) 0 true]):=by
 refine wk Tryz.call185 Tryz.func185 rfl Tryz.ntmps185 fun C hC hP hT hfn hpin hfin hX=>wW ?_
 refine Run.R ?_
 refine Run.g fun K hK=>?_
 refine FunA.cW hP hT (c_l2Copy c hc hr) ?_
 rintro rs o ⟨rfl,hs,rfl⟩
 refine wF ?_;clear hK K
 refine Run.matfact 0 rfl fun hl hd hz=>?_
 obtain⟨q1,e1,m1,x1⟩:=mat_head hl hd hz hi om
 have hl2:hs.length=(set1 c i j a).length:=by rw [set1_len];exact hl
 have hv1:j < (c.getD (hs.idxOf (some q1)) []).length:=by rw [x1];exact h1
 have hs1:setM hs c q1 j a=set1 c i j a:=by unfold setM set1;rw [x1]
 refine Run.g fun K hK=>?_
 rw [e1]
 refine wF ?_;clear hK K
 rw [hs1]
 refine Run.k [0,1,2,3,4,11] [0] ?_
 refine Run.matfact 0 rfl fun hl hd hz=>?_
 obtain⟨q2,e2,m2,x2⟩:=mat_head (i:=j) hl hd hz (by rw [set1_len];exact hj) (by rw [set1_row];omega)
 have hv2:i < ((set1 c i j a).getD (hs.idxOf (some q2)) []).length:=by rw [x2,set1_row];exact h2
 have hs2:setM hs (set1 c i j a) q2 i b=set1 (set1 c i j a) j i b:=by unfold setM;rw [x2];rfl
 have h2':=h2
 rw [<- set1_row c i j j a]at h2'
 have hj':j < (set1 c i j a).length:=by rw [set1_len];exact hj
 refine Run.g fun K hK=>?_
 rw [e2]
 refine wF ?_;clear hK K
 rw [hs2]
 refine Run.R ?_
 refine Run.k [10] [0] ?_
 refine Run.r [10] ?_
 exact⟨rfl,hs,rfl⟩
def tcM:List UInt8->List (List Int)
 | [65,49]=>chL 1
 | [65,50]=>chL 2
 | [65,51]=>chL 3
 | [65,52]=>chL 4
 | [66,50]=>set1 (set1 (chL 2) 0 1 (-1)) 1 0 (-2)
 | [66,51]=>set1 (set1 (chL 3) 1 2 (-1)) 2 1 (-2)
 | [66,52]=>set1 (set1 (chL 4) 2 3 (-1)) 3 2 (-2)
 | [67,51]=>set1 (set1 (chL 3) 1 2 (-2)) 2 1 (-1)
 | [67,52]=>set1 (set1 (chL 4) 2 3 (-2)) 3 2 (-1)
 | [68,52]=>set1 (set1 (set1 (set1 (chL 4) 2 3 0) 3 2 0) 1 3 (-1)) 3 1 (-1)
 | [70,52]=>set1 (set1 (chL 4) 1 2 (-1)) 2 1 (-2)
 | [71,50]=>set1 (set1 (chL 2) 0 1 (-1)) 1 0 (-3)
 | [65,49,126]=>set1 (set1 (chL 2) 0 1 (-2)) 1 0 (-2)
 | [65,50,126]=>set1 (set1 (chL 3) 0 2 (-1)) 2 0 (-1)
 | [65,51,126]=>set1 (set1 (chL 4) 0 3 (-1)) 3 0 (-1)
 | [67,50,126]=>set1 (set1 (set1 (set1 (chL 3) 0 1 (-1)) 1 0 (-2)) 1 2 (-2)) 2 1 (-1)
 | [71,50,126]=>set1 (set1 (chL 3) 1 2 (-1)) 2 1 (-3)
 | _=>[]
def tcN:List (List UInt8):=[[65,49],[65,50],[65,51],[65,52],[66,50],[66,51],[66,52],[67,51],[67,52],[68,52],[70,52],[71,50],[65,49,126],[65,50,126],[65,51,126],[67,50,126],[71,50,126]]
set_option maxHeartbeats 1000000 in
theorem c_TypeCartan (nm:List UInt8) (hm:nm∈tcN):FunA B 159 [.str nm] (fun rs o=>rs=[.own 0 0,.bool true]/\∃ hs,o=[.mat hs (tcM nm) 0 true]):=by
 refine wk Tryz.call159 Tryz.func159 rfl Tryz.ntmps159 fun C hC hP hT hfn hpin hfin hX=>wW ?_
 refine Run.R ?_
 refine Run.R ?_
 refine Run.R ?_
 refine Run.c ?_ ?_
 ·intro h
  have h:nm=[65,49]:=by simpa using h
  subst h
  refine Run.c ?_ ?_
  rotate_left
  ·intro h;exact absurd h (by decide)
  intro _
  refine Run.g fun K hK=>?_
  refine FunA.callW hP hT (c_l2Chain 1 om) (by simp only [AW7,simprocAttr];first | rfl | trivial) ?_
  rintro rs o ⟨rfl,hs,rfl⟩
  refine wF ?_;clear hK K
  refine Run.k [2,3] [0] ?_
  refine Run.r [2,3] ?_
  exact⟨rfl,hs,rfl⟩
 intro n0
 have n0:¬nm=[65,49]:=by simpa using n0
 refine Run.R ?_
 refine Run.c ?_ ?_
 ·intro h
  have h:nm=[65,50]:=by simpa using h
  subst h
  refine Run.c ?_ ?_
  rotate_left
  ·intro h;exact absurd h (by decide)
  intro _
  refine Run.g fun K hK=>?_
  refine FunA.callW hP hT (c_l2Chain 2 om) (by simp only [AW7,simprocAttr];first | rfl | trivial) ?_
  rintro rs o ⟨rfl,hs,rfl⟩
  refine wF ?_;clear hK K
  refine Run.k [2,3] [0] ?_
  refine Run.r [2,3] ?_
  exact⟨rfl,hs,rfl⟩
 intro n1
 have n1:¬nm=[65,50]:=by simpa using n1
 refine Run.R ?_
 refine Run.c ?_ ?_
 ·intro h
  have h:nm=[65,51]:=by simpa using h
  subst h
  refine Run.c ?_ ?_
  rotate_left
  ·intro h;exact absurd h (by decide)
  intro _
  refine Run.g fun K hK=>?_
  refine FunA.callW hP hT (c_l2Chain 3 om) (by simp only [AW7,simprocAttr];first | rfl | trivial) ?_
  rintro rs o ⟨rfl,hs,rfl⟩
  refine wF ?_;clear hK K
  refine Run.k [2,3] [0] ?_
  refine Run.r [2,3] ?_
  exact⟨rfl,hs,rfl⟩
 intro n2
 have n2:¬nm=[65,51]:=by simpa using n2
 refine Run.R ?_
 refine Run.c ?_ ?_
 ·intro h
  have h:nm=[65,52]:=by simpa using h
  subst h
  refine Run.g fun K hK=>?_
  refine FunA.callW hP hT (c_l2Chain 4 om) (by simp only [AW7,simprocAttr];first | rfl | trivial) ?_
  rintro rs o ⟨rfl,hs,rfl⟩
  refine wF ?_;clear hK K
  refine Run.k [2,3] [0] ?_
  refine Run.r [2,3] ?_
  exact⟨rfl,hs,rfl⟩
 intro n3
 have n3:¬nm=[65,52]:=by simpa using n3
 refine Run.R ?_
 refine Run.c ?_ ?_
 ·intro h
  have h:nm=[66,50]:=by simpa using h
  subst h
  refine Run.g fun K hK=>?_
  refine FunA.cW hP hT (c_l2Chain 2 om) ?_
  rintro rs o ⟨rfl,hs,rfl⟩
  refine wW ?_
  refine FunA.cW hP hT (c_l2Set (chL 2) 0 1 (-1) (-2) (by decide) (by decide) (by decide) (by decide) (by decide) (by decide)) ?_
  rintro rs o ⟨rfl,hs1,rfl⟩
  refine wF ?_;clear hK K
  refine Run.k [2,3] [1] ?_
  refine Run.r [2,3] ?_
  exact⟨rfl,hs1,rfl⟩
 intro n4
 have n4:¬nm=[66,50]:=by simpa using n4
 refine Run.R ?_
 refine Run.c ?_ ?_
 ·intro h
  have h:nm=[66,51]:=by simpa using h
  subst h
  refine Run.g fun K hK=>?_
  refine FunA.cW hP hT (c_l2Chain 3 om) ?_
  rintro rs o ⟨rfl,hs,rfl⟩
  refine wW ?_
  refine FunA.cW hP hT (c_l2Set (chL 3) 1 2 (-1) (-2) (by decide) (by decide) (by decide) (by decide) (by decide) (by decide)) ?_
  rintro rs o ⟨rfl,hs1,rfl⟩
  refine wF ?_;clear hK K
  refine Run.k [2,3] [1] ?_
  refine Run.r [2,3] ?_
  exact⟨rfl,hs1,rfl⟩
 intro n5
 have n5:¬nm=[66,51]:=by simpa using n5
 refine Run.R ?_
 refine Run.c ?_ ?_
 ·intro h
  have h:nm=[66,52]:=by simpa using h
  subst h
  refine Run.g fun K hK=>?_
  refine FunA.cW hP hT (c_l2Chain 4 om) ?_
  rintro rs o ⟨rfl,hs,rfl⟩
  refine wW ?_
  refine FunA.cW hP hT (c_l2Set (chL 4) 2 3 (-1) (-2) (by decide) (by decide) (by decide) (by decide) (by decide) (by decide)) ?_
  rintro rs o ⟨rfl,hs1,rfl⟩
  refine wF ?_;clear hK K
  refine Run.k [2,3] [1] ?_
  refine Run.r [2,3] ?_
  exact⟨rfl,hs1,rfl⟩
 intro n6
 have n6:¬nm=[66,52]:=by simpa using n6
 refine Run.R ?_
 refine Run.c ?_ ?_
 ·intro h
  have h:nm=[67,51]:=by simpa using h
  subst h
  refine Run.g fun K hK=>?_
  refine FunA.cW hP hT (c_l2Chain 3 om) ?_
  rintro rs o ⟨rfl,hs,rfl⟩
  refine wW ?_
  refine FunA.cW hP hT (c_l2Set (chL 3) 1 2 (-2) (-1) (by decide) (by decide) (by decide) (by decide) (by decide) (by decide)) ?_
  rintro rs o ⟨rfl,hs1,rfl⟩
  refine wF ?_;clear hK K
  refine Run.k [2,3] [1] ?_
  refine Run.r [2,3] ?_
  exact⟨rfl,hs1,rfl⟩
 intro n7
 have n7:¬nm=[67,51]:=by simpa using n7
 refine Run.R ?_
 refine Run.c ?_ ?_
 ·intro h
  have h:nm=[67,52]:=by simpa using h
  subst h
  refine Run.g fun K hK=>?_
  refine FunA.cW hP hT (c_l2Chain 4 om) ?_
  rintro rs o ⟨rfl,hs,rfl⟩
  refine wW ?_
  refine FunA.cW hP hT (c_l2Set (chL 4) 2 3 (-2) (-1) (by decide) (by decide) (by decide) (by decide) (by decide) (by decide)) ?_
  rintro rs o ⟨rfl,hs1,rfl⟩
  refine wF ?_;clear hK K
  refine Run.k [2,3] [1] ?_
  refine Run.r [2,3] ?_
  exact⟨rfl,hs1,rfl⟩
 intro n8
 have n8:¬nm=[67,52]:=by simpa using n8
 refine Run.R ?_
 refine Run.c ?_ ?_
 ·intro h
  have h:nm=[68,52]:=by simpa using h
  subst h
  refine Run.g fun K hK=>?_
  refine FunA.cW hP hT (c_l2Chain 4 om) ?_
  rintro rs o ⟨rfl,hs,rfl⟩
  refine wW ?_
  refine FunA.cW hP hT (c_l2Set (chL 4) 2 3 (0) (0) (by decide) (by decide) (by decide) (by decide) (by decide) (by decide)) ?_
  rintro rs o ⟨rfl,hs1,rfl⟩
  refine wW ?_
  refine FunA.cW hP hT (c_l2Set (set1 (set1 (chL 4) 2 3 0) 3 2 0) 1 3 (-1) (-1) (by decide) (by decide) (by decide) (by decide) (by decide) (by decide)) ?_
  rintro rs o ⟨rfl,hs2,rfl⟩
  refine wF ?_;clear hK K
  refine Run.k [2,3] [2] ?_
  refine Run.r [2,3] ?_
  exact⟨rfl,hs2,rfl⟩
 intro n9
 have n9:¬nm=[68,52]:=by simpa using n9
 refine Run.R ?_
 refine Run.c ?_ ?_
 ·intro h
  have h:nm=[70,52]:=by simpa using h
  subst h
  refine Run.g fun K hK=>?_
  refine FunA.cW hP hT (c_l2Chain 4 om) ?_
  rintro rs o ⟨rfl,hs,rfl⟩
  refine wW ?_
  refine FunA.cW hP hT (c_l2Set (chL 4) 1 2 (-1) (-2) (by decide) (by decide) (by decide) (by decide) (by decide) (by decide)) ?_
  rintro rs o ⟨rfl,hs1,rfl⟩
  refine wF ?_;clear hK K
  refine Run.k [2,3] [1] ?_
  refine Run.r [2,3] ?_
  exact⟨rfl,hs1,rfl⟩
 intro n10
 have n10:¬nm=[70,52]:=by simpa using n10
 refine Run.R ?_
 refine Run.c ?_ ?_
 ·intro h
  have h:nm=[71,50]:=by simpa using h
  subst h
  refine Run.g fun K hK=>?_
  refine FunA.cW hP hT (c_l2Chain 2 om) ?_
  rintro rs o ⟨rfl,hs,rfl⟩
  refine wW ?_
  refine FunA.cW hP hT (c_l2Set (chL 2) 0 1 (-1) (-3) (by decide) (by decide) (by decide) (by decide) (by decide) (by decide)) ?_
  rintro rs o ⟨rfl,hs1,rfl⟩
  refine wF ?_;clear hK K
  refine Run.k [2,3] [1] ?_
  refine Run.r [2,3] ?_
  exact⟨rfl,hs1,rfl⟩
 intro n11
 have n11:¬nm=[71,50]:=by simpa using n11
 refine Run.R ?_
 refine Run.c ?_ ?_
 ·intro h
  have h:nm=[65,49,126]:=by simpa using h
  subst h
  refine Run.g fun K hK=>?_
  refine FunA.cW hP hT (c_l2Chain 2 om) ?_
  rintro rs o ⟨rfl,hs,rfl⟩
  refine wW ?_
  refine FunA.cW hP hT (c_l2Set (chL 2) 0 1 (-2) (-2) (by decide) (by decide) (by decide) (by decide) (by decide) (by decide)) ?_
  rintro rs o ⟨rfl,hs1,rfl⟩
  refine wF ?_;clear hK K
  refine Run.k [2,3] [1] ?_
  refine Run.r [2,3] ?_
  exact⟨rfl,hs1,rfl⟩
 intro n12
 have n12:¬nm=[65,49,126]:=by simpa using n12
 refine Run.R ?_
 refine Run.c ?_ ?_
 ·intro h
  have h:nm=[65,50,126]:=by simpa using h
  subst h
  refine Run.g fun K hK=>?_
  refine FunA.cW hP hT (c_l2Chain 3 om) ?_
  rintro rs o ⟨rfl,hs,rfl⟩
  refine wW ?_
  refine FunA.cW hP hT (c_l2Set (chL 3) 0 2 (-1) (-1) (by decide) (by decide) (by decide) (by decide) (by decide) (by decide)) ?_
  rintro rs o ⟨rfl,hs1,rfl⟩
  refine wF ?_;clear hK K
  refine Run.k [2,3] [1] ?_
  refine Run.r [2,3] ?_
  exact⟨rfl,hs1,rfl⟩
 intro n13
 have n13:¬nm=[65,50,126]:=by simpa using n13
 refine Run.R ?_
 refine Run.c ?_ ?_
 ·intro h
  have h:nm=[65,51,126]:=by simpa using h
  subst h
  refine Run.g fun K hK=>?_
  refine FunA.cW hP hT (c_l2Chain 4 om) ?_
  rintro rs o ⟨rfl,hs,rfl⟩
  refine wW ?_
  refine FunA.cW hP hT (c_l2Set (chL 4) 0 3 (-1) (-1) (by decide) (by decide) (by decide) (by decide) (by decide) (by decide)) ?_
  rintro rs o ⟨rfl,hs1,rfl⟩
  refine wF ?_;clear hK K
  refine Run.k [2,3] [1] ?_
  refine Run.r [2,3] ?_
  exact⟨rfl,hs1,rfl⟩
 intro n14
 have n14:¬nm=[65,51,126]:=by simpa using n14
 refine Run.R ?_
 refine Run.c ?_ ?_
 ·intro h
  have h:nm=[67,50,126]:=by simpa using h
  subst h
  refine Run.g fun K hK=>?_
  refine FunA.cW hP hT (c_l2Chain 3 om) ?_
  rintro rs o ⟨rfl,hs,rfl⟩
  refine wW ?_
  refine FunA.cW hP hT (c_l2Set (chL 3) 0 1 (-1) (-2) (by decide) (by decide) (by decide) (by decide) (by decide) (by decide)) ?_
  rintro rs o ⟨rfl,hs1,rfl⟩
  refine wW ?_
  refine FunA.cW hP hT (c_l2Set (set1 (set1 (chL 3) 0 1 (-1)) 1 0 (-2)) 1 2 (-2) (-1) (by decide) (by decide) (by decide) (by decide) (by decide) (by decide)) ?_
  rintro rs o ⟨rfl,hs2,rfl⟩
  refine wF ?_;clear hK K
  refine Run.k [2,3] [2] ?_
  refine Run.r [2,3] ?_
  exact⟨rfl,hs2,rfl⟩
 intro n15
 have n15:¬nm=[67,50,126]:=by simpa using n15
 refine Run.R ?_
 refine Run.c ?_ ?_
 ·intro h
  have h:nm=[71,50,126]:=by simpa using h
  subst h
  refine Run.g fun K hK=>?_
  refine FunA.cW hP hT (c_l2Chain 3 om) ?_
  rintro rs o ⟨rfl,hs,rfl⟩
  refine wW ?_
  refine FunA.cW hP hT (c_l2Set (chL 3) 1 2 (-1) (-3) (by decide) (by decide) (by decide) (by decide) (by decide) (by decide)) ?_
  rintro rs o ⟨rfl,hs1,rfl⟩
  refine wF ?_;clear hK K
  refine Run.k [2,3] [1] ?_
  refine Run.r [2,3] ?_
  exact⟨rfl,hs1,rfl⟩
 intro n16
 have n16:¬nm=[71,50,126]:=by simpa using n16
 exact absurd hm (by simp [tcN,n0,n1,n2,n3,n4,n5,n6,n7,n8,n9,n10,n11,n12,n13,n14,n15,n16])
theorem c_JoinCartansR (a b:LL) (ha:CartanP a) (hb:CartanP b) (hl:a.length+b.length<=4) :
  FunA B 161 [.sl false (.row false) a,.sl false (.row false) b] (fun rs o=>∃ ys g nn rest,(((rw2 ys).length=a.length+b.length/\∀ r∈rw2 ys,r.length=a.length+b.length)/\nn=true/\rest=[.bool true])/\(lb1 ys).Nodup/\rest.all flatAV=true/\rs=.own 0 g :: rest/\o=[.arr .lrow ys g nn]):=by
 have ha0:=ha.1
 have hb0:=hb.1
 refine wk Tryz.call161 Tryz.func161 rfl Tryz.ntmps161 fun C hC hP hT hfn hpin hfin hX=>wW ?_
 refine Run.R ?_
 refine Run.g fun K hK=>?_
 refine FunA.e hP hT (c_spec_IsCartan a) ?_
 refine .inl (FunA.callG hP hT (c_spec_IsCartan b) (fun _=>rfl) (fun _=>by simp only [AW7,simprocAttr]) ?_)
 rw [isC_true ha,isC_true hb]
 refine wWW ?_
 refine wE ?_;clear hK K
 refine Run.c ?_ ?_
 ·intro h
  exfalso
  revert h
  have:¬((a.length:Int)+b.length > 4):=by omega
  simp [this]
 intro _
 refine Run.R ?_
 refine Run.R ?_
 refine Run.k [0,1,6,7] [0] ?_
 refine Run.loopI (X:=List (Nat×List Int)×Nat) (fun y=>⟨63,[(0,true,.v (.sl false (.row false) a)),(1,true,.v (.sl false (.row false) b)),(6,true,.v (.own 0 0)),(7,true,.v (.int .i64 (y.2)))],[.arr .lrow (y.1) 0 true]⟩) (fun y=>y.2<=a.length/\y.1.length=y.2/\(∀ r∈rw2 y.1,r.length=a.length+b.length)/\(lb1 y.1).Nodup) (fun y=>a.length - y.2) (([],0)) (⟨nz0 _,rfl,by simp [rw2],by simp [lb1]⟩) ?_ ?_
 ·exact Le.s
 rintro⟨ys,i⟩ ⟨hi,hyl,hE,hN⟩ ih
 try simp only []
 simp only []at hi hE hN hyl
 refine Run.R ?_
 refine Run.c ?_ ?_
 ·intro h
  have h:i < a.length:=by rw [dtE]at h;omega
  have hal:(a.getD i []).length=a.length:=by
   have:=ha.2.2.1 i h
   exact this
  refine Run.g fun K hK=>?_
  refine fun q hq=>⟨by simp only [lenC,lenN];omega,?_⟩
  refine wE ?_;clear hK K
  refine Run.k [0,1,6,7] [0] ?_
  have hnd2:(lb1 (ys ++ [(q,a.getD i [] ++ List.replicate b.length 0)])).Nodup:=by
   rw [lb1_app,List.nodup_append]
   refine⟨hN,by simp [lb1],fun a ha b hb=>?_⟩
   simp [lb1]at hb
   subst hb
   obtain⟨p,hp,rfl⟩:=List.mem_map.1 ha
   exact hq _ (mcS ..) _ _ _ rfl p hp
  have hE2:∀ r∈rw2 (ys ++ [(q,a.getD i [] ++ List.replicate b.length 0)]),r.length=a.length+b.length:=by
   intro r hr
   have:rw2 (ys ++ [(q,a.getD i [] ++ List.replicate b.length 0)])=rw2 ys ++ [a.getD i [] ++ List.replicate b.length 0]:=by simp [rw2]
   rw [this,List.mem_append]at hr
   rcases hr with hr | hr
   ·exact hE r hr
   ·rw [List.mem_singleton]at hr
    rw [hr,lenA,hal,List.length_replicate]
  refine Run.RW ?_
  exact Run.j (ih ((ys ++ [(q,a.getD i [] ++ List.replicate b.length 0)],i+1)) (⟨h,by simp [hyl],hE2,hnd2⟩) mz)
 intro h
 have h:i=a.length:=by rw [dfE]at h;omega
 subst h
 clear ih
 refine Run.x ?_
 refine Run.R ?_
 refine Run.k [0,1,6,8] [0] ?_
 refine Run.loopI (X:=List (Nat×List Int)×Nat) (fun y=>⟨63,[(0,true,.v (.sl false (.row false) a)),(1,true,.v (.sl false (.row false) b)),(6,true,.v (.own 0 0)),(8,true,.v (.int .i64 (y.2)))],[.arr .lrow (y.1) 0 true]⟩) (fun y=>y.2<=b.length/\y.1.length=a.length+y.2/\(∀ r∈rw2 y.1,r.length=a.length+b.length)/\(lb1 y.1).Nodup) (fun y=>b.length - y.2) ((ys,0)) (⟨nz0 _,by simp [hyl],hE,hN⟩) ?_ ?_
 ·exact Le.s
 rintro⟨ys,i⟩ ⟨hi,hyl,hE,hN⟩ ih
 try simp only []
 simp only []at hi hE hN hyl
 refine Run.R ?_
 refine Run.c ?_ ?_
 ·intro h
  have h:i < b.length:=by rw [dtE]at h;omega
  have hal:(b.getD i []).length=b.length:=hb.2.2.1 i h
  refine Run.nq ?_;refine Run.regionD hC true [0,1,2,4,5,6,7,3,8,9,10,11] (by kernel_rfl) (fun K hK=>?_);simp only [AW7,simprocAttr,hX];(repeat(with_reducible refine And.intro ?_ ?_);exact vc0)
  refine fun q hq=>⟨by simp only [lenC,lenN];omega,?_⟩
  refine wE ?_;clear hK K
  refine Run.k [0,1,6,8] [0] ?_
  have hnd2:(lb1 (ys ++ [(q,List.replicate a.length 0 ++ b.getD i [])])).Nodup:=by
   rw [lb1_app,List.nodup_append]
   refine⟨hN,by simp [lb1],fun a ha b hb=>?_⟩
   simp [lb1]at hb
   subst hb
   obtain⟨p,hp,rfl⟩:=List.mem_map.1 ha
   exact hq _ (mcS ..) _ _ _ rfl p hp
  have hE2:∀ r∈rw2 (ys ++ [(q,List.replicate a.length 0 ++ b.getD i [])]),r.length=a.length+b.length:=by
   intro r hr
   have:rw2 (ys ++ [(q,List.replicate a.length 0 ++ b.getD i [])])=rw2 ys ++ [List.replicate a.length 0 ++ b.getD i []]:=by simp [rw2]
   rw [this,List.mem_append]at hr
   rcases hr with hr | hr
   ·exact hE r hr
   ·rw [List.mem_singleton]at hr
    rw [hr,lenA,hal,List.length_replicate]
  refine Run.RW ?_
  exact Run.j (ih ((ys ++ [(q,List.replicate a.length 0 ++ b.getD i [])],i+1)) (⟨h,by simp [hyl];omega,hE2,hnd2⟩) mz)
 intro h
 have h:i=b.length:=by rw [dfE]at h;omega
 subst h
 refine Run.x ?_
 refine Run.R ?_
 refine Run.k [4,5] [0] ?_
 refine Run.r [4,5] ?_
 exact⟨ys,0,true,[.bool true],⟨⟨by rw [<- hyl];simp [rw2],hE⟩,rfl,rfl⟩,hN,rfl,rfl,rfl⟩
theorem c_JoinCartans (a b:LL) (ha:CartanP a) (hb:CartanP b) (hl:a.length+b.length<=4) :
  FunA B 161 [.sl false (.row false) a,.sl false (.row false) b] (fun rs o=>rs=[.own 0 0,.bool true]/\∃ hs rows,o=[.mat hs rows 0 true]/\rows.length=a.length+b.length/\∀ r∈rows,r.length=a.length+b.length):=
 (FunA.mat (by rfl) (post:=fun rows nn rest=>(rows.length=a.length+b.length/\∀ r∈rows,r.length=a.length+b.length)/\nn=true/\rest=[.bool true]) (c_JoinCartansR a b ha hb hl)).mono fun rs o ⟨hs,rows,nn,rest,⟨h1,h2,h3⟩,h4,h5,h6⟩=>by subst h2 h3;exact⟨h5,hs,rows,h6,h1⟩
end Go.Proofs.YtcinngodeoidnaaGreat
