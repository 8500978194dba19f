/- Whether a group is finite: the reference's side. -/
import Derived.Test.YtcinngodeoidnaaGreatB19
import Derived.Test.YtcinngodeoidnaaGreatB12
import Derived.Test.YtcinngodeoidnaaGreatB17
set_option linter.unusedVariables false
set_option linter.unusedSimpArgs false
namespace Go.Proofs.YtcinngodeoidnaaGreat
open Go Go.Aw Go.Cox
theorem setBt_full:∀ n:Nat,n<=4->∀ k:Nat,k < 2 ^ n->setBt k n=setL k:=by decide
def setsL (k:Nat):List (List Int):=(List.range k).map fun i=>setL (i+1)
theorem setsL_succ (k:Nat):setsL k ++ [setL (k+1)]=setsL (k+1):=by simp [setsL,List.range_succ]
theorem setsL_len (k:Nat):(setsL k).length=k:=by simp [setsL]
theorem setsL_get (n k:Nat) (h:k < n):(setsL n).getD k []=setL (k+1):=by simp [setsL,gdE,h]
theorem c_spec_l4Sets (n:Nat) (hn:n<=4):FunA B 176 [.int .i64 n] (fun rs o=>rs=[.own 0 0]/\∃ ys,ys.map (·.2)=setsL (2 ^ n - 1)/\o=[.arr .lrow ys 0 true]):=by
 have hsh:=shl_one n hn
 have hpw:=pow_le16 n hn
 have hp1:1<=2 ^ n:=Nat.one_le_two_pow
 refine wk Tryz.call176 Tryz.func176 rfl Tryz.ntmps176 fun C hC hP hT hfn hpin hfin hX=>wW ?_
 refine Run.R ?_
 refine Run.R ?_
 refine Run.R ?_
 refine Run.le (Le.sub (fr':=[(0,true,.v (.int .i64 n)),(2,true,.v .nils),(3,true,.v (.own 0 0)),(4,true,.v (.int .i64 ((0+1:Nat))))]) rfl (by simp only [AW7,simprocAttr];try simp)) ?_
 refine Run.loopI (X:=Nat×List (Nat×List Int)) (fun k=>⟨34,[(0,true,.v (.int .i64 n)),(2,true,.v (.nils)),(3,true,.v (.own 0 0)),(4,true,.v (.int .i64 (((k.1+1:Nat)))))],[.arr .lrow (k.2) 0 true]⟩) (fun k=>k.1+1<=2 ^ n/\k.2.map (·.2)=setsL k.1) (fun k=>2 ^ n - k.1) ((0,[])) (⟨by simp only [];omega,rfl⟩) ?_ ?_
 ·exact Le.s
 rintro⟨k,ys⟩ ⟨hk,hy⟩ ih
 try simp only []
 simp only []at hk hy
 have hyl:ys.length=k:=by have:=congrArg List.length hy;simpa [setsL_len] using this
 refine Run.g fun K hK=>?_
 simp only [hsh]
 refine wE ?_;clear hK K
 refine Run.c ?_ ?_
 ·intro h
  have h:k+1 < 2 ^ n:=Int.ofNat_lt.1 (of_decide_eq_true h)
  refine Run.R ?_
  refine Run.R ?_
  refine Run.k [0,2,3,4,5,6] [0,1] ?_
  refine Run.loopI (X:=Nat) (fun i=>⟨34,[(0,true,.v (.int .i64 n)),(2,true,.v (.nils)),(3,true,.v (.own 0 0)),(4,true,.v (.int .i64 (((k+1:Nat))))),(5,true,.v (.own 1 0)),(6,true,.v (.int .i64 i))],[.arr .lrow (ys) 0 true,.arr .int ((setBt (k+1) i)) 0 true]⟩) (fun i=>i<=n) (fun i=>n - i) (0) (nz0 _) ?_ ?_
  ·exact Le.s
  rintro i hi ih2
  try simp only []
  have hsl:=setBt_len (k+1) i
  refine Run.R ?_
  refine Run.c ?_ ?_
  ·intro h2
   have h2:i < n:=by simpa using h2
   have hb2:=bit_and (k+1) om i om
   have h3:=setBt_succ (k+1) i
   refine Run.R ?_
   refine Run.c ?_ ?_
   ·intro hb
    rw [hb2]at hb
    rw [hb,if_pos rfl]at h3
    refine Run.R ?_
    refine Run.RW ?_
    refine Run.k [0,2,3,4,5,6] [0,1] ?_
    refine Run.le ?_ (ih2 (i+1) om om)
    exact Le.sub (by rw [h3]) (by simp only [AW7,simprocAttr];try simp)
   ·intro hb
    rw [hb2]at hb
    rw [hb]at h3
    refine Run.RW ?_
    refine Run.le ?_ (ih2 (i+1) om om)
    exact Le.sub (by rw [h3];rfl) (by simp only [AW7,simprocAttr];try simp)
  ·intro h2
   have h2:i=n:=by simp at h2;omega
   have hfull:=setBt_full n hn (k+1) om
   rw [h2,hfull]
   refine Run.x ?_
   refine Run.g fun K hK=>?_
   intro l hl
   refine wF ?_;clear hK K
   refine Run.RW ?_
   refine Run.k [0,2,3,4] [0] ?_
   refine Run.le ?_ (ih (k+1,ys ++ [(l,setL (k+1))]) ⟨by simp only [];omega,by simp only [List.map_append,hy,List.map_cons,List.map_nil];exact setsL_succ k⟩ (by simp only [];omega))
   exact Le.sub (by rfl) (by simp only [AW7,simprocAttr];try simp)
 ·intro h
  have h:k+1=2 ^ n:=by have h:=of_decide_eq_false h;rw [Int.ofNat_lt]at h;omega
  refine Run.x ?_
  refine Run.R ?_
  refine Run.r [2] ?_
  exact⟨rfl,ys,by rw [hy,show 2 ^ n - 1=k by omega],rfl⟩
theorem c_spec_SubCartan (c:LL) (s:LI) (hc:CartanP c) (hs:setP c.length s) (hne:s≠[]) :
  FunA B 177 [.sl false (.row false) c,.sl false .int s] (fun rs o=>rs=[.own 0 0,.bool true]/\∃ ys,ys.map (·.2)=pick c s/\o=[.arr .lrow ys 0 true]):=by
 have hl4:s.length<=c.length:=set_len hs
 have hlet:letters c.length s:=set_letters hs
 have hn:=hc.2.1
 have hset:isSetB c s=true:=by unfold isSetB;rw [isC_true hc,setB_iff.2 hs];rfl
 have hsl:s.length≠0:=fun h=>hne (nilZ h)
 refine wk Tryz.call177 Tryz.func177 rfl Tryz.ntmps177 fun C hC hP hT hfn hpin hfin hX=>wW ?_
 refine Run.R ?_
 refine Run.R ?_
 refine Run.g fun K hK=>?_
 refine FunA.cW hP hT (c_spec_l3Set c s om) ?_
 rintro rs o ⟨rfl,rfl⟩
 simp only [hset]
 refine wF ?_;clear hK K
 refine Run.c ?_ ?_
 ·intro h
  simp [hne]at h
 intro h
 clear h
 refine Run.R ?_
 refine Run.k [0,1,4,5,6,7] [0] ?_
 refine Run.loopI (X:=Nat×List (Nat×List Int)) (fun m=>⟨55,[(0,true,.v (.sl false (.row false) c)),(1,true,.v (.sl false .int s)),(4,true,.v (.nils)),(5,true,.v (.bool false)),(6,true,.v (.own 0 0)),(7,true,.v (.int .i64 (m.1)))],[.arr .lrow (m.2) 0 true]⟩) (fun m=>m.1<=s.length/\m.2.map (·.2)=(s.take m.1).map (rowP c s)) (fun m=>s.length - m.1) ((0,[])) (⟨nz0 _,rfl⟩) ?_ ?_
 ·exact Le.s
 rintro⟨m,ys⟩ ⟨hm,hy⟩ ih
 try simp only []
 simp only []at hm hy
 have hyl:ys.length=m:=by have:=congrArg List.length hy;simpa [hm] using this
 refine Run.R ?_
 refine Run.c ?_ ?_
 ·intro h
  have h:m < s.length:=by simpa using h
  obtain⟨a1,a2⟩:=letters_mem hlet h
  have hr:=hc.2.2.1 (s.getD m 0).toNat om
  refine Run.R ?_
  refine Run.R ?_
  refine Run.k [0,1,4,5,6,7,8,9] [0,1] ?_
  refine Run.loopI (X:=Nat) (fun k=>⟨55,[(0,true,.v (.sl false (.row false) c)),(1,true,.v (.sl false .int s)),(4,true,.v (.nils)),(5,true,.v (.bool false)),(6,true,.v (.own 0 0)),(7,true,.v (.int .i64 m)),(8,true,.v (.own 1 0)),(9,true,.v (.int .i64 k))],[.arr .lrow (ys) 0 true,.arr .int (((s.take k).map fun j=>ent c (s.getD m 0).toNat j.toNat)) 0 true]⟩) (fun k=>k<=s.length) (fun k=>s.length - k) (0) (nz0 _) ?_ ?_
  ·exact Le.s
  rintro k hk ih2
  try simp only []
  refine Run.R ?_
  refine Run.c ?_ ?_
  ·intro h2
   have h2:k < s.length:=by simpa using h2
   obtain⟨b1,b2⟩:=letters_mem hlet h2
   have hsn:=map_snoc (fun j=>ent c (s.getD m 0).toNat j.toNat) s 0 k h2
   refine Run.nq ?_;refine Run.regionD hC true [0,1,2,3,4,5,6,7,8,9,10,11,12,13,14,15,16] (by kernel_rfl) (fun K hK=>?_);simp only [AW7,simprocAttr,hX];(repeat(with_reducible refine And.intro ?_ ?_);exact vc0)
   refine wE ?_;clear hK K
   refine Run.RW ?_
   refine Run.k [0,1,4,5,6,7,8,9] [0,1] ?_
   refine Run.le ?_ (ih2 (k+1) om om)
   exact Le.sub (by rw [<- hsn]) (by simp only [AW7,simprocAttr];try simp)
  ·intro h2
   have h2:k=s.length:=by simp at h2;omega
   subst h2
   rw [tkL]
   refine Run.x ?_
   refine Run.g fun K hK=>?_
   intro l hl
   refine wF ?_;clear hK K
   refine Run.RW ?_
   refine Run.k [0,1,4,5,6,7] [0] ?_
   refine Run.le ?_ (ih (m+1,ys ++ [(l,rowP c s (s.getD m 0))]) ⟨h,by simp only [List.map_append,hy,List.map_cons,List.map_nil];exact map_snoc (rowP c s) s 0 m h⟩ (by simp only [];omega))
   exact Le.sub (by rfl) (by simp only [AW7,simprocAttr];try simp)
 ·intro h
  have h:m=s.length:=by simp at h;omega
  subst h
  rw [tkL]at hy
  refine Run.x ?_
  refine Run.R ?_
  refine Run.r [4,5] ?_
  exact⟨rfl,ys,hy,rfl⟩
theorem c_spec_l4Without (n j:Nat) (m:LL) (hn:n+1<=4) (hm:Sq (n+1) m) (hj:j < n+1) :
  FunA B 194 [.sl false (.row false) m,.int .i64 j] (fun rs o=>rs=[.own 0 0]/\∃ ys,ys.map (·.2)=minorL m j/\o=[.arr .lrow ys 0 true]):=by
 have hml:=hm.1
 have htn:(m.drop 1).length=n:=by simp [hml]
 refine wk Tryz.call194 Tryz.func194 rfl Tryz.ntmps194 fun C hC hP hT hfn hpin hfin hX=>wW ?_
 refine Run.R ?_
 refine Run.R ?_
 refine Run.R ?_
 refine Run.le (Le.sub (fr':=[(0,true,.v (.sl false (.row false) m)),(1,true,.v (.int .i64 j)),(4,true,.v .nils),(5,true,.v (.own 0 0)),(6,true,.v (.int .i64 ((0+1:Nat))))]) rfl (by simp only [AW7,simprocAttr];try simp)) ?_
 refine Run.loopI (X:=Nat×List (Nat×List Int)) (fun k=>⟨41,[(0,true,.v (.sl false (.row false) m)),(1,true,.v (.int .i64 j)),(4,true,.v (.nils)),(5,true,.v (.own 0 0)),(6,true,.v (.int .i64 (((k.1+1:Nat)))))],[.arr .lrow (k.2) 0 true]⟩) (fun k=>k.1<=n/\k.2.map (·.2)=((m.drop 1).take k.1).map (fun r=>r.take j ++ r.drop (j+1))) (fun k=>n - k.1) ((0,[])) (⟨nz0 _,rfl⟩) ?_ ?_
 ·exact Le.s
 rintro⟨k,ys⟩ ⟨hk,hy⟩ ih
 try simp only []
 simp only []at hk hy
 have hyl:ys.length=k:=by have:=congrArg List.length hy;simp at this;omega
 refine Run.R ?_
 refine Run.c ?_ ?_
 ·intro h
  have h:k < n:=by simp [hml]at h;omega
  have hmem:m.getD (k+1) []∈m:=by simp [gdE,show k+1 < m.length by omega]
  have hrl:=(hm.2 _ hmem).1
  have hgd:(m.drop 1).getD k []=m.getD (k+1) []:=by simp [gdE,List.getElem?_drop,Nat.add_comm]
  generalize hr:m.getD (k+1) []=r at hrl hgd
  refine Run.R ?_
  refine Run.R ?_
  refine Run.k [0,1,4,5,6,7,8] [0,1] ?_
  refine Run.loopI (X:=Nat) (fun q=>⟨41,[(0,true,.v (.sl false (.row false) m)),(1,true,.v (.int .i64 j)),(4,true,.v (.nils)),(5,true,.v (.own 0 0)),(6,true,.v (.int .i64 (((k+1:Nat))))),(7,true,.v (.own 1 0)),(8,true,.v (.int .i64 q))],[.arr .lrow (ys) 0 true,.arr .int (((r.take (min q j)) ++ (r.take q).drop (j+1))) 0 true]⟩) (fun q=>q<=n+1) (fun q=>n+1 - q) (0) (nz0 _) ?_ ?_
  ·exact Le.s
  rintro q hq ih2
  try simp only []
  have hlen:((r.take (min q j)) ++ (r.take q).drop (j+1)).length<=8:=by simp;omega
  refine Run.R ?_
  refine Run.c ?_ ?_
  ·intro h2
   have h2:q < n+1:=by simp [hml]at h2;omega
   refine Run.R ?_
   refine Run.c ?_ ?_
   ·intro hqj
    have hqj:q≠j:=fun h=>by simp [h]at hqj
    have e:((r.take (min q j)) ++ (r.take q).drop (j+1)) ++ [r.getD q 0]=(r.take (min (q+1) j)) ++ (r.take (q+1)).drop (j+1):=by
     have h3:=take_snoc 0 r q om
     rcases Nat.lt_or_ge q j with h4 | h4
     ·rw [show min q j=q by omega,show min (q+1) j=q+1 by omega,<- h3]
      rw [List.drop_eq_nil_of_le (by simp;omega),List.drop_eq_nil_of_le (by simp;omega)]
      simp
     ·rw [show min q j=j by omega,show min (q+1) j=j by omega,<- h3,List.append_assoc]
      congr 1
      rw [List.drop_append_of_le_length (by simp;omega)]
    refine Run.R ?_
    rw [hr,e]
    refine Run.RW ?_
    refine Run.k [0,1,4,5,6,7,8] [0,1] ?_
    refine Run.le ?_ (ih2 (q+1) om om)
    exact Le.sub (by rfl) (by simp only [AW7,simprocAttr];try simp)
   ·intro hqj
    have hqj:q=j:=by simp at hqj;omega
    have e:(r.take (min q j)) ++ (r.take q).drop (j+1)=(r.take (min (q+1) j)) ++ (r.take (q+1)).drop (j+1):=by
     rw [show min q j=j by omega,show min (q+1) j=j by omega,List.drop_eq_nil_of_le (by simp;omega),List.drop_eq_nil_of_le (by simp;omega)]
    rw [e]
    refine Run.RW ?_
    refine Run.le ?_ (ih2 (q+1) om om)
    exact Le.sub (by rfl) (by simp only [AW7,simprocAttr];try simp)
  ·intro h2
   have h2:q=n+1:=by simp [hml]at h2;omega
   have e:(r.take (min q j)) ++ (r.take q).drop (j+1)=r.take j ++ r.drop (j+1):=by
    have ht:r.take q=r:=List.take_of_length_le om
    rw [show min q j=j by omega,ht]
   rw [e]
   refine Run.x ?_
   refine Run.g fun K hK=>?_
   intro l hl
   refine wF ?_;clear hK K
   refine Run.RW ?_
   refine Run.k [0,1,4,5,6] [0] ?_
   refine Run.le ?_ (ih (k+1,ys ++ [(l,r.take j ++ r.drop (j+1))]) ⟨h,by simp only [List.map_append,hy,List.map_cons,List.map_nil];rw [<- hgd];exact map_snoc (fun r:List Int=>r.take j ++ r.drop (j+1)) (m.drop 1) [] k om⟩ (by simp only [];omega))
   exact Le.sub (by rfl) (by simp only [AW7,simprocAttr];try simp)
 ·intro h
  have h:k=n:=by simp [hml]at h;omega
  rw [List.take_of_length_le om]at hy
  refine Run.x ?_
  refine Run.R ?_
  refine Run.r [4] ?_
  exact⟨rfl,ys,hy,rfl⟩
theorem c_spec_l4Det (n:Nat):∀(m:LL),n<=4->Sq n m->FunA B 178 [.sl false (.row false) m] (fun rs o=>rs=[.int .i64 (detN n m)]/\o=[]):=by
 induction n with
 | zero=>
  intro m _ hm
  have hm0:m=[]:=nilZ hm.1
  subst hm0
  refine wk Tryz.call178 Tryz.func178 rfl Tryz.ntmps178 fun C hC hP hT hfn hpin hfin hX=>wW ?_
  refine Run.R ?_
  refine Run.R ?_
  refine Run.c ?_ ?_
  ·intro h
   refine Run.R ?_
   refine Run.r [2] ?_
   exact⟨rfl,rfl⟩
  ·intro h
   simp at h
 | succ n ihn=>
  intro m hn hm
  have hml:=hm.1
  refine wk Tryz.call178 Tryz.func178 rfl Tryz.ntmps178 fun C hC hP hT hfn hpin hfin hX=>wW ?_
  refine Run.R ?_
  refine Run.R ?_
  refine Run.c ?_ ?_
  ·intro h
   simp [hml]at h
   omega
  intro h
  clear h
  have hr0:=(det_term hm hn 0 om).2.2.2
  have hS0:detS n m 0=0:=rfl
  refine Run.R ?_
  refine Run.R ?_
  refine Run.le (Le.sub (fr':=[(0,true,.v (.sl false (.row false) m)),(2,true,.v (.int .i64 0)),(3,true,.v (.int .i64 (detS n m 0))),(4,true,.v (.int .i64 (0:Nat)))]) rfl (by simp only [AW7,simprocAttr];simp [hS0])) ?_
  refine Run.loopI (X:=Nat) (fun j=>⟨35,[(0,true,.v (.sl false (.row false) m)),(2,true,.v (.int .i64 0)),(3,true,.v (.int .i64 ((detS n m j)))),(4,true,.v (.int .i64 j))],[]⟩) (fun j=>j<=n+1) (fun j=>n+1 - j) (0) (nz0 _) ?_ ?_
  ·exact Le.s
  rintro j hj ih
  try simp only []
  refine Run.R ?_
  refine Run.c ?_ ?_
  ·intro h
   have h:j < n+1:=by simp [hml]at h;omega
   obtain⟨t1,t2,t3,t4⟩:=det_term hm hn j h
   obtain⟨d1,d2⟩:=detS_le hm hn j om
   obtain⟨e1,e2⟩:=detS_le hm hn (j+1) om
   have hsn:=detS_succ n m j
   have hsq:=hm.minor j h
   have hsc:sgn j=if (j:Int) % 2=1 then -1 else 1:=by unfold sgn;split<;>split<;>first | rfl | omega
   refine Run.nq ?_;refine Run.regionD hC true [0,1,2,3,4,5,6,7,8,9,10,11] (by kernel_rfl) (fun K hK=>?_);simp(disch:=omega) only [wrap_id,AW7,simprocAttr,hX];(repeat(with_reducible refine And.intro ?_ ?_);exact vc0)
   refine FunA.callD hP hT (c_spec_l4Without n j m hn hm h) (by simp only [AW7,simprocAttr]) ?_
   rintro rs o ⟨rfl,ys,hy,rfl⟩
   refine wW ?_
   refine FunA.callD hP hT (ihn (minorL m j) om hsq) (by simp only [AW7,simprocAttr];exact hy.symm) ?_
   rintro rs o ⟨rfl,rfl⟩
   simp(disch:=omega) only [wrap_id,AW7,simprocAttr,hX]
   (repeat(with_reducible refine And.intro ?_ ?_);exact vc0)
   refine wE ?_;clear hK K
   refine Run.keep [0,2,3,4,5] ?_;simp only [AK,Nat.reduceBEq]
   refine Run.R ?_
   refine Run.c ?_ ?_
   ·intro h2
    have h2:(j:Int).tmod 2=1:=by simpa using h2
    rw [Int.tmod_eq_emod_of_nonneg om]at h2
    rw [if_pos h2]at hsc
    rw [hsc,Int.neg_mul,Int.one_mul,Int.neg_mul]at hsn
    refine Run.RW ?_
    refine Run.RW ?_
    rw [show detS n m j+(0 - (m.getD 0 []).getD j 0*detN n (minorL m j))=detS n m (j+1) by rw [hsn];omega]
    refine Run.RW ?_
    refine Run.k [0,2,3,4] [] ?_
    refine Run.le ?_ (ih (j+1) om om)
    exact Le.sub (by rfl) (by simp only [AW7,simprocAttr];try simp)
   ·intro h2
    have h2:¬(j:Int).tmod 2=1:=by simpa using h2
    rw [Int.tmod_eq_emod_of_nonneg om]at h2
    rw [if_neg h2]at hsc
    rw [hsc,Int.one_mul]at hsn
    refine Run.RW ?_
    rw [<- hsn]
    refine Run.RW ?_
    refine Run.k [0,2,3,4] [] ?_
    refine Run.le ?_ (ih (j+1) om om)
    exact Le.sub (by rfl) (by simp only [AW7,simprocAttr];try simp)
  ·intro h
   have h:j=n+1:=by simp [hml]at h;omega
   subst h
   refine Run.x ?_
   refine Run.R ?_
   refine Run.r [2] ?_
   exact⟨rfl,rfl⟩
theorem setL_set:∀ k:Nat,k < 16->∀ i:Nat,i < (setL k).length->0<=(setL k).getD i 0/\(0 < i->(setL k).getD (i - 1) 0 < (setL k).getD i 0):=by decide
theorem setL_setP {n k:Nat} (hn:n<=4) (hk:k < 2 ^ n):setP n (setL k):=by
 have hpw:=pow_le16 n hn
 intro i hi
 obtain⟨h1,h2⟩:=setL_set k om i hi
 exact⟨h1,(setL_letters k om n hn hk _ (getD_mem hi)).2,h2⟩
theorem c_spec_WitnessOf (c:LL):FunA B 141 [.sl false (.row false) c] (fun rs o=>∃ xs,(xs=[]↔∀ k,k < (pmin c).length->0 < (pmin c).getD k 0)/\xs.length<=4/\rs=[.sl true .int xs]/\o=[]):=by
 refine wk Tryz.call141 Tryz.func141 rfl Tryz.ntmps141 fun C hC hP hT hfn hpin hfin hX=>wW ?_
 refine Run.R ?_
 refine Run.g fun K hK=>?_
 refine FunA.e hP hT (c_spec_IsCartan c) ?_
 refine wE ?_;clear hK K
 refine Run.c ?_ ?_
 ·intro hb
  have hb:isC c=false:=by simpa using hb
  have hp:pmin c=[]:=by simp [pmin,hb]
  refine Run.R ?_
  refine Run.le (Le.letgo 0 (g:=0) (e:=.int) (xs:=[]) (nn:=true) [(2,true,.sl true .int [])] rfl ⟨.inr ⟨rfl,rfl⟩,trivial⟩) ?_
  simp only [frV_cons,frV_nil]
  refine Run.k [2] [] ?_
  refine Run.r [2] ?_
  exact⟨[],by simp [hp],by simp,rfl,rfl⟩
 ·intro hb
  have hb:isC c=true:=by simpa using hb
  have hc:=isC_iff.1 hb
  have hn:=hc.2.1
  have hn1:=hc.1
  have hpw:=pow_le16 c.length hn
  have hp1:1<=2 ^ c.length:=Nat.one_le_two_pow
  have hp:pmin c=minors c (2 ^ c.length - 1):=by simp [pmin,hb]
  have hpl:(pmin c).length=2 ^ c.length - 1:=by rw [hp,minors_len]
  refine Run.g fun K hK=>?_
  refine FunA.cW hP hT (c_spec_l4Sets c.length hn) ?_
  rintro rs o ⟨rfl,ys,hy,rfl⟩
  have hyl:ys.length=2 ^ c.length - 1:=by have:=congrArg List.length hy;simpa [setsL_len] using this
  refine wF ?_;clear hK K
  refine Run.R ?_
  refine Run.loopI (X:=Nat) (fun k=>⟨37,[(0,true,.v (.sl false (.row false) c)),(2,true,.v (.nils)),(3,true,.v (.own 0 0)),(4,true,.v (.int .i64 k))],[.arr .lrow (ys) 0 true]⟩) (fun k=>k<=ys.length/\∀ j,j < k->0 < (pmin c).getD j 0) (fun k=>ys.length - k) (0) (⟨nz0 _,fun j hj=>by omega⟩) ?_ ?_
  ·exact Le.s
  rintro k ⟨hk,hpos⟩ ih
  try simp only []
  refine Run.R ?_
  refine Run.c ?_ ?_
  ·intro h
   have h:k < ys.length:=by simpa using h
   obtain⟨l,xs,hlx⟩:∃ l xs,ys.getD k (0,[])=(l,xs):=⟨_,_,rfl⟩
   have hxs:xs=setL (k+1):=by
    have h1:(ys.map (·.2)).getD k []=xs:=by
     have:=congrArg Prod.snd hlx
     simp only [gdE,List.getElem?_map,geE h]at this ⊢
     simpa using this
    rw [hy,setsL_get _ _ om]at h1
    exact h1.symm
   have hset:=setL_setP hn (k:=k+1) om
   have hne:=setL_ne (k+1) om om
   have hsq:=pick_sq hc (set_letters hset)
   have hll:=setL_len (k+1) om
   have hmn:(pmin c).getD k 0=detN (setL (k+1)).length (pick c (setL (k+1))):=by rw [hp,minors_get _ _ _ om];rfl
   subst hxs
   refine Run.g fun K hK=>?_
   simp only [hlx,AW7,simprocAttr,hX]
   (repeat(with_reducible refine And.intro ?_ ?_);exact vc0)
   refine FunA.cW hP hT (c_spec_SubCartan c (setL (k+1)) hc hset hne) ?_
   rintro rs o ⟨rfl,zs,hz,rfl⟩
   refine wF ?_;clear hK K
   refine Run.g fun K hK=>?_
   refine FunA.callW hP hT (c_spec_l4Det (setL (k+1)).length (pick c (setL (k+1))) hll hsq) (by simp only [AW7,simprocAttr];exact hz.symm) ?_
   rintro rs o ⟨rfl,rfl⟩
   refine wF ?_;clear hK K
   rw [<- hmn]
   refine Run.c ?_ ?_
   ·intro h2
    have h2:(pmin c).getD k 0<=0:=by simpa using h2
    refine Run.g fun K hK=>?_
    simp only [hlx,ofE,AW7,simprocAttr,hX]
    (repeat(with_reducible refine And.intro ?_ ?_);exact vc0)
    refine wE ?_;clear hK K
    refine Run.le (Le.re (obs':=[]) hpin [] [(2,true,.sl true .int (setL (k+1)))] rfl trivial (by refine⟨⟨_,rfl,?_⟩,trivial⟩<;>simp [leAV])) ?_
    simp only [frV_cons,frV_nil]
    refine Run.r [2] ?_
    refine⟨_,⟨fun he=>absurd he hne,fun hall=>?_⟩,hll,rfl,rfl⟩
    have:=hall k om
    omega
   ·intro h2
    have h2:0 < (pmin c).getD k 0:=by simp at h2;simpa [gdE] using h2
    refine Run.RW ?_
    refine Run.k [0,2,3,4] [0] ?_
    refine Run.le ?_ (ih (k+1) ⟨h,fun j hj=>by rcases Nat.lt_or_ge j k with q | q;exact hpos j q;rw [show j=k by omega];exact h2⟩ om)
    exact Le.sub (by rfl) (by simp only [AW7,simprocAttr];try simp)
  ·intro h
   have h:k=ys.length:=by simp at h;omega
   subst h
   refine Run.x ?_
   refine Run.R ?_
   refine Run.le (Le.letgo 1 (g:=0) (e:=.int) (xs:=[]) (nn:=true) [(2,true,.sl true .int [])] rfl ⟨.inr ⟨rfl,rfl⟩,trivial⟩) ?_
   simp only [frV_cons,frV_nil]
   refine Run.k [2] [] ?_
   refine Run.r [2] ?_
   exact⟨[],⟨fun _ q hq=>hpos q om,fun _=>rfl⟩,by simp,rfl,rfl⟩
theorem c_spec_IsFinite (c:LL):FunA B 101 [.sl false (.row false) c] (fun rs o=>rs=[.bool (isF c)]/\o=[]):=by
 refine wk Tryz.call101 Tryz.func101 rfl Tryz.ntmps101 fun C hC hP hT hfn hpin hfin hX=>wW ?_
 refine Run.R ?_
 refine Run.g fun K hK=>?_
 refine FunA.e hP hT (c_spec_IsCartan c) ?_
 cases hb:isC c with
 | false=>
  have hf:=isF_not hb
  refine wW ?_
  refine .inl (CallG.off (.sl false .int []) ?_)
  refine wF ?_;clear hK K
  refine Run.r [2] ?_
  simp [hf]
 | true=>
  refine .inr ⟨rfl,?_⟩
  refine FunA.cW hP hT (c_spec_WitnessOf c) ?_
  rintro rs o ⟨xs,hxs,hl,rfl,rfl⟩
  have hf:=isF_pmin hb hxs
  refine wF ?_;clear hK K
  refine Run.k [2] [] ?_
  refine Run.r [2] ?_
  simp [hf]
def UpC (c:LL) (h:Int) (r:LI) (i:Nat):Prop:=sgnR (mirL c i r)=1/\hgt (mirL c i r)<=h/\hgt r < hgt (mirL c i r)
structure RL (c:LL) (h:Int) (L:LL):Prop where
 st:StrR L
 mem:∀ z∈L,RS c h z
 sim:∀ i,i < c.length->simL c.length i∈L
theorem RL.len {c:LL} {h:Int} (hn:c.length<=4) (h1:1<=h) (h2:h<=12) {L:LL} (k:RL c h L):L.length<=28561:=
 box_count hn (strR_nodup k.st) fun r hr=>⟨(k.mem r hr).len,fun x hx=>by have:=(k.mem r hr).box h1 x hx;omega⟩
theorem RL.put {c:LL} {h:Int} {L:LL} (k:RL c h L) {w:LI} (hw:RS c h w) (hn:w∉L):RL c h (putR w false L):=
 ⟨putR_str hw.len k.st hn (fun x hx=>(k.mem x hx).len),fun z hz=>by
  rcases(putR_mem w L z).1 hz with rfl | hz
  ·exact hw
  ·exact k.mem z hz,fun i hi=>(putR_mem w L _).2 (.inr (k.sim i hi))⟩
theorem RL.keep {c:LL} {h:Int} {L:LL} (k:RL c h L) {w:LI} {m:Nat} (hm:m < L.length) (hw:hgt (L.getD m []) < hgt w):∀ j,j<=m->(putR w false L).getD j []=L.getD j []:=by
 refine putR_keep hm fun j hj=>?_
 have hgm:L.getD m []=L[m]:=by simp [gdE,hm]
 have hgj:L.getD j []=L[j]:=by simp [gdE,show j < L.length by omega]
 have hle:hgt (L.getD j [])<=hgt (L.getD m []):=by
  by_cases e:j=m
  ·rw [e];exact Int.le_refl _
  ·have hp:=k.st
   unfold StrR at hp
   rw [List.pairwise_iff_getElem]at hp
   have:=hp j m om hm om
   rw [hgm,hgj]
   unfold befR at this
   split at this
   ·omega
   ·rw [dtE]at this;omega
 unfold befR
 rw [if_neg om,dfE];omega
theorem mem_rwk2 {ys:List (Nat×List Int)} {z:LI}:z∈rw2 ys↔∃ j,j < ys.length/\(rw2 ys).getD j []=z:=by
 constructor
 ·intro h
  obtain⟨j,hj,e⟩:=List.getElem_of_mem h
  rw [rwl]at hj
  exact⟨j,hj,by rw [gdE,geE (by rw [rwl];exact hj),Option.getD_some];exact e⟩
 ·rintro⟨j,hj,rfl⟩
  rw [gdE,geE (by rw [rwl];exact hj),Option.getD_some]
  exact List.getElem_mem _
theorem sgn_pos {r:LI} (h:0 < sgnR r):sgnR r=1:=by
 unfold sgnR at h ⊢
 cases e1:posA r<;>cases e2:negA r<;>simp [e1,e2]at h ⊢
theorem rs_small {c:LL} (hn:c.length<=4) {h:Int} (h1:1<=h) (h2:h<=12) {r:LI} (k:RS c h r):SmR r/\Bnd 100000000000000000 r/\r.length<=4:=
 ⟨⟨by rw [k.len];exact hn,fun x hx=>by have:=k.box h1 x hx;omega⟩,fun x hx=>by have:=k.box h1 x hx;omega,by rw [k.len];exact hn⟩
set_option maxHeartbeats 2000000 in
theorem c_spec_RootsUpTo1 (c:LL) (h:Int) (hc:CartanP c) (h1:1<=h) (h2:h<=12):FunA B 37 [.sl false (.row false) c,.int .i64 h] (fun rs o=>rs=[.own 0 0]/\∃ ys,(RL c h (rw2 ys)/\(∀ z,RS c h z->z∈rw2 ys)/\(lb1 ys).Nodup)/\o=[.arr .lrow ys 0 true]):=by
 have hn:=hc.2.1
 have hb:=isC_true hc
 have hin:inB h 1 12=true:=inB_iff.2 ⟨h1,h2⟩
 refine wk Tryz.call37 Tryz.func37 rfl Tryz.ntmps37 fun C hC hP hT hfn hpin hfin hX=>wW ?_
 refine Run.R ?_
 refine Run.R ?_
 refine Run.g fun K hK=>?_
 refine FunA.cW hP hT (c_spec_IsCartan c) ?_
 rintro rs o ⟨rfl,rfl⟩
 rw [hb]
 refine wW ?_
 refine .inl (FunA.callG hP hT (c_spec_l1In h 1 12) (fun _=>rfl) (fun _=>by simp only [AW7,simprocAttr]) ?_)
 rw [hin]
 refine wF ?_;clear hK K
 refine Run.c ?_ ?_
 ·intro h;cases h
 intro _
 refine Run.R ?_
 refine Run.k [0,1,5,6] [0] ?_
 refine Run.loopI (X:=Nat×List (Nat×List Int)) (fun x=>⟨79,[(0,true,.v (.sl false (.row false) c)),(1,true,.v (.int .i64 h)),(5,true,.v (.own 0 0)),(6,true,.v (.int .i64 (x.1)))],[.arr .lrow (x.2) 0 true]⟩) (fun x=>(x.1<=c.length/\x.2.length=x.1)/\StrR (rw2 x.2)/\(lb1 x.2).Nodup/\∀ z,z∈rw2 x.2↔∃ i,i < x.1/\z=simL c.length i) (fun x=>c.length - x.1) ((0,[])) (⟨⟨nz0 _,rfl⟩,List.Pairwise.nil,by simp [lb1],fun z=>by simp [rw2]⟩) ?_ ?_
 ·exact Le.s
 rintro⟨k,ys⟩ ⟨⟨hk,hyk⟩,hS,hN,hM⟩ ih
 try simp only []
 simp only []at hk hyk hS hN hM
 have hsimL:∀ z∈rw2 ys,RS c h z:=fun z hz=>by
  obtain⟨i,hi,rfl⟩:=(hM z).1 hz
  exact .sim i om
 refine Run.R ?_
 refine Run.c ?_ ?_
 ·intro h3
  have h3:k < c.length:=by rw [dtE]at h3;omega
  have hnew:simL c.length k∉rw2 ys:=fun hm=>by
   obtain⟨i,hi,e⟩:=(hM _).1 hm
   have e1:(simL c.length k).getD i 0=(simL c.length i).getD i 0:=by rw [e]
   have h5:∀ a b,b < c.length->(simL c.length a).getD b 0=if a=b then 1 else 0:=fun a b hb=>by
    unfold simL
    simp only [List.getD,List.getElem?_set,List.length_replicate]
    by_cases e:a=b
    ·subst e;simp [hb]
    ·rw [if_neg e,if_neg e];simp [hb]
   rw [h5 k i om,h5 i i om,if_pos rfl,if_neg om]at e1
   cases e1
  have hrs:RS c h (simL c.length k):=.sim k h3
  refine Run.g fun K hK=>?_
  refine FunA.e hP hT (c_spec_SimpleRoot c k hc ⟨by omega,by omega⟩) ?_
  refine FunM.call hP hT (c_spec_l7Put ys (simL c.length k) hN om (rs_small hn h1 h2 hrs).1 (fun r hr=>(rs_small hn h1 h2 (hsimL r hr)).1) true) 0 0 (by simp only [AW7,simprocAttr];rfl) (by simp) rfl (by simp only [AW7,simprocAttr];try simp) ?_
  rintro rs o' obs' ⟨rfl,ys',hE3,hN3,h7⟩
  obtain⟨rfl,rfl⟩:=List.cons.inj h7
  refine wF ?_;clear hK K
  have hl3:ys'.length=k+1:=by
   have:=congrArg List.length hE3
   rw [(putR_perm _ _).length_eq]at this
   simp [rw2]at this;omega
  have hM3:∀ z,z∈rw2 ys'↔∃ i,i < k+1/\z=simL c.length i:=fun z=>by
   rw [hE3,putR_mem,hM]
   constructor
   ·rintro(rfl | ⟨i,hi,rfl⟩)
    ·exact⟨k,by omega,rfl⟩
    ·exact⟨i,by omega,rfl⟩
   ·rintro⟨i,hi,rfl⟩
    by_cases e:i=k
    ·subst e;exact .inl rfl
    ·exact .inr ⟨i,by omega,rfl⟩
  have hS3:StrR (rw2 ys'):=by rw [hE3];exact putR_str (simL_len _ _) hS hnew (fun x hx=>(hsimL x hx).len)
  refine Run.k [0,1,5,6] [2] ?_
  refine Run.RW ?_
  exact Run.j (ih ((k+1,ys')) (⟨⟨h3,hl3⟩,hS3,hN3,hM3⟩) mz)
 intro h3
 have h3:k=c.length:=by rw [dfE]at h3;omega
 subst h3
 have hRL:RL c h (rw2 ys):=⟨hS,hsimL,fun i hi=>(hM _).2 ⟨i,hi,rfl⟩⟩
 clear hM hsimL hyk
 refine Run.x ?_
 refine Run.R ?_
 refine Run.k [0,1,5,7] [0] ?_
 refine Run.loopI (X:=Nat×List (Nat×List Int)) (fun x=>⟨79,[(0,true,.v (.sl false (.row false) c)),(1,true,.v (.int .i64 h)),(5,true,.v (.own 0 0)),(7,true,.v (.int .i64 (x.1)))],[.arr .lrow (x.2) 0 true]⟩) (fun x=>x.1<=x.2.length/\RL c h (rw2 x.2)/\(lb1 x.2).Nodup/\∀ j,j < x.1->∀ i,i < c.length->UpC c h ((rw2 x.2).getD j []) i->mirL c i ((rw2 x.2).getD j [])∈rw2 x.2) (fun x=>30000 - x.1) ((0,ys)) (⟨nz0 _,hRL,hN,fun j hj=>by omega⟩) ?_ ?_
 ·exact Le.s
 rintro⟨k,zs⟩ ⟨hk2,hR,hN2,hD⟩ ihO
 try simp only []
 simp only []at hk2 hR hN2 hD
 clear hRL hS hN
 have hzl:=hR.len hn h1 h2
 rw [rwl]at hzl
 refine Run.R ?_
 refine Run.c ?_ ?_
 rotate_left
 ·intro h3
  have h3:k=zs.length:=by rw [dfE]at h3;omega
  have hall:∀ z,RS c h z->z∈rw2 zs:=fun z hz=>by
   induction hz with
   | sim i hi=>exact hR.sim i hi
   | up r i _ hi a b d ihr=>
    obtain⟨j,hj,e⟩:=mem_rwk2.1 ihr
    have:=hD j om i hi (by rw [e];exact⟨a,b,d⟩)
    rwa [e]at this
  refine Run.x ?_
  refine Run.R ?_
  refine Run.k [4] [0] ?_
  refine Run.r [4] ?_
  exact⟨rfl,zs,⟨hR,hall,hN2⟩,rfl⟩
 intro h3
 have h3:k < zs.length:=by rw [dtE]at h3;omega
 refine Run.R ?_
 refine Run.k [0,1,5,7,8] [0] ?_
 generalize hy:(rw2 zs).getD k []=y at *
 refine Run.loopI (X:=Nat×List (Nat×List Int)) (fun x=>⟨79,[(0,true,.v (.sl false (.row false) c)),(1,true,.v (.int .i64 h)),(5,true,.v (.own 0 0)),(7,true,.v (.int .i64 k)),(8,true,.v (.int .i64 (x.1)))],[.arr .lrow (x.2) 0 true]⟩) (fun x=>(x.1<=c.length/\k < x.2.length)/\RL c h (rw2 x.2)/\(lb1 x.2).Nodup/\(rw2 x.2).getD k []=y/\(∀ j,j < k->∀ i,i < c.length->UpC c h ((rw2 x.2).getD j []) i->mirL c i ((rw2 x.2).getD j [])∈rw2 x.2)/\∀ i,i < x.1->UpC c h y i->mirL c i y∈rw2 x.2) (fun x=>c.length - x.1) ((0,zs)) (⟨⟨nz0 _,h3⟩,hR,hN2,hy,hD,fun i hi=>by omega⟩) ?_ ?_
 ·exact Le.s
 rintro⟨i,us⟩ ⟨⟨hi,hku⟩,hR2,hN3,hy2,hD2,hU⟩ ihK
 try simp only []
 simp only []at hi hku hR2 hN3 hy2 hD2 hU
 have hul:=hR2.len hn h1 h2
 rw [rwl]at hul
 refine Run.R ?_
 refine Run.c ?_ ?_
 rotate_left
 ·intro h4
  have h4:i=c.length:=by rw [dfE]at h4;omega
  subst h4
  refine Run.x ?_
  refine Run.RW ?_
  refine Run.k [0,1,5,7] [0] ?_
  refine Run.le ?_ (ihO ((k+1,us)) (⟨hku,hR2,hN3,fun j hj i hi hup=>(by
   by_cases e:j=k
   ·subst e;rw [hy2]at hup ⊢;exact hU i hi hup
   ·exact hD2 j om i hi hup)⟩) (by(try simp only [lenA,lenC,lenN]);omega))
  exact Le.sub (by rfl) (by simp only [AW7,simprocAttr];try simp)
 intro h4
 have h4:i < c.length:=by rw [dtE]at h4;omega
 have hym:y∈rw2 us:=by rw [<- hy2];exact mem_rwk2.2 ⟨k,hku,rfl⟩
 have hys:=hR2.mem y hym
 obtain⟨y1,y2,y3⟩:=rs_small hn h1 h2 hys
 have hgu:=rwg us k
 rw [hy2]at hgu
 have hml:=mir_len c i y
 have hmb:Bnd (13*12) (mirL c i y):=mir_bnd hc (i:=(i:Int)) ⟨by omega,by omega⟩ hys.len (by decide) (fun x hx=>by have:=hys.box h1 x hx;omega)
 have hmB:Bnd 1000000000000000000 (mirL c i y):=fun x hx=>by have:=hmb x hx;omega
 have hyB:Bnd 1000000000000000000 y:=y1.2
 have hul2:∀ r∈us.map (·.2),r.length<=1048576:=fun r hr=>by
  have hr:r∈rw2 us:=hr
  have:=(rs_small hn h1 h2 (hR2.mem r hr)).2.2;omega
 have hmap:us.map (·.2)=rw2 us:=rfl
 have hcond:(sgnR (mirL c i y)=1/\hgt (mirL c i y)<=h/\hgt y < hgt (mirL c i y))↔UpC c h y i:=Iff.rfl
 refine Run.g fun K hK=>?_
 try simp only [hgu]
 refine FunA.e hP hT (c_spec_l7Reflect c i y hc ⟨by omega,by omega⟩ hys.len y2) ?_
 refine wE ?_;clear hK K
 generalize hr:mirL c i y=r at *
 refine Run.nq ?_;refine Run.regionD hC true [0,1,2,3,4,6,5,7,8,9,10,11,12,13,14,15,16,18,19,20,21,17,22,23,24] (by kernel_rfl) (fun K hK=>?_);simp only [AW7,simprocAttr,hX];(repeat(with_reducible refine And.intro ?_ ?_);exact vc0)
 refine FunA.e hP hT (c_spec_RootSign r) ?_
 refine⟨Keeps.refl _,?_⟩
 refine .inl (FunA.callG hP hT (c_spec_HeightOf r hmB (by rw [hml];exact y3)) (fun _=>rfl) (fun _=>by simp only [AW7,simprocAttr]) ?_)
 refine wW ?_
 refine .inl (FunA.callG hP hT (c_spec_l7In (us.map (·.2)) r (by simp;omega) hul2) (fun _=>rfl) (fun _=>by simp only [AW7,simprocAttr]) ?_)
 refine wW ?_
 refine .inl (FunA.callG hP hT (c_spec_HeightOf r hmB (by rw [hml];exact y3)) (fun _=>rfl) (fun _=>by simp only [AW7,simprocAttr]) ?_)
 refine wW ?_
 simp only [hgu]
 refine .inl (FunA.callG hP hT (c_spec_HeightOf y hyB y3) (fun _=>rfl) (fun _=>by simp only [AW7,simprocAttr]) ?_)
 refine wF ?_;clear hK K
 rw [hmap]
 refine Run.c ?_ ?_
 ·intro h5
  have h6:(sgnR r=1/\hgt r<=h/\hgt y < hgt r)/\r∉rw2 us:=by
   cases e1:decide (0 < sgnR r)<;>cases e2:decide (hgt r<=h)<;>cases e3:decide (r∈rw2 us)<;>cases e4:decide (hgt y < hgt r)<;>simp only [e1,e2,e3,e4,cond_true,cond_false,Bool.not_true,Bool.not_false,reduceCtorEq]at h5
   simp only [dtE,dfE]at e1 e2 e3 e4
   have:=sgn_pos e1
   exact⟨⟨this,e2,e4⟩,e3⟩
  obtain⟨hup,hnew⟩:=h6
  have hrs:RS c h r:=by
   subst hr
   exact .up y i hys h4 hup.1 hup.2.1 hup.2.2
  refine Run.k [0,1,5,7,8,9] [0,1] ?_
  refine Run.g fun K hK=>?_
  refine FunM.call hP hT (c_spec_l7Put us r hN3 om (rs_small hn h1 h2 hrs).1 (fun z hz=>(rs_small hn h1 h2 (hR2.mem z hz)).1) true) 0 0 (by simp only [AW7,simprocAttr];rfl) (by simp) rfl (by simp only [AW7,simprocAttr];try simp) ?_
  rintro rs o' obs' ⟨rfl,us',hE4,hN4,h7⟩
  obtain⟨rfl,rfl⟩:=List.cons.inj h7
  refine wF ?_;clear hK K
  have hR3:RL c h (rw2 us'):=by rw [hE4];exact hR2.put hrs hnew
  have hku':k < (rw2 us).length:=by rw [rwl];exact hku
  have hkeep:∀ j,j<=k->(rw2 us').getD j []=(rw2 us).getD j []:=by
   rw [hE4];exact hR2.keep hku' (by rw [hy2];exact hup.2.2)
  have hsub:∀ z,z∈rw2 us->z∈rw2 us':=fun z hz=>by rw [hE4];exact(putR_mem _ _ _).2 (.inr hz)
  have hl4:us'.length=us.length+1:=by
   have:=congrArg List.length hE4
   rw [(putR_perm _ _).length_eq]at this
   simp [rw2]at this;omega
  have hD3:∀ j,j < k->∀ i,i < c.length->UpC c h ((rw2 us').getD j []) i->mirL c i ((rw2 us').getD j [])∈rw2 us':=fun j hj i hi hu=>by
   rw [hkeep j om]at hu ⊢
   exact hsub _ (hD2 j hj i hi hu)
  have hU3:∀ a,a < i+1->UpC c h y a->mirL c a y∈rw2 us':=fun a ha hu=>by
   by_cases e:a=i
   ·subst e;rw [hr,hE4];exact(putR_mem _ _ _).2 (.inl rfl)
   ·exact hsub _ (hU a om hu)
  have hku4:k < us'.length:=by omega
  refine Run.RW ?_
  refine Run.k [0,1,5,7,8] [2] ?_
  exact Run.j (ihK ((i+1,us')) (⟨⟨h4,hku4⟩,hR3,hN4,(hkeep k (Nat.le_refl k)).trans hy2,hD3,hU3⟩) mz)
 intro h5
 have h6:UpC c h y i->r∈rw2 us:=fun hu=>by
  unfold UpC at hu
  rw [hr]at hu
  have e1:decide (0 < sgnR r)=true:=by rw [hu.1];rfl
  have e2:decide (hgt r<=h)=true:=decide_eq_true hu.2.1
  have e4:decide (hgt y < hgt r)=true:=decide_eq_true hu.2.2
  cases e3:decide (r∈rw2 us) with
  | true=>rwa [dtE]at e3
  | false=>simp only [e1,e2,e3,e4,cond_true,cond_false,Bool.not_true,Bool.not_false,reduceCtorEq]at h5
 have hU3:∀ a,a < i+1->UpC c h y a->mirL c a y∈rw2 us:=fun a ha hu=>by
  by_cases e:a=i
  ·subst e;rw [hr];exact h6 hu
  ·exact hU a om hu
 refine Run.RW ?_
 refine Run.k [0,1,5,7,8] [0] ?_
 exact Run.j (ihK ((i+1,us)) (⟨⟨h4,hku⟩,hR2,hN3,hy2,hD2,hU3⟩) mz)
structure PI (c:LL) (H:Int) (xs:List (List Int×List Int)):Prop where
 pl:PL c H (xs.map (·.1))
 co:∀ p∈xs,p.2.length=c.length
theorem addX_fst (H:Int) (xs:List (List Int×List Int)) (r s:LI):(addX H xs (r,s)).map (·.1)=addP H (xs.map (·.1)) r:=by
 unfold addX addP
 by_cases h:r∉xs.map (·.1)/\sgnR r=1/\hgt r<=H
 ·rw [if_pos h,if_pos h,List.map_append];rfl
 ·rw [if_neg h,if_neg h]
theorem PI.add {c:LL} (hc:CartanP c) {H:Int} {xs:List (List Int×List Int)} (k:PI c H xs) {r s:LI} (hr:Rt c r) (hs:s.length=c.length):PI c H (addX H xs (r,s)):=by
 refine⟨by rw [addX_fst];exact k.pl.add hc hr,fun p hp=>?_⟩
 unfold addX at hp
 split at hp
 ·rcases List.mem_append.1 hp with hp | hp
  ·exact k.co p hp
  ·simp at hp;subst hp;exact hs
 ·exact k.co p hp
theorem PL.len {c:LL} (hc:CartanP c) {H:Int} (h1:1<=H) (h2:H<=12) {L:LL} (k:PL c H L):L.length<=28561:=
 box_count hc.2.1 k.nd fun r hr=>⟨(k.mem r hr).len,fun x hx=>by have:=(k.mem r hr).box h1 x hx;omega⟩
theorem PI.len {c:LL} (hc:CartanP c) {H:Int} (h1:1<=H) (h2:H<=12) {xs:List (List Int×List Int)} (k:PI c H xs):xs.length<=28561:=by
 have:=k.pl.len hc h1 h2
 simpa using this
theorem PI.lens {c:LL} {H:Int} {xs:List (List Int×List Int)} (k:PI c H xs):∀ z∈xs.map (·.1),z.length=c.length:=fun z hz=>(k.pl.mem z hz).len
theorem PI.at {c:LL} {H:Int} {xs:List (List Int×List Int)} (k:PI c H xs) {i:Nat} (hi:i < xs.length):RS c H (xs.getD i ([],[])).1/\(xs.getD i ([],[])).2.length=c.length:=by
 rw [gdE,geE hi]
 exact⟨k.pl.mem _ (List.mem_map.2 ⟨_,List.getElem_mem hi,rfl⟩),k.co _ (List.getElem_mem hi)⟩
theorem fst_at {xs:List (List Int×List Int)} {i:Nat} (hi:i < xs.length):(xs.map (·.1)).getD i []=(xs.getD i ([],[])).1:=by
 simp [gdE,hi]
theorem addX_get {H:Int} {xs:List (List Int×List Int)} {p:List Int×List Int} {k:Nat} (hk:k < xs.length):(addX H xs p).getD k ([],[])=xs.getD k ([],[]):=by
 unfold addX;split
 ·simp [gdE,List.getElem?_append_left hk]
 ·rfl
theorem addX_len (H:Int) (xs:List (List Int×List Int)) (p:List Int×List Int):xs.length<=(addX H xs p).length:=by
 unfold addX;split<;>simp
def SimP (c:LL) (k:Nat) (xs:List (List Int×List Int)):Prop:=∀ i,i < k->simL c.length i∈xs.map (·.1)
theorem SimP.add {c:LL} {k:Nat} {xs:List (List Int×List Int)} (h:SimP c k xs) (H:Int) (p:List Int×List Int):SimP c k (addX H xs p):=fun i hi=>by
 rw [show p=(p.1,p.2)from rfl,addX_fst];exact addP_sub (h i hi)
theorem SimP.next {c:LL} {k:Nat} {xs:List (List Int×List Int)} (h:SimP c k xs) (hc:CartanP c) (hk:k < c.length) {H:Int} (h1:1<=H) (s:LI):SimP c (k+1) (addX H xs (simL c.length k,s)):=fun i hi=>by
 by_cases e:i=k
 ·subst e
  rw [addX_fst]
  refine addP_in ?_ (by rw [hgt_sim _ _ hk];exact h1)
  exact sgn_pos_iff.2 ⟨fun j=>by rw [simL_get _ _ _ hk];split<;>omega,i,by rw [simL_get _ _ _ hk,if_pos rfl];omega⟩
 ·exact(h.add H _) i om
theorem sorted_RL {c:LL} {H:Int} {xs ys:List (List Int×List Int)} (k:PI c H xs) (hs:SimP c c.length xs) (hd:PD c H (xs.map (·.1)) xs.length 0) (hp:ys.Perm xs) (hy:ys.Pairwise fun p q=>¬cmpR q.1 p.1 < 0) :
  RL c H (ys.map (·.1))/\∀ z,RS c H z->z∈ys.map (·.1):=by
 have hpm:(ys.map (·.1)).Perm (xs.map (·.1)):=hp.map _
 have hd':PD c H (xs.map (·.1)) (xs.map (·.1)).length 0:=by rw [List.length_map];exact hd
 have hall:∀ z,RS c H z->z∈ys.map (·.1):=fun z hz=>hpm.mem_iff.2 (hd'.all hs hz)
 have hnd:(ys.map (·.1)).Nodup:=hpm.nodup_iff.2 k.pl.nd
 have hlen:∀ z∈ys.map (·.1),z.length=c.length:=fun z hz=>k.lens z (hpm.mem_iff.1 hz)
 refine⟨⟨?_,fun z hz=>k.pl.mem z (hpm.mem_iff.1 hz),fun i hi=>hpm.mem_iff.2 (hs i hi)⟩,hall⟩
 have h1:(ys.map (·.1)).Pairwise fun p q=>¬cmpR q p < 0:=List.pairwise_map.2 hy
 have h2:=List.Pairwise.and h1 hnd
 refine List.Pairwise.imp_of_mem (fun {a b} ha hb hab=>?_) h2
 obtain⟨h3,h4⟩:=hab
 have e:a.length=b.length:=by rw [hlen a ha,hlen b hb]
 rcases befR_total e h4 with h | h
 ·exact h
 ·exact absurd ((befR_cmp e.symm).1 h) h3
end Go.Proofs.YtcinngodeoidnaaGreat
