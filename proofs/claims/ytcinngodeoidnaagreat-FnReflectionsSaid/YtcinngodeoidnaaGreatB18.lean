/- Whether a group is finite: the program's side. -/
import Derived.Test.YtcinngodeoidnaaGreatB17
import Derived.Test.YtcinngodeoidnaaGreatB14
set_option linter.unusedVariables false
set_option linter.unusedSimpArgs false
namespace Go.Proofs.YtcinngodeoidnaaGreat
open Go Go.Aw Go.Cox
theorem setL_letters:∀ k:Nat,k < 16->∀ n:Nat,n<=4->k < 2 ^ n->∀ x∈setL k,0<=x/\x < (n:Int):=by decide
theorem setL_len:∀ k:Nat,k < 16->(setL k).length<=4:=by decide
theorem pow_le16:∀ n:Nat,n<=4->2 ^ n<=16:=by decide
theorem pick_sq {c:LL} (hc:CartanP c) {s:LI} (hs:letters c.length s):Sq s.length (pick c s):=by
 refine⟨by simp [pick],fun r hr=>?_⟩
 simp only [pick,List.mem_map]at hr
 obtain⟨i,hi,rfl⟩:=hr
 refine⟨by simp,fun x hx=>?_⟩
 simp only [List.mem_map]at hx
 obtain⟨j,hj,rfl⟩:=hx
 obtain⟨a1,a2⟩:=hs i hi
 obtain⟨b1,b2⟩:=hs j hj
 have:=ent_le hc i.toNat j.toNat om om
 omega
def minors (c:LL) (k:Nat):List Int:=(List.range k).map fun i=>mn c (i+1)
theorem minors_succ (c:LL) (k:Nat):minors c k ++ [mn c (k+1)]=minors c (k+1):=by simp [minors,List.range_succ]
theorem minors_len (c:LL) (k:Nat):(minors c k).length=k:=by simp [minors]
theorem minors_get (c:LL) (n k:Nat) (h:k < n):(minors c n).getD k 0=mn c (k+1):=by simp [minors,gdE,h]
noncomputable def pmin (c:LL):List Int:=if isC c then minors c (2 ^ c.length - 1)else []
theorem shl_one:∀ n:Nat,n<=4->IntKind.i64.wrap (1*2 ^ min n IntKind.i64.bits)=((2 ^ n:Nat):Int):=by decide
theorem c_impl_PrincipalMinors (c:LL):FunA B 174 [.sl false (.row false) c] (fun rs o=>rs=[.own 0 0]/\o=[.arr .int (pmin c) 0 true]):=by
 refine wk Tryz.call174 Tryz.func174 rfl Tryz.ntmps174 fun C hC hP hT hfn hpin hfin hX=>wW ?_
 refine Run.R ?_
 refine Run.R ?_
 refine Run.g fun K hK=>?_
 refine FunA.e hP hT (c_impl_IsCartan c) ?_
 refine wE ?_;clear hK K
 refine Run.c ?_ ?_
 ·intro hb
  have hb:isC c=false:=by simpa using hb
  have hp:pmin c=[]:=by simp [pmin,hb]
  refine Run.R ?_
  refine Run.r [2] ?_
  exact⟨rfl,by rw [hp]⟩
 ·intro hb
  have hb:isC c=true:=by simpa using hb
  have hc:=isC_iff.1 hb
  have hn:=hc.2.1
  have hn1:=hc.1
  have hsh:=shl_one c.length hn
  have hpw:=pow_le16 c.length hn
  have hp1:1<=2 ^ c.length:=Nat.one_le_two_pow
  refine Run.R ?_
  refine Run.le (Le.sub (fr':=[(0,true,.v (.sl false (.row false) c)),(2,true,.v .nils),(3,true,.v (.own 0 0)),(4,true,.v (.int .i64 ((0+1:Nat))))]) rfl (by simp only [AW7,simprocAttr];try simp)) ?_
  refine Run.loopI (X:=Nat) (fun k=>⟨26,[(0,true,.v (.sl false (.row false) c)),(2,true,.v (.nils)),(3,true,.v (.own 0 0)),(4,true,.v (.int .i64 (((k+1:Nat)))))],[.arr .int ((minors c k)) 0 true]⟩) (fun k=>k+1<=2 ^ c.length) (fun k=>2 ^ c.length - k) (0) om ?_ ?_
  ·exact Le.s
  rintro k hk ih
  try simp only []
  have hml:=minors_len c k
  refine Run.g fun K hK=>?_
  simp only [hsh]
  refine wE ?_;clear hK K
  refine Run.c ?_ ?_
  ·intro h
   have h:k+1 < 2 ^ c.length:=Int.ofNat_lt.1 (of_decide_eq_true h)
   have hl:=setL_letters (k+1) om c.length hn h
   have hll:=setL_len (k+1) om
   have hsq:=pick_sq hc hl
   refine Run.g fun K hK=>?_
   refine FunA.e hP hT (c_impl_setOf (k+1) om) ?_
   refine FunA.cW hP hT (c_impl_picked c (setL (k+1)) hn hc.2.2.1 hl om) ?_
   rintro rs o ⟨rfl,ys,hy,rfl⟩
   refine wW ?_
   refine FunA.callW hP hT (c_impl_determinant (setL (k+1)).length (pick c (setL (k+1))) hll hsq) (by simp only [AW7,simprocAttr];exact hy.symm) ?_
   rintro rs o ⟨rfl,rfl⟩
   refine wF ?_;clear hK K
   refine Run.RW ?_
   refine Run.k [0,2,3,4] [0] ?_
   refine Run.le ?_ (ih (k+1) om om)
   exact Le.sub (by rw [<- minors_succ];rfl) (by simp only [AW7,simprocAttr];try simp)
  ·intro h
   have h:k+1=2 ^ c.length:=by have h:=of_decide_eq_false h;rw [Int.ofNat_lt]at h;omega
   have hp:pmin c=minors c k:=by simp only [pmin,hb,if_true];rw [show 2 ^ c.length - 1=k by omega]
   refine Run.x ?_
   refine Run.R ?_
   refine Run.r [2] ?_
   exact⟨rfl,by rw [hp]⟩
theorem c_impl_WitnessOf (c:LL):FunA B 140 [.sl false (.row false) c] (fun rs o=>rs=[.own 0 0]/\∃ xs,(xs=[]↔∀ k,k < (pmin c).length->0 < (pmin c).getD k 0)/\xs.length<=4/\o=[.arr .int xs 0 true]):=by
 have hpl:(pmin c).length<=15:=by
  unfold pmin
  split
  ·rename_i hb
   have hc:=isC_iff.1 hb
   have:=pow_le16 c.length hc.2.1
   rw [minors_len];omega
  ·simp
 refine wk Tryz.call140 Tryz.func140 rfl Tryz.ntmps140 fun C hC hP hT hfn hpin hfin hX=>wW ?_
 refine Run.R ?_
 refine Run.g fun K hK=>?_
 refine FunA.e hP hT (c_impl_PrincipalMinors c) ?_
 refine wE ?_;clear hK K
 refine Run.loopI (X:=Nat) (fun k=>⟨20,[(0,true,.v (.sl false (.row false) c)),(2,true,.v (.nils)),(6,true,.v (.own 0 0)),(7,true,.v (.int .i64 ((pmin c).length))),(8,true,.v (.int .i64 k))],[.arr .int ((pmin c)) 0 true]⟩) (fun k=>k<=(pmin c).length/\∀ j,j < k->0 < (pmin c).getD j 0) (fun k=>(pmin c).length - k) (0) (⟨nz0 _,fun j hj=>by omega⟩) ?_ ?_
 ·exact Le.s
 rintro k ⟨hk,hpos⟩ ih
 try simp only []
 refine Run.R ?_
 refine Run.c ?_ ?_
 ·intro h
  have h:k < (pmin c).length:=by simpa using h
  refine Run.R ?_
  refine Run.R ?_
  refine Run.c ?_ ?_
  ·intro h2
   have h2:(pmin c).getD k 0<=0:=by simpa using h2
   refine Run.nq ?_;refine Run.regionW hC (fun K hK=>?_);refine wWW ?_
   refine FunA.callW hP hT (c_impl_setOf (k+1) om) (by simp only [AW7,simprocAttr];simp) ?_
   rintro rs o ⟨rfl,rfl⟩
   refine wF ?_;clear hK K
   refine Run.k [2] [1] ?_
   refine Run.r [2] ?_
   refine⟨rfl,setL (k+1),⟨fun he=>absurd he (setL_ne (k+1) om om),fun hall=>?_⟩,setL_len (k+1) om,rfl⟩
   have:=hall k h
   omega
  ·intro h2
   have h2:0 < (pmin c).getD k 0:=by simp at h2;simpa [gdE] using h2
   refine Run.RW ?_
   refine Run.le ?_ (ih (k+1) ⟨h,fun j hj=>by rcases Nat.lt_or_ge j k with q | q;exact hpos j q;rw [show j=k by omega];exact h2⟩ om)
   exact Le.sub (by rfl) (by simp only [AW7,simprocAttr];try simp)
 ·intro h
  have h:k=(pmin c).length:=by simp at h;omega
  subst h
  refine Run.x ?_
  refine Run.R ?_
  refine Run.k [2] [1] ?_
  refine Run.r [2] ?_
  exact⟨rfl,[],⟨fun _=>hpos,fun _=>rfl⟩,by simp,rfl⟩
open Classical in
noncomputable def isF (c:LL):Bool:=decide (FinP c)
theorem isF_iff {c:LL}:isF c=true↔FinP c:=by simp [isF]
theorem isF_pmin {c:LL} (hb:isC c=true) {xs:LI} (h:xs=[]↔∀ k,k < (pmin c).length->0 < (pmin c).getD k 0):isF c=((xs.length:Int) == 0):=by
 have e:FinP c↔xs=[]:=by
  rw [h]
  have hp:pmin c=minors c (2 ^ c.length - 1):=by simp [pmin,hb]
  rw [hp,minors_len]
  constructor
  ·rintro⟨_,hf⟩ k hk
   rw [minors_get c _ k hk]
   exact hf (k+1) om om
  ·intro hf
   refine⟨isC_iff.1 hb,fun k h1 h2=>?_⟩
   have:=hf (k - 1) om
   rw [minors_get c _ _ om,show k - 1+1=k by omega]at this
   exact this
 cases hx:isF c with
 | true=>
  have:=e.1 (isF_iff.1 hx)
  subst this;rfl
 | false=>
  have hn:xs≠[]:=fun hh=>by rw [isF_iff.2 (e.2 hh)]at hx;cases hx
  have:xs.length≠0:=fun hh=>hn (nilZ hh)
  symm
  simp [hn]
theorem isF_not {c:LL} (hb:isC c=false):isF c=false:=by
 cases hx:isF c with
 | false=>rfl
 | true=>rw [isC_true (isF_iff.1 hx).1]at hb;cases hb
theorem c_impl_IsFinite (c:LL):FunA B 97 [.sl false (.row false) c] (fun rs o=>rs=[.bool (isF c)]/\o=[]):=by
 refine wk Tryz.call97 Tryz.func97 rfl Tryz.ntmps97 fun C hC hP hT hfn hpin hfin hX=>wW ?_
 refine Run.R ?_
 refine Run.g fun K hK=>?_
 refine FunA.e hP hT (c_impl_IsCartan c) ?_
 cases hb:isC c with
 | false=>
  have hf:=isF_not hb
  refine wW ?_
  refine .inl (CallG.off (.sl false .int []) ?_)
  refine wF ?_;clear hK K
  refine Run.r [2] ?_
  simp [hf]
 | true=>
  refine .inr ⟨rfl,?_⟩
  refine FunA.cW hP hT (c_impl_WitnessOf c) ?_
  rintro rs o ⟨rfl,xs,hxs,hl,rfl⟩
  have hf:=isF_pmin hb hxs
  refine wF ?_;clear hK K
  refine Run.k [2] [] ?_
  refine Run.r [2] ?_
  simp [hf]
open Go Go.Aw Go.Cox
theorem setBt_full:∀ n:Nat,n<=4->∀ k:Nat,k < 2 ^ n->setBt k n=setL k:=by decide
def setsL (k:Nat):List (List Int):=(List.range k).map fun i=>setL (i+1)
theorem setsL_succ (k:Nat):setsL k ++ [setL (k+1)]=setsL (k+1):=by simp [setsL,List.range_succ]
theorem setsL_len (k:Nat):(setsL k).length=k:=by simp [setsL]
theorem setsL_get (n k:Nat) (h:k < n):(setsL n).getD k []=setL (k+1):=by simp [setsL,gdE,h]
theorem c_spec_l4Sets (n:Nat) (hn:n<=4):FunA B 176 [.int .i64 n] (fun rs o=>rs=[.own 0 0]/\∃ ys,ys.map (·.2)=setsL (2 ^ n - 1)/\o=[.arr .lrow ys 0 true]):=by
 have hsh:=shl_one n hn
 have hpw:=pow_le16 n hn
 have hp1:1<=2 ^ n:=Nat.one_le_two_pow
 refine wk Tryz.call176 Tryz.func176 rfl Tryz.ntmps176 fun C hC hP hT hfn hpin hfin hX=>wW ?_
 refine Run.R ?_
 refine Run.R ?_
 refine Run.R ?_
 refine Run.le (Le.sub (fr':=[(0,true,.v (.int .i64 n)),(2,true,.v .nils),(3,true,.v (.own 0 0)),(4,true,.v (.int .i64 ((0+1:Nat))))]) rfl (by simp only [AW7,simprocAttr];try simp)) ?_
 refine Run.loopI (X:=Nat×List (Nat×List Int)) (fun k=>⟨34,[(0,true,.v (.int .i64 n)),(2,true,.v (.nils)),(3,true,.v (.own 0 0)),(4,true,.v (.int .i64 (((k.1+1:Nat)))))],[.arr .lrow (k.2) 0 true]⟩) (fun k=>k.1+1<=2 ^ n/\k.2.map (·.2)=setsL k.1) (fun k=>2 ^ n - k.1) ((0,[])) (⟨by simp only [];omega,rfl⟩) ?_ ?_
 ·exact Le.s
 rintro⟨k,ys⟩ ⟨hk,hy⟩ ih
 try simp only []
 simp only []at hk hy
 have hyl:ys.length=k:=by have:=congrArg List.length hy;simpa [setsL_len] using this
 refine Run.g fun K hK=>?_
 simp only [hsh]
 refine wE ?_;clear hK K
 refine Run.c ?_ ?_
 ·intro h
  have h:k+1 < 2 ^ n:=Int.ofNat_lt.1 (of_decide_eq_true h)
  refine Run.R ?_
  refine Run.R ?_
  refine Run.k [0,2,3,4,5,6] [0,1] ?_
  refine Run.loopI (X:=Nat) (fun i=>⟨34,[(0,true,.v (.int .i64 n)),(2,true,.v (.nils)),(3,true,.v (.own 0 0)),(4,true,.v (.int .i64 (((k+1:Nat))))),(5,true,.v (.own 1 0)),(6,true,.v (.int .i64 i))],[.arr .lrow (ys) 0 true,.arr .int ((setBt (k+1) i)) 0 true]⟩) (fun i=>i<=n) (fun i=>n - i) (0) (nz0 _) ?_ ?_
  ·exact Le.s
  rintro i hi ih2
  try simp only []
  have hsl:=setBt_len (k+1) i
  refine Run.R ?_
  refine Run.c ?_ ?_
  ·intro h2
   have h2:i < n:=by simpa using h2
   have hb2:=bit_and (k+1) om i om
   have h3:=setBt_succ (k+1) i
   refine Run.R ?_
   refine Run.c ?_ ?_
   ·intro hb
    rw [hb2]at hb
    rw [hb,if_pos rfl]at h3
    refine Run.R ?_
    refine Run.RW ?_
    refine Run.k [0,2,3,4,5,6] [0,1] ?_
    refine Run.le ?_ (ih2 (i+1) om om)
    exact Le.sub (by rw [h3]) (by simp only [AW7,simprocAttr];try simp)
   ·intro hb
    rw [hb2]at hb
    rw [hb]at h3
    refine Run.RW ?_
    refine Run.le ?_ (ih2 (i+1) om om)
    exact Le.sub (by rw [h3];rfl) (by simp only [AW7,simprocAttr];try simp)
  ·intro h2
   have h2:i=n:=by simp at h2;omega
   have hfull:=setBt_full n hn (k+1) om
   rw [h2,hfull]
   refine Run.x ?_
   refine Run.g fun K hK=>?_
   intro l hl
   refine wF ?_;clear hK K
   refine Run.RW ?_
   refine Run.k [0,2,3,4] [0] ?_
   refine Run.le ?_ (ih (k+1,ys ++ [(l,setL (k+1))]) ⟨by simp only [];omega,by simp only [List.map_append,hy,List.map_cons,List.map_nil];exact setsL_succ k⟩ (by simp only [];omega))
   exact Le.sub (by rfl) (by simp only [AW7,simprocAttr];try simp)
 ·intro h
  have h:k+1=2 ^ n:=by have h:=of_decide_eq_false h;rw [Int.ofNat_lt]at h;omega
  refine Run.x ?_
  refine Run.R ?_
  refine Run.r [2] ?_
  exact⟨rfl,ys,by rw [hy,show 2 ^ n - 1=k by omega],rfl⟩
theorem c_spec_SubCartan (c:LL) (s:LI) (hc:CartanP c) (hs:setP c.length s) (hne:s≠[]) :
  FunA B 177 [.sl false (.row false) c,.sl false .int s] (fun rs o=>rs=[.own 0 0,.bool true]/\∃ ys,ys.map (·.2)=pick c s/\o=[.arr .lrow ys 0 true]):=by
 have hl4:s.length<=c.length:=set_len hs
 have hlet:letters c.length s:=set_letters hs
 have hn:=hc.2.1
 have hset:isSetB c s=true:=by unfold isSetB;rw [isC_true hc,setB_iff.2 hs];rfl
 have hsl:s.length≠0:=fun h=>hne (nilZ h)
 refine wk Tryz.call177 Tryz.func177 rfl Tryz.ntmps177 fun C hC hP hT hfn hpin hfin hX=>wW ?_
 refine Run.R ?_
 refine Run.R ?_
 refine Run.g fun K hK=>?_
 refine FunA.cW hP hT (c_spec_l3Set c s om) ?_
 rintro rs o ⟨rfl,rfl⟩
 simp only [hset]
 refine wF ?_;clear hK K
 refine Run.c ?_ ?_
 ·intro h
  simp [hne]at h
 intro h
 clear h
 refine Run.R ?_
 refine Run.k [0,1,4,5,6,7] [0] ?_
 refine Run.loopI (X:=Nat×List (Nat×List Int)) (fun m=>⟨55,[(0,true,.v (.sl false (.row false) c)),(1,true,.v (.sl false .int s)),(4,true,.v (.nils)),(5,true,.v (.bool false)),(6,true,.v (.own 0 0)),(7,true,.v (.int .i64 (m.1)))],[.arr .lrow (m.2) 0 true]⟩) (fun m=>m.1<=s.length/\m.2.map (·.2)=(s.take m.1).map (rowP c s)) (fun m=>s.length - m.1) ((0,[])) (⟨nz0 _,rfl⟩) ?_ ?_
 ·exact Le.s
 rintro⟨m,ys⟩ ⟨hm,hy⟩ ih
 try simp only []
 simp only []at hm hy
 have hyl:ys.length=m:=by have:=congrArg List.length hy;simpa [hm] using this
 refine Run.R ?_
 refine Run.c ?_ ?_
 ·intro h
  have h:m < s.length:=by simpa using h
  obtain⟨a1,a2⟩:=letters_mem hlet h
  have hr:=hc.2.2.1 (s.getD m 0).toNat om
  refine Run.R ?_
  refine Run.R ?_
  refine Run.k [0,1,4,5,6,7,8,9] [0,1] ?_
  refine Run.loopI (X:=Nat) (fun k=>⟨55,[(0,true,.v (.sl false (.row false) c)),(1,true,.v (.sl false .int s)),(4,true,.v (.nils)),(5,true,.v (.bool false)),(6,true,.v (.own 0 0)),(7,true,.v (.int .i64 m)),(8,true,.v (.own 1 0)),(9,true,.v (.int .i64 k))],[.arr .lrow (ys) 0 true,.arr .int (((s.take k).map fun j=>ent c (s.getD m 0).toNat j.toNat)) 0 true]⟩) (fun k=>k<=s.length) (fun k=>s.length - k) (0) (nz0 _) ?_ ?_
  ·exact Le.s
  rintro k hk ih2
  try simp only []
  refine Run.R ?_
  refine Run.c ?_ ?_
  ·intro h2
   have h2:k < s.length:=by simpa using h2
   obtain⟨b1,b2⟩:=letters_mem hlet h2
   have hsn:=map_snoc (fun j=>ent c (s.getD m 0).toNat j.toNat) s 0 k h2
   refine Run.nq ?_;refine Run.regionD hC true [0,1,2,3,4,5,6,7,8,9,10,11,12,13,14,15,16] (by kernel_rfl) (fun K hK=>?_);simp only [AW7,simprocAttr,hX];(repeat(with_reducible refine And.intro ?_ ?_);exact vc0)
   refine wE ?_;clear hK K
   refine Run.RW ?_
   refine Run.k [0,1,4,5,6,7,8,9] [0,1] ?_
   refine Run.le ?_ (ih2 (k+1) om om)
   exact Le.sub (by rw [<- hsn]) (by simp only [AW7,simprocAttr];try simp)
  ·intro h2
   have h2:k=s.length:=by simp at h2;omega
   subst h2
   rw [tkL]
   refine Run.x ?_
   refine Run.g fun K hK=>?_
   intro l hl
   refine wF ?_;clear hK K
   refine Run.RW ?_
   refine Run.k [0,1,4,5,6,7] [0] ?_
   refine Run.le ?_ (ih (m+1,ys ++ [(l,rowP c s (s.getD m 0))]) ⟨h,by simp only [List.map_append,hy,List.map_cons,List.map_nil];exact map_snoc (rowP c s) s 0 m h⟩ (by simp only [];omega))
   exact Le.sub (by rfl) (by simp only [AW7,simprocAttr];try simp)
 ·intro h
  have h:m=s.length:=by simp at h;omega
  subst h
  rw [tkL]at hy
  refine Run.x ?_
  refine Run.R ?_
  refine Run.r [4,5] ?_
  exact⟨rfl,ys,hy,rfl⟩
theorem c_spec_l4Without (n j:Nat) (m:LL) (hn:n+1<=4) (hm:Sq (n+1) m) (hj:j < n+1) :
  FunA B 194 [.sl false (.row false) m,.int .i64 j] (fun rs o=>rs=[.own 0 0]/\∃ ys,ys.map (·.2)=minorL m j/\o=[.arr .lrow ys 0 true]):=by
 have hml:=hm.1
 have htn:(m.drop 1).length=n:=by simp [hml]
 refine wk Tryz.call194 Tryz.func194 rfl Tryz.ntmps194 fun C hC hP hT hfn hpin hfin hX=>wW ?_
 refine Run.R ?_
 refine Run.R ?_
 refine Run.R ?_
 refine Run.le (Le.sub (fr':=[(0,true,.v (.sl false (.row false) m)),(1,true,.v (.int .i64 j)),(4,true,.v .nils),(5,true,.v (.own 0 0)),(6,true,.v (.int .i64 ((0+1:Nat))))]) rfl (by simp only [AW7,simprocAttr];try simp)) ?_
 refine Run.loopI (X:=Nat×List (Nat×List Int)) (fun k=>⟨41,[(0,true,.v (.sl false (.row false) m)),(1,true,.v (.int .i64 j)),(4,true,.v (.nils)),(5,true,.v (.own 0 0)),(6,true,.v (.int .i64 (((k.1+1:Nat)))))],[.arr .lrow (k.2) 0 true]⟩) (fun k=>k.1<=n/\k.2.map (·.2)=((m.drop 1).take k.1).map (fun r=>r.take j ++ r.drop (j+1))) (fun k=>n - k.1) ((0,[])) (⟨nz0 _,rfl⟩) ?_ ?_
 ·exact Le.s
 rintro⟨k,ys⟩ ⟨hk,hy⟩ ih
 try simp only []
 simp only []at hk hy
 have hyl:ys.length=k:=by have:=congrArg List.length hy;simp at this;omega
 refine Run.R ?_
 refine Run.c ?_ ?_
 ·intro h
  have h:k < n:=by simp [hml]at h;omega
  have hmem:m.getD (k+1) []∈m:=by simp [gdE,show k+1 < m.length by omega]
  have hrl:=(hm.2 _ hmem).1
  have hgd:(m.drop 1).getD k []=m.getD (k+1) []:=by simp [gdE,List.getElem?_drop,Nat.add_comm]
  generalize hr:m.getD (k+1) []=r at hrl hgd
  refine Run.R ?_
  refine Run.R ?_
  refine Run.k [0,1,4,5,6,7,8] [0,1] ?_
  refine Run.loopI (X:=Nat) (fun q=>⟨41,[(0,true,.v (.sl false (.row false) m)),(1,true,.v (.int .i64 j)),(4,true,.v (.nils)),(5,true,.v (.own 0 0)),(6,true,.v (.int .i64 (((k+1:Nat))))),(7,true,.v (.own 1 0)),(8,true,.v (.int .i64 q))],[.arr .lrow (ys) 0 true,.arr .int (((r.take (min q j)) ++ (r.take q).drop (j+1))) 0 true]⟩) (fun q=>q<=n+1) (fun q=>n+1 - q) (0) (nz0 _) ?_ ?_
  ·exact Le.s
  rintro q hq ih2
  try simp only []
  have hlen:((r.take (min q j)) ++ (r.take q).drop (j+1)).length<=8:=by simp;omega
  refine Run.R ?_
  refine Run.c ?_ ?_
  ·intro h2
   have h2:q < n+1:=by simp [hml]at h2;omega
   refine Run.R ?_
   refine Run.c ?_ ?_
   ·intro hqj
    have hqj:q≠j:=fun h=>by simp [h]at hqj
    have e:((r.take (min q j)) ++ (r.take q).drop (j+1)) ++ [r.getD q 0]=(r.take (min (q+1) j)) ++ (r.take (q+1)).drop (j+1):=by
     have h3:=take_snoc 0 r q om
     rcases Nat.lt_or_ge q j with h4 | h4
     ·rw [show min q j=q by omega,show min (q+1) j=q+1 by omega,<- h3]
      rw [List.drop_eq_nil_of_le (by simp;omega),List.drop_eq_nil_of_le (by simp;omega)]
      simp
     ·rw [show min q j=j by omega,show min (q+1) j=j by omega,<- h3,List.append_assoc]
      congr 1
      rw [List.drop_append_of_le_length (by simp;omega)]
    refine Run.R ?_
    rw [hr,e]
    refine Run.RW ?_
    refine Run.k [0,1,4,5,6,7,8] [0,1] ?_
    refine Run.le ?_ (ih2 (q+1) om om)
    exact Le.sub (by rfl) (by simp only [AW7,simprocAttr];try simp)
   ·intro hqj
    have hqj:q=j:=by simp at hqj;omega
    have e:(r.take (min q j)) ++ (r.take q).drop (j+1)=(r.take (min (q+1) j)) ++ (r.take (q+1)).drop (j+1):=by
     rw [show min q j=j by omega,show min (q+1) j=j by omega,List.drop_eq_nil_of_le (by simp;omega),List.drop_eq_nil_of_le (by simp;omega)]
    rw [e]
    refine Run.RW ?_
    refine Run.le ?_ (ih2 (q+1) om om)
    exact Le.sub (by rfl) (by simp only [AW7,simprocAttr];try simp)
  ·intro h2
   have h2:q=n+1:=by simp [hml]at h2;omega
   have e:(r.take (min q j)) ++ (r.take q).drop (j+1)=r.take j ++ r.drop (j+1):=by
    have ht:r.take q=r:=List.take_of_length_le om
    rw [show min q j=j by omega,ht]
   rw [e]
   refine Run.x ?_
   refine Run.g fun K hK=>?_
   intro l hl
   refine wF ?_;clear hK K
   refine Run.RW ?_
   refine Run.k [0,1,4,5,6] [0] ?_
   refine Run.le ?_ (ih (k+1,ys ++ [(l,r.take j ++ r.drop (j+1))]) ⟨h,by simp only [List.map_append,hy,List.map_cons,List.map_nil];rw [<- hgd];exact map_snoc (fun r:List Int=>r.take j ++ r.drop (j+1)) (m.drop 1) [] k om⟩ (by simp only [];omega))
   exact Le.sub (by rfl) (by simp only [AW7,simprocAttr];try simp)
 ·intro h
  have h:k=n:=by simp [hml]at h;omega
  rw [List.take_of_length_le om]at hy
  refine Run.x ?_
  refine Run.R ?_
  refine Run.r [4] ?_
  exact⟨rfl,ys,hy,rfl⟩
theorem c_spec_l4Det (n:Nat):∀(m:LL),n<=4->Sq n m->FunA B 178 [.sl false (.row false) m] (fun rs o=>rs=[.int .i64 (detN n m)]/\o=[]):=by
 induction n with
 | zero=>
  intro m _ hm
  have hm0:m=[]:=nilZ hm.1
  subst hm0
  refine wk Tryz.call178 Tryz.func178 rfl Tryz.ntmps178 fun C hC hP hT hfn hpin hfin hX=>wW ?_
  refine Run.R ?_
  refine Run.R ?_
  refine Run.c ?_ ?_
  ·intro h
   refine Run.R ?_
   refine Run.r [2] ?_
   exact⟨rfl,rfl⟩
  ·intro h
   simp at h
 | succ n ihn=>
  intro m hn hm
  have hml:=hm.1
  refine wk Tryz.call178 Tryz.func178 rfl Tryz.ntmps178 fun C hC hP hT hfn hpin hfin hX=>wW ?_
  refine Run.R ?_
  refine Run.R ?_
  refine Run.c ?_ ?_
  ·intro h
   simp [hml]at h
   omega
  intro h
  clear h
  have hr0:=(det_term hm hn 0 om).2.2.2
  have hS0:detS n m 0=0:=rfl
  refine Run.R ?_
  refine Run.R ?_
  refine Run.le (Le.sub (fr':=[(0,true,.v (.sl false (.row false) m)),(2,true,.v (.int .i64 0)),(3,true,.v (.int .i64 (detS n m 0))),(4,true,.v (.int .i64 (0:Nat)))]) rfl (by simp only [AW7,simprocAttr];simp [hS0])) ?_
  refine Run.loopI (X:=Nat) (fun j=>⟨35,[(0,true,.v (.sl false (.row false) m)),(2,true,.v (.int .i64 0)),(3,true,.v (.int .i64 ((detS n m j)))),(4,true,.v (.int .i64 j))],[]⟩) (fun j=>j<=n+1) (fun j=>n+1 - j) (0) (nz0 _) ?_ ?_
  ·exact Le.s
  rintro j hj ih
  try simp only []
  refine Run.R ?_
  refine Run.c ?_ ?_
  ·intro h
   have h:j < n+1:=by simp [hml]at h;omega
   obtain⟨t1,t2,t3,t4⟩:=det_term hm hn j h
   obtain⟨d1,d2⟩:=detS_le hm hn j om
   obtain⟨e1,e2⟩:=detS_le hm hn (j+1) om
   have hsn:=detS_succ n m j
   have hsq:=hm.minor j h
   have hsc:sgn j=if (j:Int) % 2=1 then -1 else 1:=by unfold sgn;split<;>split<;>first | rfl | omega
   refine Run.nq ?_;refine Run.regionD hC true [0,1,2,3,4,5,6,7,8,9,10,11] (by kernel_rfl) (fun K hK=>?_);simp(disch:=omega) only [wrap_id,AW7,simprocAttr,hX];(repeat(with_reducible refine And.intro ?_ ?_);exact vc0)
   refine FunA.callD hP hT (c_spec_l4Without n j m hn hm h) (by simp only [AW7,simprocAttr]) ?_
   rintro rs o ⟨rfl,ys,hy,rfl⟩
   refine wW ?_
   refine FunA.callD hP hT (ihn (minorL m j) om hsq) (by simp only [AW7,simprocAttr];exact hy.symm) ?_
   rintro rs o ⟨rfl,rfl⟩
   simp(disch:=omega) only [wrap_id,AW7,simprocAttr,hX]
   (repeat(with_reducible refine And.intro ?_ ?_);exact vc0)
   refine wE ?_;clear hK K
   refine Run.keep [0,2,3,4,5] ?_;simp only [AK,Nat.reduceBEq]
   refine Run.R ?_
   refine Run.c ?_ ?_
   ·intro h2
    have h2:(j:Int).tmod 2=1:=by simpa using h2
    rw [Int.tmod_eq_emod_of_nonneg om]at h2
    rw [if_pos h2]at hsc
    rw [hsc,Int.neg_mul,Int.one_mul,Int.neg_mul]at hsn
    refine Run.RW ?_
    refine Run.RW ?_
    rw [show detS n m j+(0 - (m.getD 0 []).getD j 0*detN n (minorL m j))=detS n m (j+1) by rw [hsn];omega]
    refine Run.RW ?_
    refine Run.k [0,2,3,4] [] ?_
    refine Run.le ?_ (ih (j+1) om om)
    exact Le.sub (by rfl) (by simp only [AW7,simprocAttr];try simp)
   ·intro h2
    have h2:¬(j:Int).tmod 2=1:=by simpa using h2
    rw [Int.tmod_eq_emod_of_nonneg om]at h2
    rw [if_neg h2]at hsc
    rw [hsc,Int.one_mul]at hsn
    refine Run.RW ?_
    rw [<- hsn]
    refine Run.RW ?_
    refine Run.k [0,2,3,4] [] ?_
    refine Run.le ?_ (ih (j+1) om om)
    exact Le.sub (by rfl) (by simp only [AW7,simprocAttr];try simp)
  ·intro h
   have h:j=n+1:=by simp [hml]at h;omega
   subst h
   refine Run.x ?_
   refine Run.R ?_
   refine Run.r [2] ?_
   exact⟨rfl,rfl⟩
theorem setL_set:∀ k:Nat,k < 16->∀ i:Nat,i < (setL k).length->0<=(setL k).getD i 0/\(0 < i->(setL k).getD (i - 1) 0 < (setL k).getD i 0):=by decide
theorem setL_setP {n k:Nat} (hn:n<=4) (hk:k < 2 ^ n):setP n (setL k):=by
 have hpw:=pow_le16 n hn
 intro i hi
 obtain⟨h1,h2⟩:=setL_set k om i hi
 exact⟨h1,(setL_letters k om n hn hk _ (getD_mem hi)).2,h2⟩
theorem c_spec_WitnessOf (c:LL):FunA B 141 [.sl false (.row false) c] (fun rs o=>∃ xs,(xs=[]↔∀ k,k < (pmin c).length->0 < (pmin c).getD k 0)/\xs.length<=4/\rs=[.sl true .int xs]/\o=[]):=by
 refine wk Tryz.call141 Tryz.func141 rfl Tryz.ntmps141 fun C hC hP hT hfn hpin hfin hX=>wW ?_
 refine Run.R ?_
 refine Run.g fun K hK=>?_
 refine FunA.e hP hT (c_spec_IsCartan c) ?_
 refine wE ?_;clear hK K
 refine Run.c ?_ ?_
 ·intro hb
  have hb:isC c=false:=by simpa using hb
  have hp:pmin c=[]:=by simp [pmin,hb]
  refine Run.R ?_
  refine Run.le (Le.letgo 0 (g:=0) (e:=.int) (xs:=[]) (nn:=true) [(2,true,.sl true .int [])] rfl ⟨.inr ⟨rfl,rfl⟩,trivial⟩) ?_
  simp only [frV_cons,frV_nil]
  refine Run.k [2] [] ?_
  refine Run.r [2] ?_
  exact⟨[],by simp [hp],by simp,rfl,rfl⟩
 ·intro hb
  have hb:isC c=true:=by simpa using hb
  have hc:=isC_iff.1 hb
  have hn:=hc.2.1
  have hn1:=hc.1
  have hpw:=pow_le16 c.length hn
  have hp1:1<=2 ^ c.length:=Nat.one_le_two_pow
  have hp:pmin c=minors c (2 ^ c.length - 1):=by simp [pmin,hb]
  have hpl:(pmin c).length=2 ^ c.length - 1:=by rw [hp,minors_len]
  refine Run.g fun K hK=>?_
  refine FunA.cW hP hT (c_spec_l4Sets c.length hn) ?_
  rintro rs o ⟨rfl,ys,hy,rfl⟩
  have hyl:ys.length=2 ^ c.length - 1:=by have:=congrArg List.length hy;simpa [setsL_len] using this
  refine wF ?_;clear hK K
  refine Run.R ?_
  refine Run.loopI (X:=Nat) (fun k=>⟨37,[(0,true,.v (.sl false (.row false) c)),(2,true,.v (.nils)),(3,true,.v (.own 0 0)),(4,true,.v (.int .i64 k))],[.arr .lrow (ys) 0 true]⟩) (fun k=>k<=ys.length/\∀ j,j < k->0 < (pmin c).getD j 0) (fun k=>ys.length - k) (0) (⟨nz0 _,fun j hj=>by omega⟩) ?_ ?_
  ·exact Le.s
  rintro k ⟨hk,hpos⟩ ih
  try simp only []
  refine Run.R ?_
  refine Run.c ?_ ?_
  ·intro h
   have h:k < ys.length:=by simpa using h
   obtain⟨l,xs,hlx⟩:∃ l xs,ys.getD k (0,[])=(l,xs):=⟨_,_,rfl⟩
   have hxs:xs=setL (k+1):=by
    have h1:(ys.map (·.2)).getD k []=xs:=by
     have:=congrArg Prod.snd hlx
     simp only [gdE,List.getElem?_map,geE h]at this ⊢
     simpa using this
    rw [hy,setsL_get _ _ om]at h1
    exact h1.symm
   have hset:=setL_setP hn (k:=k+1) om
   have hne:=setL_ne (k+1) om om
   have hsq:=pick_sq hc (set_letters hset)
   have hll:=setL_len (k+1) om
   have hmn:(pmin c).getD k 0=detN (setL (k+1)).length (pick c (setL (k+1))):=by rw [hp,minors_get _ _ _ om];rfl
   subst hxs
   refine Run.g fun K hK=>?_
   simp only [hlx,AW7,simprocAttr,hX]
   (repeat(with_reducible refine And.intro ?_ ?_);exact vc0)
   refine FunA.cW hP hT (c_spec_SubCartan c (setL (k+1)) hc hset hne) ?_
   rintro rs o ⟨rfl,zs,hz,rfl⟩
   refine wF ?_;clear hK K
   refine Run.g fun K hK=>?_
   refine FunA.callW hP hT (c_spec_l4Det (setL (k+1)).length (pick c (setL (k+1))) hll hsq) (by simp only [AW7,simprocAttr];exact hz.symm) ?_
   rintro rs o ⟨rfl,rfl⟩
   refine wF ?_;clear hK K
   rw [<- hmn]
   refine Run.c ?_ ?_
   ·intro h2
    have h2:(pmin c).getD k 0<=0:=by simpa using h2
    refine Run.g fun K hK=>?_
    simp only [hlx,ofE,AW7,simprocAttr,hX]
    (repeat(with_reducible refine And.intro ?_ ?_);exact vc0)
    refine wE ?_;clear hK K
    refine Run.le (Le.re (obs':=[]) hpin [] [(2,true,.sl true .int (setL (k+1)))] rfl trivial (by refine⟨⟨_,rfl,?_⟩,trivial⟩<;>simp [leAV])) ?_
    simp only [frV_cons,frV_nil]
    refine Run.r [2] ?_
    refine⟨_,⟨fun he=>absurd he hne,fun hall=>?_⟩,hll,rfl,rfl⟩
    have:=hall k om
    omega
   ·intro h2
    have h2:0 < (pmin c).getD k 0:=by simp at h2;simpa [gdE] using h2
    refine Run.RW ?_
    refine Run.k [0,2,3,4] [0] ?_
    refine Run.le ?_ (ih (k+1) ⟨h,fun j hj=>by rcases Nat.lt_or_ge j k with q | q;exact hpos j q;rw [show j=k by omega];exact h2⟩ om)
    exact Le.sub (by rfl) (by simp only [AW7,simprocAttr];try simp)
  ·intro h
   have h:k=ys.length:=by simp at h;omega
   subst h
   refine Run.x ?_
   refine Run.R ?_
   refine Run.le (Le.letgo 1 (g:=0) (e:=.int) (xs:=[]) (nn:=true) [(2,true,.sl true .int [])] rfl ⟨.inr ⟨rfl,rfl⟩,trivial⟩) ?_
   simp only [frV_cons,frV_nil]
   refine Run.k [2] [] ?_
   refine Run.r [2] ?_
   exact⟨[],⟨fun _ q hq=>hpos q om,fun _=>rfl⟩,by simp,rfl,rfl⟩
theorem c_spec_IsFinite (c:LL):FunA B 101 [.sl false (.row false) c] (fun rs o=>rs=[.bool (isF c)]/\o=[]):=by
 refine wk Tryz.call101 Tryz.func101 rfl Tryz.ntmps101 fun C hC hP hT hfn hpin hfin hX=>wW ?_
 refine Run.R ?_
 refine Run.g fun K hK=>?_
 refine FunA.e hP hT (c_spec_IsCartan c) ?_
 cases hb:isC c with
 | false=>
  have hf:=isF_not hb
  refine wW ?_
  refine .inl (CallG.off (.sl false .int []) ?_)
  refine wF ?_;clear hK K
  refine Run.r [2] ?_
  simp [hf]
 | true=>
  refine .inr ⟨rfl,?_⟩
  refine FunA.cW hP hT (c_spec_WitnessOf c) ?_
  rintro rs o ⟨xs,hxs,hl,rfl,rfl⟩
  have hf:=isF_pmin hb hxs
  refine wF ?_;clear hK K
  refine Run.k [2] [] ?_
  refine Run.r [2] ?_
  simp [hf]
def fxR (c:LL) (w:LI) (i:Nat):List Int:=(actR c w (simL c.length i)).set i ((actR c w (simL c.length i)).getD i 0 - 1)
def fxM (c:LL) (w:LI):List (List Int):=(List.range c.length).map (fxR c w)
noncomputable def fixN (c:LL) (w:LI):Int:=if wordB c w && isF c then(c.length:Int) - (rkG rowI c.length (fxM c w) 0 0:Nat)else -1
theorem fxR_len (c:LL) (w:LI) (i:Nat):(fxR c w i).length=c.length:=by
 unfold fxR;rw [List.length_set,actR_len,simL_len]
theorem fxR_bnd {c:LL} {w:LI} (hF:FinP c) (hw:letters c.length w) {i:Nat} (hi:i < c.length):Bnd 8 (fxR c w i):=by
 have h:=(fin_all hF).2.2 w i hw hi
 intro x hx
 unfold fxR at hx
 rcases List.mem_or_eq_of_mem_set hx with hx | rfl
 ·have:=h x hx;omega
 ·have hl:i < (actR c w (simL c.length i)).length:=by rw [actR_len,simL_len];exact hi
  have:=h ((actR c w (simL c.length i)).getD i 0) (by rw [getD_eq hl];exact List.getElem_mem hl)
  omega
theorem fxM_ok {c:LL} {w:LI} (hF:FinP c) (hw:letters c.length w):OKM c.length 8 (fxM c w):=by
 refine⟨by simp [fxM],fun k hk=>?_⟩
 have e:(fxM c w).getD k []=fxR c w k:=by simp [fxM,List.getD,hk]
 rw [e]
 exact⟨fxR_len c w k,fxR_bnd hF hw hk⟩
theorem fxM_rank {c:LL} {w:LI} (hF:FinP c) (hw:letters c.length w):rkG rowS c.length (fxM c w) 0 0=rkG rowI c.length (fxM c w) 0 0:=
 rk_same _ (MulM.refl (fxM_ok hF hw)) (nz0 _)
theorem fxR_get (c:LL) (w:LI) {i k:Nat} (_:i < c.length) (hk:k < c.length):(fxR c w i).getD k 0=(actR c w (simL c.length i)).getD k 0 - (simL c.length i).getD k 0:=by
 have hl:(actR c w (simL c.length i)).length=c.length:=by rw [actR_len,simL_len]
 have hs:(simL c.length i).getD k 0=if k=i then 1 else 0:=by
  unfold simL
  simp only [List.getD,List.getElem?_set,List.length_replicate]
  by_cases h:i=k
  ·subst h;simp [hk]
  ·rw [if_neg h,if_neg (Ne.symm h)];simp [hk]
 rw [hs]
 unfold fxR
 simp only [List.getD,List.getElem?_set]
 by_cases h:i=k
 ·subst h;simp [hl,hk]
 ·rw [if_neg h,if_neg (Ne.symm h)];simp
theorem rkG_le (g:List (List Int)->Nat->Nat->Nat->List Int):∀(f:Nat) (M:LL) (r c:Nat),r<=M.length->rkG g f M r c<=M.length
 | 0,M,r,c,h=>h
 | f+1,M,r,c,h=>by
  have hg:=pvt_ge M c (M.length - r) r
  simp only [rkG]
  split
  ·exact rkG_le g f M r (c+1) h
  ·have:=rkG_le g f (elim (fun N k=>g N r c k) (M.length - (r+1)) (r+1) (swp M r (pvt M c (M.length - r) r))) (r+1) (c+1) (by rw [elim_len,swp_len];omega)
   rw [elim_len,swp_len]at this
   exact this
theorem fxM_take (c:LL) (w:LI) {i:Nat} (h:i < c.length):(List.range (i+1)).map (fxR c w)=(List.range i).map (fxR c w) ++ [fxR c w i]:=by
 rw [List.range_succ,List.map_append];rfl
theorem actB {c:LL} {w:LI} (hF:FinP c) (hw:letters c.length w) {i:Nat} (hi:i < c.length) (j:Nat):Bnd 100000000000000000 (actR c (w.drop j) (simL c.length i)):=by
 intro x hx
 have:=(fin_all hF).2.2 (w.drop j) i (fun a ha=>hw a (List.mem_of_mem_drop ha)) hi x hx
 omega
set_option maxHeartbeats 1000000 in
theorem c_impl_FixedRank (c:LL) (w:LI) (_:c.length<=1048576) :
  FunA B 25 [.sl false (.row false) c,.sl false .int w] (fun rs o=>rs=[.int .i64 (fixN c w)]/\o=[]):=by
 refine FunA.walk0 B_ok (fn:=Tryz.f25) (fun vs w=>Tryz.call25 vs w) Tryz.func25 rfl (by rw [Tryz.ntmps25];simp) rfl (fun C hC hP hT hΓ hbt hfn hpin hnoL hfin=>?_);have hX:=BX;rw [<- hΓ,<- hbt.1,<- hbt.2.1,<- hbt.2.2.1,<- hbt.2.2.2.2]at hX;rw [hT]at hX;rw [Tryz.ntmps25];simp only [AW7,simprocAttr,hX]
 refine Run.R ?_
 by_cases hwb:wordB c w=true
 rotate_left
 ·have hwb:wordB c w=false:=by simpa using hwb
  have e:fixN c w = -1:=by simp [fixN,hwb]
  refine Run.g fun K hK=>?_
  refine FunA.cW hP hT (c_impl_IsWord c w) ?_
  rintro rs o ⟨rfl,rfl⟩
  simp only [hwb]
  refine wW ?_
  refine .inl (CallG.off (.bool false) ?_)
  refine wF ?_;clear hK K
  refine Run.c ?_ ?_
  rotate_left
  ·intro h;cases h
  intro _
  refine Run.R ?_
  refine Run.r [4] ?_
  rw [e];exact⟨rfl,rfl⟩
 refine Run.g fun K hK=>?_
 refine FunA.cW hP hT (c_impl_IsWord c w) ?_
 rintro rs o ⟨rfl,rfl⟩
 simp only [hwb]
 refine wW ?_
 refine .inr ⟨rfl,?_⟩
 refine FunA.e hP hT (c_impl_IsFinite c) ?_
 refine wE ?_;clear hK K
 refine Run.c ?_ ?_
 ·intro h
  have hf:isF c=false:=by simpa using h
  have e:fixN c w = -1:=by simp [fixN,hf]
  refine Run.R ?_
  refine Run.r [4] ?_
  rw [e];exact⟨rfl,rfl⟩
 intro h
 have hf:isF c=true:=by simpa using h
 have hF:=isF_iff.1 hf
 obtain⟨hc,hwl,hw⟩:=wordB_iff.1 hwb
 have hn:=hc.2.1
 have hfx:fixN c w=(c.length:Int) - (rkG rowI c.length (fxM c w) 0 0:Nat):=by simp [fixN,hwb,hf]
 refine Run.R ?_
 refine Run.R ?_
 refine Run.k [0,1,5,19,20] [0] ?_
 refine Run.loopI (X:=List (Nat×List Int)×Nat×Bool) (fun x=>⟨46,[(0,true,.v (.sl false (.row false) c)),(1,true,.v (.sl false .int w)),(5,true,.v (.own 0 0)),(19,true,.v (.int .i64 (c.length))),(20,true,.v (.int .i64 (x.2.1)))],[.arr .lrow x.1 0 x.2.2]⟩) (fun x=>x.2.1<=c.length/\rws x.1=(List.range x.2.1).map (fxR c w)/\(x.1.map (·.1)).Nodup) (fun x=>c.length - x.2.1) (([],0,true)) (⟨nz0 _,rfl,by simp⟩) ?_ ?_
 ·exact Le.s
 rintro⟨ys,i,nn⟩ ⟨hi,hys,hnd⟩ ih
 try simp only []
 simp only []at hi hys hnd
 refine Run.R ?_
 refine Run.c ?_ ?_
 ·intro h
  have h:i < c.length:=by rw [dtE]at h;omega
  refine Run.R ?_
  refine Run.g fun K hK=>?_
  refine FunA.e hP hT (c_impl_simple c.length i om om) ?_
  refine FunA.e hP hT (c_impl_actedRoot c w (simL c.length i) hc hw (simL_len _ _) om (actB hF hw h)) ?_
  refine wE ?_;clear hK K
  have hal:(actR c w (simL c.length i)).length=c.length:=by rw [actR_len,simL_len]
  have hab:=(fxR_bnd hF hw h).at' om i
  have hag:(fxR c w i).getD i 0=(actR c w (simL c.length i)).getD i 0 - 1:=by unfold fxR;simp [List.getD,hal,h]
  rw [hag]at hab
  have hyl:ys.length=i:=by rw [<- rws_len,hys];simp
  refine Run.RW ?_
  refine Run.k [0,1,5,7,19,20] [0,2] ?_
  refine Run.tolr 1 [0,1,5,7,19,20] rfl (fun q hq=>?_);simp only [AL,frV_cons,frV_nil,AW7,simprocAttr]
  refine Run.R ?_
  refine Run.k [0,1,5,19,20] [0] ?_
  have hnd2:((ys ++ [(q,fxR c w i)]).map (·.1)).Nodup:=by
   rw [List.map_append,List.nodup_append]
   refine⟨hnd,by simp,fun a ha b hb=>?_⟩
   simp at hb
   subst hb
   obtain⟨p,hp,rfl⟩:=List.mem_map.1 ha
   exact hq _ (mcS ..) _ _ _ rfl p hp
  have hys2:rws (ys ++ [(q,fxR c w i)])=(List.range (i+1)).map (fxR c w):=by
   rw [fxM_take c w h,<- hys];simp [rws]
  refine Run.RW ?_
  exact Run.j (ih ((ys ++ [(q,fxR c w i)],i+1,true)) (⟨h,hys2,hnd2⟩) mz)
 intro h
 have hic:i=c.length:=by rw [dfE]at h;omega
 refine Run.x ?_
 have hys:rws ys=fxM c w:=by rw [hys,hic];rfl
 refine Run.togm 0 [0,5] rfl hnoL hnd rfl (fun hs F hnd hmap=>?_);simp only [AG,frV_cons,frV_nil,AW7,simprocAttr]
 have hmp:hs.map F=fxM c w:=by rw [hmap];exact hys
 have hinj:InjL hs:=fun a b ha hb e=>by
  rw [getD_eq ha,getD_eq hb]at e
  have hp:=List.pairwise_iff_getElem.1 hnd
  rcases Nat.lt_trichotomy a b with h1 | h1 | h1
  ·exact(List.pairwise_iff_getElem.1 ‹hs.Nodup› a b ha hb h1 e).elim
  ·exact h1
  ·exact(List.pairwise_iff_getElem.1 ‹hs.Nodup› b a hb ha h1 e.symm).elim
 refine Run.g fun K hK=>?_
 refine FunO.callGm hP hT (c_impl_rankOf c.length hs F hs (fxM c w) hmp hinj (fun _ h=>h) hn (fxM_ok hF hw) nn) 0 0 (by simp only [AW7,simprocAttr];rfl) (by simp) (by simp only [AW7,simprocAttr]) ?_
 rintro rs o' obs' ⟨rfl,F',hs',h⟩
 obtain⟨rfl,rfl⟩:=List.cons.inj h
 have hrk:=rkG_le rowI c.length (fxM c w) 0 0 (nz0 _)
 rw [(fxM_ok hF hw).1]at hrk
 simp(disch:=omega) only [wrap_id,AW7,simprocAttr,hX];(repeat(with_reducible refine And.intro ?_ ?_);exact vc0)
 refine wE ?_;clear hK K
 refine Run.k [4] [] ?_
 refine Run.r [4] ?_
 rw [hfx];exact⟨rfl,rfl⟩
set_option maxHeartbeats 1000000 in
theorem c_spec_FixedRank (c:LL) (w:LI) (hcl:c.length<=1048576) :
  FunA B 26 [.sl false (.row false) c,.sl false .int w] (fun rs o=>rs=[.int .i64 (fixN c w)]/\o=[]):=by
 refine wk Tryz.call26 Tryz.func26 rfl Tryz.ntmps26 fun C hC hP hT hfn hpin hfin hX=>wW ?_
 refine Run.R ?_
 by_cases hwb:wordB c w=true
 rotate_left
 ·have hwb:wordB c w=false:=by simpa using hwb
  have e:fixN c w = -1:=by simp [fixN,hwb]
  refine Run.g fun K hK=>?_
  refine FunA.cW hP hT (c_spec_IsWord c w hcl) ?_
  rintro rs o ⟨rfl,rfl⟩
  simp only [hwb]
  refine wW ?_
  refine .inl (CallG.off (.bool false) ?_)
  refine wF ?_;clear hK K
  refine Run.c ?_ ?_
  rotate_left
  ·intro h;cases h
  intro _
  refine Run.R ?_
  refine Run.r [4] ?_
  rw [e];exact⟨rfl,rfl⟩
 refine Run.g fun K hK=>?_
 refine FunA.cW hP hT (c_spec_IsWord c w hcl) ?_
 rintro rs o ⟨rfl,rfl⟩
 simp only [hwb]
 refine wW ?_
 refine .inr ⟨rfl,?_⟩
 refine FunA.e hP hT (c_spec_IsFinite c) ?_
 refine wE ?_;clear hK K
 refine Run.c ?_ ?_
 ·intro h
  have hf:isF c=false:=by simpa using h
  have e:fixN c w = -1:=by simp [fixN,hf]
  refine Run.R ?_
  refine Run.r [4] ?_
  rw [e];exact⟨rfl,rfl⟩
 intro h
 have hf:isF c=true:=by simpa using h
 have hF:=isF_iff.1 hf
 have hW:=wordB_iff.1 hwb
 obtain⟨hc,hwl,hw⟩:=hW
 have hn:=hc.2.1
 have hfx:fixN c w=(c.length:Int) - (rkG rowI c.length (fxM c w) 0 0:Nat):=by simp [fixN,hwb,hf]
 refine Run.R ?_
 refine Run.R ?_
 refine Run.k [0,1,5,6] [0] ?_
 refine Run.loopI (X:=List (Nat×List Int)×Nat×Bool) (fun x=>⟨62,[(0,true,.v (.sl false (.row false) c)),(1,true,.v (.sl false .int w)),(5,true,.v (.own 0 0)),(6,true,.v (.int .i64 (x.2.1)))],[.arr .lrow x.1 0 x.2.2]⟩) (fun x=>x.2.1<=c.length/\rws x.1=(List.range x.2.1).map (fxR c w)) (fun x=>c.length - x.2.1) (([],0,true)) (⟨nz0 _,rfl⟩) ?_ ?_
 ·exact Le.s
 rintro⟨ys,i,nn⟩ ⟨hi,hys⟩ ih
 try simp only []
 simp only []at hi hys
 have hyl:ys.length=i:=by rw [<- rws_len,hys];simp
 refine Run.R ?_
 refine Run.c ?_ ?_
 ·intro h
  have h:i < c.length:=by rw [dtE]at h;omega
  have hal:(actR c w (simL c.length i)).length=c.length:=by rw [actR_len,simL_len]
  have hsl:=simL_len c.length i
  have hfl:=fxR_len c w i
  refine Run.g fun K hK=>?_
  refine FunA.e hP hT (c_spec_SimpleRoot c (i:Int) hc om) ?_
  refine wE ?_;clear hK K
  refine Run.g fun K hK=>?_
  refine FunA.e hP hT (c_spec_ActOnRoot c w (simL c.length i) (wordB_iff.1 hwb) (simL_len _ _) (actB hF hw h)) ?_
  refine wE ?_;clear hK K
  refine Run.R ?_
  refine Run.R ?_
  refine Run.k [0,1,5,6,7,8,9,10] [0,1,2,3] ?_
  refine Run.loopI (X:=Nat) (fun k=>⟨62,[(0,true,.v (.sl false (.row false) c)),(1,true,.v (.sl false .int w)),(5,true,.v (.own 0 0)),(6,true,.v (.int .i64 i)),(7,true,.v (.own 1 0)),(8,true,.v (.own 2 0)),(9,true,.v (.own 3 0)),(10,true,.v (.int .i64 k))],[.arr .lrow ys 0 nn,.arr .int ((simL c.length i)) 0 true,.arr .int ((actR c w (simL c.length i))) 0 true,.arr .int (((fxR c w i).take k)) 0 true]⟩) (fun k=>k<=c.length) (fun k=>c.length - k) (0) (nz0 _) ?_ ?_
  ·exact Le.s
  rintro k hk ihK
  try simp only []
  refine Run.R ?_
  refine Run.c ?_ ?_
  ·intro h2
   have h2:k < c.length:=by rw [dtE]at h2;omega
   have hg:=fxR_get c w h h2
   have hb:=(fxR_bnd hF hw h).at' om k
   have e1:IntKind.i64.wrap ((actR c w (simL c.length i)).getD k 0 - (simL c.length i).getD k 0)=(fxR c w i).getD k 0:=by
    rw [<- hg];exact wrap_id om
   refine Run.nq ?_;refine Run.regionD hC true [0,1,2,3,4,5,6,7,8,9,10,11,12] (by kernel_rfl) (fun K hK=>?_);simp only [AW7,simprocAttr,hX];(repeat(with_reducible refine And.intro ?_ ?_);exact vc0)
   refine wE ?_;clear hK K
   simp only [e1]
   refine Run.k [0,1,5,6,7,8,9,10] [0,1,2,3] ?_
   refine Run.RW ?_
   refine Run.le ?_ (ihK (k+1) om (by(try simp only [lenA,lenC,lenN]);omega))
   exact Le.sub (by first | rfl | (simp only [takeI_snoc (fxR c w i) k om];done) | (rw [takeI_snoc (fxR c w i) k om];rfl)) (by simp only [AW7,simprocAttr];try simp)
  intro h2
  have h2:k=(fxR c w i).length:=by rw [dfE]at h2;omega
  refine Run.x ?_
  rw [h2,tkL]
  refine Run.k [0,1,5,6,9] [0,3] ?_
  refine Run.tolr 1 [0,1,5,6,9] rfl (fun q hq=>?_);simp only [AL,frV_cons,frV_nil,AW7,simprocAttr]
  refine Run.R ?_
  have hys2:rws (ys ++ [(q,fxR c w i)])=(List.range (i+1)).map (fxR c w):=by
   rw [fxM_take c w h,<- hys];simp [rws]
  refine Run.k [0,1,5,6] [0] ?_
  refine Run.RW ?_
  exact Run.j (ih ((ys ++ [(q,fxR c w i)],i+1,true)) (⟨h,hys2⟩) mz)
 intro h
 have hic:i=c.length:=by rw [dfE]at h;omega
 refine Run.x ?_
 have hys:rws ys=fxM c w:=by rw [hys,hic];rfl
 refine Run.k [0,1,5] [0] ?_
 refine Run.g fun K hK=>?_
 refine FunM.call hP hT (c_spec_l17Rank c.length ys (fxM c w) hys hn (fxM_ok hF hw) nn) 0 0 (by simp only [AW7,simprocAttr];rfl) (by simp) rfl (by simp only [AW7,simprocAttr];try simp) ?_
 rintro rs o' obs' ⟨rfl,ys',h⟩
 obtain⟨rfl,rfl⟩:=List.cons.inj h
 have hrk:=rkG_le rowI c.length (fxM c w) 0 0 (nz0 _)
 rw [(fxM_ok hF hw).1]at hrk
 rw [fxM_rank hF hw]
 simp(disch:=omega) only [wrap_id,AW7,simprocAttr,hX];(repeat(with_reducible refine And.intro ?_ ?_);exact vc0)
 refine wE ?_;clear hK K
 refine Run.k [4] [] ?_
 refine Run.r [4] ?_
 rw [hfx];exact⟨rfl,rfl⟩
end Go.Proofs.YtcinngodeoidnaaGreat
