/- Whether a group is finite: the program's side. -/
import Derived.Test.YtcinngodeoidnaaGreatDoorB13
import Derived.Test.YtcinngodeoidnaaGreatDoorB12
import Derived.Test.YtcinngodeoidnaaGreatDoorB7
import Derived.Test.YtcinngodeoidnaaGreatDoorB11
set_option linter.unusedVariables false
set_option linter.unusedSimpArgs false
namespace Go.Proofs.YtcinngodeoidnaaGreatDoor
open Go Go.Aw Go.Cox
theorem setL_letters:∀ k:Nat,k < 16→∀ n:Nat,n≤4→k < 2 ^ n→∀ x∈setL k,0≤x∧x < (n:Int):=by decide
theorem setL_len:∀ k:Nat,k < 16→(setL k).length≤4:=by decide
theorem pow_le16:∀ n:Nat,n≤4→2 ^ n≤16:=by decide
theorem pick_sq {c:List (List Int)} (hc:CartanP c) {s:List Int} (hs:letters c.length s):Sq s.length (pick c s):=by
 refine⟨by simp [pick],fun r hr=>?_⟩
 simp only [pick,List.mem_map]at hr
 obtain⟨i,hi,rfl⟩:=hr
 refine⟨by simp,fun x hx=>?_⟩
 simp only [List.mem_map]at hx
 obtain⟨j,hj,rfl⟩:=hx
 obtain⟨a1,a2⟩:=hs i hi
 obtain⟨b1,b2⟩:=hs j hj
 have:=ent_le hc i.toNat j.toNat (by omega) (by omega)
 omega
def minors (c:List (List Int)) (k:Nat):List Int:=(List.range k).map fun i=>mn c (i+1)
theorem minors_succ (c:List (List Int)) (k:Nat):minors c k ++ [mn c (k+1)]=minors c (k+1):=by simp [minors,List.range_succ]
theorem minors_len (c:List (List Int)) (k:Nat):(minors c k).length=k:=by simp [minors]
theorem minors_get (c:List (List Int)) (n k:Nat) (h:k < n):(minors c n).getD k 0=mn c (k+1):=by simp [minors,List.getD_eq_getElem?_getD,h]
noncomputable def pmin (c:List (List Int)):List Int:=if isC c then minors c (2 ^ c.length - 1)else []
theorem shl_one:∀ n:Nat,n≤4→IntKind.i64.wrap (1*2 ^ min n IntKind.i64.bits)=((2 ^ n:Nat):Int):=by decide
theorem c_impl_PrincipalMinors (c:List (List Int)):FunA B 168 [.sl false (.row false) c] (fun rs o=>rs=[.own 0 0]∧o=[.arr .int (pmin c) 0 true]):=by
 refine FunA.walk B_ok (fn:=Tryz.f168) (fun vs w=>Tryz.call168 vs w) Tryz.func168 rfl (by rw [Tryz.ntmps168];simp) (fun C hC hP hT hΓ hbt hfn hpin hfin=>?_);have hX:=BX;rw [← hΓ,← hbt.1,← hbt.2.1,← hbt.2.2.1]at hX;rw [hT]at hX;rw [Tryz.ntmps168];simp only [AW7,simprocAttr,hX]
 refine Run.R ?_
 refine Run.R ?_
 refine Run.nq ?_;refine Run.regionW hC (fun K hK=>?_);refine wW ?_
 refine FunA.cW hP hT (c_impl_IsCartan c) ?_
 rintro rs o ⟨rfl,rfl⟩
 refine wW ?_
 refine wE ?_;clear hK K
 refine Run.nq ?_;refine Run.cW ?_ ?_
 ·intro hb
  have hb:isC c=false:=by simpa using hb
  have hp:pmin c=[]:=by simp [pmin,hb]
  refine Run.R ?_
  refine Run.rW [2] (hfin _ _ rfl rfl ?_)
  exact⟨rfl,by rw [hp]⟩
 ·intro hb
  have hb:isC c=true:=by simpa using hb
  have hc:=isC_iff.1 hb
  have hn:=hc.2.1
  have hn1:=hc.1
  have hsh:=shl_one c.length hn
  have hpw:=pow_le16 c.length hn
  have hp1:1≤2 ^ c.length:=Nat.one_le_two_pow
  refine Run.R ?_
  refine Run.le (Le.sub (fr':=[(0,true,.v (.sl false (.row false) c)),(2,true,.v .nils),(3,true,.v (.own 0 0)),(4,true,.v (.int .i64 ((0+1:Nat))))]) rfl (by simp only [AW7,simprocAttr];try simp)) ?_
  refine Run.loopI (X:=Nat) (fun k=>⟨26,[(0,true,.v (.sl false (.row false) (c))),(2,true,.v (.nils)),(3,true,.v (.own 0 0)),(4,true,.v (.int .i64 (((k+1:Nat)))))],[.arr .int ((minors c k)) 0 true]⟩) (fun k=>k+1≤2 ^ c.length) (fun k=>2 ^ c.length - k) (0) (by omega) ?_ ?_
  ·exact Le.sub (by first | rfl | simp) (by simp only [AW7,simprocAttr,hX];try simp<;>try(first | rfl | exact⟨rfl,rfl⟩ | exact⟨rfl,rfl,rfl⟩))
  rintro k hk ih
  try simp only []
  have hml:=minors_len c k
  refine Run.nq ?_;refine Run.regionW hC (fun K hK=>?_);refine wW ?_
  simp only [hsh]
  refine wE ?_;clear hK K
  refine Run.nq ?_;refine Run.cW ?_ ?_
  ·intro h
   have h:k+1 < 2 ^ c.length:=Int.ofNat_lt.1 (of_decide_eq_true h)
   have hl:=setL_letters (k+1) (by omega) c.length hn h
   have hll:=setL_len (k+1) (by omega)
   have hsq:=pick_sq hc hl
   refine Run.nq ?_;refine Run.regionW hC (fun K hK=>?_);refine wW ?_
   refine FunA.cW hP hT (c_impl_setOf (k+1) (by omega)) ?_
   rintro rs o ⟨rfl,rfl⟩
   refine wW ?_
   refine FunA.cW hP hT (c_impl_picked c (setL (k+1)) hn hc.2.2.1 hl (by omega)) ?_
   rintro rs o ⟨rfl,ys,hy,rfl⟩
   refine wW ?_
   refine FunA.callW hP hT (c_impl_determinant (setL (k+1)).length (pick c (setL (k+1))) hll hsq) (by simp only [AW7,simprocAttr];exact hy.symm) ?_
   rintro rs o ⟨rfl,rfl⟩
   refine wW ?_
   refine wE ?_;clear hK K
   refine Run.RW ?_
   refine Run.reK hpin [0,2,3,4] [0] (by decide) (by simp) ?_;simp only [AR,AW7,simprocAttr]
   refine Run.le ?_ (ih (k+1) (by omega) (by omega))
   exact Le.sub (by rw [← minors_succ];rfl) (by simp only [AW7,simprocAttr];try simp)
  ·intro h
   have h:k+1=2 ^ c.length:=by have h:=of_decide_eq_false h;rw [Int.ofNat_lt]at h;omega
   have hp:pmin c=minors c k:=by simp only [pmin,hb,if_true];rw [show 2 ^ c.length - 1=k by omega]
   refine Run.exit rfl ?_;refine Run.nq ?_
   refine Run.R ?_
   refine Run.rW [2] (hfin _ _ rfl rfl ?_)
   exact⟨rfl,by rw [hp]⟩
theorem c_impl_WitnessOf (c:List (List Int)):FunA B 137 [.sl false (.row false) c] (fun rs o=>rs=[.own 0 0]∧∃ xs,(xs=[]↔∀ k,k < (pmin c).length→0 < (pmin c).getD k 0)∧xs.length≤4∧o=[.arr .int xs 0 true]):=by
 have hpl:(pmin c).length≤15:=by
  unfold pmin
  split
  ·rename_i hb
   have hc:=isC_iff.1 hb
   have:=pow_le16 c.length hc.2.1
   rw [minors_len];omega
  ·simp
 refine FunA.walk B_ok (fn:=Tryz.f137) (fun vs w=>Tryz.call137 vs w) Tryz.func137 rfl (by rw [Tryz.ntmps137];simp) (fun C hC hP hT hΓ hbt hfn hpin hfin=>?_);have hX:=BX;rw [← hΓ,← hbt.1,← hbt.2.1,← hbt.2.2.1]at hX;rw [hT]at hX;rw [Tryz.ntmps137];simp only [AW7,simprocAttr,hX]
 refine Run.R ?_
 refine Run.nq ?_;refine Run.regionW hC (fun K hK=>?_);refine wW ?_
 refine FunA.cW hP hT (c_impl_PrincipalMinors c) ?_
 rintro rs o ⟨rfl,rfl⟩
 refine wW ?_
 refine wE ?_;clear hK K
 refine Run.loopI (X:=Nat) (fun k=>⟨20,[(0,true,.v (.sl false (.row false) (c))),(2,true,.v (.nils)),(6,true,.v (.own 0 0)),(7,true,.v (.int .i64 ((pmin c).length))),(8,true,.v (.int .i64 (k)))],[.arr .int ((pmin c)) 0 true]⟩) (fun k=>k≤(pmin c).length∧∀ j,j < k→0 < (pmin c).getD j 0) (fun k=>(pmin c).length - k) (0) (⟨Nat.zero_le _,fun j hj=>by omega⟩) ?_ ?_
 ·exact Le.sub (by first | rfl | simp) (by simp only [AW7,simprocAttr,hX];try simp<;>try(first | rfl | exact⟨rfl,rfl⟩ | exact⟨rfl,rfl,rfl⟩))
 rintro k ⟨hk,hpos⟩ ih
 try simp only []
 refine Run.R ?_
 refine Run.nq ?_;refine Run.cW ?_ ?_
 ·intro h
  have h:k < (pmin c).length:=by simpa using h
  refine Run.R ?_
  refine Run.R ?_
  refine Run.nq ?_;refine Run.cW ?_ ?_
  ·intro h2
   have h2:(pmin c).getD k 0≤0:=by simpa using h2
   refine Run.nq ?_;refine Run.regionW hC (fun K hK=>?_);refine wWW ?_
   refine FunA.callW hP hT (c_impl_setOf (k+1) (by omega)) (by simp only [AW7,simprocAttr];simp) ?_
   rintro rs o ⟨rfl,rfl⟩
   refine wW ?_
   refine wE ?_;clear hK K
   refine Run.reK hpin [2] [1] (by decide) (by simp) ?_;simp only [AR,AW7,simprocAttr]
   refine Run.rW [2] (hfin _ _ rfl rfl ?_)
   refine⟨rfl,setL (k+1),⟨fun he=>absurd he (setL_ne (k+1) (by omega) (by omega)),fun hall=>?_⟩,setL_len (k+1) (by omega),rfl⟩
   have:=hall k h
   omega
  ·intro h2
   have h2:0 < (pmin c).getD k 0:=by simp at h2;simpa [List.getD_eq_getElem?_getD] using h2
   refine Run.RW ?_
   refine Run.le ?_ (ih (k+1) ⟨h,fun j hj=>by rcases Nat.lt_or_ge j k with q | q;exact hpos j q;rw [show j=k by omega];exact h2⟩ (by omega))
   exact Le.sub (by rfl) (by simp only [AW7,simprocAttr];try simp)
 ·intro h
  have h:k=(pmin c).length:=by simp at h;omega
  subst h
  refine Run.exit rfl ?_;refine Run.nq ?_
  refine Run.R ?_
  refine Run.reK hpin [2] [1] (by decide) (by simp) ?_;simp only [AR,AW7,simprocAttr]
  refine Run.rW [2] (hfin _ _ rfl rfl ?_)
  exact⟨rfl,[],⟨fun _=>hpos,fun _=>rfl⟩,by simp,rfl⟩
open Classical in
noncomputable def isF (c:List (List Int)):Bool:=decide (FinP c)
theorem isF_iff {c:List (List Int)}:isF c=true↔FinP c:=by simp [isF]
theorem isF_pmin {c:List (List Int)} (hb:isC c=true) {xs:List Int} (h:xs=[]↔∀ k,k < (pmin c).length→0 < (pmin c).getD k 0):isF c=((xs.length:Int) == 0):=by
 have e:FinP c↔xs=[]:=by
  rw [h]
  have hp:pmin c=minors c (2 ^ c.length - 1):=by simp [pmin,hb]
  rw [hp,minors_len]
  constructor
  ·rintro⟨_,hf⟩ k hk
   rw [minors_get c _ k hk]
   exact hf (k+1) (by omega) (by omega)
  ·intro hf
   refine⟨isC_iff.1 hb,fun k h1 h2=>?_⟩
   have:=hf (k - 1) (by omega)
   rw [minors_get c _ _ (by omega),show k - 1+1=k by omega]at this
   exact this
 cases hx:isF c with
 | true=>
  have:=e.1 (isF_iff.1 hx)
  subst this;rfl
 | false=>
  have hn:xs≠[]:=fun hh=>by rw [isF_iff.2 (e.2 hh)]at hx;cases hx
  have:xs.length≠0:=fun hh=>hn (List.eq_nil_of_length_eq_zero hh)
  symm
  simp [hn]
theorem isF_not {c:List (List Int)} (hb:isC c=false):isF c=false:=by
 cases hx:isF c with
 | false=>rfl
 | true=>rw [isC_true (isF_iff.1 hx).1]at hb;cases hb
theorem c_impl_IsFinite (c:List (List Int)):FunA B 94 [.sl false (.row false) c] (fun rs o=>rs=[.bool (isF c)]∧o=[]):=by
 refine FunA.walk B_ok (fn:=Tryz.f94) (fun vs w=>Tryz.call94 vs w) Tryz.func94 rfl (by rw [Tryz.ntmps94];simp) (fun C hC hP hT hΓ hbt hfn hpin hfin=>?_);have hX:=BX;rw [← hΓ,← hbt.1,← hbt.2.1,← hbt.2.2.1]at hX;rw [hT]at hX;rw [Tryz.ntmps94];simp only [AW7,simprocAttr,hX]
 refine Run.R ?_
 refine Run.nq ?_;refine Run.regionW hC (fun K hK=>?_);refine wW ?_
 refine FunA.cW hP hT (c_impl_IsCartan c) ?_
 rintro rs o ⟨rfl,rfl⟩
 refine wW ?_
 cases hb:isC c with
 | false=>
  have hf:=isF_not hb
  refine wW ?_
  refine .inl (CallG.off (.sl false .int []) ?_)
  refine wW ?_
  refine wE ?_;clear hK K
  refine Run.rW [2] (hfin _ _ rfl rfl ?_)
  simp [hf]
 | true=>
  refine .inr ⟨rfl,?_⟩
  refine FunA.cW hP hT (c_impl_WitnessOf c) ?_
  rintro rs o ⟨rfl,xs,hxs,hl,rfl⟩
  have hf:=isF_pmin hb hxs
  refine wW ?_
  refine wE ?_;clear hK K
  refine Run.reK hpin [2] [] (by decide) (by simp) ?_;simp only [AR,AW7,simprocAttr]
  refine Run.rW [2] (hfin _ _ rfl rfl ?_)
  simp [hf]
end Go.Proofs.YtcinngodeoidnaaGreatDoor
namespace Go.Proofs.YtcinngodeoidnaaGreatDoor
open Go Go.Aw Go.Cox
theorem setBt_full:∀ n:Nat,n≤4→∀ k:Nat,k < 2 ^ n→setBt k n=setL k:=by decide
def setsL (k:Nat):List (List Int):=(List.range k).map fun i=>setL (i+1)
theorem setsL_succ (k:Nat):setsL k ++ [setL (k+1)]=setsL (k+1):=by simp [setsL,List.range_succ]
theorem setsL_len (k:Nat):(setsL k).length=k:=by simp [setsL]
theorem setsL_get (n k:Nat) (h:k < n):(setsL n).getD k []=setL (k+1):=by simp [setsL,List.getD_eq_getElem?_getD,h]
theorem c_spec_l4Sets (n:Nat) (hn:n≤4):FunA B 162 [.int .i64 n] (fun rs o=>rs=[.own 0 0]∧∃ ys,ys.map (·.2)=setsL (2 ^ n - 1)∧o=[.arr .lrow ys 0 true]):=by
 have hsh:=shl_one n hn
 have hpw:=pow_le16 n hn
 have hp1:1≤2 ^ n:=Nat.one_le_two_pow
 refine FunA.walk B_ok (fn:=Tryz.f162) (fun vs w=>Tryz.call162 vs w) Tryz.func162 rfl (by rw [Tryz.ntmps162];simp) (fun C hC hP hT hΓ hbt hfn hpin hfin=>?_);have hX:=BX;rw [← hΓ,← hbt.1,← hbt.2.1,← hbt.2.2.1]at hX;rw [hT]at hX;rw [Tryz.ntmps162];simp only [AW7,simprocAttr,hX]
 refine Run.R ?_
 refine Run.R ?_
 refine Run.R ?_
 refine Run.le (Le.sub (fr':=[(0,true,.v (.int .i64 n)),(2,true,.v .nils),(3,true,.v (.own 0 0)),(4,true,.v (.int .i64 ((0+1:Nat))))]) rfl (by simp only [AW7,simprocAttr];try simp)) ?_
 refine Run.loopI (X:=Nat×List (Nat×List Int)) (fun k=>⟨34,[(0,true,.v (.int .i64 (n))),(2,true,.v (.nils)),(3,true,.v (.own 0 0)),(4,true,.v (.int .i64 (((k.1+1:Nat)))))],[.arr .lrow (k.2) 0 true]⟩) (fun k=>k.1+1≤2 ^ n∧k.2.map (·.2)=setsL k.1) (fun k=>2 ^ n - k.1) ((0,[])) (⟨by simp only [];omega,rfl⟩) ?_ ?_
 ·exact Le.sub (by first | rfl | simp) (by simp only [AW7,simprocAttr,hX];try simp<;>try(first | rfl | exact⟨rfl,rfl⟩ | exact⟨rfl,rfl,rfl⟩))
 rintro⟨k,ys⟩ ⟨hk,hy⟩ ih
 try simp only []
 simp only []at hk hy
 have hyl:ys.length=k:=by have:=congrArg List.length hy;simpa [setsL_len] using this
 refine Run.nq ?_;refine Run.regionW hC (fun K hK=>?_);refine wW ?_
 simp only [hsh]
 refine wE ?_;clear hK K
 refine Run.nq ?_;refine Run.cW ?_ ?_
 ·intro h
  have h:k+1 < 2 ^ n:=Int.ofNat_lt.1 (of_decide_eq_true h)
  refine Run.R ?_
  refine Run.R ?_
  refine Run.reK hpin [0,2,3,4,5,6] [0,1] (by decide) (by simp) ?_;simp only [AR,AW7,simprocAttr]
  refine Run.loopI (X:=Nat) (fun i=>⟨34,[(0,true,.v (.int .i64 (n))),(2,true,.v (.nils)),(3,true,.v (.own 0 0)),(4,true,.v (.int .i64 (((k+1:Nat))))),(5,true,.v (.own 1 0)),(6,true,.v (.int .i64 (i)))],[.arr .lrow (ys) 0 true,.arr .int ((setBt (k+1) i)) 0 true]⟩) (fun i=>i≤n) (fun i=>n - i) (0) (Nat.zero_le _) ?_ ?_
  ·exact Le.sub (by first | rfl | simp) (by simp only [AW7,simprocAttr,hX];try simp<;>try(first | rfl | exact⟨rfl,rfl⟩ | exact⟨rfl,rfl,rfl⟩))
  rintro i hi ih2
  try simp only []
  have hsl:=setBt_len (k+1) i
  refine Run.R ?_
  refine Run.nq ?_;refine Run.cW ?_ ?_
  ·intro h2
   have h2:i < n:=by simpa using h2
   have hb2:=bit_and (k+1) (by omega) i (by omega)
   have h3:=setBt_succ (k+1) i
   refine Run.R ?_
   refine Run.nq ?_;refine Run.cW ?_ ?_
   ·intro hb
    rw [hb2]at hb
    rw [hb,if_pos rfl]at h3
    refine Run.R ?_
    refine Run.RW ?_
    refine Run.reK hpin [0,2,3,4,5,6] [0,1] (by decide) (by simp) ?_;simp only [AR,AW7,simprocAttr]
    refine Run.le ?_ (ih2 (i+1) (by omega) (by omega))
    exact Le.sub (by rw [h3]) (by simp only [AW7,simprocAttr];try simp)
   ·intro hb
    rw [hb2]at hb
    rw [hb]at h3
    refine Run.RW ?_
    refine Run.le ?_ (ih2 (i+1) (by omega) (by omega))
    exact Le.sub (by rw [h3];rfl) (by simp only [AW7,simprocAttr];try simp)
  ·intro h2
   have h2:i=n:=by simp at h2;omega
   have hfull:=setBt_full n hn (k+1) (by omega)
   rw [h2,hfull]
   refine Run.exit rfl ?_;refine Run.nq ?_
   refine Run.nq ?_;refine Run.regionW hC (fun K hK=>?_);refine wW ?_
   intro l hl
   refine wW ?_
   refine wE ?_;clear hK K
   refine Run.RW ?_
   refine Run.reK hpin [0,2,3,4] [0] (by decide) (by simp) ?_;simp only [AR,AW7,simprocAttr]
   refine Run.le ?_ (ih (k+1,ys ++ [(l,setL (k+1))]) ⟨by simp only [];omega,by simp only [List.map_append,hy,List.map_cons,List.map_nil];exact setsL_succ k⟩ (by simp only [];omega))
   exact Le.sub (by rfl) (by simp only [AW7,simprocAttr];try simp)
 ·intro h
  have h:k+1=2 ^ n:=by have h:=of_decide_eq_false h;rw [Int.ofNat_lt]at h;omega
  refine Run.exit rfl ?_;refine Run.nq ?_
  refine Run.R ?_
  refine Run.rW [2] (hfin _ _ rfl rfl ?_)
  exact⟨rfl,ys,by rw [hy,show 2 ^ n - 1=k by omega],rfl⟩
theorem c_spec_SubCartan (c:List (List Int)) (s:List Int) (hc:CartanP c) (hs:setP c.length s) (hne:s≠[]) :
  FunA B 24 [.sl false (.row false) c,.sl false .int s] (fun rs o=>rs=[.own 0 0,.bool true]∧∃ ys,ys.map (·.2)=pick c s∧o=[.arr .lrow ys 0 true]):=by
 have hl4:s.length≤c.length:=set_len hs
 have hlet:letters c.length s:=set_letters hs
 have hn:=hc.2.1
 have hset:isSetB c s=true:=by unfold isSetB;rw [isC_true hc,setB_iff.2 hs];rfl
 have hsl:s.length≠0:=fun h=>hne (List.eq_nil_of_length_eq_zero h)
 refine FunA.walk B_ok (fn:=Tryz.f24) (fun vs w=>Tryz.call24 vs w) Tryz.func24 rfl (by rw [Tryz.ntmps24];simp) (fun C hC hP hT hΓ hbt hfn hpin hfin=>?_);have hX:=BX;rw [← hΓ,← hbt.1,← hbt.2.1,← hbt.2.2.1]at hX;rw [hT]at hX;rw [Tryz.ntmps24];simp only [AW7,simprocAttr,hX]
 refine Run.R ?_
 refine Run.R ?_
 refine Run.nq ?_;refine Run.regionW hC (fun K hK=>?_);refine wW ?_
 refine FunA.cW hP hT (c_spec_l3Set c s (by omega)) ?_
 rintro rs o ⟨rfl,rfl⟩
 simp only [hset]
 refine wW ?_
 refine wE ?_;clear hK K
 refine Run.nq ?_;refine Run.cW ?_ ?_
 ·intro h
  simp [hne]at h
 intro h
 clear h
 refine Run.R ?_
 refine Run.reK hpin [0,1,4,5,6,7] [0] (by decide) (by simp) ?_;simp only [AR,AW7,simprocAttr]
 refine Run.loopI (X:=Nat×List (Nat×List Int)) (fun m=>⟨55,[(0,true,.v (.sl false (.row false) (c))),(1,true,.v (.sl false .int (s))),(4,true,.v (.nils)),(5,true,.v (.bool (false))),(6,true,.v (.own 0 0)),(7,true,.v (.int .i64 (m.1)))],[.arr .lrow (m.2) 0 true]⟩) (fun m=>m.1≤s.length∧m.2.map (·.2)=(s.take m.1).map (rowP c s)) (fun m=>s.length - m.1) ((0,[])) (⟨Nat.zero_le _,rfl⟩) ?_ ?_
 ·exact Le.sub (by first | rfl | simp) (by simp only [AW7,simprocAttr,hX];try simp<;>try(first | rfl | exact⟨rfl,rfl⟩ | exact⟨rfl,rfl,rfl⟩))
 rintro⟨m,ys⟩ ⟨hm,hy⟩ ih
 try simp only []
 simp only []at hm hy
 have hyl:ys.length=m:=by have:=congrArg List.length hy;simpa [hm] using this
 refine Run.R ?_
 refine Run.nq ?_;refine Run.cW ?_ ?_
 ·intro h
  have h:m < s.length:=by simpa using h
  obtain⟨a1,a2⟩:=letters_mem hlet h
  have hr:=hc.2.2.1 (s.getD m 0).toNat (by omega)
  refine Run.R ?_
  refine Run.R ?_
  refine Run.reK hpin [0,1,4,5,6,7,8,9] [0,1] (by decide) (by simp) ?_;simp only [AR,AW7,simprocAttr]
  refine Run.loopI (X:=Nat) (fun k=>⟨55,[(0,true,.v (.sl false (.row false) (c))),(1,true,.v (.sl false .int (s))),(4,true,.v (.nils)),(5,true,.v (.bool (false))),(6,true,.v (.own 0 0)),(7,true,.v (.int .i64 (m))),(8,true,.v (.own 1 0)),(9,true,.v (.int .i64 (k)))],[.arr .lrow (ys) 0 true,.arr .int (((s.take k).map fun j=>ent c (s.getD m 0).toNat j.toNat)) 0 true]⟩) (fun k=>k≤s.length) (fun k=>s.length - k) (0) (Nat.zero_le _) ?_ ?_
  ·exact Le.sub (by first | rfl | simp) (by simp only [AW7,simprocAttr,hX];try simp<;>try(first | rfl | exact⟨rfl,rfl⟩ | exact⟨rfl,rfl,rfl⟩))
  rintro k hk ih2
  try simp only []
  refine Run.R ?_
  refine Run.nq ?_;refine Run.cW ?_ ?_
  ·intro h2
   have h2:k < s.length:=by simpa using h2
   obtain⟨b1,b2⟩:=letters_mem hlet h2
   have hsn:=map_snoc (fun j=>ent c (s.getD m 0).toNat j.toNat) s 0 k h2
   refine Run.nq ?_;refine Run.regionD hC true [0,1,2,3,4,5,6,7,8,9,10,11,12,13,14,15,16] (by kernel_rfl) (fun K hK=>?_);simp only [AW7,simprocAttr,hX];(repeat(with_reducible refine And.intro ?_ ?_);exact vc0)
   refine wE ?_;clear hK K
   refine Run.RW ?_
   refine Run.reK hpin [0,1,4,5,6,7,8,9] [0,1] (by decide) (by simp) ?_;simp only [AR,AW7,simprocAttr]
   refine Run.le ?_ (ih2 (k+1) (by omega) (by omega))
   exact Le.sub (by rw [← hsn]) (by simp only [AW7,simprocAttr];try simp)
  ·intro h2
   have h2:k=s.length:=by simp at h2;omega
   subst h2
   rw [List.take_length]
   refine Run.exit rfl ?_;refine Run.nq ?_
   refine Run.nq ?_;refine Run.regionW hC (fun K hK=>?_);refine wW ?_
   intro l hl
   refine wW ?_
   refine wE ?_;clear hK K
   refine Run.RW ?_
   refine Run.reK hpin [0,1,4,5,6,7] [0] (by decide) (by simp) ?_;simp only [AR,AW7,simprocAttr]
   refine Run.le ?_ (ih (m+1,ys ++ [(l,rowP c s (s.getD m 0))]) ⟨h,by simp only [List.map_append,hy,List.map_cons,List.map_nil];exact map_snoc (rowP c s) s 0 m h⟩ (by simp only [];omega))
   exact Le.sub (by rfl) (by simp only [AW7,simprocAttr];try simp)
 ·intro h
  have h:m=s.length:=by simp at h;omega
  subst h
  rw [List.take_length]at hy
  refine Run.exit rfl ?_;refine Run.nq ?_
  refine Run.R ?_
  refine Run.rW [4,5] (hfin _ _ rfl rfl ?_)
  exact⟨rfl,ys,hy,rfl⟩
theorem c_spec_l4Without (n j:Nat) (m:List (List Int)) (hn:n+1≤4) (hm:Sq (n+1) m) (hj:j < n+1) :
  FunA B 191 [.sl false (.row false) m,.int .i64 j] (fun rs o=>rs=[.own 0 0]∧∃ ys,ys.map (·.2)=minorL m j∧o=[.arr .lrow ys 0 true]):=by
 have hml:=hm.1
 have htn:(m.drop 1).length=n:=by simp [hml]
 refine FunA.walk B_ok (fn:=Tryz.f191) (fun vs w=>Tryz.call191 vs w) Tryz.func191 rfl (by rw [Tryz.ntmps191];simp) (fun C hC hP hT hΓ hbt hfn hpin hfin=>?_);have hX:=BX;rw [← hΓ,← hbt.1,← hbt.2.1,← hbt.2.2.1]at hX;rw [hT]at hX;rw [Tryz.ntmps191];simp only [AW7,simprocAttr,hX]
 refine Run.R ?_
 refine Run.R ?_
 refine Run.R ?_
 refine Run.le (Le.sub (fr':=[(0,true,.v (.sl false (.row false) m)),(1,true,.v (.int .i64 j)),(4,true,.v .nils),(5,true,.v (.own 0 0)),(6,true,.v (.int .i64 ((0+1:Nat))))]) rfl (by simp only [AW7,simprocAttr];try simp)) ?_
 refine Run.loopI (X:=Nat×List (Nat×List Int)) (fun k=>⟨41,[(0,true,.v (.sl false (.row false) (m))),(1,true,.v (.int .i64 (j))),(4,true,.v (.nils)),(5,true,.v (.own 0 0)),(6,true,.v (.int .i64 (((k.1+1:Nat)))))],[.arr .lrow (k.2) 0 true]⟩) (fun k=>k.1≤n∧k.2.map (·.2)=((m.drop 1).take k.1).map (fun r=>r.take j ++ r.drop (j+1))) (fun k=>n - k.1) ((0,[])) (⟨Nat.zero_le _,rfl⟩) ?_ ?_
 ·exact Le.sub (by first | rfl | simp) (by simp only [AW7,simprocAttr,hX];try simp<;>try(first | rfl | exact⟨rfl,rfl⟩ | exact⟨rfl,rfl,rfl⟩))
 rintro⟨k,ys⟩ ⟨hk,hy⟩ ih
 try simp only []
 simp only []at hk hy
 have hyl:ys.length=k:=by have:=congrArg List.length hy;simp at this;omega
 refine Run.R ?_
 refine Run.nq ?_;refine Run.cW ?_ ?_
 ·intro h
  have h:k < n:=by simp [hml]at h;omega
  have hmem:m.getD (k+1) []∈m:=by simp [List.getD_eq_getElem?_getD,show k+1 < m.length by omega]
  have hrl:=(hm.2 _ hmem).1
  have hgd:(m.drop 1).getD k []=m.getD (k+1) []:=by simp [List.getD_eq_getElem?_getD,List.getElem?_drop,Nat.add_comm]
  generalize hr:m.getD (k+1) []=r at hrl hgd
  refine Run.R ?_
  refine Run.R ?_
  refine Run.reK hpin [0,1,4,5,6,7,8] [0,1] (by decide) (by simp) ?_;simp only [AR,AW7,simprocAttr]
  refine Run.loopI (X:=Nat) (fun q=>⟨41,[(0,true,.v (.sl false (.row false) (m))),(1,true,.v (.int .i64 (j))),(4,true,.v (.nils)),(5,true,.v (.own 0 0)),(6,true,.v (.int .i64 (((k+1:Nat))))),(7,true,.v (.own 1 0)),(8,true,.v (.int .i64 (q)))],[.arr .lrow (ys) 0 true,.arr .int (((r.take (min q j)) ++ (r.take q).drop (j+1))) 0 true]⟩) (fun q=>q≤n+1) (fun q=>n+1 - q) (0) (Nat.zero_le _) ?_ ?_
  ·exact Le.sub (by first | rfl | simp) (by simp only [AW7,simprocAttr,hX];try simp<;>try(first | rfl | exact⟨rfl,rfl⟩ | exact⟨rfl,rfl,rfl⟩))
  rintro q hq ih2
  try simp only []
  have hlen:((r.take (min q j)) ++ (r.take q).drop (j+1)).length≤8:=by simp;omega
  refine Run.R ?_
  refine Run.nq ?_;refine Run.cW ?_ ?_
  ·intro h2
   have h2:q < n+1:=by simp [hml]at h2;omega
   refine Run.R ?_
   refine Run.nq ?_;refine Run.cW ?_ ?_
   ·intro hqj
    have hqj:q≠j:=fun h=>by simp [h]at hqj
    have e:((r.take (min q j)) ++ (r.take q).drop (j+1)) ++ [r.getD q 0]=(r.take (min (q+1) j)) ++ (r.take (q+1)).drop (j+1):=by
     have h3:=take_snoc 0 r q (by omega)
     rcases Nat.lt_or_ge q j with h4 | h4
     ·rw [show min q j=q by omega,show min (q+1) j=q+1 by omega,← h3]
      rw [List.drop_eq_nil_of_le (by simp;omega),List.drop_eq_nil_of_le (by simp;omega)]
      simp
     ·rw [show min q j=j by omega,show min (q+1) j=j by omega,← h3,List.append_assoc]
      congr 1
      rw [List.drop_append_of_le_length (by simp;omega)]
    refine Run.R ?_
    rw [hr,e]
    refine Run.RW ?_
    refine Run.reK hpin [0,1,4,5,6,7,8] [0,1] (by decide) (by simp) ?_;simp only [AR,AW7,simprocAttr]
    refine Run.le ?_ (ih2 (q+1) (by omega) (by omega))
    exact Le.sub (by rfl) (by simp only [AW7,simprocAttr];try simp)
   ·intro hqj
    have hqj:q=j:=by simp at hqj;omega
    have e:(r.take (min q j)) ++ (r.take q).drop (j+1)=(r.take (min (q+1) j)) ++ (r.take (q+1)).drop (j+1):=by
     rw [show min q j=j by omega,show min (q+1) j=j by omega,List.drop_eq_nil_of_le (by simp;omega),List.drop_eq_nil_of_le (by simp;omega)]
    rw [e]
    refine Run.RW ?_
    refine Run.le ?_ (ih2 (q+1) (by omega) (by omega))
    exact Le.sub (by rfl) (by simp only [AW7,simprocAttr];try simp)
  ·intro h2
   have h2:q=n+1:=by simp [hml]at h2;omega
   have e:(r.take (min q j)) ++ (r.take q).drop (j+1)=r.take j ++ r.drop (j+1):=by
    have ht:r.take q=r:=List.take_of_length_le (by omega)
    rw [show min q j=j by omega,ht]
   rw [e]
   refine Run.exit rfl ?_;refine Run.nq ?_
   refine Run.nq ?_;refine Run.regionW hC (fun K hK=>?_);refine wW ?_
   intro l hl
   refine wW ?_
   refine wE ?_;clear hK K
   refine Run.RW ?_
   refine Run.reK hpin [0,1,4,5,6] [0] (by decide) (by simp) ?_;simp only [AR,AW7,simprocAttr]
   refine Run.le ?_ (ih (k+1,ys ++ [(l,r.take j ++ r.drop (j+1))]) ⟨h,by simp only [List.map_append,hy,List.map_cons,List.map_nil];rw [← hgd];exact map_snoc (fun r:List Int=>r.take j ++ r.drop (j+1)) (m.drop 1) [] k (by omega)⟩ (by simp only [];omega))
   exact Le.sub (by rfl) (by simp only [AW7,simprocAttr];try simp)
 ·intro h
  have h:k=n:=by simp [hml]at h;omega
  rw [List.take_of_length_le (by omega)]at hy
  refine Run.exit rfl ?_;refine Run.nq ?_
  refine Run.R ?_
  refine Run.rW [4] (hfin _ _ rfl rfl ?_)
  exact⟨rfl,ys,hy,rfl⟩
theorem c_spec_l4Det (n:Nat):∀(m:List (List Int)),n≤4→Sq n m→FunA B 163 [.sl false (.row false) m] (fun rs o=>rs=[.int .i64 (detN n m)]∧o=[]):=by
 induction n with
 | zero=>
  intro m _ hm
  have hm0:m=[]:=List.eq_nil_of_length_eq_zero hm.1
  subst hm0
  refine FunA.walk B_ok (fn:=Tryz.f163) (fun vs w=>Tryz.call163 vs w) Tryz.func163 rfl (by rw [Tryz.ntmps163];simp) (fun C hC hP hT hΓ hbt hfn hpin hfin=>?_);have hX:=BX;rw [← hΓ,← hbt.1,← hbt.2.1,← hbt.2.2.1]at hX;rw [hT]at hX;rw [Tryz.ntmps163];simp only [AW7,simprocAttr,hX]
  refine Run.R ?_
  refine Run.R ?_
  refine Run.nq ?_;refine Run.cW ?_ ?_
  ·intro h
   refine Run.R ?_
   refine Run.rW [2] (hfin _ _ rfl rfl ?_)
   exact⟨rfl,rfl⟩
  ·intro h
   simp at h
 | succ n ihn=>
  intro m hn hm
  have hml:=hm.1
  refine FunA.walk B_ok (fn:=Tryz.f163) (fun vs w=>Tryz.call163 vs w) Tryz.func163 rfl (by rw [Tryz.ntmps163];simp) (fun C hC hP hT hΓ hbt hfn hpin hfin=>?_);have hX:=BX;rw [← hΓ,← hbt.1,← hbt.2.1,← hbt.2.2.1]at hX;rw [hT]at hX;rw [Tryz.ntmps163];simp only [AW7,simprocAttr,hX]
  refine Run.R ?_
  refine Run.R ?_
  refine Run.nq ?_;refine Run.cW ?_ ?_
  ·intro h
   simp [hml]at h
   omega
  intro h
  clear h
  have hr0:=(det_term hm hn 0 (by omega)).2.2.2
  have hS0:detS n m 0=0:=rfl
  refine Run.R ?_
  refine Run.R ?_
  refine Run.le (Le.sub (fr':=[(0,true,.v (.sl false (.row false) m)),(2,true,.v (.int .i64 0)),(3,true,.v (.int .i64 (detS n m 0))),(4,true,.v (.int .i64 (0:Nat)))]) rfl (by simp only [AW7,simprocAttr];simp [hS0])) ?_
  refine Run.loopI (X:=Nat) (fun j=>⟨35,[(0,true,.v (.sl false (.row false) (m))),(2,true,.v (.int .i64 (0))),(3,true,.v (.int .i64 ((detS n m j)))),(4,true,.v (.int .i64 (j)))],[]⟩) (fun j=>j≤n+1) (fun j=>n+1 - j) (0) (Nat.zero_le _) ?_ ?_
  ·exact Le.sub (by first | rfl | simp) (by simp only [AW7,simprocAttr,hX];try simp<;>try(first | rfl | exact⟨rfl,rfl⟩ | exact⟨rfl,rfl,rfl⟩))
  rintro j hj ih
  try simp only []
  refine Run.R ?_
  refine Run.nq ?_;refine Run.cW ?_ ?_
  ·intro h
   have h:j < n+1:=by simp [hml]at h;omega
   obtain⟨t1,t2,t3,t4⟩:=det_term hm hn j h
   obtain⟨d1,d2⟩:=detS_le hm hn j (by omega)
   obtain⟨e1,e2⟩:=detS_le hm hn (j+1) (by omega)
   have hsn:=detS_succ n m j
   have hsq:=hm.minor j h
   have hsc:sgn j=if (j:Int) % 2=1 then -1 else 1:=by unfold sgn;split<;>split<;>first | rfl | omega
   refine Run.nq ?_;refine Run.regionD hC true [0,1,2,3,4,5,6,7,8,9,10,11] (by kernel_rfl) (fun K hK=>?_);simp(disch:=omega) only [wrap_id,AW7,simprocAttr,hX];(repeat(with_reducible refine And.intro ?_ ?_);exact vc0)
   refine FunA.callD hP hT (c_spec_l4Without n j m hn hm h) (by simp only [AW7,simprocAttr]) ?_
   rintro rs o ⟨rfl,ys,hy,rfl⟩
   refine wW ?_
   refine FunA.callD hP hT (ihn (minorL m j) (by omega) hsq) (by simp only [AW7,simprocAttr];exact hy.symm) ?_
   rintro rs o ⟨rfl,rfl⟩
   simp(disch:=omega) only [wrap_id,AW7,simprocAttr,hX]
   (repeat(with_reducible refine And.intro ?_ ?_);exact vc0)
   refine wE ?_;clear hK K
   refine Run.keep [0,2,3,4,5] ?_;simp only [AK,Nat.reduceBEq]
   refine Run.R ?_
   refine Run.nq ?_;refine Run.cW ?_ ?_
   ·intro h2
    have h2:(j:Int).tmod 2=1:=by simpa using h2
    rw [Int.tmod_eq_emod_of_nonneg (by omega)]at h2
    rw [if_pos h2]at hsc
    rw [hsc,Int.neg_mul,Int.one_mul,Int.neg_mul]at hsn
    refine Run.RW ?_
    refine Run.RW ?_
    rw [show detS n m j+(0 - (m.getD 0 []).getD j 0*detN n (minorL m j))=detS n m (j+1) by rw [hsn];omega]
    refine Run.RW ?_
    refine Run.reK hpin [0,2,3,4] [] (by decide) (by simp) ?_;simp only [AR,AW7,simprocAttr]
    refine Run.le ?_ (ih (j+1) (by omega) (by omega))
    exact Le.sub (by rfl) (by simp only [AW7,simprocAttr];try simp)
   ·intro h2
    have h2:¬(j:Int).tmod 2=1:=by simpa using h2
    rw [Int.tmod_eq_emod_of_nonneg (by omega)]at h2
    rw [if_neg h2]at hsc
    rw [hsc,Int.one_mul]at hsn
    refine Run.RW ?_
    rw [← hsn]
    refine Run.RW ?_
    refine Run.reK hpin [0,2,3,4] [] (by decide) (by simp) ?_;simp only [AR,AW7,simprocAttr]
    refine Run.le ?_ (ih (j+1) (by omega) (by omega))
    exact Le.sub (by rfl) (by simp only [AW7,simprocAttr];try simp)
  ·intro h
   have h:j=n+1:=by simp [hml]at h;omega
   subst h
   refine Run.exit rfl ?_;refine Run.nq ?_
   refine Run.R ?_
   refine Run.rW [2] (hfin _ _ rfl rfl ?_)
   exact⟨rfl,rfl⟩
theorem setL_set:∀ k:Nat,k < 16→∀ i:Nat,i < (setL k).length→0≤(setL k).getD i 0∧(0 < i→(setL k).getD (i - 1) 0 < (setL k).getD i 0):=by decide
theorem setL_setP {n k:Nat} (hn:n≤4) (hk:k < 2 ^ n):setP n (setL k):=by
 have hpw:=pow_le16 n hn
 intro i hi
 obtain⟨h1,h2⟩:=setL_set k (by omega) i hi
 exact⟨h1,(setL_letters k (by omega) n hn hk _ (getD_mem hi)).2,h2⟩
theorem c_spec_WitnessOf (c:List (List Int)):FunA B 130 [.sl false (.row false) c] (fun rs o=>∃ xs,(xs=[]↔∀ k,k < (pmin c).length→0 < (pmin c).getD k 0)∧xs.length≤4∧rs=[.sl true .int xs]∧o=[]):=by
 refine FunA.walk B_ok (fn:=Tryz.f130) (fun vs w=>Tryz.call130 vs w) Tryz.func130 rfl (by rw [Tryz.ntmps130];simp) (fun C hC hP hT hΓ hbt hfn hpin hfin=>?_);have hX:=BX;rw [← hΓ,← hbt.1,← hbt.2.1,← hbt.2.2.1]at hX;rw [hT]at hX;rw [Tryz.ntmps130];simp only [AW7,simprocAttr,hX]
 refine Run.R ?_
 refine Run.nq ?_;refine Run.regionW hC (fun K hK=>?_);refine wW ?_
 refine FunA.cW hP hT (c_spec_IsCartan c) ?_
 rintro rs o ⟨rfl,rfl⟩
 refine wW ?_
 refine wE ?_;clear hK K
 refine Run.nq ?_;refine Run.cW ?_ ?_
 ·intro hb
  have hb:isC c=false:=by simpa using hb
  have hp:pmin c=[]:=by simp [pmin,hb]
  refine Run.R ?_
  refine Run.le (Le.letgo 0 (g:=0) (e:=.int) (xs:=[]) (nn:=true) [(2,true,.sl true .int [])] rfl ⟨.inr ⟨rfl,rfl⟩,trivial⟩) ?_
  simp only [frV_cons,frV_nil]
  refine Run.reK hpin [2] [] (by decide) (by simp) ?_;simp only [AR,AW7,simprocAttr]
  refine Run.rW [2] (hfin _ _ rfl rfl ?_)
  exact⟨[],by simp [hp],by simp,rfl,rfl⟩
 ·intro hb
  have hb:isC c=true:=by simpa using hb
  have hc:=isC_iff.1 hb
  have hn:=hc.2.1
  have hn1:=hc.1
  have hpw:=pow_le16 c.length hn
  have hp1:1≤2 ^ c.length:=Nat.one_le_two_pow
  have hp:pmin c=minors c (2 ^ c.length - 1):=by simp [pmin,hb]
  have hpl:(pmin c).length=2 ^ c.length - 1:=by rw [hp,minors_len]
  refine Run.nq ?_;refine Run.regionW hC (fun K hK=>?_);refine wW ?_
  refine FunA.cW hP hT (c_spec_l4Sets c.length hn) ?_
  rintro rs o ⟨rfl,ys,hy,rfl⟩
  have hyl:ys.length=2 ^ c.length - 1:=by have:=congrArg List.length hy;simpa [setsL_len] using this
  refine wW ?_
  refine wE ?_;clear hK K
  refine Run.R ?_
  refine Run.loopI (X:=Nat) (fun k=>⟨37,[(0,true,.v (.sl false (.row false) (c))),(2,true,.v (.nils)),(3,true,.v (.own 0 0)),(4,true,.v (.int .i64 (k)))],[.arr .lrow (ys) 0 true]⟩) (fun k=>k≤ys.length∧∀ j,j < k→0 < (pmin c).getD j 0) (fun k=>ys.length - k) (0) (⟨Nat.zero_le _,fun j hj=>by omega⟩) ?_ ?_
  ·exact Le.sub (by first | rfl | simp) (by simp only [AW7,simprocAttr,hX];try simp<;>try(first | rfl | exact⟨rfl,rfl⟩ | exact⟨rfl,rfl,rfl⟩))
  rintro k ⟨hk,hpos⟩ ih
  try simp only []
  refine Run.R ?_
  refine Run.nq ?_;refine Run.cW ?_ ?_
  ·intro h
   have h:k < ys.length:=by simpa using h
   obtain⟨l,xs,hlx⟩:∃ l xs,ys.getD k (0,[])=(l,xs):=⟨_,_,rfl⟩
   have hxs:xs=setL (k+1):=by
    have h1:(ys.map (·.2)).getD k []=xs:=by
     have:=congrArg Prod.snd hlx
     simp only [List.getD_eq_getElem?_getD,List.getElem?_map,List.getElem?_eq_getElem h]at this ⊢
     simpa using this
    rw [hy,setsL_get _ _ (by omega)]at h1
    exact h1.symm
   have hset:=setL_setP hn (k:=k+1) (by omega)
   have hne:=setL_ne (k+1) (by omega) (by omega)
   have hsq:=pick_sq hc (set_letters hset)
   have hll:=setL_len (k+1) (by omega)
   have hmn:(pmin c).getD k 0=detN (setL (k+1)).length (pick c (setL (k+1))):=by rw [hp,minors_get _ _ _ (by omega)];rfl
   subst hxs
   refine Run.nq ?_;refine Run.regionW hC (fun K hK=>?_);refine wW ?_
   simp only [hlx,AW7,simprocAttr,hX]
   (repeat(with_reducible refine And.intro ?_ ?_);exact vc0)
   refine FunA.cW hP hT (c_spec_SubCartan c (setL (k+1)) hc hset hne) ?_
   rintro rs o ⟨rfl,zs,hz,rfl⟩
   refine wW ?_
   refine wE ?_;clear hK K
   refine Run.nq ?_;refine Run.regionW hC (fun K hK=>?_);refine wW ?_
   refine FunA.callW hP hT (c_spec_l4Det (setL (k+1)).length (pick c (setL (k+1))) hll hsq) (by simp only [AW7,simprocAttr];exact hz.symm) ?_
   rintro rs o ⟨rfl,rfl⟩
   refine wW ?_
   refine wE ?_;clear hK K
   rw [← hmn]
   refine Run.nq ?_;refine Run.cW ?_ ?_
   ·intro h2
    have h2:(pmin c).getD k 0≤0:=by simpa using h2
    refine Run.nq ?_;refine Run.regionW hC (fun K hK=>?_);refine wW ?_
    simp only [hlx,ofE,AW7,simprocAttr,hX]
    (repeat(with_reducible refine And.intro ?_ ?_);exact vc0)
    refine wE ?_;clear hK K
    refine Run.le (Le.re (obs':=[]) hpin [] [(2,true,.sl true .int (setL (k+1)))] rfl trivial (by refine⟨⟨_,rfl,?_⟩,trivial⟩<;>simp [leAV])) ?_
    simp only [frV_cons,frV_nil]
    refine Run.rW [2] (hfin _ _ rfl rfl ?_)
    refine⟨_,⟨fun he=>absurd he hne,fun hall=>?_⟩,hll,rfl,rfl⟩
    have:=hall k (by omega)
    omega
   ·intro h2
    have h2:0 < (pmin c).getD k 0:=by simp at h2;simpa [List.getD_eq_getElem?_getD] using h2
    refine Run.RW ?_
    refine Run.reK hpin [0,2,3,4] [0] (by decide) (by simp) ?_;simp only [AR,AW7,simprocAttr]
    refine Run.le ?_ (ih (k+1) ⟨h,fun j hj=>by rcases Nat.lt_or_ge j k with q | q;exact hpos j q;rw [show j=k by omega];exact h2⟩ (by omega))
    exact Le.sub (by rfl) (by simp only [AW7,simprocAttr];try simp)
  ·intro h
   have h:k=ys.length:=by simp at h;omega
   subst h
   refine Run.exit rfl ?_;refine Run.nq ?_
   refine Run.R ?_
   refine Run.le (Le.letgo 1 (g:=0) (e:=.int) (xs:=[]) (nn:=true) [(2,true,.sl true .int [])] rfl ⟨.inr ⟨rfl,rfl⟩,trivial⟩) ?_
   simp only [frV_cons,frV_nil]
   refine Run.reK hpin [2] [] (by decide) (by simp) ?_;simp only [AR,AW7,simprocAttr]
   refine Run.rW [2] (hfin _ _ rfl rfl ?_)
   exact⟨[],⟨fun _ q hq=>hpos q (by omega),fun _=>rfl⟩,by simp,rfl,rfl⟩
theorem c_spec_IsFinite (c:List (List Int)):FunA B 79 [.sl false (.row false) c] (fun rs o=>rs=[.bool (isF c)]∧o=[]):=by
 refine FunA.walk B_ok (fn:=Tryz.f79) (fun vs w=>Tryz.call79 vs w) Tryz.func79 rfl (by rw [Tryz.ntmps79];simp) (fun C hC hP hT hΓ hbt hfn hpin hfin=>?_);have hX:=BX;rw [← hΓ,← hbt.1,← hbt.2.1,← hbt.2.2.1]at hX;rw [hT]at hX;rw [Tryz.ntmps79];simp only [AW7,simprocAttr,hX]
 refine Run.R ?_
 refine Run.nq ?_;refine Run.regionW hC (fun K hK=>?_);refine wW ?_
 refine FunA.cW hP hT (c_spec_IsCartan c) ?_
 rintro rs o ⟨rfl,rfl⟩
 refine wW ?_
 cases hb:isC c with
 | false=>
  have hf:=isF_not hb
  refine wW ?_
  refine .inl (CallG.off (.sl false .int []) ?_)
  refine wW ?_
  refine wE ?_;clear hK K
  refine Run.rW [2] (hfin _ _ rfl rfl ?_)
  simp [hf]
 | true=>
  refine .inr ⟨rfl,?_⟩
  refine FunA.cW hP hT (c_spec_WitnessOf c) ?_
  rintro rs o ⟨xs,hxs,hl,rfl,rfl⟩
  have hf:=isF_pmin hb hxs
  refine wW ?_
  refine wE ?_;clear hK K
  refine Run.reK hpin [2] [] (by decide) (by simp) ?_;simp only [AR,AW7,simprocAttr]
  refine Run.rW [2] (hfin _ _ rfl rfl ?_)
  simp [hf]
end Go.Proofs.YtcinngodeoidnaaGreatDoor
namespace Go.Proofs.YtcinngodeoidnaaGreatDoor
open Go Go.Aw Go.Cox
end Go.Proofs.YtcinngodeoidnaaGreatDoor
namespace Go.Proofs.YtcinngodeoidnaaGreatDoor
open Go Go.Aw Go.Cox
end Go.Proofs.YtcinngodeoidnaaGreatDoor
namespace Go.Proofs.YtcinngodeoidnaaGreatDoor
open Go Go.Aw
theorem c_big (code:List Int):FunA B 5 [.sl false .byte code] (fun rs o=>rs=[.bool (decide (1048576 < code.length))]∧o=[]):=by
 refine FunA.walk B_ok (fn:=Tryz.f5) (fun vs w=>Tryz.call5 vs w) Tryz.func5 rfl (by rw [Tryz.ntmps5];simp) (fun C hC hP hT hΓ hbt hfn hpin hfin=>?_);have hX:=BX;rw [← hΓ,← hbt.1,← hbt.2.1,← hbt.2.2.1]at hX;rw [hT]at hX;rw [Tryz.ntmps5];simp only [AW7,simprocAttr,hX]
 refine Run.R ?_
 refine Run.R ?_
 refine Run.rW [2] (hfin _ _ rfl rfl ?_)
 have:decide ((1048576:Int) < (code.length:Int))=decide (1048576 < code.length):=by
  by_cases h:1048576 < code.length
  ·rw [decide_eq_true h,decide_eq_true];omega
  ·rw [decide_eq_false h,decide_eq_false];omega
 first | exact⟨by rw [this],rfl⟩ | simpa using this
theorem c_sameInts (p q:List Int) (hp:p.length≤4503599627370496):FunA B 9 [.sl false .int p,.sl false .int q] (fun rs o=>rs=[.bool (p == q)]∧o=[]):=by
 refine FunA.walk B_ok (fn:=Tryz.f9) (fun vs w=>Tryz.call9 vs w) Tryz.func9 rfl (by rw [Tryz.ntmps9];simp) (fun C hC hP hT hΓ hbt hfn hpin hfin=>?_);have hX:=BX;rw [← hΓ,← hbt.1,← hbt.2.1,← hbt.2.2.1]at hX;rw [hT]at hX;rw [Tryz.ntmps9];simp only [AW7,simprocAttr,hX]
 refine Run.R ?_
 refine Run.R ?_
 refine Run.nq ?_;refine Run.cW ?_ ?_
 ·intro hc
  refine Run.R ?_
  refine Run.rW [4] (hfin _ _ rfl rfl ?_)
  have:p≠q:=fun h=>by simp [h]at hc
  simpa using this
 intro hc
 have hl:p.length=q.length:=by simp at hc;omega
 refine Run.R ?_
 refine Run.loopI (X:=Nat) (fun i=>⟨26,[(0,true,.v (.sl false .int (p))),(1,true,.v (.sl false .int (q))),(5,true,.v (.int .i64 (i))),(4,true,.v (.bool (false)))],[]⟩) (fun i=>i≤p.length∧p.take i=q.take i) (fun i=>p.length - i) (0) (⟨Nat.zero_le _,rfl⟩) ?_ ?_
 ·exact Le.sub (by first | rfl | simp) (by simp only [AW7,simprocAttr,hX];try simp<;>try(first | rfl | exact⟨rfl,rfl⟩ | exact⟨rfl,rfl,rfl⟩))
 rintro i ⟨hi,ht⟩ ih
 try simp only []
 refine Run.R ?_
 refine Run.nq ?_;refine Run.cW ?_ ?_
 ·intro hc2
  have hc2:i < p.length:=by simpa using hc2
  refine Run.nq ?_;refine Run.regionD hC true [0,1,2,3,4,5,6,7,8] (by kernel_rfl) (fun K hK=>?_);simp only [AW7,simprocAttr,hX];(repeat(with_reducible refine And.intro ?_ ?_);exact vc0);refine wE ?_;clear hK K
  refine Run.nq ?_;refine Run.cW ?_ ?_
  ·intro hne
   refine Run.R ?_
   refine Run.rW [4] (hfin _ _ rfl rfl ?_)
   have:p≠q:=fun h=>by simp [h]at hne
   simpa using this
  ·intro he
   have he:p.getD i 0=q.getD i 0:=by simpa using he
   have ht2:p.take (i+1)=q.take (i+1):=by rw [← take_snoc 0 p i hc2,← take_snoc 0 q i (by omega),ht,he]
   refine Run.RW ?_
   refine Run.le ?_ (ih (i+1) (⟨hc2,ht2⟩) (by(try simp only [List.length_append,List.length_cons,List.length_nil]);omega))
   exact Le.sub (by rfl) (by simp only [AW7,simprocAttr];try simp)
 ·intro hc2
  have hc2:i=p.length:=by simp at hc2;omega
  refine Run.exit rfl ?_;refine Run.nq ?_
  refine Run.R ?_
  refine Run.rW [4] (hfin _ _ rfl rfl ?_)
  subst hc2
  rw [List.take_length,hl,List.take_length]at ht
  simpa using ht
end Go.Proofs.YtcinngodeoidnaaGreatDoor
namespace Go.Proofs.YtcinngodeoidnaaGreatDoor
open Go Go.Aw Go.Cox
end Go.Proofs.YtcinngodeoidnaaGreatDoor
namespace Go.Proofs.YtcinngodeoidnaaGreatDoor
open Go Go.Aw
theorem c_spec_LengthOf (c:List (List Int)) (w:List Int) (hcl:c.length≤1048576) :
  FunA B 12 [.sl false (.row false) c,.sl false .int w] (fun rs o=>rs=[.int .i64 (if wordB c w=true then((redL c w).length:Int)else -1)]∧o=[]):=by
 refine FunA.walk B_ok (fn:=Tryz.f12) (fun vs w=>Tryz.call12 vs w) Tryz.func12 rfl (by rw [Tryz.ntmps12];simp) (fun C hC hP hT hΓ hbt hfn hpin hfin=>?_);have hX:=BX;rw [← hΓ,← hbt.1,← hbt.2.1,← hbt.2.2.1]at hX;rw [hT]at hX;rw [Tryz.ntmps12];simp only [AW7,simprocAttr,hX]
 refine Run.R ?_
 refine Run.nq ?_;refine Run.regionW hC (fun K hK=>?_);refine wW ?_
 refine FunA.cW hP hT (c_spec_NormalForm c w hcl) ?_
 rintro rs o ⟨rfl,rfl⟩
 refine wW ?_
 refine wE ?_;clear hK K
 refine Run.R ?_
 refine Run.nq ?_;refine Run.cW ?_ ?_
 ·intro h
  have h:wordB c w=false:=by simpa using h
  refine Run.R ?_
  refine Run.reK hpin [4] [] (by decide) (by simp) ?_;simp only [AR,AW7,simprocAttr]
  refine Run.rW [4] (hfin _ _ rfl rfl ?_)
  simp [h]
 intro h
 have h:wordB c w=true:=by simpa using h
 refine Run.R ?_
 refine Run.reK hpin [4] [] (by decide) (by simp) ?_;simp only [AR,AW7,simprocAttr]
 refine Run.rW [4] (hfin _ _ rfl rfl ?_)
 simp [nfW,h]
theorem getD_take {α:Type} {d:α} {p q:List α} {i:Nat} (hp:i < p.length) (hq:i < q.length) (ht:p.take i=q.take i) (he:p.getD i d=q.getD i d):p.take (i+1)=q.take (i+1):=by rw [← take_snoc d p i hp,← take_snoc d q i hq,ht,he]
theorem c_sameWords (p q:List (List Int)) (hp:p.length≤4503599627370496) (hr:∀ r∈p,r.length≤4503599627370496):FunA B 23 [.sl false (.row false) p,.sl false (.row false) q] (fun rs o=>rs=[.bool (p == q)]∧o=[]):=by
 refine FunA.walk B_ok (fn:=Tryz.f23) (fun vs w=>Tryz.call23 vs w) Tryz.func23 rfl (by rw [Tryz.ntmps23];simp) (fun C hC hP hT hΓ hbt hfn hpin hfin=>?_);have hX:=BX;rw [← hΓ,← hbt.1,← hbt.2.1,← hbt.2.2.1]at hX;rw [hT]at hX;rw [Tryz.ntmps23];simp only [AW7,simprocAttr,hX]
 refine Run.R ?_
 refine Run.R ?_
 refine Run.nq ?_;refine Run.cW ?_ ?_
 ·intro hc
  refine Run.R ?_
  refine Run.rW [4] (hfin _ _ rfl rfl ?_)
  have:p≠q:=fun h=>by simp [h]at hc
  simpa using this
 intro hc
 have hl:p.length=q.length:=by simp at hc;omega
 refine Run.R ?_
 refine Run.loopI (X:=Nat) (fun i=>⟨27,[(0,true,.v (.sl false (.row false) (p))),(1,true,.v (.sl false (.row false) (q))),(5,true,.v (.int .i64 (i))),(4,true,.v (.bool (false)))],[]⟩) (fun i=>i≤p.length∧p.take i=q.take i) (fun i=>p.length - i) (0) (⟨Nat.zero_le _,rfl⟩) ?_ ?_
 ·exact Le.sub (by first | rfl | simp) (by simp only [AW7,simprocAttr,hX];try simp<;>try(first | rfl | exact⟨rfl,rfl⟩ | exact⟨rfl,rfl,rfl⟩))
 rintro i ⟨hi,ht⟩ ih
 try simp only []
 refine Run.R ?_
 refine Run.nq ?_;refine Run.cW ?_ ?_
 ·intro hc2
  have hc2:i < p.length:=by simpa using hc2
  have hri:(p.getD i []).length≤4503599627370496:=by
   rw [List.getD_eq_getElem?_getD,List.getElem?_eq_getElem hc2]
   exact hr _ (List.getElem_mem hc2)
  refine Run.nq ?_;refine Run.regionD hC true [0,1,2,3,4,5,6,7,8,9] (by kernel_rfl) (fun K hK=>?_);simp only [AW7,simprocAttr,hX];(repeat(with_reducible refine And.intro ?_ ?_);exact vc0)
  refine FunA.callD hP hT (c_sameInts (p.getD i []) (q.getD i []) hri) (by simp only [AW7,simprocAttr]) ?_
  rintro rs o ⟨rfl,rfl⟩
  refine wW ?_
  refine wE ?_;clear hK K
  refine Run.nq ?_;refine Run.cW ?_ ?_
  ·intro hne
   refine Run.R ?_
   refine Run.rW [4] (hfin _ _ rfl rfl ?_)
   have:p≠q:=fun h=>by simp [h]at hne
   simpa using this
  ·intro he
   have he:p.getD i []=q.getD i []:=by simpa using he
   have ht2:=getD_take hc2 (by omega) ht he
   refine Run.RW ?_
   refine Run.le ?_ (ih (i+1) (⟨hc2,ht2⟩) (by(try simp only [List.length_append,List.length_cons,List.length_nil]);omega))
   exact Le.sub (by rfl) (by simp only [AW7,simprocAttr];try simp)
 ·intro hc2
  have hc2:i=p.length:=by simp at hc2;omega
  refine Run.exit rfl ?_;refine Run.nq ?_
  refine Run.R ?_
  refine Run.rW [4] (hfin _ _ rfl rfl ?_)
  subst hc2
  rw [List.take_length,hl,List.take_length]at ht
  simpa using ht
noncomputable def sameB (c:List (List Int)) (u v:List Int):Bool:=wordB c u && wordB c v && (imageL c u == imageL c v)
theorem c_impl_same (c:List (List Int)) (u v:List Int) (hc:CartanP c) (hu:letters c.length u) (hv:letters c.length v) (hul:u.length≤31) (hvl:v.length≤31) :
  FunA B 64 [.sl false (.row false) c,.sl false .int u,.sl false .int v] (fun rs o=>rs=[.bool (imageL c u == imageL c v)]∧o=[]):=by
 have hn:=hc.2.1
 refine FunA.walk B_ok (fn:=Tryz.f64) (fun vs w=>Tryz.call64 vs w) Tryz.func64 rfl (by rw [Tryz.ntmps64];simp) (fun C hC hP hT hΓ hbt hfn hpin hfin=>?_);have hX:=BX;rw [← hΓ,← hbt.1,← hbt.2.1,← hbt.2.2.1]at hX;rw [hT]at hX;rw [Tryz.ntmps64];simp only [AW7,simprocAttr,hX]
 refine Run.R ?_
 refine Run.nq ?_;refine Run.regionW hC (fun K hK=>?_);refine wW ?_
 refine FunA.cW hP hT (c_impl_image c u hc hu hul) ?_
 rintro rs o ⟨rfl,rfl⟩
 refine wW ?_
 refine FunA.cW hP hT (c_impl_image c v hc hv hvl) ?_
 rintro rs o ⟨rfl,rfl⟩
 refine wW ?_
 refine FunA.callW hP hT (c_slices_Equal (imageL c u) (imageL c v) (by rw [imageL_length];omega)) (by simp only [AW7,simprocAttr];first | done | decide | exact⟨rfl,rfl⟩) ?_
 rintro rs o ⟨rfl,rfl⟩
 refine wW ?_
 refine wE ?_;clear hK K
 refine Run.reK hpin [6] [] (by decide) (by simp) ?_;simp only [AR,AW7,simprocAttr]
 refine Run.rW [6] (hfin _ _ rfl rfl ?_)
 exact⟨rfl,rfl⟩
theorem c_impl_AreSame (c:List (List Int)) (u v:List Int) (hcl:c.length≤1048576) :
  FunA B 13 [.sl false (.row false) c,.sl false .int u,.sl false .int v] (fun rs o=>rs=[.bool (sameB c u v)]∧o=[]):=by
 refine FunA.walk B_ok (fn:=Tryz.f13) (fun vs w=>Tryz.call13 vs w) Tryz.func13 rfl (by rw [Tryz.ntmps13];simp) (fun C hC hP hT hΓ hbt hfn hpin hfin=>?_);have hX:=BX;rw [← hΓ,← hbt.1,← hbt.2.1,← hbt.2.2.1]at hX;rw [hT]at hX;rw [Tryz.ntmps13];simp only [AW7,simprocAttr,hX]
 refine Run.R ?_
 refine Run.nq ?_;refine Run.regionW hC (fun K hK=>?_);refine wW ?_
 refine FunA.cW hP hT (c_impl_IsWord c u) ?_
 rintro rs o ⟨rfl,rfl⟩
 cases hu:wordB c u with
 | false=>
  refine wW ?_
  refine .inl (CallG.off (.bool false) ?_)
  refine wW ?_
  refine .inl (CallG.off (.bool false) ?_)
  refine wW ?_
  refine wE ?_;clear hK K
  refine Run.rW [6] (hfin _ _ rfl rfl ?_)
  simp [sameB,hu]
 | true=>
  refine wW ?_
  refine .inl (FunA.callG hP hT (c_impl_IsWord c v) (fun _=>rfl) (fun _=>by simp only [AW7,simprocAttr]) ?_)
  cases hv:wordB c v with
  | false=>
   refine wW ?_
   refine .inl (CallG.off (.bool false) ?_)
   refine wW ?_
   refine wE ?_;clear hK K
   refine Run.rW [6] (hfin _ _ rfl rfl ?_)
   simp [sameB,hu,hv]
  | true=>
   obtain⟨hc,h1,h2⟩:=wordB_iff.1 hu
   obtain⟨_,h3,h4⟩:=wordB_iff.1 hv
   refine wW ?_
   refine .inl (FunA.callG hP hT (c_impl_same c u v hc (by assumption) (by assumption) (by omega) (by omega)) (fun _=>rfl) (fun _=>by simp only [AW7,simprocAttr]) ?_)
   refine wW ?_
   refine wE ?_;clear hK K
   refine Run.rW [6] (hfin _ _ rfl rfl ?_)
   simp [sameB,hu,hv]
end Go.Proofs.YtcinngodeoidnaaGreatDoor
namespace Go.Proofs.YtcinngodeoidnaaGreatDoor
open Go Go.Aw
end Go.Proofs.YtcinngodeoidnaaGreatDoor
namespace Go.Proofs.YtcinngodeoidnaaGreatDoor
open Go Go.Aw Go.Cox
end Go.Proofs.YtcinngodeoidnaaGreatDoor
