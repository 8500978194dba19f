/- The sort's functions, found in this program. -/
import Derived.Test.YtcinngodeoidnaaGreatB13
import Derived.Test.YtcinngodeoidnaaGreatB10
set_option linter.unusedVariables false
set_option linter.unusedSimpArgs false
namespace Go.Proofs.YtcinngodeoidnaaGreat
open Go Go.Aw
def srtL_ren:Go.Shelf.Ren:=⟨fun | 6=>90 | 15=>135 | 14=>134 | 28=>170 | 29=>171 | 20=>162 | 21=>163 | 22=>164 | 23=>165 | 24=>166 | 25=>167 | 26=>168 | 27=>169 | 46=>186 | 47=>187 | 48=>188 | 49=>189 | 50=>190 | 57=>206 | n=>n,fun | 22=>24 | 24=>25 | 25=>67 | 3=>3 | 39=>82 | 0=>0 | 53=>111 | 55=>113 | 4=>4 | 46=>104 | 45=>103 | 50=>108 | 5=>5 | 9=>9 | 66=>119 | 70=>123 | 76=>131 | 77=>132 | n=>n,fun n=>n⟩
theorem srtL:SlLaysF.n6 Tryz.prog srtL_ren where
 mixed:=by kernel_rfl
 f6:=⟨Tryz.f90.name,by decide,Tryz.func90.trans (congrArg some (by kernel_rfl))⟩
 f14:=⟨Tryz.f134.name,by decide,Tryz.func134.trans (congrArg some (by kernel_rfl))⟩
 f15:=Tryz.func135.trans (congrArg some (by kernel_rfl))
 f20:=⟨Tryz.f162.name,by decide,Tryz.func162.trans (congrArg some (by kernel_rfl))⟩
 f21:=⟨Tryz.f163.name,by decide,Tryz.func163.trans (congrArg some (by kernel_rfl))⟩
 f22:=⟨Tryz.f164.name,by decide,Tryz.func164.trans (congrArg some (by kernel_rfl))⟩
 f23:=⟨Tryz.f165.name,by decide,Tryz.func165.trans (congrArg some (by kernel_rfl))⟩
 f24:=⟨Tryz.f166.name,by decide,Tryz.func166.trans (congrArg some (by kernel_rfl))⟩
 f25:=⟨Tryz.f167.name,by decide,Tryz.func167.trans (congrArg some (by kernel_rfl))⟩
 f26:=⟨Tryz.f168.name,by decide,Tryz.func168.trans (congrArg some (by kernel_rfl))⟩
 f27:=⟨Tryz.f169.name,by decide,Tryz.func169.trans (congrArg some (by kernel_rfl))⟩
 f28:=Tryz.func170.trans (congrArg some (by kernel_rfl))
 f29:=Tryz.func171.trans (congrArg some (by kernel_rfl))
 f46:=⟨Tryz.f186.name,by decide,Tryz.func186.trans (congrArg some (by kernel_rfl))⟩
 f47:=Tryz.func187.trans (congrArg some (by kernel_rfl))
 f48:=Tryz.func188.trans (congrArg some (by kernel_rfl))
 f49:=⟨Tryz.f189.name,by decide,Tryz.func189.trans (congrArg some (by kernel_rfl))⟩
 f50:=⟨Tryz.f190.name,by decide,Tryz.func190.trans (congrArg some (by kernel_rfl))⟩
 f57:=⟨Tryz.f206.name,by decide,Tryz.func206.trans (congrArg some (by kernel_rfl))⟩
 t0:=Tryz.underlying0
 a0:=Tryz.isAgg0
 z0:=Tryz.sizeOf0
 v0:=Tryz.zeroValue0
 t3:=Tryz.underlying3
 a3:=Tryz.isAgg3
 z3:=Tryz.sizeOf3
 v3:=Tryz.zeroValue3
 t4:=Tryz.underlying4
 a4:=Tryz.isAgg4
 z4:=Tryz.sizeOf4
 v4:=Tryz.zeroValue4
 t5:=Tryz.underlying5
 a5:=Tryz.isAgg5
 z5:=Tryz.sizeOf5
 v5:=Tryz.zeroValue5
 t9:=Tryz.underlying9
 a9:=Tryz.isAgg9
 z9:=Tryz.sizeOf9
 v9:=Tryz.zeroValue9
 t22:=Tryz.underlying24
 a22:=Tryz.isAgg24
 z22:=Tryz.sizeOf24
 v22:=Tryz.zeroValue24
 a24:=Tryz.isAgg25
 z24:=Tryz.sizeOf25
 t25:=Tryz.underlying67
 a25:=Tryz.isAgg67
 z25:=Tryz.sizeOf67
 v25:=Tryz.zeroValue67
 t39:=Tryz.underlying82
 a39:=Tryz.isAgg82
 z39:=Tryz.sizeOf82
 v39:=Tryz.zeroValue82
 t45:=Tryz.underlying103
 a45:=Tryz.isAgg103
 z45:=Tryz.sizeOf103
 v45:=Tryz.zeroValue103
 t46:=Tryz.underlying104
 a46:=Tryz.isAgg104
 z46:=Tryz.sizeOf104
 v46:=Tryz.zeroValue104
 t50:=Tryz.underlying108
 a50:=Tryz.isAgg108
 z50:=Tryz.sizeOf108
 v50:=Tryz.zeroValue108
 t53:=Tryz.underlying111
 a53:=Tryz.isAgg111
 z53:=Tryz.sizeOf111
 v53:=Tryz.zeroValue111
 t55:=Tryz.underlying113
 a55:=Tryz.isAgg113
 z55:=Tryz.sizeOf113
 v55:=Tryz.zeroValue113
 t66:=Tryz.underlying119
 a66:=Tryz.isAgg119
 z66:=Tryz.sizeOf119
 v66:=Tryz.zeroValue119
 t70:=Tryz.underlying123
 a70:=Tryz.isAgg123
 z70:=Tryz.sizeOf123
 v70:=Tryz.zeroValue123
 t76:=Tryz.underlying131
 a76:=Tryz.isAgg131
 z76:=Tryz.sizeOf131
 v76:=Tryz.zeroValue131
 t77:=Tryz.underlying132
 a77:=Tryz.isAgg132
 z77:=Tryz.sizeOf132
 v77:=Tryz.zeroValue132
theorem cmpN_lt_trans (p q r:LI):∀ n i,cmpN p q n i < 0->cmpN q r n i < 0->cmpN p r n i < 0
 | 0,i,h,_=>by simp [cmpN]at h
 | n+1,i,h1,h2=>by
  have ih:=cmpN_lt_trans p q r n (i+1)
  simp only [cmpN]at h1 h2 ⊢
  split at h1<;>split at h2<;>(try split at h1)<;>(try split at h2)<;>(try split)<;>(try split)<;>first | omega | (exact ih h1 h2) | (exfalso;omega)
theorem cmpN_ge_trans (p q r:LI):∀ n i,0<=cmpN p q n i->0<=cmpN q r n i->0<=cmpN p r n i
 | 0,i,_,_=>by simp [cmpN]
 | n+1,i,h1,h2=>by
  have ih:=cmpN_ge_trans p q r n (i+1)
  simp only [cmpN]at h1 h2 ⊢
  split at h1<;>split at h2<;>(try split at h1)<;>(try split at h2)<;>(try split)<;>(try split)<;>first | omega | (exact ih h1 h2) | (exfalso;omega)
theorem cmpN_self (p:LI):∀ n i,cmpN p p n i=0
 | 0,i=>rfl
 | n+1,i=>by simp only [cmpN];rw [if_neg om,if_neg om];exact cmpN_self p n (i+1)
theorem cmpW_self (p:LI):cmpW p p=0:=by unfold cmpW;rw [if_neg om,if_neg om];exact cmpN_self p _ 0
theorem cmpW_lt_trans {p q r:LI} (h1:cmpW p q < 0) (h2:cmpW q r < 0):cmpW p r < 0:=by
 unfold cmpW at *
 have ih:=cmpN_lt_trans p q r p.length 0
 split at h1
 ·split at h2
  ·rw [if_pos om];omega
  ·split at h2
   ·omega
   ·rw [if_pos om];omega
 ·split at h1
  ·omega
  ·have e:p.length=q.length:=by omega
   split at h2
   ·rw [if_pos om];omega
   ·split at h2
    ·omega
    ·rw [if_neg om,if_neg om];rw [<- e]at h2;exact ih h1 h2
theorem cmpW_ge_trans {p q r:LI} (h1:0<=cmpW p q) (h2:0<=cmpW q r):0<=cmpW p r:=by
 unfold cmpW at *
 have ih:=cmpN_ge_trans p q r p.length 0
 split at h1
 ·omega
 ·split at h1
  ·split at h2
   ·omega
   ·split at h2
    ·rw [if_neg om,if_pos om];omega
    ·rw [if_neg om,if_pos om];omega
  ·have e:p.length=q.length:=by omega
   split at h2
   ·omega
   ·split at h2
    ·rw [if_neg om,if_pos om];omega
    ·rw [if_neg om,if_neg om];rw [<- e]at h2;exact ih h1 h2
theorem cmpW_swo:Go.Sort.SWO (ltOf cmpW):=by
 refine⟨fun x=>?_,fun x y z h1 h2=>?_,fun x y z h1 h2=>?_⟩
 ·unfold ltOf;rw [cmpW_self];rfl
 ·unfold ltOf at *
  rw [dtE]at *
  exact cmpW_lt_trans h1 h2
 ·unfold ltOf at *
  rw [dfE]at *
  have:=cmpW_ge_trans (p:=x) (q:=y) (r:=z) om om
  omega
def cmpI (a b:Int):Int:=if a < b then -1 else if a > b then 1 else 0
theorem c_isNaN (a:Int):FunA B 172 [.int .i64 a] (fun rs o=>rs=[.bool false]/\o=[]):=by
 refine wk Tryz.call172 Tryz.func172 rfl Tryz.ntmps172 fun C hC hP hT hfn hpin hfin hX=>wW ?_
 refine Run.R ?_
 refine Run.R ?_
 refine Run.r [2] ?_
 exact⟨by simp,rfl⟩
theorem c_cmpCompare (a b:Int):FunA B 137 [.int .i64 a,.int .i64 b] (fun rs o=>rs=[.int .i64 (cmpI a b)]/\o=[]):=by
 refine wk Tryz.call137 Tryz.func137 rfl Tryz.ntmps137 fun C hC hP hT hfn hpin hfin hX=>wW ?_
 refine Run.R ?_
 refine Run.g fun K hK=>?_
 refine FunA.e hP hT (c_isNaN a) ?_
 refine wE ?_;clear hK K
 refine Run.g fun K hK=>?_
 refine FunA.e hP hT (c_isNaN b) ?_
 refine wE ?_;clear hK K
 refine Run.R ?_
 refine Run.c ?_ ?_
 ·intro h;cases h
 intro _
 refine Run.R ?_
 refine Run.c ?_ ?_
 ·intro h;cases h
 intro _
 refine Run.R ?_
 refine Run.c ?_ ?_
 ·intro h
  rw [dtE]at h
  refine Run.R ?_
  refine Run.r [4] ?_
  unfold cmpI;rw [if_pos h];exact⟨rfl,rfl⟩
 intro h1
 rw [dfE]at h1
 refine Run.R ?_
 refine Run.c ?_ ?_
 ·intro h
  rw [dtE]at h
  refine Run.R ?_
  refine Run.r [4] ?_
  unfold cmpI;rw [if_neg h1,if_pos h];exact⟨rfl,rfl⟩
 intro h2
 rw [dfE]at h2
 refine Run.R ?_
 refine Run.r [4] ?_
 unfold cmpI;rw [if_neg h1,if_neg h2];exact⟨rfl,rfl⟩
theorem c_slicesCompare (p q:LI) (hp:p.length<=1048576):FunA B 138 [.sl false .int p,.sl false .int q] (fun rs o=>(∃ v,rs=[.int .i64 v]/\(p.length=q.length->v=cmpN p q p.length 0))/\o=[]):=by
 refine wk Tryz.call138 Tryz.func138 rfl Tryz.ntmps138 fun C hC hP hT hfn hpin hfin hX=>wW ?_
 refine Run.R ?_
 refine Run.R ?_
 refine Run.loopI (X:=Nat) (fun i=>⟨36,[(0,true,.v (.sl false .int p)),(1,true,.v (.sl false .int q)),(9,true,.v (.sl false .int p)),(10,true,.v (.int .i64 (p.length))),(11,true,.v (.int .i64 i))],[]⟩) (fun i=>i<=p.length/\cmpN p q (p.length - i) i=cmpN p q p.length 0) (fun i=>p.length - i) (0) (⟨by omega,rfl⟩) ?_ ?_
 ·exact Le.s
 rintro i ⟨hi,he⟩ ih
 try simp only []
 refine Run.R ?_
 refine Run.c ?_ ?_
 rotate_left
 ·intro h
  rw [dfE]at h
  refine Run.x ?_
  refine Run.R ?_
  rw [show p.length - i=0 by omega]at he
  refine Run.c ?_ ?_
  ·intro h2
   rw [dtE]at h2
   refine Run.R ?_
   refine Run.r [4] ?_
   exact⟨⟨_,rfl,fun e=>by omega⟩,rfl⟩
  intro h2
  refine Run.R ?_
  refine Run.r [4] ?_
  exact⟨⟨_,rfl,fun e=>he⟩,rfl⟩
 intro h
 rw [dtE]at h
 refine Run.R ?_
 refine Run.R ?_
 refine Run.c ?_ ?_
 ·intro h2
  rw [dtE]at h2
  refine Run.R ?_
  refine Run.r [4] ?_
  exact⟨⟨_,rfl,fun e=>by omega⟩,rfl⟩
 intro h2
 rw [dfE]at h2
 have hs:p.length - i=(p.length - (i+1))+1:=by omega
 rw [hs]at he
 simp only [cmpN]at he
 refine Run.R ?_
 refine Run.g fun K hK=>?_
 refine FunA.e hP hT (c_cmpCompare (p.getD i 0) (q.getD i 0)) ?_
 refine wE ?_;clear hK K
 refine Run.R ?_
 refine Run.c ?_ ?_
 ·intro h3
  have h3:cmpI (p.getD i 0) (q.getD i 0)≠0:=by simpa using h3
  have e2:cmpI (p.getD i 0) (q.getD i 0)=cmpN p q p.length 0:=by
   rw [<- he];unfold cmpI at *
   by_cases k1:p.getD i 0 < q.getD i 0
   ·rw [if_pos k1,if_pos k1]
   ·by_cases k2:p.getD i 0 > q.getD i 0
    ·rw [if_neg k1,if_pos k2,if_neg k1,if_pos k2]
    ·rw [if_neg k1,if_neg k2]at h3;omega
  refine Run.R ?_
  refine Run.r [4] ?_
  exact⟨⟨_,rfl,fun _=>e2⟩,rfl⟩
 intro h3
 have h3:cmpI (p.getD i 0) (q.getD i 0)=0:=by simpa using h3
 have e3:cmpN p q (p.length - (i+1)) (i+1)=cmpN p q p.length 0:=by
  rw [<- he];unfold cmpI at h3
  split at h3
  ·omega
  ·split at h3
   ·omega
   ·rename_i k1 k2;rw [if_neg k1,if_neg k2]
 refine Run.RW ?_
 exact Run.j (ih (i+1) (⟨by omega,e3⟩) mz)
def orL:List Int->Int
 | []=>0
 | x :: l=>if x=0 then orL l else x
theorem orL_drop (xs:LI) {i:Nat} (h:i < xs.length):orL (xs.drop i)=if xs.getD i 0=0 then orL (xs.drop (i+1))else xs.getD i 0:=by
 rw [List.drop_eq_getElem_cons h,getD_eq h];rfl
theorem c_cmpOr (xs:LI) (hl:xs.length<=1048576):FunA B 136 [.sl false .int xs] (fun rs o=>rs=[.int .i64 (orL xs)]/\o=[]):=by
 refine wk Tryz.call136 Tryz.func136 rfl Tryz.ntmps136 fun C hC hP hT hfn hpin hfin hX=>wW ?_
 refine Run.R ?_
 refine Run.R ?_
 refine Run.R ?_
 refine Run.loopI (X:=Nat) (fun i=>⟨18,[(0,true,.v (.sl false .int xs)),(3,true,.v (.int .i64 0)),(6,true,.v (.sl false .int xs)),(7,true,.v (.int .i64 (xs.length))),(8,true,.v (.int .i64 i))],[]⟩) (fun i=>i<=xs.length/\orL (xs.drop i)=orL xs) (fun i=>xs.length - i) (0) (⟨by omega,rfl⟩) ?_ ?_
 ·exact Le.s
 rintro i ⟨hi,he⟩ ih
 try simp only []
 refine Run.R ?_
 refine Run.c ?_ ?_
 rotate_left
 ·intro h
  rw [dfE]at h
  refine Run.x ?_
  refine Run.R ?_
  refine Run.r [2] ?_
  rw [List.drop_eq_nil_of_le om]at he
  exact⟨by rw [<- he];rfl,rfl⟩
 intro h
 rw [dtE]at h
 rw [orL_drop xs om]at he
 refine Run.R ?_
 refine Run.R ?_
 refine Run.c ?_ ?_
 ·intro h2
  have h2:xs.getD i 0≠0:=by simpa using h2
  rw [if_neg h2]at he
  refine Run.R ?_
  refine Run.r [2] ?_
  exact⟨by rw [he],rfl⟩
 intro h2
 have h2:xs.getD i 0=0:=by simpa using h2
 rw [if_pos h2]at he
 refine Run.RW ?_
 exact Run.j (ih (i+1) (⟨by omega,he⟩) mz)
theorem c_impl_CompareWords (p q:LI) (hp:p.length<=1048576):FunA B 91 [.sl false .int p,.sl false .int q] (fun rs o=>rs=[.int .i64 (cmpW p q)]/\o=[]):=by
 refine wk Tryz.call91 Tryz.func91 rfl Tryz.ntmps91 fun C hC hP hT hfn hpin hfin hX=>wW ?_
 refine Run.R ?_
 refine Run.g fun K hK=>?_
 refine FunA.e hP hT (c_cmpCompare (p.length:Int) (q.length:Int)) ?_
 refine FunA.cW hP hT (c_slicesCompare p q hp) ?_
 rintro rs o ⟨⟨v,rfl,hv⟩,rfl⟩
 refine wW ?_
 refine FunA.e hP hT (c_cmpOr [cmpI p.length q.length,v] (by simp)) ?_
 refine wE ?_;clear hK K
 have e:orL [cmpI p.length q.length,v]=cmpW p q:=by
  simp only [orL]
  unfold cmpI cmpW
  by_cases k1:p.length < q.length
  ·rw [if_pos (by omega:(p.length:Int) < q.length),if_pos k1];rfl
  ·by_cases k2:p.length > q.length
   ·rw [if_neg (by omega:¬(p.length:Int) < q.length),if_pos (by omega:(p.length:Int) > q.length),if_neg k1,if_pos k2];rfl
   ·rw [if_neg (by omega:¬(p.length:Int) < q.length),if_neg (by omega:¬(p.length:Int) > q.length),if_neg k1,if_neg k2,if_pos rfl,<- hv om]
    split
    ·rename_i h;exact h.symm
    ·rfl
 refine Run.k [4] [] ?_
 refine Run.r [4] ?_
 rw [e];exact⟨rfl,rfl⟩
open Go.Cox
theorem rfl_none {c:LL} {r:LI} (h:rflO c r=none):rflB c r=false/\rflX c r=[]:=by
 have:rflB c r=false:=by simp [rflB,h]
 exact⟨this,by simp [rflX,this]⟩
theorem rfl_off {c:LL} {r:LI} (h:(wgtB c r && (sgnR r == 1))=false):rflO c r=none:=by
 unfold rflO;rw [h];rfl
theorem rfl_on {c:LL} {r:LI} (h1:wgtB c r=true) (h2:sgnR r=1):rflO c r=rflP c 7 r []:=by
 unfold rflO;rw [h1,h2];rfl
theorem c_impl_ReflectionOf (c:LL) (r:LI) :
  FunA B 9 [.sl false (.row false) c,.sl false .int r] (fun rs o=>rs=[.own 0 0,.bool (rflB c r)]/\o=[.arr .int (rflX c r) 0 true]):=by
 refine wk Tryz.call9 Tryz.func9 rfl Tryz.ntmps9 fun C hC hP hT hfn hpin hfin hX=>wW ?_
 refine Run.R ?_
 refine Run.g fun K hK=>?_
 refine FunA.e hP hT (c_impl_IsRootVector c r) ?_
 refine .inl (FunA.callG hP hT (c_impl_RootSign r) (fun _=>rfl) (fun _=>by simp only [AW7,simprocAttr]) ?_)
 refine wF ?_;clear hK K
 refine Run.c ?_ ?_
 ·intro h
  have h:(wgtB c r && (sgnR r == 1))=false:=by
   revert h
   cases wgtB c r with
   | false=>simp
   | true=>intro h;simpa using h
  obtain⟨e1,e2⟩:=rfl_none (rfl_off h)
  refine Run.R ?_
  refine Run.k [4,5] [0] ?_
  refine Run.r [4,5] ?_
  rw [e1,e2];exact⟨rfl,rfl⟩
 intro h
 have hwb:wgtB c r=true:=by revert h;cases wgtB c r<;>simp
 have hsg:sgnR r=1:=by revert h;rw [hwb];simp
 obtain⟨hc,hw⟩:=wgtB_iff.1 hwb
 have hn:=hc.2.1
 have hO:=rfl_on hwb hsg
 refine Run.R ?_
 refine Run.k [0,1,6] [0] ?_
 refine Run.loopI (X:=List Int×List Int×Bool) (fun x=>⟨78,[(0,true,.v (.sl false (.row false) c)),(1,true,.v (.sl x.2.2 .int x.1)),(6,true,.v (.own 0 0))],[.arr .int (x.2.1) 0 true]⟩) (fun x=>Dn c x.1/\x.2.1.length<=7/\letters c.length x.2.1/\rflO c r=rflP c (7 - x.2.1.length) x.1 x.2.1) (fun x=>7 - x.2.1.length) ((r,[],false)) (⟨Dn.start hc hw hsg,by simp,letters_nil _,hO⟩) ?_ ?_
 ·exact Le.s
 rintro⟨s,p,f⟩ ⟨hD,hp7,hpl,hE⟩ ihO
 try simp only []
 simp only []at hD hp7 hpl hE
 have hb:=hD.bnd
 have hl:=hD.len
 refine Run.g fun K hK=>?_
 refine FunA.e hP hT (c_impl_HeightOf s (fun x hx=>by have:=hb x hx;omega) om) ?_
 refine wE ?_;clear hK K
 refine Run.c ?_ ?_
 ·intro h1
  have h1:¬hgt s=1:=by simpa using h1
  have hsi:=Dn.notone (c:=c) h1
  refine Run.R ?_
  refine Run.R ?_
  refine Run.k [0,1,6,7,28,29] [0,1] ?_
  refine Run.join ⟨78,[(0,true,.v (.sl false (.row false) c)),(1,true,.v (.sl f .int s)),(6,true,.v (.own 0 0)),(7,true,.v (.own 1 0))],[.arr .int (lowP c s p) 0 true,.arr .int (lowR c s) 0 true]⟩ ?_ (fun cont=>?_)
  ·cases hlo:lowI c s with
   | none=>
    simp only [lowP,lowR,hlo]
    refine Run.g fun K hK=>?_
    simp only [lenN]
    refine .inl (CallG.off (.int .i64 0) ?_)
    refine wF ?_;clear hK K
    refine Run.c ?_ ?_
    rotate_left
    ·intro h;simp at h
    intro _
    obtain⟨e1,e2⟩:=rfl_none (hE.trans (rflP_stop hsi hlo _ _))
    refine Run.R ?_
    refine Run.k [4,5] [2] ?_
    refine Run.r [4,5] ?_
    rw [e1,e2];exact⟨rfl,rfl⟩
   | some i=>
    obtain⟨hi,hlt,_⟩:=find_some' hlo
    have hml:=mir_len c i s
    simp only [lowP,lowR,hlo]
    refine Run.g fun K hK=>?_
    refine .inl (FunA.callG hP hT (c_impl_RootSign (mirL c i s)) (fun _=>rfl) (fun _=>by simp only [AW7,simprocAttr]) ?_)
    refine wF ?_;clear hK K
    refine Run.c ?_ ?_
    ·intro h2
     have hz:rflO c r=none:=by
      rw [hE]
      rcases Nat.lt_or_ge p.length 7 with hp | hp
      ·rw [show 7 - p.length=(7 - (p.length+1))+1 by omega,rflP_step hsi hlo,if_neg]
       intro h3
       rw [h3]at h2
       have e1:(((mirL c i s).length:Int) == 0)=false:=by simp only [beq_eq_false_iff_ne];omega
       rw [e1]at h2
       simp at h2
       omega
      ·rw [show 7 - p.length=0 by omega,rflP_zero hsi]
     obtain⟨e1,e2⟩:=rfl_none hz
     refine Run.R ?_
     refine Run.k [4,5] [2] ?_
     refine Run.r [4,5] ?_
     rw [e1,e2];exact⟨rfl,rfl⟩
    ·intro h2
     have h3:sgnR (mirL c i s)=1/\p.length < 7:=by
      by_cases hs:sgnR (mirL c i s)=1
      ·refine⟨hs,?_⟩
       have e1:(((mirL c i s).length:Int) == 0)=false:=by simp only [beq_eq_false_iff_ne];omega
       rw [hs,e1]at h2
       simp at h2
       omega
      ·simp [hs]at h2
     refine Run.R ?_
     refine Run.l 1 [0,1,6] ?_
     refine Run.k [0,1,6] [0] ?_
     exact Run.j (ihO ((mirL c i s,p ++ [(i:Int)],true)) (⟨hD.next hlo h3.1,by simp;omega,letters_append.2 ⟨hpl,letters_cons.2 ⟨by omega,letters_nil _⟩⟩,by rw [hE,show 7 - p.length=(7 - (p ++ [(i:Int)]).length)+1 by simp only [lenA,lenC,lenN];omega,rflP_step hsi hlo,if_pos h3.1]⟩) mz)
  ·refine Run.loopI (X:=Nat) (fun k=>⟨78,[(0,true,.v (.sl false (.row false) c)),(1,true,.v (.sl f .int s)),(6,true,.v (.own 0 0)),(7,true,.v (.own 1 0)),(28,true,.v (.int .i64 (c.length))),(29,true,.v (.int .i64 k))],[.arr .int (p) 0 true,.arr .int ([]) 0 true]⟩) (fun k=>k<=c.length/\∀ j,j < k->decide (hgt (mirL c j s) < hgt s)=false) (fun k=>c.length - k) (0) (⟨nz0 _,by omega⟩) ?_ ?_
   ·exact Le.s
   rintro k ⟨hk,hpre⟩ ih
   try simp only []
   refine Run.R ?_
   refine Run.c ?_ ?_
   ·intro h2
    have h2:k < c.length:=by simpa using h2
    have hmb:=mir_bnd hc (i:=(k:Int)) om hl (M:=4000) om hb
    have hml:=mir_len c k s
    refine Run.R ?_
    refine Run.g fun K hK=>?_
    refine FunA.e hP hT (c_impl_mirrored c (k:Int) s hc om hl (fun x hx=>by have:=hb x hx;omega)) ?_
    refine wE ?_;clear hK K
    refine Run.g fun K hK=>?_
    refine FunA.e hP hT (c_impl_HeightOf (mirL c k s) (fun x hx=>by have:=hmb x hx;omega) om) ?_
    refine FunA.e hP hT (c_impl_HeightOf s (fun x hx=>by have:=hb x hx;omega) om) ?_
    refine wE ?_;clear hK K
    refine Run.c ?_ ?_
    ·intro h3
     have hlo:lowI c s=some k:=find_some h2 h3 hpre
     refine Run.R ?_
     refine Run.R ?_
     refine Run.exit rfl ?_
     refine Run.k [0,1,6,7] [0,2] ?_
     refine Run.le ?_ cont
     simp only [lowP,lowR,hlo]
     exact Le.sub (by rfl) (by simp only [AW7,simprocAttr];try simp)
    ·intro h3
     have hp2:∀ j,j < k+1->decide (hgt (mirL c j s) < hgt s)=false:=fun j hj=>by
      by_cases hjk:j=k
      ·subst hjk;exact h3
      ·exact hpre j om
     refine Run.k [0,1,6,7,28,29] [0,1] ?_
     refine Run.RW ?_
     exact Run.j (ih (k+1) (⟨by omega,hp2⟩) mz)
   ·intro h2
    have h2:k=c.length:=by simp at h2;omega
    subst h2
    have hlo:lowI c s=none:=find_none hpre
    refine Run.exit rfl ?_
    refine Run.le ?_ cont
    simp only [lowP,lowR,hlo]
    exact Le.sub (by rfl) (by simp only [AW7,simprocAttr];try simp)
 ·intro h1
  have h1:hgt s=1:=by simpa using h1
  obtain⟨i,hi,hr,hsi⟩:=hD.one h1
  have hz:=hE.trans (rflP_sim hsi _ _)
  have hlw:letters c.length (p ++ [(i:Int)] ++ p.reverse):=letters_append.2 ⟨letters_append.2 ⟨hpl,letters_cons.2 ⟨by omega,letters_nil _⟩⟩,letters_reverse hpl⟩
  have hll:(p ++ [(i:Int)] ++ p.reverse).length<=31:=by simp;omega
  obtain⟨a1,a2,a3,a4,a5⟩:=red_spec hc hlw hll
  have hix:idxN s 1 s.length=i:=by rw [hr];exact idx_sim c.length i hi
  refine Run.x ?_
  refine Run.g fun K hK=>?_
  refine FunA.cW hP hT (c_slices_Index s 1 om) ?_
  rintro rs o ⟨rfl,rfl⟩
  rw [hix]
  refine wW ?_
  refine FunA.e hP hT (c_impl_ReverseWord p om) ?_
  refine FunA.cW hP hT (c_slices_Concat [p,[(i:Int)],p.reverse] (by simp [sumL];omega) (by simp)) ?_
  rintro rs o ⟨nn,rfl,rfl⟩
  refine wF ?_;clear hK K
  rw [show([p,[(i:Int)],p.reverse]:LL).flatten=p ++ [(i:Int)] ++ p.reverse by simp]
  refine Run.g fun K hK=>?_
  refine FunA.e hP hT (c_impl_reduced c (p ++ [(i:Int)] ++ p.reverse) hc hlw hll) ?_
  refine wE ?_;clear hK K
  refine Run.R ?_
  refine Run.c ?_ ?_
  ·intro h2
   have h2:¬(redL c (p ++ [(i:Int)] ++ p.reverse)).length<=15:=by simp only [dtE]at h2;omega
   have e1:rflB c r=false:=by unfold rflB;rw [hz];show(true && decide ((redL c (p ++ [(i:Int)] ++ p.reverse)).length<=15))=false;rw [decide_eq_false h2];rfl
   have e2:rflX c r=[]:=by unfold rflX;rw [e1];rfl
   refine Run.R ?_
   refine Run.k [4,5] [6] ?_
   refine Run.r [4,5] ?_
   rw [e1,e2];exact⟨rfl,rfl⟩
  ·intro h2
   have h2:(redL c (p ++ [(i:Int)] ++ p.reverse)).length<=15:=by simp only [dfE]at h2;omega
   have e1:rflB c r=true:=by unfold rflB;rw [hz];show(true && decide ((redL c (p ++ [(i:Int)] ++ p.reverse)).length<=15))=true;rw [decide_eq_true h2];rfl
   have e2:rflX c r=redL c (p ++ [(i:Int)] ++ p.reverse):=by unfold rflX;rw [e1,hz];rfl
   refine Run.R ?_
   refine Run.k [4,5] [5] ?_
   refine Run.r [4,5] ?_
   rw [e1,e2];exact⟨rfl,rfl⟩
theorem Run.joinP {C:Ctx} {i j:Item} {k:List Item} {σ:St} (σ':St) (p:Prop) (h1:p->Run C k σ') (h2:(p->Run C k σ')->Run C (i :: j :: k) σ):Run C (i :: j :: k) σ:=h2 h1
theorem c_spec_ReflectionOf (c:LL) (r:LI) :
  FunA B 10 [.sl false (.row false) c,.sl false .int r] (fun rs o=>rs=[.own 0 0,.bool (rflB c r)]/\o=[.arr .int (rflX c r) 0 true]):=by
 refine wk Tryz.call10 Tryz.func10 rfl Tryz.ntmps10 fun C hC hP hT hfn hpin hfin hX=>wW ?_
 refine Run.R ?_
 refine Run.g fun K hK=>?_
 refine FunA.e hP hT (c_spec_IsRootVector c r) ?_
 refine .inl (FunA.callG hP hT (c_spec_RootSign r) (fun _=>rfl) (fun _=>by simp only [AW7,simprocAttr]) ?_)
 refine wF ?_;clear hK K
 refine Run.c ?_ ?_
 ·intro h
  have h:(wgtB c r && (sgnR r == 1))=false:=by
   revert h
   cases wgtB c r with
   | false=>simp
   | true=>
    intro h
    have h:sgnR r<=0:=by simpa using h
    have:=sgnR_pos.1 h
    simpa using this
  obtain⟨e1,e2⟩:=rfl_none (rfl_off h)
  refine Run.R ?_
  refine Run.k [4,5] [0] ?_
  refine Run.r [4,5] ?_
  rw [e1,e2];exact⟨rfl,rfl⟩
 intro h
 have hwb:wgtB c r=true:=by revert h;cases wgtB c r<;>simp
 have hsg:sgnR r=1:=by
  revert h;rw [hwb];intro h
  have h:¬sgnR r<=0:=by simpa using h
  cases Int.decEq (sgnR r) 1 with
  | isTrue h1=>exact h1
  | isFalse h1=>exact absurd (sgnR_pos.2 h1) h
 obtain⟨hc,hw⟩:=wgtB_iff.1 hwb
 have hn:=hc.2.1
 have hO:=rfl_on hwb hsg
 have hrl:=hw.1
 refine Run.R ?_
 refine Run.R ?_
 refine Run.R ?_
 refine Run.k [0,1,6,7,8] [0,1] ?_
 refine Run.loopI (X:=List Int×List Int) (fun x=>⟨92,[(0,true,.v (.sl false (.row false) c)),(1,true,.v (.sl false .int r)),(6,true,.v (.own 0 0)),(7,true,.v (.own 1 0)),(8,true,.v (.int .i64 (x.2.length)))],[.arr .int (x.1) 0 true,.arr .int (x.2) 0 true]⟩) (fun x=>Dn c x.1/\x.2.length<=8/\letters c.length x.2/\(x.2.length<=7->rflO c r=rflP c (7 - x.2.length) x.1 x.2)/\(x.2.length=8->rflO c r=none)) (fun x=>8 - x.2.length) ((r,[])) (⟨Dn.start hc hw hsg,by simp,letters_nil _,fun _=>hO,fun h=>by simp at h⟩) ?_ ?_
 ·exact Le.s
 rintro⟨s,p⟩ ⟨hD,hp8,hpl,hE,hZ⟩ ihO
 try simp only []
 simp only []at hD hp8 hpl hE hZ
 have hb:=hD.bnd
 have hl:=hD.len
 refine Run.R ?_
 refine Run.c ?_ ?_
 rotate_left
 ·intro h1
  have h1:p.length=8:=by simp at h1;omega
  obtain⟨e1,e2⟩:=rfl_none (hZ h1)
  refine Run.x ?_
  refine Run.R ?_
  refine Run.k [4,5] [2] ?_
  refine Run.r [4,5] ?_
  rw [e1,e2];exact⟨rfl,rfl⟩
 intro h1
 have h1:p.length<=7:=by simp at h1;omega
 have hE:=hE h1
 clear hZ
 refine Run.R ?_
 refine Run.k [0,1,6,7,8,9] [0,1] ?_
 refine Run.joinP ⟨92,[(0,true,.v (.sl false (.row false) c)),(1,true,.v (.sl false .int r)),(6,true,.v (.own 0 0)),(7,true,.v (.own 1 0)),(8,true,.v (.int .i64 p.length))],[.arr .int s 0 true,.arr .int p 0 true]⟩ (simI c s=none) ?_ (fun cont=>?_)
 rotate_left
 ·refine Run.loopI (X:=Nat) (fun k=>⟨92,[(0,true,.v (.sl false (.row false) c)),(1,true,.v (.sl false .int r)),(6,true,.v (.own 0 0)),(7,true,.v (.own 1 0)),(8,true,.v (.int .i64 (p.length))),(9,true,.v (.int .i64 k))],[.arr .int (s) 0 true,.arr .int (p) 0 true]⟩) (fun k=>k<=c.length/\∀ j,j < k->(s == simL c.length j)=false) (fun k=>c.length - k) (0) (⟨nz0 _,by omega⟩) ?_ ?_
  ·exact Le.s
  rintro k ⟨hk,hpre⟩ ih
  try simp only []
  refine Run.R ?_
  refine Run.c ?_ ?_
  ·intro h2
   have h2:k < c.length:=by simpa using h2
   have hsl:=simL_len c.length k
   refine Run.g fun K hK=>?_
   refine FunA.e hP hT (c_spec_SimpleRoot c (k:Int) hc om) ?_
   refine FunA.e hP hT (c_spec_EqualWords s (simL c.length k) om) ?_
   refine wE ?_;clear hK K
   refine Run.c ?_ ?_
   ·intro h3
    have hsi:simI c s=some k:=find_some h2 h3 hpre
    have hz:=hE.trans (rflP_sim hsi _ _)
    have hlw:letters c.length (p ++ [(k:Int)] ++ p.reverse):=letters_append.2 ⟨letters_append.2 ⟨hpl,letters_cons.2 ⟨by omega,letters_nil _⟩⟩,letters_reverse hpl⟩
    have hll:(p ++ [(k:Int)] ++ p.reverse).length<=31:=by simp;omega
    refine Run.g fun K hK=>?_
    refine FunA.e hP hT (c_spec_ConcatWords p [(k:Int)] om (by simp)) ?_
    refine FunA.e hP hT (c_spec_ReverseWord p om) ?_
    refine FunA.e hP hT (c_spec_ConcatWords (p ++ [(k:Int)]) p.reverse (by simp;omega) (by simp;omega)) ?_
    refine wE ?_;clear hK K
    refine Run.g fun K hK=>?_
    refine FunA.e hP hT (c_spec_l9Fit c (p ++ [(k:Int)] ++ p.reverse) hc hlw hll) ?_
    refine wE ?_;clear hK K
    refine Run.R ?_
    have e1:rflB c r=decide ((redL c (p ++ [(k:Int)] ++ p.reverse)).length<=15):=by unfold rflB;rw [hz];rfl
    have e2:rflX c r=if (redL c (p ++ [(k:Int)] ++ p.reverse)).length<=15 then redL c (p ++ [(k:Int)] ++ p.reverse)else []:=by
     unfold rflX;rw [e1,hz];simp only [dtE];rfl
    refine Run.k [4,5] [7] ?_
    refine Run.r [4,5] ?_
    rw [e1,e2];exact⟨rfl,rfl⟩
   ·intro h3
    have hp2:∀ j,j < k+1->(s == simL c.length j)=false:=fun j hj=>by
     by_cases hjk:j=k
     ·subst hjk;exact h3
     ·exact hpre j om
    refine Run.k [0,1,6,7,8,9] [0,1] ?_
    refine Run.RW ?_
    exact Run.j (ih (k+1) (⟨by omega,hp2⟩) mz)
  ·intro h2
   have h2:k=c.length:=by simp at h2;omega
   subst h2
   refine Run.exit rfl ?_
   refine Run.le ?_ (cont (find_none hpre))
   exact Le.sub (by rfl) (by simp only [AW7,simprocAttr];try simp)
 intro hsi
 refine Run.R ?_
 refine Run.joinP ⟨92,[(0,true,.v (.sl false (.row false) c)),(1,true,.v (.sl false .int r)),(6,true,.v (.own 0 0)),(7,true,.v (.own 1 0)),(8,true,.v (.int .i64 p.length)),(13,true,.v (.int .i64 ((lowI c s).getD c.length:Nat)))],[.arr .int s 0 true,.arr .int p 0 true]⟩ True ?_ (fun cont=>?_)
 rotate_left
 ·refine Run.loopI (X:=Nat) (fun k=>⟨92,[(0,true,.v (.sl false (.row false) c)),(1,true,.v (.sl false .int r)),(6,true,.v (.own 0 0)),(7,true,.v (.own 1 0)),(8,true,.v (.int .i64 (p.length))),(13,true,.v (.int .i64 k))],[.arr .int (s) 0 true,.arr .int (p) 0 true]⟩) (fun k=>k<=c.length/\∀ j,j < k->decide (hgt (mirL c j s) < hgt s)=false) (fun k=>c.length - k) (0) (⟨nz0 _,by omega⟩) ?_ ?_
  ·exact Le.s
  rintro k ⟨hk,hpre⟩ ih
  try simp only []
  by_cases h2:k < c.length
  ·have h2':decide ((k:Int) < c.length)=true:=by rw [dtE];omega
   have hmb:=mir_bnd hc (i:=(k:Int)) om hl (M:=4000) om hb
   have hml:=mir_len c k s
   refine Run.g fun K hK=>?_
   simp only [h2']
   refine .inr ⟨rfl,?_⟩
   refine FunA.e hP hT (c_spec_l7Reflect c (k:Int) s hc om hl (fun x hx=>by have:=hb x hx;omega)) ?_
   refine .inr ⟨rfl,?_⟩
   refine FunA.e hP hT (c_spec_HeightOf (mirL c k s) (fun x hx=>by have:=hmb x hx;omega) om) ?_
   refine .inr ⟨rfl,?_⟩
   refine FunA.e hP hT (c_spec_HeightOf s (fun x hx=>by have:=hb x hx;omega) om) ?_
   refine wE ?_;clear hK K
   refine Run.c ?_ ?_
   ·intro h3
    have h3:decide (hgt (mirL c k s) < hgt s)=false:=by simp at h3;simp;omega
    have hp2:∀ j,j < k+1->decide (hgt (mirL c j s) < hgt s)=false:=fun j hj=>by
     by_cases hjk:j=k
     ·subst hjk;exact h3
     ·exact hpre j om
    refine Run.k [0,1,6,7,8,13] [0,1] ?_
    refine Run.RW ?_
    exact Run.j (ih (k+1) (⟨by omega,hp2⟩) mz)
   ·intro h3
    have h3:decide (hgt (mirL c k s) < hgt s)=true:=by simp at h3;simp;omega
    have hlo:lowI c s=some k:=find_some h2 h3 hpre
    refine Run.k [0,1,6,7,8,13] [0,1] ?_
    refine Run.exit rfl ?_
    refine Run.le ?_ (cont trivial)
    rw [hlo]
    exact Le.sub (by rfl) (by simp only [AW7,simprocAttr];try simp)
  ·have h2':decide ((k:Int) < c.length)=false:=by rw [dfE];omega
   have hkk:k=c.length:=by omega
   subst hkk
   have hlo:lowI c s=none:=find_none hpre
   refine Run.g fun K hK=>?_
   simp only [h2']
   refine .inl (CallG.off (.sl false .int []) ?_)
   refine wW ?_
   refine .inl (CallG.off (.int .i64 0) ?_)
   refine wW ?_
   refine .inl (CallG.off (.int .i64 0) ?_)
   refine wF ?_;clear hK K
   refine Run.c ?_ ?_
   ·intro h;cases h
   intro _
   refine Run.exit rfl ?_
   refine Run.le ?_ (cont trivial)
   rw [hlo]
   exact Le.sub (by rfl) (by simp only [AW7,simprocAttr];try simp)
 intro _
 refine Run.R ?_
 refine Run.c ?_ ?_
 ·intro h2
  have h2:(lowI c s).getD c.length=c.length:=by simp at h2;omega
  have hlo:lowI c s=none:=by
   cases hlo:lowI c s with
   | none=>rfl
   | some i=>have:=(find_some' hlo).1;rw [hlo]at h2;simp at h2;omega
  obtain⟨e1,e2⟩:=rfl_none (hE.trans (rflP_stop hsi hlo _ _))
  refine Run.R ?_
  refine Run.k [4,5] [2] ?_
  refine Run.r [4,5] ?_
  rw [e1,e2];exact⟨rfl,rfl⟩
 intro h2
 have h2:¬(lowI c s).getD c.length=c.length:=by simp at h2;omega
 obtain⟨i,hlo⟩:∃ i,lowI c s=some i:=by
  cases hlo:lowI c s with
  | some i=>exact⟨i,rfl⟩
  | none=>rw [hlo]at h2;exact absurd rfl h2
 obtain⟨hi,hlt,_⟩:=find_some' hlo
 have hml:=mir_len c i s
 rw [hlo]
 simp only [Option.getD_some]
 refine Run.g fun K hK=>?_
 refine FunA.e hP hT (c_spec_l7Reflect c (i:Int) s hc om hl (fun x hx=>by have:=hb x hx;omega)) ?_
 refine wE ?_;clear hK K
 refine Run.R ?_
 refine Run.g fun K hK=>?_
 refine FunA.e hP hT (c_spec_RootSign (mirL c i s)) ?_
 refine wE ?_;clear hK K
 refine Run.c ?_ ?_
 ·intro h3
  have h3:¬sgnR (mirL c i s)=1:=sgnR_pos.1 (by simpa using h3)
  have hz:rflO c r=none:=by
   rw [hE]
   rcases Nat.lt_or_ge p.length 7 with hp | hp
   ·rw [show 7 - p.length=(7 - (p.length+1))+1 by omega,rflP_step hsi hlo,if_neg h3]
   ·rw [show 7 - p.length=0 by omega,rflP_zero hsi]
  obtain⟨e1,e2⟩:=rfl_none hz
  refine Run.R ?_
  refine Run.k [4,5] [4] ?_
  refine Run.r [4,5] ?_
  rw [e1,e2];exact⟨rfl,rfl⟩
 intro h3
 have h3:sgnR (mirL c i s)=1:=by
  cases Int.decEq (sgnR (mirL c i s)) 1 with
  | isTrue h1=>exact h1
  | isFalse h1=>have:=sgnR_pos.2 h1;simp at h3;omega
 refine Run.k [0,1,6,7,8] [2,1] ?_
 refine Run.RW ?_
 have hl1:(p ++ [(i:Int)]).length=p.length+1:=by simp
 refine Run.le ?_ (ihO ((mirL c i s,p ++ [(i:Int)])) (⟨hD.next hlo h3,by simp only [];omega,letters_append.2 ⟨hpl,letters_cons.2 ⟨by omega,letters_nil _⟩⟩,fun h7=>by rw [hE,show 7 - p.length=(7 - (p ++ [(i:Int)]).length)+1 by simp only []at h7;omega,rflP_step hsi hlo,if_pos h3],fun h8=>by rw [hE,show 7 - p.length=0 by simp only []at h8;omega,rflP_zero hsi]⟩) (by(try simp only [lenA,lenC,lenN]);omega))
 exact Le.sub (by first | rfl | (simp only [hl1];done) | (rw [hl1];rfl)) (by simp only [AW7,simprocAttr];try simp)
def actR (c:LL) (w r:LI):List Int:=w.foldr (mirL c) r
theorem actR_len (c:LL) (r:LI):∀ w,(actR c w r).length=r.length
 | []=>rfl
 | i :: w=>by show(mirL c i (actR c w r)).length=_;rw [mir_len,actR_len c r w]
theorem actR_drop (c:LL) (w r:LI) (j:Nat) (h:j < w.length):actR c (w.drop j) r=mirL c (w.getD j 0) (actR c (w.drop (j+1)) r):=by
 have e:w.drop j=w.getD j 0 :: w.drop (j+1):=by rw [List.drop_eq_getElem_cons h];simp [h]
 rw [e];rfl
theorem c_impl_actedRoot (c:LL) (w r:LI) (hc:CartanP c) (hw:letters c.length w) (hl:r.length=c.length) (hwl:w.length<=1048576) (hB:∀ j,Bnd 100000000000000000 (actR c (w.drop j) r)) :
  FunA B 98 [.sl false (.row false) c,.sl false .int w,.sl false .int r] (fun rs o=>rs=[.own 0 0]/\o=[.arr .int (actR c w r) 0 true]):=by
 have hn:=hc.2.1
 refine wk Tryz.call98 Tryz.func98 rfl Tryz.ntmps98 fun C hC hP hT hfn hpin hfin hX=>wW ?_
 refine Run.R ?_
 refine Run.R ?_
 refine Run.RW ?_
 refine Run.k [0,1,2,7,8] [0] ?_
 have hd0:actR c (w.drop w.length) r=r:=by rw [List.drop_length];rfl
 refine Run.le (Le.sub (fr':=[(0,true,.v (.sl false (.row false) c)),(1,true,.v (.sl false .int w)),(2,true,.v (.sl false .int r)),(7,true,.v (.own 0 0)),(8,true,.v (.int .i64 ((w.length:Int) - 1)))]) (obs':=[.arr .int (actR c (w.drop w.length) r) 0 true]) (by rw [hd0]) (by simp only [AW7,simprocAttr];try simp)) ?_
 refine Run.loopI (X:=Nat) (fun j=>⟨27,[(0,true,.v (.sl false (.row false) c)),(1,true,.v (.sl false .int w)),(2,true,.v (.sl false .int r)),(7,true,.v (.own 0 0)),(8,true,.v (.int .i64 (((j:Int) - 1))))],[.arr .int ((actR c (w.drop j) r)) 0 true]⟩) (fun j=>j<=w.length) (fun j=>j) (w.length) (Nat.le_refl _) ?_ ?_
 ·exact Le.s
 rintro j hj ih
 try simp only []
 have hal:=actR_len c r (w.drop j)
 cases j with
 | zero=>
  refine Run.R ?_
  refine Run.c ?_ ?_
  ·intro h;simp at h
  intro _
  refine Run.x ?_
  refine Run.R ?_
  refine Run.k [6] [0] ?_
  refine Run.r [6] ?_
  exact⟨rfl,by rw [List.drop_zero]⟩
 | succ j=>
  have e2:((j+1:Nat):Int) - 1=j:=by omega
  rw [e2]
  refine Run.R ?_
  refine Run.c ?_ ?_
  rotate_left
  ·intro h;simp at h
  intro _
  have hlet:=letters_getD.1 hw j om
  have hdr:=actR_drop c w r j om
  refine Run.g fun K hK=>?_
  refine FunA.e hP hT (c_impl_mirrored c (w.getD j 0) (actR c (w.drop (j+1)) r) hc hlet om (hB (j+1))) ?_
  refine wE ?_;clear hK K
  rw [<- hdr]
  refine Run.RW ?_
  refine Run.k [0,1,2,7,8] [1] ?_
  exact Run.j (ih (j) om mz)
theorem c_spec_ActOnRoot (c:LL) (w r:LI) (hW:WordP c w) (hl:r.length=c.length) (hB:∀ j,Bnd 100000000000000000 (actR c (w.drop j) r)) :
  FunA B 13 [.sl false (.row false) c,.sl false .int w,.sl false .int r] (fun rs o=>rs=[.own 0 0]/\o=[.arr .int (actR c w r) 0 true]):=by
 have hc:=hW.1
 have hn:=hc.2.1
 have hwl:=hW.2.1
 have hwb:wordB c w=true:=wordB_iff.2 hW
 refine wk Tryz.call13 Tryz.func13 rfl Tryz.ntmps13 fun C hC hP hT hfn hpin hfin hX=>wW ?_
 refine Run.R ?_
 refine Run.R ?_
 refine Run.RW ?_
 refine Run.k [0,1,2,7,8] [0] ?_
 have hd0:actR c (w.drop w.length) r=r:=by rw [List.drop_length];rfl
 refine Run.le (Le.sub (fr':=[(0,true,.v (.sl false (.row false) c)),(1,true,.v (.sl false .int w)),(2,true,.v (.sl false .int r)),(7,true,.v (.own 0 0)),(8,true,.v (.int .i64 ((w.length:Int) - 1)))]) (obs':=[.arr .int (actR c (w.drop w.length) r) 0 true]) (by rw [hd0]) (by simp only [AW7,simprocAttr];try simp)) ?_
 refine Run.loopI (X:=Nat) (fun j=>⟨39,[(0,true,.v (.sl false (.row false) c)),(1,true,.v (.sl false .int w)),(2,true,.v (.sl false .int r)),(7,true,.v (.own 0 0)),(8,true,.v (.int .i64 (((j:Int) - 1))))],[.arr .int ((actR c (w.drop j) r)) 0 true]⟩) (fun j=>j<=w.length) (fun j=>j) (w.length) (Nat.le_refl _) ?_ ?_
 ·exact Le.s
 rintro j hj ih
 try simp only []
 have hal:=actR_len c r (w.drop j)
 cases j with
 | zero=>
  have e1:decide ((0:Int)<=((0:Nat):Int) - 1)=false:=by decide
  refine Run.g fun K hK=>?_
  try simp only [e1]
  refine .inl (CallG.off (.bool false) ?_)
  refine wF ?_;clear hK K
  refine Run.c ?_ ?_
  ·intro h;cases h
  intro _
  refine Run.x ?_
  refine Run.R ?_
  refine Run.k [6] [0] ?_
  refine Run.r [6] ?_
  exact⟨rfl,by rw [List.drop_zero]⟩
 | succ j=>
  have e1:decide ((0:Int)<=((j+1:Nat):Int) - 1)=true:=by rw [dtE];omega
  have e2:((j+1:Nat):Int) - 1=j:=by omega
  refine Run.g fun K hK=>?_
  simp only [e1]
  refine .inr ⟨rfl,?_⟩
  refine FunA.cW hP hT (c_spec_IsWord c w om) ?_
  rintro rs o ⟨rfl,rfl⟩
  simp only [hwb]
  refine wF ?_;clear hK K
  refine Run.c ?_ ?_
  rotate_left
  ·intro h;simp [hl]at h
  intro _
  rw [e2]
  have hlet:=letters_getD.1 hW.2.2 j om
  have hdr:=actR_drop c w r j om
  refine Run.g fun K hK=>?_
  refine FunA.e hP hT (c_spec_l7Reflect c (w.getD j 0) (actR c (w.drop (j+1)) r) hc hlet om (hB (j+1))) ?_
  refine wE ?_;clear hK K
  rw [<- hdr]
  refine Run.RW ?_
  refine Run.k [0,1,2,7,8] [1] ?_
  exact Run.j (ih (j) om mz)
end Go.Proofs.YtcinngodeoidnaaGreat
