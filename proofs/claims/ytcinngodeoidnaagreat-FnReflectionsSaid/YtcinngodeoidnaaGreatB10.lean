/- The sort's functions, found in this program. -/
import Derived.Test.YtcinngodeoidnaaGreatB9
set_option linter.unusedVariables false
set_option linter.unusedSimpArgs false
namespace Go.Proofs.YtcinngodeoidnaaGreat
open Go Go.Aw
def srtL_ren:Go.Shelf.Ren:=⟨fun | 6=>90 | 15=>135 | 14=>134 | 28=>170 | 29=>171 | 20=>162 | 21=>163 | 22=>164 | 23=>165 | 24=>166 | 25=>167 | 26=>168 | 27=>169 | 46=>186 | 47=>187 | 48=>188 | 49=>189 | 50=>190 | 57=>206 | n=>n,fun | 22=>24 | 24=>25 | 25=>67 | 3=>3 | 39=>82 | 0=>0 | 53=>111 | 55=>113 | 4=>4 | 46=>104 | 45=>103 | 50=>108 | 5=>5 | 9=>9 | 66=>119 | 70=>123 | 76=>131 | 77=>132 | n=>n,fun n=>n⟩
theorem srtL:SlLaysF.n6 Tryz.prog srtL_ren where
 mixed:=by kernel_rfl
 f6:=⟨Tryz.f90.name,by decide,Tryz.func90.trans (congrArg some (by kernel_rfl))⟩
 f14:=⟨Tryz.f134.name,by decide,Tryz.func134.trans (congrArg some (by kernel_rfl))⟩
 f15:=Tryz.func135.trans (congrArg some (by kernel_rfl))
 f20:=⟨Tryz.f162.name,by decide,Tryz.func162.trans (congrArg some (by kernel_rfl))⟩
 f21:=⟨Tryz.f163.name,by decide,Tryz.func163.trans (congrArg some (by kernel_rfl))⟩
 f22:=⟨Tryz.f164.name,by decide,Tryz.func164.trans (congrArg some (by kernel_rfl))⟩
 f23:=⟨Tryz.f165.name,by decide,Tryz.func165.trans (congrArg some (by kernel_rfl))⟩
 f24:=⟨Tryz.f166.name,by decide,Tryz.func166.trans (congrArg some (by kernel_rfl))⟩
 f25:=⟨Tryz.f167.name,by decide,Tryz.func167.trans (congrArg some (by kernel_rfl))⟩
 f26:=⟨Tryz.f168.name,by decide,Tryz.func168.trans (congrArg some (by kernel_rfl))⟩
 f27:=⟨Tryz.f169.name,by decide,Tryz.func169.trans (congrArg some (by kernel_rfl))⟩
 f28:=Tryz.func170.trans (congrArg some (by kernel_rfl))
 f29:=Tryz.func171.trans (congrArg some (by kernel_rfl))
 f46:=⟨Tryz.f186.name,by decide,Tryz.func186.trans (congrArg some (by kernel_rfl))⟩
 f47:=Tryz.func187.trans (congrArg some (by kernel_rfl))
 f48:=Tryz.func188.trans (congrArg some (by kernel_rfl))
 f49:=⟨Tryz.f189.name,by decide,Tryz.func189.trans (congrArg some (by kernel_rfl))⟩
 f50:=⟨Tryz.f190.name,by decide,Tryz.func190.trans (congrArg some (by kernel_rfl))⟩
 f57:=⟨Tryz.f206.name,by decide,Tryz.func206.trans (congrArg some (by kernel_rfl))⟩
 t0:=Tryz.underlying0
 a0:=Tryz.isAgg0
 z0:=Tryz.sizeOf0
 v0:=Tryz.zeroValue0
 t3:=Tryz.underlying3
 a3:=Tryz.isAgg3
 z3:=Tryz.sizeOf3
 v3:=Tryz.zeroValue3
 t4:=Tryz.underlying4
 a4:=Tryz.isAgg4
 z4:=Tryz.sizeOf4
 v4:=Tryz.zeroValue4
 t5:=Tryz.underlying5
 a5:=Tryz.isAgg5
 z5:=Tryz.sizeOf5
 v5:=Tryz.zeroValue5
 t9:=Tryz.underlying9
 a9:=Tryz.isAgg9
 z9:=Tryz.sizeOf9
 v9:=Tryz.zeroValue9
 t22:=Tryz.underlying24
 a22:=Tryz.isAgg24
 z22:=Tryz.sizeOf24
 v22:=Tryz.zeroValue24
 a24:=Tryz.isAgg25
 z24:=Tryz.sizeOf25
 t25:=Tryz.underlying67
 a25:=Tryz.isAgg67
 z25:=Tryz.sizeOf67
 v25:=Tryz.zeroValue67
 t39:=Tryz.underlying82
 a39:=Tryz.isAgg82
 z39:=Tryz.sizeOf82
 v39:=Tryz.zeroValue82
 t45:=Tryz.underlying103
 a45:=Tryz.isAgg103
 z45:=Tryz.sizeOf103
 v45:=Tryz.zeroValue103
 t46:=Tryz.underlying104
 a46:=Tryz.isAgg104
 z46:=Tryz.sizeOf104
 v46:=Tryz.zeroValue104
 t50:=Tryz.underlying108
 a50:=Tryz.isAgg108
 z50:=Tryz.sizeOf108
 v50:=Tryz.zeroValue108
 t53:=Tryz.underlying111
 a53:=Tryz.isAgg111
 z53:=Tryz.sizeOf111
 v53:=Tryz.zeroValue111
 t55:=Tryz.underlying113
 a55:=Tryz.isAgg113
 z55:=Tryz.sizeOf113
 v55:=Tryz.zeroValue113
 t66:=Tryz.underlying119
 a66:=Tryz.isAgg119
 z66:=Tryz.sizeOf119
 v66:=Tryz.zeroValue119
 t70:=Tryz.underlying123
 a70:=Tryz.isAgg123
 z70:=Tryz.sizeOf123
 v70:=Tryz.zeroValue123
 t76:=Tryz.underlying131
 a76:=Tryz.isAgg131
 z76:=Tryz.sizeOf131
 v76:=Tryz.zeroValue131
 t77:=Tryz.underlying132
 a77:=Tryz.isAgg132
 z77:=Tryz.sizeOf132
 v77:=Tryz.zeroValue132
theorem cmpN_lt_trans (p q r:LI):∀ n i,cmpN p q n i < 0->cmpN q r n i < 0->cmpN p r n i < 0
 | 0,i,h,_=>by simp [cmpN]at h
 | n+1,i,h1,h2=>by
  have ih:=cmpN_lt_trans p q r n (i+1)
  simp only [cmpN]at h1 h2 ⊢
  split at h1<;>split at h2<;>(try split at h1)<;>(try split at h2)<;>(try split)<;>(try split)<;>first | omega | (exact ih h1 h2) | (exfalso;omega)
theorem cmpN_ge_trans (p q r:LI):∀ n i,0<=cmpN p q n i->0<=cmpN q r n i->0<=cmpN p r n i
 | 0,i,_,_=>by simp [cmpN]
 | n+1,i,h1,h2=>by
  have ih:=cmpN_ge_trans p q r n (i+1)
  simp only [cmpN]at h1 h2 ⊢
  split at h1<;>split at h2<;>(try split at h1)<;>(try split at h2)<;>(try split)<;>(try split)<;>first | omega | (exact ih h1 h2) | (exfalso;omega)
theorem cmpN_self (p:LI):∀ n i,cmpN p p n i=0
 | 0,i=>rfl
 | n+1,i=>by simp only [cmpN];rw [if_neg om,if_neg om];exact cmpN_self p n (i+1)
theorem cmpW_self (p:LI):cmpW p p=0:=by unfold cmpW;rw [if_neg om,if_neg om];exact cmpN_self p _ 0
theorem cmpW_lt_trans {p q r:LI} (h1:cmpW p q < 0) (h2:cmpW q r < 0):cmpW p r < 0:=by
 unfold cmpW at *
 have ih:=cmpN_lt_trans p q r p.length 0
 split at h1
 ·split at h2
  ·rw [if_pos om];omega
  ·split at h2
   ·omega
   ·rw [if_pos om];omega
 ·split at h1
  ·omega
  ·have e:p.length=q.length:=by omega
   split at h2
   ·rw [if_pos om];omega
   ·split at h2
    ·omega
    ·rw [if_neg om,if_neg om];rw [<- e]at h2;exact ih h1 h2
theorem cmpW_ge_trans {p q r:LI} (h1:0<=cmpW p q) (h2:0<=cmpW q r):0<=cmpW p r:=by
 unfold cmpW at *
 have ih:=cmpN_ge_trans p q r p.length 0
 split at h1
 ·omega
 ·split at h1
  ·split at h2
   ·omega
   ·split at h2
    ·rw [if_neg om,if_pos om];omega
    ·rw [if_neg om,if_pos om];omega
  ·have e:p.length=q.length:=by omega
   split at h2
   ·omega
   ·split at h2
    ·rw [if_neg om,if_pos om];omega
    ·rw [if_neg om,if_neg om];rw [<- e]at h2;exact ih h1 h2
theorem cmpW_swo:Go.Sort.SWO (ltOf cmpW):=by
 refine⟨fun x=>?_,fun x y z h1 h2=>?_,fun x y z h1 h2=>?_⟩
 ·unfold ltOf;rw [cmpW_self];rfl
 ·unfold ltOf at *
  rw [dtE]at *
  exact cmpW_lt_trans h1 h2
 ·unfold ltOf at *
  rw [dfE]at *
  have:=cmpW_ge_trans (p:=x) (q:=y) (r:=z) om om
  omega
def cmpI (a b:Int):Int:=if a < b then -1 else if a > b then 1 else 0
theorem c_isNaN (a:Int):FunA B 172 [.int .i64 a] (fun rs o=>rs=[.bool false]/\o=[]):=by
 refine wk Tryz.call172 Tryz.func172 rfl Tryz.ntmps172 fun C hC hP hT hfn hpin hfin hX=>wW ?_
 refine Run.R ?_
 refine Run.R ?_
 refine Run.r [2] ?_
 exact⟨by simp,rfl⟩
theorem c_cmpCompare (a b:Int):FunA B 137 [.int .i64 a,.int .i64 b] (fun rs o=>rs=[.int .i64 (cmpI a b)]/\o=[]):=by
 refine wk Tryz.call137 Tryz.func137 rfl Tryz.ntmps137 fun C hC hP hT hfn hpin hfin hX=>wW ?_
 refine Run.R ?_
 refine Run.g fun K hK=>?_
 refine FunA.e hP hT (c_isNaN a) ?_
 refine wE ?_;clear hK K
 refine Run.g fun K hK=>?_
 refine FunA.e hP hT (c_isNaN b) ?_
 refine wE ?_;clear hK K
 refine Run.R ?_
 refine Run.c ?_ ?_
 ·intro h;cases h
 intro _
 refine Run.R ?_
 refine Run.c ?_ ?_
 ·intro h;cases h
 intro _
 refine Run.R ?_
 refine Run.c ?_ ?_
 ·intro h
  rw [dtE]at h
  refine Run.R ?_
  refine Run.r [4] ?_
  unfold cmpI;rw [if_pos h];exact⟨rfl,rfl⟩
 intro h1
 rw [dfE]at h1
 refine Run.R ?_
 refine Run.c ?_ ?_
 ·intro h
  rw [dtE]at h
  refine Run.R ?_
  refine Run.r [4] ?_
  unfold cmpI;rw [if_neg h1,if_pos h];exact⟨rfl,rfl⟩
 intro h2
 rw [dfE]at h2
 refine Run.R ?_
 refine Run.r [4] ?_
 unfold cmpI;rw [if_neg h1,if_neg h2];exact⟨rfl,rfl⟩
theorem c_slicesCompare (p q:LI) (hp:p.length<=1048576):FunA B 138 [.sl false .int p,.sl false .int q] (fun rs o=>(∃ v,rs=[.int .i64 v]/\(p.length=q.length->v=cmpN p q p.length 0))/\o=[]):=by
 refine wk Tryz.call138 Tryz.func138 rfl Tryz.ntmps138 fun C hC hP hT hfn hpin hfin hX=>wW ?_
 refine Run.R ?_
 refine Run.R ?_
 refine Run.loopI (X:=Nat) (fun i=>⟨36,[(0,true,.v (.sl false .int p)),(1,true,.v (.sl false .int q)),(9,true,.v (.sl false .int p)),(10,true,.v (.int .i64 (p.length))),(11,true,.v (.int .i64 i))],[]⟩) (fun i=>i<=p.length/\cmpN p q (p.length - i) i=cmpN p q p.length 0) (fun i=>p.length - i) (0) (⟨by omega,rfl⟩) ?_ ?_
 ·exact Le.s
 rintro i ⟨hi,he⟩ ih
 try simp only []
 refine Run.R ?_
 refine Run.c ?_ ?_
 rotate_left
 ·intro h
  rw [dfE]at h
  refine Run.x ?_
  refine Run.R ?_
  rw [show p.length - i=0 by omega]at he
  refine Run.c ?_ ?_
  ·intro h2
   rw [dtE]at h2
   refine Run.R ?_
   refine Run.r [4] ?_
   exact⟨⟨_,rfl,fun e=>by omega⟩,rfl⟩
  intro h2
  refine Run.R ?_
  refine Run.r [4] ?_
  exact⟨⟨_,rfl,fun e=>he⟩,rfl⟩
 intro h
 rw [dtE]at h
 refine Run.R ?_
 refine Run.R ?_
 refine Run.c ?_ ?_
 ·intro h2
  rw [dtE]at h2
  refine Run.R ?_
  refine Run.r [4] ?_
  exact⟨⟨_,rfl,fun e=>by omega⟩,rfl⟩
 intro h2
 rw [dfE]at h2
 have hs:p.length - i=(p.length - (i+1))+1:=by omega
 rw [hs]at he
 simp only [cmpN]at he
 refine Run.R ?_
 refine Run.g fun K hK=>?_
 refine FunA.e hP hT (c_cmpCompare (p.getD i 0) (q.getD i 0)) ?_
 refine wE ?_;clear hK K
 refine Run.R ?_
 refine Run.c ?_ ?_
 ·intro h3
  have h3:cmpI (p.getD i 0) (q.getD i 0)≠0:=by simpa using h3
  have e2:cmpI (p.getD i 0) (q.getD i 0)=cmpN p q p.length 0:=by
   rw [<- he];unfold cmpI at *
   by_cases k1:p.getD i 0 < q.getD i 0
   ·rw [if_pos k1,if_pos k1]
   ·by_cases k2:p.getD i 0 > q.getD i 0
    ·rw [if_neg k1,if_pos k2,if_neg k1,if_pos k2]
    ·rw [if_neg k1,if_neg k2]at h3;omega
  refine Run.R ?_
  refine Run.r [4] ?_
  exact⟨⟨_,rfl,fun _=>e2⟩,rfl⟩
 intro h3
 have h3:cmpI (p.getD i 0) (q.getD i 0)=0:=by simpa using h3
 have e3:cmpN p q (p.length - (i+1)) (i+1)=cmpN p q p.length 0:=by
  rw [<- he];unfold cmpI at h3
  split at h3
  ·omega
  ·split at h3
   ·omega
   ·rename_i k1 k2;rw [if_neg k1,if_neg k2]
 refine Run.RW ?_
 exact Run.j (ih (i+1) (⟨by omega,e3⟩) mz)
def orL:List Int->Int
 | []=>0
 | x :: l=>if x=0 then orL l else x
theorem orL_drop (xs:LI) {i:Nat} (h:i < xs.length):orL (xs.drop i)=if xs.getD i 0=0 then orL (xs.drop (i+1))else xs.getD i 0:=by
 rw [List.drop_eq_getElem_cons h,getD_eq h];rfl
theorem c_cmpOr (xs:LI) (hl:xs.length<=1048576):FunA B 136 [.sl false .int xs] (fun rs o=>rs=[.int .i64 (orL xs)]/\o=[]):=by
 refine wk Tryz.call136 Tryz.func136 rfl Tryz.ntmps136 fun C hC hP hT hfn hpin hfin hX=>wW ?_
 refine Run.R ?_
 refine Run.R ?_
 refine Run.R ?_
 refine Run.loopI (X:=Nat) (fun i=>⟨18,[(0,true,.v (.sl false .int xs)),(3,true,.v (.int .i64 0)),(6,true,.v (.sl false .int xs)),(7,true,.v (.int .i64 (xs.length))),(8,true,.v (.int .i64 i))],[]⟩) (fun i=>i<=xs.length/\orL (xs.drop i)=orL xs) (fun i=>xs.length - i) (0) (⟨by omega,rfl⟩) ?_ ?_
 ·exact Le.s
 rintro i ⟨hi,he⟩ ih
 try simp only []
 refine Run.R ?_
 refine Run.c ?_ ?_
 rotate_left
 ·intro h
  rw [dfE]at h
  refine Run.x ?_
  refine Run.R ?_
  refine Run.r [2] ?_
  rw [List.drop_eq_nil_of_le om]at he
  exact⟨by rw [<- he];rfl,rfl⟩
 intro h
 rw [dtE]at h
 rw [orL_drop xs om]at he
 refine Run.R ?_
 refine Run.R ?_
 refine Run.c ?_ ?_
 ·intro h2
  have h2:xs.getD i 0≠0:=by simpa using h2
  rw [if_neg h2]at he
  refine Run.R ?_
  refine Run.r [2] ?_
  exact⟨by rw [he],rfl⟩
 intro h2
 have h2:xs.getD i 0=0:=by simpa using h2
 rw [if_pos h2]at he
 refine Run.RW ?_
 exact Run.j (ih (i+1) (⟨by omega,he⟩) mz)
theorem c_impl_CompareWords (p q:LI) (hp:p.length<=1048576):FunA B 91 [.sl false .int p,.sl false .int q] (fun rs o=>rs=[.int .i64 (cmpW p q)]/\o=[]):=by
 refine wk Tryz.call91 Tryz.func91 rfl Tryz.ntmps91 fun C hC hP hT hfn hpin hfin hX=>wW ?_
 refine Run.R ?_
 refine Run.g fun K hK=>?_
 refine FunA.e hP hT (c_cmpCompare (p.length:Int) (q.length:Int)) ?_
 refine FunA.cW hP hT (c_slicesCompare p q hp) ?_
 rintro rs o ⟨⟨v,rfl,hv⟩,rfl⟩
 refine wW ?_
 refine FunA.e hP hT (c_cmpOr [cmpI p.length q.length,v] (by simp)) ?_
 refine wE ?_;clear hK K
 have e:orL [cmpI p.length q.length,v]=cmpW p q:=by
  simp only [orL]
  unfold cmpI cmpW
  by_cases k1:p.length < q.length
  ·rw [if_pos (by omega:(p.length:Int) < q.length),if_pos k1];rfl
  ·by_cases k2:p.length > q.length
   ·rw [if_neg (by omega:¬(p.length:Int) < q.length),if_pos (by omega:(p.length:Int) > q.length),if_neg k1,if_pos k2];rfl
   ·rw [if_neg (by omega:¬(p.length:Int) < q.length),if_neg (by omega:¬(p.length:Int) > q.length),if_neg k1,if_neg k2,if_pos rfl,<- hv om]
    split
    ·rename_i h;exact h.symm
    ·rfl
 refine Run.k [4] [] ?_
 refine Run.r [4] ?_
 rw [e];exact⟨rfl,rfl⟩
def putS (w:LI):Bool->List (List Int)->List (List Int)
 | b,[]=>if b then []else [w]
 | b,x :: l=>if cmpW w x < 0/\b=false then w :: x :: putS w true l else x :: putS w (b || cmpW w x == 0) l
def rw2 (ys:List (Nat×List Int)):List (List Int):=ys.map (·.2)
def lb1 (ys:List (Nat×List Int)):List Nat:=ys.map (·.1)
theorem rw2_app (a b:List (Nat×List Int)):rw2 (a ++ b)=rw2 a ++ rw2 b:=by simp [rw2]
theorem lb1_app (a b:List (Nat×List Int)):lb1 (a ++ b)=lb1 a ++ lb1 b:=by simp [lb1]
theorem drop_cons' (ys:List (Nat×List Int)) {i:Nat} (h:i < ys.length):ys.drop i=ys.getD i (0,[]) :: ys.drop (i+1):=by
 rw [List.drop_eq_getElem_cons h,getD_eq h]
theorem lb_step {zs ys:List (Nat×List Int)} {i:Nat} (h:i < ys.length) (hn:(lb1 zs ++ lb1 (ys.drop i)).Nodup):(lb1 (zs ++ [((ys.getD i (0,[])).1,(ys.getD i (0,[])).2)]) ++ lb1 (ys.drop (i+1))).Nodup:=by
 rw [drop_cons' ys h]at hn
 have e:lb1 (ys.getD i (0,[]) :: ys.drop (i+1))=[(ys.getD i (0,[])).1] ++ lb1 (ys.drop (i+1)):=rfl
 rw [e,<- List.append_assoc]at hn
 rw [lb1_app]
 exact hn
theorem lb_ins {zs ys:List (Nat×List Int)} {i q:Nat} {w:LI} (hn:(lb1 zs ++ lb1 (ys.drop i)).Nodup) (h1:∀ p∈zs,p.1≠q) (h2:∀ p∈ys,p.1≠q):(lb1 (zs ++ [(q,w)]) ++ lb1 (ys.drop i)).Nodup:=by
 rw [lb1_app,List.append_assoc]
 rw [List.nodup_append]at hn ⊢
 obtain⟨n1,n2,n3⟩:=hn
 refine⟨n1,?_,fun a ha b hb=>?_⟩
 ·show(q :: lb1 (ys.drop i)).Nodup
  rw [List.nodup_cons]
  refine⟨fun hm=>?_,n2⟩
  obtain⟨p,hp,e⟩:=List.mem_map.1 hm
  exact h2 p (List.mem_of_mem_drop hp) e
 ·rcases List.mem_append.1 hb with hb | hb
  ·simp [lb1]at hb
   obtain⟨p,hp,rfl⟩:=List.mem_map.1 ha
   rw [hb];exact h1 p hp
  ·exact n3 a ha b hb
set_option maxHeartbeats 1000000 in
theorem c_spec_l11Put (ys:List (Nat×List Int)) (w:LI) (hnd:(lb1 ys).Nodup) (hyl:ys.length<=100000) (hw:w.length<=1048576) (nn:Bool) :
  FunM B 92 [.own 0 0,.sl false .int w] .lrow ys nn (fun rs o=>rs=[.own 1 0]/\∃ ys',rw2 ys'=putS w false (rw2 ys)/\(lb1 ys').Nodup/\o=[.arr .lrow ys 0 nn,.arr .lrow ys' 0 true]):=by
 refine FunM.walk B_ok (fn:=Tryz.f92) (fun vs w=>Tryz.call92 vs w) Tryz.func92 rfl (by rw [Tryz.ntmps92];simp) (fun C hC hP hT hΓ hbt hfn hpin hfin=>?_);have hX:=BX;rw [<- hΓ,<- hbt.1,<- hbt.2.1,<- hbt.2.2.1,<- hbt.2.2.2.2]at hX;rw [hT]at hX;rw [Tryz.ntmps92];simp only [AW7,simprocAttr,hX]
 refine Run.R ?_
 refine Run.R ?_
 refine Run.R ?_
 refine Run.R ?_
 refine Run.kp [0,1,5,6,7] [0,1] ?_
 refine Run.loopI (X:=List (Nat×List Int)×Bool×Nat) (fun x=>⟨52,[(0,true,.v (.own 0 0)),(1,true,.v (.sl false .int w)),(5,true,.v (.own 1 0)),(6,true,.v (.bool (x.2.1))),(7,true,.v (.int .i64 (x.2.2)))],[.arr .lrow ys 0 nn,.arr .lrow (x.1) 0 true]⟩) (fun x=>x.2.2<=ys.length/\x.1.length<=2*x.2.2/\rw2 x.1 ++ putS w x.2.1 (rw2 (ys.drop x.2.2))=putS w false (rw2 ys)/\(lb1 x.1 ++ lb1 (ys.drop x.2.2)).Nodup) (fun x=>ys.length - x.2.2) (([],false,0)) (⟨nz0 _,by simp,rfl,hnd⟩) ?_ ?_
 ·exact Le.s
 rintro⟨zs,b,i⟩ ⟨hi,hzl,hE,hN⟩ ih
 try simp only []
 simp only []at hi hzl hE hN
 refine Run.R ?_
 refine Run.c ?_ ?_
 rotate_left
 ·intro h
  have hie:i=ys.length:=by rw [dfE]at h;omega
  refine Run.x ?_
  refine Run.R ?_
  refine Run.c ?_ ?_
  ·intro hb
   have hb:b=false:=by simpa using hb
   subst hb
   refine Run.g fun K hK=>?_
   intro q hq
   have hN3:=lb_ins (w:=w) hN (hq (.arr .lrow zs 0 true) (.tail _ (.head _)) _ _ _ rfl) (hq (.arr .lrow ys 0 nn) (.head _) _ _ _ rfl)
   rw [hie,List.drop_length]at hE hN3
   have e0:lb1 ([]:List (Nat×List Int))=[]:=rfl
   rw [e0,List.append_nil]at hN3
   (repeat(with_reducible refine And.intro ?_ ?_);exact vc0)
   refine wE ?_;clear hK K
   refine Run.R ?_
   refine Run.kp [4] [0,1] ?_
   refine Run.retW [4] (by decide) (by rw [hfn];rfl) (by simp only [AW7,simprocAttr,hX];rfl) (by simp only [AW7,simprocAttr,hX]) (hfin _ _ _ rfl rfl rfl ?_)
   exact⟨rfl,_,by rw [<- hE,rw2_app];simp [putS,rw2],hN3,rfl⟩
  intro hb
  have hb:b=true:=by simpa using hb
  subst hb
  refine Run.R ?_
  refine Run.kp [4] [0,1] ?_
  rw [hie,List.drop_length]at hE hN
  have e0:lb1 ([]:List (Nat×List Int))=[]:=rfl
  rw [e0,List.append_nil]at hN
  refine Run.retW [4] (by decide) (by rw [hfn];rfl) (by simp only [AW7,simprocAttr,hX];rfl) (by simp only [AW7,simprocAttr,hX]) (hfin _ _ _ rfl rfl rfl ?_)
  exact⟨rfl,zs,by rw [<- hE];simp [putS,rw2],hN,rfl⟩
 intro h
 have h:i < ys.length:=by rw [dtE]at h;omega
 refine Run.g fun K hK=>?_
 refine FunA.e hP hT (c_spec_CompareWords w (ys.getD i (0,[])).2 om) ?_
 refine wE ?_;clear hK K
 have hd:rw2 (ys.drop i)=(ys.getD i (0,[])).2 :: rw2 (ys.drop (i+1)):=by rw [drop_cons' ys h];rfl
 rw [hd]at hE
 simp only [putS]at hE
 have hN2:=lb_step h hN
 refine Run.R ?_
 refine Run.c ?_ ?_
 ·intro h0
  have h0:cmpW w (ys.getD i (0,[])).2=0:=by simpa using h0
  rw [if_neg om,h0]at hE
  simp only [h0]
  refine Run.R ?_
  refine Run.R ?_
  refine Run.c ?_ ?_
  ·intro h;cases h
  intro _
  refine Run.R ?_
  refine Run.kp [0,1,5,6,7] [0,1] ?_
  refine Run.RW ?_
  exact Run.j (ih ((zs ++ [((ys.getD i (0,[])).1,(ys.getD i (0,[])).2)],true,i+1)) (⟨h,by simp;omega,by rw [rw2_app,List.append_assoc,<- hE];simp [rw2],hN2⟩) mz)
 intro h0
 have h0:(cmpW w (ys.getD i (0,[])).2 == 0)=false:=h0
 rw [h0,Bool.or_false]at hE
 refine Run.R ?_
 refine Run.c ?_ ?_
 ·intro hlt
  have hlt:cmpW w (ys.getD i (0,[])).2 < 0/\b=false:=by simpa using hlt
  obtain⟨hl1,rfl⟩:=hlt
  rw [if_pos ⟨hl1,rfl⟩]at hE
  refine Run.g fun K hK=>?_
  intro q hq
  have hN3:=lb_ins (w:=w) hN (hq (.arr .lrow zs 0 true) (.tail _ (.head _)) _ _ _ rfl) (hq (.arr .lrow ys 0 nn) (.head _) _ _ _ rfl)
  (repeat(with_reducible refine And.intro ?_ ?_);exact vc0)
  refine wE ?_;clear hK K
  refine Run.R ?_
  refine Run.R ?_
  have hN4:=lb_step h hN3
  refine Run.kp [0,1,5,6,7] [0,1] ?_
  refine Run.RW ?_
  exact Run.j (ih ((zs ++ [(q,w)] ++ [((ys.getD i (0,[])).1,(ys.getD i (0,[])).2)],true,i+1)) (⟨h,by simp only [lenA,lenC,lenN];omega,by rw [rw2_app,rw2_app,List.append_assoc,List.append_assoc,<- hE];simp [rw2],hN4⟩) mz)
 intro hlt
 have hlt:¬(cmpW w (ys.getD i (0,[])).2 < 0/\b=false):=by intro⟨k1,k2⟩;rw [k2,decide_eq_true k1]at hlt;cases hlt
 rw [if_neg hlt]at hE
 refine Run.R ?_
 refine Run.kp [0,1,5,6,7] [0,1] ?_
 refine Run.RW ?_
 exact Run.j (ih ((zs ++ [((ys.getD i (0,[])).1,(ys.getD i (0,[])).2)],b,i+1)) (⟨h,by simp;omega,by rw [rw2_app,List.append_assoc,<- hE];simp [rw2],hN2⟩) mz)
abbrev ent (c:LL) (i j:Nat):Int:=(c.getD i []).getD j 0
def badE (c:LL) (i j:Nat):Prop:=(i=j/\ent c i j≠2)\/(i≠j/\(ent c i j < -3\/ent c i j > 0\/¬(ent c i j=0↔ent c j i=0)))
def CartanP (c:LL):Prop:=1<=c.length/\c.length<=4/\(∀ i,i < c.length->(c.getD i []).length=c.length)/\∀ i j,i < c.length->j < c.length->¬badE c i j
open Classical in
noncomputable def isC (c:LL):Bool:=decide (CartanP c)
theorem isC_iff {c:LL}:isC c=true↔CartanP c:=by simp [isC]
theorem isC_false {c:LL} (h:¬CartanP c):isC c=false:=by simp [isC,h]
theorem isC_true {c:LL} (h:CartanP c):isC c=true:=isC_iff.2 h
theorem badE_impl (c:LL) (i j:Nat):(bif bif (i:Int) == (j:Int)then ent c i j != 2 else false then true
        else
         bif (i:Int) != (j:Int) then
          bif
            bif decide (ent c i j < -3)then true
            else decide (0 < ent c i j) then
           true
          else(ent c i j == 0) != (ent c j i == 0)
         else false)=true↔badE c i j:=by
 unfold badE
 have e:((i:Int) == (j:Int))=decide (i=j):=by
  rw [Bool.eq_iff_iff];simp;omega
 have e2:((i:Int) != (j:Int)) = !decide (i=j):=by rw [<- e];rfl
 rw [e,e2]
 generalize ent c i j=x
 generalize ent c j i=y
 have e3:(x == 0)=decide (x=0):=by rw [Bool.eq_iff_iff];simp
 have e4:(y == 0)=decide (y=0):=by rw [Bool.eq_iff_iff];simp
 rw [e3,e4]
 by_cases h:i=j
 ·simp [h]
 ·simp only [h,decide_false,cond_false,Bool.not_false,cond_true,false_and,ne_eq,not_false_eq_true,true_and,false_or]
  by_cases h1:x < -3
  ·simp [h1]
  ·by_cases h2:0 < x
   ·simp [h2]
   ·simp only [h1,h2,decide_false,cond_false,false_or]
    by_cases h3:x=0<;>by_cases h4:y=0<;>simp [h3,h4]
theorem c_impl_IsCartan (c:LL):FunA B 107 [.sl false (.row false) c] (fun rs o=>rs=[.bool (isC c)]/\o=[]):=by
 refine wk Tryz.call107 Tryz.func107 rfl Tryz.ntmps107 fun C hC hP hT hfn hpin hfin hX=>wW ?_
 refine Run.len 0 rfl fun hlen=>?_
 refine Run.R ?_
 refine Run.R ?_
 refine Run.R ?_
 refine Run.keep [0,2,3,16] ?_;simp only [AK,Nat.reduceBEq]
 refine Run.c ?_ ?_
 ·intro hc
  refine Run.R ?_
  refine Run.r [2] ?_
  refine⟨?_,rfl⟩
  rw [isC_false fun h=>?_]
  obtain⟨h1,h2,_⟩:=h
  by_cases h3:(c.length:Int) < 1
  ·omega
  ·simp [h3]at hc;omega
 intro hc
 have hn:1<=c.length/\c.length<=4:=by
  by_cases h3:(c.length:Int) < 1
  ·simp [h3]at hc
  ·simp [h3]at hc;omega
 refine Run.R ?_
 refine Run.keep [0,2,3,17,18,19] ?_;simp only [AK,Nat.reduceBEq]
 refine Run.loopI (X:=Nat) (fun i=>⟨78,[(0,true,.v (.sl false (.row false) c)),(2,true,.v (.bool false)),(3,true,.v (.int .i64 c.length)),(17,true,.v (.sl false (.row false) c)),(18,true,.v (.int .i64 c.length)),(19,true,.v (.int .i64 i))],[]⟩) (fun i=>i<=c.length/\∀ k,k < i->(c.getD k []).length=c.length) (fun i=>c.length - i) 0 ⟨nz0 _,by omega⟩ ?_ ?_
 ·exact Le.sub (by simp only [AW7,simprocAttr]) (by simp only [AW7,simprocAttr];try simp)
 rintro i ⟨hi,hrow⟩ ih
 refine Run.R ?_
 refine Run.c ?_ ?_
 ·intro hc2
  have hc2:i < c.length:=by simpa using hc2
  refine Run.R ?_
  refine Run.R ?_
  refine Run.c ?_ ?_
  ·intro hne
   refine Run.R ?_
   refine Run.r [2] ?_
   refine⟨?_,rfl⟩
   rw [isC_false fun h=>?_]
   have:=h.2.2.1 i hc2
   have hne:¬(c.getD i []).length=c.length:=by simp [-List.getD_eq_getElem?_getD]at hne;omega
   exact hne this
  ·intro heq
   have heq:(c.getD i []).length=c.length:=by simp [-List.getD_eq_getElem?_getD]at heq;omega
   refine Run.RW ?_
   refine Run.le ?_ (ih (i+1) ⟨hc2,fun k hk=>?_⟩ om)
   ·exact Le.sub (by simp only [AW7,simprocAttr]) (by simp only [AW7,simprocAttr,Option.some.injEq,Prod.mk.injEq,Sl.v.injEq,AV.int.injEq,AV.own.injEq,AV.bool.injEq];try(repeat' apply And.intro);all_goals omega)
   ·rcases Nat.lt_succ_iff_lt_or_eq.1 hk with h | rfl
    ·exact hrow k h
    ·exact heq
 intro hc2
 have hc2:i=c.length:=by simp at hc2;omega
 subst hc2
 refine Run.x ?_
 refine Run.R ?_
 refine Run.keep [0,2,3,28,29] ?_;simp only [AK,Nat.reduceBEq]
 refine Run.loopI (X:=Nat) (fun i=>⟨78,[(0,true,.v (.sl false (.row false) c)),(2,true,.v (.bool false)),(3,true,.v (.int .i64 c.length)),(28,true,.v (.int .i64 c.length)),(29,true,.v (.int .i64 i))],[]⟩) (fun i=>i<=c.length/\∀ k j,k < i->j < c.length->¬badE c k j) (fun i=>c.length - i) 0 ⟨nz0 _,by omega⟩ ?_ ?_
 ·exact Le.sub (by simp only [AW7,simprocAttr]) (by simp only [AW7,simprocAttr];try simp)
 clear ih
 rintro i ⟨hi,hcel⟩ ih
 refine Run.R ?_
 refine Run.c ?_ ?_
 ·intro hc2
  have hc2:i < c.length:=by simpa using hc2
  have hri:=hrow i hc2
  refine Run.R ?_
  refine Run.R ?_
  refine Run.keep [0,2,3,28,29,6,32,33] ?_;simp only [AK,Nat.reduceBEq]
  refine Run.loopI (X:=Nat) (fun j=>⟨78,[(0,true,.v (.sl false (.row false) c)),(2,true,.v (.bool false)),(3,true,.v (.int .i64 c.length)),(28,true,.v (.int .i64 c.length)),(29,true,.v (.int .i64 i)),(6,true,.v (.int .i64 i)),(32,true,.v (.int .i64 c.length)),(33,true,.v (.int .i64 j))],[]⟩) (fun j=>j<=c.length/\∀ q,q < j->¬badE c i q) (fun j=>c.length - j) 0 ⟨nz0 _,by omega⟩ ?_ ?_
  ·exact Le.sub (by simp only [AW7,simprocAttr]) (by simp only [AW7,simprocAttr];try simp)
  rintro j ⟨hj,hcj⟩ ihj
  refine Run.R ?_
  refine Run.c ?_ ?_
  ·intro hc3
   have hc3:j < c.length:=by simpa using hc3
   have hrj:=hrow j hc3
   refine Run.R ?_
   refine Run.R ?_
   refine Run.R ?_
   refine Run.keep [0,2,3,28,29,6,32,33,75] ?_;simp only [AK,Nat.reduceBEq]
   refine Run.c ?_ ?_
   ·intro hb
    have hb:=(badE_impl c i j).1 hb
    refine Run.R ?_
    refine Run.r [2] ?_
    refine⟨?_,rfl⟩
    rw [isC_false fun h=>h.2.2.2 i j hc2 hc3 hb]
   ·intro hb
    have hb:¬badE c i j:=fun h=>by
     have:=(badE_impl c i j).2 h
     rw [this]at hb
     cases hb
    refine Run.RW ?_
    refine Run.le ?_ (ihj (j+1) ⟨hc3,fun q hq=>?_⟩ om)
    ·exact Le.sub (by simp only [AW7,simprocAttr]) (by simp only [AW7,simprocAttr,Option.some.injEq,Prod.mk.injEq,Sl.v.injEq,AV.int.injEq,AV.own.injEq,AV.bool.injEq];try(repeat' apply And.intro);all_goals omega)
    ·rcases Nat.lt_succ_iff_lt_or_eq.1 hq with h | rfl
     ·exact hcj q h
     ·exact hb
  ·intro hc3
   have hc3:j=c.length:=by simp at hc3;omega
   subst hc3
   refine Run.x ?_
   refine Run.RW ?_
   refine Run.le ?_ (ih (i+1) ⟨hc2,fun k q hk hq=>?_⟩ om)
   ·exact Le.sub (by simp only [AW7,simprocAttr]) (by simp only [AW7,simprocAttr,Option.some.injEq,Prod.mk.injEq,Sl.v.injEq,AV.int.injEq,AV.own.injEq,AV.bool.injEq];try(repeat' apply And.intro);all_goals omega)
   ·rcases Nat.lt_succ_iff_lt_or_eq.1 hk with h | rfl
    ·exact hcel k q h hq
    ·exact hcj q hq
 ·intro hc2
  have hc2:i=c.length:=by simp at hc2;omega
  subst hc2
  refine Run.x ?_
  refine Run.R ?_
  refine Run.r [2] ?_
  refine⟨?_,rfl⟩
  rw [isC_true ⟨hn.1,hn.2,hrow,fun k q hk hq=>hcel k q hk hq⟩]
def inB (x lo hi:Int):Bool:=bif decide (x≥lo)then decide (x<=hi)else false
theorem inB_iff {x lo hi:Int}:inB x lo hi=true↔lo<=x/\x<=hi:=by
 unfold inB
 by_cases h:x≥lo<;>simp [h]<;>omega
theorem c_spec_l1In (x lo hi:Int):FunA B 110 [.int .i64 x,.int .i64 lo,.int .i64 hi] (fun rs o=>rs=[.bool (inB x lo hi)]/\o=[]):=by
 refine wk Tryz.call110 Tryz.func110 rfl Tryz.ntmps110 fun C hC hP hT hfn hpin hfin hX=>wW ?_
 refine Run.R ?_
 refine Run.R ?_
 refine Run.r [6] ?_
 exact⟨rfl,rfl⟩
theorem badE_spec (c:LL) (i j:Nat):(bif bif (i:Int) == (j:Int)then ent c i j != 2 else false then true
        else
         bif (i:Int) != (j:Int) then
          bif !inB (ent c i j) (-3) 0 then true
          else(ent c i j == 0) != (ent c j i == 0)
         else false)=true↔badE c i j:=by
 rw [<- badE_impl]
 have:(!inB (ent c i j) (-3) 0)=(bif decide (ent c i j < -3)then true else decide (0 < ent c i j)):=by
  generalize ent c i j=x
  unfold inB
  by_cases h1:x < -3
  ·have:¬x≥-3:=by omega
   simp [h1,this]
  ·have:x≥-3:=by omega
   by_cases h2:0 < x
   ·have h3:¬x<=0:=by omega
    simp [h1,this,h2,h3]
   ·have h3:x<=0:=by omega
    simp [h1,this,h2,h3]
 rw [this]
theorem c_spec_IsCartan (c:LL):FunA B 109 [.sl false (.row false) c] (fun rs o=>rs=[.bool (isC c)]/\o=[]):=by
 refine wk Tryz.call109 Tryz.func109 rfl Tryz.ntmps109 fun C hC hP hT hfn hpin hfin hX=>wW ?_
 refine Run.len 0 rfl fun hlen=>?_
 refine Run.R ?_
 refine Run.R ?_
 refine Run.loopI (X:=Nat) (fun i=>⟨83,[(0,true,.v (.sl false (.row false) c)),(2,true,.v (.bool false)),(3,true,.v (.int .i64 i))],[]⟩) (fun i=>i<=c.length/\∀ k,k < i->(c.getD k []).length=c.length) (fun i=>c.length - i) 0 ⟨nz0 _,by omega⟩ ?_ ?_
 ·exact Le.sub (by simp only [AW7,simprocAttr]) (by simp only [AW7,simprocAttr];try simp)
 rintro i ⟨hi,hrow⟩ ih
 refine Run.R ?_
 refine Run.c ?_ ?_
 ·intro hc2
  have hc2:i < c.length:=by simpa using hc2
  refine Run.R ?_
  refine Run.c ?_ ?_
  ·intro hne
   refine Run.R ?_
   refine Run.r [2] ?_
   refine⟨?_,rfl⟩
   rw [isC_false fun h=>?_]
   have:=h.2.2.1 i hc2
   have hne:¬(c.getD i []).length=c.length:=by simp [-List.getD_eq_getElem?_getD]at hne;omega
   exact hne this
  ·intro heq
   have heq:(c.getD i []).length=c.length:=by simp [-List.getD_eq_getElem?_getD]at heq;omega
   refine Run.RW ?_
   refine Run.le ?_ (ih (i+1) ⟨hc2,fun k hk=>?_⟩ om)
   ·exact Le.sub (by simp only [AW7,simprocAttr]) (by simp only [AW7,simprocAttr,Option.some.injEq,Prod.mk.injEq,Sl.v.injEq,AV.int.injEq,AV.own.injEq,AV.bool.injEq];try(repeat' apply And.intro);all_goals omega)
   ·rcases Nat.lt_succ_iff_lt_or_eq.1 hk with h | rfl
    ·exact hrow k h
    ·exact heq
 intro hc2
 have hc2:i=c.length:=by simp at hc2;omega
 subst hc2
 refine Run.x ?_
 refine Run.R ?_
 refine Run.keep [0,2,4] ?_;simp only [AK,Nat.reduceBEq]
 refine Run.loopI (X:=Nat) (fun i=>⟨83,[(0,true,.v (.sl false (.row false) c)),(2,true,.v (.bool false)),(4,true,.v (.int .i64 i))],[]⟩) (fun i=>i<=c.length/\∀ k j,k < i->j < c.length->¬badE c k j) (fun i=>c.length - i) 0 ⟨nz0 _,by omega⟩ ?_ ?_
 ·exact Le.sub (by simp only [AW7,simprocAttr]) (by simp only [AW7,simprocAttr];try simp)
 clear ih
 rintro i ⟨hi,hcel⟩ ih
 refine Run.R ?_
 refine Run.c ?_ ?_
 ·intro hc2
  have hc2:i < c.length:=by simpa using hc2
  have hri:=hrow i hc2
  refine Run.R ?_
  refine Run.keep [0,2,4,5] ?_;simp only [AK,Nat.reduceBEq]
  refine Run.loopI (X:=Nat) (fun j=>⟨83,[(0,true,.v (.sl false (.row false) c)),(2,true,.v (.bool false)),(4,true,.v (.int .i64 i)),(5,true,.v (.int .i64 j))],[]⟩) (fun j=>j<=c.length/\∀ q,q < j->¬badE c i q) (fun j=>c.length - j) 0 ⟨nz0 _,by omega⟩ ?_ ?_
  ·exact Le.sub (by simp only [AW7,simprocAttr]) (by simp only [AW7,simprocAttr];try simp)
  rintro j ⟨hj,hcj⟩ ihj
  refine Run.R ?_
  refine Run.c ?_ ?_
  ·intro hc3
   have hc3:j < c.length:=by simpa using hc3
   have hrj:=hrow j hc3
   refine Run.keep [0,2,4,5] ?_;simp only [AK,Nat.reduceBEq]
   refine Run.nq ?_
   refine Run.regionD hC true [0,1,2,3,4,5,6,7,8,9,10,11,12,13,14,15,16,17,18,19,20,21,22,23,24,25,26,27,28,29,30,31,32,33,34,35,36,37,38,39,40,41,42,43,44,45,46,47] (by kernel_rfl) (fun K hK=>?_)
   simp only [AW7,simprocAttr,hX]
   (repeat(with_reducible refine And.intro ?_ ?_);exact vc0)
   refine .inl (FunA.callG hP hT (c_spec_l1In (ent c i j) (-3) 0) (fun _=>rfl) (fun _=>by simp only [AW7,simprocAttr]) ?_)
   refine wW ?_
   refine hK _ ?_
   clear hK K
   refine Run.nq ?_
   refine Run.c ?_ ?_
   ·intro hb
    have hb:=(badE_spec c i j).1 hb
    refine Run.R ?_
    refine Run.r [2] ?_
    refine⟨?_,rfl⟩
    rw [isC_false fun h=>h.2.2.2 i j hc2 hc3 hb]
   ·intro hb
    have hb:¬badE c i j:=fun h=>by
     have:=(badE_spec c i j).2 h
     rw [this]at hb
     cases hb
    refine Run.keep [0,2,4,5] ?_;simp only [AK,Nat.reduceBEq]
    refine Run.RW ?_
    refine Run.le ?_ (ihj (j+1) ⟨hc3,fun q hq=>?_⟩ om)
    ·exact Le.sub (by simp only [AW7,simprocAttr]) (by simp only [AW7,simprocAttr,Option.some.injEq,Prod.mk.injEq,Sl.v.injEq,AV.int.injEq,AV.own.injEq,AV.bool.injEq];try(repeat' apply And.intro);all_goals omega)
    ·rcases Nat.lt_succ_iff_lt_or_eq.1 hq with h | rfl
     ·exact hcj q h
     ·exact hb
  ·intro hc3
   have hc3:j=c.length:=by simp at hc3;omega
   subst hc3
   refine Run.x ?_
   refine Run.RW ?_
   refine Run.le ?_ (ih (i+1) ⟨hc2,fun k q hk hq=>?_⟩ om)
   ·exact Le.sub (by simp only [AW7,simprocAttr]) (by simp only [AW7,simprocAttr,Option.some.injEq,Prod.mk.injEq,Sl.v.injEq,AV.int.injEq,AV.own.injEq,AV.bool.injEq];try(repeat' apply And.intro);all_goals omega)
   ·rcases Nat.lt_succ_iff_lt_or_eq.1 hk with h | rfl
    ·exact hcel k q h hq
    ·exact hcj q hq
 ·intro hc2
  have hc2:i=c.length:=by simp at hc2;omega
  subst hc2
  refine Run.x ?_
  refine Run.g fun K hK=>?_
  refine FunA.e hP hT (c_spec_l1In (c.length:Int) 1 4) ?_
  refine wE ?_;clear hK K
  refine Run.r [2] ?_
  refine⟨?_,rfl⟩
  have:isC c=inB c.length 1 4:=by
   rw [Bool.eq_iff_iff,isC_iff,inB_iff]
   constructor
   ·intro h;have h1:=h.1;have h2:=h.2.1;omega
   ·intro h;exact⟨by omega,by omega,hrow,fun k q hk hq=>hcel k q hk hq⟩
  rw [this]
theorem c_l1Pick (s:Value) (l:List (List UInt8)) (h0:0 < l.length) (hl:l.length<=256):FunO B 160 [.own 0 0,.sl false .str l] (.cur s 0) (fun rs o=>∃ x:List UInt8,rs=[.str x]/\x∈l/\o=[.cur s 0]):=by
 refine FunO.walk B_ok (fn:=Tryz.f160) (fun vs w=>Tryz.call160 vs w) Tryz.func160 rfl (by rw [Tryz.ntmps160];simp) (fun C hC hP hT hΓ hbt hfn hpin hfin=>?_);have hX:=BX;rw [<- hΓ,<- hbt.1,<- hbt.2.1,<- hbt.2.2.1,<- hbt.2.2.2.2]at hX;rw [hT]at hX;rw [Tryz.ntmps160];simp only [AW7,simprocAttr,hX]
 refine Run.R ?_
 refine Run.g fun K hK=>?_
 refine FunO.callCur hP hT (c_l1Below s l.length om om) 0 0 (by first | rfl | (simp only [AW7,simprocAttr];done) | (simp only [AW7,simprocAttr];rfl)) (by simp only [AW7,simprocAttr]) ?_
 rintro rs o' obs' ⟨x,rfl,x0,x1,ho⟩
 injection ho with ho1 ho2;subst ho1 ho2
 have x1:=x1 om
 refine wWW ?_
 refine wE ?_;clear hK K
 refine Run.rW [4] (hfin _ _ _ rfl rfl ⟨rfl,rfl⟩ ?_)
 refine⟨_,rfl,?_,rfl⟩
 rw [gdE,geE om]
 simp
def chR (n i:Nat):List Int:=(List.range n).map fun j=>if j=i then 2 else if j+1=i\/i+1=j then -1 else 0
def chL (n:Nat):List (List Int):=(List.range n).map (chR n)
theorem chR_eq (n i:Nat) (hi:i < n):(if i+1 < n then(if 0 < i then((List.replicate n (0:Int)).set i 2).set (i - 1) (-1) else(List.replicate n (0:Int)).set i 2).set (i+1) (-1) else(if 0 < i then((List.replicate n (0:Int)).set i 2).set (i - 1) (-1) else(List.replicate n (0:Int)).set i 2))=chR n i:=by
 apply List.ext_getElem?
 intro j
 unfold chR
 by_cases hj:j < n
 ·by_cases h1:i+1 < n<;>by_cases h2:0 < i<;>simp only [h1,h2,if_true,if_false,List.getElem?_set,List.length_set,List.length_replicate,List.getElem?_map,List.getElem?_range hj,Option.map_some,List.getElem?_replicate,hj]<;>(repeat' split)<;>first | rfl | omega | (simp;omega) | simp_all
 ·rw [geN,geN]
  ·simp;omega
  ·split<;>split<;>simp<;>omega
theorem chL_snoc (n i:Nat):(List.range (i+1)).map (chR n)=(List.range i).map (chR n) ++ [chR n i]:=by rw [List.range_succ];simp
theorem c_l2ChainR (n:Nat) (hn:n<=8):FunA B 184 [.int .i64 n] (fun rs o=>∃ ys g nn rest,(rw2 ys=chL n/\nn=true/\rest=[])/\(lb1 ys).Nodup/\rest.all flatAV=true/\rs=.own 0 g :: rest/\o=[.arr .lrow ys g nn]):=by
 refine wk Tryz.call184 Tryz.func184 rfl Tryz.ntmps184 fun C hC hP hT hfn hpin hfin hX=>wW ?_
 refine Run.R ?_
 refine Run.R ?_
 refine Run.R ?_
 refine Run.loopI (X:=List (Nat×List Int)×Nat) (fun y=>⟨36,[(0,true,.v (.int .i64 n)),(3,true,.v (.own 0 0)),(4,true,.v (.int .i64 (y.2)))],[.arr .lrow (y.1) 0 true]⟩) (fun y=>y.2<=n/\rw2 y.1=(List.range y.2).map (chR n)/\(lb1 y.1).Nodup) (fun y=>n - y.2) (([],0)) (⟨nz0 _,rfl,by simp [lb1]⟩) ?_ ?_
 ·exact Le.s
 rintro⟨ys,i⟩ ⟨hi,hE,hN⟩ ih
 try simp only []
 simp only []at hi hE hN
 refine Run.R ?_
 refine Run.c ?_ ?_
 rotate_left
 ·intro h
  have h:i=n:=by rw [dfE]at h;omega
  subst h
  refine Run.x ?_
  refine Run.R ?_
  refine Run.r [2] ?_
  exact⟨ys,0,true,[],⟨hE,rfl,rfl⟩,hN,rfl,rfl,rfl⟩
 intro h
 have h:i < n:=by rw [dtE]at h;omega
 have e1:((i:Int) - 1).toNat=i - 1:=by omega
 have e2:((i:Int)+1).toNat=i+1:=by omega
 have hyl:ys.length=i:=by
  have:(rw2 ys).length=ys.length:=by simp [rw2]
  rw [hE]at this;simpa using this.symm
 have hch:=chR_eq n i h
 refine Run.R ?_
 refine Run.R ?_
 refine Run.R ?_
 refine Run.c ?_ ?_
 ·intro h1
  have h1:0 < i:=by rw [dtE]at h1;omega
  refine Run.RW ?_
  refine Run.RW ?_
  refine Run.c ?_ ?_
  ·intro h2
   have h2:i+1 < n:=by rw [dtE]at h2;omega
   rw [if_pos h2,if_pos h1]at hch
   refine Run.RW ?_
   rw [e1,e2,hch]
   refine Run.k [0,3,4,5] [0,1] ?_
   refine Run.tolr 1 [0,3,4,5] rfl (fun q hq=>?_);simp only [AL,frV_cons,frV_nil,AW7,simprocAttr]
   refine Run.R ?_
   refine Run.k [0,3,4] [0] ?_
   have hnd2:(lb1 (ys ++ [(q,chR n i)])).Nodup:=by
    rw [lb1_app,List.nodup_append]
    refine⟨hN,by simp [lb1],fun a ha b hb=>?_⟩
    simp [lb1]at hb
    subst hb
    obtain⟨p,hp,rfl⟩:=List.mem_map.1 ha
    exact hq _ (mcS ..) _ _ _ rfl p hp
   have hE2:rw2 (ys ++ [(q,chR n i)])=(List.range (i+1)).map (chR n):=by
    rw [chL_snoc,<- hE];simp [rw2]
   refine Run.RW ?_
   exact Run.j (ih ((ys ++ [(q,chR n i)],i+1)) (⟨h,hE2,hnd2⟩) mz)
  intro h2
  have h2:¬i+1 < n:=by rw [dfE]at h2;omega
  rw [if_neg h2,if_pos h1]at hch
  rw [e1,hch]
  refine Run.k [0,3,4,5] [0,1] ?_
  refine Run.tolr 1 [0,3,4,5] rfl (fun q hq=>?_);simp only [AL,frV_cons,frV_nil,AW7,simprocAttr]
  refine Run.R ?_
  refine Run.k [0,3,4] [0] ?_
  have hnd2:(lb1 (ys ++ [(q,chR n i)])).Nodup:=by
   rw [lb1_app,List.nodup_append]
   refine⟨hN,by simp [lb1],fun a ha b hb=>?_⟩
   simp [lb1]at hb
   subst hb
   obtain⟨p,hp,rfl⟩:=List.mem_map.1 ha
   exact hq _ (mcS ..) _ _ _ rfl p hp
  have hE2:rw2 (ys ++ [(q,chR n i)])=(List.range (i+1)).map (chR n):=by
   rw [chL_snoc,<- hE];simp [rw2]
  refine Run.RW ?_
  exact Run.j (ih ((ys ++ [(q,chR n i)],i+1)) (⟨h,hE2,hnd2⟩) mz)
 intro h1
 have h1:¬0 < i:=by rw [dfE]at h1;omega
 refine Run.RW ?_
 refine Run.c ?_ ?_
 ·intro h2
  have h2:i+1 < n:=by rw [dtE]at h2;omega
  rw [if_pos h2,if_neg h1]at hch
  refine Run.RW ?_
  rw [e2,hch]
  refine Run.k [0,3,4,5] [0,1] ?_
  refine Run.tolr 1 [0,3,4,5] rfl (fun q hq=>?_);simp only [AL,frV_cons,frV_nil,AW7,simprocAttr]
  refine Run.R ?_
  refine Run.k [0,3,4] [0] ?_
  have hnd2:(lb1 (ys ++ [(q,chR n i)])).Nodup:=by
   rw [lb1_app,List.nodup_append]
   refine⟨hN,by simp [lb1],fun a ha b hb=>?_⟩
   simp [lb1]at hb
   subst hb
   obtain⟨p,hp,rfl⟩:=List.mem_map.1 ha
   exact hq _ (mcS ..) _ _ _ rfl p hp
  have hE2:rw2 (ys ++ [(q,chR n i)])=(List.range (i+1)).map (chR n):=by
   rw [chL_snoc,<- hE];simp [rw2]
  refine Run.RW ?_
  exact Run.j (ih ((ys ++ [(q,chR n i)],i+1)) (⟨h,hE2,hnd2⟩) mz)
 intro h2
 have h2:¬i+1 < n:=by rw [dfE]at h2;omega
 rw [if_neg h2,if_neg h1]at hch
 rw [hch]
 refine Run.k [0,3,4,5] [0,1] ?_
 refine Run.tolr 1 [0,3,4,5] rfl (fun q hq=>?_);simp only [AL,frV_cons,frV_nil,AW7,simprocAttr]
 refine Run.R ?_
 refine Run.k [0,3,4] [0] ?_
 have hnd2:(lb1 (ys ++ [(q,chR n i)])).Nodup:=by
  rw [lb1_app,List.nodup_append]
  refine⟨hN,by simp [lb1],fun a ha b hb=>?_⟩
  simp [lb1]at hb
  subst hb
  obtain⟨p,hp,rfl⟩:=List.mem_map.1 ha
  exact hq _ (mcS ..) _ _ _ rfl p hp
 have hE2:rw2 (ys ++ [(q,chR n i)])=(List.range (i+1)).map (chR n):=by
  rw [chL_snoc,<- hE];simp [rw2]
 refine Run.RW ?_
 exact Run.j (ih ((ys ++ [(q,chR n i)],i+1)) (⟨h,hE2,hnd2⟩) mz)
theorem c_l2Chain (n:Nat) (hn:n<=8):FunA B 184 [.int .i64 n] (fun rs o=>rs=[.own 0 0]/\∃ hs,o=[.mat hs (chL n) 0 true]):=
 (FunA.mat (by rfl) (post:=fun rows nn rest=>rows=chL n/\nn=true/\rest=[]) (c_l2ChainR n hn)).mono fun rs o ⟨hs,rows,nn,rest,⟨h1,h2,h3⟩,h4,h5,h6⟩=>by subst h1 h2 h3;exact⟨h5,hs,h6⟩
theorem c_l2CopyR (c:LL) (hc:c.length<=100) (hr:∀ r∈c,r.length<=100):FunA B 205 [.sl false (.row false) c] (fun rs o=>∃ ys g nn rest,(rw2 ys=c/\nn=true/\rest=[])/\(lb1 ys).Nodup/\rest.all flatAV=true/\rs=.own 0 g :: rest/\o=[.arr .lrow ys g nn]):=by
 refine wk Tryz.call205 Tryz.func205 rfl Tryz.ntmps205 fun C hC hP hT hfn hpin hfin hX=>wW ?_
 refine Run.R ?_
 refine Run.R ?_
 refine Run.R ?_
 refine Run.loopI (X:=List (Nat×List Int)×Nat) (fun y=>⟨22,[(0,true,.v (.sl false (.row false) c)),(3,true,.v (.own 0 0)),(4,true,.v (.int .i64 (y.2)))],[.arr .lrow (y.1) 0 true]⟩) (fun y=>y.2<=c.length/\rw2 y.1=c.take y.2/\(lb1 y.1).Nodup) (fun y=>c.length - y.2) (([],0)) (⟨nz0 _,rfl,by simp [lb1]⟩) ?_ ?_
 ·exact Le.s
 rintro⟨ys,i⟩ ⟨hi,hE,hN⟩ ih
 try simp only []
 simp only []at hi hE hN
 refine Run.R ?_
 refine Run.c ?_ ?_
 rotate_left
 ·intro h
  have h:i=c.length:=by rw [dfE]at h;omega
  subst h
  refine Run.x ?_
  refine Run.R ?_
  refine Run.r [2] ?_
  exact⟨ys,0,true,[],⟨by rw [hE,tkL],rfl,rfl⟩,hN,rfl,rfl,rfl⟩
 intro h
 have h:i < c.length:=by rw [dtE]at h;omega
 have hyl:ys.length=i:=by
  have:(rw2 ys).length=ys.length:=by simp [rw2]
  rw [hE]at this
  simp at this
  omega
 have hrl:(c.getD i []).length<=100:=by
  rw [gdE,geE h]
  exact hr _ (List.getElem_mem h)
 refine Run.g fun K hK=>?_
 refine⟨by simp only [lenN];omega,fun q hq=>⟨by simp only [lenC,lenN];omega,?_⟩⟩
 refine wE ?_;clear hK K
 refine Run.k [0,3,4] [0] ?_
 have hnd2:(lb1 (ys ++ [(q,c.getD i [])])).Nodup:=by
  rw [lb1_app,List.nodup_append]
  refine⟨hN,by simp [lb1],fun a ha b hb=>?_⟩
  simp [lb1]at hb
  subst hb
  obtain⟨p,hp,rfl⟩:=List.mem_map.1 ha
  exact hq _ (mcS ..) _ _ _ rfl p hp
 have hE2:rw2 (ys ++ [(q,c.getD i [])])=c.take (i+1):=by
  rw [<- take_snoc [] c i h,<- hE];simp [rw2]
 refine Run.RW ?_
 exact Run.j (ih ((ys ++ [(q,c.getD i [])],i+1)) (⟨h,hE2,hnd2⟩) mz)
theorem c_l2Copy (c:LL) (hc:c.length<=100) (hr:∀ r∈c,r.length<=100):FunA B 205 [.sl false (.row false) c] (fun rs o=>rs=[.own 0 0]/\∃ hs,o=[.mat hs c 0 true]):=
 (FunA.mat (by rfl) (post:=fun rows nn rest=>rows=c/\nn=true/\rest=[]) (c_l2CopyR c hc hr)).mono fun rs o ⟨hs,rows,nn,rest,⟨h1,h2,h3⟩,h4,h5,h6⟩=>by subst h1 h2 h3;exact⟨h5,hs,h6⟩
def set1 (c:LL) (i j:Nat) (a:Int):List (List Int):=c.set i ((c.getD i []).set j a)
theorem set1_len (c:LL) (i j:Nat) (a:Int):(set1 c i j a).length=c.length:=by simp [set1]
theorem set1_row (c:LL) (i j k:Nat) (a:Int):((set1 c i j a).getD k []).length=(c.getD k []).length:=by
 unfold set1
 simp only [gdE]
 by_cases h:i=k
 ·subst h
  by_cases hi:i < c.length
  ·rw [List.getElem?_set_self hi];simp
  ·rw [List.set_eq_of_length_le om]
 ·rw [List.getElem?_set_ne h]
theorem c_l2Set (c:LL) (i j:Nat) (a b:Int) (hc:c.length<=100) (hr:∀ r∈c,r.length<=100) (hi:i < c.length) (hj:j < c.length) (h1:j < (c.getD i []).length) (h2:i < (c.getD j []).length) :
  FunA B 185 [.sl false (.row false) c,.int .i64 i,.int .i64 j,.int .i64 a,.int .i64 b] (fun rs o=>rs=[.own 0 0]/\∃ hs,o=[.mat hs (set1 (set1 c i j a) j i b) 0 true]):=by
 refine wk Tryz.call185 Tryz.func185 rfl Tryz.ntmps185 fun C hC hP hT hfn hpin hfin hX=>wW ?_
 refine Run.R ?_
 refine Run.g fun K hK=>?_
 refine FunA.cW hP hT (c_l2Copy c hc hr) ?_
 rintro rs o ⟨rfl,hs,rfl⟩
 refine wF ?_;clear hK K
 refine Run.matfact 0 rfl fun hl hd hz=>?_
 obtain⟨q1,e1,m1,x1⟩:=mat_head hl hd hz hi om
 have hl2:hs.length=(set1 c i j a).length:=by rw [set1_len];exact hl
 have hv1:j < (c.getD (hs.idxOf (some q1)) []).length:=by rw [x1];exact h1
 have hs1:setM hs c q1 j a=set1 c i j a:=by unfold setM set1;rw [x1]
 refine Run.g fun K hK=>?_
 rw [e1]
 refine wF ?_;clear hK K
 rw [hs1]
 refine Run.k [0,1,2,3,4,11] [0] ?_
 refine Run.matfact 0 rfl fun hl hd hz=>?_
 obtain⟨q2,e2,m2,x2⟩:=mat_head (i:=j) hl hd hz (by rw [set1_len];exact hj) (by rw [set1_row];omega)
 have hv2:i < ((set1 c i j a).getD (hs.idxOf (some q2)) []).length:=by rw [x2,set1_row];exact h2
 have hs2:setM hs (set1 c i j a) q2 i b=set1 (set1 c i j a) j i b:=by unfold setM;rw [x2];rfl
 have h2':=h2
 rw [<- set1_row c i j j a]at h2'
 have hj':j < (set1 c i j a).length:=by rw [set1_len];exact hj
 refine Run.g fun K hK=>?_
 rw [e2]
 refine wF ?_;clear hK K
 rw [hs2]
 refine Run.R ?_
 refine Run.k [10] [0] ?_
 refine Run.r [10] ?_
 exact⟨rfl,hs,rfl⟩
end Go.Proofs.YtcinngodeoidnaaGreat
