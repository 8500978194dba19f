/- The program's search for the roots up to a height: its walk. -/
import Derived.Test.YtcinngodeoidnaaGreatB20
import Derived.Test.YtcinngodeoidnaaGreatB18
import Derived.Test.YtcinngodeoidnaaGreatB15
import Derived.Test.YtcinngodeoidnaaGreatB17
import Derived.Test.YtcinngodeoidnaaGreatB14
import Derived.Test.YtcinngodeoidnaaGreatB16
import Derived.Test.YtcinngodeoidnaaGreatB12
set_option linter.unusedVariables false
set_option linter.unusedSimpArgs false
namespace Go.Proofs.YtcinngodeoidnaaGreat
open Go Go.Aw Go.Cox
def srtB_ren:Go.Shelf.Ren:=⟨fun | 6=>147 | 15=>135 | 14=>180 | 28=>170 | 29=>171 | 20=>195 | 21=>196 | 22=>197 | 23=>198 | 24=>199 | 25=>200 | 26=>201 | 27=>202 | 46=>207 | 47=>187 | 48=>188 | 49=>208 | 50=>209 | 57=>219 | n=>n,fun | 22=>88 | 24=>92 | 25=>95 | 3=>3 | 39=>82 | 0=>0 | 53=>111 | 55=>113 | 4=>4 | 46=>104 | 45=>103 | 50=>108 | 5=>5 | 9=>9 | 66=>119 | 70=>123 | 76=>131 | 77=>132 | n=>n,fun n=>n⟩
theorem srtB:SlLaysF0.n6 Tryz.prog srtB_ren where
 mixed:=by kernel_rfl
 f6:=⟨Tryz.f147.name,by decide,Tryz.func147.trans (congrArg some (by kernel_rfl))⟩
 f14:=⟨Tryz.f180.name,by decide,Tryz.func180.trans (congrArg some (by kernel_rfl))⟩
 f15:=Tryz.func135.trans (congrArg some (by kernel_rfl))
 f20:=⟨Tryz.f195.name,by decide,Tryz.func195.trans (congrArg some (by kernel_rfl))⟩
 f21:=⟨Tryz.f196.name,by decide,Tryz.func196.trans (congrArg some (by kernel_rfl))⟩
 f22:=⟨Tryz.f197.name,by decide,Tryz.func197.trans (congrArg some (by kernel_rfl))⟩
 f23:=⟨Tryz.f198.name,by decide,Tryz.func198.trans (congrArg some (by kernel_rfl))⟩
 f24:=⟨Tryz.f199.name,by decide,Tryz.func199.trans (congrArg some (by kernel_rfl))⟩
 f25:=⟨Tryz.f200.name,by decide,Tryz.func200.trans (congrArg some (by kernel_rfl))⟩
 f26:=⟨Tryz.f201.name,by decide,Tryz.func201.trans (congrArg some (by kernel_rfl))⟩
 f27:=⟨Tryz.f202.name,by decide,Tryz.func202.trans (congrArg some (by kernel_rfl))⟩
 f28:=Tryz.func170.trans (congrArg some (by kernel_rfl))
 f29:=Tryz.func171.trans (congrArg some (by kernel_rfl))
 f46:=⟨Tryz.f207.name,by decide,Tryz.func207.trans (congrArg some (by kernel_rfl))⟩
 f47:=Tryz.func187.trans (congrArg some (by kernel_rfl))
 f48:=Tryz.func188.trans (congrArg some (by kernel_rfl))
 f49:=⟨Tryz.f208.name,by decide,Tryz.func208.trans (congrArg some (by kernel_rfl))⟩
 f50:=⟨Tryz.f209.name,by decide,Tryz.func209.trans (congrArg some (by kernel_rfl))⟩
 f57:=⟨Tryz.f219.name,by decide,Tryz.func219.trans (congrArg some (by kernel_rfl))⟩
 t0:=Tryz.underlying0
 a0:=Tryz.isAgg0
 z0:=Tryz.sizeOf0
 v0:=Tryz.zeroValue0
 t3:=Tryz.underlying3
 a3:=Tryz.isAgg3
 z3:=Tryz.sizeOf3
 v3:=Tryz.zeroValue3
 t4:=Tryz.underlying4
 a4:=Tryz.isAgg4
 z4:=Tryz.sizeOf4
 v4:=Tryz.zeroValue4
 t5:=Tryz.underlying5
 a5:=Tryz.isAgg5
 z5:=Tryz.sizeOf5
 v5:=Tryz.zeroValue5
 t9:=Tryz.underlying9
 a9:=Tryz.isAgg9
 z9:=Tryz.sizeOf9
 v9:=Tryz.zeroValue9
 t22:=Tryz.underlying88
 a22:=Tryz.isAgg88
 z22:=Tryz.sizeOf88
 v22:=Tryz.zeroValue88
 t25:=Tryz.underlying95
 a25:=Tryz.isAgg95
 z25:=Tryz.sizeOf95
 v25:=Tryz.zeroValue95
 t39:=Tryz.underlying82
 a39:=Tryz.isAgg82
 z39:=Tryz.sizeOf82
 v39:=Tryz.zeroValue82
 t45:=Tryz.underlying103
 a45:=Tryz.isAgg103
 z45:=Tryz.sizeOf103
 v45:=Tryz.zeroValue103
 t46:=Tryz.underlying104
 a46:=Tryz.isAgg104
 z46:=Tryz.sizeOf104
 v46:=Tryz.zeroValue104
 t50:=Tryz.underlying108
 a50:=Tryz.isAgg108
 z50:=Tryz.sizeOf108
 v50:=Tryz.zeroValue108
 t53:=Tryz.underlying111
 a53:=Tryz.isAgg111
 z53:=Tryz.sizeOf111
 v53:=Tryz.zeroValue111
 t55:=Tryz.underlying113
 a55:=Tryz.isAgg113
 z55:=Tryz.sizeOf113
 v55:=Tryz.zeroValue113
 t66:=Tryz.underlying119
 a66:=Tryz.isAgg119
 z66:=Tryz.sizeOf119
 v66:=Tryz.zeroValue119
 t70:=Tryz.underlying123
 a70:=Tryz.isAgg123
 z70:=Tryz.sizeOf123
 v70:=Tryz.zeroValue123
 t76:=Tryz.underlying131
 a76:=Tryz.isAgg131
 z76:=Tryz.sizeOf131
 v76:=Tryz.zeroValue131
 t77:=Tryz.underlying132
 a77:=Tryz.isAgg132
 z77:=Tryz.sizeOf132
 v77:=Tryz.zeroValue132
theorem aCT_some (C:Ctx) (ds:Rg) (rest:List Oper) (n:Nat) (fr:List (Nat×Bool×Sl)) (obs:List O) (K:St->Prop) (d:Nat) (hs:Prop) (xs:List AV) (f:FuncId) :
  aCT C ds rest n fr obs K (some d) hs xs (some f)=(d < n/\hs/\ACall C obs f xs fun x obs'=>(ds.kp=true->Keeps obs obs')/\Later (aexec C ds rest ⟨n,(d,true,x) :: fr,obs'⟩ K)):=rfl
theorem lrA_hp (id g:Nat) (z:AV) (h k:Nat):lrA id g z (.hp h k)=.hp h k:=rfl
set_option maxHeartbeats 4000000 in
theorem c_impl_pairedRoots (c:LL) (H:Int) (hc:CartanP c) (h1:1<=H) (h2:H<=12):FunA B 108 [.sl false (.row false) c,.int .i64 H]
  (fun rs o=>∃ L zs,(RL c H L/\∀ z,RS c H z->z∈L)/\rs=[.own 0 0,.own 1 0]/\o=[.arr (.row true) L 0 true,.arr (.row true) zs 0 true]):=by
 have hn:=hc.2.1
 refine wk Tryz.call108 Tryz.func108 rfl Tryz.ntmps108 fun C hC hP hT hfn hpin hfin hX=>wW ?_
 refine Run.g fun K hK=>?_
 intro hb
 refine wE ?_;clear hK K
 refine Run.g fun K hK=>?_
 refine FunA.cW hP hT (c_impl_TransposeCartan c hc) ?_
 rintro rs o ⟨rfl,ts,hts,rfl⟩
 refine wF ?_;clear hK K
 refine Run.g fun K hK=>?_
 intro lb
 refine wE ?_;clear hK K
 refine Run.g fun K hK=>?_
 intro sb mb
 refine wE ?_;clear hK K
 refine Run.R ?_
 refine Run.R ?_
 refine Run.k [0,3,4,5,6,7,8,9,24,25] [0,1] ?_
 refine Run.loopI (X:=Nat×List (List Int×List Int)) (fun x=>⟨90,[(0,true,.v (.sl false (.row false) c)),(3,true,.v (.hp hb 0)),(4,true,.v (.nils)),(5,true,.v (.nils)),(6,true,.v (.own 1 0)),(7,true,.v (.hp lb 0)),(8,true,.v (.hp sb 0)),(9,true,.v (.clo3 146 sb hb lb)),(24,true,.v (.int .i64 ((c.length:Nat)))),(25,true,.v (.int .i64 (x.1)))],[.bag ⟨4,hb,H,lb,true,x.2,sb,mb,⟨true,false⟩,mlR (x.2.map (·.1))⟩ 0,.arr .lrow (ts) 0 true]⟩) (fun x=>x.1<=c.length/\PI c H x.2/\SimP c x.1 x.2) (fun x=>c.length - x.1) ((0,[])) (⟨nz0 _,⟨PL.nil c H,fun p hp=>by cases hp⟩,fun i hi=>absurd hi (Nat.not_lt_zero i)⟩) ?_ ?_
 ·exact Le.s
 rintro⟨k,xs⟩ ⟨hk,hI,hS⟩ ih
 try simp only []
 simp only []at hk hI hS
 have hxl:=hI.len hc h1 h2
 refine Run.R ?_
 refine Run.c ?_ ?_
 ·intro h
  have h:k < c.length:=by simpa using h
  refine Run.R ?_
  refine Run.g fun K hK=>?_
  refine FunA.cW hP hT (c_impl_simple c.length k om om) ?_
  rintro rs o ⟨rfl,rfl⟩
  simp only [Int.toNat_natCast]
  refine wW ?_
  refine FunA.cW hP hT (c_impl_simple c.length k om om) ?_
  rintro rs o ⟨rfl,rfl⟩
  simp only [Int.toNat_natCast]
  refine wW ?_
  rw [aCT_some]
  refine wW ?_
  refine ACall.letgo 2 rfl ?_
  simp only [AL,lrA_hp,List.map_cons,List.map_nil,AW7,simprocAttr]
  refine ACall.letgo 3 rfl ?_
  simp only [AL,lrA_hp,List.map_cons,List.map_nil,AW7,simprocAttr]
  refine FunO.callBag hP hT (c_add (simL c.length k) (simL c.length k) H hb lb sb mb xs (fun x hx=>by have:=(RS.sim (h:=H) k h).box h1 x hx;omega) (by rw [simL_len];exact hn) (fun z hz=>by rw [hI.lens z hz,simL_len]) om) 0 0 rfl (by simp only [AW7,simprocAttr]) ?_
  rintro rs o' obs' ⟨rfl,g,e⟩
  injection e with e1 e2
  subst e1 e2
  refine wF ?_;clear hK K
  refine Run.RW ?_
  refine Run.k [0,3,4,5,6,7,8,9,24,25] [0,1] ?_
  refine Run.le ?_ (ih (k+1,addX H xs (simL c.length k,simL c.length k)) ⟨h,hI.add hc (Rt.sim h) (simL_len _ _),hS.next hc h h1 _⟩ (by simp only [];omega))
  exact Le.sub (by rfl) (by simp only [AW7,simprocAttr];try simp)
 intro h
 have h:k=c.length:=by simp at h;omega
 subst h
 refine Run.x ?_
 refine Run.R ?_
 refine Run.k [0,3,4,5,6,7,8,9,11] [0,1] ?_
 refine Run.loopI (X:=Nat×List (List Int×List Int)) (fun x=>⟨90,[(0,true,.v (.sl false (.row false) c)),(3,true,.v (.hp hb 0)),(4,true,.v (.nils)),(5,true,.v (.nils)),(6,true,.v (.own 1 0)),(7,true,.v (.hp lb 0)),(8,true,.v (.hp sb 0)),(9,true,.v (.clo3 146 sb hb lb)),(11,true,.v (.int .i64 (x.1)))],[.bag ⟨4,hb,H,lb,true,x.2,sb,mb,⟨true,false⟩,mlR (x.2.map (·.1))⟩ 0,.arr .lrow (ts) 0 true]⟩) (fun x=>x.1<=x.2.length/\PI c H x.2/\SimP c c.length x.2/\PD c H (x.2.map (·.1)) x.1 0) (fun x=>28561 - x.1) ((0,xs)) (⟨nz0 _,hI,hS,PD.zero _ _ _⟩) ?_ ?_
 ·exact Le.s
 rintro⟨k,zs⟩ ⟨hk2,hI2,hS2,hD2⟩ ihO
 try simp only []
 simp only []at hk2 hI2 hS2 hD2
 have hzl:=hI2.len hc h1 h2
 refine Run.R ?_
 refine Run.c ?_ ?_
 ·intro h
  have h:k < zs.length:=by rw [dtE]at h;omega
  obtain⟨hR,hdl⟩:=hI2.at h
  refine Run.g fun K hK=>?_
  rw [prSt_arr]
  refine wF ?_;clear hK K
  generalize hd:zs.getD k ([],[])=d at hR hdl
  refine Run.letgoP 2 12 rfl rfl ?_
  simp only [AW7,simprocAttr]
  refine Run.R ?_
  refine Run.k [0,3,4,5,6,7,8,9,11,12,50,51] [0,1] ?_
  refine Run.loopI (X:=Nat×List (List Int×List Int)) (fun y=>⟨90,[(0,true,.v (.sl false (.row false) c)),(3,true,.v (.hp hb 0)),(4,true,.v (.nils)),(5,true,.v (.nils)),(6,true,.v (.own 1 0)),(7,true,.v (.hp lb 0)),(8,true,.v (.hp sb 0)),(9,true,.v (.clo3 146 sb hb lb)),(11,true,.v (.int .i64 k)),(12,true,.v (.relt true .pr d)),(50,true,.v (.int .i64 ((c.length:Nat)))),(51,true,.v (.int .i64 (y.1)))],[.bag ⟨4,hb,H,lb,true,y.2,sb,mb,⟨true,false⟩,mlR (y.2.map (·.1))⟩ 0,.arr .lrow (ts) 0 true]⟩) (fun y=>(y.1<=c.length/\k < y.2.length/\y.2.getD k ([],[])=d)/\PI c H y.2/\SimP c c.length y.2/\PD c H (y.2.map (·.1)) k y.1) (fun y=>c.length - y.1) ((0,zs)) (⟨⟨nz0 _,h,hd⟩,hI2,hS2,hD2⟩) ?_ ?_
  ·exact Le.s
  rintro⟨i,us⟩ ⟨⟨hi,hku,hdu⟩,hI3,hS3,hD3⟩ ihK
  try simp only []
  simp only []at hi hku hdu hI3 hS3 hD3
  have hul:=hI3.len hc h1 h2
  refine Run.R ?_
  refine Run.c ?_ ?_
  ·intro hq
   have hq:i < c.length:=by rw [dtE]at hq;omega
   have hdb:Bnd 100000000000000000 d.1:=fun x hx=>by have:=hR.box h1 x hx;omega
   have hmb:Bnd 1000000000000000000 (mirL c i d.1):=fun x hx=>by
    have:=mir_bnd hc (i:=(i:Int)) om hR.len (M:=12) om (fun y hy=>by have:=hR.box h1 y hy;omega) x hx
    omega
   have htr:(ts.map (·.2)).length=c.length:=by have:=congrArg List.length hts;rw [trL_len]at this;simpa [rw2] using this
   have hrowt:((ts.map (·.2)).getD (i:Int).toNat []).length=(ts.map (·.2)).length:=by
    rw [htr,show ts.map (·.2)=trL c from hts,Int.toNat_natCast,trL_row c hq]
    simp
   refine Run.R ?_
   refine Run.nq ?_
   refine Run.regionDL hC true [0,1,2,3,4,6,7,8,9,5,10] 11 (by kernel_rfl) (by kernel_rfl) (fun K hK=>?_)
   simp only [AW7,simprocAttr,hX]
   (repeat(with_reducible refine And.intro ?_ ?_);exact vc0)
   refine FunA.callD hP hT (c_impl_mirrored c (i:Int) d.1 hc om hR.len hdb) (by simp only [AW7,simprocAttr]) ?_
   rintro rs o ⟨rfl,rfl⟩
   refine wW ?_
   refine FunA.callD hP hT (c_impl_mirrored_w (ts.map (·.2)) (i:Int) d.2 om om hrowt om) (by simp only [AW7,simprocAttr]) ?_
   rintro rs o ⟨rfl,ys,hyl,rfl⟩
   refine wW ?_
   rw [aCT_some]
   refine wW ?_
   refine ACall.letgo 2 rfl ?_
   simp only [AL,lrA_hp,List.map_cons,List.map_nil,AW7,simprocAttr]
   refine ACall.letgo 3 rfl ?_
   simp only [AL,lrA_hp,List.map_cons,List.map_nil,AW7,simprocAttr]
   refine FunO.callBag hP hT (c_add (mirL c i d.1) ys H hb lb sb mb us hmb (by rw [mir_len,hR.len];exact hn) (fun z hz=>by rw [hI3.lens z hz,mir_len,hR.len]) om) 0 0 rfl (by simp only [AW7,simprocAttr]) ?_
   rintro rs o' obs' ⟨rfl,g,e⟩
   injection e with e1 e2
   subst e1 e2
   refine wF ?_;clear hK K
   refine Run.RW ?_
   refine Run.k [0,3,4,5,6,7,8,9,11,12,50,51] [0,1] ?_
   have hD4:PD c H ((addX H us (mirL c i d.1,ys)).map (·.1)) k (i+1):=by
    rw [addX_fst]
    have:=hD3.add (by rw [List.length_map];exact hku)
    rw [fst_at hku,hdu]at this
    exact this
   refine Run.le ?_ (ihK (i+1,addX H us (mirL c i d.1,ys)) ⟨⟨hq,Nat.lt_of_lt_of_le hku (addX_len _ _ _),by simp only [];rw [addX_get hku];exact hdu⟩,hI3.add hc (hR.rt.mir om) om,hS3.add _ _,hD4⟩ (by simp only [];omega))
   exact Le.sub (by rfl) (by simp only [AW7,simprocAttr];try simp)
  intro hq
  have hq:i=c.length:=by rw [dfE]at hq;omega
  subst hq
  refine Run.x ?_
  refine Run.RW ?_
  refine Run.k [0,3,4,5,6,7,8,9,11] [0,1] ?_
  refine Run.le ?_ (ihO (k+1,us) ⟨hku,hI3,hS3,hD3.next⟩ (by simp only [];omega))
  exact Le.sub (by rfl) (by simp only [AW7,simprocAttr];try simp)
 intro h
 have h:k=zs.length:=by rw [dfE]at h;omega
 subst h
 have hpos:0 < zs.length:=by
  have:=hS2 0 hc.1
  have:=List.length_pos_of_mem this
  simpa using this
 refine Run.x ?_
 refine Run.g fun K hK=>?_
 refine ACall.sortBag hP hT srtB (fun w=>Tryz.isAgg92 w) (fun w=>Tryz.sizeOf92 w) rfl cmpR_swo rfl (show 2<=4 by decide) hpos (show zs.length<=1048576 by omega) (fun a b ha hb=>?_) ?_
 ·have h3:∀ p∈zs,Bnd 1000000000000000000 p.1/\p.1.length=c.length:=fun p hp=>by
   have hm:=hI2.pl.mem p.1 (List.mem_map.2 ⟨p,hp,rfl⟩)
   exact⟨fun x hx=>by have:=hm.box h1 x hx;omega,hm.len⟩
  exact c_cmpPair a b (h3 a ha).1 (h3 b hb).1 (by rw [(h3 a ha).2];exact hn) (by rw [(h3 a ha).2,(h3 b hb).2])
 intro ps hpm hps
 have hRL:=sorted_RL hI2 hS2 hD2 hpm hps
 have hpl:ps.length=zs.length:=hpm.length_eq
 refine wF ?_;clear hK K
 refine Run.R ?_
 refine Run.torows hC 2 rfl ?_
 refine Run.torows hC 3 rfl ?_
 simp only [AW7,simprocAttr]
 refine Run.R ?_
 refine Run.k [4,5,14,15,71,72,73] [0,2,3] ?_
 refine Run.loopI (X:=Nat) (fun k=>⟨90,[(4,true,.v (.nils)),(5,true,.v (.nils)),(14,true,.v (.own 1 0)),(15,true,.v (.own 2 0)),(71,true,.v (.own 0 0)),(72,true,.v (.int .i64 ((ps.length:Nat)))),(73,true,.v (.int .i64 k))],[.bag ⟨4,hb,H,lb,true,ps,sb,mb,⟨true,false⟩,mlR (zs.map (·.1))⟩ 0,.arr (.row true) (((ps.take k).map (·.1))) 0 true,.arr (.row true) (((ps.take k).map (·.2))) 0 true]⟩) (fun k=>k<=ps.length) (fun k=>ps.length - k) (0) (nz0 _) ?_ ?_
 ·exact Le.s
 rintro k hk3 ihJ
 try simp only []
 refine Run.R ?_
 refine Run.c ?_ ?_
 ·intro h
  have h:k < ps.length:=by rw [dtE]at h;omega
  have e1:((ps.take k).map (·.1)).length=k:=by simp;omega
  have e2:((ps.take k).map (·.2)).length=k:=by simp;omega
  have hgk:ps.getD k ([],[])=ps[k]:=by simp [gdE,h]
  have f1:(ps.take (k+1)).map (·.1)=(ps.take k).map (·.1) ++ [(ps.getD k ([],[])).1]:=by rw [hgk,List.take_succ_eq_append_getElem h,List.map_append];rfl
  have f2:(ps.take (k+1)).map (·.2)=(ps.take k).map (·.2) ++ [(ps.getD k ([],[])).2]:=by rw [hgk,List.take_succ_eq_append_getElem h,List.map_append];rfl
  refine Run.g fun K hK=>?_
  rw [prSt_arr]
  refine wF ?_;clear hK K
  generalize ps.getD k ([],[])=d at f1 f2
  refine Run.letgoP 3 17 rfl rfl ?_
  simp only [AW7,simprocAttr]
  refine Run.R ?_
  refine Run.R ?_
  refine Run.RW ?_
  refine Run.k [4,5,14,15,71,72,73] [0,1,2] ?_
  refine Run.le ?_ (ihJ (k+1) om om)
  exact Le.sub (by rw [f1,f2]) (by simp only [AW7,simprocAttr];try simp)
 intro h
 have h:k=ps.length:=by rw [dfE]at h;omega
 subst h
 rw [tkL]
 refine Run.x ?_
 refine Run.R ?_
 refine Run.k [4,5] [1,2] ?_
 refine Run.r [4,5] ?_
 exact⟨_,_,hRL,rfl,rfl⟩
theorem c_spec_PositiveRoots (c:LL):FunA B 43 [.sl false (.row false) c] (fun rs o=>rs=[.own 0 0,.bool (isF c)]/\∃ ys,(isF c=true->RL c 12 (rw2 ys)/\∀ z,RS c 12 z->z∈rw2 ys)/\(isF c=false->ys=[])/\(lb1 ys).Nodup/\o=[.arr .lrow ys 0 true]):=by
 refine wk Tryz.call43 Tryz.func43 rfl Tryz.ntmps43 fun C hC hP hT hfn hpin hfin hX=>wW ?_
 refine Run.R ?_
 refine Run.g fun K hK=>?_
 refine FunA.e hP hT (c_spec_IsFinite c) ?_
 refine wE ?_;clear hK K
 refine Run.c ?_ ?_
 ·intro h
  have h:isF c=false:=by simpa using h
  refine Run.R ?_
  refine Run.r [2,3] ?_
  rw [h]
  exact⟨rfl,[],fun h=>absurd h (by simp),fun _=>rfl,by simp [lb1],rfl⟩
 intro h
 have h:isF c=true:=by simpa using h
 have hF:=isF_iff.1 h
 refine Run.g fun K hK=>?_
 refine FunA.cW hP hT (c_spec_RootsUpTo1 c 12 hF.1 om om) ?_
 rintro rs o ⟨rfl,ys,⟨h1,h2,h3⟩,rfl⟩
 refine wF ?_;clear hK K
 refine Run.r [2,3] ?_
 rw [h]
 exact⟨rfl,ys,fun _=>⟨h1,h2⟩,fun h=>absurd h (by simp),h3,rfl⟩
def RAll (c:LL) (h:Int) (L:LL):Prop:=RL c h L/\∀ z,RS c h z->z∈L
theorem RAll.ext {c:LL} {h:Int} {L M:LL} (a:RAll c h L) (b:RAll c h M):L=M:=
 strR_ext a.1.st b.1.st fun x=>⟨fun hx=>b.2 x (a.1.mem x hx),fun hx=>a.2 x (b.1.mem x hx)⟩
open Classical in
noncomputable def rutO (c:LL) (h:Int):List (List Int):=if k:CartanP c/\(1<=h/\h<=12)/\∃ L,RAll c h L then Classical.choose k.2.2 else []
theorem rutO_eq {c:LL} {h:Int} {L:LL} (hc:CartanP c) (hh:1<=h/\h<=12) (k:RAll c h L):rutO c h=L:=by
 have k2:CartanP c/\(1<=h/\h<=12)/\∃ L,RAll c h L:=⟨hc,hh,L,k⟩
 unfold rutO
 rw [dif_pos k2]
 exact(Classical.choose_spec k2.2.2).ext k
theorem rutO_off {c:LL} {h:Int} (k:¬(CartanP c/\1<=h/\h<=12)):rutO c h=[]:=by
 unfold rutO
 rw [dif_neg fun q=>k ⟨q.1,q.2.1⟩]
theorem c_impl_RootsUpTo (c:LL) (h:Int):FunA B 36 [.sl false (.row false) c,.int .i64 h] (fun rs o=>rs=[.own 0 0]/\(CartanP c/\1<=h/\h<=12->RAll c h (rutO c h))/\o=[.arr (.row true) (rutO c h) 0 true]):=by
 refine wk Tryz.call36 Tryz.func36 rfl Tryz.ntmps36 fun C hC hP hT hfn hpin hfin hX=>wW ?_
 refine Run.R ?_
 refine Run.g fun K hK=>?_
 refine FunA.e hP hT (c_impl_IsCartan c) ?_
 refine wE ?_;clear hK K
 refine Run.c ?_ ?_
 ·intro q
  have hn:¬(CartanP c/\1<=h/\h<=12):=by
   rintro⟨hc,h1,h2⟩
   rw [isC_true hc]at q
   simp at q
   omega
  refine Run.R ?_
  refine Run.torows hC 0 rfl ?_
  simp only [AW7,simprocAttr]
  refine Run.k [4] [0] ?_
  refine Run.r [4] ?_
  rw [rutO_off hn]
  exact⟨rfl,fun k=>absurd k hn,rfl⟩
 intro q
 have hn:CartanP c/\1<=h/\h<=12:=by
  cases hb:isC c with
  | false=>rw [hb]at q;simp at q
  | true=>rw [hb]at q;simp at q;exact⟨isC_iff.1 hb,by omega,by omega⟩
 refine Run.g fun K hK=>?_
 refine FunA.cW hP hT (c_impl_pairedRoots c h hn.1 hn.2.1 hn.2.2) ?_
 rintro rs o ⟨L,zs,hL,rfl,rfl⟩
 refine wF ?_;clear hK K
 refine Run.R ?_
 refine Run.k [4] [0] ?_
 refine Run.r [4] ?_
 rw [rutO_eq hn.1 hn.2 hL]
 exact⟨rfl,fun _=>hL,rfl⟩
theorem c_impl_PositiveRoots (c:LL):FunA B 42 [.sl false (.row false) c] (fun rs o=>rs=[.own 0 0,.bool (isF c)]/\(isF c=true->RAll c 12 (rutO c 12))/\∃ L,L=(if isF c=true then rutO c 12 else [])/\o=[.arr (.row true) L 0 true]):=by
 refine wk Tryz.call42 Tryz.func42 rfl Tryz.ntmps42 fun C hC hP hT hfn hpin hfin hX=>wW ?_
 refine Run.R ?_
 refine Run.g fun K hK=>?_
 refine FunA.e hP hT (c_impl_IsFinite c) ?_
 refine wE ?_;clear hK K
 refine Run.c ?_ ?_
 ·intro h
  have h:isF c=false:=by simpa using h
  refine Run.R ?_
  refine Run.torows hC 0 rfl ?_
  simp only [AW7,simprocAttr]
  refine Run.k [2,3] [0] ?_
  refine Run.r [2,3] ?_
  rw [h]
  exact⟨rfl,fun k=>absurd k (by simp),[],by simp,rfl⟩
 intro h
 have h:isF c=true:=by simpa using h
 have hF:=isF_iff.1 h
 refine Run.g fun K hK=>?_
 refine FunA.cW hP hT (c_impl_RootsUpTo c 12) ?_
 rintro rs o ⟨rfl,hA,rfl⟩
 refine wF ?_;clear hK K
 refine Run.k [2,3] [0] ?_
 refine Run.r [2,3] ?_
 rw [h]
 exact⟨rfl,fun _=>hA ⟨hF.1,by omega,by omega⟩,_,by simp,rfl⟩
def LinE (n:Nat) (m:Int) (x a b:LI):Prop:=x.length=n/\a.length=n/\b.length=n/\∀ k,k < n->x.getD k 0=a.getD k 0 - m*b.getD k 0
theorem mir_at {c:LL} {i:Nat} {x:LI} (hi:i < x.length):(mirL c (i:Int) x).getD i 0=x.getD i 0 - dotL (c.getD i []) x:=by
 unfold mirL
 simp [gdE,List.getElem?_set,hi]
theorem LinE.mir {c:LL} (hc:CartanP c) {m:Int} {x a b:LI} (h:LinE c.length m x a b) {i:Nat} (hi:i < c.length):LinE c.length m (mirL c (i:Int) x) (mirL c (i:Int) a) (mirL c (i:Int) b):=by
 obtain⟨h1,h2,h3,h4⟩:=h
 refine⟨by rw [mir_len];exact h1,by rw [mir_len];exact h2,by rw [mir_len];exact h3,fun k hk=>?_⟩
 by_cases e:k=i
 ·subst e
  rw [mir_at om,mir_at om,mir_at om]
  have hr:(c.getD k []).length=c.length:=hc.2.2.1 k hk
  have:=dot_lin x a b (c.getD k []) m om om om (fun q hq=>h4 q om)
  rw [dot_comm _ x,dot_comm _ a,dot_comm _ b,this,h4 k hk]
  grind
 ·rw [mir_get e,mir_get e,mir_get e];exact h4 k hk
theorem LinE.act {c:LL} (hc:CartanP c) {m:Int} {x a b:LI} (h:LinE c.length m x a b):∀(w:LI),letters c.length w->LinE c.length m (actR c w x) (actR c w a) (actR c w b)
 | [],_=>h
 | i :: w,hw=>by
  obtain⟨hi,hw⟩:=letters_cons.1 hw
  have e:((i.toNat:Nat):Int)=i:=by omega
  have:=(LinE.act hc h w hw).mir hc (i:=i.toNat) om
  rw [e]at this
  exact this
def upto (n:Nat):List Int:=(List.range n).map fun(i:Nat)=>(i:Int)
theorem upto_succ (n:Nat):upto n ++ [(n:Int)]=upto (n+1):=by simp [upto,List.range_succ]
theorem upto_length (n:Nat):(upto n).length=n:=by simp [upto]
noncomputable def coxE (c:LL):List Int:=if isC c then upto c.length else []
theorem c_impl_CoxeterElement (c:LL) (hc:c.length<=1048576):FunA B 116 [.sl false (.row false) c] (fun rs o=>rs=[.own 0 0,.bool (isC c)]/\o=[.arr .int (coxE c) 0 true]):=by
 refine wk Tryz.call116 Tryz.func116 rfl Tryz.ntmps116 fun C hC hP hT hfn hpin hfin hX=>wW ?_
 refine Run.R ?_
 refine Run.g fun K hK=>?_
 refine FunA.e hP hT (c_impl_IsCartan c) ?_
 refine wE ?_;clear hK K
 refine Run.c ?_ ?_
 ·intro hb
  have hb:isC c=false:=by simpa using hb
  refine Run.R ?_
  refine Run.r [2,3] ?_
  simp [coxE,hb]
 ·intro hb
  have hb:isC c=true:=by simpa using hb
  refine Run.R ?_
  refine Run.R ?_
  refine Run.keep [0,2,3,4,12,13] ?_;simp only [AK,Nat.reduceBEq]
  refine Run.loopI (X:=Nat) (fun i=>⟨22,[(0,true,.v (.sl false (.row false) c)),(2,true,.v .nils),(3,true,.v (.bool false)),(4,true,.v (.own 0 i)),(12,true,.v (.int .i64 c.length)),(13,true,.v (.int .i64 i))],[.arr .int (upto i) i true]⟩) (fun i=>i<=c.length) (fun i=>c.length - i) 0 (nz0 _) ?_ ?_
  ·exact Le.sub (by rfl) (by simp only [AW7,simprocAttr,hX];try simp)
  rintro i hi ih
  have hll:=upto_length i
  refine Run.R ?_
  refine Run.c ?_ ?_
  ·intro hc2
   have hc2:i < c.length:=by simpa using hc2
   refine Run.R ?_
   refine Run.R ?_
   refine Run.RW ?_
   refine Run.le ?_ (ih (i+1) hc2 om)
   refine Le.cut0 hpin [_] (by rw [<- upto_succ];rfl) ?_ rfl
   simp only [AW7,simprocAttr];try simp
  ·intro hc2
   have hc2:i=c.length:=by simp at hc2;omega
   subst hc2
   refine Run.x ?_
   refine Run.R ?_
   refine Run.le (Le.re (obs':=[.arr .int (coxE c) 0 true]) hpin [0] [(2,true,.own 0 0),(3,true,.bool true)] rfl (by simp [leOs,leO_arr,oAt,coxE,hb]) (by refine⟨⟨_,rfl,?_⟩,⟨_,rfl,?_⟩,trivial⟩<;>simp [leAV,oAt,genO])) ?_
   simp only [frV_cons,frV_nil]
   refine Run.r [2,3] ?_
   simp [hb]
def pwN (w:LI):Nat->List Int
 | 0=>[]
 | n+1=>pwN w n ++ w
theorem pwN_act (c:LL) (w:LI):∀(n:Nat) (v:LI),actL c (pwN w n) v=itW c w n v
 | 0,v=>rfl
 | n+1,v=>by rw [pwN,actL_append,pwN_act c w n];rfl
theorem pwN_letters {n:Nat} {w:LI} (h:letters n w):∀ k,letters n (pwN w k)
 | 0=>letters_nil n
 | k+1=>letters_append.2 ⟨pwN_letters h k,h⟩
theorem upto_letters (n:Nat):letters n (upto n):=by
 intro i hi
 simp only [upto,List.mem_map,List.mem_range]at hi
 obtain⟨k,hk,rfl⟩:=hi
 omega
def cxN (c:LL):Nat->Nat->Nat
 | 0,k=>k
 | f+1,k=>if itW c (upto c.length) k (ones c.length)=ones c.length then k else cxN c f (k+1)
noncomputable def coxN (c:LL):Int:=if isF c then(cxN c 12 1:Nat)else 0
theorem fin_ord {c:LL} (hF:FinP c):∃ k,1<=k/\k<=12/\itW c (upto c.length) k (ones c.length)=ones c.length:=(fin_all hF).2.1
def Ahead (c:LL) (k:Nat):Prop:=1<=k/\k<=12/\cxN c 12 1=cxN c (13 - k) k/\∀ j,1<=j->j < k->itW c (upto c.length) j (ones c.length)≠ones c.length
theorem Ahead.one (c:LL):Ahead c 1:=⟨by omega,by omega,rfl,fun j h1 h2=>by omega⟩
theorem Ahead.done {c:LL} {k:Nat} (h:Ahead c k) (e:itW c (upto c.length) k (ones c.length)=ones c.length):cxN c 12 1=k:=by
 obtain⟨h1,h2,h3,_⟩:=h
 rw [h3,show 13 - k=(12 - k)+1 by omega,cxN,if_pos e]
theorem Ahead.next {c:LL} (hF:FinP c) {k:Nat} (h:Ahead c k) (e:itW c (upto c.length) k (ones c.length)≠ones c.length):Ahead c (k+1):=by
 obtain⟨h1,h2,h3,h4⟩:=h
 have hn:∀ j,1<=j->j < k+1->itW c (upto c.length) j (ones c.length)≠ones c.length:=fun j q1 q2=>by
  rcases Nat.lt_or_ge j k with q | q
  ·exact h4 j q1 q
  ·rw [show j=k by omega];exact e
 obtain⟨m,m1,m2,m3⟩:=fin_ord hF
 have hm:k+1<=m:=by
  rcases Nat.lt_or_ge m (k+1)with q | q
  ·exact absurd m3 (hn m m1 q)
  ·exact q
 refine⟨by omega,by omega,?_,hn⟩
 rw [h3,show 13 - k=(12 - k)+1 by omega,cxN,if_neg e,show 13 - (k+1)=12 - k by omega]
theorem red_nil {c:LL} (hc:CartanP c) {w:LI} (hw:letters c.length w) (hl:w.length<=31):redL c w=[]↔imageL c w=ones c.length:=by
 obtain⟨a1,a2,a3,a4,a5⟩:=red_spec hc hw hl
 constructor
 ·intro h;rw [<- a4,h];rfl
 ·intro h
  rw [h]at a5
  exact nilZ (a5.uniq hc (Far.ones c))
theorem fin_red {c:LL} (hF:FinP c) {w:LI} (hw:letters c.length w) (hl:w.length<=31):(redL c w).length<=24:=by
 obtain⟨a1,a2,a3,a4,a5⟩:=red_spec hF.1 hw hl
 exact fin_len hF _ a5
theorem c_impl_CoxeterNumber (c:LL) (hcl:c.length<=1048576):FunA B 47 [.sl false (.row false) c] (fun rs o=>rs=[.int .i64 (coxN c)]/\o=[]):=by
 refine wk Tryz.call47 Tryz.func47 rfl Tryz.ntmps47 fun C hC hP hT hfn hpin hfin hX=>wW ?_
 refine Run.R ?_
 refine Run.g fun K hK=>?_
 refine FunA.e hP hT (c_impl_IsFinite c) ?_
 refine wE ?_;clear hK K
 refine Run.c ?_ ?_
 ·intro h
  have h:isF c=false:=by simpa using h
  refine Run.R ?_
  refine Run.r [2] ?_
  simp [coxN,h]
 intro h
 have h:isF c=true:=by simpa using h
 have hF:=isF_iff.1 h
 have hc:=hF.1
 have hn:=hc.2.1
 have hcx:coxE c=upto c.length:=by simp [coxE,isC_true hc]
 have hul:=upto_length c.length
 have hup:=upto_letters c.length
 refine Run.g fun K hK=>?_
 refine FunA.cW hP hT (c_impl_CoxeterElement c hcl) ?_
 rintro rs o ⟨rfl,rfl⟩
 rw [hcx]
 refine wF ?_;clear hK K
 refine Run.R ?_
 refine Run.R ?_
 refine Run.k [0,2,3,5,6] [0,1] ?_
 refine Run.le (Le.sub (fr':=[(0,true,.v (.sl false (.row false) c)),(2,true,.v (.int .i64 0)),(3,true,.v (.own 0 0)),(5,true,.v (.own 1 0)),(6,true,.v (.int .i64 (1:Nat)))]) rfl (by simp only [AW7,simprocAttr];try simp)) ?_
 refine Run.loopI (X:=Nat×List Int×Bool) (fun k=>⟨27,[(0,true,.v (.sl false (.row false) c)),(2,true,.v (.int .i64 0)),(3,true,.v (.own 0 0)),(5,true,.v (.own 1 0)),(6,true,.v (.int .i64 (k.1)))],[.arr .int ((upto c.length)) 0 true,.arr .int k.2.1 0 true]⟩) (fun k=>Ahead c k.1/\letters c.length k.2.1/\k.2.1.length<=24/\imageL c k.2.1=itW c (upto c.length) (k.1 - 1) (ones c.length)) (fun k=>13 - k.1) ((1,[],true)) (⟨Ahead.one c,letters_nil _,by simp,rfl⟩) ?_ ?_
 ·exact Le.s
 rintro⟨k,p,nn⟩ ⟨hA,hp,hpl,hpi⟩ ih
 try simp only []
 simp only []at hA hp hpl hpi
 have hk:=hA.1
 have hk2:=hA.2.1
 have hlet:letters c.length (p ++ upto c.length):=letters_append.2 ⟨hp,hup⟩
 have hll:(p ++ upto c.length).length<=28:=by simp;omega
 obtain⟨a1,a2,a3,a4,a5⟩:=red_spec hc hlet om
 have himg:imageL c (p ++ upto c.length)=itW c (upto c.length) k (ones c.length):=by
  rw [image_append]
  have e1:imageL c p=imageL c (pwN (upto c.length) (k - 1)):=by rw [hpi];exact(pwN_act c (upto c.length) (k - 1) (ones c.length)).symm
  rw [same_elt hc hp (pwN_letters hup (k - 1)) e1 (imageL_length c _),pwN_act]
  show itW c (upto c.length) (k - 1+1) (ones c.length)=_
  rw [show k - 1+1=k by omega]
 have hr24:=fin_red hF hlet om
 have hnil:=red_nil hc hlet om
 refine Run.g fun K hK=>?_
 refine FunA.cW hP hT (c_impl_ConcatWords p (upto c.length) om om) ?_
 rintro rs o ⟨nn2,rfl,rfl⟩
 refine wW ?_
 refine FunA.e hP hT (c_impl_reduced c (p ++ upto c.length) hc hlet om) ?_
 refine wE ?_;clear hK K
 refine Run.R ?_
 refine Run.c ?_ ?_
 ·intro h2
  have h2:redL c (p ++ upto c.length)=[]:=by simpa using h2
  have he:=hA.done (by rw [<- himg];exact hnil.1 h2)
  refine Run.R ?_
  refine Run.k [2] [] ?_
  refine Run.r [2] ?_
  simp [coxN,h,he]
 ·intro h2
  have h2:redL c (p ++ upto c.length)≠[]:=by simpa using h2
  have he:=hA.next hF (by rw [<- himg];exact fun e=>h2 (hnil.2 e))
  refine Run.RW ?_
  refine Run.k [0,2,3,5,6] [0,3] ?_
  refine Run.le ?_ (ih (k+1,redL c (p ++ upto c.length),true) ⟨he,a1,hr24,by simp only [];rw [a4,himg,Nat.add_sub_cancel]⟩ (by simp only [];omega))
  exact Le.sub (by rfl) (by simp only [AW7,simprocAttr];try simp)
def nbI (c:LL) (i:Nat):List Int:=((List.range c.length).filter fun j=>!(j == i) && !(ent c i j == 0)).map Int.ofNat
def stJ (p:List Bool×List Int) (j:Int):List Bool×List Int:=bif p.1.getD j.toNat false then p else(p.1.set j.toNat true,p.2 ++ [j])
def grP (c:LL):Nat->Nat->List Bool×List Int->List Bool×List Int
 | 0,_,p=>p
 | f+1,k,p=>bif Nat.blt k p.2.length then grP c f (k+1) ((nbI c (p.2.getD k 0).toNat).foldl stJ p)else p
def insI (x:Int):List Int->List Int
 | []=>[x]
 | y :: l=>bif decide (x<=y)then x :: y :: l else y :: insI x l
def sortI (l:LI):List Int:=l.foldr insI []
def ptS (c:LL) (p:List Bool×List (List Int)) (i:Nat):List Bool×List (List Int):=
 bif p.1.getD i false then p else((grP c (c.length+1) 0 (p.1.set i true,[(i:Int)])).1,p.2 ++ [sortI (grP c (c.length+1) 0 (p.1.set i true,[(i:Int)])).2])
def partsI (c:LL):List (List Int):=((List.range c.length).foldl (ptS c) (List.replicate c.length false,[])).2
def partS (c:LL) (i:Nat):List Int:=((List.range c.length).filter fun(k:Nat)=>(grP c (c.length+1) 0 ((List.replicate c.length false).set i true,[(i:Int)])).1.getD k false).map Int.ofNat
def partsS (c:LL):List (List Int):=((List.range c.length).map (partS c)).zipIdx.filterMap fun p=>bif p.1.getD 0 0 == (p.2:Int)then some p.1 else none
set_option maxRecDepth 100000
theorem all_take {l:List (List (List Int))} {p:List (List Int)->Bool} (n:Nat) (h1:(l.take n).all p=true) (h2:(l.drop n).all p=true):l.all p=true:=by
 have e:=congrArg (fun x=>x.all p) (List.take_append_drop n l)
 rw [<- e]
 simp only [List.all_append,h1,h2,Bool.and_self]
def upsC (c:LL) (r:LI) (acc:LL):List (List Int):=
 ((List.range c.length).map fun(i:Nat)=>mirL c (i:Int) r).filter fun m=>sgnR m == 1 && decide (hgt m<=12) && decide (hgt r < hgt m) && !acc.elem m
def growR (c:LL):Nat->List (List Int)->List (List Int)->List (List Int)
 | 0,_,acc=>acc
 | _+1,[],acc=>acc
 | f+1,r :: todo,acc=>growR c f (todo ++ upsC c r acc) (acc ++ upsC c r acc)
def simsC (c:LL):List (List Int):=(List.range c.length).map (simL c.length)
def rtsC (c:LL):List (List Int):=growR c 30 (simsC c) (simsC c)
def ndB:List (List Int)->Bool
 | []=>true
 | x :: l=>!l.elem x && ndB l
def chkR (c:LL):Bool:=
 (rtsC c).all (fun r=>(upsC c r (rtsC c)).isEmpty) && ndB (rtsC c) && (!((partsS c).length == 1) || 2*(rtsC c).length == c.length*cxN c 12 1)
theorem elem_iff {l:LL} {x:LI}:l.elem x=true↔x∈l:=by simp [List.elem_iff]
theorem ndB_iff:∀ {l:LL},ndB l=true->l.Nodup
 | [],_=>List.nodup_nil
 | x :: l,h=>by
  simp only [ndB,bAnd,Bool.not_eq_true']at h
  refine List.nodup_cons.2 ⟨fun hm=>?_,ndB_iff h.2⟩
  rw [elem_iff.2 hm]at h;cases h.1
theorem upsC_rs {c:LL} {r:LI} {acc:LL} (hr:RS c 12 r):∀ z∈upsC c r acc,RS c 12 z:=by
 intro z hz
 unfold upsC at hz
 obtain⟨h1,h2⟩:=List.mem_filter.1 hz
 obtain⟨i,hi,rfl⟩:=List.mem_map.1 h1
 simp only [bAnd,beq_iff_eq,dtE]at h2
 exact .up r i hr (List.mem_range.1 hi) h2.1.1.1 h2.1.1.2 h2.1.2
theorem growR_rs {c:LL}:∀(f:Nat) (todo acc:LL),(∀ z∈todo,RS c 12 z)->(∀ z∈acc,RS c 12 z)->∀ z∈growR c f todo acc,RS c 12 z
 | 0,_,_,_,h2=>h2
 | _+1,[],_,_,h2=>h2
 | f+1,r :: todo,acc,h1,h2=>by
  have hu:=upsC_rs (acc:=acc) (h1 r (mcS ..))
  refine growR_rs f _ _ (fun z hz=>?_) (fun z hz=>?_)
  ·rcases List.mem_append.1 hz with hz | hz
   ·exact h1 z (mcM _ hz)
   ·exact hu z hz
  ·rcases List.mem_append.1 hz with hz | hz
   ·exact h2 z hz
   ·exact hu z hz
theorem growR_sub {c:LL}:∀(f:Nat) (todo acc:LL),∀ z∈acc,z∈growR c f todo acc
 | 0,_,_,_,h=>h
 | _+1,[],_,_,h=>h
 | f+1,r :: todo,acc,z,h=>growR_sub f _ _ z (List.mem_append.2 (.inl h))
theorem sims_rs {c:LL}:∀ z∈simsC c,RS c 12 z:=fun z hz=>by
 obtain⟨i,hi,rfl⟩:=List.mem_map.1 hz
 exact .sim i (List.mem_range.1 hi)
theorem rts_rs {c:LL}:∀ z∈rtsC c,RS c 12 z:=growR_rs 30 _ _ sims_rs sims_rs
theorem rts_all {c:LL} (h:(rtsC c).all (fun r=>(upsC c r (rtsC c)).isEmpty)=true):∀ z,RS c 12 z->z∈rtsC c:=fun z hz=>by
 induction hz with
 | sim i hi=>exact growR_sub _ _ _ _ (List.mem_map.2 ⟨i,List.mem_range.2 hi,rfl⟩)
 | up r i _ hi a b d ih=>
  have h1:=alT.1 h r ih
  rw [List.isEmpty_iff]at h1
  by_cases hm:mirL c i r∈rtsC c
  ·exact hm
  ·have:mirL c i r∈upsC c r (rtsC c):=by
    unfold upsC
    refine List.mem_filter.2 ⟨List.mem_map.2 ⟨i,List.mem_range.2 hi,rfl⟩,?_⟩
    have he:(rtsC c).elem (mirL c i r)=false:=by
     cases e:(rtsC c).elem (mirL c i r) with
     | false=>rfl
     | true=>exact absurd (elem_iff.1 e) hm
    simp only [a,he,b,d,decide_true,beq_self_eq_true,Bool.and_self,Bool.not_false]
   rw [h1]at this;cases this
set_option maxRecDepth 100000
theorem chkR1:(finM 1).all chkR=true:=by decide +kernel
theorem chkR2:(finM 2).all chkR=true:=by decide +kernel
theorem chkR3:(finM 3).all chkR=true:=by decide +kernel
theorem chkR4a:((finM 4).take 70).all chkR=true:=by decide +kernel
theorem chkR4b:(((finM 4).drop 70).take 60).all chkR=true:=by decide +kernel
theorem chkR4c:(((finM 4).drop 130).take 60).all chkR=true:=by decide +kernel
theorem chkR4d:((finM 4).drop 190).all chkR=true:=by decide +kernel
theorem chkR_fin {c:LL} (hF:FinP c):chkR c=true:=by
 refine fin_chk hF chkR1 chkR2 chkR3 (all_take 70 chkR4a (all_take 60 chkR4b (all_take 60 ?_ ?_)))
 ·rw [List.drop_drop];exact chkR4c
 ·rw [List.drop_drop,List.drop_drop];exact chkR4d
def lonL (c:LL):List Int:=nfL c 31 (negs c.length)
theorem lon_far {c:LL} (hF:FinP c):∃ L,L<=24/\Far c L (negs c.length):=(fin_all hF).1
noncomputable def lonE (c:LL):List Int:=if isF c then lonL c else []
theorem c_spec_LongestElement (c:LL):FunA B 44 [.sl false (.row false) c] (fun rs o=>rs=[.own 0 0,.bool (isF c)]/\o=[.arr .int (lonE c) 0 true]):=by
 refine wk Tryz.call44 Tryz.func44 rfl Tryz.ntmps44 fun C hC hP hT hfn hpin hfin hX=>wW ?_
 refine Run.R ?_
 refine Run.g fun K hK=>?_
 refine FunA.e hP hT (c_spec_IsFinite c) ?_
 refine wE ?_;clear hK K
 refine Run.c ?_ ?_
 ·intro h
  have h:isF c=false:=by simpa using h
  refine Run.R ?_
  refine Run.r [2,3] ?_
  simp [lonE,h]
 ·intro h
  have h:isF c=true:=by simpa using h
  have hF:=isF_iff.1 h
  obtain⟨L,hL,hfar⟩:=lon_far hF
  have hc:=hF.1
  have hn:=hc.2.1
  refine Run.R ?_
  refine Run.R ?_
  refine Run.loopI (X:=Nat) (fun m=>⟨23,[(0,true,.v (.sl false (.row false) c)),(2,true,.v (.nils)),(3,true,.v (.bool false)),(4,true,.v (.own 0 0)),(5,true,.v (.int .i64 m))],[.arr .int ((List.replicate m (-1))) 0 true]⟩) (fun m=>m<=c.length) (fun m=>c.length - m) (0) (nz0 _) ?_ ?_
  ·exact Le.s
  rintro m hm ih
  try simp only []
  refine Run.R ?_
  refine Run.c ?_ ?_
  ·intro h
   have h:m < c.length:=by simpa using h
   have hs:List.replicate m (-1:Int) ++ [-1]=List.replicate (m+1) (-1):=by rw [List.replicate_succ']
   have hrl:(List.replicate m (-1:Int)).length=m:=by simp
   refine Run.R ?_
   rw [hs]
   refine Run.RW ?_
   refine Run.k [0,2,3,4,5] [0] ?_
   refine Run.le ?_ (ih (m+1) om om)
   exact Le.sub (by rfl) (by simp only [AW7,simprocAttr];try simp)
  ·intro h2
   have h2:m=c.length:=by simp at h2;omega
   subst h2
   refine Run.x ?_
   refine Run.g fun K hK=>?_
   refine FunA.callW hP hT (c_spec_l8Form c (negs c.length) L hc hfar om) (by simp only [AW7,simprocAttr];simp [negs]) ?_
   rintro rs o ⟨rfl,rfl⟩
   refine wF ?_;clear hK K
   refine Run.k [2,3] [1] ?_
   refine Run.r [2,3] ?_
   simp [lonE,h,lonL]
theorem map_set {f:Int->Int} (l:LI) (m:Nat) (h:m < l.length):((l.take m).map f ++ l.drop m).set m (f (l.getD m 0))=(l.take (m+1)).map f ++ l.drop (m+1):=by
 rw [<- take_snoc 0 l m h,List.set_append,if_neg (by simp;omega)]
 have:l.drop m=l.getD m 0 :: l.drop (m+1):=by
  rw [List.drop_eq_getElem_cons h];simp [gdE,h]
 rw [this]
 simp [Nat.min_eq_left (Nat.le_of_lt h)]
def chkH (c:LL):Bool:=
 (rtsC c).length == (lonL c).length && (!((partsS c).length == 1) || (rtsC c).any fun r=>hgt r+1 == (cxN c 12 1:Nat) && (rtsC c).all fun z=>z == r || decide (hgt z < hgt r))
set_option maxRecDepth 100000
theorem chkH1:(finM 1).all chkH=true:=by decide +kernel
theorem chkH2:(finM 2).all chkH=true:=by decide +kernel
theorem chkH3:(finM 3).all chkH=true:=by decide +kernel
theorem chkH4a:((finM 4).take 70).all chkH=true:=by decide +kernel
theorem chkH4b:(((finM 4).drop 70).take 60).all chkH=true:=by decide +kernel
theorem chkH4c:(((finM 4).drop 130).take 60).all chkH=true:=by decide +kernel
theorem chkH4d:((finM 4).drop 190).all chkH=true:=by decide +kernel
theorem chkH_fin {c:LL} (hF:FinP c):chkH c=true:=by
 refine fin_chk hF chkH1 chkH2 chkH3 (all_take 70 chkH4a (all_take 60 chkH4b (all_take 60 ?_ ?_)))
 ·rw [List.drop_drop];exact chkH4c
 ·rw [List.drop_drop,List.drop_drop];exact chkH4d
theorem rts_mem {c:LL} (hF:FinP c) (z:LI):z∈rtsC c↔RS c 12 z:=by
 have h:=chkR_fin hF
 unfold chkR at h
 simp only [bAnd]at h
 exact⟨rts_rs z,rts_all h.1.1 z⟩
theorem rts_nodup {c:LL} (hF:FinP c):(rtsC c).Nodup:=by
 have h:=chkR_fin hF
 unfold chkR at h
 simp only [bAnd]at h
 exact ndB_iff h.1.2
theorem rts_long {c:LL} (hF:FinP c) {L:LL} (hL:L.Nodup) (hm:∀ z,z∈L↔RS c 12 z):L.length=(lonL c).length:=by
 have h:=chkH_fin hF
 unfold chkH at h
 simp only [bAnd,beq_iff_eq]at h
 have e1:=nodup_le hL (b:=rtsC c) fun x hx=>(rts_mem hF x).2 ((hm x).1 hx)
 have e2:=nodup_le (rts_nodup hF) (b:=L) fun x hx=>(hm x).2 ((rts_mem hF x).1 hx)
 omega
theorem rts_top {c:LL} (hF:FinP c) (h1:(partsS c).length=1) {L:LL} (hL:StrR L) (hm:∀ z,z∈L↔RS c 12 z):hgt (L.getD (L.length - 1) [])+1=(cxN c 12 1:Nat):=by
 have h:=chkH_fin hF
 unfold chkH at h
 simp only [bAnd,Bool.or_eq_true,Bool.not_eq_true',beq_eq_false_iff_ne,beq_iff_eq]at h
 obtain⟨r,hr,h2⟩:=List.any_eq_true.1 (h.2.resolve_left (fun e=>e h1))
 simp only [bAnd,beq_iff_eq]at h2
 obtain⟨h2,h3⟩:=h2
 have hrL:r∈L:=(hm r).2 ((rts_mem hF r).1 hr)
 obtain⟨j,hj,e⟩:=List.getElem_of_mem hrL
 have hlast:L.getD (L.length - 1) []=L[L.length - 1]'om:=by simp [gdE,show L.length - 1 < L.length by omega]
 by_cases hjl:j=L.length - 1
 ·subst hjl;rw [hlast,e];exact h2
 ·exfalso
  have hp:=hL
  unfold StrR at hp
  rw [List.pairwise_iff_getElem]at hp
  have hb:=hp j (L.length - 1) hj om om
  have hz:=alT.1 h3 (L[L.length - 1]'om) ((rts_mem hF _).2 ((hm _).1 (List.getElem_mem _)))
  simp only [Bool.or_eq_true,beq_iff_eq,dtE]at hz
  rw [e]at hb
  rcases hz with hz | hz
  ·rw [hz,befR_irr]at hb;cases hb
  ·unfold befR at hb
   rw [if_neg om,dtE]at hb
   omega
end Go.Proofs.YtcinngodeoidnaaGreat
