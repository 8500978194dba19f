/- All elements of a finite group: the program's shells. -/
import Derived.Test.YtcinngodeoidnaaGreatDoorB16
import Derived.Test.YtcinngodeoidnaaGreatDoorB8
import Derived.Test.YtcinngodeoidnaaGreatDoorB20
import Derived.Test.YtcinngodeoidnaaGreatDoorB11
import Derived.Test.YtcinngodeoidnaaGreatDoorB7
import Derived.Test.YtcinngodeoidnaaGreatDoorB12
set_option linter.unusedVariables false
set_option linter.unusedSimpArgs false
namespace Go.Proofs.YtcinngodeoidnaaGreatDoor
open Go Go.Aw Go.Cox
def Mk (n:Nat) (nx:LL) (l:List (MK×MV)):Prop:=(∀ v,v.length=n->mgetB l (.vec (key4 v))=decide (v∈nx))/\∀ v∈nx,v.length=n
theorem Mk.nil (n:Nat):Mk n [] []:=⟨fun v _=>by rw [mgetB_nil];simp,by simp⟩
theorem Mk.put {n:Nat} (hn:n<=4) {nx:LL} {l:List (MK×MV)} (h:Mk n nx l) {v:LI} (hv:v.length=n):Mk n (nx ++ [v]) (mput l (.vec (key4 v)) (.bool true)):=by
 refine⟨fun u hu=>?_,fun u hu=>?_⟩
 ·rw [mgetB_put,h.1 u hu]
  by_cases e:u=v
  ·subst e
   rw [if_pos rfl];simp
  ·rw [if_neg (fun e2=>e (key4_inj om om (by injection e2)))]
   simp [e]
 ·rcases List.mem_append.1 hu with h1 | h1
  ·exact h.2 u h1
  ·simp at h1;rw [h1];exact hv
theorem getD_key (l:LL) (k:Nat) (d:LI) (h:k < l.length):(l.map key4).getD k d=key4 (l.getD k []):=by
 simp [gdE,h]
theorem key4_get (x:LI) (i:Nat) (h:i < 4):(key4 x).getD i 0=x.getD i 0:=by
 unfold key4
 match i,h with
 | 0,_=>rfl
 | 1,_=>rfl
 | 2,_=>rfl
 | 3,_=>rfl
theorem row_fresh {ys:List (Nat×List Int)} {q:Nat} {r:LI} (hN:(lb1 ys).Nodup) (hq:∀ p∈ys,p.1≠q):(lb1 (ys ++ [(q,r)])).Nodup:=by
 rw [lb1_app,List.nodup_append]
 refine⟨hN,by simp [lb1],fun a ha b hb=>?_⟩
 simp [lb1]at hb
 subst hb
 obtain⟨p,hp,rfl⟩:=List.mem_map.1 ha
 exact hq p hp
theorem shl_len {c:LL} (hF:FinP c) (hs:(allL c).length<=200) {L:Nat} (hL:L<=25):(shl c L).length<=200:=by
 cases L with
 | zero=>simp [shl]
 | succ L=>
  have h1:=outS_len hF.1 (L:=L) om
  have h2:=outS_le (c:=c) hL
  omega
set_option maxHeartbeats 2000000 in
theorem c_impl_ball (c:LL) (hF:FinP c) (hs:(allL c).length<=200):FunA B 160 [.sl false (.row false) c,.int .i64 60,.int .i64 200] (fun rs o=>rs=[.own 0 0,.bool true]/\∃ ys,(rw2 ys=allL c/\(lb1 ys).Nodup)/\o=[.arr .lrow ys 0 true]):=by
 have hc:=hF.1
 have hn:=hc.2.1
 have hn1:=hc.1
 have hol:(ones c.length).length=c.length:=by simp [ones]
 refine wk Tryz.call160 Tryz.func160 rfl Tryz.ntmps160 fun C hC hP hT hfn hpin hfin hX=>wW ?_
 refine Run.R ?_
 refine Run.g fun K hK=>?_
 intro l0 hl0
 refine wF ?_;clear hK K
 refine Run.g fun K hK=>?_
 refine FunA.e hP hT (c_impl_ones c.length om) ?_
 refine FunA.e hP hT (c_impl_vectorOf (ones c.length) om om) ?_
 refine wE ?_;clear hK K
 refine Run.R ?_
 refine Run.k [0,1,2,6,7,8,9,10] [1,3] ?_
 refine Run.loopI (X:=Nat×List (Nat×List Int)) (fun x=>⟨109,[(0,true,.v (.sl false (.row false) c)),(1,true,.v (.int .i64 60)),(2,true,.v (.int .i64 200)),(6,true,.v (.nils)),(7,true,.v (.bool false)),(8,true,.v (.own 0 0)),(9,true,.v (.own 1 0)),(10,true,.v (.int .i64 (((x.1:Int)+1))))],[.arr .lrow (x.2) 0 true,.arr .vec ((shl c x.1).map key4) 0 true]⟩) (fun x=>x.1<=25/\rw2 x.2=outS c x.1/\(lb1 x.2).Nodup) (fun x=>26 - x.1) ((0,[(l0,[])])) (⟨by simp,rfl,by simp [lb1]⟩) ?_ ?_
 ·exact Le.s
 rintro⟨L,ys⟩ ⟨hL,hE,hND⟩ ihO
 try simp only []
 simp only []at hL hE hND
 have hsl:=shl_len hF hs hL
 have hsp:=(shl_spec hc L).2
 have hml:((shl c L).map key4).length=(shl c L).length:=List.length_map ..
 refine Run.R ?_
 refine Run.c ?_ ?_
 rotate_left
 ·intro h
  have h:shl c L=[]:=by
   cases hq:shl c L with
   | nil=>rfl
   | cons a r=>
    rw [hml,hq]at h
    have e1:decide ((L:Int)+1<=60)=true:=by rw [dtE];omega
    rw [e1]at h
    simp at h
  refine Run.x ?_
  refine Run.R ?_
  refine Run.k [6,7] [0] ?_
  refine Run.r [6,7] ?_
  exact⟨rfl,ys,⟨hE.trans (shl_all hL h),hND⟩,rfl⟩
 intro h
 have h0:0 < (shl c L).length:=by
  rw [hml]at h
  rcases Nat.eq_zero_or_pos (shl c L).length with e | e
  ·rw [e]at h;simp at h
  ·exact e
 clear h
 have hL24:L<=24:=by
  obtain⟨v,hv⟩:=List.exists_mem_of_length_pos h0
  exact fin_len hF _ ((hsp v).1 hv)
 refine Run.R ?_
 refine Run.R ?_
 refine Run.R ?_
 rw [hml]
 refine Run.k [0,1,2,6,7,8,9,10,11,12,40,41,42] [0,1,2,3] ?_
 refine Run.loopI (X:=Nat×List (List Int)×List (MK×MV)) (fun y=>⟨109,[(0,true,.v (.sl false (.row false) c)),(1,true,.v (.int .i64 60)),(2,true,.v (.int .i64 200)),(6,true,.v (.nils)),(7,true,.v (.bool false)),(8,true,.v (.own 0 0)),(9,true,.v (.own 1 0)),(10,true,.v (.int .i64 (((L:Int)+1)))),(11,true,.v (.own 2 0)),(12,true,.v (.own 3 0)),(40,true,.v (.own 1 0)),(41,true,.v (.int .i64 (((shl c L).length:Nat)))),(42,true,.v (.int .i64 (y.1)))],[.arr .lrow (ys) 0 true,.arr .vec ((shl c L).map key4) 0 true,.mp ⟨true,false⟩ y.2.2 0,.arr .vec (y.2.1.map key4) 0 true]⟩) (fun y=>(y.1<=(shl c L).length/\y.2.1.length<=4*y.1)/\Mk c.length y.2.1 y.2.2/\((shl c L).take y.1).foldl (nxX c) []=y.2.1) (fun y=>(shl c L).length - y.1) ((0,[],[])) (⟨⟨nz0 _,by simp⟩,Mk.nil _,rfl⟩) ?_ ?_
 ·exact Le.s
 rintro⟨k,nx,l⟩ ⟨⟨hk,hnl⟩,hM,hN⟩ ihK
 try simp only []
 simp only []at hk hnl hM hN
 refine Run.R ?_
 refine Run.c ?_ ?_
 rotate_left
 ·intro h
  have h:k=(shl c L).length:=by rw [dfE]at h;omega
  subst h
  rw [tkL]at hN
  have hN2:shl c (L+1)=nx:=hN
  have hyl:ys.length=(outS c L).length:=by rw [<- hE];simp [rw2]
  have hon:=outS_len hc (L:=L) om
  have hol2:=outS_le (c:=c) (L:=L+1) om
  rw [hN2]at hon
  have hnm:(nx.map key4).length=nx.length:=List.length_map ..
  have hsp2:=(shl_spec hc (L+1)).2
  rw [hN2]at hsp2
  refine Run.x ?_
  refine Run.RW ?_
  rw [hnm]
  refine Run.c ?_ ?_
  ·intro h5;rw [dtE]at h5;exfalso;omega
  intro _
  refine Run.R ?_
  refine Run.R ?_
  rw [hnm]
  refine Run.k [0,1,2,6,7,8,10,12,18,86,87,88] [0,3,4] ?_
  refine Run.loopI (X:=Nat×List (Nat×List Int)) (fun y=>⟨109,[(0,true,.v (.sl false (.row false) c)),(1,true,.v (.int .i64 60)),(2,true,.v (.int .i64 200)),(6,true,.v (.nils)),(7,true,.v (.bool false)),(8,true,.v (.own 0 0)),(10,true,.v (.int .i64 (((L:Int)+1)))),(12,true,.v (.own 1 0)),(18,true,.v (.own 2 0)),(86,true,.v (.own 1 0)),(87,true,.v (.int .i64 ((nx.length:Nat)))),(88,true,.v (.int .i64 (y.1)))],[.arr .lrow (ys) 0 true,.arr .vec (nx.map key4) 0 true,.arr .lrow (y.2) 0 true]⟩) (fun y=>y.1<=nx.length/\rw2 y.2=(nx.take y.1).map (nfL c 31)/\(lb1 (ys ++ y.2)).Nodup) (fun y=>nx.length - y.1) ((0,[])) (⟨nz0 _,rfl,by simpa using hND⟩) ?_ ?_
  ·exact Le.s
  rintro⟨k,zs⟩ ⟨hk3,hZ,hND2⟩ ih
  try simp only []
  simp only []at hk3 hZ hND2
  have hzl:zs.length=k:=by have:=congrArg List.length hZ;simpa [rw2,hk3] using this
  refine Run.R ?_
  refine Run.c ?_ ?_
  rotate_left
  ·intro h5
   have h5:k=nx.length:=by rw [dfE]at h5;omega
   subst h5
   rw [tkL,<- hN2]at hZ
   have hZ:rw2 zs=wds c (L+1):=hZ
   have hlen:∀ a,(a=[]\/a∈zs.map (·.2))->a.length<=1048576:=fun a ha=>by
    rcases ha with rfl | ha
    ·simp
    ·have ha:a∈rw2 zs:=ha
     rw [hZ]at ha
     have:=((wds_mem hc om a).1 ha).2
     omega
   refine Run.x ?_
   refine Run.g fun K hK=>?_
   refine ACall.sort hP hT srtL rfl cmpW_swo 2 0 rfl om (fun a b ha _=>c_impl_CompareWords a b (hlen a ha)) ?_
   intro ys' hp hs
   have hyl':ys'.length=zs.length:=hp.length_eq
   have hsr:rw2 ys'=srt (wds c (L+1)):=by
    rw [<- hZ]
    exact sorted_srt (by rw [hZ];exact wds_nodup hc om) (hp.map _) (List.pairwise_map.2 hs)
   have hND3:(lb1 (ys ++ ys')).Nodup:=(((hp.append_left ys).map Prod.fst).nodup_iff).2 hND2
   obtain⟨y2,hy2⟩:∃ y:List (Nat×List Int),ys'=y:=⟨_,rfl⟩
   subst hy2
   have hsz:(ys.length+ys'.length)*24<=140737488355328:=by omega
   refine wF ?_;clear hK K
   refine Run.k [0,1,2,6,7,8,10,12,18] [0,1,2] ?_
   refine Run.R ?_
   refine Run.R ?_
   refine Run.RW ?_
   refine Run.k [0,1,2,6,7,8,9,10] [0,1] ?_
   rw [<- hN2]
   refine Run.le ?_ (ihO (L+1,ys ++ ys') ⟨by simp only [];omega,by rw [rw2_app,hE,hsr];rfl,hND3⟩ (by simp only [];omega))
   exact Le.sub (by first | rfl | simp) (by simp only [AW7,simprocAttr];try simp)
  intro h5
  have h5:k < nx.length:=by rw [dtE]at h5;omega
  have hxm:nx.getD k []∈nx:=by rw [gdE,geE h5];exact List.getElem_mem _
  have hxf:=(hsp2 _).1 hxm
  have hst:=map_snoc (nfL c 31) nx [] k h5
  have hgk:=getD_key nx k [0,0,0,0] h5
  generalize nx.getD k []=x at *
  have hxl:=hxf.1
  have hk4:(key4 x).take c.length=x:=by rw [<- hxl];exact key4_take om
  obtain⟨n1,_,_⟩:=nfL_far hc 31 (L+1) hxf om
  have hcn:=c_impl_normal c x (L+1) hc hxf om
  have hzb:(zs.length+1)*24<=140737488355328:=by omega
  generalize nfL c 31 x=y at hst n1 hcn
  refine Run.g fun K hK=>?_
  rw [wst_arr]
  refine wF ?_;clear hK K
  rw [hgk]
  refine Run.g fun K hK=>?_
  refine FunA.callW hP hT (c_impl_list (key4 x) c.length rfl hn) (by simp only [AW7,simprocAttr];rfl) ?_
  rintro rs o ⟨rfl,rfl⟩
  rw [hk4]
  refine wW ?_
  refine FunA.e hP hT (hcn) ?_
  intro l2 hl2
  refine wF ?_;clear hK K
  refine Run.RW ?_
  refine Run.k [0,1,2,6,7,8,10,12,18,86,87,88] [0,1,2] ?_
  exact Run.j (ih ((k+1,zs ++ [(l2,y)])) (⟨h5,by rw [rw2_app,hZ];exact hst,by rw [<- List.append_assoc];exact row_fresh hND2 (fun p hp=>(List.mem_append.1 hp).elim (fun hp=>hl2 _ (mcS ..) _ _ _ rfl p hp) (fun hp=>hl2 _ (mcM _ (mcM _ (mcS ..))) _ _ _ rfl p hp))⟩) mz)
 intro h
 have h:k < (shl c L).length:=by rw [dtE]at h;omega
 have hxm:(shl c L).getD k []∈shl c L:=by rw [gdE,geE h];exact List.getElem_mem _
 have hxf:=(hsp _).1 hxm
 have hst:=fold_take (nxX c) [] (shl c L) [] k h
 rw [hN]at hst
 have hgk:=getD_key (shl c L) k [0,0,0,0] h
 generalize (shl c L).getD k []=x at *
 have hxl:=hxf.1
 refine Run.g fun K hK=>?_
 rw [wst_arr]
 refine wF ?_;clear hK K
 rw [hgk]
 refine Run.letgoA 4 14 rfl rfl ?_
 refine Run.R ?_
 refine Run.k [0,1,2,6,7,8,9,10,11,12,40,41,42,14,47,48] [0,1,2,3] ?_
 refine Run.loopI (X:=Nat×List (List Int)×List (MK×MV)) (fun z=>⟨109,[(0,true,.v (.sl false (.row false) c)),(1,true,.v (.int .i64 60)),(2,true,.v (.int .i64 200)),(6,true,.v (.nils)),(7,true,.v (.bool false)),(8,true,.v (.own 0 0)),(9,true,.v (.own 1 0)),(10,true,.v (.int .i64 (((L:Int)+1)))),(11,true,.v (.own 2 0)),(12,true,.v (.own 3 0)),(40,true,.v (.own 1 0)),(41,true,.v (.int .i64 (((shl c L).length:Nat)))),(42,true,.v (.int .i64 k)),(14,true,.v (.relt true .vec (key4 x))),(47,true,.v (.int .i64 ((c.length:Nat)))),(48,true,.v (.int .i64 (z.1)))],[.arr .lrow (ys) 0 true,.arr .vec ((shl c L).map key4) 0 true,.mp ⟨true,false⟩ z.2.2 0,.arr .vec (z.2.1.map key4) 0 true]⟩) (fun z=>(z.1<=c.length/\z.2.1.length<=4*k+z.1)/\Mk c.length z.2.1 z.2.2/\(List.range z.1).foldl (nxI c x) nx=z.2.1) (fun z=>c.length - z.1) ((0,nx,l)) (⟨⟨nz0 _,by simp only [];omega⟩,hM,rfl⟩) ?_ ?_
 ·exact Le.s
 rintro⟨i,nz,m⟩ ⟨⟨hi,hzl⟩,hM2,hN2⟩ ihJ
 try simp only []
 simp only []at hi hzl hM2 hN2
 refine Run.R ?_
 refine Run.c ?_ ?_
 rotate_left
 ·intro h2
  have h2:i=c.length:=by rw [dfE]at h2;omega
  subst h2
  have hN3:nxX c nx x=nz:=hN2
  rw [hN3]at hst
  refine Run.x ?_
  refine Run.RW ?_
  refine Run.k [0,1,2,6,7,8,9,10,11,12,40,41,42] [0,1,2,3] ?_
  exact Run.j (ihK ((k+1,nz,m)) (⟨⟨h,by simp only [];omega⟩,hM2,hst⟩) mz)
 intro h2
 have h2:i < c.length:=by rw [dtE]at h2;omega
 have hr:=range_fold (nxI c x) nx i
 rw [hN2]at hr
 have hgi:=key4_get x i om
 refine Run.R ?_
 refine Run.R ?_
 rw [hgi]
 refine Run.c ?_ ?_
 ·intro h3
  have h3:x.getD i 0 < 0:=by rw [dtE]at h3;exact h3
  have e:nxI c x nz i=nz:=by unfold nxI;rw [if_pos h3]
  rw [e]at hr
  refine Run.x ?_
  refine Run.RW ?_
  exact Run.j (ihJ ((i+1,nz,m)) (⟨⟨h2,by simp only [];omega⟩,hM2,hr⟩) mz)
 intro h3
 have h3:¬x.getD i 0 < 0:=by rw [dfE]at h3;exact h3
 have e:nxI c x nz i=addN nz (reflL c i x):=by unfold nxI;rw [if_neg h3]
 rw [e]at hr
 have hup:Far c (L+1) (reflL c i x):=hxf.up hc ⟨by omega,by omega⟩ (by rw [Int.toNat_natCast];have:=hxf.nz hc i h2;omega)
 have hB:Bd 9223372036854775807 (reflL c i x):=(far_bd24 hF hup).mono (by decide)
 have hvl:=hup.1
 have hk4:(key4 x).take c.length=x:=by rw [<- hxl];exact key4_take om
 refine Run.g fun K hK=>?_
 refine FunA.cW hP hT (c_impl_list (key4 x) c.length rfl hn) ?_
 rintro rs o ⟨rfl,rfl⟩
 rw [hk4]
 refine wF ?_;clear hK K
 refine Run.g fun K hK=>?_
 refine FunM.call hP hT (c_impl_reflected c i x hc hxl ⟨by omega,by omega⟩ hB) 4 0 (by simp only [AW7,simprocAttr];rfl) (by simp) rfl (by simp only [AW7,simprocAttr];try simp) ?_
 rintro rs o' obs' ⟨rfl,ho⟩
 injection ho with ho1 ho2;subst ho1 ho2
 refine wF ?_;clear hK K
 refine Run.g fun K hK=>?_
 refine FunA.e hP hT (c_impl_vectorOf (reflL c i x) om om) ?_
 rw [wst_arr]
 refine wF ?_;clear hK K
 refine Run.letgoA 5 17 rfl rfl ?_
 refine Run.R ?_
 rw [hM2.1 _ hvl]
 refine Run.c ?_ ?_
 ·intro h4
  have h4:¬reflL c i x∈nz:=by simpa using h4
  have e2:addN nz (reflL c i x)=nz ++ [reflL c i x]:=by unfold addN;rw [if_neg h4]
  have hnm2:(nz.map key4).length=nz.length:=List.length_map ..
  have hzb:((nz.map key4).length + [key4 (reflL c i x)].length)*32<=140737488355328:=by
   rw [hnm2];simp only [lenC,lenN];omega
  rw [e2]at hr
  refine Run.R ?_
  refine Run.R ?_
  refine Run.RW ?_
  refine Run.k [0,1,2,6,7,8,9,10,11,12,40,41,42,14,47,48] [0,1,2,3] ?_
  refine Run.le ?_ (ihJ ((i+1,nz ++ [reflL c i x],mput m (.vec (key4 (reflL c i x))) (.bool true))) (⟨⟨h2,by simp only [lenA,lenC,lenN];omega⟩,hM2.put hn hvl,hr⟩) (by(try simp only [lenA,lenC,lenN]);omega))
  exact Le.sub (by first | rfl | (simp only [List.map_append,List.map_cons,List.map_nil];done) | (rw [List.map_append,List.map_cons,List.map_nil];rfl)) (by simp only [AW7,simprocAttr];try simp)
 ·intro h4
  have h4:reflL c i x∈nz:=by simpa using h4
  have e2:addN nz (reflL c i x)=nz:=by unfold addN;rw [if_pos h4]
  rw [e2]at hr
  refine Run.RW ?_
  refine Run.k [0,1,2,6,7,8,9,10,11,12,40,41,42,14,47,48] [0,1,2,3] ?_
  exact Run.j (ihJ ((i+1,nz,m)) (⟨⟨h2,by simp only [];omega⟩,hM2,hr⟩) mz)
def fmtD (w:LI):List UInt8:=w.map fun i=>UInt8.ofNat (49+i.toNat)
def fmtW (w:LI):List UInt8:=if w=[]then [101]else fmtD w
theorem fmtW_inj {a b:LI} (ha:letters 4 a) (hb:letters 4 b) (h:fmtW a=fmtW b):a=b:=by
 have key:∀(a b:LI),letters 4 a->letters 4 b->fmtD a=fmtD b->a=b:=by
  intro a
  induction a with
  | nil=>intro b _ _ h;cases b with
   | nil=>rfl
   | cons y b=>simp [fmtD]at h
  | cons x a ih=>intro b ha hb h;cases b with
   | nil=>simp [fmtD]at h
   | cons y b=>
    simp only [fmtD,List.map_cons,List.cons.injEq]at h
    obtain⟨hx,ha⟩:=letters_cons.1 ha
    obtain⟨hy,hb⟩:=letters_cons.1 hb
    have e:x=y:=by
     have:=congrArg UInt8.toNat h.1
     simp at this
     omega
    rw [e,ih b ha hb h.2]
 have he:∀ c:List Int,letters 4 c->c≠[]->fmtD c≠[101]:=by
  intro c hc hne h
  cases c with
  | nil=>exact hne rfl
  | cons x c=>
   simp only [fmtD,List.map_cons,List.cons.injEq]at h
   obtain⟨hx,_⟩:=letters_cons.1 hc
   have:=congrArg UInt8.toNat h.1
   simp at this
   omega
 unfold fmtW at h
 by_cases h1:a=[]
 ·rw [if_pos h1]at h
  by_cases h2:b=[]
  ·rw [h1,h2]
  ·rw [if_neg h2]at h;exact(he b hb h2 h.symm).elim
 ·rw [if_neg h1]at h
  by_cases h2:b=[]
  ·rw [if_pos h2]at h;exact(he a ha h1 h).elim
  ·rw [if_neg h2]at h;exact key a b ha hb h
theorem c_impl_FormatWord (w:LI) (hw:letters 4 w) (hl:w.length<=1048576):FunA B 99 [.sl false .int w] (fun rs o=>rs=[.str (fmtW w)]/\o=[]):=by
 refine wk Tryz.call99 Tryz.func99 rfl Tryz.ntmps99 fun C hC hP hT hfn hpin hfin hX=>wW ?_
 refine Run.R ?_
 refine Run.R ?_
 refine Run.c ?_ ?_
 ·intro h
  have h:w=[]:=by cases w with
   | nil=>rfl
   | cons x w=>simp at h;omega
  refine Run.R ?_
  refine Run.r [2] ?_
  exact⟨by simp [fmtW,h],rfl⟩
 intro h
 have hne:w≠[]:=by rintro rfl;simp at h
 refine Run.R ?_
 refine Run.R ?_
 refine Run.k [0,3,10,11,12] [0] ?_
 refine Run.loopI (X:=Nat) (fun i=>⟨31,[(0,true,.v (.sl false .int w)),(3,true,.v (.own 0 0)),(10,true,.v (.sl false .int w)),(11,true,.v (.int .i64 (w.length))),(12,true,.v (.int .i64 i))],[.arr .byte ((w.take i).map fun x=>49+x) 0 true]⟩) (fun i=>i<=w.length) (fun i=>w.length - i) (0) (nz0 _) ?_ ?_
 ·exact Le.s
 rintro i hi ih
 try simp only []
 refine Run.R ?_
 refine Run.c ?_ ?_
 rotate_left
 ·intro h
  have h:i=w.length:=by rw [dfE]at h;omega
  refine Run.x ?_
  refine Run.R ?_
  refine Run.k [2] [] ?_
  refine Run.r [2] ?_
  rw [h,tkL]
  refine⟨?_,rfl⟩
  unfold fmtW
  rw [if_neg hne]
  have e:bytesOf (w.map fun x=>49+x)=fmtD w:=by
   unfold bytesOf fmtD
   rw [List.map_map]
   apply List.map_congr_left
   intro x hx
   have:=hw x hx
   show UInt8.ofNat (49+x).toNat=UInt8.ofNat (49+x.toNat)
   congr 1
   omega
  rw [e]
 intro h
 have h:i < w.length:=by rw [dtE]at h;omega
 have hlt:=letters_getD.1 hw i h
 refine Run.R ?_
 refine Run.R ?_
 refine Run.c ?_ ?_
 ·intro h2
  exfalso
  rw [decide_eq_false (by omega:¬w.getD i 0 < 0),decide_eq_false (by omega:¬4<=w.getD i 0)]at h2
  cases h2
 intro _
 have e1:IntKind.u8.wrap (49+w.getD i 0)=49+w.getD i 0:=by
  have:0<=w.getD i 0/\w.getD i 0 < 4:=by omega
  revert this
  generalize w.getD i 0=z
  intro this
  simp [IntKind.wrap,IntKind.bits,IntKind.signed];omega
 have hts:(w.take (i+1)).map (fun x=>49+x)=(w.take i).map (fun x=>49+x) ++ [49+w.getD i 0]:=by
  rw [List.take_succ_eq_append_getElem h,List.map_append,getD_eq h];rfl
 have htl:((w.take i).map (fun x=>49+x)).length<=i:=by simp;omega
 refine Run.RW ?_
 rw [e1]
 refine Run.k [0,3,10,11,12] [0] ?_
 refine Run.RW ?_
 refine Run.le ?_ (ih (i+1) om (by(try simp only [lenA,lenC,lenN]);omega))
 exact Le.sub (by first | rfl | (simp only [hts];done) | (rw [hts];rfl)) (by simp only [AW7,simprocAttr];try simp)
def Seen (n:Nat) (ys:List (Nat×List Int)) (l:List (MK×MV)):Prop:=
 (lb1 ys).Nodup/\(rw2 ys).Nodup/\(∀ z∈rw2 ys,letters n z)/\∀ z,letters n z->(mgetB l (.str (fmtW z))=true↔z∈rw2 ys)
theorem Seen.add {n:Nat} (hn:n<=4) {ys:List (Nat×List Int)} {l:List (MK×MV)} (h:Seen n ys l) {x:LI} (hx:letters n x) {q:Nat} (hq:∀ p∈ys,p.1≠q) (hnew:mgetB l (.str (fmtW x))=false):Seen n (ys ++ [(q,x)]) (mput l (.str (fmtW x)) (.bool true)):=by
 have up:∀ z,letters n z->letters 4 z:=fun z hz i hi=>by have:=hz i hi;omega
 obtain⟨h1,h2,h3,h4⟩:=h
 have hnot:x∉rw2 ys:=fun hm=>by rw [(h4 x hx).2 hm]at hnew;cases hnew
 refine⟨?_,?_,fun z hz=>?_,fun z hz=>?_⟩
 ·rw [lb1_app,List.nodup_append]
  refine⟨h1,by simp [lb1],fun a ha b hb=>?_⟩
  simp [lb1]at hb
  obtain⟨p,hp,rfl⟩:=List.mem_map.1 ha
  rw [hb];exact hq p hp
 ·rw [rw2_app,List.nodup_append]
  refine⟨h2,by simp [rw2],fun a ha b hb=>?_⟩
  simp [rw2]at hb
  rw [hb];intro e;exact hnot (e▸ha)
 ·rw [rw2_app]at hz
  rcases List.mem_append.1 hz with hz | hz
  ·exact h3 z hz
  ·simp [rw2]at hz;rw [hz];exact hx
 ·rw [mgetB_put,rw2_app,List.mem_append]
  by_cases e:z=x
  ·rw [e,if_pos rfl];simp [rw2]
  ·rw [if_neg (fun e2=>e (fmtW_inj (up z hz) (up x hx) (MK.str.inj e2))),h4 z hz];simp [rw2,e]
noncomputable def preB (c:LL) (w:LI):Bool:=wordB c w && fewB (Pre c (redL c w))
noncomputable def preX (c:LL) (w:LI):List (List Int):=if wordB c w then fewL (Pre c (redL c w))else []
theorem word_nf {c:LL} {w:LI} (h:wordB c w=true):Nf c (redL c w)/\(redL c w).length<=15:=by
 obtain⟨hc,h2,h3⟩:=wordB_iff.1 h
 have:=(red_spec hc h3 om).2.1
 exact⟨nf_red hc h3 om om,by omega⟩
theorem preX_pre {c:LL} {w z:LI} (h:z∈preX c w):wordB c w=true/\Pre c (redL c w) z:=by
 unfold preX at h
 cases hw:wordB c w with
 | false=>rw [hw]at h;simp at h
 | true=>rw [hw,if_pos rfl]at h;exact⟨rfl,fewL_mem h⟩
theorem preX_rows (c:LL) (w:LI):∀ r∈preX c w,r.length<=15:=by
 intro r hr
 obtain⟨hw,_,_,v,_,_,h5⟩:=preX_pre hr
 have:=(word_nf hw).2
 omega
theorem c_spec_l7In (rows:LL) (w:LI) (hl:rows.length<=1048576) (hr:∀ r∈rows,r.length<=1048576) :
  FunA B 151 [.sl false (.row false) rows,.sl false .int w] (fun rs o=>rs=[.bool (decide (w∈rows))]/\o=[]):=by
 refine wk Tryz.call151 Tryz.func151 rfl Tryz.ntmps151 fun C hC hP hT hfn hpin hfin hX=>wW ?_
 refine Run.R ?_
 refine Run.R ?_
 refine Run.loopI (X:=Nat) (fun i=>⟨18,[(0,true,.v (.sl false (.row false) rows)),(1,true,.v (.sl false .int w)),(5,true,.v (.int .i64 i))],[]⟩) (fun i=>i<=rows.length/\∀ j,j < i->rows.getD j []≠w) (fun i=>rows.length - i) (0) (⟨nz0 _,fun j h=>by omega⟩) ?_ ?_
 ·exact Le.s
 rintro i ⟨hi,hne⟩ ih
 try simp only []
 refine Run.R ?_
 refine Run.c ?_ ?_
 rotate_left
 ·intro h
  have h:i=rows.length:=by rw [dfE]at h;omega
  refine Run.x ?_
  refine Run.R ?_
  refine Run.r [4] ?_
  have hm:¬w∈rows:=fun hm=>by
   obtain⟨j,hj,e⟩:=List.getElem_of_mem hm
   exact hne j om (by rw [getD_eq hj];exact e)
  exact⟨by simp [hm],rfl⟩
 intro h
 have h:i < rows.length:=by rw [dtE]at h;omega
 have hri:(rows.getD i []).length<=1048576:=hr _ (by rw [getD_eq h];exact List.getElem_mem h)
 refine Run.g fun K hK=>?_
 refine FunA.e hP hT (c_spec_EqualWords (rows.getD i []) w om) ?_
 refine wE ?_;clear hK K
 refine Run.c ?_ ?_
 ·intro h2
  have h2:rows.getD i []=w:=by simpa using h2
  refine Run.R ?_
  refine Run.r [4] ?_
  have hm:w∈rows:=by rw [<- h2,getD_eq h];exact List.getElem_mem h
  exact⟨by simp [hm],rfl⟩
 intro h2
 have h2:rows.getD i []≠w:=by intro e;rw [e]at h2;simp at h2
 have hne2:∀ j,j < i+1->rows.getD j []≠w:=fun j hj=>by
  by_cases e:j=i
  ·rw [e];exact h2
  ·exact hne j om
 refine Run.RW ?_
 exact Run.j (ih (i+1) (⟨by omega,hne2⟩) mz)
theorem rwg (ys:List (Nat×List Int)) (k:Nat):(ys.getD k (0,[])).2=(rw2 ys).getD k []:=by
 unfold rw2
 simp only [List.getD,List.getElem?_map]
 cases ys[k]?<;>rfl
theorem rwl (ys:List (Nat×List Int)):(rw2 ys).length=ys.length:=by simp [rw2]
theorem putS_len (w:LI):∀(b:Bool) (l:LL),(putS w b l).length<=l.length+1
 | b,[]=>by cases b<;>simp [putS]
 | b,x :: l=>by
  simp only [putS]
  split
  ·rw [putS_true];simp
  ·have:=putS_len w (b || cmpW w x == 0) l;simp;omega
theorem putS_keep (w:LI):∀(l:LL) (k:Nat),(∀ j,j<=k->j < l.length/\0 < cmpW w (l.getD j []))->∀ j,j<=k->j < (putS w false l).length/\(putS w false l).getD j []=l.getD j []
 | [],k,h,j,hj=>by have:=(h 0 (nz0 _)).1;simp at this
 | x :: l,k,h,j,hj=>by
  have h0:0 < cmpW w x:=(h 0 (nz0 _)).2
  simp only [putS]
  rw [if_neg om,show(false || cmpW w x == 0)=false by simp;omega]
  cases j with
  | zero=>exact⟨by simp,rfl⟩
  | succ j=>
   cases k with
   | zero=>omega
   | succ k=>
    have ih:=putS_keep w l k (fun j hj=>by
     have:=h (j+1) om
     exact⟨by simpa using this.1,by simpa using this.2⟩) j om
    exact⟨by simp;omega,by simpa using ih.2⟩
theorem cmp_long {a b:LI} (h:a.length < b.length):0 < cmpW b a:=by
 unfold cmpW
 rw [if_neg om,if_pos om];omega
theorem putS_keepk {w:LI} {l:LL} (hs:StrictW l) {k:Nat} (hk:k < l.length) (hlt:(l.getD k []).length < w.length):∀ j,j<=k->j < (putS w false l).length/\(putS w false l).getD j []=l.getD j []:=
 putS_keep w l k fun j hj=>by
  refine⟨by omega,?_⟩
  by_cases e:j=k
  ·rw [e];exact cmp_long hlt
  ·have h1:=List.pairwise_iff_getElem.1 hs j k om hk om
   have h2:cmpW (l.getD k []) w < 0:=by have:=cmpW_neg w (l.getD k []);have:=cmp_long hlt;omega
   rw [getD_eq hk]at h2
   have h3:=cmpW_lt_trans h1 h2
   rw [getD_eq (by omega:j < l.length)]
   have:=cmpW_neg w l[j]
   omega
theorem red_app {c:LL} (hc:CartanP c) {u:LI} (hu:letters c.length u) (hl:u.length<=31) (b:LI):redL c (redL c u ++ b)=redL c (u ++ b):=by
 obtain⟨a1,_,_,a4,_⟩:=red_spec hc hu hl
 refine red_eq ?_
 rw [image_append,image_append]
 exact same_elt hc a1 hu a4 (imageL_length c _)
theorem nf_up {c:LL} (hc:CartanP c) {L:LL} (h0:[]∈L) (hD:∀ y∈L,∀ i,i < c.length->y.length < (redL c (y ++ [(i:Int)])).length->redL c (y ++ [(i:Int)])∈L):∀(n:Nat) (w:LI),Nf c w->w.length=n->w∈L:=by
 intro n
 induction n using Nat.strongRecOn with
 | ind n ih=>
  intro w hw hl
  rcases List.eq_nil_or_concat w with rfl | ⟨u,i,rfl⟩
  ·exact h0
  rw [List.concat_eq_append]at hw hl ⊢
  obtain⟨l1,l2⟩:=letters_append.1 hw.1
  obtain⟨l3,_⟩:=letters_cons.1 l2
  have hul:u.length+1=n:=by simpa using hl
  have hu30:u.length<=30:=by have:=hw.2.2;simp at this;omega
  obtain⟨a1,a2,_,_,_⟩:=red_spec hc l1 om
  have hy:Nf c (redL c u):=nf_red hc l1 om om
  have hin:=ih (redL c u).length om _ hy rfl
  obtain⟨k,hk⟩:∃ k:Nat,i=(k:Int):=⟨i.toNat,by omega⟩
  subst hk
  have e:redL c (redL c u ++ [(k:Int)])=u ++ [(k:Int)]:=by rw [red_app hc l1 om];exact hw.2.1
  have:=hD _ hin k om (by rw [e];simp;omega)
  rwa [e]at this
def DoneA (c:LL) (L:LL) (k:Nat):Prop:=∀ j,j < L.length->j < k->∀ a,a < c.length->(L.getD j []).length < (redL c (L.getD j [] ++ [(a:Int)])).length->redL c (L.getD j [] ++ [(a:Int)])∈L
theorem mem_rwk {ys:List (Nat×List Int)} {z:LI}:z∈rw2 ys↔∃ j,j < ys.length/\(rw2 ys).getD j []=z:=by
 constructor
 ·intro h
  obtain⟨j,hj,e⟩:=List.getElem_of_mem h
  rw [rwl]at hj
  exact⟨j,hj,by rw [gdE,geE (by rw [rwl];exact hj),Option.getD_some];exact e⟩
 ·rintro⟨j,hj,rfl⟩
  rw [gdE,geE (by rw [rwl];exact hj)]
  exact List.getElem_mem _
set_option maxHeartbeats 2000000 in
theorem c_spec_l13All (c:LL) (hF:FinP c) (hs:(allL c).length<=200):FunA B 128 [.sl false (.row false) c] (fun rs o=>rs=[.own 0 0]/\∃ ys,(rw2 ys=allL c/\(lb1 ys).Nodup)/\o=[.arr .lrow ys 0 true]):=by
 have hc:=hF.1
 have hn:=hc.2.1
 have hall:=allL_spec hF
 have hlen:∀ {ys:List (Nat×List Int)},StrictW (rw2 ys)->(∀ z∈rw2 ys,Nf c z)->ys.length<=200:=fun {ys} h1 h2=>by
  have hnd:(rw2 ys).Nodup:=List.Pairwise.imp (fun {a b} h e=>by rw [e,cmpW_self]at h;omega) h1
  have:=nodup_le hnd (fun z hz=>(hall.2 z).2 (h2 z hz))
  rw [rwl]at this
  omega
 refine wk Tryz.call128 Tryz.func128 rfl Tryz.ntmps128 fun C hC hP hT hfn hpin hfin hX=>wW ?_
 refine Run.R ?_
 refine Run.g fun K hK=>?_
 intro q hq
 refine wF ?_;clear hK K
 refine Run.R ?_
 refine Run.k [0,2,3,4] [1] ?_
 refine Run.loopI (X:=Nat×List (Nat×List Int)) (fun s=>⟨48,[(0,true,.v (.sl false (.row false) c)),(2,true,.v (.nils)),(3,true,.v (.own 0 0)),(4,true,.v (.int .i64 (s.1)))],[.arr .lrow (s.2) 0 true]⟩) (fun s=>s.1<=s.2.length/\(lb1 s.2).Nodup/\StrictW (rw2 s.2)/\(∀ z∈rw2 s.2,Nf c z)/\[]∈rw2 s.2/\DoneA c (rw2 s.2) s.1) (fun s=>201 - s.1) ((0,[(q,[])])) (⟨nz0 _,by simp [lb1],by unfold StrictW;simp [rw2],fun z hz=>by simp [rw2]at hz;rw [hz];exact((outS_mem hc (show 0<=30 by omega) []).1 (by simp [outS])).1,by simp [rw2],fun j _ hj=>by omega⟩) ?_ ?_
 ·exact Le.s
 rintro⟨k,ys⟩ ⟨hk,hN,hS,hP,h0m,hD⟩ ihO
 try simp only []
 simp only []at hk hN hS hP h0m hD
 clear hq
 have hyl:=hlen hS hP
 refine Run.R ?_
 refine Run.c ?_ ?_
 rotate_left
 ·intro h3
  have hke:k=ys.length:=by rw [dfE]at h3;omega
  have hup:=nf_up hc h0m (fun y hy i hi hlt=>by
   obtain⟨j,hj,rfl⟩:=mem_rwk.1 hy
   exact hD j (by rw [rwl];exact hj) om i hi hlt)
  refine Run.x ?_
  refine Run.R ?_
  refine Run.k [2] [0] ?_
  refine Run.r [2] ?_
  exact⟨rfl,ys,⟨strict_ext hS hall.1 (fun z=>⟨fun hz=>(hall.2 z).2 (hP z hz),fun hz=>hup _ z ((hall.2 z).1 hz) rfl⟩),hN⟩,rfl⟩
 intro h3
 have h3:k < ys.length:=by rw [dtE]at h3;omega
 have hgk:(rw2 ys).getD k []∈rw2 ys:=mem_rwk.2 ⟨k,h3,rfl⟩
 have hgy:=rwg ys k
 refine Run.R ?_
 refine Run.k [0,2,3,4,5] [0] ?_
 generalize hy:(rw2 ys).getD k []=y at *
 have hny:=hP y hgk
 have hy24:=fin_len hF _ (hny.far hc)
 refine Run.loopI (X:=Nat×List (Nat×List Int)) (fun s=>⟨48,[(0,true,.v (.sl false (.row false) c)),(2,true,.v (.nils)),(3,true,.v (.own 0 0)),(4,true,.v (.int .i64 k)),(5,true,.v (.int .i64 (s.1)))],[.arr .lrow (s.2) 0 true]⟩) (fun s=>(s.1<=c.length/\k < s.2.length)/\(lb1 s.2).Nodup/\StrictW (rw2 s.2)/\(∀ z∈rw2 s.2,Nf c z)/\[]∈rw2 s.2/\DoneA c (rw2 s.2) k/\(rw2 s.2).getD k []=y/\∀ a,a < s.1->y.length < (redL c (y ++ [(a:Int)])).length->redL c (y ++ [(a:Int)])∈rw2 s.2) (fun s=>c.length - s.1) ((0,ys)) (⟨⟨nz0 _,h3⟩,hN,hS,hP,h0m,hD,hy,fun a ha=>by simp only []at ha;omega⟩) ?_ ?_
 ·exact Le.s
 rintro⟨i,zs⟩ ⟨⟨hi,hkz⟩,hN2,hS2,hP2,h0m2,hD2,hy2,hM2⟩ ihK
 try simp only []
 simp only []at hi hkz hN2 hS2 hP2 h0m2 hD2 hy2 hM2
 clear hN hS hP h0m hD hgy hgk hy hyl h3
 have hzl:=hlen hS2 hP2
 refine Run.R ?_
 refine Run.c ?_ ?_
 rotate_left
 ·intro h4
  have h4:i=c.length:=by rw [dfE]at h4;omega
  subst h4
  have hD3:DoneA c (rw2 zs) (k+1):=by
   intro j hj hjk a ha
   by_cases e:j=k
   ·rw [e,hy2];exact hM2 a ha
   ·exact hD2 j hj om a ha
  refine Run.x ?_
  refine Run.RW ?_
  refine Run.k [0,2,3,4] [0] ?_
  exact Run.j (ihO ((k+1,zs)) (⟨hkz,hN2,hS2,hP2,h0m2,hD3⟩) mz)
 intro h4
 have h4:i < c.length:=by rw [dtE]at h4;omega
 have hgz:=rwg zs k
 rw [hy2]at hgz
 have hlw:letters c.length (y ++ [(i:Int)]):=letters_append.2 ⟨hny.1,letter1 h4⟩
 have hwl:(y ++ [(i:Int)]).length=y.length+1:=by simp
 obtain⟨a1,a2,a3,_,_⟩:=red_spec hc hlw om
 have hnx:Nf c (redL c (y ++ [(i:Int)])):=nf_red hc hlw om om
 have hcn:=c_spec_l8Normal c (y ++ [(i:Int)]) hc hlw om
 have hM3:∀ ts:List (Nat×List Int),(∀ z∈rw2 zs,z∈rw2 ts)->(y.length < (redL c (y ++ [(i:Int)])).length->redL c (y ++ [(i:Int)])∈rw2 ts)->∀ a,a < i+1->y.length < (redL c (y ++ [(a:Int)])).length->redL c (y ++ [(a:Int)])∈rw2 ts:=by
  intro ts h1 h2 a ha hlt
  by_cases e:a=i
  ·subst e;exact h2 hlt
  ·exact h1 _ (hM2 a om hlt)
 generalize hx:redL c (y ++ [(i:Int)])=x at hcn hnx a1 a2 a3 hM3
 have hrl:∀ r∈zs.map (·.2),r.length<=1048576:=fun r hr=>by
  have:=(hP2 r hr).2.2;omega
 refine Run.g fun K hK=>?_
 try simp only [hgz]
 refine FunA.e hP hT (c_spec_ConcatWords y [(i:Int)] om (by simp)) ?_
 refine FunA.cW hP hT (hcn) ?_
 rintro rs o ⟨rfl,rfl⟩
 try rw [hx]
 refine wF ?_;clear hK K
 refine Run.k [0,2,3,4,5,6] [0,3] ?_
 refine Run.g fun K hK=>?_
 try simp only [hgz]
 refine .inl (FunA.callG hP hT (c_spec_l7In (zs.map (·.2)) x (by simp;omega) hrl) (fun _=>rfl) (fun _=>by simp only [AW7,simprocAttr]) ?_)
 refine wF ?_;clear hK K
 have hmap:zs.map (·.2)=rw2 zs:=rfl
 rw [hmap]
 refine Run.c ?_ ?_
 ·intro h5
  have h5:y.length < x.length/\x∉rw2 zs:=by
   by_cases hlt:y.length < x.length
   ·rw [decide_eq_true om]at h5
    exact⟨hlt,by simpa using h5⟩
   ·rw [decide_eq_false om]at h5
    cases h5
  have hkr:k < (rw2 zs).length:=by rw [rwl];exact hkz
  have hkeep:=putS_keepk hS2 (w:=x) hkr (by rw [hy2];exact h5.1)
  have hpl:=putS_len x false (rw2 zs)
  rw [rwl]at hpl
  refine Run.g fun K hK=>?_
  refine FunM.call hP hT (c_spec_l11Put zs x hN2 om om true) 0 0 (by simp only [AW7,simprocAttr];rfl) (by simp) rfl (by simp only [AW7,simprocAttr];try simp) ?_
  rintro rs o' obs' ⟨rfl,ys',hE3,hN3,h7⟩
  obtain⟨rfl,rfl⟩:=List.cons.inj h7
  refine wF ?_;clear hK K
  rw [<- hE3]at hkeep hpl
  rw [rwl]at hpl
  have hmem:∀ t,t∈rw2 ys'↔t=x\/t∈rw2 zs:=fun t=>by rw [hE3];exact putS_mem x _ t
  have hS3:StrictW (rw2 ys'):=by rw [hE3];exact putS_strict x hS2
  have hP3:∀ t∈rw2 ys',Nf c t:=fun t ht=>by
   rcases(hmem t).1 ht with rfl | ht
   ·exact hnx
   ·exact hP2 t ht
  have hD3:DoneA c (rw2 ys') k:=fun j hj hjk a ha=>by
   rw [(hkeep j om).2]
   intro hlt
   exact(hmem _).2 (.inr (hD2 j om hjk a ha hlt))
  have hy3:(rw2 ys').getD k []=y:=by rw [(hkeep k (Nat.le_refl _)).2];exact hy2
  have hk3:k < ys'.length:=by have:=(hkeep k (Nat.le_refl _)).1;rw [rwl]at this;exact this
  refine Run.k [0,2,3,4,5] [2] ?_
  refine Run.RW ?_
  exact Run.j (ihK ((i+1,ys')) (⟨⟨h4,hk3⟩,hN3,hS3,hP3,(hmem _).2 (.inr h0m2),hD3,hy3,hM3 ys' (fun z hz=>(hmem z).2 (.inr hz)) (fun _=>(hmem _).2 (.inl rfl))⟩) mz)
 intro h5
 have h5:y.length < x.length->x∈rw2 zs:=fun hlt=>by
  rw [decide_eq_true om]at h5
  simpa using h5
 refine Run.k [0,2,3,4,5] [0] ?_
 refine Run.RW ?_
 exact Run.j (ihK ((i+1,zs)) (⟨⟨h4,hkz⟩,hN2,hS2,hP2,h0m2,hD2,hy2,hM3 zs (fun z hz=>hz) h5⟩) mz)
noncomputable def elsB (c:LL) (n:Int):Bool:=isF c && decide (sizeE c<=n)
theorem elsB_fin {c:LL} {n:Int} (h:elsB c n=true) (hn:n<=200):FinP c/\((allL c).length:Int)=sizeE c/\(allL c).length<=200/\1<=sizeE c/\sizeE c<=n:=by
 unfold elsB at h
 rw [bAnd,dtE]at h
 have hF:=isF_iff.1 h.1
 obtain⟨h1,h2,h3⟩:=fin_size hF
 have e:sizeE c=sizeI c:=by unfold sizeE;rw [if_pos h.1]
 rw [e]at h ⊢
 have:=h3 om
 exact⟨hF,this,by omega,by omega,h.2⟩
theorem elsB_small (c:LL) (n:Int):elsB c n=(!decide (sizeE c < 1) && !decide (n < sizeE c)):=by
 unfold elsB
 cases h:isF c
 ·have e:sizeE c=0:=by unfold sizeE;rw [h];rfl
  rw [e];simp
 ·have e:sizeE c=sizeI c:=by unfold sizeE;rw [if_pos h]
  obtain⟨h1,h2,h3⟩:=fin_size (isF_iff.1 h)
  rw [e]
  rw [Bool.eq_iff_iff]
  simp
  omega
theorem FunA.frozenX {B:Ctx} {f:FuncId} {args:List AV} {e:E} {P:List e.D->Prop} (he:freshE e=true) (h:FunA B f args (fun rs o=>rs=[.own 0 0]/\∃ xs,P xs/\o=[.arr e xs 0 true])):FunA B f args (fun rs o=>∃ xs,P xs/\rs=[.sl true e xs]/\o=[]):=by
 refine⟨h.1,fun w L vs hG hl ha=>(h.2 w L vs hG hl ha).mono ?_⟩
 rintro en w' ⟨us,hen,rs,o,ρ',⟨rfl,xs,hP,rfl⟩,hul,hu,hw,_,_⟩
 obtain⟨hst,hsl⟩:=letgo_sl hw (id:=0) (g:=0) (e:=e) (xs:=xs) (nn:=true) rfl
 match us,hul with
 | [u],_=>
  have hu0:u=ρ' 0:=((hu 0 (.own 0 0) u rfl rfl).2 0 rfl).2 rfl
  have hno:∀ b (ρ:Nat->Value),¬Own ([]:List O) ρ b:=fun b ρ ⟨id,o,ho,_⟩=>by simp at ho
  have hle:((B.bareL w L).V w' [.dead] (fun i=>if i=0 then ρ' 0 else ρ' i)).le ((B.bareL w L).V w' [] ρ'):=by
   refine⟨fun b o hb=>?_,fun _ hb=>hb,rfl⟩
   simp only [Ctx.V,mask]at hb ⊢
   rw [if_neg (hno b ρ')]
   split at hb
   ·cases hb
   ·exact hb
  refine⟨[u],hen,[.sl true e xs],[],ρ',⟨xs,hP,rfl,rfl⟩,rfl,fun i x v hx hv=>?_,⟨fun id o ho=>by simp at ho,fun i j o o' b hi=>by simp at hi,fun b hb=>(hno b _ hb).elim,hw.os0,hw.tape,hw.output,hw.grow,hw.drawn,hw.kept,hw.gl⟩,by simp [freshAV,he],rfl⟩
  match i,hx,hv with
  | 0,hx,hv=>
   simp at hx hv
   subst hx hv
   rw [hu0]
   exact SlRel.mono hle hsl
theorem c_impl_elementsW (c:LL) (hq:elsB c 200=true):FunA BJ 124 [.sl false (.row false) c] (fun rs o=>rs=[.own 0 0]/\∃ ys,(rw2 ys=allL c/\(lb1 ys).Nodup)/\o=[.arr .lrow ys 0 true]):=by
 refine FunA.walk BJ_ok (fn:=Tryz.f124) (fun vs w=>Tryz.call124 vs w) Tryz.func124 rfl (by rw [Tryz.ntmps124];simp) (fun C hC hP hT hΓ hbt hfn hpin hfin=>?_);haveI hDJ:DrLe BJ C:=⟨fun h=>by rw [hbt.2.2.2]at h;cases h⟩;have hPJ:=hP;have hTJ:=hT;replace hP:B.P=C.P:=hP;replace hT:B.tid=C.tid:=hT;have hX:=BXJ;rw [<- hΓ,<- hbt.1,<- hbt.2.1,<- hbt.2.2.1]at hX;rw [hTJ]at hX;rw [Tryz.ntmps124];simp only [AW7,simprocAttr,hX]
 refine Run.R ?_
 refine Run.g fun K hK=>?_
 refine FunA.e hP hT (c_impl_IsFinite c) ?_
 refine .inl (FunA.callG hPJ hTJ (c_impl_SizeOf c) (fun _=>rfl) (fun _=>by simp only [AW7,simprocAttr]) ?_)
 refine wF ?_;clear hK K
 refine Run.c ?_ ?_
 ·intro h
  have h:elsB c 200=false:=by
   unfold elsB
   cases hf:isF c
   ·rfl
   ·rw [hf]at h
    have h:decide (200 < sizeE c)=true:=h
    rw [dtE]at h
    simp;exact h
  rw [hq]at h;cases h
 intro h
 have h:elsB c 200=true:=by
  unfold elsB
  cases hf:isF c
  ·rw [hf]at h;cases h
  ·rw [hf]at h
   have h:decide (200 < sizeE c)=false:=h
   rw [dfE]at h
   simp;omega
 obtain⟨hF,_,hl,_⟩:=elsB_fin h om
 refine Run.g fun K hK=>?_
 refine FunA.cW hP hT (c_impl_ball c hF hl) ?_
 rintro rs o ⟨rfl,ys,hy,rfl⟩
 refine wF ?_;clear hK K
 refine Run.R ?_
 refine Run.k [2] [0] ?_
 refine Run.r [2] ?_
 exact⟨rfl,ys,hy,rfl⟩
theorem c_impl_elements1 (c:LL) (hq:elsB c 200=true):FunA BJ 124 [.sl false (.row false) c] (fun rs o=>∃ ys,(rw2 ys=allL c/\(lb1 ys).Nodup)/\rs=[.sl true .lrow ys]/\o=[]):=
 FunA.frozenX (e:=.lrow) (P:=fun ys:List (Nat×List Int)=>rw2 ys=allL c/\(lb1 ys).Nodup) rfl (c_impl_elementsW c hq)
theorem allL_ne {c:LL} (hF:FinP c):allL c≠[]:=by
 intro e
 have h:[]∈allL c:=((allL_spec hF).2 []).2 ((outS_mem hF.1 (show 0<=30 by omega) []).1 (by simp [outS])).1
 rw [e]at h
 cases h
theorem c_impl_ElementsOf1 (c:LL) (hq:elsB c 200=true):FunA BJ 73 [.sl false (.row false) c] (fun rs o=>∃ ys,(rw2 ys=allL c/\(lb1 ys).Nodup)/\rs=[.sl true .lrow ys,.bool true]/\o=[]):=by
 refine FunA.walk BJ_ok (fn:=Tryz.f73) (fun vs w=>Tryz.call73 vs w) Tryz.func73 rfl (by rw [Tryz.ntmps73];simp) (fun C hC hP hT hΓ hbt hfn hpin hfin=>?_);haveI hDJ:DrLe BJ C:=⟨fun h=>by rw [hbt.2.2.2]at h;cases h⟩;have hPJ:=hP;have hTJ:=hT;replace hP:B.P=C.P:=hP;replace hT:B.tid=C.tid:=hT;have hX:=BXJ;rw [<- hΓ,<- hbt.1,<- hbt.2.1,<- hbt.2.2.1]at hX;rw [hTJ]at hX;rw [Tryz.ntmps73];simp only [AW7,simprocAttr,hX]
 refine Run.R ?_
 refine Run.g fun K hK=>?_
 refine FunA.cW hPJ hTJ (c_impl_elements1 c hq) ?_
 rintro rs o ⟨ys,hy,rfl,rfl⟩
 have hne:ys≠[]:=fun e=>by
  rw [e]at hy
  exact allL_ne (elsB_fin hq om).1 hy.1.symm
 refine wF ?_;clear hK K
 refine Run.R ?_
 refine Run.c ?_ ?_
 ·intro h2;cases h2
 intro _
 refine Run.R ?_
 refine Run.r [2,3] ?_
 exact⟨ys,hy,rfl,rfl⟩
def ixL (l:LL) (w:LI):Int:=if w∈l then(l.idxOf w:Int)else -1
theorem idx_at {l:LL} {w:LI} {k:Nat} (h1:k < l.length) (h2:l.getD k []=w) (h3:∀ j,j < k->l.getD j []≠w):w∈l/\l.idxOf w=k:=by
 have e:l[k]=w:=by simpa [gdE,h1] using h2
 have hm:w∈l:=e▸List.getElem_mem h1
 refine⟨hm,?_⟩
 have hlt:=List.idxOf_lt_length_of_mem hm
 have hg:l[l.idxOf w]=w:=List.getElem_idxOf hlt
 rcases Nat.lt_trichotomy (l.idxOf w) k with h | h | h
 ·exact absurd (by rw [gdE,geE hlt];exact hg) (h3 _ h)
 ·exact h
 ·exfalso
  have:=List.not_of_lt_findIdx (p:=(· == w)) (xs:=l) h
  simp [e]at this
theorem c_spec_IndexOfElement (l:LL) (w:LI) (hr:∀ r∈l,r.length<=1048576) (hll:l.length<=1048576):FunA B 102 [.sl false (.row false) l,.sl false .int w] (fun rs o=>rs=[.int .i64 (ixL l w)]/\o=[]):=by
 refine wk Tryz.call102 Tryz.func102 rfl Tryz.ntmps102 fun C hC hP hT hfn hpin hfin hX=>wW ?_
 refine Run.R ?_
 refine Run.R ?_
 refine Run.loopI (X:=Nat) (fun k=>⟨19,[(0,true,.v (.sl false (.row false) l)),(1,true,.v (.sl false .int w)),(4,true,.v (.int .i64 0)),(5,true,.v (.int .i64 k))],[]⟩) (fun k=>k<=l.length/\∀ j,j < k->l.getD j []≠w) (fun k=>l.length - k) (0) (⟨nz0 _,fun j hj=>by omega⟩) ?_ ?_
 ·exact Le.s
 rintro k ⟨hk,hF⟩ ih
 try simp only []
 refine Run.R ?_
 refine Run.c ?_ ?_
 rotate_left
 ·intro h
  have h:k=l.length:=by rw [dfE]at h;omega
  subst h
  refine Run.x ?_
  refine Run.R ?_
  refine Run.r [4] ?_
  refine⟨?_,rfl⟩
  have:w∉l:=fun hm=>by
   obtain⟨j,hj,e⟩:=List.getElem_of_mem hm
   exact hF j hj (by simpa [gdE,hj] using e)
  unfold ixL
  rw [if_neg this]
 intro h
 have h:k < l.length:=by rw [dtE]at h;omega
 have hrk:(l.getD k []).length<=1048576:=hr _ (by rw [gdE,geE h];exact List.getElem_mem _)
 refine Run.g fun K hK=>?_
 refine FunA.e hP hT (c_spec_EqualWords (l.getD k []) w om) ?_
 refine wE ?_;clear hK K
 refine Run.c ?_ ?_
 ·intro h2
  have h2:l.getD k []=w:=by simpa [-List.getD_eq_getElem?_getD] using h2
  obtain⟨h3,h4⟩:=idx_at h h2 hF
  refine Run.R ?_
  refine Run.r [4] ?_
  exact⟨by unfold ixL;rw [if_pos h3,h4],rfl⟩
 ·intro h2
  have h2:l.getD k []≠w:=by
   intro e
   rw [e]at h2
   simp at h2
  refine Run.RW ?_
  refine Run.k [0,1,4,5] [] ?_
  refine Run.le ?_ (ih (k+1) (⟨h,fun j hj=>(by
   by_cases e:j=k
   ·subst e;exact h2
   ·exact hF j om)⟩) (by(try simp only [lenA,lenC,lenN]);omega))
  exact Le.sub (by rfl) (by simp only [AW7,simprocAttr];try simp)
end Go.Proofs.YtcinngodeoidnaaGreatDoor
