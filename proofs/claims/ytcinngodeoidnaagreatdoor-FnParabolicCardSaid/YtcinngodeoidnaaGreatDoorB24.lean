/- Leaders times the size of the part: the size of the group; walks of what the law on parabolic subgroups calls. -/
import Derived.Test.YtcinngodeoidnaaGreatDoorB23
import Derived.Test.YtcinngodeoidnaaGreatDoorB20
import Derived.Test.YtcinngodeoidnaaGreatDoorB12
import Derived.Test.YtcinngodeoidnaaGreatDoorB11
import Derived.Test.YtcinngodeoidnaaGreatDoorB15
import Derived.Test.YtcinngodeoidnaaGreatDoorB14
import Derived.Test.YtcinngodeoidnaaGreatDoorB19
import Derived.HandedShaped
import Derived.Handed
import Derived.Shelf.Vars
set_option linter.unusedVariables false
set_option linter.unusedSimpArgs false
namespace Go.Proofs.YtcinngodeoidnaaGreatDoor
open Go Go.Aw Go.Cox
def smS (c:List (List Int)):Bool:=decide (sizeI c≤200)
set_option maxRecDepth 100000
theorem sm1:(finM 1).all smS=true:=by decide +kernel
theorem sm2:(finM 2).all smS=true:=by decide +kernel
theorem sm3:(finM 3).all smS=true:=by decide +kernel
theorem sm_of {c:List (List Int)} (hF:FinP c) (h:c.length≤3):sizeI c≤200:=by
 have hm:=fin_mem hF
 have h1:=hF.1.1
 have key:smS c=true:=by
  rcases(by omega:c.length=1∨c.length=2∨c.length=3)with e | e | e
  ·rw [e]at hm;exact List.all_eq_true.1 sm1 c hm
  ·rw [e]at hm;exact List.all_eq_true.1 sm2 c hm
  ·rw [e]at hm;exact List.all_eq_true.1 sm3 c hm
 simpa [smS] using key
theorem pick_full {c:List (List Int)} (hc:CartanP c) {s:List Int} (hs:setP c.length s) (h:s.length=4):pick c s=c:=by
 have hl:=set_len hs
 have hn:=hc.2.1
 have e4:c.length=4:=by omega
 have g0:=hs 0 (by omega)
 have g1:=hs 1 (by omega)
 have g2:=hs 2 (by omega)
 have g3:=hs 3 (by omega)
 match s,h with
 | [a0,a1,a2,a3],_=>
  simp at g0 g1 g2 g3
  obtain rfl:a0=0:=by omega
  obtain rfl:a1=1:=by omega
  obtain rfl:a2=2:=by omega
  obtain rfl:a3=3:=by omega
  have r0:=hc.2.2.1 0 (by omega)
  have r1:=hc.2.2.1 1 (by omega)
  have r2:=hc.2.2.1 2 (by omega)
  have r3:=hc.2.2.1 3 (by omega)
  rw [e4]at r0 r1 r2 r3
  match c,e4 with
  | [x0,x1,x2,x3],_=>
   simp at r0 r1 r2 r3
   match x0,x1,x2,x3,r0,r1,r2,r3 with
   | [_,_,_,_],[_,_,_,_],[_,_,_,_],[_,_,_,_],_,_,_,_=>rfl
theorem setP_of {c:List (List Int)} {s:List Int} (h:isSetB c s=true):setP c.length s:=by
 unfold isSetB at h;simp only [Bool.and_eq_true]at h;exact setB_iff.1 h.2
theorem sizeE_fin {c:List (List Int)} (hF:FinP c):sizeE c=sizeI c:=by unfold sizeE;rw [if_pos (isF_iff.2 hF)]
theorem cos_size {c:List (List Int)} {s:List Int} (h:clB c s=true) (hne:s≠[]):((clX c s).length:Int)*sizeE (pick c s)=sizeE c:=by
 have h0:=h
 simp only [clB,Bool.and_eq_true]at h0
 obtain⟨hF,e1,e2,e3,e4⟩:=elsB_fin h0.1 (by omega)
 have hs:=setP_of h0.2
 have hP:=fin_pick hF hs hne
 have hc:=coset_count hF hs hne hP
 have e5:sizeI (pick c s)≤200:=by
  by_cases h4:s.length=4
  ·rw [pick_full hF.1 hs h4,← sizeE_fin hF];exact e4
  ·refine sm_of hP ?_
   have:=set_len hs
   have:=hF.1.2.1
   rw [pick_len];omega
 have e6:=(fin_size hP).2.2 e5
 unfold clX
 rw [if_pos h,sizeE_fin hP,← e6,← e1,hc]
 simp
theorem noLd_mem {c:List (List Int)} {s w:List Int} (h:noLd c s w=true):∀ i∈s,0≤(imageL c w).getD i.toNat 0:=noLd_iff.1 h
theorem c_has (s:List Int) (x:Int):FunA B 16 [.sl false .int s,.int .i64 x] (fun rs o=>rs=[.bool (decide (x∈s))]∧o=[]):=by
 refine FunA.walk B_ok (fn:=Tryz.f16) (fun vs w=>Tryz.call16 vs w) Tryz.func16 rfl (by rw [Tryz.ntmps16];simp) (fun C hC hP hT hΓ hbt hfn hpin hfin=>?_);have hX:=BX;rw [← hΓ,← hbt.1,← hbt.2.1,← hbt.2.2.1]at hX;rw [hT]at hX;rw [Tryz.ntmps16];simp only [AW7,simprocAttr,hX]
 refine Run.len 0 rfl fun hlens=>?_
 refine Run.R ?_
 refine Run.R ?_
 refine Run.loopI (X:=Nat) (fun i=>⟨18,[(0,true,.v (.sl false .int s)),(1,true,.v (.int .i64 x)),(4,true,.v (.bool false)),(5,true,.v (.int .i64 i))],[]⟩) (fun i=>i≤s.length∧x∉s.take i) (fun i=>s.length - i) 0 ⟨Nat.zero_le _,by simp⟩ ?_ ?_
 ·exact Le.sub (by simp only [AW7,simprocAttr]) (by simp only [AW7,simprocAttr];try simp)
 rintro i ⟨hi,hf⟩ ih
 refine Run.R ?_
 refine Run.nq ?_;refine Run.cW ?_ ?_
 ·intro h
  have h:i < s.length:=by simpa using h
  refine Run.R ?_
  refine Run.nq ?_;refine Run.cW ?_ ?_
  ·intro hx
   have hx:s.getD i 0=x:=by simpa using hx
   refine Run.R ?_
   refine Run.rW [4] (hfin _ _ rfl rfl ?_)
   refine⟨?_,rfl⟩
   have:x∈s:=by rw [← hx];exact getD_mem h
   simp [this]
  ·intro hx
   have hx:¬s.getD i 0=x:=by simpa using hx
   refine Run.RW ?_
   refine Run.le ?_ (ih (i+1) ⟨h,?_⟩ (by omega))
   ·exact Le.sub (by simp only [AW7,simprocAttr]) (by simp only [AW7,simprocAttr,Option.some.injEq,Prod.mk.injEq,Sl.v.injEq,AV.int.injEq,AV.own.injEq,AV.bool.injEq];try(repeat' apply And.intro);all_goals omega)
   ·rw [← take_snoc 0 s i h]
    simp only [List.mem_append,List.mem_singleton,not_or]
    exact⟨hf,fun k=>hx k.symm⟩
 ·intro h
  have h:i=s.length:=by simp at h;omega
  subst h
  rw [List.take_length]at hf
  refine Run.exit rfl ?_;refine Run.nq ?_
  refine Run.R ?_
  refine Run.rW [4] (hfin _ _ rfl rfl ?_)
  simp [hf]
theorem c_spec_LeftDescents (c:List (List Int)) (w:List Int) (hw:wordB c w=true):FunA B 17 [.sl false (.row false) c,.sl false .int w] (fun rs o=>rs=[.own 0 0]∧∃ l,(∀ x∈l,0≤x∧(imageL c w).getD x.toNat 0 < 0)∧o=[.arr .int l 0 true]):=by
 obtain⟨hc,hl15,hlw⟩:=wordB_iff.1 hw
 have hn:=hc.2.1
 have hil:=imageL_length c w
 refine FunA.walk B_ok (fn:=Tryz.f17) (fun vs w=>Tryz.call17 vs w) Tryz.func17 rfl (by rw [Tryz.ntmps17];simp) (fun C hC hP hT hΓ hbt hfn hpin hfin=>?_);have hX:=BX;rw [← hΓ,← hbt.1,← hbt.2.1,← hbt.2.2.1]at hX;rw [hT]at hX;rw [Tryz.ntmps17];simp only [AW7,simprocAttr,hX]
 refine Run.R ?_
 refine Run.R ?_
 refine Run.nq ?_;refine Run.regionW hC (fun K hK=>?_);refine wW ?_
 refine FunA.cW hP hT (c_spec_IsWord c w (by omega)) ?_
 rintro rs o ⟨rfl,rfl⟩
 rw [hw]
 refine wW ?_
 refine wE ?_;clear hK K
 refine Run.nq ?_;refine Run.cW ?_ ?_
 ·intro h;exact absurd h (by simp)
 intro _
 refine Run.nq ?_;refine Run.regionW hC (fun K hK=>?_);refine wW ?_
 refine FunA.cW hP hT (c_spec_l8Image c w hc hlw (by omega)) ?_
 rintro rs o ⟨rfl,rfl⟩
 refine wW ?_
 refine wE ?_;clear hK K
 refine Run.reK hpin [5,6] [0,1] (by decide) (by simp) ?_;simp only [AR,AW7,simprocAttr]
 refine Run.R ?_
 refine Run.loopI (X:=List Int×Nat) (fun y=>⟨33,[(5,true,.v (.own 0 0)),(6,true,.v (.own 1 0)),(7,true,.v (.int .i64 (y.2)))],[.arr .int (y.1) 0 true,.arr .int ((imageL c w)) 0 true]⟩) (fun y=>y.2≤c.length∧y.1.length≤y.2∧∀ x∈y.1,0≤x∧(imageL c w).getD x.toNat 0 < 0) (fun y=>c.length - y.2) (([],0)) (⟨by simp,by simp,by simp⟩) ?_ ?_
 ·exact Le.sub (by first | rfl | simp) (by simp only [AW7,simprocAttr,hX];try simp<;>try(first | rfl | exact⟨rfl,rfl⟩ | exact⟨rfl,rfl,rfl⟩))
 rintro⟨l,i⟩ ⟨hi,hll,hx⟩ ih
 try simp only []
 simp only []at hi hll hx
 refine Run.R ?_
 rw [hil]
 refine Run.nq ?_;refine Run.cW ?_ ?_
 rotate_left
 ·intro _
  refine Run.exit rfl ?_;refine Run.nq ?_
  refine Run.R ?_
  refine Run.reK hpin [4] [0] (by decide) (by simp) ?_;simp only [AR,AW7,simprocAttr]
  refine Run.rW [4] (hfin _ _ rfl rfl ?_)
  exact⟨rfl,l,hx,rfl⟩
 intro h
 have h:i < c.length:=by rw [decide_eq_true_eq]at h;omega
 refine Run.R ?_
 refine Run.nq ?_;refine Run.cW ?_ ?_
 ·intro hv
  have hv:(imageL c w).getD i 0 < 0:=by simpa using hv
  refine Run.R ?_
  refine Run.reK hpin [5,6,7] [0,1] (by decide) (by simp) ?_;simp only [AR,AW7,simprocAttr]
  refine Run.RW ?_
  have hx2:∀ x∈l ++ [(i:Int)],0≤x∧(imageL c w).getD x.toNat 0 < 0:=by
   intro x hm
   rcases List.mem_append.1 hm with hm | hm
   ·exact hx x hm
   ·obtain rfl:=List.mem_singleton.1 hm
    exact⟨by omega,hv⟩
  refine Run.le ?_ (ih ((l ++ [(i:Int)],i+1)) (⟨by omega,by simp;omega,hx2⟩) (by(try simp only [List.length_append,List.length_cons,List.length_nil]);omega))
  exact Le.sub (by rfl) (by simp only [AW7,simprocAttr];try simp)
 intro _
 refine Run.RW ?_
 refine Run.le ?_ (ih ((l,i+1)) (⟨by omega,by simp only [];omega,hx⟩) (by(try simp only [List.length_append,List.length_cons,List.length_nil]);omega))
 exact Le.sub (by rfl) (by simp only [AW7,simprocAttr];try simp)
end Go.Proofs.YtcinngodeoidnaaGreatDoor
namespace Go.Proofs.YtcinngodeoidnaaGreatDoor
open Go Go.Aw Go.Cox
noncomputable def itF (c:List (List Int)) (a b y:List Int):Nat→List Int
 | 0=>y
 | n+1=>Lf c a (Rf c b (itF c a b y n))
noncomputable def dblB (c:List (List Int)) (a w b:List Int):Bool:=leftB c a w && isSetB c b
noncomputable def dblM (c:List (List Int)) (a w b:List Int):List Int:=if dblB c a w b then itF c a b (Lf c a w) 16 else []
theorem isSet_setP {c:List (List Int)} {b:List Int} (h:isSetB c b=true):setP c.length b:=by
 unfold isSetB at h;simp only [Bool.and_eq_true]at h;exact setB_iff.1 h.2
structure Good (c:List (List Int)) (a y:List Int):Prop where
 red:Red c y
 len:y.length≤15
 nf:redL c y=y
 idem:Lf c a y=y
section
variable {c:List (List Int)} (hc:CartanP c) {a b:List Int} (ha:setP c.length a) (hb:setP c.length b)
include hc ha
theorem Good.of {w:List Int} (hw:letters c.length w) (hl:w.length≤15):Good c a (Lf c a w):=by
 obtain⟨k1,k2⟩:=Lf_spec hc ha hw (by omega)
 exact⟨k1,by omega,Lf_nf hc ha hw (by omega),Lf_idem hc ha hw (by omega)⟩
include hb
theorem Good.next {y:List Int} (h:Good c a y):Good c a (Lf c a (Rf c b y))∧(Lf c a (Rf c b y)).length≤(Rf c b y).length∧(Rf c b y).length≤y.length∧((Rf c b y).length=y.length→Rf c b y=y∧Lf c a (Rf c b y)=y):=by
 have hl:=h.len
 obtain⟨k1,k2,k3⟩:=Rf_spec hc hb h.red.1 (by omega)
 obtain⟨m1,m2⟩:=Lf_spec hc ha k1.1 (by omega)
 refine⟨Good.of hc ha k1.1 (by omega),m2,k2,fun he=>?_⟩
 have e:=Rf_eq hc hb h.red.1 (by omega) he
 rw [h.nf]at e
 exact⟨e,by rw [e];exact h.idem⟩
theorem itF_good {y:List Int} (h:Good c a y):∀ n,Good c a (itF c a b y n)
 | 0=>h
 | n+1=>((itF_good h n).next hc ha hb).1
theorem itF_len {y:List Int} (h:Good c a y):∀ k,(∀ j,j < k→itF c a b y (j+1)≠itF c a b y j)→(itF c a b y k).length+k≤15
 | 0,_=>by have:=h.len;simpa [itF] using this
 | k+1,hk=>by
  have ih:=itF_len h k (fun j hj=>hk j (by omega))
  obtain⟨_,g2,g3,g4⟩:=(itF_good hc ha hb h k).next hc ha hb
  have hne:=hk k (by omega)
  have:(Rf c b (itF c a b y k)).length≠(itF c a b y k).length:=fun he=>hne (g4 he).2
  show(Lf c a (Rf c b (itF c a b y k))).length+(k+1)≤15
  omega
omit hc ha hb in
theorem itF_fix {y:List Int} {k:Nat} (h:itF c a b y (k+1)=itF c a b y k):∀ m,itF c a b y (k+m)=itF c a b y k
 | 0=>rfl
 | m+1=>by
  show Lf c a (Rf c b (itF c a b y (k+m)))=_
  rw [itF_fix h m];exact h
end
theorem dblM_le (c:List (List Int)) (a w b:List Int):(dblM c a w b).length≤15:=by
 unfold dblM
 split
 ·rename_i h
  simp only [dblB,Bool.and_eq_true]at h
  obtain⟨⟨hc,h2,h3⟩,hs⟩:=leftB_iff.1 h.1
  exact(itF_good hc hs (isSet_setP h.2) (Good.of hc hs h3 (by omega)) 16).len
 ·simp
theorem c_spec_DoubleMinimal (c:List (List Int)) (a w b:List Int) (hcl:c.length≤1048576) :
  FunA B 28 [.sl false (.row false) c,.sl false .int a,.sl false .int w,.sl false .int b] (fun rs o=>rs=[.own 0 0,.bool (dblB c a w b)]∧o=[.arr .int (dblM c a w b) 0 true]):=by
 refine FunA.walk B_ok (fn:=Tryz.f28) (fun vs w=>Tryz.call28 vs w) Tryz.func28 rfl (by rw [Tryz.ntmps28];simp) (fun C hC hP hT hΓ hbt hfn hpin hfin=>?_);have hX:=BX;rw [← hΓ,← hbt.1,← hbt.2.1,← hbt.2.2.1]at hX;rw [hT]at hX;rw [Tryz.ntmps28];simp only [AW7,simprocAttr,hX]
 refine Run.R ?_
 refine Run.nq ?_;refine Run.regionW hC (fun K hK=>?_);refine wW ?_
 refine FunA.cW hP hT (c_spec_LeftParts c a w hcl) ?_
 rintro rs o ⟨rfl,rfl⟩
 refine wW ?_
 refine wE ?_;clear hK K
 refine Run.nq ?_;refine Run.regionW hC (fun K hK=>?_);refine wW ?_
 refine .inl (FunA.callG hP hT (c_spec_l3Set c b hcl) (fun _=>rfl) (fun _=>by simp only [AW7,simprocAttr]) ?_)
 refine wW ?_
 refine wE ?_;clear hK K
 refine Run.nq ?_;refine Run.cW ?_ ?_
 ·intro h
  have h:dblB c a w b=false:=by
   revert h
   cases hw:leftB c a w<;>cases hi:isSetB c b<;>simp [dblB,hw,hi]
  refine Run.R ?_
  refine Run.le (Le.re (obs':=[.arr .int [] 0 true]) hpin [2] [(8,true,.own 0 0),(9,true,.bool false)] rfl (by simp [leOs,leO_arr,oAt]) (by refine⟨⟨_,rfl,?_⟩,⟨_,rfl,?_⟩,trivial⟩<;>simp [leAV,oAt,genO])) ?_;simp only [frV_cons,frV_nil]
  refine Run.rW [8,9] (hfin _ _ rfl rfl ?_)
  simp [dblM,h]
 ·intro h
  have hd:dblB c a w b=true:=by
   revert h
   cases hw:leftB c a w<;>cases hi:isSetB c b<;>simp [dblB,hw,hi]
  have hd2:=hd
  simp only [dblB,Bool.and_eq_true]at hd2
  obtain⟨⟨hc,h2,h3⟩,hs⟩:=leftB_iff.1 hd2.1
  have hsb:=isSet_setP hd2.2
  have hG:=Good.of hc hs h3 (by omega)
  obtain⟨y,hy⟩:∃ y,y=Lf c a w:=⟨_,rfl⟩
  have hle:leftY c a w=y:=by unfold leftY;rw [if_pos hd2.1,hy];rfl
  rw [← hy]at hG
  rw [hle]
  refine Run.R ?_
  refine Run.le (Le.re (obs':=[.arr .int y 0 true]) hpin [1] [(0,true,.sl false (.row false) c),(1,true,.sl false .int a),(3,true,.sl false .int b),(8,true,.nils),(9,true,.bool false),(11,true,.own 0 0),(13,true,.int .i64 0)] rfl (by simp [leOs,leO_arr,oAt]) (by refine⟨⟨_,rfl,?_⟩,⟨_,rfl,?_⟩,⟨_,rfl,?_⟩,⟨_,rfl,?_⟩,⟨_,rfl,?_⟩,⟨_,rfl,?_⟩,⟨_,rfl,?_⟩,trivial⟩<;>simp [leAV,oAt,genO])) ?_;simp only [frV_cons,frV_nil]
  refine Run.loopI (X:=Nat) (fun k=>⟨63,[(0,true,.v (.sl false (.row false) c)),(1,true,.v (.sl false .int a)),(3,true,.v (.sl false .int b)),(8,true,.v .nils),(9,true,.v (.bool false)),(11,true,.v (.own 0 0)),(13,true,.v (.int .i64 k))],[.arr .int (itF c a b y k) 0 true]⟩) (fun k=>∀ j,j < k→itF c a b y (j+1)≠itF c a b y j) (fun k=>16 - k) 0 (by omega) ?_ ?_
  ·exact Le.sub (by rfl) (by simp only [AW7,simprocAttr,hX];try simp)
  rintro k hk ih
  have hkl:=itF_len hc hs hsb hG k hk
  have hGk:=itF_good hc hs hsb hG k
  obtain⟨g1,g2,g3,g4⟩:=hGk.next hc hs hsb
  obtain⟨r1,r2,r3⟩:=Rf_spec hc hsb hGk.red.1 (by omega)
  have hb1:leftB c b (itF c a b y k)=true:=leftB_iff.2 ⟨⟨hc,hGk.len,hGk.red.1⟩,hsb⟩
  have eX:rightX c b (itF c a b y k)=Rf c b (itF c a b y k):=by unfold rightX;rw [if_pos hb1]
  have hb2:leftB c a (Rf c b (itF c a b y k))=true:=leftB_iff.2 ⟨⟨hc,by omega,r1.1⟩,hs⟩
  have eY:leftY c a (Rf c b (itF c a b y k))=itF c a b y (k+1):=by unfold leftY;rw [if_pos hb2];rfl
  have hk1:=(itF_good hc hs hsb hG (k+1)).len
  refine Run.R ?_
  refine Run.nq ?_;refine Run.cW ?_ ?_
  ·intro _
   refine Run.nq ?_;refine Run.regionW hC (fun K hK=>?_);refine wW ?_
   refine FunA.cW hP hT (c_spec_RightParts c b (itF c a b y k) hcl (by omega)) ?_
   rintro rs o ⟨rfl,rfl⟩
   rw [eX]
   refine wW ?_
   refine wE ?_;clear hK K
   refine Run.nq ?_;refine Run.regionW hC (fun K hK=>?_);refine wW ?_
   refine FunA.cW hP hT (c_spec_LeftParts c a (Rf c b (itF c a b y k)) hcl) ?_
   rintro rs o ⟨rfl,rfl⟩
   rw [eY]
   refine wW ?_
   refine wE ?_;clear hK K
   refine Run.nq ?_;refine Run.regionW hC (fun K hK=>?_);refine wW ?_
   refine FunA.cW hP hT (c_spec_EqualWords (itF c a b y (k+1)) (itF c a b y k) (by omega)) ?_
   rintro rs o ⟨rfl,rfl⟩
   refine wW ?_
   refine wE ?_;clear hK K
   refine Run.nq ?_;refine Run.cW ?_ ?_
   ·intro he
    have he:itF c a b y (k+1)=itF c a b y k:=by simpa using he
    have hm:dblM c a w b=itF c a b y k:=by
     unfold dblM
     rw [if_pos hd,← hy,show 16=k+(16 - k) by omega]
     exact itF_fix he _
    refine Run.R ?_
    refine Run.le (Le.re (obs':=[.arr .int (dblM c a w b) 0 true]) hpin [0] [(8,true,.own 0 0),(9,true,.bool true)] rfl (by simp [leOs,leO_arr,oAt,hm]) (by refine⟨⟨_,rfl,?_⟩,⟨_,rfl,?_⟩,trivial⟩<;>simp [leAV,oAt,genO,hm])) ?_;simp only [frV_cons,frV_nil]
    refine Run.rW [8,9] (hfin _ _ rfl rfl ?_)
    simp [hd]
   ·intro he
    have he:itF c a b y (k+1)≠itF c a b y k:=by simpa using he
    refine Run.R ?_
    refine Run.le (Le.re (obs':=[.arr .int (itF c a b y (k+1)) 0 true]) hpin [4] [(0,true,.sl false (.row false) c),(1,true,.sl false .int a),(3,true,.sl false .int b),(8,true,.nils),(9,true,.bool false),(11,true,.own 0 0),(13,true,.int .i64 k)] rfl (by simp [leOs,leO_arr,oAt]) (by refine⟨⟨_,rfl,?_⟩,⟨_,rfl,?_⟩,⟨_,rfl,?_⟩,⟨_,rfl,?_⟩,⟨_,rfl,?_⟩,⟨_,rfl,?_⟩,⟨_,rfl,?_⟩,trivial⟩<;>simp [leAV,oAt,genO])) ?_;simp only [frV_cons,frV_nil]
    refine Run.RW ?_
    refine Run.le ?_ (ih (k+1) (fun j hj=>?_) (by omega))
    ·exact Le.sub (by rfl) (by simp only [AW7,simprocAttr];try simp)
    ·rcases Nat.lt_succ_iff_lt_or_eq.1 hj with h | rfl
     ·exact hk j h
     ·exact he
  ·intro h
   simp at h
   omega
theorem c_impl_DoubleMinimal (c:List (List Int)) (a w b:List Int) (hcl:c.length≤1048576) :
  FunA B 27 [.sl false (.row false) c,.sl false .int a,.sl false .int w,.sl false .int b] (fun rs o=>rs=[.own 0 0,.bool (dblB c a w b)]∧o=[.arr .int (dblM c a w b) 0 true]):=by
 refine FunA.walk B_ok (fn:=Tryz.f27) (fun vs w=>Tryz.call27 vs w) Tryz.func27 rfl (by rw [Tryz.ntmps27];simp) (fun C hC hP hT hΓ hbt hfn hpin hfin=>?_);have hX:=BX;rw [← hΓ,← hbt.1,← hbt.2.1,← hbt.2.2.1]at hX;rw [hT]at hX;rw [Tryz.ntmps27];simp only [AW7,simprocAttr,hX]
 refine Run.R ?_
 refine Run.nq ?_;refine Run.regionW hC (fun K hK=>?_);refine wW ?_
 refine FunA.cW hP hT (c_impl_IsWord c w) ?_
 rintro rs o ⟨rfl,rfl⟩
 refine wW ?_
 refine .inl (FunA.callG hP hT (c_impl_IsSet c a hcl) (fun _=>rfl) (fun _=>by simp only [AW7,simprocAttr]) ?_)
 refine wW ?_
 refine .inl (FunA.callG hP hT (c_impl_IsSet c b hcl) (fun _=>rfl) (fun _=>by simp only [AW7,simprocAttr]) ?_)
 refine wW ?_
 refine wE ?_;clear hK K
 refine Run.nq ?_;refine Run.cW ?_ ?_
 ·intro h
  have h:dblB c a w b=false:=by
   revert h
   cases hw:wordB c w<;>cases hi:isSetB c a<;>cases hj:isSetB c b<;>simp [dblB,leftB,hw,hi,hj]
  refine Run.R ?_
  refine Run.rW [8,9] (hfin _ _ rfl rfl ?_)
  simp [dblM,h]
 ·intro h
  have hd:dblB c a w b=true:=by
   revert h
   cases hw:wordB c w<;>cases hi:isSetB c a<;>cases hj:isSetB c b<;>simp [dblB,leftB,hw,hi,hj]
  have hd2:=hd
  simp only [dblB,Bool.and_eq_true]at hd2
  obtain⟨⟨hc,h2,h3⟩,hs⟩:=leftB_iff.1 hd2.1
  have hsb:=isSet_setP hd2.2
  have hG:=Good.of hc hs h3 (by omega)
  obtain⟨y,hy⟩:∃ y,y=Lf c a w:=⟨_,rfl⟩
  rw [← hy]at hG
  refine Run.keep [0,1,2,3,8,9] ?_;simp only [AK,Nat.reduceBEq]
  refine Run.nq ?_
  refine Run.loopI (X:=Nat×List Int×Bool) (fun x=>⟨52,[(0,true,.v (.sl false (.row false) c)),(1,true,.v (.sl false .int a)),(2,true,.v (.sl x.2.2 .int x.2.1)),(3,true,.v (.sl false .int b)),(8,true,.v .nils),(9,true,.v (.bool false))],[]⟩) (fun x=>Lf c a x.2.1=itF c a b y x.1∧letters c.length x.2.1∧x.2.1.length+x.1≤15) (fun x=>x.2.1.length) (0,w,false) ⟨hy.symm,h3,by simpa using h2⟩ ?_ ?_
  ·exact Le.sub (by rfl) (by simp only [AW7,simprocAttr,hX];try simp)
  rintro⟨k,x,fl⟩ ⟨hx,hlx,hxk⟩ ih
  simp only []at hx hlx hxk ⊢
  have hGk:=itF_good hc hs hsb hG k
  obtain⟨g1,g2,g3,g4⟩:=hGk.next hc hs hsb
  have hGl:=hGk.len
  obtain⟨r1,r2,r3⟩:=Rf_spec hc hsb hGk.red.1 (by omega)
  obtain⟨_,l2⟩:=Lf_spec hc hs hlx (by omega)
  rw [hx]at l2
  refine Run.nq ?_;refine Run.regionW hC (fun K hK=>?_);refine wW ?_
  refine FunA.cW hP hT (c_impl_leftParts c a x hc hs hlx (by omega)) ?_
  rintro rs o ⟨rfl,rfl⟩
  rw [show nfL c 31 (lpL c a 31 (imageL c x)).2=itF c a b y k from hx]
  refine wW ?_
  refine wE ?_;clear hK K
  refine Run.nq ?_;refine Run.regionW hC (fun K hK=>?_);refine wW ?_
  refine FunA.cW hP hT (c_impl_rightParts c b (itF c a b y k) hc hsb hGk.red.1 (by omega)) ?_
  rintro rs o ⟨rfl,rfl⟩
  refine wW ?_
  refine wE ?_;clear hK K
  refine Run.R ?_
  refine Run.nq ?_;refine Run.cW ?_ ?_
  ·intro he
   have he:(Rf c b (itF c a b y k)).length=x.length:=by simp at he;omega
   obtain⟨e1,e2⟩:=g4 (by omega)
   have hm:dblM c a w b=itF c a b y k:=by
    unfold dblM
    rw [if_pos hd,← hy,show 16=k+(16 - k) by omega]
    exact itF_fix e2 _
   refine Run.R ?_
   refine Run.le (Le.re (obs':=[.arr .int (dblM c a w b) 0 true]) hpin [2] [(8,true,.own 0 0),(9,true,.bool true)] rfl (by simp [leOs,leO_arr,oAt,hm,e1]) (by refine⟨⟨_,rfl,?_⟩,⟨_,rfl,?_⟩,trivial⟩<;>simp [leAV,oAt,genO,hm,e1])) ?_;simp only [frV_cons,frV_nil]
   refine Run.rW [8,9] (hfin _ _ rfl rfl ?_)
   simp [hd]
  ·intro he
   have he:(Rf c b (itF c a b y k)).length≠x.length:=by intro k;apply absurd he;simp [k]
   refine Run.R ?_
   refine Run.le (Le.letgo 2 [(0,true,.sl false (.row false) c),(1,true,.sl false .int a),(2,true,.sl true .int (Rf c b (itF c a b y k))),(3,true,.sl false .int b),(8,true,.nils),(9,true,.bool false)] rfl ?_) ?_
   ·exact⟨.inl rfl,.inl rfl,.inr ⟨rfl,rfl⟩,.inl rfl,.inl rfl,.inl rfl,trivial⟩
   simp only [frV_cons,frV_nil]
   refine Run.le ?_ (ih (k+1,Rf c b (itF c a b y k),true) ⟨rfl,r1.1,by simp only [];omega⟩ (by simp only [];omega))
   exact Le.cut0 hpin [_,_,_,_] (by rfl) (by simp only [AW7,simprocAttr];try simp) rfl
end Go.Proofs.YtcinngodeoidnaaGreatDoor
namespace Go.Proofs.YtcinngodeoidnaaGreatDoor
open Go Go.Aw
end Go.Proofs.YtcinngodeoidnaaGreatDoor
namespace Go.Proofs.YtcinngodeoidnaaGreatDoor
open Go Go.Aw
theorem c_spec_IsSet (c:List (List Int)) (s:List Int) (hc:c.length≤1048576):FunA B 11 [.sl false (.row false) c,.sl false .int s] (fun rs o=>rs=[.bool (isSetB c s)]∧o=[]):=by
 refine FunA.walk B_ok (fn:=Tryz.f11) (fun vs w=>Tryz.call11 vs w) Tryz.func11 rfl (by rw [Tryz.ntmps11];simp) (fun C hC hP hT hΓ hbt hfn hpin hfin=>?_);have hX:=BX;rw [← hΓ,← hbt.1,← hbt.2.1,← hbt.2.2.1]at hX;rw [hT]at hX;rw [Tryz.ntmps11];simp only [AW7,simprocAttr,hX]
 refine Run.R ?_
 refine Run.nq ?_;refine Run.regionW hC (fun K hK=>?_);refine wW ?_
 refine FunA.cW hP hT (c_spec_l3Set c s hc) ?_
 rintro rs o ⟨rfl,rfl⟩
 refine wW ?_
 refine wE ?_;clear hK K
 refine Run.rW [4] (hfin _ _ rfl rfl ?_)
 exact⟨rfl,rfl⟩
end Go.Proofs.YtcinngodeoidnaaGreatDoor
namespace Go.Proofs.YtcinngodeoidnaaGreatDoor
open Go Go.Aw Go.Cox
theorem joinK {C:Ctx} {k k':List Item} {σ σ':St} (rest:Run C k' σ') (h:Run C k' σ'→Run C k σ):Run C k σ:=h rest
theorem same_of {c:List (List Int)} {u w:List Int} (hw:WordP c w) (hu:letters c.length u) (hl:u.length≤15) (h:imageL c u=imageL c w):sameB c u w=true:=by
 unfold sameB
 rw [wordB_iff.2 hw,wordB_iff.2 ⟨hw.1,hl,hu⟩,h]
 simp
theorem resSl_four (n:Nat) (x y z u:AV):resSl n [x,y,z,u]=.t [shiftAV n x,shiftAV n y,shiftAV n z,shiftAV n u]:=rfl
set_option maxHeartbeats 20000000 in
theorem c_FnParabolic (code:List Int) (hwf:∀ n∈code,(Lit.int .u8 n).wf=true):FunA BJ 3 [.sl false .byte code] (fun rs _=>rs=[.bool true]):=by
 refine FunA.walk BJ_ok (fn:=Tryz.f3) (fun vs w=>Tryz.call3 vs w) Tryz.func3 rfl (by rw [Tryz.ntmps3];simp) (fun C hC hP hT hΓ hbt hfn hpin hfin=>?_);haveI hDJ:DrLe BJ C:=⟨fun h=>by rw [hbt.2.2.2]at h;cases h⟩;have hPJ:=hP;have hTJ:=hT;replace hP:B.P=C.P:=hP;replace hT:B.tid=C.tid:=hT;have hX:=BXJ;rw [← hΓ,← hbt.1,← hbt.2.1,← hbt.2.2.1]at hX;rw [hTJ]at hX;rw [Tryz.ntmps3];simp only [AW7,simprocAttr,hX]
 refine Run.R ?_
 refine Run.nq ?_;refine Run.regionW hC (fun K hK=>?_);refine wW ?_
 refine FunA.cW hP hT (c_big code) ?_
 rintro rs o ⟨rfl,rfl⟩
 refine wW ?_
 refine wE ?_;clear hK K
 refine Run.nq ?_;refine Run.cW ?_ ?_
 ·intro _
  refine Run.R ?_
  refine Run.rW [2] (hfin _ _ rfl rfl ?_)
  rfl
 intro hb
 have hcl:code.length≤1048576:=by
  have hb:¬1048576 < code.length:=by simpa using hb
  omega
 refine Run.nq ?_;refine Run.regionW hC (fun K hK=>?_);refine wW ?_
 refine FunA.cW hP hT (c_DrawLeftParts code hcl) ?_
 rintro rs o ⟨c,s,w,⟨c1,c2⟩,hsl,hwl,rfl,rfl⟩
 refine wW ?_
 refine wE ?_;clear hK K
 refine Run.reK hpin [0,3,4,5] [] (by decide) (by simp) ?_;simp only [AR,AW7,simprocAttr]
 refine Run.nq ?_;refine Run.regionW hC (fun K hK=>?_);refine wW ?_
 refine FunA.cW hP hT (c_impl_LeftParts c s w (by omega)) ?_
 rintro rs o ⟨rfl,rfl⟩
 refine wW ?_
 refine wE ?_;clear hK K
 refine Run.nq ?_;refine Run.regionW hC (fun K hK=>?_);refine wW ?_
 refine FunA.cW hP hT (c_spec_LeftParts c s w (by omega)) ?_
 rintro rs o ⟨rfl,rfl⟩
 refine wW ?_
 refine wE ?_;clear hK K
 refine Run.reK hpin [0,3,4,5,6,7,8,9,10,11] [0,1,2,3] (by decide) (by simp) ?_;simp only [AR,AW7,simprocAttr]
 refine Run.letgoK 0 [0,3,4,5,6,7,8,9,10,11] rfl ?_;simp only [AL,frV_cons,frV_nil,AW7,simprocAttr]
 refine Run.letgoK 1 [0,3,4,5,6,7,8,9,10,11] rfl ?_;simp only [AL,frV_cons,frV_nil,AW7,simprocAttr]
 refine Run.letgoK 2 [0,3,4,5,6,7,8,9,10,11] rfl ?_;simp only [AL,frV_cons,frV_nil,AW7,simprocAttr]
 refine Run.letgoK 3 [0,3,4,5,6,7,8,9,10,11] rfl ?_;simp only [AL,frV_cons,frV_nil,AW7,simprocAttr]
 refine Run.reK hpin [0,3,4,5,6,7,8,9,10,11] [] (by decide) (by simp) ?_;simp only [AR,AW7,simprocAttr]
 have lx:=leftX_le c s w
 have ly:=leftY_le c s w
 have h1:(leftB c s w != leftB c s w)=false:=by simp
 have h2:(leftX c s w == leftX c s w)=true:=by simp
 have h3:(leftY c s w == leftY c s w)=true:=by simp
 have h4:(isSetB c s != isSetB c s)=false:=by simp
 refine Run.nq ?_;refine Run.regionW hC (fun K hK=>?_);refine wW ?_
 rw [h1]
 simp only [AW7,simprocAttr,hX]
 refine .inr ⟨rfl,?_⟩
 refine FunA.cW hP hT (c_sameInts (leftX c s w) (leftX c s w) (by omega)) ?_
 rintro rs o ⟨rfl,rfl⟩
 rw [h2]
 refine wW ?_
 refine .inr ⟨rfl,?_⟩
 refine FunA.cW hP hT (c_sameInts (leftY c s w) (leftY c s w) (by omega)) ?_
 rintro rs o ⟨rfl,rfl⟩
 rw [h3]
 refine wW ?_
 refine .inr ⟨rfl,?_⟩
 refine FunA.cW hP hT (c_impl_IsSet c s (by omega)) ?_
 rintro rs o ⟨rfl,rfl⟩
 refine wW ?_
 refine .inr ⟨rfl,?_⟩
 refine FunA.cW hP hT (c_spec_IsSet c s (by omega)) ?_
 rintro rs o ⟨rfl,rfl⟩
 refine wW ?_
 rw [h4]
 refine wW ?_
 refine wE ?_;clear hK K
 refine Run.nq ?_;refine Run.cW ?_ ?_
 ·intro h;exact absurd h (by simp)
 intro _
 refine Run.reK hpin [0,3,4,5,8,9,10] [] (by decide) (by simp) ?_;simp only [AR,AW7,simprocAttr]
 apply joinK (σ':=⟨296,[(0,true,.v (.sl false .byte code)),(3,true,.v (.sl true (.row true) c)),(4,true,.v (.sl true .int s)),(5,true,.v (.sl true .int w))],[]⟩)
 case h=>
  intro rest
  cases hL:leftB c s w with
  | false=>
   refine Run.R ?_
   refine Run.nq ?_;refine Run.cW ?_ ?_
   ·intro h;exact absurd h (by simp)
   intro _
   refine Run.reK hpin [0,3,4,5] [] (by decide) (by simp) ?_;simp only [AR,AW7,simprocAttr]
   refine Run.nq ?_
   exact rest
  | true=>
   obtain⟨f1,f2,f3,f4,f5,f6,f7,f8⟩:=left_facts hL
   obtain⟨hW,hS⟩:=leftB_iff.1 hL
   have hw:=wordB_iff.2 hW
   have e1:(((leftX c s w).length:Int)+((leftY c s w).length:Int) != ((redL c w).length:Int))=false:=by
    rw [bne_eq_false_iff_eq];omega
   have e2:=same_of hW (letters_append.2 ⟨f1,f2⟩) (by rw [List.length_append];omega) f5
   have hwx:wordB c (leftX c s w)=true:=wordB_iff.2 ⟨hW.1,by omega,f1⟩
   have hwy:wordB c (leftY c s w)=true:=wordB_iff.2 ⟨hW.1,by omega,f2⟩
   have e3:parB c s (leftX c s w)=true:=by
    unfold parB
    rw [hwx,show isSetB c s=true by unfold leftB at hL;simp only [Bool.and_eq_true]at hL;exact hL.2,f6]
    simpa using f7
   refine Run.R ?_
   refine Run.nq ?_;refine Run.cW ?_ ?_
   rotate_left
   ·intro h;exact absurd h (by simp)
   intro _
   refine Run.nq ?_;refine Run.regionW hC (fun K hK=>?_);refine wWW ?_
   refine FunA.cW hP hT (c_spec_LengthOf c w (by omega)) ?_
   rintro rs o ⟨rfl,rfl⟩
   rw [if_pos hw]
   refine wWW ?_
   rw [e1]
   simp only [AW7,simprocAttr,hX]
   refine .inr ⟨rfl,?_⟩
   refine FunA.cW hP hT (c_spec_ConcatWords (leftX c s w) (leftY c s w) (by omega) (by omega)) ?_
   rintro rs o ⟨rfl,rfl⟩
   refine wW ?_
   refine .inr ⟨rfl,?_⟩
   refine FunA.cW hP hT (c_impl_AreSame c (leftX c s w ++ leftY c s w) w (by omega)) ?_
   rintro rs o ⟨rfl,rfl⟩
   rw [e2]
   refine wW ?_
   refine .inr ⟨rfl,?_⟩
   refine FunA.cW hP hT (c_impl_IsInParabolic c s (leftX c s w) (by omega)) ?_
   rintro rs o ⟨rfl,rfl⟩
   rw [e3]
   refine wW ?_
   refine wE ?_;clear hK K
   refine Run.nq ?_;refine Run.cW ?_ ?_
   ·intro h;exact absurd h (by simp)
   intro _
   refine Run.reK hpin [0,3,4,5,10] [] (by decide) (by simp) ?_;simp only [AR,AW7,simprocAttr]
   refine Run.R ?_
   refine Run.loopI (X:=Nat) (fun i=>⟨296,[(0,true,.v (.sl false .byte (code))),(3,true,.v (.sl true (.row true) (c))),(4,true,.v (.sl true .int (s))),(5,true,.v (.sl true .int (w))),(10,true,.v (.sl true .int ((leftY c s w)))),(12,true,.v (.int .i64 (i)))],[]⟩) (fun i=>i≤s.length) (fun i=>s.length - i) (0) (Nat.zero_le _) ?_ ?_
   ·exact Le.sub (by first | rfl | simp) (by simp only [AW7,simprocAttr,hX];try simp<;>try(first | rfl | exact⟨rfl,rfl⟩ | exact⟨rfl,rfl,rfl⟩))
   rintro i hi ih
   try simp only []
   refine Run.R ?_
   refine Run.nq ?_;refine Run.cW ?_ ?_
   rotate_left
   ·intro _
    refine Run.exit rfl ?_;refine Run.nq ?_
    refine Run.reK hpin [0,3,4,5] [] (by decide) (by simp) ?_;simp only [AR,AW7,simprocAttr]
    refine Run.nq ?_
    exact rest
   intro hx
   have hx:i < s.length:=by rw [decide_eq_true_eq]at hx;omega
   refine Run.nq ?_;refine Run.regionD hC true [0,1,3,4,5,6,2,7] (by kernel_rfl) (fun K hK=>?_);simp only [AW7,simprocAttr,hX];(repeat(with_reducible refine And.intro ?_ ?_);exact vc0)
   refine FunA.callD hP hT (c_spec_LeftDescents c (leftY c s w) hwy) (by simp only [AW7,simprocAttr]) ?_
   rintro rs o ⟨rfl,l,hl,rfl⟩
   have e4:decide (s.getD i 0∈l)=false:=by
    rw [decide_eq_false_iff_not]
    intro hm
    have:=(hl _ hm).2
    have:=noLd_mem f8 (s.getD i 0) (getD_mem hx)
    omega
   refine wW ?_
   refine FunA.callD hP hT (c_has l (s.getD i 0)) (by simp only [AW7,simprocAttr]) ?_
   rintro rs o ⟨rfl,rfl⟩
   rw [e4]
   refine wW ?_
   refine wE ?_;clear hK K
   refine Run.nq ?_;refine Run.cW ?_ ?_
   ·intro h;exact absurd h (by simp)
   intro _
   refine Run.reK hpin [0,3,4,5,10,12] [] (by decide) (by simp) ?_;simp only [AR,AW7,simprocAttr]
   refine Run.RW ?_
   refine Run.le ?_ (ih (i+1) (hx) (by(try simp only [List.length_append,List.length_cons,List.length_nil]);omega))
   exact Le.sub (by rfl) (by simp only [AW7,simprocAttr];try simp)
 refine Run.nq ?_;refine Run.regionW hC (fun K hK=>?_);refine wW ?_
 refine FunA.cW hP hT (c_impl_RightParts c s w (by omega) (by omega)) ?_
 rintro rs o ⟨rfl,rfl⟩
 refine wW ?_
 refine wE ?_;clear hK K
 refine Run.nq ?_;refine Run.regionW hC (fun K hK=>?_);refine wW ?_
 refine FunA.cW hP hT (c_spec_RightParts c s w (by omega) (by omega)) ?_
 rintro rs o ⟨rfl,rfl⟩
 refine wW ?_
 refine wE ?_;clear hK K
 refine Run.reK hpin [0,3,5,13,14,15,16,17,18] [0,1,2,3] (by decide) (by simp) ?_;simp only [AR,AW7,simprocAttr]
 refine Run.letgoK 0 [0,3,5,13,14,15,16,17,18] rfl ?_;simp only [AL,frV_cons,frV_nil,AW7,simprocAttr]
 refine Run.letgoK 1 [0,3,5,13,14,15,16,17,18] rfl ?_;simp only [AL,frV_cons,frV_nil,AW7,simprocAttr]
 refine Run.letgoK 2 [0,3,5,13,14,15,16,17,18] rfl ?_;simp only [AL,frV_cons,frV_nil,AW7,simprocAttr]
 refine Run.letgoK 3 [0,3,5,13,14,15,16,17,18] rfl ?_;simp only [AL,frV_cons,frV_nil,AW7,simprocAttr]
 refine Run.reK hpin [0,3,5,13,14,15,16,17,18] [] (by decide) (by simp) ?_;simp only [AR,AW7,simprocAttr]
 have rx:=rightX_le c s w
 have ry:=rightY_le c s w
 have h2:(rightX c s w == rightX c s w)=true:=by simp
 have h3:(rightY c s w == rightY c s w)=true:=by simp
 apply joinK (σ':=⟨296,[(0,true,.v (.sl false .byte code))],[]⟩)
 case h=>
  intro rest
  cases hL:leftB c s w with
  | false=>
   refine Run.nq ?_;refine Run.regionW hC (fun K hK=>?_);refine wW ?_
   refine .inr ⟨rfl,?_⟩
   refine FunA.cW hP hT (c_sameInts (rightX c s w) (rightX c s w) (by omega)) ?_
   rintro rs o ⟨rfl,rfl⟩
   rw [h2]
   refine wW ?_
   refine .inr ⟨rfl,?_⟩
   refine FunA.cW hP hT (c_sameInts (rightY c s w) (rightY c s w) (by omega)) ?_
   rintro rs o ⟨rfl,rfl⟩
   rw [h3]
   refine wW ?_
   refine .inl (CallG.off (.sl false .int []) ?_)
   refine wW ?_
   refine .inl (CallG.off (.bool false) ?_)
   refine wW ?_
   refine wE ?_;clear hK K
   refine Run.nq ?_;refine Run.cW ?_ ?_
   ·intro h;exact absurd h (by simp)
   intro _
   refine Run.reK hpin [0] [] (by decide) (by simp) ?_;simp only [AR,AW7,simprocAttr]
   refine Run.nq ?_
   exact rest
  | true=>
   obtain⟨f1,f2,f3,f4⟩:=right_facts hL
   obtain⟨hW,hS⟩:=leftB_iff.1 hL
   have e2:=same_of hW (letters_append.2 ⟨f1,f2⟩) f3 f4
   refine Run.nq ?_;refine Run.regionW hC (fun K hK=>?_);refine wW ?_
   refine .inr ⟨rfl,?_⟩
   refine FunA.cW hP hT (c_sameInts (rightX c s w) (rightX c s w) (by omega)) ?_
   rintro rs o ⟨rfl,rfl⟩
   rw [h2]
   refine wW ?_
   refine .inr ⟨rfl,?_⟩
   refine FunA.cW hP hT (c_sameInts (rightY c s w) (rightY c s w) (by omega)) ?_
   rintro rs o ⟨rfl,rfl⟩
   rw [h3]
   refine wW ?_
   refine .inr ⟨rfl,?_⟩
   refine FunA.cW hP hT (c_spec_ConcatWords (rightX c s w) (rightY c s w) (by omega) (by omega)) ?_
   rintro rs o ⟨rfl,rfl⟩
   refine wW ?_
   refine .inr ⟨rfl,?_⟩
   refine FunA.cW hP hT (c_impl_AreSame c (rightX c s w ++ rightY c s w) w (by omega)) ?_
   rintro rs o ⟨rfl,rfl⟩
   rw [e2]
   refine wW ?_
   refine wE ?_;clear hK K
   refine Run.nq ?_;refine Run.cW ?_ ?_
   ·intro h;exact absurd h (by simp)
   intro _
   refine Run.reK hpin [0] [] (by decide) (by simp) ?_;simp only [AR,AW7,simprocAttr]
   refine Run.nq ?_
   exact rest
 refine Run.nq ?_;refine Run.regionW hC (fun K hK=>?_);refine wW ?_
 refine FunA.cW hP hT (c_DrawCosetLeaders code hcl) ?_
 rintro rs o ⟨d,f,⟨d1,d2⟩,hf,rfl,rfl⟩
 refine wW ?_
 refine wE ?_;clear hK K
 refine Run.reK hpin [0,19,20] [] (by decide) (by simp) ?_;simp only [AR,AW7,simprocAttr]
 have l1:=clX_len d f
 have l2:=clX_rows d f
 have h1:(clB d f != clB d f)=false:=by simp
 have h2:(clX d f == clX d f)=true:=by simp
 refine Run.nq ?_;refine Run.regionW hC (fun K hK=>?_);refine wW ?_
 refine FunA.cW hPJ hTJ (c_impl_CosetLeaders d f (by omega)) ?_
 rintro rs o ⟨rfl,q1,_,rfl⟩
 refine wW ?_
 refine wE ?_;clear hK K
 refine Run.nq ?_;refine Run.regionW hC (fun K hK=>?_);refine wW ?_
 refine FunA.cW hP hT (c_spec_CosetLeaders d f (by omega)) ?_
 rintro rs o ⟨rfl,q2,_,rfl⟩
 refine wW ?_
 refine wE ?_;clear hK K
 refine Run.reK hpin [0,19,20,21,22,23,24] [0,1] (by decide) (by simp) ?_;simp only [AR,AW7,simprocAttr]
 refine Run.nq ?_;refine Run.regionW hC (fun K hK=>?_);refine wW ?_
 rw [h1]
 simp only [AW7,simprocAttr,hX]
 refine .inr ⟨rfl,?_⟩
 refine FunA.callW hP hT (c_sameWords (clX d f) (clX d f) (by omega) (fun r hr=>by have:=l2 r hr;omega)) (by simp only [AW7,simprocAttr];first | done | exact⟨⟨rfl,rfl⟩,rfl,rfl⟩ | simp [argO,convV]) ?_
 rintro rs o ⟨rfl,rfl⟩
 rw [h2]
 refine wW ?_
 refine wE ?_;clear hK K
 refine Run.nq ?_;refine Run.cW ?_ ?_
 ·intro h;exact absurd h (by simp)
 intro _
 refine Run.reK hpin [0,19,20,21,22] [0] (by decide) (by simp) ?_;simp only [AR,AW7,simprocAttr]
 apply joinK (σ':=⟨296,[(0,true,.v (.sl false .byte code))],[]⟩)
 case h=>
  intro rest
  by_cases hx:clB d f=true∧f≠[]
  ·obtain⟨hB,hne⟩:=hx
   have hBl:(clB d f && decide (0 < (f.length:Int)))=true:=by
    rw [hB];simp;exact List.length_pos_iff.2 hne
   have h0:=hB
   simp only [clB,Bool.and_eq_true]at h0
   have hS:=setP_of h0.2
   obtain⟨hF,_⟩:=elsB_fin h0.1 (by omega)
   have hsz:=cos_size hB hne
   obtain⟨b1,b2,b3,b4,b5⟩:=elsB_fin h0.1 (by omega)
   have hpos:0 < f.length:=List.length_pos_iff.2 hne
   rw [hB]
   refine Run.R ?_
   refine Run.nq ?_;refine Run.cW ?_ ?_
   rotate_left
   ·intro h
    have h:¬0 < f.length:=by simpa using h
    exact absurd hpos h
   intro _
   refine Run.reK hpin [0,19,20,21] [0] (by decide) (by simp) ?_;simp only [AR,AW7,simprocAttr]
   refine Run.nq ?_;refine Run.regionW hC (fun K hK=>?_);refine wW ?_
   refine FunA.cW hP hT (c_spec_SubCartan d f hF.1 hS hne) ?_
   rintro rs o ⟨rfl,ys,hys,rfl⟩
   refine wW ?_
   refine wE ?_;clear hK K
   have hsz2:(((clX d f).length:Int)*sizeE (pick d f) != sizeE d)=false:=by rw [hsz];simp
   refine Run.nq ?_;refine Run.regionW hC (fun K hK=>?_);refine wW ?_
   refine FunA.callW hP hT (c_spec_SizeOf (pick d f)) (by simp only [AW7,simprocAttr];first | done | exact⟨rfl,hys.symm⟩ | exact hys.symm | simp [argO,convV,hys]) ?_
   rintro rs o ⟨rfl,rfl⟩
   refine wW ?_
   rw [wrap_id (n:=((clX d f).length:Int)*sizeE (pick d f)) (by rw [hsz];omega)]
   refine FunA.cW hP hT (c_spec_SizeOf d) ?_
   rintro rs o ⟨rfl,rfl⟩
   refine wW ?_
   rw [hsz2]
   refine wW ?_
   refine wE ?_;clear hK K
   refine Run.nq ?_;refine Run.cW ?_ ?_
   ·intro h;exact absurd h (by simp)
   intro _
   refine Run.reK hpin [0] [] (by decide) (by simp) ?_;simp only [AR,AW7,simprocAttr]
   refine Run.nq ?_
   exact rest
  refine Run.R ?_
  refine Run.nq ?_;refine Run.cW ?_ ?_
  ·intro h
   exfalso
   refine hx ⟨?_,fun h0=>?_⟩
   ·revert h;cases clB d f<;>simp
   ·rw [h0]at h;simp at h
  intro _
  refine Run.reK hpin [0] [] (by decide) (by simp) ?_;simp only [AR,AW7,simprocAttr]
  refine Run.nq ?_
  exact rest
 refine Run.nq ?_;refine Run.regionW hC (fun K hK=>?_);refine wW ?_
 refine FunA.cW hP hT (c_DrawDoubleMinimal code hcl) ?_
 rintro rs o ⟨e,g,u,h,⟨e1,e2⟩,hg,hu,hh,rfl,rfl⟩
 rw [resSl_four]
 refine wW ?_
 refine wE ?_;clear hK K
 refine Run.reK hpin [0,27,28,29,30] [] (by decide) (by simp) ?_;simp only [AR,AW7,simprocAttr]
 refine Run.nq ?_;refine Run.regionW hC (fun K hK=>?_);refine wW ?_
 refine FunA.cW hP hT (c_impl_DoubleMinimal e g u h (by omega)) ?_
 rintro rs o ⟨rfl,rfl⟩
 refine wW ?_
 refine wE ?_;clear hK K
 refine Run.nq ?_;refine Run.regionW hC (fun K hK=>?_);refine wW ?_
 refine FunA.cW hP hT (c_spec_DoubleMinimal e g u h (by omega)) ?_
 rintro rs o ⟨rfl,rfl⟩
 refine wW ?_
 refine wE ?_;clear hK K
 refine Run.reK hpin [0,31,32,33,34] [0,1] (by decide) (by simp) ?_;simp only [AR,AW7,simprocAttr]
 refine Run.letgoK 0 [0,31,32,33,34] rfl ?_;simp only [AL,frV_cons,frV_nil,AW7,simprocAttr]
 refine Run.letgoK 1 [0,31,32,33,34] rfl ?_;simp only [AL,frV_cons,frV_nil,AW7,simprocAttr]
 refine Run.reK hpin [0,31,32,33,34] [] (by decide) (by simp) ?_;simp only [AR,AW7,simprocAttr]
 refine Run.nq ?_;refine Run.regionW hC (fun K hK=>?_);refine wW ?_
 refine FunA.cW hP hT (c_DrawLongestOf code hcl) ?_
 rintro rs o ⟨i,j,⟨i1,i2⟩,hj,rfl,rfl⟩
 refine wW ?_
 refine wE ?_;clear hK K
 refine Run.reK hpin [0,31,32,33,34,35,36] [] (by decide) (by simp) ?_;simp only [AR,AW7,simprocAttr]
 refine Run.nq ?_;refine Run.regionW hC (fun K hK=>?_);refine wW ?_
 refine FunA.cW hP hT (c_impl_LongestOf i j (by omega)) ?_
 rintro rs o ⟨rfl,rfl⟩
 refine wW ?_
 refine wE ?_;clear hK K
 refine Run.nq ?_;refine Run.regionW hC (fun K hK=>?_);refine wW ?_
 refine FunA.cW hP hT (c_spec_LongestOf i j (by omega)) ?_
 rintro rs o ⟨rfl,rfl⟩
 refine wW ?_
 refine wE ?_;clear hK K
 refine Run.reK hpin [0,31,32,33,34,37,38,39,40] [0,1] (by decide) (by simp) ?_;simp only [AR,AW7,simprocAttr]
 refine Run.letgoK 0 [0,31,32,33,34,37,38,39,40] rfl ?_;simp only [AL,frV_cons,frV_nil,AW7,simprocAttr]
 refine Run.letgoK 1 [0,31,32,33,34,37,38,39,40] rfl ?_;simp only [AL,frV_cons,frV_nil,AW7,simprocAttr]
 refine Run.reK hpin [0,31,32,33,34,37,38,39,40] [] (by decide) (by simp) ?_;simp only [AR,AW7,simprocAttr]
 refine Run.nq ?_;refine Run.regionW hC (fun K hK=>?_);refine wW ?_
 refine FunA.cW hP hT (c_DrawIsInParabolic code hcl) ?_
 rintro rs o ⟨p,t,x,⟨p1,p2⟩,ht,hx,rfl,rfl⟩
 refine wW ?_
 refine wE ?_;clear hK K
 refine Run.reK hpin [31,32,33,34,37,38,39,40,41,42,43] [] (by decide) (by simp) ?_;simp only [AR,AW7,simprocAttr]
 have m1:=dblM_le e g u h
 have m2:=lonO_le i j
 have k1:(dblB e g u h == dblB e g u h)=true:=by simp
 have k2:(dblM e g u h == dblM e g u h)=true:=by simp
 have k3:(lonOB i j == lonOB i j)=true:=by simp
 have k4:(lonO i j == lonO i j)=true:=by simp
 have k5:(parB p t x == parB p t x)=true:=by simp
 refine Run.nq ?_;refine Run.regionW hC (fun K hK=>?_);refine wW ?_
 try rw [k1]
 try simp only [AW7,simprocAttr,hX]
 refine .inr ⟨rfl,?_⟩
 refine FunA.cW hP hT (c_sameInts (dblM e g u h) (dblM e g u h) (by omega)) ?_
 rintro rs o ⟨rfl,rfl⟩
 rw [k2]
 refine wW ?_
 try rw [k3]
 try simp only [AW7,simprocAttr,hX]
 refine .inr ⟨rfl,?_⟩
 refine FunA.cW hP hT (c_sameInts (lonO i j) (lonO i j) (by omega)) ?_
 rintro rs o ⟨rfl,rfl⟩
 rw [k4]
 refine wW ?_
 refine .inr ⟨rfl,?_⟩
 refine FunA.cW hP hT (c_impl_IsInParabolic p t x (by omega)) ?_
 rintro rs o ⟨rfl,rfl⟩
 refine wW ?_
 refine .inr ⟨rfl,?_⟩
 refine FunA.cW hP hT (c_spec_IsInParabolic p t x (by omega)) ?_
 rintro rs o ⟨rfl,rfl⟩
 try rw [k5]
 refine wW ?_
 refine wE ?_;clear hK K
 refine Run.rW [2] (hfin _ _ rfl rfl ?_)
 rfl
end Go.Proofs.YtcinngodeoidnaaGreatDoor
namespace Go.Proofs.YtcinngodeoidnaaGreatDoor
open Go Go.Aw
theorem maxGl:Tryz.prog.globalNamed maxN=some (spltL_ren.g 1):=by kernel_rfl
theorem laidS {W:World} (hS:W.ShapedOpen Tryz.prog):Laid Tryz.prog W (fun _=>False):=
 ⟨fun g hg=>(nomatch ((show Tryz.prog.globalNamed tabN=none by kernel_rfl).symm.trans hg)),fun g hg=>⟨fun k=>k,by
  rw [← Option.some.inj (maxGl.symm.trans hg)]
  exact cell_of_shapedOpen_int (zero:=#[.int .i64 0]) (t:=3) hS (of_decide_eq_true (by kernel_rfl)) (by kernel_rfl) (by kernel_rfl) (by kernel_rfl) (by kernel_rfl) Tryz.underlying3⟩⟩
end Go.Proofs.YtcinngodeoidnaaGreatDoor
namespace Go
variable {H:Type} {enc:TypeId×Value→H}
theorem handed_and_shaped {a:Assume} {C:Checked} {os:Os} {f:FuncId} {fn:Func} {s:ChangeSpec} {conds:List PathCond} {apart fresh handsOn again:Bool} {X:World→Array Value→Prop}
  (hX:∀(w w':World) (args:Array Value),w.heap=w'.heap→X w args→X w' args)
  (own:ownKnob C.prog.godebug=none) (started:os.Started) (noInit:C.prog.inits.idxOf? f=none) (hfn:C.prog.funcs[f]? = some fn)
  (witness:∃(w:World) (tape:Tape) (i:Input),w.os=os∧(w.forCall tape i).Shaped C.prog∧i.vars=[]∧Input.okWide C.prog (w.forCall tape i) .any w.heap.size f i ∧
   ((s.pre enc C.prog fn conds apart (w.forCall tape i).memory i.args∧X (w.forCall tape i).memory i.args)∧sizedMet enc C.prog fn (OpenSpec.ofChange s) apart (w.forCall tape i).memory i.args)∧a.holds C.prog (lone (Frame.enter C.prog f i.args .normal) [] (w.forCall tape i)))
  (contract:∀(W:World) (base:Nat) (args:Array Value) (ds gs:List (DataW H)) (before:List MemPlace),
   (∀(j:Nat) t v,fn.params[j]? = some t→args[j]? = some v→Value.okWide C.prog W .any base t v) →
   DataW.Whole enc C.prog fn.params.toList s.vars apart W args.toList ds gs before →
   conds.all (PathCond.test C.prog ⟨fn.params.toList,ds,s.plain.varTypes C.prog,gs⟩)=true →
   (DataW.weightsEach C.prog (fn.params.toList ++ s.plain.varTypes C.prog) (ds ++ gs)).all (·≤reachBytes)=true→X W args→W.ShapedOpen C.prog →
   a.holds C.prog (lone (Frame.enter C.prog f args .normal) [] W) →
   Calls C.prog f args W fun e W'=>∃ v,e=.returned v∧s.post enc C.prog fn apart fresh handsOn again W args v W') :
  ReturnsInHanded a C os f .any (fun w args=>(s.pre enc C.prog fn conds apart w args∧X w args)∧sizedMet enc C.prog fn (OpenSpec.ofChange s) apart w args) (s.post enc C.prog fn apart fresh handsOn again):=by
 refine returnsInHanded_of_calls own started noInit witness ?_
 intro w tape i _ hsh _ hok hpre hholds
 obtain⟨_,_,_,fn',hfn',_,_,_,_,hval⟩:=hok
 have e:fn'=fn:=Option.some.inj (hfn'.symm.trans hfn)
 subst e
 obtain⟨⟨⟨ds,gs,before,hw,hc⟩,hx⟩,hz⟩:=hpre
 have hw':=DataW.Whole.of_heap (w':=w.forCall tape i) (by rfl) hw
 refine(contract (w.forCall tape i) w.heap.size i.args ds gs before hval hw' hc (hz.weights hw) (hX _ _ _ (by rfl) hx) hsh hholds).mono fun e W' ⟨v,he,hp⟩=>?_
 subst he
 exact ChangeSpec.post_blind hp
end Go
