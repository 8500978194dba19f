/- Parts at the front and at the end of an element. -/
import Derived.Test.YtcinngodeoidnaaGreatDoorB12
set_option linter.unusedVariables false
set_option linter.unusedSimpArgs false
namespace Go.Proofs.YtcinngodeoidnaaGreatDoor
open Go Go.Aw Go.Cox
theorem Run.join {C:Ctx} {i j:Item} {k:List Item} {σ:St} (σ':St) (h1:Run C k σ') (h2:Run C k σ'→Run C (i :: j :: k) σ):Run C (i :: j :: k) σ:=h2 h1
theorem firstIn_at (v:List Int):∀(s:List Int) (i:Nat),i < s.length→(∀ j,j < i→0≤v.getD (s.getD j 0).toNat 0)→v.getD (s.getD i 0).toNat 0 < 0→firstIn v s=s.getD i 0
 | [],i,h,_,_=>by simp at h
 | x :: s,0,_,_,h=>by
  simp only [List.getD_cons_zero]at h
  simp only [firstIn,List.getD_cons_zero]
  rw [if_pos h]
 | x :: s,i+1,hi,hp,h=>by
  have h0:=hp 0 (by omega)
  simp only [List.getD_cons_zero]at h0
  simp only [List.getD_cons_succ]at h ⊢
  simp only [firstIn]
  rw [if_neg (by omega)]
  exact firstIn_at v s i (by simpa using hi) (fun j hj=>by have:=hp (j+1) (by omega);simpa only [List.getD_cons_succ] using this) h
theorem firstIn_none (v:List Int):∀(s:List Int),(∀ j,j < s.length→0≤v.getD (s.getD j 0).toNat 0)→firstIn v s = -1
 | [],_=>rfl
 | x :: s,hp=>by
  have h0:=hp 0 (by simp)
  simp only [List.getD_cons_zero]at h0
  simp only [firstIn]
  rw [if_neg (by omega)]
  exact firstIn_none v s (fun j hj=>by have:=hp (j+1) (by simpa using hj);simpa only [List.getD_cons_succ] using this)
theorem lp_stop {c:List (List Int)} {s v:List Int} (h:firstIn v s < 0) (f:Nat):lpL c s f v=([],v):=by
 cases f with
 | zero=>rfl
 | succ f=>simp only [lpL];rw [if_pos h]
theorem lp_step {c:List (List Int)} {s v:List Int} (h:¬firstIn v s < 0) (f:Nat):lpL c s (f+1) v=(firstIn v s :: (lpL c s f (reflL c (firstIn v s) v)).1,(lpL c s f (reflL c (firstIn v s) v)).2):=by
 simp only [lpL];rw [if_neg h]
structure LP (c:List (List Int)) (s v0:List Int) (L:Nat) (a v:List Int):Prop where
 far:Far c (L - a.length) v
 le:a.length≤L
 let_:letters c.length a
 eq:lpL c s 31 v0=(a ++ (lpL c s (31 - a.length) v).1,(lpL c s (31 - a.length) v).2)
theorem LP.start {c:List (List Int)} {s v0:List Int} {L:Nat} (h:Far c L v0):LP c s v0 L [] v0:=⟨h,Nat.zero_le _,letters_nil _,rfl⟩
theorem LP.stop {c:List (List Int)} {s v0 a v:List Int} {L:Nat} (h:LP c s v0 L a v) (k:firstIn v s < 0):lpL c s 31 v0=(a,v):=by
 rw [h.eq,lp_stop k];simp
theorem LP.step {c:List (List Int)} (hc:CartanP c) {s v0 a v:List Int} {L:Nat} (hs:letters c.length s) (hL:L≤31) (h:LP c s v0 L a v) (k:¬firstIn v s < 0) :
  LP c s v0 L (a ++ [firstIn v s]) (reflL c (firstIn v s) v)∧a.length < L∧(0≤firstIn v s∧firstIn v s < c.length):=by
 rcases firstIn_spec v s hs with⟨h1,_⟩ | ⟨h1,h2,_,h4⟩
 ·omega
 ·obtain⟨M,m1,m2⟩:=h.far.down hc ⟨h1,h2⟩ h4
  have hle:=h.le
  refine⟨⟨?_,by simp;omega,letters_append.2 ⟨h.let_,letters_cons.2 ⟨⟨h1,h2⟩,letters_nil _⟩⟩,?_⟩,by omega,h1,h2⟩
  ·rw [show L - (a ++ [firstIn v s]).length=M by simp;omega];exact m2
  ·rw [h.eq,show 31 - a.length=(31 - (a ++ [firstIn v s]).length)+1 by simp;omega,lp_step k]
   simp
theorem far_bd {c:List (List Int)} (hc:CartanP c) {M:Nat} {v:List Int} (h:Far c M v) (hM:M≤31):Bd 9223372036854775807 v:=by
 obtain⟨k1,k2,k3⟩:=nfL_far hc 31 M h hM
 rw [← k3]
 exact(image_bd hc k2 (by omega)).mono (by decide)
theorem c_impl_leftParts (c:List (List Int)) (s w:List Int) (hc:CartanP c) (hs:setP c.length s) (hw:letters c.length w) (hl:w.length≤31) :
  FunA B 57 [.sl false (.row false) c,.sl false .int s,.sl false .int w] (fun rs o=>rs=[.own 0 0,.own 1 0]∧o=[.arr .int (redL c (lpL c s 31 (imageL c w)).1) 0 true,.arr .int (nfL c 31 (lpL c s 31 (imageL c w)).2) 0 true]):=by
 obtain⟨L,h1,h2,h3⟩:=Far.image hc hw
 have hsl:=set_len hs
 have hn:=hc.2.1
 have hset:=set_letters hs
 refine FunA.walk B_ok (fn:=Tryz.f57) (fun vs w=>Tryz.call57 vs w) Tryz.func57 rfl (by rw [Tryz.ntmps57];simp) (fun C hC hP hT hΓ hbt hfn hpin hfin=>?_);have hX:=BX;rw [← hΓ,← hbt.1,← hbt.2.1,← hbt.2.2.1]at hX;rw [hT]at hX;rw [Tryz.ntmps57];simp only [AW7,simprocAttr,hX]
 refine Run.R ?_
 refine Run.nq ?_;refine Run.regionW hC (fun K hK=>?_);refine wW ?_
 refine FunA.cW hP hT (c_impl_image c w hc hw hl) ?_
 rintro rs o ⟨rfl,rfl⟩
 refine wW ?_
 refine wE ?_;clear hK K
 refine Run.R ?_
 refine Run.loopI (X:=List Int×List Int×Nat) (fun x=>⟨46,[(0,true,.v (.sl false (.row false) c)),(1,true,.v (.sl false .int s)),(6,true,.v .nils),(7,true,.v .nils),(8,true,.v (.own 0 0)),(9,true,.v (.own 1 x.2.2))],[.arr .int x.2.1 0 true,.arr .int x.1 x.2.2 true]⟩) (fun x=>LP c s (imageL c w) L x.1 x.2.1) (fun x=>L - x.1.length) ([],imageL c w,0) (LP.start h3) ?_ ?_
 ·exact Le.sub (by rfl) (by simp only [AW7,simprocAttr,hX];try simp)
 rintro⟨a,v,g⟩ hLP ih
 simp only []at hLP ⊢
 have hvl:v.length=c.length:=hLP.far.1
 have hal:=hLP.le
 refine Run.R ?_
 refine Run.R ?_
 refine Run.keep [0,1,6,7,8,9,10,17,18,19] ?_;simp only [AK,Nat.reduceBEq]
 refine Run.join ⟨46,[(0,true,.v (.sl false (.row false) c)),(1,true,.v (.sl false .int s)),(6,true,.v .nils),(7,true,.v .nils),(8,true,.v (.own 0 0)),(9,true,.v (.own 1 g)),(10,true,.v (.int .i64 (firstIn v s)))],[.arr .int v 0 true,.arr .int a g true]⟩ ?_ (fun cont=>?_)
 ·refine Run.R ?_
  refine Run.nq ?_;refine Run.cW ?_ ?_
  ·intro h
   have h:firstIn v s < 0:=by simpa using h
   have hst:=hLP.stop h
   refine Run.nq ?_;refine Run.regionW hC (fun K hK=>?_);refine wW ?_
   refine FunA.cW hP hT (c_impl_reduced c a hc hLP.let_ (by omega)) ?_
   rintro rs o ⟨rfl,rfl⟩
   refine wW ?_
   refine FunA.cW hP hT (c_impl_normal c v (L - a.length) hc hLP.far (by omega)) ?_
   rintro rs o ⟨rfl,rfl⟩
   refine wW ?_
   refine wE ?_;clear hK K
   refine Run.le (Le.re (obs':=[.arr .int (redL c a) 0 true,.arr .int (nfL c 31 v) 0 true]) hpin [2,3] [(6,true,.own 0 0),(7,true,.own 1 0)] rfl (by simp [leOs,leO_arr,oAt]) (by refine⟨⟨_,rfl,?_⟩,⟨_,rfl,?_⟩,trivial⟩<;>simp [leAV,oAt,genO])) ?_;simp only [frV_cons,frV_nil]
   refine Run.rW [6,7] (hfin _ _ rfl rfl ?_)
   rw [hst]
   exact⟨rfl,rfl⟩
  ·intro h
   have h:¬firstIn v s < 0:=by simpa using h
   obtain⟨hLP2,hlt,hlet⟩:=hLP.step hc hset (by omega) h
   have hB':=far_bd hc hLP2.far (by omega)
   refine Run.R ?_
   refine Run.le (Le.cut0 hpin [_] (fr':=[(0,true,.v (.sl false (.row false) c)),(1,true,.v (.sl false .int s)),(6,true,.v .nils),(7,true,.v .nils),(8,true,.v (.own 0 0)),(9,true,.v (.own 1 (g+1))),(10,true,.v (.int .i64 (firstIn v s)))]) (obs':=[.arr .int v 0 true,.arr .int (a ++ [firstIn v s]) (g+1) true]) rfl (by simp only [AW7,simprocAttr];try simp) rfl) ?_
   refine Run.nq ?_;refine Run.regionW hC (fun K hK=>?_);refine wW ?_
   refine FunM.call hP hT (c_impl_reflected c (firstIn v s) v hc hvl hlet hB') 0 0 (by simp only [AW7,simprocAttr];rfl) (by simp) rfl (by simp only [AW7,simprocAttr];try simp) ?_
   rintro rs o' obs' ⟨rfl,h4⟩
   obtain⟨rfl,rfl⟩:=List.cons.inj h4
   refine wW ?_
   refine wE ?_;clear hK K
   refine Run.le ?_ (ih (a ++ [firstIn v s],reflL c (firstIn v s) v,g+1) hLP2 (by simp;omega))
   exact Le.sub (by rfl) (by simp only [AW7,simprocAttr];try simp)
 ·refine Run.loopI (X:=Nat) (fun i=>⟨46,[(0,true,.v (.sl false (.row false) c)),(1,true,.v (.sl false .int s)),(6,true,.v .nils),(7,true,.v .nils),(8,true,.v (.own 0 0)),(9,true,.v (.own 1 g)),(10,true,.v (.int .i64 (-1))),(17,true,.v (.sl false .int s)),(18,true,.v (.int .i64 s.length)),(19,true,.v (.int .i64 i))],[.arr .int v 0 true,.arr .int a g true]⟩) (fun i=>i≤s.length∧∀ j,j < i→0≤v.getD (s.getD j 0).toNat 0) (fun i=>s.length - i) 0 ⟨Nat.zero_le _,by omega⟩ ?_ ?_
  ·exact Le.sub (by rfl) (by simp only [AW7,simprocAttr,hX];try simp)
  rintro i ⟨hi,hp⟩ ihs
  refine Run.R ?_
  refine Run.nq ?_;refine Run.cW ?_ ?_
  ·intro h
   have h:i < s.length:=by simpa using h
   have hlet:=letters_getD.1 hset i h
   refine Run.R ?_
   refine Run.R ?_
   refine Run.nq ?_;refine Run.cW ?_ ?_
   ·intro hx
    have hx:v.getD (s.getD i 0).toNat 0 < 0:=by simpa using hx
    refine Run.R ?_
    refine Run.exit rfl ?_
    refine Run.le ?_ cont
    refine Le.sub (by rfl) ?_
    rw [firstIn_at v s i h hp hx]
    simp only [AW7,simprocAttr];try simp
   ·intro hx
    have hx:¬v.getD (s.getD i 0).toNat 0 < 0:=by simpa using hx
    refine Run.RW ?_
    refine Run.le ?_ (ihs (i+1) ⟨h,fun j hj=>?_⟩ (by omega))
    ·exact Le.sub (by simp only [AW7,simprocAttr]) (by simp only [AW7,simprocAttr,Option.some.injEq,Prod.mk.injEq,Sl.v.injEq,AV.int.injEq,AV.own.injEq,AV.bool.injEq];try(repeat' apply And.intro);all_goals omega)
    ·rcases Nat.lt_succ_iff_lt_or_eq.1 hj with h | rfl
     ·exact hp j h
     ·omega
  ·intro h
   have h:i=s.length:=by simp at h;omega
   subst h
   refine Run.exit rfl ?_
   refine Run.le ?_ cont
   refine Le.sub (by rfl) ?_
   rw [firstIn_none v s hp]
   simp only [AW7,simprocAttr];try simp
noncomputable def leftB (c:List (List Int)) (s w:List Int):Bool:=wordB c w && isSetB c s
noncomputable def leftX (c:List (List Int)) (s w:List Int):List Int:=if leftB c s w then redL c (lpL c s 31 (imageL c w)).1 else []
noncomputable def leftY (c:List (List Int)) (s w:List Int):List Int:=if leftB c s w then nfL c 31 (lpL c s 31 (imageL c w)).2 else []
theorem lp_word {c:List (List Int)} (hc:CartanP c) {s w:List Int} (hs:setP c.length s) (hw:letters c.length w) (hl:w.length≤31) :
  letters c.length (lpL c s 31 (imageL c w)).1∧(lpL c s 31 (imageL c w)).1.length+(nfL c 31 (lpL c s 31 (imageL c w)).2).length≤w.length ∧
  Red c (nfL c 31 (lpL c s 31 (imageL c w)).2)∧imageL c (nfL c 31 (lpL c s 31 (imageL c w)).2)=(lpL c s 31 (imageL c w)).2:=by
 obtain⟨L,h1,h2,h3⟩:=Far.image hc hw
 obtain⟨k1,k2,M,k3,k4,k5⟩:=lpL_far hc (set_letters hs) 31 L h3 (by omega)
 obtain⟨m1,m2,m3⟩:=nfL_far hc 31 M k4 (by omega)
 exact⟨k1,by omega,⟨m2,by rw [m1,m3];exact k4⟩,m3⟩
theorem leftX_le (c:List (List Int)) (s w:List Int):(leftX c s w).length≤15:=by
 unfold leftX
 split
 ·rename_i h
  simp only [leftB,Bool.and_eq_true]at h
  obtain⟨hc,h2,h3⟩:=wordB_iff.1 h.1
  have hs:setP c.length s:=by have:=h.2;unfold isSetB at this;simp only [Bool.and_eq_true]at this;exact setB_iff.1 this.2
  obtain⟨k1,k2,_⟩:=lp_word hc hs h3 (by omega)
  have:=(red_spec hc k1 (by omega)).2.1
  omega
 ·simp
theorem leftY_le (c:List (List Int)) (s w:List Int):(leftY c s w).length≤15:=by
 unfold leftY
 split
 ·rename_i h
  simp only [leftB,Bool.and_eq_true]at h
  obtain⟨hc,h2,h3⟩:=wordB_iff.1 h.1
  have hs:setP c.length s:=by have:=h.2;unfold isSetB at this;simp only [Bool.and_eq_true]at this;exact setB_iff.1 this.2
  obtain⟨k1,k2,_⟩:=lp_word hc hs h3 (by omega)
  omega
 ·simp
theorem c_impl_LeftParts (c:List (List Int)) (s w:List Int) (hcl:c.length≤1048576) :
  FunA B 7 [.sl false (.row false) c,.sl false .int s,.sl false .int w] (fun rs o=>rs=[.own 0 0,.own 1 0,.bool (leftB c s w)]∧o=[.arr .int (leftX c s w) 0 true,.arr .int (leftY c s w) 0 true]):=by
 refine FunA.walk B_ok (fn:=Tryz.f7) (fun vs w=>Tryz.call7 vs w) Tryz.func7 rfl (by rw [Tryz.ntmps7];simp) (fun C hC hP hT hΓ hbt hfn hpin hfin=>?_);have hX:=BX;rw [← hΓ,← hbt.1,← hbt.2.1,← hbt.2.2.1]at hX;rw [hT]at hX;rw [Tryz.ntmps7];simp only [AW7,simprocAttr,hX]
 refine Run.R ?_
 refine Run.nq ?_;refine Run.regionW hC (fun K hK=>?_);refine wW ?_
 refine FunA.cW hP hT (c_impl_IsWord c w) ?_
 rintro rs o ⟨rfl,rfl⟩
 refine wW ?_
 refine .inl (FunA.callG hP hT (c_impl_IsSet c s hcl) (fun _=>rfl) (fun _=>by simp only [AW7,simprocAttr]) ?_)
 refine wW ?_
 refine wE ?_;clear hK K
 refine Run.nq ?_;refine Run.cW ?_ ?_
 ·intro h
  have h:leftB c s w=false:=by
   revert h
   cases hw:wordB c w<;>cases hi:isSetB c s<;>simp [leftB,hw,hi]
  refine Run.R ?_
  refine Run.rW [6,7,8] (hfin _ _ rfl rfl ?_)
  simp [leftX,leftY,h]
 ·intro h
  have hw:wordB c w=true:=by revert h;cases hw:wordB c w<;>simp
  have hi:isSetB c s=true:=by revert h;cases hi:isSetB c s<;>simp [hw]
  have hb:leftB c s w=true:=by simp [leftB,hw,hi]
  obtain⟨hc,h2,h3⟩:=wordB_iff.1 hw
  have hs:setP c.length s:=by unfold isSetB at hi;simp only [Bool.and_eq_true]at hi;exact setB_iff.1 hi.2
  refine Run.nq ?_;refine Run.regionW hC (fun K hK=>?_);refine wW ?_
  refine FunA.cW hP hT (c_impl_leftParts c s w hc hs h3 (by omega)) ?_
  rintro rs o ⟨rfl,rfl⟩
  refine wW ?_
  refine wE ?_;clear hK K
  refine Run.R ?_
  refine Run.rW [6,7,8] (hfin _ _ rfl rfl ?_)
  simp [leftX,leftY,hb]
theorem nf_next {c:List (List Int)} (hc:CartanP c) {i:Int} {v:List Int} {M:Nat} (hv:Far c M v) (hM:M≤31) (hi:0≤i∧i < c.length) :
  redL c (i :: nfL c 31 v)=nfL c 31 (reflL c i v)∧letters c.length (i :: nfL c 31 v)∧(i :: nfL c 31 v).length=M+1:=by
 obtain⟨k1,k2,k3⟩:=nfL_far hc 31 M hv hM
 refine⟨?_,letters_cons.2 ⟨hi,k2⟩,by simp [k1]⟩
 show nfL c 31 (reflL c i (imageL c (nfL c 31 v)))=_
 rw [k3]
theorem c_spec_LeftParts (c:List (List Int)) (s w:List Int) (hcl:c.length≤1048576) :
  FunA B 8 [.sl false (.row false) c,.sl false .int s,.sl false .int w] (fun rs o=>rs=[.own 0 0,.own 1 0,.bool (leftB c s w)]∧o=[.arr .int (leftX c s w) 0 true,.arr .int (leftY c s w) 0 true]):=by
 refine FunA.walk B_ok (fn:=Tryz.f8) (fun vs w=>Tryz.call8 vs w) Tryz.func8 rfl (by rw [Tryz.ntmps8];simp) (fun C hC hP hT hΓ hbt hfn hpin hfin=>?_);have hX:=BX;rw [← hΓ,← hbt.1,← hbt.2.1,← hbt.2.2.1]at hX;rw [hT]at hX;rw [Tryz.ntmps8];simp only [AW7,simprocAttr,hX]
 refine Run.R ?_
 refine Run.nq ?_;refine Run.regionW hC (fun K hK=>?_);refine wW ?_
 refine FunA.cW hP hT (c_spec_NormalForm c w hcl) ?_
 rintro rs o ⟨rfl,rfl⟩
 refine wW ?_
 refine wE ?_;clear hK K
 refine Run.nq ?_;refine Run.regionW hC (fun K hK=>?_);refine wW ?_
 refine .inl (FunA.callG hP hT (c_spec_l3Set c s hcl) (fun _=>rfl) (fun _=>by simp only [AW7,simprocAttr]) ?_)
 refine wW ?_
 refine wE ?_;clear hK K
 refine Run.nq ?_;refine Run.cW ?_ ?_
 ·intro h
  have h:leftB c s w=false:=by
   revert h
   cases hw:wordB c w<;>cases hi:isSetB c s<;>simp [leftB,hw,hi]
  refine Run.R ?_
  refine Run.le (Le.re (obs':=[.arr .int [] 0 true,.arr .int [] 0 true]) hpin [1,2] [(6,true,.own 0 0),(7,true,.own 1 0),(8,true,.bool false)] rfl (by simp [leOs,leO_arr,oAt]) (by refine⟨⟨_,rfl,?_⟩,⟨_,rfl,?_⟩,⟨_,rfl,?_⟩,trivial⟩<;>simp [leAV,oAt,genO])) ?_;simp only [frV_cons,frV_nil]
  refine Run.rW [6,7,8] (hfin _ _ rfl rfl ?_)
  simp [leftX,leftY,h]
 ·intro h
  have hw:wordB c w=true:=by revert h;cases hw:wordB c w<;>simp
  have hi:isSetB c s=true:=by revert h;cases hi:isSetB c s<;>simp [hw]
  have hb:leftB c s w=true:=by simp [leftB,hw,hi]
  obtain⟨hc,h2,h3⟩:=wordB_iff.1 hw
  have hs:setP c.length s:=by unfold isSetB at hi;simp only [Bool.and_eq_true]at hi;exact setB_iff.1 hi.2
  have hset:=set_letters hs
  have hsl:=set_len hs
  have hn:=hc.2.1
  obtain⟨L,l1,l2,l3⟩:=Far.image hc h3
  have e1:nfW c w=nfL c 31 (imageL c w):=by unfold nfW;rw [if_pos hw];rfl
  rw [e1]
  refine Run.R ?_
  refine Run.R ?_
  refine Run.keep [0,1,6,7,8,9,11,12] ?_;simp only [AK,Nat.reduceBEq]
  refine Run.loopI (X:=List Int×List Int×Nat) (fun x=>⟨79,[(0,true,.v (.sl false (.row false) c)),(1,true,.v (.sl false .int s)),(6,true,.v .nils),(7,true,.v .nils),(8,true,.v (.bool false)),(9,true,.v (.own 0 0)),(11,true,.v (.own 1 x.2.2)),(12,true,.v (.int .i64 x.1.length))],[.arr .int (nfL c 31 x.2.1) 0 true,.arr .int x.1 x.2.2 true]⟩) (fun x=>LP c s (imageL c w) L x.1 x.2.1) (fun x=>L - x.1.length) ([],imageL c w,0) (LP.start l3) ?_ ?_
  ·exact Le.sub (by rfl) (by simp only [AW7,simprocAttr,hX];try simp)
  rintro⟨a,v,g⟩ hLP ih
  simp only []at hLP ⊢
  have hvl:v.length=c.length:=hLP.far.1
  have hal:=hLP.le
  obtain⟨q1,q2,q3⟩:=nfL_far hc 31 (L - a.length) hLP.far (by omega)
  refine Run.R ?_
  refine Run.nq ?_;refine Run.cW ?_ ?_
  ·intro h
   refine Run.R ?_
   refine Run.nq ?_;refine Run.regionW hC (fun K hK=>?_);refine wW ?_
   refine FunA.cW hP hT (c_spec_l8Image c (nfL c 31 v) hc q2 (by omega)) ?_
   rintro rs o ⟨rfl,rfl⟩
   refine wW ?_
   refine wE ?_;clear hK K
   rw [q3]
   refine Run.keep [0,1,6,7,8,9,11,12,13,14] ?_;simp only [AK,Nat.reduceBEq]
   refine Run.loopI (X:=Nat) (fun i=>⟨79,[(0,true,.v (.sl false (.row false) c)),(1,true,.v (.sl false .int s)),(6,true,.v .nils),(7,true,.v .nils),(8,true,.v (.bool false)),(9,true,.v (.own 0 0)),(11,true,.v (.own 1 g)),(12,true,.v (.int .i64 a.length)),(13,true,.v (.int .i64 i)),(14,true,.v (.own 2 0))],[.arr .int (nfL c 31 v) 0 true,.arr .int a g true,.arr .int v 0 true]⟩) (fun i=>i≤s.length∧∀ j,j < i→0≤v.getD (s.getD j 0).toNat 0) (fun i=>s.length - i) 0 ⟨Nat.zero_le _,by omega⟩ ?_ ?_
   ·exact Le.sub (by rfl) (by simp only [AW7,simprocAttr,hX];try simp)
   rintro i ⟨hi2,hp⟩ ihs
   have hlet:i < s.length→0≤s.getD i 0∧s.getD i 0 < c.length:=fun h=>letters_getD.1 hset i h
   refine Run.R ?_
   refine Run.keep [0,1,6,7,8,9,11,12,13,14,52] ?_;simp only [AK,Nat.reduceBEq]
   refine Run.nq ?_;refine Run.cW ?_ ?_
   ·intro h4
    have h4:i < s.length∧0 < v.getD (s.getD i 0).toNat 0:=by
     by_cases hq:i < s.length
     ·have hq':(i:Int) < s.length:=by omega
      simp only [hq',decide_true,cond_true,decide_eq_true_eq]at h4
      exact⟨hq,h4⟩
     ·have hq':¬(i:Int) < s.length:=by omega
      simp [hq']at h4
    refine Run.RW ?_
    refine Run.le ?_ (ihs (i+1) ⟨h4.1,fun j hj=>?_⟩ (by omega))
    ·exact Le.sub (by simp only [AW7,simprocAttr]) (by simp only [AW7,simprocAttr,Option.some.injEq,Prod.mk.injEq,Sl.v.injEq,AV.int.injEq,AV.own.injEq,AV.bool.injEq];try(repeat' apply And.intro);all_goals omega)
    ·rcases Nat.lt_succ_iff_lt_or_eq.1 hj with h | rfl
     ·exact hp j h
     ·omega
   ·intro h4
    refine Run.exit rfl ?_;refine Run.nq ?_
    refine Run.R ?_
    refine Run.keep [0,1,6,7,8,9,11,12,13,14,58] ?_;simp only [AK,Nat.reduceBEq]
    refine Run.nq ?_;refine Run.cW ?_ ?_
    ·intro h5
     have h5:i=s.length:=by simp at h5;omega
     subst h5
     have hst:=hLP.stop (by rw [firstIn_none v s hp];decide)
     refine Run.exit rfl ?_;refine Run.nq ?_
     refine Run.nq ?_;refine Run.regionW hC (fun K hK=>?_);refine wW ?_
     refine FunA.cW hP hT (c_spec_l8Normal c a hc hLP.let_ (by omega)) ?_
     rintro rs o ⟨rfl,rfl⟩
     refine wW ?_
     refine wE ?_;clear hK K
     refine Run.le (Le.re (obs':=[.arr .int (redL c a) 0 true,.arr .int (nfL c 31 v) 0 true]) hpin [3,0] [(6,true,.own 0 0),(7,true,.own 1 0),(8,true,.bool true)] rfl (by simp [leOs,leO_arr,oAt]) (by refine⟨⟨_,rfl,?_⟩,⟨_,rfl,?_⟩,⟨_,rfl,?_⟩,trivial⟩<;>simp [leAV,oAt,genO])) ?_;simp only [frV_cons,frV_nil]
     refine Run.rW [6,7,8] (hfin _ _ rfl rfl ?_)
     simp [leftX,leftY,hb,hst]
    ·intro h5
     have h5:i < s.length:=by
      have:¬i=s.length:=by intro hk;subst hk;simp at h5
      omega
     have hlt:=hlet h5
     have hnp:v.getD (s.getD i 0).toNat 0 < 0:=by
      have hz:=hLP.far.nz hc (s.getD i 0).toNat (by omega)
      have hq':(i:Int) < s.length:=by omega
      simp only [hq',decide_true,cond_true,decide_eq_false_iff_not]at h4
      omega
     have hfi:=firstIn_at v s i h5 hp hnp
     obtain⟨hLP2,hlt2,_⟩:=hLP.step hc hset (by omega) (by rw [hfi];omega)
     rw [hfi]at hLP2
     obtain⟨n1,n2,n3⟩:=nf_next hc hLP.far (by omega) hlt
     refine Run.R ?_
     refine Run.nq ?_;refine Run.regionW hC (fun K hK=>?_);refine wW ?_
     refine FunA.cW hP hT (c_spec_ConcatWords [s.getD i 0] (nfL c 31 v) (by simp) (by omega)) ?_
     rintro rs o ⟨rfl,rfl⟩
     refine wW ?_
     rw [show([s.getD i 0] ++ nfL c 31 v)=s.getD i 0 :: nfL c 31 v from rfl]
     refine FunA.cW hP hT (c_spec_l8Normal c (s.getD i 0 :: nfL c 31 v) hc n2 (by omega)) ?_
     rintro rs o ⟨rfl,rfl⟩
     rw [n1]
     refine wW ?_
     refine wE ?_;clear hK K
     refine Run.le (Le.re (obs':=[.arr .int (nfL c 31 (reflL c (s.getD i 0) v)) 0 true,.arr .int (a ++ [s.getD i 0]) (g+1) true]) hpin [6,1] [(0,true,.sl false (.row false) c),(1,true,.sl false .int s),(6,true,.nils),(7,true,.nils),(8,true,.bool false),(9,true,.own 0 0),(11,true,.own 1 (g+1)),(12,true,.int .i64 a.length)] rfl (by simp [leOs,leO_arr,oAt]) (by refine⟨⟨_,rfl,?_⟩,⟨_,rfl,?_⟩,⟨_,rfl,?_⟩,⟨_,rfl,?_⟩,⟨_,rfl,?_⟩,⟨_,rfl,?_⟩,⟨_,rfl,?_⟩,⟨_,rfl,?_⟩,trivial⟩<;>simp [leAV,oAt,genO])) ?_;simp only [frV_cons,frV_nil]
     refine Run.RW ?_
     refine Run.le ?_ (ih (a ++ [s.getD i 0],reflL c (s.getD i 0) v,g+1) hLP2 (by simp;omega))
     exact Le.sub (by rfl) (by simp only [AW7,simprocAttr];try simp)
  ·intro h
   simp at h
   omega
end Go.Proofs.YtcinngodeoidnaaGreatDoor
namespace Go.Proofs.YtcinngodeoidnaaGreatDoor
open Go Go.Aw Go.Cox
theorem sgn_nonneg {r:List Int} (h:sgnR r=1):∀ x∈r,0≤x:=by
 intro x hx
 have h1:=(sgnR_one.1 h).2
 unfold negA at h1
 rw [List.any_eq_false]at h1
 have:=h1 x hx
 simp at this
 exact this
theorem hgt_nonneg:∀ {r:List Int},(∀ x∈r,0≤x)→0≤hgt r∧∀ x∈r,x≤hgt r
 | [],_=>by simp [hgt]
 | y :: r,h=>by
  obtain⟨h1,h2⟩:=hgt_nonneg (r:=r) fun x hx=>h x (List.mem_cons_of_mem _ hx)
  have h0:=h y (by simp)
  refine⟨by simp only [hgt];omega,fun x hx=>?_⟩
  simp only [hgt]
  rcases List.mem_cons.1 hx with rfl | hx
  ·omega
  ·have:=h2 x hx;omega
theorem simL_len (n i:Nat):(simL n i).length=n:=by simp [simL]
structure Dn (c:List (List Int)) (r:List Int):Prop where
 len:r.length=c.length
 sgn:sgnR r=1
 hgt:hgt r≤4000
theorem Dn.bnd {c:List (List Int)} {r:List Int} (h:Dn c r):Bnd 4000 r:=fun x hx=>by
 have h1:=sgn_nonneg h.sgn
 have:=h1 x hx
 have:=(hgt_nonneg h1).2 x hx
 have:=h.hgt
 omega
end Go.Proofs.YtcinngodeoidnaaGreatDoor
namespace Go.Proofs.YtcinngodeoidnaaGreatDoor
open Go Go.Aw Go.Cox
end Go.Proofs.YtcinngodeoidnaaGreatDoor
namespace Go.Proofs.YtcinngodeoidnaaGreatDoor
open Go Go.Aw Go.Cox
end Go.Proofs.YtcinngodeoidnaaGreatDoor
namespace Go.Proofs.YtcinngodeoidnaaGreatDoor
open Go Go.Aw Go.Cox
def actR (c:List (List Int)) (w r:List Int):List Int:=w.foldr (mirL c) r
theorem actR_len (c:List (List Int)) (r:List Int):∀ w,(actR c w r).length=r.length
 | []=>rfl
 | i :: w=>by show(mirL c i (actR c w r)).length=_;rw [mir_len,actR_len c r w]
end Go.Proofs.YtcinngodeoidnaaGreatDoor
namespace Go.Proofs.YtcinngodeoidnaaGreatDoor
open Go Go.Aw Go.Cox
def lin (a:Int) (x:List Int) (b:Int) (y:List Int):List Int:=List.zipWith (fun p q=>a*p - b*q) x y
def rowS (M:List (List Int)) (r c k:Nat):List Int:=lin ((M.getD r []).getD c 0) (M.getD k []) ((M.getD k []).getD c 0) (M.getD r [])
def rowI (M:List (List Int)) (r c k:Nat):List Int:=if (M.getD k []).getD c 0=0 then M.getD k []else rowS M r c k
def elim (g:List (List Int)→Nat→List Int):Nat→Nat→List (List Int)→List (List Int)
 | 0,_,M=>M
 | f+1,k,M=>elim g f (k+1) (M.set k (g M k))
theorem lin_len (a:Int) (x:List Int) (b:Int) (y:List Int):(lin a x b y).length=min x.length y.length:=by simp [lin]
theorem lin_get (a:Int) (x:List Int) (b:Int) (y:List Int) {j:Nat} (h:j < x.length) (h2:j < y.length):(lin a x b y).getD j 0=a*x.getD j 0 - b*y.getD j 0:=by
 simp [lin,List.getD,List.getElem?_zipWith,List.getElem?_eq_getElem h,List.getElem?_eq_getElem h2]
theorem getD_out {x:List Int} {j:Nat} (h:x.length≤j):x.getD j 0=0:=by simp [List.getD,List.getElem?_eq_none h]
theorem mul_bnd {b p q:Int} (hp:-b≤p∧p≤b) (hq:-b≤q∧q≤b):-(b*b)≤p*q∧p*q≤b*b:=by
 have h:(p*q).natAbs≤(b*b).natAbs:=by
  rw [Int.natAbs_mul,Int.natAbs_mul]
  exact Nat.mul_le_mul (by omega) (by omega)
 have h0:0≤b*b:=Int.mul_nonneg (by omega) (by omega)
 omega
theorem lin_bnd {b m:Int} {x y:List Int} {p q:Int} (hm:2*(b*b)≤m) (hb:0≤b) (hx:Bnd b x) (hy:Bnd b y) (hp:-b≤p∧p≤b) (hq:-b≤q∧q≤b):Bnd m (lin p x q y):=by
 intro z hz
 unfold lin at hz
 rw [List.mem_iff_getElem]at hz
 obtain⟨i,hi,rfl⟩:=hz
 rw [List.getElem_zipWith]
 simp only [List.length_zipWith]at hi
 have h1:=hx _ (List.getElem_mem (l:=x) (n:=i) (by omega))
 have h2:=hy _ (List.getElem_mem (l:=y) (n:=i) (by omega))
 have e1:=mul_bnd hp h1
 have e2:=mul_bnd hq h2
 omega
def OKM (n:Nat) (b:Int) (M:List (List Int)):Prop:=M.length=n∧∀ k,k < n→(M.getD k []).length=n∧Bnd b (M.getD k [])
def beta:Nat→Int
 | 0=>8
 | 1=>128
 | 2=>32768
 | _=>2147483648
theorem beta_pos (r:Nat):8≤beta r∧beta r≤2147483648:=by
 match r with
 | 0=>decide
 | 1=>decide
 | 2=>decide
 | n+3=>simp [beta]
theorem beta_sq {r:Nat} (h:r≤2):2*(beta r*beta r)≤beta (r+1):=by
 match r,h with
 | 0,_=>decide
 | 1,_=>decide
 | 2,_=>decide
theorem Bnd.mono {a b:Int} (h:a≤b) {x:List Int} (hx:Bnd a x):Bnd b x:=fun y hy=>by have:=hx y hy;omega
theorem Bnd.at' {b:Int} (hb:0≤b) {x:List Int} (hx:Bnd b x) (j:Nat):-b≤x.getD j 0∧x.getD j 0≤b:=by
 by_cases h:j < x.length
 ·rw [getD_eq h];exact hx _ (List.getElem_mem h)
 ·rw [getD_out (by omega)];omega
def Mid (n r k:Nat) (M:List (List Int)):Prop:=OKM n (beta (r+1)) M∧∀ j,j < n→(j≤r∨k≤j)→Bnd (beta r) (M.getD j [])
theorem set_get (M:List (List Int)) (k j:Nat) (x:List Int) (hk:k < M.length):(M.set k x).getD j []=if j=k then x else M.getD j []:=by
 simp only [List.getD,List.getElem?_set]
 by_cases h:k=j
 ·subst h;simp [hk]
 ·rw [if_neg h,if_neg (Ne.symm h)]
theorem Mid.row {n r k c:Nat} {M:List (List Int)} (h:Mid n r k M) (hk:k < n) (hr:r < k) (hn:n≤4):(rowS M r c k).length=n∧Bnd (beta (r+1)) (rowS M r c k):=by
 obtain⟨⟨h1,h2⟩,h3⟩:=h
 refine⟨by unfold rowS;rw [lin_len,(h2 k hk).1,(h2 r (by omega)).1];omega,?_⟩
 have b0:=beta_pos r
 have b1:=h3 k hk (.inr (Nat.le_refl _))
 have b2:=h3 r (by omega) (.inl (Nat.le_refl _))
 exact lin_bnd (beta_sq (by omega)) (by omega) b1 b2 (b2.at' (by omega) c) (b1.at' (by omega) c)
theorem Mid.put {n r k:Nat} {M:List (List Int)} {x:List Int} (h:Mid n r k M) (hk:k < n) (hr:r < k) (hx:x.length=n∧Bnd (beta (r+1)) x):Mid n r (k+1) (M.set k x):=by
 obtain⟨⟨h1,h2⟩,h3⟩:=h
 refine⟨⟨by simp [h1],fun j hj=>?_⟩,fun j hj hjk=>?_⟩
 ·rw [set_get _ _ _ _ (by omega)]
  split
  ·exact hx
  ·exact h2 j hj
 ·rw [set_get _ _ _ _ (by omega),if_neg (by omega)]
  exact h3 j hj (by omega)
def MulM (n:Nat) (M N:List (List Int)):Prop:=N.length=M.length∧∀ k,k < M.length→(M.getD k []).length=n∧(N.getD k []).length=n∧∃ l:Int,l≠0∧∀ j,(N.getD k []).getD j 0=l*(M.getD k []).getD j 0
theorem MulM.zero {n:Nat} {M N:List (List Int)} (h:MulM n M N) {k:Nat} (hk:k < M.length) (c:Nat):(N.getD k []).getD c 0=0↔(M.getD k []).getD c 0=0:=by
 obtain⟨_,_,l,hl,h2⟩:=h.2 k hk
 rw [h2 c,Int.mul_eq_zero]
 simp [hl]
theorem MulM.put {n:Nat} {M N:List (List Int)} (h:MulM n M N) {r c k:Nat} (hr:r < k) (hk:k < M.length) (hp:(M.getD r []).getD c 0≠0):MulM n (M.set k (rowI M r c k)) (N.set k (rowS N r c k)):=by
 have hl:=h.1
 obtain⟨a1,a2,l,hl0,a3⟩:=h.2 k hk
 obtain⟨b1,b2,m,hm0,b3⟩:=h.2 r (by omega)
 refine⟨by simp [hl],fun j hj=>?_⟩
 simp only [List.length_set]at hj
 rw [set_get _ _ _ _ hk,set_get _ _ _ _ (by omega)]
 by_cases hjk:j=k
 ·rw [if_pos hjk,if_pos hjk]
  have hS:(rowS N r c k).length=n:=by unfold rowS;rw [lin_len,a2,b2];omega
  have gS:∀ j,j < n→(rowS N r c k).getD j 0=(N.getD r []).getD c 0*(N.getD k []).getD j 0 - (N.getD k []).getD c 0*(N.getD r []).getD j 0:=fun j hj=>by
   unfold rowS;rw [lin_get _ _ _ _ (by omega) (by omega)]
  unfold rowI
  by_cases h0:(M.getD k []).getD c 0=0
  ·rw [if_pos h0]
   refine⟨a1,hS,m*(M.getD r []).getD c 0*l,?_,fun j=>?_⟩
   ·exact Int.mul_ne_zero (Int.mul_ne_zero hm0 hp) hl0
   ·by_cases hj:j < n
    ·rw [gS j hj,a3 c,h0,a3 j,b3 c,Int.mul_zero,Int.zero_mul,Int.sub_zero];simp only [Int.mul_assoc]
    ·rw [getD_out (x:=rowS N r c k) (by omega),getD_out (x:=M.getD k []) (by omega),Int.mul_zero]
  ·rw [if_neg h0]
   have hM:(rowS M r c k).length=n:=by unfold rowS;rw [lin_len,a1,b1];omega
   refine⟨hM,hS,m*l,Int.mul_ne_zero hm0 hl0,fun j=>?_⟩
   by_cases hj:j < n
   ·rw [gS j hj,a3 c,a3 j,b3 c,b3 j]
    unfold rowS
    rw [lin_get _ _ _ _ (by omega) (by omega),Int.mul_sub]
    congr 1
    ·rw [Int.mul_assoc,Int.mul_left_comm ((M.getD r []).getD c 0),Int.mul_assoc]
    ·rw [Int.mul_comm m l,Int.mul_assoc l m,Int.mul_assoc l,Int.mul_left_comm m]
   ·rw [getD_out (x:=rowS N r c k) (by omega),getD_out (x:=rowS M r c k) (by omega),Int.mul_zero]
 ·rw [if_neg hjk,if_neg hjk];exact h.2 j hj
theorem MulM.elim {n r c:Nat}:∀(f k:Nat) {M N:List (List Int)},MulM n M N→r < k→k+f≤M.length→(M.getD r []).getD c 0≠0→MulM n (elim (fun N k=>rowI N r c k) f k M) (elim (fun N k=>rowS N r c k) f k N)
 | 0,k,M,N,h,_,_,_=>h
 | f+1,k,M,N,h,hr,hk,hp=>by
  simp only [Go.Proofs.YtcinngodeoidnaaGreatDoor.elim]
  refine MulM.elim f (k+1) (h.put hr (by omega) hp) (by omega) (by simp;omega) ?_
  rw [set_get _ _ _ _ (by omega),if_neg (by omega)]
  exact hp
theorem MulM.refl {n:Nat} {b:Int} {M:List (List Int)} (h:OKM n b M):MulM n M M:=
 ⟨rfl,fun k hk=>⟨(h.2 k (by rw [← h.1];exact hk)).1,(h.2 k (by rw [← h.1];exact hk)).1,1,by decide,fun j=>by rw [Int.one_mul]⟩⟩
end Go.Proofs.YtcinngodeoidnaaGreatDoor
namespace Go.Proofs.YtcinngodeoidnaaGreatDoor
open Go Go.Aw Go.Cox
end Go.Proofs.YtcinngodeoidnaaGreatDoor
namespace Go.Proofs.YtcinngodeoidnaaGreatDoor
open Go Go.Aw Go.Cox
end Go.Proofs.YtcinngodeoidnaaGreatDoor
namespace Go.Proofs.YtcinngodeoidnaaGreatDoor
open Go Go.Aw Go.Cox
def rowP (c:List (List Int)) (s:List Int) (i:Int):List Int:=s.map fun j=>ent c i.toNat j.toNat
theorem map_snoc {α β:Type} (f:α→β) (s:List α) (d:α) (k:Nat) (h:k < s.length):(s.take k).map f ++ [f (s.getD k d)]=(s.take (k+1)).map f:=by
 rw [← take_snoc d s k h];simp
theorem letters_mem {n:Nat} {s:List Int} (h:letters n s) {k:Nat} (hk:k < s.length):0≤s.getD k 0∧s.getD k 0 < n:=h _ (getD_mem hk)
theorem c_impl_picked (c:List (List Int)) (s:List Int) (hcl:c.length≤4) (hc:∀ i,i < c.length→(c.getD i []).length=c.length) (hs:letters c.length s) (hl:s.length≤1048576) :
  FunA B 83 [.sl false (.row false) c,.sl false .int s] (fun rs o=>rs=[.own 0 0]∧∃ ys,ys.map (·.2)=pick c s∧o=[.arr .lrow ys 0 true]):=by
 refine FunA.walk B_ok (fn:=Tryz.f83) (fun vs w=>Tryz.call83 vs w) Tryz.func83 rfl (by rw [Tryz.ntmps83];simp) (fun C hC hP hT hΓ hbt hfn hpin hfin=>?_);have hX:=BX;rw [← hΓ,← hbt.1,← hbt.2.1,← hbt.2.2.1]at hX;rw [hT]at hX;rw [Tryz.ntmps83];simp only [AW7,simprocAttr,hX]
 refine Run.R ?_
 refine Run.R ?_
 refine Run.R ?_
 refine Run.loopI (X:=Nat×List (Nat×List Int)) (fun m=>⟨42,[(0,true,.v (.sl false (.row false) (c))),(1,true,.v (.sl false .int (s))),(4,true,.v (.nils)),(5,true,.v (.own 0 0)),(12,true,.v (.sl false .int (s))),(13,true,.v (.int .i64 (s.length))),(14,true,.v (.int .i64 (m.1)))],[.arr .lrow (m.2) 0 true]⟩) (fun m=>m.1≤s.length∧m.2.map (·.2)=(s.take m.1).map (rowP c s)) (fun m=>s.length - m.1) ((0,[])) (⟨Nat.zero_le _,rfl⟩) ?_ ?_
 ·exact Le.sub (by first | rfl | simp) (by simp only [AW7,simprocAttr,hX];try simp<;>try(first | rfl | exact⟨rfl,rfl⟩ | exact⟨rfl,rfl,rfl⟩))
 rintro⟨m,ys⟩ ⟨hm,hy⟩ ih
 try simp only []
 simp only []at hm hy
 have hyl:ys.length=m:=by have:=congrArg List.length hy;simpa [hm] using this
 refine Run.R ?_
 refine Run.nq ?_;refine Run.cW ?_ ?_
 ·intro h
  have h:m < s.length:=by simpa using h
  obtain⟨a1,a2⟩:=letters_mem hs h
  have hr:=hc (s.getD m 0).toNat (by omega)
  refine Run.R ?_
  refine Run.R ?_
  refine Run.R ?_
  refine Run.reK hpin [0,1,4,5,7,8,12,13,14,19,20,21] [0,1] (by decide) (by simp) ?_;simp only [AR,AW7,simprocAttr]
  refine Run.loopI (X:=Nat) (fun k=>⟨42,[(0,true,.v (.sl false (.row false) (c))),(1,true,.v (.sl false .int (s))),(4,true,.v (.nils)),(5,true,.v (.own 0 0)),(7,true,.v (.int .i64 ((s.getD m 0)))),(8,true,.v (.own 1 0)),(12,true,.v (.sl false .int (s))),(13,true,.v (.int .i64 (s.length))),(14,true,.v (.int .i64 (m))),(19,true,.v (.sl false .int (s))),(20,true,.v (.int .i64 (s.length))),(21,true,.v (.int .i64 (k)))],[.arr .lrow (ys) 0 true,.arr .int (((s.take k).map fun j=>ent c (s.getD m 0).toNat j.toNat)) 0 true]⟩) (fun k=>k≤s.length) (fun k=>s.length - k) (0) (Nat.zero_le _) ?_ ?_
  ·exact Le.sub (by first | rfl | simp) (by simp only [AW7,simprocAttr,hX];try simp<;>try(first | rfl | exact⟨rfl,rfl⟩ | exact⟨rfl,rfl,rfl⟩))
  rintro k hk ih2
  try simp only []
  refine Run.R ?_
  refine Run.nq ?_;refine Run.cW ?_ ?_
  ·intro h2
   have h2:k < s.length:=by simpa using h2
   obtain⟨b1,b2⟩:=letters_mem hs h2
   have hsn:=map_snoc (fun j=>ent c (s.getD m 0).toNat j.toNat) s 0 k h2
   refine Run.R ?_
   refine Run.R ?_
   refine Run.RW ?_
   refine Run.reK hpin [0,1,4,5,7,8,12,13,14,19,20,21] [0,1] (by decide) (by simp) ?_;simp only [AR,AW7,simprocAttr]
   refine Run.le ?_ (ih2 (k+1) (by omega) (by omega))
   exact Le.sub (by rw [← hsn]) (by simp only [AW7,simprocAttr];try simp)
  ·intro h2
   have h2:k=s.length:=by simp at h2;omega
   subst h2
   rw [List.take_length]
   refine Run.exit rfl ?_;refine Run.nq ?_
   refine Run.nq ?_;refine Run.regionW hC (fun K hK=>?_);refine wW ?_
   intro l hl
   refine wW ?_
   refine wE ?_;clear hK K
   refine Run.RW ?_
   refine Run.reK hpin [0,1,4,5,12,13,14] [0] (by decide) (by simp) ?_;simp only [AR,AW7,simprocAttr]
   refine Run.le ?_ (ih (m+1,ys ++ [(l,rowP c s (s.getD m 0))]) ⟨h,by simp only [List.map_append,hy,List.map_cons,List.map_nil];exact map_snoc (rowP c s) s 0 m h⟩ (by simp only [];omega))
   exact Le.sub (by rfl) (by simp only [AW7,simprocAttr];try simp)
 ·intro h
  have h:m=s.length:=by simp at h;omega
  subst h
  rw [List.take_length]at hy
  refine Run.exit rfl ?_;refine Run.nq ?_
  refine Run.R ?_
  refine Run.rW [4] (hfin _ _ rfl rfl ?_)
  exact⟨rfl,ys,hy,rfl⟩
def bnd:Nat→Int
 | 0=>1
 | n+1=>3*(n+1)*bnd n
theorem bnd_pos:∀ n,0≤bnd n
 | 0=>by decide
 | n+1=>by have:=bnd_pos n;unfold bnd;have:(0:Int)≤3*(n+1):=by omega
           exact Int.mul_nonneg this (bnd_pos n)
def Sq (n:Nat) (m:List (List Int)):Prop:=m.length=n∧∀ r∈m,r.length=n∧∀ x∈r,-3≤x∧x≤3
theorem Sq.minor {n:Nat} {m:List (List Int)} (h:Sq (n+1) m) (j:Nat) (hj:j < n+1):Sq n (minorL m j):=by
 refine⟨by simp [minorL,h.1],fun r hr=>?_⟩
 simp only [minorL,List.mem_map]at hr
 obtain⟨r0,h0,rfl⟩:=hr
 obtain⟨h1,h2⟩:=h.2 r0 (List.mem_of_mem_drop h0)
 refine⟨by simp [h1];omega,fun x hx=>?_⟩
 rcases List.mem_append.1 hx with hx | hx
 ·exact h2 x (List.mem_of_mem_take hx)
 ·exact h2 x (List.mem_of_mem_drop hx)
def sgn (j:Nat):Int:=if j % 2=1 then -1 else 1
def detS (n:Nat) (m:List (List Int)) (j:Nat):Int:=(List.range j).foldl (fun s j=>s+sgn j*(m.getD 0 []).getD j 0*detN n (minorL m j)) 0
theorem detS_succ (n:Nat) (m:List (List Int)) (j:Nat):detS n m (j+1)=detS n m j+sgn j*(m.getD 0 []).getD j 0*detN n (minorL m j):=by
 simp [detS,List.range_succ]
theorem detN_eq (n:Nat) (m:List (List Int)):detN (n+1) m=detS n m (n+1):=rfl
theorem sgn_cases (j:Nat):sgn j=1∨sgn j = -1:=by unfold sgn;split<;>simp
theorem sgn_succ (j:Nat):sgn (j+1) = -sgn j:=by unfold sgn;rcases Nat.mod_two_eq_zero_or_one j with h | h<;>simp [h,Nat.add_mod]
theorem abs_mul3 {x d b:Int} (hx:-3≤x∧x≤3) (hd:-b≤d∧d≤b):-(3*b)≤x*d∧x*d≤3*b:=by
 obtain⟨h1,h2⟩:=hx
 have:x = -3∨x = -2∨x = -1∨x=0∨x=1∨x=2∨x=3:=by omega
 rcases this with rfl | rfl | rfl | rfl | rfl | rfl | rfl<;>omega
theorem det_le:∀(n:Nat) (m:List (List Int)),Sq n m→-bnd n≤detN n m∧detN n m≤bnd n
 | 0,m,_=>by simp [detN,bnd]
 | n+1,m,h=>by
  have key:∀ j,j≤n+1→-(3*j*bnd n)≤detS n m j∧detS n m j≤3*j*bnd n:=by
   intro j
   induction j with
   | zero=>intro _;simp [detS]
   | succ j ih=>
    intro hj
    obtain⟨i1,i2⟩:=ih (by omega)
    have hd:=det_le n _ (h.minor j (by omega))
    have hr:m.getD 0 []∈m:=by
     have:0 < m.length:=by rw [h.1];omega
     simp [List.getD_eq_getElem?_getD,this]
    obtain⟨r1,r2⟩:=h.2 _ hr
    have hx:=r2 _ (getD_mem (w:=m.getD 0 []) (i:=j) (by omega))
    have h3:=abs_mul3 hx hd
    rw [detS_succ]
    have e:(3:Int)*((j+1:Nat):Int)*bnd n=3*j*bnd n+3*bnd n:=by push_cast;grind
    rw [e]
    rcases sgn_cases j with hs | hs<;>rw [hs]
    ·rw [Int.one_mul];omega
    ·rw [Int.neg_mul,Int.one_mul,Int.neg_mul];omega
  have:=key (n+1) (Nat.le_refl _)
  rw [detN_eq]
  simpa [bnd] using this
theorem bnd_le:∀ n:Nat,n≤4→bnd n≤1944:=by decide
theorem detS_le {n:Nat} {m:List (List Int)} (h:Sq (n+1) m) (hn:n+1≤4):∀ j,j≤n+1→-7776≤detS n m j∧detS n m j≤7776:=by
 intro j
 have hb:=bnd_le n (by omega)
 have hb0:=bnd_pos n
 have key:∀ j,j≤n+1→-((j:Int)*1944)≤detS n m j∧detS n m j≤(j:Int)*1944:=by
  have hbn:3*bnd n≤1944:=by
   have:∀ n:Nat,n≤3→3*bnd n≤1944:=by decide
   exact this n (by omega)
  intro j
  induction j with
  | zero=>intro _;simp [detS]
  | succ j ih=>
   intro hj
   obtain⟨i1,i2⟩:=ih (by omega)
   have hd:=det_le n _ (h.minor j (by omega))
   have hr:m.getD 0 []∈m:=by
    have:0 < m.length:=by rw [h.1];omega
    simp [List.getD_eq_getElem?_getD,this]
   obtain⟨r1,r2⟩:=h.2 _ hr
   have hx:=r2 _ (getD_mem (w:=m.getD 0 []) (i:=j) (by omega))
   have h3:=abs_mul3 hx hd
   rw [detS_succ]
   rcases sgn_cases j with hs | hs<;>rw [hs]
   ·rw [Int.one_mul];push_cast;omega
   ·rw [Int.neg_mul,Int.one_mul,Int.neg_mul];push_cast;omega
 intro hj
 have:=key j hj
 omega
theorem det_term {n:Nat} {m:List (List Int)} (h:Sq (n+1) m) (hn:n+1≤4) (j:Nat) (hj:j < n+1):(-3≤(m.getD 0 []).getD j 0∧(m.getD 0 []).getD j 0≤3)∧(-1944≤detN n (minorL m j)∧detN n (minorL m j)≤1944) ∧
  (-1944≤(m.getD 0 []).getD j 0*detN n (minorL m j)∧(m.getD 0 []).getD j 0*detN n (minorL m j)≤1944)∧(m.getD 0 []).length=n+1:=by
 have hr:m.getD 0 []∈m:=by
  have:0 < m.length:=by rw [h.1];omega
  simp [List.getD_eq_getElem?_getD,this]
 obtain⟨r1,r2⟩:=h.2 _ hr
 have hx:=r2 _ (getD_mem (w:=m.getD 0 []) (i:=j) (by omega))
 have hd:=det_le n _ (h.minor j hj)
 have hb:3*bnd n≤1944:=by
  have:∀ n:Nat,n≤3→3*bnd n≤1944:=by decide
  exact this n (by omega)
 have hb0:=bnd_pos n
 have h3:=abs_mul3 hx hd
 exact⟨hx,by omega,by omega,r1⟩
theorem c_impl_determinant (n:Nat):∀(m:List (List Int)),n≤4→Sq n m→FunA B 200 [.sl false (.row false) m] (fun rs o=>rs=[.int .i64 (detN n m)]∧o=[]):=by
 induction n with
 | zero=>
  intro m _ hm
  have hm0:m=[]:=List.eq_nil_of_length_eq_zero hm.1
  subst hm0
  refine FunA.walk B_ok (fn:=Tryz.f200) (fun vs w=>Tryz.call200 vs w) Tryz.func200 rfl (by rw [Tryz.ntmps200];simp) (fun C hC hP hT hΓ hbt hfn hpin hfin=>?_);have hX:=BX;rw [← hΓ,← hbt.1,← hbt.2.1,← hbt.2.2.1]at hX;rw [hT]at hX;rw [Tryz.ntmps200];simp only [AW7,simprocAttr,hX]
  refine Run.R ?_
  refine Run.R ?_
  refine Run.nq ?_;refine Run.cW ?_ ?_
  ·intro h
   refine Run.R ?_
   refine Run.rW [2] (hfin _ _ rfl rfl ?_)
   exact⟨rfl,rfl⟩
  ·intro h
   simp at h
 | succ n ihn=>
  intro m hn hm
  have hml:=hm.1
  refine FunA.walk B_ok (fn:=Tryz.f200) (fun vs w=>Tryz.call200 vs w) Tryz.func200 rfl (by rw [Tryz.ntmps200];simp) (fun C hC hP hT hΓ hbt hfn hpin hfin=>?_);have hX:=BX;rw [← hΓ,← hbt.1,← hbt.2.1,← hbt.2.2.1]at hX;rw [hT]at hX;rw [Tryz.ntmps200];simp only [AW7,simprocAttr,hX]
  refine Run.R ?_
  refine Run.R ?_
  refine Run.nq ?_;refine Run.cW ?_ ?_
  ·intro h
   simp [hml]at h
   omega
  intro h
  clear h
  have hr0:=(det_term hm hn 0 (by omega)).2.2.2
  have hS0:detS n m 0=0:=rfl
  have hg0:sgn 0=1:=rfl
  refine Run.R ?_
  refine Run.R ?_
  rw [show((m.getD 0 []).length:Int)=((n+1:Nat):Int)from by rw [hr0]]
  refine Run.le (Le.sub (fr':=[(0,true,.v (.sl false (.row false) m)),(2,true,.v (.int .i64 0)),(3,true,.v (.int .i64 (detS n m 0))),(4,true,.v (.int .i64 (sgn 0))),(15,true,.v (.sl false .int (m.getD 0 []))),(16,true,.v (.int .i64 (n+1:Nat))),(17,true,.v (.int .i64 (0:Nat)))]) rfl (by simp only [AW7,simprocAttr];simp [hS0,hg0])) ?_
  refine Run.loopI (X:=Nat) (fun j=>⟨58,[(0,true,.v (.sl false (.row false) (m))),(2,true,.v (.int .i64 (0))),(3,true,.v (.int .i64 ((detS n m j)))),(4,true,.v (.int .i64 ((sgn j)))),(15,true,.v (.sl false .int ((m.getD 0 [])))),(16,true,.v (.int .i64 (((n+1:Nat))))),(17,true,.v (.int .i64 (j)))],[]⟩) (fun j=>j≤n+1) (fun j=>n+1 - j) (0) (Nat.zero_le _) ?_ ?_
  ·exact Le.sub (by first | rfl | simp) (by simp only [AW7,simprocAttr,hX];try simp<;>try(first | rfl | exact⟨rfl,rfl⟩ | exact⟨rfl,rfl,rfl⟩))
  rintro j hj ih
  try simp only []
  refine Run.R ?_
  refine Run.nq ?_;refine Run.cW ?_ ?_
  ·intro h
   have h:j < n+1:=by simp at h;omega
   obtain⟨t1,t2,t3,t4⟩:=det_term hm hn j h
   obtain⟨d1,d2⟩:=detS_le hm hn j (by omega)
   obtain⟨e1,e2⟩:=detS_le hm hn (j+1) (by omega)
   have hsn:=detS_succ n m j
   have hss:=sgn_succ j
   have hsq:=hm.minor j h
   have hsc:=sgn_cases j
   have hp1:-3≤sgn j*(m.getD 0 []).getD j 0∧sgn j*(m.getD 0 []).getD j 0≤3:=by rcases hsc with hs | hs<;>rw [hs]<;>omega
   refine Run.R ?_
   refine Run.R ?_
   refine Run.nq ?_;refine Run.cW ?_ ?_
   ·intro hx
    have hx:(m.getD 0 []).getD j 0≠0:=by simpa using hx
    refine Run.R ?_
    refine Run.R ?_
    have htl:List.take (m.length - 1) (m.drop 1)=m.drop 1:=List.take_of_length_le (by simp)
    have htn:(m.drop 1).length=n:=by simp [hml]
    have ht2:List.take n m.tail=m.tail:=List.take_of_length_le (by simp [hml])
    refine Run.keep [0,2,3,4,5,6,7,15,16,17,26,27,28] ?_;simp only [AK,Nat.reduceBEq]
    refine Run.le (Le.sub (fr':=[(0,true,.v (.sl false (.row false) m)),(2,true,.v (.int .i64 0)),(3,true,.v (.int .i64 (detS n m j))),(4,true,.v (.int .i64 (sgn j))),(5,true,.v (.int .i64 j)),(6,true,.v (.int .i64 ((m.getD 0 []).getD j 0))),(7,true,.v (.own 0 0)),(15,true,.v (.sl false .int (m.getD 0 []))),(16,true,.v (.int .i64 (n+1:Nat))),(17,true,.v (.int .i64 j)),(26,true,.v (.sl false (.row false) (m.drop 1))),(27,true,.v (.int .i64 n)),(28,true,.v (.int .i64 (0:Nat)))]) rfl (by simp only [AW7,simprocAttr];simp [htl,htn,hml,ht2])) ?_
    refine Run.loopI (X:=Nat×List (Nat×List Int)) (fun k=>⟨58,[(0,true,.v (.sl false (.row false) (m))),(2,true,.v (.int .i64 (0))),(3,true,.v (.int .i64 ((detS n m j)))),(4,true,.v (.int .i64 ((sgn j)))),(5,true,.v (.int .i64 (j))),(6,true,.v (.int .i64 (((m.getD 0 []).getD j 0)))),(7,true,.v (.own 0 0)),(15,true,.v (.sl false .int ((m.getD 0 [])))),(16,true,.v (.int .i64 (((n+1:Nat))))),(17,true,.v (.int .i64 (j))),(26,true,.v (.sl false (.row false) ((m.drop 1)))),(27,true,.v (.int .i64 (n))),(28,true,.v (.int .i64 (k.1)))],[.arr .lrow (k.2) 0 true]⟩) (fun k=>k.1≤n∧k.2.map (·.2)=((m.drop 1).take k.1).map (fun r=>r.take j ++ r.drop (j+1))) (fun k=>n - k.1) ((0,[])) (⟨Nat.zero_le _,rfl⟩) ?_ ?_
    ·exact Le.sub (by first | rfl | simp) (by simp only [AW7,simprocAttr,hX];try simp<;>try(first | rfl | exact⟨rfl,rfl⟩ | exact⟨rfl,rfl,rfl⟩))
    rintro⟨k,ys⟩ ⟨hk,hy⟩ ih2
    try simp only []
    simp only []at hk hy
    have hyl:ys.length=k:=by have:=congrArg List.length hy;simp at this;omega
    refine Run.R ?_
    refine Run.nq ?_;refine Run.cW ?_ ?_
    ·intro h2
     have h2:k < n:=by simp at h2;omega
     have hmem:(m.drop 1).getD k []∈m:=by
      have:(m.drop 1).getD k []=m.getD (k+1) []:=by simp [List.getD_eq_getElem?_getD,List.getElem?_drop,Nat.add_comm]
      rw [this]
      simp [List.getD_eq_getElem?_getD,show k+1 < m.length by omega]
     have hrl:=(hm.2 _ hmem).1
     refine Run.R ?_
     refine Run.keep [0,2,3,4,5,6,7,9,15,16,17,26,27,28] ?_;simp only [AK,Nat.reduceBEq]
     refine Run.nq ?_;refine Run.regionD hC true [0,2,3,4,6,7,8,9,1,5,10,11,12,13] (by kernel_rfl) (fun K hK=>?_);simp(disch:=omega) only [wrap_id,AW7,simprocAttr,hX];(repeat(with_reducible refine And.intro ?_ ?_);exact vc0)
     intro l hl
     (repeat(with_reducible refine And.intro ?_ ?_);exact vc0)
     refine wE ?_;clear hK K
     refine Run.RW ?_
     refine Run.reK hpin [0,2,3,4,5,6,7,15,16,17,26,27,28] [0] (by decide) (by simp) ?_;simp only [AR,AW7,simprocAttr]
     refine Run.le ?_ (ih2 (k+1,ys ++ [(l,((m.drop 1).getD k []).take j ++ ((m.drop 1).getD k []).drop (j+1))]) ⟨h2,by simp only [List.map_append,hy,List.map_cons,List.map_nil];exact map_snoc (fun r:List Int=>r.take j ++ r.drop (j+1)) (m.drop 1) [] k (by omega)⟩ (by simp only [];omega))
     have e1:List.take (j - 0) (List.drop 0 ((List.drop 1 m).getD k [])) ++ List.take (List.length ((List.drop 1 m).getD k []) - ((j:Int)+1).toNat) (List.drop ((j:Int)+1).toNat ((List.drop 1 m).getD k []))=((m.drop 1).getD k []).take j ++ ((m.drop 1).getD k []).drop (j+1):=by
      rw [Nat.sub_zero,List.drop_zero,show((j:Int)+1).toNat=j+1 by omega,List.take_of_length_le (l:=List.drop (j+1) _) (by simp)]
     exact Le.sub (by rw [e1]) (by simp only [AW7,simprocAttr];try simp)
    ·intro h2
     have h2:k=n:=by simp at h2;omega
     rw [List.take_of_length_le (by omega)]at hy
     have hy:ys.map (·.2)=minorL m j:=hy
     refine Run.exit rfl ?_;refine Run.nq ?_
     refine Run.nq ?_;refine Run.regionW hC (fun K hK=>?_);refine wW ?_
     refine FunA.callW hP hT (ihn (minorL m j) (by omega) hsq) (by simp only [AW7,simprocAttr];exact hy.symm) ?_
     rintro rs o ⟨rfl,rfl⟩
     simp(disch:=omega) only [wrap_id,AW7,simprocAttr,hX]
     (repeat(with_reducible refine And.intro ?_ ?_);exact vc0)
     refine wE ?_;clear hK K
     rw [← hsn]
     refine Run.keep [0,2,3,4,15,16,17] ?_;simp only [AK,Nat.reduceBEq]
     refine Run.RW ?_
     refine Run.RW ?_
     refine Run.reK hpin [0,2,3,4,15,16,17] [] (by decide) (by simp) ?_;simp only [AR,AW7,simprocAttr]
     refine Run.le ?_ (ih (j+1) (by omega) (by omega))
     exact Le.sub (by rfl) (by rw [hss];simp only [AW7,simprocAttr];simp)
   ·intro hx
    have hx:(m.getD 0 []).getD j 0=0:=by simpa using hx
    rw [hx]at hsn
    simp only [Int.mul_zero,Int.zero_mul,Int.add_zero]at hsn
    refine Run.RW ?_
    refine Run.RW ?_
    refine Run.le ?_ (ih (j+1) (by omega) (by omega))
    exact Le.sub (by rfl) (by rw [hss,hsn];simp only [AW7,simprocAttr];simp)
  ·intro h
   have h:j=n+1:=by simp at h;omega
   subst h
   refine Run.exit rfl ?_;refine Run.nq ?_
   refine Run.R ?_
   refine Run.rW [2] (hfin _ _ rfl rfl ?_)
   exact⟨rfl,rfl⟩
end Go.Proofs.YtcinngodeoidnaaGreatDoor
