/- What the laws on parabolic subgroups and on classes draw. -/
import Derived.Test.YtcinngodeoidnaaGreatDoorB11
import Derived.Test.YtcinngodeoidnaaGreatDoorB14
import Derived.Test.YtcinngodeoidnaaGreatDoorB13
import Derived.Test.YtcinngodeoidnaaGreatDoorB12
import Derived.Test.YtcinngodeoidnaaGreatDoorB8
set_option linter.unusedVariables false
set_option linter.unusedSimpArgs false
namespace Go.Proofs.YtcinngodeoidnaaGreatDoor
open Go Go.Aw
theorem c_l3Some (s:Value) (n:Nat) (hn:n≤100):FunO B 72 [.own 0 0,.int .i64 n] (.cur s 0) (fun rs o=>∃ w nn,w.length≤n+1∧nn=true∧rs=[.own 1 0]∧o=[.cur s 0,.arr .int w 0 nn]):=by
 refine FunO.walk B_ok (fn:=Tryz.f72) (fun vs w=>Tryz.call72 vs w) Tryz.func72 rfl (by rw [Tryz.ntmps72];simp) (fun C hC hP hT hΓ hbt hfn hpin hfin=>?_);have hX:=BX;rw [← hΓ,← hbt.1,← hbt.2.1,← hbt.2.2.1]at hX;rw [hT]at hX;rw [Tryz.ntmps72];simp only [AW7,simprocAttr,hX]
 refine Run.R ?_
 refine Run.R ?_
 refine Run.R ?_
 refine Run.reKP hpin [0,1,5,6] [0,1] rfl (by simp [oAt,gen0]) (by decide) (by simp) ?_;simp only [AR,AW7,simprocAttr]
 refine Run.loopI (X:=List Int×Nat) (fun y=>⟨28,[(0,true,.v (.own 0 0)),(1,true,.v (.int .i64 (n))),(5,true,.v (.own 1 0)),(6,true,.v (.int .i64 (y.2)))],[.cur s 0,.arr .int (y.1) 0 true]⟩) (fun y=>y.2≤n∧y.1.length≤y.2) (fun y=>n - y.2) (([],0)) (⟨by simp,by simp⟩) ?_ ?_
 ·exact Le.sub (by first | rfl | simp) (by simp only [AW7,simprocAttr,hX];try simp<;>try(first | rfl | exact⟨rfl,rfl⟩ | exact⟨rfl,rfl,rfl⟩))
 rintro⟨w,i⟩ ⟨hi,hw⟩ ih
 try simp only []
 simp only []at hi hw
 refine Run.R ?_
 refine Run.nq ?_;refine Run.cW ?_ ?_
 rotate_left
 ·intro _
  refine Run.exit rfl ?_;refine Run.nq ?_
  refine Run.reKP hpin [0,5] [0,1] rfl (by simp [oAt,gen0]) (by decide) (by simp) ?_;simp only [AR,AW7,simprocAttr]
  refine Run.nq ?_;refine Run.regionW hC (fun K hK=>?_);refine wW ?_
  refine FunO.callCur hP hT (c_l1Once s 12 (by decide) (by decide)) 0 0 (by first | rfl | (simp only [AW7,simprocAttr];done) | (simp only [AW7,simprocAttr];rfl)) (by simp only [AW7,simprocAttr]) ?_
  rintro rs o' obs' ⟨x,rfl,ho⟩
  injection ho with ho1 ho2;subst ho1 ho2
  refine wW ?_
  refine wE ?_;clear hK K
  refine Run.reKP hpin [0,5,20] [0,1] rfl (by simp [oAt,gen0]) (by decide) (by simp) ?_;simp only [AR,AW7,simprocAttr]
  refine Run.nq ?_;refine Run.cW ?_ ?_
  ·intro _
   refine Run.nq ?_;refine Run.regionW hC (fun K hK=>?_);refine wW ?_
   refine FunO.callCur hP hT (c_l1Below s 6 (by decide) (by decide)) 0 0 (by first | rfl | (simp only [AW7,simprocAttr];done) | (simp only [AW7,simprocAttr];rfl)) (by simp only [AW7,simprocAttr]) ?_
   rintro rs o' obs' ⟨v,rfl,v0,v1,ho⟩
   injection ho with ho1 ho2;subst ho1 ho2
   have v1:=v1 (by decide)
   refine wWW ?_
   refine wE ?_;clear hK K
   refine Run.reKP hpin [0,5] [0,1] rfl (by simp [oAt,gen0]) (by decide) (by simp) ?_;simp only [AR,AW7,simprocAttr]
   refine Run.R ?_
   refine Run.reKP hpin [0,4] [0,1] rfl (by simp [oAt,gen0]) (by decide) (by simp) ?_;simp only [AR,AW7,simprocAttr]
   refine Run.rW [4] (hfin _ _ _ rfl rfl ⟨rfl,rfl⟩ ?_)
   exact⟨w ++ [v - 1],true,by simp;omega,rfl,rfl,rfl⟩
  intro _
  refine Run.R ?_
  refine Run.reKP hpin [0,4] [0,1] rfl (by simp [oAt,gen0]) (by decide) (by simp) ?_;simp only [AR,AW7,simprocAttr]
  refine Run.rW [4] (hfin _ _ _ rfl rfl ⟨rfl,rfl⟩ ?_)
  exact⟨w,true,by omega,rfl,rfl,rfl⟩
 intro h
 have h:i < n:=by rw [decide_eq_true_eq]at h;omega
 refine Run.nq ?_;refine Run.regionW hC (fun K hK=>?_);refine wW ?_
 refine FunO.callCur hP hT (c_l1Once s 2 (by decide) (by decide)) 0 0 (by first | rfl | (simp only [AW7,simprocAttr];done) | (simp only [AW7,simprocAttr];rfl)) (by simp only [AW7,simprocAttr]) ?_
 rintro rs o' obs' ⟨x,rfl,ho⟩
 injection ho with ho1 ho2;subst ho1 ho2
 refine wW ?_
 refine wE ?_;clear hK K
 refine Run.reKP hpin [0,1,5,6,14] [0,1] rfl (by simp [oAt,gen0]) (by decide) (by simp) ?_;simp only [AR,AW7,simprocAttr]
 refine Run.nq ?_;refine Run.cW ?_ ?_
 ·intro _
  refine Run.R ?_
  refine Run.reKP hpin [0,1,5,6] [0,1] rfl (by simp [oAt,gen0]) (by decide) (by simp) ?_;simp only [AR,AW7,simprocAttr]
  refine Run.RW ?_
  refine Run.le ?_ (ih ((w ++ [(i:Int)],i+1)) (⟨by omega,by simp;omega⟩) (by(try simp only [List.length_append,List.length_cons,List.length_nil]);omega))
  exact Le.sub (by rfl) (by simp only [AW7,simprocAttr];try simp)
 intro _
 refine Run.reKP hpin [0,1,5,6] [0,1] rfl (by simp [oAt,gen0]) (by decide) (by simp) ?_;simp only [AR,AW7,simprocAttr]
 refine Run.RW ?_
 refine Run.le ?_ (ih ((w,i+1)) (⟨by omega,by simp only [];omega⟩) (by(try simp only [List.length_append,List.length_cons,List.length_nil]);omega))
 exact Le.sub (by rfl) (by simp only [AW7,simprocAttr];try simp)
theorem c_l16Draw (code:List Int) (hl:code.length≤1048576):FunA B 55 [.sl false .byte code] (fun rs o=>∃ c u v,(1≤c.length∧c.length≤5)∧u.length≤6∧v.length≤7∧rs=[.sl true (.row true) c,.sl true .int u,.sl true .int v]∧o=[]):=by
 refine FunA.walk B_ok (fn:=Tryz.f55) (fun vs w=>Tryz.call55 vs w) Tryz.func55 rfl (by rw [Tryz.ntmps55];simp) (fun C hC hP hT hΓ hbt hfn hpin hfin=>?_);have hX:=BX;rw [← hΓ,← hbt.1,← hbt.2.1,← hbt.2.2.1]at hX;rw [hT]at hX;rw [Tryz.ntmps55];simp only [AW7,simprocAttr,hX]
 refine Run.R ?_
 refine Run.nq ?_;refine Run.regionW hC (fun K hK=>?_);refine wW ?_
 refine ACall.new hP (by omega) fun s=>?_
 refine wW ?_
 refine wE ?_;clear hK K
 refine Run.nq ?_;refine Run.regionW hC (fun K hK=>?_);refine wW ?_
 refine FunO.callCur hP hT (c_l2Any s) 0 0 (by first | rfl | (simp only [AW7,simprocAttr];done) | (simp only [AW7,simprocAttr];rfl)) (by simp only [AW7,simprocAttr]) ?_
 rintro rs o' obs' ⟨c,g,nn,⟨c1,c2⟩,rfl,rfl,ho⟩
 injection ho with ho1 ho2;subst ho1 ho2
 refine wW ?_
 refine wE ?_;clear hK K
 refine Run.nq ?_;refine Run.regionW hC (fun K hK=>?_);refine wW ?_
 refine FunO.callCur hP hT (c_l3Some s c.length (by omega)) 0 0 (by first | rfl | (simp only [AW7,simprocAttr];done) | (simp only [AW7,simprocAttr];rfl)) (by simp only [AW7,simprocAttr]) ?_
 rintro rs o' obs' ⟨u,nn,hul,rfl,rfl,ho⟩
 injection ho with ho1 ho2;subst ho1 ho2
 refine wW ?_
 refine wE ?_;clear hK K
 refine Run.nq ?_;refine Run.regionW hC (fun K hK=>?_);refine wW ?_
 refine FunO.callCur hP hT (c_l5Word s c 7 (by omega) (by omega)) 0 0 (by first | rfl | (simp only [AW7,simprocAttr];done) | (simp only [AW7,simprocAttr];rfl)) (by simp only [AW7,simprocAttr];decide) ?_
 rintro rs o' obs' ⟨v,nn,hv,hvl,rfl,rfl,ho⟩
 injection ho with ho1 ho2;subst ho1 ho2
 refine wW ?_
 refine wE ?_;clear hK K
 refine Run.reK hpin [2,3,4] [1,2,3] (by decide) (by simp) ?_;simp only [AR,AW7,simprocAttr]
 refine Run.letgoK 0 [2,3,4] rfl ?_;simp only [AL,frV_cons,frV_nil,AW7,simprocAttr]
 refine Run.letgoK 1 [2,3,4] rfl ?_;simp only [AL,frV_cons,frV_nil,AW7,simprocAttr]
 refine Run.letgoK 2 [2,3,4] rfl ?_;simp only [AL,frV_cons,frV_nil,AW7,simprocAttr]
 refine Run.reK hpin [2,3,4] [] (by decide) (by simp) ?_;simp only [AR,AW7,simprocAttr]
 refine Run.rW [2,3,4] (hfin _ _ rfl rfl ?_)
 exact⟨c,u,v,⟨c1,c2⟩,by omega,by omega,rfl,rfl⟩
theorem c_DrawLeftParts (code:List Int) (hl:code.length≤1048576):FunA B 6 [.sl false .byte code] (fun rs o=>∃ c u v,(1≤c.length∧c.length≤5)∧u.length≤6∧v.length≤7∧rs=[.sl true (.row true) c,.sl true .int u,.sl true .int v]∧o=[]):=by
 refine FunA.walk B_ok (fn:=Tryz.f6) (fun vs w=>Tryz.call6 vs w) Tryz.func6 rfl (by rw [Tryz.ntmps6];simp) (fun C hC hP hT hΓ hbt hfn hpin hfin=>?_);have hX:=BX;rw [← hΓ,← hbt.1,← hbt.2.1,← hbt.2.2.1]at hX;rw [hT]at hX;rw [Tryz.ntmps6];simp only [AW7,simprocAttr,hX]
 refine Run.R ?_
 refine Run.nq ?_;refine Run.regionW hC (fun K hK=>?_);refine wW ?_
 refine FunA.cW hP hT (c_l16Draw code hl) ?_
 rintro rs o ⟨c,u,v,⟨c1,c2⟩,hu,hv,rfl,rfl⟩
 refine wW ?_
 refine wE ?_;clear hK K
 refine Run.R ?_
 refine Run.rW [2,3,4] (hfin _ _ rfl rfl ?_)
 exact⟨c,u,v,⟨c1,c2⟩,hu,hv,rfl,rfl⟩
theorem c_DrawIsInParabolic (code:List Int) (hl:code.length≤1048576):FunA B 32 [.sl false .byte code] (fun rs o=>∃ c u v,(1≤c.length∧c.length≤5)∧u.length≤6∧v.length≤7∧rs=[.sl true (.row true) c,.sl true .int u,.sl true .int v]∧o=[]):=by
 refine FunA.walk B_ok (fn:=Tryz.f32) (fun vs w=>Tryz.call32 vs w) Tryz.func32 rfl (by rw [Tryz.ntmps32];simp) (fun C hC hP hT hΓ hbt hfn hpin hfin=>?_);have hX:=BX;rw [← hΓ,← hbt.1,← hbt.2.1,← hbt.2.2.1]at hX;rw [hT]at hX;rw [Tryz.ntmps32];simp only [AW7,simprocAttr,hX]
 refine Run.R ?_
 refine Run.nq ?_;refine Run.regionW hC (fun K hK=>?_);refine wW ?_
 refine FunA.cW hP hT (c_l16Draw code hl) ?_
 rintro rs o ⟨c,u,v,⟨c1,c2⟩,hu,hv,rfl,rfl⟩
 refine wW ?_
 refine wE ?_;clear hK K
 refine Run.R ?_
 refine Run.rW [2,3,4] (hfin _ _ rfl rfl ?_)
 exact⟨c,u,v,⟨c1,c2⟩,hu,hv,rfl,rfl⟩
theorem c_DrawLongestOf (code:List Int) (hl:code.length≤1048576):FunA B 29 [.sl false .byte code] (fun rs o=>∃ c u,(1≤c.length∧c.length≤5)∧u.length≤6∧rs=[.sl true (.row true) c,.sl true .int u]∧o=[]):=by
 refine FunA.walk B_ok (fn:=Tryz.f29) (fun vs w=>Tryz.call29 vs w) Tryz.func29 rfl (by rw [Tryz.ntmps29];simp) (fun C hC hP hT hΓ hbt hfn hpin hfin=>?_);have hX:=BX;rw [← hΓ,← hbt.1,← hbt.2.1,← hbt.2.2.1]at hX;rw [hT]at hX;rw [Tryz.ntmps29];simp only [AW7,simprocAttr,hX]
 refine Run.R ?_
 refine Run.nq ?_;refine Run.regionW hC (fun K hK=>?_);refine wW ?_
 refine FunA.cW hP hT (c_l16Draw code hl) ?_
 rintro rs o ⟨c,u,v,⟨c1,c2⟩,hu,hv,rfl,rfl⟩
 refine wW ?_
 refine wE ?_;clear hK K
 refine Run.R ?_
 refine Run.rW [2,3] (hfin _ _ rfl rfl ?_)
 exact⟨c,u,⟨c1,c2⟩,hu,rfl,rfl⟩
theorem c_DrawDoubleMinimal (code:List Int) (hl:code.length≤1048576):FunA B 26 [.sl false .byte code] (fun rs o=>∃ c a w b,(1≤c.length∧c.length≤5)∧a.length≤6∧w.length≤7∧b.length≤6∧rs=[.sl true (.row true) c,.sl true .int a,.sl true .int w,.sl true .int b]∧o=[]):=by
 refine FunA.walk B_ok (fn:=Tryz.f26) (fun vs w=>Tryz.call26 vs w) Tryz.func26 rfl (by rw [Tryz.ntmps26];simp) (fun C hC hP hT hΓ hbt hfn hpin hfin=>?_);have hX:=BX;rw [← hΓ,← hbt.1,← hbt.2.1,← hbt.2.2.1]at hX;rw [hT]at hX;rw [Tryz.ntmps26];simp only [AW7,simprocAttr,hX]
 refine Run.R ?_
 refine Run.nq ?_;refine Run.regionW hC (fun K hK=>?_);refine wW ?_
 refine ACall.new hP (by omega) fun s=>?_
 refine wW ?_
 refine wE ?_;clear hK K
 refine Run.nq ?_;refine Run.regionW hC (fun K hK=>?_);refine wW ?_
 refine FunA.cW hP hT (c_l16Draw code hl) ?_
 rintro rs o ⟨c,u,v,⟨c1,c2⟩,hu,hv,rfl,rfl⟩
 refine wW ?_
 refine wE ?_;clear hK K
 refine Run.reK hpin [6,7,8,9] [0] (by decide) (by simp) ?_;simp only [AR,AW7,simprocAttr]
 refine Run.nq ?_;refine Run.regionW hC (fun K hK=>?_);refine wW ?_
 refine FunO.callCur hP hT (c_l3Some s c.length (by omega)) 0 0 (by first | rfl | (simp only [AW7,simprocAttr];done) | (simp only [AW7,simprocAttr];rfl)) (by simp only [AW7,simprocAttr]) ?_
 rintro rs o' obs' ⟨b,nn,hbl,rfl,rfl,ho⟩
 injection ho with ho1 ho2;subst ho1 ho2
 refine wW ?_
 refine wE ?_;clear hK K
 refine Run.reK hpin [2,3,4,5] [1] (by decide) (by simp) ?_;simp only [AR,AW7,simprocAttr]
 refine Run.letgoK 0 [2,3,4,5] rfl ?_;simp only [AL,frV_cons,frV_nil,AW7,simprocAttr]
 refine Run.reK hpin [2,3,4,5] [] (by decide) (by simp) ?_;simp only [AR,AW7,simprocAttr]
 refine Run.rW [2,3,4,5] (hfin _ _ rfl rfl ?_)
 exact⟨c,u,v,b,⟨c1,c2⟩,hu,hv,by omega,rfl,rfl⟩
theorem c_DrawCosetLeaders (code:List Int) (hl:code.length≤1048576):FunA B 20 [.sl false .byte code] (fun rs o=>∃ c u,(1≤c.length∧c.length≤5)∧u.length≤6∧rs=[.sl true (.row true) c,.sl true .int u]∧o=[]):=by
 refine FunA.walk B_ok (fn:=Tryz.f20) (fun vs w=>Tryz.call20 vs w) Tryz.func20 rfl (by rw [Tryz.ntmps20];simp) (fun C hC hP hT hΓ hbt hfn hpin hfin=>?_);have hX:=BX;rw [← hΓ,← hbt.1,← hbt.2.1,← hbt.2.2.1]at hX;rw [hT]at hX;rw [Tryz.ntmps20];simp only [AW7,simprocAttr,hX]
 refine Run.R ?_
 refine Run.nq ?_;refine Run.regionW hC (fun K hK=>?_);refine wW ?_
 refine ACall.new hP (by omega) fun s=>?_
 refine wW ?_
 refine wE ?_;clear hK K
 refine Run.nq ?_;refine Run.regionW hC (fun K hK=>?_);refine wW ?_
 refine FunO.callCur hP hT (c_l13Finite s) 0 0 (by first | rfl | (simp only [AW7,simprocAttr];done) | (simp only [AW7,simprocAttr];rfl)) (by simp only [AW7,simprocAttr]) ?_
 rintro rs o' obs' ⟨c,g,nn,⟨c1,c2⟩,rfl,rfl,ho⟩
 injection ho with ho1 ho2;subst ho1 ho2
 refine wW ?_
 refine wE ?_;clear hK K
 refine Run.nq ?_;refine Run.regionW hC (fun K hK=>?_);refine wW ?_
 refine FunO.callCur hP hT (c_l3Some s c.length (by omega)) 0 0 (by first | rfl | (simp only [AW7,simprocAttr];done) | (simp only [AW7,simprocAttr];rfl)) (by simp only [AW7,simprocAttr]) ?_
 rintro rs o' obs' ⟨u,nn,hul,rfl,rfl,ho⟩
 injection ho with ho1 ho2;subst ho1 ho2
 refine wW ?_
 refine wE ?_;clear hK K
 refine Run.reK hpin [2,3] [1,2] (by decide) (by simp) ?_;simp only [AR,AW7,simprocAttr]
 refine Run.letgoK 0 [2,3] rfl ?_;simp only [AL,frV_cons,frV_nil,AW7,simprocAttr]
 refine Run.letgoK 1 [2,3] rfl ?_;simp only [AL,frV_cons,frV_nil,AW7,simprocAttr]
 refine Run.reK hpin [2,3] [] (by decide) (by simp) ?_;simp only [AR,AW7,simprocAttr]
 refine Run.rW [2,3] (hfin _ _ rfl rfl ?_)
 exact⟨c,u,⟨c1,c2⟩,by omega,rfl,rfl⟩
end Go.Proofs.YtcinngodeoidnaaGreatDoor
namespace Go.Proofs.YtcinngodeoidnaaGreatDoor
open Go Go.Aw Go.Cox
def lonL (c:List (List Int)):List Int:=nfL c 31 (negs c.length)
theorem lon_far {c:List (List Int)} (hF:FinP c):∃ L,L≤24∧Far c L (negs c.length):=(fin_all hF).1
theorem lon_spec {c:List (List Int)} (hF:FinP c):(lonL c).length≤24∧letters c.length (lonL c):=by
 obtain⟨L,h1,h2⟩:=lon_far hF
 obtain⟨a,b,_⟩:=nfL_far hF.1 31 L h2 (by omega)
 exact⟨by unfold lonL;omega,b⟩
theorem negs_set (n m:Nat) (h:m < n):(List.replicate m (-1:Int) ++ List.replicate (n - m) 1).set m (-1)=List.replicate (m+1) (-1) ++ List.replicate (n - (m+1)) 1:=by
 rw [List.set_append,if_neg (by simp)]
 simp only [List.length_replicate,Nat.sub_self]
 rw [show n - m=(n - (m+1))+1 by omega,List.replicate_succ,List.set_cons_zero,List.replicate_succ' (n:=m)]
 simp
theorem c_impl_longestElement (c:List (List Int)) (hF:FinP c):FunA B 133 [.sl false (.row false) c] (fun rs o=>rs=[.own 0 0]∧o=[.arr .int (lonL c) 0 true]):=by
 obtain⟨L,hL,hfar⟩:=lon_far hF
 have hc:=hF.1
 have hn:=hc.2.1
 refine FunA.walk B_ok (fn:=Tryz.f133) (fun vs w=>Tryz.call133 vs w) Tryz.func133 rfl (by rw [Tryz.ntmps133];simp) (fun C hC hP hT hΓ hbt hfn hpin hfin=>?_);have hX:=BX;rw [← hΓ,← hbt.1,← hbt.2.1,← hbt.2.2.1]at hX;rw [hT]at hX;rw [Tryz.ntmps133];simp only [AW7,simprocAttr,hX]
 refine Run.R ?_
 refine Run.nq ?_;refine Run.regionW hC (fun K hK=>?_);refine wW ?_
 refine FunA.cW hP hT (c_impl_ones c.length (by omega)) ?_
 rintro rs o ⟨rfl,rfl⟩
 refine wW ?_
 refine wE ?_;clear hK K
 refine Run.R ?_
 rw [ones_length]
 refine Run.le (Le.sub (fr':=[(0,true,.v (.sl false (.row false) c)),(2,true,.v .nils),(3,true,.v (.own 0 0)),(8,true,.v (.own 0 0)),(9,true,.v (.int .i64 c.length)),(10,true,.v (.int .i64 (0:Nat)))]) rfl (by simp only [AW7,simprocAttr];try simp)) ?_
 refine Run.loopI (X:=Nat) (fun m=>⟨20,[(0,true,.v (.sl false (.row false) (c))),(2,true,.v (.nils)),(3,true,.v (.own 0 0)),(9,true,.v (.int .i64 (c.length))),(10,true,.v (.int .i64 (m)))],[.arr .int ((List.replicate m (-1) ++ List.replicate (c.length - m) 1)) 0 true]⟩) (fun m=>m≤c.length) (fun m=>c.length - m) (0) (Nat.zero_le _) ?_ ?_
 ·exact Le.sub (by first | rfl | simp) (by simp only [AW7,simprocAttr,hX];try simp<;>try(first | rfl | exact⟨rfl,rfl⟩ | exact⟨rfl,rfl,rfl⟩))
 rintro m hm ih
 try simp only []
 refine Run.R ?_
 refine Run.nq ?_;refine Run.cW ?_ ?_
 ·intro h
  have h:m < c.length:=by simpa using h
  have hs:=negs_set c.length m h
  refine Run.R ?_
  refine Run.R ?_
  rw [hs]
  refine Run.RW ?_
  refine Run.le ?_ (ih (m+1) (by omega) (by omega))
  exact Le.sub (by rfl) (by simp only [AW7,simprocAttr];try simp)
 ·intro h
  have h:m=c.length:=by simp at h;omega
  subst h
  rw [show List.replicate c.length (-1:Int) ++ List.replicate (c.length - c.length) 1=negs c.length by simp [negs]]
  refine Run.exit rfl ?_;refine Run.nq ?_
  refine Run.nq ?_;refine Run.regionW hC (fun K hK=>?_);refine wW ?_
  refine FunA.cW hP hT (c_impl_normal c (negs c.length) L hc hfar (by omega)) ?_
  rintro rs o ⟨rfl,rfl⟩
  refine wW ?_
  refine wE ?_;clear hK K
  refine Run.reK hpin [2] [1] (by decide) (by simp) ?_;simp only [AR,AW7,simprocAttr]
  refine Run.rW [2] (hfin _ _ rfl rfl ?_)
  exact⟨rfl,rfl⟩
noncomputable def lonE (c:List (List Int)):List Int:=if isF c then lonL c else []
theorem lonE_le (c:List (List Int)):(lonE c).length≤24:=by
 unfold lonE;split
 ·rename_i h;exact(lon_spec (isF_iff.1 h)).1
 ·simp
theorem c_impl_LongestElement (c:List (List Int)):FunA B 82 [.sl false (.row false) c] (fun rs o=>rs=[.own 0 0,.bool (isF c)]∧o=[.arr .int (lonE c) 0 true]):=by
 refine FunA.walk B_ok (fn:=Tryz.f82) (fun vs w=>Tryz.call82 vs w) Tryz.func82 rfl (by rw [Tryz.ntmps82];simp) (fun C hC hP hT hΓ hbt hfn hpin hfin=>?_);have hX:=BX;rw [← hΓ,← hbt.1,← hbt.2.1,← hbt.2.2.1]at hX;rw [hT]at hX;rw [Tryz.ntmps82];simp only [AW7,simprocAttr,hX]
 refine Run.R ?_
 refine Run.nq ?_;refine Run.regionW hC (fun K hK=>?_);refine wW ?_
 refine FunA.cW hP hT (c_impl_IsFinite c) ?_
 rintro rs o ⟨rfl,rfl⟩
 refine wW ?_
 refine wE ?_;clear hK K
 refine Run.nq ?_;refine Run.cW ?_ ?_
 ·intro h
  have h:isF c=false:=by simpa using h
  refine Run.R ?_
  refine Run.rW [2,3] (hfin _ _ rfl rfl ?_)
  simp [lonE,h]
 ·intro h
  have h:isF c=true:=by simpa using h
  refine Run.nq ?_;refine Run.regionW hC (fun K hK=>?_);refine wW ?_
  refine FunA.cW hP hT (c_impl_longestElement c (isF_iff.1 h)) ?_
  rintro rs o ⟨rfl,rfl⟩
  refine wW ?_
  refine wE ?_;clear hK K
  refine Run.rW [2,3] (hfin _ _ rfl rfl ?_)
  simp [lonE,h]
theorem c_spec_LongestElement (c:List (List Int)):FunA B 84 [.sl false (.row false) c] (fun rs o=>rs=[.own 0 0,.bool (isF c)]∧o=[.arr .int (lonE c) 0 true]):=by
 refine FunA.walk B_ok (fn:=Tryz.f84) (fun vs w=>Tryz.call84 vs w) Tryz.func84 rfl (by rw [Tryz.ntmps84];simp) (fun C hC hP hT hΓ hbt hfn hpin hfin=>?_);have hX:=BX;rw [← hΓ,← hbt.1,← hbt.2.1,← hbt.2.2.1]at hX;rw [hT]at hX;rw [Tryz.ntmps84];simp only [AW7,simprocAttr,hX]
 refine Run.R ?_
 refine Run.nq ?_;refine Run.regionW hC (fun K hK=>?_);refine wW ?_
 refine FunA.cW hP hT (c_spec_IsFinite c) ?_
 rintro rs o ⟨rfl,rfl⟩
 refine wW ?_
 refine wE ?_;clear hK K
 refine Run.nq ?_;refine Run.cW ?_ ?_
 ·intro h
  have h:isF c=false:=by simpa using h
  refine Run.R ?_
  refine Run.rW [2,3] (hfin _ _ rfl rfl ?_)
  simp [lonE,h]
 ·intro h
  have h:isF c=true:=by simpa using h
  have hF:=isF_iff.1 h
  obtain⟨L,hL,hfar⟩:=lon_far hF
  have hc:=hF.1
  have hn:=hc.2.1
  refine Run.R ?_
  refine Run.R ?_
  refine Run.loopI (X:=Nat) (fun m=>⟨23,[(0,true,.v (.sl false (.row false) (c))),(2,true,.v (.nils)),(3,true,.v (.bool (false))),(4,true,.v (.own 0 0)),(5,true,.v (.int .i64 (m)))],[.arr .int ((List.replicate m (-1))) 0 true]⟩) (fun m=>m≤c.length) (fun m=>c.length - m) (0) (Nat.zero_le _) ?_ ?_
  ·exact Le.sub (by first | rfl | simp) (by simp only [AW7,simprocAttr,hX];try simp<;>try(first | rfl | exact⟨rfl,rfl⟩ | exact⟨rfl,rfl,rfl⟩))
  rintro m hm ih
  try simp only []
  refine Run.R ?_
  refine Run.nq ?_;refine Run.cW ?_ ?_
  ·intro h
   have h:m < c.length:=by simpa using h
   have hs:List.replicate m (-1:Int) ++ [-1]=List.replicate (m+1) (-1):=by rw [List.replicate_succ']
   have hrl:(List.replicate m (-1:Int)).length=m:=by simp
   refine Run.R ?_
   rw [hs]
   refine Run.RW ?_
   refine Run.reK hpin [0,2,3,4,5] [0] (by decide) (by simp) ?_;simp only [AR,AW7,simprocAttr]
   refine Run.le ?_ (ih (m+1) (by omega) (by omega))
   exact Le.sub (by rfl) (by simp only [AW7,simprocAttr];try simp)
  ·intro h2
   have h2:m=c.length:=by simp at h2;omega
   subst h2
   refine Run.exit rfl ?_;refine Run.nq ?_
   refine Run.nq ?_;refine Run.regionW hC (fun K hK=>?_);refine wW ?_
   refine FunA.callW hP hT (c_spec_l8Form c (negs c.length) L hc hfar (by omega)) (by simp only [AW7,simprocAttr];simp [negs]) ?_
   rintro rs o ⟨rfl,rfl⟩
   refine wW ?_
   refine wE ?_;clear hK K
   refine Run.reK hpin [2,3] [1] (by decide) (by simp) ?_;simp only [AR,AW7,simprocAttr]
   refine Run.rW [2,3] (hfin _ _ rfl rfl ?_)
   simp [lonE,h,lonL]
theorem pick_ent {c:List (List Int)} {s:List Int} {i j:Nat} (hi:i < s.length) (hj:j < s.length):ent (pick c s) i j=ent c (s.getD i 0).toNat (s.getD j 0).toNat:=by
 simp [ent,pick,List.getD_eq_getElem?_getD,hi,hj]
theorem pick_cartan {c:List (List Int)} (hc:CartanP c) {s:List Int} (hs:setP c.length s) (hne:s≠[]):CartanP (pick c s):=by
 have hl:=set_len hs
 have hn:=hc.2.1
 have hp:0 < s.length:=List.length_pos_iff.2 hne
 have e:(pick c s).length=s.length:=by simp [pick]
 refine⟨by omega,by omega,fun i hi=>?_,fun i j hi hj hb=>?_⟩
 ·rw [e]at hi ⊢
  simp [pick,List.getD_eq_getElem?_getD,hi]
 ·rw [e]at hi hj
  obtain⟨a1,a2,_⟩:=hs i hi
  obtain⟨b1,b2,_⟩:=hs j hj
  refine hc.2.2.2 (s.getD i 0).toNat (s.getD j 0).toNat (by omega) (by omega) ?_
  rcases hb with⟨h1,h2⟩ | ⟨h1,h2⟩
  ·refine .inl ⟨by rw [h1],?_⟩
   rwa [pick_ent hi hj]at h2
  ·refine .inr ⟨fun h=>?_,?_⟩
   ·rcases Nat.lt_or_ge i j with q | q
    ·have:=setP_mono hs i j q hj;omega
    ·have:=setP_mono hs j i (by omega) hi;omega
   ·rwa [pick_ent hi hj,pick_ent hj hi]at h2
noncomputable def lonOB (c:List (List Int)) (s:List Int):Bool:=isSetB c s && (decide (s=[]) || isF (pick c s))
noncomputable def lonO (c:List (List Int)) (s:List Int):List Int:=if lonOB c s then(if s=[]then [] else(lonL (pick c s)).map fun i=>s.getD i.toNat 0)else []
theorem lonO_le (c:List (List Int)) (s:List Int):(lonO c s).length≤24:=by
 unfold lonO
 split
 ·rename_i h
  split
  ·simp
  ·rename_i h2
   unfold lonOB at h
   simp [h2]at h
   simpa using (lon_spec (isF_iff.1 h.2)).1
 ·simp
theorem map_set {f:Int→Int} (l:List Int) (m:Nat) (h:m < l.length):((l.take m).map f ++ l.drop m).set m (f (l.getD m 0))=(l.take (m+1)).map f ++ l.drop (m+1):=by
 rw [← take_snoc 0 l m h,List.set_append,if_neg (by simp;omega)]
 have:l.drop m=l.getD m 0 :: l.drop (m+1):=by
  rw [List.drop_eq_getElem_cons h];simp [List.getD_eq_getElem?_getD,h]
 rw [this]
 simp [Nat.min_eq_left (Nat.le_of_lt h)]
theorem map_get {f:Int→Int} (l:List Int) (m:Nat) (h:m < l.length):((l.take m).map f ++ l.drop m).getD m 0=l.getD m 0:=by
 simp [List.getD_eq_getElem?_getD,List.getElem?_append_right,Nat.min_eq_left (Nat.le_of_lt h),List.getElem?_drop]
theorem c_impl_LongestOf (c:List (List Int)) (s:List Int) (hcl:c.length≤1048576) :
  FunA B 30 [.sl false (.row false) c,.sl false .int s] (fun rs o=>rs=[.own 0 0,.bool (lonOB c s)]∧o=[.arr .int (lonO c s) 0 true]):=by
 refine FunA.walk B_ok (fn:=Tryz.f30) (fun vs w=>Tryz.call30 vs w) Tryz.func30 rfl (by rw [Tryz.ntmps30];simp) (fun C hC hP hT hΓ hbt hfn hpin hfin=>?_);have hX:=BX;rw [← hΓ,← hbt.1,← hbt.2.1,← hbt.2.2.1]at hX;rw [hT]at hX;rw [Tryz.ntmps30];simp only [AW7,simprocAttr,hX]
 refine Run.R ?_
 refine Run.nq ?_;refine Run.regionW hC (fun K hK=>?_);refine wW ?_
 refine FunA.cW hP hT (c_impl_IsSet c s hcl) ?_
 rintro rs o ⟨rfl,rfl⟩
 refine wW ?_
 refine wE ?_;clear hK K
 refine Run.nq ?_;refine Run.cW ?_ ?_
 ·intro h
  have h:isSetB c s=false:=by simpa using h
  refine Run.R ?_
  refine Run.rW [4,5] (hfin _ _ rfl rfl ?_)
  simp [lonO,lonOB,h]
 intro h
 have hset:isSetB c s=true:=by simpa using h
 clear h
 have hset2:=hset
 unfold isSetB at hset2
 simp only [Bool.and_eq_true]at hset2
 have hc:=isC_iff.1 hset2.1
 have hs:=setB_iff.1 hset2.2
 have hn:=hc.2.1
 have hl:=set_len hs
 have hlet:=set_letters hs
 refine Run.R ?_
 refine Run.nq ?_;refine Run.cW ?_ ?_
 ·intro h
  have h:s=[]:=by simpa using h
  refine Run.R ?_
  refine Run.rW [4,5] (hfin _ _ rfl rfl ?_)
  simp [lonO,lonOB,h]
  rw [← h];exact hset
 intro h
 have hne:s≠[]:=by simpa using h
 clear h
 have hlo:lonOB c s=isF (pick c s):=by simp [lonOB,hset,hne]
 refine Run.nq ?_;refine Run.regionW hC (fun K hK=>?_);refine wW ?_
 refine FunA.cW hP hT (c_impl_picked c s hn hc.2.2.1 hlet (by omega)) ?_
 rintro rs o ⟨rfl,ys,hy,rfl⟩
 refine wW ?_
 refine FunA.callW hP hT (c_impl_LongestElement (pick c s)) (by simp only [AW7,simprocAttr];exact hy.symm) ?_
 rintro rs o ⟨rfl,rfl⟩
 refine wW ?_
 refine wE ?_;clear hK K
 refine Run.R ?_
 have hle:=lonE_le (pick c s)
 have hlt:∀ k,k < (lonE (pick c s)).length→0≤(lonE (pick c s)).getD k 0∧(lonE (pick c s)).getD k 0 < s.length:=by
  intro k hk
  have hm:=getD_mem hk
  revert hm
  generalize (lonE (pick c s)).getD k 0=x
  unfold lonE
  split
  ·rename_i hf
   intro hm
   have:=(lon_spec (isF_iff.1 hf)).2 x hm
   simpa [pick] using this
  ·intro hm;simp at hm
 refine Run.reK hpin [0,1,4,5,6,7,26,27,28] [1] (by decide) (by simp) ?_;simp only [AR,AW7,simprocAttr]
 refine Run.le (Le.sub (fr':=[(0,true,.v (.sl false (.row false) c)),(1,true,.v (.sl false .int s)),(4,true,.v .nils),(5,true,.v (.bool false)),(6,true,.v (.own 0 0)),(7,true,.v (.bool (isF (pick c s)))),(26,true,.v (.own 0 0)),(27,true,.v (.int .i64 (lonE (pick c s)).length)),(28,true,.v (.int .i64 (0:Nat)))]) rfl (by simp only [AW7,simprocAttr];try simp)) ?_
 refine Run.loopI (X:=Nat) (fun m=>⟨43,[(0,true,.v (.sl false (.row false) (c))),(1,true,.v (.sl false .int (s))),(4,true,.v (.nils)),(5,true,.v (.bool (false))),(6,true,.v (.own 0 0)),(7,true,.v (.bool ((isF (pick c s))))),(26,true,.v (.own 0 0)),(27,true,.v (.int .i64 ((lonE (pick c s)).length))),(28,true,.v (.int .i64 (m)))],[.arr .int ((((lonE (pick c s)).take m).map (fun i=>s.getD i.toNat 0) ++ (lonE (pick c s)).drop m)) 0 true]⟩) (fun m=>m≤(lonE (pick c s)).length) (fun m=>(lonE (pick c s)).length - m) (0) (Nat.zero_le _) ?_ ?_
 ·exact Le.sub (by first | rfl | simp) (by simp only [AW7,simprocAttr,hX];try simp<;>try(first | rfl | exact⟨rfl,rfl⟩ | exact⟨rfl,rfl,rfl⟩))
 rintro m hm ih
 try simp only []
 have hml:(((lonE (pick c s)).take m).map (fun i=>s.getD i.toNat 0) ++ (lonE (pick c s)).drop m).length=(lonE (pick c s)).length:=by simp;omega
 refine Run.R ?_
 refine Run.nq ?_;refine Run.cW ?_ ?_
 ·intro h
  have h:m < (lonE (pick c s)).length:=by simpa using h
  obtain⟨a1,a2⟩:=hlt m h
  have h1:=map_get (f:=fun i=>s.getD i.toNat 0) (lonE (pick c s)) m h
  have h2:=map_set (f:=fun i=>s.getD i.toNat 0) (lonE (pick c s)) m h
  refine Run.R ?_
  rw [h1]
  refine Run.R ?_
  rw [h2]
  refine Run.RW ?_
  refine Run.le ?_ (ih (m+1) (by omega) (by omega))
  exact Le.sub (by rfl) (by simp only [AW7,simprocAttr];try simp)
 ·intro h
  have h:m=(lonE (pick c s)).length:=by simp at h;omega
  subst h
  refine Run.exit rfl ?_;refine Run.nq ?_
  refine Run.R ?_
  refine Run.rW [4,5] (hfin _ _ rfl rfl ?_)
  have he:lonO c s=((lonE (pick c s)).take (lonE (pick c s)).length).map (fun i=>s.getD i.toNat 0) ++ (lonE (pick c s)).drop (lonE (pick c s)).length:=by
   rw [List.take_length,List.drop_length,List.append_nil]
   unfold lonO lonE
   rw [hlo]
   split<;>first | rfl | rw [if_neg hne]
  exact⟨by rw [hlo],by rw [he]⟩
theorem c_spec_LongestOf (c:List (List Int)) (s:List Int) (hcl:c.length≤1048576) :
  FunA B 31 [.sl false (.row false) c,.sl false .int s] (fun rs o=>rs=[.own 0 0,.bool (lonOB c s)]∧o=[.arr .int (lonO c s) 0 true]):=by
 refine FunA.walk B_ok (fn:=Tryz.f31) (fun vs w=>Tryz.call31 vs w) Tryz.func31 rfl (by rw [Tryz.ntmps31];simp) (fun C hC hP hT hΓ hbt hfn hpin hfin=>?_);have hX:=BX;rw [← hΓ,← hbt.1,← hbt.2.1,← hbt.2.2.1]at hX;rw [hT]at hX;rw [Tryz.ntmps31];simp only [AW7,simprocAttr,hX]
 refine Run.R ?_
 refine Run.nq ?_;refine Run.regionW hC (fun K hK=>?_);refine wW ?_
 refine FunA.cW hP hT (c_spec_l3Set c s hcl) ?_
 rintro rs o ⟨rfl,rfl⟩
 refine wW ?_
 refine wE ?_;clear hK K
 refine Run.nq ?_;refine Run.cW ?_ ?_
 ·intro h
  have h:isSetB c s=false:=by simpa using h
  refine Run.R ?_
  refine Run.rW [4,5] (hfin _ _ rfl rfl ?_)
  simp [lonO,lonOB,h]
 intro h
 have hset:isSetB c s=true:=by simpa using h
 clear h
 have hset2:=hset
 unfold isSetB at hset2
 simp only [Bool.and_eq_true]at hset2
 have hc:=isC_iff.1 hset2.1
 have hs:=setB_iff.1 hset2.2
 have hn:=hc.2.1
 have hl:=set_len hs
 have hlet:=set_letters hs
 refine Run.R ?_
 refine Run.nq ?_;refine Run.cW ?_ ?_
 ·intro h
  have h:s=[]:=by simpa using h
  refine Run.R ?_
  refine Run.rW [4,5] (hfin _ _ rfl rfl ?_)
  simp [lonO,lonOB,h]
  rw [← h];exact hset
 intro h
 have hne:s≠[]:=by simpa using h
 clear h
 have hlo:lonOB c s=isF (pick c s):=by simp [lonOB,hset,hne]
 refine Run.nq ?_;refine Run.regionW hC (fun K hK=>?_);refine wW ?_
 refine FunA.cW hP hT (c_spec_SubCartan c s hc hs hne) ?_
 rintro rs o ⟨rfl,ys,hy,rfl⟩
 refine wW ?_
 refine wE ?_;clear hK K
 refine Run.nq ?_;refine Run.regionW hC (fun K hK=>?_);refine wW ?_
 refine FunA.callW hP hT (c_spec_LongestElement (pick c s)) (by simp only [AW7,simprocAttr];exact hy.symm) ?_
 rintro rs o ⟨rfl,rfl⟩
 refine wW ?_
 refine wE ?_;clear hK K
 refine Run.keep [0,1,4,5,6,7,8,9] ?_;simp only [AK,Nat.reduceBEq]
 refine Run.R ?_
 refine Run.nq ?_;refine Run.cW ?_ ?_
 ·intro h
  have h:isF (pick c s)=false:=by simpa using h
  refine Run.R ?_
  refine Run.reK hpin [4,5] [2] (by decide) (by simp) ?_;simp only [AR,AW7,simprocAttr]
  refine Run.rW [4,5] (hfin _ _ rfl rfl ?_)
  simp [lonO,hlo,h]
 intro h
 have hf:isF (pick c s)=true:=by simpa using h
 clear h
 have hlon:lonE (pick c s)=lonL (pick c s):=by simp [lonE,hf]
 rw [hlon]
 obtain⟨hle,hlt⟩:=lon_spec (isF_iff.1 hf)
 have hpl:(pick c s).length=s.length:=by simp [pick]
 rw [hpl]at hlt
 refine Run.R ?_
 refine Run.R ?_
 refine Run.reK hpin [0,1,4,5,8,10,11] [1,2] (by decide) (by simp) ?_;simp only [AR,AW7,simprocAttr]
 refine Run.loopI (X:=Nat) (fun m=>⟨53,[(0,true,.v (.sl false (.row false) (c))),(1,true,.v (.sl false .int (s))),(4,true,.v (.nils)),(5,true,.v (.bool (false))),(8,true,.v (.own 0 0)),(10,true,.v (.own 1 0)),(11,true,.v (.int .i64 (m)))],[.arr .int ((lonL (pick c s))) 0 true,.arr .int ((((lonL (pick c s)).take m).map fun i=>s.getD i.toNat 0)) 0 true]⟩) (fun m=>m≤(lonL (pick c s)).length) (fun m=>(lonL (pick c s)).length - m) (0) (Nat.zero_le _) ?_ ?_
 ·exact Le.sub (by first | rfl | simp) (by simp only [AW7,simprocAttr,hX];try simp<;>try(first | rfl | exact⟨rfl,rfl⟩ | exact⟨rfl,rfl,rfl⟩))
 rintro m hm ih
 try simp only []
 refine Run.R ?_
 refine Run.nq ?_;refine Run.cW ?_ ?_
 ·intro h
  have h:m < (lonL (pick c s)).length:=by simpa using h
  obtain⟨a1,a2⟩:=letters_getD.1 hlt m h
  have h1:=map_snoc (fun i=>s.getD i.toNat 0) (lonL (pick c s)) 0 m h
  refine Run.R ?_
  rw [h1]
  refine Run.RW ?_
  refine Run.reK hpin [0,1,4,5,8,10,11] [0,1] (by decide) (by simp) ?_;simp only [AR,AW7,simprocAttr]
  refine Run.le ?_ (ih (m+1) (by omega) (by omega))
  exact Le.sub (by rfl) (by simp only [AW7,simprocAttr];try simp)
 ·intro h
  have h:m=(lonL (pick c s)).length:=by simp at h;omega
  subst h
  refine Run.exit rfl ?_;refine Run.nq ?_
  refine Run.R ?_
  refine Run.reK hpin [4,5] [1] (by decide) (by simp) ?_;simp only [AR,AW7,simprocAttr]
  refine Run.rW [4,5] (hfin _ _ rfl rfl ?_)
  simp [lonO,hlo,hf,hne]
end Go.Proofs.YtcinngodeoidnaaGreatDoor
namespace Go.Proofs.YtcinngodeoidnaaGreatDoor
open Go Go.Aw Go.Cox
def cI (rows:List (List Nat)):List (List Int):=rows.zipIdx.map fun r=>r.1.zipIdx.map fun x=>if x.2=r.2 then 2 else -(x.1:Int)
def finCR:Nat→List (List (List Nat)×List (List Nat))
 | 1=>[([[0]],[[0]])]
 | 2=>prN.map fun p=>([[0,p.2],[p.1,0]],[[0,p.1],[p.2,0]])
 | 3=>prN.flatMap fun p=>prN.flatMap fun q=>(prN.filter fun r=>d3 p q r).map fun r=>(col3 p q r,row3 p q r)
 | 4=>prN.flatMap fun p=>prN.flatMap fun q=>(prN.filter fun r=>d3 p q r).flatMap fun r=>prN.flatMap fun s=>(prN.filter fun t=>d3 p s t).flatMap fun t=>(prN.filter fun u=>d3 q s u && d3 r t u && d4 p q r s t u).map fun u=>(col4 p q r s t u,row4 p q r s t u)
 | _=>[]
def finM (n:Nat):List (List (List Int)):=(finCR n).map fun x=>cI x.2
theorem fits_eq {c:List (List Int)} (hc:CartanP c) {cols rows:List (List Nat)} (h:Fits c cols rows):c=cI rows:=by
 have hA:=matA_cartan hc
 have hrow:=hc.2.2.1
 apply List.ext_getElem (by simp [cI,h.rl])
 intro i h1 h2
 have hr:=(h.cr i h1).2.1
 have hrl:i < rows.length:=by rw [h.rl];exact h1
 have hr':rows[i].length=c.length:=by rw [← hr,List.getD_eq_getElem?_getD,List.getElem?_eq_getElem hrl];rfl
 have hci:c[i].length=c.length:=by have:=hrow i h1;rwa [List.getD_eq_getElem?_getD,List.getElem?_eq_getElem h1]at this
 apply List.ext_getElem (by simp [cI,hr',hci])
 intro k k1 k2
 have hk:k < c.length:=by omega
 have e1:c[i][k]=ent c i k:=by simp [ent,List.getD_eq_getElem?_getD,h1,k1]
 rw [e1]
 have e2:(cI rows)[i][k]=if k=i then 2 else -((rows[i]'hrl)[k]'(by omega):Int):=by simp [cI]
 rw [e2]
 by_cases hki:k=i
 ·subst hki;rw [if_pos rfl];exact hA.diag k hk
 ·rw [if_neg hki,(h.ce i k h1 hk hki).2]
  simp [List.getD_eq_getElem?_getD,hrl,show k < rows[i].length by omega]
theorem fin_rows {c:List (List Int)} (hF:FinP c):∃ cols rows,Fits c cols rows∧(cols,rows)∈finCR c.length:=by
 obtain⟨hc,hm⟩:=hF
 have hA:=matA_cartan hc
 have dg:∀ i,i < c.length→ent c i i=2:=fun i hi=>hA.diag i hi
 have hn1:=hc.1
 have hn4:=hc.2.1
 have h1:c.length=1∨c.length=2∨c.length=3∨c.length=4:=by omega
 rcases h1 with hn | hn | hn | hn
 ·refine⟨[[0]],[[0]],⟨by rw [hn];rfl,by rw [hn];rfl,fun i hi=>?_,fun i k hi hk hki=>by omega⟩,by rw [hn];exact List.mem_cons_self ..⟩
  have:i=0:=by omega
  subst this
  rw [hn];exact⟨rfl,rfl,rfl⟩
 ·obtain⟨p,hp,p1,p2⟩:=pair_of hc (i:=0) (j:=1) (by omega) (by omega) (by decide) (by have:=hm 3 (by omega) (by rw [hn];decide);rw [show mn c 3=detN 2 (pick c [0,1])from rfl,mn2]at this;exact this)
  refine⟨[[0,p.2],[p.1,0]],[[0,p.1],[p.2,0]],⟨by rw [hn];rfl,by rw [hn];rfl,fun i hi=>?_,fun i k hi hk hki=>?_⟩,by rw [hn];exact List.mem_map.2 ⟨p,hp,rfl⟩⟩
  ·rw [hn]at hi ⊢
   rcases(show i=0∨i=1 by omega)with rfl | rfl<;>exact⟨rfl,rfl,rfl⟩
  ·rw [hn]at hi hk
   rcases(show i=0∨i=1 by omega)with rfl | rfl<;>rcases(show k=0∨k=1 by omega)with rfl | rfl<;>first | (exact absurd rfl hki) | exact⟨p2,p1⟩ | exact⟨p1,p2⟩
 ·obtain⟨p,hp,p1,p2⟩:=pair_of hc (i:=0) (j:=1) (by omega) (by omega) (by decide) (by have:=hm 3 (by omega) (by rw [hn];decide);rw [show mn c 3=detN 2 (pick c [0,1])from rfl,mn2]at this;exact this)
  obtain⟨q,hq,q1,q2⟩:=pair_of hc (i:=0) (j:=2) (by omega) (by omega) (by decide) (by have:=hm 5 (by omega) (by rw [hn];decide);rw [show mn c 5=detN 2 (pick c [0,2])from rfl,mn2]at this;exact this)
  obtain⟨r,hr,r1,r2⟩:=pair_of hc (i:=1) (j:=2) (by omega) (by omega) (by decide) (by have:=hm 6 (by omega) (by rw [hn];decide);rw [show mn c 6=detN 2 (pick c [1,2])from rfl,mn2]at this;exact this)
  have hd:d3 p q r=true:=d3_of (a:=ent c) (dg 0 (by omega)) (dg 1 (by omega)) (dg 2 (by omega)) p1 p2 q1 q2 r1 r2 (by have:=hm 7 (by omega) (by rw [hn];decide);rw [show mn c 7=detN 3 (pick c [0,1,2])from rfl,mn3]at this;exact this)
  refine⟨col3 p q r,row3 p q r,⟨by rw [hn];rfl,by rw [hn];rfl,fun i hi=>?_,fun i k hi hk hki=>?_⟩,?_⟩
  ·rw [hn]at hi ⊢
   rcases(show i=0∨i=1∨i=2 by omega)with rfl | rfl | rfl<;>exact⟨rfl,rfl,rfl⟩
  ·rw [hn]at hi hk
   rcases(show i=0∨i=1∨i=2 by omega)with rfl | rfl | rfl<;>rcases(show k=0∨k=1∨k=2 by omega)with rfl | rfl | rfl <;>
    first | (exact absurd rfl hki) | exact⟨p2,p1⟩ | exact⟨p1,p2⟩ | exact⟨q2,q1⟩ | exact⟨q1,q2⟩ | exact⟨r2,r1⟩ | exact⟨r1,r2⟩
  ·rw [hn]
   exact List.mem_flatMap.2 ⟨p,hp,List.mem_flatMap.2 ⟨q,hq,List.mem_map.2 ⟨r,List.mem_filter.2 ⟨hr,hd⟩,rfl⟩⟩⟩
 ·obtain⟨p,hp,p1,p2⟩:=pair_of hc (i:=0) (j:=1) (by omega) (by omega) (by decide) (by have:=hm 3 (by omega) (by rw [hn];decide);rw [show mn c 3=detN 2 (pick c [0,1])from rfl,mn2]at this;exact this)
  obtain⟨q,hq,q1,q2⟩:=pair_of hc (i:=0) (j:=2) (by omega) (by omega) (by decide) (by have:=hm 5 (by omega) (by rw [hn];decide);rw [show mn c 5=detN 2 (pick c [0,2])from rfl,mn2]at this;exact this)
  obtain⟨r,hr,r1,r2⟩:=pair_of hc (i:=1) (j:=2) (by omega) (by omega) (by decide) (by have:=hm 6 (by omega) (by rw [hn];decide);rw [show mn c 6=detN 2 (pick c [1,2])from rfl,mn2]at this;exact this)
  obtain⟨s,hs,s1,s2⟩:=pair_of hc (i:=0) (j:=3) (by omega) (by omega) (by decide) (by have:=hm 9 (by omega) (by rw [hn];decide);rw [show mn c 9=detN 2 (pick c [0,3])from rfl,mn2]at this;exact this)
  obtain⟨t,ht,t1,t2⟩:=pair_of hc (i:=1) (j:=3) (by omega) (by omega) (by decide) (by have:=hm 10 (by omega) (by rw [hn];decide);rw [show mn c 10=detN 2 (pick c [1,3])from rfl,mn2]at this;exact this)
  obtain⟨u,hu,u1,u2⟩:=pair_of hc (i:=2) (j:=3) (by omega) (by omega) (by decide) (by have:=hm 12 (by omega) (by rw [hn];decide);rw [show mn c 12=detN 2 (pick c [2,3])from rfl,mn2]at this;exact this)
  have g0:=dg 0 (by omega)
  have g1:=dg 1 (by omega)
  have g2:=dg 2 (by omega)
  have g3:=dg 3 (by omega)
  have ha:d3 p q r=true:=d3_of (a:=ent c) g0 g1 g2 p1 p2 q1 q2 r1 r2 (by have:=hm 7 (by omega) (by rw [hn];decide);rw [show mn c 7=detN 3 (pick c [0,1,2])from rfl,mn3]at this;exact this)
  have hb:d3 p s t=true:=d3_of (a:=ent c) g0 g1 g3 p1 p2 s1 s2 t1 t2 (by have:=hm 11 (by omega) (by rw [hn];decide);rw [show mn c 11=detN 3 (pick c [0,1,3])from rfl,mn3]at this;exact this)
  have hcc:d3 q s u=true:=d3_of (a:=ent c) g0 g2 g3 q1 q2 s1 s2 u1 u2 (by have:=hm 13 (by omega) (by rw [hn];decide);rw [show mn c 13=detN 3 (pick c [0,2,3])from rfl,mn3]at this;exact this)
  have hd:d3 r t u=true:=d3_of (a:=ent c) g1 g2 g3 r1 r2 t1 t2 u1 u2 (by have:=hm 14 (by omega) (by rw [hn];decide);rw [show mn c 14=detN 3 (pick c [1,2,3])from rfl,mn3]at this;exact this)
  have he:d4 p q r s t u=true:=by
   have:=hm 15 (by omega) (by rw [hn];decide)
   rw [show mn c 15=detN 4 (pick c [0,1,2,3])from rfl,mn4]at this
   unfold e3 at this
   rw [g0,g1,g2,g3,p1,p2,q1,q2,r1,r2,s1,s2,t1,t2,u1,u2]at this
   apply Nat.ble_eq_true_of_le
   refine Int.ofNat_le.1 ?_
   push_cast
   grind
  refine⟨col4 p q r s t u,row4 p q r s t u,⟨by rw [hn];rfl,by rw [hn];rfl,fun i hi=>?_,fun i k hi hk hki=>?_⟩,?_⟩
  ·rw [hn]at hi ⊢
   rcases(show i=0∨i=1∨i=2∨i=3 by omega)with rfl | rfl | rfl | rfl<;>exact⟨rfl,rfl,rfl⟩
  ·rw [hn]at hi hk
   rcases(show i=0∨i=1∨i=2∨i=3 by omega)with rfl | rfl | rfl | rfl<;>rcases(show k=0∨k=1∨k=2∨k=3 by omega)with rfl | rfl | rfl | rfl <;>
    first | (exact absurd rfl hki) | exact⟨p2,p1⟩ | exact⟨p1,p2⟩ | exact⟨q2,q1⟩ | exact⟨q1,q2⟩ | exact⟨r2,r1⟩ | exact⟨r1,r2⟩ | exact⟨s2,s1⟩ | exact⟨s1,s2⟩ | exact⟨t2,t1⟩ | exact⟨t1,t2⟩ | exact⟨u2,u1⟩ | exact⟨u1,u2⟩
  ·rw [hn]
   exact List.mem_flatMap.2 ⟨p,hp,List.mem_flatMap.2 ⟨q,hq,List.mem_flatMap.2 ⟨r,List.mem_filter.2 ⟨hr,ha⟩,List.mem_flatMap.2 ⟨s,hs,List.mem_flatMap.2 ⟨t,List.mem_filter.2 ⟨ht,hb⟩,List.mem_map.2 ⟨u,List.mem_filter.2 ⟨hu,by rw [hcc,hd,he];rfl⟩,rfl⟩⟩⟩⟩⟩⟩
theorem fin_mem {c:List (List Int)} (hF:FinP c):c∈finM c.length:=by
 obtain⟨cols,rows,h1,h2⟩:=fin_rows hF
 exact List.mem_map.2 ⟨(cols,rows),h2,(fits_eq hF.1 h1).symm⟩
theorem fin_chk {c:List (List Int)} (hF:FinP c) {chk:List (List Int)→Bool} (h1:(finM 1).all chk=true) (h2:(finM 2).all chk=true) (h3:(finM 3).all chk=true) (h4:(finM 4).all chk=true):chk c=true:=by
 have hm:=fin_mem hF
 have hn1:=hF.1.1
 have hn4:=hF.1.2.1
 rcases(show c.length=1∨c.length=2∨c.length=3∨c.length=4 by omega)with hn | hn | hn | hn<;>rw [hn]at hm
 ·exact List.all_eq_true.1 h1 c hm
 ·exact List.all_eq_true.1 h2 c hm
 ·exact List.all_eq_true.1 h3 c hm
 ·exact List.all_eq_true.1 h4 c hm
end Go.Proofs.YtcinngodeoidnaaGreatDoor
namespace Go.Proofs.YtcinngodeoidnaaGreatDoor
open Go Go.Aw
theorem cmpN_neg (p q:List Int):∀ n i,cmpN q p n i = - cmpN p q n i
 | 0,i=>rfl
 | n+1,i=>by
  have ih:=cmpN_neg p q n (i+1)
  simp only [cmpN]
  by_cases h1:p.getD i 0 < q.getD i 0
  ·rw [if_pos h1,if_neg (by omega),if_pos (by omega)];rfl
  ·by_cases h2:p.getD i 0 > q.getD i 0
   ·have h3:q.getD i 0 < p.getD i 0:=h2
    simp only [h1,h2,h3,if_true,if_false]
   ·rw [if_neg h1,if_neg h2,if_neg (by omega),if_neg (by omega)];exact ih
theorem cmpW_neg (p q:List Int):cmpW q p = - cmpW p q:=by
 unfold cmpW
 by_cases h1:p.length < q.length
 ·rw [if_pos h1,if_neg (by omega),if_pos (by omega)];rfl
 ·by_cases h2:p.length > q.length
  ·have h3:q.length < p.length:=h2
   simp only [h1,h2,h3,if_true,if_false]
  ·rw [if_neg h1,if_neg h2,if_neg (by omega),if_neg (by omega),show q.length=p.length by omega];exact cmpN_neg p q _ 0
def StrictW (l:List (List Int)):Prop:=l.Pairwise fun p q=>cmpW p q < 0
theorem StrictW.nil:StrictW []:=List.Pairwise.nil
theorem strict_ext:∀ {a b:List (List Int)},StrictW a→StrictW b→(∀ x,x∈a↔x∈b)→a=b
 | [],[],_,_,_=>rfl
 | [],y :: b,_,_,h=>by have:=(h y).2 (List.mem_cons_self ..);simp at this
 | x :: a,[],_,_,h=>by have:=(h x).1 (List.mem_cons_self ..);simp at this
 | x :: a,y :: b,ha,hb,h=>by
  obtain⟨ha1,ha2⟩:=List.pairwise_cons.1 ha
  obtain⟨hb1,hb2⟩:=List.pairwise_cons.1 hb
  have hxy:x=y:=by
   rcases List.mem_cons.1 ((h x).1 (List.mem_cons_self ..))with e | e
   ·exact e
   ·rcases List.mem_cons.1 ((h y).2 (List.mem_cons_self ..))with e2 | e2
    ·exact e2.symm
    ·have h1:=hb1 x e
     have h2:=ha1 y e2
     have:=cmpW_neg x y
     omega
  subst hxy
  have nx:∀ {l:List (List Int)},(∀ z∈l,cmpW x z < 0)→x∉l:=fun {l} hl hx=>by
   have:=hl x hx
   rw [cmpW_self]at this
   omega
  rw [strict_ext ha2 hb2 fun z=>⟨fun hz=>?_,fun hz=>?_⟩]
  ·rcases List.mem_cons.1 ((h z).1 (List.mem_cons_of_mem _ hz))with e | e
   ·rw [e]at hz;exact(nx ha1 hz).elim
   ·exact e
  ·rcases List.mem_cons.1 ((h z).2 (List.mem_cons_of_mem _ hz))with e | e
   ·rw [e]at hz;exact(nx hb1 hz).elim
   ·exact e
theorem putS_true (w:List Int):∀ l,putS w true l=l
 | []=>rfl
 | x :: l=>by simp only [putS];rw [if_neg (by simp),Bool.true_or,putS_true w l]
theorem putS_mem (w:List Int):∀(l:List (List Int)) (z:List Int),z∈putS w false l↔z=w∨z∈l
 | [],z=>by simp [putS]
 | x :: l,z=>by
  simp only [putS]
  by_cases h:cmpW w x < 0
  ·rw [if_pos ⟨h,trivial⟩,putS_true];simp
  ·rw [if_neg (by simp [h])]
   by_cases h0:cmpW w x=0
   ·have e:=(cmpW_zero w x).1 h0
    rw [show(false || cmpW w x == 0)=true by simp [h0],putS_true,e];simp
   ·rw [show(false || cmpW w x == 0)=false by simp [h0]]
    simp only [List.mem_cons,putS_mem w l z]
    constructor
    ·rintro(h | h | h)<;>simp [h]
    ·rintro(h | h | h)<;>simp [h]
theorem putS_strict (w:List Int):∀ {l:List (List Int)},StrictW l→StrictW (putS w false l)
 | [],_=>by unfold StrictW;simp [putS]
 | x :: l,hl=>by
  obtain⟨h1,h2⟩:=List.pairwise_cons.1 hl
  simp only [putS]
  by_cases h:cmpW w x < 0
  ·rw [if_pos ⟨h,trivial⟩,putS_true]
   refine List.pairwise_cons.2 ⟨fun z hz=>?_,hl⟩
   rcases List.mem_cons.1 hz with rfl | hz
   ·exact h
   ·exact cmpW_lt_trans h (h1 z hz)
  ·rw [if_neg (by simp [h])]
   by_cases h0:cmpW w x=0
   ·rw [show(false || cmpW w x == 0)=true by simp [h0],putS_true];exact hl
   ·rw [show(false || cmpW w x == 0)=false by simp [h0]]
    refine List.pairwise_cons.2 ⟨fun z hz=>?_,putS_strict w h2⟩
    rcases(putS_mem w l z).1 hz with rfl | hz
    ·have:=cmpW_neg z x;omega
    ·exact h1 z hz
def srtL' (l0 L:List (List Int)):List (List Int):=L.foldl (fun l w=>putS w false l) l0
def srt (L:List (List Int)):List (List Int):=srtL' [] L
theorem srt_spec (L:List (List Int)):StrictW (srt L)∧∀ z,z∈srt L↔z∈L:=by
 have key:∀(L l0:List (List Int)),StrictW l0→StrictW (srtL' l0 L)∧∀ z,z∈srtL' l0 L↔z∈l0∨z∈L:=by
  intro L
  induction L with
  | nil=>intro l0 h;exact⟨h,fun z=>by simp [srtL']⟩
  | cons w L ih=>
   intro l0 h
   obtain⟨h1,h2⟩:=ih (putS w false l0) (putS_strict w h)
   refine⟨h1,fun z=>?_⟩
   show z∈srtL' (putS w false l0) L↔_
   rw [h2 z,putS_mem]
   simp only [List.mem_cons]
   constructor
   ·rintro((h | h) | h)<;>simp [h]
   ·rintro(h | h | h)<;>simp [h]
 obtain⟨h1,h2⟩:=key L [] StrictW.nil
 exact⟨h1,fun z=>by rw [show srt L=srtL' [] L from rfl,h2 z];simp⟩
theorem sorted_srt {L:List (List Int)} (hn:L.Nodup) {a:List (List Int)} (hp:a.Perm L) (hs:a.Pairwise fun p q=>¬cmpW q p < 0):a=srt L:=by
 obtain⟨h1,h2⟩:=srt_spec L
 refine strict_ext ?_ h1 fun z=>(hp.mem_iff).trans (h2 z).symm
 have hna:a.Nodup:=hp.nodup_iff.2 hn
 refine List.Pairwise.imp₂ ?_ hs hna
 intro p q h1 h2
 have h3:=cmpW_neg p q
 have h4:=cmpW_zero p q
 rcases Int.lt_trichotomy (cmpW p q) 0 with h | h | h
 ·exact h
 ·exact absurd (h4.1 h) h2
 ·omega
theorem srt_nil:srt []=[]:=rfl
end Go.Proofs.YtcinngodeoidnaaGreatDoor
namespace Go.Proofs.YtcinngodeoidnaaGreatDoor
open Go Go.Aw Go.Cox
end Go.Proofs.YtcinngodeoidnaaGreatDoor
namespace Go.Proofs.YtcinngodeoidnaaGreatDoor
open Go Go.Aw Go.Cox
def Pre (c:List (List Int)) (x z:List Int):Prop:=letters c.length z∧redL c z=z∧∃ v,letters c.length v∧imageL c (z ++ v)=imageL c x∧z.length+v.length=x.length
def Nf (c:List (List Int)) (x:List Int):Prop:=letters c.length x∧redL c x=x∧x.length≤30
theorem nf_idem {c:List (List Int)} (hc:CartanP c) {w:List Int} (hw:letters c.length w) (hl:w.length≤31):redL c (redL c w)=redL c w:=red_eq (red_spec hc hw hl).2.2.2.1
theorem Nf.red {c:List (List Int)} (hc:CartanP c) {x:List Int} (h:Nf c x):Red c x:=by
 have:=red_Red hc h.1 (by have:=h.2.2;omega)
 rwa [h.2.1]at this
theorem Nf.far {c:List (List Int)} (hc:CartanP c) {x:List Int} (h:Nf c x):Far c x.length (imageL c x):=(h.red hc).2
theorem Nf.short {c:List (List Int)} (hc:CartanP c) {x:List Int} (h:Nf c x) {u:List Int} (hu:letters c.length u) (he:imageL c u=imageL c x):x.length≤u.length:=by
 obtain⟨L,h1,_,h3⟩:=Far.image hc hu
 rw [he]at h3
 have:=(h.far hc).uniq hc h3
 omega
theorem Pre.nf {c:List (List Int)} {x z:List Int} (hx:Nf c x) (h:Pre c x z):Nf c z:=by
 obtain⟨h1,h2,v,h3,h4,h5⟩:=h
 exact⟨h1,h2,by have:=hx.2.2;omega⟩
theorem Pre.refl {c:List (List Int)} {x:List Int} (hx:Nf c x):Pre c x x:=⟨hx.1,hx.2.1,[],letters_nil _,by rw [List.append_nil],by simp⟩
theorem nf_red {c:List (List Int)} (hc:CartanP c) {u:List Int} (hu:letters c.length u) (hl:u.length≤31) (hr:(redL c u).length≤30):Nf c (redL c u):=
 ⟨(red_spec hc hu hl).1,nf_idem hc hu hl,hr⟩
theorem letter1 {n:Nat} {i:Nat} (h:i < n):letters n [(i:Int)]:=letters_cons.2 ⟨by omega,letters_nil _⟩
theorem image_same_app {c:List (List Int)} (hc:CartanP c) {a b:List Int} (ha:letters c.length a) (hb:letters c.length b) (h:imageL c a=imageL c b) (t:List Int):imageL c (a ++ t)=imageL c (b ++ t):=by
 rw [image_append,image_append];exact same_elt hc ha hb h (imageL_length c _)
theorem image_two {c:List (List Int)} (hc:CartanP c) (y:List Int) {i:Nat} (hi:i < c.length) (t:List Int):imageL c (y ++ [(i:Int)] ++ ((i:Int) :: t))=imageL c (y ++ t):=by
 rw [List.append_assoc,image_append,image_append]
 show actL c y (reflL c i (reflL c i (imageL c t)))=_
 rw [refl2 hc (i:=(i:Int)) (by omega) (imageL_length c _)]
 exact(image_append c y t).symm
theorem Pre.down {c:List (List Int)} (hc:CartanP c) {x y:List Int} (hx:Nf c x) (hy:Pre c x y) {i:Nat} (hi:i < c.length) (hlt:(redL c (y ++ [(i:Int)])).length < y.length):Pre c x (redL c (y ++ [(i:Int)])):=by
 have hny:=hy.nf hx
 obtain⟨h1,h2,v,h3,h4,h5⟩:=hy
 have hl:letters c.length (y ++ [(i:Int)]):=letters_append.2 ⟨h1,letter1 hi⟩
 have hlen:(y ++ [(i:Int)]).length≤31:=by have:=hny.2.2;simp;omega
 obtain⟨a1,a2,a3,a4,a5⟩:=red_spec hc hl hlen
 have hvi:letters c.length ((i:Int) :: v):=letters_cons.2 ⟨by omega,h3⟩
 have him:imageL c (redL c (y ++ [(i:Int)]) ++ ((i:Int) :: v))=imageL c x:=by
  rw [image_same_app hc a1 hl a4,image_two hc y hi,h4]
 have hs:=hx.short hc (letters_append.2 ⟨a1,hvi⟩) him
 simp at hs a3
 refine⟨a1,nf_idem hc hl hlen,(i:Int) :: v,hvi,him,?_⟩
 simp
 omega
theorem red_of_nil {c:List (List Int)} (hc:CartanP c):redL c []=[]:=by
 have:=(red_spec hc (letters_nil c.length) (by simp)).2.1
 exact List.eq_nil_of_length_eq_zero (by simpa using this)
theorem Pre.nil {c:List (List Int)} (hc:CartanP c) {x:List Int} (hx:Nf c x):Pre c x []:=⟨letters_nil _,red_of_nil hc,x,hx.1,rfl,by simp⟩
theorem nodup_on {α β:Type} (f:α→β):∀ {l:List α},(∀ a∈l,∀ b∈l,f a=f b→a=b)→l.Nodup→(l.map f).Nodup
 | [],_,_=>by simp
 | x :: l,h,hn=>by
  obtain⟨h1,h2⟩:=List.nodup_cons.1 hn
  rw [List.map_cons,List.nodup_cons]
  refine⟨fun hm=>?_,nodup_on f (fun a ha b hb=>h a (List.mem_cons_of_mem _ ha) b (List.mem_cons_of_mem _ hb)) h2⟩
  obtain⟨y,hy,e⟩:=List.mem_map.1 hm
  rw [h y (List.mem_cons_of_mem _ hy) x (List.mem_cons_self ..) e]at hy
  exact h1 hy
theorem nodup_le {α:Type} [DecidableEq α]:∀ {a b:List α},a.Nodup→(∀ x∈a,x∈b)→a.length≤b.length
 | [],b,_,_=>Nat.zero_le _
 | x :: a,b,hn,h=>by
  obtain⟨h1,h2⟩:=List.nodup_cons.1 hn
  have hx:=h x (List.mem_cons_self ..)
  have:=nodup_le (a:=a) (b:=b.erase x) h2 (fun y hy=>by
   have hne:y≠x:=fun e=>h1 (e▸hy)
   exact(List.mem_erase_of_ne hne).2 (h y (List.mem_cons_of_mem _ hy)))
  rw [List.length_erase_of_mem hx]at this
  have hp:0 < b.length:=List.length_pos_of_mem hx
  simp only [List.length_cons]
  omega
end Go.Proofs.YtcinngodeoidnaaGreatDoor
