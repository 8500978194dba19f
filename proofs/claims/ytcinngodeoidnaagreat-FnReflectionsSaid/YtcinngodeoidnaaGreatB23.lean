/- What the laws on reflections and roots draw. -/
import Derived.Test.YtcinngodeoidnaaGreatB19
import Derived.Test.YtcinngodeoidnaaGreatB22
import Derived.Test.YtcinngodeoidnaaGreatB21
import Derived.Test.YtcinngodeoidnaaGreatB15
import Derived.Test.YtcinngodeoidnaaGreatB10
set_option linter.unusedVariables false
set_option linter.unusedSimpArgs false
namespace Go.Proofs.YtcinngodeoidnaaGreat
open Go Go.Aw
theorem c_l1BelowL (s:Value) (n:Int) (hn0:256 < n) (hn:n<=1000000):FunO B 106 [.own 0 0,.int .i64 n] (.cur s 0) (fun rs o=>∃ x:Int,rs=[.int .i64 x]/\0<=x/\(0 < n->x < n)/\o=[.cur s 0]):=by
 refine FunO.walk B_ok (fn:=Tryz.f106) (fun vs w=>Tryz.call106 vs w) Tryz.func106 rfl (by rw [Tryz.ntmps106];simp) (fun C hC hP hT hΓ hbt hfn hpin hfin=>?_);have hX:=BX;rw [<- hΓ,<- hbt.1,<- hbt.2.1,<- hbt.2.2.1,<- hbt.2.2.2.2]at hX;rw [hT]at hX;rw [Tryz.ntmps106];simp only [AW7,simprocAttr,hX]
 refine Run.R ?_
 refine Run.R ?_
 refine Run.c ?_ ?_
 ·intro h
  have h:n<=0:=by simpa using h
  omega
 intro _
 refine Run.R ?_
 refine Run.c ?_ ?_
 ·intro h2
  have h2:n<=256:=by simpa using h2
  omega
 intro _
 refine Run.g fun K hK=>?_
 refine FunO.callCur hP hT (c_l1Byte s) 0 0 (by first | rfl | (simp only [AW7,simprocAttr];done) | (simp only [AW7,simprocAttr];rfl)) (by simp only [AW7,simprocAttr]) ?_
 rintro rs o' obs' ⟨x,rfl,x0,x1,ho⟩
 injection ho with ho1 ho2;subst ho1 ho2
 refine wF ?_;clear hK K
 refine Run.g fun K hK=>?_
 refine FunO.callCur hP hT (c_l1Byte s) 0 0 (by first | rfl | (simp only [AW7,simprocAttr];done) | (simp only [AW7,simprocAttr];rfl)) (by simp only [AW7,simprocAttr]) ?_
 rintro rs o' obs' ⟨y,rfl,y0,y1,ho⟩
 injection ho with ho1 ho2;subst ho1 ho2
 refine wF ?_;clear hK K
 refine Run.g fun K hK=>?_
 refine FunO.callCur hP hT (c_l1Byte s) 0 0 (by first | rfl | (simp only [AW7,simprocAttr];done) | (simp only [AW7,simprocAttr];rfl)) (by simp only [AW7,simprocAttr]) ?_
 rintro rs o' obs' ⟨z,rfl,z0,z1,ho⟩
 injection ho with ho1 ho2;subst ho1 ho2
 refine wF ?_;clear hK K
 refine Run.g fun K hK=>?_
 refine FunO.callCur hP hT (c_l1Byte s) 0 0 (by first | rfl | (simp only [AW7,simprocAttr];done) | (simp only [AW7,simprocAttr];rfl)) (by simp only [AW7,simprocAttr]) ?_
 rintro rs o' obs' ⟨u,rfl,u0,u1,ho⟩
 injection ho with ho1 ho2;subst ho1 ho2
 refine wF ?_;clear hK K
 have hm:(x*16777216+y*65536+z*256+u).tmod n=(x*16777216+y*65536+z*256+u) % n:=Int.tmod_eq_emod_of_nonneg om
 have hm0:=Int.emod_nonneg (x*16777216+y*65536+z*256+u) (by omega:n≠0)
 have hm1:=Int.emod_lt_of_pos (x*16777216+y*65536+z*256+u) (by omega:0 < n)
 refine Run.RW ?_
 refine Run.rW [4] (hfin _ _ _ rfl rfl ⟨rfl,rfl⟩ ?_)
 exact⟨_,rfl,by omega,by omega,rfl⟩
theorem c_l1BelowG (s:Value) (n:Int) (hn0:-1000<=n) (hn:n<=1000000):FunO B 106 [.own 0 0,.int .i64 n] (.cur s 0) (fun rs o=>∃ x:Int,rs=[.int .i64 x]/\0<=x/\(0 < n->x < n)/\o=[.cur s 0]):=by
 by_cases h:n<=256
 ·exact c_l1Below s n hn0 h
 ·exact c_l1BelowL s n om hn
theorem c_l6Weight (s:Value) (c:LL) (hc:c.length<=100):FunO B 153 [.own 0 0,.sl false (.row false) c,.int .i64 4] (.cur s 0) (fun rs o=>∃ w nn,(∀ k∈w,-4<=k/\k<=4)/\w.length=c.length/\nn=true/\rs=[.own 1 0]/\o=[.cur s 0,.arr .int w 0 nn]):=by
 refine FunO.walk B_ok (fn:=Tryz.f153) (fun vs w=>Tryz.call153 vs w) Tryz.func153 rfl (by rw [Tryz.ntmps153];simp) (fun C hC hP hT hΓ hbt hfn hpin hfin=>?_);have hX:=BX;rw [<- hΓ,<- hbt.1,<- hbt.2.1,<- hbt.2.2.1,<- hbt.2.2.2.2]at hX;rw [hT]at hX;rw [Tryz.ntmps153];simp only [AW7,simprocAttr,hX]
 refine Run.R ?_
 refine Run.R ?_
 refine Run.R ?_
 refine Run.kp [0,1,2,7,8] [0,1] ?_
 refine Run.loopI (X:=List Int) (fun w=>⟨27,[(0,true,.v (.own 0 0)),(1,true,.v (.sl false (.row false) c)),(2,true,.v (.int .i64 4)),(7,true,.v (.own 1 0)),(8,true,.v (.int .i64 ((w.length:Nat))))],[.cur s 0,.arr .int (w) 0 true]⟩) (fun w=>w.length<=c.length/\(∀ k∈w,-4<=k/\k<=4)) (fun w=>c.length - w.length) ([]) (⟨by simp,by simp⟩) ?_ ?_
 ·exact Le.s
 rintro w ⟨hwl,hw⟩ ih
 try simp only []
 refine Run.R ?_
 refine Run.c ?_ ?_
 rotate_left
 ·intro h
  have h:w.length=c.length:=by rw [dfE]at h;omega
  refine Run.x ?_
  refine Run.R ?_
  refine Run.kp [0,6] [0,1] ?_
  refine Run.rW [6] (hfin _ _ _ rfl rfl ⟨rfl,rfl⟩ ?_)
  exact⟨w,true,hw,h,rfl,rfl,rfl⟩
 intro h
 have h:w.length < c.length:=by rw [dtE]at h;omega
 refine Run.g fun K hK=>?_
 refine FunO.callCur hP hT (c_l1Below s 9 (by decide) (by decide)) 0 0 (by first | rfl | (simp only [AW7,simprocAttr];done) | (simp only [AW7,simprocAttr];rfl)) (by simp only [AW7,simprocAttr];first | done | rfl | exact⟨rfl,rfl⟩) ?_
 rintro rs o' obs' ⟨v,rfl,v0,v1,ho⟩
 injection ho with ho1 ho2;subst ho1 ho2
 have v1:=v1 (by decide)
 refine wWW ?_
 refine wE ?_;clear hK K
 have hw2:∀ k∈w ++ [v - 4],-4<=k/\k<=4:=by
  intro k hk
  rw [List.mem_append,List.mem_singleton]at hk
  rcases hk with hk | rfl
  ·exact hw k hk
  ·omega
 refine Run.kp [0,1,2,7,8] [0,1] ?_
 refine Run.RW ?_
 refine Run.le ?_ (ih (w ++ [v - 4]) (⟨by simp;omega,hw2⟩) (by(try simp only [lenA,lenC,lenN]);omega))
 exact Le.sub (by first | rfl | (simp only [lenA,lenC,lenN];done) | (rw [lenA,lenC,lenN];rfl)) (by simp only [AW7,simprocAttr];try simp)
def Sm2 (r:LI):Prop:=r.length<=6/\∀ x∈r,-2000<=x/\x<=2000
theorem c_l6Any (code:LI) (hl:code.length<=1048576):FunA B 118 [.sl false .byte code] (fun rs o=>∃ c r,(1<=c.length/\c.length<=5)/\Sm2 r/\rs=[.sl true (.row true) c,.sl true .int r]/\o=[]):=by
 refine wk Tryz.call118 Tryz.func118 rfl Tryz.ntmps118 fun C hC hP hT hfn hpin hfin hX=>wW ?_
 refine Run.R ?_
 refine Run.g fun K hK=>?_
 refine ACall.new hP om fun s=>?_
 refine wF ?_;clear hK K
 refine Run.g fun K hK=>?_
 refine FunO.callCur hP hT (c_l2Any s) 0 0 (by first | rfl | (simp only [AW7,simprocAttr];done) | (simp only [AW7,simprocAttr];rfl)) (by simp only [AW7,simprocAttr]) ?_
 rintro rs o' obs' ⟨c,g,nn,⟨c1,c2⟩,rfl,rfl,ho⟩
 injection ho with ho1 ho2;subst ho1 ho2
 refine wF ?_;clear hK K
 refine Run.g fun K hK=>?_
 refine FunO.callCur hP hT (c_l6Weight s c om) 0 0 (by first | rfl | (simp only [AW7,simprocAttr];done) | (simp only [AW7,simprocAttr];rfl)) (by simp only [AW7,simprocAttr];decide) ?_
 rintro rs o' obs' ⟨w,nn,hw,hwl,rfl,rfl,ho⟩
 injection ho with ho1 ho2;subst ho1 ho2
 refine wF ?_;clear hK K
 refine Run.g fun K hK=>?_
 refine FunO.callCur hP hT (c_l1Below s 14 (by decide) (by decide)) 0 0 (by first | rfl | (simp only [AW7,simprocAttr];done) | (simp only [AW7,simprocAttr];rfl)) (by simp only [AW7,simprocAttr]) ?_
 rintro rs o' obs' ⟨x,rfl,x0,x1,ho⟩
 injection ho with ho1 ho2;subst ho1 ho2
 refine wF ?_;clear hK K
 refine Run.R ?_
 refine Run.c ?_ ?_
 ·intro h0
  refine Run.R ?_
  refine Run.k [5,6] [0,1,2] ?_
  refine Run.R ?_
  refine Run.k [2,3] [1,2] ?_
  refine Run.l 0 [2,3] ?_
  refine Run.l 1 [2,3] ?_
  refine Run.k [2,3] [] ?_
  refine Run.r [2,3] ?_
  exact⟨c,w ++ [1],⟨c1,c2⟩,⟨by simp;omega,fun x hx=>by
   rw [List.mem_append,List.mem_singleton]at hx
   rcases hx with hx | rfl
   ·have h3:-4<=x/\x<=4:=hw x hx
    exact⟨by omega,by omega⟩
   ·exact⟨by decide,by decide⟩⟩,rfl,rfl⟩
 intro _
 refine Run.R ?_
 refine Run.c ?_ ?_
 ·intro h1
  refine Run.g fun K hK=>?_
  refine FunO.callCur hP hT (c_l1PickInt s [-1000,1000,1001] (by decide) (by decide)) 0 0 (by first | rfl | (simp only [AW7,simprocAttr];done) | (simp only [AW7,simprocAttr];rfl)) (by simp only [AW7,simprocAttr];first | done | decide | exact⟨by decide,rfl⟩) ?_
  rintro rs o' obs' ⟨v,rfl,hv,ho⟩
  injection ho with ho1 ho2;subst ho1 ho2
  refine wF ?_;clear hK K
  refine Run.k [5,6] [0,1,2] ?_
  refine Run.R ?_
  refine Run.k [2,3] [1,2] ?_
  refine Run.l 0 [2,3] ?_
  refine Run.l 1 [2,3] ?_
  refine Run.k [2,3] [] ?_
  refine Run.r [2,3] ?_
  refine⟨c,w.set 0 v,⟨c1,c2⟩,⟨by simp;omega,fun x hx=>?_⟩,rfl,rfl⟩
  rcases List.mem_or_eq_of_mem_set hx with hx | rfl
  ·have h3:-4<=x/\x<=4:=hw x hx
   exact⟨by omega,by omega⟩
  ·simp only [List.mem_cons,List.not_mem_nil,or_false]at hv;omega
 intro _
 refine Run.k [5,6] [0,1,2] ?_
 refine Run.nq ?_
 refine Run.R ?_
 refine Run.k [2,3] [1,2] ?_
 refine Run.l 0 [2,3] ?_
 refine Run.l 1 [2,3] ?_
 refine Run.k [2,3] [] ?_
 refine Run.r [2,3] ?_
 exact⟨c,w,⟨c1,c2⟩,⟨by omega,fun x hx=>by
  have h3:-4<=x/\x<=4:=hw x hx
  exact⟨by omega,by omega⟩⟩,rfl,rfl⟩
theorem c_l7Any (code:LI) (hl:code.length<=1048576):FunA B 71 [.sl false .byte code] (fun rs o=>∃ c r,(1<=c.length/\c.length<=5)/\Sm2 r/\rs=[.sl true (.row true) c,.sl true .int r]/\o=[]):=by
 refine wk Tryz.call71 Tryz.func71 rfl Tryz.ntmps71 fun C hC hP hT hfn hpin hfin hX=>wW ?_
 refine Run.R ?_
 refine Run.g fun K hK=>?_
 refine ACall.new hP om fun s=>?_
 refine wF ?_;clear hK K
 refine Run.g fun K hK=>?_
 refine FunO.callCur hP hT (c_l2Any s) 0 0 (by first | rfl | (simp only [AW7,simprocAttr];done) | (simp only [AW7,simprocAttr];rfl)) (by simp only [AW7,simprocAttr]) ?_
 rintro rs o' obs' ⟨c,g,nn,⟨c1,c2⟩,rfl,rfl,ho⟩
 injection ho with ho1 ho2;subst ho1 ho2
 refine wF ?_;clear hK K
 refine Run.k [0,4,5] [0,1] ?_
 apply jn12 (σ':=⟨39,[(0,true,.v (.sl false .byte code))],[]⟩)
 case h=>
  intro rest
  refine Run.g fun K hK=>?_
  refine FunA.cW hP hT (c_spec_IsCartan c) ?_
  rintro rs o ⟨rfl,rfl⟩
  cases hc:isC c with
  | false=>
   refine wW ?_
   refine .inl (CallG.off (.bool false) ?_)
   refine wF ?_;clear hK K
   refine Run.c ?_ ?_
   ·intro h;cases h
   intro _
   refine Run.k [0] [] ?_
   refine Run.nq ?_
   exact rest
  | true=>
   have hcp:=isC_iff.1 hc
   refine wW ?_
   refine .inr ⟨rfl,?_⟩
   refine FunO.callCur hP hT (c_l1Once s 4 (by decide) (by decide)) 0 0 (by first | rfl | (simp only [AW7,simprocAttr];done) | (simp only [AW7,simprocAttr];rfl)) (by simp only [AW7,simprocAttr]) ?_
   rintro rs o' obs' ⟨x,rfl,ho⟩
   injection ho with ho1 ho2;subst ho1 ho2
   refine wF ?_;clear hK K
   refine Run.c ?_ ?_
   rotate_left
   ·intro _
    refine Run.k [0] [] ?_
    refine Run.nq ?_
    exact rest
   intro _
   refine Run.g fun K hK=>?_
   refine FunA.cW hP hT (c_spec_RootsUpTo1 c 4 hcp (by decide) (by decide)) ?_
   rintro rs o ⟨rfl,ys,⟨hR,_,hN⟩,rfl⟩
   refine wF ?_;clear hK K
   refine Run.k [4,5,6] [0,1,2] ?_
   have hyl:ys.length=(rw2 ys).length:=by simp [rw2]
   have hb:=hR.len hcp.2.1 (by decide) (by decide)
   have hpos:0 < (rw2 ys).length:=List.length_pos_of_mem (hR.sim 0 om)
   refine Run.g fun K hK=>?_
   refine FunO.callCur hP hT (c_l1BelowG s ys.length om om) 0 0 (by first | rfl | (simp only [AW7,simprocAttr];done) | (simp only [AW7,simprocAttr];rfl)) (by simp only [AW7,simprocAttr]) ?_
   rintro rs o' obs' ⟨x,rfl,x0,x1,ho⟩
   injection ho with ho1 ho2;subst ho1 ho2
   have x1:=x1 om
   obtain⟨i,rfl⟩:∃ k:Nat,x=k:=⟨x.toNat,by omega⟩
   have hrs:RS c 4 (ys.getD i (0,[])).2:=by
    have e:(ys.getD i (0,[])).2=(rw2 ys)[i]:=by
     have h:i < ys.length:=by omega
     simp [rw2,gdE,geE h]
    rw [e]
    exact hR.mem _ (List.getElem_mem _)
   have hrl:(ys.getD i (0,[])).2.length<=5:=by rw [hrs.len];omega
   have hrb:=hrs.box (by decide)
   refine wF ?_;clear hK K
   refine Run.k [2,3] [1,3] ?_
   refine Run.l 0 [2,3] ?_
   refine Run.l 1 [2,3] ?_
   refine Run.k [2,3] [] ?_
   refine Run.r [2,3] ?_
   exact⟨c,(ys.getD i (0,[])).2,⟨c1,c2⟩,⟨by omega,fun x hx=>by
    have h3:0<=x/\x<=4:=hrb x hx
    exact⟨by omega,by omega⟩⟩,rfl,rfl⟩
 refine Run.g fun K hK=>?_
 refine FunA.cW hP hT (c_l6Any code hl) ?_
 rintro rs o ⟨d,r,d1,d2,rfl,rfl⟩
 refine wF ?_;clear hK K
 refine Run.R ?_
 refine Run.k [2,3] [] ?_
 refine Run.r [2,3] ?_
 exact⟨d,r,d1,d2,rfl,rfl⟩
theorem c_DrawReflectionOf (code:LI) (hl:code.length<=1048576):FunA B 8 [.sl false .byte code] (fun rs o=>∃ c r,(1<=c.length/\c.length<=5)/\Sm2 r/\rs=[.sl true (.row true) c,.sl true .int r]/\o=[]):=by
 refine wk Tryz.call8 Tryz.func8 rfl Tryz.ntmps8 fun C hC hP hT hfn hpin hfin hX=>wW ?_
 refine Run.R ?_
 refine Run.g fun K hK=>?_
 refine FunA.cW hP hT (c_l7Any code hl) ?_
 rintro rs o ⟨d,r,d1,d2,rfl,rfl⟩
 refine wF ?_;clear hK K
 refine Run.R ?_
 refine Run.k [2,3] [] ?_
 refine Run.r [2,3] ?_
 exact⟨d,r,d1,d2,rfl,rfl⟩
theorem c_DrawReflectionsOf (code:LI) (hl:code.length<=1048576):FunA B 16 [.sl false .byte code] (fun rs o=>∃ c,(1<=c.length/\c.length<=5)/\rs=[.sl true (.row true) c]/\o=[]):=by
 refine wk Tryz.call16 Tryz.func16 rfl Tryz.ntmps16 fun C hC hP hT hfn hpin hfin hX=>wW ?_
 refine Run.R ?_
 refine Run.g fun K hK=>?_
 refine ACall.new hP om fun s=>?_
 refine wW ?_
 refine FunO.callCur hP hT (c_l13Finite s) 0 0 (by first | rfl | (simp only [AW7,simprocAttr];done) | (simp only [AW7,simprocAttr];rfl)) (by simp only [AW7,simprocAttr]) ?_
 rintro rs o' obs' ⟨c,g,nn,⟨c1,c2⟩,rfl,rfl,ho⟩
 injection ho with ho1 ho2;subst ho1 ho2
 refine wF ?_;clear hK K
 refine Run.k [2] [1] ?_
 refine Run.l 0 [2] ?_
 refine Run.k [2] [] ?_
 refine Run.r [2] ?_
 exact⟨c,⟨c1,c2⟩,rfl,rfl⟩
theorem c_l17Word (code:LI) (hl:code.length<=1048576):FunA B 93 [.sl false .byte code] (fun rs o=>∃ c w,(1<=c.length/\c.length<=5)/\w.length<=7/\rs=[.sl true (.row true) c,.sl true .int w]/\o=[]):=by
 refine wk Tryz.call93 Tryz.func93 rfl Tryz.ntmps93 fun C hC hP hT hfn hpin hfin hX=>wW ?_
 refine Run.R ?_
 refine Run.g fun K hK=>?_
 refine ACall.new hP om fun s=>?_
 refine wF ?_;clear hK K
 refine Run.g fun K hK=>?_
 refine FunO.callCur hP hT (c_l13Finite s) 0 0 (by first | rfl | (simp only [AW7,simprocAttr];done) | (simp only [AW7,simprocAttr];rfl)) (by simp only [AW7,simprocAttr]) ?_
 rintro rs o' obs' ⟨c,g,nn,⟨c1,c2⟩,rfl,rfl,ho⟩
 injection ho with ho1 ho2;subst ho1 ho2
 refine wF ?_;clear hK K
 refine Run.g fun K hK=>?_
 refine FunO.callCur hP hT (c_l5Word s c 3 om om) 0 0 (by first | rfl | (simp only [AW7,simprocAttr];done) | (simp only [AW7,simprocAttr];rfl)) (by simp only [AW7,simprocAttr];decide) ?_
 rintro rs o' obs' ⟨w,nn,hw,hwl,rfl,rfl,ho⟩
 injection ho with ho1 ho2;subst ho1 ho2
 refine wF ?_;clear hK K
 have hg:decide ((0:Int) < (c.length:Int))=true:=by rw [dtE];omega
 refine Run.g fun K hK=>?_
 refine FunO.callCur hP hT (c_l1Once s 2 (by decide) (by decide)) 0 0 (by first | rfl | (simp only [AW7,simprocAttr];done) | (simp only [AW7,simprocAttr];rfl)) (by simp only [AW7,simprocAttr]) ?_
 rintro rs o' obs' ⟨x,rfl,ho⟩
 injection ho with ho1 ho2;subst ho1 ho2
 refine wF ?_;clear hK K
 refine Run.c ?_ ?_
 ·intro _
  refine Run.g fun K hK=>?_
  refine FunO.callCur hP hT (c_l1Below s c.length om om) 0 0 (by first | rfl | (simp only [AW7,simprocAttr];done) | (simp only [AW7,simprocAttr];rfl)) (by simp only [AW7,simprocAttr]) ?_
  rintro rs o' obs' ⟨v,rfl,v0,v1,ho⟩
  injection ho with ho1 ho2;subst ho1 ho2
  refine wW ?_
  refine FunA.e hP hT (c_spec_ConcatWords w [v] om (by simp)) ?_
  refine FunA.e hP hT (c_spec_ReverseWord w om) ?_
  refine FunA.e hP hT (c_spec_ConcatWords (w ++ [v]) w.reverse (by simp;omega) (by simp;omega)) ?_
  refine wE ?_;clear hK K
  refine Run.k [2,3] [1,6] ?_
  refine Run.l 0 [2,3] ?_
  refine Run.l 1 [2,3] ?_
  refine Run.k [2,3] [] ?_
  refine Run.r [2,3] ?_
  exact⟨c,w ++ [v] ++ w.reverse,⟨c1,c2⟩,by simp;omega,rfl,rfl⟩
 intro _
 refine Run.g fun K hK=>?_
 refine FunO.callCur hP hT (c_l5Word s c 6 om om) 0 0 (by first | rfl | (simp only [AW7,simprocAttr];done) | (simp only [AW7,simprocAttr];rfl)) (by simp only [AW7,simprocAttr];decide) ?_
 rintro rs o' obs' ⟨u,nn,hu,hul,rfl,rfl,ho⟩
 injection ho with ho1 ho2;subst ho1 ho2
 refine wF ?_;clear hK K
 refine Run.k [2,3] [1,3] ?_
 refine Run.l 0 [2,3] ?_
 refine Run.l 1 [2,3] ?_
 refine Run.k [2,3] [] ?_
 refine Run.r [2,3] ?_
 exact⟨c,u,⟨c1,c2⟩,by omega,rfl,rfl⟩
theorem c_DrawFactorReflections (code:LI) (hl:code.length<=1048576):FunA B 20 [.sl false .byte code] (fun rs o=>∃ c r,(1<=c.length/\c.length<=5)/\r.length<=7/\rs=[.sl true (.row true) c,.sl true .int r]/\o=[]):=by
 refine wk Tryz.call20 Tryz.func20 rfl Tryz.ntmps20 fun C hC hP hT hfn hpin hfin hX=>wW ?_
 refine Run.R ?_
 refine Run.g fun K hK=>?_
 refine FunA.cW hP hT (c_l17Word code hl) ?_
 rintro rs o ⟨d,r,d1,d2,rfl,rfl⟩
 refine wF ?_;clear hK K
 refine Run.R ?_
 refine Run.k [2,3] [] ?_
 refine Run.r [2,3] ?_
 exact⟨d,r,d1,d2,rfl,rfl⟩
theorem c_DrawRootOfReflection (code:LI) (hl:code.length<=1048576):FunA B 31 [.sl false .byte code] (fun rs o=>∃ c r,(1<=c.length/\c.length<=5)/\r.length<=7/\rs=[.sl true (.row true) c,.sl true .int r]/\o=[]):=by
 refine wk Tryz.call31 Tryz.func31 rfl Tryz.ntmps31 fun C hC hP hT hfn hpin hfin hX=>wW ?_
 refine Run.R ?_
 refine Run.g fun K hK=>?_
 refine FunA.cW hP hT (c_l17Word code hl) ?_
 rintro rs o ⟨d,r,d1,d2,rfl,rfl⟩
 refine wF ?_;clear hK K
 refine Run.R ?_
 refine Run.k [2,3] [] ?_
 refine Run.r [2,3] ?_
 exact⟨d,r,d1,d2,rfl,rfl⟩
theorem c_DrawIsAbsoluteBelow (code:LI) (hl:code.length<=1048576):FunA B 30 [.sl false .byte code] (fun rs o=>∃ c u v,(1<=c.length/\c.length<=5)/\u.length<=7/\v.length<=7/\rs=[.sl true (.row true) c,.sl true .int u,.sl true .int v]/\o=[]):=by
 refine wk Tryz.call30 Tryz.func30 rfl Tryz.ntmps30 fun C hC hP hT hfn hpin hfin hX=>wW ?_
 refine Run.R ?_
 refine Run.g fun K hK=>?_
 refine ACall.new hP om fun s=>?_
 refine wF ?_;clear hK K
 refine Run.g fun K hK=>?_
 refine FunA.cW hP hT (c_l17Word code hl) ?_
 rintro rs o ⟨c,v,⟨c1,c2⟩,hvl,rfl,rfl⟩
 refine wF ?_;clear hK K
 refine Run.g fun K hK=>?_
 refine FunO.callCur hP hT (c_l5Word s c 3 om om) 0 0 (by first | rfl | (simp only [AW7,simprocAttr];done) | (simp only [AW7,simprocAttr];rfl)) (by simp only [AW7,simprocAttr]) ?_
 rintro rs o' obs' ⟨w,nn,hw,hwl,rfl,rfl,ho⟩
 injection ho with ho1 ho2;subst ho1 ho2
 refine wF ?_;clear hK K
 refine Run.k [2,3,4] [1] ?_
 refine Run.l 0 [2,3,4] ?_
 refine Run.k [2,3,4] [] ?_
 refine Run.r [2,3,4] ?_
 exact⟨c,w,v,⟨c1,c2⟩,by omega,hvl,rfl,rfl⟩
open Go.Cox
theorem simI_some {c:LL} {r:LI} {i:Nat} (h:simI c r=some i):i < c.length/\r=simL c.length i:=by
 obtain⟨h1,h2,_⟩:=find_some' h
 exact⟨h1,by simpa using h2⟩
theorem rflP_spec {c:LL} (hc:CartanP c):∀(k:Nat) (r p q:LI) (i:Nat),r.length=c.length->rflP c k r p=some (q,i)->i < c.length/\∃ t,letters c.length t/\t.length<=k/\q=p ++ t/\r=actR c t (simL c.length i)
 | 0,r,p,q,i,hr,h=>by
  unfold rflP at h
  cases e:simI c r with
  | some j=>
   rw [e]at h
   obtain⟨rfl,rfl⟩:=Prod.mk.inj (Option.some.inj h)
   obtain⟨h1,h2⟩:=simI_some e
   exact⟨h1,[],letters_nil _,by simp,by simp,h2⟩
  | none=>rw [e]at h;cases h
 | k+1,r,p,q,i,hr,h=>by
  unfold rflP at h
  cases e:simI c r with
  | some j=>
   rw [e]at h
   obtain⟨rfl,rfl⟩:=Prod.mk.inj (Option.some.inj h)
   obtain⟨h1,h2⟩:=simI_some e
   exact⟨h1,[],letters_nil _,by simp,by simp,h2⟩
  | none=>
   rw [e]at h
   simp only []at h
   cases e2:lowI c r with
   | none=>rw [e2]at h;cases h
   | some j=>
    rw [e2]at h
    simp only []at h
    obtain⟨j1,_,_⟩:=find_some' e2
    split at h
    ·obtain⟨h1,t,t1,t2,t3,t4⟩:=rflP_spec hc k _ _ _ _ (by rw [mir_len];exact hr) h
     refine⟨h1,(j:Int) :: t,letters_cons.2 ⟨⟨by omega,by omega⟩,t1⟩,by simp;omega,by rw [t3];simp,?_⟩
     show r=mirL c (j:Int) (actR c t (simL c.length i))
     rw [<- t4,mir2 hc ⟨by omega,by omega⟩ hr]
    ·cases h
theorem rfl_facts {c:LL} {r:LI} (h:rflB c r=true):CartanP c/\r.length=c.length/\sgnR r=1/\∃ t i,i < c.length/\letters c.length t/\t.length<=7/\r=actR c t (simL c.length i)/\rflX c r=redL c (t ++ [(i:Int)] ++ t.reverse):=by
 have hX:rflX c r=rflL c (rflO c r):=by unfold rflX;rw [if_pos h]
 have h0:=h
 simp only [rflB,bAnd]at h0
 cases e:rflO c r with
 | none=>rw [e]at h0;cases h0.1
 | some x=>
  obtain⟨q,i⟩:=x
  rw [e]at hX
  unfold rflO at e
  split at e
  ·rename_i hw
   rw [bAnd,beq_iff_eq]at hw
   obtain⟨hc,hr⟩:=wgtB_iff.1 hw.1
   have hrl:r.length=c.length:=hr.1
   obtain⟨h1,t,t1,t2,t3,t4⟩:=rflP_spec hc 7 r [] q i hrl e
   rw [List.nil_append]at t3
   subst t3
   exact⟨hc,hrl,hw.2,q,i,h1,t1,t2,t4,hX⟩
  ·cases e
theorem rfl_let {n:Nat} {t:LI} {i:Nat} (hi:i < n) (ht:letters n t):letters n (t ++ [(i:Int)] ++ t.reverse):=
 letters_append.2 ⟨letters_append.2 ⟨ht,letters_cons.2 ⟨⟨by omega,by omega⟩,letters_nil _⟩⟩,letters_reverse ht⟩
theorem rfl_neg {c:LL} {r:LI} (h:rflB c r=true):letters c.length (rflX c r)/\(rflX c r).length % 2=1/\actR c (rflX c r) r=negL r/\imageL c (rflX c r ++ rflX c r)=ones c.length:=by
 obtain⟨hc,hr,_,t,i,hi,ht,htl,e1,e2⟩:=rfl_facts h
 have hl:=rfl_let hi ht
 obtain⟨x1,x2,x3,x4,_⟩:=red_spec hc hl (by simp;omega)
 rw [e2]
 refine⟨x1,by rw [x3];simp;omega,?_,?_⟩
 ·rw [actR_same hc x1 hl x4 hr,actR_append,actR_append]
  have e3:actR c t.reverse r=simL c.length i:=by rw [e1,actR_rev hc t ht (simL_len _ _)]
  rw [e3]
  show actR c t (mirL c (i:Int) (simL c.length i))=negL r
  rw [mir_sim hc hi,actR_neg,<- e1]
 ·rw [image_append,x4,same_elt hc x1 hl x4 (imageL_length _ _),<- image_append]
  have hrev:(t ++ [(i:Int)] ++ t.reverse).reverse=t ++ [(i:Int)] ++ t.reverse:=by simp
  have:=act_rev hc (t ++ [(i:Int)] ++ t.reverse) hl (ones_length c.length)
  rw [hrev]at this
  rw [image_append]
  exact this
def LinE (n:Nat) (m:Int) (x a b:LI):Prop:=x.length=n/\a.length=n/\b.length=n/\∀ k,k < n->x.getD k 0=a.getD k 0 - m*b.getD k 0
theorem gd0x {l:LI} {k:Nat} (h:k < l.length):l.getD k 0=l[k]:=by simp [gdE,h]
theorem mir_at {c:LL} {i:Nat} {x:LI} (hi:i < x.length):(mirL c (i:Int) x).getD i 0=x.getD i 0 - dotL (c.getD i []) x:=by
 unfold mirL
 simp [gdE,List.getElem?_set,hi]
theorem LinE.mir {c:LL} (hc:CartanP c) {m:Int} {x a b:LI} (h:LinE c.length m x a b) {i:Nat} (hi:i < c.length):LinE c.length m (mirL c (i:Int) x) (mirL c (i:Int) a) (mirL c (i:Int) b):=by
 obtain⟨h1,h2,h3,h4⟩:=h
 refine⟨by rw [mir_len];exact h1,by rw [mir_len];exact h2,by rw [mir_len];exact h3,fun k hk=>?_⟩
 by_cases e:k=i
 ·subst e
  rw [mir_at om,mir_at om,mir_at om]
  have hr:(c.getD k []).length=c.length:=hc.2.2.1 k hk
  have:=dot_lin x a b (c.getD k []) m om om om (fun q hq=>h4 q om)
  rw [dot_comm _ x,dot_comm _ a,dot_comm _ b,this,h4 k hk]
  grind
 ·rw [mir_get e,mir_get e,mir_get e];exact h4 k hk
theorem LinE.act {c:LL} (hc:CartanP c) {m:Int} {x a b:LI} (h:LinE c.length m x a b):∀(w:LI),letters c.length w->LinE c.length m (actR c w x) (actR c w a) (actR c w b)
 | [],_=>h
 | i :: w,hw=>by
  obtain⟨hi,hw⟩:=letters_cons.1 hw
  have e:((i.toNat:Nat):Int)=i:=by omega
  have:=(LinE.act hc h w hw).mir hc (i:=i.toNat) om
  rw [e]at this
  exact this
theorem rfl_lin {c:LL} (hc:CartanP c) {t:LI} {i:Nat} (hi:i < c.length) (ht:letters c.length t) {v:LI} (hv:v.length=c.length):∃ m,LinE c.length m (actR c (t ++ [(i:Int)] ++ t.reverse) v) v (actR c t (simL c.length i)):=by
 refine⟨dotL (c.getD i []) (actR c t.reverse v),?_⟩
 have h0:LinE c.length (dotL (c.getD i []) (actR c t.reverse v)) (mirL c (i:Int) (actR c t.reverse v)) (actR c t.reverse v) (simL c.length i):=by
  refine⟨by rw [mir_len,actR_len];exact hv,by rw [actR_len];exact hv,simL_len _ _,fun k hk=>?_⟩
  rw [simL_get _ _ _ hi]
  by_cases e:k=i
  ·subst e;rw [mir_at (by rw [actR_len];omega),if_pos rfl];omega
  ·rw [mir_get e,if_neg e];omega
 have h1:=h0.act hc t ht
 rw [actR_rev2 hc ht hv]at h1
 rw [actR_append,actR_append]
 exact h1
theorem rfl_inj {c:LL} {r r':LI} (h:rflB c r=true) (h':rflB c r'=true) (e:rflX c r=rflX c r'):r=r':=by
 obtain⟨hc,hr,hs,t,i,hi,ht,htl,e1,e2⟩:=rfl_facts h
 obtain⟨_,hr',hs',t',j,hj,ht',_,e1',_⟩:=rfl_facts h'
 obtain⟨_,_,n1,_⟩:=rfl_neg h'
 have hl:=rfl_let hi ht
 obtain⟨x1,_,_,x4,_⟩:=red_spec hc hl (by simp;omega)
 rw [<- e,e2,actR_same hc x1 hl x4 hr']at n1
 obtain⟨m,l1,l2,l3,l4⟩:=rfl_lin hc hi ht hr'
 rw [n1,<- e1]at l4
 have hsc:sclL 2 r'=sclL m r:=by
  apply List.ext_getElem (by simp [sclL];omega)
  intro k k1 k2
  have hk:k < c.length:=by simp [sclL]at k1;omega
  have q:=l4 k hk
  rw [negL_get]at q
  have a1:=sclL_get 2 r' k
  have a2:=sclL_get m r k
  rw [<- gd0x k1,<- gd0x k2,a1,a2]
  omega
 have f1:=congrArg (actR c t'.reverse) hsc
 rw [actR_scl,actR_scl,e1',actR_rev hc t' ht' (simL_len _ _)]at f1
 have f2:=congrArg (actR c t.reverse) hsc
 rw [actR_scl,actR_scl]at f2
 have f3:actR c t.reverse r=simL c.length i:=by rw [e1,actR_rev hc t ht (simL_len _ _)]
 rw [f3]at f2
 have g1:=congrArg (fun l=>l.getD j 0) f1
 have g2:=congrArg (fun l=>l.getD i 0) f2
 simp only [sclL_get]at g1 g2
 rw [simL_get _ _ _ hj,if_pos rfl]at g1
 rw [simL_get _ _ _ hi,if_pos rfl]at g2
 generalize (actR c t.reverse r').getD i 0=y at g2
 generalize (actR c t'.reverse r).getD j 0=z at g1
 have hm:m=2*y:=by omega
 have hyz:y*z=1:=by
  rw [hm,Int.mul_assoc]at g1;omega
 have hy:y=1\/y = -1:=by
  rcases Int.le_total y 0 with q | q
  ·right
   rcases Int.le_total y (-2)with q2 | q2
   ·exfalso
    rcases Int.le_total z (-1)with q3 | q3
    ·have:=Int.mul_le_mul_of_nonneg_right (show 2<=-y by omega) (show 0<=-z by omega)
     rw [Int.neg_mul_neg]at this;omega
    ·rcases(show z = -0\/0 < z\/z = -1 by omega)with q4 | q4 | q4
     ·rw [q4]at hyz;simp at hyz
     ·have:=Int.mul_nonneg (show 0<=-y by omega) (show 0<=z by omega);rw [Int.neg_mul]at this;omega
     ·rw [q4]at hyz;omega
   ·rcases(show y=0\/y = -1\/y = -2 by omega)with q4 | q4 | q4
    ·rw [q4]at hyz;simp at hyz
    ·exact q4
    ·rw [q4]at hyz;omega
  ·left
   rcases(show y=0\/y=1\/2<=y by omega)with q4 | q4 | q4
   ·rw [q4]at hyz;simp at hyz
   ·exact q4
   ·exfalso
    rcases(show z<=0\/1<=z by omega)with q5 | q5
    ·have:=Int.mul_nonneg q (show 0<=-z by omega);rw [Int.mul_neg]at this;omega
    ·have:=Int.mul_le_mul_of_nonneg_right q4 (show 0<=z by omega);omega
 have hext:∀ n:Int,m=2*n->∀ k,r'.getD k 0=n*r.getD k 0:=fun n hn k=>by
  have:=congrArg (fun l=>l.getD k 0) hsc
  simp only [sclL_get]at this
  rw [hn,Int.mul_assoc]at this
  omega
 rcases hy with hy | hy
 ·have hk:=hext 1 om
  apply List.ext_getElem om
  intro k k1 k2
  have:=hk k
  rw [gd0x k1,gd0x k2]at this
  omega
 ·exfalso
  have hk:=hext (-1) om
  have he:r'=negL r:=by
   apply List.ext_getElem (by simp [negL];omega)
   intro k k1 k2
   have:=hk k
   rw [<- gd0x k1,<- gd0x k2,negL_get]
   omega
  rw [he,sgn_neg,hs]at hs'
  cases hs'
theorem ror_back {c:LL} {r:LI} (h:rflB c r=true):rorB c (rflX c r)=true/\rorX c (rflX c r)=r:=by
 obtain⟨hc,hr,hs,t,i,hi,ht,htl,e1,e2⟩:=rfl_facts h
 obtain⟨x1,x2,x3,x4⟩:=rfl_neg h
 have hl:=rfl_let hi ht
 have hle:=rflX_le c r
 have hred:redL c (rflX c r)=rflX c r:=by
  rw [e2];exact red_eq (red_spec hc hl (by simp;omega)).2.2.2.1
 have hw:wordB c (rflX c r)=true:=wordB_iff.2 ⟨hc,hle,x1⟩
 have hon:(wordB c (rflX c r) && decide ((redL c (rflX c r)).length % 2=1))=true:=by rw [hw,hred,decide_eq_true x2];rfl
 have hrt:Rt c r:=⟨t,i,ht,hi,e1⟩
 have hneg:actR c (rflX c r).reverse r=negL r:=by
  have:=congrArg (actR c (rflX c r).reverse) x3
  rw [actR_rev hc _ x1 hr,actR_neg]at this
  have h2:=congrArg negL this
  rw [h2]
  apply List.ext_getElem (by simp [negL])
  intro k k1 k2
  simp [negL]
 have hinv:InvP c (rflX c r) r:=⟨hrt,hs,by rw [hneg,sgn_neg,hs]⟩
 obtain⟨k,k1,k2⟩:=inv_seq hc (rflX c r) x1 hinv
 have hI:rorI c (rflX c r)=(List.range (rflX c r).length).find? (isRor c (rflX c r)):=by rw [ror_on hon,hred]
 cases e:(List.range (rflX c r).length).find? (isRor c (rflX c r)) with
 | none=>
  exfalso
  have:=List.find?_eq_none.1 e k (List.mem_range.2 k1)
  unfold isRor at this
  rw [<- k2,h]at this
  simp at this
 | some q=>
  rw [e]at hI
  obtain⟨q1,q2,_⟩:=find_some' e
  obtain⟨s1,s2⟩:=ror_some hI
  refine⟨s1,?_⟩
  rw [s2,hred]
  unfold isRor at q2
  rw [bAnd,beq_iff_eq]at q2
  exact rfl_inj q2.1 h q2.2
theorem c_impl_pairing_w (a r:LI) (hl:a.length=r.length):FunA B 120 [.sl false .int a,.sl false .int r] (fun rs o=>(∃ n,rs=[.int .i64 n])/\o=[]):=by
 refine wk Tryz.call120 Tryz.func120 rfl Tryz.ntmps120 fun C hC hP hT hfn hpin hfin hX=>wW ?_
 refine Run.len 1 rfl fun hlen=>?_
 refine Run.R ?_
 refine Run.R ?_
 refine Run.R ?_
 refine Run.loopI (X:=Nat×Int) (fun x=>⟨25,[(0,true,.v (.sl false .int a)),(1,true,.v (.sl false .int r)),(4,true,.v (.int .i64 0)),(5,true,.v (.int .i64 (x.2))),(8,true,.v (.sl false .int r)),(9,true,.v (.int .i64 (r.length))),(10,true,.v (.int .i64 (x.1)))],[]⟩) (fun x=>x.1<=r.length) (fun x=>r.length - x.1) ((0,0)) (nz0 _) ?_ ?_
 ·exact Le.s
 rintro⟨k,s⟩ hk ih
 try simp only []
 simp only at hk
 refine Run.R ?_
 refine Run.c ?_ ?_
 ·intro hc
  have hc:k < r.length:=by simpa using hc
  refine Run.R ?_
  refine Run.R ?_
  refine Run.RW ?_
  refine Run.le ?_ (ih (k+1,IntKind.i64.wrap (s+IntKind.i64.wrap (a.getD k 0*r.getD k 0))) (by simp only;omega) (by simp only;omega))
  exact Le.sub (by rfl) (by simp only [AW7,simprocAttr];try simp)
 ·intro hc
  have hc:k=r.length:=by simp at hc;omega
  subst hc
  refine Run.x ?_
  refine Run.R ?_
  refine Run.r [4] ?_
  exact⟨⟨_,rfl⟩,rfl⟩
theorem c_impl_mirrored_w (c:LL) (i:Int) (r:LI) (hi:0<=i/\i < c.length) (hl:r.length=c.length) (hrow:(c.getD i.toNat []).length=c.length) (hc4:c.length<=4) :
  FunA B 72 [.sl false (.row false) c,.int .i64 i,.sl false .int r] (fun rs o=>rs=[.own 0 0]/\∃ ys:List Int,ys.length=r.length/\o=[.arr .int ys 0 true]):=by
 refine wk Tryz.call72 Tryz.func72 rfl Tryz.ntmps72 fun C hC hP hT hfn hpin hfin hX=>wW ?_
 refine Run.R ?_
 refine Run.R ?_
 refine Run.k [0,1,2,6,7] [0] ?_
 refine Run.nq ?_;refine Run.regionD hC true [0,1,2,3,4,5,6,7,8,9,10,11,12] (by kernel_rfl) (fun K hK=>?_);simp only [AW7,simprocAttr,hX];(repeat(with_reducible refine And.intro ?_ ?_);exact vc0)
 refine FunA.callD hP hT (c_impl_pairing_w (c.getD i.toNat []) r om) (by simp only [AW7,simprocAttr]) ?_
 rintro rs o ⟨⟨n,rfl⟩,rfl⟩
 refine wF ?_;clear hK K
 refine Run.R ?_
 refine Run.k [6] [0] ?_
 refine Run.r [6] ?_
 exact⟨rfl,_,by simp,rfl⟩
def cmpR (a b:LI):Int:=if hgt a < hgt b then -1 else if hgt a > hgt b then 1 else cmpW b a
theorem gt_cmpN {a b:LI} (hl:a.length=b.length):∀(n i:Nat),i+n=a.length->(gtL (a.drop i) (b.drop i)=true↔cmpN b a n i < 0)
 | 0,i,h=>by rw [List.drop_of_length_le om,List.drop_of_length_le om];simp [gtL,cmpN]
 | n+1,i,h=>by
  have h1:i < a.length:=by omega
  have h2:i < b.length:=by omega
  have ih:=gt_cmpN hl n (i+1) om
  rw [List.drop_eq_getElem_cons h1,List.drop_eq_getElem_cons h2]
  unfold gtL cmpN
  rw [getD_eq h1,getD_eq h2]
  by_cases e:a[i]=b[i]
  ·rw [if_pos e,if_neg om,if_neg om];exact ih
  ·rw [if_neg e,dtE]
   split
   ·omega
   ·split<;>omega
theorem befR_cmp {a b:LI} (hl:a.length=b.length):befR a b=true↔cmpR a b < 0:=by
 unfold befR cmpR
 by_cases e:hgt a=hgt b
 ·rw [if_pos e,if_neg om,if_neg om]
  unfold cmpW
  rw [if_neg om,if_neg om,<- hl]
  exact gt_cmpN hl a.length 0 om
 ·rw [if_neg e,dtE]
  split
  ·omega
  ·split<;>omega
theorem cmpR_swo:Go.Sort.SWO (ltOf fun p q:List Int×List Int=>cmpR p.1 q.1):=by
 refine⟨fun x=>?_,fun x y z h1 h2=>?_,fun x y z h1 h2=>?_⟩
 ·have:cmpR x.1 x.1=0:=by unfold cmpR;rw [if_neg om,if_neg om,cmpW_self]
  unfold ltOf;rw [dfE];show ¬cmpR x.1 x.1 < 0;omega
 ·unfold ltOf at *
  rw [dtE]at *
  unfold cmpR at *
  dsimp only at h1 h2 ⊢
  split at h1
  ·split at h2
   ·rw [if_pos om];omega
   ·split at h2
    ·omega
    ·rw [if_pos om];omega
  ·split at h1
   ·omega
   ·split at h2
    ·rw [if_pos om];omega
    ·split at h2
     ·omega
     ·rw [if_neg om,if_neg om];exact cmpW_lt_trans h2 h1
 ·unfold ltOf at *
  rw [dfE]at *
  unfold cmpR at *
  dsimp only at h1 h2 ⊢
  split at h1
  ·omega
  ·split at h1
   ·split at h2
    ·omega
    ·split at h2
     ·rw [if_neg om,if_pos om];omega
     ·rw [if_neg om,if_pos om];omega
   ·split at h2
    ·omega
    ·split at h2
     ·rw [if_neg om,if_pos om];omega
     ·rw [if_neg om,if_neg om]
      have:=cmpW_ge_trans (p:=z.1) (q:=y.1) (r:=x.1) om om
      omega
theorem c_impl_compareRoots (a b:LI) (ha:Bnd 1000000000000000000 a) (hb:Bnd 1000000000000000000 b) (h4:a.length<=4) (hl:a.length=b.length) :
  FunA B 149 [.sl false .int a,.sl false .int b] (fun rs o=>rs=[.int .i64 (cmpR a b)]/\o=[]):=by
 refine wk Tryz.call149 Tryz.func149 rfl Tryz.ntmps149 fun C hC hP hT hfn hpin hfin hX=>wW ?_
 refine Run.R ?_
 refine Run.g fun K hK=>?_
 refine FunA.e hP hT (c_impl_HeightOf a ha h4) ?_
 refine FunA.e hP hT (c_impl_HeightOf b hb om) ?_
 refine FunA.e hP hT (c_cmpCompare (hgt a) (hgt b)) ?_
 refine FunA.cW hP hT (c_slicesCompare b a om) ?_
 rintro rs o ⟨⟨v,rfl,hv⟩,rfl⟩
 refine wW ?_
 refine FunA.e hP hT (c_cmpOr [cmpI (hgt a) (hgt b),v] (by simp)) ?_
 refine wE ?_;clear hK K
 have e:orL [cmpI (hgt a) (hgt b),v]=cmpR a b:=by
  have hv':v=cmpW b a:=by rw [hv om];unfold cmpW;rw [if_neg om,if_neg om]
  simp only [orL]
  unfold cmpI cmpR
  by_cases k1:hgt a < hgt b
  ·rw [if_pos k1,if_pos k1];rfl
  ·by_cases k2:hgt a > hgt b
   ·rw [if_neg k1,if_pos k2,if_neg k1,if_pos k2];rfl
   ·rw [if_neg k1,if_neg k2,if_neg k1,if_neg k2,if_pos rfl,<- hv']
    split
    ·rename_i h;exact h.symm
    ·rfl
 refine Run.k [4] [] ?_
 refine Run.r [4] ?_
 rw [e];exact⟨rfl,rfl⟩
def kR (r:LI):List Int:=r.take 4 ++ [0,0,0,0].drop r.length
def mlR (L:LL):List (MK×MV):=L.map fun r=>(MK.vec (kR r),MV.bool true)
theorem kR_inj {a b:LI} (h4:b.length<=4) (hl:a.length=b.length) (h:kR a=kR b):a=b:=by
 unfold kR at h
 rw [List.take_of_length_le om,List.take_of_length_le h4,hl]at h
 exact List.append_cancel_right h
theorem mlR_find {r:LI} (h4:r.length<=4):∀(L:LL) (i:Nat),(∀ z∈L,z.length=r.length)->(r∈L->∃ j,mfindI (mlR L) (.vec (kR r)) i=some (j,.bool true))/\(r∉L->mfindI (mlR L) (.vec (kR r)) i=none)
 | [],i,_=>⟨fun h=>by simp at h,fun _=>rfl⟩
 | z :: L,i,h=>by
  have ih:=mlR_find h4 L (i+1) fun y hy=>h y (mcM _ hy)
  show(_->∃ j,(if (MK.vec (kR r))=MK.vec (kR z)then some (i,MV.bool true)else mfindI (mlR L) (.vec (kR r)) (i+1))=_)/\(_->(if (MK.vec (kR r))=MK.vec (kR z)then some (i,MV.bool true)else mfindI (mlR L) (.vec (kR r)) (i+1))=none)
  by_cases e:r=z
  ·subst e
   rw [if_pos rfl]
   exact⟨fun _=>⟨i,rfl⟩,fun hn=>absurd (mcS ..) hn⟩
  ·have hne:¬MK.vec (kR r)=MK.vec (kR z):=fun hk=>e (kR_inj (by rw [h z (mcS ..)];exact h4) (h z (mcS ..)).symm (MK.vec.inj hk))
   rw [if_neg hne]
   refine⟨fun hm=>ih.1 ?_,fun hn=>ih.2 fun hm=>hn (mcM _ hm)⟩
   rcases List.mem_cons.1 hm with hm | hm
   ·exact absurd hm e
   ·exact hm
theorem mlR_get {r:LI} (h4:r.length<=4) {L:LL} (h:∀ z∈L,z.length=r.length):mgetB (mlR L) (.vec (kR r))=decide (r∈L):=by
 unfold mgetB mfind
 by_cases hm:r∈L
 ·obtain⟨j,e⟩:=(mlR_find h4 L 0 h).1 hm
  rw [e,decide_eq_true hm];rfl
 ·rw [(mlR_find h4 L 0 h).2 hm,decide_eq_false hm];rfl
theorem mlR_put {r:LI} (h4:r.length<=4) {L:LL} (h:∀ z∈L,z.length=r.length) (hm:r∉L):mput (mlR L) (.vec (kR r)) (.bool true)=mlR (L ++ [r]):=by
 unfold mput
 rw [(mlR_find h4 L 0 h).2 hm]
 simp [mlR]
def addX (H:Int) (xs:List (List Int×List Int)) (p:List Int×List Int):List (List Int×List Int):=if p.1∉xs.map (·.1)/\sgnR p.1=1/\hgt p.1<=H then xs ++ [p]else xs
end Go.Proofs.YtcinngodeoidnaaGreat
