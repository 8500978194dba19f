/- Root vectors: sums, signs, reflections: what the functions of both sides do. -/
import Derived.Test.YtcinngodeoidnaaGreatB13
set_option linter.unusedVariables false
set_option linter.unusedSimpArgs false
namespace Go.Proofs.YtcinngodeoidnaaGreat
open Go Go.Aw Go.Cox
def hgt:List Int->Int
 | []=>0
 | x :: r=>x+hgt r
theorem hgt_append:∀ a b:List Int,hgt (a ++ b)=hgt a+hgt b
 | [],b=>by simp [hgt]
 | x :: a,b=>by simp [hgt,hgt_append a b];omega
theorem hgt_snoc (r:LI) (k:Nat) (h:k < r.length):hgt (r.take (k+1))=hgt (r.take k)+r.getD k 0:=by
 rw [<- take_snoc 0 r k h,hgt_append];simp [hgt]
def Bnd (M:Int) (r:LI):Prop:=∀ x∈r,-M<=x/\x<=M
theorem hgt_bnd {M:Int}:∀ {r:LI},Bnd M r->-(M*r.length)<=hgt r/\hgt r<=M*r.length
 | [],_=>by simp [hgt]
 | x :: r,h=>by
  have h1:=h x (mcS ..)
  have h2:=hgt_bnd (r:=r) (fun y hy=>h y (mcM _ hy))
  simp only [hgt,lenC]
  have e:M*((r.length+1:Nat):Int)=M*r.length+M:=by push_cast;grind
  rw [e];omega
theorem Bnd.take {M:Int} {r:LI} (h:Bnd M r) (k:Nat):Bnd M (r.take k):=fun x hx=>h x (List.mem_of_mem_take hx)
theorem Bnd.get {M:Int} {r:LI} (h:Bnd M r) {k:Nat} (hk:k < r.length):-M<=r.getD k 0/\r.getD k 0<=M:=h _ (getD_mem hk)
theorem hgt_pre {r:LI} (h:Bnd 1000000000000000000 r) (hl:r.length<=4) (k:Nat):-4000000000000000000<=hgt (r.take k)/\hgt (r.take k)<=4000000000000000000:=by
 have:=hgt_bnd (h.take k)
 have hk:(r.take k).length<=4:=by simp;omega
 omega
theorem c_impl_HeightOf (r:LI) (h:Bnd 1000000000000000000 r) (hl:r.length<=4):FunA B 46 [.sl false .int r] (fun rs o=>rs=[.int .i64 (hgt r)]/\o=[]):=by
 refine wk Tryz.call46 Tryz.func46 rfl Tryz.ntmps46 fun C hC hP hT hfn hpin hfin hX=>wW ?_
 refine Run.R ?_
 refine Run.R ?_
 refine Run.R ?_
 refine Run.loopI (X:=Nat) (fun k=>⟨17,[(0,true,.v (.sl false .int r)),(2,true,.v (.int .i64 0)),(3,true,.v (.int .i64 ((hgt (r.take k))))),(6,true,.v (.sl false .int r)),(7,true,.v (.int .i64 (r.length))),(8,true,.v (.int .i64 k))],[]⟩) (fun k=>k<=r.length) (fun k=>r.length - k) (0) (nz0 _) ?_ ?_
 ·exact Le.s
 rintro k hk ih
 try simp only []
 refine Run.R ?_
 refine Run.c ?_ ?_
 ·intro hc
  have hc:k < r.length:=by simpa using hc
  have hs:=hgt_snoc r k hc
  have h1:=hgt_pre h hl (k+1)
  rw [hs]at h1
  refine Run.R ?_
  refine Run.RW ?_
  rw [<- hs]
  refine Run.RW ?_
  exact Run.j (ih (k+1) om mz)
 ·intro hc
  have hc:k=r.length:=by simp at hc;omega
  subst hc
  rw [tkL]
  refine Run.x ?_
  refine Run.R ?_
  refine Run.r [2] ?_
  exact⟨rfl,rfl⟩
theorem c_spec_HeightOf (r:LI) (h:Bnd 1000000000000000000 r) (hl:r.length<=4):FunA B 60 [.sl false .int r] (fun rs o=>rs=[.int .i64 (hgt r)]/\o=[]):=by
 refine wk Tryz.call60 Tryz.func60 rfl Tryz.ntmps60 fun C hC hP hT hfn hpin hfin hX=>wW ?_
 refine Run.R ?_
 refine Run.R ?_
 refine Run.R ?_
 refine Run.loopI (X:=Nat) (fun k=>⟨18,[(0,true,.v (.sl false .int r)),(2,true,.v (.int .i64 0)),(3,true,.v (.int .i64 ((hgt (r.take k))))),(4,true,.v (.int .i64 k))],[]⟩) (fun k=>k<=r.length) (fun k=>r.length - k) (0) (nz0 _) ?_ ?_
 ·exact Le.s
 rintro k hk ih
 try simp only []
 refine Run.R ?_
 refine Run.c ?_ ?_
 ·intro hc
  have hc:k < r.length:=by simpa using hc
  have hs:=hgt_snoc r k hc
  have h1:=hgt_pre h hl (k+1)
  rw [hs]at h1
  refine Run.RW ?_
  rw [<- hs]
  refine Run.RW ?_
  exact Run.j (ih (k+1) om mz)
 ·intro hc
  have hc:k=r.length:=by simp at hc;omega
  subst hc
  rw [tkL]
  refine Run.x ?_
  refine Run.R ?_
  refine Run.r [2] ?_
  exact⟨rfl,rfl⟩
def posA (r:LI):Bool:=r.any fun x=>decide (0 < x)
def negA (r:LI):Bool:=r.any fun x=>decide (x < 0)
def sgnR (r:LI):Int:=bif posA r && !negA r then 1 else bif negA r && !posA r then -1 else 0
theorem any_snoc (p:Int->Bool) (w:LI) (i:Nat) (h:i < w.length):(w.take (i+1)).any p=((w.take i).any p || p (w.getD i 0)):=by
 rw [<- take_snoc 0 w i h];simp
theorem sgnR_one {r:LI}:sgnR r=1↔posA r=true/\negA r=false:=by
 unfold sgnR;cases posA r<;>cases negA r<;>simp
theorem c_impl_RootSign (r:LI):FunA B 40 [.sl false .int r] (fun rs o=>rs=[.int .i64 (sgnR r)]/\o=[]):=by
 refine wk Tryz.call40 Tryz.func40 rfl Tryz.ntmps40 fun C hC hP hT hfn hpin hfin hX=>wW ?_
 refine Run.len 0 rfl (fun hl=>?_)
 refine Run.R ?_
 refine Run.R ?_
 refine Run.R ?_
 refine Run.loopI (X:=Nat) (fun k=>⟨36,[(0,true,.v (.sl false .int r)),(2,true,.v (.int .i64 0)),(3,true,.v (.bool ((posA (r.take k))))),(4,true,.v (.bool ((negA (r.take k))))),(7,true,.v (.sl false .int r)),(8,true,.v (.int .i64 (r.length))),(9,true,.v (.int .i64 k))],[]⟩) (fun k=>k<=r.length) (fun k=>r.length - k) (0) (nz0 _) ?_ ?_
 ·exact Le.s
 rintro k hk ih
 try simp only []
 refine Run.R ?_
 refine Run.c ?_ ?_
 ·intro hc
  have hc:k < r.length:=by simpa using hc
  have h1:posA (r.take (k+1))=(posA (r.take k) || decide (0 < r.getD k 0)):=any_snoc _ r k hc
  have h2:negA (r.take (k+1))=(negA (r.take k) || decide (r.getD k 0 < 0)):=any_snoc _ r k hc
  refine Run.R ?_
  refine Run.R ?_
  refine Run.R ?_
  refine Run.RW ?_
  refine Run.le ?_ (ih (k+1) om om)
  exact Le.sub (by rfl) (by rw [h1,h2];simp only [AW7,simprocAttr];simp)
 ·intro hc
  have hc:k=r.length:=by simp at hc;omega
  subst hc
  rw [tkL]
  refine Run.x ?_
  refine Run.R ?_
  refine Run.c ?_ ?_
  ·intro h1
   have h1:posA r=true/\negA r=false:=by revert h1;cases posA r<;>cases negA r<;>simp
   refine Run.R ?_
   refine Run.r [2] ?_
   exact⟨by rw [sgnR_one.2 h1],rfl⟩
  ·intro h1
   refine Run.R ?_
   refine Run.c ?_ ?_
   ·intro h2
    refine Run.R ?_
    refine Run.r [2] ?_
    refine⟨?_,rfl⟩
    revert h1 h2
    unfold sgnR
    cases posA r<;>cases negA r<;>simp
   ·intro h2
    refine Run.R ?_
    refine Run.r [2] ?_
    refine⟨?_,rfl⟩
    revert h1 h2
    unfold sgnR
    cases posA r<;>cases negA r<;>simp
theorem c_spec_RootSign (r:LI):FunA B 59 [.sl false .int r] (fun rs o=>rs=[.int .i64 (sgnR r)]/\o=[]):=by
 refine wk Tryz.call59 Tryz.func59 rfl Tryz.ntmps59 fun C hC hP hT hfn hpin hfin hX=>wW ?_
 refine Run.len 0 rfl (fun hl=>?_)
 refine Run.R ?_
 refine Run.R ?_
 refine Run.R ?_
 refine Run.R ?_
 refine Run.loopI (X:=Nat) (fun k=>⟨32,[(0,true,.v (.sl false .int r)),(2,true,.v (.int .i64 0)),(3,true,.v (.bool ((posA (r.take k))))),(4,true,.v (.bool ((negA (r.take k))))),(5,true,.v (.int .i64 k))],[]⟩) (fun k=>k<=r.length) (fun k=>r.length - k) (0) (nz0 _) ?_ ?_
 ·exact Le.s
 rintro k hk ih
 try simp only []
 refine Run.R ?_
 refine Run.c ?_ ?_
 ·intro hc
  have hc:k < r.length:=by simpa using hc
  have h1:posA (r.take (k+1))=(posA (r.take k) || decide (0 < r.getD k 0)):=any_snoc _ r k hc
  have h2:negA (r.take (k+1))=(negA (r.take k) || decide (r.getD k 0 < 0)):=any_snoc _ r k hc
  refine Run.R ?_
  refine Run.R ?_
  refine Run.RW ?_
  refine Run.le ?_ (ih (k+1) om om)
  exact Le.sub (by rfl) (by rw [h1,h2];simp only [AW7,simprocAttr];simp)
 ·intro hc
  have hc:k=r.length:=by simp at hc;omega
  subst hc
  rw [tkL]
  refine Run.x ?_
  refine Run.R ?_
  refine Run.c ?_ ?_
  ·intro h1
   refine Run.R ?_
   refine Run.r [2] ?_
   refine⟨?_,rfl⟩
   revert h1
   unfold sgnR
   cases posA r<;>cases negA r<;>simp
  ·intro h1
   refine Run.R ?_
   refine Run.c ?_ ?_
   ·intro h2
    refine Run.R ?_
    refine Run.r [2] ?_
    refine⟨?_,rfl⟩
    revert h1 h2
    unfold sgnR
    cases posA r<;>cases negA r<;>simp
   ·intro h2
    refine Run.R ?_
    refine Run.r [2] ?_
    refine⟨?_,rfl⟩
    revert h1 h2
    unfold sgnR
    cases posA r<;>cases negA r<;>simp
theorem dot_append:∀(a b x y:LI),a.length=x.length->dotL (a ++ b) (x ++ y)=dotL a x+dotL b y
 | [],b,[],y,_=>by simp [dotL]
 | p :: a,b,q :: x,y,h=>by simp [dotL,dot_append a b x y (by simpa using h)];omega
theorem dot_snoc (a r:LI) (k:Nat) (ha:k < a.length) (hr:k < r.length):dotL (a.take (k+1)) (r.take (k+1))=dotL (a.take k) (r.take k)+a.getD k 0*r.getD k 0:=by
 rw [<- take_snoc 0 a k ha,<- take_snoc 0 r k hr,dot_append _ _ _ _ (by simp;omega)]
 simp [dotL]
theorem mul3 {a x M:Int} (ha:-3<=a/\a<=3) (hx:-M<=x/\x<=M):-(3*M)<=a*x/\a*x<=3*M:=by
 have:a = -3\/a = -2\/a = -1\/a=0\/a=1\/a=2\/a=3:=by omega
 rcases this with rfl | rfl | rfl | rfl | rfl | rfl | rfl<;>omega
theorem dot_pre {a r:LI} {M:Int} (ha:Bnd 3 a) (hr:Bnd M r) (hl:a.length=r.length) (hM:0<=M):∀ k,k<=r.length->-(3*M*k)<=dotL (a.take k) (r.take k)/\dotL (a.take k) (r.take k)<=3*M*k
 | 0,_=>by simp [dotL]
 | k+1,h=>by
  have ih:=dot_pre ha hr hl hM k om
  rw [dot_snoc a r k om om]
  have:=mul3 (ha.get (k:=k) om) (hr.get (k:=k) om)
  have e:3*M*((k+1:Nat):Int)=3*M*k+3*M:=by push_cast;grind
  rw [e];omega
theorem dot_le {a r:LI} {M:Int} (ha:Bnd 3 a) (hr:Bnd M r) (hl:a.length=r.length) (h4:r.length<=4) (hM:0<=M) (k:Nat) (hk:k<=r.length):-(12*M)<=dotL (a.take k) (r.take k)/\dotL (a.take k) (r.take k)<=12*M:=by
 have h1:=dot_pre ha hr hl hM k hk
 have h2:3*M*(k:Int)<=12*M:=by
  have:(3*M)*(k:Int)<=(3*M)*4:=Int.mul_le_mul_of_nonneg_left om om
  omega
 omega
theorem row_bnd {c:LL} (hc:CartanP c) {i:Nat} (hi:i < c.length):Bnd 3 (c.getD i [])/\(c.getD i []).length=c.length:=by
 have hl:=hc.2.2.1 i hi
 refine⟨fun x hx=>?_,hl⟩
 obtain⟨k,hk,rfl⟩:=List.getElem_of_mem hx
 have:=ent_le hc i k hi om
 have e:ent c i k=(c.getD i [])[k]:=by unfold ent;generalize c.getD i []=q at hk;simp [hk]
 rw [e]at this
 omega
theorem c_impl_pairing (a r:LI) (ha:Bnd 3 a) (hr:Bnd 100000000000000000 r) (hl:a.length=r.length) (h4:r.length<=4):FunA B 120 [.sl false .int a,.sl false .int r] (fun rs o=>rs=[.int .i64 (dotL a r)]/\o=[]):=by
 refine wk Tryz.call120 Tryz.func120 rfl Tryz.ntmps120 fun C hC hP hT hfn hpin hfin hX=>wW ?_
 refine Run.R ?_
 refine Run.R ?_
 refine Run.R ?_
 refine Run.loopI (X:=Nat) (fun k=>⟨25,[(0,true,.v (.sl false .int a)),(1,true,.v (.sl false .int r)),(4,true,.v (.int .i64 0)),(5,true,.v (.int .i64 ((dotL (a.take k) (r.take k))))),(8,true,.v (.sl false .int r)),(9,true,.v (.int .i64 (r.length))),(10,true,.v (.int .i64 k))],[]⟩) (fun k=>k<=r.length) (fun k=>r.length - k) (0) (nz0 _) ?_ ?_
 ·exact Le.s
 rintro k hk ih
 try simp only []
 refine Run.R ?_
 refine Run.c ?_ ?_
 ·intro hc
  have hc:k < r.length:=by simpa using hc
  have hs:=dot_snoc a r k om hc
  have h0:=dot_le ha hr hl h4 om k hk
  have h1:=dot_le ha hr hl h4 om (k+1) om
  have h2:=mul3 (ha.get (k:=k) om) (hr.get hc)
  rw [hs]at h1
  refine Run.R ?_
  refine Run.RW ?_
  rw [<- hs]
  refine Run.RW ?_
  exact Run.j (ih (k+1) om mz)
 ·intro hc
  have hc:k=r.length:=by simp at hc;omega
  subst hc
  rw [tkL,List.take_of_length_le om]
  refine Run.x ?_
  refine Run.R ?_
  refine Run.r [4] ?_
  exact⟨rfl,rfl⟩
theorem mir_len (c:LL) (i:Int) (r:LI):(mirL c i r).length=r.length:=by simp [mirL]
theorem mir_bnd {c:LL} (hc:CartanP c) {i:Int} (hi:0<=i/\i < c.length) {r:LI} (hl:r.length=c.length) {M:Int} (hM:0<=M) (hr:Bnd M r):Bnd (13*M) (mirL c i r):=by
 intro x hx
 unfold mirL at hx
 rcases List.mem_or_eq_of_mem_set hx with h | h
 ·have:=hr x h;omega
 ·obtain⟨h1,h2⟩:=row_bnd hc (i:=i.toNat) om
  have h3:=dot_le h1 hr om (by have:=hc.2.1;omega) hM r.length (Nat.le_refl _)
  rw [tkL,List.take_of_length_le om]at h3
  have h4:=hr.get (k:=i.toNat) om
  rw [h];omega
theorem c_impl_mirrored (c:LL) (i:Int) (r:LI) (hc:CartanP c) (hi:0<=i/\i < c.length) (hl:r.length=c.length) (hr:Bnd 100000000000000000 r) :
  FunA B 72 [.sl false (.row false) c,.int .i64 i,.sl false .int r] (fun rs o=>rs=[.own 0 0]/\o=[.arr .int (mirL c i r) 0 true]):=by
 have hn:=hc.2.1
 obtain⟨b1,b2⟩:=row_bnd hc (i:=i.toNat) om
 have h3:=dot_le b1 hr om om om r.length (Nat.le_refl _)
 rw [tkL,List.take_of_length_le om]at h3
 have h4:=hr.get (k:=i.toNat) om
 refine wk Tryz.call72 Tryz.func72 rfl Tryz.ntmps72 fun C hC hP hT hfn hpin hfin hX=>wW ?_
 refine Run.R ?_
 refine Run.R ?_
 refine Run.k [0,1,2,6,7] [0] ?_
 refine Run.nq ?_;refine Run.regionD hC true [0,1,2,3,4,5,6,7,8,9,10,11,12] (by kernel_rfl) (fun K hK=>?_);simp(disch:=omega) only [wrap_id,AW7,simprocAttr,hX];(repeat(with_reducible refine And.intro ?_ ?_);exact vc0)
 refine FunA.callD hP hT (c_impl_pairing (c.getD i.toNat []) r b1 hr om om) (by simp only [AW7,simprocAttr]) ?_
 rintro rs o ⟨rfl,rfl⟩
 simp(disch:=omega) only [wrap_id,AW7,simprocAttr,hX]
 (repeat(with_reducible refine And.intro ?_ ?_);exact vc0)
 refine wE ?_;clear hK K
 refine Run.R ?_
 refine Run.k [6] [0] ?_
 refine Run.r [6] ?_
 exact⟨rfl,rfl⟩
theorem c_spec_l7Reflect (c:LL) (i:Int) (r:LI) (hc:CartanP c) (hi:0<=i/\i < c.length) (hl:r.length=c.length) (hr:Bnd 100000000000000000 r) :
  FunA B 81 [.sl false (.row false) c,.int .i64 i,.sl false .int r] (fun rs o=>rs=[.own 0 0]/\o=[.arr .int (mirL c i r) 0 true]):=by
 have hn:=hc.2.1
 obtain⟨b1,b2⟩:=row_bnd hc (i:=i.toNat) om
 have h3:=dot_le b1 hr om om om r.length (Nat.le_refl _)
 rw [tkL,List.take_of_length_le om]at h3
 have h4:=hr.get (k:=i.toNat) om
 refine wk Tryz.call81 Tryz.func81 rfl Tryz.ntmps81 fun C hC hP hT hfn hpin hfin hX=>wW ?_
 refine Run.R ?_
 refine Run.R ?_
 refine Run.R ?_
 refine Run.R ?_
 refine Run.k [0,1,2,6,7,8,9] [0] ?_
 refine Run.loopI (X:=Nat) (fun k=>⟨43,[(0,true,.v (.sl false (.row false) c)),(1,true,.v (.int .i64 i)),(2,true,.v (.sl false .int r)),(6,true,.v (.nils)),(7,true,.v (.own 0 0)),(8,true,.v (.int .i64 ((dotL ((c.getD i.toNat []).take k) (r.take k))))),(9,true,.v (.int .i64 k))],[.arr .int (r) 0 true]⟩) (fun k=>k<=r.length) (fun k=>r.length - k) (0) (nz0 _) ?_ ?_
 ·exact Le.s
 rintro k hk ih
 try simp only []
 refine Run.R ?_
 refine Run.c ?_ ?_
 ·intro h
  have h:k < r.length:=by simpa using h
  have hs:=dot_snoc (c.getD i.toNat []) r k om h
  have h0:=dot_le b1 hr om om om k hk
  have h1:=dot_le b1 hr om om om (k+1) om
  have h2:=mul3 (b1.get (k:=k) om) (hr.get h)
  rw [hs]at h1
  refine Run.nq ?_;refine Run.regionD hC true [0,1,2,3,4,5,6,7,8,9,10,11,12,13,14] (by kernel_rfl) (fun K hK=>?_);simp(disch:=omega) only [wrap_id,AW7,simprocAttr,hX];(repeat(with_reducible refine And.intro ?_ ?_);exact vc0)
  refine wE ?_;clear hK K
  rw [<- hs]
  refine Run.RW ?_
  exact Run.j (ih (k+1) om mz)
 ·intro h
  have h:k=r.length:=by simp at h;omega
  subst h
  rw [tkL,List.take_of_length_le om]
  refine Run.x ?_
  refine Run.RW ?_
  refine Run.R ?_
  refine Run.k [6] [0] ?_
  refine Run.r [6] ?_
  exact⟨rfl,rfl⟩
theorem c_impl_simple (n:Nat) (i:Int) (hn:n<=1048576) (hi:0<=i/\i < n):FunA B 99 [.int .i64 n,.int .i64 i] (fun rs o=>rs=[.own 0 0]/\o=[.arr .int (simL n i.toNat) 0 true]):=by
 refine wk Tryz.call99 Tryz.func99 rfl Tryz.ntmps99 fun C hC hP hT hfn hpin hfin hX=>wW ?_
 refine Run.R ?_
 refine Run.R ?_
 refine Run.R ?_
 refine Run.R ?_
 refine Run.k [4] [0] ?_
 refine Run.r [4] ?_
 exact⟨rfl,rfl⟩
theorem c_spec_SimpleRoot (c:LL) (i:Int) (hc:CartanP c) (hi:0<=i/\i < c.length):FunA B 39 [.sl false (.row false) c,.int .i64 i] (fun rs o=>rs=[.own 0 0]/\o=[.arr .int (simL c.length i.toNat) 0 true]):=by
 have hb:=isC_true hc
 have hn:=hc.2.1
 have hin:inB i 0 ((c.length:Int) - 1)=true:=inB_iff.2 om
 refine wk Tryz.call39 Tryz.func39 rfl Tryz.ntmps39 fun C hC hP hT hfn hpin hfin hX=>wW ?_
 refine Run.R ?_
 refine Run.g fun K hK=>?_
 refine FunA.cW hP hT (c_spec_IsCartan c) ?_
 rintro rs o ⟨rfl,rfl⟩
 simp only [hb]
 simp(disch:=omega) only [wrap_id,AW7,simprocAttr,hX]
 refine .inr ⟨rfl,?_⟩
 refine FunA.cW hP hT (c_spec_l1In i 0 ((c.length:Int) - 1)) ?_
 rintro rs o ⟨rfl,rfl⟩
 simp only [hin]
 refine wF ?_;clear hK K
 refine Run.c ?_ ?_
 ·intro h;cases h
 intro h
 refine Run.R ?_
 refine Run.R ?_
 refine Run.R ?_
 refine Run.k [4] [0] ?_
 refine Run.r [4] ?_
 exact⟨rfl,rfl⟩
structure LP (c:LL) (s v0:LI) (L:Nat) (a v:LI):Prop where
 far:Far c (L - a.length) v
 le:a.length<=L
 let_:letters c.length a
 eq:lpL c s 31 v0=(a ++ (lpL c s (31 - a.length) v).1,(lpL c s (31 - a.length) v).2)
def wgtP (c:LL) (v:LI):Prop:=v.length=c.length/\∀ k,k < v.length->-1000<=v.getD k 0/\v.getD k 0<=1000
open Classical in
noncomputable def wgtB (c:LL) (v:LI):Bool:=isC c && decide (wgtP c v)
theorem wgtB_iff {c:LL} {v:LI}:wgtB c v=true↔CartanP c/\wgtP c v:=by simp [wgtB,isC_iff]
theorem c_impl_IsWeight (c:LL) (v:LI):FunA B 121 [.sl false (.row false) c,.sl false .int v] (fun rs o=>rs=[.bool (wgtB c v)]/\o=[]):=by
 refine wk Tryz.call121 Tryz.func121 rfl Tryz.ntmps121 fun C hC hP hT hfn hpin hfin hX=>wW ?_
 refine Run.len 1 rfl fun hlens=>?_
 refine Run.R ?_
 refine Run.g fun K hK=>?_
 refine FunA.e hP hT (c_impl_IsCartan c) ?_
 refine wE ?_;clear hK K
 refine Run.c ?_ ?_
 ·intro h
  have h:wgtB c v=false:=by
   unfold wgtB
   revert h
   cases hb:isC c with
   | false=>simp
   | true=>
    intro h
    simp at h
    simp [wgtP,show ¬v.length=c.length by omega]
  refine Run.R ?_
  refine Run.r [4] ?_
  rw [h];exact⟨rfl,rfl⟩
 intro h
 have hb:isC c=true:=by revert h;cases isC c<;>simp
 have hl:v.length=c.length:=by revert h;rw [hb];simp;omega
 refine Run.R ?_
 refine Run.loopI (X:=Nat) (fun k=>⟨30,[(0,true,.v (.sl false (.row false) c)),(1,true,.v (.sl false .int v)),(17,true,.v (.sl false .int v)),(18,true,.v (.int .i64 (v.length))),(19,true,.v (.int .i64 k))],[]⟩) (fun k=>k<=v.length/\∀ j,j < k->-1000<=v.getD j 0/\v.getD j 0<=1000) (fun k=>v.length - k) (0) (⟨nz0 _,by omega⟩) ?_ ?_
 ·exact Le.s
 rintro k ⟨hk,hp⟩ ih
 try simp only []
 refine Run.R ?_
 refine Run.c ?_ ?_
 ·intro h1
  have h1:k < v.length:=by simpa using h1
  refine Run.R ?_
  refine Run.R ?_
  refine Run.c ?_ ?_
  ·intro h2
   have h2:¬(-1000<=v.getD k 0/\v.getD k 0<=1000):=by
    intro h3
    rw [decide_eq_false (show ¬v.getD k 0 < -1000 by omega),decide_eq_false (show ¬1000 < v.getD k 0 by omega)]at h2
    cases h2
   refine Run.R ?_
   refine Run.r [4] ?_
   have:wgtB c v=false:=by
    cases hw:wgtB c v with
    | false=>rfl
    | true=>exact absurd ((wgtB_iff.1 hw).2.2 k h1) h2
   rw [this];exact⟨rfl,rfl⟩
  ·intro h2
   have h2:-1000<=v.getD k 0/\v.getD k 0<=1000:=by
    by_cases e1:v.getD k 0 < -1000
    ·rw [decide_eq_true e1]at h2;cases h2
    ·by_cases e2:1000 < v.getD k 0
     ·rw [decide_eq_false e1,decide_eq_true e2]at h2;cases h2
     ·omega
   have hp2:∀ j,j < k+1->-1000<=v.getD j 0/\v.getD j 0<=1000:=fun j hj=>by
    by_cases hjk:j=k
    ·subst hjk;exact h2
    ·exact hp j om
   refine Run.RW ?_
   exact Run.j (ih (k+1) (⟨by omega,hp2⟩) mz)
 ·intro h1
  have h1:k=v.length:=by simp at h1;omega
  subst h1
  refine Run.x ?_
  refine Run.R ?_
  refine Run.r [4] ?_
  rw [wgtB_iff.2 ⟨isC_iff.1 hb,hl,hp⟩];exact⟨rfl,rfl⟩
theorem c_spec_IsWeight (c:LL) (v:LI):FunA B 122 [.sl false (.row false) c,.sl false .int v] (fun rs o=>rs=[.bool (wgtB c v)]/\o=[]):=by
 refine wk Tryz.call122 Tryz.func122 rfl Tryz.ntmps122 fun C hC hP hT hfn hpin hfin hX=>wW ?_
 refine Run.len 1 rfl fun hlens=>?_
 refine Run.R ?_
 refine Run.R ?_
 refine Run.loopI (X:=Nat) (fun k=>⟨27,[(0,true,.v (.sl false (.row false) c)),(1,true,.v (.sl false .int v)),(5,true,.v (.int .i64 k))],[]⟩) (fun k=>k<=v.length/\∀ j,j < k->-1000<=v.getD j 0/\v.getD j 0<=1000) (fun k=>v.length - k) (0) (⟨nz0 _,by omega⟩) ?_ ?_
 ·exact Le.s
 rintro k ⟨hk,hp⟩ ih
 try simp only []
 refine Run.R ?_
 refine Run.c ?_ ?_
 ·intro h1
  have h1:k < v.length:=by simpa using h1
  refine Run.g fun K hK=>?_
  refine FunA.e hP hT (c_spec_l1In (v.getD k 0) (-1000) 1000) ?_
  refine wE ?_;clear hK K
  have key:=inB_iff (x:=v.getD k 0) (lo:=-1000) (hi:=1000)
  refine Run.c ?_ ?_
  ·intro h2
   have h2:¬(-1000<=v.getD k 0/\v.getD k 0<=1000):=fun h=>by rw [key.2 h]at h2;cases h2
   refine Run.R ?_
   refine Run.r [4] ?_
   have:wgtB c v=false:=by
    cases hw:wgtB c v with
    | false=>rfl
    | true=>exact absurd ((wgtB_iff.1 hw).2.2 k h1) h2
   rw [this];exact⟨rfl,rfl⟩
  ·intro h2
   have h2:-1000<=v.getD k 0/\v.getD k 0<=1000:=key.1 (by revert h2;cases inB (v.getD k 0) (-1000) 1000<;>simp)
   have hp2:∀ j,j < k+1->-1000<=v.getD j 0/\v.getD j 0<=1000:=fun j hj=>by
    by_cases hjk:j=k
    ·subst hjk;exact h2
    ·exact hp j om
   refine Run.RW ?_
   exact Run.j (ih (k+1) (⟨by omega,hp2⟩) mz)
 ·intro h1
  have h1:k=v.length:=by simp at h1;omega
  subst h1
  refine Run.x ?_
  refine Run.g fun K hK=>?_
  refine FunA.e hP hT (c_spec_IsCartan c) ?_
  refine wE ?_;clear hK K
  refine Run.r [4] ?_
  refine⟨?_,rfl⟩
  congr 2
  cases hb:isC c with
  | false=>simp [wgtB,hb]
  | true=>
   by_cases hl:v.length=c.length
   ·rw [wgtB_iff.2 ⟨isC_iff.1 hb,hl,hp⟩];simp [hl]
   ·have:wgtB c v=false:=by simp [wgtB,wgtP,hl]
    rw [this]
    simp;omega
theorem c_impl_IsRootVector (c:LL) (v:LI):FunA B 61 [.sl false (.row false) c,.sl false .int v] (fun rs o=>rs=[.bool (wgtB c v)]/\o=[]):=by
 refine wk Tryz.call61 Tryz.func61 rfl Tryz.ntmps61 fun C hC hP hT hfn hpin hfin hX=>wW ?_
 refine Run.R ?_
 refine Run.g fun K hK=>?_
 refine FunA.e hP hT (c_impl_IsWeight c v) ?_
 refine wE ?_;clear hK K
 refine Run.r [4] ?_
 exact⟨rfl,rfl⟩
theorem c_spec_IsRootVector (c:LL) (v:LI):FunA B 62 [.sl false (.row false) c,.sl false .int v] (fun rs o=>rs=[.bool (wgtB c v)]/\o=[]):=by
 refine wk Tryz.call62 Tryz.func62 rfl Tryz.ntmps62 fun C hC hP hT hfn hpin hfin hX=>wW ?_
 refine Run.R ?_
 refine Run.g fun K hK=>?_
 refine FunA.e hP hT (c_spec_IsWeight c v) ?_
 refine wE ?_;clear hK K
 refine Run.r [4] ?_
 exact⟨rfl,rfl⟩
theorem sgn_nonneg {r:LI} (h:sgnR r=1):∀ x∈r,0<=x:=by
 intro x hx
 have h1:=(sgnR_one.1 h).2
 unfold negA at h1
 rw [List.any_eq_false]at h1
 have:=h1 x hx
 simp at this
 exact this
theorem hgt_nonneg:∀ {r:LI},(∀ x∈r,0<=x)->0<=hgt r/\∀ x∈r,x<=hgt r
 | [],_=>by simp [hgt]
 | y :: r,h=>by
  obtain⟨h1,h2⟩:=hgt_nonneg (r:=r) fun x hx=>h x (mcM _ hx)
  have h0:=h y (by simp)
  refine⟨by simp only [hgt];omega,fun x hx=>?_⟩
  simp only [hgt]
  rcases List.mem_cons.1 hx with rfl | hx
  ·omega
  ·have:=h2 x hx;omega
theorem hgt_zero:∀ {r:LI},(∀ x∈r,0<=x)->hgt r=0->r=List.replicate r.length 0
 | [],_,_=>rfl
 | y :: r,h,h0=>by
  have h1:=h y (by simp)
  obtain⟨h2,_⟩:=hgt_nonneg (r:=r) fun x hx=>h x (mcM _ hx)
  simp only [hgt]at h0
  have:=hgt_zero (r:=r) (fun x hx=>h x (mcM _ hx)) om
  rw [lenC,List.replicate_succ,<- this]
  congr 1
  omega
theorem hgt_rep:∀ n,hgt (List.replicate n 0)=0
 | 0=>rfl
 | n+1=>by rw [List.replicate_succ,hgt,hgt_rep n];rfl
theorem hgt_sim:∀(n i:Nat),i < n->hgt (simL n i)=1
 | 0,i,h=>by omega
 | n+1,0,_=>by simp only [simL,List.replicate_succ,List.set_cons_zero,hgt,hgt_rep];rfl
 | n+1,i+1,h=>by
  have:=hgt_sim n i om
  simp only [simL]at this
  simp only [simL,List.replicate_succ,List.set_cons_succ,hgt,this];rfl
theorem simL_get (n i k:Nat) (hi:i < n):(simL n i).getD k 0=if k=i then 1 else 0:=by
 unfold simL
 by_cases hk:k < n
 ·rw [gdE,List.getElem?_set]
  by_cases h:i=k
  ·subst h;simp [hi]
  ·simp [h,Ne.symm h,hk]
 ·rw [gdE,geN (by simp;omega),if_neg om];rfl
theorem simL_len (n i:Nat):(simL n i).length=n:=by simp [simL]
structure Dn (c:LL) (r:LI):Prop where
 len:r.length=c.length
 sgn:sgnR r=1
 hgt:hgt r<=4000
theorem Dn.bnd {c:LL} {r:LI} (h:Dn c r):Bnd 4000 r:=fun x hx=>by
 have h1:=sgn_nonneg h.sgn
 have:=h1 x hx
 have:=(hgt_nonneg h1).2 x hx
 have:=h.hgt
 omega
def actR (c:LL) (w r:LI):List Int:=w.foldr (mirL c) r
theorem actR_len (c:LL) (r:LI):∀ w,(actR c w r).length=r.length
 | []=>rfl
 | i :: w=>by show(mirL c i (actR c w r)).length=_;rw [mir_len,actR_len c r w]
theorem actR_drop (c:LL) (w r:LI) (j:Nat) (h:j < w.length):actR c (w.drop j) r=mirL c (w.getD j 0) (actR c (w.drop (j+1)) r):=by
 have e:w.drop j=w.getD j 0 :: w.drop (j+1):=by rw [List.drop_eq_getElem_cons h];simp [h]
 rw [e];rfl
theorem actR_bnd {c:LL} (hc:CartanP c) {r:LI} (hl:r.length=c.length) {M:Int} (hM:0<=M) (hr:Bnd M r):∀ w,letters c.length w->Bnd (13 ^ w.length*M) (actR c w r)
 | [],_=>by simpa [actR] using hr
 | i :: w,hw=>by
  obtain⟨h1,h2⟩:=letters_cons.1 hw
  have ih:=actR_bnd hc hl hM hr w h2
  have h3:=mir_bnd hc h1 (by rw [actR_len];exact hl) (Int.mul_nonneg (Int.pow_nonneg (by decide)) hM) ih
  show Bnd _ (mirL c i (actR c w r))
  rw [lenC,Int.pow_succ,Int.mul_comm (13 ^ w.length) 13,Int.mul_assoc]
  exact h3
theorem c_impl_actedRoot (c:LL) (w r:LI) (hc:CartanP c) (hw:letters c.length w) (hl:r.length=c.length) (hwl:w.length<=1048576) (hB:∀ j,Bnd 100000000000000000 (actR c (w.drop j) r)) :
  FunA B 98 [.sl false (.row false) c,.sl false .int w,.sl false .int r] (fun rs o=>rs=[.own 0 0]/\o=[.arr .int (actR c w r) 0 true]):=by
 have hn:=hc.2.1
 refine wk Tryz.call98 Tryz.func98 rfl Tryz.ntmps98 fun C hC hP hT hfn hpin hfin hX=>wW ?_
 refine Run.R ?_
 refine Run.R ?_
 refine Run.RW ?_
 refine Run.k [0,1,2,7,8] [0] ?_
 have hd0:actR c (w.drop w.length) r=r:=by rw [List.drop_length];rfl
 refine Run.le (Le.sub (fr':=[(0,true,.v (.sl false (.row false) c)),(1,true,.v (.sl false .int w)),(2,true,.v (.sl false .int r)),(7,true,.v (.own 0 0)),(8,true,.v (.int .i64 ((w.length:Int) - 1)))]) (obs':=[.arr .int (actR c (w.drop w.length) r) 0 true]) (by rw [hd0]) (by simp only [AW7,simprocAttr];try simp)) ?_
 refine Run.loopI (X:=Nat) (fun j=>⟨27,[(0,true,.v (.sl false (.row false) c)),(1,true,.v (.sl false .int w)),(2,true,.v (.sl false .int r)),(7,true,.v (.own 0 0)),(8,true,.v (.int .i64 (((j:Int) - 1))))],[.arr .int ((actR c (w.drop j) r)) 0 true]⟩) (fun j=>j<=w.length) (fun j=>j) (w.length) (Nat.le_refl _) ?_ ?_
 ·exact Le.s
 rintro j hj ih
 try simp only []
 have hal:=actR_len c r (w.drop j)
 cases j with
 | zero=>
  refine Run.R ?_
  refine Run.c ?_ ?_
  ·intro h;simp at h
  intro _
  refine Run.x ?_
  refine Run.R ?_
  refine Run.k [6] [0] ?_
  refine Run.r [6] ?_
  exact⟨rfl,by rw [List.drop_zero]⟩
 | succ j=>
  have e2:((j+1:Nat):Int) - 1=j:=by omega
  rw [e2]
  refine Run.R ?_
  refine Run.c ?_ ?_
  rotate_left
  ·intro h;simp at h
  intro _
  have hlet:=letters_getD.1 hw j om
  have hdr:=actR_drop c w r j om
  refine Run.g fun K hK=>?_
  refine FunA.e hP hT (c_impl_mirrored c (w.getD j 0) (actR c (w.drop (j+1)) r) hc hlet om (hB (j+1))) ?_
  refine wE ?_;clear hK K
  rw [<- hdr]
  refine Run.RW ?_
  refine Run.k [0,1,2,7,8] [1] ?_
  exact Run.j (ih (j) om mz)
theorem c_spec_ActOnRoot (c:LL) (w r:LI) (hW:WordP c w) (hl:r.length=c.length) (hB:∀ j,Bnd 100000000000000000 (actR c (w.drop j) r)) :
  FunA B 13 [.sl false (.row false) c,.sl false .int w,.sl false .int r] (fun rs o=>rs=[.own 0 0]/\o=[.arr .int (actR c w r) 0 true]):=by
 have hc:=hW.1
 have hn:=hc.2.1
 have hwl:=hW.2.1
 have hwb:wordB c w=true:=wordB_iff.2 hW
 refine wk Tryz.call13 Tryz.func13 rfl Tryz.ntmps13 fun C hC hP hT hfn hpin hfin hX=>wW ?_
 refine Run.R ?_
 refine Run.R ?_
 refine Run.RW ?_
 refine Run.k [0,1,2,7,8] [0] ?_
 have hd0:actR c (w.drop w.length) r=r:=by rw [List.drop_length];rfl
 refine Run.le (Le.sub (fr':=[(0,true,.v (.sl false (.row false) c)),(1,true,.v (.sl false .int w)),(2,true,.v (.sl false .int r)),(7,true,.v (.own 0 0)),(8,true,.v (.int .i64 ((w.length:Int) - 1)))]) (obs':=[.arr .int (actR c (w.drop w.length) r) 0 true]) (by rw [hd0]) (by simp only [AW7,simprocAttr];try simp)) ?_
 refine Run.loopI (X:=Nat) (fun j=>⟨39,[(0,true,.v (.sl false (.row false) c)),(1,true,.v (.sl false .int w)),(2,true,.v (.sl false .int r)),(7,true,.v (.own 0 0)),(8,true,.v (.int .i64 (((j:Int) - 1))))],[.arr .int ((actR c (w.drop j) r)) 0 true]⟩) (fun j=>j<=w.length) (fun j=>j) (w.length) (Nat.le_refl _) ?_ ?_
 ·exact Le.s
 rintro j hj ih
 try simp only []
 have hal:=actR_len c r (w.drop j)
 cases j with
 | zero=>
  have e1:decide ((0:Int)<=((0:Nat):Int) - 1)=false:=by decide
  refine Run.g fun K hK=>?_
  try simp only [e1]
  refine .inl (CallG.off (.bool false) ?_)
  refine wF ?_;clear hK K
  refine Run.c ?_ ?_
  ·intro h;cases h
  intro _
  refine Run.x ?_
  refine Run.R ?_
  refine Run.k [6] [0] ?_
  refine Run.r [6] ?_
  exact⟨rfl,by rw [List.drop_zero]⟩
 | succ j=>
  have e1:decide ((0:Int)<=((j+1:Nat):Int) - 1)=true:=by rw [dtE];omega
  have e2:((j+1:Nat):Int) - 1=j:=by omega
  refine Run.g fun K hK=>?_
  simp only [e1]
  refine .inr ⟨rfl,?_⟩
  refine FunA.cW hP hT (c_spec_IsWord c w om) ?_
  rintro rs o ⟨rfl,rfl⟩
  simp only [hwb]
  refine wF ?_;clear hK K
  refine Run.c ?_ ?_
  rotate_left
  ·intro h;simp [hl]at h
  intro _
  rw [e2]
  have hlet:=letters_getD.1 hW.2.2 j om
  have hdr:=actR_drop c w r j om
  refine Run.g fun K hK=>?_
  refine FunA.e hP hT (c_spec_l7Reflect c (w.getD j 0) (actR c (w.drop (j+1)) r) hc hlet om (hB (j+1))) ?_
  refine wE ?_;clear hK K
  rw [<- hdr]
  refine Run.RW ?_
  refine Run.k [0,1,2,7,8] [1] ?_
  exact Run.j (ih (j) om mz)
def lin (a:Int) (x:LI) (b:Int) (y:LI):List Int:=List.zipWith (fun p q=>a*p - b*q) x y
def rowS (M:LL) (r c k:Nat):List Int:=lin ((M.getD r []).getD c 0) (M.getD k []) ((M.getD k []).getD c 0) (M.getD r [])
def rowI (M:LL) (r c k:Nat):List Int:=if (M.getD k []).getD c 0=0 then M.getD k []else rowS M r c k
def elim (g:List (List Int)->Nat->List Int):Nat->Nat->List (List Int)->List (List Int)
 | 0,_,M=>M
 | f+1,k,M=>elim g f (k+1) (M.set k (g M k))
theorem lin_len (a:Int) (x:LI) (b:Int) (y:LI):(lin a x b y).length=min x.length y.length:=by simp [lin]
theorem lin_get (a:Int) (x:LI) (b:Int) (y:LI) {j:Nat} (h:j < x.length) (h2:j < y.length):(lin a x b y).getD j 0=a*x.getD j 0 - b*y.getD j 0:=by
 simp [lin,List.getD,List.getElem?_zipWith,geE h,geE h2]
theorem getD_out {x:LI} {j:Nat} (h:x.length<=j):x.getD j 0=0:=by simp [List.getD,geN h]
theorem mul_bnd {b p q:Int} (hp:-b<=p/\p<=b) (hq:-b<=q/\q<=b):-(b*b)<=p*q/\p*q<=b*b:=by
 have h:(p*q).natAbs<=(b*b).natAbs:=by
  rw [Int.natAbs_mul,Int.natAbs_mul]
  exact Nat.mul_le_mul om om
 have h0:0<=b*b:=Int.mul_nonneg om om
 omega
theorem lin_bnd {b m:Int} {x y:LI} {p q:Int} (hm:2*(b*b)<=m) (hb:0<=b) (hx:Bnd b x) (hy:Bnd b y) (hp:-b<=p/\p<=b) (hq:-b<=q/\q<=b):Bnd m (lin p x q y):=by
 intro z hz
 unfold lin at hz
 rw [List.mem_iff_getElem]at hz
 obtain⟨i,hi,rfl⟩:=hz
 rw [List.getElem_zipWith]
 simp only [List.length_zipWith]at hi
 have h1:=hx _ (List.getElem_mem (l:=x) (n:=i) om)
 have h2:=hy _ (List.getElem_mem (l:=y) (n:=i) om)
 have e1:=mul_bnd hp h1
 have e2:=mul_bnd hq h2
 omega
def OKM (n:Nat) (b:Int) (M:LL):Prop:=M.length=n/\∀ k,k < n->(M.getD k []).length=n/\Bnd b (M.getD k [])
def beta:Nat->Int
 | 0=>8
 | 1=>128
 | 2=>32768
 | _=>2147483648
theorem beta_pos (r:Nat):8<=beta r/\beta r<=2147483648:=by
 match r with
 | 0=>decide
 | 1=>decide
 | 2=>decide
 | n+3=>simp [beta]
theorem beta_sq {r:Nat} (h:r<=2):2*(beta r*beta r)<=beta (r+1):=by
 match r,h with
 | 0,_=>decide
 | 1,_=>decide
 | 2,_=>decide
theorem Bnd.mono {a b:Int} (h:a<=b) {x:LI} (hx:Bnd a x):Bnd b x:=fun y hy=>by have:=hx y hy;omega
theorem Bnd.at' {b:Int} (hb:0<=b) {x:LI} (hx:Bnd b x) (j:Nat):-b<=x.getD j 0/\x.getD j 0<=b:=by
 by_cases h:j < x.length
 ·rw [getD_eq h];exact hx _ (List.getElem_mem h)
 ·rw [getD_out om];omega
def Mid (n r k:Nat) (M:LL):Prop:=OKM n (beta (r+1)) M/\∀ j,j < n->(j<=r\/k<=j)->Bnd (beta r) (M.getD j [])
theorem set_get (M:LL) (k j:Nat) (x:LI) (hk:k < M.length):(M.set k x).getD j []=if j=k then x else M.getD j []:=by
 simp only [List.getD,List.getElem?_set]
 by_cases h:k=j
 ·subst h;simp [hk]
 ·rw [if_neg h,if_neg (Ne.symm h)]
theorem Mid.row {n r k c:Nat} {M:LL} (h:Mid n r k M) (hk:k < n) (hr:r < k) (hn:n<=4):(rowS M r c k).length=n/\Bnd (beta (r+1)) (rowS M r c k):=by
 obtain⟨⟨h1,h2⟩,h3⟩:=h
 refine⟨by unfold rowS;rw [lin_len,(h2 k hk).1,(h2 r om).1];omega,?_⟩
 have b0:=beta_pos r
 have b1:=h3 k hk (.inr (Nat.le_refl _))
 have b2:=h3 r om (.inl (Nat.le_refl _))
 exact lin_bnd (beta_sq om) om b1 b2 (b2.at' om c) (b1.at' om c)
theorem Mid.put {n r k:Nat} {M:LL} {x:LI} (h:Mid n r k M) (hk:k < n) (hr:r < k) (hx:x.length=n/\Bnd (beta (r+1)) x):Mid n r (k+1) (M.set k x):=by
 obtain⟨⟨h1,h2⟩,h3⟩:=h
 refine⟨⟨by simp [h1],fun j hj=>?_⟩,fun j hj hjk=>?_⟩
 ·rw [set_get _ _ _ _ om]
  split
  ·exact hx
  ·exact h2 j hj
 ·rw [set_get _ _ _ _ om,if_neg om]
  exact h3 j hj om
def MulM (n:Nat) (M N:LL):Prop:=N.length=M.length/\∀ k,k < M.length->(M.getD k []).length=n/\(N.getD k []).length=n/\∃ l:Int,l≠0/\∀ j,(N.getD k []).getD j 0=l*(M.getD k []).getD j 0
theorem MulM.zero {n:Nat} {M N:LL} (h:MulM n M N) {k:Nat} (hk:k < M.length) (c:Nat):(N.getD k []).getD c 0=0↔(M.getD k []).getD c 0=0:=by
 obtain⟨_,_,l,hl,h2⟩:=h.2 k hk
 rw [h2 c,Int.mul_eq_zero]
 simp [hl]
theorem MulM.put {n:Nat} {M N:LL} (h:MulM n M N) {r c k:Nat} (hr:r < k) (hk:k < M.length) (hp:(M.getD r []).getD c 0≠0):MulM n (M.set k (rowI M r c k)) (N.set k (rowS N r c k)):=by
 have hl:=h.1
 obtain⟨a1,a2,l,hl0,a3⟩:=h.2 k hk
 obtain⟨b1,b2,m,hm0,b3⟩:=h.2 r om
 refine⟨by simp [hl],fun j hj=>?_⟩
 simp only [List.length_set]at hj
 rw [set_get _ _ _ _ hk,set_get _ _ _ _ om]
 by_cases hjk:j=k
 ·rw [if_pos hjk,if_pos hjk]
  have hS:(rowS N r c k).length=n:=by unfold rowS;rw [lin_len,a2,b2];omega
  have gS:∀ j,j < n->(rowS N r c k).getD j 0=(N.getD r []).getD c 0*(N.getD k []).getD j 0 - (N.getD k []).getD c 0*(N.getD r []).getD j 0:=fun j hj=>by
   unfold rowS;rw [lin_get _ _ _ _ om om]
  unfold rowI
  by_cases h0:(M.getD k []).getD c 0=0
  ·rw [if_pos h0]
   refine⟨a1,hS,m*(M.getD r []).getD c 0*l,?_,fun j=>?_⟩
   ·exact Int.mul_ne_zero (Int.mul_ne_zero hm0 hp) hl0
   ·by_cases hj:j < n
    ·rw [gS j hj,a3 c,h0,a3 j,b3 c,Int.mul_zero,Int.zero_mul,Int.sub_zero];simp only [Int.mul_assoc]
    ·rw [getD_out (x:=rowS N r c k) om,getD_out (x:=M.getD k []) om,Int.mul_zero]
  ·rw [if_neg h0]
   have hM:(rowS M r c k).length=n:=by unfold rowS;rw [lin_len,a1,b1];omega
   refine⟨hM,hS,m*l,Int.mul_ne_zero hm0 hl0,fun j=>?_⟩
   by_cases hj:j < n
   ·rw [gS j hj,a3 c,a3 j,b3 c,b3 j]
    unfold rowS
    rw [lin_get _ _ _ _ om om,Int.mul_sub]
    congr 1
    ·rw [Int.mul_assoc,Int.mul_left_comm ((M.getD r []).getD c 0),Int.mul_assoc]
    ·rw [Int.mul_comm m l,Int.mul_assoc l m,Int.mul_assoc l,Int.mul_left_comm m]
   ·rw [getD_out (x:=rowS N r c k) om,getD_out (x:=rowS M r c k) om,Int.mul_zero]
 ·rw [if_neg hjk,if_neg hjk];exact h.2 j hj
theorem MulM.elim {n r c:Nat}:∀(f k:Nat) {M N:LL},MulM n M N->r < k->k+f<=M.length->(M.getD r []).getD c 0≠0->MulM n (elim (fun N k=>rowI N r c k) f k M) (elim (fun N k=>rowS N r c k) f k N)
 | 0,k,M,N,h,_,_,_=>h
 | f+1,k,M,N,h,hr,hk,hp=>by
  simp only [Go.Proofs.YtcinngodeoidnaaGreat.elim]
  refine MulM.elim f (k+1) (h.put hr om hp) om (by simp;omega) ?_
  rw [set_get _ _ _ _ om,if_neg om]
  exact hp
theorem MulM.refl {n:Nat} {b:Int} {M:LL} (h:OKM n b M):MulM n M M:=
 ⟨rfl,fun k hk=>⟨(h.2 k (by rw [<- h.1];exact hk)).1,(h.2 k (by rw [<- h.1];exact hk)).1,1,by decide,fun j=>by rw [Int.one_mul]⟩⟩
end Go.Proofs.YtcinngodeoidnaaGreat
