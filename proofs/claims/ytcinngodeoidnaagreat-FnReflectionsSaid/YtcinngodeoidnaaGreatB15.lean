/- Root vectors: sums, signs, reflections: what the functions of both sides do. -/
import Derived.Test.YtcinngodeoidnaaGreatB14
set_option linter.unusedVariables false
set_option linter.unusedSimpArgs false
namespace Go.Proofs.YtcinngodeoidnaaGreat
open Go Go.Aw Go.Cox
def hgt:List Int->Int
 | []=>0
 | x :: r=>x+hgt r
theorem hgt_append:∀ a b:List Int,hgt (a ++ b)=hgt a+hgt b
 | [],b=>by simp [hgt]
 | x :: a,b=>by simp [hgt,hgt_append a b];omega
theorem hgt_snoc (r:LI) (k:Nat) (h:k < r.length):hgt (r.take (k+1))=hgt (r.take k)+r.getD k 0:=by
 rw [<- take_snoc 0 r k h,hgt_append];simp [hgt]
def Bnd (M:Int) (r:LI):Prop:=∀ x∈r,-M<=x/\x<=M
theorem hgt_bnd {M:Int}:∀ {r:LI},Bnd M r->-(M*r.length)<=hgt r/\hgt r<=M*r.length
 | [],_=>by simp [hgt]
 | x :: r,h=>by
  have h1:=h x (mcS ..)
  have h2:=hgt_bnd (r:=r) (fun y hy=>h y (mcM _ hy))
  simp only [hgt,lenC]
  have e:M*((r.length+1:Nat):Int)=M*r.length+M:=by push_cast;grind
  rw [e];omega
theorem Bnd.take {M:Int} {r:LI} (h:Bnd M r) (k:Nat):Bnd M (r.take k):=fun x hx=>h x (List.mem_of_mem_take hx)
theorem Bnd.get {M:Int} {r:LI} (h:Bnd M r) {k:Nat} (hk:k < r.length):-M<=r.getD k 0/\r.getD k 0<=M:=h _ (getD_mem hk)
theorem hgt_pre {r:LI} (h:Bnd 1000000000000000000 r) (hl:r.length<=4) (k:Nat):-4000000000000000000<=hgt (r.take k)/\hgt (r.take k)<=4000000000000000000:=by
 have:=hgt_bnd (h.take k)
 have hk:(r.take k).length<=4:=by simp;omega
 omega
theorem c_impl_HeightOf (r:LI) (h:Bnd 1000000000000000000 r) (hl:r.length<=4):FunA B 46 [.sl false .int r] (fun rs o=>rs=[.int .i64 (hgt r)]/\o=[]):=by
 refine wk Tryz.call46 Tryz.func46 rfl Tryz.ntmps46 fun C hC hP hT hfn hpin hfin hX=>wW ?_
 refine Run.R ?_
 refine Run.R ?_
 refine Run.R ?_
 refine Run.loopI (X:=Nat) (fun k=>⟨17,[(0,true,.v (.sl false .int r)),(2,true,.v (.int .i64 0)),(3,true,.v (.int .i64 ((hgt (r.take k))))),(6,true,.v (.sl false .int r)),(7,true,.v (.int .i64 (r.length))),(8,true,.v (.int .i64 k))],[]⟩) (fun k=>k<=r.length) (fun k=>r.length - k) (0) (nz0 _) ?_ ?_
 ·exact Le.s
 rintro k hk ih
 try simp only []
 refine Run.R ?_
 refine Run.c ?_ ?_
 ·intro hc
  have hc:k < r.length:=by simpa using hc
  have hs:=hgt_snoc r k hc
  have h1:=hgt_pre h hl (k+1)
  rw [hs]at h1
  refine Run.R ?_
  refine Run.RW ?_
  rw [<- hs]
  refine Run.RW ?_
  exact Run.j (ih (k+1) om mz)
 ·intro hc
  have hc:k=r.length:=by simp at hc;omega
  subst hc
  rw [tkL]
  refine Run.x ?_
  refine Run.R ?_
  refine Run.r [2] ?_
  exact⟨rfl,rfl⟩
theorem c_spec_HeightOf (r:LI) (h:Bnd 1000000000000000000 r) (hl:r.length<=4):FunA B 60 [.sl false .int r] (fun rs o=>rs=[.int .i64 (hgt r)]/\o=[]):=by
 refine wk Tryz.call60 Tryz.func60 rfl Tryz.ntmps60 fun C hC hP hT hfn hpin hfin hX=>wW ?_
 refine Run.R ?_
 refine Run.R ?_
 refine Run.R ?_
 refine Run.loopI (X:=Nat) (fun k=>⟨18,[(0,true,.v (.sl false .int r)),(2,true,.v (.int .i64 0)),(3,true,.v (.int .i64 ((hgt (r.take k))))),(4,true,.v (.int .i64 k))],[]⟩) (fun k=>k<=r.length) (fun k=>r.length - k) (0) (nz0 _) ?_ ?_
 ·exact Le.s
 rintro k hk ih
 try simp only []
 refine Run.R ?_
 refine Run.c ?_ ?_
 ·intro hc
  have hc:k < r.length:=by simpa using hc
  have hs:=hgt_snoc r k hc
  have h1:=hgt_pre h hl (k+1)
  rw [hs]at h1
  refine Run.RW ?_
  rw [<- hs]
  refine Run.RW ?_
  exact Run.j (ih (k+1) om mz)
 ·intro hc
  have hc:k=r.length:=by simp at hc;omega
  subst hc
  rw [tkL]
  refine Run.x ?_
  refine Run.R ?_
  refine Run.r [2] ?_
  exact⟨rfl,rfl⟩
def posA (r:LI):Bool:=r.any fun x=>decide (0 < x)
def negA (r:LI):Bool:=r.any fun x=>decide (x < 0)
def sgnR (r:LI):Int:=bif posA r && !negA r then 1 else bif negA r && !posA r then -1 else 0
theorem any_snoc (p:Int->Bool) (w:LI) (i:Nat) (h:i < w.length):(w.take (i+1)).any p=((w.take i).any p || p (w.getD i 0)):=by
 rw [<- take_snoc 0 w i h];simp
theorem sgnR_one {r:LI}:sgnR r=1↔posA r=true/\negA r=false:=by
 unfold sgnR;cases posA r<;>cases negA r<;>simp
theorem sgnR_pos {r:LI}:sgnR r<=0↔¬sgnR r=1:=by
 unfold sgnR;cases posA r<;>cases negA r<;>simp
theorem c_impl_RootSign (r:LI):FunA B 40 [.sl false .int r] (fun rs o=>rs=[.int .i64 (sgnR r)]/\o=[]):=by
 refine wk Tryz.call40 Tryz.func40 rfl Tryz.ntmps40 fun C hC hP hT hfn hpin hfin hX=>wW ?_
 refine Run.len 0 rfl (fun hl=>?_)
 refine Run.R ?_
 refine Run.R ?_
 refine Run.R ?_
 refine Run.loopI (X:=Nat) (fun k=>⟨36,[(0,true,.v (.sl false .int r)),(2,true,.v (.int .i64 0)),(3,true,.v (.bool ((posA (r.take k))))),(4,true,.v (.bool ((negA (r.take k))))),(7,true,.v (.sl false .int r)),(8,true,.v (.int .i64 (r.length))),(9,true,.v (.int .i64 k))],[]⟩) (fun k=>k<=r.length) (fun k=>r.length - k) (0) (nz0 _) ?_ ?_
 ·exact Le.s
 rintro k hk ih
 try simp only []
 refine Run.R ?_
 refine Run.c ?_ ?_
 ·intro hc
  have hc:k < r.length:=by simpa using hc
  have h1:posA (r.take (k+1))=(posA (r.take k) || decide (0 < r.getD k 0)):=any_snoc _ r k hc
  have h2:negA (r.take (k+1))=(negA (r.take k) || decide (r.getD k 0 < 0)):=any_snoc _ r k hc
  refine Run.R ?_
  refine Run.R ?_
  refine Run.R ?_
  refine Run.RW ?_
  refine Run.le ?_ (ih (k+1) om om)
  exact Le.sub (by rfl) (by rw [h1,h2];simp only [AW7,simprocAttr];simp)
 ·intro hc
  have hc:k=r.length:=by simp at hc;omega
  subst hc
  rw [tkL]
  refine Run.x ?_
  refine Run.R ?_
  refine Run.c ?_ ?_
  ·intro h1
   have h1:posA r=true/\negA r=false:=by revert h1;cases posA r<;>cases negA r<;>simp
   refine Run.R ?_
   refine Run.r [2] ?_
   exact⟨by rw [sgnR_one.2 h1],rfl⟩
  ·intro h1
   refine Run.R ?_
   refine Run.c ?_ ?_
   ·intro h2
    refine Run.R ?_
    refine Run.r [2] ?_
    refine⟨?_,rfl⟩
    revert h1 h2
    unfold sgnR
    cases posA r<;>cases negA r<;>simp
   ·intro h2
    refine Run.R ?_
    refine Run.r [2] ?_
    refine⟨?_,rfl⟩
    revert h1 h2
    unfold sgnR
    cases posA r<;>cases negA r<;>simp
theorem c_spec_RootSign (r:LI):FunA B 59 [.sl false .int r] (fun rs o=>rs=[.int .i64 (sgnR r)]/\o=[]):=by
 refine wk Tryz.call59 Tryz.func59 rfl Tryz.ntmps59 fun C hC hP hT hfn hpin hfin hX=>wW ?_
 refine Run.len 0 rfl (fun hl=>?_)
 refine Run.R ?_
 refine Run.R ?_
 refine Run.R ?_
 refine Run.R ?_
 refine Run.loopI (X:=Nat) (fun k=>⟨32,[(0,true,.v (.sl false .int r)),(2,true,.v (.int .i64 0)),(3,true,.v (.bool ((posA (r.take k))))),(4,true,.v (.bool ((negA (r.take k))))),(5,true,.v (.int .i64 k))],[]⟩) (fun k=>k<=r.length) (fun k=>r.length - k) (0) (nz0 _) ?_ ?_
 ·exact Le.s
 rintro k hk ih
 try simp only []
 refine Run.R ?_
 refine Run.c ?_ ?_
 ·intro hc
  have hc:k < r.length:=by simpa using hc
  have h1:posA (r.take (k+1))=(posA (r.take k) || decide (0 < r.getD k 0)):=any_snoc _ r k hc
  have h2:negA (r.take (k+1))=(negA (r.take k) || decide (r.getD k 0 < 0)):=any_snoc _ r k hc
  refine Run.R ?_
  refine Run.R ?_
  refine Run.RW ?_
  refine Run.le ?_ (ih (k+1) om om)
  exact Le.sub (by rfl) (by rw [h1,h2];simp only [AW7,simprocAttr];simp)
 ·intro hc
  have hc:k=r.length:=by simp at hc;omega
  subst hc
  rw [tkL]
  refine Run.x ?_
  refine Run.R ?_
  refine Run.c ?_ ?_
  ·intro h1
   refine Run.R ?_
   refine Run.r [2] ?_
   refine⟨?_,rfl⟩
   revert h1
   unfold sgnR
   cases posA r<;>cases negA r<;>simp
  ·intro h1
   refine Run.R ?_
   refine Run.c ?_ ?_
   ·intro h2
    refine Run.R ?_
    refine Run.r [2] ?_
    refine⟨?_,rfl⟩
    revert h1 h2
    unfold sgnR
    cases posA r<;>cases negA r<;>simp
   ·intro h2
    refine Run.R ?_
    refine Run.r [2] ?_
    refine⟨?_,rfl⟩
    revert h1 h2
    unfold sgnR
    cases posA r<;>cases negA r<;>simp
theorem dot_append:∀(a b x y:LI),a.length=x.length->dotL (a ++ b) (x ++ y)=dotL a x+dotL b y
 | [],b,[],y,_=>by simp [dotL]
 | p :: a,b,q :: x,y,h=>by simp [dotL,dot_append a b x y (by simpa using h)];omega
theorem dot_snoc (a r:LI) (k:Nat) (ha:k < a.length) (hr:k < r.length):dotL (a.take (k+1)) (r.take (k+1))=dotL (a.take k) (r.take k)+a.getD k 0*r.getD k 0:=by
 rw [<- take_snoc 0 a k ha,<- take_snoc 0 r k hr,dot_append _ _ _ _ (by simp;omega)]
 simp [dotL]
theorem mul3 {a x M:Int} (ha:-3<=a/\a<=3) (hx:-M<=x/\x<=M):-(3*M)<=a*x/\a*x<=3*M:=by
 have:a = -3\/a = -2\/a = -1\/a=0\/a=1\/a=2\/a=3:=by omega
 rcases this with rfl | rfl | rfl | rfl | rfl | rfl | rfl<;>omega
theorem dot_pre {a r:LI} {M:Int} (ha:Bnd 3 a) (hr:Bnd M r) (hl:a.length=r.length) (hM:0<=M):∀ k,k<=r.length->-(3*M*k)<=dotL (a.take k) (r.take k)/\dotL (a.take k) (r.take k)<=3*M*k
 | 0,_=>by simp [dotL]
 | k+1,h=>by
  have ih:=dot_pre ha hr hl hM k om
  rw [dot_snoc a r k om om]
  have:=mul3 (ha.get (k:=k) om) (hr.get (k:=k) om)
  have e:3*M*((k+1:Nat):Int)=3*M*k+3*M:=by push_cast;grind
  rw [e];omega
theorem dot_le {a r:LI} {M:Int} (ha:Bnd 3 a) (hr:Bnd M r) (hl:a.length=r.length) (h4:r.length<=4) (hM:0<=M) (k:Nat) (hk:k<=r.length):-(12*M)<=dotL (a.take k) (r.take k)/\dotL (a.take k) (r.take k)<=12*M:=by
 have h1:=dot_pre ha hr hl hM k hk
 have h2:3*M*(k:Int)<=12*M:=by
  have:(3*M)*(k:Int)<=(3*M)*4:=Int.mul_le_mul_of_nonneg_left om om
  omega
 omega
theorem row_bnd {c:LL} (hc:CartanP c) {i:Nat} (hi:i < c.length):Bnd 3 (c.getD i [])/\(c.getD i []).length=c.length:=by
 have hl:=hc.2.2.1 i hi
 refine⟨fun x hx=>?_,hl⟩
 obtain⟨k,hk,rfl⟩:=List.getElem_of_mem hx
 have:=ent_le hc i k hi om
 have e:ent c i k=(c.getD i [])[k]:=by unfold ent;generalize c.getD i []=q at hk;simp [hk]
 rw [e]at this
 omega
theorem c_impl_pairing (a r:LI) (ha:Bnd 3 a) (hr:Bnd 100000000000000000 r) (hl:a.length=r.length) (h4:r.length<=4):FunA B 120 [.sl false .int a,.sl false .int r] (fun rs o=>rs=[.int .i64 (dotL a r)]/\o=[]):=by
 refine wk Tryz.call120 Tryz.func120 rfl Tryz.ntmps120 fun C hC hP hT hfn hpin hfin hX=>wW ?_
 refine Run.R ?_
 refine Run.R ?_
 refine Run.R ?_
 refine Run.loopI (X:=Nat) (fun k=>⟨25,[(0,true,.v (.sl false .int a)),(1,true,.v (.sl false .int r)),(4,true,.v (.int .i64 0)),(5,true,.v (.int .i64 ((dotL (a.take k) (r.take k))))),(8,true,.v (.sl false .int r)),(9,true,.v (.int .i64 (r.length))),(10,true,.v (.int .i64 k))],[]⟩) (fun k=>k<=r.length) (fun k=>r.length - k) (0) (nz0 _) ?_ ?_
 ·exact Le.s
 rintro k hk ih
 try simp only []
 refine Run.R ?_
 refine Run.c ?_ ?_
 ·intro hc
  have hc:k < r.length:=by simpa using hc
  have hs:=dot_snoc a r k om hc
  have h0:=dot_le ha hr hl h4 om k hk
  have h1:=dot_le ha hr hl h4 om (k+1) om
  have h2:=mul3 (ha.get (k:=k) om) (hr.get hc)
  rw [hs]at h1
  refine Run.R ?_
  refine Run.RW ?_
  rw [<- hs]
  refine Run.RW ?_
  exact Run.j (ih (k+1) om mz)
 ·intro hc
  have hc:k=r.length:=by simp at hc;omega
  subst hc
  rw [tkL,List.take_of_length_le om]
  refine Run.x ?_
  refine Run.R ?_
  refine Run.r [4] ?_
  exact⟨rfl,rfl⟩
theorem mir_len (c:LL) (i:Int) (r:LI):(mirL c i r).length=r.length:=by simp [mirL]
theorem mir_bnd {c:LL} (hc:CartanP c) {i:Int} (hi:0<=i/\i < c.length) {r:LI} (hl:r.length=c.length) {M:Int} (hM:0<=M) (hr:Bnd M r):Bnd (13*M) (mirL c i r):=by
 intro x hx
 unfold mirL at hx
 rcases List.mem_or_eq_of_mem_set hx with h | h
 ·have:=hr x h;omega
 ·obtain⟨h1,h2⟩:=row_bnd hc (i:=i.toNat) om
  have h3:=dot_le h1 hr om (by have:=hc.2.1;omega) hM r.length (Nat.le_refl _)
  rw [tkL,List.take_of_length_le om]at h3
  have h4:=hr.get (k:=i.toNat) om
  rw [h];omega
theorem c_impl_mirrored (c:LL) (i:Int) (r:LI) (hc:CartanP c) (hi:0<=i/\i < c.length) (hl:r.length=c.length) (hr:Bnd 100000000000000000 r) :
  FunA B 72 [.sl false (.row false) c,.int .i64 i,.sl false .int r] (fun rs o=>rs=[.own 0 0]/\o=[.arr .int (mirL c i r) 0 true]):=by
 have hn:=hc.2.1
 obtain⟨b1,b2⟩:=row_bnd hc (i:=i.toNat) om
 have h3:=dot_le b1 hr om om om r.length (Nat.le_refl _)
 rw [tkL,List.take_of_length_le om]at h3
 have h4:=hr.get (k:=i.toNat) om
 refine wk Tryz.call72 Tryz.func72 rfl Tryz.ntmps72 fun C hC hP hT hfn hpin hfin hX=>wW ?_
 refine Run.R ?_
 refine Run.R ?_
 refine Run.k [0,1,2,6,7] [0] ?_
 refine Run.nq ?_;refine Run.regionD hC true [0,1,2,3,4,5,6,7,8,9,10,11,12] (by kernel_rfl) (fun K hK=>?_);simp(disch:=omega) only [wrap_id,AW7,simprocAttr,hX];(repeat(with_reducible refine And.intro ?_ ?_);exact vc0)
 refine FunA.callD hP hT (c_impl_pairing (c.getD i.toNat []) r b1 hr om om) (by simp only [AW7,simprocAttr]) ?_
 rintro rs o ⟨rfl,rfl⟩
 simp(disch:=omega) only [wrap_id,AW7,simprocAttr,hX]
 (repeat(with_reducible refine And.intro ?_ ?_);exact vc0)
 refine wE ?_;clear hK K
 refine Run.R ?_
 refine Run.k [6] [0] ?_
 refine Run.r [6] ?_
 exact⟨rfl,rfl⟩
theorem c_spec_l7Reflect (c:LL) (i:Int) (r:LI) (hc:CartanP c) (hi:0<=i/\i < c.length) (hl:r.length=c.length) (hr:Bnd 100000000000000000 r) :
  FunA B 81 [.sl false (.row false) c,.int .i64 i,.sl false .int r] (fun rs o=>rs=[.own 0 0]/\o=[.arr .int (mirL c i r) 0 true]):=by
 have hn:=hc.2.1
 obtain⟨b1,b2⟩:=row_bnd hc (i:=i.toNat) om
 have h3:=dot_le b1 hr om om om r.length (Nat.le_refl _)
 rw [tkL,List.take_of_length_le om]at h3
 have h4:=hr.get (k:=i.toNat) om
 refine wk Tryz.call81 Tryz.func81 rfl Tryz.ntmps81 fun C hC hP hT hfn hpin hfin hX=>wW ?_
 refine Run.R ?_
 refine Run.R ?_
 refine Run.R ?_
 refine Run.R ?_
 refine Run.k [0,1,2,6,7,8,9] [0] ?_
 refine Run.loopI (X:=Nat) (fun k=>⟨43,[(0,true,.v (.sl false (.row false) c)),(1,true,.v (.int .i64 i)),(2,true,.v (.sl false .int r)),(6,true,.v (.nils)),(7,true,.v (.own 0 0)),(8,true,.v (.int .i64 ((dotL ((c.getD i.toNat []).take k) (r.take k))))),(9,true,.v (.int .i64 k))],[.arr .int (r) 0 true]⟩) (fun k=>k<=r.length) (fun k=>r.length - k) (0) (nz0 _) ?_ ?_
 ·exact Le.s
 rintro k hk ih
 try simp only []
 refine Run.R ?_
 refine Run.c ?_ ?_
 ·intro h
  have h:k < r.length:=by simpa using h
  have hs:=dot_snoc (c.getD i.toNat []) r k om h
  have h0:=dot_le b1 hr om om om k hk
  have h1:=dot_le b1 hr om om om (k+1) om
  have h2:=mul3 (b1.get (k:=k) om) (hr.get h)
  rw [hs]at h1
  refine Run.nq ?_;refine Run.regionD hC true [0,1,2,3,4,5,6,7,8,9,10,11,12,13,14] (by kernel_rfl) (fun K hK=>?_);simp(disch:=omega) only [wrap_id,AW7,simprocAttr,hX];(repeat(with_reducible refine And.intro ?_ ?_);exact vc0)
  refine wE ?_;clear hK K
  rw [<- hs]
  refine Run.RW ?_
  exact Run.j (ih (k+1) om mz)
 ·intro h
  have h:k=r.length:=by simp at h;omega
  subst h
  rw [tkL,List.take_of_length_le om]
  refine Run.x ?_
  refine Run.RW ?_
  refine Run.R ?_
  refine Run.k [6] [0] ?_
  refine Run.r [6] ?_
  exact⟨rfl,rfl⟩
theorem c_impl_simple (n:Nat) (i:Int) (hn:n<=1048576) (hi:0<=i/\i < n):FunA B 99 [.int .i64 n,.int .i64 i] (fun rs o=>rs=[.own 0 0]/\o=[.arr .int (simL n i.toNat) 0 true]):=by
 refine wk Tryz.call99 Tryz.func99 rfl Tryz.ntmps99 fun C hC hP hT hfn hpin hfin hX=>wW ?_
 refine Run.R ?_
 refine Run.R ?_
 refine Run.R ?_
 refine Run.R ?_
 refine Run.k [4] [0] ?_
 refine Run.r [4] ?_
 exact⟨rfl,rfl⟩
theorem c_spec_SimpleRoot (c:LL) (i:Int) (hc:CartanP c) (hi:0<=i/\i < c.length):FunA B 39 [.sl false (.row false) c,.int .i64 i] (fun rs o=>rs=[.own 0 0]/\o=[.arr .int (simL c.length i.toNat) 0 true]):=by
 have hb:=isC_true hc
 have hn:=hc.2.1
 have hin:inB i 0 ((c.length:Int) - 1)=true:=inB_iff.2 om
 refine wk Tryz.call39 Tryz.func39 rfl Tryz.ntmps39 fun C hC hP hT hfn hpin hfin hX=>wW ?_
 refine Run.R ?_
 refine Run.g fun K hK=>?_
 refine FunA.cW hP hT (c_spec_IsCartan c) ?_
 rintro rs o ⟨rfl,rfl⟩
 simp only [hb]
 simp(disch:=omega) only [wrap_id,AW7,simprocAttr,hX]
 refine .inr ⟨rfl,?_⟩
 refine FunA.cW hP hT (c_spec_l1In i 0 ((c.length:Int) - 1)) ?_
 rintro rs o ⟨rfl,rfl⟩
 simp only [hin]
 refine wF ?_;clear hK K
 refine Run.c ?_ ?_
 ·intro h;cases h
 intro h
 refine Run.R ?_
 refine Run.R ?_
 refine Run.R ?_
 refine Run.k [4] [0] ?_
 refine Run.r [4] ?_
 exact⟨rfl,rfl⟩
theorem Run.join {C:Ctx} {i j:Item} {k:List Item} {σ:St} (σ':St) (h1:Run C k σ') (h2:Run C k σ'->Run C (i :: j :: k) σ):Run C (i :: j :: k) σ:=h2 h1
structure LP (c:LL) (s v0:LI) (L:Nat) (a v:LI):Prop where
 far:Far c (L - a.length) v
 le:a.length<=L
 let_:letters c.length a
 eq:lpL c s 31 v0=(a ++ (lpL c s (31 - a.length) v).1,(lpL c s (31 - a.length) v).2)
def wgtP (c:LL) (v:LI):Prop:=v.length=c.length/\∀ k,k < v.length->-1000<=v.getD k 0/\v.getD k 0<=1000
open Classical in
noncomputable def wgtB (c:LL) (v:LI):Bool:=isC c && decide (wgtP c v)
theorem wgtB_iff {c:LL} {v:LI}:wgtB c v=true↔CartanP c/\wgtP c v:=by simp [wgtB,isC_iff]
theorem c_impl_IsWeight (c:LL) (v:LI):FunA B 121 [.sl false (.row false) c,.sl false .int v] (fun rs o=>rs=[.bool (wgtB c v)]/\o=[]):=by
 refine wk Tryz.call121 Tryz.func121 rfl Tryz.ntmps121 fun C hC hP hT hfn hpin hfin hX=>wW ?_
 refine Run.len 1 rfl fun hlens=>?_
 refine Run.R ?_
 refine Run.g fun K hK=>?_
 refine FunA.e hP hT (c_impl_IsCartan c) ?_
 refine wE ?_;clear hK K
 refine Run.c ?_ ?_
 ·intro h
  have h:wgtB c v=false:=by
   unfold wgtB
   revert h
   cases hb:isC c with
   | false=>simp
   | true=>
    intro h
    simp at h
    simp [wgtP,show ¬v.length=c.length by omega]
  refine Run.R ?_
  refine Run.r [4] ?_
  rw [h];exact⟨rfl,rfl⟩
 intro h
 have hb:isC c=true:=by revert h;cases isC c<;>simp
 have hl:v.length=c.length:=by revert h;rw [hb];simp;omega
 refine Run.R ?_
 refine Run.loopI (X:=Nat) (fun k=>⟨30,[(0,true,.v (.sl false (.row false) c)),(1,true,.v (.sl false .int v)),(17,true,.v (.sl false .int v)),(18,true,.v (.int .i64 (v.length))),(19,true,.v (.int .i64 k))],[]⟩) (fun k=>k<=v.length/\∀ j,j < k->-1000<=v.getD j 0/\v.getD j 0<=1000) (fun k=>v.length - k) (0) (⟨nz0 _,by omega⟩) ?_ ?_
 ·exact Le.s
 rintro k ⟨hk,hp⟩ ih
 try simp only []
 refine Run.R ?_
 refine Run.c ?_ ?_
 ·intro h1
  have h1:k < v.length:=by simpa using h1
  refine Run.R ?_
  refine Run.R ?_
  refine Run.c ?_ ?_
  ·intro h2
   have h2:¬(-1000<=v.getD k 0/\v.getD k 0<=1000):=by
    intro h3
    rw [decide_eq_false (show ¬v.getD k 0 < -1000 by omega),decide_eq_false (show ¬1000 < v.getD k 0 by omega)]at h2
    cases h2
   refine Run.R ?_
   refine Run.r [4] ?_
   have:wgtB c v=false:=by
    cases hw:wgtB c v with
    | false=>rfl
    | true=>exact absurd ((wgtB_iff.1 hw).2.2 k h1) h2
   rw [this];exact⟨rfl,rfl⟩
  ·intro h2
   have h2:-1000<=v.getD k 0/\v.getD k 0<=1000:=by
    by_cases e1:v.getD k 0 < -1000
    ·rw [decide_eq_true e1]at h2;cases h2
    ·by_cases e2:1000 < v.getD k 0
     ·rw [decide_eq_false e1,decide_eq_true e2]at h2;cases h2
     ·omega
   have hp2:∀ j,j < k+1->-1000<=v.getD j 0/\v.getD j 0<=1000:=fun j hj=>by
    by_cases hjk:j=k
    ·subst hjk;exact h2
    ·exact hp j om
   refine Run.RW ?_
   exact Run.j (ih (k+1) (⟨by omega,hp2⟩) mz)
 ·intro h1
  have h1:k=v.length:=by simp at h1;omega
  subst h1
  refine Run.x ?_
  refine Run.R ?_
  refine Run.r [4] ?_
  rw [wgtB_iff.2 ⟨isC_iff.1 hb,hl,hp⟩];exact⟨rfl,rfl⟩
theorem c_spec_IsWeight (c:LL) (v:LI):FunA B 122 [.sl false (.row false) c,.sl false .int v] (fun rs o=>rs=[.bool (wgtB c v)]/\o=[]):=by
 refine wk Tryz.call122 Tryz.func122 rfl Tryz.ntmps122 fun C hC hP hT hfn hpin hfin hX=>wW ?_
 refine Run.len 1 rfl fun hlens=>?_
 refine Run.R ?_
 refine Run.R ?_
 refine Run.loopI (X:=Nat) (fun k=>⟨27,[(0,true,.v (.sl false (.row false) c)),(1,true,.v (.sl false .int v)),(5,true,.v (.int .i64 k))],[]⟩) (fun k=>k<=v.length/\∀ j,j < k->-1000<=v.getD j 0/\v.getD j 0<=1000) (fun k=>v.length - k) (0) (⟨nz0 _,by omega⟩) ?_ ?_
 ·exact Le.s
 rintro k ⟨hk,hp⟩ ih
 try simp only []
 refine Run.R ?_
 refine Run.c ?_ ?_
 ·intro h1
  have h1:k < v.length:=by simpa using h1
  refine Run.g fun K hK=>?_
  refine FunA.e hP hT (c_spec_l1In (v.getD k 0) (-1000) 1000) ?_
  refine wE ?_;clear hK K
  have key:=inB_iff (x:=v.getD k 0) (lo:=-1000) (hi:=1000)
  refine Run.c ?_ ?_
  ·intro h2
   have h2:¬(-1000<=v.getD k 0/\v.getD k 0<=1000):=fun h=>by rw [key.2 h]at h2;cases h2
   refine Run.R ?_
   refine Run.r [4] ?_
   have:wgtB c v=false:=by
    cases hw:wgtB c v with
    | false=>rfl
    | true=>exact absurd ((wgtB_iff.1 hw).2.2 k h1) h2
   rw [this];exact⟨rfl,rfl⟩
  ·intro h2
   have h2:-1000<=v.getD k 0/\v.getD k 0<=1000:=key.1 (by revert h2;cases inB (v.getD k 0) (-1000) 1000<;>simp)
   have hp2:∀ j,j < k+1->-1000<=v.getD j 0/\v.getD j 0<=1000:=fun j hj=>by
    by_cases hjk:j=k
    ·subst hjk;exact h2
    ·exact hp j om
   refine Run.RW ?_
   exact Run.j (ih (k+1) (⟨by omega,hp2⟩) mz)
 ·intro h1
  have h1:k=v.length:=by simp at h1;omega
  subst h1
  refine Run.x ?_
  refine Run.g fun K hK=>?_
  refine FunA.e hP hT (c_spec_IsCartan c) ?_
  refine wE ?_;clear hK K
  refine Run.r [4] ?_
  refine⟨?_,rfl⟩
  congr 2
  cases hb:isC c with
  | false=>simp [wgtB,hb]
  | true=>
   by_cases hl:v.length=c.length
   ·rw [wgtB_iff.2 ⟨isC_iff.1 hb,hl,hp⟩];simp [hl]
   ·have:wgtB c v=false:=by simp [wgtB,wgtP,hl]
    rw [this]
    simp;omega
theorem c_impl_IsRootVector (c:LL) (v:LI):FunA B 61 [.sl false (.row false) c,.sl false .int v] (fun rs o=>rs=[.bool (wgtB c v)]/\o=[]):=by
 refine wk Tryz.call61 Tryz.func61 rfl Tryz.ntmps61 fun C hC hP hT hfn hpin hfin hX=>wW ?_
 refine Run.R ?_
 refine Run.g fun K hK=>?_
 refine FunA.e hP hT (c_impl_IsWeight c v) ?_
 refine wE ?_;clear hK K
 refine Run.r [4] ?_
 exact⟨rfl,rfl⟩
theorem c_spec_IsRootVector (c:LL) (v:LI):FunA B 62 [.sl false (.row false) c,.sl false .int v] (fun rs o=>rs=[.bool (wgtB c v)]/\o=[]):=by
 refine wk Tryz.call62 Tryz.func62 rfl Tryz.ntmps62 fun C hC hP hT hfn hpin hfin hX=>wW ?_
 refine Run.R ?_
 refine Run.g fun K hK=>?_
 refine FunA.e hP hT (c_spec_IsWeight c v) ?_
 refine wE ?_;clear hK K
 refine Run.r [4] ?_
 exact⟨rfl,rfl⟩
theorem c_spec_l9Fit (c:LL) (w:LI) (hc:CartanP c) (hw:letters c.length w) (hl:w.length<=31) :
  FunA B 80 [.sl false (.row false) c,.sl false .int w] (fun rs o=>rs=[.own 0 0,.bool (decide ((redL c w).length<=15))]/\o=[.arr .int (if (redL c w).length<=15 then redL c w else []) 0 true]):=by
 obtain⟨a1,a2,a3,a4,a5⟩:=red_spec hc hw hl
 refine wk Tryz.call80 Tryz.func80 rfl Tryz.ntmps80 fun C hC hP hT hfn hpin hfin hX=>wW ?_
 refine Run.R ?_
 refine Run.g fun K hK=>?_
 refine FunA.e hP hT (c_spec_l8Normal c w hc hw hl) ?_
 refine wE ?_;clear hK K
 refine Run.R ?_
 refine Run.c ?_ ?_
 ·intro h
  have h:15 < (redL c w).length:=by simp at h;omega
  refine Run.R ?_
  refine Run.k [4,5] [1] ?_
  refine Run.r [4,5] ?_
  rw [if_neg om,decide_eq_false om];exact⟨rfl,rfl⟩
 ·intro h
  have h:(redL c w).length<=15:=by simp at h;omega
  refine Run.R ?_
  refine Run.k [4,5] [0] ?_
  refine Run.r [4,5] ?_
  rw [if_pos h,decide_eq_true h];exact⟨rfl,rfl⟩
theorem sgn_nonneg {r:LI} (h:sgnR r=1):∀ x∈r,0<=x:=by
 intro x hx
 have h1:=(sgnR_one.1 h).2
 unfold negA at h1
 rw [List.any_eq_false]at h1
 have:=h1 x hx
 simp at this
 exact this
theorem hgt_nonneg:∀ {r:LI},(∀ x∈r,0<=x)->0<=hgt r/\∀ x∈r,x<=hgt r
 | [],_=>by simp [hgt]
 | y :: r,h=>by
  obtain⟨h1,h2⟩:=hgt_nonneg (r:=r) fun x hx=>h x (mcM _ hx)
  have h0:=h y (by simp)
  refine⟨by simp only [hgt];omega,fun x hx=>?_⟩
  simp only [hgt]
  rcases List.mem_cons.1 hx with rfl | hx
  ·omega
  ·have:=h2 x hx;omega
theorem hgt_zero:∀ {r:LI},(∀ x∈r,0<=x)->hgt r=0->r=List.replicate r.length 0
 | [],_,_=>rfl
 | y :: r,h,h0=>by
  have h1:=h y (by simp)
  obtain⟨h2,_⟩:=hgt_nonneg (r:=r) fun x hx=>h x (mcM _ hx)
  simp only [hgt]at h0
  have:=hgt_zero (r:=r) (fun x hx=>h x (mcM _ hx)) om
  rw [lenC,List.replicate_succ,<- this]
  congr 1
  omega
theorem hgt_one:∀ {r:LI},(∀ x∈r,0<=x)->hgt r=1->∃ i,i < r.length/\r=simL r.length i
 | [],_,h=>by simp [hgt]at h
 | y :: r,h,h0=>by
  have h1:=h y (by simp)
  obtain⟨h2,_⟩:=hgt_nonneg (r:=r) fun x hx=>h x (mcM _ hx)
  simp only [hgt]at h0
  by_cases hy:y=1
  ·refine⟨0,by simp,?_⟩
   have:=hgt_zero (r:=r) (fun x hx=>h x (mcM _ hx)) om
   simp only [simL,lenC,List.replicate_succ,List.set_cons_zero]
   rw [<- this,hy]
  ·obtain⟨i,hi,hr⟩:=hgt_one (r:=r) (fun x hx=>h x (mcM _ hx)) om
   refine⟨i+1,by simp;omega,?_⟩
   simp only [simL,lenC,List.replicate_succ,List.set_cons_succ]
   simp only [simL]at hr
   rw [<- hr]
   congr 1
   omega
theorem hgt_rep:∀ n,hgt (List.replicate n 0)=0
 | 0=>rfl
 | n+1=>by rw [List.replicate_succ,hgt,hgt_rep n];rfl
theorem hgt_sim:∀(n i:Nat),i < n->hgt (simL n i)=1
 | 0,i,h=>by omega
 | n+1,0,_=>by simp only [simL,List.replicate_succ,List.set_cons_zero,hgt,hgt_rep];rfl
 | n+1,i+1,h=>by
  have:=hgt_sim n i om
  simp only [simL]at this
  simp only [simL,List.replicate_succ,List.set_cons_succ,hgt,this];rfl
theorem simL_get (n i k:Nat) (hi:i < n):(simL n i).getD k 0=if k=i then 1 else 0:=by
 unfold simL
 by_cases hk:k < n
 ·rw [gdE,List.getElem?_set]
  by_cases h:i=k
  ·subst h;simp [hi]
  ·simp [h,Ne.symm h,hk]
 ·rw [gdE,geN (by simp;omega),if_neg om];rfl
theorem simL_len (n i:Nat):(simL n i).length=n:=by simp [simL]
theorem simL_inj {n i j:Nat} (hi:i < n) (hj:j < n) (h:simL n i=simL n j):i=j:=by
 have h1:=simL_get n i i hi
 have h2:=simL_get n j i hj
 rw [h]at h1
 rw [h1,if_pos rfl]at h2
 by_cases hij:i=j
 ·exact hij
 ·rw [if_neg hij]at h2;cases h2
theorem idx_sim (n i:Nat) (hi:i < n):idxN (simL n i) 1 (simL n i).length=i:=by
 have h1:∀ m,m<=i->idxN (simL n i) 1 m = -1:=by
  intro m hm
  induction m with
  | zero=>rfl
  | succ m ih=>
   simp only [idxN]
   rw [ih om,if_pos om,simL_get n i m hi,if_neg om]
 have h2:idxN (simL n i) 1 (i+1)=i:=by
  simp only [idxN]
  rw [h1 i (Nat.le_refl _),if_pos om,simL_get n i i hi,if_pos rfl,if_pos rfl]
 rw [idxN_more (simL n i) 1 (i+1) _ (by rw [simL_len];omega) (by rw [h2];omega),h2]
def lowI (c:LL) (r:LI):Option Nat:=(List.range c.length).find? fun i=>decide (hgt (mirL c i r) < hgt r)
def simI (c:LL) (r:LI):Option Nat:=(List.range c.length).find? fun i=>r == simL c.length i
def rflP (c:LL):Nat->List Int->List Int->Option (List Int×Nat)
 | k,r,p=>match simI c r with
  | some i=>some (p,i)
  | none=>match k with
   | 0=>none
   | k+1=>match lowI c r with
    | none=>none
    | some i=>if sgnR (mirL c i r)=1 then rflP c k (mirL c i r) (p ++ [(i:Int)])else none
noncomputable def rflO (c:LL) (r:LI):Option (List Int×Nat):=if wgtB c r && (sgnR r == 1)then rflP c 7 r []else none
def rflL (c:LL):Option (List Int×Nat)->List Int
 | some (p,i)=>redL c (p ++ [(i:Int)] ++ p.reverse)
 | none=>[]
noncomputable def rflB (c:LL) (r:LI):Bool:=(rflO c r).isSome && decide ((rflL c (rflO c r)).length<=15)
noncomputable def rflX (c:LL) (r:LI):List Int:=if rflB c r then rflL c (rflO c r)else []
theorem rflX_le (c:LL) (r:LI):(rflX c r).length<=15:=by
 unfold rflX
 split
 ·rename_i h
  simp only [rflB,bAnd,dtE]at h
  exact h.2
 ·simp
theorem find_some {n:Nat} {p:Nat->Bool} {i:Nat} (hi:i < n) (h:p i=true) (hj:∀ j,j < i->p j=false):(List.range n).find? p=some i:=by
 rw [List.find?_range_eq_some]
 exact⟨h,by simpa using hi,fun j hj'=>by simp [hj j hj']⟩
theorem find_none {n:Nat} {p:Nat->Bool} (hj:∀ j,j < n->p j=false):(List.range n).find? p=none:=by
 rw [List.find?_range_eq_none]
 exact fun j hj'=>by simp [hj j hj']
theorem find_some' {n:Nat} {p:Nat->Bool} {i:Nat} (h:(List.range n).find? p=some i):i < n/\p i=true/\∀ j,j < i->p j=false:=by
 rw [List.find?_range_eq_some]at h
 obtain⟨h1,h2,h3⟩:=h
 exact⟨by simpa using h2,h1,fun j hj=>by simpa using h3 j hj⟩
theorem rflP_sim {c:LL} {r:LI} {i:Nat} (h:simI c r=some i) (k:Nat) (p:LI):rflP c k r p=some (p,i):=by
 rw [rflP.eq_def];simp only [h]
theorem rflP_zero {c:LL} {r:LI} (h:simI c r=none) (p:LI):rflP c 0 r p=none:=by
 rw [rflP.eq_def];simp only [h]
theorem rflP_stop {c:LL} {r:LI} (h:simI c r=none) (hl:lowI c r=none) (k:Nat) (p:LI):rflP c k r p=none:=by
 rw [rflP.eq_def];simp only [h];cases k<;>simp only [hl]
theorem rflP_step {c:LL} {r:LI} (h:simI c r=none) {i:Nat} (hl:lowI c r=some i) (k:Nat) (p:LI):rflP c (k+1) r p=if sgnR (mirL c i r)=1 then rflP c k (mirL c i r) (p ++ [(i:Int)])else none:=by
 rw [rflP.eq_def];simp only [h,hl]
structure Dn (c:LL) (r:LI):Prop where
 len:r.length=c.length
 sgn:sgnR r=1
 hgt:hgt r<=4000
theorem Dn.bnd {c:LL} {r:LI} (h:Dn c r):Bnd 4000 r:=fun x hx=>by
 have h1:=sgn_nonneg h.sgn
 have:=h1 x hx
 have:=(hgt_nonneg h1).2 x hx
 have:=h.hgt
 omega
theorem Dn.next {c:LL} {r:LI} (h:Dn c r) {i:Nat} (hi:lowI c r=some i) (hs:sgnR (mirL c i r)=1):Dn c (mirL c i r):=by
 have h1:=(find_some' hi).2.1
 have:=h.hgt
 have h2:Go.Proofs.YtcinngodeoidnaaGreat.hgt (mirL c i r) < Go.Proofs.YtcinngodeoidnaaGreat.hgt r:=by simpa using h1
 exact⟨by rw [mir_len];exact h.len,hs,by omega⟩
theorem Dn.start {c:LL} {r:LI} (hc:CartanP c) (hw:wgtP c r) (hs:sgnR r=1):Dn c r:=by
 refine⟨hw.1,hs,?_⟩
 have hb:Bnd 1000 r:=by
  intro x hx
  obtain⟨k,hk,rfl⟩:=List.getElem_of_mem hx
  have:=hw.2 k hk
  rwa [show r.getD k 0=r[k]from by simp [hk]]at this
 have h1:=(hgt_bnd hb).2
 have:=hw.1
 have:=hc.2.1
 omega
theorem Dn.one {c:LL} {r:LI} (h:Dn c r) (h1:Go.Proofs.YtcinngodeoidnaaGreat.hgt r=1):∃ i,i < c.length/\r=simL c.length i/\simI c r=some i:=by
 obtain⟨i,hi,hr⟩:=hgt_one (sgn_nonneg h.sgn) h1
 rw [h.len]at hi hr
 refine⟨i,hi,hr,find_some hi (by simpa using hr) fun j hj=>?_⟩
 cases hq:(r == simL c.length j) with
 | false=>rfl
 | true=>
  have hq:r=simL c.length j:=by simpa using hq
  have:=simL_inj hi (Nat.lt_trans hj hi) (hr.symm.trans hq)
  omega
theorem Dn.notone {c:LL} {r:LI} (h1:¬Go.Proofs.YtcinngodeoidnaaGreat.hgt r=1):simI c r=none:=find_none fun j hj=>by
 cases hq:(r == simL c.length j) with
 | false=>rfl
 | true=>
  have hq:r=simL c.length j:=by simpa using hq
  rw [hq,hgt_sim _ _ hj]at h1
  exact absurd rfl h1
def lowR (c:LL) (r:LI):List Int:=match lowI c r with
 | some i=>mirL c i r
 | none=>[]
def lowP (c:LL) (r p:LI):List Int:=match lowI c r with
 | some i=>p ++ [(i:Int)]
 | none=>p
theorem rfl_none {c:LL} {r:LI} (h:rflO c r=none):rflB c r=false/\rflX c r=[]:=by
 have:rflB c r=false:=by simp [rflB,h]
 exact⟨this,by simp [rflX,this]⟩
theorem rfl_off {c:LL} {r:LI} (h:(wgtB c r && (sgnR r == 1))=false):rflO c r=none:=by
 unfold rflO;rw [h];rfl
theorem rfl_on {c:LL} {r:LI} (h1:wgtB c r=true) (h2:sgnR r=1):rflO c r=rflP c 7 r []:=by
 unfold rflO;rw [h1,h2];rfl
theorem c_impl_ReflectionOf (c:LL) (r:LI) :
  FunA B 9 [.sl false (.row false) c,.sl false .int r] (fun rs o=>rs=[.own 0 0,.bool (rflB c r)]/\o=[.arr .int (rflX c r) 0 true]):=by
 refine wk Tryz.call9 Tryz.func9 rfl Tryz.ntmps9 fun C hC hP hT hfn hpin hfin hX=>wW ?_
 refine Run.R ?_
 refine Run.g fun K hK=>?_
 refine FunA.e hP hT (c_impl_IsRootVector c r) ?_
 refine .inl (FunA.callG hP hT (c_impl_RootSign r) (fun _=>rfl) (fun _=>by simp only [AW7,simprocAttr]) ?_)
 refine wF ?_;clear hK K
 refine Run.c ?_ ?_
 ·intro h
  have h:(wgtB c r && (sgnR r == 1))=false:=by
   revert h
   cases wgtB c r with
   | false=>simp
   | true=>intro h;simpa using h
  obtain⟨e1,e2⟩:=rfl_none (rfl_off h)
  refine Run.R ?_
  refine Run.k [4,5] [0] ?_
  refine Run.r [4,5] ?_
  rw [e1,e2];exact⟨rfl,rfl⟩
 intro h
 have hwb:wgtB c r=true:=by revert h;cases wgtB c r<;>simp
 have hsg:sgnR r=1:=by revert h;rw [hwb];simp
 obtain⟨hc,hw⟩:=wgtB_iff.1 hwb
 have hn:=hc.2.1
 have hO:=rfl_on hwb hsg
 refine Run.R ?_
 refine Run.k [0,1,6] [0] ?_
 refine Run.loopI (X:=List Int×List Int×Bool) (fun x=>⟨78,[(0,true,.v (.sl false (.row false) c)),(1,true,.v (.sl x.2.2 .int x.1)),(6,true,.v (.own 0 0))],[.arr .int (x.2.1) 0 true]⟩) (fun x=>Dn c x.1/\x.2.1.length<=7/\letters c.length x.2.1/\rflO c r=rflP c (7 - x.2.1.length) x.1 x.2.1) (fun x=>7 - x.2.1.length) ((r,[],false)) (⟨Dn.start hc hw hsg,by simp,letters_nil _,hO⟩) ?_ ?_
 ·exact Le.s
 rintro⟨s,p,f⟩ ⟨hD,hp7,hpl,hE⟩ ihO
 try simp only []
 simp only []at hD hp7 hpl hE
 have hb:=hD.bnd
 have hl:=hD.len
 refine Run.g fun K hK=>?_
 refine FunA.e hP hT (c_impl_HeightOf s (fun x hx=>by have:=hb x hx;omega) om) ?_
 refine wE ?_;clear hK K
 refine Run.c ?_ ?_
 ·intro h1
  have h1:¬hgt s=1:=by simpa using h1
  have hsi:=Dn.notone (c:=c) h1
  refine Run.R ?_
  refine Run.R ?_
  refine Run.k [0,1,6,7,28,29] [0,1] ?_
  refine Run.join ⟨78,[(0,true,.v (.sl false (.row false) c)),(1,true,.v (.sl f .int s)),(6,true,.v (.own 0 0)),(7,true,.v (.own 1 0))],[.arr .int (lowP c s p) 0 true,.arr .int (lowR c s) 0 true]⟩ ?_ (fun cont=>?_)
  ·cases hlo:lowI c s with
   | none=>
    simp only [lowP,lowR,hlo]
    refine Run.g fun K hK=>?_
    simp only [lenN]
    refine .inl (CallG.off (.int .i64 0) ?_)
    refine wF ?_;clear hK K
    refine Run.c ?_ ?_
    rotate_left
    ·intro h;simp at h
    intro _
    obtain⟨e1,e2⟩:=rfl_none (hE.trans (rflP_stop hsi hlo _ _))
    refine Run.R ?_
    refine Run.k [4,5] [2] ?_
    refine Run.r [4,5] ?_
    rw [e1,e2];exact⟨rfl,rfl⟩
   | some i=>
    obtain⟨hi,hlt,_⟩:=find_some' hlo
    have hml:=mir_len c i s
    simp only [lowP,lowR,hlo]
    refine Run.g fun K hK=>?_
    refine .inl (FunA.callG hP hT (c_impl_RootSign (mirL c i s)) (fun _=>rfl) (fun _=>by simp only [AW7,simprocAttr]) ?_)
    refine wF ?_;clear hK K
    refine Run.c ?_ ?_
    ·intro h2
     have hz:rflO c r=none:=by
      rw [hE]
      rcases Nat.lt_or_ge p.length 7 with hp | hp
      ·rw [show 7 - p.length=(7 - (p.length+1))+1 by omega,rflP_step hsi hlo,if_neg]
       intro h3
       rw [h3]at h2
       have e1:(((mirL c i s).length:Int) == 0)=false:=by simp only [beq_eq_false_iff_ne];omega
       rw [e1]at h2
       simp at h2
       omega
      ·rw [show 7 - p.length=0 by omega,rflP_zero hsi]
     obtain⟨e1,e2⟩:=rfl_none hz
     refine Run.R ?_
     refine Run.k [4,5] [2] ?_
     refine Run.r [4,5] ?_
     rw [e1,e2];exact⟨rfl,rfl⟩
    ·intro h2
     have h3:sgnR (mirL c i s)=1/\p.length < 7:=by
      by_cases hs:sgnR (mirL c i s)=1
      ·refine⟨hs,?_⟩
       have e1:(((mirL c i s).length:Int) == 0)=false:=by simp only [beq_eq_false_iff_ne];omega
       rw [hs,e1]at h2
       simp at h2
       omega
      ·simp [hs]at h2
     refine Run.R ?_
     refine Run.l 1 [0,1,6] ?_
     refine Run.k [0,1,6] [0] ?_
     exact Run.j (ihO ((mirL c i s,p ++ [(i:Int)],true)) (⟨hD.next hlo h3.1,by simp;omega,letters_append.2 ⟨hpl,letters_cons.2 ⟨by omega,letters_nil _⟩⟩,by rw [hE,show 7 - p.length=(7 - (p ++ [(i:Int)]).length)+1 by simp only [lenA,lenC,lenN];omega,rflP_step hsi hlo,if_pos h3.1]⟩) mz)
  ·refine Run.loopI (X:=Nat) (fun k=>⟨78,[(0,true,.v (.sl false (.row false) c)),(1,true,.v (.sl f .int s)),(6,true,.v (.own 0 0)),(7,true,.v (.own 1 0)),(28,true,.v (.int .i64 (c.length))),(29,true,.v (.int .i64 k))],[.arr .int (p) 0 true,.arr .int ([]) 0 true]⟩) (fun k=>k<=c.length/\∀ j,j < k->decide (hgt (mirL c j s) < hgt s)=false) (fun k=>c.length - k) (0) (⟨nz0 _,by omega⟩) ?_ ?_
   ·exact Le.s
   rintro k ⟨hk,hpre⟩ ih
   try simp only []
   refine Run.R ?_
   refine Run.c ?_ ?_
   ·intro h2
    have h2:k < c.length:=by simpa using h2
    have hmb:=mir_bnd hc (i:=(k:Int)) om hl (M:=4000) om hb
    have hml:=mir_len c k s
    refine Run.R ?_
    refine Run.g fun K hK=>?_
    refine FunA.e hP hT (c_impl_mirrored c (k:Int) s hc om hl (fun x hx=>by have:=hb x hx;omega)) ?_
    refine wE ?_;clear hK K
    refine Run.g fun K hK=>?_
    refine FunA.e hP hT (c_impl_HeightOf (mirL c k s) (fun x hx=>by have:=hmb x hx;omega) om) ?_
    refine FunA.e hP hT (c_impl_HeightOf s (fun x hx=>by have:=hb x hx;omega) om) ?_
    refine wE ?_;clear hK K
    refine Run.c ?_ ?_
    ·intro h3
     have hlo:lowI c s=some k:=find_some h2 h3 hpre
     refine Run.R ?_
     refine Run.R ?_
     refine Run.exit rfl ?_
     refine Run.k [0,1,6,7] [0,2] ?_
     refine Run.le ?_ cont
     simp only [lowP,lowR,hlo]
     exact Le.sub (by rfl) (by simp only [AW7,simprocAttr];try simp)
    ·intro h3
     have hp2:∀ j,j < k+1->decide (hgt (mirL c j s) < hgt s)=false:=fun j hj=>by
      by_cases hjk:j=k
      ·subst hjk;exact h3
      ·exact hpre j om
     refine Run.k [0,1,6,7,28,29] [0,1] ?_
     refine Run.RW ?_
     exact Run.j (ih (k+1) (⟨by omega,hp2⟩) mz)
   ·intro h2
    have h2:k=c.length:=by simp at h2;omega
    subst h2
    have hlo:lowI c s=none:=find_none hpre
    refine Run.exit rfl ?_
    refine Run.le ?_ cont
    simp only [lowP,lowR,hlo]
    exact Le.sub (by rfl) (by simp only [AW7,simprocAttr];try simp)
 ·intro h1
  have h1:hgt s=1:=by simpa using h1
  obtain⟨i,hi,hr,hsi⟩:=hD.one h1
  have hz:=hE.trans (rflP_sim hsi _ _)
  have hlw:letters c.length (p ++ [(i:Int)] ++ p.reverse):=letters_append.2 ⟨letters_append.2 ⟨hpl,letters_cons.2 ⟨by omega,letters_nil _⟩⟩,letters_reverse hpl⟩
  have hll:(p ++ [(i:Int)] ++ p.reverse).length<=31:=by simp;omega
  obtain⟨a1,a2,a3,a4,a5⟩:=red_spec hc hlw hll
  have hix:idxN s 1 s.length=i:=by rw [hr];exact idx_sim c.length i hi
  refine Run.x ?_
  refine Run.g fun K hK=>?_
  refine FunA.cW hP hT (c_slices_Index s 1 om) ?_
  rintro rs o ⟨rfl,rfl⟩
  rw [hix]
  refine wW ?_
  refine FunA.e hP hT (c_impl_ReverseWord p om) ?_
  refine FunA.cW hP hT (c_slices_Concat [p,[(i:Int)],p.reverse] (by simp [sumL];omega) (by simp)) ?_
  rintro rs o ⟨nn,rfl,rfl⟩
  refine wF ?_;clear hK K
  rw [show([p,[(i:Int)],p.reverse]:LL).flatten=p ++ [(i:Int)] ++ p.reverse by simp]
  refine Run.g fun K hK=>?_
  refine FunA.e hP hT (c_impl_reduced c (p ++ [(i:Int)] ++ p.reverse) hc hlw hll) ?_
  refine wE ?_;clear hK K
  refine Run.R ?_
  refine Run.c ?_ ?_
  ·intro h2
   have h2:¬(redL c (p ++ [(i:Int)] ++ p.reverse)).length<=15:=by simp only [dtE]at h2;omega
   have e1:rflB c r=false:=by unfold rflB;rw [hz];show(true && decide ((redL c (p ++ [(i:Int)] ++ p.reverse)).length<=15))=false;rw [decide_eq_false h2];rfl
   have e2:rflX c r=[]:=by unfold rflX;rw [e1];rfl
   refine Run.R ?_
   refine Run.k [4,5] [6] ?_
   refine Run.r [4,5] ?_
   rw [e1,e2];exact⟨rfl,rfl⟩
  ·intro h2
   have h2:(redL c (p ++ [(i:Int)] ++ p.reverse)).length<=15:=by simp only [dfE]at h2;omega
   have e1:rflB c r=true:=by unfold rflB;rw [hz];show(true && decide ((redL c (p ++ [(i:Int)] ++ p.reverse)).length<=15))=true;rw [decide_eq_true h2];rfl
   have e2:rflX c r=redL c (p ++ [(i:Int)] ++ p.reverse):=by unfold rflX;rw [e1,hz];rfl
   refine Run.R ?_
   refine Run.k [4,5] [5] ?_
   refine Run.r [4,5] ?_
   rw [e1,e2];exact⟨rfl,rfl⟩
end Go.Proofs.YtcinngodeoidnaaGreat
