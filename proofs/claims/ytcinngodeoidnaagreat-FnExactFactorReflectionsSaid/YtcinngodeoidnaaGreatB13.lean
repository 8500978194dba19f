/- Root vectors: sums, signs, reflections: what the functions of both sides do. -/
import Derived.Test.YtcinngodeoidnaaGreatB12
import Derived.Test.YtcinngodeoidnaaGreatB9
import Derived.Shelf.SlSortCmp.Whole1
set_option linter.unusedVariables false
set_option linter.unusedSimpArgs false
namespace Go.Proofs.YtcinngodeoidnaaGreat
open Go Go.Aw Go.Cox
def hgt:List Int->Int
 | []=>0
 | x :: r=>x+hgt r
theorem hgt_append:∀ a b:List Int,hgt (a ++ b)=hgt a+hgt b
 | [],b=>by simp [hgt]
 | x :: a,b=>by simp [hgt,hgt_append a b];omega
theorem hgt_snoc (r:LI) (k:Nat) (h:k < r.length):hgt (r.take (k+1))=hgt (r.take k)+r.getD k 0:=by
 rw [<- take_snoc 0 r k h,hgt_append];simp [hgt]
def Bnd (M:Int) (r:LI):Prop:=∀ x∈r,-M<=x/\x<=M
theorem hgt_bnd {M:Int}:∀ {r:LI},Bnd M r->-(M*r.length)<=hgt r/\hgt r<=M*r.length
 | [],_=>by simp [hgt]
 | x :: r,h=>by
  have h1:=h x (mcS ..)
  have h2:=hgt_bnd (r:=r) (fun y hy=>h y (mcM _ hy))
  simp only [hgt,lenC]
  have e:M*((r.length+1:Nat):Int)=M*r.length+M:=by push_cast;grind
  rw [e];omega
theorem Bnd.take {M:Int} {r:LI} (h:Bnd M r) (k:Nat):Bnd M (r.take k):=fun x hx=>h x (List.mem_of_mem_take hx)
theorem Bnd.get {M:Int} {r:LI} (h:Bnd M r) {k:Nat} (hk:k < r.length):-M<=r.getD k 0/\r.getD k 0<=M:=h _ (getD_mem hk)
theorem hgt_pre {r:LI} (h:Bnd 1000000000000000000 r) (hl:r.length<=4) (k:Nat):-4000000000000000000<=hgt (r.take k)/\hgt (r.take k)<=4000000000000000000:=by
 have:=hgt_bnd (h.take k)
 have hk:(r.take k).length<=4:=by simp;omega
 omega
theorem c_impl_HeightOf (r:LI) (h:Bnd 1000000000000000000 r) (hl:r.length<=4):FunA B 46 [.sl false .int r] (fun rs o=>rs=[.int .i64 (hgt r)]/\o=[]):=by
 refine wk Tryz.call46 Tryz.func46 rfl Tryz.ntmps46 fun C hC hP hT hfn hpin hfin hX=>wW ?_
 refine Run.R ?_
 refine Run.R ?_
 refine Run.R ?_
 refine Run.loopI (X:=Nat) (fun k=>⟨17,[(0,true,.v (.sl false .int r)),(2,true,.v (.int .i64 0)),(3,true,.v (.int .i64 ((hgt (r.take k))))),(6,true,.v (.sl false .int r)),(7,true,.v (.int .i64 (r.length))),(8,true,.v (.int .i64 k))],[]⟩) (fun k=>k<=r.length) (fun k=>r.length - k) (0) (nz0 _) ?_ ?_
 ·exact Le.s
 rintro k hk ih
 try simp only []
 refine Run.R ?_
 refine Run.c ?_ ?_
 ·intro hc
  have hc:k < r.length:=by simpa using hc
  have hs:=hgt_snoc r k hc
  have h1:=hgt_pre h hl (k+1)
  rw [hs]at h1
  refine Run.R ?_
  refine Run.RW ?_
  rw [<- hs]
  refine Run.RW ?_
  exact Run.j (ih (k+1) om mz)
 ·intro hc
  have hc:k=r.length:=by simp at hc;omega
  subst hc
  rw [tkL]
  refine Run.x ?_
  refine Run.R ?_
  refine Run.r [2] ?_
  exact⟨rfl,rfl⟩
theorem c_spec_HeightOf (r:LI) (h:Bnd 1000000000000000000 r) (hl:r.length<=4):FunA B 60 [.sl false .int r] (fun rs o=>rs=[.int .i64 (hgt r)]/\o=[]):=by
 refine wk Tryz.call60 Tryz.func60 rfl Tryz.ntmps60 fun C hC hP hT hfn hpin hfin hX=>wW ?_
 refine Run.R ?_
 refine Run.R ?_
 refine Run.R ?_
 refine Run.loopI (X:=Nat) (fun k=>⟨18,[(0,true,.v (.sl false .int r)),(2,true,.v (.int .i64 0)),(3,true,.v (.int .i64 ((hgt (r.take k))))),(4,true,.v (.int .i64 k))],[]⟩) (fun k=>k<=r.length) (fun k=>r.length - k) (0) (nz0 _) ?_ ?_
 ·exact Le.s
 rintro k hk ih
 try simp only []
 refine Run.R ?_
 refine Run.c ?_ ?_
 ·intro hc
  have hc:k < r.length:=by simpa using hc
  have hs:=hgt_snoc r k hc
  have h1:=hgt_pre h hl (k+1)
  rw [hs]at h1
  refine Run.RW ?_
  rw [<- hs]
  refine Run.RW ?_
  exact Run.j (ih (k+1) om mz)
 ·intro hc
  have hc:k=r.length:=by simp at hc;omega
  subst hc
  rw [tkL]
  refine Run.x ?_
  refine Run.R ?_
  refine Run.r [2] ?_
  exact⟨rfl,rfl⟩
def posA (r:LI):Bool:=r.any fun x=>decide (0 < x)
def negA (r:LI):Bool:=r.any fun x=>decide (x < 0)
def sgnR (r:LI):Int:=bif posA r && !negA r then 1 else bif negA r && !posA r then -1 else 0
theorem any_snoc (p:Int->Bool) (w:LI) (i:Nat) (h:i < w.length):(w.take (i+1)).any p=((w.take i).any p || p (w.getD i 0)):=by
 rw [<- take_snoc 0 w i h];simp
theorem sgnR_one {r:LI}:sgnR r=1↔posA r=true/\negA r=false:=by
 unfold sgnR;cases posA r<;>cases negA r<;>simp
theorem sgnR_pos {r:LI}:sgnR r<=0↔¬sgnR r=1:=by
 unfold sgnR;cases posA r<;>cases negA r<;>simp
theorem c_impl_RootSign (r:LI):FunA B 40 [.sl false .int r] (fun rs o=>rs=[.int .i64 (sgnR r)]/\o=[]):=by
 refine wk Tryz.call40 Tryz.func40 rfl Tryz.ntmps40 fun C hC hP hT hfn hpin hfin hX=>wW ?_
 refine Run.len 0 rfl (fun hl=>?_)
 refine Run.R ?_
 refine Run.R ?_
 refine Run.R ?_
 refine Run.loopI (X:=Nat) (fun k=>⟨36,[(0,true,.v (.sl false .int r)),(2,true,.v (.int .i64 0)),(3,true,.v (.bool ((posA (r.take k))))),(4,true,.v (.bool ((negA (r.take k))))),(7,true,.v (.sl false .int r)),(8,true,.v (.int .i64 (r.length))),(9,true,.v (.int .i64 k))],[]⟩) (fun k=>k<=r.length) (fun k=>r.length - k) (0) (nz0 _) ?_ ?_
 ·exact Le.s
 rintro k hk ih
 try simp only []
 refine Run.R ?_
 refine Run.c ?_ ?_
 ·intro hc
  have hc:k < r.length:=by simpa using hc
  have h1:posA (r.take (k+1))=(posA (r.take k) || decide (0 < r.getD k 0)):=any_snoc _ r k hc
  have h2:negA (r.take (k+1))=(negA (r.take k) || decide (r.getD k 0 < 0)):=any_snoc _ r k hc
  refine Run.R ?_
  refine Run.R ?_
  refine Run.R ?_
  refine Run.RW ?_
  refine Run.le ?_ (ih (k+1) om om)
  exact Le.sub (by rfl) (by rw [h1,h2];simp only [AW7,simprocAttr];simp)
 ·intro hc
  have hc:k=r.length:=by simp at hc;omega
  subst hc
  rw [tkL]
  refine Run.x ?_
  refine Run.R ?_
  refine Run.c ?_ ?_
  ·intro h1
   have h1:posA r=true/\negA r=false:=by revert h1;cases posA r<;>cases negA r<;>simp
   refine Run.R ?_
   refine Run.r [2] ?_
   exact⟨by rw [sgnR_one.2 h1],rfl⟩
  ·intro h1
   refine Run.R ?_
   refine Run.c ?_ ?_
   ·intro h2
    refine Run.R ?_
    refine Run.r [2] ?_
    refine⟨?_,rfl⟩
    revert h1 h2
    unfold sgnR
    cases posA r<;>cases negA r<;>simp
   ·intro h2
    refine Run.R ?_
    refine Run.r [2] ?_
    refine⟨?_,rfl⟩
    revert h1 h2
    unfold sgnR
    cases posA r<;>cases negA r<;>simp
theorem c_spec_RootSign (r:LI):FunA B 59 [.sl false .int r] (fun rs o=>rs=[.int .i64 (sgnR r)]/\o=[]):=by
 refine wk Tryz.call59 Tryz.func59 rfl Tryz.ntmps59 fun C hC hP hT hfn hpin hfin hX=>wW ?_
 refine Run.len 0 rfl (fun hl=>?_)
 refine Run.R ?_
 refine Run.R ?_
 refine Run.R ?_
 refine Run.R ?_
 refine Run.loopI (X:=Nat) (fun k=>⟨32,[(0,true,.v (.sl false .int r)),(2,true,.v (.int .i64 0)),(3,true,.v (.bool ((posA (r.take k))))),(4,true,.v (.bool ((negA (r.take k))))),(5,true,.v (.int .i64 k))],[]⟩) (fun k=>k<=r.length) (fun k=>r.length - k) (0) (nz0 _) ?_ ?_
 ·exact Le.s
 rintro k hk ih
 try simp only []
 refine Run.R ?_
 refine Run.c ?_ ?_
 ·intro hc
  have hc:k < r.length:=by simpa using hc
  have h1:posA (r.take (k+1))=(posA (r.take k) || decide (0 < r.getD k 0)):=any_snoc _ r k hc
  have h2:negA (r.take (k+1))=(negA (r.take k) || decide (r.getD k 0 < 0)):=any_snoc _ r k hc
  refine Run.R ?_
  refine Run.R ?_
  refine Run.RW ?_
  refine Run.le ?_ (ih (k+1) om om)
  exact Le.sub (by rfl) (by rw [h1,h2];simp only [AW7,simprocAttr];simp)
 ·intro hc
  have hc:k=r.length:=by simp at hc;omega
  subst hc
  rw [tkL]
  refine Run.x ?_
  refine Run.R ?_
  refine Run.c ?_ ?_
  ·intro h1
   refine Run.R ?_
   refine Run.r [2] ?_
   refine⟨?_,rfl⟩
   revert h1
   unfold sgnR
   cases posA r<;>cases negA r<;>simp
  ·intro h1
   refine Run.R ?_
   refine Run.c ?_ ?_
   ·intro h2
    refine Run.R ?_
    refine Run.r [2] ?_
    refine⟨?_,rfl⟩
    revert h1 h2
    unfold sgnR
    cases posA r<;>cases negA r<;>simp
   ·intro h2
    refine Run.R ?_
    refine Run.r [2] ?_
    refine⟨?_,rfl⟩
    revert h1 h2
    unfold sgnR
    cases posA r<;>cases negA r<;>simp
theorem dot_append:∀(a b x y:LI),a.length=x.length->dotL (a ++ b) (x ++ y)=dotL a x+dotL b y
 | [],b,[],y,_=>by simp [dotL]
 | p :: a,b,q :: x,y,h=>by simp [dotL,dot_append a b x y (by simpa using h)];omega
theorem dot_snoc (a r:LI) (k:Nat) (ha:k < a.length) (hr:k < r.length):dotL (a.take (k+1)) (r.take (k+1))=dotL (a.take k) (r.take k)+a.getD k 0*r.getD k 0:=by
 rw [<- take_snoc 0 a k ha,<- take_snoc 0 r k hr,dot_append _ _ _ _ (by simp;omega)]
 simp [dotL]
theorem mul3 {a x M:Int} (ha:-3<=a/\a<=3) (hx:-M<=x/\x<=M):-(3*M)<=a*x/\a*x<=3*M:=by
 have:a = -3\/a = -2\/a = -1\/a=0\/a=1\/a=2\/a=3:=by omega
 rcases this with rfl | rfl | rfl | rfl | rfl | rfl | rfl<;>omega
theorem dot_pre {a r:LI} {M:Int} (ha:Bnd 3 a) (hr:Bnd M r) (hl:a.length=r.length) (hM:0<=M):∀ k,k<=r.length->-(3*M*k)<=dotL (a.take k) (r.take k)/\dotL (a.take k) (r.take k)<=3*M*k
 | 0,_=>by simp [dotL]
 | k+1,h=>by
  have ih:=dot_pre ha hr hl hM k om
  rw [dot_snoc a r k om om]
  have:=mul3 (ha.get (k:=k) om) (hr.get (k:=k) om)
  have e:3*M*((k+1:Nat):Int)=3*M*k+3*M:=by push_cast;grind
  rw [e];omega
theorem dot_le {a r:LI} {M:Int} (ha:Bnd 3 a) (hr:Bnd M r) (hl:a.length=r.length) (h4:r.length<=4) (hM:0<=M) (k:Nat) (hk:k<=r.length):-(12*M)<=dotL (a.take k) (r.take k)/\dotL (a.take k) (r.take k)<=12*M:=by
 have h1:=dot_pre ha hr hl hM k hk
 have h2:3*M*(k:Int)<=12*M:=by
  have:(3*M)*(k:Int)<=(3*M)*4:=Int.mul_le_mul_of_nonneg_left om om
  omega
 omega
theorem row_bnd {c:LL} (hc:CartanP c) {i:Nat} (hi:i < c.length):Bnd 3 (c.getD i [])/\(c.getD i []).length=c.length:=by
 have hl:=hc.2.2.1 i hi
 refine⟨fun x hx=>?_,hl⟩
 obtain⟨k,hk,rfl⟩:=List.getElem_of_mem hx
 have:=ent_le hc i k hi om
 have e:ent c i k=(c.getD i [])[k]:=by unfold ent;generalize c.getD i []=q at hk;simp [hk]
 rw [e]at this
 omega
theorem c_impl_pairing (a r:LI) (ha:Bnd 3 a) (hr:Bnd 100000000000000000 r) (hl:a.length=r.length) (h4:r.length<=4):FunA B 120 [.sl false .int a,.sl false .int r] (fun rs o=>rs=[.int .i64 (dotL a r)]/\o=[]):=by
 refine wk Tryz.call120 Tryz.func120 rfl Tryz.ntmps120 fun C hC hP hT hfn hpin hfin hX=>wW ?_
 refine Run.R ?_
 refine Run.R ?_
 refine Run.R ?_
 refine Run.loopI (X:=Nat) (fun k=>⟨25,[(0,true,.v (.sl false .int a)),(1,true,.v (.sl false .int r)),(4,true,.v (.int .i64 0)),(5,true,.v (.int .i64 ((dotL (a.take k) (r.take k))))),(8,true,.v (.sl false .int r)),(9,true,.v (.int .i64 (r.length))),(10,true,.v (.int .i64 k))],[]⟩) (fun k=>k<=r.length) (fun k=>r.length - k) (0) (nz0 _) ?_ ?_
 ·exact Le.s
 rintro k hk ih
 try simp only []
 refine Run.R ?_
 refine Run.c ?_ ?_
 ·intro hc
  have hc:k < r.length:=by simpa using hc
  have hs:=dot_snoc a r k om hc
  have h0:=dot_le ha hr hl h4 om k hk
  have h1:=dot_le ha hr hl h4 om (k+1) om
  have h2:=mul3 (ha.get (k:=k) om) (hr.get hc)
  rw [hs]at h1
  refine Run.R ?_
  refine Run.RW ?_
  rw [<- hs]
  refine Run.RW ?_
  exact Run.j (ih (k+1) om mz)
 ·intro hc
  have hc:k=r.length:=by simp at hc;omega
  subst hc
  rw [tkL,List.take_of_length_le om]
  refine Run.x ?_
  refine Run.R ?_
  refine Run.r [4] ?_
  exact⟨rfl,rfl⟩
theorem mir_len (c:LL) (i:Int) (r:LI):(mirL c i r).length=r.length:=by simp [mirL]
theorem mir_bnd {c:LL} (hc:CartanP c) {i:Int} (hi:0<=i/\i < c.length) {r:LI} (hl:r.length=c.length) {M:Int} (hM:0<=M) (hr:Bnd M r):Bnd (13*M) (mirL c i r):=by
 intro x hx
 unfold mirL at hx
 rcases List.mem_or_eq_of_mem_set hx with h | h
 ·have:=hr x h;omega
 ·obtain⟨h1,h2⟩:=row_bnd hc (i:=i.toNat) om
  have h3:=dot_le h1 hr om (by have:=hc.2.1;omega) hM r.length (Nat.le_refl _)
  rw [tkL,List.take_of_length_le om]at h3
  have h4:=hr.get (k:=i.toNat) om
  rw [h];omega
theorem c_impl_mirrored (c:LL) (i:Int) (r:LI) (hc:CartanP c) (hi:0<=i/\i < c.length) (hl:r.length=c.length) (hr:Bnd 100000000000000000 r) :
  FunA B 72 [.sl false (.row false) c,.int .i64 i,.sl false .int r] (fun rs o=>rs=[.own 0 0]/\o=[.arr .int (mirL c i r) 0 true]):=by
 have hn:=hc.2.1
 obtain⟨b1,b2⟩:=row_bnd hc (i:=i.toNat) om
 have h3:=dot_le b1 hr om om om r.length (Nat.le_refl _)
 rw [tkL,List.take_of_length_le om]at h3
 have h4:=hr.get (k:=i.toNat) om
 refine wk Tryz.call72 Tryz.func72 rfl Tryz.ntmps72 fun C hC hP hT hfn hpin hfin hX=>wW ?_
 refine Run.R ?_
 refine Run.R ?_
 refine Run.k [0,1,2,6,7] [0] ?_
 refine Run.nq ?_;refine Run.regionD hC true [0,1,2,3,4,5,6,7,8,9,10,11,12] (by kernel_rfl) (fun K hK=>?_);simp(disch:=omega) only [wrap_id,AW7,simprocAttr,hX];(repeat(with_reducible refine And.intro ?_ ?_);exact vc0)
 refine FunA.callD hP hT (c_impl_pairing (c.getD i.toNat []) r b1 hr om om) (by simp only [AW7,simprocAttr]) ?_
 rintro rs o ⟨rfl,rfl⟩
 simp(disch:=omega) only [wrap_id,AW7,simprocAttr,hX]
 (repeat(with_reducible refine And.intro ?_ ?_);exact vc0)
 refine wE ?_;clear hK K
 refine Run.R ?_
 refine Run.k [6] [0] ?_
 refine Run.r [6] ?_
 exact⟨rfl,rfl⟩
theorem c_spec_l7Reflect (c:LL) (i:Int) (r:LI) (hc:CartanP c) (hi:0<=i/\i < c.length) (hl:r.length=c.length) (hr:Bnd 100000000000000000 r) :
  FunA B 81 [.sl false (.row false) c,.int .i64 i,.sl false .int r] (fun rs o=>rs=[.own 0 0]/\o=[.arr .int (mirL c i r) 0 true]):=by
 have hn:=hc.2.1
 obtain⟨b1,b2⟩:=row_bnd hc (i:=i.toNat) om
 have h3:=dot_le b1 hr om om om r.length (Nat.le_refl _)
 rw [tkL,List.take_of_length_le om]at h3
 have h4:=hr.get (k:=i.toNat) om
 refine wk Tryz.call81 Tryz.func81 rfl Tryz.ntmps81 fun C hC hP hT hfn hpin hfin hX=>wW ?_
 refine Run.R ?_
 refine Run.R ?_
 refine Run.R ?_
 refine Run.R ?_
 refine Run.k [0,1,2,6,7,8,9] [0] ?_
 refine Run.loopI (X:=Nat) (fun k=>⟨43,[(0,true,.v (.sl false (.row false) c)),(1,true,.v (.int .i64 i)),(2,true,.v (.sl false .int r)),(6,true,.v (.nils)),(7,true,.v (.own 0 0)),(8,true,.v (.int .i64 ((dotL ((c.getD i.toNat []).take k) (r.take k))))),(9,true,.v (.int .i64 k))],[.arr .int (r) 0 true]⟩) (fun k=>k<=r.length) (fun k=>r.length - k) (0) (nz0 _) ?_ ?_
 ·exact Le.s
 rintro k hk ih
 try simp only []
 refine Run.R ?_
 refine Run.c ?_ ?_
 ·intro h
  have h:k < r.length:=by simpa using h
  have hs:=dot_snoc (c.getD i.toNat []) r k om h
  have h0:=dot_le b1 hr om om om k hk
  have h1:=dot_le b1 hr om om om (k+1) om
  have h2:=mul3 (b1.get (k:=k) om) (hr.get h)
  rw [hs]at h1
  refine Run.nq ?_;refine Run.regionD hC true [0,1,2,3,4,5,6,7,8,9,10,11,12,13,14] (by kernel_rfl) (fun K hK=>?_);simp(disch:=omega) only [wrap_id,AW7,simprocAttr,hX];(repeat(with_reducible refine And.intro ?_ ?_);exact vc0)
  refine wE ?_;clear hK K
  rw [<- hs]
  refine Run.RW ?_
  exact Run.j (ih (k+1) om mz)
 ·intro h
  have h:k=r.length:=by simp at h;omega
  subst h
  rw [tkL,List.take_of_length_le om]
  refine Run.x ?_
  refine Run.RW ?_
  refine Run.R ?_
  refine Run.k [6] [0] ?_
  refine Run.r [6] ?_
  exact⟨rfl,rfl⟩
theorem c_impl_simple (n:Nat) (i:Int) (hn:n<=1048576) (hi:0<=i/\i < n):FunA B 99 [.int .i64 n,.int .i64 i] (fun rs o=>rs=[.own 0 0]/\o=[.arr .int (simL n i.toNat) 0 true]):=by
 refine wk Tryz.call99 Tryz.func99 rfl Tryz.ntmps99 fun C hC hP hT hfn hpin hfin hX=>wW ?_
 refine Run.R ?_
 refine Run.R ?_
 refine Run.R ?_
 refine Run.R ?_
 refine Run.k [4] [0] ?_
 refine Run.r [4] ?_
 exact⟨rfl,rfl⟩
theorem c_spec_SimpleRoot (c:LL) (i:Int) (hc:CartanP c) (hi:0<=i/\i < c.length):FunA B 39 [.sl false (.row false) c,.int .i64 i] (fun rs o=>rs=[.own 0 0]/\o=[.arr .int (simL c.length i.toNat) 0 true]):=by
 have hb:=isC_true hc
 have hn:=hc.2.1
 have hin:inB i 0 ((c.length:Int) - 1)=true:=inB_iff.2 om
 refine wk Tryz.call39 Tryz.func39 rfl Tryz.ntmps39 fun C hC hP hT hfn hpin hfin hX=>wW ?_
 refine Run.R ?_
 refine Run.g fun K hK=>?_
 refine FunA.cW hP hT (c_spec_IsCartan c) ?_
 rintro rs o ⟨rfl,rfl⟩
 simp only [hb]
 simp(disch:=omega) only [wrap_id,AW7,simprocAttr,hX]
 refine .inr ⟨rfl,?_⟩
 refine FunA.cW hP hT (c_spec_l1In i 0 ((c.length:Int) - 1)) ?_
 rintro rs o ⟨rfl,rfl⟩
 simp only [hin]
 refine wF ?_;clear hK K
 refine Run.c ?_ ?_
 ·intro h;cases h
 intro h
 refine Run.R ?_
 refine Run.R ?_
 refine Run.R ?_
 refine Run.k [4] [0] ?_
 refine Run.r [4] ?_
 exact⟨rfl,rfl⟩
theorem Run.join {C:Ctx} {i j:Item} {k:List Item} {σ:St} (σ':St) (h1:Run C k σ') (h2:Run C k σ'->Run C (i :: j :: k) σ):Run C (i :: j :: k) σ:=h2 h1
structure LP (c:LL) (s v0:LI) (L:Nat) (a v:LI):Prop where
 far:Far c (L - a.length) v
 le:a.length<=L
 let_:letters c.length a
 eq:lpL c s 31 v0=(a ++ (lpL c s (31 - a.length) v).1,(lpL c s (31 - a.length) v).2)
def wgtP (c:LL) (v:LI):Prop:=v.length=c.length/\∀ k,k < v.length->-1000<=v.getD k 0/\v.getD k 0<=1000
open Classical in
noncomputable def wgtB (c:LL) (v:LI):Bool:=isC c && decide (wgtP c v)
theorem wgtB_iff {c:LL} {v:LI}:wgtB c v=true↔CartanP c/\wgtP c v:=by simp [wgtB,isC_iff]
theorem c_impl_IsWeight (c:LL) (v:LI):FunA B 121 [.sl false (.row false) c,.sl false .int v] (fun rs o=>rs=[.bool (wgtB c v)]/\o=[]):=by
 refine wk Tryz.call121 Tryz.func121 rfl Tryz.ntmps121 fun C hC hP hT hfn hpin hfin hX=>wW ?_
 refine Run.len 1 rfl fun hlens=>?_
 refine Run.R ?_
 refine Run.g fun K hK=>?_
 refine FunA.e hP hT (c_impl_IsCartan c) ?_
 refine wE ?_;clear hK K
 refine Run.c ?_ ?_
 ·intro h
  have h:wgtB c v=false:=by
   unfold wgtB
   revert h
   cases hb:isC c with
   | false=>simp
   | true=>
    intro h
    simp at h
    simp [wgtP,show ¬v.length=c.length by omega]
  refine Run.R ?_
  refine Run.r [4] ?_
  rw [h];exact⟨rfl,rfl⟩
 intro h
 have hb:isC c=true:=by revert h;cases isC c<;>simp
 have hl:v.length=c.length:=by revert h;rw [hb];simp;omega
 refine Run.R ?_
 refine Run.loopI (X:=Nat) (fun k=>⟨30,[(0,true,.v (.sl false (.row false) c)),(1,true,.v (.sl false .int v)),(17,true,.v (.sl false .int v)),(18,true,.v (.int .i64 (v.length))),(19,true,.v (.int .i64 k))],[]⟩) (fun k=>k<=v.length/\∀ j,j < k->-1000<=v.getD j 0/\v.getD j 0<=1000) (fun k=>v.length - k) (0) (⟨nz0 _,by omega⟩) ?_ ?_
 ·exact Le.s
 rintro k ⟨hk,hp⟩ ih
 try simp only []
 refine Run.R ?_
 refine Run.c ?_ ?_
 ·intro h1
  have h1:k < v.length:=by simpa using h1
  refine Run.R ?_
  refine Run.R ?_
  refine Run.c ?_ ?_
  ·intro h2
   have h2:¬(-1000<=v.getD k 0/\v.getD k 0<=1000):=by
    intro h3
    rw [decide_eq_false (show ¬v.getD k 0 < -1000 by omega),decide_eq_false (show ¬1000 < v.getD k 0 by omega)]at h2
    cases h2
   refine Run.R ?_
   refine Run.r [4] ?_
   have:wgtB c v=false:=by
    cases hw:wgtB c v with
    | false=>rfl
    | true=>exact absurd ((wgtB_iff.1 hw).2.2 k h1) h2
   rw [this];exact⟨rfl,rfl⟩
  ·intro h2
   have h2:-1000<=v.getD k 0/\v.getD k 0<=1000:=by
    by_cases e1:v.getD k 0 < -1000
    ·rw [decide_eq_true e1]at h2;cases h2
    ·by_cases e2:1000 < v.getD k 0
     ·rw [decide_eq_false e1,decide_eq_true e2]at h2;cases h2
     ·omega
   have hp2:∀ j,j < k+1->-1000<=v.getD j 0/\v.getD j 0<=1000:=fun j hj=>by
    by_cases hjk:j=k
    ·subst hjk;exact h2
    ·exact hp j om
   refine Run.RW ?_
   exact Run.j (ih (k+1) (⟨by omega,hp2⟩) mz)
 ·intro h1
  have h1:k=v.length:=by simp at h1;omega
  subst h1
  refine Run.x ?_
  refine Run.R ?_
  refine Run.r [4] ?_
  rw [wgtB_iff.2 ⟨isC_iff.1 hb,hl,hp⟩];exact⟨rfl,rfl⟩
theorem c_spec_IsWeight (c:LL) (v:LI):FunA B 122 [.sl false (.row false) c,.sl false .int v] (fun rs o=>rs=[.bool (wgtB c v)]/\o=[]):=by
 refine wk Tryz.call122 Tryz.func122 rfl Tryz.ntmps122 fun C hC hP hT hfn hpin hfin hX=>wW ?_
 refine Run.len 1 rfl fun hlens=>?_
 refine Run.R ?_
 refine Run.R ?_
 refine Run.loopI (X:=Nat) (fun k=>⟨27,[(0,true,.v (.sl false (.row false) c)),(1,true,.v (.sl false .int v)),(5,true,.v (.int .i64 k))],[]⟩) (fun k=>k<=v.length/\∀ j,j < k->-1000<=v.getD j 0/\v.getD j 0<=1000) (fun k=>v.length - k) (0) (⟨nz0 _,by omega⟩) ?_ ?_
 ·exact Le.s
 rintro k ⟨hk,hp⟩ ih
 try simp only []
 refine Run.R ?_
 refine Run.c ?_ ?_
 ·intro h1
  have h1:k < v.length:=by simpa using h1
  refine Run.g fun K hK=>?_
  refine FunA.e hP hT (c_spec_l1In (v.getD k 0) (-1000) 1000) ?_
  refine wE ?_;clear hK K
  have key:=inB_iff (x:=v.getD k 0) (lo:=-1000) (hi:=1000)
  refine Run.c ?_ ?_
  ·intro h2
   have h2:¬(-1000<=v.getD k 0/\v.getD k 0<=1000):=fun h=>by rw [key.2 h]at h2;cases h2
   refine Run.R ?_
   refine Run.r [4] ?_
   have:wgtB c v=false:=by
    cases hw:wgtB c v with
    | false=>rfl
    | true=>exact absurd ((wgtB_iff.1 hw).2.2 k h1) h2
   rw [this];exact⟨rfl,rfl⟩
  ·intro h2
   have h2:-1000<=v.getD k 0/\v.getD k 0<=1000:=key.1 (by revert h2;cases inB (v.getD k 0) (-1000) 1000<;>simp)
   have hp2:∀ j,j < k+1->-1000<=v.getD j 0/\v.getD j 0<=1000:=fun j hj=>by
    by_cases hjk:j=k
    ·subst hjk;exact h2
    ·exact hp j om
   refine Run.RW ?_
   exact Run.j (ih (k+1) (⟨by omega,hp2⟩) mz)
 ·intro h1
  have h1:k=v.length:=by simp at h1;omega
  subst h1
  refine Run.x ?_
  refine Run.g fun K hK=>?_
  refine FunA.e hP hT (c_spec_IsCartan c) ?_
  refine wE ?_;clear hK K
  refine Run.r [4] ?_
  refine⟨?_,rfl⟩
  congr 2
  cases hb:isC c with
  | false=>simp [wgtB,hb]
  | true=>
   by_cases hl:v.length=c.length
   ·rw [wgtB_iff.2 ⟨isC_iff.1 hb,hl,hp⟩];simp [hl]
   ·have:wgtB c v=false:=by simp [wgtB,wgtP,hl]
    rw [this]
    simp;omega
theorem c_impl_IsRootVector (c:LL) (v:LI):FunA B 61 [.sl false (.row false) c,.sl false .int v] (fun rs o=>rs=[.bool (wgtB c v)]/\o=[]):=by
 refine wk Tryz.call61 Tryz.func61 rfl Tryz.ntmps61 fun C hC hP hT hfn hpin hfin hX=>wW ?_
 refine Run.R ?_
 refine Run.g fun K hK=>?_
 refine FunA.e hP hT (c_impl_IsWeight c v) ?_
 refine wE ?_;clear hK K
 refine Run.r [4] ?_
 exact⟨rfl,rfl⟩
theorem c_spec_IsRootVector (c:LL) (v:LI):FunA B 62 [.sl false (.row false) c,.sl false .int v] (fun rs o=>rs=[.bool (wgtB c v)]/\o=[]):=by
 refine wk Tryz.call62 Tryz.func62 rfl Tryz.ntmps62 fun C hC hP hT hfn hpin hfin hX=>wW ?_
 refine Run.R ?_
 refine Run.g fun K hK=>?_
 refine FunA.e hP hT (c_spec_IsWeight c v) ?_
 refine wE ?_;clear hK K
 refine Run.r [4] ?_
 exact⟨rfl,rfl⟩
theorem c_spec_l9Fit (c:LL) (w:LI) (hc:CartanP c) (hw:letters c.length w) (hl:w.length<=31) :
  FunA B 80 [.sl false (.row false) c,.sl false .int w] (fun rs o=>rs=[.own 0 0,.bool (decide ((redL c w).length<=15))]/\o=[.arr .int (if (redL c w).length<=15 then redL c w else []) 0 true]):=by
 obtain⟨a1,a2,a3,a4,a5⟩:=red_spec hc hw hl
 refine wk Tryz.call80 Tryz.func80 rfl Tryz.ntmps80 fun C hC hP hT hfn hpin hfin hX=>wW ?_
 refine Run.R ?_
 refine Run.g fun K hK=>?_
 refine FunA.e hP hT (c_spec_l8Normal c w hc hw hl) ?_
 refine wE ?_;clear hK K
 refine Run.R ?_
 refine Run.c ?_ ?_
 ·intro h
  have h:15 < (redL c w).length:=by simp at h;omega
  refine Run.R ?_
  refine Run.k [4,5] [1] ?_
  refine Run.r [4,5] ?_
  rw [if_neg om,decide_eq_false om];exact⟨rfl,rfl⟩
 ·intro h
  have h:(redL c w).length<=15:=by simp at h;omega
  refine Run.R ?_
  refine Run.k [4,5] [0] ?_
  refine Run.r [4,5] ?_
  rw [if_pos h,decide_eq_true h];exact⟨rfl,rfl⟩
theorem sgn_nonneg {r:LI} (h:sgnR r=1):∀ x∈r,0<=x:=by
 intro x hx
 have h1:=(sgnR_one.1 h).2
 unfold negA at h1
 rw [List.any_eq_false]at h1
 have:=h1 x hx
 simp at this
 exact this
theorem hgt_nonneg:∀ {r:LI},(∀ x∈r,0<=x)->0<=hgt r/\∀ x∈r,x<=hgt r
 | [],_=>by simp [hgt]
 | y :: r,h=>by
  obtain⟨h1,h2⟩:=hgt_nonneg (r:=r) fun x hx=>h x (mcM _ hx)
  have h0:=h y (by simp)
  refine⟨by simp only [hgt];omega,fun x hx=>?_⟩
  simp only [hgt]
  rcases List.mem_cons.1 hx with rfl | hx
  ·omega
  ·have:=h2 x hx;omega
theorem hgt_zero:∀ {r:LI},(∀ x∈r,0<=x)->hgt r=0->r=List.replicate r.length 0
 | [],_,_=>rfl
 | y :: r,h,h0=>by
  have h1:=h y (by simp)
  obtain⟨h2,_⟩:=hgt_nonneg (r:=r) fun x hx=>h x (mcM _ hx)
  simp only [hgt]at h0
  have:=hgt_zero (r:=r) (fun x hx=>h x (mcM _ hx)) om
  rw [lenC,List.replicate_succ,<- this]
  congr 1
  omega
theorem hgt_one:∀ {r:LI},(∀ x∈r,0<=x)->hgt r=1->∃ i,i < r.length/\r=simL r.length i
 | [],_,h=>by simp [hgt]at h
 | y :: r,h,h0=>by
  have h1:=h y (by simp)
  obtain⟨h2,_⟩:=hgt_nonneg (r:=r) fun x hx=>h x (mcM _ hx)
  simp only [hgt]at h0
  by_cases hy:y=1
  ·refine⟨0,by simp,?_⟩
   have:=hgt_zero (r:=r) (fun x hx=>h x (mcM _ hx)) om
   simp only [simL,lenC,List.replicate_succ,List.set_cons_zero]
   rw [<- this,hy]
  ·obtain⟨i,hi,hr⟩:=hgt_one (r:=r) (fun x hx=>h x (mcM _ hx)) om
   refine⟨i+1,by simp;omega,?_⟩
   simp only [simL,lenC,List.replicate_succ,List.set_cons_succ]
   simp only [simL]at hr
   rw [<- hr]
   congr 1
   omega
theorem hgt_rep:∀ n,hgt (List.replicate n 0)=0
 | 0=>rfl
 | n+1=>by rw [List.replicate_succ,hgt,hgt_rep n];rfl
theorem hgt_sim:∀(n i:Nat),i < n->hgt (simL n i)=1
 | 0,i,h=>by omega
 | n+1,0,_=>by simp only [simL,List.replicate_succ,List.set_cons_zero,hgt,hgt_rep];rfl
 | n+1,i+1,h=>by
  have:=hgt_sim n i om
  simp only [simL]at this
  simp only [simL,List.replicate_succ,List.set_cons_succ,hgt,this];rfl
theorem simL_get (n i k:Nat) (hi:i < n):(simL n i).getD k 0=if k=i then 1 else 0:=by
 unfold simL
 by_cases hk:k < n
 ·rw [gdE,List.getElem?_set]
  by_cases h:i=k
  ·subst h;simp [hi]
  ·simp [h,Ne.symm h,hk]
 ·rw [gdE,geN (by simp;omega),if_neg om];rfl
theorem simL_len (n i:Nat):(simL n i).length=n:=by simp [simL]
theorem simL_inj {n i j:Nat} (hi:i < n) (hj:j < n) (h:simL n i=simL n j):i=j:=by
 have h1:=simL_get n i i hi
 have h2:=simL_get n j i hj
 rw [h]at h1
 rw [h1,if_pos rfl]at h2
 by_cases hij:i=j
 ·exact hij
 ·rw [if_neg hij]at h2;cases h2
theorem idx_sim (n i:Nat) (hi:i < n):idxN (simL n i) 1 (simL n i).length=i:=by
 have h1:∀ m,m<=i->idxN (simL n i) 1 m = -1:=by
  intro m hm
  induction m with
  | zero=>rfl
  | succ m ih=>
   simp only [idxN]
   rw [ih om,if_pos om,simL_get n i m hi,if_neg om]
 have h2:idxN (simL n i) 1 (i+1)=i:=by
  simp only [idxN]
  rw [h1 i (Nat.le_refl _),if_pos om,simL_get n i i hi,if_pos rfl,if_pos rfl]
 rw [idxN_more (simL n i) 1 (i+1) _ (by rw [simL_len];omega) (by rw [h2];omega),h2]
def lowI (c:LL) (r:LI):Option Nat:=(List.range c.length).find? fun i=>decide (hgt (mirL c i r) < hgt r)
def simI (c:LL) (r:LI):Option Nat:=(List.range c.length).find? fun i=>r == simL c.length i
def rflP (c:LL):Nat->List Int->List Int->Option (List Int×Nat)
 | k,r,p=>match simI c r with
  | some i=>some (p,i)
  | none=>match k with
   | 0=>none
   | k+1=>match lowI c r with
    | none=>none
    | some i=>if sgnR (mirL c i r)=1 then rflP c k (mirL c i r) (p ++ [(i:Int)])else none
noncomputable def rflO (c:LL) (r:LI):Option (List Int×Nat):=if wgtB c r && (sgnR r == 1)then rflP c 7 r []else none
def rflL (c:LL):Option (List Int×Nat)->List Int
 | some (p,i)=>redL c (p ++ [(i:Int)] ++ p.reverse)
 | none=>[]
noncomputable def rflB (c:LL) (r:LI):Bool:=(rflO c r).isSome && decide ((rflL c (rflO c r)).length<=15)
noncomputable def rflX (c:LL) (r:LI):List Int:=if rflB c r then rflL c (rflO c r)else []
theorem rflX_le (c:LL) (r:LI):(rflX c r).length<=15:=by
 unfold rflX
 split
 ·rename_i h
  simp only [rflB,bAnd,dtE]at h
  exact h.2
 ·simp
theorem find_some {n:Nat} {p:Nat->Bool} {i:Nat} (hi:i < n) (h:p i=true) (hj:∀ j,j < i->p j=false):(List.range n).find? p=some i:=by
 rw [List.find?_range_eq_some]
 exact⟨h,by simpa using hi,fun j hj'=>by simp [hj j hj']⟩
theorem find_none {n:Nat} {p:Nat->Bool} (hj:∀ j,j < n->p j=false):(List.range n).find? p=none:=by
 rw [List.find?_range_eq_none]
 exact fun j hj'=>by simp [hj j hj']
theorem find_some' {n:Nat} {p:Nat->Bool} {i:Nat} (h:(List.range n).find? p=some i):i < n/\p i=true/\∀ j,j < i->p j=false:=by
 rw [List.find?_range_eq_some]at h
 obtain⟨h1,h2,h3⟩:=h
 exact⟨by simpa using h2,h1,fun j hj=>by simpa using h3 j hj⟩
theorem rflP_sim {c:LL} {r:LI} {i:Nat} (h:simI c r=some i) (k:Nat) (p:LI):rflP c k r p=some (p,i):=by
 rw [rflP.eq_def];simp only [h]
theorem rflP_zero {c:LL} {r:LI} (h:simI c r=none) (p:LI):rflP c 0 r p=none:=by
 rw [rflP.eq_def];simp only [h]
theorem rflP_stop {c:LL} {r:LI} (h:simI c r=none) (hl:lowI c r=none) (k:Nat) (p:LI):rflP c k r p=none:=by
 rw [rflP.eq_def];simp only [h];cases k<;>simp only [hl]
theorem rflP_step {c:LL} {r:LI} (h:simI c r=none) {i:Nat} (hl:lowI c r=some i) (k:Nat) (p:LI):rflP c (k+1) r p=if sgnR (mirL c i r)=1 then rflP c k (mirL c i r) (p ++ [(i:Int)])else none:=by
 rw [rflP.eq_def];simp only [h,hl]
structure Dn (c:LL) (r:LI):Prop where
 len:r.length=c.length
 sgn:sgnR r=1
 hgt:hgt r<=4000
theorem Dn.bnd {c:LL} {r:LI} (h:Dn c r):Bnd 4000 r:=fun x hx=>by
 have h1:=sgn_nonneg h.sgn
 have:=h1 x hx
 have:=(hgt_nonneg h1).2 x hx
 have:=h.hgt
 omega
theorem Dn.next {c:LL} {r:LI} (h:Dn c r) {i:Nat} (hi:lowI c r=some i) (hs:sgnR (mirL c i r)=1):Dn c (mirL c i r):=by
 have h1:=(find_some' hi).2.1
 have:=h.hgt
 have h2:Go.Proofs.YtcinngodeoidnaaGreat.hgt (mirL c i r) < Go.Proofs.YtcinngodeoidnaaGreat.hgt r:=by simpa using h1
 exact⟨by rw [mir_len];exact h.len,hs,by omega⟩
theorem Dn.start {c:LL} {r:LI} (hc:CartanP c) (hw:wgtP c r) (hs:sgnR r=1):Dn c r:=by
 refine⟨hw.1,hs,?_⟩
 have hb:Bnd 1000 r:=by
  intro x hx
  obtain⟨k,hk,rfl⟩:=List.getElem_of_mem hx
  have:=hw.2 k hk
  rwa [show r.getD k 0=r[k]from by simp [hk]]at this
 have h1:=(hgt_bnd hb).2
 have:=hw.1
 have:=hc.2.1
 omega
theorem Dn.one {c:LL} {r:LI} (h:Dn c r) (h1:Go.Proofs.YtcinngodeoidnaaGreat.hgt r=1):∃ i,i < c.length/\r=simL c.length i/\simI c r=some i:=by
 obtain⟨i,hi,hr⟩:=hgt_one (sgn_nonneg h.sgn) h1
 rw [h.len]at hi hr
 refine⟨i,hi,hr,find_some hi (by simpa using hr) fun j hj=>?_⟩
 cases hq:(r == simL c.length j) with
 | false=>rfl
 | true=>
  have hq:r=simL c.length j:=by simpa using hq
  have:=simL_inj hi (Nat.lt_trans hj hi) (hr.symm.trans hq)
  omega
theorem Dn.notone {c:LL} {r:LI} (h1:¬Go.Proofs.YtcinngodeoidnaaGreat.hgt r=1):simI c r=none:=find_none fun j hj=>by
 cases hq:(r == simL c.length j) with
 | false=>rfl
 | true=>
  have hq:r=simL c.length j:=by simpa using hq
  rw [hq,hgt_sim _ _ hj]at h1
  exact absurd rfl h1
def lowR (c:LL) (r:LI):List Int:=match lowI c r with
 | some i=>mirL c i r
 | none=>[]
def lowP (c:LL) (r p:LI):List Int:=match lowI c r with
 | some i=>p ++ [(i:Int)]
 | none=>p
theorem world_grow {w w':World} (h1:w'.os=w.os) (h2:w'.tape=w.tape) (h3:w'.output=w.output) (h4:w.drawn<=w'.drawn) (h5:w.heap.size<=w'.heap.size) (h6:∀ b,b < w.heap.size->w'.heap[b]? = w.heap[b]?) :
  w'=Go.Sort.grow (w.drewN (w'.drawn - w.drawn)) (w'.heap.extract w.heap.size w'.heap.size):=by
 have hh:w'.heap=w.heap ++ w'.heap.extract w.heap.size w'.heap.size:=by
  apply Array.ext_getElem?
  intro i
  rw [Array.getElem?_append]
  split
  ·rename_i hi;exact h6 i hi
  ·rename_i hi
   rw [Array.getElem?_extract]
   split
   ·congr 1;omega
   ·rename_i h;rw [Array.getElem?_eq_none];omega
 have hd:w.drawn+(w'.drawn - w.drawn)=w'.drawn:=by omega
 unfold Go.Sort.grow World.drewN
 obtain⟨H',t',d',o',u'⟩:=w'
 simp only at h1 h2 h3 hh hd ⊢
 subst h1 h2 h3
 rw [<- hh,hd]
theorem sw_heap {α:Type} [Inhabited α] (enc:α->Value) (w:World) (blk off m:Nat) (d:Array α) (os:Array Obj) (b:Nat) (hb:b < w.heap.size) :
  (sortWorld enc w blk off m d os).heap[b]? = if b=blk then(w.heap[b]?).map (Go.Sort.onCells (Go.Sort.putCells enc off d))else w.heap[b]?:=by
 show((w.heap.modify blk (Go.Sort.onCells (Go.Sort.putCells enc off d))) ++ os)[b]? = _
 rw [Array.getElem?_append,if_pos (by simpa using hb),Array.getElem?_modify]
 by_cases h:b=blk
 ·rw [if_pos h,if_pos h.symm]
 ·rw [if_neg h,if_neg (Ne.symm h)]
theorem sw_size {α:Type} [Inhabited α] (enc:α->Value) (w:World) (blk off m:Nat) (d:Array α) (os:Array Obj):w.heap.size<=(sortWorld enc w blk off m d os).heap.size:=by
 show _<=((w.heap.modify blk (Go.Sort.onCells (Go.Sort.putCells enc off d))) ++ os).size
 simp
theorem ACall.sort {B C:Ctx} [DrT B] (hP:B.P=C.P) (hT:B.tid=C.tid) {ρs:Go.Shelf.Ren} (L:SlLaysF.n6 B.P ρs) {f g:FuncId} (hf:ρs.f 6=f) {cf:List Int->List Int->Int} (hO:Go.Sort.SWO (ltOf cf)) {obs:List O} (id gg:Nat) {ys:List (Nat×List Int)}
  (ho:oAt obs id=.arr .lrow ys gg true) (hyb:ys.length<=1048576) (hcmp:∀ a b,(a=[]\/a∈ys.map (·.2))->(b=[]\/b∈ys.map (·.2))->FunA B g [.sl false .int a,.sl false .int b] (fun rs o=>rs=[.int .i64 (cf a b)]/\o=[])) {K:Sl->List O->Prop}
  (hk:∀ ys',ys'.Perm ys->ys'.Pairwise (fun p q=>¬cf q.2 p.2 < 0)->K (.t []) (oSet obs id (.arr .lrow ys' gg true))):ACall C obs f [.own id gg,.fn g] fun x o=>Later (K x o):=by
 refine⟨fun vs w=>by rw [<- hP,<- hf];exact L.f6.enters rfl vs w,fun w ρ vs rr hl hx=>?_⟩
 have hid:id < obs.length:=by
  rcases Nat.lt_or_ge id obs.length with h | h
  ·exact h
  ·rw [oAt_eq,geN h]at ho;cases ho
 have ho':obs[id]? = some (.arr .lrow ys gg true):=by rw [oAt_get hid,ho]
 match vs,hl with
 | [u1,u2],_=>
 have a1:=hx 0 _ u1 rfl rfl
 have a2:u2=.func (.func g) #[] #[]:=hx 1 _ u2 rfl rfl
 obtain⟨_,a1⟩:=(show AVRel (C.V w obs ρ) obs ρ (.own id gg) u1 from a1)
 have hu1:u1=ρ id:=(a1 gg (by unfold genOf;rw [ho'];rfl)).2 rfl
 obtain⟨cs,hown,henc,hnn,hml⟩:=rr.os id _ ho'
 have hcl:cs.length=ys.length:=by simpa [E.size] using henc.1
 rcases hown.2 with⟨hv,_⟩ | ⟨b,cap,cur,hv,_,hg,h1,h2,h3,h4⟩
 ·exact(hnn rfl hv).elim
 have hrow:∀ i (hi:i < ys.length),∃ u,cs[i]? = some u/\LRowRel (C.V w obs ρ) ys[i].1 ys[i].2 u:=by
  intro i hi
  obtain⟨u,hu,hc⟩:=henc.2 i hi
  have hu':LRowRel (C.V w obs ρ) ys[i].1 ys[i].2 u:=hu
  have hc0:=hc 0 (by simp [E.size])
  simp only [E.size,Nat.mul_one,Nat.add_zero]at hc0
  refine⟨u,?_,hu'⟩
  rw [hc0,cells_oneCell hu'.oneCell]
  rfl
 have hob:Own obs ρ b:=⟨id,_,ho',by simp [fpo,hv,Value.ownBlock]⟩
 let nil:Value:=.slice none 0 0
 let enc:Fin (ys.length+1)->Value:=fun i=>cs.getD i.1 nil
 let row:Fin (ys.length+1)->List Int:=fun i=>(ys.map (·.2)).getD i.1 []
 let cf':Fin (ys.length+1)->Fin (ys.length+1)->Int:=fun i j=>cf (row i) (row j)
 let d:Array (Fin (ys.length+1)):=Array.ofFn fun i:Fin ys.length=>i.castSucc
 have hds:d.size=ys.length:=Array.size_ofFn
 have hd:∀ j,j < ys.length->(d[j]!).1=j:=fun j hj=>by
  rw [getElem!_pos d j (by rw [hds];exact hj)]
  simp [d]
 have henc':∀ i:Fin (ys.length+1),(∃ h:i.1 < ys.length,cs[i.1]? = some (enc i)/\row i=ys[i.1].2/\LRowRel (C.V w obs ρ) ys[i.1].1 (row i) (enc i))\/(enc i=nil/\row i=[]):=by
  intro i
  by_cases hi:i.1 < ys.length
  ·obtain⟨u,hu,hr⟩:=hrow i.1 hi
   have e1:enc i=u:=by show cs.getD i.1 nil=u;simp [List.getD,hu]
   have e2:row i=ys[i.1].2:=by show(ys.map (·.2)).getD i.1 []=_;simp [List.getD,hi]
   exact .inl ⟨hi,by rw [e1];exact hu,e2,by rw [e1,e2];exact hr⟩
  ·right
   exact⟨by show cs.getD i.1 nil=nil;simp [List.getD,geN (by omega:cs.length<=i.1)],by show(ys.map (·.2)).getD i.1 []=[];simp [List.getD,geN (by simp;omega:(ys.map (·.2)).length<=i.1)]⟩
 have hone:OneCell enc:=fun i=>by
  rcases henc' i with⟨_,_,_,h⟩ | ⟨h,_⟩
  ·exact h.oneCell
  ·rw [h];rfl
 have hmem:∀ i,row i=[]\/row i∈ys.map (·.2):=fun i=>by
  rcases henc' i with⟨h,_,h2,_⟩ | ⟨_,h⟩
  ·right;rw [h2];exact List.mem_map.2 ⟨_,List.getElem_mem h,rfl⟩
  ·exact .inl h
 have hblk:b < w.heap.size:=(ageS.1 hg).1
 have hcc:∀ i,i < ys.length->cur[i]? = cs[i]?:=fun i hi=>by
  rw [<- h4]
  simp only [E.size,Nat.mul_one]
  rw [List.getElem?_take_of_lt hi]
  simp
 have hH:Go.Sort.Holds enc w b 0 d:=fun j hj=>by
  rw [hds]at hj
  refine⟨?_,?_⟩
  ·have hj':=hd j hj
   simp only [World.cell?,hg,Nat.zero_add]
   show cur[j]? = some (enc d[j]!)
   rw [hcc j hj]
   rcases henc' (d[j]!) with⟨_,h,_⟩ | ⟨h,_⟩
   ·rw [hj']at h;exact h
   ·have:enc d[j]! = cs.getD j nil:=by show cs.getD (d[j]!).1 nil=_;rw [hj']
    rw [this]
    simp [List.getD,geE (by omega:j < cs.length)]
  ·simp [World.frozen?,hg]
 have hvis:∀ l o,(C.V w obs ρ).H l=some o->l≠b/\w.heap[l]? = some o:=fun l o h=>by
  obtain⟨k1,k2⟩:=H_vis h
  exact⟨fun e=>k1 (e▸hob),k2⟩
 have hC:CmpLays1 B.P g #[] enc cf' b 0 d.size w:=by
  intro m os dk _ x y
  have hrel:∀ z,AVRel ((B.bareL (sortWorld enc w b 0 m dk os) (fun _=>False)).V (sortWorld enc w b 0 m dk os) [] (fun _=>undef)) [] (fun _=>undef) (.sl false .int (row z)) (enc z):=fun z=>by
   rcases henc' z with⟨_,_,_,cap,cur,hv,_,hH,hc⟩ | ⟨hz,hr⟩
   ·obtain⟨k1,k2⟩:=hvis _ _ hH
    have k3:=sw_heap enc w b 0 m dk os _ (ageS.1 k2).1
    rw [if_neg k1,k2]at k3
    have hl:LRowRel ((B.bareL (sortWorld enc w b 0 m dk os) (fun _=>True)).V (sortWorld enc w b 0 m dk os) [] (fun _=>undef)) _ (row z) (enc z):=
     ⟨cap,cur,hv,.inr trivial,by rw [H_bare,k3];show _=some (Obj.cells cur (B.tid .int) (0,0));rw [hT];rfl,hc⟩
    have hs:=hl.toRow.weaken.toSl
    obtain⟨base,cap',q1,q2,q3,q4⟩:=hs
    refine⟨base,cap',q1,q2,q3,fun i hi=>?_⟩
    obtain⟨a,u,r1,_,r3,r4⟩:=q4 i hi
    refine⟨a,u,r1,by simp,r3,fun j hj=>?_⟩
    have:=r4 j hj
    simpa [Vw.cell,H_bare] using this
   ·rw [hz,hr]
    exact⟨none,0,rfl,by simp,by simp,fun i hi=>by simp at hi⟩
  have key:=(hcmp (row x) (row y) (hmem x) (hmem y)).2 (sortWorld enc w b 0 m dk os) (fun _=>False) [enc x,enc y] (by rw [hP];exact rr.laid.up (fun c hc hno=>by rw [sw_heap enc w b 0 m dk os c hc,if_neg (fun e:c=b=>hno (e▸hob))]) (fun _ _ _ k=>k)) rfl (fun i a v hi hv=>by
   match i with
   | 0=>simp at hi hv;subst hi hv;exact hrel x
   | 1=>simp at hi hv;subst hi hv;exact hrel y
   | i+2=>simp at hi)
  refine key.mono fun e w' ⟨us,he,xs,obs',ρ',⟨hxs,hobs⟩,hul,hu,hw',_,_⟩=>?_
  subst hxs hobs
  match us,hul with
  | [v],_=>
  have hv:v=.int .i64 (cf (row x) (row y)):=hu 0 _ v rfl rfl
  refine⟨by rw [he,hv];rfl,_,_,world_grow hw'.os0 hw'.tape hw'.output (hw'.drawn (DrT.h (B:=B))) hw'.grow (fun b hb=>hw'.kept b hb (fun k=>k))⟩
 have hsz:d.size < 4611686018427387904:=by rw [hds];omega
 have hO':Go.Sort.SWO (ltOf cf'):=⟨fun x=>hO.irrefl _,fun x y z=>hO.trans _ _ _,fun x y z=>hO.ntrans _ _ _⟩
 have main:=Any.slices_SortFunc L enc hone cf' hO' g #[] b 0 cap d w (hcmp [] [] (.inl rfl) (.inl rfl)).1 hC hH hblk hsz
 rw [hf,hP,hds]at main
 subst a2 hu1
 rw [hv]
 refine main.mono fun e w' ⟨he,d',n,os,hperm,hsort,hw'⟩=>⟨.tuple #[],he,.t [],?_⟩
 obtain⟨hps,_,hpp⟩:=hperm
 rw [hds]at hps
 have hpl:d'.toList.Perm d.toList:=by
  have e1:d'.extract 0 ys.length=d':=(congrArg (fun k=>d'.extract 0 k) hps.symm).trans Array.extract_size
  have e2:d.extract 0 ys.length=d:=(congrArg (fun k=>d.extract 0 k) hds.symm).trans Array.extract_size
  rw [e1,e2]at hpp
  exact hpp
 have hdl:∀ x∈d'.toList,x.1 < ys.length:=fun x hx=>by
  have:=hpl.mem_iff.1 hx
  simp only [d,Array.toList_ofFn,List.mem_ofFn]at this
  obtain⟨i,rfl⟩:=this
  exact i.2
 let nth:Fin (ys.length+1)->Nat×List Int:=fun i=>ys.getD i.1 (0,[])
 have hnth:∀ i:Fin (ys.length+1),i.1 < ys.length->row i=(nth i).2:=fun i hi=>by
  show(ys.map (·.2)).getD i.1 []=(ys.getD i.1 (0,[])).2
  simp [List.getD,hi]
 let ys':=d'.toList.map nth
 have hyl:ys'.length=ys.length:=by simp [ys',hps]
 have hyp:ys'.Perm ys:=by
  have e:d.toList.map nth=ys:=by
   apply List.ext_getElem
   ·simp [hds]
   ·intro i q1 q2
    simp only [List.getElem_map,Array.getElem_toList]
    have:=hd i q2
    rw [getElem!_pos d i (by rw [hds];exact q2)]at this
    show ys.getD (d[i]'_).1 (0,[])=_
    rw [this]
    simp [List.getD,q2]
  rw [<- e]
  exact hpl.map _
 have hget:∀ i (hi:i < ys.length),d'[i]! = d'[i]'om:=fun i hi=>getElem!_pos d' i om
 have hys:ys'.Pairwise (fun p q=>¬cf q.2 p.2 < 0):=by
  refine List.pairwise_iff_getElem.2 fun i j hi hj hij=>?_
  rw [hyl]at hi hj
  have hso:=hsort i j (nz0 _) hij hj
  rw [hget i hi,hget j hj]at hso
  have hlt:¬cf (row (d'[j]'om)) (row (d'[i]'om)) < 0:=by
   have:decide (cf (row (d'[j]'om)) (row (d'[i]'om)) < 0)=false:=hso
   simpa using this
  have m1:=hdl (d'[i]'om) (by simp)
  have m2:=hdl (d'[j]'om) (by simp)
  rw [hnth _ m1,hnth _ m2]at hlt
  simpa [ys'] using hlt
 have hheap:=fun b' (hb:b' < w.heap.size)=>sw_heap enc w b 0 n d' os b' hb
 have hext:Ext (fun b'=>fpo (ρ id) (.arr .lrow ys gg true) b') w w':=by
  rw [hw']
  refine⟨rfl,rfl,rfl,sw_size ..,Nat.le_add_right _ _,fun b' hb' hS=>?_⟩
  rw [hheap b' hb',if_neg]
  intro e
  subst e
  exact hS (by simp [fpo,hv,Value.ownBlock])
 have hfb:∀ b',fpo (ρ id) (.arr .lrow ys' gg true) b'->fpo (ρ id) (.arr .lrow ys gg true) b'\/w.heap.size<=b':=fun b' hb'=>.inl hb'
 have hle:=le_one (C:=C) (o':=.arr .lrow ys' gg true) (v:=ρ id) ho' hext hfb
 have T:=Turn.one rr id (.arr .lrow ys gg true) (.arr .lrow ys' gg true) (ρ id) ho' hext (w':=w') ?_ hfb (fun c' hc=>⟨gg,rfl,.inl ⟨(by cases hc;rfl),rfl⟩⟩)
 ·have hst:=T.step rr
  refine⟨obs.set id (.arr .lrow ys' gg true),_,hst,⟨[],rfl,rfl,by simp⟩,?_⟩
  have:=hk ys' hyp hys
  rw [oSet_eq]at this
  exact this
 ·refine⟨d'.toList.map enc,⟨by simp [hps,hyl,E.size],.inr ⟨b,cap,Go.Sort.putCells enc 0 d' cur,by rw [hyl];exact hv,nz0 _,?_,by rw [hyl];exact h1,h2,by simpa [Go.Sort.putCells] using h3,?_⟩⟩,⟨by simp [hps,hyl,E.size],fun i hi=>?_⟩,fun _=>by rw [hv];simp,by rw [hyl];exact hml⟩
  ·rw [hw',hheap b hblk,if_pos rfl,hg]
   rfl
  ·rw [hyl]
   apply List.ext_getElem?
   intro i
   simp only [E.size,Nat.mul_one]
   by_cases hi:i < ys.length
   ·rw [List.getElem?_take_of_lt hi]
    have hic:i < cur.size:=by rw [h3];simp only [E.size,Nat.mul_one];omega
    have hput:(Go.Sort.putCells enc 0 d' cur)[i]? = some (enc (d'[i]'om)):=by
     unfold Go.Sort.putCells
     rw [Array.getElem?_mapIdx,Array.getElem?_eq_getElem hic]
     simp only [Option.map_some]
     rw [if_pos om,Nat.sub_zero,hget i hi]
    rw [Array.getElem?_toList,hput]
    simp [hps,hi]
   ·rw [geN (by simp;omega),geN (by simp [hps];omega)]
  ·rw [hyl]at hi
   have hm:=hdl (d'[i]'om) (by simp)
   have hyi:ys'[i]'om=nth (d'[i]'om):=by simp [ys']
   rcases henc' (d'[i]'om) with⟨q1,q2,q3,q4⟩ | ⟨q1,q2⟩
   ·refine⟨enc (d'[i]'om),?_,fun j hj=>?_⟩
    ·rw [hyi]
     show LRowRel _ (nth (d'[i]'om)).1 (nth (d'[i]'om)).2 _
     rw [<- hnth _ hm]
     have:(nth (d'[i]'om)).1=ys[(d'[i]'om).1].1:=by
      show(ys.getD _ (0,[])).1=_
      simp [List.getD,q1]
     rw [this]
     exact q4.mono hle
    ·have:j=0:=by simp [E.size]at hj;omega
     subst this
     rw [cells_oneCell (hone _)]
     simp [E.size,hps,hi]
   ·exfalso
    obtain⟨u,r1,r2⟩:=hrow (d'[i]'om).1 hm
    obtain⟨c1,c2,r3,_⟩:=r2
    have:enc (d'[i]'om)=u:=by show cs.getD _ nil=u;simp [List.getD,r1]
    rw [q1,r3]at this
    simp [nil]at this
end Go.Proofs.YtcinngodeoidnaaGreat
