/- Root vectors: sums, signs, reflections: what the functions of both sides do. -/
import Derived.Test.YtcinngodeoidnaaGreatDoorB12
set_option linter.unusedVariables false
set_option linter.unusedSimpArgs false
namespace Go.Proofs.YtcinngodeoidnaaGreatDoor
open Go Go.Aw Go.Cox
def hgt:List Int->Int
 | []=>0
 | x :: r=>x+hgt r
theorem hgt_append:∀ a b:List Int,hgt (a ++ b)=hgt a+hgt b
 | [],b=>by simp [hgt]
 | x :: a,b=>by simp [hgt,hgt_append a b];omega
theorem hgt_snoc (r:LI) (k:Nat) (h:k < r.length):hgt (r.take (k+1))=hgt (r.take k)+r.getD k 0:=by
 rw [<- take_snoc 0 r k h,hgt_append];simp [hgt]
def Bnd (M:Int) (r:LI):Prop:=∀ x∈r,-M<=x/\x<=M
theorem hgt_bnd {M:Int}:∀ {r:LI},Bnd M r->-(M*r.length)<=hgt r/\hgt r<=M*r.length
 | [],_=>by simp [hgt]
 | x :: r,h=>by
  have h1:=h x (mcS ..)
  have h2:=hgt_bnd (r:=r) (fun y hy=>h y (mcM _ hy))
  simp only [hgt,lenC]
  have e:M*((r.length+1:Nat):Int)=M*r.length+M:=by push_cast;grind
  rw [e];omega
theorem Bnd.take {M:Int} {r:LI} (h:Bnd M r) (k:Nat):Bnd M (r.take k):=fun x hx=>h x (List.mem_of_mem_take hx)
theorem Bnd.get {M:Int} {r:LI} (h:Bnd M r) {k:Nat} (hk:k < r.length):-M<=r.getD k 0/\r.getD k 0<=M:=h _ (getD_mem hk)
theorem hgt_pre {r:LI} (h:Bnd 1000000000000000000 r) (hl:r.length<=4) (k:Nat):-4000000000000000000<=hgt (r.take k)/\hgt (r.take k)<=4000000000000000000:=by
 have:=hgt_bnd (h.take k)
 have hk:(r.take k).length<=4:=by simp;omega
 omega
theorem c_spec_HeightOf (r:LI) (h:Bnd 1000000000000000000 r) (hl:r.length<=4):FunA B 150 [.sl false .int r] (fun rs o=>rs=[.int .i64 (hgt r)]/\o=[]):=by
 refine wk Tryz.call150 Tryz.func150 rfl Tryz.ntmps150 fun C hC hP hT hfn hpin hfin hX=>wW ?_
 refine Run.R ?_
 refine Run.R ?_
 refine Run.R ?_
 refine Run.loopI (X:=Nat) (fun k=>⟨18,[(0,true,.v (.sl false .int r)),(2,true,.v (.int .i64 0)),(3,true,.v (.int .i64 ((hgt (r.take k))))),(4,true,.v (.int .i64 k))],[]⟩) (fun k=>k<=r.length) (fun k=>r.length - k) (0) (nz0 _) ?_ ?_
 ·exact Le.s
 rintro k hk ih
 try simp only []
 refine Run.R ?_
 refine Run.c ?_ ?_
 ·intro hc
  have hc:k < r.length:=by simpa using hc
  have hs:=hgt_snoc r k hc
  have h1:=hgt_pre h hl (k+1)
  rw [hs]at h1
  refine Run.RW ?_
  rw [<- hs]
  refine Run.RW ?_
  exact Run.j (ih (k+1) om mz)
 ·intro hc
  have hc:k=r.length:=by simp at hc;omega
  subst hc
  rw [tkL]
  refine Run.x ?_
  refine Run.R ?_
  refine Run.r [2] ?_
  exact⟨rfl,rfl⟩
def posA (r:LI):Bool:=r.any fun x=>decide (0 < x)
def negA (r:LI):Bool:=r.any fun x=>decide (x < 0)
def sgnR (r:LI):Int:=bif posA r && !negA r then 1 else bif negA r && !posA r then -1 else 0
theorem any_snoc (p:Int->Bool) (w:LI) (i:Nat) (h:i < w.length):(w.take (i+1)).any p=((w.take i).any p || p (w.getD i 0)):=by
 rw [<- take_snoc 0 w i h];simp
theorem sgnR_one {r:LI}:sgnR r=1↔posA r=true/\negA r=false:=by
 unfold sgnR;cases posA r<;>cases negA r<;>simp
theorem c_spec_RootSign (r:LI):FunA B 149 [.sl false .int r] (fun rs o=>rs=[.int .i64 (sgnR r)]/\o=[]):=by
 refine wk Tryz.call149 Tryz.func149 rfl Tryz.ntmps149 fun C hC hP hT hfn hpin hfin hX=>wW ?_
 refine Run.len 0 rfl (fun hl=>?_)
 refine Run.R ?_
 refine Run.R ?_
 refine Run.R ?_
 refine Run.R ?_
 refine Run.loopI (X:=Nat) (fun k=>⟨32,[(0,true,.v (.sl false .int r)),(2,true,.v (.int .i64 0)),(3,true,.v (.bool ((posA (r.take k))))),(4,true,.v (.bool ((negA (r.take k))))),(5,true,.v (.int .i64 k))],[]⟩) (fun k=>k<=r.length) (fun k=>r.length - k) (0) (nz0 _) ?_ ?_
 ·exact Le.s
 rintro k hk ih
 try simp only []
 refine Run.R ?_
 refine Run.c ?_ ?_
 ·intro hc
  have hc:k < r.length:=by simpa using hc
  have h1:posA (r.take (k+1))=(posA (r.take k) || decide (0 < r.getD k 0)):=any_snoc _ r k hc
  have h2:negA (r.take (k+1))=(negA (r.take k) || decide (r.getD k 0 < 0)):=any_snoc _ r k hc
  refine Run.R ?_
  refine Run.R ?_
  refine Run.RW ?_
  refine Run.le ?_ (ih (k+1) om om)
  exact Le.sub (by rfl) (by rw [h1,h2];simp only [AW7,simprocAttr];simp)
 ·intro hc
  have hc:k=r.length:=by simp at hc;omega
  subst hc
  rw [tkL]
  refine Run.x ?_
  refine Run.R ?_
  refine Run.c ?_ ?_
  ·intro h1
   refine Run.R ?_
   refine Run.r [2] ?_
   refine⟨?_,rfl⟩
   revert h1
   unfold sgnR
   cases posA r<;>cases negA r<;>simp
  ·intro h1
   refine Run.R ?_
   refine Run.c ?_ ?_
   ·intro h2
    refine Run.R ?_
    refine Run.r [2] ?_
    refine⟨?_,rfl⟩
    revert h1 h2
    unfold sgnR
    cases posA r<;>cases negA r<;>simp
   ·intro h2
    refine Run.R ?_
    refine Run.r [2] ?_
    refine⟨?_,rfl⟩
    revert h1 h2
    unfold sgnR
    cases posA r<;>cases negA r<;>simp
theorem dot_append:∀(a b x y:LI),a.length=x.length->dotL (a ++ b) (x ++ y)=dotL a x+dotL b y
 | [],b,[],y,_=>by simp [dotL]
 | p :: a,b,q :: x,y,h=>by simp [dotL,dot_append a b x y (by simpa using h)];omega
theorem dot_snoc (a r:LI) (k:Nat) (ha:k < a.length) (hr:k < r.length):dotL (a.take (k+1)) (r.take (k+1))=dotL (a.take k) (r.take k)+a.getD k 0*r.getD k 0:=by
 rw [<- take_snoc 0 a k ha,<- take_snoc 0 r k hr,dot_append _ _ _ _ (by simp;omega)]
 simp [dotL]
theorem mul3 {a x M:Int} (ha:-3<=a/\a<=3) (hx:-M<=x/\x<=M):-(3*M)<=a*x/\a*x<=3*M:=by
 have:a = -3\/a = -2\/a = -1\/a=0\/a=1\/a=2\/a=3:=by omega
 rcases this with rfl | rfl | rfl | rfl | rfl | rfl | rfl<;>omega
theorem dot_pre {a r:LI} {M:Int} (ha:Bnd 3 a) (hr:Bnd M r) (hl:a.length=r.length) (hM:0<=M):∀ k,k<=r.length->-(3*M*k)<=dotL (a.take k) (r.take k)/\dotL (a.take k) (r.take k)<=3*M*k
 | 0,_=>by simp [dotL]
 | k+1,h=>by
  have ih:=dot_pre ha hr hl hM k om
  rw [dot_snoc a r k om om]
  have:=mul3 (ha.get (k:=k) om) (hr.get (k:=k) om)
  have e:3*M*((k+1:Nat):Int)=3*M*k+3*M:=by push_cast;grind
  rw [e];omega
theorem dot_le {a r:LI} {M:Int} (ha:Bnd 3 a) (hr:Bnd M r) (hl:a.length=r.length) (h4:r.length<=4) (hM:0<=M) (k:Nat) (hk:k<=r.length):-(12*M)<=dotL (a.take k) (r.take k)/\dotL (a.take k) (r.take k)<=12*M:=by
 have h1:=dot_pre ha hr hl hM k hk
 have h2:3*M*(k:Int)<=12*M:=by
  have:(3*M)*(k:Int)<=(3*M)*4:=Int.mul_le_mul_of_nonneg_left om om
  omega
 omega
theorem row_bnd {c:LL} (hc:CartanP c) {i:Nat} (hi:i < c.length):Bnd 3 (c.getD i [])/\(c.getD i []).length=c.length:=by
 have hl:=hc.2.2.1 i hi
 refine⟨fun x hx=>?_,hl⟩
 obtain⟨k,hk,rfl⟩:=List.getElem_of_mem hx
 have:=ent_le hc i k hi om
 have e:ent c i k=(c.getD i [])[k]:=by unfold ent;generalize c.getD i []=q at hk;simp [hk]
 rw [e]at this
 omega
theorem c_impl_pairing (a r:LI) (ha:Bnd 3 a) (hr:Bnd 100000000000000000 r) (hl:a.length=r.length) (h4:r.length<=4):FunA B 201 [.sl false .int a,.sl false .int r] (fun rs o=>rs=[.int .i64 (dotL a r)]/\o=[]):=by
 refine wk Tryz.call201 Tryz.func201 rfl Tryz.ntmps201 fun C hC hP hT hfn hpin hfin hX=>wW ?_
 refine Run.R ?_
 refine Run.R ?_
 refine Run.R ?_
 refine Run.loopI (X:=Nat) (fun k=>⟨25,[(0,true,.v (.sl false .int a)),(1,true,.v (.sl false .int r)),(4,true,.v (.int .i64 0)),(5,true,.v (.int .i64 ((dotL (a.take k) (r.take k))))),(8,true,.v (.sl false .int r)),(9,true,.v (.int .i64 (r.length))),(10,true,.v (.int .i64 k))],[]⟩) (fun k=>k<=r.length) (fun k=>r.length - k) (0) (nz0 _) ?_ ?_
 ·exact Le.s
 rintro k hk ih
 try simp only []
 refine Run.R ?_
 refine Run.c ?_ ?_
 ·intro hc
  have hc:k < r.length:=by simpa using hc
  have hs:=dot_snoc a r k om hc
  have h0:=dot_le ha hr hl h4 om k hk
  have h1:=dot_le ha hr hl h4 om (k+1) om
  have h2:=mul3 (ha.get (k:=k) om) (hr.get hc)
  rw [hs]at h1
  refine Run.R ?_
  refine Run.RW ?_
  rw [<- hs]
  refine Run.RW ?_
  exact Run.j (ih (k+1) om mz)
 ·intro hc
  have hc:k=r.length:=by simp at hc;omega
  subst hc
  rw [tkL,List.take_of_length_le om]
  refine Run.x ?_
  refine Run.R ?_
  refine Run.r [4] ?_
  exact⟨rfl,rfl⟩
theorem mir_len (c:LL) (i:Int) (r:LI):(mirL c i r).length=r.length:=by simp [mirL]
theorem mir_bnd {c:LL} (hc:CartanP c) {i:Int} (hi:0<=i/\i < c.length) {r:LI} (hl:r.length=c.length) {M:Int} (hM:0<=M) (hr:Bnd M r):Bnd (13*M) (mirL c i r):=by
 intro x hx
 unfold mirL at hx
 rcases List.mem_or_eq_of_mem_set hx with h | h
 ·have:=hr x h;omega
 ·obtain⟨h1,h2⟩:=row_bnd hc (i:=i.toNat) om
  have h3:=dot_le h1 hr om (by have:=hc.2.1;omega) hM r.length (Nat.le_refl _)
  rw [tkL,List.take_of_length_le om]at h3
  have h4:=hr.get (k:=i.toNat) om
  rw [h];omega
theorem c_impl_mirrored (c:LL) (i:Int) (r:LI) (hc:CartanP c) (hi:0<=i/\i < c.length) (hl:r.length=c.length) (hr:Bnd 100000000000000000 r) :
  FunA B 170 [.sl false (.row false) c,.int .i64 i,.sl false .int r] (fun rs o=>rs=[.own 0 0]/\o=[.arr .int (mirL c i r) 0 true]):=by
 have hn:=hc.2.1
 obtain⟨b1,b2⟩:=row_bnd hc (i:=i.toNat) om
 have h3:=dot_le b1 hr om om om r.length (Nat.le_refl _)
 rw [tkL,List.take_of_length_le om]at h3
 have h4:=hr.get (k:=i.toNat) om
 refine wk Tryz.call170 Tryz.func170 rfl Tryz.ntmps170 fun C hC hP hT hfn hpin hfin hX=>wW ?_
 refine Run.R ?_
 refine Run.R ?_
 refine Run.k [0,1,2,6,7] [0] ?_
 refine Run.nq ?_;refine Run.regionD hC true [0,1,2,3,4,5,6,7,8,9,10,11,12] (by kernel_rfl) (fun K hK=>?_);simp(disch:=omega) only [wrap_id,AW7,simprocAttr,hX];(repeat(with_reducible refine And.intro ?_ ?_);exact vc0)
 refine FunA.callD hP hT (c_impl_pairing (c.getD i.toNat []) r b1 hr om om) (by simp only [AW7,simprocAttr]) ?_
 rintro rs o ⟨rfl,rfl⟩
 simp(disch:=omega) only [wrap_id,AW7,simprocAttr,hX]
 (repeat(with_reducible refine And.intro ?_ ?_);exact vc0)
 refine wE ?_;clear hK K
 refine Run.R ?_
 refine Run.k [6] [0] ?_
 refine Run.r [6] ?_
 exact⟨rfl,rfl⟩
theorem c_spec_l7Reflect (c:LL) (i:Int) (r:LI) (hc:CartanP c) (hi:0<=i/\i < c.length) (hl:r.length=c.length) (hr:Bnd 100000000000000000 r) :
  FunA B 148 [.sl false (.row false) c,.int .i64 i,.sl false .int r] (fun rs o=>rs=[.own 0 0]/\o=[.arr .int (mirL c i r) 0 true]):=by
 have hn:=hc.2.1
 obtain⟨b1,b2⟩:=row_bnd hc (i:=i.toNat) om
 have h3:=dot_le b1 hr om om om r.length (Nat.le_refl _)
 rw [tkL,List.take_of_length_le om]at h3
 have h4:=hr.get (k:=i.toNat) om
 refine wk Tryz.call148 Tryz.func148 rfl Tryz.ntmps148 fun C hC hP hT hfn hpin hfin hX=>wW ?_
 refine Run.R ?_
 refine Run.R ?_
 refine Run.R ?_
 refine Run.R ?_
 refine Run.k [0,1,2,6,7,8,9] [0] ?_
 refine Run.loopI (X:=Nat) (fun k=>⟨43,[(0,true,.v (.sl false (.row false) c)),(1,true,.v (.int .i64 i)),(2,true,.v (.sl false .int r)),(6,true,.v (.nils)),(7,true,.v (.own 0 0)),(8,true,.v (.int .i64 ((dotL ((c.getD i.toNat []).take k) (r.take k))))),(9,true,.v (.int .i64 k))],[.arr .int (r) 0 true]⟩) (fun k=>k<=r.length) (fun k=>r.length - k) (0) (nz0 _) ?_ ?_
 ·exact Le.s
 rintro k hk ih
 try simp only []
 refine Run.R ?_
 refine Run.c ?_ ?_
 ·intro h
  have h:k < r.length:=by simpa using h
  have hs:=dot_snoc (c.getD i.toNat []) r k om h
  have h0:=dot_le b1 hr om om om k hk
  have h1:=dot_le b1 hr om om om (k+1) om
  have h2:=mul3 (b1.get (k:=k) om) (hr.get h)
  rw [hs]at h1
  refine Run.nq ?_;refine Run.regionD hC true [0,1,2,3,4,5,6,7,8,9,10,11,12,13,14] (by kernel_rfl) (fun K hK=>?_);simp(disch:=omega) only [wrap_id,AW7,simprocAttr,hX];(repeat(with_reducible refine And.intro ?_ ?_);exact vc0)
  refine wE ?_;clear hK K
  rw [<- hs]
  refine Run.RW ?_
  exact Run.j (ih (k+1) om mz)
 ·intro h
  have h:k=r.length:=by simp at h;omega
  subst h
  rw [tkL,List.take_of_length_le om]
  refine Run.x ?_
  refine Run.RW ?_
  refine Run.R ?_
  refine Run.k [6] [0] ?_
  refine Run.r [6] ?_
  exact⟨rfl,rfl⟩
theorem c_impl_simple (n:Nat) (i:Int) (hn:n<=1048576) (hi:0<=i/\i < n):FunA B 139 [.int .i64 n,.int .i64 i] (fun rs o=>rs=[.own 0 0]/\o=[.arr .int (simL n i.toNat) 0 true]):=by
 refine wk Tryz.call139 Tryz.func139 rfl Tryz.ntmps139 fun C hC hP hT hfn hpin hfin hX=>wW ?_
 refine Run.R ?_
 refine Run.R ?_
 refine Run.R ?_
 refine Run.R ?_
 refine Run.k [4] [0] ?_
 refine Run.r [4] ?_
 exact⟨rfl,rfl⟩
theorem c_spec_SimpleRoot (c:LL) (i:Int) (hc:CartanP c) (hi:0<=i/\i < c.length):FunA B 147 [.sl false (.row false) c,.int .i64 i] (fun rs o=>rs=[.own 0 0]/\o=[.arr .int (simL c.length i.toNat) 0 true]):=by
 have hb:=isC_true hc
 have hn:=hc.2.1
 have hin:inB i 0 ((c.length:Int) - 1)=true:=inB_iff.2 om
 refine wk Tryz.call147 Tryz.func147 rfl Tryz.ntmps147 fun C hC hP hT hfn hpin hfin hX=>wW ?_
 refine Run.R ?_
 refine Run.g fun K hK=>?_
 refine FunA.cW hP hT (c_spec_IsCartan c) ?_
 rintro rs o ⟨rfl,rfl⟩
 simp only [hb]
 simp(disch:=omega) only [wrap_id,AW7,simprocAttr,hX]
 refine .inr ⟨rfl,?_⟩
 refine FunA.cW hP hT (c_spec_l1In i 0 ((c.length:Int) - 1)) ?_
 rintro rs o ⟨rfl,rfl⟩
 simp only [hin]
 refine wF ?_;clear hK K
 refine Run.c ?_ ?_
 ·intro h;cases h
 intro h
 refine Run.R ?_
 refine Run.R ?_
 refine Run.R ?_
 refine Run.k [4] [0] ?_
 refine Run.r [4] ?_
 exact⟨rfl,rfl⟩
theorem Run.join {C:Ctx} {i j:Item} {k:List Item} {σ:St} (σ':St) (h1:Run C k σ') (h2:Run C k σ'->Run C (i :: j :: k) σ):Run C (i :: j :: k) σ:=h2 h1
structure LP (c:LL) (s v0:LI) (L:Nat) (a v:LI):Prop where
 far:Far c (L - a.length) v
 le:a.length<=L
 let_:letters c.length a
 eq:lpL c s 31 v0=(a ++ (lpL c s (31 - a.length) v).1,(lpL c s (31 - a.length) v).2)
theorem far_bd {c:LL} (hc:CartanP c) {M:Nat} {v:LI} (h:Far c M v) (hM:M<=31):Bd 9223372036854775807 v:=by
 obtain⟨k1,k2,k3⟩:=nfL_far hc 31 M h hM
 rw [<- k3]
 exact(image_bd hc k2 om).mono (by decide)
theorem c_spec_l9Fit (c:LL) (w:LI) (hc:CartanP c) (hw:letters c.length w) (hl:w.length<=31) :
  FunA B 136 [.sl false (.row false) c,.sl false .int w] (fun rs o=>rs=[.own 0 0,.bool (decide ((redL c w).length<=15))]/\o=[.arr .int (if (redL c w).length<=15 then redL c w else []) 0 true]):=by
 obtain⟨a1,a2,a3,a4,a5⟩:=red_spec hc hw hl
 refine wk Tryz.call136 Tryz.func136 rfl Tryz.ntmps136 fun C hC hP hT hfn hpin hfin hX=>wW ?_
 refine Run.R ?_
 refine Run.g fun K hK=>?_
 refine FunA.e hP hT (c_spec_l8Normal c w hc hw hl) ?_
 refine wE ?_;clear hK K
 refine Run.R ?_
 refine Run.c ?_ ?_
 ·intro h
  have h:15 < (redL c w).length:=by simp at h;omega
  refine Run.R ?_
  refine Run.k [4,5] [1] ?_
  refine Run.r [4,5] ?_
  rw [if_neg om,decide_eq_false om];exact⟨rfl,rfl⟩
 ·intro h
  have h:(redL c w).length<=15:=by simp at h;omega
  refine Run.R ?_
  refine Run.k [4,5] [0] ?_
  refine Run.r [4,5] ?_
  rw [if_pos h,decide_eq_true h];exact⟨rfl,rfl⟩
theorem sgn_nonneg {r:LI} (h:sgnR r=1):∀ x∈r,0<=x:=by
 intro x hx
 have h1:=(sgnR_one.1 h).2
 unfold negA at h1
 rw [List.any_eq_false]at h1
 have:=h1 x hx
 simp at this
 exact this
theorem hgt_nonneg:∀ {r:LI},(∀ x∈r,0<=x)->0<=hgt r/\∀ x∈r,x<=hgt r
 | [],_=>by simp [hgt]
 | y :: r,h=>by
  obtain⟨h1,h2⟩:=hgt_nonneg (r:=r) fun x hx=>h x (mcM _ hx)
  have h0:=h y (by simp)
  refine⟨by simp only [hgt];omega,fun x hx=>?_⟩
  simp only [hgt]
  rcases List.mem_cons.1 hx with rfl | hx
  ·omega
  ·have:=h2 x hx;omega
theorem hgt_rep:∀ n,hgt (List.replicate n 0)=0
 | 0=>rfl
 | n+1=>by rw [List.replicate_succ,hgt,hgt_rep n];rfl
theorem hgt_sim:∀(n i:Nat),i < n->hgt (simL n i)=1
 | 0,i,h=>by omega
 | n+1,0,_=>by simp only [simL,List.replicate_succ,List.set_cons_zero,hgt,hgt_rep];rfl
 | n+1,i+1,h=>by
  have:=hgt_sim n i om
  simp only [simL]at this
  simp only [simL,List.replicate_succ,List.set_cons_succ,hgt,this];rfl
theorem simL_len (n i:Nat):(simL n i).length=n:=by simp [simL]
structure Dn (c:LL) (r:LI):Prop where
 len:r.length=c.length
 sgn:sgnR r=1
 hgt:hgt r<=4000
theorem Dn.bnd {c:LL} {r:LI} (h:Dn c r):Bnd 4000 r:=fun x hx=>by
 have h1:=sgn_nonneg h.sgn
 have:=h1 x hx
 have:=(hgt_nonneg h1).2 x hx
 have:=h.hgt
 omega
def actR (c:LL) (w r:LI):List Int:=w.foldr (mirL c) r
theorem actR_len (c:LL) (r:LI):∀ w,(actR c w r).length=r.length
 | []=>rfl
 | i :: w=>by show(mirL c i (actR c w r)).length=_;rw [mir_len,actR_len c r w]
theorem actR_drop (c:LL) (w r:LI) (j:Nat) (h:j < w.length):actR c (w.drop j) r=mirL c (w.getD j 0) (actR c (w.drop (j+1)) r):=by
 have e:w.drop j=w.getD j 0 :: w.drop (j+1):=by rw [List.drop_eq_getElem_cons h];simp [h]
 rw [e];rfl
theorem c_impl_actedRoot (c:LL) (w r:LI) (hc:CartanP c) (hw:letters c.length w) (hl:r.length=c.length) (hwl:w.length<=1048576) (hB:∀ j,Bnd 100000000000000000 (actR c (w.drop j) r)) :
  FunA B 138 [.sl false (.row false) c,.sl false .int w,.sl false .int r] (fun rs o=>rs=[.own 0 0]/\o=[.arr .int (actR c w r) 0 true]):=by
 have hn:=hc.2.1
 refine wk Tryz.call138 Tryz.func138 rfl Tryz.ntmps138 fun C hC hP hT hfn hpin hfin hX=>wW ?_
 refine Run.R ?_
 refine Run.R ?_
 refine Run.RW ?_
 refine Run.k [0,1,2,7,8] [0] ?_
 have hd0:actR c (w.drop w.length) r=r:=by rw [List.drop_length];rfl
 refine Run.le (Le.sub (fr':=[(0,true,.v (.sl false (.row false) c)),(1,true,.v (.sl false .int w)),(2,true,.v (.sl false .int r)),(7,true,.v (.own 0 0)),(8,true,.v (.int .i64 ((w.length:Int) - 1)))]) (obs':=[.arr .int (actR c (w.drop w.length) r) 0 true]) (by rw [hd0]) (by simp only [AW7,simprocAttr];try simp)) ?_
 refine Run.loopI (X:=Nat) (fun j=>⟨27,[(0,true,.v (.sl false (.row false) c)),(1,true,.v (.sl false .int w)),(2,true,.v (.sl false .int r)),(7,true,.v (.own 0 0)),(8,true,.v (.int .i64 (((j:Int) - 1))))],[.arr .int ((actR c (w.drop j) r)) 0 true]⟩) (fun j=>j<=w.length) (fun j=>j) (w.length) (Nat.le_refl _) ?_ ?_
 ·exact Le.s
 rintro j hj ih
 try simp only []
 have hal:=actR_len c r (w.drop j)
 cases j with
 | zero=>
  refine Run.R ?_
  refine Run.c ?_ ?_
  ·intro h;simp at h
  intro _
  refine Run.x ?_
  refine Run.R ?_
  refine Run.k [6] [0] ?_
  refine Run.r [6] ?_
  exact⟨rfl,by rw [List.drop_zero]⟩
 | succ j=>
  have e2:((j+1:Nat):Int) - 1=j:=by omega
  rw [e2]
  refine Run.R ?_
  refine Run.c ?_ ?_
  rotate_left
  ·intro h;simp at h
  intro _
  have hlet:=letters_getD.1 hw j om
  have hdr:=actR_drop c w r j om
  refine Run.g fun K hK=>?_
  refine FunA.e hP hT (c_impl_mirrored c (w.getD j 0) (actR c (w.drop (j+1)) r) hc hlet om (hB (j+1))) ?_
  refine wE ?_;clear hK K
  rw [<- hdr]
  refine Run.RW ?_
  refine Run.k [0,1,2,7,8] [1] ?_
  exact Run.j (ih (j) om mz)
def lin (a:Int) (x:LI) (b:Int) (y:LI):List Int:=List.zipWith (fun p q=>a*p - b*q) x y
def rowS (M:LL) (r c k:Nat):List Int:=lin ((M.getD r []).getD c 0) (M.getD k []) ((M.getD k []).getD c 0) (M.getD r [])
def rowI (M:LL) (r c k:Nat):List Int:=if (M.getD k []).getD c 0=0 then M.getD k []else rowS M r c k
def elim (g:List (List Int)->Nat->List Int):Nat->Nat->List (List Int)->List (List Int)
 | 0,_,M=>M
 | f+1,k,M=>elim g f (k+1) (M.set k (g M k))
def pvt (M:LL) (c:Nat):Nat->Nat->Nat
 | 0,k=>k
 | f+1,k=>if (M.getD k []).getD c 0=0 then pvt M c f (k+1)else k
def swp (M:LL) (r a:Nat):List (List Int):=(M.set r (M.getD a [])).set a (M.getD r [])
def rkG (g:List (List Int)->Nat->Nat->Nat->List Int):Nat->List (List Int)->Nat->Nat->Nat
 | 0,_,r,_=>r
 | f+1,M,r,c=>if pvt M c (M.length - r) r=M.length then rkG g f M r (c+1) else
   rkG g f (elim (fun N k=>g N r c k) (M.length - (r+1)) (r+1) (swp M r (pvt M c (M.length - r) r))) (r+1) (c+1)
theorem lin_len (a:Int) (x:LI) (b:Int) (y:LI):(lin a x b y).length=min x.length y.length:=by simp [lin]
theorem lin_get (a:Int) (x:LI) (b:Int) (y:LI) {j:Nat} (h:j < x.length) (h2:j < y.length):(lin a x b y).getD j 0=a*x.getD j 0 - b*y.getD j 0:=by
 simp [lin,List.getD,List.getElem?_zipWith,geE h,geE h2]
theorem getD_out {x:LI} {j:Nat} (h:x.length<=j):x.getD j 0=0:=by simp [List.getD,geN h]
theorem mul_bnd {b p q:Int} (hp:-b<=p/\p<=b) (hq:-b<=q/\q<=b):-(b*b)<=p*q/\p*q<=b*b:=by
 have h:(p*q).natAbs<=(b*b).natAbs:=by
  rw [Int.natAbs_mul,Int.natAbs_mul]
  exact Nat.mul_le_mul om om
 have h0:0<=b*b:=Int.mul_nonneg om om
 omega
theorem lin_bnd {b m:Int} {x y:LI} {p q:Int} (hm:2*(b*b)<=m) (hb:0<=b) (hx:Bnd b x) (hy:Bnd b y) (hp:-b<=p/\p<=b) (hq:-b<=q/\q<=b):Bnd m (lin p x q y):=by
 intro z hz
 unfold lin at hz
 rw [List.mem_iff_getElem]at hz
 obtain⟨i,hi,rfl⟩:=hz
 rw [List.getElem_zipWith]
 simp only [List.length_zipWith]at hi
 have h1:=hx _ (List.getElem_mem (l:=x) (n:=i) om)
 have h2:=hy _ (List.getElem_mem (l:=y) (n:=i) om)
 have e1:=mul_bnd hp h1
 have e2:=mul_bnd hq h2
 omega
theorem pvt_ge (M:LL) (c:Nat):∀ f k,k<=pvt M c f k/\pvt M c f k<=k+f
 | 0,k=>by simp [pvt]
 | f+1,k=>by
  simp only [pvt]
  split
  ·have:=pvt_ge M c f (k+1);omega
  ·omega
theorem pvt_ne (M:LL) (c:Nat):∀ f k,pvt M c f k < k+f->(M.getD (pvt M c f k) []).getD c 0≠0
 | 0,k,h=>by simp [pvt]at h
 | f+1,k,h=>by
  simp only [pvt]at h ⊢
  split at h
  ·rename_i h0;rw [if_pos h0];exact pvt_ne M c f (k+1) om
  ·rename_i h0;rw [if_neg h0];exact h0
theorem swp_len (M:LL) (r a:Nat):(swp M r a).length=M.length:=by simp [swp]
theorem swp_get (M:LL) {r a:Nat} (hr:r < M.length) (ha:a < M.length) (k:Nat):(swp M r a).getD k []=if k=a then M.getD r []else if k=r then M.getD a []else M.getD k []:=by
 simp only [swp,List.getD,List.getElem?_set,List.length_set]
 by_cases h1:a=k
 ·subst h1;simp [ha]
 ·rw [if_neg h1,if_neg (Ne.symm h1)]
  by_cases h2:r=k
  ·subst h2;simp [hr]
  ·rw [if_neg h2,if_neg (Ne.symm h2)]
def OKM (n:Nat) (b:Int) (M:LL):Prop:=M.length=n/\∀ k,k < n->(M.getD k []).length=n/\Bnd b (M.getD k [])
def beta:Nat->Int
 | 0=>8
 | 1=>128
 | 2=>32768
 | _=>2147483648
theorem beta_pos (r:Nat):8<=beta r/\beta r<=2147483648:=by
 match r with
 | 0=>decide
 | 1=>decide
 | 2=>decide
 | n+3=>simp [beta]
theorem beta_up (r:Nat):beta r<=beta (r+1):=by
 match r with
 | 0=>decide
 | 1=>decide
 | 2=>decide
 | n+3=>simp [beta]
theorem beta_sq {r:Nat} (h:r<=2):2*(beta r*beta r)<=beta (r+1):=by
 match r,h with
 | 0,_=>decide
 | 1,_=>decide
 | 2,_=>decide
theorem Bnd.mono {a b:Int} (h:a<=b) {x:LI} (hx:Bnd a x):Bnd b x:=fun y hy=>by have:=hx y hy;omega
theorem Bnd.at' {b:Int} (hb:0<=b) {x:LI} (hx:Bnd b x) (j:Nat):-b<=x.getD j 0/\x.getD j 0<=b:=by
 by_cases h:j < x.length
 ·rw [getD_eq h];exact hx _ (List.getElem_mem h)
 ·rw [getD_out om];omega
def Mid (n r k:Nat) (M:LL):Prop:=OKM n (beta (r+1)) M/\∀ j,j < n->(j<=r\/k<=j)->Bnd (beta r) (M.getD j [])
theorem Mid.start {n r:Nat} {M:LL} (h:OKM n (beta r) M) (k:Nat):Mid n r k M:=
 ⟨⟨h.1,fun k hk=>⟨(h.2 k hk).1,(h.2 k hk).2.mono (beta_up r)⟩⟩,fun j hj _=>(h.2 j hj).2⟩
theorem set_get (M:LL) (k j:Nat) (x:LI) (hk:k < M.length):(M.set k x).getD j []=if j=k then x else M.getD j []:=by
 simp only [List.getD,List.getElem?_set]
 by_cases h:k=j
 ·subst h;simp [hk]
 ·rw [if_neg h,if_neg (Ne.symm h)]
theorem Mid.row {n r k c:Nat} {M:LL} (h:Mid n r k M) (hk:k < n) (hr:r < k) (hn:n<=4):(rowS M r c k).length=n/\Bnd (beta (r+1)) (rowS M r c k):=by
 obtain⟨⟨h1,h2⟩,h3⟩:=h
 refine⟨by unfold rowS;rw [lin_len,(h2 k hk).1,(h2 r om).1];omega,?_⟩
 have b0:=beta_pos r
 have b1:=h3 k hk (.inr (Nat.le_refl _))
 have b2:=h3 r om (.inl (Nat.le_refl _))
 exact lin_bnd (beta_sq om) om b1 b2 (b2.at' om c) (b1.at' om c)
theorem Mid.put {n r k:Nat} {M:LL} {x:LI} (h:Mid n r k M) (hk:k < n) (hr:r < k) (hx:x.length=n/\Bnd (beta (r+1)) x):Mid n r (k+1) (M.set k x):=by
 obtain⟨⟨h1,h2⟩,h3⟩:=h
 refine⟨⟨by simp [h1],fun j hj=>?_⟩,fun j hj hjk=>?_⟩
 ·rw [set_get _ _ _ _ om]
  split
  ·exact hx
  ·exact h2 j hj
 ·rw [set_get _ _ _ _ om,if_neg om]
  exact h3 j hj om
theorem OKM.swp {n r a:Nat} {b:Int} {M:LL} (h:OKM n b M) (hr:r < n) (ha:a < n):OKM n b (swp M r a):=by
 obtain⟨h1,h2⟩:=h
 refine⟨by rw [swp_len,h1],fun k hk=>?_⟩
 rw [swp_get M om om]
 split
 ·exact h2 r hr
 ·split
  ·exact h2 a ha
  ·exact h2 k hk
def MulM (n:Nat) (M N:LL):Prop:=N.length=M.length/\∀ k,k < M.length->(M.getD k []).length=n/\(N.getD k []).length=n/\∃ l:Int,l≠0/\∀ j,(N.getD k []).getD j 0=l*(M.getD k []).getD j 0
theorem MulM.zero {n:Nat} {M N:LL} (h:MulM n M N) {k:Nat} (hk:k < M.length) (c:Nat):(N.getD k []).getD c 0=0↔(M.getD k []).getD c 0=0:=by
 obtain⟨_,_,l,hl,h2⟩:=h.2 k hk
 rw [h2 c,Int.mul_eq_zero]
 simp [hl]
theorem MulM.pvt {n:Nat} {M N:LL} (h:MulM n M N) (c:Nat):∀ f k,k+f<=M.length->pvt N c f k=pvt M c f k
 | 0,k,_=>rfl
 | f+1,k,hk=>by
  have:=h.zero (k:=k) om c
  simp only [Go.Proofs.YtcinngodeoidnaaGreatDoor.pvt]
  by_cases h0:(M.getD k []).getD c 0=0
  ·rw [if_pos h0,if_pos (this.2 h0)];exact h.pvt c f (k+1) om
  ·rw [if_neg h0,if_neg (fun q=>h0 (this.1 q))]
theorem MulM.swp {n:Nat} {M N:LL} (h:MulM n M N) {r a:Nat} (hr:r < M.length) (ha:a < M.length):MulM n (swp M r a) (swp N r a):=by
 have hl:=h.1
 refine⟨by rw [swp_len,swp_len,hl],fun k hk=>?_⟩
 rw [swp_len]at hk
 rw [swp_get M hr ha,swp_get N om om]
 split
 ·exact h.2 r hr
 ·split
  ·exact h.2 a ha
  ·exact h.2 k hk
theorem MulM.put {n:Nat} {M N:LL} (h:MulM n M N) {r c k:Nat} (hr:r < k) (hk:k < M.length) (hp:(M.getD r []).getD c 0≠0):MulM n (M.set k (rowI M r c k)) (N.set k (rowS N r c k)):=by
 have hl:=h.1
 obtain⟨a1,a2,l,hl0,a3⟩:=h.2 k hk
 obtain⟨b1,b2,m,hm0,b3⟩:=h.2 r om
 refine⟨by simp [hl],fun j hj=>?_⟩
 simp only [List.length_set]at hj
 rw [set_get _ _ _ _ hk,set_get _ _ _ _ om]
 by_cases hjk:j=k
 ·rw [if_pos hjk,if_pos hjk]
  have hS:(rowS N r c k).length=n:=by unfold rowS;rw [lin_len,a2,b2];omega
  have gS:∀ j,j < n->(rowS N r c k).getD j 0=(N.getD r []).getD c 0*(N.getD k []).getD j 0 - (N.getD k []).getD c 0*(N.getD r []).getD j 0:=fun j hj=>by
   unfold rowS;rw [lin_get _ _ _ _ om om]
  unfold rowI
  by_cases h0:(M.getD k []).getD c 0=0
  ·rw [if_pos h0]
   refine⟨a1,hS,m*(M.getD r []).getD c 0*l,?_,fun j=>?_⟩
   ·exact Int.mul_ne_zero (Int.mul_ne_zero hm0 hp) hl0
   ·by_cases hj:j < n
    ·rw [gS j hj,a3 c,h0,a3 j,b3 c,Int.mul_zero,Int.zero_mul,Int.sub_zero];simp only [Int.mul_assoc]
    ·rw [getD_out (x:=rowS N r c k) om,getD_out (x:=M.getD k []) om,Int.mul_zero]
  ·rw [if_neg h0]
   have hM:(rowS M r c k).length=n:=by unfold rowS;rw [lin_len,a1,b1];omega
   refine⟨hM,hS,m*l,Int.mul_ne_zero hm0 hl0,fun j=>?_⟩
   by_cases hj:j < n
   ·rw [gS j hj,a3 c,a3 j,b3 c,b3 j]
    unfold rowS
    rw [lin_get _ _ _ _ om om,Int.mul_sub]
    congr 1
    ·rw [Int.mul_assoc,Int.mul_left_comm ((M.getD r []).getD c 0),Int.mul_assoc]
    ·rw [Int.mul_comm m l,Int.mul_assoc l m,Int.mul_assoc l,Int.mul_left_comm m]
   ·rw [getD_out (x:=rowS N r c k) om,getD_out (x:=rowS M r c k) om,Int.mul_zero]
 ·rw [if_neg hjk,if_neg hjk];exact h.2 j hj
theorem MulM.elim {n r c:Nat}:∀(f k:Nat) {M N:LL},MulM n M N->r < k->k+f<=M.length->(M.getD r []).getD c 0≠0->MulM n (elim (fun N k=>rowI N r c k) f k M) (elim (fun N k=>rowS N r c k) f k N)
 | 0,k,M,N,h,_,_,_=>h
 | f+1,k,M,N,h,hr,hk,hp=>by
  simp only [Go.Proofs.YtcinngodeoidnaaGreatDoor.elim]
  refine MulM.elim f (k+1) (h.put hr om hp) om (by simp;omega) ?_
  rw [set_get _ _ _ _ om,if_neg om]
  exact hp
theorem elim_len (g:List (List Int)->Nat->List Int):∀(f k:Nat) (M:LL),(elim g f k M).length=M.length
 | 0,k,M=>rfl
 | f+1,k,M=>by simp only [elim];rw [elim_len g f];simp
theorem MulM.refl {n:Nat} {b:Int} {M:LL} (h:OKM n b M):MulM n M M:=
 ⟨rfl,fun k hk=>⟨(h.2 k (by rw [<- h.1];exact hk)).1,(h.2 k (by rw [<- h.1];exact hk)).1,1,by decide,fun j=>by rw [Int.one_mul]⟩⟩
theorem rkG_top (g:List (List Int)->Nat->Nat->Nat->List Int):∀(f:Nat) (M:LL) (c:Nat),rkG g f M M.length c=M.length
 | 0,_,_=>rfl
 | f+1,M,c=>by
  simp only [rkG]
  have:=pvt_ge M c (M.length - M.length) M.length
  rw [if_pos om]
  exact rkG_top g f M (c+1)
def InjL (hs:List Nat):Prop:=∀ i j,i < hs.length->j < hs.length->hs.getD i 0=hs.getD j 0->i=j
theorem map_getD (F:Nat->List Int) (hs:List Nat) {k:Nat} (h:k < hs.length):(hs.map F).getD k []=F (hs.getD k 0):=by
 simp [List.getD,geE h]
theorem map_upd {F F2:Nat->List Int} {hs:List Nat} (hi:InjL hs) {k:Nat} (hk:k < hs.length) (h:∀ q,q≠hs.getD k 0->F2 q=F q):hs.map F2=(hs.map F).set k (F2 (hs.getD k 0)):=by
 apply List.ext_getElem
 ·simp
 ·intro i h1 h2
  simp only [List.length_map]at h1
  rw [List.getElem_map,List.getElem_set]
  by_cases e:k=i
  ·subst e;rw [if_pos rfl,getD_eq h1]
  ·rw [if_neg e,List.getElem_map]
   apply h
   intro q
   rw [<- getD_eq (d:=0) h1]at q
   exact e (hi _ _ h1 hk q).symm
theorem map_swp (F:Nat->List Int) (hs:List Nat) {r a:Nat} (hr:r < hs.length) (ha:a < hs.length):((hs.set r (hs.getD a 0)).set a (hs.getD r 0)).map F=swp (hs.map F) r a:=by
 unfold swp
 rw [map_getD F hs ha,map_getD F hs hr,List.map_set,List.map_set]
theorem nset_get (M:List Nat) (k j:Nat) (x:Nat) (hk:k < M.length):(M.set k x).getD j 0=if j=k then x else M.getD j 0:=by
 simp only [List.getD,List.getElem?_set]
 by_cases h:k=j
 ·subst h;simp [hk]
 ·rw [if_neg h,if_neg (Ne.symm h)]
theorem inj_swp {hs:List Nat} (hi:InjL hs) {r a:Nat} (hr:r < hs.length) (ha:a < hs.length):InjL ((hs.set r (hs.getD a 0)).set a (hs.getD r 0)):=by
 have key:∀ i,i < hs.length->((hs.set r (hs.getD a 0)).set a (hs.getD r 0)).getD i 0=hs.getD (if i=a then r else if i=r then a else i) 0:=fun i h=>by
  rw [nset_get _ _ _ _ (by simpa using ha),nset_get _ _ _ _ hr]
  split
  ·rfl
  ·split<;>rfl
 intro i j h1 h2 h3
 simp only [List.length_set]at h1 h2
 rw [key i h1,key j h2]at h3
 have:=hi _ _ (by split<;>(try split)<;>omega) (by split<;>(try split)<;>omega) h3
 split at this<;>split at this<;>(try split at this)<;>(try split at this)<;>omega
theorem set_self (M:LL) (k:Nat):M.set k (M.getD k [])=M:=by
 apply List.ext_getElem?
 intro i
 rw [List.getElem?_set]
 by_cases h:k=i
 ·subst h
  by_cases hk:k < M.length<;>simp [hk]
 ·rw [if_neg h]
def Gd (D:List Nat) (n:Nat) (A:LL) (F:Nat->List Int) (hs:List Nat) (r c:Nat):Prop:=
 InjL hs/\(∀ h∈hs,h∈D)/\OKM n (beta r) (hs.map F)/\r<=n/\c<=n/\rkG rowI (n - c) (hs.map F) r c=rkG rowI n A 0 0
theorem gdM {hs:List Nat} {k:Nat} (h:k < hs.length):hs.getD k 0∈hs:=by rw [getD_eq h];exact List.getElem_mem h
def half (x z:LI) (j:Nat):List Int:=z.take j ++ x.drop j
theorem half_len {x z:LI} (h:z.length=x.length) (j:Nat):(half x z j).length=x.length:=by simp [half];omega
theorem half_get {x z:LI} (h:z.length=x.length) {j:Nat} (hj:j < x.length):(half x z j).getD j 0=x.getD j 0:=by
 have:(z.take j).length=j:=by simp;omega
 simp [half,List.getD,List.getElem?_append,this,List.getElem?_drop]
theorem half_set {x z:LI} (h:z.length=x.length) {j:Nat} (hj:j < x.length):(half x z j).set j (z.getD j 0)=half x z (j+1):=by
 have h1:(z.take j).length=j:=by simp;omega
 unfold half
 rw [List.set_append_right _ _ om,h1,Nat.sub_self,List.drop_eq_getElem_cons hj,List.set_cons_zero,getD_eq (by omega:j < z.length)]
 rw [List.take_succ_eq_append_getElem (by omega:j < z.length),List.append_assoc];rfl
theorem half_zero (x z:LI):half x z 0=x:=by simp [half]
theorem half_all {x z:LI} (h:z.length=x.length):half x z x.length=z:=by simp [half,<- h]
theorem Mid.skip {n r k:Nat} {M:LL} (h:Mid n r k M) (_:k < n):Mid n r (k+1) M:=
 ⟨h.1,fun j hj hjk=>h.2 j hj om⟩
set_option maxHeartbeats 4000000 in
theorem c_impl_rankOf (n:Nat) (D:List Nat) (F:Nat->List Int) (hs:List Nat) (A:LL) (hA:hs.map F=A) (hin:InjL hs) (hsub:∀ h∈hs,h∈D) (hn:n<=4) (hok:OKM n 8 A) (nn:Bool) :
  FunO B 140 [.own 0 0] (.gm D F hs 0 nn) (fun rs o=>rs=[.int .i64 (rkG rowI n A 0 0:Nat)]/\∃ F' hs',o=[.gm D F' hs' 0 nn]):=by
 have hG0:Gd D n A F hs 0 0:=⟨hin,hsub,by rw [hA];exact hok,by omega,by omega,by rw [hA];rfl⟩
 refine FunO.walk B_ok (fn:=Tryz.f140) (fun vs w=>Tryz.call140 vs w) Tryz.func140 rfl (by rw [Tryz.ntmps140];simp) (fun C hC hP hT hΓ hbt hfn hpin hfin=>?_);have hX:=BX;rw [<- hΓ,<- hbt.1,<- hbt.2.1,<- hbt.2.2.1]at hX;rw [hT]at hX;rw [Tryz.ntmps140];simp only [AW7,simprocAttr,hX]
 refine Run.R ?_
 refine Run.R ?_
 refine Run.R ?_
 refine Run.loopI (X:=(Nat->List Int)×List Nat×Nat×Nat) (fun x=>⟨118,[(0,true,.v (.own 0 0)),(3,true,.v (.int .i64 (x.2.2.1))),(4,true,.v (.int .i64 (x.2.2.2)))],[.gm D x.1 x.2.1 0 nn]⟩) (fun x=>Gd D n A x.1 x.2.1 x.2.2.1 x.2.2.2) (fun x=>n - x.2.2.2) ((F,hs,0,0)) (hG0) ?_ ?_
 ·exact Le.s
 rintro⟨G,hs1,r,c⟩ hG ihO
 try simp only []
 simp only []at hG
 clear hok hsub hin hA hG0
 obtain⟨hin,hsub,hok,hr,hcn,hE⟩:=hG
 have hl:hs1.length=n:=by simpa using hok.1
 by_cases hc:c < n
 rotate_left
 ·have hcc:decide ((c:Int) < hs1.length)=false:=by rw [dfE];omega
  refine Run.g fun K hK=>?_
  simp only [hcc]
  refine wF ?_;clear hK K
  refine Run.c ?_ ?_
  ·intro h;cases h
  intro _
  refine Run.x ?_
  refine Run.R ?_
  rw [show n - c=0 by omega]at hE
  refine Run.retW [2] (by decide) (by rw [hfn];rfl) (by simp only [AW7,simprocAttr,hX];rfl) (by simp only [AW7,simprocAttr,hX]) (hfin _ _ _ rfl rfl ⟨rfl,_,_,_,rfl⟩ ?_)
  rw [<- hE];exact⟨rfl,_,_,rfl⟩
 have hcc:decide ((c:Int) < hs1.length)=true:=by rw [dtE];omega
 by_cases hrn:r < n
 rotate_left
 ·have hrr:decide ((r:Int) < hs1.length)=false:=by rw [dfE];omega
  refine Run.g fun K hK=>?_
  simp only [hcc,hrr]
  refine wF ?_;clear hK K
  refine Run.c ?_ ?_
  ·intro h;cases h
  intro _
  refine Run.x ?_
  refine Run.R ?_
  have hrr:r=(hs1.map G).length:=by simp;omega
  have hE2:=hE
  rw [hrr,rkG_top,<- hrr]at hE2
  refine Run.retW [2] (by decide) (by rw [hfn];rfl) (by simp only [AW7,simprocAttr,hX];rfl) (by simp only [AW7,simprocAttr,hX]) (hfin _ _ _ rfl rfl ⟨rfl,_,_,_,rfl⟩ ?_)
  rw [<- hE2];exact⟨rfl,_,_,rfl⟩
 have hrr:decide ((r:Int) < hs1.length)=true:=by rw [dtE];omega
 refine Run.g fun K hK=>?_
 simp only [hcc,hrr]
 refine wF ?_;clear hK K
 refine Run.c ?_ ?_
 rotate_left
 ·intro h;cases h
 intro _
 have hget:∀ k,k < n->hs1.getD k 0∈D/\(G (hs1.getD k 0)).length=n/\(hs1.map G).getD k []=G (hs1.getD k 0):=fun k hk=>by
  have e:=map_getD G hs1 (k:=k) om
  exact⟨hsub _ (gdM om),by rw [<- e];exact(hok.2 k hk).1,e⟩
 refine Run.R ?_
 refine Run.loopI (X:=Nat) (fun a=>⟨118,[(0,true,.v (.own 0 0)),(3,true,.v (.int .i64 r)),(4,true,.v (.int .i64 c)),(5,true,.v (.int .i64 a))],[.gm D G hs1 0 nn]⟩) (fun a=>r<=a/\a<=n/\pvt (hs1.map G) c (n - a) a=pvt (hs1.map G) c (n - r) r) (fun a=>n - a) (r) (⟨by omega,by omega,rfl⟩) ?_ ?_
 ·exact Le.s
 rintro a ⟨hra,han,hpv⟩ ih
 try simp only []
 by_cases ha:a < n
 ·obtain⟨m1,m2,m3⟩:=hget a ha
  have haa:decide ((a:Int) < hs1.length)=true:=by rw [dtE];omega
  refine Run.g fun K hK=>?_
  simp only [haa]
  refine wF ?_;clear hK K
  refine Run.c ?_ ?_
  ·intro h
   have h0:((hs1.map G).getD a []).getD c 0=0:=by rw [m3];simpa using h
   refine Run.RW ?_
   have hpv2:pvt (hs1.map G) c (n - (a+1)) (a+1)=pvt (hs1.map G) c (n - r) r:=by
    rw [<- hpv,show n - a=(n - (a+1))+1 by omega]
    simp only [pvt]
    rw [if_pos h0]
   exact Run.j (ih (a+1) (⟨by omega,by omega,hpv2⟩) mz)
  intro h
  have h0:((hs1.map G).getD a []).getD c 0≠0:=by rw [m3];simpa using h
  have hpa:pvt (hs1.map G) c (n - r) r=a:=by
   rw [<- hpv,show n - a=(n - (a+1))+1 by omega]
   simp only [pvt]
   rw [if_neg h0]
  refine Run.x ?_
  refine Run.R ?_
  refine Run.c ?_ ?_
  ·intro h;exfalso;simp at h;omega
  intro _
  obtain⟨p1,p2,p3⟩:=hget r hrn
  refine Run.nq ?_;refine Run.regionD hC true [0,1,2,3,4,5,6,7,8,9,10,11,12,13,14,15] (by kernel_rfl) (fun K hK=>?_);simp only [AW7,simprocAttr,hX];(repeat(with_reducible refine And.intro ?_ ?_);exact vc0)
  refine wE ?_;clear hK K
  refine Run.RW ?_
  have hmw:=map_swp G hs1 (r:=r) (a:=a) om om
  have hin2:=inj_swp hin (r:=r) (a:=a) om om
  have hl2:((hs1.set r (hs1.getD a 0)).set a (hs1.getD r 0)).length=n:=by simp [hl]
  have hsub2:∀ h∈(hs1.set r (hs1.getD a 0)).set a (hs1.getD r 0),h∈D:=fun h hh=>by
   rcases List.mem_or_eq_of_mem_set hh with hh | rfl
   ·rcases List.mem_or_eq_of_mem_set hh with hh | rfl
    ·exact hsub _ hh
    ·exact m1
   ·exact p1
  have hok2:OKM n (beta r) (((hs1.set r (hs1.getD a 0)).set a (hs1.getD r 0)).map G):=by rw [hmw];exact hok.swp hrn ha
  have hE2:rkG rowI (n - (c+1)) (elim (fun N k=>rowI N r c k) (n - (r+1)) (r+1) (((hs1.set r (hs1.getD a 0)).set a (hs1.getD r 0)).map G)) (r+1) (c+1)=rkG rowI n A 0 0:=by
   rw [<- hE,show n - c=(n - (c+1))+1 by omega,hmw]
   simp only [rkG]
   rw [hok.1,hpa,if_neg om]
  generalize hh2:(hs1.set r (hs1.getD a 0)).set a (hs1.getD r 0)=hs2 at *
  refine Run.keep [0,3,4,6] ?_;simp only [AK,Nat.reduceBEq]
  refine Run.loopI (X:=(Nat->List Int)×Nat) (fun x=>⟨118,[(0,true,.v (.own 0 0)),(3,true,.v (.int .i64 r)),(4,true,.v (.int .i64 c)),(6,true,.v (.int .i64 (x.2)))],[.gm D x.1 hs2 0 nn]⟩) (fun x=>(r < x.2/\x.2<=n)/\Mid n r x.2 (hs2.map x.1)/\elim (fun N k=>rowI N r c k) (n - x.2) x.2 (hs2.map x.1)=elim (fun N k=>rowI N r c k) (n - (r+1)) (r+1) (hs2.map G)) (fun x=>n - x.2) ((G,r+1)) (⟨by omega,Mid.start hok2 _,rfl⟩) ?_ ?_
  ·exact Le.s
  rintro⟨H,k⟩ ⟨⟨hrk,hkn⟩,hmid,hel⟩ ihK
  try simp only []
  simp only []at hrk hkn hmid hel
  clear ih hget m1 m2 m3 haa h h0 hpa p1 p2 p3 hh2 hmw hcc hrr hE hok hsub hin
  have hget:∀ k,k < n->hs2.getD k 0∈D/\(H (hs2.getD k 0)).length=n/\(hs2.map H).getD k []=H (hs2.getD k 0):=fun k hk=>by
   have e:=map_getD H hs2 (k:=k) om
   exact⟨hsub2 _ (gdM om),by rw [<- e];exact(hmid.1.2 k hk).1,e⟩
  refine Run.R ?_
  refine Run.c ?_ ?_
  rotate_left
  ·intro h
   have hkk:k=n:=by simp at h;omega
   refine Run.x ?_
   refine Run.RW ?_
   refine Run.RW ?_
   rw [hkk,Nat.sub_self]at hel
   simp only [elim]at hel
   rw [<- hel]at hE2
   exact Run.j (ihO ((H,hs2,r+1,c+1)) (⟨hin2,hsub2,hmid.1,hrn,hc,hE2⟩) mz)
  intro h
  have hk:k < n:=by simp at h;omega
  obtain⟨p1,p2,p3⟩:=hget r hrn
  obtain⟨q1,q2,q3⟩:=hget k hk
  refine Run.nq ?_;refine Run.regionD hC true [0,1,2,3,4,5,6,7,8,9,10,11,12,13,14,15] (by kernel_rfl) (fun K hK=>?_);simp only [AW7,simprocAttr,hX];(repeat(with_reducible refine And.intro ?_ ?_);exact vc0)
  refine wE ?_;clear hK K
  refine Run.R ?_
  refine Run.c ?_ ?_
  ·intro h
   have h0:((hs2.map H).getD k []).getD c 0=0:=by rw [q3];simpa using h
   refine Run.x ?_
   refine Run.RW ?_
   have hel2:elim (fun N k=>rowI N r c k) (n - (k+1)) (k+1) (hs2.map H)=elim (fun N k=>rowI N r c k) (n - (r+1)) (r+1) (hs2.map G):=by
    rw [<- hel,show n - k=(n - (k+1))+1 by omega]
    simp only [elim]
    unfold rowI
    rw [if_pos h0,set_self]
   exact Run.j (ihK ((H,k+1)) (⟨⟨by omega,by omega⟩,hmid.skip hk,hel2⟩) mz)
  intro h
  have h0:((hs2.map H).getD k []).getD c 0≠0:=by rw [q3];simpa using h
  have hrow:=hmid.row (c:=c) hk hrk hn
  have hel2:elim (fun N k=>rowI N r c k) (n - (k+1)) (k+1) ((hs2.map H).set k (rowS (hs2.map H) r c k))=elim (fun N k=>rowI N r c k) (n - (r+1)) (r+1) (hs2.map G):=by
   rw [<- hel,show n - k=(n - (k+1))+1 by omega]
   simp only [elim]
   unfold rowI
   rw [if_neg h0]
  refine Run.R ?_
  refine Run.keep [0,3,4,6,7,8,85,86] ?_;simp only [AK,Nat.reduceBEq]
  have hZ:∀ j,j < n->(rowS (hs2.map H) r c k).getD j 0=(H (hs2.getD r 0)).getD c 0*(H (hs2.getD k 0)).getD j 0 - (H (hs2.getD k 0)).getD c 0*(H (hs2.getD r 0)).getD j 0:=fun j hj=>by
   unfold rowS;rw [p3,q3,lin_get _ _ _ _ om om]
  have hrb:=hmid.2 r hrn (.inl (Nat.le_refl _))
  have hkb:=hmid.2 k hk (.inr (Nat.le_refl _))
  have b0:=beta_pos r
  have bq:=beta_sq (r:=r) om
  have b1:=beta_pos (r+1)
  rw [p3]at hrb
  rw [q3]at hkb
  have hne:hs2.getD r 0≠hs2.getD k 0:=fun e=>by have:=hin2 r k om om e;omega
  generalize hzz:rowS (hs2.map H) r c k=Z at *
  refine Run.loopI (X:=(Nat->List Int)×Nat) (fun x=>⟨118,[(0,true,.v (.own 0 0)),(3,true,.v (.int .i64 r)),(4,true,.v (.int .i64 c)),(6,true,.v (.int .i64 k)),(7,true,.v (.int .i64 ((H (hs2.getD r 0)).getD c 0))),(8,true,.v (.int .i64 ((H (hs2.getD k 0)).getD c 0))),(85,true,.v (.int .i64 ((H (hs2.getD k 0)).length))),(86,true,.v (.int .i64 (x.2)))],[.gm D x.1 hs2 0 nn]⟩) (fun x=>x.2<=n/\(∀ q,q≠hs2.getD k 0->x.1 q=H q)/\x.1 (hs2.getD k 0)=half (H (hs2.getD k 0)) Z x.2) (fun x=>n - x.2) ((H,0)) (⟨by omega,fun _ _=>rfl,by rw [half_zero]⟩) ?_ ?_
  ·exact Le.s
  rintro⟨J,j⟩ ⟨hjn,hJ1,hJ2⟩ ihJ
  try simp only []
  simp only []at hjn hJ1 hJ2
  have l1:(J (hs2.getD k 0)).length=n:=by rw [hJ2,half_len om,q2]
  have l2:(J (hs2.getD r 0)).length=n:=by rw [hJ1 _ hne,p2]
  refine Run.R ?_
  refine Run.c ?_ ?_
  rotate_left
  ·intro h
   have hjj:j=n:=by rw [dfE]at h;omega
   refine Run.x ?_
   refine Run.RW ?_
   rw [hjj,<- q2,half_all om]at hJ2
   have hmp:=map_upd hin2 (F2:=J) (F:=H) (k:=k) om hJ1
   rw [hJ2]at hmp
   have hm2:=hmid.put hk hrk hrow
   rw [<- hmp]at hm2 hel2
   exact Run.j (ihK ((J,k+1)) (⟨⟨by omega,by omega⟩,hm2,hel2⟩) mz)
  intro h
  have hj:j < n:=by rw [dtE]at h;omega
  refine Run.R ?_
  refine Run.nq ?_;refine Run.regionD hC true [0,1,2,3,4,5,6,7,8,9,10,11,12,13,14,15,16,17,18,19,20,21,22,23,24,25] (by kernel_rfl) (fun K hK=>?_);simp only [AW7,simprocAttr,hX];(repeat(with_reducible refine And.intro ?_ ?_);exact vc0)
  refine wE ?_;clear hK K
  have e1:IntKind.i64.wrap (IntKind.i64.wrap ((H (hs2.getD r 0)).getD c 0*(J (hs2.getD k 0)).getD j 0) - IntKind.i64.wrap ((H (hs2.getD k 0)).getD c 0*(J (hs2.getD r 0)).getD j 0))=Z.getD j 0:=by
   rw [hJ2,half_get om om,hJ1 _ hne,hZ j hj]
   have m1:=mul_bnd (hrb.at' om c) (hkb.at' om j)
   have m2:=mul_bnd (hkb.at' om c) (hrb.at' om j)
   have w1:=wrap_id (n:=(H (hs2.getD r 0)).getD c 0*(H (hs2.getD k 0)).getD j 0) om
   have w2:=wrap_id (n:=(H (hs2.getD k 0)).getD c 0*(H (hs2.getD r 0)).getD j 0) om
   rw [w1,w2,wrap_id om]
  simp only [e1]
  refine Run.RW ?_
  have hJ3:∀ q,q≠hs2.getD k 0->updF J (hs2.getD k 0) j (Z.getD j 0) q=H q:=fun q hq=>by
   unfold updF;rw [if_neg hq];exact hJ1 q hq
  have hJ4:updF J (hs2.getD k 0) j (Z.getD j 0) (hs2.getD k 0)=half (H (hs2.getD k 0)) Z (j+1):=by
   unfold updF;rw [if_pos rfl,hJ2,half_set om om]
  exact Run.j (ihJ ((updF J (hs2.getD k 0) j (Z.getD j 0),j+1)) (⟨by omega,hJ3,hJ4⟩) mz)
 ·have haa:decide ((a:Int) < hs1.length)=false:=by rw [dfE];omega
  have hae:a=n:=by omega
  refine Run.g fun K hK=>?_
  simp only [haa]
  refine wF ?_;clear hK K
  refine Run.c ?_ ?_
  ·intro h;cases h
  intro _
  refine Run.x ?_
  refine Run.R ?_
  refine Run.c ?_ ?_
  rotate_left
  ·intro h;exfalso;simp at h;omega
  intro _
  refine Run.x ?_
  refine Run.RW ?_
  have hpv:pvt (hs1.map G) c (n - r) r=n:=by rw [<- hpv,hae,Nat.sub_self];rfl
  have hE2:=hE
  rw [show n - c=(n - (c+1))+1 by omega]at hE2
  simp only [rkG]at hE2
  rw [hok.1,if_pos hpv]at hE2
  exact Run.j (ihO ((G,hs1,r,c+1)) (⟨hin,hsub,hok,hr,hc,hE2⟩) mz)
end Go.Proofs.YtcinngodeoidnaaGreatDoor
