/- Matrices of sets of points, determinants: what the program's functions do. -/
import Derived.Test.YtcinngodeoidnaaGreatB13
set_option linter.unusedVariables false
set_option linter.unusedSimpArgs false
namespace Go.Proofs.YtcinngodeoidnaaGreat
open Go Go.Aw Go.Cox
def rowP (c:LL) (s:LI) (i:Int):List Int:=s.map fun j=>ent c i.toNat j.toNat
theorem map_snoc {α β:Type} (f:α->β) (s:List α) (d:α) (k:Nat) (h:k < s.length):(s.take k).map f ++ [f (s.getD k d)]=(s.take (k+1)).map f:=by
 rw [<- take_snoc d s k h];simp
theorem letters_mem {n:Nat} {s:LI} (h:letters n s) {k:Nat} (hk:k < s.length):0<=s.getD k 0/\s.getD k 0 < n:=h _ (getD_mem hk)
theorem c_impl_picked (c:LL) (s:LI) (hcl:c.length<=4) (hc:∀ i,i < c.length->(c.getD i []).length=c.length) (hs:letters c.length s) (hl:s.length<=1048576) :
  FunA B 192 [.sl false (.row false) c,.sl false .int s] (fun rs o=>rs=[.own 0 0]/\∃ ys,ys.map (·.2)=pick c s/\o=[.arr .lrow ys 0 true]):=by
 refine wk Tryz.call192 Tryz.func192 rfl Tryz.ntmps192 fun C hC hP hT hfn hpin hfin hX=>wW ?_
 refine Run.R ?_
 refine Run.R ?_
 refine Run.R ?_
 refine Run.loopI (X:=Nat×List (Nat×List Int)) (fun m=>⟨42,[(0,true,.v (.sl false (.row false) c)),(1,true,.v (.sl false .int s)),(4,true,.v (.nils)),(5,true,.v (.own 0 0)),(12,true,.v (.sl false .int s)),(13,true,.v (.int .i64 (s.length))),(14,true,.v (.int .i64 (m.1)))],[.arr .lrow (m.2) 0 true]⟩) (fun m=>m.1<=s.length/\m.2.map (·.2)=(s.take m.1).map (rowP c s)) (fun m=>s.length - m.1) ((0,[])) (⟨nz0 _,rfl⟩) ?_ ?_
 ·exact Le.s
 rintro⟨m,ys⟩ ⟨hm,hy⟩ ih
 try simp only []
 simp only []at hm hy
 have hyl:ys.length=m:=by have:=congrArg List.length hy;simpa [hm] using this
 refine Run.R ?_
 refine Run.c ?_ ?_
 ·intro h
  have h:m < s.length:=by simpa using h
  obtain⟨a1,a2⟩:=letters_mem hs h
  have hr:=hc (s.getD m 0).toNat om
  refine Run.R ?_
  refine Run.R ?_
  refine Run.R ?_
  refine Run.k [0,1,4,5,7,8,12,13,14,19,20,21] [0,1] ?_
  refine Run.loopI (X:=Nat) (fun k=>⟨42,[(0,true,.v (.sl false (.row false) c)),(1,true,.v (.sl false .int s)),(4,true,.v (.nils)),(5,true,.v (.own 0 0)),(7,true,.v (.int .i64 ((s.getD m 0)))),(8,true,.v (.own 1 0)),(12,true,.v (.sl false .int s)),(13,true,.v (.int .i64 (s.length))),(14,true,.v (.int .i64 m)),(19,true,.v (.sl false .int s)),(20,true,.v (.int .i64 (s.length))),(21,true,.v (.int .i64 k))],[.arr .lrow (ys) 0 true,.arr .int (((s.take k).map fun j=>ent c (s.getD m 0).toNat j.toNat)) 0 true]⟩) (fun k=>k<=s.length) (fun k=>s.length - k) (0) (nz0 _) ?_ ?_
  ·exact Le.s
  rintro k hk ih2
  try simp only []
  refine Run.R ?_
  refine Run.c ?_ ?_
  ·intro h2
   have h2:k < s.length:=by simpa using h2
   obtain⟨b1,b2⟩:=letters_mem hs h2
   have hsn:=map_snoc (fun j=>ent c (s.getD m 0).toNat j.toNat) s 0 k h2
   refine Run.R ?_
   refine Run.R ?_
   refine Run.RW ?_
   refine Run.k [0,1,4,5,7,8,12,13,14,19,20,21] [0,1] ?_
   refine Run.le ?_ (ih2 (k+1) om om)
   exact Le.sub (by rw [<- hsn]) (by simp only [AW7,simprocAttr];try simp)
  ·intro h2
   have h2:k=s.length:=by simp at h2;omega
   subst h2
   rw [tkL]
   refine Run.x ?_
   refine Run.g fun K hK=>?_
   intro l hl
   refine wF ?_;clear hK K
   refine Run.RW ?_
   refine Run.k [0,1,4,5,12,13,14] [0] ?_
   refine Run.le ?_ (ih (m+1,ys ++ [(l,rowP c s (s.getD m 0))]) ⟨h,by simp only [List.map_append,hy,List.map_cons,List.map_nil];exact map_snoc (rowP c s) s 0 m h⟩ (by simp only [];omega))
   exact Le.sub (by rfl) (by simp only [AW7,simprocAttr];try simp)
 ·intro h
  have h:m=s.length:=by simp at h;omega
  subst h
  rw [tkL]at hy
  refine Run.x ?_
  refine Run.R ?_
  refine Run.r [4] ?_
  exact⟨rfl,ys,hy,rfl⟩
def bnd:Nat->Int
 | 0=>1
 | n+1=>3*(n+1)*bnd n
theorem bnd_pos:∀ n,0<=bnd n
 | 0=>by decide
 | n+1=>by have:=bnd_pos n;unfold bnd;have:(0:Int)<=3*(n+1):=by omega
           exact Int.mul_nonneg this (bnd_pos n)
def Sq (n:Nat) (m:LL):Prop:=m.length=n/\∀ r∈m,r.length=n/\∀ x∈r,-3<=x/\x<=3
theorem Sq.minor {n:Nat} {m:LL} (h:Sq (n+1) m) (j:Nat) (hj:j < n+1):Sq n (minorL m j):=by
 refine⟨by simp [minorL,h.1],fun r hr=>?_⟩
 simp only [minorL,List.mem_map]at hr
 obtain⟨r0,h0,rfl⟩:=hr
 obtain⟨h1,h2⟩:=h.2 r0 (List.mem_of_mem_drop h0)
 refine⟨by simp [h1];omega,fun x hx=>?_⟩
 rcases List.mem_append.1 hx with hx | hx
 ·exact h2 x (List.mem_of_mem_take hx)
 ·exact h2 x (List.mem_of_mem_drop hx)
def sgn (j:Nat):Int:=if j % 2=1 then -1 else 1
def detS (n:Nat) (m:LL) (j:Nat):Int:=(List.range j).foldl (fun s j=>s+sgn j*(m.getD 0 []).getD j 0*detN n (minorL m j)) 0
theorem detS_succ (n:Nat) (m:LL) (j:Nat):detS n m (j+1)=detS n m j+sgn j*(m.getD 0 []).getD j 0*detN n (minorL m j):=by
 simp [detS,List.range_succ]
theorem detN_eq (n:Nat) (m:LL):detN (n+1) m=detS n m (n+1):=rfl
theorem sgn_cases (j:Nat):sgn j=1\/sgn j = -1:=by unfold sgn;split<;>simp
theorem sgn_succ (j:Nat):sgn (j+1) = -sgn j:=by unfold sgn;rcases Nat.mod_two_eq_zero_or_one j with h | h<;>simp [h,Nat.add_mod]
theorem abs_mul3 {x d b:Int} (hx:-3<=x/\x<=3) (hd:-b<=d/\d<=b):-(3*b)<=x*d/\x*d<=3*b:=by
 obtain⟨h1,h2⟩:=hx
 have:x = -3\/x = -2\/x = -1\/x=0\/x=1\/x=2\/x=3:=by omega
 rcases this with rfl | rfl | rfl | rfl | rfl | rfl | rfl<;>omega
theorem det_le:∀(n:Nat) (m:LL),Sq n m->-bnd n<=detN n m/\detN n m<=bnd n
 | 0,m,_=>by simp [detN,bnd]
 | n+1,m,h=>by
  have key:∀ j,j<=n+1->-(3*j*bnd n)<=detS n m j/\detS n m j<=3*j*bnd n:=by
   intro j
   induction j with
   | zero=>intro _;simp [detS]
   | succ j ih=>
    intro hj
    obtain⟨i1,i2⟩:=ih om
    have hd:=det_le n _ (h.minor j om)
    have hr:m.getD 0 []∈m:=by
     have:0 < m.length:=by rw [h.1];omega
     simp [gdE,this]
    obtain⟨r1,r2⟩:=h.2 _ hr
    have hx:=r2 _ (getD_mem (w:=m.getD 0 []) (i:=j) om)
    have h3:=abs_mul3 hx hd
    rw [detS_succ]
    have e:(3:Int)*((j+1:Nat):Int)*bnd n=3*j*bnd n+3*bnd n:=by push_cast;grind
    rw [e]
    rcases sgn_cases j with hs | hs<;>rw [hs]
    ·rw [Int.one_mul];omega
    ·rw [Int.neg_mul,Int.one_mul,Int.neg_mul];omega
  have:=key (n+1) (Nat.le_refl _)
  rw [detN_eq]
  simpa [bnd] using this
theorem bnd_le:∀ n:Nat,n<=4->bnd n<=1944:=by decide
theorem detS_le {n:Nat} {m:LL} (h:Sq (n+1) m) (hn:n+1<=4):∀ j,j<=n+1->-7776<=detS n m j/\detS n m j<=7776:=by
 intro j
 have hb:=bnd_le n om
 have hb0:=bnd_pos n
 have key:∀ j,j<=n+1->-((j:Int)*1944)<=detS n m j/\detS n m j<=(j:Int)*1944:=by
  have hbn:3*bnd n<=1944:=by
   have:∀ n:Nat,n<=3->3*bnd n<=1944:=by decide
   exact this n om
  intro j
  induction j with
  | zero=>intro _;simp [detS]
  | succ j ih=>
   intro hj
   obtain⟨i1,i2⟩:=ih om
   have hd:=det_le n _ (h.minor j om)
   have hr:m.getD 0 []∈m:=by
    have:0 < m.length:=by rw [h.1];omega
    simp [gdE,this]
   obtain⟨r1,r2⟩:=h.2 _ hr
   have hx:=r2 _ (getD_mem (w:=m.getD 0 []) (i:=j) om)
   have h3:=abs_mul3 hx hd
   rw [detS_succ]
   rcases sgn_cases j with hs | hs<;>rw [hs]
   ·rw [Int.one_mul];push_cast;omega
   ·rw [Int.neg_mul,Int.one_mul,Int.neg_mul];push_cast;omega
 intro hj
 have:=key j hj
 omega
theorem det_term {n:Nat} {m:LL} (h:Sq (n+1) m) (hn:n+1<=4) (j:Nat) (hj:j < n+1):(-3<=(m.getD 0 []).getD j 0/\(m.getD 0 []).getD j 0<=3)/\(-1944<=detN n (minorL m j)/\detN n (minorL m j)<=1944) /\
  (-1944<=(m.getD 0 []).getD j 0*detN n (minorL m j)/\(m.getD 0 []).getD j 0*detN n (minorL m j)<=1944)/\(m.getD 0 []).length=n+1:=by
 have hr:m.getD 0 []∈m:=by
  have:0 < m.length:=by rw [h.1];omega
  simp [gdE,this]
 obtain⟨r1,r2⟩:=h.2 _ hr
 have hx:=r2 _ (getD_mem (w:=m.getD 0 []) (i:=j) om)
 have hd:=det_le n _ (h.minor j hj)
 have hb:3*bnd n<=1944:=by
  have:∀ n:Nat,n<=3->3*bnd n<=1944:=by decide
  exact this n om
 have hb0:=bnd_pos n
 have h3:=abs_mul3 hx hd
 exact⟨hx,by omega,by omega,r1⟩
theorem c_impl_determinant (n:Nat):∀(m:LL),n<=4->Sq n m->FunA B 191 [.sl false (.row false) m] (fun rs o=>rs=[.int .i64 (detN n m)]/\o=[]):=by
 induction n with
 | zero=>
  intro m _ hm
  have hm0:m=[]:=nilZ hm.1
  subst hm0
  refine wk Tryz.call191 Tryz.func191 rfl Tryz.ntmps191 fun C hC hP hT hfn hpin hfin hX=>wW ?_
  refine Run.R ?_
  refine Run.R ?_
  refine Run.c ?_ ?_
  ·intro h
   refine Run.R ?_
   refine Run.r [2] ?_
   exact⟨rfl,rfl⟩
  ·intro h
   simp at h
 | succ n ihn=>
  intro m hn hm
  have hml:=hm.1
  refine wk Tryz.call191 Tryz.func191 rfl Tryz.ntmps191 fun C hC hP hT hfn hpin hfin hX=>wW ?_
  refine Run.R ?_
  refine Run.R ?_
  refine Run.c ?_ ?_
  ·intro h
   simp [hml]at h
   omega
  intro h
  clear h
  have hr0:=(det_term hm hn 0 om).2.2.2
  have hS0:detS n m 0=0:=rfl
  have hg0:sgn 0=1:=rfl
  refine Run.R ?_
  refine Run.R ?_
  rw [show((m.getD 0 []).length:Int)=((n+1:Nat):Int)from by rw [hr0]]
  refine Run.le (Le.sub (fr':=[(0,true,.v (.sl false (.row false) m)),(2,true,.v (.int .i64 0)),(3,true,.v (.int .i64 (detS n m 0))),(4,true,.v (.int .i64 (sgn 0))),(15,true,.v (.sl false .int (m.getD 0 []))),(16,true,.v (.int .i64 (n+1:Nat))),(17,true,.v (.int .i64 (0:Nat)))]) rfl (by simp only [AW7,simprocAttr];simp [hS0,hg0])) ?_
  refine Run.loopI (X:=Nat) (fun j=>⟨58,[(0,true,.v (.sl false (.row false) m)),(2,true,.v (.int .i64 0)),(3,true,.v (.int .i64 ((detS n m j)))),(4,true,.v (.int .i64 ((sgn j)))),(15,true,.v (.sl false .int ((m.getD 0 [])))),(16,true,.v (.int .i64 (((n+1:Nat))))),(17,true,.v (.int .i64 j))],[]⟩) (fun j=>j<=n+1) (fun j=>n+1 - j) (0) (nz0 _) ?_ ?_
  ·exact Le.s
  rintro j hj ih
  try simp only []
  refine Run.R ?_
  refine Run.c ?_ ?_
  ·intro h
   have h:j < n+1:=by simp at h;omega
   obtain⟨t1,t2,t3,t4⟩:=det_term hm hn j h
   obtain⟨d1,d2⟩:=detS_le hm hn j om
   obtain⟨e1,e2⟩:=detS_le hm hn (j+1) om
   have hsn:=detS_succ n m j
   have hss:=sgn_succ j
   have hsq:=hm.minor j h
   have hsc:=sgn_cases j
   have hp1:-3<=sgn j*(m.getD 0 []).getD j 0/\sgn j*(m.getD 0 []).getD j 0<=3:=by rcases hsc with hs | hs<;>rw [hs]<;>omega
   refine Run.R ?_
   refine Run.R ?_
   refine Run.c ?_ ?_
   ·intro hx
    have hx:(m.getD 0 []).getD j 0≠0:=by simpa using hx
    refine Run.R ?_
    refine Run.R ?_
    have htl:List.take (m.length - 1) (m.drop 1)=m.drop 1:=List.take_of_length_le (by simp)
    have htn:(m.drop 1).length=n:=by simp [hml]
    have ht2:List.take n m.tail=m.tail:=List.take_of_length_le (by simp [hml])
    refine Run.keep [0,2,3,4,5,6,7,15,16,17,26,27,28] ?_;simp only [AK,Nat.reduceBEq]
    refine Run.le (Le.sub (fr':=[(0,true,.v (.sl false (.row false) m)),(2,true,.v (.int .i64 0)),(3,true,.v (.int .i64 (detS n m j))),(4,true,.v (.int .i64 (sgn j))),(5,true,.v (.int .i64 j)),(6,true,.v (.int .i64 ((m.getD 0 []).getD j 0))),(7,true,.v (.own 0 0)),(15,true,.v (.sl false .int (m.getD 0 []))),(16,true,.v (.int .i64 (n+1:Nat))),(17,true,.v (.int .i64 j)),(26,true,.v (.sl false (.row false) (m.drop 1))),(27,true,.v (.int .i64 n)),(28,true,.v (.int .i64 (0:Nat)))]) rfl (by simp only [AW7,simprocAttr];simp [htl,htn,hml,ht2])) ?_
    refine Run.loopI (X:=Nat×List (Nat×List Int)) (fun k=>⟨58,[(0,true,.v (.sl false (.row false) m)),(2,true,.v (.int .i64 0)),(3,true,.v (.int .i64 ((detS n m j)))),(4,true,.v (.int .i64 ((sgn j)))),(5,true,.v (.int .i64 j)),(6,true,.v (.int .i64 (((m.getD 0 []).getD j 0)))),(7,true,.v (.own 0 0)),(15,true,.v (.sl false .int ((m.getD 0 [])))),(16,true,.v (.int .i64 (((n+1:Nat))))),(17,true,.v (.int .i64 j)),(26,true,.v (.sl false (.row false) ((m.drop 1)))),(27,true,.v (.int .i64 n)),(28,true,.v (.int .i64 (k.1)))],[.arr .lrow (k.2) 0 true]⟩) (fun k=>k.1<=n/\k.2.map (·.2)=((m.drop 1).take k.1).map (fun r=>r.take j ++ r.drop (j+1))) (fun k=>n - k.1) ((0,[])) (⟨nz0 _,rfl⟩) ?_ ?_
    ·exact Le.s
    rintro⟨k,ys⟩ ⟨hk,hy⟩ ih2
    try simp only []
    simp only []at hk hy
    have hyl:ys.length=k:=by have:=congrArg List.length hy;simp at this;omega
    refine Run.R ?_
    refine Run.c ?_ ?_
    ·intro h2
     have h2:k < n:=by simp at h2;omega
     have hmem:(m.drop 1).getD k []∈m:=by
      have:(m.drop 1).getD k []=m.getD (k+1) []:=by simp [gdE,List.getElem?_drop,Nat.add_comm]
      rw [this]
      simp [gdE,show k+1 < m.length by omega]
     have hrl:=(hm.2 _ hmem).1
     refine Run.R ?_
     refine Run.keep [0,2,3,4,5,6,7,9,15,16,17,26,27,28] ?_;simp only [AK,Nat.reduceBEq]
     refine Run.nq ?_;refine Run.regionD hC true [0,2,3,4,6,7,8,9,1,5,10,11,12,13] (by kernel_rfl) (fun K hK=>?_);simp(disch:=omega) only [wrap_id,AW7,simprocAttr,hX];(repeat(with_reducible refine And.intro ?_ ?_);exact vc0)
     intro l hl
     (repeat(with_reducible refine And.intro ?_ ?_);exact vc0)
     refine wE ?_;clear hK K
     refine Run.RW ?_
     refine Run.k [0,2,3,4,5,6,7,15,16,17,26,27,28] [0] ?_
     refine Run.le ?_ (ih2 (k+1,ys ++ [(l,((m.drop 1).getD k []).take j ++ ((m.drop 1).getD k []).drop (j+1))]) ⟨h2,by simp only [List.map_append,hy,List.map_cons,List.map_nil];exact map_snoc (fun r:List Int=>r.take j ++ r.drop (j+1)) (m.drop 1) [] k om⟩ (by simp only [];omega))
     have e1:List.take (j - 0) (List.drop 0 ((List.drop 1 m).getD k [])) ++ List.take (List.length ((List.drop 1 m).getD k []) - ((j:Int)+1).toNat) (List.drop ((j:Int)+1).toNat ((List.drop 1 m).getD k []))=((m.drop 1).getD k []).take j ++ ((m.drop 1).getD k []).drop (j+1):=by
      rw [Nat.sub_zero,List.drop_zero,show((j:Int)+1).toNat=j+1 by omega,List.take_of_length_le (l:=List.drop (j+1) _) (by simp)]
     exact Le.sub (by rw [e1]) (by simp only [AW7,simprocAttr];try simp)
    ·intro h2
     have h2:k=n:=by simp at h2;omega
     rw [List.take_of_length_le om]at hy
     have hy:ys.map (·.2)=minorL m j:=hy
     refine Run.x ?_
     refine Run.g fun K hK=>?_
     refine FunA.callW hP hT (ihn (minorL m j) om hsq) (by simp only [AW7,simprocAttr];exact hy.symm) ?_
     rintro rs o ⟨rfl,rfl⟩
     simp(disch:=omega) only [wrap_id,AW7,simprocAttr,hX]
     (repeat(with_reducible refine And.intro ?_ ?_);exact vc0)
     refine wE ?_;clear hK K
     rw [<- hsn]
     refine Run.keep [0,2,3,4,15,16,17] ?_;simp only [AK,Nat.reduceBEq]
     refine Run.RW ?_
     refine Run.RW ?_
     refine Run.k [0,2,3,4,15,16,17] [] ?_
     refine Run.le ?_ (ih (j+1) om om)
     exact Le.sub (by rfl) (by rw [hss];simp only [AW7,simprocAttr];simp)
   ·intro hx
    have hx:(m.getD 0 []).getD j 0=0:=by simpa using hx
    rw [hx]at hsn
    simp only [Int.mul_zero,Int.zero_mul,Int.add_zero]at hsn
    refine Run.RW ?_
    refine Run.RW ?_
    refine Run.le ?_ (ih (j+1) om om)
    exact Le.sub (by rfl) (by rw [hss,hsn];simp only [AW7,simprocAttr];simp)
  ·intro h
   have h:j=n+1:=by simp at h;omega
   subst h
   refine Run.x ?_
   refine Run.R ?_
   refine Run.r [2] ?_
   exact⟨rfl,rfl⟩
theorem setL_letters:∀ k:Nat,k < 16->∀ n:Nat,n<=4->k < 2 ^ n->∀ x∈setL k,0<=x/\x < (n:Int):=by decide
theorem setL_len:∀ k:Nat,k < 16->(setL k).length<=4:=by decide
theorem pow_le16:∀ n:Nat,n<=4->2 ^ n<=16:=by decide
theorem pick_sq {c:LL} (hc:CartanP c) {s:LI} (hs:letters c.length s):Sq s.length (pick c s):=by
 refine⟨by simp [pick],fun r hr=>?_⟩
 simp only [pick,List.mem_map]at hr
 obtain⟨i,hi,rfl⟩:=hr
 refine⟨by simp,fun x hx=>?_⟩
 simp only [List.mem_map]at hx
 obtain⟨j,hj,rfl⟩:=hx
 obtain⟨a1,a2⟩:=hs i hi
 obtain⟨b1,b2⟩:=hs j hj
 have:=ent_le hc i.toNat j.toNat om om
 omega
def minors (c:LL) (k:Nat):List Int:=(List.range k).map fun i=>mn c (i+1)
theorem minors_succ (c:LL) (k:Nat):minors c k ++ [mn c (k+1)]=minors c (k+1):=by simp [minors,List.range_succ]
theorem minors_len (c:LL) (k:Nat):(minors c k).length=k:=by simp [minors]
theorem minors_get (c:LL) (n k:Nat) (h:k < n):(minors c n).getD k 0=mn c (k+1):=by simp [minors,gdE,h]
noncomputable def pmin (c:LL):List Int:=if isC c then minors c (2 ^ c.length - 1)else []
theorem shl_one:∀ n:Nat,n<=4->IntKind.i64.wrap (1*2 ^ min n IntKind.i64.bits)=((2 ^ n:Nat):Int):=by decide
theorem c_impl_PrincipalMinors (c:LL):FunA B 174 [.sl false (.row false) c] (fun rs o=>rs=[.own 0 0]/\o=[.arr .int (pmin c) 0 true]):=by
 refine wk Tryz.call174 Tryz.func174 rfl Tryz.ntmps174 fun C hC hP hT hfn hpin hfin hX=>wW ?_
 refine Run.R ?_
 refine Run.R ?_
 refine Run.g fun K hK=>?_
 refine FunA.e hP hT (c_impl_IsCartan c) ?_
 refine wE ?_;clear hK K
 refine Run.c ?_ ?_
 ·intro hb
  have hb:isC c=false:=by simpa using hb
  have hp:pmin c=[]:=by simp [pmin,hb]
  refine Run.R ?_
  refine Run.r [2] ?_
  exact⟨rfl,by rw [hp]⟩
 ·intro hb
  have hb:isC c=true:=by simpa using hb
  have hc:=isC_iff.1 hb
  have hn:=hc.2.1
  have hn1:=hc.1
  have hsh:=shl_one c.length hn
  have hpw:=pow_le16 c.length hn
  have hp1:1<=2 ^ c.length:=Nat.one_le_two_pow
  refine Run.R ?_
  refine Run.le (Le.sub (fr':=[(0,true,.v (.sl false (.row false) c)),(2,true,.v .nils),(3,true,.v (.own 0 0)),(4,true,.v (.int .i64 ((0+1:Nat))))]) rfl (by simp only [AW7,simprocAttr];try simp)) ?_
  refine Run.loopI (X:=Nat) (fun k=>⟨26,[(0,true,.v (.sl false (.row false) c)),(2,true,.v (.nils)),(3,true,.v (.own 0 0)),(4,true,.v (.int .i64 (((k+1:Nat)))))],[.arr .int ((minors c k)) 0 true]⟩) (fun k=>k+1<=2 ^ c.length) (fun k=>2 ^ c.length - k) (0) om ?_ ?_
  ·exact Le.s
  rintro k hk ih
  try simp only []
  have hml:=minors_len c k
  refine Run.g fun K hK=>?_
  simp only [hsh]
  refine wE ?_;clear hK K
  refine Run.c ?_ ?_
  ·intro h
   have h:k+1 < 2 ^ c.length:=Int.ofNat_lt.1 (of_decide_eq_true h)
   have hl:=setL_letters (k+1) om c.length hn h
   have hll:=setL_len (k+1) om
   have hsq:=pick_sq hc hl
   refine Run.g fun K hK=>?_
   refine FunA.e hP hT (c_impl_setOf (k+1) om) ?_
   refine FunA.cW hP hT (c_impl_picked c (setL (k+1)) hn hc.2.2.1 hl om) ?_
   rintro rs o ⟨rfl,ys,hy,rfl⟩
   refine wW ?_
   refine FunA.callW hP hT (c_impl_determinant (setL (k+1)).length (pick c (setL (k+1))) hll hsq) (by simp only [AW7,simprocAttr];exact hy.symm) ?_
   rintro rs o ⟨rfl,rfl⟩
   refine wF ?_;clear hK K
   refine Run.RW ?_
   refine Run.k [0,2,3,4] [0] ?_
   refine Run.le ?_ (ih (k+1) om om)
   exact Le.sub (by rw [<- minors_succ];rfl) (by simp only [AW7,simprocAttr];try simp)
  ·intro h
   have h:k+1=2 ^ c.length:=by have h:=of_decide_eq_false h;rw [Int.ofNat_lt]at h;omega
   have hp:pmin c=minors c k:=by simp only [pmin,hb,if_true];rw [show 2 ^ c.length - 1=k by omega]
   refine Run.x ?_
   refine Run.R ?_
   refine Run.r [2] ?_
   exact⟨rfl,by rw [hp]⟩
theorem c_impl_WitnessOf (c:LL):FunA B 140 [.sl false (.row false) c] (fun rs o=>rs=[.own 0 0]/\∃ xs,(xs=[]↔∀ k,k < (pmin c).length->0 < (pmin c).getD k 0)/\xs.length<=4/\o=[.arr .int xs 0 true]):=by
 have hpl:(pmin c).length<=15:=by
  unfold pmin
  split
  ·rename_i hb
   have hc:=isC_iff.1 hb
   have:=pow_le16 c.length hc.2.1
   rw [minors_len];omega
  ·simp
 refine wk Tryz.call140 Tryz.func140 rfl Tryz.ntmps140 fun C hC hP hT hfn hpin hfin hX=>wW ?_
 refine Run.R ?_
 refine Run.g fun K hK=>?_
 refine FunA.e hP hT (c_impl_PrincipalMinors c) ?_
 refine wE ?_;clear hK K
 refine Run.loopI (X:=Nat) (fun k=>⟨20,[(0,true,.v (.sl false (.row false) c)),(2,true,.v (.nils)),(6,true,.v (.own 0 0)),(7,true,.v (.int .i64 ((pmin c).length))),(8,true,.v (.int .i64 k))],[.arr .int ((pmin c)) 0 true]⟩) (fun k=>k<=(pmin c).length/\∀ j,j < k->0 < (pmin c).getD j 0) (fun k=>(pmin c).length - k) (0) (⟨nz0 _,fun j hj=>by omega⟩) ?_ ?_
 ·exact Le.s
 rintro k ⟨hk,hpos⟩ ih
 try simp only []
 refine Run.R ?_
 refine Run.c ?_ ?_
 ·intro h
  have h:k < (pmin c).length:=by simpa using h
  refine Run.R ?_
  refine Run.R ?_
  refine Run.c ?_ ?_
  ·intro h2
   have h2:(pmin c).getD k 0<=0:=by simpa using h2
   refine Run.nq ?_;refine Run.regionW hC (fun K hK=>?_);refine wWW ?_
   refine FunA.callW hP hT (c_impl_setOf (k+1) om) (by simp only [AW7,simprocAttr];simp) ?_
   rintro rs o ⟨rfl,rfl⟩
   refine wF ?_;clear hK K
   refine Run.k [2] [1] ?_
   refine Run.r [2] ?_
   refine⟨rfl,setL (k+1),⟨fun he=>absurd he (setL_ne (k+1) om om),fun hall=>?_⟩,setL_len (k+1) om,rfl⟩
   have:=hall k h
   omega
  ·intro h2
   have h2:0 < (pmin c).getD k 0:=by simp at h2;simpa [gdE] using h2
   refine Run.RW ?_
   refine Run.le ?_ (ih (k+1) ⟨h,fun j hj=>by rcases Nat.lt_or_ge j k with q | q;exact hpos j q;rw [show j=k by omega];exact h2⟩ om)
   exact Le.sub (by rfl) (by simp only [AW7,simprocAttr];try simp)
 ·intro h
  have h:k=(pmin c).length:=by simp at h;omega
  subst h
  refine Run.x ?_
  refine Run.R ?_
  refine Run.k [2] [1] ?_
  refine Run.r [2] ?_
  exact⟨rfl,[],⟨fun _=>hpos,fun _=>rfl⟩,by simp,rfl⟩
open Classical in
noncomputable def isF (c:LL):Bool:=decide (FinP c)
theorem isF_iff {c:LL}:isF c=true↔FinP c:=by simp [isF]
theorem isF_pmin {c:LL} (hb:isC c=true) {xs:LI} (h:xs=[]↔∀ k,k < (pmin c).length->0 < (pmin c).getD k 0):isF c=((xs.length:Int) == 0):=by
 have e:FinP c↔xs=[]:=by
  rw [h]
  have hp:pmin c=minors c (2 ^ c.length - 1):=by simp [pmin,hb]
  rw [hp,minors_len]
  constructor
  ·rintro⟨_,hf⟩ k hk
   rw [minors_get c _ k hk]
   exact hf (k+1) om om
  ·intro hf
   refine⟨isC_iff.1 hb,fun k h1 h2=>?_⟩
   have:=hf (k - 1) om
   rw [minors_get c _ _ om,show k - 1+1=k by omega]at this
   exact this
 cases hx:isF c with
 | true=>
  have:=e.1 (isF_iff.1 hx)
  subst this;rfl
 | false=>
  have hn:xs≠[]:=fun hh=>by rw [isF_iff.2 (e.2 hh)]at hx;cases hx
  have:xs.length≠0:=fun hh=>hn (nilZ hh)
  symm
  simp [hn]
theorem isF_not {c:LL} (hb:isC c=false):isF c=false:=by
 cases hx:isF c with
 | false=>rfl
 | true=>rw [isC_true (isF_iff.1 hx).1]at hb;cases hb
theorem c_impl_IsFinite (c:LL):FunA B 97 [.sl false (.row false) c] (fun rs o=>rs=[.bool (isF c)]/\o=[]):=by
 refine wk Tryz.call97 Tryz.func97 rfl Tryz.ntmps97 fun C hC hP hT hfn hpin hfin hX=>wW ?_
 refine Run.R ?_
 refine Run.g fun K hK=>?_
 refine FunA.e hP hT (c_impl_IsCartan c) ?_
 cases hb:isC c with
 | false=>
  have hf:=isF_not hb
  refine wW ?_
  refine .inl (CallG.off (.sl false .int []) ?_)
  refine wF ?_;clear hK K
  refine Run.r [2] ?_
  simp [hf]
 | true=>
  refine .inr ⟨rfl,?_⟩
  refine FunA.cW hP hT (c_impl_WitnessOf c) ?_
  rintro rs o ⟨rfl,xs,hxs,hl,rfl⟩
  have hf:=isF_pmin hb hxs
  refine wF ?_;clear hK K
  refine Run.k [2] [] ?_
  refine Run.r [2] ?_
  simp [hf]
theorem setBt_full:∀ n:Nat,n<=4->∀ k:Nat,k < 2 ^ n->setBt k n=setL k:=by decide
def setsL (k:Nat):List (List Int):=(List.range k).map fun i=>setL (i+1)
theorem setsL_succ (k:Nat):setsL k ++ [setL (k+1)]=setsL (k+1):=by simp [setsL,List.range_succ]
theorem setsL_len (k:Nat):(setsL k).length=k:=by simp [setsL]
theorem setsL_get (n k:Nat) (h:k < n):(setsL n).getD k []=setL (k+1):=by simp [setsL,gdE,h]
theorem c_spec_l4Sets (n:Nat) (hn:n<=4):FunA B 176 [.int .i64 n] (fun rs o=>rs=[.own 0 0]/\∃ ys,ys.map (·.2)=setsL (2 ^ n - 1)/\o=[.arr .lrow ys 0 true]):=by
 have hsh:=shl_one n hn
 have hpw:=pow_le16 n hn
 have hp1:1<=2 ^ n:=Nat.one_le_two_pow
 refine wk Tryz.call176 Tryz.func176 rfl Tryz.ntmps176 fun C hC hP hT hfn hpin hfin hX=>wW ?_
 refine Run.R ?_
 refine Run.R ?_
 refine Run.R ?_
 refine Run.le (Le.sub (fr':=[(0,true,.v (.int .i64 n)),(2,true,.v .nils),(3,true,.v (.own 0 0)),(4,true,.v (.int .i64 ((0+1:Nat))))]) rfl (by simp only [AW7,simprocAttr];try simp)) ?_
 refine Run.loopI (X:=Nat×List (Nat×List Int)) (fun k=>⟨34,[(0,true,.v (.int .i64 n)),(2,true,.v (.nils)),(3,true,.v (.own 0 0)),(4,true,.v (.int .i64 (((k.1+1:Nat)))))],[.arr .lrow (k.2) 0 true]⟩) (fun k=>k.1+1<=2 ^ n/\k.2.map (·.2)=setsL k.1) (fun k=>2 ^ n - k.1) ((0,[])) (⟨by simp only [];omega,rfl⟩) ?_ ?_
 ·exact Le.s
 rintro⟨k,ys⟩ ⟨hk,hy⟩ ih
 try simp only []
 simp only []at hk hy
 have hyl:ys.length=k:=by have:=congrArg List.length hy;simpa [setsL_len] using this
 refine Run.g fun K hK=>?_
 simp only [hsh]
 refine wE ?_;clear hK K
 refine Run.c ?_ ?_
 ·intro h
  have h:k+1 < 2 ^ n:=Int.ofNat_lt.1 (of_decide_eq_true h)
  refine Run.R ?_
  refine Run.R ?_
  refine Run.k [0,2,3,4,5,6] [0,1] ?_
  refine Run.loopI (X:=Nat) (fun i=>⟨34,[(0,true,.v (.int .i64 n)),(2,true,.v (.nils)),(3,true,.v (.own 0 0)),(4,true,.v (.int .i64 (((k+1:Nat))))),(5,true,.v (.own 1 0)),(6,true,.v (.int .i64 i))],[.arr .lrow (ys) 0 true,.arr .int ((setBt (k+1) i)) 0 true]⟩) (fun i=>i<=n) (fun i=>n - i) (0) (nz0 _) ?_ ?_
  ·exact Le.s
  rintro i hi ih2
  try simp only []
  have hsl:=setBt_len (k+1) i
  refine Run.R ?_
  refine Run.c ?_ ?_
  ·intro h2
   have h2:i < n:=by simpa using h2
   have hb2:=bit_and (k+1) om i om
   have h3:=setBt_succ (k+1) i
   refine Run.R ?_
   refine Run.c ?_ ?_
   ·intro hb
    rw [hb2]at hb
    rw [hb,if_pos rfl]at h3
    refine Run.R ?_
    refine Run.RW ?_
    refine Run.k [0,2,3,4,5,6] [0,1] ?_
    refine Run.le ?_ (ih2 (i+1) om om)
    exact Le.sub (by rw [h3]) (by simp only [AW7,simprocAttr];try simp)
   ·intro hb
    rw [hb2]at hb
    rw [hb]at h3
    refine Run.RW ?_
    refine Run.le ?_ (ih2 (i+1) om om)
    exact Le.sub (by rw [h3];rfl) (by simp only [AW7,simprocAttr];try simp)
  ·intro h2
   have h2:i=n:=by simp at h2;omega
   have hfull:=setBt_full n hn (k+1) om
   rw [h2,hfull]
   refine Run.x ?_
   refine Run.g fun K hK=>?_
   intro l hl
   refine wF ?_;clear hK K
   refine Run.RW ?_
   refine Run.k [0,2,3,4] [0] ?_
   refine Run.le ?_ (ih (k+1,ys ++ [(l,setL (k+1))]) ⟨by simp only [];omega,by simp only [List.map_append,hy,List.map_cons,List.map_nil];exact setsL_succ k⟩ (by simp only [];omega))
   exact Le.sub (by rfl) (by simp only [AW7,simprocAttr];try simp)
 ·intro h
  have h:k+1=2 ^ n:=by have h:=of_decide_eq_false h;rw [Int.ofNat_lt]at h;omega
  refine Run.x ?_
  refine Run.R ?_
  refine Run.r [2] ?_
  exact⟨rfl,ys,by rw [hy,show 2 ^ n - 1=k by omega],rfl⟩
theorem c_spec_SubCartan (c:LL) (s:LI) (hc:CartanP c) (hs:setP c.length s) (hne:s≠[]) :
  FunA B 177 [.sl false (.row false) c,.sl false .int s] (fun rs o=>rs=[.own 0 0,.bool true]/\∃ ys,ys.map (·.2)=pick c s/\o=[.arr .lrow ys 0 true]):=by
 have hl4:s.length<=c.length:=set_len hs
 have hlet:letters c.length s:=set_letters hs
 have hn:=hc.2.1
 have hset:isSetB c s=true:=by unfold isSetB;rw [isC_true hc,setB_iff.2 hs];rfl
 have hsl:s.length≠0:=fun h=>hne (nilZ h)
 refine wk Tryz.call177 Tryz.func177 rfl Tryz.ntmps177 fun C hC hP hT hfn hpin hfin hX=>wW ?_
 refine Run.R ?_
 refine Run.R ?_
 refine Run.g fun K hK=>?_
 refine FunA.cW hP hT (c_spec_l3Set c s om) ?_
 rintro rs o ⟨rfl,rfl⟩
 simp only [hset]
 refine wF ?_;clear hK K
 refine Run.c ?_ ?_
 ·intro h
  simp [hne]at h
 intro h
 clear h
 refine Run.R ?_
 refine Run.k [0,1,4,5,6,7] [0] ?_
 refine Run.loopI (X:=Nat×List (Nat×List Int)) (fun m=>⟨55,[(0,true,.v (.sl false (.row false) c)),(1,true,.v (.sl false .int s)),(4,true,.v (.nils)),(5,true,.v (.bool false)),(6,true,.v (.own 0 0)),(7,true,.v (.int .i64 (m.1)))],[.arr .lrow (m.2) 0 true]⟩) (fun m=>m.1<=s.length/\m.2.map (·.2)=(s.take m.1).map (rowP c s)) (fun m=>s.length - m.1) ((0,[])) (⟨nz0 _,rfl⟩) ?_ ?_
 ·exact Le.s
 rintro⟨m,ys⟩ ⟨hm,hy⟩ ih
 try simp only []
 simp only []at hm hy
 have hyl:ys.length=m:=by have:=congrArg List.length hy;simpa [hm] using this
 refine Run.R ?_
 refine Run.c ?_ ?_
 ·intro h
  have h:m < s.length:=by simpa using h
  obtain⟨a1,a2⟩:=letters_mem hlet h
  have hr:=hc.2.2.1 (s.getD m 0).toNat om
  refine Run.R ?_
  refine Run.R ?_
  refine Run.k [0,1,4,5,6,7,8,9] [0,1] ?_
  refine Run.loopI (X:=Nat) (fun k=>⟨55,[(0,true,.v (.sl false (.row false) c)),(1,true,.v (.sl false .int s)),(4,true,.v (.nils)),(5,true,.v (.bool false)),(6,true,.v (.own 0 0)),(7,true,.v (.int .i64 m)),(8,true,.v (.own 1 0)),(9,true,.v (.int .i64 k))],[.arr .lrow (ys) 0 true,.arr .int (((s.take k).map fun j=>ent c (s.getD m 0).toNat j.toNat)) 0 true]⟩) (fun k=>k<=s.length) (fun k=>s.length - k) (0) (nz0 _) ?_ ?_
  ·exact Le.s
  rintro k hk ih2
  try simp only []
  refine Run.R ?_
  refine Run.c ?_ ?_
  ·intro h2
   have h2:k < s.length:=by simpa using h2
   obtain⟨b1,b2⟩:=letters_mem hlet h2
   have hsn:=map_snoc (fun j=>ent c (s.getD m 0).toNat j.toNat) s 0 k h2
   refine Run.nq ?_;refine Run.regionD hC true [0,1,2,3,4,5,6,7,8,9,10,11,12,13,14,15,16] (by kernel_rfl) (fun K hK=>?_);simp only [AW7,simprocAttr,hX];(repeat(with_reducible refine And.intro ?_ ?_);exact vc0)
   refine wE ?_;clear hK K
   refine Run.RW ?_
   refine Run.k [0,1,4,5,6,7,8,9] [0,1] ?_
   refine Run.le ?_ (ih2 (k+1) om om)
   exact Le.sub (by rw [<- hsn]) (by simp only [AW7,simprocAttr];try simp)
  ·intro h2
   have h2:k=s.length:=by simp at h2;omega
   subst h2
   rw [tkL]
   refine Run.x ?_
   refine Run.g fun K hK=>?_
   intro l hl
   refine wF ?_;clear hK K
   refine Run.RW ?_
   refine Run.k [0,1,4,5,6,7] [0] ?_
   refine Run.le ?_ (ih (m+1,ys ++ [(l,rowP c s (s.getD m 0))]) ⟨h,by simp only [List.map_append,hy,List.map_cons,List.map_nil];exact map_snoc (rowP c s) s 0 m h⟩ (by simp only [];omega))
   exact Le.sub (by rfl) (by simp only [AW7,simprocAttr];try simp)
 ·intro h
  have h:m=s.length:=by simp at h;omega
  subst h
  rw [tkL]at hy
  refine Run.x ?_
  refine Run.R ?_
  refine Run.r [4,5] ?_
  exact⟨rfl,ys,hy,rfl⟩
theorem c_spec_l4Without (n j:Nat) (m:LL) (hn:n+1<=4) (hm:Sq (n+1) m) (hj:j < n+1) :
  FunA B 194 [.sl false (.row false) m,.int .i64 j] (fun rs o=>rs=[.own 0 0]/\∃ ys,ys.map (·.2)=minorL m j/\o=[.arr .lrow ys 0 true]):=by
 have hml:=hm.1
 have htn:(m.drop 1).length=n:=by simp [hml]
 refine wk Tryz.call194 Tryz.func194 rfl Tryz.ntmps194 fun C hC hP hT hfn hpin hfin hX=>wW ?_
 refine Run.R ?_
 refine Run.R ?_
 refine Run.R ?_
 refine Run.le (Le.sub (fr':=[(0,true,.v (.sl false (.row false) m)),(1,true,.v (.int .i64 j)),(4,true,.v .nils),(5,true,.v (.own 0 0)),(6,true,.v (.int .i64 ((0+1:Nat))))]) rfl (by simp only [AW7,simprocAttr];try simp)) ?_
 refine Run.loopI (X:=Nat×List (Nat×List Int)) (fun k=>⟨41,[(0,true,.v (.sl false (.row false) m)),(1,true,.v (.int .i64 j)),(4,true,.v (.nils)),(5,true,.v (.own 0 0)),(6,true,.v (.int .i64 (((k.1+1:Nat)))))],[.arr .lrow (k.2) 0 true]⟩) (fun k=>k.1<=n/\k.2.map (·.2)=((m.drop 1).take k.1).map (fun r=>r.take j ++ r.drop (j+1))) (fun k=>n - k.1) ((0,[])) (⟨nz0 _,rfl⟩) ?_ ?_
 ·exact Le.s
 rintro⟨k,ys⟩ ⟨hk,hy⟩ ih
 try simp only []
 simp only []at hk hy
 have hyl:ys.length=k:=by have:=congrArg List.length hy;simp at this;omega
 refine Run.R ?_
 refine Run.c ?_ ?_
 ·intro h
  have h:k < n:=by simp [hml]at h;omega
  have hmem:m.getD (k+1) []∈m:=by simp [gdE,show k+1 < m.length by omega]
  have hrl:=(hm.2 _ hmem).1
  have hgd:(m.drop 1).getD k []=m.getD (k+1) []:=by simp [gdE,List.getElem?_drop,Nat.add_comm]
  generalize hr:m.getD (k+1) []=r at hrl hgd
  refine Run.R ?_
  refine Run.R ?_
  refine Run.k [0,1,4,5,6,7,8] [0,1] ?_
  refine Run.loopI (X:=Nat) (fun q=>⟨41,[(0,true,.v (.sl false (.row false) m)),(1,true,.v (.int .i64 j)),(4,true,.v (.nils)),(5,true,.v (.own 0 0)),(6,true,.v (.int .i64 (((k+1:Nat))))),(7,true,.v (.own 1 0)),(8,true,.v (.int .i64 q))],[.arr .lrow (ys) 0 true,.arr .int (((r.take (min q j)) ++ (r.take q).drop (j+1))) 0 true]⟩) (fun q=>q<=n+1) (fun q=>n+1 - q) (0) (nz0 _) ?_ ?_
  ·exact Le.s
  rintro q hq ih2
  try simp only []
  have hlen:((r.take (min q j)) ++ (r.take q).drop (j+1)).length<=8:=by simp;omega
  refine Run.R ?_
  refine Run.c ?_ ?_
  ·intro h2
   have h2:q < n+1:=by simp [hml]at h2;omega
   refine Run.R ?_
   refine Run.c ?_ ?_
   ·intro hqj
    have hqj:q≠j:=fun h=>by simp [h]at hqj
    have e:((r.take (min q j)) ++ (r.take q).drop (j+1)) ++ [r.getD q 0]=(r.take (min (q+1) j)) ++ (r.take (q+1)).drop (j+1):=by
     have h3:=take_snoc 0 r q om
     rcases Nat.lt_or_ge q j with h4 | h4
     ·rw [show min q j=q by omega,show min (q+1) j=q+1 by omega,<- h3]
      rw [List.drop_eq_nil_of_le (by simp;omega),List.drop_eq_nil_of_le (by simp;omega)]
      simp
     ·rw [show min q j=j by omega,show min (q+1) j=j by omega,<- h3,List.append_assoc]
      congr 1
      rw [List.drop_append_of_le_length (by simp;omega)]
    refine Run.R ?_
    rw [hr,e]
    refine Run.RW ?_
    refine Run.k [0,1,4,5,6,7,8] [0,1] ?_
    refine Run.le ?_ (ih2 (q+1) om om)
    exact Le.sub (by rfl) (by simp only [AW7,simprocAttr];try simp)
   ·intro hqj
    have hqj:q=j:=by simp at hqj;omega
    have e:(r.take (min q j)) ++ (r.take q).drop (j+1)=(r.take (min (q+1) j)) ++ (r.take (q+1)).drop (j+1):=by
     rw [show min q j=j by omega,show min (q+1) j=j by omega,List.drop_eq_nil_of_le (by simp;omega),List.drop_eq_nil_of_le (by simp;omega)]
    rw [e]
    refine Run.RW ?_
    refine Run.le ?_ (ih2 (q+1) om om)
    exact Le.sub (by rfl) (by simp only [AW7,simprocAttr];try simp)
  ·intro h2
   have h2:q=n+1:=by simp [hml]at h2;omega
   have e:(r.take (min q j)) ++ (r.take q).drop (j+1)=r.take j ++ r.drop (j+1):=by
    have ht:r.take q=r:=List.take_of_length_le om
    rw [show min q j=j by omega,ht]
   rw [e]
   refine Run.x ?_
   refine Run.g fun K hK=>?_
   intro l hl
   refine wF ?_;clear hK K
   refine Run.RW ?_
   refine Run.k [0,1,4,5,6] [0] ?_
   refine Run.le ?_ (ih (k+1,ys ++ [(l,r.take j ++ r.drop (j+1))]) ⟨h,by simp only [List.map_append,hy,List.map_cons,List.map_nil];rw [<- hgd];exact map_snoc (fun r:List Int=>r.take j ++ r.drop (j+1)) (m.drop 1) [] k om⟩ (by simp only [];omega))
   exact Le.sub (by rfl) (by simp only [AW7,simprocAttr];try simp)
 ·intro h
  have h:k=n:=by simp [hml]at h;omega
  rw [List.take_of_length_le om]at hy
  refine Run.x ?_
  refine Run.R ?_
  refine Run.r [4] ?_
  exact⟨rfl,ys,hy,rfl⟩
theorem c_spec_l4Det (n:Nat):∀(m:LL),n<=4->Sq n m->FunA B 178 [.sl false (.row false) m] (fun rs o=>rs=[.int .i64 (detN n m)]/\o=[]):=by
 induction n with
 | zero=>
  intro m _ hm
  have hm0:m=[]:=nilZ hm.1
  subst hm0
  refine wk Tryz.call178 Tryz.func178 rfl Tryz.ntmps178 fun C hC hP hT hfn hpin hfin hX=>wW ?_
  refine Run.R ?_
  refine Run.R ?_
  refine Run.c ?_ ?_
  ·intro h
   refine Run.R ?_
   refine Run.r [2] ?_
   exact⟨rfl,rfl⟩
  ·intro h
   simp at h
 | succ n ihn=>
  intro m hn hm
  have hml:=hm.1
  refine wk Tryz.call178 Tryz.func178 rfl Tryz.ntmps178 fun C hC hP hT hfn hpin hfin hX=>wW ?_
  refine Run.R ?_
  refine Run.R ?_
  refine Run.c ?_ ?_
  ·intro h
   simp [hml]at h
   omega
  intro h
  clear h
  have hr0:=(det_term hm hn 0 om).2.2.2
  have hS0:detS n m 0=0:=rfl
  refine Run.R ?_
  refine Run.R ?_
  refine Run.le (Le.sub (fr':=[(0,true,.v (.sl false (.row false) m)),(2,true,.v (.int .i64 0)),(3,true,.v (.int .i64 (detS n m 0))),(4,true,.v (.int .i64 (0:Nat)))]) rfl (by simp only [AW7,simprocAttr];simp [hS0])) ?_
  refine Run.loopI (X:=Nat) (fun j=>⟨35,[(0,true,.v (.sl false (.row false) m)),(2,true,.v (.int .i64 0)),(3,true,.v (.int .i64 ((detS n m j)))),(4,true,.v (.int .i64 j))],[]⟩) (fun j=>j<=n+1) (fun j=>n+1 - j) (0) (nz0 _) ?_ ?_
  ·exact Le.s
  rintro j hj ih
  try simp only []
  refine Run.R ?_
  refine Run.c ?_ ?_
  ·intro h
   have h:j < n+1:=by simp [hml]at h;omega
   obtain⟨t1,t2,t3,t4⟩:=det_term hm hn j h
   obtain⟨d1,d2⟩:=detS_le hm hn j om
   obtain⟨e1,e2⟩:=detS_le hm hn (j+1) om
   have hsn:=detS_succ n m j
   have hsq:=hm.minor j h
   have hsc:sgn j=if (j:Int) % 2=1 then -1 else 1:=by unfold sgn;split<;>split<;>first | rfl | omega
   refine Run.nq ?_;refine Run.regionD hC true [0,1,2,3,4,5,6,7,8,9,10,11] (by kernel_rfl) (fun K hK=>?_);simp(disch:=omega) only [wrap_id,AW7,simprocAttr,hX];(repeat(with_reducible refine And.intro ?_ ?_);exact vc0)
   refine FunA.callD hP hT (c_spec_l4Without n j m hn hm h) (by simp only [AW7,simprocAttr]) ?_
   rintro rs o ⟨rfl,ys,hy,rfl⟩
   refine wW ?_
   refine FunA.callD hP hT (ihn (minorL m j) om hsq) (by simp only [AW7,simprocAttr];exact hy.symm) ?_
   rintro rs o ⟨rfl,rfl⟩
   simp(disch:=omega) only [wrap_id,AW7,simprocAttr,hX]
   (repeat(with_reducible refine And.intro ?_ ?_);exact vc0)
   refine wE ?_;clear hK K
   refine Run.keep [0,2,3,4,5] ?_;simp only [AK,Nat.reduceBEq]
   refine Run.R ?_
   refine Run.c ?_ ?_
   ·intro h2
    have h2:(j:Int).tmod 2=1:=by simpa using h2
    rw [Int.tmod_eq_emod_of_nonneg om]at h2
    rw [if_pos h2]at hsc
    rw [hsc,Int.neg_mul,Int.one_mul,Int.neg_mul]at hsn
    refine Run.RW ?_
    refine Run.RW ?_
    rw [show detS n m j+(0 - (m.getD 0 []).getD j 0*detN n (minorL m j))=detS n m (j+1) by rw [hsn];omega]
    refine Run.RW ?_
    refine Run.k [0,2,3,4] [] ?_
    refine Run.le ?_ (ih (j+1) om om)
    exact Le.sub (by rfl) (by simp only [AW7,simprocAttr];try simp)
   ·intro h2
    have h2:¬(j:Int).tmod 2=1:=by simpa using h2
    rw [Int.tmod_eq_emod_of_nonneg om]at h2
    rw [if_neg h2]at hsc
    rw [hsc,Int.one_mul]at hsn
    refine Run.RW ?_
    rw [<- hsn]
    refine Run.RW ?_
    refine Run.k [0,2,3,4] [] ?_
    refine Run.le ?_ (ih (j+1) om om)
    exact Le.sub (by rfl) (by simp only [AW7,simprocAttr];try simp)
  ·intro h
   have h:j=n+1:=by simp [hml]at h;omega
   subst h
   refine Run.x ?_
   refine Run.R ?_
   refine Run.r [2] ?_
   exact⟨rfl,rfl⟩
theorem setL_set:∀ k:Nat,k < 16->∀ i:Nat,i < (setL k).length->0<=(setL k).getD i 0/\(0 < i->(setL k).getD (i - 1) 0 < (setL k).getD i 0):=by decide
theorem setL_setP {n k:Nat} (hn:n<=4) (hk:k < 2 ^ n):setP n (setL k):=by
 have hpw:=pow_le16 n hn
 intro i hi
 obtain⟨h1,h2⟩:=setL_set k om i hi
 exact⟨h1,(setL_letters k om n hn hk _ (getD_mem hi)).2,h2⟩
theorem c_spec_WitnessOf (c:LL):FunA B 141 [.sl false (.row false) c] (fun rs o=>∃ xs,(xs=[]↔∀ k,k < (pmin c).length->0 < (pmin c).getD k 0)/\xs.length<=4/\rs=[.sl true .int xs]/\o=[]):=by
 refine wk Tryz.call141 Tryz.func141 rfl Tryz.ntmps141 fun C hC hP hT hfn hpin hfin hX=>wW ?_
 refine Run.R ?_
 refine Run.g fun K hK=>?_
 refine FunA.e hP hT (c_spec_IsCartan c) ?_
 refine wE ?_;clear hK K
 refine Run.c ?_ ?_
 ·intro hb
  have hb:isC c=false:=by simpa using hb
  have hp:pmin c=[]:=by simp [pmin,hb]
  refine Run.R ?_
  refine Run.le (Le.letgo 0 (g:=0) (e:=.int) (xs:=[]) (nn:=true) [(2,true,.sl true .int [])] rfl ⟨.inr ⟨rfl,rfl⟩,trivial⟩) ?_
  simp only [frV_cons,frV_nil]
  refine Run.k [2] [] ?_
  refine Run.r [2] ?_
  exact⟨[],by simp [hp],by simp,rfl,rfl⟩
 ·intro hb
  have hb:isC c=true:=by simpa using hb
  have hc:=isC_iff.1 hb
  have hn:=hc.2.1
  have hn1:=hc.1
  have hpw:=pow_le16 c.length hn
  have hp1:1<=2 ^ c.length:=Nat.one_le_two_pow
  have hp:pmin c=minors c (2 ^ c.length - 1):=by simp [pmin,hb]
  have hpl:(pmin c).length=2 ^ c.length - 1:=by rw [hp,minors_len]
  refine Run.g fun K hK=>?_
  refine FunA.cW hP hT (c_spec_l4Sets c.length hn) ?_
  rintro rs o ⟨rfl,ys,hy,rfl⟩
  have hyl:ys.length=2 ^ c.length - 1:=by have:=congrArg List.length hy;simpa [setsL_len] using this
  refine wF ?_;clear hK K
  refine Run.R ?_
  refine Run.loopI (X:=Nat) (fun k=>⟨37,[(0,true,.v (.sl false (.row false) c)),(2,true,.v (.nils)),(3,true,.v (.own 0 0)),(4,true,.v (.int .i64 k))],[.arr .lrow (ys) 0 true]⟩) (fun k=>k<=ys.length/\∀ j,j < k->0 < (pmin c).getD j 0) (fun k=>ys.length - k) (0) (⟨nz0 _,fun j hj=>by omega⟩) ?_ ?_
  ·exact Le.s
  rintro k ⟨hk,hpos⟩ ih
  try simp only []
  refine Run.R ?_
  refine Run.c ?_ ?_
  ·intro h
   have h:k < ys.length:=by simpa using h
   obtain⟨l,xs,hlx⟩:∃ l xs,ys.getD k (0,[])=(l,xs):=⟨_,_,rfl⟩
   have hxs:xs=setL (k+1):=by
    have h1:(ys.map (·.2)).getD k []=xs:=by
     have:=congrArg Prod.snd hlx
     simp only [gdE,List.getElem?_map,geE h]at this ⊢
     simpa using this
    rw [hy,setsL_get _ _ om]at h1
    exact h1.symm
   have hset:=setL_setP hn (k:=k+1) om
   have hne:=setL_ne (k+1) om om
   have hsq:=pick_sq hc (set_letters hset)
   have hll:=setL_len (k+1) om
   have hmn:(pmin c).getD k 0=detN (setL (k+1)).length (pick c (setL (k+1))):=by rw [hp,minors_get _ _ _ om];rfl
   subst hxs
   refine Run.g fun K hK=>?_
   simp only [hlx,AW7,simprocAttr,hX]
   (repeat(with_reducible refine And.intro ?_ ?_);exact vc0)
   refine FunA.cW hP hT (c_spec_SubCartan c (setL (k+1)) hc hset hne) ?_
   rintro rs o ⟨rfl,zs,hz,rfl⟩
   refine wF ?_;clear hK K
   refine Run.g fun K hK=>?_
   refine FunA.callW hP hT (c_spec_l4Det (setL (k+1)).length (pick c (setL (k+1))) hll hsq) (by simp only [AW7,simprocAttr];exact hz.symm) ?_
   rintro rs o ⟨rfl,rfl⟩
   refine wF ?_;clear hK K
   rw [<- hmn]
   refine Run.c ?_ ?_
   ·intro h2
    have h2:(pmin c).getD k 0<=0:=by simpa using h2
    refine Run.g fun K hK=>?_
    simp only [hlx,ofE,AW7,simprocAttr,hX]
    (repeat(with_reducible refine And.intro ?_ ?_);exact vc0)
    refine wE ?_;clear hK K
    refine Run.le (Le.re (obs':=[]) hpin [] [(2,true,.sl true .int (setL (k+1)))] rfl trivial (by refine⟨⟨_,rfl,?_⟩,trivial⟩<;>simp [leAV])) ?_
    simp only [frV_cons,frV_nil]
    refine Run.r [2] ?_
    refine⟨_,⟨fun he=>absurd he hne,fun hall=>?_⟩,hll,rfl,rfl⟩
    have:=hall k om
    omega
   ·intro h2
    have h2:0 < (pmin c).getD k 0:=by simp at h2;simpa [gdE] using h2
    refine Run.RW ?_
    refine Run.k [0,2,3,4] [0] ?_
    refine Run.le ?_ (ih (k+1) ⟨h,fun j hj=>by rcases Nat.lt_or_ge j k with q | q;exact hpos j q;rw [show j=k by omega];exact h2⟩ om)
    exact Le.sub (by rfl) (by simp only [AW7,simprocAttr];try simp)
  ·intro h
   have h:k=ys.length:=by simp at h;omega
   subst h
   refine Run.x ?_
   refine Run.R ?_
   refine Run.le (Le.letgo 1 (g:=0) (e:=.int) (xs:=[]) (nn:=true) [(2,true,.sl true .int [])] rfl ⟨.inr ⟨rfl,rfl⟩,trivial⟩) ?_
   simp only [frV_cons,frV_nil]
   refine Run.k [2] [] ?_
   refine Run.r [2] ?_
   exact⟨[],⟨fun _ q hq=>hpos q om,fun _=>rfl⟩,by simp,rfl,rfl⟩
theorem c_spec_IsFinite (c:LL):FunA B 101 [.sl false (.row false) c] (fun rs o=>rs=[.bool (isF c)]/\o=[]):=by
 refine wk Tryz.call101 Tryz.func101 rfl Tryz.ntmps101 fun C hC hP hT hfn hpin hfin hX=>wW ?_
 refine Run.R ?_
 refine Run.g fun K hK=>?_
 refine FunA.e hP hT (c_spec_IsCartan c) ?_
 cases hb:isC c with
 | false=>
  have hf:=isF_not hb
  refine wW ?_
  refine .inl (CallG.off (.sl false .int []) ?_)
  refine wF ?_;clear hK K
  refine Run.r [2] ?_
  simp [hf]
 | true=>
  refine .inr ⟨rfl,?_⟩
  refine FunA.cW hP hT (c_spec_WitnessOf c) ?_
  rintro rs o ⟨xs,hxs,hl,rfl,rfl⟩
  have hf:=isF_pmin hb hxs
  refine wF ?_;clear hK K
  refine Run.k [2] [] ?_
  refine Run.r [2] ?_
  simp [hf]
end Go.Proofs.YtcinngodeoidnaaGreat
