/- Reflections that bring an element nearer to the identity (Carter): the rank of what an element moves. No program is named here. -/
import Derived.Test.YtcinngodeoidnaaGreatDoorB24
import Derived.Test.YtcinngodeoidnaaGreatDoorB16
import Derived.Test.YtcinngodeoidnaaGreatDoorB15
import Derived.Test.YtcinngodeoidnaaGreatDoorB21
import Derived.Test.YtcinngodeoidnaaGreatDoorB13
import Derived.Test.YtcinngodeoidnaaGreatDoorB23
set_option linter.unusedVariables false
set_option linter.unusedSimpArgs false
namespace Go.Proofs.YtcinngodeoidnaaGreatDoor
open Go Go.Aw Go.Cox
def mirF (A:Mat) (n i:Nat) (r:Vec):Vec:=fun k=>if k=i then r i - sumN n (fun j=>A i j*r j)else r k
def actF (A:Mat) (n:Nat) (w:List Nat) (r:Vec):Vec:=w.foldr (mirF A n) r
def lamF (A:Mat) (n:Nat) (r:Vec):Vec:=fun k=>sumN n (fun j=>A k j*r j)
theorem actF_append (A:Mat) (n:Nat) (a b:List Nat) (r:Vec):actF A n (a ++ b) r=actF A n a (actF A n b r):=by simp [actF,List.foldr_append]
theorem actF_cons (A:Mat) (n i:Nat) (w:List Nat) (r:Vec):actF A n (i :: w) r=mirF A n i (actF A n w r):=rfl
theorem mirF_eq (A:Mat) (n i:Nat) (r:Vec) (k:Nat):mirF A n i r k=r k - (if k=i then lamF A n r i else 0):=by
 unfold mirF
 by_cases h:k=i
 ·rw [if_pos h,if_pos h,h];rfl
 ·rw [if_neg h,if_neg h];omega
theorem lamF_lin (A:Mat) (n:Nat) (x y:Int) (u v:Vec) (k:Nat):lamF A n (fun k=>x*u k+y*v k) k=x*lamF A n u k+y*lamF A n v k:=by
 unfold lamF
 rw [<- sumN_mul,<- sumN_mul,<- sumN_add]
 exact sumN_congr n fun j _=>by grind
theorem lamF_congr {A:Mat} {n:Nat} {u v:Vec} (h:∀ k,k < n->u k=v k) (k:Nat):lamF A n u k=lamF A n v k:=sumN_congr n fun j hj=>by rw [h j hj]
theorem mirF_lin (A:Mat) (n i:Nat) (x y:Int) (u v:Vec):mirF A n i (fun k=>x*u k+y*v k)=fun k=>x*mirF A n i u k+y*mirF A n i v k:=by
 funext k
 rw [mirF_eq,mirF_eq,mirF_eq,lamF_lin]
 split<;>grind
theorem actF_lin (A:Mat) (n:Nat) (x y:Int) (u v:Vec):∀ w,actF A n w (fun k=>x*u k+y*v k)=fun k=>x*actF A n w u k+y*actF A n w v k
 | []=>rfl
 | i :: w=>by rw [actF_cons,actF_lin A n x y u v w,mirF_lin];rfl
theorem mirF_congr {A:Mat} {n i:Nat} (hi:i < n) {u v:Vec} (h:∀ k,k < n->u k=v k):∀ k,k < n->mirF A n i u k=mirF A n i v k:=fun k hk=>by
 rw [mirF_eq,mirF_eq,h k hk,lamF_congr h i]
theorem actF_congr {A:Mat} {n:Nat} {u v:Vec} (h:∀ k,k < n->u k=v k):∀(w:List Nat),(∀ i∈w,i < n)->∀ k,k < n->actF A n w u k=actF A n w v k
 | [],_=>h
 | i :: w,hw=>mirF_congr (hw i (mcS ..)) (actF_congr h w fun j hj=>hw j (mcM _ hj))
theorem lamF_mir (A:Mat) {n i:Nat} (hi:i < n) (r:Vec):lamF A n (mirF A n i r)=refl A i (lamF A n r):=by
 funext k
 unfold refl
 show sumN n (fun j=>A k j*mirF A n i r j)=lamF A n r k - lamF A n r i*A k i
 have e:sumN n (fun j=>A k j*(if j=i then lamF A n r i else 0))=lamF A n r i*A k i:=by
  rw [sumN_one n hi (fun j _ hj=>by rw [if_neg hj,Int.mul_zero]),if_pos rfl,Int.mul_comm]
 rw [sumN_congr n (g:=fun j=>A k j*r j+(-1)*(A k j*(if j=i then lamF A n r i else 0))) (fun j _=>by rw [mirF_eq];grind),sumN_add,sumN_mul,e]
 show lamF A n r k+_=_
 omega
theorem mirF_mirF {A:Mat} {n i:Nat} (hA:Cartan A n) (hi:i < n) (r:Vec):mirF A n i (mirF A n i r)=r:=by
 funext k
 rw [mirF_eq,mirF_eq,lamF_mir A hi,refl_self (hA.diag i hi)]
 split<;>omega
theorem actF_rev {A:Mat} {n:Nat} (hA:Cartan A n) (r:Vec):∀(w:List Nat),(∀ i∈w,i < n)->actF A n w.reverse (actF A n w r)=r
 | [],_=>rfl
 | i :: w,hw=>by
  rw [List.reverse_cons,actF_append,actF_cons]
  show actF A n w.reverse (mirF A n i (mirF A n i (actF A n w r)))=r
  rw [mirF_mirF hA (hw i (mcS ..)),actF_rev hA r w fun j hj=>hw j (mcM _ hj)]
theorem actF_rev2 {A:Mat} {n:Nat} (hA:Cartan A n) (r:Vec) (w:List Nat) (hw:∀ i∈w,i < n):actF A n w (actF A n w.reverse r)=r:=by
 have:=actF_rev hA r w.reverse (fun i hi=>hw i (by simpa using hi))
 rwa [List.reverse_reverse]at this
def unitF (i:Nat):Vec:=fun k=>if k=i then 1 else 0
theorem dotL_sum {a r:LI} (h:a.length=r.length):dotL a r=sumN r.length (fun j=>a.getD j 0*r.getD j 0):=by
 have key:∀ k,k<=r.length->dotL (a.take k) (r.take k)=sumN k (fun j=>a.getD j 0*r.getD j 0):=by
  intro k
  induction k with
  | zero=>intro _;rfl
  | succ k ih=>intro hk;rw [dot_snoc a r k om om,ih om];rfl
 have:=key r.length (Nat.le_refl _)
 rwa [tkL,<- h,tkL,h]at this
theorem mir_vec {c:LL} (hc:CartanP c) {i:Int} (hi:0<=i/\i < c.length) {r:LI} (hr:r.length=c.length):vecL (mirL c i r)=mirF (matA c) c.length i.toNat (vecL r):=by
 funext k
 have hrow:=(row_bnd hc (i:=i.toNat) om).2
 unfold mirL mirF
 show(List.set _ _ _).getD k 0=_
 rw [dotL_sum om]
 simp only [List.getD,List.getElem?_set]
 by_cases h:i.toNat=k
 ·subst h
  rw [if_pos rfl,if_pos om,if_pos rfl,hr]
  rfl
 ·rw [if_neg h,if_neg (Ne.symm h)];rfl
theorem actR_vec {c:LL} (hc:CartanP c) {r:LI} (hr:r.length=c.length):∀(w:LI),letters c.length w->vecL (actR c w r)=actF (matA c) c.length (nat w) (vecL r)
 | [],_=>rfl
 | i :: w,hw=>by
  obtain⟨h1,h2⟩:=letters_cons.1 hw
  show vecL (mirL c i (actR c w r))=mirF _ _ _ (actF _ _ (nat w) _)
  rw [mir_vec hc h1 (by rw [actR_len];exact hr),actR_vec hc hr w h2]
theorem vec_sim {n i:Nat} (hi:i < n):vecL (simL n i)=unitF i:=by
 funext k
 unfold simL unitF
 show(List.set _ _ _).getD k 0=_
 simp only [List.getD,List.getElem?_set,List.length_replicate]
 by_cases h:i=k
 ·subst h;simp [hi]
 ·rw [if_neg h,if_neg (Ne.symm h)]
  by_cases hk:k < n
  ·simp [hk]
  ·simp [hk]
theorem actF_same {c:LL} (hc:CartanP c) {a b:LI} (ha:letters c.length a) (hb:letters c.length b) (h:imageL c a=imageL c b) (x:Vec):∀ k,k < c.length->actF (matA c) c.length (nat a) x k=actF (matA c) c.length (nat b) x k:=by
 intro k hk
 have hr:((List.range c.length).map x).length=c.length:=by simp
 have hx:∀ k,k < c.length->x k=vecL ((List.range c.length).map x) k:=fun k hk=>by simp [vecL,hk]
 rw [actF_congr hx (nat a) (letters_nat ha) k hk,actF_congr hx (nat b) (letters_nat hb) k hk,<- actR_vec hc hr a ha,<- actR_vec hc hr b hb,actR_same hc ha hb h hr]
theorem fin_nf {c:LL} (hF:FinP c) {w:LI} (hw:letters c.length w):Nf c (redL c w)/\imageL c (redL c w)=imageL c w:=by
 obtain⟨L,_,_,h⟩:=Far.image hF.1 hw
 have hL:=fin_len hF _ h
 obtain⟨h1,h2,h3⟩:=red_far hF.1 h om
 exact⟨⟨h2,red_eq h3,by omega⟩,h3⟩
section
variable {c:LL} (hF:FinP c)
end
section
variable {c:LL} (hF:FinP c)
theorem actF_zero (A:Mat) (n:Nat) (w:List Nat):actF A n w (fun _=>0)=fun _=>0:=by
 have:=actF_lin A n 0 0 (fun _=>0) (fun _=>0) w
 simpa using this
end
def Mov (c:LL) (w:List Nat) (v:Vec):Prop:=(∃ x:Vec,∀ k,k < c.length->v k=actF (matA c) c.length w x k - x k)/\∀ k,c.length<=k->v k=0
def rkW (c:LL) (w:LI):Nat:=rkG rowI c.length (fxM c w) 0 0
theorem actF_sum (A:Mat) (n:Nat) (w:List Nat) (a:Nat->Int) (f:Nat->Vec):∀ m,actF A n w (fun k=>sumN m (fun i=>a i*f i k))=fun k=>sumN m (fun i=>a i*actF A n w (f i) k)
 | 0=>actF_zero A n w
 | m+1=>by
  have e:(fun k=>sumN (m+1) (fun i=>a i*f i k))=(fun k=>1*sumN m (fun i=>a i*f i k)+a m*f m k):=by funext k;rw [sumN_succ];omega
  rw [e,actF_lin,actF_sum A n w a f m]
  funext k
  simp only []
  rw [sumN_succ];omega
theorem unit_sum (n:Nat) (x:Vec) {k:Nat} (hk:k < n):sumN n (fun i=>x i*unitF i k)=x k:=by
 rw [sumN_one n hk (fun i _ hi=>by unfold unitF;rw [if_neg (Ne.symm hi),Int.mul_zero])]
 simp [unitF]
theorem actF_out (A:Mat) {n:Nat} (x:Vec):∀(w:List Nat),(∀ i∈w,i < n)->∀ k,n<=k->actF A n w x k=x k
 | [],_,_,_=>rfl
 | i :: w,hw,k,hk=>by
  rw [actF_cons,mirF_eq,if_neg (by have:=hw i (mcS ..);omega),actF_out A x w (fun j hj=>hw j (mcM _ hj)) k hk]
  omega
theorem fx_row {c:LL} (hc:CartanP c) {w:LI} (hw:letters c.length w) {i:Nat} (hi:i < c.length) (k:Nat):((fxM c w).getD i []).getD k 0=if k < c.length then actF (matA c) c.length (nat w) (unitF i) k - unitF i k else 0:=by
 have e:(fxM c w).getD i []=fxR c w i:=by simp [fxM,List.getD,hi]
 rw [e]
 by_cases hk:k < c.length
 ·rw [if_pos hk,fxR_get c w hi hk,<- vec_sim hi,<- actR_vec hc (simL_len _ _) w hw]
  rfl
 ·rw [if_neg hk];exact getD_out (by rw [fxR_len];omega)
theorem sp_mov {c:LL} (hc:CartanP c) {w:LI} (hw:letters c.length w) (v:Vec):Sp (fxM c w) v↔Mov c (nat w) v:=by
 have hl:(fxM c w).length=c.length:=by simp [fxM]
 constructor
 ·rintro⟨a,ha⟩
  rw [hl]at ha
  refine⟨⟨a,fun k hk=>?_⟩,fun k hk=>?_⟩
  ·rw [ha k,<- actF_congr (fun k hk=>unit_sum c.length a hk) (nat w) (letters_nat hw) k hk,actF_sum]
   conv=>rhs;rw [<- unit_sum c.length a hk]
   simp only []
   have h3:=sumN_add (fun i=>a i*actF (matA c) c.length (nat w) (unitF i) k) (fun i=>(-1)*(a i*unitF i k)) c.length
   rw [sumN_mul]at h3
   rw [sumN_congr c.length (g:=fun i=>a i*actF (matA c) c.length (nat w) (unitF i) k+(-1)*(a i*unitF i k)) (fun i hi=>by rw [fx_row hc hw hi,if_pos hk];grind),h3]
   omega
  ·rw [ha k]
   exact sumN_zero' _ fun i hi=>by rw [fx_row hc hw hi,if_neg om,Int.mul_zero]
 ·rintro⟨⟨x,hx⟩,hz⟩
  refine⟨x,fun k=>?_⟩
  rw [hl]
  by_cases hk:k < c.length
  ·rw [hx k hk,<- actF_congr (fun k hk=>unit_sum c.length x hk) (nat w) (letters_nat hw) k hk,actF_sum]
   conv=>lhs;rhs;rw [<- unit_sum c.length x hk]
   simp only []
   have h3:=sumN_add (fun i=>x i*actF (matA c) c.length (nat w) (unitF i) k) (fun i=>(-1)*(x i*unitF i k)) c.length
   rw [sumN_mul]at h3
   rw [sumN_congr c.length (f:=fun i=>x i*((fxM c w).getD i []).getD k 0) (g:=fun i=>x i*actF (matA c) c.length (nat w) (unitF i) k+(-1)*(x i*unitF i k)) (fun i hi=>by rw [fx_row hc hw hi,if_pos hk];grind),h3]
   omega
  ·rw [hz k om]
   exact(sumN_zero' _ fun i hi=>by rw [fx_row hc hw hi,if_neg hk,Int.mul_zero]).symm
theorem rk_mov {c:LL} (hc:CartanP c) {w:LI} (hw:letters c.length w):Gen (rkW c w) (Mov c (nat w))/\Ind (rkW c w) (Mov c (nat w)):=by
 have hW:Wid c.length (fxM c w):=fun i hi=>by
  have hi:i < c.length:=by simpa [fxM] using hi
  have e:(fxM c w).getD i []=fxR c w i:=by simp [fxM,List.getD,hi]
  rw [e,fxR_len]
 obtain⟨h1,h2⟩:=rk_gen hW
 exact⟨h1.mono fun v hv=>(sp_mov hc hw v).2 hv,h2.mono fun v hv=>(sp_mov hc hw v).1 hv⟩
section
variable {c:LL} (hF:FinP c)
include hF
theorem rk_conj_le {w u w':LI} (hw:letters c.length w) (hu:letters c.length u) (hw':letters c.length w') (h:∀ x k,k < c.length->actF (matA c) c.length (nat w') x k=actF (matA c) c.length (nat u).reverse (actF (matA c) c.length (nat w) (actF (matA c) c.length (nat u) x)) k):rkW c w'<=rkW c w:=by
 have hc:=hF.1
 have hA:=matA_cartan hc
 have hun:=letters_nat hu
 obtain⟨_,g,hg,hi⟩:=rk_mov hc hw'
 refine steinitz (rk_mov hc hw).1 ⟨fun j=>actF (matA c) c.length (nat u) (g j),fun j hj=>?_,fun x hx j hj=>?_⟩
 ·obtain⟨⟨y,hy⟩,hz⟩:=hg j hj
  refine⟨⟨actF (matA c) c.length (nat u) y,fun k hk=>?_⟩,fun k hk=>(actF_out _ _ _ hun k hk).trans (hz k hk)⟩
  have e1:actF (matA c) c.length (nat u) (g j) k=actF (matA c) c.length (nat u) (fun k=>1*actF (matA c) c.length (nat w') y k+(-1)*y k) k:=actF_congr (fun k hk=>by rw [hy k hk];omega) _ hun k hk
  show actF (matA c) c.length (nat u) (g j) k=_
  rw [e1,actF_lin]
  simp only []
  rw [actF_congr (h y) _ hun k hk,actF_rev2 hA _ _ hun]
  omega
 ·refine hi x (fun k=>?_) j hj
  have h1:actF (matA c) c.length (nat u) (fun k=>sumN (rkW c w') (fun j=>x j*g j k))=fun _=>0:=by
   rw [actF_sum];funext k;exact hx k
  have h2:=congrFun (actF_rev hA (fun k=>sumN (rkW c w') (fun j=>x j*g j k)) (nat u) hun) k
  rw [h1,actF_zero]at h2
  exact h2.symm
end
theorem far_le_negs {c:LL} (hc:CartanP c) {L:Nat} (hF0:Far c L (negs c.length)):∀(M:Nat) {v:LI},Far c M v->M<=L/\Far c (L - M) (negL v):=by
 intro M
 induction M with
 | zero=>
  intro v h
  have:v=ones c.length:=h.zero
  subst this
  refine⟨nz0 _,?_⟩
  have e:negL (ones c.length)=negs c.length:=by simp [negL,ones,negs]
  rw [e];exact hF0
 | succ M ih=>
  intro v h
  rcases fst_of_far hc h with⟨_,h2⟩ | ⟨h1,h2,h3,K,h4,h5⟩
  ·omega
  ·have:K=M:=by omega
   subst this
   obtain⟨i1,i2⟩:=ih h5
   have hvl:v.length=c.length:=h.1
   have hg:(reflL c (fstN v) v).getD (fstN v).toNat 0 = -(v.getD (fstN v).toNat 0):=by
    rw [reflL_get c (fstN v) v (fstN v).toNat om,show ent c (fstN v).toNat (fstN v).toNat=2 from(matA_cartan hc).diag _ om]
    omega
   have hneg:(negL (reflL c (fstN v) v)).getD (fstN v).toNat 0 < 0:=by rw [negL_get,hg];omega
   obtain⟨N,n1,n2⟩:=i2.down hc ⟨h1,h2⟩ hneg
   have hcomm:reflL c (fstN v) (negL (reflL c (fstN v) v))=negL v:=by
    have h7:∀ x:List Int,reflL c (fstN v) (negL x)=negL (reflL c (fstN v) x):=by
     intro x
     apply List.ext_getElem?
     intro k
     by_cases hk:k < x.length
     ·have e1:=reflL_get c (fstN v) (negL x) k (by simpa [negL] using hk)
      have e2:=negL_get (reflL c (fstN v) x) k
      rw [reflL_get c (fstN v) x k hk]at e2
      rw [negL_get,negL_get]at e1
      have e4:(reflL c (fstN v) (negL x)).getD k 0=(negL (reflL c (fstN v) x)).getD k 0:=by rw [e1,e2];grind
      have l1:k < (reflL c (fstN v) (negL x)).length:=by rw [reflL_length];simpa [negL] using hk
      have l2:k < (negL (reflL c (fstN v) x)).length:=by simp only [negL,List.length_map,reflL_length];exact hk
      rw [geE l1,geE l2]
      simpa [gdE,l1,l2] using e4
     ·rw [geN (by rw [reflL_length];simp [negL];omega),geN (by simp only [negL,List.length_map,reflL_length];omega)]
    rw [h7,refl2 hc ⟨h1,h2⟩ hvl]
   rw [hcomm]at n2
   refine⟨by omega,?_⟩
   rw [show L - (K+1)=N by omega]
   exact n2
def capN (c:LL):Bool:=decide (200 < sizeI c) || (decide (imageL c (nfL c 15 (negs c.length))=negs c.length) && (decide ((nfL c 15 (negs c.length)).length<=15) && (nfL c 15 (negs c.length)).all fun i=>decide (0<=i) && decide (i < c.length)))
set_option maxRecDepth 100000 in
theorem cap1:(finM 1).all capN=true:=by decide +kernel
set_option maxRecDepth 100000 in
theorem cap2:(finM 2).all capN=true:=by decide +kernel
set_option maxRecDepth 100000 in
theorem cap3:(finM 3).all capN=true:=by decide +kernel
set_option maxRecDepth 100000 in
theorem cap4:(finM 4).all capN=true:=by decide +kernel
theorem short_all {c:LL} (hF:FinP c) (hs:sizeI c<=200) {w:LI} (hw:w∈allL c):w.length<=15:=by
 have hc:=hF.1
 have h:=fin_chk hF cap1 cap2 cap3 cap4
 unfold capN at h
 rw [decide_eq_false (show ¬200 < sizeI c by omega),Bool.false_or]at h
 simp only [bAnd,dtE,alT]at h
 obtain⟨h1,h2,h3⟩:=h
 have hl:letters c.length (nfL c 15 (negs c.length)):=fun i hi=>h3 i hi
 obtain⟨L,k1,_,k3⟩:=Far.image hc hl
 rw [h1]at k3
 have:=(far_le_negs hc k3 _ (((allL_spec hF).2 w).1 hw |>.far hc)).1
 omega
theorem els_sizeI {c:LL} (h:elsB c 200=true):sizeI c<=200:=by
 unfold elsB at h
 rw [bAnd,dtE]at h
 have e:sizeE c=sizeI c:=by unfold sizeE;rw [if_pos h.1]
 omega
def sumS:List (List Int)->Nat
 | []=>0
 | r :: l=>r.length+sumS l
theorem sumS_app:∀ a b,sumS (a ++ b)=sumS a+sumS b
 | [],b=>by simp [sumS]
 | r :: a,b=>by simp only [List.cons_append,sumS,sumS_app a b];omega
theorem count_mark:∀(l:List Bool) (i:Nat),i < l.length->l.getD i false=false->(l.set i true).count true=l.count true+1
 | [],i,h,_=>by simp at h
 | b :: l,0,_,h=>by simp only [List.getD_cons_zero]at h;subst h;simp
 | b :: l,i+1,h,h2=>by
  simp only [List.getD_cons_succ]at h2
  rw [List.set_cons_succ,List.count_cons,List.count_cons,count_mark l i (by simpa using h) h2];omega
theorem count_all:∀(l:List Bool),(∀ i,i < l.length->l.getD i false=true)->l.count true=l.length
 | [],_=>rfl
 | b :: l,h=>by
  have h0:=h 0 (by simp)
  simp only [List.getD_cons_zero]at h0
  subst h0
  rw [List.count_cons,count_all l (fun i hi=>by have:=h (i+1) (by simpa using hi);simpa using this)];simp
theorem fibres {α β:Type} [DecidableEq β] (f:α->β) (d:Nat):∀(O:List β) (l:List α),O.Nodup->(∀ x∈l,f x∈O)->(∀ y∈O,(l.filter fun x=>decide (f x=y)).length=d)->l.length=O.length*d
 | [],l,_,h,_=>by
  cases l with
  | nil=>simp
  | cons x l=>exact absurd (h x (mcS ..)) (by simp)
 | y :: O,l,hn,h,hd=>by
  obtain⟨n1,n2⟩:=List.nodup_cons.1 hn
  have e1:l.length=(l.filter fun x=>decide (f x=y)).length+(l.filter fun x=>!decide (f x=y)).length:=by
   clear h hd
   induction l with
   | nil=>rfl
   | cons x l ih=>
    by_cases e:f x=y
    ·simp [e];omega
    ·simp [e];omega
  have ih:=fibres f d O (l.filter fun x=>!decide (f x=y)) n2 (fun x hx=>by
   obtain⟨h1,h2⟩:=List.mem_filter.1 hx
   rcases List.mem_cons.1 (h x h1)with e | e
   ·simp [e]at h2
   ·exact e) (fun z hz=>by
   rw [<- hd z (mcM _ hz),List.filter_filter]
   congr 1
   refine List.filter_congr fun x _=>?_
   by_cases e:f x=z
   ·have:f x≠y:=fun e2=>n1 (by rw [<- e2,e];exact hz)
    simp [e];rw [<- e];exact this
   ·simp [e])
  rw [e1,ih,hd y (mcS ..),lenC,Nat.add_mul];omega
section
variable {c:LL} (hF:FinP c)
include hF
theorem ccS_count {k:Int} (hk:0<=k/\k < (allL c).length) {s:Nat} (hs:s < c.length) {st:List Bool×List Int} (h:GoodC (allL c).length st) {m:Nat} (hm:st.1.count true=st.2.length+m):(ccS c (allL c) k st s).1.count true=(ccS c (allL c) k st s).2.length+m:=by
 obtain⟨h1,h2,_⟩:=ixL_mem (cj_mem hF hk hs).1
 have hl:=h.l
 cases e:st.1.getD (cjI c (allL c) k s).toNat false with
 | true=>rw [ccS_seen rfl e];exact hm
 | false=>
  rw [ccS_new rfl e]
  simp only [lenA,lenC,lenN]
  have h2':cjI c (allL c) k s < (allL c).length:=h2
  rw [count_mark _ _ om e,hm];omega
theorem ccK_count {st:List Bool×List Int} (h:GoodC (allL c).length st) {n:Nat} (hn:n < st.2.length) {m:Nat} (hm:st.1.count true=st.2.length+m):(ccK c (allL c) st n).1.count true=(ccK c (allL c) st n).2.length+m:=by
 have hkm:st.2.getD n 0∈st.2:=by rw [gdE,geE hn];exact List.getElem_mem _
 obtain⟨h1,h2,_⟩:=h.mem _ hkm
 unfold ccK
 generalize st.2.getD n 0=k at h1 h2
 have key:∀ j,j<=c.length->GoodC (allL c).length ((List.range j).foldl (ccS c (allL c) k) st)/\((List.range j).foldl (ccS c (allL c) k) st).1.count true=((List.range j).foldl (ccS c (allL c) k) st).2.length+m:=by
  intro j
  induction j with
  | zero=>intro _;exact⟨h,hm⟩
  | succ j ih=>
   intro hj
   obtain⟨i1,i2⟩:=ih om
   rw [foldl_rs]
   exact⟨ccS_good hF ⟨h1,h2⟩ om i1,ccS_count hF ⟨h1,h2⟩ om i1 i2⟩
 exact(key _ (Nat.le_refl _)).2
theorem ccW_count {m:Nat}:∀(f n:Nat) (st:List Bool×List Int),GoodC (allL c).length st->st.1.count true=st.2.length+m->(ccW c (allL c) f n st).1.count true=(ccW c (allL c) f n st).2.length+m
 | 0,_,_,_,h=>h
 | f+1,n,st,h,hm=>by
  unfold ccW
  split
  ·rename_i hn;exact ccW_count f (n+1) _ (ccK_good hF h hn) (ccK_count hF h hn hm)
  ·exact hm
omit hF in
theorem ccS_keep {k:Int} {s:Nat} {st:List Bool×List Int} {j:Nat} (h:st.1.getD j false=true):(ccS c (allL c) k st s).1.getD j false=true:=by
 cases e:st.1.getD (cjI c (allL c) k s).toNat false with
 | true=>rw [ccS_seen rfl e];exact h
 | false=>
  rw [ccS_new rfl e]
  simp only [List.getD,List.getElem?_set]at h ⊢
  split
  ·rename_i e2;subst e2
   split
   ·rfl
   ·rename_i h3;rw [geN om]at h;exact h
  ·exact h
omit hF in
theorem ccK_keep {st:List Bool×List Int} {n j:Nat} (h:st.1.getD j false=true):(ccK c (allL c) st n).1.getD j false=true:=by
 unfold ccK
 generalize st.2.getD n 0=k
 generalize List.range c.length=l
 induction l generalizing st with
 | nil=>exact h
 | cons s l ih=>rw [List.foldl_cons];exact ih (ccS_keep h)
omit hF in
theorem ccW_keep {j:Nat}:∀(f n:Nat) (st:List Bool×List Int),st.1.getD j false=true->(ccW c (allL c) f n st).1.getD j false=true
 | 0,_,_,h=>h
 | f+1,n,st,h=>by
  unfold ccW
  split
  ·exact ccW_keep f (n+1) _ (ccK_keep h)
  ·exact h
theorem ccO_count:∀ k,k<=(allL c).length->∀ st,(List.range k).foldl (ccO c (allL c)) (List.replicate (allL c).length false,[])=st->st.1.length=(allL c).length/\st.1.count true=sumS st.2/\∀ j,j < k->st.1.getD j false=true:=by
 intro k
 induction k with
 | zero=>
  intro _ st h
  simp only [List.range_zero,List.foldl_nil]at h
  rw [<- h]
  simp [sumS,List.count_replicate]
 | succ k ih=>
  intro hk st h
  rw [<- h]
  obtain⟨h1,h2,h3⟩:=ih om _ rfl
  rw [foldl_rs]
  generalize (List.range k).foldl (ccO c (allL c)) (List.replicate (allL c).length false,[])=st at h1 h2 h3 ⊢
  cases hs:st.1.getD k false with
  | true=>
   rw [ccO_seen hs]
   refine⟨h1,h2,fun j hj=>?_⟩
   by_cases e:j=k
   ·rw [e];exact hs
   ·exact h3 j om
  | false=>
   rw [ccO_new hs]
   have hg0:GoodC (allL c).length (st.1.set k true,[(k:Int)]):=by
    refine⟨by simpa using h1,by simp,fun x hx=>?_⟩
    simp at hx;subst hx
    exact⟨by omega,by omega,by rw [Int.toNat_natCast,getD_setB _ _ _ om,if_pos rfl]⟩
   have hg:=ccW_good hF (allL c).length 0 _ hg0
   have hcn:=ccW_count hF (m:=sumS st.2) (allL c).length 0 _ hg0 (by simp only [lenC,lenN];rw [count_mark _ _ om hs,h2];omega)
   have hkp:∀ j,j < k+1->(ccW c (allL c) (allL c).length 0 (st.1.set k true,[(k:Int)])).1.getD j false=true:=fun j hj=>by
    refine ccW_keep _ _ _ ?_
    simp only []
    rw [getD_setB _ _ _ om]
    split
    ·rfl
    ·exact h3 j om
   generalize ccW c (allL c) (allL c).length 0 (st.1.set k true,[(k:Int)])=R at hg hcn hkp ⊢
   refine⟨hg.l,?_,hkp⟩
   simp only []
   rw [sumS_app,hcn]
   simp only [sumS,sortI_len];omega
theorem ccL_sum:sumS (ccL c (allL c))=(allL c).length:=by
 obtain⟨h1,h2,h3⟩:=ccO_count hF _ (Nat.le_refl _) _ rfl
 unfold ccL
 rw [<- h2,count_all _ (fun i hi=>h3 i (by rw [h1]at hi;exact hi)),h1]
end
theorem ex_dedup {β:Type} [DecidableEq β]:∀ l:List β,∃ O:List β,O.Nodup/\∀ x,x∈O↔x∈l
 | []=>⟨[],by simp,by simp⟩
 | y :: l=>by
  obtain⟨O,h1,h2⟩:=ex_dedup l
  by_cases h:y∈O
  ·exact⟨O,h1,fun x=>by
    rw [h2,List.mem_cons]
    constructor
    ·exact .inr
    ·rintro(rfl | hx)
     ·exact(h2 _).1 h
     ·exact hx⟩
  ·exact⟨y :: O,List.nodup_cons.2 ⟨h,h1⟩,fun x=>by rw [List.mem_cons,List.mem_cons,h2]⟩
section
variable {c:LL} (hF:FinP c)
include hF
theorem img_mul {a a' b b':LI} (ha:letters c.length a) (ha':letters c.length a') (h1:imageL c a=imageL c a') (h2:imageL c b=imageL c b'):imageL c (a ++ b)=imageL c (a' ++ b'):=by
 rw [image_append,image_append,h2]
 exact same_elt hF.1 ha ha' h1 (imageL_length c b')
theorem img_rl {g:LI} (hg:letters c.length g) (x:LI):imageL c (g.reverse ++ (g ++ x))=imageL c x:=by
 rw [image_append,image_append]
 exact act_rev hF.1 g hg (imageL_length c x)
theorem img_lr {g:LI} (hg:letters c.length g) (x:LI):imageL c (g ++ (g.reverse ++ x))=imageL c x:=by
 have:=img_rl hF (letters_reverse hg) x
 rwa [List.reverse_reverse]at this
theorem img_red {w:LI} (hw:letters c.length w):imageL c (redL c w)=imageL c w:=(fin_nf hF hw).2
theorem mem_red {w:LI} (hw:letters c.length w):redL c w∈allL c:=((allL_spec hF).2 _).2 (fin_nf hF hw).1
theorem mem_let {w:LI} (hw:w∈allL c):letters c.length w:=(((allL_spec hF).2 w).1 hw).1
theorem mem_self {w:LI} (hw:w∈allL c):redL c w=w:=(((allL_spec hF).2 w).1 hw).2.1
theorem mem_ext {a b:LI} (ha:a∈allL c) (hb:b∈allL c) (h:imageL c a=imageL c b):a=b:=by
 rw [<- mem_self hF ha,<- mem_self hF hb];exact red_eq h
theorem all_nodup:(allL c).Nodup:=List.Pairwise.imp (fun {a b} h e=>by rw [e,cmpW_self]at h;omega) (allL_spec hF).1
theorem nil_mem:[]∈allL c:=((allL_spec hF).2 []).2 ((outS_mem hF.1 (show 0<=30 by omega) []).1 (by simp [outS])).1
theorem fib_le {P Q:List Int->Bool} {u:LI} (hu:letters c.length u) (h:∀ g∈allL c,P g=true->Q (redL c (u ++ g))=true):((allL c).filter P).length<=((allL c).filter Q).length:=by
 have h1:(((allL c).filter P).map fun g=>redL c (u ++ g)).Nodup:=by
  refine nodup_on _ (fun a ha b hb e=>?_) ((all_nodup hF).sublist (List.filter_sublist))
  have ha:=(List.mem_filter.1 ha).1
  have hb:=(List.mem_filter.1 hb).1
  have la:=letters_append.2 ⟨hu,mem_let hF ha⟩
  have lb:=letters_append.2 ⟨hu,mem_let hF hb⟩
  refine mem_ext hF ha hb ?_
  have e2:imageL c (u ++ a)=imageL c (u ++ b):=by rw [<- img_red hF la,<- img_red hF lb,e]
  have e3:=img_mul hF (letters_reverse hu) (letters_reverse hu) rfl e2
  rwa [img_rl hF hu,img_rl hF hu]at e3
 have h2:=nodup_le h1 (b:=(allL c).filter Q) fun x hx=>by
  obtain⟨g,hg,rfl⟩:=List.mem_map.1 hx
  obtain⟨g1,g2⟩:=List.mem_filter.1 hg
  exact List.mem_filter.2 ⟨mem_red hF (letters_append.2 ⟨hu,mem_let hF g1⟩),h g g1 g2⟩
 simpa using h2
def cjW (g w:LI):List Int:=g ++ w ++ g.reverse
omit hF in
theorem cjW_let {g w:LI} (hg:letters c.length g) (hw:letters c.length w):letters c.length (cjW g w):=letters_append.2 ⟨letters_append.2 ⟨hg,hw⟩,letters_reverse hg⟩
theorem cjW_congr {g g' w w':LI} (hg:letters c.length g) (hg':letters c.length g') (hw:letters c.length w) (hw':letters c.length w') (h1:imageL c g=imageL c g') (h2:imageL c w=imageL c w'):imageL c (cjW g w)=imageL c (cjW g' w'):=by
 have hr:imageL c g.reverse=imageL c g'.reverse:=by
  unfold imageL
  exact rev_same hF.1 hg hg' h1 (ones_length _)
 exact img_mul hF (letters_append.2 ⟨hg,hw⟩) (letters_append.2 ⟨hg',hw'⟩) (img_mul hF hg hg' h1 h2) hr
omit hF in
theorem cjW_app (g h w:LI):cjW (g ++ h) w=cjW g (cjW h w):=by simp [cjW]
def cjE (c:LL) (w g:LI):List Int:=redL c (cjW g w)
theorem cjE_mul {w g u:LI} (hw:letters c.length w) (hg:letters c.length g) (hu:letters c.length u):cjE c w (redL c (u ++ g))=redL c (cjW u (cjE c w g)):=by
 have lug:=letters_append.2 ⟨hu,hg⟩
 refine red_eq ?_
 rw [cjW_congr hF (fin_nf hF lug).1.1 lug hw hw (img_red hF lug) rfl,cjW_app]
 exact cjW_congr hF hu hu (cjW_let hg hw) (fin_nf hF (cjW_let hg hw)).1.1 rfl (img_red hF (cjW_let hg hw)).symm
theorem fib_conj {w:LI} (hw:letters c.length w) {g0:LI} (hg0:letters c.length g0) {y:LI} (hy:cjE c w g0=y):((allL c).filter fun g=>decide (cjE c w g=y)).length=((allL c).filter fun g=>decide (cjE c w g=redL c w)).length:=by
 have hcw:∀ {x z:LI},letters c.length x->letters c.length z->redL c (cjW x (redL c z))=redL c (cjW x z):=fun {x z} hx hz=>red_eq (cjW_congr hF hx hx (fin_nf hF hz).1.1 hz rfl (img_red hF hz))
 refine Nat.le_antisymm (fib_le hF (letters_reverse hg0) fun g hg h=>?_) (fib_le hF hg0 fun g hg h=>?_)
 ·have h:cjE c w g=y:=by simpa using h
  have lg:=mem_let hF hg
  rw [dtE,cjE_mul hF hw lg (letters_reverse hg0),h,<- hy]
  unfold cjE
  rw [hcw (letters_reverse hg0) (cjW_let hg0 hw),<- cjW_app]
  refine red_eq ?_
  have e:imageL c (g0.reverse ++ g0)=imageL c []:=by have:=img_rl hF hg0 [];simpa using this
  rw [cjW_congr hF (letters_append.2 ⟨letters_reverse hg0,hg0⟩) (letters_nil _) hw hw e rfl]
  simp [cjW]
 ·have h:cjE c w g=redL c w:=by simpa using h
  have lg:=mem_let hF hg
  rw [dtE,cjE_mul hF hw lg hg0,h,hcw hg0 hw]
  exact hy
def CenP (c:LL) (w:LI):Prop:=∀ s:Nat,s < c.length->imageL c (w ++ [(s:Int)])=imageL c ([(s:Int)] ++ w)
omit hF in
theorem cenE_iff (hc:CartanP c) {w:LI} (hw:letters c.length w) (hl:w.length<=15):cenE c w=true↔CenP c w:=by
 unfold cenE CenP commB
 rw [alT]
 have hwb:wordB c w=true:=wordB_iff.2 ⟨hc,hl,hw⟩
 constructor
 ·intro h s hs
  have:=h s (List.mem_range.2 hs)
  simp only [bAnd]at this
  simpa using this.2
 ·intro h s hs
  have hs:=List.mem_range.1 hs
  have hsb:wordB c [(s:Int)]=true:=wordB_iff.2 ⟨hc,by simp,letter1 hs⟩
  rw [hwb,hsb,h s hs];simp
theorem CenP.congr {a b:LI} (ha:letters c.length a) (hb:letters c.length b) (h:imageL c a=imageL c b) (k:CenP c a):CenP c b:=fun s hs=>by
 rw [<- img_mul hF ha hb h (rfl:imageL c [(s:Int)]=_),k s hs]
 exact img_mul hF (letter1 hs) (letter1 hs) rfl h
theorem CenP.mul {a b:LI} (ha:letters c.length a) (hb:letters c.length b) (h1:CenP c a) (h2:CenP c b):CenP c (a ++ b):=fun s hs=>by
 have l1:letters c.length [(s:Int)]:=letter1 hs
 have e1:imageL c (a ++ b ++ [(s:Int)])=imageL c (a ++ ([(s:Int)] ++ b)):=by
  rw [List.append_assoc];exact img_mul hF ha ha rfl (h2 s hs)
 rw [e1,<- List.append_assoc,img_mul hF (letters_append.2 ⟨ha,l1⟩) (letters_append.2 ⟨l1,ha⟩) (h1 s hs) (rfl:imageL c b=_),List.append_assoc]
theorem CenP.inv {a:LI} (ha:letters c.length a) (h:CenP c a):CenP c a.reverse:=fun s hs=>by
 have l1:letters c.length [(s:Int)]:=letter1 hs
 have hr:=letters_reverse ha
 have e1:imageL c (a.reverse ++ [(s:Int)])=imageL c (a.reverse ++ ([(s:Int)] ++ (a ++ (a.reverse ++ [])))):=img_mul hF hr hr rfl (img_mul hF l1 l1 rfl (img_lr hF ha []).symm)
 have e2:imageL c ([(s:Int)] ++ (a ++ (a.reverse ++ [])))=imageL c (a ++ ([(s:Int)] ++ a.reverse)):=by
  rw [<- List.append_assoc,<- img_mul hF (letters_append.2 ⟨ha,l1⟩) (letters_append.2 ⟨l1,ha⟩) (h s hs) (rfl:imageL c (a.reverse ++ [])=_)]
  simp
 rw [e1,img_mul hF hr hr rfl e2,img_rl hF ha]
theorem cen_div (hs:∀ w∈allL c,w.length<=15):∃ m,(allL c).length=m*((allL c).filter (cenE c)).length:=by
 have hc:=hF.1
 let f:List Int->List (List Int):=fun g=>(allL c).filter fun x=>cenE c (redL c (g.reverse ++ x))
 have hcen:∀ {w:LI},letters c.length w->(cenE c (redL c w)=true↔CenP c w):=fun {w} hw=>by
  have hm:=mem_red hF hw
  rw [cenE_iff hc (mem_let hF hm) (hs _ hm)]
  exact⟨fun h=>CenP.congr hF (mem_let hF hm) hw (img_red hF hw) h,fun h=>CenP.congr hF hw (mem_let hF hm) (img_red hF hw).symm h⟩
 obtain⟨O,hO1,hO2⟩:=ex_dedup ((allL c).map f)
 refine⟨O.length,fibres f _ O (allL c) hO1 (fun x hx=>(hO2 _).2 (List.mem_map.2 ⟨x,hx,rfl⟩)) (fun y hy=>?_)⟩
 obtain⟨g0,hg0,rfl⟩:=List.mem_map.1 ((hO2 _).1 hy)
 have l0:=mem_let hF hg0
 refine Nat.le_antisymm (fib_le hF (letters_reverse l0) fun g hg h=>?_) (fib_le hF l0 fun z hz h=>?_)
 ·have h:f g=f g0:=by simpa using h
  have lg:=mem_let hF hg
  have h1:g∈f g:=List.mem_filter.2 ⟨hg,by
   rw [hcen (letters_append.2 ⟨letters_reverse lg,lg⟩)]
   have e:imageL c (g.reverse ++ g)=imageL c []:=by have:=img_rl hF lg [];simpa using this
   exact CenP.congr hF (letters_nil _) (letters_append.2 ⟨letters_reverse lg,lg⟩) e.symm (fun s _=>by simp)⟩
  rw [h]at h1
  exact(List.mem_filter.1 h1).2
 ·have lz:=mem_let hF hz
  have hzc:CenP c z:=(cenE_iff hc lz (hs z hz)).1 h
  have lgz:=letters_append.2 ⟨l0,lz⟩
  rw [dtE]
  refine List.filter_congr fun x hx=>?_
  have lx:=mem_let hF hx
  have lr:=letters_reverse l0
  have hrr:imageL c (redL c (g0 ++ z)).reverse=imageL c (z.reverse ++ g0.reverse):=by
   rw [<- List.reverse_append]
   unfold imageL
   exact rev_same hF.1 (mem_let hF (mem_red hF lgz)) lgz (img_red hF lgz) (ones_length _)
  have lrr:letters c.length (redL c (g0 ++ z)).reverse:=letters_reverse (mem_let hF (mem_red hF lgz))
  have lzr:letters c.length (z.reverse ++ g0.reverse):=letters_append.2 ⟨letters_reverse lz,lr⟩
  have e1:imageL c ((redL c (g0 ++ z)).reverse ++ x)=imageL c (z.reverse ++ (g0.reverse ++ x)):=by
   rw [<- List.append_assoc];exact img_mul hF lrr lzr hrr rfl
  have la:=letters_append.2 ⟨lrr,lx⟩
  have lb:=letters_append.2 ⟨lr,lx⟩
  have lc:=letters_append.2 ⟨letters_reverse lz,lb⟩
  rw [Bool.eq_iff_iff,hcen la,hcen lb]
  constructor
  ·intro h1
   have h2:=CenP.congr hF la lc e1 h1
   have h3:=CenP.mul hF lz lc hzc h2
   exact CenP.congr hF (letters_append.2 ⟨lz,lc⟩) lb (img_lr hF lz _) h3
  ·intro h1
   exact CenP.congr hF lc la e1.symm (CenP.mul hF (letters_reverse lz) lb (CenP.inv hF lz hzc) h1)
end
theorem ix_gen {l:LL} (hn:l.Nodup) {k:Int} (hk:0<=k/\k < l.length):ixL l (l.getD k.toNat [])=k:=by
 have hlt:k.toNat < l.length:=by omega
 have hm:l.getD k.toNat []∈l:=by rw [gdE,geE hlt];exact List.getElem_mem _
 have e:=(idx_at hlt rfl (fun j hj e=>by
  rw [gdE,gdE,geE hlt,geE om]at e
  have hp:=List.nodup_iff_pairwise_ne.1 hn
  rw [List.pairwise_iff_getElem]at hp
  exact hp j k.toNat om hlt hj (by simpa using e))).2
 unfold ixL
 rw [if_pos hm,e];omega
section
variable {c:LL} (hF:FinP c)
def ClM (c:LL) (b:List Bool):Prop:=∀ j:Nat,j < (allL c).length->b.getD j false=true->∀ s,s < c.length->b.getD (cjI c (allL c) j s).toNat false=true
def elA (c:LL) (k:Int):List Int:=(allL c).getD k.toNat []
theorem elA_mem {k:Int} (hk:0<=k/\k < (allL c).length):elA c k∈allL c:=by
 unfold elA;rw [gdE,geE om];exact List.getElem_mem _
include hF
theorem ix_el {k:Int} (hk:0<=k/\k < (allL c).length):ixL (allL c) (elA c k)=k:=ix_gen (all_nodup hF) hk
theorem cj_el {k:Int} (hk:0<=k/\k < (allL c).length) {s:Nat} (hs:s < c.length):(0<=cjI c (allL c) k s/\cjI c (allL c) k s < (allL c).length)/\elA c (cjI c (allL c) k s)=redL c (cjW [(s:Int)] (elA c k)):=by
 obtain⟨h1,h2,h3⟩:=ixL_mem (cj_mem hF hk hs).1
 exact⟨⟨h1,h2⟩,h3⟩
theorem cj_inv {k:Int} (hk:0<=k/\k < (allL c).length) {s:Nat} (hs:s < c.length):cjI c (allL c) (cjI c (allL c) k s) s=k:=by
 obtain⟨h1,h2⟩:=cj_el hF hk hs
 obtain⟨h3,h4⟩:=cj_el hF h1 hs
 have l1:letters c.length [(s:Int)]:=letter1 hs
 have lk:=mem_let hF (elA_mem hk)
 have lc:=cjW_let l1 lk
 have e:elA c (cjI c (allL c) (cjI c (allL c) k s) s)=elA c k:=by
  refine mem_ext hF (elA_mem h3) (elA_mem hk) ?_
  rw [h4,img_red hF (cjW_let l1 (mem_let hF (elA_mem h1))),h2,cjW_congr hF l1 l1 (fin_nf hF lc).1.1 lc rfl (img_red hF lc),<- cjW_app]
  have e2:imageL c ([(s:Int)] ++ [(s:Int)])=imageL c []:=by have:=img_rl hF l1 [];simpa using this
  rw [cjW_congr hF (letters_append.2 ⟨l1,l1⟩) (letters_nil _) lk lk e2 rfl]
  simp [cjW]
 rw [<- ix_el hF h3,e,ix_el hF hk]
structure Srch (c:LL) (b0:List Bool) (k0:Int) (n:Nat) (st:List Bool×List Int):Prop where
 g:GoodC (allL c).length st
 mks:∀ j:Nat,j < (allL c).length->(st.1.getD j false=true↔b0.getD j false=true\/(j:Int)∈st.2)
 dis:∀ x∈st.2,b0.getD x.toNat false=false
 ok:∀ m,m < n->m < st.2.length->∀ s,s < c.length->st.1.getD (cjI c (allL c) (st.2.getD m 0) s).toNat false=true
 rch:∀ x∈st.2,∃ g,letters c.length g/\elA c x=cjE c (elA c k0) g
 k0:k0∈st.2
 nle:n<=st.2.length
theorem Srch.step {b0:List Bool} {k0:Int} (hk0:0<=k0/\k0 < (allL c).length) {n:Nat} {st:List Bool×List Int} (h:Srch c b0 k0 n st) {k:Int} (hk:k∈st.2) {s:Nat} (hs:s < c.length) :
  Srch c b0 k0 n (ccS c (allL c) k st s)/\(∀ m,m < st.2.length->(ccS c (allL c) k st s).2.getD m 0=st.2.getD m 0)/\st.2.length<=(ccS c (allL c) k st s).2.length/\(ccS c (allL c) k st s).1.getD (cjI c (allL c) k s).toNat false=true:=by
 obtain⟨hk1,hk2,_⟩:=h.g.mem k hk
 obtain⟨⟨c1,c2⟩,c3⟩:=cj_el hF ⟨hk1,hk2⟩ hs
 have hg:=ccS_good hF ⟨hk1,hk2⟩ hs h.g
 have hl:=h.g.l
 cases e:st.1.getD (cjI c (allL c) k s).toNat false with
 | true=>rw [ccS_seen rfl e];exact⟨h,fun _ _=>rfl,Nat.le_refl _,e⟩
 | false=>
  rw [ccS_new rfl e]at hg ⊢
  generalize hx:cjI c (allL c) k s=x at *
  have hb0:b0.getD x.toNat false=false:=by
   cases hb:b0.getD x.toNat false
   ·rfl
   ·rw [(h.mks x.toNat om).2 (.inl hb)]at e;cases e
  have hap:∀ m,m < st.2.length->(st.2 ++ [x]).getD m 0=st.2.getD m 0:=fun m hm=>getD_appL hm
  refine⟨⟨hg,fun j hj=>?_,fun y hy=>?_,fun m hm hml t ht=>?_,fun y hy=>?_,List.mem_append_left _ h.k0,by have:=h.nle;simp only [lenA];omega⟩,hap,by simp only [lenA];omega,?_⟩
  ·simp only []
   rw [getD_setB _ _ _ om,List.mem_append,List.mem_singleton]
   by_cases ej:j=x.toNat
   ·rw [if_pos ej]
    have:(j:Int)=x:=by omega
    simp [this]
   ·rw [if_neg ej,h.mks j hj]
    have:¬(j:Int)=x:=by omega
    simp [this]
  ·rcases List.mem_append.1 hy with hy | hy
   ·exact h.dis y hy
   ·rw [List.mem_singleton]at hy;rw [hy];exact hb0
  ·have hml':m < st.2.length:=by have:=h.nle;omega
   simp only []
   rw [hap m hml',getD_setB _ _ _ om]
   split
   ·rfl
   ·exact h.ok m hm hml' t ht
  ·rcases List.mem_append.1 hy with hy | hy
   ·exact h.rch y hy
   ·rw [List.mem_singleton]at hy;rw [hy]
    obtain⟨g,g1,g2⟩:=h.rch k hk
    have l1:letters c.length [(s:Int)]:=letter1 hs
    have lw:=mem_let hF (elA_mem hk0)
    refine⟨[(s:Int)] ++ g,letters_append.2 ⟨l1,g1⟩,?_⟩
    rw [c3,g2]
    unfold cjE
    have lcg:=cjW_let g1 lw
    rw [cjW_app]
    exact red_eq (cjW_congr hF l1 l1 (fin_nf hF lcg).1.1 lcg rfl (img_red hF lcg))
  ·simp only []
   rw [getD_setB _ _ _ om,if_pos rfl]
theorem Srch.elem {b0:List Bool} {k0:Int} (hk0:0<=k0/\k0 < (allL c).length) {n:Nat} {st:List Bool×List Int} (h:Srch c b0 k0 n st) (hn:n < st.2.length):Srch c b0 k0 (n+1) (ccK c (allL c) st n):=by
 have hkm:st.2.getD n 0∈st.2:=by rw [gdE,geE hn];exact List.getElem_mem _
 have key:∀ i,i<=c.length->∀ z,(List.range i).foldl (ccS c (allL c) (st.2.getD n 0)) st=z->Srch c b0 k0 n z/\(∀ m,m < st.2.length->z.2.getD m 0=st.2.getD m 0)/\st.2.length<=z.2.length/\∀ s,s < i->z.1.getD (cjI c (allL c) (st.2.getD n 0) s).toNat false=true:=by
  intro i
  induction i with
  | zero=>intro _ z hz;simp only [List.range_zero,List.foldl_nil]at hz;rw [<- hz];exact⟨h,fun _ _=>rfl,Nat.le_refl _,fun s hs=>by omega⟩
  | succ i ih=>
   intro hi z hz
   obtain⟨i1,i2,i3,i4⟩:=ih om _ rfl
   rw [foldl_rs]at hz
   generalize (List.range i).foldl (ccS c (allL c) (st.2.getD n 0)) st=y at i1 i2 i3 i4 hz
   have hky:st.2.getD n 0∈y.2:=by
    rw [<- i2 n hn,gdE,geE om];exact List.getElem_mem _
   obtain⟨s1,s2,s3,s4⟩:=i1.step hF hk0 hky (show i < c.length by omega)
   rw [<- hz]
   refine⟨s1,fun m hm=>by rw [s2 m om,i2 m hm],by omega,fun s hs=>?_⟩
   by_cases e:s=i
   ·rw [e];exact s4
   ·exact ccS_keep (i4 s om)
 obtain⟨k1,k2,k3,k4⟩:=key c.length (Nat.le_refl _) _ rfl
 have e:ccK c (allL c) st n=(List.range c.length).foldl (ccS c (allL c) (st.2.getD n 0)) st:=rfl
 rw [e]
 generalize (List.range c.length).foldl (ccS c (allL c) (st.2.getD n 0)) st=z at k1 k2 k3 k4
 refine⟨k1.g,k1.mks,k1.dis,fun m hm hml s hs=>?_,k1.rch,k1.k0,by omega⟩
 by_cases e:m=n
 ·rw [e,k2 n hn];exact k4 s hs
 ·exact k1.ok m om hml s hs
theorem Srch.all {b0:List Bool} {k0:Int} (hk0:0<=k0/\k0 < (allL c).length):∀(f n:Nat) (st:List Bool×List Int),Srch c b0 k0 n st->(allL c).length<=n+f->∃ n',Srch c b0 k0 n' (ccW c (allL c) f n st)/\(ccW c (allL c) f n st).2.length<=n'
 | 0,n,st,h,hf=>⟨n,h,by have:=h.g.len;show st.2.length<=n;omega⟩
 | f+1,n,st,h,hf=>by
  unfold ccW
  split
  ·rename_i hn;exact Srch.all hk0 f (n+1) _ (h.elem hF hk0 hn) om
  ·rename_i hn;exact⟨n,h,by omega⟩
theorem class_div {b0:List Bool} (hb:b0.length=(allL c).length) (hcl:ClM c b0) {k:Nat} (hk:k < (allL c).length) (hf:b0.getD k false=false) {R:List Bool×List Int} (hR:ccW c (allL c) (allL c).length 0 (b0.set k true,[(k:Int)])=R) :
  ClM c R.1/\∃ d,(allL c).length=R.2.length*d:=by
 have hk0:(0:Int)<=(k:Int)/\(k:Int) < (allL c).length:=⟨by omega,by omega⟩
 have hg0:GoodC (allL c).length (b0.set k true,[(k:Int)]):=by
  refine⟨by simpa using hb,by simp,fun x hx=>?_⟩
  simp at hx;subst hx
  exact⟨by omega,by omega,by rw [Int.toNat_natCast,getD_setB _ _ _ om,if_pos rfl]⟩
 have hS0:Srch c b0 k 0 (b0.set k true,[(k:Int)]):=by
  refine⟨hg0,fun j hj=>?_,fun x hx=>?_,fun m hm=>by omega,fun x hx=>?_,by simp,nz0 _⟩
  ·simp only []
   rw [getD_setB _ _ _ om,List.mem_singleton]
   by_cases e:j=k
   ·simp [e]
   ·rw [if_neg e]
    have:¬(j:Int)=k:=by omega
    simp [this]
  ·simp at hx;subst hx;rw [Int.toNat_natCast];exact hf
  ·simp at hx;subst hx
   refine⟨[],letters_nil _,?_⟩
   unfold cjE
   simp only [cjW,List.nil_append,List.reverse_nil,List.append_nil]
   exact(mem_self hF (elA_mem hk0)).symm
 obtain⟨n',hS,hn'⟩:=Srch.all hF hk0 (allL c).length 0 _ hS0 om
 rw [hR]at hS hn'
 have hmem:∀ x∈R.2,∀ s,s < c.length->cjI c (allL c) x s∈R.2:=fun x hx s hs=>by
  obtain⟨h1,h2,_⟩:=hS.g.mem x hx
  obtain⟨⟨c1,c2⟩,_⟩:=cj_el hF ⟨h1,h2⟩ hs
  obtain⟨m,hm,hmx⟩:=List.getElem_of_mem hx
  have hgm:R.2.getD m 0=x:=by rw [gdE,geE hm];exact hmx
  have h3:=hS.ok m om hm s hs
  rw [hgm]at h3
  have e:((cjI c (allL c) x s).toNat:Int)=cjI c (allL c) x s:=by omega
  rcases(hS.mks _ om).1 h3 with h4 | h4
  ·exfalso
   have h5:=hcl _ (show(cjI c (allL c) x s).toNat < (allL c).length by omega) h4 s hs
   rw [e,cj_inv hF ⟨h1,h2⟩ hs,hS.dis x hx]at h5
   cases h5
  ·rwa [e]at h4
 refine⟨fun j hj hjm s hs=>?_,?_⟩
 ·obtain⟨⟨c1,c2⟩,_⟩:=cj_el hF (k:=j) ⟨by omega,by omega⟩ hs
  rcases(hS.mks j hj).1 hjm with h | h
  ·exact(hS.mks _ om).2 (.inl (hcl j hj h s hs))
  ·refine(hS.mks _ om).2 (.inr ?_)
   rw [show((cjI c (allL c) j s).toNat:Int)=cjI c (allL c) j s by omega]
   exact hmem _ h s hs
 ·have lw:=mem_let hF (elA_mem hk0)
  have hin:∀(g:LI),letters c.length g->ixL (allL c) (cjE c (elA c k) g)∈R.2:=by
   intro g
   induction g with
   | nil=>
    intro _
    have e:cjE c (elA c k) []=elA c k:=by
     unfold cjE
     simp only [cjW,List.nil_append,List.reverse_nil,List.append_nil]
     exact mem_self hF (elA_mem hk0)
    rw [e,ix_el hF hk0];exact hS.k0
   | cons i g ih=>
    intro hg
    obtain⟨h1,h2⟩:=letters_cons.1 hg
    obtain⟨s,rfl⟩:∃ s:Nat,i=s:=⟨i.toNat,by omega⟩
    have hs:s < c.length:=by omega
    have hx:=ih h2
    have lcg:=cjW_let h2 lw
    have hm:=mem_red hF lcg
    obtain⟨q1,q2,q3⟩:=ixL_mem hm
    have hr:=hmem _ hx s hs
    obtain⟨d1,d2⟩:=cj_el hF (k:=ixL (allL c) (cjE c (elA c k) g)) ⟨q1,q2⟩ hs
    have e:cjE c (elA c k) ((s:Int) :: g)=elA c (cjI c (allL c) (ixL (allL c) (cjE c (elA c k) g)) s):=by
     rw [d2]
     have e3:elA c (ixL (allL c) (cjE c (elA c k) g))=cjE c (elA c k) g:=q3
     rw [e3]
     unfold cjE
     rw [show(s:Int) :: g=[(s:Int)] ++ g from rfl,cjW_app]
     exact red_eq (cjW_congr hF (letter1 hs) (letter1 hs) lcg (fin_nf hF lcg).1.1 rfl (img_red hF lcg).symm)
    rw [e,ix_el hF d1];exact hr
  refine⟨((allL c).filter fun g=>decide (cjE c (elA c k) g=redL c (elA c k))).length,fibres (fun g=>ixL (allL c) (cjE c (elA c k) g)) _ R.2 (allL c) hS.g.nd (fun g hg=>hin g (mem_let hF hg)) (fun y hy=>?_)⟩
  obtain⟨h1,h2,_⟩:=hS.g.mem y hy
  obtain⟨g0,hg0,he⟩:=hS.rch y hy
  rw [<- fib_conj hF lw hg0 he.symm]
  refine congrArg List.length (List.filter_congr fun g hg=>?_)
  rw [decide_eq_decide]
  constructor
  ·intro e
   have hm:=mem_red hF (cjW_let (mem_let hF hg) lw)
   obtain⟨_,_,q3⟩:=ixL_mem hm
   have e4:elA c (ixL (allL c) (cjE c (elA c k) g))=cjE c (elA c k) g:=q3
   rw [<- e4,e]
  ·intro e
   rw [e,ix_el hF ⟨h1,h2⟩]
theorem ccO_div:∀ k,k<=(allL c).length->∀ st,(List.range k).foldl (ccO c (allL c)) (List.replicate (allL c).length false,[])=st->ClM c st.1/\∀ r∈st.2,∃ d,(allL c).length=r.length*d:=by
 intro k
 induction k with
 | zero=>
  intro _ st h
  simp only [List.range_zero,List.foldl_nil]at h
  rw [<- h]
  refine⟨fun j hj hjm=>?_,fun r hr=>by cases hr⟩
  simp [gdE,List.getElem?_replicate,hj]at hjm
 | succ k ih=>
  intro hk st h
  rw [<- h]
  obtain⟨h1,h2⟩:=ih om _ rfl
  obtain⟨l1,_,_⟩:=ccO_count hF k om _ rfl
  rw [foldl_rs]
  generalize (List.range k).foldl (ccO c (allL c)) (List.replicate (allL c).length false,[])=st at h1 h2 l1 ⊢
  cases hs:st.1.getD k false with
  | true=>rw [ccO_seen hs];exact⟨h1,h2⟩
  | false=>
   rw [ccO_new hs]
   obtain⟨d1,d,d2⟩:=class_div hF l1 h1 (show k < (allL c).length by omega) hs rfl
   generalize ccW c (allL c) (allL c).length 0 (st.1.set k true,[(k:Int)])=R at d1 d2 ⊢
   refine⟨d1,fun r hr=>?_⟩
   rcases List.mem_append.1 hr with hr | hr
   ·exact h2 r hr
   ·rw [List.mem_singleton]at hr;rw [hr]
    exact⟨d,by rw [sortI_len];exact d2⟩
theorem ccL_div:∀ r∈ccL c (allL c),∃ d,(allL c).length=r.length*d:=(ccO_div hF _ (Nat.le_refl _) _ rfl).2
end
end Go.Proofs.YtcinngodeoidnaaGreatDoor
