/- Matrices with positive minors: the longest element, the order of the product of all letters, the roots. -/
import Derived.Test.YtcinngodeoidnaaGreatB11
import Derived.Test.YtcinngodeoidnaaGreatB12
import Derived.WalkKit
import Derived.Lib.Walk
import Derived.Lib.SliceRun
import Derived.Lib.AppendZeros
import Derived.Test.YtcinngodeoidnaaGreatB9
set_option linter.unusedVariables false
set_option linter.unusedSimpArgs false
namespace Go.Proofs.YtcinngodeoidnaaGreat
open Go Go.Aw Go.Cox
def minorL (m:LL) (j:Nat):List (List Int):=(m.drop 1).map fun r=>r.take j ++ r.drop (j+1)
def detN:Nat->List (List Int)->Int
 | 0,_=>1
 | n+1,m=>(List.range (n+1)).foldl (fun s j=>s+(if j % 2=1 then -1 else 1)*(m.getD 0 []).getD j 0*detN n (minorL m j)) 0
def pick (c:LL) (s:LI):List (List Int):=s.map fun i=>s.map fun j=>ent c i.toNat j.toNat
def setL (k:Nat):List Int:=((List.range 4).filter fun i=>k.testBit i).map Int.ofNat
def mn (c:LL) (k:Nat):Int:=detN (setL k).length (pick c (setL k))
def FinP (c:LL):Prop:=CartanP c/\∀ k,1<=k->k < 2 ^ c.length->0 < mn c k
def coxW (n:Nat):List Int:=(List.range n).map Int.ofNat
def itW (c:LL) (w:LI):Nat->List Int->List Int
 | 0,v=>v
 | n+1,v=>itW c w n (actL c w v)
def negs (n:Nat):List Int:=List.replicate n (-1)
def dotL:List Int->List Int->Int
 | x :: a,y :: b=>x*y+dotL a b
 | _,_=>0
def mirL (c:LL) (i:Int) (r:LI):List Int:=r.set i.toNat (r.getD i.toNat 0 - dotL (c.getD i.toNat []) r)
def simL (n:Nat) (i:Nat):List Int:=(List.replicate n 0).set i 1
theorem inN_eq:∀(n:Nat) (l:List Nat),inN n l=l.getD n 0
 | _,[]=>by simp [inN]
 | 0,_ :: _=>rfl
 | n+1,_ :: l=>by simp only [inN,List.getD_cons_succ];exact inN_eq n l
theorem inL_eq:∀(n:Nat) (l:List (List Nat)),inL n l=l.getD n []
 | _,[]=>by simp [inL]
 | 0,_ :: _=>rfl
 | n+1,_ :: l=>by simp only [inL,List.getD_cons_succ];exact inL_eq n l
theorem inP_eq:∀(n:Nat) (l:List (Nat×Nat)),inP n l=l.getD n (0,0)
 | _,[]=>by simp [inP]
 | 0,_ :: _=>rfl
 | n+1,_ :: l=>by simp only [inP,List.getD_cons_succ];exact inP_eq n l
def dec (v:List (Nat×Nat)):List Int:=v.map fun x=>(x.1:Int) - x.2
theorem dec_length (v:List (Nat×Nat)):(dec v).length=v.length:=by simp [dec]
theorem dec_get (v:List (Nat×Nat)) (k:Nat):(dec v).getD k 0=((v.getD k (0,0)).1:Int) - (v.getD k (0,0)).2:=by
 simp only [dec,gdE,List.getElem?_map]
 cases v[k]?<;>simp
structure Fits (c:LL) (cols rows:List (List Nat)):Prop where
 cl:cols.length=c.length
 rl:rows.length=c.length
 cr:∀ i,i < c.length->(cols.getD i []).length=c.length/\(rows.getD i []).length=c.length/\(rows.getD i []).getD i 0=0
 ce:∀ i k,i < c.length->k < c.length->k≠i->ent c k i = -((cols.getD i []).getD k 0:Nat)/\ent c i k = -((rows.getD i []).getD k 0:Nat)
theorem rpV_len (a:Nat×Nat) (i:Nat):∀(v:List (Nat×Nat)) (k:Nat) (col:List Nat),v.length<=col.length->(rpV a i k v col).length=v.length
 | [],k,col,_=>by cases col<;>rfl
 | x :: v,k,[],h=>by simp at h
 | x :: v,k,b :: col,h=>by simp only [rpV,lenC];rw [rpV_len a i v (k+1) col (by simpa using h)]
theorem rpV_get (a:Nat×Nat) (i:Nat):∀(v:List (Nat×Nat)) (k:Nat) (col:List Nat),v.length<=col.length->∀ j,j < v.length ->
  (dec (rpV a i k v col)).getD j 0=if k+j=i then -(dec v).getD j 0 else(dec v).getD j 0+((a.1:Int) - a.2)*(col.getD j 0:Nat)
 | [],k,col,_,j,hj=>by simp at hj
 | x :: v,k,[],h,_,_=>by simp at h
 | x :: v,k,b :: col,h,0,_=>by
  simp only [rpV,dec,List.map_cons,List.getD_cons_zero,Nat.add_zero]
  by_cases hk:k=i
  ·subst hk
   simp
   omega
  ·have:Nat.beq k i=false:=by
    cases hb:Nat.beq k i with
    | false=>rfl
    | true=>exact absurd (Nat.eq_of_beq_eq_true hb) hk
   rw [this,if_neg hk]
   simp only [cond_false,Nat.add_eq,Nat.mul_eq]
   push_cast
   grind
 | x :: v,k,b :: col,h,j+1,hj=>by
  have ih:=rpV_get a i v (k+1) col (by simpa using h) j (by simpa using hj)
  simp only [rpV,dec,List.map_cons,List.getD_cons_succ]at ih ⊢
  rw [ih]
  have:(k+1+j=i)=(k+(j+1)=i):=by apply propext;omega
  simp only [this]
section
variable {c:LL} {cols rows:List (List Nat)} (hc:CartanP c) (hf:Fits c cols rows)
include hc hf
theorem rf_dec {i:Nat} (hi:i < c.length) {v:List (Nat×Nat)} (hv:v.length=c.length):dec (rfV cols i v)=reflL c i (dec v)/\(rfV cols i v).length=c.length:=by
 have hcl:=(hf.cr i hi).1
 have hl:(rfV cols i v).length=c.length:=by
  unfold rfV
  rw [rpV_len _ _ _ _ _ (by rw [inL_eq,hcl,hv];exact Nat.le_refl _),hv]
 refine⟨?_,hl⟩
 apply List.ext_getElem?
 intro k
 by_cases hk:k < c.length
 ·have h1:=rpV_get (inP i v) i v 0 (inL i cols) (by rw [inL_eq,hcl,hv];exact Nat.le_refl _) k om
  have h2:=reflL_get c i (dec v) k (by rw [dec_length,hv];exact hk)
  have h3:(dec (rfV cols i v)).getD k 0=(reflL c i (dec v)).getD k 0:=by
   rw [h2]
   show(dec (rpV (inP i v) i 0 v (inL i cols))).getD k 0=_
   rw [h1,inL_eq,inP_eq,<- dec_get]
   rw [Int.toNat_natCast]
   by_cases hki:k=i
   ·subst hki
    have h2:ent c k k=2:=(matA_cartan hc).diag k hk
    rw [if_pos om,h2]
    omega
   ·rw [if_neg om,(hf.ce i k hi hk hki).1]
    grind
  rw [gdE,gdE,geE (by rw [dec_length,hl];exact hk),geE (by rw [reflL_length,dec_length,hv];exact hk)]at h3
  rw [geE (by rw [dec_length,hl];exact hk),geE (by rw [reflL_length,dec_length,hv];exact hk)]
  simpa using h3
 ·rw [geN (by rw [dec_length,hl];omega),geN (by rw [reflL_length,dec_length,hv];omega)]
omit hc hf in
theorem fnV_lt:∀(v:List (Nat×Nat)) (k i:Nat),fnV v k=some i->i < k+v.length
 | [],k,i,h=>by simp [fnV]at h
 | x :: v,k,i,h=>by
  simp only [fnV]at h
  cases hb:Nat.ble x.2 x.1 with
  | true=>
   rw [hb]at h
   have:=fnV_lt v (k+1) i h
   simp only [lenC]
   omega
  | false=>
   rw [hb]at h
   simp at h
   simp only [lenC]
   omega
omit hc hf in
theorem onV_dec:∀(v:List (Nat×Nat)),onV v=true->dec v=ones v.length
 | [],_=>rfl
 | x :: v,h=>by
  simp only [onV,bAnd]at h
  have h1:=Nat.eq_of_beq_eq_true h.1
  have h2:=onV_dec v h.2
  simp only [dec,List.map_cons,lenC,ones,List.replicate_succ]at h2 ⊢
  rw [h2]
  congr 1
  simp only [Nat.add_eq]at h1
  omega
theorem plV_spec:∀(f:Nat) (v:List (Nat×Nat)),v.length=c.length->plV cols f v=true->∃ w:List Int,letters c.length w/\w.length<=f/\imageL c w=dec v
 | 0,v,hv,h=>⟨[],letters_nil _,Nat.le_refl _,by rw [onV_dec v h,hv];rfl⟩
 | f+1,v,hv,h=>by
  simp only [plV]at h
  cases hfn:fnV v 0 with
  | none=>
   rw [hfn]at h
   exact⟨[],letters_nil _,by simp,by rw [onV_dec v h,hv];rfl⟩
  | some i=>
   rw [hfn]at h
   have hi:i < c.length:=by have:=fnV_lt v 0 i hfn;omega
   obtain⟨r1,r2⟩:=rf_dec hc hf hi hv
   obtain⟨w,w1,w2,w3⟩:=plV_spec f _ r2 h
   refine⟨(i:Int) :: w,letters_cons.2 ⟨⟨by omega,by omega⟩,w1⟩,by simpa using w2,?_⟩
   rw [image_cons,w3,r1]
   exact refl2 hc ⟨by omega,by omega⟩ (by rw [dec_length,hv])
omit hc hf in
theorem coxW_succ (n:Nat):coxW (n+1)=coxW n ++ [(n:Int)]:=by simp [coxW,List.range_succ]
theorem cxV_spec:∀(m:Nat),m<=c.length->∀(v:List (Nat×Nat)),v.length=c.length->dec (cxV cols m v)=actL c (coxW m) (dec v)/\(cxV cols m v).length=c.length
 | 0,_,v,hv=>⟨rfl,hv⟩
 | m+1,hm,v,hv=>by
  obtain⟨r1,r2⟩:=rf_dec hc hf (i:=m) om hv
  obtain⟨s1,s2⟩:=cxV_spec m om _ r2
  refine⟨?_,s2⟩
  rw [coxW_succ,actL_append]
  show dec (cxV cols m (rfV cols m v))=_
  rw [s1,r1]
  rfl
theorem orV_spec:∀(f:Nat) (v:List (Nat×Nat)),v.length=c.length->orV cols c.length f v=true->∃ k,1<=k/\k<=f/\itW c (coxW c.length) k (dec v)=ones c.length
 | 0,v,hv,h=>by simp [orV]at h
 | f+1,v,hv,h=>by
  obtain⟨s1,s2⟩:=cxV_spec hc hf c.length (Nat.le_refl _) v hv
  simp only [orV,Bool.or_eq_true]at h
  rcases h with h | h
  ·refine⟨1,Nat.le_refl _,by omega,?_⟩
   show actL c (coxW c.length) (dec v)=_
   rw [<- s1,onV_dec _ h,s2]
  ·obtain⟨k,k1,k2,k3⟩:=orV_spec f _ s2 h
   refine⟨k+1,by omega,by omega,?_⟩
   show itW c (coxW c.length) k (actL c (coxW c.length) (dec v))=_
   rw [<- s1];exact k3
omit hc hf in
theorem eqR_iff:∀(a b:List Nat),eqR a b=true↔a=b
 | [],[]=>by simp [eqR]
 | [],_ :: _=>by simp [eqR]
 | _ :: _,[]=>by simp [eqR]
 | x :: a,y :: b=>by
  simp only [eqR,bAnd,List.cons.injEq,eqR_iff a b]
  constructor
  ·rintro⟨h1,h2⟩;exact⟨Nat.eq_of_beq_eq_true h1,h2⟩
  ·rintro⟨rfl,h2⟩;exact⟨Nat.beq_refl x,h2⟩
omit hc hf in
theorem hasR_mem (r:List Nat):∀(l:List (List Nat)),hasR r l=true->r∈l
 | [],h=>by simp [hasR]at h
 | s :: l,h=>by
  simp only [hasR,Bool.or_eq_true]at h
  rcases h with h | h
  ·rw [(eqR_iff r s).1 h];exact mcS ..
  ·exact mcM _ (hasR_mem r l h)
omit hc hf in
theorem stR_eq:∀(n y:Nat) (l:List Nat),stR n y l=l.set n y
 | _,_,[]=>by simp [stR]
 | 0,_,_ :: _=>rfl
 | n+1,y,x :: l=>by simp only [stR,List.set_cons_succ];rw [stR_eq n y l]
def rZ (r:List Nat):List Int:=r.map Int.ofNat
def negL (r:LI):List Int:=r.map (- ·)
omit hc hf in
theorem rZ_unR (n i:Nat):rZ (unR n i)=simL n i:=by
 simp [rZ,unR,stR_eq,simL,List.map_set]
omit hc hf in
theorem rZ_get (r:List Nat) (i:Nat):(rZ r).getD i 0=(r.getD i 0:Nat):=by
 simp only [rZ,gdE,List.getElem?_map]
 cases r[i]?<;>simp
omit hc hf in
theorem okR_get (P:List (List Nat)) (n:Nat) (r:List Nat):∀(i:Nat) (rows:List (List Nat)),okR P n r i rows=true->∀ j,j < rows.length ->
  r=unR n (i+j)\/(r.getD (i+j) 0<=dtR (rows.getD j []) r/\(r.set (i+j) (dtR (rows.getD j []) r - r.getD (i+j) 0))∈P)
 | _,[],_,j,hj=>by simp at hj
 | i,row :: rows,h,j,hj=>by
  simp only [okR,bAnd,Bool.or_eq_true]at h
  cases j with
  | zero=>
   rcases h.1 with h1 | ⟨h1,h2⟩
   ·exact .inl ((eqR_iff _ _).1 h1)
   ·refine .inr ⟨?_,?_⟩
    ·rw [<- inN_eq];exact Nat.le_of_ble_eq_true h1
    ·have:=hasR_mem _ _ h2
     rw [stR_eq,inN_eq]at this
     exact this
  | succ j=>
   have:=okR_get P n r (i+1) rows h.2 j (by simpa using hj)
   rw [show i+1+j=i+(j+1) by omega]at this
   exact this
omit hc hf in
theorem dot_row:∀(a:LI) (row r:List Nat) (i:Nat),a.length=row.length->row.length=r.length->row.getD i 0=0->i < r.length->(∀ k,k < r.length->k≠i->a.getD k 0 = -(row.getD k 0:Nat)) ->
  dotL a (rZ r)=a.getD i 0*(r.getD i 0:Nat) - (dtR row r:Nat)
 | [],[],[],i,_,_,_,hi,_=>by simp at hi
 | x :: a,y :: row,z :: r,0,h1,h2,h3,_,h5=>by
  simp only [List.getD_cons_zero]at h3
  have hall:∀(a:LI) (row r:List Nat),a.length=row.length->row.length=r.length->(∀ k,k < r.length->a.getD k 0 = -(row.getD k 0:Nat))->dotL a (rZ r) = -(dtR row r:Nat):=by
   intro a
   induction a with
   | nil=>
    intro row r q1 q2 _
    have:row=[]:=nilZ (by simpa using q1.symm)
    subst this
    simp [dotL,dtR]
   | cons x a ih=>
    intro row r q1 q2 q3
    match row,r,q1,q2 with
    | y :: row,z :: r,q1,q2=>
     have e:=q3 0 (by simp)
     simp only [List.getD_cons_zero]at e
     have ih:=ih row r (by simpa using q1) (by simpa using q2) (fun k hk=>by have:=q3 (k+1) (by simpa using hk);simpa only [List.getD_cons_succ] using this)
     simp only [rZ,List.map_cons,dotL,dtR,Nat.add_eq,Nat.mul_eq]at ih ⊢
     rw [ih,e]
     push_cast
     simp only [Int.ofNat_eq_natCast]
     grind
  have h6:=hall a row r (by simpa using h1) (by simpa using h2) (fun k hk=>by have:=h5 (k+1) (by simpa using hk) om;simpa only [List.getD_cons_succ] using this)
  simp only [rZ,List.map_cons,dotL,dtR,List.getD_cons_zero,Nat.add_eq,Nat.mul_eq]at h6 ⊢
  rw [h6,h3]
  push_cast
  simp only [Int.ofNat_eq_natCast]
  grind
 | x :: a,y :: row,z :: r,i+1,h1,h2,h3,h4,h5=>by
  have ih:=dot_row a row r i (by simpa using h1) (by simpa using h2) (by simpa using h3) (by simpa using h4) (fun k hk hki=>by have:=h5 (k+1) (by simpa using hk) om;simpa only [List.getD_cons_succ] using this)
  have e:=h5 0 (by simp) om
  simp only [List.getD_cons_zero]at e
  simp only [rZ,List.map_cons,dotL,dtR,List.getD_cons_succ,Nat.add_eq,Nat.mul_eq]at ih ⊢
  rw [ih,e]
  push_cast
  simp only [Int.ofNat_eq_natCast]
  grind
omit hc hf in
theorem dot_neg:∀(a r:LI),dotL a (negL r) = -dotL a r
 | [],_=>by simp [dotL]
 | _ :: _,[]=>by simp [dotL,negL]
 | x :: a,y :: r=>by
  have:=dot_neg a r
  simp only [negL,List.map_cons,dotL]at this ⊢
  rw [this];grind
omit hc hf in
theorem negL_get (r:LI) (i:Nat):(negL r).getD i 0 = -(r.getD i 0):=by
 simp only [negL,gdE,List.getElem?_map]
 cases r[i]?<;>simp
omit hc hf in
theorem mir_neg (c:LL) (i:Int) (r:LI):mirL c i (negL r)=negL (mirL c i r):=by
 unfold mirL
 rw [dot_neg,negL_get]
 simp only [negL,List.map_set]
 congr 1
 omega
omit hc hf in
theorem negL_negL (r:LI):negL (negL r)=r:=by simp [negL,Function.comp_def]
theorem mir_root {P:List (List Nat)} (hP:clR rows c.length P=true) {r:List Nat} (hr:r∈P) {i:Nat} (hi:i < c.length) :
  (mirL c i (rZ r)=negL (rZ r))\/∃ s∈P,mirL c i (rZ r)=rZ s:=by
 simp only [clR,bAnd,alT]at hP
 obtain⟨⟨hl,_⟩,hok⟩:=hP.2 r hr
 have hl:r.length=c.length:=Nat.eq_of_beq_eq_true hl
 obtain⟨_,e2,e3⟩:=hf.cr i hi
 have hd:=dot_row (c.getD i []) (rows.getD i []) r i (by rw [e2];exact hc.2.2.1 i hi) (by rw [e2,hl]) e3 om (fun k hk hki=>(hf.ce i k hi om hki).2)
 have hdi:(c.getD i []).getD i 0=2:=(matA_cartan hc).diag i hi
 rw [hdi]at hd
 have hm:mirL c i (rZ r)=(rZ r).set i ((dtR (rows.getD i []) r:Nat) - (r.getD i 0:Nat)):=by
  unfold mirL
  rw [Int.toNat_natCast,hd,rZ_get]
  congr 1
  omega
 rcases okR_get P c.length r 0 rows hok i (by rw [hf.rl];exact hi)with h | ⟨h1,h2⟩
 ·left
  rw [Nat.zero_add]at h
  have hd0:dtR (rows.getD i []) r=0:=by
   rw [h]
   have key:∀(row:List Nat) (n j:Nat),row.getD j 0=0->dtR row (unR n j)=0:=by
    intro row
    induction row with
    | nil=>intro n j _;cases hh:unR n j<;>simp [dtR]
    | cons y row ih=>
     intro n j hj
     cases n with
     | zero=>simp [unR,stR_eq,dtR]
     | succ n=>
      cases j with
      | zero=>
       simp only [List.getD_cons_zero]at hj
       subst hj
       have z:∀(row:List Nat) (m:Nat),dtR row (List.replicate m 0)=0:=by
        intro row
        induction row with
        | nil=>intro m;cases m<;>simp [dtR,List.replicate_succ]
        | cons y row ih2=>intro m;cases m with
         | zero=>simp [dtR]
         | succ m=>simp [dtR,List.replicate_succ,ih2 m]
       simp [unR,stR_eq,List.replicate_succ,dtR,z]
      | succ j=>
       simp only [List.getD_cons_succ]at hj
       have:=ih n j hj
       simp only [unR,stR_eq]at this ⊢
       simp [List.replicate_succ,dtR,this]
   exact key _ _ _ e3
  rw [hm,hd0,h]
  apply List.ext_getElem?
  intro k
  have hli:(unR c.length i).length=c.length:=by simp [unR,stR_eq]
  by_cases hk:k=i
  ·subst hk
   rw [List.getElem?_set_self (by simp [rZ,hli,hi])]
   simp [negL,rZ,unR,stR_eq,hi]
  ·rw [List.getElem?_set_ne om]
   simp only [negL,rZ,unR,stR_eq,List.map_set,List.getElem?_set_ne (show i≠k by omega),List.map_replicate]
   simp
 ·right
  rw [Nat.zero_add]at h1 h2
  refine⟨_,h2,?_⟩
  rw [hm]
  simp only [rZ,List.map_set]
  congr 1
  simp only [Int.ofNat_eq_natCast]
  omega
theorem root_bound {P:List (List Nat)} (hP:clR rows c.length P=true):∀(w:LI) {i:Nat},letters c.length w->i < c.length->∃ s∈P,w.foldr (mirL c) (simL c.length i)=rZ s\/w.foldr (mirL c) (simL c.length i)=negL (rZ s)
 | [],i,_,hi=>by
  have h:=hP
  simp only [clR,bAnd,alT]at h
  have hm:∀(k:Nat),i < k->unR c.length i∈unsR c.length k:=by
   intro k
   induction k with
   | zero=>intro h;omega
   | succ k ih=>
    intro h
    simp only [unsR]
    by_cases hk:i=k
    ·rw [hk];exact mcS ..
    ·exact mcM _ (ih om)
  exact⟨_,hasR_mem _ _ (h.1 _ (hm c.length hi)),.inl (rZ_unR _ _).symm⟩
 | j :: w,i,hw,hi=>by
  obtain⟨hj,hw⟩:=letters_cons.1 hw
  obtain⟨s,hs,h⟩:=root_bound hP w hw hi
  have hj2:((j.toNat:Nat):Int)=j:=by omega
  simp only [List.foldr_cons]
  have hm:=mir_root hc hf hP hs (i:=j.toNat) om
  rw [hj2]at hm
  rcases h with h | h
  ·rw [h]
   rcases hm with hm | ⟨t,ht,hm⟩
   ·exact⟨s,hs,.inr hm⟩
   ·exact⟨t,ht,.inl hm⟩
  ·rw [h,mir_neg]
   rcases hm with hm | ⟨t,ht,hm⟩
   ·exact⟨s,hs,.inl (by rw [hm,negL_negL])⟩
   ·exact⟨t,ht,.inr (by rw [hm])⟩
end
theorem mn2 (c:LL) (i j:Int):detN 2 (pick c [i,j])=ent c i.toNat i.toNat*ent c j.toNat j.toNat - ent c i.toNat j.toNat*ent c j.toNat i.toNat:=by
 simp [pick,detN,minorL,List.range_succ]
 grind
def e3 (a:Nat->Nat->Int) (i j k:Nat):Int:=a i i*a j j*a k k - a i i*(a j k*a k j) - a j j*(a i k*a k i) - a k k*(a i j*a j i)+a i j*a j k*a k i+a i k*a k j*a j i
theorem mn3 (c:LL) (i j k:Int):detN 3 (pick c [i,j,k])=e3 (ent c) i.toNat j.toNat k.toNat:=by
 simp [pick,detN,minorL,List.range_succ,e3]
 grind
theorem mn4 (c:LL):detN 4 (pick c [0,1,2,3]) =
  ent c 0 0*e3 (ent c) 1 2 3 - ent c 0 1*(ent c 1 0*(ent c 2 2*ent c 3 3 - ent c 2 3*ent c 3 2) - ent c 1 2*(ent c 2 0*ent c 3 3 - ent c 2 3*ent c 3 0)+ent c 1 3*(ent c 2 0*ent c 3 2 - ent c 2 2*ent c 3 0))
  + ent c 0 2*(ent c 1 0*(ent c 2 1*ent c 3 3 - ent c 2 3*ent c 3 1) - ent c 1 1*(ent c 2 0*ent c 3 3 - ent c 2 3*ent c 3 0)+ent c 1 3*(ent c 2 0*ent c 3 1 - ent c 2 1*ent c 3 0))
  - ent c 0 3*(ent c 1 0*(ent c 2 1*ent c 3 2 - ent c 2 2*ent c 3 1) - ent c 1 1*(ent c 2 0*ent c 3 2 - ent c 2 2*ent c 3 0)+ent c 1 2*(ent c 2 0*ent c 3 1 - ent c 2 1*ent c 3 0)):=by
 simp [pick,detN,minorL,List.range_succ,e3]
 grind
theorem pr_mem:∀ a,a < 4->∀ b,b < 4->(a=0↔b=0)->a*b < 4->(a,b)∈prN:=by
 intro a ha b hb hz h
 rcases(show a=0\/a=1\/a=2\/a=3 by omega)with rfl | rfl | rfl | rfl<;>rcases(show b=0\/b=1\/b=2\/b=3 by omega)with rfl | rfl | rfl | rfl<;>first | (exfalso;omega) | simp [prN]
theorem pair_of {c:LL} (hc:CartanP c) {i j:Nat} (hi:i < c.length) (hj:j < c.length) (hij:i≠j) (h:0 < ent c i i*ent c j j - ent c i j*ent c j i) :
  ∃ p∈prN,ent c i j = -(p.1:Nat)/\ent c j i = -(p.2:Nat):=by
 have hA:=matA_cartan hc
 have h1:ent c i j<=0:=hA.nonpos i j hi hj hij
 have h2:ent c j i<=0:=hA.nonpos j i hj hi (Ne.symm hij)
 have h3:=(ent_le hc i j hi hj).1
 have h4:=(ent_le hc j i hj hi).1
 have d1:ent c i i=2:=hA.diag i hi
 have d2:ent c j j=2:=hA.diag j hj
 have z1:=hA.zero i j hi hj
 have z2:=hA.zero j i hj hi
 obtain⟨a,ha⟩:∃ a:Nat,ent c i j = -(a:Int):=⟨(-ent c i j).toNat,by omega⟩
 obtain⟨b,hb⟩:∃ b:Nat,ent c j i = -(b:Int):=⟨(-ent c j i).toNat,by omega⟩
 refine⟨(a,b),pr_mem a om b om ?_ ?_,ha,hb⟩
 ·constructor
  ·intro h0
   have:ent c j i=0:=z1 (show ent c i j=0 by omega)
   omega
  ·intro h0
   have:ent c i j=0:=z2 (show ent c j i=0 by omega)
   omega
 ·rw [d1,d2,ha,hb]at h
  have:((a*b:Nat):Int) < 4:=by push_cast;grind
  omega
theorem d3_of {a:Nat->Nat->Int} {i j k:Nat} {p q r:Nat×Nat} (di:a i i=2) (dj:a j j=2) (dk:a k k=2) (p1:a i j = -(p.1:Nat)) (p2:a j i = -(p.2:Nat)) (q1:a i k = -(q.1:Nat)) (q2:a k i = -(q.2:Nat)) (r1:a j k = -(r.1:Nat)) (r2:a k j = -(r.2:Nat))
  (h:0 < e3 a i j k):d3 p q r=true:=by
 unfold e3 at h
 rw [di,dj,dk,p1,p2,q1,q2,r1,r2]at h
 have h2:(2*((p.1:Int)*p.2+q.1*q.2+r.1*r.2)+(p.1*r.1*q.2+q.1*r.2*p.2)+1:Int)<=8:=by grind
 apply Nat.ble_eq_true_of_le
 show 2*(p.1*p.2+q.1*q.2+r.1*r.2)+(p.1*r.1*q.2+q.1*r.2*p.2)+1<=8
 exact Int.ofNat_le.1 (by push_cast;exact h2)
theorem ck4_all:∀ p∈prN,ck4 p=true:=by
 intro p hp
 simp only [prN,List.mem_cons,List.not_mem_nil,or_false]at hp
 rcases hp with rfl | rfl | rfl | rfl | rfl | rfl
 ·exact ck4_0
 ·exact ck4_1
 ·exact ck4_2
 ·exact ck4_3
 ·exact ck4_4
 ·exact ck4_5
theorem fin_good {c:LL} (hF:FinP c):∃ cols rows,Fits c cols rows/\godC cols rows c.length=true:=by
 obtain⟨hc,hm⟩:=hF
 have hA:=matA_cartan hc
 have dg:∀ i,i < c.length->ent c i i=2:=fun i hi=>hA.diag i hi
 have hn1:=hc.1
 have hn4:=hc.2.1
 have h1:c.length=1\/c.length=2\/c.length=3\/c.length=4:=by omega
 rcases h1 with hn | hn | hn | hn
 ·refine⟨[[0]],[[0]],⟨by rw [hn];rfl,by rw [hn];rfl,fun i hi=>?_,fun i k hi hk hki=>by omega⟩,by rw [hn];exact ck1_true⟩
  have:i=0:=by omega
  subst this
  rw [hn];exact⟨rfl,rfl,rfl⟩
 ·obtain⟨p,hp,p1,p2⟩:=pair_of hc (i:=0) (j:=1) om om (by decide) (by have:=hm 3 om (by rw [hn];decide);rw [show mn c 3=detN 2 (pick c [0,1])from rfl,mn2]at this;exact this)
  refine⟨[[0,p.2],[p.1,0]],[[0,p.1],[p.2,0]],⟨by rw [hn];rfl,by rw [hn];rfl,fun i hi=>?_,fun i k hi hk hki=>?_⟩,by rw [hn];exact alT.1 ck2_true p hp⟩
  ·rw [hn]at hi ⊢
   rcases(show i=0\/i=1 by omega)with rfl | rfl<;>exact⟨rfl,rfl,rfl⟩
  ·rw [hn]at hi hk
   rcases(show i=0\/i=1 by omega)with rfl | rfl<;>rcases(show k=0\/k=1 by omega)with rfl | rfl<;>first | (exact absurd rfl hki) | exact⟨p2,p1⟩ | exact⟨p1,p2⟩
 ·obtain⟨p,hp,p1,p2⟩:=pair_of hc (i:=0) (j:=1) om om (by decide) (by have:=hm 3 om (by rw [hn];decide);rw [show mn c 3=detN 2 (pick c [0,1])from rfl,mn2]at this;exact this)
  obtain⟨q,hq,q1,q2⟩:=pair_of hc (i:=0) (j:=2) om om (by decide) (by have:=hm 5 om (by rw [hn];decide);rw [show mn c 5=detN 2 (pick c [0,2])from rfl,mn2]at this;exact this)
  obtain⟨r,hr,r1,r2⟩:=pair_of hc (i:=1) (j:=2) om om (by decide) (by have:=hm 6 om (by rw [hn];decide);rw [show mn c 6=detN 2 (pick c [1,2])from rfl,mn2]at this;exact this)
  have hd:d3 p q r=true:=d3_of (a:=ent c) (dg 0 om) (dg 1 om) (dg 2 om) p1 p2 q1 q2 r1 r2 (by have:=hm 7 om (by rw [hn];decide);rw [show mn c 7=detN 3 (pick c [0,1,2])from rfl,mn3]at this;exact this)
  refine⟨col3 p q r,row3 p q r,⟨by rw [hn];rfl,by rw [hn];rfl,fun i hi=>?_,fun i k hi hk hki=>?_⟩,?_⟩
  ·rw [hn]at hi ⊢
   rcases(show i=0\/i=1\/i=2 by omega)with rfl | rfl | rfl<;>exact⟨rfl,rfl,rfl⟩
  ·rw [hn]at hi hk
   rcases(show i=0\/i=1\/i=2 by omega)with rfl | rfl | rfl<;>rcases(show k=0\/k=1\/k=2 by omega)with rfl | rfl | rfl <;>
    first | (exact absurd rfl hki) | exact⟨p2,p1⟩ | exact⟨p1,p2⟩ | exact⟨q2,q1⟩ | exact⟨q1,q2⟩ | exact⟨r2,r1⟩ | exact⟨r1,r2⟩
  ·rw [hn]
   have:=alT.1 (alT.1 (alT.1 ck3_true p hp) q hq) r hr
   rw [hd]at this
   simpa using this
 ·obtain⟨p,hp,p1,p2⟩:=pair_of hc (i:=0) (j:=1) om om (by decide) (by have:=hm 3 om (by rw [hn];decide);rw [show mn c 3=detN 2 (pick c [0,1])from rfl,mn2]at this;exact this)
  obtain⟨q,hq,q1,q2⟩:=pair_of hc (i:=0) (j:=2) om om (by decide) (by have:=hm 5 om (by rw [hn];decide);rw [show mn c 5=detN 2 (pick c [0,2])from rfl,mn2]at this;exact this)
  obtain⟨r,hr,r1,r2⟩:=pair_of hc (i:=1) (j:=2) om om (by decide) (by have:=hm 6 om (by rw [hn];decide);rw [show mn c 6=detN 2 (pick c [1,2])from rfl,mn2]at this;exact this)
  obtain⟨s,hs,s1,s2⟩:=pair_of hc (i:=0) (j:=3) om om (by decide) (by have:=hm 9 om (by rw [hn];decide);rw [show mn c 9=detN 2 (pick c [0,3])from rfl,mn2]at this;exact this)
  obtain⟨t,ht,t1,t2⟩:=pair_of hc (i:=1) (j:=3) om om (by decide) (by have:=hm 10 om (by rw [hn];decide);rw [show mn c 10=detN 2 (pick c [1,3])from rfl,mn2]at this;exact this)
  obtain⟨u,hu,u1,u2⟩:=pair_of hc (i:=2) (j:=3) om om (by decide) (by have:=hm 12 om (by rw [hn];decide);rw [show mn c 12=detN 2 (pick c [2,3])from rfl,mn2]at this;exact this)
  have g0:=dg 0 om
  have g1:=dg 1 om
  have g2:=dg 2 om
  have g3:=dg 3 om
  have ha:d3 p q r=true:=d3_of (a:=ent c) g0 g1 g2 p1 p2 q1 q2 r1 r2 (by have:=hm 7 om (by rw [hn];decide);rw [show mn c 7=detN 3 (pick c [0,1,2])from rfl,mn3]at this;exact this)
  have hb:d3 p s t=true:=d3_of (a:=ent c) g0 g1 g3 p1 p2 s1 s2 t1 t2 (by have:=hm 11 om (by rw [hn];decide);rw [show mn c 11=detN 3 (pick c [0,1,3])from rfl,mn3]at this;exact this)
  have hcc:d3 q s u=true:=d3_of (a:=ent c) g0 g2 g3 q1 q2 s1 s2 u1 u2 (by have:=hm 13 om (by rw [hn];decide);rw [show mn c 13=detN 3 (pick c [0,2,3])from rfl,mn3]at this;exact this)
  have hd:d3 r t u=true:=d3_of (a:=ent c) g1 g2 g3 r1 r2 t1 t2 u1 u2 (by have:=hm 14 om (by rw [hn];decide);rw [show mn c 14=detN 3 (pick c [1,2,3])from rfl,mn3]at this;exact this)
  have he:d4 p q r s t u=true:=by
   have:=hm 15 om (by rw [hn];decide)
   rw [show mn c 15=detN 4 (pick c [0,1,2,3])from rfl,mn4]at this
   unfold e3 at this
   rw [g0,g1,g2,g3,p1,p2,q1,q2,r1,r2,s1,s2,t1,t2,u1,u2]at this
   apply Nat.ble_eq_true_of_le
   refine Int.ofNat_le.1 ?_
   push_cast
   grind
  refine⟨col4 p q r s t u,row4 p q r s t u,⟨by rw [hn];rfl,by rw [hn];rfl,fun i hi=>?_,fun i k hi hk hki=>?_⟩,?_⟩
  ·rw [hn]at hi ⊢
   rcases(show i=0\/i=1\/i=2\/i=3 by omega)with rfl | rfl | rfl | rfl<;>exact⟨rfl,rfl,rfl⟩
  ·rw [hn]at hi hk
   rcases(show i=0\/i=1\/i=2\/i=3 by omega)with rfl | rfl | rfl | rfl<;>rcases(show k=0\/k=1\/k=2\/k=3 by omega)with rfl | rfl | rfl | rfl <;>
    first | (exact absurd rfl hki) | exact⟨p2,p1⟩ | exact⟨p1,p2⟩ | exact⟨q2,q1⟩ | exact⟨q1,q2⟩ | exact⟨r2,r1⟩ | exact⟨r1,r2⟩ | exact⟨s2,s1⟩ | exact⟨s1,s2⟩ | exact⟨t2,t1⟩ | exact⟨t1,t2⟩ | exact⟨u2,u1⟩ | exact⟨u1,u2⟩
  ·rw [hn]
   have:=alT.1 (alT.1 (ck4_all p hp) q hq) r hr
   rw [ha]at this
   simp only [Bool.not_true,Bool.false_or]at this
   have:=alT.1 (alT.1 this s hs) t ht
   rw [hb]at this
   simp only [Bool.not_true,Bool.false_or]at this
   have:=alT.1 this u hu
   rw [hcc,hd,he]at this
   simpa using this
theorem fin_all {c:LL} (hF:FinP c) :
  (∃ L,L<=24/\Far c L (negs c.length))/\(∃ k,1<=k/\k<=12/\itW c (coxW c.length) k (ones c.length)=ones c.length) /\
  ∀ w i,letters c.length w->i < c.length->∀ x∈w.foldr (mirL c) (simL c.length i),-6<=x/\x<=6:=by
 have hc:=hF.1
 obtain⟨cols,rows,hf,hg⟩:=fin_good hF
 simp only [godC,bAnd]at hg
 obtain⟨⟨h1,h2⟩,h3⟩:=hg
 refine⟨?_,?_,?_⟩
 ·obtain⟨w,w1,w2,w3⟩:=plV_spec hc hf 24 _ (by simp) h1
  obtain⟨L,l1,_,l3⟩:=Far.image hc w1
  have e:dec (List.replicate c.length (0,1))=negs c.length:=by simp [dec,negs]
  rw [w3,e]at l3
  exact⟨L,by omega,l3⟩
 ·have e:dec (List.replicate c.length (1,0))=ones c.length:=by simp [dec,ones]
  have:=orV_spec hc hf 12 _ (by simp) h2
  rwa [e]at this
 ·intro w i hw hi x hx
  obtain⟨s,hs,h⟩:=root_bound hc hf h3 w hw hi
  simp only [clR,bAnd,alT]at h3
  have hsm:=(h3.2 s hs).1.2
  have key:∀ s:List Nat,smR s=true->∀ y∈s,y<=6:=by
   intro s
   induction s with
   | nil=>intro _ y hy;simp at hy
   | cons z s ih=>
    intro h y hy
    simp only [smR,bAnd]at h
    rcases List.mem_cons.1 hy with rfl | hy
    ·exact Nat.le_of_ble_eq_true h.1
    ·exact ih h.2 y hy
  rcases h with h | h
  ·rw [h]at hx
   simp only [rZ,List.mem_map]at hx
   obtain⟨y,hy,rfl⟩:=hx
   have:=key s hsm y hy
   simp only [Int.ofNat_eq_natCast]
   omega
  ·rw [h]at hx
   simp only [negL,rZ,List.mem_map]at hx
   obtain⟨_,⟨y,hy,rfl⟩,rfl⟩:=hx
   have:=key s hsm y hy
   simp only [Int.ofNat_eq_natCast]
   omega
theorem fin_len {c:LL} (hF:FinP c):∀(M:Nat) {v:LI},Far c M v->M<=24:=by
 have hc:=hF.1
 obtain⟨⟨L,hL,hF0⟩,_⟩:=fin_all hF
 have key:∀(M:Nat) {v:LI},Far c M v->M<=L/\Far c (L - M) (negL v):=by
  intro M
  induction M with
  | zero=>
   intro v h
   have:v=ones c.length:=h.zero
   subst this
   refine⟨nz0 _,?_⟩
   have e:negL (ones c.length)=negs c.length:=by simp [negL,ones,negs]
   rw [e];exact hF0
  | succ M ih=>
   intro v h
   rcases fst_of_far hc h with⟨_,h2⟩ | ⟨h1,h2,h3,K,h4,h5⟩
   ·omega
   ·have:K=M:=by omega
    subst this
    obtain⟨i1,i2⟩:=ih h5
    have hvl:v.length=c.length:=h.1
    have hg:(reflL c (fstN v) v).getD (fstN v).toNat 0 = -(v.getD (fstN v).toNat 0):=by
     rw [reflL_get c (fstN v) v (fstN v).toNat om,show ent c (fstN v).toNat (fstN v).toNat=2 from(matA_cartan hc).diag _ om]
     omega
    have hneg:(negL (reflL c (fstN v) v)).getD (fstN v).toNat 0 < 0:=by rw [negL_get,hg];omega
    obtain⟨N,n1,n2⟩:=i2.down hc ⟨h1,h2⟩ hneg
    have hcomm:reflL c (fstN v) (negL (reflL c (fstN v) v))=negL v:=by
     have h7:∀ x:List Int,reflL c (fstN v) (negL x)=negL (reflL c (fstN v) x):=by
      intro x
      apply List.ext_getElem?
      intro k
      by_cases hk:k < x.length
      ·have e1:=reflL_get c (fstN v) (negL x) k (by simpa [negL] using hk)
       have e2:=negL_get (reflL c (fstN v) x) k
       rw [reflL_get c (fstN v) x k hk]at e2
       rw [negL_get,negL_get]at e1
       have e4:(reflL c (fstN v) (negL x)).getD k 0=(negL (reflL c (fstN v) x)).getD k 0:=by rw [e1,e2];grind
       have l1:k < (reflL c (fstN v) (negL x)).length:=by rw [reflL_length];simpa [negL] using hk
       have l2:k < (negL (reflL c (fstN v) x)).length:=by simp only [negL,List.length_map,reflL_length];exact hk
       rw [geE l1,geE l2]
       simpa [gdE,l1,l2] using e4
      ·rw [geN (by rw [reflL_length];simp [negL];omega),geN (by simp only [negL,List.length_map,reflL_length];omega)]
     rw [h7,refl2 hc ⟨h1,h2⟩ hvl]
    rw [hcomm]at n2
    refine⟨by omega,?_⟩
    rw [show L - (K+1)=N by omega]
    exact n2
 intro M v h
 have:=(key M h).1
 omega
def setBt (k i:Nat):List Int:=((List.range i).filter fun j=>k.testBit j).map Int.ofNat
theorem setBt_succ (k i:Nat):setBt k (i+1)=if k.testBit i then setBt k i ++ [(i:Int)]else setBt k i:=by
 simp only [setBt,List.range_succ,List.filter_append,List.map_append]
 cases h:k.testBit i<;>simp [h]
theorem setBt_len (k i:Nat):(setBt k i).length<=i:=by
 simp only [setBt,List.length_map]
 have:=List.length_filter_le (fun j=>k.testBit j) (List.range i)
 simpa using this
theorem setBt_end:∀ k:Nat,k < 16->∀ i,i<=4->k < 2 ^ i->setBt k i=setL k:=by decide
theorem setL_ne:∀ k:Nat,k < 16->1<=k->setL k≠[]:=by decide
theorem bit_and:∀ k:Nat,k < 16->∀ i,i < 4->(andI .i64 ((k:Int) / 2 ^ min i IntKind.i64.bits) 1 == 1)=k.testBit i:=by decide
theorem shr_pos:∀ k:Nat,k < 16->∀ i,i<=4->(decide (0 < (k:Int) / 2 ^ min i IntKind.i64.bits)=decide (2 ^ i<=k)):=by decide
theorem c_impl_setOf (k:Nat) (hk:k < 16):FunA B 175 [.int .i64 k] (fun rs o=>rs=[.own 0 0]/\o=[.arr .int (setL k) 0 true]):=by
 refine wk Tryz.call175 Tryz.func175 rfl Tryz.ntmps175 fun C hC hP hT hfn hpin hfin hX=>wW ?_
 refine Run.R ?_
 refine Run.R ?_
 refine Run.R ?_
 refine Run.loopI (X:=Nat) (fun i=>⟨22,[(0,true,.v (.int .i64 k)),(2,true,.v (.nils)),(3,true,.v (.own 0 0)),(4,true,.v (.int .i64 i))],[.arr .int ((setBt k i)) 0 true]⟩) (fun i=>i<=4) (fun i=>4 - i) (0) (nz0 _) ?_ ?_
 ·exact Le.s
 rintro i hi ih
 try simp only []
 have hsl:=setBt_len k i
 have h1:=shr_pos k hk i hi
 refine Run.R ?_
 refine Run.c ?_ ?_
 ·intro hc
  rw [h1]at hc
  have hc:2 ^ i<=k:=by simpa using hc
  have h4:i < 4:=by
   rcases Nat.lt_or_ge i 4 with h | h
   ·exact h
   ·have:i=4:=by omega
    subst this;omega
  have h2:=bit_and k hk i h4
  have h3:=setBt_succ k i
  refine Run.R ?_
  refine Run.c ?_ ?_
  ·intro hb
   rw [h2]at hb
   rw [hb,if_pos rfl]at h3
   refine Run.R ?_
   refine Run.RW ?_
   refine Run.k [0,2,3,4] [0] ?_
   refine Run.le ?_ (ih (i+1) om (by(try simp only [lenA,lenC,lenN]);omega))
   exact Le.sub (by first | rfl | (simp only [<- h3];done) | (rw [<- h3];rfl)) (by simp only [AW7,simprocAttr];try simp)
  ·intro hb
   rw [h2]at hb
   rw [hb]at h3
   refine Run.RW ?_
   refine Run.le ?_ (ih (i+1) om (by(try simp only [lenA,lenC,lenN]);omega))
   exact Le.sub (by first | rfl | (simp only [h3];done) | (rw [h3];rfl)) (by simp only [AW7,simprocAttr];try simp)
 ·intro hc
  rw [h1]at hc
  have hc:k < 2 ^ i:=by simpa using hc
  refine Run.x ?_
  refine Run.R ?_
  rw [setBt_end k hk i hi hc]
  refine Run.r [2] ?_
  exact⟨rfl,rfl⟩
open Go.RowKit
theorem grow_zero (w:World):Calls Tryz.prog 126 #[.slice none 0 0,.int .i64 0] w fun e w'=>e=.returned (.slice none 0 0)/\w'=w:=by
 go_enter Tryz.func126,Tryz.ntmps126
 go_wp2
 go_ret
 exact⟨rfl,rfl⟩
set_option maxRecDepth 100000 in
theorem grow_some (n:Nat) (h0:0 < n) (hn:n<=2097152) (w:World):∃ G i,n<=G/\G<=9223372036854775807/\Tryz.prog.info? 3=some i/\i.size=1/\Calls Tryz.prog 126 #[.slice none 0 0,.int .i64 n] w fun e w'=>
  e=.returned (.slice (some ⟨w.heap.size,0,none⟩) 0 G)/\w'=w.drew.alloc (.cells (Builtin.zeroCells (Value.int .i64 0).cells n ++ Builtin.zeroCells (Value.int .i64 0).cells (G - n)) 3):=by
 obtain⟨i,hi,hz,hs,hb⟩:∃ i,Tryz.prog.info? 3=some i/\i.zero=some (.int .i64 0)/\i.size=1/\i.bytes=8:=⟨_,rfl,rfl,rfl,rfl⟩
 refine⟨grownCap w n 0 3,i,grownCap_ge w _ _ _,?_,hi,hs,?_⟩
 ·have:=grownCap_le_maxLen w n 0 3 (by unfold maxLen;omega)
  unfold maxLen at this
  omega
 have hG:n<=grownCap w n 0 3:=grownCap_ge w _ _ _
 have hG63:grownCap w n 0 3<=9223372036854775807:=by
  have:=grownCap_le_maxLen w n 0 3 (by unfold maxLen;omega)
  unfold maxLen at this
  omega
 have hrz:∀ ty,(Builtin.append_ #[25,3] ty #[.slice none 0 0,.int .i64 (n:Int)]).run Tryz.prog w =
   .ok (.slice (some ⟨w.heap.size,0,none⟩) n (grownCap w n 0 3)) (w.drew.alloc (.cells (Builtin.zeroCells (Value.int .i64 0).cells n ++ Builtin.zeroCells (Value.int .i64 0).cells (grownCap w n 0 3 - n)) 3)):=fun ty=>
  Lib.run_append_nil_zeros w 25 3 ty 3 i (.int .i64 0) .i64 .i64 Tryz.underlying25 Tryz.underlying3 hi hz n h0 om om (by rw [hb];omega)
 generalize grownCap w n 0 3=G at hrz hG hG63 ⊢
 have h1:¬((n:Int) < 0):=by omega
 have h3:wrap64 ((n:Int))=(n:Int):=by unfold wrap64;omega
 have h4:(n:Int) > 0:=by omega
 go_enter Tryz.func126,Tryz.ntmps126
 go_wp2_with (at_builtin;refine Lib.wpList_append_run _ rfl _ _ _ _ rfl _ _ rfl rfl _ _ (hrz _) ?_)
 all_goals (go_ret;exact⟨rfl,rfl⟩)
def sumL:List (List Int)->Nat
 | []=>0
 | r :: rs=>r.length+sumL rs
theorem sumL_append:∀ a b,sumL (a ++ b)=sumL a+sumL b
 | [],b=>by simp [sumL]
 | r :: rs,b=>by simp [sumL,sumL_append rs b];omega
theorem sumL_take (rows:LL) (i:Nat):sumL (rows.take i)<=sumL rows:=by
 have:=sumL_append (rows.take i) (rows.drop i)
 rw [List.take_append_drop]at this
 omega
theorem sumL_snoc (rows:LL) (i:Nat) (h:i < rows.length):sumL (rows.take (i+1))=sumL (rows.take i)+(rows.getD i []).length:=by
 rw [<- take_snoc [] rows i h,sumL_append]
 simp [sumL]
theorem c_slices_Grow (n:Nat) (hn:n<=2097152):FunA B 126 [.nils,.int .i64 n] (fun rs o=>rs=[.own 0 0]/\o=[.arr .int [] 0 false]):=by
 refine⟨fun vs w=>Tryz.call126 vs w,fun w L vs hG hl ha=>?_⟩
 match vs,hl with
 | [u,v],_=>
 have hu:u=.slice none 0 0:=ha 0 _ _ rfl rfl
 have hv:v=.int .i64 n:=ha 1 _ _ rfl rfl
 subst hu hv
 have r0:=wrel_start B w L (fun _=>undef) hG
 have fin:∀(w':World) (e:Ending) (x:Value),Ext (fun _=>False) w w'->e=.returned x->(∃ cs,w'.ownsRow 0 3 1 x 0 cs)->(∀ b,x.ownBlock=some b->w.heap.size<=b) ->
   ∃ us:List Value,e=.returned (pack us)/\∃ xs obs' ρ',(xs=[.own 0 0]/\obs'=[.arr .int [] 0 false])/\us.length=xs.length /\
   (∀(i:Nat) (x:AV) (v:Value),xs[i]? = some x->us[i]? = some v->AVRel ((B.bareL w L).V w' obs' ρ') obs' ρ' x v)/\WRel (B.bareL w L) obs' w' ρ'/\xs.all freshAV=true/\obs'.all freshO=true:=by
  intro w' e x hext he hown hb
  obtain⟨cs,hown⟩:=hown
  have hcs:cs=[]:=List.length_eq_zero_iff.1 (by simpa using hown.1)
  subst hcs
  have T:=Turn.new (C:=B.bareL w L) r0 hext (.arr .int [] 0 false) x ⟨[],hown,⟨by simp,fun i hi=>by simp at hi⟩,by simp,by simp⟩ (fun b hb'=>hb b hb')
  refine⟨[x],by rw [he];rfl,[.own 0 0],[.arr .int [] 0 false],_,⟨rfl,rfl⟩,rfl,fun i y u hy hu=>?_,(T.step r0).wr,rfl,rfl⟩
  match i,hy,hu with
  | 0,hy,hu=>
   simp at hy hu
   subst hy hu
   refine⟨by simp,fun c hc=>?_⟩
   have:c=0:=by simpa [genOf,O.gen] using hc.symm
   subst this
   exact⟨Nat.le_refl _,fun _=>rfl⟩
 by_cases h0:n=0
 ·subst h0
  refine(grow_zero w).mono fun e w' ⟨he,hw⟩=>?_
  subst hw
  exact fin w' e _ (Ext.refl _ _) he ⟨[],World.ownsRow_nil _ _ _ _⟩ (fun b hb=>by simp [Value.ownBlock]at hb)
 ·obtain⟨G,i,hG,hG63,hi,hs,hc⟩:=grow_some n om hn w
  refine hc.mono fun e w' ⟨he,hw⟩=>?_
  subst hw
  refine fin _ e _ ((Ext.drew _ w).trans (Ext.alloc _ _ _)) he ⟨[],rfl,.inr ⟨w.heap.size,G,Builtin.zeroCells (Value.int .i64 0).cells n ++ Builtin.zeroCells (Value.int .i64 0).cells (G - n),rfl,nz0 _,?_,nz0 _,by unfold maxLen;omega,?_,by simp⟩⟩ (fun b hb=>by simp [Value.ownBlock]at hb;omega)
  ·show(w.heap.push _)[w.heap.size]? = _
   simp
  ·simp [Builtin.zeroCells,Value.cells]
   omega
theorem flat_take (rows:LL) (i:Nat) (h:i < rows.length):(rows.take i).flatten ++ rows.getD i []=(rows.take (i+1)).flatten:=by
 rw [<- take_snoc [] rows i h];simp
theorem flat_len (rows:LL):rows.flatten.length=sumL rows:=by
 induction rows with
 | nil=>rfl
 | cons r l ih=>simp [sumL,ih]
theorem c_slices_Concat (rows:LL) (hl:sumL rows<=2097152) (hr:rows.length<=1048576):FunA B 73 [.sl false (.row false) rows] (fun rs o=>∃ nn,rs=[.own 0 0]/\o=[.arr .int rows.flatten 0 nn]):=by
 refine wk Tryz.call73 Tryz.func73 rfl Tryz.ntmps73 fun C hC hP hT hfn hpin hfin hX=>wW ?_
 refine Run.R ?_
 refine Run.R ?_
 refine Run.R ?_
 refine Run.loopI (X:=Nat) (fun i=>⟨36,[(0,true,.v (.sl false (.row false) rows)),(2,true,.v .nils),(3,true,.v (.int .i64 (sumL (rows.take i)))),(9,true,.v (.sl false (.row false) rows)),(10,true,.v (.int .i64 rows.length)),(11,true,.v (.int .i64 i))],[]⟩) (fun i=>i<=rows.length) (fun i=>rows.length - i) 0 (nz0 _) ?_ ?_
 ·exact Le.sub (by rfl) (by simp only [AW7,simprocAttr,hX];try simp [sumL])
 ·rintro i hi ih
  have hsi:=sumL_take rows i
  refine Run.R ?_
  refine Run.c ?_ ?_
  ·intro hc
   have hc:i < rows.length:=by simpa using hc
   have hsn:=sumL_snoc rows i hc
   have hsi1:=sumL_take rows (i+1)
   refine Run.R ?_
   refine Run.RW ?_
   refine Run.R ?_
   refine Run.c ?_ ?_
   ·intro h2
    simp at h2
    omega
   ·intro h2
    refine Run.RW ?_
    refine Run.le ?_ (ih (i+1) hc om)
    exact Le.sub (by rfl) (by simp only [AW7,simprocAttr,hX];rw [hsn];simp)
  ·intro hc
   have hc:i=rows.length:=by simp at hc;omega
   subst hc
   refine Run.x ?_
   rw [tkL]
   refine Run.g fun K hK=>?_
   refine FunA.e hP hT (c_slices_Grow (sumL rows) om) ?_
   refine wE ?_;clear hK K
   refine Run.R ?_
   refine Run.loopI (X:=Nat×Bool) (fun x=>⟨36,[(0,true,.v (.sl false (.row false) rows)),(2,true,.v .nils),(6,true,.v (.own 0 x.1)),(25,true,.v (.sl false (.row false) rows)),(26,true,.v (.int .i64 rows.length)),(27,true,.v (.int .i64 x.1))],[.arr .int (rows.take x.1).flatten x.1 x.2]⟩) (fun x=>x.1<=rows.length) (fun x=>rows.length - x.1) (0,false) (nz0 _) ?_ ?_
   ·exact Le.sub (by rfl) (by simp only [AW7,simprocAttr,hX];try simp)
   rintro⟨i,nn⟩ hi ih2
   simp only []at hi ⊢
   have hsi:=sumL_take rows i
   have hfl:=flat_len (rows.take i)
   refine Run.R ?_
   refine Run.c ?_ ?_
   ·intro hc
    have hc:i < rows.length:=by simpa using hc
    have hsn:=sumL_snoc rows i hc
    have hsi1:=sumL_take rows (i+1)
    refine Run.R ?_
    refine Run.R ?_
    refine Run.RW ?_
    refine Run.le ?_ (ih2 (i+1,nn || !(rows.getD i []).isEmpty) hc (by simp only [];omega))
    exact Le.sub (by simp only [flat_take rows i hc]) (by simp only [AW7,simprocAttr,hX];try simp)
   ·intro hc
    have hc:i=rows.length:=by simp at hc;omega
    subst hc
    refine Run.x ?_
    refine Run.R ?_
    refine Run.le (Le.re (obs':=[.arr .int rows.flatten 0 nn]) hpin [0] [(2,true,.own 0 0)] rfl (by rw [tkL];simp [leOs,leO_arr,oAt]) (by refine⟨⟨_,rfl,?_⟩,trivial⟩;simp [leAV,oAt,genO])) ?_
    simp only [frV_cons,frV_nil]
    refine Run.r [2] ?_
    exact⟨nn,rfl,rfl⟩
theorem c_impl_ConcatWords (a b:LI) (ha:a.length<=1048576) (hb:b.length<=1048576) :
  FunA B 117 [.sl false .int a,.sl false .int b] (fun rs o=>∃ nn,rs=[.own 0 0]/\o=[.arr .int (a ++ b) 0 nn]):=by
 refine wk Tryz.call117 Tryz.func117 rfl Tryz.ntmps117 fun C hC hP hT hfn hpin hfin hX=>wW ?_
 refine Run.R ?_
 refine Run.g fun K hK=>?_
 refine FunA.cW hP hT (c_slices_Concat [[],a,b] (by simp [sumL];omega) (by simp)) ?_
 rintro rs o ⟨nn,rfl,rfl⟩
 refine wF ?_;clear hK K
 refine Run.le (Le.re (obs':=[.arr .int (a ++ b) 0 nn]) hpin [2] [(4,true,.own 0 0)] rfl (by simp [leOs,leO_arr,oAt]) (by refine⟨⟨_,rfl,?_⟩,trivial⟩;simp [leAV,oAt,genO])) ?_
 simp only [frV_cons,frV_nil]
 refine Run.r [4] ?_
 exact⟨nn,rfl,rfl⟩
open Classical in
noncomputable def wkB (c:LL) (u v:LI):Bool:=wordB c u && wordB c v && decide ((redL c u).length+(redL c (u.reverse ++ v)).length=(redL c v).length)
theorem set_len {c:LL} {s:LI} (h:setP c.length s):s.length<=c.length:=by
 have key:∀ i,i < s.length->(i:Int)<=s.getD i 0:=by
  intro i
  induction i with
  | zero=>intro h0;exact(h 0 h0).1
  | succ i ih=>
   intro h1
   have:=ih om
   have:=(h (i+1) h1).2.2 om
   rw [Nat.add_sub_cancel]at this
   omega
 by_cases h0:s.length=0
 ·omega
 ·have:=key (s.length - 1) om
  have:=(h (s.length - 1) om).2.1
  omega
theorem set_letters {n:Nat} {s:LI} (h:setP n s):letters n s:=letters_getD.2 fun i hi=>⟨(h i hi).1,(h i hi).2.1⟩
end Go.Proofs.YtcinngodeoidnaaGreat
