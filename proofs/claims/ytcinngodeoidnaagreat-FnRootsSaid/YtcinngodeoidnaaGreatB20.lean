/- Matrices with positive minors, all of them. -/
import Derived.Test.YtcinngodeoidnaaGreatB13
import Derived.Test.YtcinngodeoidnaaGreatB16
import Derived.Test.YtcinngodeoidnaaGreatB19
import Derived.Test.YtcinngodeoidnaaGreatB17
import Derived.Test.YtcinngodeoidnaaGreatB18
import Derived.Test.YtcinngodeoidnaaGreatB9
import Derived.Shelf.SlSortCmp.WholeK
set_option linter.unusedVariables false
set_option linter.unusedSimpArgs false
namespace Go.Proofs.YtcinngodeoidnaaGreat
open Go Go.Aw Go.Cox
def cI (rows:List (List Nat)):List (List Int):=rows.zipIdx.map fun r=>r.1.zipIdx.map fun x=>if x.2=r.2 then 2 else -(x.1:Int)
def finCR:Nat->List (List (List Nat)×List (List Nat))
 | 1=>[([[0]],[[0]])]
 | 2=>prN.map fun p=>([[0,p.2],[p.1,0]],[[0,p.1],[p.2,0]])
 | 3=>prN.flatMap fun p=>prN.flatMap fun q=>(prN.filter fun r=>d3 p q r).map fun r=>(col3 p q r,row3 p q r)
 | 4=>prN.flatMap fun p=>prN.flatMap fun q=>(prN.filter fun r=>d3 p q r).flatMap fun r=>prN.flatMap fun s=>(prN.filter fun t=>d3 p s t).flatMap fun t=>(prN.filter fun u=>d3 q s u && d3 r t u && d4 p q r s t u).map fun u=>(col4 p q r s t u,row4 p q r s t u)
 | _=>[]
def finM (n:Nat):List (List (List Int)):=(finCR n).map fun x=>cI x.2
theorem fits_eq {c:LL} (hc:CartanP c) {cols rows:List (List Nat)} (h:Fits c cols rows):c=cI rows:=by
 have hA:=matA_cartan hc
 have hrow:=hc.2.2.1
 apply List.ext_getElem (by simp [cI,h.rl])
 intro i h1 h2
 have hr:=(h.cr i h1).2.1
 have hrl:i < rows.length:=by rw [h.rl];exact h1
 have hr':rows[i].length=c.length:=by rw [<- hr,gdE,geE hrl];rfl
 have hci:c[i].length=c.length:=by have:=hrow i h1;rwa [gdE,geE h1]at this
 apply List.ext_getElem (by simp [cI,hr',hci])
 intro k k1 k2
 have hk:k < c.length:=by omega
 have e1:c[i][k]=ent c i k:=by simp [ent,gdE,h1,k1]
 rw [e1]
 have e2:(cI rows)[i][k]=if k=i then 2 else -((rows[i]'hrl)[k]'om:Int):=by simp [cI]
 rw [e2]
 by_cases hki:k=i
 ·subst hki;rw [if_pos rfl];exact hA.diag k hk
 ·rw [if_neg hki,(h.ce i k h1 hk hki).2]
  simp [gdE,hrl,show k < rows[i].length by omega]
theorem fin_rows {c:LL} (hF:FinP c):∃ cols rows,Fits c cols rows/\(cols,rows)∈finCR c.length:=by
 obtain⟨hc,hm⟩:=hF
 have hA:=matA_cartan hc
 have dg:∀ i,i < c.length->ent c i i=2:=fun i hi=>hA.diag i hi
 have hn1:=hc.1
 have hn4:=hc.2.1
 have h1:c.length=1\/c.length=2\/c.length=3\/c.length=4:=by omega
 rcases h1 with hn | hn | hn | hn
 ·refine⟨[[0]],[[0]],⟨by rw [hn];rfl,by rw [hn];rfl,fun i hi=>?_,fun i k hi hk hki=>by omega⟩,by rw [hn];exact mcS ..⟩
  have:i=0:=by omega
  subst this
  rw [hn];exact⟨rfl,rfl,rfl⟩
 ·obtain⟨p,hp,p1,p2⟩:=pair_of hc (i:=0) (j:=1) om om (by decide) (by have:=hm 3 om (by rw [hn];decide);rw [show mn c 3=detN 2 (pick c [0,1])from rfl,mn2]at this;exact this)
  refine⟨[[0,p.2],[p.1,0]],[[0,p.1],[p.2,0]],⟨by rw [hn];rfl,by rw [hn];rfl,fun i hi=>?_,fun i k hi hk hki=>?_⟩,by rw [hn];exact List.mem_map.2 ⟨p,hp,rfl⟩⟩
  ·rw [hn]at hi ⊢
   rcases(show i=0\/i=1 by omega)with rfl | rfl<;>exact⟨rfl,rfl,rfl⟩
  ·rw [hn]at hi hk
   rcases(show i=0\/i=1 by omega)with rfl | rfl<;>rcases(show k=0\/k=1 by omega)with rfl | rfl<;>first | (exact absurd rfl hki) | exact⟨p2,p1⟩ | exact⟨p1,p2⟩
 ·obtain⟨p,hp,p1,p2⟩:=pair_of hc (i:=0) (j:=1) om om (by decide) (by have:=hm 3 om (by rw [hn];decide);rw [show mn c 3=detN 2 (pick c [0,1])from rfl,mn2]at this;exact this)
  obtain⟨q,hq,q1,q2⟩:=pair_of hc (i:=0) (j:=2) om om (by decide) (by have:=hm 5 om (by rw [hn];decide);rw [show mn c 5=detN 2 (pick c [0,2])from rfl,mn2]at this;exact this)
  obtain⟨r,hr,r1,r2⟩:=pair_of hc (i:=1) (j:=2) om om (by decide) (by have:=hm 6 om (by rw [hn];decide);rw [show mn c 6=detN 2 (pick c [1,2])from rfl,mn2]at this;exact this)
  have hd:d3 p q r=true:=d3_of (a:=ent c) (dg 0 om) (dg 1 om) (dg 2 om) p1 p2 q1 q2 r1 r2 (by have:=hm 7 om (by rw [hn];decide);rw [show mn c 7=detN 3 (pick c [0,1,2])from rfl,mn3]at this;exact this)
  refine⟨col3 p q r,row3 p q r,⟨by rw [hn];rfl,by rw [hn];rfl,fun i hi=>?_,fun i k hi hk hki=>?_⟩,?_⟩
  ·rw [hn]at hi ⊢
   rcases(show i=0\/i=1\/i=2 by omega)with rfl | rfl | rfl<;>exact⟨rfl,rfl,rfl⟩
  ·rw [hn]at hi hk
   rcases(show i=0\/i=1\/i=2 by omega)with rfl | rfl | rfl<;>rcases(show k=0\/k=1\/k=2 by omega)with rfl | rfl | rfl <;>
    first | (exact absurd rfl hki) | exact⟨p2,p1⟩ | exact⟨p1,p2⟩ | exact⟨q2,q1⟩ | exact⟨q1,q2⟩ | exact⟨r2,r1⟩ | exact⟨r1,r2⟩
  ·rw [hn]
   exact List.mem_flatMap.2 ⟨p,hp,List.mem_flatMap.2 ⟨q,hq,List.mem_map.2 ⟨r,List.mem_filter.2 ⟨hr,hd⟩,rfl⟩⟩⟩
 ·obtain⟨p,hp,p1,p2⟩:=pair_of hc (i:=0) (j:=1) om om (by decide) (by have:=hm 3 om (by rw [hn];decide);rw [show mn c 3=detN 2 (pick c [0,1])from rfl,mn2]at this;exact this)
  obtain⟨q,hq,q1,q2⟩:=pair_of hc (i:=0) (j:=2) om om (by decide) (by have:=hm 5 om (by rw [hn];decide);rw [show mn c 5=detN 2 (pick c [0,2])from rfl,mn2]at this;exact this)
  obtain⟨r,hr,r1,r2⟩:=pair_of hc (i:=1) (j:=2) om om (by decide) (by have:=hm 6 om (by rw [hn];decide);rw [show mn c 6=detN 2 (pick c [1,2])from rfl,mn2]at this;exact this)
  obtain⟨s,hs,s1,s2⟩:=pair_of hc (i:=0) (j:=3) om om (by decide) (by have:=hm 9 om (by rw [hn];decide);rw [show mn c 9=detN 2 (pick c [0,3])from rfl,mn2]at this;exact this)
  obtain⟨t,ht,t1,t2⟩:=pair_of hc (i:=1) (j:=3) om om (by decide) (by have:=hm 10 om (by rw [hn];decide);rw [show mn c 10=detN 2 (pick c [1,3])from rfl,mn2]at this;exact this)
  obtain⟨u,hu,u1,u2⟩:=pair_of hc (i:=2) (j:=3) om om (by decide) (by have:=hm 12 om (by rw [hn];decide);rw [show mn c 12=detN 2 (pick c [2,3])from rfl,mn2]at this;exact this)
  have g0:=dg 0 om
  have g1:=dg 1 om
  have g2:=dg 2 om
  have g3:=dg 3 om
  have ha:d3 p q r=true:=d3_of (a:=ent c) g0 g1 g2 p1 p2 q1 q2 r1 r2 (by have:=hm 7 om (by rw [hn];decide);rw [show mn c 7=detN 3 (pick c [0,1,2])from rfl,mn3]at this;exact this)
  have hb:d3 p s t=true:=d3_of (a:=ent c) g0 g1 g3 p1 p2 s1 s2 t1 t2 (by have:=hm 11 om (by rw [hn];decide);rw [show mn c 11=detN 3 (pick c [0,1,3])from rfl,mn3]at this;exact this)
  have hcc:d3 q s u=true:=d3_of (a:=ent c) g0 g2 g3 q1 q2 s1 s2 u1 u2 (by have:=hm 13 om (by rw [hn];decide);rw [show mn c 13=detN 3 (pick c [0,2,3])from rfl,mn3]at this;exact this)
  have hd:d3 r t u=true:=d3_of (a:=ent c) g1 g2 g3 r1 r2 t1 t2 u1 u2 (by have:=hm 14 om (by rw [hn];decide);rw [show mn c 14=detN 3 (pick c [1,2,3])from rfl,mn3]at this;exact this)
  have he:d4 p q r s t u=true:=by
   have:=hm 15 om (by rw [hn];decide)
   rw [show mn c 15=detN 4 (pick c [0,1,2,3])from rfl,mn4]at this
   unfold e3 at this
   rw [g0,g1,g2,g3,p1,p2,q1,q2,r1,r2,s1,s2,t1,t2,u1,u2]at this
   apply Nat.ble_eq_true_of_le
   refine Int.ofNat_le.1 ?_
   push_cast
   grind
  refine⟨col4 p q r s t u,row4 p q r s t u,⟨by rw [hn];rfl,by rw [hn];rfl,fun i hi=>?_,fun i k hi hk hki=>?_⟩,?_⟩
  ·rw [hn]at hi ⊢
   rcases(show i=0\/i=1\/i=2\/i=3 by omega)with rfl | rfl | rfl | rfl<;>exact⟨rfl,rfl,rfl⟩
  ·rw [hn]at hi hk
   rcases(show i=0\/i=1\/i=2\/i=3 by omega)with rfl | rfl | rfl | rfl<;>rcases(show k=0\/k=1\/k=2\/k=3 by omega)with rfl | rfl | rfl | rfl <;>
    first | (exact absurd rfl hki) | exact⟨p2,p1⟩ | exact⟨p1,p2⟩ | exact⟨q2,q1⟩ | exact⟨q1,q2⟩ | exact⟨r2,r1⟩ | exact⟨r1,r2⟩ | exact⟨s2,s1⟩ | exact⟨s1,s2⟩ | exact⟨t2,t1⟩ | exact⟨t1,t2⟩ | exact⟨u2,u1⟩ | exact⟨u1,u2⟩
  ·rw [hn]
   exact List.mem_flatMap.2 ⟨p,hp,List.mem_flatMap.2 ⟨q,hq,List.mem_flatMap.2 ⟨r,List.mem_filter.2 ⟨hr,ha⟩,List.mem_flatMap.2 ⟨s,hs,List.mem_flatMap.2 ⟨t,List.mem_filter.2 ⟨ht,hb⟩,List.mem_map.2 ⟨u,List.mem_filter.2 ⟨hu,by rw [hcc,hd,he];rfl⟩,rfl⟩⟩⟩⟩⟩⟩
theorem fin_mem {c:LL} (hF:FinP c):c∈finM c.length:=by
 obtain⟨cols,rows,h1,h2⟩:=fin_rows hF
 exact List.mem_map.2 ⟨(cols,rows),h2,(fits_eq hF.1 h1).symm⟩
theorem fin_chk {c:LL} (hF:FinP c) {chk:List (List Int)->Bool} (h1:(finM 1).all chk=true) (h2:(finM 2).all chk=true) (h3:(finM 3).all chk=true) (h4:(finM 4).all chk=true):chk c=true:=by
 have hm:=fin_mem hF
 have hn1:=hF.1.1
 have hn4:=hF.1.2.1
 rcases(show c.length=1\/c.length=2\/c.length=3\/c.length=4 by omega)with hn | hn | hn | hn<;>rw [hn]at hm
 ·exact alT.1 h1 c hm
 ·exact alT.1 h2 c hm
 ·exact alT.1 h3 c hm
 ·exact alT.1 h4 c hm
def mirF (A:Mat) (n i:Nat) (r:Vec):Vec:=fun k=>if k=i then r i - sumN n (fun j=>A i j*r j)else r k
def actF (A:Mat) (n:Nat) (w:List Nat) (r:Vec):Vec:=w.foldr (mirF A n) r
def lamF (A:Mat) (n:Nat) (r:Vec):Vec:=fun k=>sumN n (fun j=>A k j*r j)
theorem actF_cons (A:Mat) (n i:Nat) (w:List Nat) (r:Vec):actF A n (i :: w) r=mirF A n i (actF A n w r):=rfl
theorem mirF_eq (A:Mat) (n i:Nat) (r:Vec) (k:Nat):mirF A n i r k=r k - (if k=i then lamF A n r i else 0):=by
 unfold mirF
 by_cases h:k=i
 ·rw [if_pos h,if_pos h,h];rfl
 ·rw [if_neg h,if_neg h];omega
theorem lamF_mir (A:Mat) {n i:Nat} (hi:i < n) (r:Vec):lamF A n (mirF A n i r)=refl A i (lamF A n r):=by
 funext k
 unfold refl
 show sumN n (fun j=>A k j*mirF A n i r j)=lamF A n r k - lamF A n r i*A k i
 have e:sumN n (fun j=>A k j*(if j=i then lamF A n r i else 0))=lamF A n r i*A k i:=by
  rw [sumN_one n hi (fun j _ hj=>by rw [if_neg hj,Int.mul_zero]),if_pos rfl,Int.mul_comm]
 rw [sumN_congr n (g:=fun j=>A k j*r j+(-1)*(A k j*(if j=i then lamF A n r i else 0))) (fun j _=>by rw [mirF_eq];grind),sumN_add,sumN_mul,e]
 show lamF A n r k+_=_
 omega
def unitF (i:Nat):Vec:=fun k=>if k=i then 1 else 0
theorem lamF_unit (A:Mat) {n i:Nat} (hi:i < n) (k:Nat):lamF A n (unitF i) k=A k i:=by
 unfold lamF
 rw [sumN_one n hi (fun j _ hj=>by unfold unitF;rw [if_neg hj,Int.mul_zero])]
 simp [unitF]
theorem dotL_sum {a r:LI} (h:a.length=r.length):dotL a r=sumN r.length (fun j=>a.getD j 0*r.getD j 0):=by
 have key:∀ k,k<=r.length->dotL (a.take k) (r.take k)=sumN k (fun j=>a.getD j 0*r.getD j 0):=by
  intro k
  induction k with
  | zero=>intro _;rfl
  | succ k ih=>intro hk;rw [dot_snoc a r k om om,ih om];rfl
 have:=key r.length (Nat.le_refl _)
 rwa [tkL,<- h,tkL,h]at this
theorem mir_vec {c:LL} (hc:CartanP c) {i:Int} (hi:0<=i/\i < c.length) {r:LI} (hr:r.length=c.length):vecL (mirL c i r)=mirF (matA c) c.length i.toNat (vecL r):=by
 funext k
 have hrow:=(row_bnd hc (i:=i.toNat) om).2
 unfold mirL mirF
 show(List.set _ _ _).getD k 0=_
 rw [dotL_sum om]
 simp only [List.getD,List.getElem?_set]
 by_cases h:i.toNat=k
 ·subst h
  rw [if_pos rfl,if_pos om,if_pos rfl,hr]
  rfl
 ·rw [if_neg h,if_neg (Ne.symm h)];rfl
theorem actR_vec {c:LL} (hc:CartanP c) {r:LI} (hr:r.length=c.length):∀(w:LI),letters c.length w->vecL (actR c w r)=actF (matA c) c.length (nat w) (vecL r)
 | [],_=>rfl
 | i :: w,hw=>by
  obtain⟨h1,h2⟩:=letters_cons.1 hw
  show vecL (mirL c i (actR c w r))=mirF _ _ _ (actF _ _ (nat w) _)
  rw [mir_vec hc h1 (by rw [actR_len];exact hr),actR_vec hc hr w h2]
theorem vec_sim {n i:Nat} (hi:i < n):vecL (simL n i)=unitF i:=by
 funext k
 unfold simL unitF
 show(List.set _ _ _).getD k 0=_
 simp only [List.getD,List.getElem?_set,List.length_replicate]
 by_cases h:i=k
 ·subst h;simp [hi]
 ·rw [if_neg h,if_neg (Ne.symm h)]
  by_cases hk:k < n
  ·simp [hk]
  ·simp [hk]
theorem sumN_nonneg {f:Nat->Int}:∀ n,(∀ i,i < n->0<=f i)->0<=sumN n f/\∀ i,i < n->f i<=sumN n f
 | 0,_=>⟨by simp [sumN],fun i hi=>by omega⟩
 | n+1,h=>by
  obtain⟨h1,h2⟩:=sumN_nonneg n fun i hi=>h i om
  have:=h n om
  simp only [sumN_succ]
  refine⟨by omega,fun i hi=>?_⟩
  by_cases e:i=n
  ·subst e;omega
  ·have:=h2 i om;omega
section
variable {c:LL} (hF:FinP c)
end
def prF (A:Mat) (n:Nat) (m r:Vec):Int:=sumN n (fun k=>m k*lamF A n r k)
theorem pr_mir {A B:Mat} {n i:Nat} (hA:Cartan A n) (hB:∀ i j,i < n->j < n->B i j=A j i) (hi:i < n) (m r:Vec):prF A n (mirF B n i m) (mirF A n i r)=prF A n m r:=by
 unfold prF
 rw [lamF_mir A hi]
 have e1:∀ k,refl A i (lamF A n r) k=lamF A n r k - lamF A n r i*A k i:=fun k=>rfl
 have hb:lamF B n m i=sumN n (fun k=>m k*A k i):=sumN_congr n fun j hj=>by rw [hB i j hi hj,Int.mul_comm]
 rw [sumN_congr n (g:=fun k=>(m k*lamF A n r k+(-(lamF A n r i))*(m k*A k i))+(-1)*((if k=i then lamF B n m i else 0)*(lamF A n r k - lamF A n r i*A k i))) (fun k _=>by rw [mirF_eq,e1];grind)]
 rw [sumN_add,sumN_add,sumN_mul,sumN_mul,<- hb,sumN_one (f:=fun k=>(if k=i then lamF B n m i else 0)*(lamF A n r k - lamF A n r i*A k i)) n hi (fun j _ hj=>by rw [if_neg hj,Int.zero_mul])]
 simp only [if_true,hA.diag i hi]
 grind
theorem pr_act {A B:Mat} {n:Nat} (hA:Cartan A n) (hB:∀ i j,i < n->j < n->B i j=A j i) (m r:Vec):∀ w:List Nat,(∀ i∈w,i < n)->prF A n (actF B n w m) (actF A n w r)=prF A n m r
 | [],_=>rfl
 | i :: w,h=>by
  rw [actF_cons,actF_cons,pr_mir hA hB (h i (mcS ..))]
  exact pr_act hA hB m r w fun j hj=>h j (mcM _ hj)
theorem pr_unit {A:Mat} {n i:Nat} (hA:Cartan A n) (hi:i < n):prF A n (unitF i) (unitF i)=2:=by
 unfold prF
 rw [sumN_one n hi (fun j _ hj=>by unfold unitF;rw [if_neg hj,Int.zero_mul]),lamF_unit A hi,hA.diag i hi]
 simp [unitF]
theorem hgt_sumN (r:LI):hgt r=sumN r.length (vecL r):=by
 have key:∀ k,k<=r.length->hgt (r.take k)=sumN k (vecL r):=by
  intro k
  induction k with
  | zero=>intro _;rfl
  | succ k ih=>intro hk;rw [hgt_snoc r k om,ih om];rfl
 have:=key r.length (Nat.le_refl _)
 rwa [tkL]at this
theorem hgt_mir {c:LL} (hc:CartanP c) {i:Nat} (hi:i < c.length) {r:LI} (hr:r.length=c.length):hgt (mirL c i r)=hgt r - lamF (matA c) c.length (vecL r) i:=by
 rw [hgt_sumN,hgt_sumN r,mir_len,mir_vec hc om hr,hr,Int.toNat_natCast]
 rw [sumN_congr c.length (g:=fun k=>vecL r k+(-1)*(if k=i then lamF (matA c) c.length (vecL r) i else 0)) (fun k _=>by rw [mirF_eq];grind),sumN_add,sumN_mul,sumN_one (f:=fun k=>if k=i then lamF (matA c) c.length (vecL r) i else 0) c.length hi (fun j _ hj=>by rw [if_neg hj])]
 simp only [if_true]
 omega
theorem low_root {c:LL} (hc:CartanP c) {r:LI} (h:Rt c r) (hs:sgnR r=1):∃ k,k < c.length/\0 < lamF (matA c) c.length (vecL r) k:=by
 obtain⟨w,i,hw,hi,rfl⟩:=h
 have hc':=trL_cartan hc
 have hl:=trL_len c
 have hi':i < (trL c).length:=by rw [hl];exact hi
 have hw':letters (trL c).length w:=by rw [hl];exact hw
 have h1:¬(imageL c w.reverse).getD i 0 < 0:=fun hn=>by have:=(root_iff hc hw hi).2 hn;omega
 have hs':sgnR (actR (trL c) w (simL (trL c).length i))=1:=by
  rcases Rt.sign hc' ⟨w,i,hw',hi',rfl⟩with h | h
  ·exact h
  ·exact absurd ((img_tr hc (letters_reverse hw) hi).2 ((root_iff hc' hw' hi').1 h)) h1
 have hp:=(sgn_pos_iff.1 hs').1
 refine Classical.byContradiction fun hn=>?_
 have hle:∀ k,k < c.length->lamF (matA c) c.length (vecL (actR c w (simL c.length i))) k<=0:=fun k hk=>by
  exact Int.not_lt.1 fun h=>hn ⟨k,hk,h⟩
 have e:=pr_act (A:=matA c) (B:=matA (trL c)) (n:=c.length) (matA_cartan hc) (fun a b ha hb=>trL_ent c ha hb) (unitF i) (unitF i) (nat w) (letters_nat hw)
 rw [pr_unit (matA_cartan hc) hi]at e
 have e1:=actR_vec hc (simL_len c.length i) w hw
 have e2:=actR_vec hc' (simL_len (trL c).length i) w hw'
 rw [vec_sim hi]at e1
 rw [vec_sim hi',hl]at e2
 rw [<- e1,<- e2]at e
 rw [hl]at hp
 have hz:=(sumN_nonneg (f:=fun k=>(-1)*(vecL (actR (trL c) w (simL c.length i)) k*lamF (matA c) c.length (vecL (actR c w (simL c.length i))) k)) c.length (fun k hk=>by
  have a:=hp k
  have b:=hle k hk
  have:=Int.mul_nonneg a (show 0<=-(lamF (matA c) c.length (vecL (actR c w (simL c.length i))) k) by omega)
  show 0<=(-1)*((actR (trL c) w (simL c.length i)).getD k 0*_)
  grind)).1
 rw [sumN_mul]at hz
 unfold prF at e
 rw [e]at hz
 omega
theorem rs_rt {c:LL} (hc:CartanP c) {h:Int}:∀(N:Nat) {r:LI},(hgt r).toNat<=N->Rt c r->sgnR r=1->hgt r<=h->RS c h r:=by
 intro N
 induction N with
 | zero=>
  intro r hN hr hs _
  obtain⟨k,hk,hl⟩:=low_root hc hr hs
  have h0:=hgt_nonneg (sgn_nn hs)
  have hz:=hgt_zero (sgn_nn hs) om
  obtain⟨q,hq⟩:=(sgn_pos_iff.1 hs).2
  rw [hz,gdE,List.getElem?_replicate]at hq
  split at hq<;>simp at hq
 | succ N ih=>
  intro r hN hr hs hh
  obtain⟨k,hk,hl⟩:=low_root hc hr hs
  have hm:=hgt_mir hc hk hr.len
  have hr':=hr.mir (i:=(k:Int)) om
  rcases hr'.sign hc with h1 | h1
  ·have h0:=hgt_nonneg (sgn_nn h1)
   have hb:mirL c k (mirL c k r)=r:=mir2 hc om hr.len
   have:=RS.up (mirL c k r) k (ih om hr' h1 om) hk (by rw [hb];exact hs) (by rw [hb];exact hh) (by rw [hb];omega)
   rwa [hb]at this
  ·rw [only_sim hc hr hk hs h1]
   exact .sim k hk
theorem RS.rt {c:LL} {h:Int} {r:LI} (k:RS c h r):Rt c r:=by
 induction k with
 | sim i hi=>exact Rt.sim hi
 | up r i _ hi _ _ _ ih=>exact ih.mir om
def addP (h:Int) (L:LL) (r:LI):List (List Int):=if r∉L/\sgnR r=1/\hgt r<=h then L ++ [r]else L
theorem addP_sub {h:Int} {L:LL} {r z:LI} (hz:z∈L):z∈addP h L r:=by
 unfold addP;split
 ·exact List.mem_append_left _ hz
 ·exact hz
theorem addP_get {h:Int} {L:LL} {r:LI} {k:Nat} (hk:k < L.length):(addP h L r).getD k []=L.getD k []:=by
 unfold addP;split
 ·simp [gdE,List.getElem?_append_left hk]
 ·rfl
theorem addP_in {h:Int} {L:LL} {r:LI} (h1:sgnR r=1) (h2:hgt r<=h):r∈addP h L r:=by
 unfold addP;split
 ·simp
 ·rename_i hn
  refine Classical.byContradiction fun hz=>hn ⟨hz,h1,h2⟩
structure PL (c:LL) (h:Int) (L:LL):Prop where
 nd:L.Nodup
 mem:∀ z∈L,RS c h z
theorem PL.nil (c:LL) (h:Int):PL c h []:=⟨List.nodup_nil,fun _ hz=>by cases hz⟩
theorem PL.add {c:LL} (hc:CartanP c) {h:Int} {L:LL} (k:PL c h L) {r:LI} (hr:Rt c r):PL c h (addP h L r):=by
 unfold addP
 split
 ·rename_i hq
  obtain⟨h1,h2,h3⟩:=hq
  refine⟨List.nodup_append.2 ⟨k.nd,by simp,fun a ha b hb e=>?_⟩,fun z hz=>?_⟩
  ·simp at hb;subst hb;subst e;exact h1 ha
  ·rcases List.mem_append.1 hz with hz | hz
   ·exact k.mem z hz
   ·simp at hz;subst hz;exact rs_rt hc _ (Nat.le_refl _) hr h2 h3
 ·exact k
def PD (c:LL) (h:Int) (L:LL) (k m:Nat):Prop:=∀ j i,j < k\/(j=k/\i < m)->i < c.length->sgnR (mirL c i (L.getD j []))=1->hgt (mirL c i (L.getD j []))<=h->mirL c i (L.getD j [])∈L
theorem PD.zero (c:LL) (h:Int) (L:LL):PD c h L 0 0:=fun j i hj=>by omega
theorem PD.next {c:LL} {h:Int} {L:LL} {k:Nat} (p:PD c h L k c.length):PD c h L (k+1) 0:=fun j i hj hi=>p j i om hi
theorem PD.add {c:LL} {h:Int} {L:LL} {k m:Nat} (p:PD c h L k m) (hk:k < L.length):PD c h (addP h L (mirL c m (L.getD k []))) k (m+1):=fun j i hj hi h1 h2=>by
 rw [addP_get om]at h1 h2 ⊢
 by_cases e:j=k/\i=m
 ·obtain⟨rfl,rfl⟩:=e
  exact addP_in h1 h2
 ·exact addP_sub (p j i om hi h1 h2)
theorem PD.all {c:LL} {h:Int} {L:LL} (p:PD c h L L.length 0) (hs:∀ i,i < c.length->simL c.length i∈L) {z:LI} (hz:RS c h z):z∈L:=by
 induction hz with
 | sim i hi=>exact hs i hi
 | up r i _ hi h1 h2 _ ih=>
  obtain⟨j,hj,e⟩:=List.getElem_of_mem ih
  have e2:L.getD j []=r:=by simp [gdE,hj,e]
  have:=p j i (.inl hj) hi
  rw [e2]at this
  exact this h1 h2
set_option maxHeartbeats 2000000 in
theorem c_add (r s:LI) (H:Int) (hb lb sb mb:Nat) (xs:List (List Int×List Int)) (hr:Bnd 1000000000000000000 r) (hl:r.length<=4) (hx:∀ z∈xs.map (·.1),z.length=r.length) (hxl:xs.length<=1000000) :
  FunO B 146 [.sl true .int r,.sl true .int s,.hp sb 0,.hp hb 0,.hp lb 0] (.bag ⟨4,hb,H,lb,true,xs,sb,mb,⟨true,false⟩,mlR (xs.map (·.1))⟩ 0)
   (fun rs o=>rs=[]/\∃ g,o=[.bag ⟨4,hb,H,lb,true,addX H xs (r,s),sb,mb,⟨true,false⟩,mlR ((addX H xs (r,s)).map (·.1))⟩ g]):=by
 have hget:=mlR_get hl hx
 refine FunO.walk B_ok (fn:=Tryz.f146) (fun vs w=>Tryz.call146 vs w) Tryz.func146 rfl (by rw [Tryz.ntmps146];simp) (fun C hC hP hT hΓ hbt hfn hpin hfin=>?_);have hX:=BX;rw [<- hΓ,<- hbt.1,<- hbt.2.1,<- hbt.2.2.1,<- hbt.2.2.2.2]at hX;rw [hT]at hX;rw [Tryz.ntmps146];simp only [AW7,simprocAttr,hX]
 refine Run.g fun K hK=>?_
 rw [wst_arr]
 refine wF ?_;clear hK K
 refine Run.g fun K hK=>?_
 rw [wsl_arr]
 refine wW ?_
 rw [Q_cpA]
 refine wF ?_;clear hK K
 rw [show List.take 4 r ++ List.drop r.length [0,0,0,0]=kR r from rfl]
 refine Run.nq ?_;refine Run.regionD hC true [0,1,2,3,4,5,6,7,8,9,10,12,11,13,14] (by kernel_rfl) (fun K hK=>?_);simp only [AW7,simprocAttr,hX];(repeat(with_reducible refine And.intro ?_ ?_);exact vc0)
 simp only [List.getD_cons_zero,hget]
 refine .inl (FunA.callG hP hT (c_impl_RootSign r) (fun _=>rfl) (fun _=>by simp only [AW7,simprocAttr]) ?_)
 refine wW ?_
 refine .inl (FunA.callG hP hT (c_impl_HeightOf r hr hl) (fun _=>rfl) (fun _=>by simp only [AW7,simprocAttr]) ?_)
 refine wF ?_;clear hK K
 refine Run.c ?_ ?_
 ·intro h
  have hA:r∉xs.map (·.1)/\sgnR r=1/\hgt r<=H:=by
   by_cases hm:r∈xs.map (·.1)
   ·rw [decide_eq_true hm]at h;cases h
   ·rw [decide_eq_false hm]at h
    simp only [Bool.not_false,cond_true]at h
    cases hs:sgnR r == 1 with
    | false=>rw [hs]at h;cases h
    | true=>rw [hs]at h;exact⟨hm,by simpa using hs,by simpa using h⟩
  have hadd:addX H xs (r,s)=xs ++ [(r,s)]:=if_pos hA
  have hput:=mlR_put hl hx hA.1
  refine Run.R ?_
  simp only [List.getD_cons_zero,hput]
  refine Run.R ?_
  refine Run.le (Le.cut (fr':=[]) (obs':=[.bag ⟨4,hb,H,lb,true,xs ++ [(r,s)],sb,mb,⟨true,false⟩,mlR (xs.map (·.1) ++ [r])⟩ 1]) [_,_] (by rw [hpin];exact Nat.le_refl _) rfl trivial rfl) ?_
  refine Run.doneW [] (by decide) (by rw [hfn];rfl) rfl trivial (hfin _ _ _ rfl rfl ⟨_,_,rfl⟩ ?_)
  exact⟨rfl,1,by rw [hadd];simp⟩
 ·intro h
  have hA:¬(r∉xs.map (·.1)/\sgnR r=1/\hgt r<=H):=by
   rintro⟨h1,h2,h3⟩
   rw [decide_eq_false h1]at h
   simp [h2,h3]at h
  have hadd:addX H xs (r,s)=xs:=if_neg hA
  refine Run.le (Le.cut (fr':=[]) (obs':=[.bag ⟨4,hb,H,lb,true,xs,sb,mb,⟨true,false⟩,mlR (xs.map (·.1))⟩ 0]) [_] (by rw [hpin];exact Nat.le_refl _) rfl trivial rfl) ?_
  refine Run.nq ?_
  refine Run.doneW [] (by decide) (by rw [hfn];rfl) rfl trivial (hfin _ _ _ rfl rfl ⟨_,_,rfl⟩ ?_)
  exact⟨rfl,0,by rw [hadd]⟩
theorem c_cmpPair (a b:List Int×List Int) (ha:Bnd 1000000000000000000 a.1) (hb:Bnd 1000000000000000000 b.1) (h4:a.1.length<=4) (hl:a.1.length=b.1.length) :
  FunA B 148 [.prv a,.prv b] (fun rs o=>rs=[.int .i64 (cmpR a.1 b.1)]/\o=[]):=by
 refine wk Tryz.call148 Tryz.func148 rfl Tryz.ntmps148 fun C hC hP hT hfn hpin hfin hX=>wW ?_
 refine Run.R ?_
 refine Run.g fun K hK=>?_
 refine FunA.e hP hT (c_impl_compareRoots a.1 b.1 ha hb h4 hl) ?_
 refine wE ?_;clear hK K
 refine Run.k [4] [] ?_
 refine Run.r [4] ?_
 exact⟨rfl,rfl⟩
theorem c_impl_TransposeCartan (c:LL) (hc:CartanP c):FunA B 145 [.sl false (.row false) c] (fun rs o=>rs=[.own 0 0]/\∃ ys,rw2 ys=trL c/\o=[.arr .lrow ys 0 true]):=by
 have hn:=hc.2.1
 have hb:=isC_true hc
 refine wk Tryz.call145 Tryz.func145 rfl Tryz.ntmps145 fun C hC hP hT hfn hpin hfin hX=>wW ?_
 refine Run.R ?_
 refine Run.g fun K hK=>?_
 refine FunA.cW hP hT (c_impl_IsCartan c) ?_
 rintro rs o ⟨rfl,rfl⟩
 rw [hb]
 refine wF ?_;clear hK K
 refine Run.c ?_ ?_
 ·intro h;cases h
 intro _
 refine Run.R ?_
 refine Run.R ?_
 refine Run.k [0,2,3,13,14] [0] ?_
 refine Run.loopI (X:=Nat×List (Nat×List Int)) (fun m=>⟨40,[(0,true,.v (.sl false (.row false) c)),(2,true,.v (.nils)),(3,true,.v (.own 0 0)),(13,true,.v (.int .i64 ((c.length:Nat)))),(14,true,.v (.int .i64 (m.1)))],[.arr .lrow (m.2) 0 true]⟩) (fun m=>m.1<=c.length/\rw2 m.2=(trL c).take m.1) (fun m=>c.length - m.1) ((0,[])) (⟨nz0 _,rfl⟩) ?_ ?_
 ·exact Le.s
 rintro⟨m,ys⟩ ⟨hm,hy⟩ ih
 try simp only []
 simp only []at hm hy
 have hyl:ys.length=m:=by have:=congrArg List.length hy;simpa [rw2,trL_len,hm] using this
 refine Run.R ?_
 refine Run.c ?_ ?_
 ·intro h
  have h:m < c.length:=by simpa using h
  refine Run.R ?_
  refine Run.R ?_
  refine Run.R ?_
  refine Run.k [0,2,3,13,14,4,5,19,20] [0,1] ?_
  refine Run.loopI (X:=Nat) (fun k=>⟨40,[(0,true,.v (.sl false (.row false) c)),(2,true,.v (.nils)),(3,true,.v (.own 0 0)),(13,true,.v (.int .i64 ((c.length:Nat)))),(14,true,.v (.int .i64 m)),(4,true,.v (.int .i64 m)),(5,true,.v (.own 1 0)),(19,true,.v (.int .i64 ((c.length:Nat)))),(20,true,.v (.int .i64 k))],[.arr .lrow (ys) 0 true,.arr .int (((List.range k).map fun j=>ent c j m)) 0 true]⟩) (fun k=>k<=c.length) (fun k=>c.length - k) (0) (nz0 _) ?_ ?_
  ·exact Le.s
  rintro k hk ih2
  try simp only []
  refine Run.R ?_
  refine Run.c ?_ ?_
  ·intro h2
   have h2:k < c.length:=by simpa using h2
   have hr:=hc.2.2.1 k h2
   have hsn:((List.range (k+1)).map fun j=>ent c j m)=((List.range k).map fun j=>ent c j m) ++ [(c.getD k []).getD m 0]:=by rw [List.range_succ,List.map_append];rfl
   refine Run.R ?_
   refine Run.R ?_
   refine Run.RW ?_
   refine Run.k [0,2,3,13,14,4,5,19,20] [0,1] ?_
   refine Run.le ?_ (ih2 (k+1) om om)
   exact Le.sub (by rw [hsn]) (by simp only [AW7,simprocAttr];try simp)
  ·intro h2
   have h2:k=c.length:=by simp at h2;omega
   subst h2
   have hrow:(trL c).getD m []=(List.range c.length).map fun j=>ent c j m:=trL_row c h
   have hst:rw2 (ys ++ [(0,(List.range c.length).map fun j=>ent c j m)])=(trL c).take (m+1):=by
    rw [rw2_app,hy]
    rw [List.take_succ_eq_append_getElem (by rw [trL_len];exact h)]
    congr 1
    simp only [rw2,List.map_cons,List.map_nil]
    rw [<- hrow]
    simp [gdE,show m < (trL c).length by rw [trL_len];exact h]
   refine Run.x ?_
   refine Run.g fun K hK=>?_
   intro l hl
   refine wF ?_;clear hK K
   refine Run.RW ?_
   refine Run.k [0,2,3,13,14] [0] ?_
   refine Run.le ?_ (ih (m+1,ys ++ [(l,(List.range c.length).map fun j=>ent c j m)]) ⟨h,by simp only [rw2,List.map_append,List.map_cons,List.map_nil]at hst ⊢;exact hst⟩ (by simp only [];omega))
   exact Le.sub (by rfl) (by simp only [AW7,simprocAttr];try simp)
 ·intro h
  have h:m=c.length:=by simp at h;omega
  subst h
  rw [List.take_of_length_le (by rw [trL_len];exact Nat.le_refl _)]at hy
  refine Run.x ?_
  refine Run.R ?_
  refine Run.k [2] [0] ?_
  refine Run.r [2] ?_
  exact⟨rfl,ys,hy,rfl⟩
structure PI (c:LL) (H:Int) (xs:List (List Int×List Int)):Prop where
 pl:PL c H (xs.map (·.1))
 co:∀ p∈xs,p.2.length=c.length
theorem addX_fst (H:Int) (xs:List (List Int×List Int)) (r s:LI):(addX H xs (r,s)).map (·.1)=addP H (xs.map (·.1)) r:=by
 unfold addX addP
 by_cases h:r∉xs.map (·.1)/\sgnR r=1/\hgt r<=H
 ·rw [if_pos h,if_pos h,List.map_append];rfl
 ·rw [if_neg h,if_neg h]
theorem PI.add {c:LL} (hc:CartanP c) {H:Int} {xs:List (List Int×List Int)} (k:PI c H xs) {r s:LI} (hr:Rt c r) (hs:s.length=c.length):PI c H (addX H xs (r,s)):=by
 refine⟨by rw [addX_fst];exact k.pl.add hc hr,fun p hp=>?_⟩
 unfold addX at hp
 split at hp
 ·rcases List.mem_append.1 hp with hp | hp
  ·exact k.co p hp
  ·simp at hp;subst hp;exact hs
 ·exact k.co p hp
theorem PL.len {c:LL} (hc:CartanP c) {H:Int} (h1:1<=H) (h2:H<=12) {L:LL} (k:PL c H L):L.length<=28561:=
 box_count hc.2.1 k.nd fun r hr=>⟨(k.mem r hr).len,fun x hx=>by have:=(k.mem r hr).box h1 x hx;omega⟩
theorem PI.len {c:LL} (hc:CartanP c) {H:Int} (h1:1<=H) (h2:H<=12) {xs:List (List Int×List Int)} (k:PI c H xs):xs.length<=28561:=by
 have:=k.pl.len hc h1 h2
 simpa using this
theorem PI.lens {c:LL} {H:Int} {xs:List (List Int×List Int)} (k:PI c H xs):∀ z∈xs.map (·.1),z.length=c.length:=fun z hz=>(k.pl.mem z hz).len
theorem PI.at {c:LL} {H:Int} {xs:List (List Int×List Int)} (k:PI c H xs) {i:Nat} (hi:i < xs.length):RS c H (xs.getD i ([],[])).1/\(xs.getD i ([],[])).2.length=c.length:=by
 rw [gdE,geE hi]
 exact⟨k.pl.mem _ (List.mem_map.2 ⟨_,List.getElem_mem hi,rfl⟩),k.co _ (List.getElem_mem hi)⟩
theorem fst_at {xs:List (List Int×List Int)} {i:Nat} (hi:i < xs.length):(xs.map (·.1)).getD i []=(xs.getD i ([],[])).1:=by
 simp [gdE,hi]
theorem addX_get {H:Int} {xs:List (List Int×List Int)} {p:List Int×List Int} {k:Nat} (hk:k < xs.length):(addX H xs p).getD k ([],[])=xs.getD k ([],[]):=by
 unfold addX;split
 ·simp [gdE,List.getElem?_append_left hk]
 ·rfl
theorem addX_len (H:Int) (xs:List (List Int×List Int)) (p:List Int×List Int):xs.length<=(addX H xs p).length:=by
 unfold addX;split<;>simp
def SimP (c:LL) (k:Nat) (xs:List (List Int×List Int)):Prop:=∀ i,i < k->simL c.length i∈xs.map (·.1)
theorem SimP.add {c:LL} {k:Nat} {xs:List (List Int×List Int)} (h:SimP c k xs) (H:Int) (p:List Int×List Int):SimP c k (addX H xs p):=fun i hi=>by
 rw [show p=(p.1,p.2)from rfl,addX_fst];exact addP_sub (h i hi)
theorem SimP.next {c:LL} {k:Nat} {xs:List (List Int×List Int)} (h:SimP c k xs) (hc:CartanP c) (hk:k < c.length) {H:Int} (h1:1<=H) (s:LI):SimP c (k+1) (addX H xs (simL c.length k,s)):=fun i hi=>by
 by_cases e:i=k
 ·subst e
  rw [addX_fst]
  refine addP_in ?_ (by rw [hgt_sim _ _ hk];exact h1)
  exact sgn_pos_iff.2 ⟨fun j=>by rw [simL_get _ _ _ hk];split<;>omega,i,by rw [simL_get _ _ _ hk,if_pos rfl];omega⟩
 ·exact(h.add H _) i om
theorem sorted_RL {c:LL} {H:Int} {xs ys:List (List Int×List Int)} (k:PI c H xs) (hs:SimP c c.length xs) (hd:PD c H (xs.map (·.1)) xs.length 0) (hp:ys.Perm xs) (hy:ys.Pairwise fun p q=>¬cmpR q.1 p.1 < 0) :
  RL c H (ys.map (·.1))/\∀ z,RS c H z->z∈ys.map (·.1):=by
 have hpm:(ys.map (·.1)).Perm (xs.map (·.1)):=hp.map _
 have hd':PD c H (xs.map (·.1)) (xs.map (·.1)).length 0:=by rw [List.length_map];exact hd
 have hall:∀ z,RS c H z->z∈ys.map (·.1):=fun z hz=>hpm.mem_iff.2 (hd'.all hs hz)
 have hnd:(ys.map (·.1)).Nodup:=hpm.nodup_iff.2 k.pl.nd
 have hlen:∀ z∈ys.map (·.1),z.length=c.length:=fun z hz=>k.lens z (hpm.mem_iff.1 hz)
 refine⟨⟨?_,fun z hz=>k.pl.mem z (hpm.mem_iff.1 hz),fun i hi=>hpm.mem_iff.2 (hs i hi)⟩,hall⟩
 have h1:(ys.map (·.1)).Pairwise fun p q=>¬cmpR q p < 0:=List.pairwise_map.2 hy
 have h2:=List.Pairwise.and h1 hnd
 refine List.Pairwise.imp_of_mem (fun {a b} ha hb hab=>?_) h2
 obtain⟨h3,h4⟩:=hab
 have e:a.length=b.length:=by rw [hlen a ha,hlen b hb]
 rcases befR_total e h4 with h | h
 ·exact h
 ·exact absurd ((befR_cmp e.symm).1 h) h3
open Go.Sort
theorem ACall.sortBag {B C:Ctx} [DrT B] (hP:B.P=C.P) (hT:B.tid=C.tid) {ρs:Go.Shelf.Ren} (L:SlLaysF0.n6 B.P ρs) (aE:∀ w,(isAgg (ρs.t 24)).run B.P w=.ok true w) (zE:∀ w,(Go.sizeOf (ρs.t 24)).run B.P w=.ok 2 w)
  {f g:FuncId} (hf:ρs.f 6=f) {cf:E.pr.D->E.pr.D->Int} (hO:Go.Sort.SWO (ltOf cf)) {obs:List O} {d:BagD} {gg:Nat}
  (ho:bagH obs=some (d,gg)) (h2:2<=d.ph) (hpos:0 < d.xs.length) (hyb:d.xs.length<=1048576) (hcmp:∀ a b,a∈d.xs->b∈d.xs->FunA B g [.prv a,.prv b] (fun rs o=>rs=[.int .i64 (cf a b)]/\o=[])) {K:Sl->List O->Prop}
  (hk:∀ ys':List E.pr.D,ys'.Perm d.xs->ys'.Pairwise (fun p q=>¬cf q p < 0)->K (.t []) (oSet obs 0 (.bag { d with xs:=ys' } gg))):ACall C obs f [.own 0 gg,.fn g] fun x o=>Later (K x o):=by
 refine⟨fun vs w=>by rw [<- hP,<- hf];exact L.f6.enters rfl vs w,fun w ρ vs rr hl hx=>?_⟩
 have ho':=bagH_get ho
 match vs,hl with
 | [u1,u2],_=>
 have a1:=hx 0 _ u1 rfl rfl
 have a2:u2=.func (.func g) #[] #[]:=hx 1 _ u2 rfl rfl
 obtain⟨hu1,hB⟩:=own_bag rr ho' a1
 obtain⟨cs,hown,henc,hnn,hml⟩:=hB.r h2
 have hcl:cs.length=d.xs.length*2:=by simpa [E.size] using henc.1
 rcases hown.2 with⟨hv,_⟩ | ⟨b,cap,cur,hv,_,hg,h1,h3,h4,h5⟩
 ·exact(hnn hv).elim
 have hrow:∀ i (hi:i < d.xs.length),∃ v1 v2,cs[i*2]? = some v1/\cs[i*2+1]? = some v2/\ElRel (C.V w obs ρ) .pr d.xs[i] (.agg #[v1,v2])/\v1.oneCell'=true/\v2.oneCell'=true:=by
  intro i hi
  obtain⟨u,hu,hc⟩:=henc.2 i hi
  have hu0:=hu
  obtain⟨v1,v2,rfl,r1,r2⟩:∃ v1 v2,u=.agg #[v1,v2]/\RowRel (C.V w obs ρ) true d.xs[i].1 v1/\RowRel (C.V w obs ρ) true d.xs[i].2 v2:=hu
  have c0:=hc 0 (by simp [E.size])
  have c1:=hc 1 (by simp [E.size])
  simp only [E.size,Nat.add_zero]at c0 c1
  exact⟨v1,v2,by rw [c0];rfl,by rw [c1];rfl,hu0,RowRel.oneCell r1,RowRel.oneCell r2⟩
 have hob:Own obs ρ b:=⟨0,_,ho',.inr (.inr (.inl ⟨h2,by rw [<- hu1,hv];rfl⟩))⟩
 haveI:Inhabited (Fin d.xs.length):=⟨⟨0,hpos⟩⟩
 let nil:Value:=.slice none 0 0
 let enc:Fin d.xs.length->List Value:=fun i=>[cs.getD (i.1*2) nil,cs.getD (i.1*2+1) nil]
 let cf':Fin d.xs.length->Fin d.xs.length->Int:=fun i j=>cf d.xs[i] d.xs[j]
 let dd:Array (Fin d.xs.length):=Array.ofFn fun i=>i
 have hds:dd.size=d.xs.length:=Array.size_ofFn
 have hdd:∀ j (hj:j < d.xs.length),dd[j]! = ⟨j,hj⟩:=fun j hj=>by
  rw [getElem!_pos dd j (by rw [hds];exact hj)]
  simp [dd]
 have henc':∀ i:Fin d.xs.length,∃ v1 v2,enc i=[v1,v2]/\cs[i.1*2]? = some v1/\cs[i.1*2+1]? = some v2/\ElRel (C.V w obs ρ) .pr d.xs[i] (.agg #[v1,v2])/\v1.oneCell'=true/\v2.oneCell'=true:=by
  intro i
  obtain⟨v1,v2,e1,e2,r⟩:=hrow i.1 i.2
  exact⟨v1,v2,by show [cs.getD (i.1*2) nil,cs.getD (i.1*2+1) nil]=_;simp [List.getD,e1,e2],e1,e2,r⟩
 have hk2:∀ x,(enc x).length=2:=fun _=>rfl
 have hone:∀ x,∀ v∈enc x,v.oneCell'=true:=fun x v hv=>by
  obtain⟨v1,v2,e,_,_,_,o1,o2⟩:=henc' x
  rw [e]at hv
  rcases List.mem_cons.1 hv with rfl | hv
  ·exact o1
  ·simp at hv;subst hv;exact o2
 have hblk:b < w.heap.size:=(ageS.1 hg).1
 have hcc:∀ i,i < d.xs.length*2->cur[i]? = cs[i]?:=fun i hi=>by
  rw [<- h5,List.getElem?_take_of_lt hi]
  simp
 have hflat:∀(q:Array (Fin d.xs.length)) (i c:Nat) (hi:i < q.size) (hc:c < 2),(flatK enc 2 q)[i*2+c]! = (enc q[i]!)[c]!:=fun q i c hi hc=>by
  rw [get_flatK _ _ _ _ om,show(i*2+c) / 2=i by omega,show(i*2+c) % 2=c by omega]
 have hH:HoldsK enc 2 w b 0 dd:=by
  intro j hj
  rw [size_flatK,hds]at hj
  refine⟨?_,by simp [World.frozen?,hg]⟩
  have hj2:j / 2 < d.xs.length:=by omega
  have e0:=hflat dd (j / 2) (j % 2) (by rw [hds];exact hj2) om
  rw [show j / 2*2+j % 2=j by omega,hdd _ hj2]at e0
  simp only [World.cell?,hg,Nat.zero_add,id_eq]
  rw [e0,hcc j hj]
  obtain⟨v1,v2,e,c1,c2,_⟩:=henc' ⟨j / 2,hj2⟩
  rw [e]
  rcases(by omega:j % 2=0\/j % 2=1)with h | h
  ·rw [h,<- show j / 2*2=j by omega];exact c1
  ·rw [h,<- show j / 2*2+1=j by omega]
   have:(j / 2*2+1) / 2=j / 2:=by omega
   exact c2
 have hvis:∀ l o,(C.V w obs ρ).H l=some o->l≠b/\w.heap[l]? = some o:=fun l o h=>by
  obtain⟨k1,k2⟩:=H_vis h
  exact⟨fun e=>k1 (e▸hob),k2⟩
 have hswk:∀ m dk os,sortWorldK enc 2 w b 0 m dk os=sortWorld id w b 0 m (flatK enc 2 dk) os:=fun _ _ _=>rfl
 have hC:CmpLays B.P g #[] enc 2 cf' b 0 dd.size w:=by
  intro m os dk _ x y
  rw [hswk]
  have hle:(C.V w obs ρ).le ((B.bareL (sortWorld id w b 0 m (flatK enc 2 dk) os) (fun _=>True)).V (sortWorld id w b 0 m (flatK enc 2 dk) os) [] (fun _=>undef)):=by
   refine⟨fun l o h=>?_,fun _ _=>.inr trivial,by show B.tid .int=C.tid .int;rw [hT]⟩
   obtain⟨k1,k2⟩:=hvis l o h
   have k3:=sw_heap (id:Value->Value) w b 0 m (flatK enc 2 dk) os l (ageS.1 k2).1
   rw [if_neg k1,k2]at k3
   rw [H_bare]
   exact k3
  have hrel:∀ z,AVRel ((B.bareL (sortWorld id w b 0 m (flatK enc 2 dk) os) (fun _=>True)).V (sortWorld id w b 0 m (flatK enc 2 dk) os) [] (fun _=>undef)) [] (fun _=>undef) (.prv d.xs[z]) (.agg (enc z).toArray):=fun z=>by
   obtain⟨v1,v2,e,_,_,r,_⟩:=henc' z
   rw [e]
   exact r.mono hle
  have key:=(hcmp d.xs[x] d.xs[y] (List.getElem_mem _) (List.getElem_mem _)).2 (sortWorld id w b 0 m (flatK enc 2 dk) os) (fun _=>True) [.agg (enc x).toArray,.agg (enc y).toArray] (by rw [hP];exact rr.laid.up (fun c hc hno=>by rw [sw_heap (id:Value->Value) w b 0 m (flatK enc 2 dk) os c hc,if_neg (fun e:c=b=>hno (e▸hob))]) (fun _ _ _ k=>k)) rfl (fun i a v hi hv=>by
   match i with
   | 0=>simp at hi hv;subst hi hv;exact hrel x
   | 1=>simp at hi hv;subst hi hv;exact hrel y
   | i+2=>simp at hi)
  refine key.mono fun e w' ⟨us,he,xs,obs',ρ',⟨hxs,hobs⟩,hul,hu,hw',_,_⟩=>?_
  subst hxs hobs
  match us,hul with
  | [v],_=>
  have hv:v=.int .i64 (cf d.xs[x] d.xs[y]):=hu 0 _ v rfl rfl
  refine⟨by rw [he,hv];rfl,_,_,world_grow hw'.os0 hw'.tape hw'.output (hw'.drawn (DrT.h (B:=B))) hw'.grow (fun b hb=>hw'.kept b hb (fun k=>k))⟩
 have hsz:dd.size < 4611686018427387904:=by rw [hds];omega
 have hO':Go.Sort.SWO (ltOf cf'):=⟨fun x=>hO.irrefl _,fun x y z=>hO.trans _ _ _,fun x y z=>hO.ntrans _ _ _⟩
 have main:=AnyQ.slices_SortFunc L 2 aE zE enc hk2 hone cf' hO' g #[] b 0 cap dd w (hcmp d.xs[0] d.xs[0] (List.getElem_mem _) (List.getElem_mem _)).1 hC hH hblk hsz
 rw [hf,hP,hds]at main
 subst a2 hu1
 rw [hv]
 refine main.mono fun e w' ⟨he,d',n,os,hperm,hsort,hw'⟩=>⟨.tuple #[],he,.t [],?_⟩
 rw [hswk]at hw'
 obtain⟨hps,_,hpp⟩:=hperm
 rw [hds]at hps
 have hpl:d'.toList.Perm dd.toList:=by
  have e1:d'.extract 0 d.xs.length=d':=(congrArg (fun k=>d'.extract 0 k) hps.symm).trans Array.extract_size
  have e2:dd.extract 0 d.xs.length=dd:=(congrArg (fun k=>dd.extract 0 k) hds.symm).trans Array.extract_size
  rw [e1,e2]at hpp
  exact hpp
 let ys':List E.pr.D:=d'.toList.map fun i=>d.xs[i]
 have hyl:ys'.length=d.xs.length:=by simp [ys',hps]
 have hyp:ys'.Perm d.xs:=by
  have e:dd.toList.map (fun i=>d.xs[i])=d.xs:=by
   apply List.ext_getElem
   ·simp [hds]
   ·intro i q1 q2
    simp [dd]
  rw [<- e]
  exact hpl.map _
 have hget:∀ i (hi:i < d.xs.length),d'[i]! = d'[i]'om:=fun i hi=>getElem!_pos d' i om
 have hys:ys'.Pairwise (fun p q=>¬cf q p < 0):=by
  refine List.pairwise_iff_getElem.2 fun i j hi hj hij=>?_
  rw [hyl]at hi hj
  have hso:=hsort i j (nz0 _) hij hj
  rw [hget i hi,hget j hj]at hso
  have:decide (cf d.xs[d'[j]'om] d.xs[d'[i]'om] < 0)=false:=hso
  simpa [ys'] using this
 have hheap:=fun b' (hb:b' < w.heap.size)=>sw_heap (id:Value->Value) w b 0 n (flatK enc 2 d') os b' hb
 have hext:Ext (fun b'=>fpo (ρ 0) (.bag d gg) b') w w':=by
  rw [hw']
  refine⟨rfl,rfl,rfl,sw_size ..,Nat.le_add_right _ _,fun b' hb' hS=>?_⟩
  rw [hheap b' hb',if_neg]
  intro e
  subst e
  exact hS (.inr (.inr (.inl ⟨h2,by rw [hv];rfl⟩)))
 have hfb:∀ b',fpo (ρ 0) (.bag { d with xs:=ys' } gg) b'->fpo (ρ 0) (.bag d gg) b'\/w.heap.size<=b':=fun b' hb'=>.inl hb'
 have hle:=le_one (C:=C) (o':=.bag { d with xs:=ys' } gg) (v:=ρ 0) ho' hext hfb
 have T:=Turn.one rr 0 (.bag d gg) (.bag { d with xs:=ys' } gg) (ρ 0) ho' hext (w':=w') ?_ hfb (fun c' hc=>⟨gg,rfl,.inl ⟨(by cases hc;rfl),rfl⟩⟩)
 ·have hst:=T.step rr
  refine⟨obs.set 0 (.bag { d with xs:=ys' } gg),_,hst,⟨[],rfl,rfl,by simp⟩,?_⟩
  have:=hk ys' hyp hys
  rw [oSet_eq]at this
  exact this
 ·have hfs:(flatK enc 2 d').size=d.xs.length*2:=by rw [size_flatK,hps]
  have hcs:d.xs.length*2<=cur.size:=by rw [h4];omega
  refine hB.list (st':=d.st) h2 (fun b' hlt hne=>?_) (fun _ h=>.inl h) ⟨(flatK enc 2 d').toList,⟨by simp [hyl,hps],.inr ⟨b,cap,Go.Sort.putCells id 0 (flatK enc 2 d') cur,by rw [hyl];exact hv,nz0 _,?_,by rw [hyl];exact h1,h3,by simpa [Go.Sort.putCells] using h4,?_⟩⟩,⟨by simp [hyl,hps,E.size],fun i hi=>?_⟩,hnn,by rw [hyl];exact hml⟩ (fun h=>⟨h,rfl⟩)
  ·rw [hw',hheap b' hlt,if_neg]
   intro e
   subst e
   exact hne (by rw [hv];rfl)
  ·rw [hw',hheap b hblk,if_pos rfl,hg]
   rfl
  ·rw [hyl]
   apply List.ext_getElem?
   intro i
   by_cases hi:i < d.xs.length*2
   ·rw [List.getElem?_take_of_lt hi]
    have hput:(Go.Sort.putCells id 0 (flatK enc 2 d') cur)[i]? = some ((flatK enc 2 d')[i]'om):=by
     unfold Go.Sort.putCells
     rw [Array.getElem?_mapIdx,Array.getElem?_eq_getElem om]
     simp only [Option.map_some]
     rw [if_pos om,Nat.sub_zero,getElem!_pos (flatK enc 2 d') i om]
     rfl
    rw [Array.getElem?_toList,hput,Array.getElem?_toList,Array.getElem?_eq_getElem om]
   ·rw [geN (by simp;omega),geN (by simp [hps];omega)]
  ·rw [hyl]at hi
   obtain⟨v1,v2,e,c1,c2,r,o1,o2⟩:=henc' (d'[i]'om)
   have hyi:ys'[i]'om=d.xs[d'[i]'om]:=by simp [ys']
   refine⟨.agg #[v1,v2],?_,fun j hj=>?_⟩
   ·rw [hyi]
    exact r.mono hle
   ·simp only [E.size]at hj ⊢
    have e0:=hflat d' i j om hj
    rw [hget i hi,e]at e0
    rw [Array.getElem?_toList,Array.getElem?_eq_getElem om,<- getElem!_pos (flatK enc 2 d') (i*2+j) om,e0]
    match j,hj with
    | 0,_=>rfl
    | 1,_=>rfl
end Go.Proofs.YtcinngodeoidnaaGreat
