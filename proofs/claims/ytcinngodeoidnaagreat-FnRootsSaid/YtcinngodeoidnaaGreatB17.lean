/- Two matrices with the same bonds bear the same group; the signs of roots. No program is named here. -/
import Derived.Test.YtcinngodeoidnaaGreatB16
import Derived.Test.YtcinngodeoidnaaGreatB14
import Derived.Test.YtcinngodeoidnaaGreatB12
set_option linter.unusedVariables false
set_option linter.unusedSimpArgs false
namespace Go.Cox
variable {A B:Mat} {n:Nat}
def SameB (A B:Mat) (n:Nat):Prop:=∀ i j,i < n->j < n->bond A i j=bond B i j
theorem SameB.symm (h:SameB A B n):SameB B A n:=fun i j hi hj=>(h i j hi hj).symm
theorem Br.to (h:SameB A B n) {a b:List Nat} (k:Br A n a b):Br B n a b:=by
 induction k with
 | refl w=>exact .refl w
 | trans _ _ h k=>exact .trans h k
 | cons i _ h=>exact .cons i h
 | braid i j t hi hj hij hb=>
  rw [h i j hi hj]at hb ⊢
  exact .braid i j t hi hj hij hb
theorem back2 (hA:Cartan A n) (hB:Cartan B n) (hS:SameB A B n) {u:Vec} (hu:∀ i,i < n->0 < u i):∀(w:List Nat),(∀ i∈w,i < n)->∃ t,Play A n (act A w u) t u/\t.length<=w.length/\(∀ x,act A t x=act A w x)/\∀ x,act B t x=act B w x
 | [],_=>⟨[],.nil _,Nat.le_refl _,fun _=>rfl,fun _=>rfl⟩
 | i :: w,h=>by
  have hi:=h i (mcS ..)
  obtain⟨t,hp,hl,he,he'⟩:=back2 hA hB hS hu w (fun k hk=>h k (mcM _ hk))
  have hnz:=nonzero hA _ rfl hp hu i hi
  rw [act_cons]
  rcases Int.lt_or_gt_of_ne hnz with hneg | hpos
  ·obtain⟨s,hs,hbr⟩:=conv hA _ rfl hp (fun i hi=>Int.le_of_lt (hu i hi)) (.cons hi hneg (.nil _))
   have hlen:=hbr.length
   simp at hlen
   refine⟨s,hs,by simp;omega,fun x=>?_,fun x=>?_⟩
   ·rw [act_cons,<- he,act_br hA hbr hp.mem]
    simp only [List.cons_append,List.nil_append,act_cons]
    rw [refl_refl (hA.diag i hi)]
   ·rw [act_cons,<- he',act_br hB (hbr.to hS) hp.mem]
    simp only [List.cons_append,List.nil_append,act_cons]
    rw [refl_refl (hB.diag i hi)]
  ·refine⟨i :: t,.cons hi (by rw [refl_self (hA.diag i hi)];omega) (by rw [refl_refl (hA.diag i hi)];exact hp),by simp;omega,fun x=>?_,fun x=>?_⟩
   ·rw [act_cons,act_cons,he]
   ·rw [act_cons,act_cons,he']
theorem play_le2 (hA:Cartan A n) (hB:Cartan B n) (hS:SameB A B n) {u u':Vec} (hu:∀ i,i < n->0 < u i) (hu':∀ i,i < n->0 < u' i) {w t t':List Nat} (hw:∀ i∈w,i < n) (h:Play A n (act A w u) t u) (h':Play B n (act B w u') t' u'):t'.length<=t.length:=by
 obtain⟨s,hs,_,_,es⟩:=back2 hA hB hS hu w hw
 obtain⟨s',hs',hl,_,_⟩:=back hB hu' s hs.mem
 rw [es]at hs'
 obtain⟨r,_,hb⟩:=conv hA _ rfl hs (fun i hi=>Int.le_of_lt (hu i hi)) h
 obtain⟨r',_,hb'⟩:=conv hA _ rfl h (fun i hi=>Int.le_of_lt (hu i hi)) hs
 obtain⟨q,_,hq⟩:=conv hB _ rfl hs' (fun i hi=>Int.le_of_lt (hu' i hi)) h'
 have h1:=hb.length
 have h2:=hq.length
 have h3:=hb'.length
 simp at h1 h2 h3
 omega
theorem play_len2 (hA:Cartan A n) (hB:Cartan B n) (hS:SameB A B n) {u u':Vec} (hu:∀ i,i < n->0 < u i) (hu':∀ i,i < n->0 < u' i) {w t t':List Nat} (hw:∀ i∈w,i < n) (h:Play A n (act A w u) t u) (h':Play B n (act B w u') t' u'):t.length=t'.length:=
 Nat.le_antisymm (play_le2 hB hA hS.symm hu' hu hw h' h) (play_le2 hA hB hS hu hu' hw h h')
theorem sign2 (hA:Cartan A n) (hB:Cartan B n) (hS:SameB A B n) {u u':Vec} (hu:∀ i,i < n->0 < u i) (hu':∀ i,i < n->0 < u' i) {w:List Nat} (hw:∀ i∈w,i < n) {j:Nat} (hj:j < n) (h:act A w u j < 0):act B w u' j < 0:=by
 obtain⟨t,ht,_,_,_⟩:=back hA hu w hw
 obtain⟨t',ht',_,_,_⟩:=back hB hu' w hw
 have hnz:=nonzero hB _ rfl ht' hu' j hj
 refine Classical.byContradiction fun hn=>?_
 have hpos:0 < act B w u' j:=by omega
 have e:=play_len2 hA hB hS hu hu' hw ht ht'
 have hjw:∀ i∈j :: w,i < n:=fun i hi=>by rcases List.mem_cons.1 hi with rfl | hi;exact hj;exact hw i hi
 obtain⟨r,hr,hb⟩:=conv hA _ rfl ht (fun i hi=>Int.le_of_lt (hu i hi)) (.cons hj h (.nil _))
 have h1:Play B n (act B (j :: w) u') (j :: t') u':=.cons hj (by rw [act_cons,refl_self (hB.diag j hj)];omega) (by rw [act_cons,refl_refl (hB.diag j hj)];exact ht')
 have:=play_len2 hA hB hS hu hu' hjw hr h1
 have h2:=hb.length
 simp at h2 this
 omega
end Go.Cox
namespace Go.Proofs.YtcinngodeoidnaaGreat
open Go Go.Aw Go.Cox
def trL (c:LL):List (List Int):=(List.range c.length).map fun i=>(List.range c.length).map fun j=>ent c j i
theorem trL_len (c:LL):(trL c).length=c.length:=by simp [trL]
theorem trL_row (c:LL) {i:Nat} (hi:i < c.length):(trL c).getD i []=(List.range c.length).map fun j=>ent c j i:=by
 simp [trL,gdE,hi]
theorem trL_ent (c:LL) {i j:Nat} (hi:i < c.length) (hj:j < c.length):ent (trL c) i j=ent c j i:=by
 unfold ent
 rw [trL_row c hi]
 simp [gdE,hj]
theorem trL_cartan {c:LL} (hc:CartanP c):CartanP (trL c):=by
 refine⟨by rw [trL_len];exact hc.1,by rw [trL_len];exact hc.2.1,fun i hi=>?_,fun i j hi hj=>?_⟩
 ·rw [trL_len]at hi ⊢;rw [trL_row c hi];simp
 ·rw [trL_len]at hi hj
  have h1:=hc.2.2.2 j i hj hi
  have h2:=hc.2.2.2 i j hi hj
  unfold badE at *
  rw [trL_ent c hi hj,trL_ent c hj hi]
  intro h
  rcases h with⟨rfl,h⟩ | ⟨h0,h⟩
  ·exact h1 (.inl ⟨rfl,h⟩)
  ·refine h1 (.inr ⟨Ne.symm h0,?_⟩)
   rcases h with h | h | h
   ·exact .inl h
   ·exact .inr (.inl h)
   ·exact .inr (.inr h)
theorem tr_same (c:LL):SameB (matA c) (matA (trL c)) c.length:=fun i j hi hj=>by
 unfold bond
 rw [show matA (trL c) i j=matA c j i from trL_ent c hi hj,show matA (trL c) j i=matA c i j from trL_ent c hj hi,Int.mul_comm]
theorem img_nz {c:LL} (hc:CartanP c) {w:LI} (hw:letters c.length w) {j:Nat} (hj:j < c.length):(imageL c w).getD j 0≠0:=by
 obtain⟨L,_,_,h⟩:=Far.image hc hw
 exact h.nz hc j hj
theorem img_vec (c:LL) (w:LI) (j:Nat):(imageL c w).getD j 0=act (matA c) (nat w) (vecL (ones c.length)) j:=by
 have:=congrFun (vec_act (c:=c) (ones_length c.length) w) j
 exact this
theorem img_tr {c:LL} (hc:CartanP c) {w:LI} (hw:letters c.length w) {j:Nat} (hj:j < c.length):(imageL c w).getD j 0 < 0↔(imageL (trL c) w).getD j 0 < 0:=by
 have hA:=matA_cartan hc
 have hB:=matA_cartan (trL_cartan hc)
 rw [trL_len]at hB
 have hS:=tr_same c
 have ho:=vec_ones c.length
 have e:=img_vec (trL c) w j
 rw [trL_len]at e
 rw [img_vec,e]
 exact⟨fun h=>sign2 hA hB hS ho ho (letters_nat hw) hj h,fun h=>sign2 hB hA hS.symm ho ho (letters_nat hw) hj h⟩
theorem dot_set:∀(a r:LI) (i:Nat) (x:Int),i < a.length->i < r.length->dotL a (r.set i x)=dotL a r+a.getD i 0*(x - r.getD i 0)
 | y :: a,z :: r,0,x,_,_=>by simp [dotL];grind
 | y :: a,z :: r,i+1,x,h1,h2=>by
  have:=dot_set a r i x (by simpa using h1) (by simpa using h2)
  simp [dotL]at this ⊢
  omega
theorem dot_lin (u v a r:LI) (m:Int) (h1:u.length=r.length) (h2:v.length=r.length) (h3:a.length=r.length) (h:∀ k,k < r.length->u.getD k 0=v.getD k 0 - m*a.getD k 0):dotL u r=dotL v r - m*dotL a r:=by
 induction r generalizing u v a with
 | nil=>
  obtain rfl:=List.length_eq_zero_iff.1 h1
  obtain rfl:=List.length_eq_zero_iff.1 h2
  obtain rfl:=List.length_eq_zero_iff.1 h3
  simp [dotL]
 | cons q r ih=>
  match u,v,a,h1,h2,h3,h with
  | x :: u,y :: v,z :: a,h1,h2,h3,h=>
   have ih:=ih u v a (by simpa using h1) (by simpa using h2) (by simpa using h3) (fun k hk=>by simpa using h (k+1) (by simpa using hk))
   have h0:=h 0 (by simp)
   simp at h0
   simp only [dotL,ih,h0]
   grind
theorem dot_sim:∀(n:Nat) (r:LI) (k:Nat),r.length=n->k < n->dotL (simL n k) r=r.getD k 0:=by
 have z:∀(n:Nat) (r:LI),dotL (List.replicate n 0) r=0:=by
  intro n
  induction n with
  | zero=>intro r;simp [dotL]
  | succ n ih=>intro r;cases r with
   | nil=>simp [dotL]
   | cons x r=>simp [List.replicate_succ,dotL,ih]
 intro n
 induction n with
 | zero=>intro r k _ h;omega
 | succ n ih=>
  intro r k hl hk
  cases r with
  | nil=>simp at hl
  | cons x r=>
   cases k with
   | zero=>simp [simL,List.replicate_succ,dotL,z]
   | succ k=>
    have:=ih r k (by simpa using hl) om
    simp [simL,List.replicate_succ,dotL]at this ⊢
    exact this
theorem dot_comm:∀ a b:List Int,dotL a b=dotL b a
 | [],[]=>rfl
 | [],_ :: _=>rfl
 | _ :: _,[]=>rfl
 | x :: a,y :: b=>by simp [dotL,dot_comm a b,Int.mul_comm]
theorem dot_mir {c:LL} (hc:CartanP c) {i:Int} (hi:0<=i/\i < c.length) {v r:LI} (hv:v.length=c.length) (hr:r.length=c.length):dotL (reflL (trL c) i v) r=dotL v (mirL c i r):=by
 have hi2:i.toNat < c.length:=by omega
 unfold mirL
 rw [dot_set v r _ _ om om]
 rw [dot_lin (reflL (trL c) i v) v (c.getD i.toNat []) r (v.getD i.toNat 0) (by rw [reflL_length];omega) om (by rw [hc.2.2.1 _ hi2,hr]) (fun k hk=>by
  rw [reflL_get _ _ _ _ om,trL_ent c om hi2])]
 grind
theorem dot_act {c:LL} (hc:CartanP c) {r:LI} (hr:r.length=c.length):∀(w:LI),letters c.length w->∀ {v:LI},v.length=c.length->dotL v (actR c w r)=dotL (actL (trL c) w.reverse v) r
 | [],_,v,hv=>rfl
 | i :: w,hw,v,hv=>by
  obtain⟨h1,h2⟩:=letters_cons.1 hw
  rw [List.reverse_cons,actL_append]
  show dotL v (mirL c i (actR c w r))=dotL (actL (trL c) w.reverse (reflL (trL c) i v)) r
  rw [<- dot_mir hc h1 hv (by rw [actR_len,hr])]
  exact dot_act hc hr w h2 (by rw [reflL_length,hv])
theorem mir2 {c:LL} (hc:CartanP c) {i:Int} (hi:0<=i/\i < c.length) {r:LI} (hr:r.length=c.length):mirL c i (mirL c i r)=r:=by
 have hi2:i.toNat < c.length:=by omega
 have hrow:=hc.2.2.1 _ hi2
 have d:(c.getD i.toNat []).getD i.toNat 0=2:=(matA_cartan hc).diag i.toNat hi2
 have e1:(mirL c i r).getD i.toNat 0=r.getD i.toNat 0 - dotL (c.getD i.toNat []) r:=by
  unfold mirL
  rw [gdE,List.getElem?_set_self om];rfl
 have e2:dotL (c.getD i.toNat []) (mirL c i r) = - dotL (c.getD i.toNat []) r:=by
  unfold mirL
  rw [dot_set _ _ _ _ om om,d];omega
 show(mirL c i r).set i.toNat ((mirL c i r).getD i.toNat 0 - dotL (c.getD i.toNat []) (mirL c i r))=r
 rw [e1,e2]
 unfold mirL
 rw [List.set_set]
 have e3:r.getD i.toNat 0 - dotL (c.getD i.toNat []) r - -dotL (c.getD i.toNat []) r=r.getD i.toNat 0:=by omega
 rw [e3,gdE,geE om,Option.getD_some,List.set_getElem_self]
theorem actR_append (c:LL) (a b r:LI):actR c (a ++ b) r=actR c a (actR c b r):=by simp [actR,List.foldr_append]
theorem actR_rev {c:LL} (hc:CartanP c):∀(w:LI),letters c.length w->∀ {r:LI},r.length=c.length->actR c w.reverse (actR c w r)=r
 | [],_,_,_=>rfl
 | i :: w,h,r,hr=>by
  rw [List.reverse_cons,actR_append]
  show actR c w.reverse (mirL c i (mirL c i (actR c w r)))=r
  rw [mir2 hc (h i (mcS ..)) (by rw [actR_len,hr])]
  exact actR_rev hc w (fun j hj=>h j (mcM _ hj)) hr
theorem mir_zero (c:LL) (i:Int) (n:Nat):mirL c i (List.replicate n 0)=List.replicate n 0:=by
 have z:∀(a:LI) (n:Nat),dotL a (List.replicate n 0)=0:=by
  intro a n
  induction n generalizing a with
  | zero=>cases a<;>simp [dotL]
  | succ n ih=>cases a with
   | nil=>simp [dotL]
   | cons x a=>simp [List.replicate_succ,dotL,ih]
 unfold mirL
 rw [z]
 have:(List.replicate n (0:Int)).getD i.toNat 0=0:=by
  rw [gdE]
  by_cases h:i.toNat < n<;>simp [h]
 rw [this]
 by_cases h:i.toNat < n
 ·apply List.ext_getElem (by simp)
  intro k h1 h2
  rw [List.getElem_set]
  split<;>simp
 ·rw [List.set_eq_of_length_le (by simp;omega)]
theorem actR_zero (c:LL) (n:Nat):∀ w,actR c w (List.replicate n 0)=List.replicate n 0
 | []=>rfl
 | i :: w=>by show mirL c i (actR c w _)=_;rw [actR_zero c n w,mir_zero]
theorem actR_neg (c:LL) (r:LI):∀ w,actR c w (negL r)=negL (actR c w r)
 | []=>rfl
 | i :: w=>by show mirL c i (actR c w _)=negL (mirL c i (actR c w r));rw [actR_neg c r w,mir_neg]
theorem mir_sim {c:LL} (hc:CartanP c) {i:Nat} (hi:i < c.length):mirL c i (simL c.length i)=negL (simL c.length i):=by
 have d:(c.getD i []).getD i 0=2:=(matA_cartan hc).diag i hi
 unfold mirL
 simp only [Int.toNat_natCast]
 rw [dot_comm,dot_sim _ _ i (hc.2.2.1 _ hi) hi,d,simL_get _ _ _ hi,if_pos rfl]
 apply vec_inj (by simp [negL,simL_len])
 funext k
 show((simL c.length i).set i (1 - 2)).getD k 0=(negL (simL c.length i)).getD k 0
 rw [negL_get,simL_get _ _ _ hi,gdE,List.getElem?_set]
 by_cases h:i=k
 ·subst h;rw [if_pos rfl,if_pos (by rw [simL_len];exact hi),if_pos rfl];rfl
 ·rw [if_neg h,if_neg (Ne.symm h),<- gdE,simL_get _ _ _ hi,if_neg (Ne.symm h)];rfl
theorem sgn_pos_iff {r:LI}:sgnR r=1↔(∀ k,0<=r.getD k 0)/\∃ k,0 < r.getD k 0:=by
 rw [sgnR_one]
 unfold posA negA
 rw [List.any_eq_true,List.any_eq_false]
 constructor
 ·rintro⟨⟨x,hx,h1⟩,h2⟩
  refine⟨fun k=>?_,?_⟩
  ·by_cases hk:k < r.length
   ·have:=h2 _ (getD_mem hk)
    simp at this;exact this
   ·rw [gdE,geN om];simp
  ·obtain⟨k,hk,rfl⟩:=List.getElem_of_mem hx
   exact⟨k,by rw [gdE,geE hk];simpa using h1⟩
 ·rintro⟨h1,k,h2⟩
  have hk:k < r.length:=by
   refine Classical.byContradiction fun hn=>?_
   rw [gdE,geN om]at h2
   simp at h2
  refine⟨⟨_,getD_mem hk,by simpa using h2⟩,fun x hx=>?_⟩
  obtain⟨j,hj,rfl⟩:=List.getElem_of_mem hx
  have:=h1 j
  rw [gdE,geE hj]at this
  simpa using this
theorem sgn_neg (r:LI):sgnR (negL r) = - sgnR r:=by
 have h1:posA (negL r)=negA r:=by
  unfold posA negA negL
  rw [List.any_map];congr 1;funext x;simp
 have h2:negA (negL r)=posA r:=by
  unfold posA negA negL
  rw [List.any_map];congr 1;funext x;simp
 unfold sgnR
 rw [h1,h2]
 cases posA r<;>cases negA r<;>rfl
theorem root_pos {c:LL} (hc:CartanP c) {w:LI} (hw:letters c.length w) {i:Nat} (hi:i < c.length) (h:0 < (imageL c w.reverse).getD i 0):sgnR (actR c w (simL c.length i))=1:=by
 have hB:=matA_cartan (trL_cartan hc)
 rw [trL_len]at hB
 have hwr:=letters_reverse hw
 have hT:0 < (imageL (trL c) w.reverse).getD i 0:=by
  have h1:=img_nz (trL_cartan hc) (w:=w.reverse) (by rw [trL_len];exact hwr) (j:=i) (by rw [trL_len];exact hi)
  have h2:¬(imageL (trL c) w.reverse).getD i 0 < 0:=fun hn=>by have:=(img_tr hc hwr hi).2 hn;omega
  omega
 have hl:(actR c w (simL c.length i)).length=c.length:=by rw [actR_len,simL_len]
 have hco:∀ k,0<=(actR c w (simL c.length i)).getD k 0:=fun k=>by
  by_cases hk:k < c.length
  ·rw [<- dot_sim _ _ k hl hk,dot_act hc (simL_len _ _) w hw (simL_len _ _),dot_comm,dot_sim _ _ i (by rw [actL_length,simL_len]) hi]
   have e:=congrFun (vec_act (c:=trL c) (v:=simL c.length k) (by rw [trL_len,simL_len]) w.reverse) i
   have e2:=img_vec (trL c) w.reverse i
   rw [e2,trL_len]at hT
   have e3:(actL (trL c) w.reverse (simL c.length k)).getD i 0=act (matA (trL c)) (nat w.reverse) (vecL (simL c.length k)) i:=e
   rw [e3]
   refine coh_pos hB (vec_ones c.length) (letters_nat hwr) hi hT (fun j hj=>?_)
   show 0<=(simL c.length k).getD j 0
   rw [simL_get _ _ _ hk];split<;>omega
  ·rw [gdE,geN om];simp
 refine sgn_pos_iff.2 ⟨hco,?_⟩
 refine Classical.byContradiction fun hn=>?_
 have hz:actR c w (simL c.length i)=List.replicate c.length 0:=by
  apply vec_inj (by rw [hl];simp)
  funext k
  show(actR c w (simL c.length i)).getD k 0=(List.replicate c.length (0:Int)).getD k 0
  have h1:=hco k
  have h2:¬0 < (actR c w (simL c.length i)).getD k 0:=fun h=>hn ⟨k,h⟩
  have h3:(List.replicate c.length (0:Int)).getD k 0=0:=by
   rw [gdE]
   by_cases h:k < c.length<;>simp [h]
  omega
 have h4:=actR_rev hc w hw (r:=simL c.length i) (simL_len _ _)
 rw [hz,actR_zero]at h4
 have h5:=congrArg (fun l=>l.getD i 0) h4
 simp only [simL_get _ _ _ hi]at h5
 simp [gdE,hi]at h5
theorem root_neg {c:LL} (hc:CartanP c) {w:LI} (hw:letters c.length w) {i:Nat} (hi:i < c.length) (h:(imageL c w.reverse).getD i 0 < 0):sgnR (actR c w (simL c.length i)) = -1:=by
 have hwi:letters c.length (w ++ [(i:Int)]):=letters_append.2 ⟨hw,letters_cons.2 ⟨by omega,letters_nil _⟩⟩
 have h1:0 < (imageL c (w ++ [(i:Int)]).reverse).getD i 0:=by
  have:=refl_at' hc (i:=(i:Int)) om (v:=imageL c w.reverse) (imageL_length _ _)
  rw [List.reverse_append]
  show 0 < (reflL c i (imageL c w.reverse)).getD i 0
  simp only [Int.toNat_natCast]at this
  omega
 have h2:=root_pos hc hwi hi h1
 rw [actR_append]at h2
 have e:actR c [(i:Int)] (simL c.length i)=negL (simL c.length i):=mir_sim hc hi
 rw [e,actR_neg,sgn_neg]at h2
 omega
def Rt (c:LL) (r:LI):Prop:=∃(w:LI) (i:Nat),letters c.length w/\i < c.length/\r=actR c w (simL c.length i)
theorem Rt.len {c:LL} {r:LI} (h:Rt c r):r.length=c.length:=by
 obtain⟨w,i,_,_,rfl⟩:=h;rw [actR_len,simL_len]
theorem Rt.sim {c:LL} {i:Nat} (hi:i < c.length):Rt c (simL c.length i):=⟨[],i,letters_nil _,hi,rfl⟩
theorem Rt.act {c:LL} {r:LI} (h:Rt c r) {w:LI} (hw:letters c.length w):Rt c (actR c w r):=by
 obtain⟨p,i,h1,h2,rfl⟩:=h
 exact⟨w ++ p,i,letters_append.2 ⟨hw,h1⟩,h2,(actR_append _ _ _ _).symm⟩
theorem Rt.mir {c:LL} {r:LI} (h:Rt c r) {i:Int} (hi:0<=i/\i < c.length):Rt c (mirL c i r):=h.act (w:=[i]) (letters_cons.2 ⟨hi,letters_nil _⟩)
theorem Rt.sign {c:LL} (hc:CartanP c) {r:LI} (h:Rt c r):sgnR r=1\/sgnR r = -1:=by
 obtain⟨w,i,h1,h2,rfl⟩:=h
 have:=img_nz hc (letters_reverse h1) h2
 rcases Int.lt_or_gt_of_ne this with h | h
 ·exact .inr (root_neg hc h1 h2 h)
 ·exact .inl (root_pos hc h1 h2 h)
theorem root_iff {c:LL} (hc:CartanP c) {w:LI} (hw:letters c.length w) {i:Nat} (hi:i < c.length):sgnR (actR c w (simL c.length i)) = -1↔(imageL c w.reverse).getD i 0 < 0:=by
 refine⟨fun h=>?_,root_neg hc hw hi⟩
 refine Classical.byContradiction fun hn=>?_
 have:=img_nz hc (letters_reverse hw) hi
 have:=root_pos hc hw hi om
 omega
def sclL (m:Int) (r:LI):List Int:=r.map (m * ·)
theorem sclL_get (m:Int) (r:LI) (k:Nat):(sclL m r).getD k 0=m*r.getD k 0:=by
 simp only [sclL,gdE,List.getElem?_map]
 cases r[k]?<;>simp
theorem dot_scl (m:Int):∀ a r:List Int,dotL a (sclL m r)=m*dotL a r
 | [],_=>by simp [dotL]
 | _ :: _,[]=>by simp [dotL,sclL]
 | x :: a,y :: r=>by
  have:=dot_scl m a r
  simp only [sclL,List.map_cons,dotL]at this ⊢
  rw [this];grind
theorem mir_scl (c:LL) (i m:Int) (r:LI):mirL c i (sclL m r)=sclL m (mirL c i r):=by
 unfold mirL
 rw [dot_scl,sclL_get]
 simp only [sclL,List.map_set]
 congr 1
 grind
theorem actR_scl (c:LL) (m:Int) (r:LI):∀ w,actR c w (sclL m r)=sclL m (actR c w r)
 | []=>rfl
 | i :: w=>by show mirL c i (actR c w _)=sclL m (mirL c i (actR c w r));rw [actR_scl c m r w,mir_scl]
theorem mir_get {c:LL} {i:Nat} {r:LI} {k:Nat} (h:k≠i):(mirL c i r).getD k 0=r.getD k 0:=by
 unfold mirL
 simp only [gdE,Int.toNat_natCast]
 rw [List.getElem?_set_ne (Ne.symm h)]
theorem only_sim {c:LL} (hc:CartanP c) {r:LI} (h:Rt c r) {i:Nat} (hi:i < c.length) (h1:sgnR r=1) (h2:sgnR (mirL c i r) = -1):r=simL c.length i:=by
 have hl:=h.len
 obtain⟨p1,_⟩:=sgn_pos_iff.1 h1
 have h3:sgnR (negL (mirL c i r))=1:=by rw [sgn_neg];omega
 obtain⟨p2,_⟩:=sgn_pos_iff.1 h3
 have hz:∀ k,k≠i->r.getD k 0=0:=fun k hk=>by
  have a1:=p1 k
  have a2:=p2 k
  rw [negL_get,mir_get hk]at a2
  omega
 have he:r=sclL (r.getD i 0) (simL c.length i):=by
  apply vec_inj (by simp [sclL,hl,simL_len])
  funext k
  show r.getD k 0=(sclL (r.getD i 0) (simL c.length i)).getD k 0
  rw [sclL_get,simL_get _ _ _ hi]
  by_cases hk:k=i
  ·rw [if_pos hk,hk];omega
  ·rw [if_neg hk,hz k hk];omega
 obtain⟨w,j,hw,hj,hr⟩:=h
 have h4:=actR_rev hc w hw (r:=simL c.length j) (simL_len _ _)
 rw [<- hr,he,actR_scl]at h4
 have h5:=congrArg (fun l=>l.getD j 0) h4
 simp only [sclL_get,simL_get _ _ _ hj,if_pos]at h5
 have h0:=p1 i
 generalize hx:(actR c w.reverse (simL c.length i)).getD j 0=x at h5
 have h6:r.getD i 0=1:=by
  generalize r.getD i 0=m at h5 h0
  have hm:m ∣ 1:=⟨x,h5.symm⟩
  have:=Int.le_of_dvd (by decide) hm
  have hne:m≠0:=fun h=>by rw [h]at h5;simp at h5
  omega
 rw [he,h6]
 simp [sclL]
def fmtD (w:LI):List UInt8:=w.map fun i=>UInt8.ofNat (49+i.toNat)
def fmtW (w:LI):List UInt8:=if w=[]then [101]else fmtD w
theorem fmtW_inj {a b:LI} (ha:letters 4 a) (hb:letters 4 b) (h:fmtW a=fmtW b):a=b:=by
 have key:∀(a b:LI),letters 4 a->letters 4 b->fmtD a=fmtD b->a=b:=by
  intro a
  induction a with
  | nil=>intro b _ _ h;cases b with
   | nil=>rfl
   | cons y b=>simp [fmtD]at h
  | cons x a ih=>intro b ha hb h;cases b with
   | nil=>simp [fmtD]at h
   | cons y b=>
    simp only [fmtD,List.map_cons,List.cons.injEq]at h
    obtain⟨hx,ha⟩:=letters_cons.1 ha
    obtain⟨hy,hb⟩:=letters_cons.1 hb
    have e:x=y:=by
     have:=congrArg UInt8.toNat h.1
     simp at this
     omega
    rw [e,ih b ha hb h.2]
 have he:∀ c:List Int,letters 4 c->c≠[]->fmtD c≠[101]:=by
  intro c hc hne h
  cases c with
  | nil=>exact hne rfl
  | cons x c=>
   simp only [fmtD,List.map_cons,List.cons.injEq]at h
   obtain⟨hx,_⟩:=letters_cons.1 hc
   have:=congrArg UInt8.toNat h.1
   simp at this
   omega
 unfold fmtW at h
 by_cases h1:a=[]
 ·rw [if_pos h1]at h
  by_cases h2:b=[]
  ·rw [h1,h2]
  ·rw [if_neg h2]at h;exact(he b hb h2 h.symm).elim
 ·rw [if_neg h1]at h
  by_cases h2:b=[]
  ·rw [if_pos h2]at h;exact(he a ha h1 h).elim
  ·rw [if_neg h2]at h;exact key a b ha hb h
def Seen (n:Nat) (ys:List (Nat×List Int)) (l:List (MK×MV)):Prop:=
 (lb1 ys).Nodup/\(rw2 ys).Nodup/\(∀ z∈rw2 ys,letters n z)/\∀ z,letters n z->(mgetB l (.str (fmtW z))=true↔z∈rw2 ys)
theorem Seen.add {n:Nat} (hn:n<=4) {ys:List (Nat×List Int)} {l:List (MK×MV)} (h:Seen n ys l) {x:LI} (hx:letters n x) {q:Nat} (hq:∀ p∈ys,p.1≠q) (hnew:mgetB l (.str (fmtW x))=false):Seen n (ys ++ [(q,x)]) (mput l (.str (fmtW x)) (.bool true)):=by
 have up:∀ z,letters n z->letters 4 z:=fun z hz i hi=>by have:=hz i hi;omega
 obtain⟨h1,h2,h3,h4⟩:=h
 have hnot:x∉rw2 ys:=fun hm=>by rw [(h4 x hx).2 hm]at hnew;cases hnew
 refine⟨?_,?_,fun z hz=>?_,fun z hz=>?_⟩
 ·rw [lb1_app,List.nodup_append]
  refine⟨h1,by simp [lb1],fun a ha b hb=>?_⟩
  simp [lb1]at hb
  obtain⟨p,hp,rfl⟩:=List.mem_map.1 ha
  rw [hb];exact hq p hp
 ·rw [rw2_app,List.nodup_append]
  refine⟨h2,by simp [rw2],fun a ha b hb=>?_⟩
  simp [rw2]at hb
  rw [hb];intro e;exact hnot (e▸ha)
 ·rw [rw2_app]at hz
  rcases List.mem_append.1 hz with hz | hz
  ·exact h3 z hz
  ·simp [rw2]at hz;rw [hz];exact hx
 ·rw [mgetB_put,rw2_app,List.mem_append]
  by_cases e:z=x
  ·rw [e,if_pos rfl];simp [rw2]
  ·rw [if_neg (fun e2=>e (fmtW_inj (up z hz) (up x hx) (MK.str.inj e2))),h4 z hz];simp [rw2,e]
noncomputable def preB (c:LL) (w:LI):Bool:=wordB c w && fewB (Pre c (redL c w))
noncomputable def preX (c:LL) (w:LI):List (List Int):=if wordB c w then fewL (Pre c (redL c w))else []
theorem word_nf {c:LL} {w:LI} (h:wordB c w=true):Nf c (redL c w)/\(redL c w).length<=15:=by
 obtain⟨hc,h2,h3⟩:=wordB_iff.1 h
 have:=(red_spec hc h3 om).2.1
 exact⟨nf_red hc h3 om om,by omega⟩
theorem preX_pre {c:LL} {w z:LI} (h:z∈preX c w):wordB c w=true/\Pre c (redL c w) z:=by
 unfold preX at h
 cases hw:wordB c w with
 | false=>rw [hw]at h;simp at h
 | true=>rw [hw,if_pos rfl]at h;exact⟨rfl,fewL_mem h⟩
theorem preX_rows (c:LL) (w:LI):∀ r∈preX c w,r.length<=15:=by
 intro r hr
 obtain⟨hw,_,_,v,_,_,h5⟩:=preX_pre hr
 have:=(word_nf hw).2
 omega
theorem rwg (ys:List (Nat×List Int)) (k:Nat):(ys.getD k (0,[])).2=(rw2 ys).getD k []:=by
 unfold rw2
 simp only [List.getD,List.getElem?_map]
 cases ys[k]?<;>rfl
theorem rwl (ys:List (Nat×List Int)):(rw2 ys).length=ys.length:=by simp [rw2]
def Fst (c:LL) (x:LI) (i:Nat):Prop:=(imageL c x).getD i 0 < 0
theorem front {c:LL} (hc:CartanP c) {x:LI} (hx:Nf c x) {i:Nat} (hi:i < c.length) (h:Fst c x i):Nf c (redL c ((i:Int) :: x))/\(redL c ((i:Int) :: x)).length+1=x.length/\imageL c (redL c ((i:Int) :: x))=reflL c i (imageL c x):=by
 have hlet:letters c.length ((i:Int) :: x):=letters_cons.2 ⟨by omega,hx.1⟩
 have hlen:((i:Int) :: x).length<=31:=by have:=hx.2.2;simp;omega
 obtain⟨a1,a2,a3,a4,a5⟩:=red_spec hc hlet hlen
 obtain⟨M,hM,hF⟩:=(hx.far hc).down hc (i:=(i:Int)) om h
 have hL:(redL c ((i:Int) :: x)).length=M:=by
  rw [image_cons]at a5
  exact a5.uniq hc hF
 exact⟨nf_red hc hlet hlen (by have:=hx.2.2;omega),by omega,by rw [a4,image_cons]⟩
theorem refl_at {c:LL} (hc:CartanP c) {i:Nat} (hi:i < c.length) {v:LI} (hv:v.length=c.length):(reflL c i v).getD i 0 = - v.getD i 0:=by
 have d:ent c i i=2:=(matA_cartan hc).diag i hi
 have g:=reflL_get c (i:Int) v i om
 rw [Int.toNat_natCast,d]at g
 omega
theorem fst_or {c:LL} (hc:CartanP c) {x:LI} (hx:Nf c x) {i:Nat} (hi:i < c.length):Fst c x i\/Far c (x.length+1) (reflL c i (imageL c x)):=by
 have hz:=(hx.far hc).nz hc i hi
 by_cases h:(imageL c x).getD i 0 < 0
 ·exact .inl h
 ·exact .inr ((hx.far hc).up hc (i:=(i:Int)) om (by simp only [Int.toNat_natCast];omega))
theorem front_down {c:LL} (hc:CartanP c) {x z:LI} (hx:Nf c x) (hz:Pre c x z) {i:Nat} (hi:i < c.length) (h:Fst c z i):Fst c x i/\Pre c (redL c ((i:Int) :: x)) (redL c ((i:Int) :: z)):=by
 have hnz:=hz.nf hx
 obtain⟨n1,n2,n3⟩:=front hc hnz hi h
 obtain⟨h1,h2,v,h3,h4,h5⟩:=hz
 have him:imageL c (redL c ((i:Int) :: z) ++ v)=reflL c i (imageL c x):=by
  rw [image_same_app hc n1.1 (letters_cons.2 ⟨by omega,h1⟩:letters c.length ((i:Int) :: z)) (by rw [n3,image_cons]) v]
  show reflL c i (imageL c (z ++ v))=_
  rw [h4]
 have hlv:letters c.length (redL c ((i:Int) :: z) ++ v):=letters_append.2 ⟨n1.1,h3⟩
 have hfx:Fst c x i:=by
  rcases fst_or hc hx hi with h6 | h6
  ·exact h6
  ·obtain⟨L,k1,_,k3⟩:=Far.image hc hlv
   rw [him]at k3
   have:=h6.uniq hc k3
   simp at k1
   omega
 obtain⟨m1,m2,m3⟩:=front hc hx hi hfx
 exact⟨hfx,n1.1,n1.2.1,v,h3,by rw [him,m3],by omega⟩
theorem front_up {c:LL} (hc:CartanP c) {x z:LI} (hx:Nf c x) {i:Nat} (hi:i < c.length) (h:Fst c x i) (hz:Pre c (redL c ((i:Int) :: x)) z) :
  Pre c x (redL c ((i:Int) :: z))/\(redL c ((i:Int) :: z)).length=z.length+1/\Fst c (redL c ((i:Int) :: z)) i/\redL c ((i:Int) :: redL c ((i:Int) :: z))=z:=by
 obtain⟨m1,m2,m3⟩:=front hc hx hi h
 have hnz:=hz.nf m1
 obtain⟨h1,h2,v,h3,h4,h5⟩:=hz
 have hlet:letters c.length ((i:Int) :: z):=letters_cons.2 ⟨by omega,h1⟩
 have hzl:((i:Int) :: z).length<=31:=by have:=hnz.2.2;simp;omega
 obtain⟨a1,a2,a3,a4,a5⟩:=red_spec hc hlet hzl
 have him:imageL c (redL c ((i:Int) :: z) ++ v)=imageL c x:=by
  rw [image_same_app hc a1 hlet a4 v]
  show reflL c i (imageL c (z ++ v))=_
  rw [h4,m3,refl2 hc (i:=(i:Int)) om (imageL_length c _)]
 have hs:=hx.short hc (letters_append.2 ⟨a1,h3⟩) him
 simp at hs a2
 have hlen:(redL c ((i:Int) :: z)).length=z.length+1:=by omega
 have hback:imageL c ((i:Int) :: redL c ((i:Int) :: z))=imageL c z:=by
  rw [image_cons,a4,image_cons,refl2 hc (i:=(i:Int)) om (imageL_length c _)]
 refine⟨⟨a1,nf_idem hc hlet hzl,v,h3,him,by omega⟩,hlen,?_,by rw [red_eq hback];exact h2⟩
 show(imageL c (redL c ((i:Int) :: z))).getD i 0 < 0
 rw [a4,image_cons,refl_at hc hi (imageL_length c _)]
 rcases fst_or hc hnz hi with h6 | h6
 ·obtain⟨_,q2,q3⟩:=front hc hnz hi h6
  omega
 ·have hp:=(hnz.far hc).nz hc i hi
  by_cases h7:(imageL c z).getD i 0 < 0
  ·obtain⟨_,q2,q3⟩:=front hc hnz hi h7
   omega
  ·omega
def Two (c:LL) (i t:Nat) (q:LI):Prop:=Fst c q i/\Fst c q t/\∀ x,Nf c x->Fst c x i->Fst c x t->Pre c x q
theorem first_of {c:LL} (hc:CartanP c) {x:LI} (hx:Nf c x) (hne:x≠[]):∃ i,i < c.length/\Fst c x i:=by
 cases x with
 | nil=>exact(hne rfl).elim
 | cons a x=>
  obtain⟨h1,h2⟩:=letters_cons.1 hx.1
  have ha:((a.toNat:Nat):Int)=a:=by omega
  refine⟨a.toNat,by omega,?_⟩
  rcases fst_or hc hx (i:=a.toNat) om with h | h
  ·exact h
  ·exfalso
   have e:reflL c (a.toNat:Nat) (imageL c (a :: x))=imageL c x:=by
    rw [ha,image_cons];exact refl2 hc h1 (imageL_length c _)
   rw [e]at h
   obtain⟨L,k1,_,k3⟩:=Far.image hc h2
   have:=h.uniq hc k3
   simp at this
   omega
theorem meet_le {c:LL} (hc:CartanP c) (h2:∀ i t,i < c.length->t < c.length->i≠t->(∃ x,Nf c x/\Fst c x i/\Fst c x t)->∃ q,Two c i t q) :
  ∀(n:Nat) (x y z w:LI),x.length=n->Nf c x->Nf c y->Pre c x z->Pre c y z->Pre c x w->Pre c y w->(∀ u,Pre c x u->Pre c y u->u.length<=z.length)->Pre c z w:=by
 intro n
 induction n with
 | zero=>
  intro x y z w hn hx hy hz _ hw _ _
  obtain⟨_,_,v,_,_,h5⟩:=hw
  have:w=[]:=nilZ om
  rw [this];exact Pre.nil hc (hz.nf hx)
 | succ n ih=>
  intro x y z w hn hx hy hxz hyz hxw hyw hmax
  have hnz:=hxz.nf hx
  have same:∀(i:Nat) (w:LI),i < c.length->Pre c x w->Pre c y w->Fst c z i->Fst c w i->Pre c z w:=by
   intro i w hi hxw hyw hzi hwi
   have hnw:=hxw.nf hx
   obtain⟨f1,g1⟩:=front_down hc hx hxz hi hzi
   obtain⟨_,g2⟩:=front_down hc hy hyz hi hzi
   obtain⟨_,g3⟩:=front_down hc hx hxw hi hwi
   obtain⟨f2,g4⟩:=front_down hc hy hyw hi hwi
   obtain⟨m1,m2,_⟩:=front hc hx hi f1
   obtain⟨m3,m4,_⟩:=front hc hy hi f2
   obtain⟨m5,m6,m7⟩:=front hc hnz hi hzi
   obtain⟨m8,m9,m10⟩:=front hc hnw hi hwi
   have key:=ih _ _ _ _ om m1 m3 g1 g2 g3 g4 (fun u hu1 hu2=>by
    obtain⟨p1,p2,_⟩:=front_up hc hx hi f1 hu1
    obtain⟨p3,_⟩:=front_up hc hy hi f2 hu2
    have:=hmax _ p1 p3
    omega)
   obtain⟨p1,_⟩:=front_up hc hnz hi hzi key
   have e:redL c ((i:Int) :: redL c ((i:Int) :: w))=w:=by
    have:imageL c ((i:Int) :: redL c ((i:Int) :: w))=imageL c w:=by
     rw [image_cons,m10,refl2 hc (i:=(i:Int)) om (imageL_length c _)]
    rw [red_eq this];exact hnw.2.1
   rwa [e]at p1
  by_cases hw0:w=[]
  ·rw [hw0];exact Pre.nil hc hnz
  have hnw:=hxw.nf hx
  obtain⟨i,hi,hwi⟩:=first_of hc hnw hw0
  rcases fst_or hc hnz hi with hzi | hzi
  ·exact same i w hi hxw hyw hzi hwi
  by_cases hzi2:Fst c z i
  ·exact same i w hi hxw hyw hzi2 hwi
  exfalso
  have hz0:z≠[]:=fun e=>by
   have:=hmax w hxw hyw
   rw [e]at this
   exact hw0 (nilZ (by simpa using this))
  obtain⟨t,ht,hzt⟩:=first_of hc hnz hz0
  have hit:i≠t:=fun e=>hzi2 (e▸hzt)
  have x1:=(front_down hc hx hxw hi hwi).1
  have x2:=(front_down hc hx hxz ht hzt).1
  have y1:=(front_down hc hy hyw hi hwi).1
  have y2:=(front_down hc hy hyz ht hzt).1
  obtain⟨q,q1,q2,q3⟩:=h2 i t hi ht hit ⟨x,hx,x1,x2⟩
  have hzq:=same t q ht (q3 x hx x1 x2) (q3 y hy y1 y2) hzt q2
  exact hzi2 (front_down hc hnz hzq hi q1).1
def fireL (c:LL):List Nat->List Int->List Int
 | [],v=>v
 | i :: l,v=>fireL c l (reflL c i v)
theorem fireL_length (c:LL):∀(l:List Nat) (v:LI),(fireL c l v).length=v.length
 | [],_=>rfl
 | i :: l,v=>by show(fireL c l (reflL c i v)).length=_;rw [fireL_length,reflL_length]
theorem vec_fire {c:LL}:∀(l:List Nat) {v:LI},v.length=c.length->vecL (fireL c l v)=run (matA c) l (vecL v)
 | [],_,_=>rfl
 | i :: l,v,hv=>by
  show vecL (fireL c l (reflL c i v))=run (matA c) l (refl (matA c) i (vecL v))
  rw [vec_fire l (by rw [reflL_length,hv]),vec_refl hv,Int.toNat_natCast]
theorem act_fire {c:LL} (hc:CartanP c):∀(l:List Nat) {v:LI},(∀ i∈l,i < c.length)->v.length=c.length->actL c (l.map Int.ofNat) (fireL c l v)=v
 | [],_,_,_=>rfl
 | i :: l,v,hl,hv=>by
  show reflL c (i:Int) (actL c (l.map Int.ofNat) (fireL c l (reflL c i v)))=v
  have hi:=hl i (mcS ..)
  rw [act_fire hc l (fun j hj=>hl j (mcM _ hj)) (by rw [reflL_length,hv]),refl2 hc (i:=(i:Int)) om hv]
theorem bond_le (A:Mat) (i j:Nat):bond A i j<=6:=by
 unfold bond;repeat' split
 all_goals omega
theorem far_poly {c:LL} (hc:CartanP c) {i t:Nat} (hi:i < c.length) (ht:t < c.length) (hit:i≠t) {L:Nat} {v:LI} (h:Far c L v) (h1:v.getD i 0 < 0) (h2:v.getD t 0 < 0) :
  0 < bond (matA c) i t/\∃ M,L=M+bond (matA c) i t/\Far c M (fireL c (alt i t (bond (matA c) i t)) v):=by
 have hA:=matA_cartan hc
 obtain⟨hl,s,hs,rfl⟩:=h
 have hb:bond (matA c) i t≠0:=by
  intro hb
  have h3:matA c i t < 0/\matA c t i < 0/\4<=matA c i t*matA c t i:=by
   rcases bonds hA hi ht hit with⟨h1,h2⟩ | ⟨h1,h2⟩ | ⟨h1,h2⟩ | ⟨h1,h2⟩ | ⟨h1,h2⟩ | ⟨h1,h2⟩ | h
   ·rw [bond,h1,h2]at hb;simp at hb
   ·rw [bond,h1,h2]at hb;simp at hb
   ·rw [bond,h1,h2]at hb;simp at hb
   ·rw [bond,h1,h2]at hb;simp at hb
   ·rw [bond,h1,h2]at hb;simp at hb
   ·rw [bond,h1,h2]at hb;simp at hb
   ·exact h
  have hpos:0 < vecL v i*matA c t i:=Int.mul_pos_of_neg_of_neg h1 h3.2.1
  have hcc:-(matA c t i)*vecL v i = -(vecL v i*matA c t i):=by grind
  have h2':vecL v t < 0:=h2
  obtain⟨x,hx⟩:=endless hA (s.length+1) hi ht hit h3.1 h3.2.1 h3.2.2 (vecL v) h1 (by rw [hcc];omega)
  obtain⟨r,_,hbr⟩:=conv hA _ rfl hs (dom_ones c) hx
  have:=hbr.length
  simp [alt_length]at this
  omega
 obtain⟨r,hr,hbr⟩:=conv hA _ rfl hs (dom_ones c) (polygon hA hi ht hit hb (vecL v) h1 h2)
 have hlen:=hbr.length
 simp [alt_length]at hlen
 refine⟨by omega,r.length,by omega,by rw [fireL_length,hl],r,?_,rfl⟩
 rw [vec_fire _ hl]
 exact hr
theorem alt_letters {c:LL} {i t:Nat} (hi:i < c.length) (ht:t < c.length) (m:Nat):letters c.length ((alt i t m).map Int.ofNat):=by
 intro a ha
 obtain⟨j,hj,rfl⟩:=List.mem_map.1 ha
 have hj':j < c.length:=by rcases alt_mem hj with rfl | rfl<;>assumption
 show(0:Int)<=(j:Int)/\(j:Int) < c.length
 omega
theorem nat_map (l:List Nat):nat (l.map Int.ofNat)=l:=by
 induction l with
 | nil=>rfl
 | cons i l ih=>show(Int.toNat (Int.ofNat i)) :: nat (l.map Int.ofNat)=_;rw [ih];rfl
theorem fst_alt {c:LL} (hc:CartanP c) {i t:Nat} (hi:i < c.length) (ht:t < c.length) {m:Nat} (hm:m<=31) (hm0:0 < m) (h:(redL c ((alt i t m).map Int.ofNat)).length=m):Fst c (redL c ((alt i t m).map Int.ofNat)) i:=by
 obtain⟨k,rfl⟩:∃ k,m=k+1:=⟨m - 1,by omega⟩
 have hlet:=alt_letters hi ht (k+1)
 have hlen:((alt i t (k+1)).map Int.ofNat).length<=31:=by simp [alt_length];omega
 obtain⟨a1,a2,a3,a4,a5⟩:=red_spec hc hlet hlen
 show(imageL c _).getD i 0 < 0
 rw [a4]
 have hnz:=a5.nz hc i hi
 refine Classical.byContradiction fun hn=>?_
 have h5:=a5.up hc (i:=(i:Int)) om (by simp only [Int.toNat_natCast];omega)
 have e:reflL c (i:Int) (imageL c ((alt i t (k+1)).map Int.ofNat))=imageL c ((alt t i k).map Int.ofNat):=
  refl2 hc (i:=(i:Int)) om (imageL_length c _)
 rw [e]at h5
 obtain⟨L,k1,_,k3⟩:=Far.image hc (alt_letters ht hi k)
 have:=h5.uniq hc k3
 simp [alt_length]at k1
 omega
theorem two_all {c:LL} (hc:CartanP c) (i t:Nat) (hi:i < c.length) (ht:t < c.length) (hit:i≠t) (hx:∃ x,Nf c x/\Fst c x i/\Fst c x t):∃ q,Two c i t q:=by
 obtain⟨x,hx,hxi,hxt⟩:=hx
 have hA:=matA_cartan hc
 have hb6:=bond_le (matA c) i t
 obtain⟨hb0,M,hM,hF⟩:=far_poly hc hi ht hit (hx.far hc) hxi hxt
 have hmem:∀ j∈alt i t (bond (matA c) i t),j < c.length:=fun j hj=>by rcases alt_mem hj with rfl | rfl<;>assumption
 have hlet:=alt_letters (c:=c) hi ht (bond (matA c) i t)
 have hlen:((alt i t (bond (matA c) i t)).map Int.ofNat).length<=31:=by simp [alt_length];omega
 obtain⟨a1,a2,a3,a4,a5⟩:=red_spec hc hlet hlen
 have key:∀ y,Nf c y->Fst c y i->Fst c y t->Pre c y (redL c ((alt i t (bond (matA c) i t)).map Int.ofNat))/\(redL c ((alt i t (bond (matA c) i t)).map Int.ofNat)).length=bond (matA c) i t:=by
  intro y hy hyi hyt
  obtain⟨_,M,k1,k2⟩:=far_poly hc hi ht hit (hy.far hc) hyi hyt
  have hM:M<=31:=by have:=hy.2.2;omega
  obtain⟨r1,r2,r3⟩:=nfL_far hc 31 M k2 hM
  have him:imageL c (redL c ((alt i t (bond (matA c) i t)).map Int.ofNat) ++ nfL c 31 (fireL c (alt i t (bond (matA c) i t)) (imageL c y)))=imageL c y:=by
   rw [image_same_app hc a1 hlet a4,image_append,r3,act_fire hc _ hmem (imageL_length c y)]
  have hs:=hy.short hc (letters_append.2 ⟨a1,r2⟩) him
  simp at hs
  simp [alt_length]at a2
  exact⟨⟨a1,nf_idem hc hlet hlen,_,r2,him,by omega⟩,by omega⟩
 have hfull:=(key x hx hxi hxt).2
 refine⟨_,fst_alt hc hi ht om hb0 hfull,?_,fun y h1 h2 h3=>(key y h1 h2 h3).1⟩
 have e:imageL c ((alt i t (bond (matA c) i t)).map Int.ofNat)=imageL c ((alt t i (bond (matA c) i t)).map Int.ofNat):=by
  apply vec_inj (by rw [imageL_length,imageL_length])
  rw [imageL,imageL,vec_act (ones_length _),vec_act (ones_length _),nat_map,nat_map]
  have:=act_br hA (a:=alt i t (bond (matA c) i t)) (b:=alt t i (bond (matA c) i t)) (by simpa using Br.braid (A:=matA c) (n:=c.length) i t [] hi ht hit om) hmem
  exact this _
 rw [red_eq e]
 rw [red_eq e]at hfull
 exact fst_alt hc ht hi om hb0 hfull
theorem meet_top {c:LL} (hc:CartanP c) {x y z w:LI} (hx:Nf c x) (hy:Nf c y) (h1:Pre c x z) (h2:Pre c y z) (h3:Pre c x w) (h4:Pre c y w) (h5:∀ u,Pre c x u->Pre c y u->u.length<=z.length):Pre c z w:=
 meet_le hc (two_all hc) _ x y z w rfl hx hy h1 h2 h3 h4 h5
theorem fewL_iff {R:List Int->Prop} (h:fewB R=true) (z:LI):z∈fewL R↔R z:=by
 have h:FewP R:=by simpa [fewB] using h
 unfold fewL
 rw [dif_pos h,(srt_spec _).2]
 exact h.choose_spec.2.1 z
theorem preX_iff {c:LL} {w:LI} (h:preB c w=true) (z:LI):z∈preX c w↔Pre c (redL c w) z:=by
 unfold preB at h
 cases hw:wordB c w with
 | false=>rw [hw]at h;cases h
 | true=>rw [hw]at h;unfold preX;rw [hw,if_pos rfl];exact fewL_iff (by simpa using h) z
theorem preX_word {c:LL} {w z:LI} (h:z∈preX c w):WordP c z/\Nf c z:=by
 obtain⟨hw,hp⟩:=preX_pre h
 have hn:=hp.nf (word_nf hw).1
 exact⟨⟨(wordB_iff.1 hw).1,preX_rows c w z h,hn.1⟩,hn⟩
theorem wkB_red {c:LL} {l v:LI} (hv:wordB c v=true):wkB c l (redL c v)=wkB c l v:=by
 obtain⟨hx,hx15⟩:=word_nf hv
 obtain⟨hc,h2,h3⟩:=wordB_iff.1 hv
 have hr:wordB c (redL c v)=true:=wordB_iff.2 ⟨hc,hx15,hx.1⟩
 unfold wkB
 rw [hv,hr,hx.2.1]
 cases hl:wordB c l with
 | false=>rfl
 | true=>
  obtain⟨_,_,k3⟩:=wordB_iff.1 hl
  rw [weak_same hc k3 k3 rfl (red_spec hc h3 om).2.2.2.1]
theorem wk_pre {c:LL} {l v:LI} (hv:wordB c v=true) (hl:WordP c l) (hn:Nf c l):wkB c l v=true↔Pre c (redL c v) l:=by
 obtain⟨hx,hx15⟩:=word_nf hv
 rw [<- wkB_red hv]
 exact wkB_pre hl.1 hx hx15 hn hl.2.1
def MeetP (c:LL) (u v b:LI):Prop:=b∈preX c u/\wkB c b v=true/\∀ z∈preX c u,wkB c z v=true->z.length<=b.length
theorem Pre.same {c:LL} {x z:LI} (hx:Nf c x) (h:Pre c x z) (hl:z.length=x.length):z=x:=by
 obtain⟨_,h2,v,_,h4,h5⟩:=h
 have:v=[]:=nilZ om
 subst this
 rw [List.append_nil]at h4
 rw [<- h2,red_eq h4,hx.2.1]
theorem MeetP.uniq {c:LL} {u v a b:LI} (hv:wordB c v=true) (hu:preB c u=true) (ha:MeetP c u v a) (hb:MeetP c u v b):a=b:=by
 obtain⟨a1,a2,a3⟩:=ha
 obtain⟨b1,b2,b3⟩:=hb
 obtain⟨wa,na⟩:=preX_word a1
 obtain⟨wb,nb⟩:=preX_word b1
 have hc:=wa.1
 have hwu:=(preX_pre a1).1
 have h:=meet_top hc (word_nf hwu).1 (word_nf hv).1 ((preX_iff hu a).1 a1) ((wk_pre hv wa na).1 a2) ((preX_iff hu b).1 b1) ((wk_pre hv wb nb).1 b2) (fun z h1 h2=>by
  have h3:=(preX_iff hu z).2 h1
  obtain⟨wz,nz⟩:=preX_word h3
  exact a3 z h3 ((wk_pre hv wz nz).2 h2))
 have e:a.length=b.length:=Nat.le_antisymm (b3 a a1 a2) (a3 b b1 b2)
 exact(h.same na e.symm).symm
end Go.Proofs.YtcinngodeoidnaaGreat
