/- The rank of what an element moves: under conjugation, and by reflections. No program is named here. -/
import Derived.Test.YtcinngodeoidnaaGreatB26
import Derived.Test.YtcinngodeoidnaaGreatB19
import Derived.Test.YtcinngodeoidnaaGreatB23
set_option linter.unusedVariables false
set_option linter.unusedSimpArgs false
namespace Go.Proofs.YtcinngodeoidnaaGreat
open Go Go.Aw Go.Cox
def Mov (c:LL) (w:List Nat) (v:Vec):Prop:=(∃ x:Vec,∀ k,k < c.length->v k=actF (matA c) c.length w x k - x k)/\∀ k,c.length<=k->v k=0
def rkW (c:LL) (w:LI):Nat:=rkG rowI c.length (fxM c w) 0 0
theorem actF_sum (A:Mat) (n:Nat) (w:List Nat) (a:Nat->Int) (f:Nat->Vec):∀ m,actF A n w (fun k=>sumN m (fun i=>a i*f i k))=fun k=>sumN m (fun i=>a i*actF A n w (f i) k)
 | 0=>actF_zero A n w
 | m+1=>by
  have e:(fun k=>sumN (m+1) (fun i=>a i*f i k))=(fun k=>1*sumN m (fun i=>a i*f i k)+a m*f m k):=by funext k;rw [sumN_succ];omega
  rw [e,actF_lin,actF_sum A n w a f m]
  funext k
  simp only []
  rw [sumN_succ];omega
theorem unit_sum (n:Nat) (x:Vec) {k:Nat} (hk:k < n):sumN n (fun i=>x i*unitF i k)=x k:=by
 rw [sumN_one n hk (fun i _ hi=>by unfold unitF;rw [if_neg (Ne.symm hi),Int.mul_zero])]
 simp [unitF]
theorem fx_row {c:LL} (hc:CartanP c) {w:LI} (hw:letters c.length w) {i:Nat} (hi:i < c.length) (k:Nat):((fxM c w).getD i []).getD k 0=if k < c.length then actF (matA c) c.length (nat w) (unitF i) k - unitF i k else 0:=by
 have e:(fxM c w).getD i []=fxR c w i:=by simp [fxM,List.getD,hi]
 rw [e]
 by_cases hk:k < c.length
 ·rw [if_pos hk,fxR_get c w hi hk,<- vec_sim hi,<- actR_vec hc (simL_len _ _) w hw]
  rfl
 ·rw [if_neg hk];exact getD_out (by rw [fxR_len];omega)
theorem sp_mov {c:LL} (hc:CartanP c) {w:LI} (hw:letters c.length w) (v:Vec):Sp (fxM c w) v↔Mov c (nat w) v:=by
 have hl:(fxM c w).length=c.length:=by simp [fxM]
 constructor
 ·rintro⟨a,ha⟩
  rw [hl]at ha
  refine⟨⟨a,fun k hk=>?_⟩,fun k hk=>?_⟩
  ·rw [ha k,<- actF_congr (fun k hk=>unit_sum c.length a hk) (nat w) (letters_nat hw) k hk,actF_sum]
   conv=>rhs;rw [<- unit_sum c.length a hk]
   simp only []
   have h3:=sumN_add (fun i=>a i*actF (matA c) c.length (nat w) (unitF i) k) (fun i=>(-1)*(a i*unitF i k)) c.length
   rw [sumN_mul]at h3
   rw [sumN_congr c.length (g:=fun i=>a i*actF (matA c) c.length (nat w) (unitF i) k+(-1)*(a i*unitF i k)) (fun i hi=>by rw [fx_row hc hw hi,if_pos hk];grind),h3]
   omega
  ·rw [ha k]
   exact sumN_zero' _ fun i hi=>by rw [fx_row hc hw hi,if_neg om,Int.mul_zero]
 ·rintro⟨⟨x,hx⟩,hz⟩
  refine⟨x,fun k=>?_⟩
  rw [hl]
  by_cases hk:k < c.length
  ·rw [hx k hk,<- actF_congr (fun k hk=>unit_sum c.length x hk) (nat w) (letters_nat hw) k hk,actF_sum]
   conv=>lhs;rhs;rw [<- unit_sum c.length x hk]
   simp only []
   have h3:=sumN_add (fun i=>x i*actF (matA c) c.length (nat w) (unitF i) k) (fun i=>(-1)*(x i*unitF i k)) c.length
   rw [sumN_mul]at h3
   rw [sumN_congr c.length (f:=fun i=>x i*((fxM c w).getD i []).getD k 0) (g:=fun i=>x i*actF (matA c) c.length (nat w) (unitF i) k+(-1)*(x i*unitF i k)) (fun i hi=>by rw [fx_row hc hw hi,if_pos hk];grind),h3]
   omega
  ·rw [hz k om]
   exact(sumN_zero' _ fun i hi=>by rw [fx_row hc hw hi,if_neg hk,Int.mul_zero]).symm
theorem rk_mov {c:LL} (hc:CartanP c) {w:LI} (hw:letters c.length w):Gen (rkW c w) (Mov c (nat w))/\Ind (rkW c w) (Mov c (nat w)):=by
 have hW:Wid c.length (fxM c w):=fun i hi=>by
  have hi:i < c.length:=by simpa [fxM] using hi
  have e:(fxM c w).getD i []=fxR c w i:=by simp [fxM,List.getD,hi]
  rw [e,fxR_len]
 obtain⟨h1,h2⟩:=rk_gen hW
 exact⟨h1.mono fun v hv=>(sp_mov hc hw v).2 hv,h2.mono fun v hv=>(sp_mov hc hw v).1 hv⟩
theorem rk_same_elt {c:LL} (hc:CartanP c) {a b:LI} (ha:letters c.length a) (hb:letters c.length b) (h:imageL c a=imageL c b):rkW c a=rkW c b:=by
 have e:fxM c a=fxM c b:=by
  unfold fxM
  refine List.map_congr_left fun i hi=>?_
  unfold fxR
  rw [actR_same hc ha hb h (simL_len _ _)]
 unfold rkW;rw [e]
section
variable {c:LL} (hF:FinP c)
include hF
theorem rk_reflect_le {w:LI} (hw:letters c.length w) {g:List Nat} (hg:∀ j∈g,j < c.length) {i:Nat} {w':LI} (hw':letters c.length w') (h:∀ x k,k < c.length->actF (matA c) c.length (nat w') x k=actF (matA c) c.length (rfW g i ++ nat w) x k):rkW c w'<=rkW c w+1:=by
 have hc:=hF.1
 obtain⟨⟨b,hb⟩,_⟩:=rk_mov hc hw
 refine steinitz ⟨fun j=>if j < rkW c w then b j else fun k=>if k < c.length then rtF c g i k else 0,fun v ⟨⟨y,hy⟩,hz⟩=>?_⟩ (rk_mov hc hw').2
 obtain⟨m,hm,a,ha⟩:=hb (fun k=>if k < c.length then actF (matA c) c.length (nat w) y k - y k else 0) ⟨⟨y,fun k hk=>if_pos hk⟩,fun k hk=>if_neg om⟩
 refine⟨m,hm,fun j=>if j < rkW c w then a j else -(m*cor c g i (actF (matA c) c.length (nat w) y)),fun k=>?_⟩
 rw [sumN_succ,sumN_congr (rkW c w) (g:=fun j=>a j*b j k) (fun j hj=>by simp only [if_pos hj]),<- ha k]
 simp only [Nat.lt_irrefl,if_false]
 by_cases hk:k < c.length
 ·rw [if_pos hk,if_pos hk,hy k hk,h y k hk,actF_append,rf_act hF hg]
  simp only []
  grind
 ·rw [if_neg hk,if_neg hk,hz k om];omega
theorem rk_carter {w:LI} (hw:letters c.length w) (hne:imageL c w≠ones c.length):∃ g∈allL c,∃ i,i < c.length/\∀ w',letters c.length w'->(∀ x k,k < c.length->actF (matA c) c.length (nat w') x k=actF (matA c) c.length (rfW (nat g) i ++ nat w) x k)->rkW c w'+1<=rkW c w:=by
 have hc:=hF.1
 have hwn:=letters_nat hw
 have hne2:¬∀ x,act (matA c) (nat w) x=x:=fun h=>hne (by
  have h1:=h (vecL (ones c.length))
  rw [<- vec_act (ones_length _)]at h1
  exact vec_inj (by rw [imageL_length,ones_length]) h1)
 obtain⟨g,hg,i,hi,h0⟩:=carter_root hF hwn hne2
 have hgn:=letters_nat ((allL_spec hF).2 g |>.1 hg).1
 refine⟨g,hg,i,hi,fun w' hw' h=>?_⟩
 obtain⟨m,hm,z,hz⟩:=carter_moved hF hwn hgn hi h0
 have hzf:=carter_back hF hwn hgn hi hm hz
 obtain⟨_,v,hv,hvi⟩:=rk_mov hc hw'
 have hch:∀ j,∃ y:Vec,j < rkW c w'->∀ k,k < c.length->v j k=actF (matA c) c.length (nat w') y k - y k:=fun j=>by
  by_cases hj:j < rkW c w'
  ·obtain⟨⟨y,hy⟩,_⟩:=hv j hj;exact⟨y,fun _=>hy⟩
  ·exact⟨fun _=>0,fun h=>absurd h hj⟩
 let y:Nat->Vec:=fun j=>if j < rkW c w' then(hch j).choose else z
 have hy:∀ j,j < rkW c w'->∀ k,k < c.length->v j k=actF (matA c) c.length (nat w') (y j) k - y j k:=fun j hj=>by
  have:=(hch j).choose_spec hj
  simp only [y,if_pos hj];exact this
 have hyz:y (rkW c w')=z:=by simp only [y,Nat.lt_irrefl,if_false]
 refine steinitz (rk_mov hc hw).1 ⟨fun j k=>if k < c.length then actF (matA c) c.length (nat w) (y j) k - y j k else 0,fun j _=>⟨⟨y j,fun k hk=>if_pos hk⟩,fun k hk=>if_neg om⟩,fun x hx=>?_⟩
 have hfix:FixF c (nat w) (fun k=>sumN (rkW c w'+1) (fun j=>x j*y j k)):=fun k hk=>by
  have h1:=hx k
  rw [actF_sum]
  simp only [if_pos hk]at h1
  have h3:=sumN_add (fun j=>x j*actF (matA c) c.length (nat w) (y j) k) (fun j=>(-1)*(x j*y j k)) (rkW c w'+1)
  rw [sumN_mul]at h3
  rw [sumN_congr _ (g:=fun j=>x j*actF (matA c) c.length (nat w) (y j) k+(-1)*(x j*y j k)) (fun j _=>by grind),h3]at h1
  simp only []
  omega
 have hrf:∀ j∈rfW (nat g) i,j < c.length:=fun j hj=>by
  unfold rfW at hj
  rcases List.mem_append.1 hj with h | h
  ·exact hgn j (by simpa using h)
  ·rcases List.mem_cons.1 h with rfl | h
   ·exact hi
   ·exact hgn j h
 have hfix2:∀ k,k < c.length->actF (matA c) c.length (nat w') (fun k=>sumN (rkW c w'+1) (fun j=>x j*y j k)) k=sumN (rkW c w'+1) (fun j=>x j*y j k):=fun k hk=>by
  rw [h _ k hk,actF_append,actF_congr hfix _ hrf k hk,rf_act hF hgn,h0 _ hfix]
  simp only []
  omega
 have hlow:∀ j,j < rkW c w'->x j=0:=hvi x fun k=>by
  by_cases hk:k < c.length
  ·have h1:=hfix2 k hk
   rw [actF_sum]at h1
   simp only []at h1
   rw [sumN_succ,sumN_succ,hyz,h z k hk,hzf k hk]at h1
   have h3:=sumN_add (fun j=>x j*actF (matA c) c.length (nat w') (y j) k) (fun j=>(-1)*(x j*y j k)) (rkW c w')
   rw [sumN_mul]at h3
   rw [sumN_congr _ (g:=fun j=>x j*actF (matA c) c.length (nat w') (y j) k+(-1)*(x j*y j k)) (fun j hj=>by rw [hy j hj k hk];grind),h3]
   omega
  ·exact sumN_zero' _ fun j hj=>by rw [(hv j hj).2 k om,Int.mul_zero]
 intro j hj
 by_cases e:j < rkW c w'
 ·exact hlow j e
 ·have e:j=rkW c w':=by omega
  subst e
  apply Classical.byContradiction
  intro hxne
  refine root_bF hF hgn hi ?_
  have hb0:∀ k,k < c.length->rtF c (nat g) i k=0:=fun k hk=>by
   have h1:=hx k
   rw [sumN_succ,sumN_zero' _ fun j hj=>by rw [hlow j hj,Int.zero_mul]]at h1
   simp only [if_pos hk,hyz]at h1
   rw [hz k hk]at h1
   have h2:x (rkW c w')*(m*rtF c (nat g) i k)=0:=by
    rw [show m*rtF c (nat g) i k=z k+m*rtF c (nat g) i k - z k by omega];omega
   rcases Int.mul_eq_zero.1 h2 with h3 | h3
   ·exact absurd h3 hxne
   ·rcases Int.mul_eq_zero.1 h3 with h4 | h4
    ·exact absurd h4 hm
    ·exact h4
  rw [bF_congr hF (x':=fun _=>0) (y':=fun _=>0) hb0 hb0]
  have:=bF_lin (c:=c) 0 0 (fun _=>0) (fun _=>0) (fun _=>0)
  simpa using this
theorem rk_nil:rkW c []=0:=by
 have hG:Gen 0 (Mov c (nat [])):=⟨fun _ _=>0,fun v ⟨⟨x,hx⟩,hz⟩=>⟨1,by decide,fun _=>0,fun k=>by
  by_cases hk:k < c.length
  ·rw [hx k hk];simp [nat,actF,sumN]
  ·rw [hz k om];simp [sumN]⟩⟩
 have:=steinitz hG (rk_mov hF.1 (letters_nil _)).2
 omega
theorem rk_len:∀(w:LI),letters c.length w->rkW c w<=w.length
 | [],_=>by rw [rk_nil hF];exact nz0 _
 | i :: w,hw=>by
  obtain⟨h1,h2⟩:=letters_cons.1 hw
  have:=rk_reflect_le hF h2 (g:=[]) (by simp) (i:=i.toNat) hw (fun x k _=>rfl)
  have:=rk_len w h2
  simp only [lenC]
  omega
theorem rk_zero {w:LI} (hw:letters c.length w) (h:rkW c w=0):imageL c w=ones c.length:=by
 have hc:=hF.1
 apply Classical.byContradiction
 intro hne
 obtain⟨g,hg,i,hi,h0⟩:=rk_carter hF hw hne
 have hgn:=((allL_spec hF).2 g |>.1 hg).1
 have hl:letters c.length (g.reverse ++ ((i:Int) :: g) ++ w):=letters_append.2 ⟨letters_append.2 ⟨letters_reverse hgn,letters_cons.2 ⟨⟨by omega,by omega⟩,hgn⟩⟩,hw⟩
 have:=h0 _ hl (fun x k _=>by simp [nat,rfW])
 omega
end
theorem nat_app (a b:LI):nat (a ++ b)=nat a ++ nat b:=by simp [nat]
theorem rk_step1 {c:LL} (hF:FinP c) {r w:LI} (h:rflB c r=true) (hw:letters c.length w):rkW c (rflX c r ++ w)<=rkW c w+1:=by
 obtain⟨hc,hr,hs,t,i,hi,ht,htl,e1,e2⟩:=rfl_facts h
 have hl:=rfl_let hi ht
 obtain⟨x1,_,_,x4,_⟩:=red_spec hc hl (by simp;omega)
 have e3:rkW c (rflX c r ++ w)=rkW c (t ++ [(i:Int)] ++ t.reverse ++ w):=by
  rw [e2]
  refine rk_same_elt hc (letters_append.2 ⟨x1,hw⟩) (letters_append.2 ⟨hl,hw⟩) ?_
  rw [image_append,image_append]
  exact same_elt hc x1 hl x4 (imageL_length _ _)
 rw [e3]
 refine rk_reflect_le hF hw (g:=nat t.reverse) (fun j hj=>letters_nat (letters_reverse ht) j hj) (i:=i) (letters_append.2 ⟨hl,hw⟩) fun x k _=>?_
 have e4:rfW (nat t.reverse) i=nat (t ++ [(i:Int)] ++ t.reverse):=by
  unfold rfW
  rw [nat_app,nat_app]
  have:(nat t.reverse).reverse=nat t:=by simp [nat]
  rw [this]
  simp [nat]
 rw [e4,<- nat_app]
theorem rk_step2 {c:LL} (hF:FinP c) {r w:LI} (h:rflB c r=true) (hw:letters c.length w):rkW c w<=rkW c (rflX c r ++ w)+1:=by
 have hc:=hF.1
 obtain⟨x1,_,_,x4⟩:=rfl_neg h
 have h1:=rk_step1 hF h (letters_append.2 ⟨x1,hw⟩)
 have e:rkW c (rflX c r ++ (rflX c r ++ w))=rkW c w:=by
  refine rk_same_elt hc (letters_append.2 ⟨x1,letters_append.2 ⟨x1,hw⟩⟩) hw ?_
  rw [<- List.append_assoc,image_append]
  rw [same_elt hc (letters_append.2 ⟨x1,x1⟩) (letters_nil _) (b:=[]) (by rw [x4];rfl) (imageL_length _ _)]
  rfl
 omega
theorem rfl_same {c:LL} (hF:FinP c) {g:List Nat} (hg:∀ j∈g,j < c.length) {i:Nat} (hi:i < c.length) {r:LI} (h:rflB c r=true) {e:Int} (he:e=1\/e = -1) (hv:∀ k,k < c.length->vecL r k=e*rtF c g i k) (x:Vec) :
  ∀ k,k < c.length->actF (matA c) c.length (nat (rflX c r)) x k=actF (matA c) c.length (rfW g i) x k:=by
 obtain⟨hc,hr,hs,t,j,hj,ht,htl,e1,e2⟩:=rfl_facts h
 have hl:=rfl_let hj ht
 obtain⟨x1,_,_,x4,_⟩:=red_spec hc hl (by simp;omega)
 have hgt:∀ q∈(nat t).reverse,q < c.length:=fun q hq=>letters_nat ht q (by simpa using hq)
 intro k hk
 have hn:nat (t ++ [(j:Int)] ++ t.reverse)=rfW (nat t).reverse j:=by simp [nat,rfW,List.map_reverse]
 rw [e2,actF_same hc x1 hl x4 x k hk,hn,rf_act hF hgt j x,rf_act hF hg i x]
 have hrt:rtF c (nat t).reverse j=vecL r:=by
  unfold rtF
  rw [List.reverse_reverse,e1,actR_vec hc (simL_len _ _) t ht,vec_sim hj]
 have h1:=cor_bF hF hgt hj x
 have h2:=cor_bF hF hg hi x
 have h3:=root_bF hF hg hi
 rw [hrt]at h1 ⊢
 have lin:∀ y,bF c y (vecL r)=e*bF c y (rtF c g i):=fun y=>by
  rw [bF_congr hF (x':=y) (y':=fun k=>e*rtF c g i k+0*rtF c g i k) (fun _ _=>rfl) (fun k hk=>by rw [hv k hk];omega),bF_linr]
  omega
 have b1:bF c (vecL r) (vecL r)=bF c (rtF c g i) (rtF c g i):=by
  rw [lin,bF_symm,lin]
  rcases he with rfl | rfl<;>omega
 rw [b1,lin]at h1
 simp only
 rw [hv k hk]
 have h4:(cor c (nat t).reverse j x - e*cor c g i x)*bF c (rtF c g i) (rtF c g i)=0:=by
  rw [Int.sub_mul,h1,Int.mul_assoc,h2]
  rcases he with rfl | rfl<;>omega
 have h5:cor c (nat t).reverse j x=e*cor c g i x:=by
  rcases Int.mul_eq_zero.1 h4 with h | h
  ·omega
  ·exact absurd h h3
 rw [h5]
 rcases he with rfl | rfl<;>grind
theorem vec_neg (r:LI) (k:Nat):vecL (negL r) k = -1*vecL r k:=by
 show(negL r).getD k 0 = -1*r.getD k 0
 rw [negL_get];omega
theorem rof_mem {c:LL} (hb:rofB c=true) {r:LI} (hr:r∈rutO c 12):rflX c r∈rofX c:=by
 unfold rofX
 rw [if_pos hb]
 exact((srt_spec _).2 _).2 (List.mem_map.2 ⟨r,hr,rfl⟩)
theorem rof_from {c:LL} (hb:rofB c=true) {s:LI} (hs:s∈rofX c):∃ r,r∈rutO c 12/\rflB c r=true/\s=rflX c r:=by
 unfold rofX at hs
 rw [if_pos hb]at hs
 obtain⟨r,hr,rfl⟩:=List.mem_map.1 (((srt_spec _).2 _).1 hs)
 unfold rofB at hb
 simp only [bAnd]at hb
 exact⟨r,hr,alT.1 hb.2 r hr,rfl⟩
theorem rof_fin {c:LL} (hb:rofB c=true):FinP c:=by
 unfold rofB at hb
 simp only [bAnd]at hb
 exact isF_iff.1 hb.1
theorem str_exists {n:Nat}:∀ M:List (List Int),M.Nodup->(∀ z∈M,z.length=n)->∃ L,StrR L/\∀ z,z∈L↔z∈M
 | [],_,_=>⟨[],List.Pairwise.nil,fun _=>Iff.rfl⟩
 | r :: M,hn,hl=>by
  obtain⟨h1,h2⟩:=List.nodup_cons.1 hn
  obtain⟨L,k1,k2⟩:=str_exists M h2 fun z hz=>hl z (mcM _ hz)
  refine⟨putR r false L,putR_str (hl r (mcS ..)) k1 (fun h=>h1 ((k2 r).1 h)) (fun x hx=>hl x (mcM _ ((k2 x).1 hx))),fun z=>?_⟩
  rw [putR_mem,k2,List.mem_cons]
theorem rut_all {c:LL} (hF:FinP c):RAll c 12 (rutO c 12):=by
 obtain⟨L,h1,h2⟩:=str_exists (rtsC c) (rts_nodup hF) fun z hz=>((rts_mem hF z).1 hz).len
 have hR:RAll c 12 L:=⟨⟨h1,fun z hz=>(rts_mem hF z).1 ((h2 z).1 hz),fun i hi=>(h2 _).2 ((rts_mem hF _).2 (RS.sim i hi))⟩,fun z hz=>(h2 z).2 ((rts_mem hF z).2 hz)⟩
 rw [rutO_eq hF.1 ⟨by omega,by omega⟩ hR]
 exact hR
theorem fac_step {c:LL} (hb:rofB c=true) {w:LI} (hw:letters c.length w) (hne:rkW c w≠0):∃ s∈rofX c,rkW c (s ++ w)+1<=rkW c w:=by
 have hF:=rof_fin hb
 have hA:=rut_all hF
 have hne2:imageL c w≠ones c.length:=fun e=>hne (by
  rw [rk_same_elt hF.1 hw (letters_nil _) (b:=[]) (by rw [e];rfl)]
  exact rk_nil hF)
 obtain⟨g,hg,i,hi,H⟩:=rk_carter hF hw hne2
 have hgl:=(((allL_spec hF).2 g).1 hg).1
 have hgn:=letters_nat hgl
 have hv:∀ k,vecL (actR c g.reverse (simL c.length i)) k=rtF c (nat g) i k:=fun k=>by
  rw [actR_vec hF.1 (simL_len _ _) _ (letters_reverse hgl),vec_sim hi]
  unfold rtF
  rw [show nat g.reverse=(nat g).reverse by simp [nat,List.map_reverse]]
 have key:∀(r:LI) (e:Int),(e=1\/e = -1)->r∈rtsC c->(∀ k,k < c.length->vecL r k=e*rtF c (nat g) i k)->∃ s∈rofX c,rkW c (s ++ w)+1<=rkW c w:=by
  intro r e he hr hrv
  have hrR:r∈rutO c 12:=hA.2 r ((rts_mem hF r).1 hr)
  have hrb:rflB c r=true:=by
   unfold rofB at hb
   simp only [bAnd]at hb
   exact alT.1 hb.2 r hrR
  obtain⟨hl,_⟩:=rfl_neg hrb
  refine⟨rflX c r,rof_mem hb hrR,H _ (letters_append.2 ⟨hl,hw⟩) fun x k hk=>?_⟩
  rw [nat_app,actF_append,actF_append]
  exact rfl_same hF hgn hi hrb he hrv _ k hk
 rcases rts_rt hF hi g.reverse (letters_reverse hgl)with h | h
 ·exact key _ 1 (.inl rfl) h fun k _=>by rw [hv];omega
 ·exact key _ (-1) (.inr rfl) h fun k _=>by rw [vec_neg,hv]
def facQ (c:LL) (x s:LI):Bool:=decide (15 < (redL c (s ++ x)).length\/rkW c (redL c (s ++ x)) < rkW c x)
noncomputable def facI (c:LL) (x:LI):Nat:=(rofX c).findIdx (facQ c x)
noncomputable def facS (c:LL) (x:LI):List Int:=(rofX c).getD (facI c x) []
noncomputable def facN (c:LL) (x:LI):List Int:=redL c (facS c x ++ x)
noncomputable def facL (c:LL):Nat->List Int->Option (List (List Int))
 | 0,_=>some []
 | k+1,x=>if (facN c x).length<=15 then(facL c k (facN c x)).map (facS c x :: ·)else none
noncomputable def facB (c:LL) (w:LI):Bool:=wordB c w && rofB c && (facL c (rkW c w) w).isSome
noncomputable def facX (c:LL) (w:LI):List (List Int):=if facB c w=true then(facL c (rkW c w) w).getD []else []
theorem red_cat {c:LL} (hc:CartanP c) {s x:LI} (hx:letters c.length x) (hl:x.length<=31):redL c (s ++ redL c x)=redL c (s ++ x):=by
 obtain⟨_,_,_,a4,_⟩:=red_spec hc hx hl
 refine red_eq ?_
 rw [image_append,image_append,a4]
theorem rk_red {c:LL} (hc:CartanP c) {x:LI} (hx:letters c.length x) (hl:x.length<=31):rkW c (redL c x)=rkW c x:=by
 obtain⟨a1,_,_,a4,_⟩:=red_spec hc hx hl
 exact rk_same_elt hc a1 hx a4
theorem facQ_red {c:LL} (hc:CartanP c) {x:LI} (hx:letters c.length x) (hl:x.length<=31):facQ c (redL c x)=facQ c x:=by
 funext s
 unfold facQ
 rw [red_cat hc hx hl,rk_red hc hx hl]
theorem facL_red {c:LL} (hc:CartanP c) {x:LI} (hx:letters c.length x) (hl:x.length<=31):∀ k,facL c k (redL c x)=facL c k x
 | 0=>rfl
 | k+1=>by
  have hI:facI c (redL c x)=facI c x:=by unfold facI;rw [facQ_red hc hx hl]
  have hS:facS c (redL c x)=facS c x:=by unfold facS;rw [hI]
  have hN:facN c (redL c x)=facN c x:=by unfold facN;rw [hS,red_cat hc hx hl]
  simp only [facL,hS,hN]
theorem rof_word {c:LL} (hb:rofB c=true) {s:LI} (hs:s∈rofX c):letters c.length s/\s.length<=15:=by
 obtain⟨r,_,h,rfl⟩:=rof_from hb hs
 exact⟨(rfl_neg h).1,rflX_le c r⟩
theorem rof_at {c:LL} {j:Nat} (hj:j < (rofX c).length):(rofX c).getD j []∈rofX c:=by
 rw [gdE,geE hj];exact List.getElem_mem _
theorem fac_spec {c:LL} (hb:rofB c=true) {x:LI} (hx:letters c.length x) (hl:x.length<=15) (hne:rkW c x≠0) :
  facI c x < (rofX c).length/\(∀ j,j < facI c x->(redL c ((rofX c).getD j [] ++ x)).length<=15/\rkW c x<=rkW c (redL c ((rofX c).getD j [] ++ x)))/\((facN c x).length<=15->rkW c (facN c x)+1=rkW c x):=by
 have hF:=rof_fin hb
 have hc:=hF.1
 have hrk:∀ s∈rofX c,rkW c (redL c (s ++ x))=rkW c (s ++ x):=fun s hs=>by
  obtain⟨h1,h2⟩:=rof_word hb hs
  exact rk_red hc (letters_append.2 ⟨h1,hx⟩) (by simp;omega)
 have hlt:facI c x < (rofX c).length:=by
  obtain⟨s,hs,h⟩:=fac_step hb hx hne
  refine List.findIdx_lt_length_of_exists ⟨s,hs,?_⟩
  unfold facQ
  rw [dtE,hrk s hs]
  exact .inr om
 refine⟨hlt,fun j hj=>?_,fun h15=>?_⟩
 ·have hjl:j < (rofX c).length:=by omega
  have h:facQ c x ((rofX c)[j])=false:=List.not_of_lt_findIdx (p:=facQ c x) (xs:=rofX c) hj
  rw [gdE,geE hjl,Option.getD_some]
  unfold facQ at h
  rw [dfE]at h
  omega
 ·have h:=List.findIdx_getElem (p:=facQ c x) (xs:=rofX c) (w:=hlt)
  have hS:facS c x=(rofX c)[facI c x]:=by unfold facS;rw [gdE,geE hlt,Option.getD_some]
  have h:facQ c x (facS c x)=true:=by rw [hS];exact h
  unfold facQ at h
  rw [dtE]at h
  have hm:facS c x∈rofX c:=rof_at hlt
  have h1:rkW c (redL c (facS c x ++ x)) < rkW c x:=by
   rcases h with h | h
   ·unfold facN at h15;omega
   ·exact h
  obtain⟨r,_,hr,e⟩:=rof_from hb hm
  have h2:=rk_step2 hF hr hx
  rw [<- e,<- hrk _ hm]at h2
  unfold facN
  omega
theorem facL_len {c:LL}:∀ {k:Nat} {x:LI} {L:LL},facL c k x=some L->L.length=k
 | 0,_,_,h=>by cases h;rfl
 | k+1,x,L,h=>by
  simp only [facL]at h
  split at h
  ·obtain⟨M,hM,rfl⟩:=Option.map_eq_some_iff.1 h
   have:=facL_len hM
   simp [this]
  ·cases h
theorem facL_rows {c:LL}:∀ {k:Nat} {x:LI} {L:LL},facL c k x=some L->∀ s∈L,s.length<=15
 | 0,_,_,h,s,hs=>by cases h;cases hs
 | k+1,x,L,h,s,hs=>by
  simp only [facL]at h
  split at h
  ·obtain⟨M,hM,rfl⟩:=Option.map_eq_some_iff.1 h
   rcases List.mem_cons.1 hs with rfl | hs
   ·by_cases hi:facI c x < (rofX c).length
    ·exact rofX_rows c _ (rof_at hi)
    ·unfold facS
     rw [gdE,geN om];simp
   ·exact facL_rows hM s hs
  ·cases h
theorem facX_len (c:LL) (w:LI):(facX c w).length<=15:=by
 unfold facX
 split
 ·rename_i h
  unfold facB at h
  simp only [bAnd]at h
  obtain⟨⟨h1,h2⟩,h3⟩:=h
  obtain⟨L,hL⟩:=Option.isSome_iff_exists.1 h3
  rw [hL,Option.getD_some,facL_len hL]
  obtain⟨_,k2,k3⟩:=wordB_iff.1 h1
  have:=rk_len (rof_fin h2) w k3
  omega
 ·simp
theorem facX_rows (c:LL) (w:LI):∀ s∈facX c w,s.length<=15:=fun s hs=>by
 unfold facX at hs
 split at hs
 ·rename_i h
  unfold facB at h
  simp only [bAnd]at h
  obtain⟨L,hL⟩:=Option.isSome_iff_exists.1 h.2
  rw [hL,Option.getD_some]at hs
  exact facL_rows hL s hs
 ·cases hs
theorem absN_on {c:LL} {x:LI} (hx:wordB c x=true) (hF:isF c=true):absN c x=(rkW c x:Nat):=by
 unfold absN
 rw [hx,hF];rfl
theorem fac_off {c:LL} {w:LI} (h:facB c w=false):facX c w=[]:=by unfold facX;rw [h];rfl
theorem rk_nz {c:LL} (hF:FinP c) {x:LI} (hx:letters c.length x) (hr:redL c x=x) (hl:x.length<=31):rkW c x=0↔x=[]:=by
 constructor
 ·intro h
  have e:=rk_zero hF hx h
  have:redL c x=redL c []:=red_eq (by rw [e];rfl)
  rw [hr]at this
  rw [this]
  exact nilZ (by have:=(red_spec hF.1 (letters_nil c.length) (w:=[]) (by simp)).2.1;simpa using this)
 ·intro h
  subst h
  exact rk_nil hF
theorem red_word {c:LL} (hc:CartanP c) {w:LI} (hw:letters c.length w) (hl:w.length<=31) (h15:(redL c w).length<=15):wordB c (redL c w)=true:=
 wordB_iff.2 ⟨hc,h15,(red_spec hc hw hl).1⟩
theorem red_red {c:LL} (hc:CartanP c) {w:LI} (hw:letters c.length w) (hl:w.length<=31):redL c (redL c w)=redL c w:=red_eq (red_spec hc hw hl).2.2.2.1
theorem ls_at {c:LL} {ls:List (Nat×List Int)} (h:rw2 ls=rofX c) (j:Nat):(rofX c).getD j []=(ls.getD j (0,[])).2:=by
 rw [<- h]
 simp only [rw2,gdE,List.getElem?_map]
 cases ls[j]?<;>rfl
theorem facL_step {c:LL} {k:Nat} {x:LI} (h:(facN c x).length<=15):facL c (k+1) x=(facL c k (facN c x)).map (facS c x :: ·):=by simp only [facL];rw [if_pos h]
theorem facL_stop {c:LL} {k:Nat} {x:LI} (h:¬(facN c x).length<=15):facL c (k+1) x=none:=by simp only [facL];rw [if_neg h]
set_option maxHeartbeats 2000000 in
theorem c_impl_FactorReflectionsR (c:LL) (w:LI) (hcl:c.length<=1048576) :
  FunA B 21 [.sl false (.row false) c,.sl false .int w] (fun rs o=>∃ ys g nn rest,(rw2 ys=facX c w/\nn=true/\rest=[.bool (facB c w)])/\(lb1 ys).Nodup/\rest.all flatAV=true/\rs=.own 0 g :: rest/\o=[.arr .lrow ys g nn]):=by
 refine wk Tryz.call21 Tryz.func21 rfl Tryz.ntmps21 fun C hC hP hT hfn hpin hfin hX=>wW ?_
 refine Run.R ?_
 refine Run.g fun K hK=>?_
 refine FunA.e hP hT (c_impl_IsWord c w) ?_
 refine wE ?_;clear hK K
 refine Run.c ?_ ?_
 ·intro h
  have h:wordB c w=false:=by simpa using h
  have hb:facB c w=false:=by unfold facB;rw [h];rfl
  refine Run.R ?_
  refine Run.k [4,5] [0] ?_
  refine Run.r [4,5] ?_
  exact⟨[],0,true,[.bool false],⟨(fac_off hb).symm,rfl,by rw [hb]⟩,List.nodup_nil,rfl,rfl,rfl⟩
 intro h
 have hwb:wordB c w=true:=by simpa using h
 refine Run.g fun K hK=>?_
 refine FunA.cW hP hT (c_impl_ReflectionsOfR c) ?_
 rintro rs o ⟨ls,g,nn,rest,⟨hls,rfl,rfl⟩,hnd,hfl,rfl,rfl⟩
 refine wF ?_;clear hK K
 refine Run.R ?_
 refine Run.c ?_ ?_
 ·intro h
  have h:rofB c=false:=by simpa using h
  have hb:facB c w=false:=by unfold facB;rw [hwb,h];rfl
  refine Run.R ?_
  refine Run.k [4,5] [1] ?_
  refine Run.r [4,5] ?_
  exact⟨[],0,true,[.bool false],⟨(fac_off hb).symm,rfl,by rw [hb]⟩,List.nodup_nil,rfl,rfl,rfl⟩
 intro h
 have hrb:rofB c=true:=by simpa using h
 have hF:=rof_fin hrb
 have hFb:isF c=true:=isF_iff.2 hF
 have hc:=hF.1
 have hlsl:ls.length=(rofX c).length:=by rw [<- hls];simp [rw2]
 have hlsb:ls.length<=28561:=by rw [hlsl];exact rofX_len c
 have hwk:rkW c w<=15:=by
  obtain⟨_,k2,k3⟩:=wordB_iff.1 hwb
  have:=rk_len hF w k3
  omega
 refine Run.R ?_
 refine Run.g fun K hK=>?_
 refine FunA.cW hP hT (c_impl_AbsoluteLength c w hcl) ?_
 rintro rs o ⟨rfl,rfl⟩
 rw [absN_on hwb hFb]
 refine wF ?_;clear hK K
 refine Run.k [0,1,4,5,6,8,9] [0,1] ?_
 refine Run.loopI (X:=List Int×Bool×List (Nat×List Int)) (fun x=>⟨66,[(0,true,.v (.sl false (.row false) c)),(1,true,.v (.sl x.2.1 .int x.1)),(4,true,.v (.nils)),(5,true,.v (.bool false)),(6,true,.v (.own 0 0)),(8,true,.v (.own 1 0)),(9,true,.v (.int .i64 ((rkW c x.1:Nat))))],[.arr .lrow (ls) 0 true,.arr .lrow (x.2.2) 0 true]⟩) (fun x=>wordB c x.1=true/\facL c (rkW c w) w=(facL c (rkW c x.1) x.1).map (rw2 x.2.2 ++ ·)/\(lb1 x.2.2).Nodup/\x.2.2.length+rkW c x.1<=15) (fun x=>rkW c x.1) ((w,false,[])) (⟨hwb,by simp [rw2],by simp [lb1],by simpa using hwk⟩) ?_ ?_
 ·exact Le.s
 rintro⟨x,f,ys⟩ ⟨hx,hE,hN,hyl⟩ ihO
 try simp only []
 simp only []at hx hE hN hyl
 obtain⟨_,hxl,hxw⟩:=wordB_iff.1 hx
 refine Run.R ?_
 refine Run.c ?_ ?_
 ·intro h
  have hne:rkW c x≠0:=by intro e;rw [e]at h;simp at h
  obtain⟨f1,f2,f3⟩:=fac_spec hrb hxw hxl hne
  obtain⟨k,hk⟩:∃ k,rkW c x=k+1:=⟨rkW c x - 1,by omega⟩
  refine Run.R ?_
  refine Run.k [0,1,4,5,6,8,9,34,35,36] [0,1] ?_
  refine Run.loopI (X:=Nat) (fun i=>⟨66,[(0,true,.v (.sl false (.row false) c)),(1,true,.v (.sl f .int x)),(4,true,.v (.nils)),(5,true,.v (.bool false)),(6,true,.v (.own 0 0)),(8,true,.v (.own 1 0)),(9,true,.v (.int .i64 ((rkW c x:Nat)))),(34,true,.v (.own 0 0)),(35,true,.v (.int .i64 ((ls.length:Nat)))),(36,true,.v (.int .i64 i))],[.arr .lrow (ls) 0 true,.arr .lrow (ys) 0 true]⟩) (fun i=>i<=facI c x) (fun i=>facI c x - i) (0) (nz0 _) ?_ ?_
  ·exact Le.s
  rintro i hi ih
  try simp only []
  refine Run.R ?_
  refine Run.c ?_ ?_
  rotate_left
  ·intro q
   rw [dfE]at q
   omega
  intro _
  have hil:i < (rofX c).length:=by omega
  have hsa:=ls_at hls i
  have hsm:=rof_at hil
  obtain⟨hsl,hs15⟩:=rof_word hrb hsm
  have hmul:=mul_on (c:=c) (a:=(rofX c).getD i []) (b:=x) (by rw [wordB_iff.2 ⟨hc,hs15,hsl⟩,hx];rfl)
  have hcat:letters c.length ((rofX c).getD i [] ++ x):=letters_append.2 ⟨hsl,hxw⟩
  have hcl31:((rofX c).getD i [] ++ x).length<=31:=by rw [lenA];omega
  refine Run.R ?_
  refine Run.g fun K hK=>?_
  refine FunA.cW hP hT (c_impl_MultiplyElements c (ls.getD i (0,[])).2 x hcl) ?_
  rintro rs o ⟨rfl,rfl⟩
  rw [<- hsa,hmul.1]
  refine wF ?_;clear hK K
  refine Run.R ?_
  refine Run.c ?_ ?_
  ·intro q
   have q:¬(redL c ((rofX c).getD i [] ++ x)).length<=15:=by simpa using q
   have hie:i=facI c x:=by
    rcases Nat.lt_or_ge i (facI c x)with k1 | k1
    ·exact absurd (f2 i k1).1 q
    ·omega
   subst hie
   have hst:facL c (rkW c w) w=none:=by rw [hE,hk,facL_stop q];rfl
   have hb:facB c w=false:=by unfold facB;rw [hst];simp
   refine Run.R ?_
   refine Run.k [4,5] [3] ?_
   refine Run.r [4,5] ?_
   exact⟨[],0,true,[.bool false],⟨(fac_off hb).symm,rfl,by rw [hb]⟩,List.nodup_nil,rfl,rfl,rfl⟩
  intro q
  have q:(redL c ((rofX c).getD i [] ++ x)).length<=15:=by simpa using q
  have hy:=red_word hc hcat hcl31 q
  rw [hmul.2,if_pos q]
  refine Run.g fun K hK=>?_
  refine FunA.cW hP hT (c_impl_AbsoluteLength c (redL c ((rofX c).getD i [] ++ x)) hcl) ?_
  rintro rs o ⟨rfl,rfl⟩
  rw [absN_on hy hFb]
  refine wF ?_;clear hK K
  refine Run.R ?_
  refine Run.c ?_ ?_
  ·intro q2
   have q2:rkW c (redL c ((rofX c).getD i [] ++ x)) < rkW c x:=by rw [dtE]at q2;omega
   have hie:i=facI c x:=by
    rcases Nat.lt_or_ge i (facI c x)with k1 | k1
    ·have:=(f2 i k1).2;omega
    ·omega
   subst hie
   have f4:=f3 q
   have hst:facL c (rkW c w) w=(facL c (rkW c (facN c x)) (facN c x)).map (rw2 (ys ++ [(0,facS c x)]) ++ ·):=by
    rw [hE,hk,facL_step q,show rkW c (facN c x)=k by omega,rw2_app]
    cases facL c k (facN c x)<;>simp [rw2]
   change rkW c (facN c x)+1=rkW c x at f4
   change wordB c (facN c x)=true at hy
   refine Run.g fun K hK=>?_
   intro l hl
   (repeat(with_reducible refine And.intro ?_ ?_);exact vc0)
   refine wE ?_;clear hK K
   have hN2:(lb1 (ys ++ [(l,facS c x)])).Nodup:=by
    have:=lb_ins (ys:=[]) (i:=0) (w:=facS c x) (by simpa [lb1] using hN) (hl (.arr .lrow ys 0 true) (by simp) _ _ _ rfl) (by simp)
    simpa [lb1] using this
   refine Run.R ?_
   refine Run.x ?_
   refine Run.l 2 [0,1,4,5,6,8,9] ?_
   refine Run.k [0,1,4,5,6,8,9] [0,1] ?_
   have hst2:facL c (rkW c w) w=(facL c (rkW c (facN c x)) (facN c x)).map (rw2 (ys ++ [(l,facS c x)]) ++ ·):=by rw [hst,rw2_app,rw2_app];rfl
   refine Run.le ?_ (ihO (redL c ((rofX c).getD (facI c x) [] ++ x),true,ys ++ [(l,(rofX c).getD (facI c x) [])]) ⟨hy,hst2,hN2,by simp only [lenA,lenC,lenN];omega⟩ (by simp only [];omega))
   exact Le.sub (by rfl) (by simp only [AW7,simprocAttr];try simp)
  intro q2
  have q2:¬rkW c (redL c ((rofX c).getD i [] ++ x)) < rkW c x:=by rw [dfE]at q2;omega
  have hlt:i < facI c x:=by
   rcases Nat.lt_or_ge i (facI c x)with k1 | k1
   ·exact k1
   ·have e:i=facI c x:=by omega
    subst e
    have:=f3 q
    unfold facN facS at this
    omega
  refine Run.RW ?_
  refine Run.k [0,1,4,5,6,8,9,34,35,36] [0,1] ?_
  exact Run.j (ih (i+1) om mz)
 intro h
 have h:rkW c x=0:=by rw [dfE]at h;omega
 have hst:facL c (rkW c w) w=some (rw2 ys):=by rw [hE,h];simp [facL]
 have hb:facB c w=true:=by unfold facB;rw [hwb,hrb,hst];rfl
 have hX:facX c w=rw2 ys:=by unfold facX;rw [if_pos hb,hst];rfl
 refine Run.x ?_
 refine Run.R ?_
 refine Run.k [4,5] [1] ?_
 refine Run.r [4,5] ?_
 exact⟨ys,0,true,[.bool true],⟨hX.symm,rfl,by rw [hb]⟩,hN,rfl,rfl,rfl⟩
theorem c_impl_FactorReflections (c:LL) (w:LI) (hcl:c.length<=1048576) :
  FunA B 21 [.sl false (.row false) c,.sl false .int w] (fun rs o=>rs=[.own 0 0,.bool (facB c w)]/\∃ hs,hs.length=(facX c w).length/\o=[.mat hs (facX c w) 0 true]):=
 (FunA.mat (by rfl) (post:=fun rows nn rest=>rows=facX c w/\nn=true/\rest=[.bool (facB c w)]) (c_impl_FactorReflectionsR c w hcl)).mono fun rs o ⟨hs,rows,nn,rest,⟨h1,h2,h3⟩,h4,h5,h6⟩=>by subst h1 h2 h3;exact⟨h5,hs,h4,h6⟩
set_option maxHeartbeats 2000000 in
theorem c_spec_FactorReflectionsR (c:LL) (w:LI) (hcl:c.length<=1048576) :
  FunA B 22 [.sl false (.row false) c,.sl false .int w] (fun rs o=>∃ ys g nn rest,(rw2 ys=facX c w/\nn=true/\rest=[.bool (facB c w)])/\(lb1 ys).Nodup/\rest.all flatAV=true/\rs=.own 0 g :: rest/\o=[.arr .lrow ys g nn]):=by
 refine wk Tryz.call22 Tryz.func22 rfl Tryz.ntmps22 fun C hC hP hT hfn hpin hfin hX=>wW ?_
 refine Run.R ?_
 refine Run.R ?_
 refine Run.g fun K hK=>?_
 refine FunA.cW hP hT (c_spec_ReflectionsOfR c) ?_
 rintro rs o ⟨ls,g,nn,rest,⟨hls,rfl,rfl⟩,hnd,hfl,rfl,rfl⟩
 refine wF ?_;clear hK K
 refine Run.g fun K hK=>?_
 refine FunA.e hP hT (c_spec_NormalForm c w hcl) ?_
 refine wE ?_;clear hK K
 refine Run.R ?_
 refine Run.c ?_ ?_
 ·intro h
  have hb:facB c w=false:=by
   unfold facB
   cases hr:rofB c with
   | false=>simp
   | true=>
    cases hwb:wordB c w with
    | false=>rfl
    | true=>rw [hr,hwb]at h;cases h
  refine Run.R ?_
  refine Run.k [4,5] [0] ?_
  refine Run.r [4,5] ?_
  exact⟨[],0,true,[.bool false],⟨(fac_off hb).symm,rfl,by rw [hb]⟩,List.nodup_nil,rfl,rfl,rfl⟩
 intro h
 have hrb:rofB c=true:=by
  cases hr:rofB c with
  | true=>rfl
  | false=>rw [hr]at h;cases h
 have hwb:wordB c w=true:=by
  cases hw:wordB c w with
  | true=>rfl
  | false=>rw [hw,hrb]at h;cases h
 have hF:=rof_fin hrb
 have hFb:isF c=true:=isF_iff.2 hF
 have hc:=hF.1
 have hlsl:ls.length=(rofX c).length:=by rw [<- hls];simp [rw2]
 have hlsb:ls.length<=28561:=by rw [hlsl];exact rofX_len c
 obtain⟨_,w15,wl⟩:=wordB_iff.1 hwb
 have hwk:rkW c w<=15:=by
  have:=rk_len hF w wl
  omega
 obtain⟨a1,a2,_⟩:=red_spec hc wl om
 rw [nfW_on hwb]
 refine Run.nq ?_
 refine Run.k [0,4,5,6,7,9] [1,0,2] ?_
 refine Run.loopI (X:=List Int×List (Nat×List Int)) (fun x=>⟨109,[(0,true,.v (.sl false (.row false) c)),(4,true,.v (.nils)),(5,true,.v (.bool false)),(6,true,.v (.own 1 0)),(7,true,.v (.own 0 0)),(9,true,.v (.own 2 0))],[.arr .lrow (ls) 0 true,.arr .lrow (x.2) 0 true,.arr .int (x.1) 0 true]⟩) (fun x=>(letters c.length x.1/\x.1.length<=15/\redL c x.1=x.1)/\facL c (rkW c w) w=(facL c (rkW c x.1) x.1).map (rw2 x.2 ++ ·)/\(lb1 x.2).Nodup/\x.2.length+rkW c x.1<=15) (fun x=>rkW c x.1) ((redL c w,[])) (⟨⟨a1,by simp only [];omega,red_red hc wl om⟩,by simp only [];rw [facL_red hc wl om,rk_red hc wl om];simp [rw2],by simp [lb1],by simp only [];rw [rk_red hc wl om];simpa using hwk⟩) ?_ ?_
 ·exact Le.s
 rintro⟨x,ys⟩ ⟨⟨hxw,hxl,hxr⟩,hE,hN,hyl⟩ ihO
 try simp only []
 simp only []at hxw hxl hxr hE hN hyl
 have hx:wordB c x=true:=wordB_iff.2 ⟨hc,hxl,hxw⟩
 have hnz:=rk_nz hF hxw hxr om
 refine Run.R ?_
 refine Run.c ?_ ?_
 ·intro h
  have hne:rkW c x≠0:=by
   intro e
   rw [hnz.1 e]at h
   simp at h
  obtain⟨f1,f2,f3⟩:=fac_spec hrb hxw hxl hne
  obtain⟨k,hk⟩:∃ k,rkW c x=k+1:=⟨rkW c x - 1,by omega⟩
  refine Run.g fun K hK=>?_
  refine FunA.cW hP hT (c_spec_AbsoluteLength c x hcl) ?_
  rintro rs o ⟨rfl,rfl⟩
  rw [absN_on hx hFb]
  refine wF ?_;clear hK K
  refine Run.R ?_
  refine Run.k [0,4,5,6,7,9,11,12] [0,1,2] ?_
  refine Run.loopI (X:=Nat) (fun i=>⟨109,[(0,true,.v (.sl false (.row false) c)),(4,true,.v (.nils)),(5,true,.v (.bool false)),(6,true,.v (.own 1 0)),(7,true,.v (.own 0 0)),(9,true,.v (.own 2 0)),(11,true,.v (.int .i64 ((rkW c x:Nat)))),(12,true,.v (.int .i64 i))],[.arr .lrow (ls) 0 true,.arr .lrow (ys) 0 true,.arr .int (x) 0 true]⟩) (fun i=>i<=facI c x) (fun i=>facI c x - i) (0) (nz0 _) ?_ ?_
  ·exact Le.s
  rintro i hi ih
  try simp only []
  have hil:i < (rofX c).length:=by omega
  have hdi:decide ((i:Int) < (ls.length:Int))=true:=by rw [dtE];omega
  have hsa:=ls_at hls i
  have hsm:=rof_at hil
  obtain⟨hsl,hs15⟩:=rof_word hrb hsm
  have hcat:letters c.length ((rofX c).getD i [] ++ x):=letters_append.2 ⟨hsl,hxw⟩
  have hcl31:((rofX c).getD i [] ++ x).length<=31:=by rw [lenA];omega
  by_cases q:(redL c ((rofX c).getD i [] ++ x)).length<=15
  ·have hy:=red_word hc hcat hcl31 q
   have hq:decide (((redL c ((rofX c).getD i [] ++ x)).length:Int)<=15)=true:=by rw [dtE];omega
   refine Run.g fun K hK=>?_
   rw [hdi]
   refine wW ?_
   refine .inr ⟨rfl,?_⟩
   refine FunA.cW hP hT (c_spec_ConcatWords (ls.getD i (0,[])).2 x (by rw [<- hsa];omega) om) ?_
   rintro rs o ⟨rfl,rfl⟩
   rw [<- hsa]
   refine wW ?_
   refine .inr ⟨rfl,?_⟩
   refine FunA.e hP hT (c_spec_l8Normal c ((rofX c).getD i [] ++ x) hc hcat hcl31) ?_
   rw [hq]
   refine wW ?_
   refine .inr ⟨rfl,?_⟩
   refine FunA.cW hP hT (c_spec_ConcatWords (ls.getD i (0,[])).2 x (by rw [<- hsa];omega) om) ?_
   rintro rs o ⟨rfl,rfl⟩
   rw [<- hsa]
   refine wW ?_
   refine .inr ⟨rfl,?_⟩
   refine FunA.e hP hT (c_spec_l8Normal c ((rofX c).getD i [] ++ x) hc hcat hcl31) ?_
   refine .inr ⟨rfl,?_⟩
   refine FunA.cW hP hT (c_spec_AbsoluteLength c (redL c ((rofX c).getD i [] ++ x)) hcl) ?_
   rintro rs o ⟨rfl,rfl⟩
   rw [absN_on hy hFb]
   refine wF ?_;clear hK K
   refine Run.c ?_ ?_
   ·intro q2
    have q2:rkW c x<=rkW c (redL c ((rofX c).getD i [] ++ x)):=by
     rw [dtE]at q2
     omega
    have hlt:i < facI c x:=by
     rcases Nat.lt_or_ge i (facI c x)with k1 | k1
     ·exact k1
     ·have e:i=facI c x:=by omega
      subst e
      have:=f3 q
      unfold facN facS at this
      omega
    refine Run.k [0,4,5,6,7,9,11,12] [0,1,2] ?_
    refine Run.RW ?_
    exact Run.j (ih (i+1) om mz)
   intro q2
   have q2:rkW c (redL c ((rofX c).getD i [] ++ x)) < rkW c x:=by
    rw [dfE]at q2
    omega
   have hie:i=facI c x:=by
    rcases Nat.lt_or_ge i (facI c x)with k1 | k1
    ·have:=(f2 i k1).2;omega
    ·omega
   have hei:(((i:Int)) == (ls.length:Int))=false:=by simp only [beq_eq_false_iff_ne];omega
   have hq2:decide (((redL c ((rofX c).getD i [] ++ x)).length:Int) > 15)=false:=by rw [dfE];omega
   have hq2b:decide ((15:Int) < ((redL c ((rofX c).getD i [] ++ x)).length:Int))=false:=by rw [dfE];omega
   have hn1:decide (((rkW c x:Nat):Int) < 1)=false:=by rw [dfE];omega
   refine Run.x ?_
   refine Run.k [0,4,5,6,7,9,11,12] [0,1,2] ?_
   refine Run.g fun K hK=>?_
   rw [hei]
   refine wW ?_
   refine .inr ⟨rfl,?_⟩
   refine FunA.cW hP hT (c_spec_ConcatWords (ls.getD i (0,[])).2 x (by rw [<- hsa];omega) om) ?_
   rintro rs o ⟨rfl,rfl⟩
   rw [<- hsa]
   refine wW ?_
   refine .inr ⟨rfl,?_⟩
   refine FunA.e hP hT (c_spec_l8Normal c ((rofX c).getD i [] ++ x) hc hcat hcl31) ?_
   rw [hq2b]
   refine wW ?_
   rw [hn1]
   refine wF ?_;clear hK K
   refine Run.c ?_ ?_
   ·intro h;cases h
   intro _
   subst hie
   have f4:=f3 q
   have hst:facL c (rkW c w) w=(facL c (rkW c (facN c x)) (facN c x)).map (rw2 (ys ++ [(0,facS c x)]) ++ ·):=by
    rw [hE,hk,facL_step q,show rkW c (facN c x)=k by omega,rw2_app]
    cases facL c k (facN c x)<;>simp [rw2]
   change rkW c (facN c x)+1=rkW c x at f4
   refine Run.g fun K hK=>?_
   intro l hl
   (repeat(with_reducible refine And.intro ?_ ?_);exact vc0)
   refine wE ?_;clear hK K
   rw [<- hsa]
   have hN2:(lb1 (ys ++ [(l,facS c x)])).Nodup:=by
    have:=lb_ins (ys:=[]) (i:=0) (w:=facS c x) (by simpa [lb1] using hN) (hl (.arr .lrow ys 0 true) (by simp) _ _ _ rfl) (by simp)
    simpa [lb1] using this
   refine Run.g fun K hK=>?_
   refine FunA.cW hP hT (c_spec_ConcatWords (ls.getD (facI c x) (0,[])).2 x (by rw [<- hsa];omega) om) ?_
   rintro rs o ⟨rfl,rfl⟩
   rw [<- hsa]
   refine wW ?_
   refine FunA.e hP hT (c_spec_l8Normal c ((rofX c).getD (facI c x) [] ++ x) hc hcat hcl31) ?_
   refine wE ?_;clear hK K
   refine Run.k [0,4,5,6,7,9] [0,1,8] ?_
   have hst2:facL c (rkW c w) w=(facL c (rkW c (facN c x)) (facN c x)).map (rw2 (ys ++ [(l,facS c x)]) ++ ·):=by rw [hst,rw2_app,rw2_app];rfl
   refine Run.le ?_ (ihO (redL c ((rofX c).getD (facI c x) [] ++ x),ys ++ [(l,(rofX c).getD (facI c x) [])]) ⟨⟨(red_spec hc hcat hcl31).1,q,red_red hc hcat hcl31⟩,hst2,hN2,by simp only [lenA,lenC,lenN];omega⟩ (by simp only [];omega))
   exact Le.sub (by rfl) (by simp only [AW7,simprocAttr];try simp)
  ·have hq:decide (((redL c ((rofX c).getD i [] ++ x)).length:Int)<=15)=false:=by rw [dfE];omega
   have hie:i=facI c x:=by
    rcases Nat.lt_or_ge i (facI c x)with k1 | k1
    ·exact absurd (f2 i k1).1 q
    ·omega
   have hei:(((i:Int)) == (ls.length:Int))=false:=by simp only [beq_eq_false_iff_ne];omega
   have hq2b:decide ((15:Int) < ((redL c ((rofX c).getD i [] ++ x)).length:Int))=true:=by rw [dtE];omega
   refine Run.g fun K hK=>?_
   rw [hdi]
   refine wW ?_
   refine .inr ⟨rfl,?_⟩
   refine FunA.cW hP hT (c_spec_ConcatWords (ls.getD i (0,[])).2 x (by rw [<- hsa];omega) om) ?_
   rintro rs o ⟨rfl,rfl⟩
   rw [<- hsa]
   refine wW ?_
   refine .inr ⟨rfl,?_⟩
   refine FunA.e hP hT (c_spec_l8Normal c ((rofX c).getD i [] ++ x) hc hcat hcl31) ?_
   rw [hq]
   refine wW ?_
   refine .inl (CallG.off (.sl false .int []) ?_)
   refine wW ?_
   refine .inl (CallG.off (.sl false .int []) ?_)
   refine wW ?_
   refine .inl (CallG.off (.int .i64 0) ?_)
   refine wF ?_;clear hK K
   refine Run.c ?_ ?_
   ·intro h;cases h
   intro _
   refine Run.x ?_
   refine Run.k [0,4,5,6,7,9,11,12] [0,1,2] ?_
   refine Run.g fun K hK=>?_
   rw [hei]
   refine wW ?_
   refine .inr ⟨rfl,?_⟩
   refine FunA.cW hP hT (c_spec_ConcatWords (ls.getD i (0,[])).2 x (by rw [<- hsa];omega) om) ?_
   rintro rs o ⟨rfl,rfl⟩
   rw [<- hsa]
   refine wW ?_
   refine .inr ⟨rfl,?_⟩
   refine FunA.e hP hT (c_spec_l8Normal c ((rofX c).getD i [] ++ x) hc hcat hcl31) ?_
   rw [hq2b]
   refine wF ?_;clear hK K
   subst hie
   have hst:facL c (rkW c w) w=none:=by rw [hE,hk,facL_stop q];rfl
   have hb:facB c w=false:=by unfold facB;rw [hst];simp
   refine Run.c ?_ ?_
   ·intro _
    refine Run.R ?_
    refine Run.k [4,5] [5] ?_
    refine Run.r [4,5] ?_
    exact⟨[],0,true,[.bool false],⟨(fac_off hb).symm,rfl,by rw [hb]⟩,List.nodup_nil,rfl,rfl,rfl⟩
   intro h;cases h
 intro h
 have h:rkW c x=0:=by
  refine hnz.2 ?_
  rw [dfE]at h
  exact nilZ om
 have hst:facL c (rkW c w) w=some (rw2 ys):=by rw [hE,h];simp [facL]
 have hb:facB c w=true:=by unfold facB;rw [hwb,hrb,hst];rfl
 have hX:facX c w=rw2 ys:=by unfold facX;rw [if_pos hb,hst];rfl
 refine Run.x ?_
 refine Run.R ?_
 refine Run.k [4,5] [1] ?_
 refine Run.r [4,5] ?_
 exact⟨ys,0,true,[.bool true],⟨hX.symm,rfl,by rw [hb]⟩,hN,rfl,rfl,rfl⟩
theorem c_spec_FactorReflections (c:LL) (w:LI) (hcl:c.length<=1048576) :
  FunA B 22 [.sl false (.row false) c,.sl false .int w] (fun rs o=>rs=[.own 0 0,.bool (facB c w)]/\∃ hs,hs.length=(facX c w).length/\o=[.mat hs (facX c w) 0 true]):=
 (FunA.mat (by rfl) (post:=fun rows nn rest=>rows=facX c w/\nn=true/\rest=[.bool (facB c w)]) (c_spec_FactorReflectionsR c w hcl)).mono fun rs o ⟨hs,rows,nn,rest,⟨h1,h2,h3⟩,h4,h5,h6⟩=>by subst h1 h2 h3;exact⟨h5,hs,h4,h6⟩
end Go.Proofs.YtcinngodeoidnaaGreat
