/- A group has as many elements as a parabolic subgroup times the leaders of its cosets. No program is named here. -/
import Derived.Test.YtcinngodeoidnaaGreatDoorB22
import Derived.Test.YtcinngodeoidnaaGreatDoorB13
import Derived.Test.YtcinngodeoidnaaGreatDoorB11
import Derived.Test.YtcinngodeoidnaaGreatDoorB21
set_option linter.unusedVariables false
set_option linter.unusedSimpArgs false
namespace Go.Proofs.YtcinngodeoidnaaGreatDoor
open Go Go.Aw Go.Cox
theorem noLd_iff {c:List (List Int)} {s w:List Int}:noLd c s w=true↔∀ i∈s,0≤(imageL c w).getD i.toNat 0:=by
 unfold noLd
 rw [Bool.not_eq_true',List.any_eq_false]
 constructor
 ·intro h i hi;have:=h i hi;simp only [decide_eq_true_eq]at this;omega
 ·intro h i hi;have:=h i hi;simp only [decide_eq_true_eq];omega
def cosY (c:List (List Int)) (s w:List Int):List Int:=nfL c 31 (lpL c s 31 (imageL c w)).2
theorem lpL_mem (c:List (List Int)) (s:List Int) {n:Nat} (hs:letters n s):∀(f:Nat) (v:List Int),∀ i∈(lpL c s f v).1,i∈s
 | 0,_,i,h=>by cases h
 | f+1,v,i,h=>by
  simp only [lpL]at h
  rcases firstIn_spec v s hs with⟨h1,_⟩ | ⟨h1,_,h3,_⟩
  ·rw [if_pos (by omega)]at h;cases h
  ·rw [if_neg (by omega)]at h
   rcases List.mem_cons.1 h with rfl | h
   ·exact h3
   ·exact lpL_mem c s hs f _ i h
theorem un_rel {s:List Int}:∀ {a:List Int},(∀ i∈a,i∈s)→∃ u,letters s.length u∧a=relW s u
 | [],_=>⟨[],letters_nil _,rfl⟩
 | i :: a,h=>by
  obtain⟨u,h1,h2⟩:=un_rel (s:=s) (a:=a) fun k hk=>h k (List.mem_cons_of_mem _ hk)
  obtain⟨k,hk,e⟩:=List.getElem_of_mem (h i (List.mem_cons_self ..))
  refine⟨(k:Int) :: u,letters_cons.2 ⟨⟨by omega,by omega⟩,h1⟩,?_⟩
  rw [h2]
  show i :: relW s u=s.getD (k:Int).toNat 0 :: relW s u
  rw [show((k:Int)).toNat=k from rfl,gd0 hk,e]
section
variable {c:List (List Int)} (hF:FinP c) {s:List Int} (hs:setP c.length s) (hne:s≠[])
include hs
theorem set_let:letters c.length s:=fun i hi=>by
 obtain⟨k,hk,e⟩:=List.getElem_of_mem hi
 have:=hs k hk
 rw [gd0 hk,e]at this
 exact⟨this.1,this.2.1⟩
include hF
omit hs in
theorem all_far {w:List Int} (hw:w∈allL c):∃ L,L≤30∧Far c L (imageL c w):=by
 have h:=((allL_spec hF).2 w).1 hw
 exact⟨w.length,h.2.2,h.far hF.1⟩
theorem cos_parts {w:List Int} (hw:w∈allL c):cosY c s w∈allL c∧noLd c s (cosY c s w)=true∧∃ a,letters s.length a∧actL c (relW s a) (imageL c (cosY c s w))=imageL c w:=by
 have hc:=hF.1
 have hsl:=set_let hs
 obtain⟨L,hL,hf⟩:=all_far hF hw
 obtain⟨h1,h2,M,m1,m2,m3⟩:=lpL_far hc hsl 31 L hf (by omega)
 obtain⟨n1,n2,n3⟩:=nfL_far hc 31 M m2 (by omega)
 have hi:imageL c (cosY c s w)=(lpL c s 31 (imageL c w)).2:=n3
 refine⟨?_,?_,?_⟩
 ·have:=mem_red hF n2
  have e:redL c (nfL c 31 (lpL c s 31 (imageL c w)).2)=nfL c 31 (lpL c s 31 (imageL c w)).2:=by
   unfold redL;rw [n3]
  rwa [e]at this
 ·rw [noLd_iff,hi]
  rcases firstIn_spec (lpL c s 31 (imageL c w)).2 s hsl with⟨_,h⟩ | ⟨h,_⟩
  ·exact h
  ·omega
 ·obtain⟨a,a1,a2⟩:=un_rel (lpL_mem c s hsl 31 (imageL c w))
  exact⟨a,a1,by rw [hi,← a2];exact m3⟩
theorem pos_of {y:List Int} (hy:y∈allL c) (h:noLd c s y=true):∀ k,k < s.length→0 < (rsV s (imageL c y)).getD k 0:=fun k hk=>by
 rw [rsV_get _ _ hk]
 have h1:=noLd_iff.1 h (s.getD k 0) (by rw [gd0 hk];exact List.getElem_mem _)
 have h2:=img_nz hF.1 (mem_let hF hy) (j:=(s.getD k 0).toNat) (by have:=hs k hk;omega)
 omega
include hne
theorem cos_uniq {w y a:List Int} (hw:w∈allL c) (hy:y∈allL c) (hn:noLd c s y=true) (ha:letters s.length a) (h:actL c (relW s a) (imageL c y)=imageL c w):cosY c s w=y:=by
 have hc:=hF.1
 obtain⟨h1,h2,b,h3,h4⟩:=cos_parts hF hs hw
 have e1:actL (pick c s) a (rsV s (imageL c y))=actL (pick c s) b (rsV s (imageL c (cosY c s w))):=by
  rw [← rs_act c hs (imageL_length _ _) a ha,← rs_act c hs (imageL_length _ _) b h3,h,h4]
 have e2:=par_inj hc hs hne ha h3 (rsV_len _ _) (rsV_len _ _) (pos_of hF hs hy hn) (pos_of hF hs h1 h2) e1
 have e3:=par_same hc hs hne ha h3 e2 (imageL_length c y)
 rw [h,← h4]at e3
 have e4:=congrArg (actL c (relW s b).reverse) e3
 rw [act_rev hc _ (relW_let hs h3) (imageL_length _ _),act_rev hc _ (relW_let hs h3) (imageL_length _ _)]at e4
 exact mem_ext hF h1 hy e4
theorem cos_fibre (hP:FinP (pick c s)) {y:List Int} (hy:y∈allL c) (hn:noLd c s y=true):((allL c).filter fun w=>decide (cosY c s w=y)).length=(allL (pick c s)).length:=by
 have hc:=hF.1
 have hl:=pick_len c s
 have lu:∀ u∈allL (pick c s),letters s.length u:=fun u hu=>by have:=mem_let hP hu;rwa [hl]at this
 have ly:=mem_let hF hy
 have lw:∀ u∈allL (pick c s),letters c.length (relW s u ++ y):=fun u hu=>letters_append.2 ⟨relW_let hs (lu u hu),ly⟩
 have im:∀ u∈allL (pick c s),imageL c (redL c (relW s u ++ y))=actL c (relW s u) (imageL c y):=fun u hu=>by rw [img_red hF (lw u hu),image_append]
 have n1:((allL (pick c s)).map fun u=>redL c (relW s u ++ y)).Nodup:=by
  refine nodup_on _ (fun a ha b hb e=>?_) (all_nodup hP)
  have e1:actL c (relW s a) (imageL c y)=actL c (relW s b) (imageL c y):=by rw [← im a ha,← im b hb,e]
  have e2:=congrArg (rsV s) e1
  rw [rs_act c hs (imageL_length _ _) a (lu a ha),rs_act c hs (imageL_length _ _) b (lu b hb)]at e2
  exact mem_ext hP ha hb (par_inj hc hs hne (lu a ha) (lu b hb) (rsV_len _ _) (rsV_len _ _) (pos_of hF hs hy hn) (pos_of hF hs hy hn) e2)
 have n2:((allL c).filter fun w=>decide (cosY c s w=y)).Nodup:=(all_nodup hF).sublist List.filter_sublist
 have k1:=nodup_le n1 (b:=(allL c).filter fun w=>decide (cosY c s w=y)) fun x hx=>by
  obtain⟨u,hu,rfl⟩:=List.mem_map.1 hx
  have hm:=mem_red hF (lw u hu)
  exact List.mem_filter.2 ⟨hm,decide_eq_true (cos_uniq hF hs hne hm hy hn (lu u hu) (im u hu).symm)⟩
 have k2:=nodup_le n2 (b:=(allL (pick c s)).map fun u=>redL c (relW s u ++ y)) fun w hw=>by
  obtain⟨w1,w2⟩:=List.mem_filter.1 hw
  have w2:=of_decide_eq_true w2
  obtain⟨_,_,a,a1,a2⟩:=cos_parts hF hs w1
  rw [w2]at a2
  have la:letters (pick c s).length a:=by rw [hl];exact a1
  have hu:=mem_red hP la
  refine List.mem_map.2 ⟨redL (pick c s) a,hu,?_⟩
  refine mem_ext hF (mem_red hF (lw _ hu)) w1 ?_
  rw [im _ hu,← a2]
  exact par_same hc hs hne (lu _ hu) a1 (img_red hP la) (imageL_length c y)
 rw [List.length_map]at k1 k2
 omega
theorem coset_count (hP:FinP (pick c s)):(allL c).length=((allL c).filter (noLd c s)).length*(allL (pick c s)).length:=
 fibres (cosY c s) _ ((allL c).filter (noLd c s)) (allL c) ((all_nodup hF).sublist List.filter_sublist) (fun w hw=>by
  obtain⟨h1,h2,_⟩:=cos_parts hF hs hw
  exact List.mem_filter.2 ⟨h1,h2⟩) fun y hy=>by
  obtain⟨h1,h2⟩:=List.mem_filter.1 hy
  exact cos_fibre hF hs hne hP h1 h2
end
theorem inc_ext:∀ {a b:List Int},a.Pairwise (· < ·)→b.Pairwise (· < ·)→(∀ x,x∈a↔x∈b)→a=b
 | [],[],_,_,_=>rfl
 | [],y :: b,_,_,h=>by have:=(h y).2 (List.mem_cons_self ..);cases this
 | x :: a,[],_,_,h=>by have:=(h x).1 (List.mem_cons_self ..);cases this
 | x :: a,y :: b,ha,hb,h=>by
  obtain⟨a1,a2⟩:=List.pairwise_cons.1 ha
  obtain⟨b1,b2⟩:=List.pairwise_cons.1 hb
  have e:x=y:=by
   rcases List.mem_cons.1 ((h x).1 (List.mem_cons_self ..))with e | e
   ·exact e
   ·rcases List.mem_cons.1 ((h y).2 (List.mem_cons_self ..))with e' | e'
    ·exact e'.symm
    ·have:=b1 x e;have:=a1 y e';omega
  subst e
  rw [inc_ext a2 b2 fun z=>?_]
  constructor
  ·intro hz
   rcases List.mem_cons.1 ((h z).1 (List.mem_cons_of_mem _ hz))with e | e
   ·have:=a1 z hz;omega
   ·exact e
  ·intro hz
   rcases List.mem_cons.1 ((h z).2 (List.mem_cons_of_mem _ hz))with e | e
   ·have:=b1 z hz;omega
   ·exact e
theorem setL_inc (j:Nat):(setL j).Pairwise (· < ·):=by
 unfold setL
 rw [List.pairwise_map]
 refine List.Pairwise.imp ?_ (List.pairwise_lt_range.sublist List.filter_sublist)
 intro a b h
 show(a:Int) < (b:Int)
 omega
theorem setL_mem (j:Nat) (x:Int):x∈setL j↔∃ i:Nat,i < 4∧j.testBit i=true∧x=(i:Int):=by
 unfold setL
 simp only [List.mem_map,List.mem_filter,List.mem_range]
 constructor
 ·rintro⟨i,⟨h1,h2⟩,rfl⟩;exact⟨i,h1,h2,rfl⟩
 ·rintro⟨i,h1,h2,rfl⟩;exact⟨i,⟨h1,h2⟩,rfl⟩
theorem bits4:∀ n:Fin 5,∀ p0 p1 p2 p3:Bool,(p0=true→0 < n.1)→(p1=true→1 < n.1)→(p2=true→2 < n.1)→(p3=true→3 < n.1)→∃ j:Fin 16,j.1 < 2 ^ n.1∧j.1.testBit 0=p0∧j.1.testBit 1=p1∧j.1.testBit 2=p2∧j.1.testBit 3=p3:=by decide
theorem set_setL {n:Nat} (hn:n≤4) {t:List Int} (ht:t.Pairwise (· < ·)) (hl:letters n t):∃ j,j < 2 ^ n∧t=setL j:=by
 have hb:∀ i:Nat,decide ((i:Int)∈t)=true→i < n:=fun i h=>by have:=hl _ (of_decide_eq_true h);omega
 obtain⟨j,j1,j2,j3,j4,j5⟩:=bits4 ⟨n,by omega⟩ _ _ _ _ (hb 0) (hb 1) (hb 2) (hb 3)
 refine⟨j.1,j1,inc_ext ht (setL_inc _) fun x=>?_⟩
 rw [setL_mem]
 have hj:∀ i:Nat,i < 4→j.1.testBit i=decide ((i:Int)∈t):=fun i hi=>by
  rcases(show i=0∨i=1∨i=2∨i=3 by omega)with rfl | rfl | rfl | rfl
  ·exact j2
  ·exact j3
  ·exact j4
  ·exact j5
 constructor
 ·intro hx
  have:=hl x hx
  have e:((x.toNat:Nat):Int)=x:=by omega
  exact⟨x.toNat,by omega,by rw [hj _ (by omega),e];exact decide_eq_true hx,e.symm⟩
 ·rintro⟨i,i1,i2,rfl⟩
  rw [hj i i1]at i2
  exact of_decide_eq_true i2
theorem fin_pick {c:List (List Int)} (hF:FinP c) {s:List Int} (hs:setP c.length s) (hne:s≠[]):FinP (pick c s):=by
 have hl:=pick_len c s
 have hn:=hF.1.2.1
 have hsl:=set_len hs
 refine⟨pick_cartan hF.1 hs hne,fun k k1 k2=>?_⟩
 rw [hl]at k2
 have hkl:∀ x∈setL k,0≤x∧x < s.length:=fun x hx=>by
  obtain⟨i,i1,i2,rfl⟩:=(setL_mem k x).1 hx
  refine⟨by omega,?_⟩
  have h3:i < s.length:=by
   refine Classical.byContradiction fun h=>?_
   have:=Nat.testBit_lt_two_pow (x:=k) (i:=i) (Nat.lt_of_lt_of_le k2 (Nat.pow_le_pow_right (by decide) (by omega)))
   rw [this]at i2;cases i2
  omega
 have e1:pick (pick c s) (setL k)=pick c (relW s (setL k)):=by
  unfold relW
  unfold pick
  simp only [List.map_map]
  refine List.map_congr_left fun x hx=>?_
  simp only [Function.comp]
  refine List.map_congr_left fun y hy=>?_
  have hx:=hkl x hx
  have hy:=hkl y hy
  exact pick_ent (by omega) (by omega)
 have hinc:(relW s (setL k)).Pairwise (· < ·):=by
  unfold relW
  rw [List.pairwise_map]
  refine List.Pairwise.imp_of_mem ?_ (setL_inc k)
  intro a b ha hb h
  have ha:=hkl a ha
  have hb:=hkl b hb
  exact setP_mono hs a.toNat b.toNat (by omega) (by omega)
 obtain⟨j,j1,j2⟩:=set_setL hn hinc (relW_let hs hkl)
 have hlen:(setL k).length=(setL j).length:=by rw [← j2];simp [relW]
 have j0:1≤j:=by
  refine Classical.byContradiction fun h=>?_
  have:j=0:=by omega
  subst this
  have h0:(setL k).length=0:=by rw [hlen];rfl
  have hk0:∀ i,i < 4→k.testBit i=false:=fun i hi=>by
   cases e:k.testBit i with
   | false=>rfl
   | true=>
    have:=(setL_mem k (i:Int)).2 ⟨i,hi,e,rfl⟩
    rw [List.eq_nil_of_length_eq_zero h0]at this;cases this
  have:k=0:=Nat.eq_of_testBit_eq fun i=>by
   rw [Nat.zero_testBit]
   rcases Nat.lt_or_ge i 4 with q | q
   ·exact hk0 i q
   ·exact Nat.testBit_lt_two_pow (Nat.lt_of_lt_of_le k2 (Nat.pow_le_pow_right (by decide) (by omega)))
  omega
 unfold mn
 rw [e1,j2,hlen]
 exact hF.2 j j0 j1
end Go.Proofs.YtcinngodeoidnaaGreatDoor
namespace Go.Proofs.YtcinngodeoidnaaGreatDoor
open Go Go.Aw Go.Cox
section
variable {c:List (List Int)} (hc:CartanP c)
include hc
theorem out_pos {s:List Int} {k:Nat} (hk:k < c.length) (hks:(k:Int)∉s):∀(b:List Int),letters c.length b→(∀ i∈b,i∈s)→Far c b.length (imageL c b)→0 < (imageL c b).getD k 0
 | [],_,_,_=>by
  have:(imageL c []).getD k 0=1:=by simp [imageL,actL,ones,List.getD_eq_getElem?_getD,hk]
  omega
 | j :: b,hl,hm,hf=>by
  obtain⟨hj,hb⟩:=letters_cons.1 hl
  have hi:imageL c (j :: b)=reflL c j (imageL c b):=rfl
  have hil:=imageL_length c b
  rw [hi]at hf ⊢
  obtain⟨L,l1,_,l3⟩:=Far.image hc hb
  have hnz:=l3.nz hc j.toNat (by omega)
  have hpos:0 < (imageL c b).getD j.toNat 0:=by
   refine Classical.byContradiction fun h=>?_
   obtain⟨M,m1,m2⟩:=l3.down hc hj (by omega)
   have:=hf.uniq hc m2
   simp at this;omega
  have hu:=(l3.up hc hj hpos).uniq hc hf
  have hLb:L=b.length:=by simp at hu;omega
  subst hLb
  have ih:=out_pos hk hks b hb (fun i hi=>hm i (List.mem_cons_of_mem _ hi)) l3
  rw [reflL_get c j _ k (by rw [hil];exact hk)]
  have hne:k≠j.toNat:=fun e=>hks (by have:=hm j (List.mem_cons_self ..);rw [show j=(k:Int) by omega]at this;exact this)
  have he:=(matA_cartan hc).nonpos k j.toNat hk (by omega) hne
  have he:ent c k j.toNat≤0:=he
  have:=Int.mul_nonneg (Int.le_of_lt hpos) (show 0≤-ent c k j.toNat by omega)
  rw [Int.mul_neg]at this
  omega
end
section
variable {c:List (List Int)} (hc:CartanP c) {s:List Int} (hs:setP c.length s)
include hc hs
theorem par_red (hne:s≠[]) {a:List Int} (ha:letters s.length a) {L:Nat} (hL:Far c L (imageL c (relW s a))) (h31:L≤31):∃ b,(∀ i∈b,i∈s)∧letters c.length b∧b.length=L∧imageL c b=imageL c (relW s a):=by
 have hsl:=set_let hs
 obtain⟨h1,h2,M,m1,m2,m3⟩:=lpL_far hc hsl 31 L hL h31
 have hmem:=lpL_mem c s hsl 31 (imageL c (relW s a))
 obtain⟨z,z1,z2⟩:=un_rel hmem
 have hv:(lpL c s 31 (imageL c (relW s a))).2.length=c.length:=m2.1
 have hpos:∀ k,k < s.length→0 < (rsV s (lpL c s 31 (imageL c (relW s a))).2).getD k 0:=fun k hk=>by
  rw [rsV_get _ _ hk]
  have hk2:=hs k hk
  have n1:=m2.nz hc (s.getD k 0).toNat (by omega)
  rcases firstIn_spec (lpL c s 31 (imageL c (relW s a))).2 s hsl with⟨_,h⟩ | ⟨h,_⟩
  ·have:=h (s.getD k 0) (by rw [gd0 hk];exact List.getElem_mem _)
   omega
  ·omega
 have hone:rsV s (ones c.length)=ones s.length:=by
  apply List.ext_getElem (by rw [rsV_len,ones_length])
  intro k k1 k2
  have hk:k < s.length:=by rwa [rsV_len]at k1
  have:=hs k hk
  have e:=rsV_get s (ones c.length) hk
  rw [gd0 k1]at e
  rw [e]
  simp [ones,List.getD_eq_getElem?_getD,show(s.getD k 0).toNat < c.length by omega]
  rw [List.getElem?_eq_getElem hk]
  have h7:s[k].toNat < c.length:=by rw [← gd0 hk];omega
  simp [h7]
 rw [z2]at m3
 have e1:actL (pick c s) z (rsV s (lpL c s 31 (imageL c (relW s a))).2)=actL (pick c s) a (ones s.length):=by
  rw [← rs_act c hs hv z z1,m3,← hone,← rs_act c hs (ones_length _) a ha];rfl
 have e2:=par_inj hc hs hne z1 ha (rsV_len _ _) (ones_length _) hpos (fun k hk=>by have:=vec_ones s.length k hk;exact this) e1
 have e3:=par_same hc hs hne z1 ha e2 (ones_length c.length)
 have e4:imageL c (relW s z)=imageL c (relW s a):=e3
 have e5:actL c (relW s z) (lpL c s 31 (imageL c (relW s a))).2=actL c (relW s z) (ones c.length):=by rw [m3];exact e4.symm
 have e6:=congrArg (actL c (relW s z).reverse) e5
 rw [act_rev hc _ (relW_let hs z1) hv,act_rev hc _ (relW_let hs z1) (ones_length _)]at e6
 rw [e6]at m2
 have hM:=m2.uniq hc (Far.ones c)
 refine⟨_,hmem,h1,by omega,?_⟩
 rw [z2];exact e4
theorem par_nf (hne:s≠[]):∀(f L:Nat) {a:List Int},letters s.length a→Far c L (imageL c (relW s a))→L≤f→f≤31→∀ x∈nfL c f (imageL c (relW s a)),x∈s
 | 0,_,_,_,_,_,_,x,hx=>by cases hx
 | f+1,L,a,ha,hL,hf,h31,x,hx=>by
  obtain⟨b,b1,b2,b3,b4⟩:=par_red hc hs hne ha hL (by omega)
  simp only [nfL]at hx
  rcases fst_of_far hc hL with⟨q,_⟩ | ⟨q1,q2,q3,M,q4,q5⟩
  ·rw [if_pos (by omega)]at hx;cases hx
  ·rw [if_neg (by omega)]at hx
   have hin:fstN (imageL c (relW s a))∈s:=by
    refine Classical.byContradiction fun h=>?_
    have e:(((fstN (imageL c (relW s a))).toNat:Nat):Int)=fstN (imageL c (relW s a)):=by omega
    have:=out_pos hc (s:=s) (k:=(fstN (imageL c (relW s a))).toNat) (by omega) (by rw [e];exact h) b b2 b1 (by rw [b3,b4];exact hL)
    rw [b4]at this;omega
   rcases List.mem_cons.1 hx with rfl | hx
   ·exact hin
   ·obtain⟨k,hk,e⟩:=List.getElem_of_mem hin
    have h8:reflL c (fstN (imageL c (relW s a))) (imageL c (relW s a))=imageL c (relW s ((k:Int) :: a)):=by
     show _=reflL c (s.getD (k:Int).toNat 0) (imageL c (relW s a))
     rw [show((k:Int)).toNat=k from rfl,gd0 hk,e]
    rw [h8]at hx q5
    exact par_nf hne f M (letters_cons.2 ⟨⟨by omega,by omega⟩,ha⟩) q5 (by omega) (by omega) x hx
end
end Go.Proofs.YtcinngodeoidnaaGreatDoor
namespace Go.Proofs.YtcinngodeoidnaaGreatDoor
open Go Go.Aw Go.Cox
theorem left_facts {c:List (List Int)} {s w:List Int} (h:leftB c s w=true) :
  letters c.length (leftX c s w)∧letters c.length (leftY c s w)∧(leftX c s w).length+(leftY c s w).length=(redL c w).length∧(redL c w).length≤15 ∧
  imageL c (leftX c s w ++ leftY c s w)=imageL c w∧redL c (leftX c s w)=leftX c s w∧(∀ i∈leftX c s w,i∈s)∧noLd c s (leftY c s w)=true:=by
 have h0:=h
 simp only [leftB,Bool.and_eq_true]at h0
 obtain⟨hc,hl,hw⟩:=wordB_iff.1 h0.1
 have hs:setP c.length s:=by have:=h0.2;unfold isSetB at this;simp only [Bool.and_eq_true]at this;exact setB_iff.1 this.2
 have hsl:=set_let hs
 obtain⟨r1,r2,r3,r4,r5⟩:=red_spec hc hw (by omega)
 obtain⟨h1,h2,M,m1,m2,m3⟩:=lpL_far hc hsl 31 _ r5 (by omega)
 obtain⟨n1,n2,n3⟩:=nfL_far hc 31 M m2 (by omega)
 have hmem:=lpL_mem c s hsl 31 (imageL c w)
 have eX:leftX c s w=redL c (lpL c s 31 (imageL c w)).1:=by unfold leftX;rw [if_pos h]
 have eY:leftY c s w=nfL c 31 (lpL c s 31 (imageL c w)).2:=by unfold leftY;rw [if_pos h]
 obtain⟨x1,x2,x3,x4,x5⟩:=red_spec hc h1 (by omega)
 have hima:∀ a:List Int,letters c.length a→imageL c a=imageL c (lpL c s 31 (imageL c w)).1→imageL c (a ++ nfL c 31 (lpL c s 31 (imageL c w)).2)=imageL c w:=fun a ha e=>by
  rw [image_append,n3,same_elt hc ha h1 e m2.1,m3]
 have hprod:=hima _ x1 x4
 have hlen:(redL c (lpL c s 31 (imageL c w)).1).length=(lpL c s 31 (imageL c w)).1.length:=by
  obtain⟨L,l1,_,l3⟩:=Far.image hc (letters_append.2 ⟨x1,n2⟩)
  rw [hprod]at l3
  have:=l3.uniq hc r5
  rw [List.length_append]at l1
  omega
 refine⟨by rw [eX];exact x1,by rw [eY];exact n2,by rw [eX,eY,hlen,n1];omega,by omega,by rw [eX,eY];exact hprod,by rw [eX];exact red_eq x4,?_,?_⟩
 ·rw [eX]
  by_cases hne:s=[]
  ·subst hne
   have e0:(lpL c [] 31 (imageL c w)).1=[]:=by rw [lp_stop (show firstIn (imageL c w) [] < 0 by simp [firstIn])]
   rw [e0]at hlen ⊢
   rw [List.eq_nil_of_length_eq_zero hlen]
   intro i hi;cases hi
  ·obtain⟨z,z1,z2⟩:=un_rel hmem
   rw [z2]at x5 ⊢
   exact par_nf hc hs hne 31 _ z1 x5 (by rw [← z2];omega) (by omega)
 ·rw [noLd_iff,eY,n3]
  rcases firstIn_spec (lpL c s 31 (imageL c w)).2 s hsl with⟨_,q⟩ | ⟨q,_⟩
  ·exact q
  ·omega
end Go.Proofs.YtcinngodeoidnaaGreatDoor
namespace Go.Proofs.YtcinngodeoidnaaGreatDoor
open Go Go.Aw Go.Cox
noncomputable def Lf (c:List (List Int)) (s y:List Int):List Int:=nfL c 31 (lpL c s 31 (imageL c y)).2
noncomputable def Rf (c:List (List Int)) (s y:List Int):List Int:=redL c (Lf c s y.reverse).reverse
noncomputable def Ra (c:List (List Int)) (s y:List Int):List Int:=redL c (redL c (lpL c s 31 (imageL c y.reverse)).1).reverse
section
variable {c:List (List Int)} (hc:CartanP c) {s y:List Int} (hs:setP c.length s) (hy:letters c.length y) (hl:y.length≤31)
include hc hs hy hl
theorem Lf_spec:Red c (Lf c s y)∧(Lf c s y).length≤y.length:=by
 obtain⟨k1,k2,k3,k4⟩:=lp_word hc hs hy hl
 exact⟨k3,by unfold Lf;omega⟩
theorem Lf_nf:redL c (Lf c s y)=Lf c s y:=by
 obtain⟨k1,k2,k3,k4⟩:=lp_word hc hs hy hl
 show nfL c 31 (imageL c (nfL c 31 _))=_
 rw [k4];rfl
theorem Lf_idem:Lf c s (Lf c s y)=Lf c s y:=by
 obtain⟨L,h1,h2,h3⟩:=Far.image hc hy
 obtain⟨k1,k2,M,k3,k4,k5⟩:=lpL_far hc (set_letters hs) 31 L h3 (by omega)
 obtain⟨m1,m2,m3⟩:=nfL_far hc 31 M k4 (by omega)
 show nfL c 31 (lpL c s 31 (imageL c (nfL c 31 (lpL c s 31 (imageL c y)).2))).2=_
 rw [m3,lp_stop k2];rfl
theorem Lf_eq (h:(Lf c s y).length=y.length):Lf c s y=redL c y:=by
 obtain⟨L,h1,h2,h3⟩:=Far.image hc hy
 obtain⟨k1,k2,M,k3,k4,k5⟩:=lpL_far hc (set_letters hs) 31 L h3 (by omega)
 obtain⟨m1,m2,m3⟩:=nfL_far hc 31 M k4 (by omega)
 have e:(Lf c s y).length=M:=m1
 have:(lpL c s 31 (imageL c y)).1=[]:=List.eq_nil_of_length_eq_zero (by omega)
 rw [this]at k5
 show nfL c 31 (lpL c s 31 (imageL c y)).2=nfL c 31 (imageL c y)
 exact congrArg (nfL c 31) k5
theorem Rf_spec:Red c (Rf c s y)∧(Rf c s y).length≤y.length∧redL c (Rf c s y)=Rf c s y:=by
 obtain⟨k1,k2⟩:=Lf_spec hc hs (letters_reverse hy) (by simpa using hl)
 simp at k2
 obtain⟨m1,m2,m3,m4,m5⟩:=red_spec hc (letters_reverse k1.1) (by simp;omega)
 simp at m2
 refine⟨red_Red hc (letters_reverse k1.1) (by simp;omega),by unfold Rf;omega,?_⟩
 exact red_eq m4
theorem Rf_eq (h:(Rf c s y).length=y.length):Rf c s y=redL c y:=by
 obtain⟨k1,k2⟩:=Lf_spec hc hs (letters_reverse hy) (by simpa using hl)
 simp at k2
 obtain⟨m1,m2,m3,m4,m5⟩:=red_spec hc (letters_reverse k1.1) (by simp;omega)
 simp at m2
 have h1:(redL c (Lf c s y.reverse).reverse).length=y.length:=h
 have e:=Lf_eq hc hs (letters_reverse hy) (by simpa using hl) (by simp;omega)
 unfold Rf
 rw [e]
 obtain⟨r1,r2,r3,r4,r5⟩:=red_spec hc (letters_reverse hy) (by simpa using hl)
 have:=weak_same hc (v:=[]) (y:=[]) r1 (letters_reverse hy) r4 rfl
 simpa using this
end
theorem wordB_rev (c:List (List Int)) (w:List Int):wordB c w.reverse=wordB c w:=by
 rw [Bool.eq_iff_iff,wordB_iff,wordB_iff]
 unfold WordP
 constructor
 ·rintro⟨h1,h2,h3⟩;exact⟨h1,by simpa using h2,by simpa using letters_reverse h3⟩
 ·rintro⟨h1,h2,h3⟩;exact⟨h1,by simpa using h2,letters_reverse h3⟩
theorem leftB_rev (c:List (List Int)) (s w:List Int):leftB c s w.reverse=leftB c s w:=by unfold leftB;rw [wordB_rev]
theorem leftB_iff {c:List (List Int)} {s w:List Int}:leftB c s w=true↔WordP c w∧setP c.length s:=by
 unfold leftB isSetB
 simp only [Bool.and_eq_true,wordB_iff,setB_iff,isC_iff]
 constructor
 ·rintro⟨h1,_,h3⟩;exact⟨h1,h3⟩
 ·rintro⟨h1,h3⟩;exact⟨h1,h1.1,h3⟩
noncomputable def rightX (c:List (List Int)) (s w:List Int):List Int:=if leftB c s w then Rf c s w else []
noncomputable def rightY (c:List (List Int)) (s w:List Int):List Int:=if leftB c s w then Ra c s w else []
theorem rightX_le (c:List (List Int)) (s w:List Int):(rightX c s w).length≤15:=by
 unfold rightX
 split
 ·rename_i h
  obtain⟨⟨hc,h2,h3⟩,hs⟩:=leftB_iff.1 h
  have:=(Rf_spec hc hs h3 (by omega)).2.1
  omega
 ·simp
theorem Ra_spec {c:List (List Int)} (hc:CartanP c) {s y:List Int} (hs:setP c.length s) (hy:letters c.length y) (hl:y.length≤31) :
  letters c.length (redL c (lpL c s 31 (imageL c y.reverse)).1)∧(redL c (lpL c s 31 (imageL c y.reverse)).1).length≤y.length∧(Ra c s y).length≤y.length:=by
 obtain⟨k1,k2,k3,k4⟩:=lp_word hc hs (letters_reverse hy) (by simpa using hl)
 simp at k2
 obtain⟨m1,m2,_⟩:=red_spec hc k1 (by omega)
 obtain⟨n1,n2,_⟩:=red_spec hc (letters_reverse m1) (by simp;omega)
 simp at n2
 exact⟨m1,by omega,by unfold Ra;omega⟩
theorem rightY_le (c:List (List Int)) (s w:List Int):(rightY c s w).length≤15:=by
 unfold rightY
 split
 ·rename_i h
  obtain⟨⟨hc,h2,h3⟩,hs⟩:=leftB_iff.1 h
  have:=(Ra_spec hc hs h3 (by omega)).2.2
  omega
 ·simp
theorem c_impl_rightParts (c:List (List Int)) (s w:List Int) (hc:CartanP c) (hs:setP c.length s) (hw:letters c.length w) (hl:w.length≤31) :
  FunA B 68 [.sl false (.row false) c,.sl false .int s,.sl false .int w] (fun rs o=>rs=[.own 0 0,.own 1 0]∧o=[.arr .int (Rf c s w) 0 true,.arr .int (Ra c s w) 0 true]):=by
 obtain⟨k1,k2⟩:=Lf_spec hc hs (letters_reverse hw) (by simpa using hl)
 simp at k2
 obtain⟨n1,n2,n3⟩:=Ra_spec hc hs hw hl
 refine FunA.walk B_ok (fn:=Tryz.f68) (fun vs w=>Tryz.call68 vs w) Tryz.func68 rfl (by rw [Tryz.ntmps68];simp) (fun C hC hP hT hΓ hbt hfn hpin hfin=>?_);have hX:=BX;rw [← hΓ,← hbt.1,← hbt.2.1,← hbt.2.2.1]at hX;rw [hT]at hX;rw [Tryz.ntmps68];simp only [AW7,simprocAttr,hX]
 refine Run.R ?_
 refine Run.nq ?_;refine Run.regionW hC (fun K hK=>?_);refine wW ?_
 refine FunA.cW hP hT (c_impl_ReverseWord w (by omega)) ?_
 rintro rs o ⟨rfl,rfl⟩
 refine wW ?_
 refine FunA.cW hP hT (c_impl_leftParts c s w.reverse hc hs (letters_reverse hw) (by simpa using hl)) ?_
 rintro rs o ⟨rfl,rfl⟩
 refine wW ?_
 refine wE ?_;clear hK K
 rw [show nfL c 31 (lpL c s 31 (imageL c w.reverse)).2=Lf c s w.reverse from rfl]
 refine Run.nq ?_;refine Run.regionW hC (fun K hK=>?_);refine wW ?_
 refine FunA.cW hP hT (c_impl_ReverseWord (Lf c s w.reverse) (by omega)) ?_
 rintro rs o ⟨rfl,rfl⟩
 refine wW ?_
 refine FunA.cW hP hT (c_impl_reduced c (Lf c s w.reverse).reverse hc (letters_reverse k1.1) (by simp;omega)) ?_
 rintro rs o ⟨rfl,rfl⟩
 refine wW ?_
 refine FunA.cW hP hT (c_impl_ReverseWord (redL c (lpL c s 31 (imageL c w.reverse)).1) (by omega)) ?_
 rintro rs o ⟨rfl,rfl⟩
 refine wW ?_
 refine FunA.cW hP hT (c_impl_reduced c (redL c (lpL c s 31 (imageL c w.reverse)).1).reverse hc (letters_reverse n1) (by simp;omega)) ?_
 rintro rs o ⟨rfl,rfl⟩
 refine wW ?_
 refine wE ?_;clear hK K
 refine Run.le (Le.re (obs':=[.arr .int (Rf c s w) 0 true,.arr .int (Ra c s w) 0 true]) hpin [4,6] [(6,true,.own 0 0),(7,true,.own 1 0)] rfl (by simp [leOs,leO_arr,oAt,Rf,Ra]) (by refine⟨⟨_,rfl,?_⟩,⟨_,rfl,?_⟩,trivial⟩<;>simp [leAV,oAt,genO,Rf,Ra])) ?_;simp only [frV_cons,frV_nil]
 refine Run.rW [6,7] (hfin _ _ rfl rfl ?_)
 exact⟨rfl,rfl⟩
theorem c_impl_RightParts (c:List (List Int)) (s w:List Int) (hcl:c.length≤1048576) (_:w.length≤1048576) :
  FunA B 18 [.sl false (.row false) c,.sl false .int s,.sl false .int w] (fun rs o=>rs=[.own 0 0,.own 1 0,.bool (leftB c s w)]∧o=[.arr .int (rightX c s w) 0 true,.arr .int (rightY c s w) 0 true]):=by
 refine FunA.walk B_ok (fn:=Tryz.f18) (fun vs w=>Tryz.call18 vs w) Tryz.func18 rfl (by rw [Tryz.ntmps18];simp) (fun C hC hP hT hΓ hbt hfn hpin hfin=>?_);have hX:=BX;rw [← hΓ,← hbt.1,← hbt.2.1,← hbt.2.2.1]at hX;rw [hT]at hX;rw [Tryz.ntmps18];simp only [AW7,simprocAttr,hX]
 refine Run.R ?_
 refine Run.nq ?_;refine Run.regionW hC (fun K hK=>?_);refine wW ?_
 refine FunA.cW hP hT (c_impl_IsWord c w) ?_
 rintro rs o ⟨rfl,rfl⟩
 refine wW ?_
 refine .inl (FunA.callG hP hT (c_impl_IsSet c s hcl) (fun _=>rfl) (fun _=>by simp only [AW7,simprocAttr]) ?_)
 refine wW ?_
 refine wE ?_;clear hK K
 refine Run.nq ?_;refine Run.cW ?_ ?_
 ·intro h
  have h:leftB c s w=false:=by
   revert h
   cases hw:wordB c w<;>cases hi:isSetB c s<;>simp [leftB,hw,hi]
  refine Run.R ?_
  refine Run.rW [6,7,8] (hfin _ _ rfl rfl ?_)
  simp [rightX,rightY,h]
 ·intro h
  have hb:leftB c s w=true:=by
   revert h
   cases hw:wordB c w<;>cases hi:isSetB c s<;>simp [leftB,hw,hi]
  obtain⟨⟨hc,h2,h3⟩,hs⟩:=leftB_iff.1 hb
  refine Run.nq ?_;refine Run.regionW hC (fun K hK=>?_);refine wW ?_
  refine FunA.cW hP hT (c_impl_rightParts c s w hc hs h3 (by omega)) ?_
  rintro rs o ⟨rfl,rfl⟩
  refine wW ?_
  refine wE ?_;clear hK K
  refine Run.R ?_
  refine Run.rW [6,7,8] (hfin _ _ rfl rfl ?_)
  simp [rightX,rightY,hb]
theorem c_spec_RightParts (c:List (List Int)) (s w:List Int) (hcl:c.length≤1048576) (hwl:w.length≤1048576) :
  FunA B 19 [.sl false (.row false) c,.sl false .int s,.sl false .int w] (fun rs o=>rs=[.own 0 0,.own 1 0,.bool (leftB c s w)]∧o=[.arr .int (rightX c s w) 0 true,.arr .int (rightY c s w) 0 true]):=by
 refine FunA.walk B_ok (fn:=Tryz.f19) (fun vs w=>Tryz.call19 vs w) Tryz.func19 rfl (by rw [Tryz.ntmps19];simp) (fun C hC hP hT hΓ hbt hfn hpin hfin=>?_);have hX:=BX;rw [← hΓ,← hbt.1,← hbt.2.1,← hbt.2.2.1]at hX;rw [hT]at hX;rw [Tryz.ntmps19];simp only [AW7,simprocAttr,hX]
 refine Run.R ?_
 refine Run.nq ?_;refine Run.regionW hC (fun K hK=>?_);refine wW ?_
 refine FunA.cW hP hT (c_spec_ReverseWord w hwl) ?_
 rintro rs o ⟨rfl,rfl⟩
 refine wW ?_
 refine FunA.cW hP hT (c_spec_LeftParts c s w.reverse hcl) ?_
 rintro rs o ⟨rfl,rfl⟩
 rw [leftB_rev]
 refine wW ?_
 refine wE ?_;clear hK K
 refine Run.R ?_
 refine Run.nq ?_;refine Run.cW ?_ ?_
 ·intro h
  have h:leftB c s w=false:=by simpa using h
  refine Run.R ?_
  refine Run.le (Le.re (obs':=[.arr .int [] 0 true,.arr .int [] 0 true]) hpin [3,4] [(6,true,.own 0 0),(7,true,.own 1 0),(8,true,.bool false)] rfl (by simp [leOs,leO_arr,oAt]) (by refine⟨⟨_,rfl,?_⟩,⟨_,rfl,?_⟩,⟨_,rfl,?_⟩,trivial⟩<;>simp [leAV,oAt,genO])) ?_;simp only [frV_cons,frV_nil]
  refine Run.rW [6,7,8] (hfin _ _ rfl rfl ?_)
  simp [rightX,rightY,h]
 ·intro h
  have hb:leftB c s w=true:=by simpa using h
  obtain⟨⟨hc,h2,h3⟩,hs⟩:=leftB_iff.1 hb
  obtain⟨k1,k2⟩:=Lf_spec hc hs (letters_reverse h3) (by simp;omega)
  simp at k2
  obtain⟨n1,n2,n3⟩:=Ra_spec hc hs h3 (by omega)
  have eX:leftX c s w.reverse=redL c (lpL c s 31 (imageL c w.reverse)).1:=by unfold leftX;rw [leftB_rev,if_pos hb]
  have eY:leftY c s w.reverse=Lf c s w.reverse:=by unfold leftY;rw [leftB_rev,if_pos hb];rfl
  rw [eX,eY]
  refine Run.nq ?_;refine Run.regionW hC (fun K hK=>?_);refine wW ?_
  refine FunA.cW hP hT (c_spec_ReverseWord (Lf c s w.reverse) (by omega)) ?_
  rintro rs o ⟨rfl,rfl⟩
  refine wW ?_
  refine FunA.cW hP hT (c_spec_l8Normal c (Lf c s w.reverse).reverse hc (letters_reverse k1.1) (by simp;omega)) ?_
  rintro rs o ⟨rfl,rfl⟩
  refine wW ?_
  refine FunA.cW hP hT (c_spec_ReverseWord (redL c (lpL c s 31 (imageL c w.reverse)).1) (by omega)) ?_
  rintro rs o ⟨rfl,rfl⟩
  refine wW ?_
  refine FunA.cW hP hT (c_spec_l8Normal c (redL c (lpL c s 31 (imageL c w.reverse)).1).reverse hc (letters_reverse n1) (by simp;omega)) ?_
  rintro rs o ⟨rfl,rfl⟩
  refine wW ?_
  refine wE ?_;clear hK K
  refine Run.le (Le.re (obs':=[.arr .int (rightX c s w) 0 true,.arr .int (rightY c s w) 0 true]) hpin [4,6] [(6,true,.own 0 0),(7,true,.own 1 0),(8,true,.bool true)] rfl (by simp [leOs,leO_arr,oAt,rightX,rightY,hb,Rf,Ra]) (by refine⟨⟨_,rfl,?_⟩,⟨_,rfl,?_⟩,⟨_,rfl,?_⟩,trivial⟩<;>simp [leAV,oAt,genO,rightX,rightY,hb,Rf,Ra])) ?_;simp only [frV_cons,frV_nil]
  refine Run.rW [6,7,8] (hfin _ _ rfl rfl ?_)
  simp [hb]
end Go.Proofs.YtcinngodeoidnaaGreatDoor
namespace Go.Proofs.YtcinngodeoidnaaGreatDoor
open Go Go.Aw Go.Cox
theorem right_facts {c:List (List Int)} {s w:List Int} (h:leftB c s w=true) :
  letters c.length (rightX c s w)∧letters c.length (rightY c s w)∧(rightX c s w ++ rightY c s w).length≤15∧imageL c (rightX c s w ++ rightY c s w)=imageL c w:=by
 have hr:leftB c s w.reverse=true:=by rw [leftB_rev];exact h
 obtain⟨⟨hc,hl,hw⟩,hs⟩:=leftB_iff.1 h
 obtain⟨a1,a2,a3,a4,a5,a6,_,_⟩:=left_facts hr
 have eX:leftX c s w.reverse=redL c (lpL c s 31 (imageL c w.reverse)).1:=by unfold leftX;rw [if_pos hr]
 have eY:leftY c s w.reverse=Lf c s w.reverse:=by unfold leftY;rw [if_pos hr];rfl
 have e1:rightX c s w=redL c (leftY c s w.reverse).reverse:=by unfold rightX;rw [if_pos h,eY];rfl
 have e2:rightY c s w=redL c (leftX c s w.reverse).reverse:=by unfold rightY;rw [if_pos h,eX];rfl
 obtain⟨x1,x2,x3,x4,_⟩:=red_spec hc (letters_reverse a2) (by simp;omega)
 obtain⟨y1,y2,y3,y4,_⟩:=red_spec hc (letters_reverse a1) (by simp;omega)
 rw [List.length_reverse]at x2 y2
 rw [e1,e2]
 refine⟨x1,y1,by rw [List.length_append];omega,?_⟩
 rw [image_append,y4,same_elt hc x1 (letters_reverse a2) x4 (imageL_length _ _),← image_append,← List.reverse_append]
 have:=rev_same hc (letters_append.2 ⟨a1,a2⟩) (letters_reverse hw) a5 (ones_length c.length)
 rw [List.reverse_reverse]at this
 exact this
end Go.Proofs.YtcinngodeoidnaaGreatDoor
namespace Go.Proofs.YtcinngodeoidnaaGreatDoor
open Go Go.Aw Go.Cox
theorem c_impl_CosetLeaders1 (v:List Int) (i:Int) (hi:0≤i∧i < v.length):FunA B 76 [.int .i64 i,.relt true (.row true) v] (fun rs o=>rs=[.bool (decide (v.getD i.toNat 0 < 0))]∧o=[]):=by
 refine FunA.walk B_ok (fn:=Tryz.f76) (fun vs w=>Tryz.call76 vs w) Tryz.func76 rfl (by rw [Tryz.ntmps76];simp) (fun C hC hP hT hΓ hbt hfn hpin hfin=>?_);have hX:=BX;rw [← hΓ,← hbt.1,← hbt.2.1,← hbt.2.2.1]at hX;rw [hT]at hX;rw [Tryz.ntmps76];simp only [AW7,simprocAttr,hX]
 refine Run.R ?_
 refine Run.R ?_
 refine Run.rW [3] (hfin _ _ rfl rfl ?_)
 exact⟨rfl,rfl⟩
def ixF (p:Int→Bool) (s:List Int):Int:=if s.any p then(s.findIdx p:Int)else -1
theorem ixF_hit {p:Int→Bool} {s:List Int} {k:Nat} (h:k < s.length) (hp:p (s.getD k 0)=true) (hpre:∀ j,j < k→p (s.getD j 0)=false):ixF p s=k:=by
 have hg:s[k]=s.getD k 0:=by simp [List.getD_eq_getElem?_getD,h]
 unfold ixF
 rw [if_pos (List.any_eq_true.2 ⟨s[k],List.getElem_mem h,by rw [hg];exact hp⟩)]
 congr 1
 refine(List.findIdx_eq h).2 ⟨by rw [hg];exact hp,fun j hj=>?_⟩
 have:=hpre j hj
 rwa [List.getD_eq_getElem?_getD,List.getElem?_eq_getElem (by omega),Option.getD_some]at this
theorem any_noneF {p:Int→Bool} {s:List Int} (hpre:∀ j,j < s.length→p (s.getD j 0)=false):s.any p=false:=by
 rw [List.any_eq_false]
 intro x hx
 obtain⟨j,hj,rfl⟩:=List.getElem_of_mem hx
 have:=hpre j hj
 rw [List.getD_eq_getElem?_getD,List.getElem?_eq_getElem hj,Option.getD_some]at this
 simpa using this
theorem c_IndexFunc_lead (v s:List Int) (hs:∀ i∈s,0≤i∧i < v.length) (hl:s.length≤9223372036854775807):FunA B 127 [.sl false .int s,.clo 76 (.row true) v] (fun rs o=>rs=[.int .i64 (ixF (fun i=>decide (v.getD i.toNat 0 < 0)) s)]∧o=[]):=by
 refine FunA.walk B_ok (fn:=Tryz.f127) (fun vs w=>Tryz.call127 vs w) Tryz.func127 rfl (by rw [Tryz.ntmps127];simp) (fun C hC hP hT hΓ hbt hfn hpin hfin=>?_);have hX:=BX;rw [← hΓ,← hbt.1,← hbt.2.1,← hbt.2.2.1]at hX;rw [hT]at hX;rw [Tryz.ntmps127];simp only [AW7,simprocAttr,hX]
 refine Run.R ?_
 refine Run.R ?_
 refine Run.reK hpin [0,1,7,8] [] (by decide) (by simp) ?_;simp only [AR,AW7,simprocAttr]
 refine Run.loopI (X:=Nat) (fun k=>⟨19,[(0,true,.v (.sl false .int (s))),(1,true,.v (.clo 76 (.row true) v)),(7,true,.v (.int .i64 ((s.length:Nat)))),(8,true,.v (.int .i64 (k)))],[]⟩) (fun k=>k≤s.length∧∀ j,j < k→(fun i:Int=>decide (v.getD i.toNat 0 < 0)) (s.getD j 0)=false) (fun k=>s.length - k) (0) (⟨Nat.zero_le _,fun j hj=>by omega⟩) ?_ ?_
 ·exact Le.sub (by first | rfl | simp) (by simp only [AW7,simprocAttr,hX];try simp<;>try(first | rfl | exact⟨rfl,rfl⟩ | exact⟨rfl,rfl,rfl⟩))
 rintro k ⟨hk,hpre⟩ ih
 try simp only []
 refine Run.R ?_
 refine Run.nq ?_;refine Run.cW ?_ ?_
 rotate_left
 ·intro h
  have h:k=s.length:=by rw [decide_eq_false_iff_not]at h;omega
  subst h
  refine Run.exit rfl ?_;refine Run.nq ?_
  refine Run.R ?_
  refine Run.rW [4] (hfin _ _ rfl rfl ?_)
  refine⟨?_,rfl⟩
  unfold ixF
  rw [any_noneF hpre];rfl
 intro h
 have h:k < s.length:=by rw [decide_eq_true_eq]at h;omega
 have hm:s.getD k 0∈s:=by rw [List.getD_eq_getElem?_getD,List.getElem?_eq_getElem h];exact List.getElem_mem _
 have hx:=hs _ hm
 have hhit:=ixF_hit (p:=fun i:Int=>decide (v.getD i.toNat 0 < 0)) h
 refine Run.R ?_
 refine Run.nq ?_;refine Run.regionW hC (fun K hK=>?_);simp only [AW7,simprocAttr,hX]
 refine⟨⟨by omega,by omega⟩,?_⟩
 refine(show Go.Aw.inN 19 (some 16)∧True∧ACall _ _ 76 _ _ from⟨?_,trivial,?_⟩)
 ·simp only [AW7,simprocAttr,hX]
 refine FunA.cW hP hT (c_impl_CosetLeaders1 v (s.getD k 0) hx) ?_
 rintro rs o ⟨rfl,rfl⟩
 refine wW ?_
 refine wE ?_;clear hK K
 refine Run.nq ?_;refine Run.cW ?_ ?_
 ·intro h2
  refine Run.R ?_
  refine Run.rW [4] (hfin _ _ rfl rfl ?_)
  exact⟨by rw [hhit h2 hpre],rfl⟩
 ·intro h2
  refine Run.RW ?_
  refine Run.reK hpin [0,1,7,8] [] (by decide) (by simp) ?_;simp only [AR,AW7,simprocAttr]
  refine Run.le ?_ (ih (k+1) (⟨h,fun j hj=>(by
   by_cases e:j=k
   ·subst e;exact h2
   ·exact hpre j (by omega))⟩) (by(try simp only [List.length_append,List.length_cons,List.length_nil]);omega))
  exact Le.sub (by rfl) (by simp only [AW7,simprocAttr];try simp)
theorem c_ContainsFunc_lead (v s:List Int) (hs:∀ i∈s,0≤i∧i < v.length) (hl:s.length≤9223372036854775807):FunA B 75 [.sl false .int s,.clo 76 (.row true) v] (fun rs o=>rs=[.bool (s.any fun i=>decide (v.getD i.toNat 0 < 0))]∧o=[]):=by
 refine FunA.walk B_ok (fn:=Tryz.f75) (fun vs w=>Tryz.call75 vs w) Tryz.func75 rfl (by rw [Tryz.ntmps75];simp) (fun C hC hP hT hΓ hbt hfn hpin hfin=>?_);have hX:=BX;rw [← hΓ,← hbt.1,← hbt.2.1,← hbt.2.2.1]at hX;rw [hT]at hX;rw [Tryz.ntmps75];simp only [AW7,simprocAttr,hX]
 refine Run.R ?_
 refine Run.nq ?_;refine Run.regionW hC (fun K hK=>?_);refine wW ?_
 refine FunA.cW hP hT (c_IndexFunc_lead v s hs hl) ?_
 rintro rs o ⟨rfl,rfl⟩
 refine wW ?_
 refine wE ?_;clear hK K
 refine Run.rW [4] (hfin _ _ rfl rfl ?_)
 refine⟨?_,rfl⟩
 unfold ixF
 cases s.any fun i=>decide (v.getD i.toNat 0 < 0)
 ·rfl
 ·rw [if_pos rfl,decide_eq_true (by omega)]
theorem c_imageF (c:List (List Int)) (w:List Int) (hc:CartanP c) (hw:letters c.length w) (hl:w.length≤31):FunA B 74 [.sl false (.row false) c,.sl false .int w] (fun rs o=>∃ xs,xs=imageL c w∧rs=[.sl true .int xs]∧o=[]):=
 FunA.frozenX (e:=.int) (P:=fun xs:List Int=>xs=imageL c w) rfl ((c_impl_image c w hc hw hl).mono fun rs o ⟨h1,h2⟩=>⟨h1,_,rfl,h2⟩)
set_option maxHeartbeats 1000000 in
theorem c_impl_CosetLeadersR (c:List (List Int)) (s:List Int) (hcl:c.length≤1048576):FunA BJ 21 [.sl false (.row false) c,.sl false .int s] (fun rs o=>∃ ys g nn rest,(rw2 ys=clX c s∧nn=true∧rest=[.bool (clB c s)])∧(lb1 ys).Nodup∧rest.all flatAV=true∧rs=.own 0 g :: rest∧o=[.arr .lrow ys g nn]):=by
 refine FunA.walk BJ_ok (fn:=Tryz.f21) (fun vs w=>Tryz.call21 vs w) Tryz.func21 rfl (by rw [Tryz.ntmps21];simp) (fun C hC hP hT hΓ hbt hfn hpin hfin=>?_);haveI hDJ:DrLe BJ C:=⟨fun h=>by rw [hbt.2.2.2]at h;cases h⟩;have hPJ:=hP;have hTJ:=hT;replace hP:B.P=C.P:=hP;replace hT:B.tid=C.tid:=hT;have hX:=BXJ;rw [← hΓ,← hbt.1,← hbt.2.1,← hbt.2.2.1]at hX;rw [hTJ]at hX;rw [Tryz.ntmps21];simp only [AW7,simprocAttr,hX]
 refine Run.len 1 rfl fun hlens=>?_
 refine Run.R ?_
 cases he:elsB c 200 with
 | false=>
  have hb:clB c s=false:=by unfold clB;rw [he];rfl
  refine Run.nq ?_;refine Run.regionW hC (fun K hK=>?_);refine wW ?_
  refine FunA.cW hPJ hTJ (c_impl_ElementsOf0 c he) ?_
  rintro rs o ⟨rfl,rfl⟩
  refine wW ?_
  refine wE ?_;clear hK K
  refine Run.nq ?_;refine Run.regionW hC (fun K hK=>?_);refine wW ?_
  refine .inl (CallG.off (.bool false) ?_)
  refine wW ?_
  refine wE ?_;clear hK K
  refine Run.nq ?_;refine Run.cW ?_ ?_
  rotate_left
  ·intro h;cases h
  intro _
  refine Run.R ?_
  refine Run.reK hpin [4,5] [1] (by decide) (by simp) ?_;simp only [AR,AW7,simprocAttr]
  refine Run.rW [4,5] (hfin _ _ rfl rfl ?_)
  exact⟨[],0,true,[.bool (clB c s)],⟨by unfold clX;rw [hb];rfl,rfl,rfl⟩,by simp [lb1],rfl,by rw [hb],rfl⟩
 | true=>
  obtain⟨hF,_,hl200,_⟩:=elsB_fin he (by omega)
  have hc:=hF.1
  have hn:=hc.2.1
  have hall:=allL_spec hF
  have hsz:=els_sizeI he
  refine Run.nq ?_;refine Run.regionW hC (fun K hK=>?_);refine wW ?_
  refine FunA.cW hPJ hTJ (c_impl_ElementsOf1 c he) ?_
  rintro rs o ⟨zs,⟨hz,hzn⟩,rfl,rfl⟩
  have hzl:zs.length=(allL c).length:=by rw [← hz,rwl]
  refine wW ?_
  refine wE ?_;clear hK K
  refine Run.nq ?_;refine Run.regionW hC (fun K hK=>?_);refine wW ?_
  refine .inl (FunA.callG hP hT (c_impl_IsSet c s hcl) (fun _=>rfl) (fun _=>by simp only [AW7,simprocAttr]) ?_)
  refine wW ?_
  refine wE ?_;clear hK K
  refine Run.nq ?_;refine Run.cW ?_ ?_
  ·intro h
   have hi:isSetB c s=false:=by simpa using h
   have hb:clB c s=false:=by unfold clB;rw [hi,Bool.and_false]
   refine Run.R ?_
   refine Run.reK hpin [4,5] [0] (by decide) (by simp) ?_;simp only [AR,AW7,simprocAttr]
   refine Run.rW [4,5] (hfin _ _ rfl rfl ?_)
   exact⟨[],0,true,[.bool (clB c s)],⟨by unfold clX;rw [hb];rfl,rfl,rfl⟩,by simp [lb1],rfl,by rw [hb],rfl⟩
  intro h
  have hi:isSetB c s=true:=by simpa using h
  have hb:clB c s=true:=by unfold clB;rw [he,hi];rfl
  have hsl:=isSet_letters hi
  refine Run.R ?_
  refine Run.R ?_
  refine Run.reK hpin [0,1,8,27,28,29] [0] (by decide) (by simp) ?_;simp only [AR,AW7,simprocAttr]
  refine Run.loopI (X:=Nat) (fun k=>⟨46,[(0,true,.v (.sl false (.row false) (c))),(1,true,.v (.sl false .int (s))),(8,true,.v (.own 0 0)),(27,true,.v (.sl true .lrow (zs))),(28,true,.v (.int .i64 ((zs.length:Nat)))),(29,true,.v (.int .i64 (k)))],[.arr .lrow (((zs.take k).filter fun p=>noLd c s p.2)) 0 true]⟩) (fun k=>k≤zs.length) (fun k=>zs.length - k) (0) (Nat.zero_le _) ?_ ?_
  ·exact Le.sub (by first | rfl | simp) (by simp only [AW7,simprocAttr,hX];try simp<;>try(first | rfl | exact⟨rfl,rfl⟩ | exact⟨rfl,rfl,rfl⟩))
  rintro k hk ih
  try simp only []
  refine Run.R ?_
  refine Run.nq ?_;refine Run.cW ?_ ?_
  rotate_left
  ·intro h
   have h:k=zs.length:=by rw [decide_eq_false_iff_not]at h;omega
   refine Run.exit rfl ?_;refine Run.nq ?_
   refine Run.R ?_
   refine Run.reK hpin [4,5] [0] (by decide) (by simp) ?_;simp only [AR,AW7,simprocAttr]
   refine Run.rW [4,5] (hfin _ _ rfl rfl ?_)
   refine⟨_,0,true,[.bool (clB c s)],⟨?_,rfl,rfl⟩,filt_nodup _ hzn _,rfl,by rw [hb],rfl⟩
   rw [h,List.take_length,filt_rows,hz]
   unfold clX;rw [hb];rfl
  intro h
  have h:k < zs.length:=by rw [decide_eq_true_eq]at h;omega
  have hst:=filt_step (fun p:Nat×List Int=>noLd c s p.2) (0,[]) zs k h
  have hfl:=filt_len (fun p:Nat×List Int=>noLd c s p.2) zs k
  generalize (zs.take k).filter (fun p:Nat×List Int=>noLd c s p.2)=out at hst hfl ⊢
  have hob:(out.length+1)*24≤140737488355328:=by omega
  have hgw:=rwg zs k
  have hwm:(rw2 zs).getD k []∈allL c:=by rw [← hz];exact mem_rwk.2 ⟨k,h,rfl⟩
  have hnf:=(hall.2 _).1 hwm
  rw [hgw]at hst
  refine Run.R ?_
  try simp only [hgw]
  generalize (rw2 zs).getD k []=w at *
  have hvl:(imageL c w).length=c.length:=imageL_length c w
  refine Run.nq ?_;refine Run.regionW hC (fun K hK=>?_);refine wW ?_
  refine FunA.cW hP hT (c_imageF c w hc hnf.1 (by have:=hnf.2.2;omega)) ?_
  rintro rs o ⟨v,rfl,rfl,rfl⟩
  refine wW ?_
  refine wE ?_;clear hK K
  refine Run.letgoR 1 11 rfl rfl ?_
  refine Run.nq ?_;refine Run.regionW hC (fun K hK=>?_);refine wW ?_
  refine FunA.cW hP hT (c_ContainsFunc_lead (imageL c w) s (fun i hi=>by have:=hsl i hi;omega) (by omega)) ?_
  rintro rs o ⟨rfl,rfl⟩
  refine wW ?_
  refine wE ?_;clear hK K
  have hnl:(!s.any fun i=>decide ((imageL c w).getD i.toNat 0 < 0))=noLd c s w:=rfl
  rw [hnl]
  refine Run.nq ?_;refine Run.cW ?_ ?_
  ·intro h3
   rw [h3,if_pos rfl,show zs.getD k (0,[])=((zs.getD k (0,[])).1,w)from Prod.ext rfl hgw]at hst
   refine Run.R ?_
   refine Run.RW ?_
   refine Run.reK hpin [0,1,8,27,28,29] [0] (by decide) (by simp) ?_;simp only [AR,AW7,simprocAttr]
   refine Run.le ?_ (ih (k+1) (h) (by(try simp only [List.length_append,List.length_cons,List.length_nil]);omega))
   exact Le.sub (by first | rfl | (simp only [hst];done) | (rw [hst];rfl)) (by simp only [AW7,simprocAttr];try simp)
  ·intro h3
   rw [h3,if_neg (by decide),List.append_nil]at hst
   refine Run.RW ?_
   refine Run.reK hpin [0,1,8,27,28,29] [0] (by decide) (by simp) ?_;simp only [AR,AW7,simprocAttr]
   refine Run.le ?_ (ih (k+1) (h) (by(try simp only [List.length_append,List.length_cons,List.length_nil]);omega))
   exact Le.sub (by first | rfl | (simp only [hst];done) | (rw [hst];rfl)) (by simp only [AW7,simprocAttr];try simp)
set_option maxHeartbeats 1000000 in
theorem c_spec_CosetLeadersR (c:List (List Int)) (s:List Int) (hcl:c.length≤1048576):FunA B 22 [.sl false (.row false) c,.sl false .int s] (fun rs o=>∃ ys g nn rest,(rw2 ys=clX c s∧nn=true∧rest=[.bool (clB c s)])∧(lb1 ys).Nodup∧rest.all flatAV=true∧rs=.own 0 g :: rest∧o=[.arr .lrow ys g nn]):=by
 refine FunA.walk B_ok (fn:=Tryz.f22) (fun vs w=>Tryz.call22 vs w) Tryz.func22 rfl (by rw [Tryz.ntmps22];simp) (fun C hC hP hT hΓ hbt hfn hpin hfin=>?_);have hX:=BX;rw [← hΓ,← hbt.1,← hbt.2.1,← hbt.2.2.1]at hX;rw [hT]at hX;rw [Tryz.ntmps22];simp only [AW7,simprocAttr,hX]
 refine Run.R ?_
 refine Run.R ?_
 refine Run.nq ?_;refine Run.regionW hC (fun K hK=>?_);refine wW ?_
 refine FunA.cW hP hT (c_spec_ElementsOf c) ?_
 rintro rs o ⟨rfl,zs,⟨hz,hzn⟩,rfl⟩
 refine wW ?_
 refine wE ?_;clear hK K
 cases he:elsB c 200 with
 | false=>
  have hb:clB c s=false:=by unfold clB;rw [he];rfl
  refine Run.nq ?_;refine Run.regionW hC (fun K hK=>?_);refine wW ?_
  refine .inl (CallG.off (.bool false) ?_)
  refine wW ?_
  refine wE ?_;clear hK K
  refine Run.nq ?_;refine Run.cW ?_ ?_
  rotate_left
  ·intro h;cases h
  intro _
  refine Run.R ?_
  refine Run.reK hpin [4,5] [0] (by decide) (by simp) ?_;simp only [AR,AW7,simprocAttr]
  refine Run.rW [4,5] (hfin _ _ rfl rfl ?_)
  exact⟨[],0,true,[.bool (clB c s)],⟨by unfold clX;rw [hb];rfl,rfl,rfl⟩,by simp [lb1],rfl,by rw [hb],rfl⟩
 | true=>
  rw [he,if_pos rfl]at hz
  obtain⟨hF,_,hl200,_⟩:=elsB_fin he (by omega)
  have hc:=hF.1
  have hn:=hc.2.1
  have hall:=allL_spec hF
  have hsz:=els_sizeI he
  have hzl:zs.length=(allL c).length:=by rw [← hz,rwl]
  refine Run.nq ?_;refine Run.regionW hC (fun K hK=>?_);refine wW ?_
  refine .inl (FunA.callG hP hT (c_spec_l3Set c s hcl) (fun _=>rfl) (fun _=>by simp only [AW7,simprocAttr]) ?_)
  refine wW ?_
  refine wE ?_;clear hK K
  refine Run.nq ?_;refine Run.cW ?_ ?_
  ·intro h
   have hi:isSetB c s=false:=by simpa using h
   have hb:clB c s=false:=by unfold clB;rw [hi,Bool.and_false]
   refine Run.R ?_
   refine Run.reK hpin [4,5] [0] (by decide) (by simp) ?_;simp only [AR,AW7,simprocAttr]
   refine Run.rW [4,5] (hfin _ _ rfl rfl ?_)
   exact⟨[],0,true,[.bool (clB c s)],⟨by unfold clX;rw [hb];rfl,rfl,rfl⟩,by simp [lb1],rfl,by rw [hb],rfl⟩
  intro h
  have hi:isSetB c s=true:=by simpa using h
  have hb:clB c s=true:=by unfold clB;rw [he,hi];rfl
  refine Run.R ?_
  refine Run.reK hpin [0,1,6,7,9] [0,1] (by decide) (by simp) ?_;simp only [AR,AW7,simprocAttr]
  refine Run.loopI (X:=Nat) (fun k=>⟨59,[(0,true,.v (.sl false (.row false) (c))),(1,true,.v (.sl false .int (s))),(6,true,.v (.own 0 0)),(7,true,.v (.own 1 0)),(9,true,.v (.int .i64 (k)))],[.arr .lrow (((zs.take k).filter fun p=>noLd c s p.2)) 0 true,.arr .lrow (zs) 0 true]⟩) (fun k=>k≤zs.length) (fun k=>zs.length - k) (0) (Nat.zero_le _) ?_ ?_
  ·exact Le.sub (by first | rfl | simp) (by simp only [AW7,simprocAttr,hX];try simp<;>try(first | rfl | exact⟨rfl,rfl⟩ | exact⟨rfl,rfl,rfl⟩))
  rintro k hk ih
  try simp only []
  refine Run.R ?_
  refine Run.nq ?_;refine Run.cW ?_ ?_
  rotate_left
  ·intro h
   have h:k=zs.length:=by rw [decide_eq_false_iff_not]at h;omega
   refine Run.exit rfl ?_;refine Run.nq ?_
   refine Run.R ?_
   refine Run.reK hpin [4,5] [0] (by decide) (by simp) ?_;simp only [AR,AW7,simprocAttr]
   refine Run.rW [4,5] (hfin _ _ rfl rfl ?_)
   refine⟨_,0,true,[.bool (clB c s)],⟨?_,rfl,rfl⟩,filt_nodup _ hzn _,rfl,by rw [hb],rfl⟩
   rw [h,List.take_length,filt_rows,hz]
   unfold clX;rw [hb];rfl
  intro h
  have h:k < zs.length:=by rw [decide_eq_true_eq]at h;omega
  have hst:=filt_step (fun p:Nat×List Int=>noLd c s p.2) (0,[]) zs k h
  have hfl:=filt_len (fun p:Nat×List Int=>noLd c s p.2) zs k
  generalize (zs.take k).filter (fun p:Nat×List Int=>noLd c s p.2)=out at hst hfl ⊢
  have hob:(out.length+1)*24≤140737488355328:=by omega
  have hgw:=rwg zs k
  have hwm:(rw2 zs).getD k []∈allL c:=by rw [← hz];exact mem_rwk.2 ⟨k,h,rfl⟩
  have hld:=leader_iff hF hi hwm (short_all hF hsz hwm)
  rw [hgw]at hst
  have hyl:=leftY_le c s ((rw2 zs).getD k [])
  generalize (rw2 zs).getD k []=w at *
  refine Run.nq ?_;refine Run.regionW hC (fun K hK=>?_);refine wW ?_
  try simp only [hgw]
  refine FunA.cW hP hT (c_spec_LeftParts c s w hcl) ?_
  rintro rs o ⟨rfl,rfl⟩
  refine wW ?_
  refine wE ?_;clear hK K
  refine Run.nq ?_;refine Run.regionW hC (fun K hK=>?_);refine wW ?_
  try simp only [hgw]
  refine FunA.cW hP hT (c_spec_EqualWords (leftY c s w) w (by omega)) ?_
  rintro rs o ⟨rfl,rfl⟩
  rw [hld]
  refine wW ?_
  refine wE ?_;clear hK K
  refine Run.nq ?_;refine Run.cW ?_ ?_
  ·intro h3
   rw [h3,if_pos rfl,show zs.getD k (0,[])=((zs.getD k (0,[])).1,w)from Prod.ext rfl hgw]at hst
   refine Run.nq ?_;refine Run.regionW hC (fun K hK=>?_);refine wW ?_
   try simp only [hgw]
   refine wW ?_
   refine wE ?_;clear hK K
   refine Run.RW ?_
   refine Run.reK hpin [0,1,6,7,9] [0,1] (by decide) (by simp) ?_;simp only [AR,AW7,simprocAttr]
   refine Run.le ?_ (ih (k+1) (h) (by(try simp only [List.length_append,List.length_cons,List.length_nil]);omega))
   exact Le.sub (by first | rfl | (simp only [hst];done) | (rw [hst];rfl)) (by simp only [AW7,simprocAttr];try simp)
  ·intro h3
   rw [h3,if_neg (by decide),List.append_nil]at hst
   refine Run.RW ?_
   refine Run.reK hpin [0,1,6,7,9] [0,1] (by decide) (by simp) ?_;simp only [AR,AW7,simprocAttr]
   refine Run.le ?_ (ih (k+1) (h) (by(try simp only [List.length_append,List.length_cons,List.length_nil]);omega))
   exact Le.sub (by first | rfl | (simp only [hst];done) | (rw [hst];rfl)) (by simp only [AW7,simprocAttr];try simp)
theorem c_impl_CosetLeaders (c:List (List Int)) (s:List Int) (hcl:c.length≤1048576):FunA BJ 21 [.sl false (.row false) c,.sl false .int s] (fun rs o=>rs=[.own 0 0,.bool (clB c s)]∧∃ hs,hs.length=(clX c s).length∧o=[.mat hs (clX c s) 0 true]):=
 (FunA.mat (by rfl) (post:=fun rows nn rest=>rows=clX c s∧nn=true∧rest=[.bool (clB c s)]) (c_impl_CosetLeadersR c s hcl)).mono fun rs o ⟨hs,rows,nn,rest,⟨h1,h2,h3⟩,h4,h5,h6⟩=>by subst h1 h2 h3;exact⟨h5,hs,h4,h6⟩
theorem c_spec_CosetLeaders (c:List (List Int)) (s:List Int) (hcl:c.length≤1048576):FunA B 22 [.sl false (.row false) c,.sl false .int s] (fun rs o=>rs=[.own 0 0,.bool (clB c s)]∧∃ hs,hs.length=(clX c s).length∧o=[.mat hs (clX c s) 0 true]):=
 (FunA.mat (by rfl) (post:=fun rows nn rest=>rows=clX c s∧nn=true∧rest=[.bool (clB c s)]) (c_spec_CosetLeadersR c s hcl)).mono fun rs o ⟨hs,rows,nn,rest,⟨h1,h2,h3⟩,h4,h5,h6⟩=>by subst h1 h2 h3;exact⟨h5,hs,h4,h6⟩
end Go.Proofs.YtcinngodeoidnaaGreatDoor
