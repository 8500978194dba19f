/- What the law on roots draws. -/
import Derived.Test.YtcinngodeoidnaaGreatB18
import Derived.Test.YtcinngodeoidnaaGreatB14
import Derived.Test.YtcinngodeoidnaaGreatB12
import Derived.Test.YtcinngodeoidnaaGreatB9
set_option linter.unusedVariables false
set_option linter.unusedSimpArgs false
namespace Go.Proofs.YtcinngodeoidnaaGreat
open Go Go.Aw
theorem c_DrawRootsUpTo (code:LI) (hl:code.length<=1048576):FunA B 35 [.sl false .byte code] (fun rs o=>∃ c,∃ h:Int,(1<=c.length/\c.length<=5)/\rs=[.sl true (.row true) c,.int .i64 h]/\o=[]):=by
 refine wk Tryz.call35 Tryz.func35 rfl Tryz.ntmps35 fun C hC hP hT hfn hpin hfin hX=>wW ?_
 refine Run.R ?_
 refine Run.g fun K hK=>?_
 refine ACall.new hP om fun s=>?_
 refine wF ?_;clear hK K
 refine Run.g fun K hK=>?_
 refine FunO.callCur hP hT (c_l2Any s) 0 0 (by first | rfl | (simp only [AW7,simprocAttr];done) | (simp only [AW7,simprocAttr];rfl)) (by simp only [AW7,simprocAttr]) ?_
 rintro rs o' obs' ⟨c,g,nn,⟨c1,c2⟩,rfl,rfl,ho⟩
 injection ho with ho1 ho2;subst ho1 ho2
 refine wF ?_;clear hK K
 refine Run.g fun K hK=>?_
 refine FunO.callCur hP hT (c_l1Below s 8 (by decide) (by decide)) 0 0 (by first | rfl | (simp only [AW7,simprocAttr];done) | (simp only [AW7,simprocAttr];rfl)) (by simp only [AW7,simprocAttr]) ?_
 rintro rs o' obs' ⟨v,rfl,v0,v1,ho⟩
 injection ho with ho1 ho2;subst ho1 ho2
 have v1:=v1 (by decide)
 refine wWW ?_
 refine wE ?_;clear hK K
 refine Run.k [2,3] [1] ?_
 refine Run.l 0 [2,3] ?_
 refine Run.k [2,3] [] ?_
 refine Run.r [2,3] ?_
 exact⟨c,v - 1,⟨c1,c2⟩,rfl,rfl⟩
theorem c_DrawPositiveRoots (code:LI) (hl:code.length<=1048576):FunA B 41 [.sl false .byte code] (fun rs o=>∃ c,(1<=c.length/\c.length<=5)/\rs=[.sl true (.row true) c]/\o=[]):=by
 refine wk Tryz.call41 Tryz.func41 rfl Tryz.ntmps41 fun C hC hP hT hfn hpin hfin hX=>wW ?_
 refine Run.R ?_
 refine Run.g fun K hK=>?_
 refine ACall.new hP om fun s=>?_
 refine wW ?_
 refine FunO.callCur hP hT (c_l2Any s) 0 0 (by first | rfl | (simp only [AW7,simprocAttr];done) | (simp only [AW7,simprocAttr];rfl)) (by simp only [AW7,simprocAttr]) ?_
 rintro rs o' obs' ⟨c,g,nn,⟨c1,c2⟩,rfl,rfl,ho⟩
 injection ho with ho1 ho2;subst ho1 ho2
 refine wF ?_;clear hK K
 refine Run.k [2] [1] ?_
 refine Run.l 0 [2] ?_
 refine Run.k [2] [] ?_
 refine Run.r [2] ?_
 exact⟨c,⟨c1,c2⟩,rfl,rfl⟩
theorem c_DrawReflectRoot (code:LI) (hl:code.length<=1048576):FunA B 48 [.sl false .byte code] (fun rs o=>∃ c r,∃ i:Int,(1<=c.length/\c.length<=5)/\Sm2 r/\rs=[.sl true (.row true) c,.int .i64 i,.sl true .int r]/\o=[]):=by
 have hm:((code.length:Nat):Int).tmod 5=((code.length:Nat):Int) % 5:=Int.tmod_eq_emod_of_nonneg om
 refine wk Tryz.call48 Tryz.func48 rfl Tryz.ntmps48 fun C hC hP hT hfn hpin hfin hX=>wW ?_
 refine Run.R ?_
 refine Run.g fun K hK=>?_
 refine FunA.cW hP hT (c_l7Any code hl) ?_
 rintro rs o ⟨d,r,d1,d2,rfl,rfl⟩
 refine wF ?_;clear hK K
 refine Run.R ?_
 refine Run.k [2,3,4] [] ?_
 refine Run.r [2,3,4] ?_
 exact⟨d,r,_,d1,d2,rfl,rfl⟩
theorem c_DrawActOnRoot (code:LI) (hl:code.length<=1048576):FunA B 49 [.sl false .byte code] (fun rs o=>∃ c w r,(1<=c.length/\c.length<=5)/\w.length<=8/\Sm2 r/\rs=[.sl true (.row true) c,.sl true .int w,.sl true .int r]/\o=[]):=by
 refine wk Tryz.call49 Tryz.func49 rfl Tryz.ntmps49 fun C hC hP hT hfn hpin hfin hX=>wW ?_
 refine Run.R ?_
 refine Run.g fun K hK=>?_
 refine ACall.new hP om fun s=>?_
 refine wF ?_;clear hK K
 refine Run.g fun K hK=>?_
 refine FunA.cW hP hT (c_l7Any code hl) ?_
 rintro rs o ⟨c,r,⟨c1,c2⟩,hr,rfl,rfl⟩
 refine wF ?_;clear hK K
 refine Run.g fun K hK=>?_
 refine FunO.callCur hP hT (c_l5Word s c 8 om om) 0 0 (by first | rfl | (simp only [AW7,simprocAttr];done) | (simp only [AW7,simprocAttr];rfl)) (by simp only [AW7,simprocAttr]) ?_
 rintro rs o' obs' ⟨w,nn,hw,hwl,rfl,rfl,ho⟩
 injection ho with ho1 ho2;subst ho1 ho2
 refine wF ?_;clear hK K
 refine Run.k [2,3,4] [1] ?_
 refine Run.l 0 [2,3,4] ?_
 refine Run.k [2,3,4] [] ?_
 refine Run.r [2,3,4] ?_
 exact⟨c,w,r,⟨c1,c2⟩,hwl,hr,rfl,rfl⟩
theorem c_DrawSimpleRoot (code:LI) (hl:code.length<=1048576):FunA B 50 [.sl false .byte code] (fun rs o=>∃ c,∃ i:Int,(1<=c.length/\c.length<=5)/\rs=[.sl true (.row true) c,.int .i64 i]/\o=[]):=by
 refine wk Tryz.call50 Tryz.func50 rfl Tryz.ntmps50 fun C hC hP hT hfn hpin hfin hX=>wW ?_
 refine Run.R ?_
 refine Run.g fun K hK=>?_
 refine FunA.cW hP hT (c_l6Any code hl) ?_
 rintro rs o ⟨d,r,d1,d2,rfl,rfl⟩
 refine wF ?_;clear hK K
 refine Run.R ?_
 refine Run.k [2,3] [] ?_
 refine Run.r [2,3] ?_
 exact⟨d,_,d1,rfl,rfl⟩
theorem c_DrawWeightOfRoot (code:LI) (hl:code.length<=1048576):FunA B 51 [.sl false .byte code] (fun rs o=>∃ c r,(1<=c.length/\c.length<=5)/\Sm2 r/\rs=[.sl true (.row true) c,.sl true .int r]/\o=[]):=by
 refine wk Tryz.call51 Tryz.func51 rfl Tryz.ntmps51 fun C hC hP hT hfn hpin hfin hX=>wW ?_
 refine Run.R ?_
 refine Run.g fun K hK=>?_
 refine FunA.cW hP hT (c_l7Any code hl) ?_
 rintro rs o ⟨d,r,d1,d2,rfl,rfl⟩
 refine wF ?_;clear hK K
 refine Run.R ?_
 refine Run.k [2,3] [] ?_
 refine Run.r [2,3] ?_
 exact⟨d,r,d1,d2,rfl,rfl⟩
theorem c_DrawRootSign (code:LI) (hl:code.length<=1048576):FunA B 52 [.sl false .byte code] (fun rs o=>∃ r,Sm2 r/\rs=[.sl true .int r]/\o=[]):=by
 refine wk Tryz.call52 Tryz.func52 rfl Tryz.ntmps52 fun C hC hP hT hfn hpin hfin hX=>wW ?_
 refine Run.R ?_
 refine Run.g fun K hK=>?_
 refine FunA.cW hP hT (c_l6Any code hl) ?_
 rintro rs o ⟨d,r,d1,d2,rfl,rfl⟩
 refine wF ?_;clear hK K
 refine Run.R ?_
 refine Run.k [2] [] ?_
 refine Run.r [2] ?_
 exact⟨r,d2,rfl,rfl⟩
open Go.Cox
theorem inB_pt {c:LL} {i:Int}:inB i 0 ((c.length:Int) - 1)=ptB c i:=by
 rw [Bool.eq_iff_iff,inB_iff];unfold ptB;rw [dtE];omega
theorem Sm2.bnd {r:LI} (h:Sm2 r):Bnd 2000 r:=fun x hx=>h.2 x hx
theorem bnd_mono {M N:Int} {r:LI} (h:Bnd M r) (hN:M<=N):Bnd N r:=fun x hx=>by
 have:=h x hx
 omega
theorem hgt_pre2 {r:LI} (h:Sm2 r) (k:Nat):-12000<=hgt (r.take k)/\hgt (r.take k)<=12000:=by
 have:=hgt_bnd (h.bnd.take k)
 have hl:=h.1
 have hk:(r.take k).length<=6:=by simp;omega
 omega
theorem c_impl_HeightOf2 (r:LI) (h:Sm2 r):FunA B 46 [.sl false .int r] (fun rs o=>rs=[.int .i64 (hgt r)]/\o=[]):=by
 have hl:=h.1
 refine wk Tryz.call46 Tryz.func46 rfl Tryz.ntmps46 fun C hC hP hT hfn hpin hfin hX=>wW ?_
 refine Run.R ?_
 refine Run.R ?_
 refine Run.R ?_
 refine Run.loopI (X:=Nat) (fun k=>⟨17,[(0,true,.v (.sl false .int r)),(2,true,.v (.int .i64 0)),(3,true,.v (.int .i64 ((hgt (r.take k))))),(6,true,.v (.sl false .int r)),(7,true,.v (.int .i64 (r.length))),(8,true,.v (.int .i64 k))],[]⟩) (fun k=>k<=r.length) (fun k=>r.length - k) (0) (nz0 _) ?_ ?_
 ·exact Le.s
 rintro k hk ih
 try simp only []
 refine Run.R ?_
 refine Run.c ?_ ?_
 ·intro hc
  have hc:k < r.length:=by simpa using hc
  have hs:=hgt_snoc r k hc
  have h1:=hgt_pre2 h (k+1)
  rw [hs]at h1
  refine Run.R ?_
  refine Run.RW ?_
  rw [<- hs]
  refine Run.RW ?_
  exact Run.j (ih (k+1) om mz)
 ·intro hc
  have hc:k=r.length:=by simp at hc;omega
  subst hc
  rw [tkL]
  refine Run.x ?_
  refine Run.R ?_
  refine Run.r [2] ?_
  exact⟨rfl,rfl⟩
theorem c_spec_HeightOf2 (r:LI) (h:Sm2 r):FunA B 60 [.sl false .int r] (fun rs o=>rs=[.int .i64 (hgt r)]/\o=[]):=by
 have hl:=h.1
 refine wk Tryz.call60 Tryz.func60 rfl Tryz.ntmps60 fun C hC hP hT hfn hpin hfin hX=>wW ?_
 refine Run.R ?_
 refine Run.R ?_
 refine Run.R ?_
 refine Run.loopI (X:=Nat) (fun k=>⟨18,[(0,true,.v (.sl false .int r)),(2,true,.v (.int .i64 0)),(3,true,.v (.int .i64 ((hgt (r.take k))))),(4,true,.v (.int .i64 k))],[]⟩) (fun k=>k<=r.length) (fun k=>r.length - k) (0) (nz0 _) ?_ ?_
 ·exact Le.s
 rintro k hk ih
 try simp only []
 refine Run.R ?_
 refine Run.c ?_ ?_
 ·intro hc
  have hc:k < r.length:=by simpa using hc
  have hs:=hgt_snoc r k hc
  have h1:=hgt_pre2 h (k+1)
  rw [hs]at h1
  refine Run.RW ?_
  rw [<- hs]
  refine Run.RW ?_
  exact Run.j (ih (k+1) om mz)
 ·intro hc
  have hc:k=r.length:=by simp at hc;omega
  subst hc
  rw [tkL]
  refine Run.x ?_
  refine Run.R ?_
  refine Run.r [2] ?_
  exact⟨rfl,rfl⟩
noncomputable def refOn (c:LL) (i:Int) (r:LI):Bool:=isC c && (r.length == c.length) && ptB c i
noncomputable def refR (c:LL) (i:Int) (r:LI):List Int:=if refOn c i r=true then mirL c i r else r
theorem refOn_iff {c:LL} {i:Int} {r:LI}:refOn c i r=true↔CartanP c/\r.length=c.length/\0<=i/\i < c.length:=by
 unfold refOn ptB
 simp only [bAnd,isC_iff,beq_iff_eq,dtE]
 constructor
 ·rintro⟨⟨a,b⟩,d⟩;exact⟨a,b,d⟩
 ·rintro⟨a,b,d⟩;exact⟨⟨a,b⟩,d⟩
theorem ref_cond {c:LL} {i:Int} {r:LI} {t:Bool} (h:(bif (bif !isC c then true else((r.length:Int) != (c.length:Int)))then true else !ptB c i)=t):refOn c i r = !t:=by
 subst h
 unfold refOn
 by_cases hl:r.length=c.length
 ·have e:((r.length:Int) != (c.length:Int))=false:=by rw [hl];simp
  rw [e,hl]
  cases isC c<;>cases ptB c i<;>simp
 ·have e:((r.length:Int) != (c.length:Int))=true:=by rw [bne_iff_ne];omega
  have e2:(r.length == c.length)=false:=by rw [beq_eq_false_iff_ne];exact hl
  rw [e,e2]
  cases isC c<;>cases ptB c i<;>rfl
theorem c_impl_ReflectRoot (c:LL) (i:Int) (r:LI) (hr:Bnd 100000000000000000 r) (hl:r.length<=1048576):FunA B 38 [.sl false (.row false) c,.int .i64 i,.sl false .int r] (fun rs o=>rs=[.own 0 0]/\o=[.arr .int (refR c i r) 0 true]):=by
 refine wk Tryz.call38 Tryz.func38 rfl Tryz.ntmps38 fun C hC hP hT hfn hpin hfin hX=>wW ?_
 refine Run.R ?_
 refine Run.g fun K hK=>?_
 refine FunA.e hP hT (c_impl_IsCartan c) ?_
 refine .inl (FunA.callG hP hT (c_impl_isPoint c i) (fun _=>rfl) (fun _=>by simp only [AW7,simprocAttr]) ?_)
 refine wF ?_;clear hK K
 refine Run.c ?_ ?_
 ·intro h
  have h:=ref_cond h
  refine Run.R ?_
  refine Run.k [6] [0] ?_
  refine Run.r [6] ?_
  refine⟨rfl,?_⟩
  unfold refR
  rw [h];rfl
 intro h
 have h:refOn c i r=true:=by rw [ref_cond h];rfl
 obtain⟨h1,h2,h3⟩:=refOn_iff.1 h
 refine Run.g fun K hK=>?_
 refine FunA.e hP hT (c_impl_mirrored c i r h1 h3 h2 hr) ?_
 refine wE ?_;clear hK K
 refine Run.k [6] [0] ?_
 refine Run.r [6] ?_
 refine⟨rfl,?_⟩
 unfold refR
 rw [if_pos h]
theorem c_spec_ReflectRoot (c:LL) (i:Int) (r:LI) (hc:c.length<=1048576) (hr:Bnd 100000000000000000 r) (hl:r.length<=1048576):FunA B 54 [.sl false (.row false) c,.int .i64 i,.sl false .int r] (fun rs o=>rs=[.own 0 0]/\o=[.arr .int (refR c i r) 0 true]):=by
 refine wk Tryz.call54 Tryz.func54 rfl Tryz.ntmps54 fun C hC hP hT hfn hpin hfin hX=>wW ?_
 refine Run.R ?_
 refine Run.g fun K hK=>?_
 refine FunA.cW hP hT (c_spec_IsCartan c) ?_
 rintro rs o ⟨rfl,rfl⟩
 refine wWW ?_
 refine .inl (FunA.callG hP hT (c_spec_l1In i 0 ((c.length:Int) - 1)) (fun _=>rfl) (fun _=>by simp only [AW7,simprocAttr]) ?_)
 rw [inB_pt]
 refine wF ?_;clear hK K
 refine Run.c ?_ ?_
 ·intro h
  have h:=ref_cond h
  refine Run.R ?_
  refine Run.k [6] [0] ?_
  refine Run.r [6] ?_
  refine⟨rfl,?_⟩
  unfold refR
  rw [h];rfl
 intro h
 have h:refOn c i r=true:=by rw [ref_cond h];rfl
 obtain⟨h1,h2,h3⟩:=refOn_iff.1 h
 refine Run.g fun K hK=>?_
 refine FunA.e hP hT (c_spec_l7Reflect c i r h1 h3 h2 hr) ?_
 refine wE ?_;clear hK K
 refine Run.k [6] [0] ?_
 refine Run.r [6] ?_
 refine⟨rfl,?_⟩
 unfold refR
 rw [if_pos h]
noncomputable def simR (c:LL) (i:Int):List Int:=if (isC c && ptB c i)=true then simL c.length i.toNat else []
theorem sim_on {c:LL} {i:Int}:(isC c && ptB c i)=true↔CartanP c/\0<=i/\i < c.length:=by
 unfold ptB;rw [bAnd,isC_iff,dtE]
theorem sim_cond {c:LL} {i:Int} {t:Bool} (h:(bif !isC c then true else !ptB c i)=t):(isC c && ptB c i) = !t:=by
 subst h
 cases isC c<;>cases ptB c i<;>rfl
theorem c_impl_SimpleRoot (c:LL) (i:Int):FunA B 56 [.sl false (.row false) c,.int .i64 i] (fun rs o=>rs=[.own 0 0]/\o=[.arr .int (simR c i) 0 true]):=by
 refine wk Tryz.call56 Tryz.func56 rfl Tryz.ntmps56 fun C hC hP hT hfn hpin hfin hX=>wW ?_
 refine Run.R ?_
 refine Run.g fun K hK=>?_
 refine FunA.e hP hT (c_impl_IsCartan c) ?_
 refine .inl (FunA.callG hP hT (c_impl_isPoint c i) (fun _=>rfl) (fun _=>by simp only [AW7,simprocAttr]) ?_)
 refine wF ?_;clear hK K
 refine Run.c ?_ ?_
 ·intro h
  have h:=sim_cond h
  refine Run.R ?_
  refine Run.k [4] [0] ?_
  refine Run.r [4] ?_
  refine⟨rfl,?_⟩
  unfold simR
  rw [h];rfl
 intro h
 have h:(isC c && ptB c i)=true:=by rw [sim_cond h];rfl
 obtain⟨h1,h3⟩:=sim_on.1 h
 have hn:=h1.2.1
 refine Run.g fun K hK=>?_
 refine FunA.e hP hT (c_impl_simple c.length i om h3) ?_
 refine wE ?_;clear hK K
 refine Run.k [4] [0] ?_
 refine Run.r [4] ?_
 refine⟨rfl,?_⟩
 unfold simR
 rw [if_pos h]
theorem c_spec_SimpleRoot2 (c:LL) (i:Int) (hcl:c.length<=1048576):FunA B 39 [.sl false (.row false) c,.int .i64 i] (fun rs o=>rs=[.own 0 0]/\o=[.arr .int (simR c i) 0 true]):=by
 by_cases hon:(isC c && ptB c i)=true
 ·obtain⟨h1,h3⟩:=sim_on.1 hon
  have:=c_spec_SimpleRoot c i h1 h3
  unfold simR
  rw [if_pos hon]
  exact this
 refine wk Tryz.call39 Tryz.func39 rfl Tryz.ntmps39 fun C hC hP hT hfn hpin hfin hX=>wW ?_
 refine Run.R ?_
 refine Run.g fun K hK=>?_
 refine FunA.cW hP hT (c_spec_IsCartan c) ?_
 rintro rs o ⟨rfl,rfl⟩
 refine wWW ?_
 refine .inl (FunA.callG hP hT (c_spec_l1In i 0 ((c.length:Int) - 1)) (fun _=>rfl) (fun _=>by simp only [AW7,simprocAttr]) ?_)
 rw [inB_pt]
 refine wF ?_;clear hK K
 refine Run.c ?_ ?_
 ·intro h
  refine Run.R ?_
  refine Run.k [4] [0] ?_
  refine Run.r [4] ?_
  refine⟨rfl,?_⟩
  unfold simR
  rw [if_neg hon]
 intro h
 exact absurd (by rw [sim_cond h];rfl) hon
noncomputable def actOn (c:LL) (w r:LI):Bool:=wordB c w && (r.length == c.length)
noncomputable def actX (c:LL) (w r:LI):List Int:=if actOn c w r=true then actR c w r else r
theorem act_on {c:LL} {w r:LI}:actOn c w r=true↔WordP c w/\r.length=c.length:=by
 unfold actOn;rw [bAnd,wordB_iff,beq_iff_eq]
theorem act_small {c:LL} {w r:LI} (hW:WordP c w) (hl:r.length=c.length) (hw:w.length<=8) (hr:Bnd 2000 r) (j:Nat):Bnd 100000000000000000 (actR c (w.drop j) r):=by
 have h:=actR_bnd hW.1 hl (by decide) hr (w.drop j) (letters_drop hW.2.2 j)
 have h2:(13:Int) ^ (w.drop j).length<=13 ^ 8:=by
  have h3:(w.drop j).length<=8:=by rw [List.length_drop];omega
  have:=Nat.pow_le_pow_right (n:=13) (by decide) h3
  exact_mod_cast this
 have e:(13:Int) ^ 8=815730721:=by decide
 intro x hx
 have h4:=h x hx
 omega
theorem c_impl_ActOnRoot (c:LL) (w r:LI) (hw:w.length<=8) (hr:Sm2 r):FunA B 55 [.sl false (.row false) c,.sl false .int w,.sl false .int r] (fun rs o=>rs=[.own 0 0]/\o=[.arr .int (actX c w r) 0 true]):=by
 have hl:=hr.1
 refine wk Tryz.call55 Tryz.func55 rfl Tryz.ntmps55 fun C hC hP hT hfn hpin hfin hX=>wW ?_
 refine Run.R ?_
 refine Run.g fun K hK=>?_
 refine FunA.e hP hT (c_impl_IsWord c w) ?_
 refine wE ?_;clear hK K
 refine Run.c ?_ ?_
 ·intro h
  have h:actOn c w r=false:=by
   unfold actOn
   cases hb:wordB c w with
   | false=>rfl
   | true=>rw [hb]at h;simp at h;simp;omega
  refine Run.R ?_
  refine Run.k [6] [0] ?_
  refine Run.r [6] ?_
  refine⟨rfl,?_⟩
  unfold actX
  rw [h];rfl
 intro h
 have h:actOn c w r=true:=by
  unfold actOn
  cases hb:wordB c w with
  | false=>rw [hb]at h;simp at h
  | true=>rw [hb]at h;simp at h;simp;omega
 obtain⟨h1,h2⟩:=act_on.1 h
 refine Run.g fun K hK=>?_
 refine FunA.e hP hT (c_impl_actedRoot c w r h1.1 h1.2.2 h2 om (act_small h1 h2 hw hr.bnd)) ?_
 refine wE ?_;clear hK K
 refine Run.k [6] [0] ?_
 refine Run.r [6] ?_
 refine⟨rfl,?_⟩
 unfold actX
 rw [if_pos h]
theorem c_spec_ActOnRoot2 (c:LL) (w r:LI) (hcl:c.length<=1048576) (hw:w.length<=8) (hr:Sm2 r):FunA B 13 [.sl false (.row false) c,.sl false .int w,.sl false .int r] (fun rs o=>rs=[.own 0 0]/\o=[.arr .int (actX c w r) 0 true]):=by
 have hl:=hr.1
 by_cases hon:actOn c w r=true
 ·obtain⟨h1,h2⟩:=act_on.1 hon
  have:=c_spec_ActOnRoot c w r h1 h2 (act_small h1 h2 hw hr.bnd)
  unfold actX
  rw [if_pos hon]
  exact this
 refine wk Tryz.call13 Tryz.func13 rfl Tryz.ntmps13 fun C hC hP hT hfn hpin hfin hX=>wW ?_
 refine Run.R ?_
 refine Run.R ?_
 refine Run.RW ?_
 refine Run.k [0,1,2,7,8] [0] ?_
 refine Run.loopI (X:=Unit) (fun _j=>⟨39,[(0,true,.v (.sl false (.row false) c)),(1,true,.v (.sl false .int w)),(2,true,.v (.sl false .int r)),(7,true,.v (.own 0 0)),(8,true,.v (.int .i64 (((w.length:Int) - 1))))],[.arr .int (r) 0 true]⟩) (fun _j=>True) (fun _j=>0) (()) (trivial) ?_ ?_
 ·exact Le.s
 rintro _j _ ih
 try simp only []
 refine Run.g fun K hK=>?_
 refine .inl (FunA.callG hP hT (c_spec_IsWord c w om) (fun _=>rfl) (fun _=>by simp only [AW7,simprocAttr]) ?_)
 refine wF ?_;clear hK K
 refine Run.c ?_ ?_
 ·intro h
  refine absurd ?_ hon
  unfold actOn
  cases hb:wordB c w with
  | false=>rw [hb]at h;simp at h
  | true=>rw [hb]at h;simp at h;simp;omega
 intro _
 refine Run.x ?_
 refine Run.R ?_
 refine Run.k [6] [0] ?_
 refine Run.r [6] ?_
 refine⟨rfl,?_⟩
 unfold actX
 rw [if_neg hon]
noncomputable def worOn (c:LL) (r:LI):Bool:=isC c && (r.length == c.length)
noncomputable def worX (c:LL) (r:LI):List Int:=if worOn c r=true then c.map fun a=>dotL a r else []
theorem wor_on {c:LL} {r:LI}:worOn c r=true↔CartanP c/\r.length=c.length:=by
 unfold worOn;rw [bAnd,isC_iff,beq_iff_eq]
theorem wor_cond {c:LL} {r:LI} {t:Bool} (h:(bif !isC c then true else((r.length:Int) != (c.length:Int)))=t):worOn c r = !t:=by
 subst h
 unfold worOn
 by_cases hl:r.length=c.length
 ·have e:((r.length:Int) != (c.length:Int))=false:=by rw [hl];simp
  rw [e,hl]
  cases isC c<;>simp
 ·have e:((r.length:Int) != (c.length:Int))=true:=by rw [bne_iff_ne];omega
  have e2:(r.length == c.length)=false:=by rw [beq_eq_false_iff_ne];exact hl
  rw [e,e2]
  cases isC c<;>rfl
theorem wor_len (c:LL) (r:LI) (hc:c.length<=1048576):(worX c r).length<=1048576:=by
 unfold worX
 split<;>simp<;>omega
theorem map_take1 (c:LL) (r:LI) (k:Nat) (h:k < c.length):(c.take (k+1)).map (fun a=>dotL a r)=(c.take k).map (fun a=>dotL a r) ++ [dotL (c.getD k []) r]:=by
 rw [List.take_add_one,geE h,List.map_append]
 simp [gdE,h]
theorem c_impl_WeightOfRoot (c:LL) (r:LI) (hcl:c.length<=1048576) (hr:Sm2 r):FunA B 57 [.sl false (.row false) c,.sl false .int r] (fun rs o=>rs=[.own 0 0]/\o=[.arr .int (worX c r) 0 true]):=by
 have hl:=hr.1
 have hb:Bnd 100000000000000000 r:=bnd_mono hr.bnd (by decide)
 refine wk Tryz.call57 Tryz.func57 rfl Tryz.ntmps57 fun C hC hP hT hfn hpin hfin hX=>wW ?_
 refine Run.R ?_
 refine Run.R ?_
 refine Run.g fun K hK=>?_
 refine FunA.e hP hT (c_impl_IsCartan c) ?_
 refine wE ?_;clear hK K
 refine Run.c ?_ ?_
 ·intro h
  have h:=wor_cond h
  refine Run.R ?_
  refine Run.k [4] [0] ?_
  refine Run.r [4] ?_
  refine⟨rfl,?_⟩
  unfold worX
  rw [h];rfl
 intro h
 have h:worOn c r=true:=by rw [wor_cond h];rfl
 obtain⟨hc,hlen⟩:=wor_on.1 h
 have hn:=hc.2.1
 refine Run.R ?_
 refine Run.k [1,5,20,21,22] [0] ?_
 refine Run.loopI (X:=Nat) (fun k=>⟨34,[(1,true,.v (.sl false .int r)),(5,true,.v (.own 0 0)),(20,true,.v (.sl false (.row false) c)),(21,true,.v (.int .i64 ((c.length:Nat)))),(22,true,.v (.int .i64 k))],[.arr .int (((c.take k).map fun a=>dotL a r)) 0 true]⟩) (fun k=>k<=c.length) (fun k=>c.length - k) (0) (nz0 _) ?_ ?_
 ·exact Le.s
 rintro k hk ih
 try simp only []
 refine Run.R ?_
 refine Run.c ?_ ?_
 ·intro h2
  have h2:k < c.length:=by rw [dtE]at h2;omega
  obtain⟨b1,b2⟩:=row_bnd hc (i:=k) h2
  have hm:=map_take1 c r k h2
  refine Run.R ?_
  refine Run.g fun K hK=>?_
  refine FunA.e hP hT (c_impl_pairing (c.getD k []) r b1 hb om om) ?_
  refine wE ?_;clear hK K
  refine Run.k [1,5,20,21,22] [0] ?_
  refine Run.RW ?_
  rw [<- hm]
  exact Run.j (ih (k+1) om mz)
 intro h2
 have h2:k=c.length:=by rw [dfE]at h2;omega
 subst h2
 rw [tkL]
 refine Run.x ?_
 refine Run.R ?_
 refine Run.k [4] [0] ?_
 refine Run.r [4] ?_
 refine⟨rfl,?_⟩
 unfold worX
 rw [if_pos h]
theorem c_spec_WeightOfRoot (c:LL) (r:LI) (hcl:c.length<=1048576) (hr:Sm2 r):FunA B 58 [.sl false (.row false) c,.sl false .int r] (fun rs o=>rs=[.own 0 0]/\o=[.arr .int (worX c r) 0 true]):=by
 have hl:=hr.1
 have hb:Bnd 100000000000000000 r:=bnd_mono hr.bnd (by decide)
 by_cases hon:worOn c r=true
 rotate_left
 ·refine wk Tryz.call58 Tryz.func58 rfl Tryz.ntmps58 fun C hC hP hT hfn hpin hfin hX=>wW ?_
  refine Run.R ?_
  refine Run.R ?_
  refine Run.R ?_
  refine Run.k [0,1,5,6] [0] ?_
  refine Run.loopI (X:=Unit) (fun _j=>⟨52,[(0,true,.v (.sl false (.row false) c)),(1,true,.v (.sl false .int r)),(5,true,.v (.own 0 0)),(6,true,.v (.int .i64 0))],[.arr .int ([]) 0 true]⟩) (fun _j=>True) (fun _j=>0) (()) (trivial) ?_ ?_
  ·exact Le.s
  rintro _j _ ih
  try simp only []
  refine Run.g fun K hK=>?_
  refine .inl (FunA.callG hP hT (c_spec_IsCartan c) (fun _=>rfl) (fun _=>by simp only [AW7,simprocAttr]) ?_)
  refine wF ?_;clear hK K
  refine Run.c ?_ ?_
  ·intro h
   refine absurd ?_ hon
   unfold worOn
   cases hb:isC c with
   | false=>rw [hb]at h;simp at h
   | true=>rw [hb]at h;simp at h;simp;omega
  intro _
  refine Run.x ?_
  refine Run.R ?_
  refine Run.k [4] [0] ?_
  refine Run.r [4] ?_
  refine⟨rfl,?_⟩
  unfold worX
  rw [if_neg hon]
 obtain⟨hc,hlen⟩:=wor_on.1 hon
 have hn:=hc.2.1
 have hcb:=isC_true hc
 have hq:((r.length:Int) == (c.length:Int))=true:=by rw [hlen];simp
 refine wk Tryz.call58 Tryz.func58 rfl Tryz.ntmps58 fun C hC hP hT hfn hpin hfin hX=>wW ?_
 refine Run.R ?_
 refine Run.R ?_
 refine Run.R ?_
 refine Run.k [0,1,5,6] [0] ?_
 refine Run.loopI (X:=Nat) (fun k=>⟨52,[(0,true,.v (.sl false (.row false) c)),(1,true,.v (.sl false .int r)),(5,true,.v (.own 0 0)),(6,true,.v (.int .i64 k))],[.arr .int (((c.take k).map fun a=>dotL a r)) 0 true]⟩) (fun k=>k<=c.length) (fun k=>c.length - k) (0) (nz0 _) ?_ ?_
 ·exact Le.s
 rintro k hk ih
 try simp only []
 by_cases h2:k < c.length
 rotate_left
 ·have h3:k=c.length:=by omega
  subst h3
  have hd:decide ((c.length:Int) < (c.length:Int))=false:=by simp
  refine Run.g fun K hK=>?_
  rw [hd]
  refine .inl (CallG.off (.bool false) ?_)
  refine wF ?_;clear hK K
  refine Run.c ?_ ?_
  ·intro h;cases h
  intro _
  rw [tkL]
  refine Run.x ?_
  refine Run.R ?_
  refine Run.k [4] [0] ?_
  refine Run.r [4] ?_
  refine⟨rfl,?_⟩
  unfold worX
  rw [if_pos hon]
 have hd:decide ((k:Int) < (c.length:Int))=true:=by rw [dtE];omega
 obtain⟨b1,b2⟩:=row_bnd hc (i:=k) h2
 have hm:=map_take1 c r k h2
 refine Run.g fun K hK=>?_
 rw [hd]
 simp only [AW7,simprocAttr,hX]
 refine .inr ⟨rfl,?_⟩
 refine FunA.cW hP hT (c_spec_IsCartan c) ?_
 rintro rs o ⟨rfl,rfl⟩
 rw [hcb]
 refine wW ?_
 try rw [hq]
 try(refine wW ?_)
 refine wE ?_;clear hK K
 refine Run.c ?_ ?_
 rotate_left
 ·intro h;simp at h
 intro _
 refine Run.R ?_
 refine Run.R ?_
 refine Run.k [0,1,5,6,7,8] [0] ?_
 refine Run.loopI (X:=Nat) (fun m=>⟨52,[(0,true,.v (.sl false (.row false) c)),(1,true,.v (.sl false .int r)),(5,true,.v (.own 0 0)),(6,true,.v (.int .i64 k)),(7,true,.v (.int .i64 ((dotL ((c.getD k []).take m) (r.take m))))),(8,true,.v (.int .i64 m))],[.arr .int (((c.take k).map fun a=>dotL a r)) 0 true]⟩) (fun m=>m<=r.length) (fun m=>r.length - m) (0) (nz0 _) ?_ ?_
 ·exact Le.s
 rintro m hm2 ihK
 try simp only []
 refine Run.R ?_
 refine Run.c ?_ ?_
 ·intro h
  have h:m < r.length:=by rw [dtE]at h;omega
  have hs:=dot_snoc (c.getD k []) r m om h
  have h0:=dot_le b1 hb om om om m hm2
  have h1:=dot_le b1 hb om om om (m+1) om
  have h3:=mul3 (b1.get (k:=m) om) (hb.get h)
  rw [hs]at h1
  refine Run.nq ?_;refine Run.regionD hC true [0,1,2,3,4,5,6,7,8,9,10,11,12,13,14] (by kernel_rfl) (fun K hK=>?_);simp(disch:=omega) only [wrap_id,AW7,simprocAttr,hX];(repeat(with_reducible refine And.intro ?_ ?_);exact vc0)
  refine wE ?_;clear hK K
  rw [<- hs]
  refine Run.RW ?_
  exact Run.j (ihK (m+1) om mz)
 intro h
 have h:m=r.length:=by rw [dfE]at h;omega
 subst h
 rw [tkL,List.take_of_length_le om]
 refine Run.x ?_
 refine Run.R ?_
 rw [<- hm]
 refine Run.k [0,1,5,6] [0] ?_
 refine Run.RW ?_
 exact Run.j (ih (k+1) om mz)
theorem c_impl_pairing_w (a r:LI) (hl:a.length=r.length):FunA B 120 [.sl false .int a,.sl false .int r] (fun rs o=>(∃ n,rs=[.int .i64 n])/\o=[]):=by
 refine wk Tryz.call120 Tryz.func120 rfl Tryz.ntmps120 fun C hC hP hT hfn hpin hfin hX=>wW ?_
 refine Run.len 1 rfl fun hlen=>?_
 refine Run.R ?_
 refine Run.R ?_
 refine Run.R ?_
 refine Run.loopI (X:=Nat×Int) (fun x=>⟨25,[(0,true,.v (.sl false .int a)),(1,true,.v (.sl false .int r)),(4,true,.v (.int .i64 0)),(5,true,.v (.int .i64 (x.2))),(8,true,.v (.sl false .int r)),(9,true,.v (.int .i64 (r.length))),(10,true,.v (.int .i64 (x.1)))],[]⟩) (fun x=>x.1<=r.length) (fun x=>r.length - x.1) ((0,0)) (nz0 _) ?_ ?_
 ·exact Le.s
 rintro⟨k,s⟩ hk ih
 try simp only []
 simp only at hk
 refine Run.R ?_
 refine Run.c ?_ ?_
 ·intro hc
  have hc:k < r.length:=by simpa using hc
  refine Run.R ?_
  refine Run.R ?_
  refine Run.RW ?_
  refine Run.le ?_ (ih (k+1,IntKind.i64.wrap (s+IntKind.i64.wrap (a.getD k 0*r.getD k 0))) (by simp only;omega) (by simp only;omega))
  exact Le.sub (by rfl) (by simp only [AW7,simprocAttr];try simp)
 ·intro hc
  have hc:k=r.length:=by simp at hc;omega
  subst hc
  refine Run.x ?_
  refine Run.R ?_
  refine Run.r [4] ?_
  exact⟨⟨_,rfl⟩,rfl⟩
theorem c_impl_mirrored_w (c:LL) (i:Int) (r:LI) (hi:0<=i/\i < c.length) (hl:r.length=c.length) (hrow:(c.getD i.toNat []).length=c.length) (hc4:c.length<=4) :
  FunA B 72 [.sl false (.row false) c,.int .i64 i,.sl false .int r] (fun rs o=>rs=[.own 0 0]/\∃ ys:List Int,ys.length=r.length/\o=[.arr .int ys 0 true]):=by
 refine wk Tryz.call72 Tryz.func72 rfl Tryz.ntmps72 fun C hC hP hT hfn hpin hfin hX=>wW ?_
 refine Run.R ?_
 refine Run.R ?_
 refine Run.k [0,1,2,6,7] [0] ?_
 refine Run.nq ?_;refine Run.regionD hC true [0,1,2,3,4,5,6,7,8,9,10,11,12] (by kernel_rfl) (fun K hK=>?_);simp only [AW7,simprocAttr,hX];(repeat(with_reducible refine And.intro ?_ ?_);exact vc0)
 refine FunA.callD hP hT (c_impl_pairing_w (c.getD i.toNat []) r om) (by simp only [AW7,simprocAttr]) ?_
 rintro rs o ⟨⟨n,rfl⟩,rfl⟩
 refine wF ?_;clear hK K
 refine Run.R ?_
 refine Run.k [6] [0] ?_
 refine Run.r [6] ?_
 exact⟨rfl,_,by simp,rfl⟩
def cmpR (a b:LI):Int:=if hgt a < hgt b then -1 else if hgt a > hgt b then 1 else cmpW b a
theorem gt_cmpN {a b:LI} (hl:a.length=b.length):∀(n i:Nat),i+n=a.length->(gtL (a.drop i) (b.drop i)=true↔cmpN b a n i < 0)
 | 0,i,h=>by rw [List.drop_of_length_le om,List.drop_of_length_le om];simp [gtL,cmpN]
 | n+1,i,h=>by
  have h1:i < a.length:=by omega
  have h2:i < b.length:=by omega
  have ih:=gt_cmpN hl n (i+1) om
  rw [List.drop_eq_getElem_cons h1,List.drop_eq_getElem_cons h2]
  unfold gtL cmpN
  rw [getD_eq h1,getD_eq h2]
  by_cases e:a[i]=b[i]
  ·rw [if_pos e,if_neg om,if_neg om];exact ih
  ·rw [if_neg e,dtE]
   split
   ·omega
   ·split<;>omega
theorem befR_cmp {a b:LI} (hl:a.length=b.length):befR a b=true↔cmpR a b < 0:=by
 unfold befR cmpR
 by_cases e:hgt a=hgt b
 ·rw [if_pos e,if_neg om,if_neg om]
  unfold cmpW
  rw [if_neg om,if_neg om,<- hl]
  exact gt_cmpN hl a.length 0 om
 ·rw [if_neg e,dtE]
  split
  ·omega
  ·split<;>omega
theorem cmpR_swo:Go.Sort.SWO (ltOf fun p q:List Int×List Int=>cmpR p.1 q.1):=by
 refine⟨fun x=>?_,fun x y z h1 h2=>?_,fun x y z h1 h2=>?_⟩
 ·have:cmpR x.1 x.1=0:=by unfold cmpR;rw [if_neg om,if_neg om,cmpW_self]
  unfold ltOf;rw [dfE];show ¬cmpR x.1 x.1 < 0;omega
 ·unfold ltOf at *
  rw [dtE]at *
  unfold cmpR at *
  dsimp only at h1 h2 ⊢
  split at h1
  ·split at h2
   ·rw [if_pos om];omega
   ·split at h2
    ·omega
    ·rw [if_pos om];omega
  ·split at h1
   ·omega
   ·split at h2
    ·rw [if_pos om];omega
    ·split at h2
     ·omega
     ·rw [if_neg om,if_neg om];exact cmpW_lt_trans h2 h1
 ·unfold ltOf at *
  rw [dfE]at *
  unfold cmpR at *
  dsimp only at h1 h2 ⊢
  split at h1
  ·omega
  ·split at h1
   ·split at h2
    ·omega
    ·split at h2
     ·rw [if_neg om,if_pos om];omega
     ·rw [if_neg om,if_pos om];omega
   ·split at h2
    ·omega
    ·split at h2
     ·rw [if_neg om,if_pos om];omega
     ·rw [if_neg om,if_neg om]
      have:=cmpW_ge_trans (p:=z.1) (q:=y.1) (r:=x.1) om om
      omega
theorem c_impl_compareRoots (a b:LI) (ha:Bnd 1000000000000000000 a) (hb:Bnd 1000000000000000000 b) (h4:a.length<=4) (hl:a.length=b.length) :
  FunA B 149 [.sl false .int a,.sl false .int b] (fun rs o=>rs=[.int .i64 (cmpR a b)]/\o=[]):=by
 refine wk Tryz.call149 Tryz.func149 rfl Tryz.ntmps149 fun C hC hP hT hfn hpin hfin hX=>wW ?_
 refine Run.R ?_
 refine Run.g fun K hK=>?_
 refine FunA.e hP hT (c_impl_HeightOf a ha h4) ?_
 refine FunA.e hP hT (c_impl_HeightOf b hb om) ?_
 refine FunA.e hP hT (c_cmpCompare (hgt a) (hgt b)) ?_
 refine FunA.cW hP hT (c_slicesCompare b a om) ?_
 rintro rs o ⟨⟨v,rfl,hv⟩,rfl⟩
 refine wW ?_
 refine FunA.e hP hT (c_cmpOr [cmpI (hgt a) (hgt b),v] (by simp)) ?_
 refine wE ?_;clear hK K
 have e:orL [cmpI (hgt a) (hgt b),v]=cmpR a b:=by
  have hv':v=cmpW b a:=by rw [hv om];unfold cmpW;rw [if_neg om,if_neg om]
  simp only [orL]
  unfold cmpI cmpR
  by_cases k1:hgt a < hgt b
  ·rw [if_pos k1,if_pos k1];rfl
  ·by_cases k2:hgt a > hgt b
   ·rw [if_neg k1,if_pos k2,if_neg k1,if_pos k2];rfl
   ·rw [if_neg k1,if_neg k2,if_neg k1,if_neg k2,if_pos rfl,<- hv']
    split
    ·rename_i h;exact h.symm
    ·rfl
 refine Run.k [4] [] ?_
 refine Run.r [4] ?_
 rw [e];exact⟨rfl,rfl⟩
def kR (r:LI):List Int:=r.take 4 ++ [0,0,0,0].drop r.length
def mlR (L:LL):List (MK×MV):=L.map fun r=>(MK.vec (kR r),MV.bool true)
theorem kR_inj {a b:LI} (h4:b.length<=4) (hl:a.length=b.length) (h:kR a=kR b):a=b:=by
 unfold kR at h
 rw [List.take_of_length_le om,List.take_of_length_le h4,hl]at h
 exact List.append_cancel_right h
theorem mlR_find {r:LI} (h4:r.length<=4):∀(L:LL) (i:Nat),(∀ z∈L,z.length=r.length)->(r∈L->∃ j,mfindI (mlR L) (.vec (kR r)) i=some (j,.bool true))/\(r∉L->mfindI (mlR L) (.vec (kR r)) i=none)
 | [],i,_=>⟨fun h=>by simp at h,fun _=>rfl⟩
 | z :: L,i,h=>by
  have ih:=mlR_find h4 L (i+1) fun y hy=>h y (mcM _ hy)
  show(_->∃ j,(if (MK.vec (kR r))=MK.vec (kR z)then some (i,MV.bool true)else mfindI (mlR L) (.vec (kR r)) (i+1))=_)/\(_->(if (MK.vec (kR r))=MK.vec (kR z)then some (i,MV.bool true)else mfindI (mlR L) (.vec (kR r)) (i+1))=none)
  by_cases e:r=z
  ·subst e
   rw [if_pos rfl]
   exact⟨fun _=>⟨i,rfl⟩,fun hn=>absurd (mcS ..) hn⟩
  ·have hne:¬MK.vec (kR r)=MK.vec (kR z):=fun hk=>e (kR_inj (by rw [h z (mcS ..)];exact h4) (h z (mcS ..)).symm (MK.vec.inj hk))
   rw [if_neg hne]
   refine⟨fun hm=>ih.1 ?_,fun hn=>ih.2 fun hm=>hn (mcM _ hm)⟩
   rcases List.mem_cons.1 hm with hm | hm
   ·exact absurd hm e
   ·exact hm
theorem mlR_get {r:LI} (h4:r.length<=4) {L:LL} (h:∀ z∈L,z.length=r.length):mgetB (mlR L) (.vec (kR r))=decide (r∈L):=by
 unfold mgetB mfind
 by_cases hm:r∈L
 ·obtain⟨j,e⟩:=(mlR_find h4 L 0 h).1 hm
  rw [e,decide_eq_true hm];rfl
 ·rw [(mlR_find h4 L 0 h).2 hm,decide_eq_false hm];rfl
theorem mlR_put {r:LI} (h4:r.length<=4) {L:LL} (h:∀ z∈L,z.length=r.length) (hm:r∉L):mput (mlR L) (.vec (kR r)) (.bool true)=mlR (L ++ [r]):=by
 unfold mput
 rw [(mlR_find h4 L 0 h).2 hm]
 simp [mlR]
def addX (H:Int) (xs:List (List Int×List Int)) (p:List Int×List Int):List (List Int×List Int):=if p.1∉xs.map (·.1)/\sgnR p.1=1/\hgt p.1<=H then xs ++ [p]else xs
def sumN:Nat->(Nat->Int)->Int
 | 0,_=>0
 | n+1,f=>sumN n f+f n
theorem sumN_succ (n:Nat) (f:Nat->Int):sumN (n+1) f=sumN n f+f n:=rfl
theorem sumN_congr {f g:Nat->Int}:∀ n,(∀ i,i < n->f i=g i)->sumN n f=sumN n g
 | 0,_=>rfl
 | n+1,h=>by unfold sumN;rw [sumN_congr n (fun i hi=>h i om),h n om]
theorem sumN_zero:∀ n,sumN n (fun _=>0)=0
 | 0=>rfl
 | n+1=>by unfold sumN;rw [sumN_zero n];rfl
theorem sumN_zero' {f:Nat->Int} (n:Nat) (h:∀ i,i < n->f i=0):sumN n f=0:=(sumN_congr n h).trans (sumN_zero n)
theorem sumN_add (f g:Nat->Int):∀ n,sumN n (fun i=>f i+g i)=sumN n f+sumN n g
 | 0=>rfl
 | n+1=>by simp only [sumN_succ];rw [sumN_add f g n];omega
theorem sumN_mul (m:Int) (f:Nat->Int):∀ n,sumN n (fun i=>m*f i)=m*sumN n f
 | 0=>by simp [sumN]
 | n+1=>by unfold sumN;rw [sumN_mul m f n,Int.mul_add]
theorem sumN_one {f:Nat->Int} {p:Nat}:∀ n,p < n->(∀ i,i < n->i≠p->f i=0)->sumN n f=f p
 | 0,h,_=>by omega
 | n+1,h,hf=>by
  unfold sumN
  by_cases e:p=n
  ·subst e
   rw [sumN_zero' p (fun i hi=>hf i om om)];omega
  ·rw [sumN_one n om (fun i hi=>hf i om),hf n om om];omega
def Gen (r:Nat) (S:Vec->Prop):Prop:=∃ g:Nat->Vec,∀ v,S v->∃ m:Int,m≠0/\∃ a:Nat->Int,∀ k,m*v k=sumN r (fun i=>a i*g i k)
def Ind (r:Nat) (S:Vec->Prop):Prop:=∃ h:Nat->Vec,(∀ j,j < r->S (h j))/\∀ x:Nat->Int,(∀ k,sumN r (fun j=>x j*h j k)=0)->∀ j,j < r->x j=0
theorem Ind.mono {r:Nat} {S T:Vec->Prop} (h:Ind r S) (hs:∀ v,S v->T v):Ind r T:=by
 obtain⟨g,h1,h2⟩:=h;exact⟨g,fun j hj=>hs _ (h1 j hj),h2⟩
theorem Gen.mono {r:Nat} {S T:Vec->Prop} (h:Gen r T) (hs:∀ v,S v->T v):Gen r S:=by
 obtain⟨g,h1⟩:=h;exact⟨g,fun v hv=>h1 v (hs v hv)⟩
def Sp (M:LL) (v:Vec):Prop:=∃ a:Nat->Int,∀ k,v k=sumN M.length (fun i=>a i*(M.getD i []).getD k 0)
theorem Sp.row {M:LL} {i:Nat} (h:i < M.length):Sp M (vecL (M.getD i [])):=
 ⟨fun j=>if j=i then 1 else 0,fun k=>by
  rw [sumN_one M.length h (fun j _ hj=>by simp only [];rw [if_neg hj,Int.zero_mul])]
  simp [vecL]⟩
theorem Sp.comb {M:LL} {u v:Vec} (hu:Sp M u) (hv:Sp M v) (x y:Int):Sp M (fun k=>x*u k+y*v k):=by
 obtain⟨a,ha⟩:=hu
 obtain⟨b,hb⟩:=hv
 refine⟨fun i=>x*a i+y*b i,fun k=>?_⟩
 simp only []
 rw [ha k,hb k,<- sumN_mul,<- sumN_mul,<- sumN_add]
 exact sumN_congr _ fun i _=>by grind
theorem Sp.sum {M:LL} {f:Nat->Vec} {x:Nat->Int}:∀ n,(∀ i,i < n->Sp M (f i))->Sp M (fun k=>sumN n (fun i=>x i*f i k))
 | 0,_=>⟨fun _=>0,fun k=>by rw [sumN_zero' _ fun i _=>by rw [Int.zero_mul]];rfl⟩
 | n+1,h=>by
  have:=Sp.comb (Sp.sum (x:=x) n (fun i hi=>h i om)) (h n om) 1 (x n)
  refine(congrArg (Sp M) (funext fun k=>?_)).mp this
  simp only [sumN_succ];omega
def Sub (M N:LL):Prop:=∀ i,i < M.length->∃ m:Int,m≠0/\Sp N (fun k=>m*(M.getD i []).getD k 0)
theorem prodN:∀(n:Nat) (m:Nat->Int),(∀ i,i < n->m i≠0)->∃ P:Int,P≠0/\∀ i,i < n->∃ q,P=q*m i
 | 0,_,_=>⟨1,by decide,fun i hi=>by omega⟩
 | n+1,m,h=>by
  obtain⟨P,h1,h2⟩:=prodN n m (fun i hi=>h i om)
  refine⟨P*m n,Int.mul_ne_zero h1 (h n om),fun i hi=>?_⟩
  by_cases e:i=n
  ·subst e;exact⟨P,rfl⟩
  ·obtain⟨q,hq⟩:=h2 i om
   exact⟨q*m n,by rw [hq];grind⟩
theorem Sub.sp {M N:LL} (h:Sub M N) {v:Vec} (hv:Sp M v):∃ m:Int,m≠0/\Sp N (fun k=>m*v k):=by
 obtain⟨a,ha⟩:=hv
 have hch:∀ i,∃ m:Int,m≠0/\(i < M.length->Sp N (fun k=>m*(M.getD i []).getD k 0)):=fun i=>by
  by_cases hi:i < M.length
  ·obtain⟨m,h1,h2⟩:=h i hi;exact⟨m,h1,fun _=>h2⟩
  ·exact⟨1,by decide,fun h=>absurd h hi⟩
 let m:Nat->Int:=fun i=>(hch i).choose
 have hm:∀ i,m i≠0:=fun i=>(hch i).choose_spec.1
 have hs:∀ i,i < M.length->Sp N (fun k=>m i*(M.getD i []).getD k 0):=fun i=>(hch i).choose_spec.2
 obtain⟨P,hP,hq⟩:=prodN M.length m (fun i _=>hm i)
 have hch2:∀ i,∃ q:Int,i < M.length->P=q*m i:=fun i=>by
  by_cases hi:i < M.length
  ·obtain⟨q,h1⟩:=hq i hi;exact⟨q,fun _=>h1⟩
  ·exact⟨0,fun h=>absurd h hi⟩
 let q:Nat->Int:=fun i=>(hch2 i).choose
 have hqs:∀ i,i < M.length->P=q i*m i:=fun i=>(hch2 i).choose_spec
 refine⟨P,hP,?_⟩
 have:=Sp.sum (M:=N) (f:=fun i k=>m i*(M.getD i []).getD k 0) (x:=fun i=>a i*q i) M.length hs
 refine(congrArg (Sp N) (funext fun k=>?_)).mp this
 rw [ha k,<- sumN_mul]
 exact sumN_congr _ fun i hi=>by rw [hqs i hi];grind
theorem Sub.trans {M N K:LL} (h:Sub M N) (k:Sub N K):Sub M K:=fun i hi=>by
 obtain⟨m,h1,h2⟩:=h i hi
 obtain⟨m',h3,h4⟩:=k.sp h2
 exact⟨m'*m,Int.mul_ne_zero h3 h1,(congrArg (Sp K) (funext fun k=>by grind)).mp h4⟩
theorem Sub.refl (M:LL):Sub M M:=fun i hi=>⟨1,by decide,(congrArg (Sp M) (funext fun k=>by simp [vecL])).mp (Sp.row hi)⟩
end Go.Proofs.YtcinngodeoidnaaGreat
