/- Absolute length, products, the absolute order: what the functions of both sides do. -/
import Derived.Test.YtcinngodeoidnaaGreatB18
import Derived.Test.YtcinngodeoidnaaGreatB9
import Derived.Test.YtcinngodeoidnaaGreatB13
import Derived.Test.YtcinngodeoidnaaGreatB16
set_option linter.unusedVariables false
set_option linter.unusedSimpArgs false
namespace Go.Proofs.YtcinngodeoidnaaGreat
open Go Go.Aw Go.Cox
noncomputable def absN (c:LL) (w:LI):Int:=if wordB c w && isF c then((rkG rowI c.length (fxM c w) 0 0:Nat):Int)else -1
theorem absN_fix (c:LL) (w:LI):(fixN c w < 0/\absN c w = -1)\/(0<=fixN c w/\absN c w=(c.length:Int) - fixN c w/\fixN c w<=c.length):=by
 unfold fixN absN
 cases h:wordB c w && isF c with
 | false=>left;simp
 | true=>
  right
  have hl:=rkG_le rowI c.length (fxM c w) 0 0 (nz0 _)
  have e:(fxM c w).length=c.length:=by simp [fxM]
  rw [e]at hl
  simp only [if_true]
  omega
theorem absN_bnd (c:LL) (w:LI):-1<=absN c w/\absN c w<=4:=by
 unfold absN
 cases h:wordB c w && isF c with
 | false=>simp
 | true=>
  have hl:=rkG_le rowI c.length (fxM c w) 0 0 (nz0 _)
  have e:(fxM c w).length=c.length:=by simp [fxM]
  rw [e]at hl
  simp only [bAnd]at h
  have hn:=(wordB_iff.1 h.1).1.2.1
  simp only [if_true]
  omega
noncomputable def mulB (c:LL) (a b:LI):Bool:=wordB c a && wordB c b && decide ((redL c (a ++ b)).length<=15)
noncomputable def mulX (c:LL) (a b:LI):List Int:=if mulB c a b then redL c (a ++ b)else []
theorem mul_off {c:LL} {a b:LI} (h:(wordB c a && wordB c b)=false):mulB c a b=false/\mulX c a b=[]:=by
 have:mulB c a b=false:=by unfold mulB;rw [h];rfl
 exact⟨this,by simp [mulX,this]⟩
theorem mul_on {c:LL} {a b:LI} (h:(wordB c a && wordB c b)=true):mulB c a b=decide ((redL c (a ++ b)).length<=15)/\mulX c a b=if (redL c (a ++ b)).length<=15 then redL c (a ++ b)else []:=by
 have:mulB c a b=decide ((redL c (a ++ b)).length<=15):=by unfold mulB;rw [h];rfl
 exact⟨this,by simp [mulX,this]⟩
theorem mulX_le (c:LL) (a b:LI):(mulX c a b).length<=15:=by
 unfold mulX
 split
 ·rename_i h;simp only [mulB,bAnd,dtE]at h;exact h.2
 ·simp
theorem c_impl_AbsoluteLength (c:LL) (w:LI) (hcl:c.length<=1048576) :
  FunA B 23 [.sl false (.row false) c,.sl false .int w] (fun rs o=>rs=[.int .i64 (absN c w)]/\o=[]):=by
 refine wk Tryz.call23 Tryz.func23 rfl Tryz.ntmps23 fun C hC hP hT hfn hpin hfin hX=>wW ?_
 refine Run.R ?_
 refine Run.g fun K hK=>?_
 refine FunA.e hP hT (c_impl_FixedRank c w hcl) ?_
 refine wE ?_;clear hK K
 refine Run.R ?_
 refine Run.c ?_ ?_
 ·intro h
  have h:fixN c w < 0:=by rw [dtE]at h;exact h
  have e:absN c w = -1:=by rcases absN_fix c w with h1 | h1<;>omega
  refine Run.R ?_
  refine Run.r [4] ?_
  rw [e];exact⟨rfl,rfl⟩
 intro h
 have h:¬fixN c w < 0:=by rw [dfE]at h;exact h
 have e:absN c w=(c.length:Int) - fixN c w/\fixN c w<=c.length:=by rcases absN_fix c w with h1 | h1<;>omega
 refine Run.RW ?_
 refine Run.r [4] ?_
 rw [e.1];exact⟨rfl,rfl⟩
theorem c_impl_MultiplyElements (c:LL) (a b:LI) (hcl:c.length<=1048576) :
  FunA B 94 [.sl false (.row false) c,.sl false .int a,.sl false .int b] (fun rs o=>rs=[.own 0 0,.bool (mulB c a b)]/\o=[.arr .int (mulX c a b) 0 true]):=by
 refine wk Tryz.call94 Tryz.func94 rfl Tryz.ntmps94 fun C hC hP hT hfn hpin hfin hX=>wW ?_
 refine Run.R ?_
 by_cases ha:wordB c a=true
 rotate_left
 ·have ha:wordB c a=false:=by simpa using ha
  obtain⟨e1,e2⟩:=mul_off (c:=c) (a:=a) (b:=b) (by rw [ha];rfl)
  refine Run.g fun K hK=>?_
  refine FunA.cW hP hT (c_impl_IsWord c a) ?_
  rintro rs o ⟨rfl,rfl⟩
  simp only [ha]
  refine wW ?_
  refine .inl (CallG.off (.bool false) ?_)
  refine wF ?_;clear hK K
  refine Run.c ?_ ?_
  rotate_left
  ·intro h;cases h
  intro _
  refine Run.R ?_
  refine Run.k [6,7] [0] ?_
  refine Run.r [6,7] ?_
  rw [e1,e2];exact⟨rfl,rfl⟩
 refine Run.g fun K hK=>?_
 refine FunA.cW hP hT (c_impl_IsWord c a) ?_
 rintro rs o ⟨rfl,rfl⟩
 simp only [ha]
 refine wW ?_
 refine .inr ⟨rfl,?_⟩
 refine FunA.e hP hT (c_impl_IsWord c b) ?_
 refine wE ?_;clear hK K
 refine Run.c ?_ ?_
 ·intro h
  have hb:wordB c b=false:=by simpa using h
  obtain⟨e1,e2⟩:=mul_off (c:=c) (a:=a) (b:=b) (by rw [ha,hb];rfl)
  refine Run.R ?_
  refine Run.k [6,7] [0] ?_
  refine Run.r [6,7] ?_
  rw [e1,e2];exact⟨rfl,rfl⟩
 intro h
 have hb:wordB c b=true:=by simpa using h
 obtain⟨e1,e2⟩:=mul_on (c:=c) (a:=a) (b:=b) (by rw [ha,hb];rfl)
 obtain⟨hc,a1,a2⟩:=wordB_iff.1 ha
 obtain⟨_,b1,b2⟩:=wordB_iff.1 hb
 have hlet:letters c.length (a ++ b):=letters_append.2 ⟨a2,b2⟩
 have hll:(a ++ b).length<=30:=by simp;omega
 refine Run.g fun K hK=>?_
 refine FunA.cW hP hT (c_impl_ConcatWords a b om om) ?_
 rintro rs o ⟨nn2,rfl,rfl⟩
 refine wW ?_
 refine FunA.e hP hT (c_impl_reduced c (a ++ b) hc hlet om) ?_
 refine wE ?_;clear hK K
 refine Run.R ?_
 refine Run.c ?_ ?_
 ·intro h
  have h:¬(redL c (a ++ b)).length<=15:=by simp at h;omega
  refine Run.R ?_
  refine Run.k [6,7] [2] ?_
  refine Run.r [6,7] ?_
  rw [e1,e2,if_neg h];exact⟨by simp [h],rfl⟩
 intro h
 have h:(redL c (a ++ b)).length<=15:=by simp at h;omega
 refine Run.R ?_
 refine Run.k [6,7] [1] ?_
 refine Run.r [6,7] ?_
 rw [e1,e2,if_pos h];exact⟨by simp [h],rfl⟩
theorem c_spec_AbsoluteLength (c:LL) (w:LI) (hcl:c.length<=1048576) :
  FunA B 24 [.sl false (.row false) c,.sl false .int w] (fun rs o=>rs=[.int .i64 (absN c w)]/\o=[]):=by
 refine wk Tryz.call24 Tryz.func24 rfl Tryz.ntmps24 fun C hC hP hT hfn hpin hfin hX=>wW ?_
 refine Run.R ?_
 refine Run.g fun K hK=>?_
 refine FunA.e hP hT (c_spec_FixedRank c w hcl) ?_
 refine wE ?_;clear hK K
 refine Run.R ?_
 refine Run.c ?_ ?_
 ·intro h
  have h:fixN c w < 0:=by rw [dtE]at h;exact h
  have e:absN c w = -1:=by rcases absN_fix c w with h1 | h1<;>omega
  refine Run.R ?_
  refine Run.r [4] ?_
  rw [e];exact⟨rfl,rfl⟩
 intro h
 have h:¬fixN c w < 0:=by rw [dfE]at h;exact h
 have e:absN c w=(c.length:Int) - fixN c w/\fixN c w<=c.length:=by rcases absN_fix c w with h1 | h1<;>omega
 refine Run.RW ?_
 refine Run.r [4] ?_
 rw [e.1];exact⟨rfl,rfl⟩
theorem c_spec_MultiplyElements (c:LL) (a b:LI) (hcl:c.length<=1048576) :
  FunA B 27 [.sl false (.row false) c,.sl false .int a,.sl false .int b] (fun rs o=>rs=[.own 0 0,.bool (mulB c a b)]/\o=[.arr .int (mulX c a b) 0 true]):=by
 refine wk Tryz.call27 Tryz.func27 rfl Tryz.ntmps27 fun C hC hP hT hfn hpin hfin hX=>wW ?_
 refine Run.R ?_
 by_cases ha:wordB c a=true
 rotate_left
 ·have ha:wordB c a=false:=by simpa using ha
  obtain⟨e1,e2⟩:=mul_off (c:=c) (a:=a) (b:=b) (by rw [ha];rfl)
  refine Run.g fun K hK=>?_
  refine FunA.cW hP hT (c_spec_IsWord c a hcl) ?_
  rintro rs o ⟨rfl,rfl⟩
  simp only [ha]
  refine wW ?_
  refine .inl (CallG.off (.bool false) ?_)
  refine wF ?_;clear hK K
  refine Run.c ?_ ?_
  rotate_left
  ·intro h;cases h
  intro _
  refine Run.R ?_
  refine Run.k [6,7] [0] ?_
  refine Run.r [6,7] ?_
  rw [e1,e2];exact⟨rfl,rfl⟩
 refine Run.g fun K hK=>?_
 refine FunA.cW hP hT (c_spec_IsWord c a hcl) ?_
 rintro rs o ⟨rfl,rfl⟩
 simp only [ha]
 refine wW ?_
 refine .inr ⟨rfl,?_⟩
 refine FunA.e hP hT (c_spec_IsWord c b hcl) ?_
 refine wE ?_;clear hK K
 refine Run.c ?_ ?_
 ·intro h
  have hb:wordB c b=false:=by simpa using h
  obtain⟨e1,e2⟩:=mul_off (c:=c) (a:=a) (b:=b) (by rw [ha,hb];rfl)
  refine Run.R ?_
  refine Run.k [6,7] [0] ?_
  refine Run.r [6,7] ?_
  rw [e1,e2];exact⟨rfl,rfl⟩
 intro h
 have hb:wordB c b=true:=by simpa using h
 obtain⟨e1,e2⟩:=mul_on (c:=c) (a:=a) (b:=b) (by rw [ha,hb];rfl)
 obtain⟨hc,a1,a2⟩:=wordB_iff.1 ha
 obtain⟨_,b1,b2⟩:=wordB_iff.1 hb
 have hlet:letters c.length (a ++ b):=letters_append.2 ⟨a2,b2⟩
 have hll:(a ++ b).length<=30:=by simp;omega
 refine Run.g fun K hK=>?_
 refine FunA.e hP hT (c_spec_ConcatWords a b om om) ?_
 refine FunA.e hP hT (c_spec_l9Fit c (a ++ b) hc hlet om) ?_
 refine wE ?_;clear hK K
 refine Run.R ?_
 refine Run.k [6,7] [1] ?_
 refine Run.r [6,7] ?_
 rw [e1,e2];exact⟨rfl,rfl⟩
noncomputable def abB (c:LL) (u v:LI):Bool:=wordB c u && wordB c v && isF c && mulB c u.reverse v && (absN c u+absN c (mulX c u.reverse v) == absN c v)
set_option maxHeartbeats 1000000 in
theorem c_impl_IsAbsoluteBelow (c:LL) (u v:LI) (hcl:c.length<=1048576) :
  FunA B 33 [.sl false (.row false) c,.sl false .int u,.sl false .int v] (fun rs o=>rs=[.bool (abB c u v)]/\o=[]):=by
 refine wk Tryz.call33 Tryz.func33 rfl Tryz.ntmps33 fun C hC hP hT hfn hpin hfin hX=>wW ?_
 refine Run.R ?_
 by_cases hu:wordB c u=true
 rotate_left
 ·have hu:wordB c u=false:=by simpa using hu
  have e:abB c u v=false:=by unfold abB;rw [hu];rfl
  refine Run.g fun K hK=>?_
  refine FunA.cW hP hT (c_impl_IsWord c u) ?_
  rintro rs o ⟨rfl,rfl⟩
  simp only [hu]
  refine wW ?_
  refine .inl (CallG.off (.bool false) ?_)
  refine wW ?_
  refine .inl (CallG.off (.bool false) ?_)
  refine wF ?_;clear hK K
  refine Run.c ?_ ?_
  rotate_left
  ·intro h;cases h
  intro _
  refine Run.R ?_
  refine Run.r [6] ?_
  rw [e];exact⟨rfl,rfl⟩
 by_cases hv:wordB c v=true
 rotate_left
 ·have hv:wordB c v=false:=by simpa using hv
  have e:abB c u v=false:=by unfold abB;rw [hu,hv];rfl
  refine Run.g fun K hK=>?_
  refine FunA.cW hP hT (c_impl_IsWord c u) ?_
  rintro rs o ⟨rfl,rfl⟩
  simp only [hu]
  refine wW ?_
  refine .inr ⟨rfl,?_⟩
  refine FunA.cW hP hT (c_impl_IsWord c v) ?_
  rintro rs o ⟨rfl,rfl⟩
  simp only [hv]
  refine wW ?_
  refine .inl (CallG.off (.bool false) ?_)
  refine wF ?_;clear hK K
  refine Run.c ?_ ?_
  rotate_left
  ·intro h;cases h
  intro _
  refine Run.R ?_
  refine Run.r [6] ?_
  rw [e];exact⟨rfl,rfl⟩
 refine Run.g fun K hK=>?_
 refine FunA.cW hP hT (c_impl_IsWord c u) ?_
 rintro rs o ⟨rfl,rfl⟩
 simp only [hu]
 refine wW ?_
 refine .inr ⟨rfl,?_⟩
 refine FunA.cW hP hT (c_impl_IsWord c v) ?_
 rintro rs o ⟨rfl,rfl⟩
 simp only [hv]
 refine wW ?_
 refine .inr ⟨rfl,?_⟩
 refine FunA.e hP hT (c_impl_IsFinite c) ?_
 refine wE ?_;clear hK K
 refine Run.c ?_ ?_
 ·intro h
  have hf:isF c=false:=by simpa using h
  have e:abB c u v=false:=by unfold abB;rw [hu,hv,hf];rfl
  refine Run.R ?_
  refine Run.r [6] ?_
  rw [e];exact⟨rfl,rfl⟩
 intro h
 have hf:isF c=true:=by simpa using h
 obtain⟨hc,u1,u2⟩:=wordB_iff.1 hu
 have e:abB c u v=(mulB c u.reverse v && (absN c u+absN c (mulX c u.reverse v) == absN c v)):=by unfold abB;rw [hu,hv,hf];rfl
 have hx:=mulX_le c u.reverse v
 have n1:=absN_bnd c u
 have n2:=absN_bnd c v
 have n3:=absN_bnd c (mulX c u.reverse v)
 refine Run.g fun K hK=>?_
 refine FunA.e hP hT (c_impl_ReverseWord u om) ?_
 refine FunA.e hP hT (c_impl_MultiplyElements c u.reverse v hcl) ?_
 refine wE ?_;clear hK K
 cases hm:mulB c u.reverse v with
 | false=>
  refine Run.g fun K hK=>?_
  refine .inl (CallG.off (.int .i64 0) ?_)
  refine wW ?_
  refine .inl (CallG.off (.int .i64 0) ?_)
  refine wW ?_
  refine .inl (CallG.off (.int .i64 0) ?_)
  refine wF ?_;clear hK K
  refine Run.k [6] [] ?_
  refine Run.r [6] ?_
  rw [e,hm];exact⟨rfl,rfl⟩
 | true=>
  refine Run.g fun K hK=>?_
  refine .inr ⟨rfl,?_⟩
  refine FunA.e hP hT (c_impl_AbsoluteLength c u hcl) ?_
  refine .inr ⟨rfl,?_⟩
  refine FunA.cW hP hT (c_impl_AbsoluteLength c (mulX c u.reverse v) hcl) ?_
  rintro rs o ⟨rfl,rfl⟩
  refine wWW ?_
  refine .inr ⟨rfl,?_⟩
  refine FunA.e hP hT (c_impl_AbsoluteLength c v hcl) ?_
  refine wE ?_;clear hK K
  refine Run.k [6] [] ?_
  refine Run.r [6] ?_
  rw [e,hm];exact⟨rfl,rfl⟩
set_option maxHeartbeats 1000000 in
theorem c_spec_IsAbsoluteBelow (c:LL) (u v:LI) (hcl:c.length<=1048576) :
  FunA B 34 [.sl false (.row false) c,.sl false .int u,.sl false .int v] (fun rs o=>rs=[.bool (abB c u v)]/\o=[]):=by
 refine wk Tryz.call34 Tryz.func34 rfl Tryz.ntmps34 fun C hC hP hT hfn hpin hfin hX=>wW ?_
 refine Run.R ?_
 by_cases hu:wordB c u=true
 rotate_left
 ·have hu:wordB c u=false:=by simpa using hu
  have e:abB c u v=false:=by unfold abB;rw [hu];rfl
  refine Run.g fun K hK=>?_
  refine FunA.cW hP hT (c_spec_IsWord c u hcl) ?_
  rintro rs o ⟨rfl,rfl⟩
  simp only [hu]
  refine wW ?_
  refine .inl (CallG.off (.bool false) ?_)
  refine wW ?_
  refine .inl (CallG.off (.bool false) ?_)
  refine wF ?_;clear hK K
  refine Run.c ?_ ?_
  rotate_left
  ·intro h;cases h
  intro _
  refine Run.R ?_
  refine Run.r [6] ?_
  rw [e];exact⟨rfl,rfl⟩
 by_cases hv:wordB c v=true
 rotate_left
 ·have hv:wordB c v=false:=by simpa using hv
  have e:abB c u v=false:=by unfold abB;rw [hu,hv];rfl
  refine Run.g fun K hK=>?_
  refine FunA.cW hP hT (c_spec_IsWord c u hcl) ?_
  rintro rs o ⟨rfl,rfl⟩
  simp only [hu]
  refine wW ?_
  refine .inr ⟨rfl,?_⟩
  refine FunA.cW hP hT (c_spec_IsWord c v hcl) ?_
  rintro rs o ⟨rfl,rfl⟩
  simp only [hv]
  refine wW ?_
  refine .inl (CallG.off (.bool false) ?_)
  refine wF ?_;clear hK K
  refine Run.c ?_ ?_
  rotate_left
  ·intro h;cases h
  intro _
  refine Run.R ?_
  refine Run.r [6] ?_
  rw [e];exact⟨rfl,rfl⟩
 refine Run.g fun K hK=>?_
 refine FunA.cW hP hT (c_spec_IsWord c u hcl) ?_
 rintro rs o ⟨rfl,rfl⟩
 simp only [hu]
 refine wW ?_
 refine .inr ⟨rfl,?_⟩
 refine FunA.cW hP hT (c_spec_IsWord c v hcl) ?_
 rintro rs o ⟨rfl,rfl⟩
 simp only [hv]
 refine wW ?_
 refine .inr ⟨rfl,?_⟩
 refine FunA.e hP hT (c_spec_IsFinite c) ?_
 refine wE ?_;clear hK K
 refine Run.c ?_ ?_
 ·intro h
  have hf:isF c=false:=by simpa using h
  have e:abB c u v=false:=by unfold abB;rw [hu,hv,hf];rfl
  refine Run.R ?_
  refine Run.r [6] ?_
  rw [e];exact⟨rfl,rfl⟩
 intro h
 have hf:isF c=true:=by simpa using h
 obtain⟨hc,u1,u2⟩:=wordB_iff.1 hu
 have e:abB c u v=(mulB c u.reverse v && (absN c u+absN c (mulX c u.reverse v) == absN c v)):=by unfold abB;rw [hu,hv,hf];rfl
 have hx:=mulX_le c u.reverse v
 have n1:=absN_bnd c u
 have n2:=absN_bnd c v
 have n3:=absN_bnd c (mulX c u.reverse v)
 refine Run.g fun K hK=>?_
 refine FunA.e hP hT (c_spec_ReverseWord u om) ?_
 refine FunA.e hP hT (c_spec_MultiplyElements c u.reverse v hcl) ?_
 refine wE ?_;clear hK K
 cases hm:mulB c u.reverse v with
 | false=>
  refine Run.g fun K hK=>?_
  refine .inl (CallG.off (.int .i64 0) ?_)
  refine wW ?_
  refine .inl (CallG.off (.int .i64 0) ?_)
  refine wW ?_
  refine .inl (CallG.off (.int .i64 0) ?_)
  refine wF ?_;clear hK K
  refine Run.k [6] [] ?_
  refine Run.r [6] ?_
  rw [e,hm];exact⟨rfl,rfl⟩
 | true=>
  refine Run.g fun K hK=>?_
  refine .inr ⟨rfl,?_⟩
  refine FunA.e hP hT (c_spec_AbsoluteLength c u hcl) ?_
  refine .inr ⟨rfl,?_⟩
  refine FunA.cW hP hT (c_spec_AbsoluteLength c (mulX c u.reverse v) hcl) ?_
  rintro rs o ⟨rfl,rfl⟩
  refine wWW ?_
  refine .inr ⟨rfl,?_⟩
  refine FunA.e hP hT (c_spec_AbsoluteLength c v hcl) ?_
  refine wE ?_;clear hK K
  refine Run.k [6] [] ?_
  refine Run.r [6] ?_
  rw [e,hm];exact⟨rfl,rfl⟩
theorem c_big (code:LI):FunA B 7 [.sl false .byte code] (fun rs o=>rs=[.bool (decide (1048576 < code.length))]/\o=[]):=by
 refine wk Tryz.call7 Tryz.func7 rfl Tryz.ntmps7 fun C hC hP hT hfn hpin hfin hX=>wW ?_
 refine Run.R ?_
 refine Run.R ?_
 refine Run.r [2] ?_
 have:decide ((1048576:Int) < (code.length:Int))=decide (1048576 < code.length):=by
  by_cases h:1048576 < code.length
  ·rw [decide_eq_true h,decide_eq_true];omega
  ·rw [decide_eq_false h,decide_eq_false];omega
 first | exact⟨by rw [this],rfl⟩ | simpa using this
theorem c_sameInts (p q:LI) (hp:p.length<=4503599627370496):FunA B 11 [.sl false .int p,.sl false .int q] (fun rs o=>rs=[.bool (p == q)]/\o=[]):=by
 refine wk Tryz.call11 Tryz.func11 rfl Tryz.ntmps11 fun C hC hP hT hfn hpin hfin hX=>wW ?_
 refine Run.R ?_
 refine Run.R ?_
 refine Run.c ?_ ?_
 ·intro hc
  refine Run.R ?_
  refine Run.r [4] ?_
  have:p≠q:=fun h=>by simp [h]at hc
  simpa using this
 intro hc
 have hl:p.length=q.length:=by simp at hc;omega
 refine Run.R ?_
 refine Run.loopI (X:=Nat) (fun i=>⟨26,[(0,true,.v (.sl false .int p)),(1,true,.v (.sl false .int q)),(5,true,.v (.int .i64 i)),(4,true,.v (.bool false))],[]⟩) (fun i=>i<=p.length/\p.take i=q.take i) (fun i=>p.length - i) (0) (⟨nz0 _,rfl⟩) ?_ ?_
 ·exact Le.s
 rintro i ⟨hi,ht⟩ ih
 try simp only []
 refine Run.R ?_
 refine Run.c ?_ ?_
 ·intro hc2
  have hc2:i < p.length:=by simpa using hc2
  refine Run.nq ?_;refine Run.regionD hC true [0,1,2,3,4,5,6,7,8] (by kernel_rfl) (fun K hK=>?_);simp only [AW7,simprocAttr,hX];(repeat(with_reducible refine And.intro ?_ ?_);exact vc0);refine wE ?_;clear hK K
  refine Run.c ?_ ?_
  ·intro hne
   refine Run.R ?_
   refine Run.r [4] ?_
   have:p≠q:=fun h=>by simp [h]at hne
   simpa using this
  ·intro he
   have he:p.getD i 0=q.getD i 0:=by simpa using he
   have ht2:p.take (i+1)=q.take (i+1):=by rw [<- take_snoc 0 p i hc2,<- take_snoc 0 q i om,ht,he]
   refine Run.RW ?_
   exact Run.j (ih (i+1) (⟨hc2,ht2⟩) mz)
 ·intro hc2
  have hc2:i=p.length:=by simp at hc2;omega
  refine Run.x ?_
  refine Run.R ?_
  refine Run.r [4] ?_
  subst hc2
  rw [tkL,hl,tkL]at ht
  simpa using ht
theorem c_spec_LengthOf (c:LL) (w:LI) (hcl:c.length<=1048576) :
  FunA B 29 [.sl false (.row false) c,.sl false .int w] (fun rs o=>rs=[.int .i64 (if wordB c w=true then((redL c w).length:Int)else -1)]/\o=[]):=by
 refine wk Tryz.call29 Tryz.func29 rfl Tryz.ntmps29 fun C hC hP hT hfn hpin hfin hX=>wW ?_
 refine Run.R ?_
 refine Run.g fun K hK=>?_
 refine FunA.e hP hT (c_spec_NormalForm c w hcl) ?_
 refine wE ?_;clear hK K
 refine Run.R ?_
 refine Run.c ?_ ?_
 ·intro h
  have h:wordB c w=false:=by simpa using h
  refine Run.R ?_
  refine Run.k [4] [] ?_
  refine Run.r [4] ?_
  simp [h]
 intro h
 have h:wordB c w=true:=by simpa using h
 refine Run.R ?_
 refine Run.k [4] [] ?_
 refine Run.r [4] ?_
 simp [nfW,h]
theorem getD_take {α:Type} {d:α} {p q:List α} {i:Nat} (hp:i < p.length) (hq:i < q.length) (ht:p.take i=q.take i) (he:p.getD i d=q.getD i d):p.take (i+1)=q.take (i+1):=by rw [<- take_snoc d p i hp,<- take_snoc d q i hq,ht,he]
theorem c_sameWords (p q:LL) (hp:p.length<=4503599627370496) (hr:∀ r∈p,r.length<=4503599627370496):FunA B 19 [.sl false (.row false) p,.sl false (.row false) q] (fun rs o=>rs=[.bool (p == q)]/\o=[]):=by
 refine wk Tryz.call19 Tryz.func19 rfl Tryz.ntmps19 fun C hC hP hT hfn hpin hfin hX=>wW ?_
 refine Run.R ?_
 refine Run.R ?_
 refine Run.c ?_ ?_
 ·intro hc
  refine Run.R ?_
  refine Run.r [4] ?_
  have:p≠q:=fun h=>by simp [h]at hc
  simpa using this
 intro hc
 have hl:p.length=q.length:=by simp at hc;omega
 refine Run.R ?_
 refine Run.loopI (X:=Nat) (fun i=>⟨27,[(0,true,.v (.sl false (.row false) p)),(1,true,.v (.sl false (.row false) q)),(5,true,.v (.int .i64 i)),(4,true,.v (.bool false))],[]⟩) (fun i=>i<=p.length/\p.take i=q.take i) (fun i=>p.length - i) (0) (⟨nz0 _,rfl⟩) ?_ ?_
 ·exact Le.s
 rintro i ⟨hi,ht⟩ ih
 try simp only []
 refine Run.R ?_
 refine Run.c ?_ ?_
 ·intro hc2
  have hc2:i < p.length:=by simpa using hc2
  have hri:(p.getD i []).length<=4503599627370496:=by
   rw [gdE,geE hc2]
   exact hr _ (List.getElem_mem hc2)
  refine Run.nq ?_;refine Run.regionD hC true [0,1,2,3,4,5,6,7,8,9] (by kernel_rfl) (fun K hK=>?_);simp only [AW7,simprocAttr,hX];(repeat(with_reducible refine And.intro ?_ ?_);exact vc0)
  refine FunA.callD hP hT (c_sameInts (p.getD i []) (q.getD i []) hri) (by simp only [AW7,simprocAttr]) ?_
  rintro rs o ⟨rfl,rfl⟩
  refine wF ?_;clear hK K
  refine Run.c ?_ ?_
  ·intro hne
   refine Run.R ?_
   refine Run.r [4] ?_
   have:p≠q:=fun h=>by simp [h]at hne
   simpa using this
  ·intro he
   have he:p.getD i []=q.getD i []:=by simpa using he
   have ht2:=getD_take hc2 om ht he
   refine Run.RW ?_
   exact Run.j (ih (i+1) (⟨hc2,ht2⟩) mz)
 ·intro hc2
  have hc2:i=p.length:=by simp at hc2;omega
  refine Run.x ?_
  refine Run.R ?_
  refine Run.r [4] ?_
  subst hc2
  rw [tkL,hl,tkL]at ht
  simpa using ht
noncomputable def sameB (c:LL) (u v:LI):Bool:=wordB c u && wordB c v && (imageL c u == imageL c v)
theorem c_impl_same (c:LL) (u v:LI) (hc:CartanP c) (hu:letters c.length u) (hv:letters c.length v) (hul:u.length<=31) (hvl:v.length<=31) :
  FunA B 84 [.sl false (.row false) c,.sl false .int u,.sl false .int v] (fun rs o=>rs=[.bool (imageL c u == imageL c v)]/\o=[]):=by
 have hn:=hc.2.1
 refine wk Tryz.call84 Tryz.func84 rfl Tryz.ntmps84 fun C hC hP hT hfn hpin hfin hX=>wW ?_
 refine Run.R ?_
 refine Run.g fun K hK=>?_
 refine FunA.e hP hT (c_impl_image c u hc hu hul) ?_
 refine FunA.e hP hT (c_impl_image c v hc hv hvl) ?_
 refine FunA.callW hP hT (c_slices_Equal (imageL c u) (imageL c v) (by rw [imageL_length];omega)) (by simp only [AW7,simprocAttr];first | done | decide | exact⟨rfl,rfl⟩) ?_
 rintro rs o ⟨rfl,rfl⟩
 refine wF ?_;clear hK K
 refine Run.k [6] [] ?_
 refine Run.r [6] ?_
 exact⟨rfl,rfl⟩
theorem c_impl_AreSame (c:LL) (u v:LI) (hcl:c.length<=1048576) :
  FunA B 28 [.sl false (.row false) c,.sl false .int u,.sl false .int v] (fun rs o=>rs=[.bool (sameB c u v)]/\o=[]):=by
 refine wk Tryz.call28 Tryz.func28 rfl Tryz.ntmps28 fun C hC hP hT hfn hpin hfin hX=>wW ?_
 refine Run.R ?_
 refine Run.g fun K hK=>?_
 refine FunA.cW hP hT (c_impl_IsWord c u) ?_
 rintro rs o ⟨rfl,rfl⟩
 cases hu:wordB c u with
 | false=>
  refine wW ?_
  refine .inl (CallG.off (.bool false) ?_)
  refine wW ?_
  refine .inl (CallG.off (.bool false) ?_)
  refine wF ?_;clear hK K
  refine Run.r [6] ?_
  simp [sameB,hu]
 | true=>
  refine wW ?_
  refine .inl (FunA.callG hP hT (c_impl_IsWord c v) (fun _=>rfl) (fun _=>by simp only [AW7,simprocAttr]) ?_)
  cases hv:wordB c v with
  | false=>
   refine wW ?_
   refine .inl (CallG.off (.bool false) ?_)
   refine wF ?_;clear hK K
   refine Run.r [6] ?_
   simp [sameB,hu,hv]
  | true=>
   obtain⟨hc,h1,h2⟩:=wordB_iff.1 hu
   obtain⟨_,h3,h4⟩:=wordB_iff.1 hv
   refine wW ?_
   refine .inl (FunA.callG hP hT (c_impl_same c u v hc (by assumption) (by assumption) om om) (fun _=>rfl) (fun _=>by simp only [AW7,simprocAttr]) ?_)
   refine wF ?_;clear hK K
   refine Run.r [6] ?_
   simp [sameB,hu,hv]
theorem jn12 {C:Ctx} {k k':List Item} {σ σ':St} (rest:Run C k' σ') (h:Run C k' σ'->Run C k σ):Run C k σ:=h rest
theorem c_spec_RootSequence (c:LL) (w:LI) (hW:WordP c w) :
  FunA B 104 [.sl false (.row false) c,.sl false .int w] (fun rs o=>rs=[.own 0 0]/\∃ ys,ys.map (·.2)=seqL c w/\o=[.arr .lrow ys 0 true]):=by
 have hc:=hW.1
 have hn:=hc.2.1
 have hwl:=hW.2.1
 have hwb:wordB c w=true:=wordB_iff.2 hW
 refine wk Tryz.call104 Tryz.func104 rfl Tryz.ntmps104 fun C hC hP hT hfn hpin hfin hX=>wW ?_
 refine Run.R ?_
 refine Run.R ?_
 refine Run.R ?_
 refine Run.loopI (X:=Nat×List (Nat×List Int)) (fun m=>⟨36,[(0,true,.v (.sl false (.row false) c)),(1,true,.v (.sl false .int w)),(4,true,.v (.nils)),(5,true,.v (.own 0 0)),(6,true,.v (.int .i64 (m.1)))],[.arr .lrow (m.2) 0 true]⟩) (fun m=>m.1<=w.length/\m.2.map (·.2)=(List.range m.1).map (sq c w)) (fun m=>w.length - m.1) ((0,[])) (⟨nz0 _,rfl⟩) ?_ ?_
 ·exact Le.s
 rintro⟨m,ys⟩ ⟨hm,hy⟩ ih
 try simp only []
 simp only []at hm hy
 have hyl:ys.length=m:=by have:=congrArg List.length hy;simpa using this
 by_cases h:m < w.length
 ·have e1:decide ((m:Int) < w.length)=true:=by rw [dtE];omega
  have hlet:=letters_getD.1 hW.2.2 m h
  have hsl:=simL_len c.length (w.getD m 0).toNat
  refine Run.g fun K hK=>?_
  simp only [e1]
  refine .inr ⟨rfl,?_⟩
  refine FunA.cW hP hT (c_spec_IsWord c w om) ?_
  rintro rs o ⟨rfl,rfl⟩
  simp only [hwb]
  refine wF ?_;clear hK K
  refine Run.c ?_ ?_
  rotate_left
  ·intro h;cases h
  intro _
  refine Run.nq ?_;refine Run.regionD hC true [0,1,2,3,4,5,6,7,8,9,10,11] (by kernel_rfl) (fun K hK=>?_);simp only [AW7,simprocAttr,hX];(repeat(with_reducible refine And.intro ?_ ?_);exact vc0)
  refine FunA.callD hP hT (c_spec_SimpleRoot c (w.getD m 0) hc hlet) (by simp only [AW7,simprocAttr]) ?_
  rintro rs o ⟨rfl,rfl⟩
  refine wW ?_
  rw [show List.take (m - 0) (List.drop 0 w)=w.take m by simp]
  refine FunA.callD hP hT (c_spec_ActOnRoot c (w.take m) (simL c.length (w.getD m 0).toNat) (word_take hW m) hsl (seq_small hW m _)) (by simp only [AW7,simprocAttr]) ?_
  rintro rs o ⟨rfl,rfl⟩
  refine wF ?_;clear hK K
  refine Run.g fun K hK=>?_
  intro l hl
  refine wF ?_;clear hK K
  refine Run.RW ?_
  refine Run.k [0,1,4,5,6] [0] ?_
  exact Run.j (ih ((m+1,ys ++ [(l,sq c w m)])) (⟨h,by rw [List.map_append,hy];exact range_snoc (sq c w) m⟩) mz)
 ·have h:m=w.length:=by omega
  subst h
  have e1:decide ((w.length:Int) < w.length)=false:=by rw [dfE];omega
  refine Run.g fun K hK=>?_
  simp only [e1]
  refine .inl (CallG.off (.bool false) ?_)
  refine wF ?_;clear hK K
  refine Run.c ?_ ?_
  ·intro h;cases h
  intro _
  refine Run.x ?_
  refine Run.R ?_
  refine Run.k [4] [0] ?_
  refine Run.r [4] ?_
  exact⟨rfl,ys,hy,rfl⟩
noncomputable def isRor (c:LL) (x:LI) (k:Nat):Bool:=rflB c (sq c x k) && (rflX c (sq c x k) == x)
noncomputable def rorI (c:LL) (w:LI):Option Nat:=if wordB c w && decide ((redL c w).length % 2=1) then(List.range (redL c w).length).find? (isRor c (redL c w))else none
noncomputable def rorB (c:LL) (w:LI):Bool:=(rorI c w).isSome
noncomputable def rorX (c:LL) (w:LI):List Int:=match rorI c w with
 | some k=>sq c (redL c w) k
 | none=>[]
theorem rorX_le (c:LL) (w:LI):(rorX c w).length<=15:=by
 unfold rorX rorI
 cases h:wordB c w with
 | false=>simp
 | true=>
  have:=(wordB_iff.1 h).1.2.1
  split
  ·rw [sq_len];omega
  ·simp
theorem ror_none {c:LL} {w:LI} (h:rorI c w=none):rorB c w=false/\rorX c w=[]:=by simp [rorB,rorX,h]
theorem ror_some {c:LL} {w:LI} {k:Nat} (h:rorI c w=some k):rorB c w=true/\rorX c w=sq c (redL c w) k:=by simp [rorB,rorX,h]
theorem ror_off {c:LL} {w:LI} (h:(wordB c w && decide ((redL c w).length % 2=1))=false):rorI c w=none:=by unfold rorI;rw [h];rfl
theorem ror_on {c:LL} {w:LI} (h:(wordB c w && decide ((redL c w).length % 2=1))=true):rorI c w=(List.range (redL c w).length).find? (isRor c (redL c w)):=by unfold rorI;rw [h];rfl
theorem odd_tmod (n:Nat):((n:Int).tmod 2 == 0) = !decide (n % 2=1):=by
 have h:(n:Int).tmod 2=((n % 2:Nat):Int):=rfl
 rw [h]
 rcases Nat.mod_two_eq_zero_or_one n with h | h<;>rw [h]<;>rfl
theorem ys_get {ys:List (Nat×List Int)} {n:Nat} {f:Nat->List Int} (h:ys.map (·.2)=(List.range n).map f) {k:Nat} (hk:k < n):(ys.getD k (0,[])).2=f k:=by
 have h1:(ys.map (·.2)).getD k []=f k:=by rw [h];simp [hk]
 rw [<- h1]
 have:ys.length=n:=by have:=congrArg List.length h;simpa using this
 simp [gdE,this,hk]
theorem c_impl_RootOfReflection (c:LL) (w:LI) (hcl:c.length<=1048576) :
  FunA B 15 [.sl false (.row false) c,.sl false .int w] (fun rs o=>rs=[.own 0 0,.bool (rorB c w)]/\o=[.arr .int (rorX c w) 0 true]):=by
 refine(FunA.unlr (by rfl) (post:=fun xs rest=>xs=rorX c w/\rest=[.bool (rorB c w)]) ?_).mono fun rs o ⟨xs,rest,⟨h1,h2⟩,h3,h4⟩=>⟨by rw [h3,h2],by rw [h4,h1]⟩
 refine wk Tryz.call15 Tryz.func15 rfl Tryz.ntmps15 fun C hC hP hT hfn hpin hfin hX=>wW ?_
 refine Run.R ?_
 refine Run.g fun K hK=>?_
 refine FunA.e hP hT (c_impl_IsWord c w) ?_
 refine wE ?_;clear hK K
 refine Run.c ?_ ?_
 ·intro h
  have h:wordB c w=false:=by simpa using h
  obtain⟨e1,e2⟩:=ror_none (ror_off (by rw [h];rfl))
  refine Run.R ?_
  refine Run.k [4,5] [0] ?_
  refine Run.tolr 0 [4,5] rfl (fun q hq=>?_);simp only [AL,frV_cons,frV_nil,AW7,simprocAttr]
  refine Run.k [4,5] [] ?_
  refine Run.r [4,5] ?_
  exact⟨q,[],_,⟨e2.symm,by rw [e1]⟩,rfl,rfl,rfl⟩
 intro h
 have hwb:wordB c w=true:=by simpa using h
 have hW:=wordB_iff.1 hwb
 obtain⟨hc,h2,h3⟩:=hW
 have hn:=hc.2.1
 obtain⟨a1,a2,a3,a4,a5⟩:=red_spec hc h3 om
 have hWx:WordP c (redL c w):=⟨hc,by omega,a1⟩
 refine Run.g fun K hK=>?_
 refine FunA.e hP hT (c_impl_reduced c w hc h3 om) ?_
 refine wE ?_;clear hK K
 refine Run.R ?_
 refine Run.c ?_ ?_
 ·intro h
  rw [odd_tmod]at h
  have h:(wordB c w && decide ((redL c w).length % 2=1))=false:=by rw [hwb,Bool.true_and];simpa using h
  obtain⟨e1,e2⟩:=ror_none (ror_off h)
  refine Run.R ?_
  refine Run.k [4,5] [1] ?_
  refine Run.tolr 0 [4,5] rfl (fun q hq=>?_);simp only [AL,frV_cons,frV_nil,AW7,simprocAttr]
  refine Run.k [4,5] [] ?_
  refine Run.r [4,5] ?_
  exact⟨q,[],_,⟨e2.symm,by rw [e1]⟩,rfl,rfl,rfl⟩
 intro h
 rw [odd_tmod]at h
 have h:(wordB c w && decide ((redL c w).length % 2=1))=true:=by rw [hwb,Bool.true_and];simpa using h
 have hI:=ror_on h
 refine Run.g fun K hK=>?_
 refine FunA.cW hP hT (c_impl_sequence c (redL c w) hWx) ?_
 rintro rs o ⟨rfl,ys,hy,rfl⟩
 have hyl:ys.length=(redL c w).length:=by have:=congrArg List.length hy;simpa [seqL] using this
 refine wF ?_;clear hK K
 refine Run.k [0,6,26,27,28] [0,1] ?_
 rw [hyl]
 refine Run.loopI (X:=Nat) (fun k=>⟨47,[(0,true,.v (.sl false (.row false) c)),(6,true,.v (.own 0 0)),(26,true,.v (.own 1 0)),(27,true,.v (.int .i64 ((redL c w).length))),(28,true,.v (.int .i64 k))],[.arr .int ((redL c w)) 0 true,.arr .lrow (ys) 0 true]⟩) (fun k=>k<=(redL c w).length/\∀ j,j < k->isRor c (redL c w) j=false) (fun k=>(redL c w).length - k) (0) (⟨nz0 _,by omega⟩) ?_ ?_
 ·exact Le.s
 rintro k ⟨hk,hpre⟩ ih
 try simp only []
 refine Run.R ?_
 refine Run.c ?_ ?_
 ·intro h4
  have h4:k < (redL c w).length:=by simpa using h4
  have hg:=ys_get hy h4
  have hxl:=rflX_le c (sq c (redL c w) k)
  refine Run.R ?_
  rw [hg]
  refine Run.g fun K hK=>?_
  refine FunA.e hP hT (c_impl_ReflectionOf c (sq c (redL c w) k)) ?_
  refine wE ?_;clear hK K
  refine Run.g fun K hK=>?_
  refine .inl (FunA.callG hP hT (c_impl_EqualWords (rflX c (sq c (redL c w) k)) (redL c w) om) (fun _=>rfl) (fun _=>by simp only [AW7,simprocAttr]) ?_)
  refine wF ?_;clear hK K
  refine Run.c ?_ ?_
  ·intro h5
   have h5:isRor c (redL c w) k=true:=by unfold isRor;revert h5;cases rflB c (sq c (redL c w) k)<;>simp
   obtain⟨e1,e2⟩:=ror_some (hI.trans (find_some h4 h5 hpre))
   refine Run.R ?_
   refine Run.k [4,5] [] ?_
   refine Run.r [4,5] ?_
   exact⟨_,_,_,⟨e2.symm,by rw [e1]⟩,rfl,rfl,rfl⟩
  ·intro h5
   have h5:isRor c (redL c w) k=false:=by unfold isRor;revert h5;cases rflB c (sq c (redL c w) k)<;>simp
   have hp2:∀ j,j < k+1->isRor c (redL c w) j=false:=fun j hj=>by
    by_cases hjk:j=k
    ·subst hjk;exact h5
    ·exact hpre j om
   refine Run.k [0,6,26,27,28] [0,1] ?_
   refine Run.RW ?_
   exact Run.j (ih (k+1) (⟨by omega,hp2⟩) mz)
 ·intro h4
  have h4:k=(redL c w).length:=by simp at h4;omega
  rw [h4]at hpre
  obtain⟨e1,e2⟩:=ror_none (hI.trans (find_none hpre))
  refine Run.x ?_
  refine Run.R ?_
  refine Run.k [4,5] [2] ?_
  refine Run.tolr 0 [4,5] rfl (fun q hq=>?_);simp only [AL,frV_cons,frV_nil,AW7,simprocAttr]
  refine Run.k [4,5] [] ?_
  refine Run.r [4,5] ?_
  exact⟨q,[],_,⟨e2.symm,by rw [e1]⟩,rfl,rfl,rfl⟩
theorem c_spec_RootOfReflection (c:LL) (w:LI) (hcl:c.length<=1048576) :
  FunA B 32 [.sl false (.row false) c,.sl false .int w] (fun rs o=>rs=[.own 0 0,.bool (rorB c w)]/\o=[.arr .int (rorX c w) 0 true]):=by
 refine(FunA.unlr (by rfl) (post:=fun xs rest=>xs=rorX c w/\rest=[.bool (rorB c w)]) ?_).mono fun rs o ⟨xs,rest,⟨h1,h2⟩,h3,h4⟩=>⟨by rw [h3,h2],by rw [h4,h1]⟩
 refine wk Tryz.call32 Tryz.func32 rfl Tryz.ntmps32 fun C hC hP hT hfn hpin hfin hX=>wW ?_
 refine Run.R ?_
 refine Run.g fun K hK=>?_
 refine FunA.e hP hT (c_spec_NormalForm c w hcl) ?_
 refine wE ?_;clear hK K
 refine Run.R ?_
 rw [odd_tmod]
 refine Run.c ?_ ?_
 ·intro h
  have h:(wordB c w && decide ((redL c w).length % 2=1))=false:=by
   revert h
   cases hwb:wordB c w with
   | false=>intro _;rfl
   | true=>
    have e:nfW c w=redL c w:=by unfold nfW;rw [if_pos hwb]
    rw [e];intro h;simpa using h
  obtain⟨e1,e2⟩:=ror_none (ror_off h)
  refine Run.R ?_
  refine Run.k [4,5] [1] ?_
  refine Run.tolr 0 [4,5] rfl (fun q hq=>?_);simp only [AL,frV_cons,frV_nil,AW7,simprocAttr]
  refine Run.k [4,5] [] ?_
  refine Run.r [4,5] ?_
  exact⟨q,[],_,⟨e2.symm,by rw [e1]⟩,rfl,rfl,rfl⟩
 intro h
 have hwb:wordB c w=true:=by revert h;cases wordB c w<;>simp
 have e:nfW c w=redL c w:=by unfold nfW;rw [if_pos hwb]
 rw [e]at h ⊢
 have h:(wordB c w && decide ((redL c w).length % 2=1))=true:=by revert h;rw [hwb];intro h;simpa using h
 have hI:=ror_on h
 have hW:=wordB_iff.1 hwb
 obtain⟨hc,h2,h3⟩:=hW
 have hn:=hc.2.1
 obtain⟨a1,a2,a3,a4,a5⟩:=red_spec hc h3 om
 have hWx:WordP c (redL c w):=⟨hc,by omega,a1⟩
 refine Run.g fun K hK=>?_
 refine FunA.cW hP hT (c_spec_RootSequence c (redL c w) hWx) ?_
 rintro rs o ⟨rfl,ys,hy,rfl⟩
 have hyl:ys.length=(redL c w).length:=by have:=congrArg List.length hy;simpa [seqL] using this
 refine wF ?_;clear hK K
 refine Run.R ?_
 refine Run.k [0,6,8,9] [0,1] ?_
 refine Run.loopI (X:=Nat) (fun k=>⟨56,[(0,true,.v (.sl false (.row false) c)),(6,true,.v (.own 0 0)),(8,true,.v (.own 1 0)),(9,true,.v (.int .i64 k))],[.arr .int ((redL c w)) 0 true,.arr .lrow (ys) 0 true]⟩) (fun k=>k<=(redL c w).length/\∀ j,j < k->isRor c (redL c w) j=false) (fun k=>(redL c w).length - k) (0) (⟨nz0 _,by omega⟩) ?_ ?_
 ·exact Le.s
 rintro k ⟨hk,hpre⟩ ih
 try simp only []
 refine Run.R ?_
 refine Run.c ?_ ?_
 ·intro h4
  have h4:k < (redL c w).length:=by simp at h4;omega
  have hg:=ys_get hy h4
  have hxl:=rflX_le c (sq c (redL c w) k)
  refine Run.g fun K hK=>?_
  rw [hg]
  refine FunA.e hP hT (c_spec_ReflectionOf c (sq c (redL c w) k)) ?_
  refine wE ?_;clear hK K
  refine Run.g fun K hK=>?_
  refine .inl (FunA.callG hP hT (c_spec_EqualWords (rflX c (sq c (redL c w) k)) (redL c w) om) (fun _=>rfl) (fun _=>by simp only [AW7,simprocAttr]) ?_)
  refine wF ?_;clear hK K
  refine Run.c ?_ ?_
  ·intro h5
   have h5:isRor c (redL c w) k=true:=by unfold isRor;revert h5;cases rflB c (sq c (redL c w) k)<;>simp
   obtain⟨e1,e2⟩:=ror_some (hI.trans (find_some h4 h5 hpre))
   refine Run.R ?_
   rw [hg]
   refine Run.k [4,5] [] ?_
   refine Run.r [4,5] ?_
   exact⟨_,_,_,⟨e2.symm,by rw [e1]⟩,rfl,rfl,rfl⟩
  ·intro h5
   have h5:isRor c (redL c w) k=false:=by unfold isRor;revert h5;cases rflB c (sq c (redL c w) k)<;>simp
   have hp2:∀ j,j < k+1->isRor c (redL c w) j=false:=fun j hj=>by
    by_cases hjk:j=k
    ·subst hjk;exact h5
    ·exact hpre j om
   refine Run.k [0,6,8,9] [0,1] ?_
   refine Run.RW ?_
   exact Run.j (ih (k+1) (⟨by omega,hp2⟩) mz)
 ·intro h4
  have h4:k=(redL c w).length:=by simp at h4;omega
  rw [h4]at hpre
  obtain⟨e1,e2⟩:=ror_none (hI.trans (find_none hpre))
  refine Run.x ?_
  refine Run.R ?_
  refine Run.k [4,5] [2] ?_
  refine Run.tolr 0 [4,5] rfl (fun q hq=>?_);simp only [AL,frV_cons,frV_nil,AW7,simprocAttr]
  refine Run.k [4,5] [] ?_
  refine Run.r [4,5] ?_
  exact⟨q,[],_,⟨e2.symm,by rw [e1]⟩,rfl,rfl,rfl⟩
theorem c_spec_l7In (rows:LL) (w:LI) (hl:rows.length<=1048576) (hr:∀ r∈rows,r.length<=1048576) :
  FunA B 112 [.sl false (.row false) rows,.sl false .int w] (fun rs o=>rs=[.bool (decide (w∈rows))]/\o=[]):=by
 refine wk Tryz.call112 Tryz.func112 rfl Tryz.ntmps112 fun C hC hP hT hfn hpin hfin hX=>wW ?_
 refine Run.R ?_
 refine Run.R ?_
 refine Run.loopI (X:=Nat) (fun i=>⟨18,[(0,true,.v (.sl false (.row false) rows)),(1,true,.v (.sl false .int w)),(5,true,.v (.int .i64 i))],[]⟩) (fun i=>i<=rows.length/\∀ j,j < i->rows.getD j []≠w) (fun i=>rows.length - i) (0) (⟨nz0 _,fun j h=>by omega⟩) ?_ ?_
 ·exact Le.s
 rintro i ⟨hi,hne⟩ ih
 try simp only []
 refine Run.R ?_
 refine Run.c ?_ ?_
 rotate_left
 ·intro h
  have h:i=rows.length:=by rw [dfE]at h;omega
  refine Run.x ?_
  refine Run.R ?_
  refine Run.r [4] ?_
  have hm:¬w∈rows:=fun hm=>by
   obtain⟨j,hj,e⟩:=List.getElem_of_mem hm
   exact hne j om (by rw [getD_eq hj];exact e)
  exact⟨by simp [hm],rfl⟩
 intro h
 have h:i < rows.length:=by rw [dtE]at h;omega
 have hri:(rows.getD i []).length<=1048576:=hr _ (by rw [getD_eq h];exact List.getElem_mem h)
 refine Run.g fun K hK=>?_
 refine FunA.e hP hT (c_spec_EqualWords (rows.getD i []) w om) ?_
 refine wE ?_;clear hK K
 refine Run.c ?_ ?_
 ·intro h2
  have h2:rows.getD i []=w:=by simpa using h2
  refine Run.R ?_
  refine Run.r [4] ?_
  have hm:w∈rows:=by rw [<- h2,getD_eq h];exact List.getElem_mem h
  exact⟨by simp [hm],rfl⟩
 intro h2
 have h2:rows.getD i []≠w:=by intro e;rw [e]at h2;simp at h2
 have hne2:∀ j,j < i+1->rows.getD j []≠w:=fun j hj=>by
  by_cases e:j=i
  ·rw [e];exact h2
  ·exact hne j om
 refine Run.RW ?_
 exact Run.j (ih (i+1) (⟨by omega,hne2⟩) mz)
end Go.Proofs.YtcinngodeoidnaaGreat
