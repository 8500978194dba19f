/- Elements: normal forms, inverses, the Bruhat order by subwords, star products: plain laws. -/
import Derived.Test.YtcinngodeoidnaaGreatB9
set_option linter.unusedVariables false
set_option linter.unusedSimpArgs false
namespace Go.Proofs.YtcinngodeoidnaaGreat
open Go Go.Aw Go.Cox
def redL (c:LL) (w:LI):List Int:=nfL c 31 (imageL c w)
theorem letters_nil (n:Nat):letters n []:=by simp [letters]
theorem letters_cons {n:Nat} {i:Int} {w:LI}:letters n (i :: w)↔(0<=i/\i < n)/\letters n w:=by simp [letters]
theorem letters_append {n:Nat} {a b:LI}:letters n (a ++ b)↔letters n a/\letters n b:=by
 simp only [letters,List.mem_append]
 constructor
 ·intro h;exact⟨fun i hi=>h i (.inl hi),fun i hi=>h i (.inr hi)⟩
 ·rintro⟨h1,h2⟩ i (hi | hi)
  ·exact h1 i hi
  ·exact h2 i hi
theorem letters_reverse {n:Nat} {a:LI} (h:letters n a):letters n a.reverse:=fun i hi=>h i (by simpa using hi)
theorem red_spec {c:LL} (hc:CartanP c) {w:LI} (hw:letters c.length w) (hl:w.length<=31) :
  letters c.length (redL c w)/\(redL c w).length<=w.length/\(redL c w).length % 2=w.length % 2/\imageL c (redL c w)=imageL c w/\Far c (redL c w).length (imageL c w):=by
 obtain⟨L,h1,h2,h3⟩:=Far.image hc hw
 obtain⟨k1,k2,k3⟩:=nfL_far hc 31 L h3 om
 have e:(redL c w).length=L:=k1
 exact⟨k2,by omega,by omega,k3,by rw [e];exact h3⟩
theorem red_far {c:LL} (hc:CartanP c) {w:LI} {L:Nat} (h:Far c L (imageL c w)) (hl:L<=31):(redL c w).length=L/\letters c.length (redL c w)/\imageL c (redL c w)=imageL c w:=nfL_far hc 31 L h hl
theorem red_eq {c:LL} {a b:LI} (h:imageL c a=imageL c b):redL c a=redL c b:=by unfold redL;rw [h]
def Red (c:LL) (w:LI):Prop:=letters c.length w/\Far c w.length (imageL c w)
theorem red_Red {c:LL} (hc:CartanP c) {w:LI} (hw:letters c.length w) (hl:w.length<=31):Red c (redL c w):=by
 obtain⟨h1,_,_,h4,h5⟩:=red_spec hc hw hl
 exact⟨h1,by rw [h4];exact h5⟩
theorem Red.nil (c:LL):Red c []:=⟨letters_nil _,Far.ones c⟩
theorem image_cons (c:LL) (i:Int) (w:LI):imageL c (i :: w)=reflL c i (imageL c w):=rfl
theorem image_append (c:LL) (a b:LI):imageL c (a ++ b)=actL c a (imageL c b):=actL_append c a b _
theorem refl2 {c:LL} (hc:CartanP c) {i:Int} (hi:0<=i/\i < c.length) {v:LI} (hv:v.length=c.length):reflL c i (reflL c i v)=v:=by
 apply vec_inj (by rw [reflL_length,reflL_length])
 rw [vec_refl (by rw [reflL_length,hv]),vec_refl hv,refl_refl ((matA_cartan hc).diag _ om)]
theorem act_rev {c:LL} (hc:CartanP c):∀(w:LI),letters c.length w->∀ {v:LI},v.length=c.length->actL c w.reverse (actL c w v)=v
 | [],_,_,_=>rfl
 | i :: w,h,v,hv=>by
  rw [List.reverse_cons,actL_append]
  show actL c w.reverse (reflL c i (reflL c i (actL c w v)))=v
  rw [refl2 hc (h i (mcS ..)) (by rw [actL_length,hv])]
  exact act_rev hc w (fun j hj=>h j (mcM _ hj)) hv
theorem rev_same {c:LL} (hc:CartanP c) {a b:LI} (ha:letters c.length a) (hb:letters c.length b) (h:imageL c a=imageL c b) {v:LI} (hv:v.length=c.length) :
  actL c a.reverse v=actL c b.reverse v:=by
 have h1:=act_rev hc b.reverse (letters_reverse hb) hv
 rw [List.reverse_reverse]at h1
 have h2:actL c a (actL c b.reverse v)=v:=by
  rw [same_elt hc ha hb h (by rw [actL_length,hv])];exact h1
 have h3:=act_rev hc a ha (v:=actL c b.reverse v) (by rw [actL_length,hv])
 rw [h2]at h3
 exact h3
theorem weak_same {c:LL} (hc:CartanP c) {u v x y:LI} (hu:letters c.length u) (hx:letters c.length x) (h1:imageL c u=imageL c x) (h2:imageL c v=imageL c y) :
  redL c (u.reverse ++ v)=redL c (x.reverse ++ y):=by
 apply red_eq
 rw [image_append,image_append,h2]
 exact rev_same hc hu hx h1 (imageL_length c y)
theorem fst_zero {c:LL} (hc:CartanP c) {L:Nat} {v:LI} (h:Far c L v):fstN v < 0↔L=0:=by
 rcases fst_of_far hc h with⟨h1,h2⟩ | ⟨h1,_,_,M,h4,_⟩
 ·constructor
  ·intro _;exact h2
  ·intro _;omega
 ·constructor
  ·intro h;omega
  ·intro h;omega
def firstIn (v:LI):List Int->Int
 | []=>-1
 | i :: s=>if v.getD i.toNat 0 < 0 then i else firstIn v s
def lpL (c:LL) (s:LI):Nat->List Int->List Int×List Int
 | 0,v=>([],v)
 | f+1,v=>if firstIn v s < 0 then([],v) else((firstIn v s) :: (lpL c s f (reflL c (firstIn v s) v)).1,(lpL c s f (reflL c (firstIn v s) v)).2)
def WordP (c:LL) (w:LI):Prop:=CartanP c/\w.length<=15/\letters c.length w
open Classical in
noncomputable def wordB (c:LL) (w:LI):Bool:=decide (WordP c w)
theorem wordB_iff {c:LL} {w:LI}:wordB c w=true↔WordP c w:=by simp [wordB]
def ptB (c:LL) (i:Int):Bool:=decide (0<=i/\i < c.length)
theorem c_impl_isPoint (c:LL) (i:Int):FunA B 113 [.sl false (.row false) c,.int .i64 i] (fun rs o=>rs=[.bool (ptB c i)]/\o=[]):=by
 refine wk Tryz.call113 Tryz.func113 rfl Tryz.ntmps113 fun C hC hP hT hfn hpin hfin hX=>wW ?_
 refine Run.R ?_
 refine Run.R ?_
 refine Run.r [4] ?_
 refine⟨?_,rfl⟩
 congr 2
 unfold ptB
 by_cases h:0<=i<;>simp [h]
theorem getD_mem {w:LI} {i:Nat} (h:i < w.length):w.getD i 0∈w:=by
 rw [show w.getD i 0=w[i]from by simp [h]];exact List.getElem_mem h
theorem letters_getD {n:Nat} {w:LI}:letters n w↔∀ i,i < w.length->0<=w.getD i 0/\w.getD i 0 < n:=by
 constructor
 ·intro h i hi;exact h _ (getD_mem hi)
 ·intro h x hx
  obtain⟨i,hi,rfl⟩:=List.getElem_of_mem hx
  have:=h i hi
  rwa [show w.getD i 0=w[i]from by simp [hi]]at this
open Classical in
noncomputable def letB (c:LL) (w:LI):Bool:=decide (letters c.length w)
theorem letB_iff {c:LL} {w:LI}:letB c w=true↔letters c.length w:=by simp [letB]
theorem c_impl_isWordOf (c:LL) (w:LI):FunA B 131 [.sl false (.row false) c,.sl false .int w] (fun rs o=>rs=[.bool (letB c w)]/\o=[]):=by
 refine wk Tryz.call131 Tryz.func131 rfl Tryz.ntmps131 fun C hC hP hT hfn hpin hfin hX=>wW ?_
 refine Run.len 1 rfl fun hlens=>?_
 refine Run.R ?_
 refine Run.R ?_
 refine Run.loopI (X:=Nat) (fun i=>⟨18,[(0,true,.v (.sl false (.row false) c)),(4,true,.v (.bool false)),(7,true,.v (.sl false .int w)),(8,true,.v (.int .i64 w.length)),(9,true,.v (.int .i64 i))],[]⟩) (fun i=>i<=w.length/\∀ k,k < i->0<=w.getD k 0/\w.getD k 0 < c.length) (fun i=>w.length - i) 0 ⟨nz0 _,by omega⟩ ?_ ?_
 ·exact Le.sub (by simp only [AW7,simprocAttr]) (by simp only [AW7,simprocAttr];try simp)
 rintro i ⟨hi,hset⟩ ih
 refine Run.R ?_
 refine Run.c ?_ ?_
 ·intro hc
  have hc:i < w.length:=by simpa using hc
  refine Run.R ?_
  refine Run.g fun K hK=>?_
  refine FunA.e hP hT (c_impl_isPoint c (w.getD i 0)) ?_
  refine wE ?_;clear hK K
  refine Run.c ?_ ?_
  ·intro hb
   have hb:¬(0<=w.getD i 0/\w.getD i 0 < c.length):=by
    revert hb;unfold ptB
    cases h:decide (0<=w.getD i 0/\w.getD i 0 < (c.length:Int)) with
    | true=>intro hb;cases hb
    | false=>intro _;exact of_decide_eq_false h
   refine Run.R ?_
   refine Run.r [4] ?_
   refine⟨?_,rfl⟩
   have:letB c w=false:=by
    cases h:letB c w with
    | false=>rfl
    | true=>exact absurd (letters_getD.1 (letB_iff.1 h) i hc) hb
   rw [this]
  ·intro hb
   have hb:0<=w.getD i 0/\w.getD i 0 < c.length:=by
    revert hb;unfold ptB
    cases h:decide (0<=w.getD i 0/\w.getD i 0 < (c.length:Int)) with
    | true=>intro _;exact of_decide_eq_true h
    | false=>intro hb;cases hb
   refine Run.RW ?_
   refine Run.le ?_ (ih (i+1) ⟨hc,fun k hk=>?_⟩ om)
   ·exact Le.sub (by simp only [AW7,simprocAttr]) (by simp only [AW7,simprocAttr,Option.some.injEq,Prod.mk.injEq,Sl.v.injEq,AV.int.injEq,AV.own.injEq,AV.bool.injEq];try(repeat' apply And.intro);all_goals omega)
   ·rcases Nat.lt_succ_iff_lt_or_eq.1 hk with h | rfl
    ·exact hset k h
    ·exact hb
 ·intro hc
  have hc:i=w.length:=by simp at hc;omega
  subst hc
  refine Run.x ?_
  refine Run.R ?_
  refine Run.r [4] ?_
  refine⟨?_,rfl⟩
  rw [letB_iff.2 (letters_getD.2 hset)]
theorem wordB_eq (c:LL) (w:LI):wordB c w=(isC c && decide (w.length<=15) && letB c w):=by
 rw [Bool.eq_iff_iff,wordB_iff]
 simp only [bAnd,isC_iff,dtE,letB_iff,WordP]
 exact and_assoc.symm
theorem c_impl_IsWord (c:LL) (w:LI):FunA B 82 [.sl false (.row false) c,.sl false .int w] (fun rs o=>rs=[.bool (wordB c w)]/\o=[]):=by
 refine wk Tryz.call82 Tryz.func82 rfl Tryz.ntmps82 fun C hC hP hT hfn hpin hfin hX=>wW ?_
 refine Run.R ?_
 refine Run.g fun K hK=>?_
 refine FunA.e hP hT (c_impl_IsCartan c) ?_
 refine .inl (FunA.callG hP hT (c_impl_isWordOf c w) (fun _=>rfl) (fun _=>by simp only [AW7,simprocAttr]) ?_)
 refine wF ?_;clear hK K
 refine Run.r [4] ?_
 refine⟨?_,rfl⟩
 rw [wordB_eq]
 congr 2
 by_cases h:w.length<=15
 ·have h':(w.length:Int)<=15:=by omega
  cases isC c<;>simp [h,h']
 ·have h':¬(w.length:Int)<=15:=by omega
  cases isC c<;>simp [h,h']
theorem c_spec_IsWord (c:LL) (w:LI) (hcl:c.length<=1048576):FunA B 85 [.sl false (.row false) c,.sl false .int w] (fun rs o=>rs=[.bool (wordB c w)]/\o=[]):=by
 refine wk Tryz.call85 Tryz.func85 rfl Tryz.ntmps85 fun C hC hP hT hfn hpin hfin hX=>wW ?_
 refine Run.len 1 rfl fun hlens=>?_
 refine Run.R ?_
 refine Run.R ?_
 refine Run.loopI (X:=Nat) (fun i=>⟨28,[(0,true,.v (.sl false (.row false) c)),(1,true,.v (.sl false .int w)),(4,true,.v (.bool false)),(5,true,.v (.int .i64 i))],[]⟩) (fun i=>i<=w.length/\∀ k,k < i->0<=w.getD k 0/\w.getD k 0 < c.length) (fun i=>w.length - i) 0 ⟨nz0 _,by omega⟩ ?_ ?_
 ·exact Le.sub (by simp only [AW7,simprocAttr]) (by simp only [AW7,simprocAttr];try simp)
 rintro i ⟨hi,hset⟩ ih
 refine Run.R ?_
 refine Run.c ?_ ?_
 ·intro hc
  have hc:i < w.length:=by simpa using hc
  refine Run.keep [0,1,4,5] ?_;simp only [AK,Nat.reduceBEq]
  refine Run.nq ?_;refine Run.regionW hC (fun K hK=>?_);refine wWW ?_
  refine FunA.e hP hT (c_spec_l1In (w.getD i 0) 0 ((c.length:Int) - 1)) ?_
  refine wE ?_;clear hK K
  have key:inB (w.getD i 0) 0 ((c.length:Int) - 1)=true↔0<=w.getD i 0/\w.getD i 0 < c.length:=by rw [inB_iff];omega
  refine Run.c ?_ ?_
  ·intro hb
   have hb:¬(0<=w.getD i 0/\w.getD i 0 < c.length):=fun h=>by rw [key.2 h]at hb;cases hb
   refine Run.R ?_
   refine Run.r [4] ?_
   refine⟨?_,rfl⟩
   have:wordB c w=false:=by
    cases h:wordB c w with
    | false=>rfl
    | true=>exact absurd (letters_getD.1 (wordB_iff.1 h).2.2 i hc) hb
   rw [this]
  ·intro hb
   have hb:0<=w.getD i 0/\w.getD i 0 < c.length:=by
    refine key.1 ?_
    revert hb
    cases inB (w.getD i 0) 0 ((c.length:Int) - 1)<;>simp
   refine Run.RW ?_
   refine Run.le ?_ (ih (i+1) ⟨hc,fun k hk=>?_⟩ om)
   ·exact Le.sub (by simp only [AW7,simprocAttr]) (by simp only [AW7,simprocAttr,Option.some.injEq,Prod.mk.injEq,Sl.v.injEq,AV.int.injEq,AV.own.injEq,AV.bool.injEq];try(repeat' apply And.intro);all_goals omega)
   ·rcases Nat.lt_succ_iff_lt_or_eq.1 hk with h | rfl
    ·exact hset k h
    ·exact hb
 ·intro hc
  have hc:i=w.length:=by simp at hc;omega
  subst hc
  refine Run.x ?_
  refine Run.g fun K hK=>?_
  refine FunA.e hP hT (c_spec_IsCartan c) ?_
  refine wE ?_;clear hK K
  refine Run.r [4] ?_
  refine⟨?_,rfl⟩
  rw [wordB_eq,letB_iff.2 (letters_getD.2 hset)]
  congr 2
  by_cases h:w.length<=15
  ·have h':(w.length:Int)<=15:=by omega
   cases isC c<;>simp [h,h']
  ·have h':¬(w.length:Int)<=15:=by omega
   cases isC c<;>simp [h,h']
theorem ones_succ (n:Nat):ones n ++ [(1:Int)]=ones (n+1):=by simp [ones,List.replicate_succ']
theorem c_impl_ones (n:Nat) (hn:n<=1048576):FunA B 158 [.int .i64 n] (fun rs o=>rs=[.own 0 0]/\o=[.arr .int (ones n) 0 true]):=by
 refine wk Tryz.call158 Tryz.func158 rfl Tryz.ntmps158 fun C hC hP hT hfn hpin hfin hX=>wW ?_
 refine Run.R ?_
 refine Run.R ?_
 refine Run.R ?_
 refine Run.loopI (X:=Nat) (fun i=>⟨13,[(2,true,.v .nils),(3,true,.v (.own 0 i)),(5,true,.v (.int .i64 n)),(6,true,.v (.int .i64 i))],[.arr .int (ones i) i true]⟩) (fun i=>i<=n) (fun i=>n - i) 0 (nz0 _) ?_ ?_
 ·exact Le.sub (by rfl) (by simp only [AW7,simprocAttr,hX];try simp)
 rintro i hi ih
 have hll:=ones_length i
 refine Run.R ?_
 refine Run.c ?_ ?_
 ·intro hc
  have hc:i < n:=by simpa using hc
  refine Run.R ?_
  refine Run.RW ?_
  refine Run.le ?_ (ih (i+1) hc om)
  refine Le.cut0 hpin [_] (by rw [<- ones_succ];rfl) ?_ rfl
  simp only [AW7,simprocAttr];try simp
 ·intro hc
  have hc:i=n:=by simp at hc;omega
  subst hc
  refine Run.x ?_
  refine Run.R ?_
  refine Run.le (Le.re (obs':=[.arr .int (ones i) 0 true]) hpin [0] [(2,true,.own 0 0)] rfl (by simp [leOs,leO_arr,oAt]) (by refine⟨⟨_,rfl,?_⟩,trivial⟩;simp [leAV,oAt,genO])) ?_
  simp only [frV_cons,frV_nil]
  refine Run.r [2] ?_
  exact⟨rfl,rfl⟩
theorem c_spec_RhoOf (c:LL) (hc:CartanP c):FunA B 173 [.sl false (.row false) c] (fun rs o=>rs=[.own 0 0]/\o=[.arr .int (ones c.length) 0 true]):=by
 have hcb:=isC_true hc
 have hn:=hc.2.1
 refine wk Tryz.call173 Tryz.func173 rfl Tryz.ntmps173 fun C hC hP hT hfn hpin hfin hX=>wW ?_
 refine Run.R ?_
 refine Run.R ?_
 refine Run.R ?_
 refine Run.loopI (X:=Nat) (fun i=>⟨20,[(0,true,.v (.sl false (.row false) c)),(2,true,.v .nils),(3,true,.v (.own 0 i)),(4,true,.v (.int .i64 i))],[.arr .int (ones i) i true]⟩) (fun i=>i<=c.length) (fun i=>c.length - i) 0 (nz0 _) ?_ ?_
 ·exact Le.sub (by rfl) (by simp only [AW7,simprocAttr,hX];try simp)
 rintro i hi ih
 have hll:=ones_length i
 refine Run.g fun K hK=>?_
 refine .inl (FunA.callG hP hT (c_spec_IsCartan c) (fun _=>rfl) (fun _=>by simp only [AW7,simprocAttr]) ?_)
 refine wF ?_;clear hK K
 refine Run.keep [0,2,3,4,13] ?_;simp only [AK,Nat.reduceBEq]
 rw [hcb]
 refine Run.c ?_ ?_
 ·intro hc
  have hc:i < c.length:=by
   by_cases h:(i:Int) < c.length
   ·omega
   ·simp [h]at hc
  refine Run.R ?_
  refine Run.RW ?_
  refine Run.le ?_ (ih (i+1) hc om)
  refine Le.cut0 hpin [_] (by rw [<- ones_succ];rfl) ?_ rfl
  simp only [AW7,simprocAttr];try simp
 ·intro hc
  have hc:i=c.length:=by
   by_cases h:(i:Int) < c.length
   ·simp [h]at hc
   ·omega
  subst hc
  refine Run.x ?_
  refine Run.R ?_
  refine Run.le (Le.re (obs':=[.arr .int (ones c.length) 0 true]) hpin [0] [(2,true,.own 0 0)] rfl (by simp [leOs,leO_arr,oAt]) (by refine⟨⟨_,rfl,?_⟩,trivial⟩;simp [leAV,oAt,genO])) ?_
  simp only [frV_cons,frV_nil]
  refine Run.r [2] ?_
  exact⟨rfl,rfl⟩
theorem wrap_sub_wrap (a b:Int):IntKind.i64.wrap (a - IntKind.i64.wrap b)=IntKind.i64.wrap (a - b):=by
 unfold IntKind.wrap
 simp [IntKind.bits,IntKind.signed]
 omega
def reflM (c:LL) (i:Int) (v:LI) (m:Nat):List Int:=(List.range v.length).map fun k=>if k < m then v.getD k 0 - v.getD i.toNat 0*ent c k i.toNat else v.getD k 0
theorem reflM_length (c:LL) (i:Int) (v:LI) (m:Nat):(reflM c i v m).length=v.length:=by simp [reflM]
theorem reflM_zero (c:LL) (i:Int) (v:LI):reflM c i v 0=v:=by
 apply List.ext_getElem?
 intro k
 by_cases hk:k < v.length
 ·simp [reflM,hk]
 ·rw [geN (by rw [reflM_length];omega),geN om]
theorem reflM_end (c:LL) (i:Int) (v:LI):reflM c i v v.length=reflL c i v:=by
 simp only [reflM,reflL]
 apply List.map_congr_left
 intro k hk
 rw [if_pos (List.mem_range.1 hk)]
theorem reflM_get (c:LL) (i:Int) (v:LI) (m:Nat) (h:m < v.length):(reflM c i v m).getD m 0=v.getD m 0:=by
 simp [reflM,gdE,h]
theorem reflM_set (c:LL) (i:Int) (v:LI) (m:Nat) (h:m < v.length):(reflM c i v m).set m (v.getD m 0 - v.getD i.toNat 0*ent c m i.toNat)=reflM c i v (m+1):=by
 apply List.ext_getElem?
 intro k
 rw [List.getElem?_set]
 simp only [reflM,List.length_map,List.length_range]
 by_cases hk:m=k
 ·subst hk
  simp [h]
 ·rw [if_neg hk]
  by_cases h1:k < v.length
  ·simp only [List.getElem?_map,List.getElem?_range h1,Option.map_some]
   have:(k < m)=(k < m+1):=by simp only [eq_iff_iff];omega
   simp [this]
  ·rw [geN (by simpa using h1),geN (by simpa using h1)]
theorem c_impl_reflected (c:LL) (i:Int) (v:LI) (hc:CartanP c) (hv:v.length=c.length) (hi:0<=i/\i < c.length) (hB:Bd 9223372036854775807 (reflL c i v)) :
  FunM B 156 [.sl false (.row false) c,.int .i64 i,.own 0 0] .int v true (fun rs o=>rs=[]/\o=[.arr .int (reflL c i v) 0 true]):=by
 have hn:=hc.2.1
 have hrow:=hc.2.2.1
 refine FunM.walk B_ok (fn:=Tryz.f156) (fun vs w=>Tryz.call156 vs w) Tryz.func156 rfl (by rw [Tryz.ntmps156];simp) (fun C hC hP hT hΓ hbt hfn hpin hfin=>?_);have hX:=BX;rw [<- hΓ,<- hbt.1,<- hbt.2.1,<- hbt.2.2.1,<- hbt.2.2.2.2]at hX;rw [hT]at hX;rw [Tryz.ntmps156];simp only [AW7,simprocAttr,hX]
 refine Run.R ?_
 refine Run.R ?_
 refine Run.keep [0,1,2,6,13,14] ?_;simp only [AK,Nat.reduceBEq]
 refine Run.loopI (X:=Nat) (fun m=>⟨33,[(0,true,.v (.sl false (.row false) c)),(1,true,.v (.int .i64 i)),(2,true,.v (.own 0 0)),(6,true,.v (.int .i64 (v.getD i.toNat 0))),(13,true,.v (.int .i64 v.length)),(14,true,.v (.int .i64 m))],[.arr .int (reflM c i v m) 0 true]⟩) (fun m=>m<=v.length) (fun m=>v.length - m) 0 (nz0 _) ?_ ?_
 ·exact Le.sub (by rw [reflM_zero]) (by simp only [AW7,simprocAttr,hX];try simp)
 rintro m hm ih
 have hml:=reflM_length c i v m
 refine Run.R ?_
 refine Run.c ?_ ?_
 ·intro h
  have h:m < v.length:=by simpa using h
  have hrm:=hrow m om
  refine Run.R ?_
  refine Run.nq ?_;refine Run.regionD hC true [0,1,2,3,4,5,6,7,8,9,10,11,12,13,14,15] (by kernel_rfl) (fun K hK=>?_);simp only [AW7,simprocAttr,hX];(repeat(with_reducible refine And.intro ?_ ?_);exact vc0);refine wE ?_;clear hK K
  have e1:IntKind.i64.wrap ((reflM c i v m).getD m 0 - IntKind.i64.wrap (v.getD i.toNat 0*ent c m i.toNat))=v.getD m 0 - v.getD i.toNat 0*ent c m i.toNat:=by
   rw [reflM_get c i v m h,wrap_sub_wrap]
   have:=hB m
   rw [reflL_get c i v m h]at this
   exact wrap_id om
  simp only [e1]
  refine Run.RW ?_
  refine Run.le ?_ (ih (m+1) h om)
  refine Le.sub (by rw [reflM_set c i v m h]) ?_
  simp only [AW7,simprocAttr];try simp
 ·intro h
  have h:m=v.length:=by simp at h;omega
  subst h
  refine Run.x ?_
  rw [reflM_end]
  refine Run.doneW (xs:=[]) [] (by decide) (by rw [hfn];rfl) rfl trivial (hfin _ _ _ rfl rfl rfl ?_)
  exact⟨rfl,rfl⟩
theorem reflL_snoc (c:LL) (i:Int) (v:LI) (m:Nat) (h:m < v.length):(reflL c i v).take m ++ [v.getD m 0 - v.getD i.toNat 0*ent c m i.toNat]=(reflL c i v).take (m+1):=by
 rw [<- take_snoc 0 _ m (by rw [reflL_length];exact h),reflL_get c i v m h]
theorem c_spec_l6Reflect (c:LL) (i:Int) (v:LI) (hc:CartanP c) (hv:v.length=c.length) (hi:0<=i/\i < c.length) (hB:Bd 9223372036854775807 (reflL c i v)) :
  FunA B 151 [.sl false (.row false) c,.int .i64 i,.sl false .int v] (fun rs o=>rs=[.own 0 0]/\o=[.arr .int (reflL c i v) 0 true]):=by
 have hn:=hc.2.1
 have hrow:=hc.2.2.1
 have hrl:=reflL_length c i v
 refine wk Tryz.call151 Tryz.func151 rfl Tryz.ntmps151 fun C hC hP hT hfn hpin hfin hX=>wW ?_
 refine Run.R ?_
 refine Run.R ?_
 refine Run.R ?_
 refine Run.loopI (X:=Nat) (fun m=>⟨37,[(0,true,.v (.sl false (.row false) c)),(1,true,.v (.int .i64 i)),(2,true,.v (.sl false .int v)),(6,true,.v .nils),(7,true,.v (.own 0 m)),(8,true,.v (.int .i64 m))],[.arr .int ((reflL c i v).take m) m true]⟩) (fun m=>m<=v.length) (fun m=>v.length - m) 0 (nz0 _) ?_ ?_
 ·exact Le.sub (by rfl) (by simp only [AW7,simprocAttr,hX];try simp)
 rintro m hm ih
 have hll:((reflL c i v).take m).length=m:=by simp;omega
 refine Run.R ?_
 refine Run.c ?_ ?_
 ·intro h
  have h:m < v.length:=by simpa using h
  have hrm:=hrow m om
  refine Run.keep [0,1,2,6,7,8] ?_;simp only [AK,Nat.reduceBEq]
  refine Run.nq ?_
  refine Run.regionD hC true [0,1,2,3,4,5,6,7,8,9,10,11,12,13,14,15,16,17,18,19,20] (by kernel_rfl) (fun K hK=>?_)
  simp only [AW7,simprocAttr,hX]
  (repeat(with_reducible refine And.intro ?_ ?_);exact vc0)
  refine wE ?_;clear hK K
  have e1:IntKind.i64.wrap (v.getD m 0 - IntKind.i64.wrap (v.getD i.toNat 0*ent c m i.toNat))=v.getD m 0 - v.getD i.toNat 0*ent c m i.toNat:=by
   rw [wrap_sub_wrap]
   have:=hB m
   rw [reflL_get c i v m h]at this
   exact wrap_id om
  simp only [e1]
  refine Run.RW ?_
  refine Run.le ?_ (ih (m+1) h om)
  refine Le.cut0 hpin [_] (by rw [<- reflL_snoc c i v m h];rfl) ?_ rfl
  simp only [AW7,simprocAttr];try simp
 ·intro h
  have h:m=v.length:=by simp at h;omega
  subst h
  refine Run.x ?_
  refine Run.R ?_
  refine Run.le (Le.re (obs':=[.arr .int (reflL c i v) 0 true]) hpin [0] [(6,true,.own 0 0)] rfl (by simp [leOs,leO_arr,oAt,<- hrl]) (by refine⟨⟨_,rfl,?_⟩,trivial⟩;simp [leAV,oAt,genO])) ?_
  simp only [frV_cons,frV_nil]
  refine Run.r [6] ?_
  exact⟨rfl,rfl⟩
theorem actL_drop (c:LL) (w v:LI) (j:Nat) (h:j < w.length):actL c (w.drop j) v=reflL c (w.getD j 0) (actL c (w.drop (j+1)) v):=by
 rw [List.drop_eq_getElem_cons h,show w.getD j 0=w[j]from by simp [h]]
 rfl
theorem c_impl_acted (c:LL) (w v:LI) (hc:CartanP c) (hw:letters c.length w) (hv:v.length=c.length) (hB:∀ j,Bd 9223372036854775807 (actL c (w.drop j) v)) (hl:w.length<=1048576) :
  FunA B 157 [.sl false (.row false) c,.sl false .int w,.sl false .int v] (fun rs o=>rs=[.own 0 0]/\o=[.arr .int (actL c w v) 0 true]):=by
 have hn:=hc.2.1
 refine wk Tryz.call157 Tryz.func157 rfl Tryz.ntmps157 fun C hC hP hT hfn hpin hfin hX=>wW ?_
 refine Run.R ?_
 refine Run.R ?_
 refine Run.le (Le.re (obs':=[.arr .int v 0 true]) hpin [0] [(0,true,.sl false (.row false) c),(1,true,.sl false .int w),(6,true,.nils),(7,true,.own 0 0)] rfl (by simp [leOs,leO_arr,oAt]) (by refine⟨⟨_,rfl,?_⟩,⟨_,rfl,?_⟩,⟨_,rfl,?_⟩,⟨_,rfl,?_⟩,trivial⟩<;>simp [leAV,oAt,genO])) ?_
 simp only [frV_cons,frV_nil]
 refine Run.RW ?_
 refine Run.loopI (X:=Nat) (fun m=>⟨27,[(0,true,.v (.sl false (.row false) c)),(1,true,.v (.sl false .int w)),(6,true,.v .nils),(7,true,.v (.own 0 0)),(8,true,.v (.int .i64 ((w.length:Int) - 1 - m)))],[.arr .int (actL c (w.drop (w.length - m)) v) 0 true]⟩) (fun m=>m<=w.length) (fun m=>w.length - m) 0 (nz0 _) ?_ ?_
 ·exact Le.sub (by simp [actL]) (by simp only [AW7,simprocAttr,hX];try simp)
 rintro m hm ih
 refine Run.R ?_
 refine Run.c ?_ ?_
 ·intro h
  have h:m < w.length:=by simp at h;omega
  have e1:((w.length:Int) - 1 - m).toNat=w.length - (m+1):=by omega
  have e2:w.length - (m+1)+1=w.length - m:=by omega
  have hd:=actL_drop c w v (w.length - (m+1)) om
  rw [e2]at hd
  have hlet:=letters_getD.1 hw (w.length - (m+1)) om
  have hB':=hB (w.length - (m+1))
  rw [hd]at hB'
  refine Run.g fun K hK=>?_
  simp only [e1]
  refine FunM.call hP hT (c_impl_reflected c (w.getD (w.length - (m+1)) 0) (actL c (w.drop (w.length - m)) v) hc (by rw [actL_length,hv]) hlet hB') 0 0 (by simp only [AW7,simprocAttr];rfl) (by simp) rfl (by simp only [AW7,simprocAttr];try simp) ?_
  rintro rs o' obs' ⟨rfl,h⟩
  obtain⟨rfl,rfl⟩:=List.cons.inj h
  refine wF ?_;clear hK K
  refine Run.RW ?_
  refine Run.le ?_ (ih (m+1) om om)
  refine Le.sub (by rw [hd]) ?_
  simp only [AW7,simprocAttr];try simp;omega
 ·intro h
  have h:m=w.length:=by simp at h;omega
  subst h
  rw [show w.length - w.length=0 from by omega,List.drop_zero]
  refine Run.x ?_
  refine Run.R ?_
  refine Run.keep [6] ?_;simp only [AK,Nat.reduceBEq]
  refine Run.r [6] ?_
  exact⟨rfl,rfl⟩
theorem image_bd {c:LL} (hc:CartanP c) {w:LI} (hw:letters c.length w) (hl:w.length<=31):Bd 4611686018427387904 (imageL c w):=by
 refine(Bd.image hc w hw).mono ?_
 have h:((4:Int) ^ w.length)<=4 ^ 31:=pow4_le hl
 have e:((4:Int) ^ 31)=4611686018427387904:=by decide
 rw [e]at h
 exact h
theorem letters_drop {n:Nat} {w:LI} (h:letters n w) (j:Nat):letters n (w.drop j):=fun i hi=>h i (List.mem_of_mem_drop hi)
theorem c_impl_image (c:LL) (w:LI) (hc:CartanP c) (hw:letters c.length w) (hl:w.length<=31) :
  FunA B 129 [.sl false (.row false) c,.sl false .int w] (fun rs o=>rs=[.own 0 0]/\o=[.arr .int (imageL c w) 0 true]):=by
 have hn:=hc.2.1
 refine wk Tryz.call129 Tryz.func129 rfl Tryz.ntmps129 fun C hC hP hT hfn hpin hfin hX=>wW ?_
 refine Run.R ?_
 refine Run.g fun K hK=>?_
 refine FunA.e hP hT (c_impl_ones c.length om) ?_
 refine FunA.e hP hT (c_impl_acted c w (ones c.length) hc hw (ones_length _) (fun j=>(image_bd hc (letters_drop hw j) (by simp;omega)).mono (by decide)) om) ?_
 refine wE ?_;clear hK K
 refine Run.le (Le.re (obs':=[.arr .int (imageL c w) 0 true]) hpin [1] [(4,true,.own 0 0)] rfl (by simp [leOs,leO_arr,oAt,imageL]) (by refine⟨⟨_,rfl,?_⟩,trivial⟩;simp [leAV,oAt,genO])) ?_
 simp only [frV_cons,frV_nil]
 refine Run.r [4] ?_
 exact⟨rfl,rfl⟩
theorem c_spec_l8Image (c:LL) (w:LI) (hc:CartanP c) (hw:letters c.length w) (hl:w.length<=31) :
  FunA B 139 [.sl false (.row false) c,.sl false .int w] (fun rs o=>rs=[.own 0 0]/\o=[.arr .int (imageL c w) 0 true]):=by
 have hn:=hc.2.1
 refine wk Tryz.call139 Tryz.func139 rfl Tryz.ntmps139 fun C hC hP hT hfn hpin hfin hX=>wW ?_
 refine Run.R ?_
 refine Run.g fun K hK=>?_
 refine FunA.e hP hT (c_spec_RhoOf c hc) ?_
 refine wE ?_;clear hK K
 refine Run.RW ?_
 refine Run.loopI (X:=Nat) (fun m=>⟨24,[(0,true,.v (.sl false (.row false) c)),(1,true,.v (.sl false .int w)),(4,true,.v .nils),(5,true,.v (.own 0 0)),(6,true,.v (.int .i64 ((w.length:Int) - 1 - m)))],[.arr .int (imageL c (w.drop (w.length - m))) 0 true]⟩) (fun m=>m<=w.length) (fun m=>w.length - m) 0 (nz0 _) ?_ ?_
 ·exact Le.sub (by simp [imageL,actL]) (by simp only [AW7,simprocAttr,hX];try simp)
 rintro m hm ih
 refine Run.R ?_
 refine Run.c ?_ ?_
 ·intro h
  have h:m < w.length:=by simp at h;omega
  have e1:((w.length:Int) - 1 - m).toNat=w.length - (m+1):=by omega
  have e2:w.length - (m+1)+1=w.length - m:=by omega
  have hd:=actL_drop c w (ones c.length) (w.length - (m+1)) om
  rw [e2]at hd
  have hlet:=letters_getD.1 hw (w.length - (m+1)) om
  have hB':Bd 9223372036854775807 (imageL c (w.drop (w.length - (m+1)))):=(image_bd hc (letters_drop hw _) (by simp;omega)).mono (by decide)
  have hd':imageL c (w.drop (w.length - (m+1)))=reflL c (w.getD (w.length - (m+1)) 0) (imageL c (w.drop (w.length - m))):=hd
  rw [hd']at hB'
  refine Run.g fun K hK=>?_
  simp only [e1]
  refine FunA.e hP hT (c_spec_l6Reflect c (w.getD (w.length - (m+1)) 0) (imageL c (w.drop (w.length - m))) hc (imageL_length ..) hlet hB') ?_
  refine wE ?_;clear hK K
  refine Run.RW ?_
  refine Run.le ?_ (ih (m+1) om om)
  refine Le.re (obs':=[.arr .int (imageL c (w.drop (w.length - (m+1)))) 0 true]) hpin [1] [(0,true,.sl false (.row false) c),(1,true,.sl false .int w),(4,true,.nils),(5,true,.own 0 0),(6,true,.int .i64 ((w.length:Int) - 1 - ((m+1:Nat):Int)))] rfl (by simp [leOs,leO_arr,oAt,hd']) ?_
  refine⟨⟨_,rfl,?_⟩,⟨_,rfl,?_⟩,⟨_,rfl,?_⟩,⟨_,rfl,?_⟩,⟨_,rfl,?_⟩,trivial⟩<;>simp [leAV,oAt,genO]
  omega
 ·intro h
  have h:m=w.length:=by simp at h;omega
  subst h
  rw [show w.length - w.length=0 from by omega,List.drop_zero]
  refine Run.x ?_
  refine Run.R ?_
  refine Run.keep [4] ?_;simp only [AK,Nat.reduceBEq]
  refine Run.r [4] ?_
  exact⟨rfl,rfl⟩
theorem firstNeg_more (v:LI):∀ n m,n<=m->0<=firstNeg v n->firstNeg v m=firstNeg v n:=by
 intro n m h h0
 induction m with
 | zero=>have:n=0:=by omega
         subst this;rfl
 | succ m ih=>
  by_cases hn:n=m+1
  ·subst hn;rfl
  ·have:=ih om
   simp only [firstNeg]
   rw [if_neg om,this]
theorem c_impl_firstDescent (v:LI) (hl:v.length<=1048576):FunA B 155 [.sl false .int v] (fun rs o=>rs=[.int .i64 (fstN v)]/\o=[]):=by
 refine wk Tryz.call155 Tryz.func155 rfl Tryz.ntmps155 fun C hC hP hT hfn hpin hfin hX=>wW ?_
 refine Run.R ?_
 refine Run.R ?_
 refine Run.loopI (X:=Nat) (fun i=>⟨16,[(2,true,.v (.int .i64 0)),(5,true,.v (.sl false .int v)),(6,true,.v (.int .i64 v.length)),(7,true,.v (.int .i64 i))],[]⟩) (fun i=>i<=v.length/\firstNeg v i < 0) (fun i=>v.length - i) 0 ⟨nz0 _,by simp [firstNeg]⟩ ?_ ?_
 ·exact Le.sub (by simp only [AW7,simprocAttr]) (by simp only [AW7,simprocAttr];try simp)
 rintro i ⟨hi,hf⟩ ih
 refine Run.R ?_
 refine Run.c ?_ ?_
 ·intro h
  have h:i < v.length:=by simpa using h
  refine Run.R ?_
  refine Run.R ?_
  have hs:firstNeg v (i+1)=if v.getD i 0 < 0 then(i:Int)else -1:=by simp only [firstNeg];rw [if_pos hf]
  refine Run.c ?_ ?_
  ·intro hx
   have hx:v.getD i 0 < 0:=by simpa using hx
   refine Run.R ?_
   refine Run.r [2] ?_
   refine⟨?_,rfl⟩
   rw [if_pos hx]at hs
   unfold fstN
   rw [firstNeg_more v (i+1) v.length h om,hs]
  ·intro hx
   have hx:¬v.getD i 0 < 0:=by simpa using hx
   refine Run.RW ?_
   refine Run.le ?_ (ih (i+1) ⟨h,by rw [hs,if_neg hx];decide⟩ om)
   exact Le.sub (by simp only [AW7,simprocAttr]) (by simp only [AW7,simprocAttr,Option.some.injEq,Prod.mk.injEq,Sl.v.injEq,AV.int.injEq,AV.own.injEq,AV.bool.injEq];try(repeat' apply And.intro);all_goals omega)
 ·intro h
  have h:i=v.length:=by simp at h;omega
  subst h
  refine Run.x ?_
  refine Run.R ?_
  refine Run.r [2] ?_
  refine⟨?_,rfl⟩
  have:fstN v = -1:=by
   unfold fstN
   rcases firstNeg_spec v v.length with⟨h1,_⟩ | ⟨i,h1,_⟩
   ·exact h1
   ·rw [h1]at hf;omega
  rw [this]
theorem nf_letters {c:LL} (hc:CartanP c):∀(f L:Nat) {v:LI},Far c L v->L<=f->∀ j,j < L->fstN (imageL c ((nfL c f v).drop j))=(nfL c f v).getD j 0
 | 0,L,v,h,hf,j,hj=>by omega
 | f+1,L,v,h,hf,j,hj=>by
  obtain⟨k1,k2,k3⟩:=nfL_far hc (f+1) L h hf
  rcases fst_of_far hc h with⟨h1,h2⟩ | ⟨h1,h2,h3,M,h4,h5⟩
  ·omega
  ·have e:nfL c (f+1) v=fstN v :: nfL c f (reflL c (fstN v) v):=by simp only [nfL];rw [if_neg om]
   cases j with
   | zero=>rw [List.drop_zero,k3,e];rfl
   | succ j=>
    rw [e,List.drop_succ_cons]
    have:=nf_letters hc f M h5 om j om
    rw [this]
    simp
theorem nf_steps {c:LL} (hc:CartanP c) {L:Nat} {v:LI} (h:Far c L v) (hL:L<=31) :
  (nfL c 31 v).length=L/\letters c.length (nfL c 31 v)/\imageL c (nfL c 31 v)=v /\
  (∀ j,j < L->fstN (imageL c ((nfL c 31 v).drop j))=(nfL c 31 v).getD j 0/\reflL c ((nfL c 31 v).getD j 0) (imageL c ((nfL c 31 v).drop j))=imageL c ((nfL c 31 v).drop (j+1))) /\
  fstN (imageL c ((nfL c 31 v).drop L)) < 0/\∀ j,Far c (L - j) (imageL c ((nfL c 31 v).drop j)):=by
 obtain⟨k1,k2,k3⟩:=nfL_far hc 31 L h hL
 have hfar:∀ j,Far c (L - j) (imageL c ((nfL c 31 v).drop j)):=by
  intro j
  induction j with
  | zero=>rw [List.drop_zero,k3];exact h
  | succ j ih=>
   by_cases hj:j < L
   ·have hlet:=nf_letters hc 31 L h hL j hj
    have hd:=actL_drop c (nfL c 31 v) (ones c.length) j om
    have hg:=letters_getD.1 k2 j om
    rcases fst_of_far hc ih with⟨_,h2⟩ | ⟨_,_,_,M,h4,h5⟩
    ·omega
    ·rw [hlet]at h5
     have e:reflL c ((nfL c 31 v).getD j 0) (imageL c ((nfL c 31 v).drop j))=imageL c ((nfL c 31 v).drop (j+1)):=by
      show reflL c _ (actL c _ _)=actL c _ _
      rw [hd]
      exact refl2 hc hg (imageL_length c _)
     rw [e]at h5
     rw [show L - (j+1)=M from by omega]
     exact h5
   ·rw [List.drop_eq_nil_of_le om,show L - (j+1)=0 from by omega]
    exact Far.ones c
 refine⟨k1,k2,k3,fun j hj=>⟨nf_letters hc 31 L h hL j hj,?_⟩,?_,hfar⟩
 ·have hd:=actL_drop c (nfL c 31 v) (ones c.length) j om
  show reflL c _ (actL c _ _)=actL c _ _
  rw [hd]
  exact refl2 hc (letters_getD.1 k2 j om) (imageL_length c _)
 ·have:=hfar L
  rw [Nat.sub_self]at this
  exact(fst_zero hc this).2 rfl
theorem c_impl_normal (c:LL) (v:LI) (L:Nat) (hc:CartanP c) (hF:Far c L v) (hL:L<=31) :
  FunA B 128 [.sl false (.row false) c,.sl false .int v] (fun rs o=>rs=[.own 0 0]/\o=[.arr .int (nfL c 31 v) 0 true]):=by
 have hn:=hc.2.1
 have hvl:v.length=c.length:=hF.1
 obtain⟨s1,s2,s3,s4,s5,s6⟩:=nf_steps hc hF hL
 obtain⟨r,hr⟩:∃ r,r=nfL c 31 v:=⟨_,rfl⟩
 rw [<- hr]at s1 s2 s3 s4 s5 s6 ⊢
 have hbd:∀ j,Bd 9223372036854775807 (imageL c (r.drop j)):=fun j=>(image_bd hc (letters_drop s2 j) (by simp;omega)).mono (by decide)
 refine wk Tryz.call128 Tryz.func128 rfl Tryz.ntmps128 fun C hC hP hT hfn hpin hfin hX=>wW ?_
 refine Run.R ?_
 refine Run.R ?_
 refine Run.le (Le.re (obs':=[.arr .int v 0 true]) hpin [0] [(0,true,.sl false (.row false) c),(1,true,.own 0 0),(4,true,.nils)] rfl (by simp [leOs,leO_arr,oAt]) (by refine⟨⟨_,rfl,?_⟩,⟨_,rfl,?_⟩,⟨_,rfl,?_⟩,trivial⟩<;>simp [leAV,oAt,genO])) ?_
 simp only [frV_cons,frV_nil]
 refine Run.R ?_
 refine Run.loopI (X:=Nat) (fun j=>⟨24,[(0,true,.v (.sl false (.row false) c)),(1,true,.v (.own 0 0)),(4,true,.v .nils),(5,true,.v (.own 1 j))],[.arr .int (imageL c (r.drop j)) 0 true,.arr .int (r.take j) j true]⟩) (fun j=>j<=L) (fun j=>L - j) 0 (nz0 _) ?_ ?_
 ·exact Le.sub (by rw [List.drop_zero,s3];rfl) (by simp only [AW7,simprocAttr,hX];try simp)
 rintro j hj ih
 have hil:=imageL_length c (r.drop j)
 have htl:(r.take j).length=j:=by simp;omega
 refine Run.g fun K hK=>?_
 refine FunA.e hP hT (c_impl_firstDescent (imageL c (r.drop j)) om) ?_
 refine wE ?_;clear hK K
 refine Run.R ?_
 refine Run.c ?_ ?_
 ·intro h
  have h:fstN (imageL c (r.drop j)) < 0:=by simpa using h
  have hjL:j=L:=by
   have:=(fst_zero hc (s6 j)).1 h
   omega
  subst hjL
  refine Run.R ?_
  refine Run.le (Le.re (obs':=[.arr .int r 0 true]) hpin [1] [(4,true,.own 0 0)] rfl (by simp [leOs,leO_arr,oAt,<- s1]) (by refine⟨⟨_,rfl,?_⟩,trivial⟩;simp [leAV,oAt,genO])) ?_
  simp only [frV_cons,frV_nil]
  refine Run.r [4] ?_
  exact⟨rfl,rfl⟩
 ·intro h
  have h:¬fstN (imageL c (r.drop j)) < 0:=by simpa using h
  have hjL:j < L:=by
   refine Classical.byContradiction fun hn=>h ?_
   rw [show j=L from by omega];exact s5
  obtain⟨q1,q2⟩:=s4 j hjL
  rw [q1]
  have hB':=hbd (j+1)
  rw [<- q2]at hB'
  refine Run.R ?_
  refine Run.le (Le.cut0 hpin [_] (fr':=[(0,true,.v (.sl false (.row false) c)),(1,true,.v (.own 0 0)),(4,true,.v .nils),(5,true,.v (.own 1 (j+1))),(6,true,.v (.int .i64 (r.getD j 0)))]) (obs':=[.arr .int (imageL c (r.drop j)) 0 true,.arr .int (r.take j ++ [r.getD j 0]) (j+1) true]) rfl (by simp only [AW7,simprocAttr];try simp) rfl) ?_
  rw [take_snoc 0 r j om]
  refine Run.g fun K hK=>?_
  refine FunM.call hP hT (c_impl_reflected c (r.getD j 0) (imageL c (r.drop j)) hc hil (letters_getD.1 s2 j om) hB') 0 0 (by simp only [AW7,simprocAttr];rfl) (by simp) rfl (by simp only [AW7,simprocAttr];try simp) ?_
  rintro rs o' obs' ⟨rfl,h⟩
  obtain⟨rfl,rfl⟩:=List.cons.inj h
  refine wF ?_;clear hK K
  refine Run.le ?_ (ih (j+1) hjL om)
  exact Le.sub (by rw [q2]) (by simp only [AW7,simprocAttr];try simp)
theorem fst_pos {c:LL} (hc:CartanP c) {M:Nat} {v:LI} (h:Far c M v) {k:Nat} (hk:k < c.length) (hpre:∀ q,q < k->0 < v.getD q 0) (hv:¬0 < v.getD k 0):fstN v=k:=by
 have hz:=h.nz hc k hk
 rcases firstNeg_spec v v.length with⟨_,h2⟩ | ⟨i,h1,h2,h3,h4⟩
 ·have:=h2 k (by rw [h.1];exact hk);omega
 ·have e:fstN v=i:=h1
  rw [e]
  by_cases hik:i < k
  ·have:=hpre i hik;omega
  ·by_cases hki:k < i
   ·have:=h4 k hki;omega
   ·omega
theorem fst_none {c:LL} (hc:CartanP c) {M:Nat} {v:LI} (h:Far c M v) (hpre:∀ q,q < c.length->0 < v.getD q 0):M=0:=by
 rcases fst_of_far hc h with⟨_,h2⟩ | ⟨h1,h2,h3,_⟩
 ·exact h2
 ·have:=hpre (fstN v).toNat om;omega
theorem c_spec_l8Form (c:LL) (v:LI) (L:Nat) (hc:CartanP c) (hF:Far c L v) (hL:L<=31) :
  FunA B 114 [.sl false (.row false) c,.sl false .int v] (fun rs o=>rs=[.own 0 0]/\o=[.arr .int (nfL c 31 v) 0 true]):=by
 have hn:=hc.2.1
 have hvl:v.length=c.length:=hF.1
 obtain⟨s1,s2,s3,s4,s5,s6⟩:=nf_steps hc hF hL
 obtain⟨r,hr⟩:∃ r,r=nfL c 31 v:=⟨_,rfl⟩
 rw [<- hr]at s1 s2 s3 s4 s5 s6 ⊢
 have hbd:∀ j,Bd 9223372036854775807 (imageL c (r.drop j)):=fun j=>(image_bd hc (letters_drop s2 j) (by simp;omega)).mono (by decide)
 refine wk Tryz.call114 Tryz.func114 rfl Tryz.ntmps114 fun C hC hP hT hfn hpin hfin hX=>wW ?_
 refine Run.R ?_
 refine Run.R ?_
 refine Run.R ?_
 refine Run.keep [0,1,4,5,6] ?_;simp only [AK,Nat.reduceBEq]
 have fin:∀ j,j=L->r.take j=r:=fun j hj=>by rw [hj,<- s1,tkL]
 refine Run.loopI (X:=Nat×Bool) (fun x=>⟨40,[(0,true,.v (.sl false (.row false) c)),(1,true,.v (.sl x.2 .int (imageL c (r.drop x.1)))),(4,true,.v .nils),(5,true,.v (.own 0 x.1)),(6,true,.v (.int .i64 x.1))],[.arr .int (r.take x.1) x.1 true]⟩) (fun x=>x.1<=L) (fun x=>32 - x.1) (0,false) (by simp) ?_ ?_
 ·exact Le.sub (by rfl) (by simp only [AW7,simprocAttr,hX];try simp [s3])
 rintro⟨j,fl⟩ hj ih
 simp only []at hj ⊢
 have hil:=imageL_length c (r.drop j)
 have htl:(r.take j).length=j:=by simp;omega
 refine Run.R ?_
 refine Run.keep [0,1,4,5,6,10] ?_;simp only [AK,Nat.reduceBEq]
 refine Run.c ?_ ?_
 ·intro h
  refine Run.R ?_
  refine Run.keep [0,1,4,5,6,7] ?_;simp only [AK,Nat.reduceBEq]
  refine Run.loopI (X:=Nat) (fun k=>⟨40,[(0,true,.v (.sl false (.row false) c)),(1,true,.v (.sl fl .int (imageL c (r.drop j)))),(4,true,.v .nils),(5,true,.v (.own 0 j)),(6,true,.v (.int .i64 j)),(7,true,.v (.int .i64 k))],[.arr .int (r.take j) j true]⟩) (fun k=>k<=c.length/\∀ q,q < k->0 < (imageL c (r.drop j)).getD q 0) (fun k=>c.length - k) 0 ⟨nz0 _,by omega⟩ ?_ ?_
  ·exact Le.sub (by rfl) (by simp only [AW7,simprocAttr,hX];try simp)
  rintro k ⟨hk,hpre⟩ ihk
  refine Run.R ?_
  refine Run.keep [0,1,4,5,6,7,23] ?_;simp only [AK,Nat.reduceBEq]
  refine Run.c ?_ ?_
  ·intro h2
   have h2:k < c.length/\0 < (imageL c (r.drop j)).getD k 0:=by
    rw [hil]at h2
    by_cases hq:k < c.length
    ·have hq':(k:Int) < c.length:=by omega
     simp only [hq',decide_true,cond_true,dtE]at h2
     exact⟨hq,h2⟩
    ·have hq':¬(k:Int) < c.length:=by omega
     simp [hq']at h2
   refine Run.RW ?_
   refine Run.le ?_ (ihk (k+1) ⟨h2.1,fun q hq=>?_⟩ om)
   ·exact Le.sub (by simp only [AW7,simprocAttr]) (by simp only [AW7,simprocAttr,Option.some.injEq,Prod.mk.injEq,Sl.v.injEq,AV.int.injEq,AV.own.injEq,AV.bool.injEq];try(repeat' apply And.intro);all_goals omega)
   ·rcases Nat.lt_succ_iff_lt_or_eq.1 hq with h | rfl
    ·exact hpre q h
    ·exact h2.2
  ·intro h2
   refine Run.x ?_
   refine Run.R ?_
   refine Run.keep [0,1,4,5,6,7,29] ?_;simp only [AK,Nat.reduceBEq]
   refine Run.c ?_ ?_
   ·intro h3
    have h3:k=c.length:=by rw [hil]at h3;simp at h3;omega
    subst h3
    have hz:=fst_none hc (s6 j) hpre
    refine Run.R ?_
    refine Run.le (Le.re (obs':=[.arr .int r 0 true]) hpin [0] [(4,true,.own 0 0)] rfl (by rw [fin j om];simp [leOs,leO_arr,oAt]) (by refine⟨⟨_,rfl,?_⟩,trivial⟩;simp [leAV,oAt,genO])) ?_
    simp only [frV_cons,frV_nil]
    refine Run.r [4] ?_
    exact⟨rfl,rfl⟩
   ·intro h3
    have h3:k < c.length:=by
     have:¬k=c.length:=by rw [hil]at h3;intro hk;subst hk;simp at h3
     omega
    have hnp:¬0 < (imageL c (r.drop j)).getD k 0:=by
     intro hp
     rw [hil]at h2
     have hq':(k:Int) < c.length:=by omega
     simp only [hq',decide_true,cond_true,dfE]at h2
     exact h2 hp
    have hfk:=fst_pos hc (s6 j) h3 hpre hnp
    have hjL:j < L:=by
     refine Classical.byContradiction fun hn2=>?_
     have:j=L:=by omega
     rw [this]at hfk
     omega
    obtain⟨q1,q2⟩:=s4 j hjL
    rw [hfk]at q1
    have hB':=hbd (j+1)
    rw [<- q2]at hB'
    have hlet:=letters_getD.1 s2 j om
    rw [q1]
    refine Run.R ?_
    refine Run.le (Le.cut0 hpin [_] (fr':=[(0,true,.v (.sl false (.row false) c)),(1,true,.v (.sl fl .int (imageL c (r.drop j)))),(4,true,.v .nils),(5,true,.v (.own 0 (j+1))),(6,true,.v (.int .i64 j)),(7,true,.v (.int .i64 (r.getD j 0)))]) (obs':=[.arr .int (r.take j ++ [r.getD j 0]) (j+1) true]) rfl (by simp only [AW7,simprocAttr];try simp) rfl) ?_
    rw [take_snoc 0 r j om]
    refine Run.g fun K hK=>?_
    refine FunA.e hP hT (c_spec_l6Reflect c (r.getD j 0) (imageL c (r.drop j)) hc hil hlet hB') ?_
    refine wE ?_;clear hK K
    refine Run.RW ?_
    refine Run.le (Le.letgo 1 [(0,true,.sl false (.row false) c),(1,true,.sl true .int (reflL c (r.getD j 0) (imageL c (r.drop j)))),(4,true,.nils),(5,true,.own 0 (j+1)),(6,true,.int .i64 ((j:Int)+1))] rfl ?_) ?_
    ·exact⟨.inl rfl,.inr ⟨rfl,rfl⟩,.inl rfl,.inl rfl,.inl rfl,trivial⟩
    simp only [frV_cons,frV_nil,q2]
    refine Run.le ?_ (ih (j+1,true) hjL (by simp only [];omega))
    exact Le.cut0 hpin [.dead] (by rfl) (by simp only [AW7,simprocAttr];try simp) rfl
 ·intro h
  have h:¬(j:Int)<=30:=by simpa using h
  refine Run.x ?_
  refine Run.R ?_
  refine Run.le (Le.re (obs':=[.arr .int r 0 true]) hpin [0] [(4,true,.own 0 0)] rfl (by rw [fin j om];simp [leOs,leO_arr,oAt]) (by refine⟨⟨_,rfl,?_⟩,trivial⟩;simp [leAV,oAt,genO])) ?_
  simp only [frV_cons,frV_nil]
  refine Run.r [4] ?_
  exact⟨rfl,rfl⟩
def cmpN (p q:LI):Nat->Nat->Int
 | 0,_=>0
 | n+1,i=>if p.getD i 0 < q.getD i 0 then -1 else if p.getD i 0 > q.getD i 0 then 1 else cmpN p q n (i+1)
def cmpW (p q:LI):Int:=if p.length < q.length then -1 else if p.length > q.length then 1 else cmpN p q p.length 0
theorem cmpN_zero (p q:LI) (hl:p.length=q.length):∀ n i,i+n=p.length->p.take i=q.take i->(cmpN p q n i=0↔p=q)
 | 0,i,hi,ht=>by
  have:p=q:=by
   have h1:p.take i=p:=List.take_of_length_le om
   have h2:q.take i=q:=List.take_of_length_le om
   rw [<- h1,<- h2,ht]
  simp [cmpN,this]
 | n+1,i,hi,ht=>by
  simp only [cmpN]
  split
  ·rename_i h
   constructor
   ·intro k;cases k
   ·intro k;rw [k]at h;omega
  ·split
   ·rename_i h
    constructor
    ·intro k;cases k
    ·intro k;rw [k]at h;omega
   ·rename_i h1 h2
    have he:p.getD i 0=q.getD i 0:=by omega
    exact cmpN_zero p q hl n (i+1) om (by rw [<- take_snoc 0 p i om,<- take_snoc 0 q i om,ht,he])
theorem cmpW_zero (p q:LI):cmpW p q=0↔p=q:=by
 unfold cmpW
 split
 ·rename_i h
  constructor
  ·intro k;cases k
  ·intro k;rw [k]at h;omega
 ·split
  ·rename_i h
   constructor
   ·intro k;cases k
   ·intro k;rw [k]at h;omega
  ·exact cmpN_zero p q om p.length 0 om (by simp)
theorem c_spec_CompareWords (p q:LI) (hp:p.length<=4503599627370496):FunA B 130 [.sl false .int p,.sl false .int q] (fun rs o=>rs=[.int .i64 (cmpW p q)]/\o=[]):=by
 refine wk Tryz.call130 Tryz.func130 rfl Tryz.ntmps130 fun C hC hP hT hfn hpin hfin hX=>wW ?_
 refine Run.R ?_
 refine Run.R ?_
 refine Run.c ?_ ?_
 ·intro hc
  refine Run.R ?_
  refine Run.c ?_ ?_
  ·intro hl
   refine Run.R ?_
   refine Run.r [4] ?_
   have hl:p.length < q.length:=by simpa using hl
   simp [cmpW,hl]
  ·intro hl
   refine Run.R ?_
   refine Run.r [4] ?_
   have hl:¬p.length < q.length:=by simpa using hl
   have hc:¬(p.length:Int)=q.length:=by simpa using hc
   have:q.length < p.length:=by omega
   simp [cmpW,hl,this]
 intro hc
 have hl:p.length=q.length:=by simp at hc;omega
 refine Run.R ?_
 refine Run.loopI (X:=Nat) (fun i=>⟨40,[(0,true,.v (.sl false .int p)),(1,true,.v (.sl false .int q)),(5,true,.v (.int .i64 i)),(4,true,.v (.int .i64 0))],[]⟩) (fun i=>i<=p.length/\cmpN p q p.length 0=cmpN p q (p.length - i) i) (fun i=>p.length - i) 0 (by simp) ?_ ?_
 ·exact Le.sub (by simp only [AW7,simprocAttr]) (by simp only [AW7,simprocAttr];try simp)
 rintro i ⟨hi,ht⟩ ih
 have hw:cmpW p q=cmpN p q (p.length - i) i:=by simp [cmpW,<- hl,ht]
 refine Run.R ?_
 refine Run.c ?_ ?_
 ·intro hc2
  have hc2:i < p.length:=by simpa using hc2
  obtain⟨m,hm⟩:∃ m,p.length - i=m+1:=⟨p.length - i - 1,by omega⟩
  refine Run.nq ?_;refine Run.regionD hC true [0,1,2,3,4,5,6,7,8] (by kernel_rfl) (fun K hK=>?_);simp only [AW7,simprocAttr,hX];(repeat(with_reducible refine And.intro ?_ ?_);exact vc0);refine wE ?_;clear hK K
  refine Run.c ?_ ?_
  ·intro hlt
   have hlt:p.getD i 0 < q.getD i 0:=by simpa using hlt
   refine Run.R ?_
   refine Run.r [4] ?_
   rw [hw,hm]
   simp only [cmpN]
   rw [if_pos hlt]
   simp
  ·intro hlt
   have hlt:¬p.getD i 0 < q.getD i 0:=by simpa using hlt
   refine Run.nq ?_;refine Run.regionD hC true [0,1,2,3,4,5,6,7,8] (by kernel_rfl) (fun K hK=>?_);simp only [AW7,simprocAttr,hX];(repeat(with_reducible refine And.intro ?_ ?_);exact vc0);refine wE ?_;clear hK K
   refine Run.c ?_ ?_
   ·intro hgt
    have hgt:q.getD i 0 < p.getD i 0:=by simpa using hgt
    refine Run.R ?_
    refine Run.r [4] ?_
    rw [hw,hm]
    simp only [cmpN]
    rw [if_neg hlt,if_pos hgt]
    simp
   ·intro hgt
    have hgt:¬q.getD i 0 < p.getD i 0:=by simpa using hgt
    refine Run.RW ?_
    refine Run.le ?_ (ih (i+1) ⟨hc2,?_⟩ om)
    ·exact Le.sub (by simp only [AW7,simprocAttr]) (by simp only [AW7,simprocAttr,Option.some.injEq,Prod.mk.injEq,Sl.v.injEq,AV.int.injEq,AV.own.injEq,AV.bool.injEq];try(repeat' apply And.intro);all_goals omega)
    ·rw [ht,hm]
     simp only [cmpN]
     rw [if_neg hlt,if_neg hgt,show p.length - (i+1)=m from by omega]
 ·intro hc2
  have hc2:i=p.length:=by simp at hc2;omega
  refine Run.x ?_
  refine Run.R ?_
  refine Run.r [4] ?_
  rw [hw,hc2,Nat.sub_self]
  simp [cmpN]
theorem c_spec_EqualWords (p q:LI) (hp:p.length<=4503599627370496):FunA B 77 [.sl false .int p,.sl false .int q] (fun rs o=>rs=[.bool (p == q)]/\o=[]):=by
 refine wk Tryz.call77 Tryz.func77 rfl Tryz.ntmps77 fun C hC hP hT hfn hpin hfin hX=>wW ?_
 refine Run.R ?_
 refine Run.g fun K hK=>?_
 refine FunA.e hP hT (c_spec_CompareWords p q hp) ?_
 refine wE ?_;clear hK K
 refine Run.r [4] ?_
 have:=cmpW_zero p q
 refine⟨?_,rfl⟩
 rw [show(cmpW p q == 0)=(p == q)from by rw [Bool.eq_iff_iff,beq_iff_eq,beq_iff_eq];exact this]
end Go.Proofs.YtcinngodeoidnaaGreat
