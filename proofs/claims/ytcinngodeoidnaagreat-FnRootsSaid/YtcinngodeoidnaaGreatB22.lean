/- The neighbours of a point: what the functions of both sides do. -/
import Derived.Test.YtcinngodeoidnaaGreatB21
import Derived.Test.YtcinngodeoidnaaGreatB15
import Derived.Shelf.Sort.Plain
import Derived.Test.YtcinngodeoidnaaGreatB9
set_option linter.unusedVariables false
set_option linter.unusedSimpArgs false
namespace Go.Proofs.YtcinngodeoidnaaGreat
open Go Go.Aw Go.Cox
def nbC (c:LL) (i j:Nat):Bool:=!(j == i) && !(ent c i j == 0)
def nbK (c:LL) (i k:Nat):List Int:=((List.range k).filter (nbC c i)).map Int.ofNat
theorem nbK_all (c:LL) (i:Nat):nbK c i c.length=nbI c i:=rfl
theorem nbK_step (c:LL) (i k:Nat):nbK c i (k+1)=if nbC c i k=true then nbK c i k ++ [(k:Int)]else nbK c i k:=by
 unfold nbK
 rw [List.range_succ,List.filter_append,List.map_append]
 by_cases h:nbC c i k=true
 ·rw [if_pos h];simp [h]
 ·have h:nbC c i k=false:=by simpa using h
  rw [if_neg (by simp [h])];simp [h]
theorem nbK_len (c:LL) (i k:Nat):(nbK c i k).length<=k:=by
 unfold nbK
 rw [List.length_map]
 exact Nat.le_trans (List.length_filter_le ..) (by simp)
theorem nbI_mem {c:LL} {i:Nat}:letters c.length (nbI c i):=by
 intro x hx
 simp only [nbI,List.mem_map,List.mem_filter,List.mem_range]at hx
 obtain⟨j,⟨h1,_⟩,rfl⟩:=hx
 exact⟨by simp,by simpa using h1⟩
theorem nbC_eq (c:LL) (i k:Nat):(bif (k:Int) != (i:Int)then ent c i k != 0 else false)=nbC c i k:=by
 unfold nbC
 by_cases h:k=i
 ·subst h;simp
 ·have h1:(k == i)=false:=by simpa using h
  have h2:((k:Int) != (i:Int))=true:=by simp;omega
  rw [h1,h2];rfl
theorem c_impl_NeighboursOf (c:LL) (i:Nat) (hc:CartanP c) (hi:i < c.length):FunA B 181 [.sl false (.row false) c,.int .i64 i] (fun rs o=>rs=[.own 0 0]/\o=[.arr .int (nbI c i) 0 true]):=by
 have hn:=hc.2.1
 have hrow:=hc.2.2.1
 have hpt:ptB c i=true:=by simp [ptB];omega
 refine wk Tryz.call181 Tryz.func181 rfl Tryz.ntmps181 fun C hC hP hT hfn hpin hfin hX=>wW ?_
 refine Run.R ?_
 refine Run.R ?_
 refine Run.g fun K hK=>?_
 refine FunA.cW hP hT (c_impl_IsCartan c) ?_
 rintro rs o ⟨rfl,rfl⟩
 rw [isC_true hc]
 refine wW ?_
 refine .inl (FunA.callG hP hT (c_impl_isPoint c i) (fun _=>rfl) (fun _=>by simp only [AW7,simprocAttr]) ?_)
 rw [hpt]
 refine wF ?_;clear hK K
 refine Run.c ?_ ?_
 ·intro h;simp at h
 intro _
 refine Run.R ?_
 refine Run.k [0,1,4,5,18,19,20] [0] ?_
 refine Run.loopI (X:=Nat) (fun k=>⟨42,[(0,true,.v (.sl false (.row false) c)),(1,true,.v (.int .i64 i)),(4,true,.v (.nils)),(5,true,.v (.own 0 0)),(18,true,.v (.sl false (.row false) c)),(19,true,.v (.int .i64 (c.length))),(20,true,.v (.int .i64 k))],[.arr .int ((nbK c i k)) 0 true]⟩) (fun k=>k<=c.length) (fun k=>c.length - k) (0) (nz0 _) ?_ ?_
 ·exact Le.s
 rintro k hk ih
 try simp only []
 have hll:=nbK_len c i k
 refine Run.R ?_
 refine Run.c ?_ ?_
 rotate_left
 ·intro h
  have h:k=c.length:=by rw [dfE]at h;omega
  subst h
  refine Run.x ?_
  refine Run.R ?_
  refine Run.r [4] ?_
  exact⟨rfl,by rw [nbK_all]⟩
 intro h
 have h:k < c.length:=by rw [dtE]at h;omega
 have hri:=hrow i hi
 refine Run.R ?_
 refine Run.R ?_
 refine Run.c ?_ ?_
 ·intro h2
  have h2:nbC c i k=true:=by rw [<- nbC_eq];exact h2
  have e:=nbK_step c i k
  rw [if_pos h2]at e
  refine Run.R ?_
  refine Run.RW ?_
  refine Run.k [0,1,4,5,18,19,20] [0] ?_
  refine Run.le ?_ (ih (k+1) om (by(try simp only [lenA,lenC,lenN]);omega))
  exact Le.sub (by first | rfl | (simp only [e];done) | (rw [e];rfl)) (by simp only [AW7,simprocAttr];try simp)
 ·intro h2
  have h2:nbC c i k=false:=by rw [<- nbC_eq];exact h2
  have e:=nbK_step c i k
  rw [if_neg (by simp [h2])]at e
  refine Run.RW ?_
  refine Run.le ?_ (ih (k+1) om (by(try simp only [lenA,lenC,lenN]);omega))
  exact Le.sub (by first | rfl | (simp only [e];done) | (rw [e];rfl)) (by simp only [AW7,simprocAttr];try simp)
theorem c_spec_NeighboursOf (c:LL) (i:Nat) (hc:CartanP c) (hi:i < c.length):FunA B 204 [.sl false (.row false) c,.int .i64 i] (fun rs o=>rs=[.own 0 0]/\o=[.arr .int (nbI c i) 0 true]):=by
 have hn:=hc.2.1
 have hrow:=hc.2.2.1
 have hin:inB (i:Int) 0 ((c.length:Int) - 1)=true:=by simp [inB];omega
 refine wk Tryz.call204 Tryz.func204 rfl Tryz.ntmps204 fun C hC hP hT hfn hpin hfin hX=>wW ?_
 refine Run.R ?_
 refine Run.R ?_
 refine Run.R ?_
 refine Run.loopI (X:=Nat) (fun k=>⟨43,[(0,true,.v (.sl false (.row false) c)),(1,true,.v (.int .i64 i)),(4,true,.v (.nils)),(5,true,.v (.own 0 0)),(6,true,.v (.int .i64 k))],[.arr .int ((nbK c i k)) 0 true]⟩) (fun k=>k<=c.length) (fun k=>c.length - k) (0) (nz0 _) ?_ ?_
 ·exact Le.s
 rintro k hk ih
 try simp only []
 have hll:=nbK_len c i k
 rcases Nat.lt_or_ge k c.length with h | h
 ·have hd:decide ((k:Int) < c.length)=true:=by simp;exact h
  refine Run.g fun K hK=>?_
  rw [hd]
  refine .inl (FunA.callG hP hT (c_spec_IsCartan c) (fun _=>rfl) (fun _=>by simp only [AW7,simprocAttr]) ?_)
  rw [isC_true hc]
  refine wWW ?_
  refine .inl (FunA.callG hP hT (c_spec_l1In i 0 ((c.length:Int) - 1)) (fun _=>rfl) (fun _=>by simp only [AW7,simprocAttr]) ?_)
  rw [hin]
  refine wF ?_;clear hK K
  refine Run.c ?_ ?_
  rotate_left
  ·intro h;simp at h
  intro _
  have hri:=hrow i hi
  refine Run.R ?_
  refine Run.c ?_ ?_
  ·intro h2
   have h2:nbC c i k=true:=by rw [<- nbC_eq];exact h2
   have e:=nbK_step c i k
   rw [if_pos h2]at e
   refine Run.R ?_
   refine Run.RW ?_
   refine Run.k [0,1,4,5,6] [0] ?_
   refine Run.le ?_ (ih (k+1) om (by(try simp only [lenA,lenC,lenN]);omega))
   exact Le.sub (by first | rfl | (simp only [e];done) | (rw [e];rfl)) (by simp only [AW7,simprocAttr];try simp)
  ·intro h2
   have h2:nbC c i k=false:=by rw [<- nbC_eq];exact h2
   have e:=nbK_step c i k
   rw [if_neg (by simp [h2])]at e
   refine Run.RW ?_
   refine Run.le ?_ (ih (k+1) om (by(try simp only [lenA,lenC,lenN]);omega))
   exact Le.sub (by first | rfl | (simp only [e];done) | (rw [e];rfl)) (by simp only [AW7,simprocAttr];try simp)
 ·have h:k=c.length:=by omega
  subst h
  have hd:decide ((c.length:Int) < c.length)=false:=by simp
  refine Run.g fun K hK=>?_
  rw [hd]
  refine .inl (CallG.off (.bool false) ?_)
  refine wWW ?_
  refine .inl (CallG.off (.bool false) ?_)
  refine wF ?_;clear hK K
  refine Run.c ?_ ?_
  ·intro h;simp at h
  intro _
  refine Run.x ?_
  refine Run.R ?_
  refine Run.r [4] ?_
  exact⟨rfl,by rw [nbK_all]⟩
def AscI (l:LI):Prop:=l.Pairwise fun a b=>a<=b
theorem insI_perm (x:Int):∀ l,(insI x l).Perm (x :: l)
 | []=>.refl _
 | y :: l=>by
  simp only [insI]
  by_cases h:x<=y
  ·rw [decide_eq_true h,cond_true]
  ·rw [decide_eq_false h,cond_false]
   exact((insI_perm x l).cons y).trans (.swap x y l)
theorem insI_asc (x:Int):∀ {l},AscI l->AscI (insI x l)
 | [],_=>by unfold AscI;simp [insI]
 | y :: l,h=>by
  obtain⟨h1,h2⟩:=List.pairwise_cons.1 h
  simp only [insI]
  by_cases hx:x<=y
  ·rw [decide_eq_true hx,cond_true]
   refine List.pairwise_cons.2 ⟨fun z hz=>?_,h⟩
   rcases List.mem_cons.1 hz with rfl | hz
   ·exact hx
   ·have:=h1 z hz;omega
  ·rw [decide_eq_false hx,cond_false]
   refine List.pairwise_cons.2 ⟨fun z hz=>?_,insI_asc x h2⟩
   rcases List.mem_cons.1 ((insI_perm x l).mem_iff.1 hz)with rfl | hz
   ·omega
   ·exact h1 z hz
theorem sortI_spec:∀ l,(sortI l).Perm l/\AscI (sortI l)
 | []=>⟨.refl _,List.Pairwise.nil⟩
 | x :: l=>by
  obtain⟨h1,h2⟩:=sortI_spec l
  exact⟨(insI_perm x _).trans (h1.cons x),insI_asc x h2⟩
theorem asc_uniq:∀ {a b:LI},a.Perm b->AscI a->AscI b->a=b
 | [],b,h,_,_=>h.nil_eq
 | x :: a,[],h,_,_=>absurd h.symm.nil_eq (by simp)
 | x :: a,y :: b,h,ha,hb=>by
  obtain⟨a1,a2⟩:=List.pairwise_cons.1 ha
  obtain⟨b1,b2⟩:=List.pairwise_cons.1 hb
  have hxy:x=y:=by
   rcases List.mem_cons.1 (h.mem_iff.1 (mcS ..))with e | e
   ·exact e
   ·rcases List.mem_cons.1 (h.mem_iff.2 (mcS ..))with e2 | e2
    ·exact e2.symm
    ·have:=b1 x e;have:=a1 y e2;omega
  subst hxy
  rw [asc_uniq ((List.perm_cons x).1 h) a2 b2]
theorem merge_sortI (l:LI):l.mergeSort (fun x y=>decide (x<=y))=sortI l:=by
 refine asc_uniq ((List.mergeSort_perm l _).trans (sortI_spec l).1.symm) ?_ (sortI_spec l).2
 have:=List.pairwise_mergeSort (le:=fun x y:Int=>decide (x<=y)) (by intro a b c;simp;omega) (by intro a b;simp;omega) l
 exact this.imp fun h=>by simpa using h
theorem sortI_len (l:LI):(sortI l).length=l.length:=(sortI_spec l).1.length_eq
theorem gr_heap (w:World) (blk:Nat) (n:Nat) (d:Array Int) (os:Array Obj) (b:Nat) (hb:b < w.heap.size) :
  (Go.Sort.grow (Go.Sort.putRow (Value.int .i64) (Go.Sort.ahead w n) blk 0 d) os).heap[b]? = if b=blk then(w.heap[b]?).map (Go.Sort.onCells (Go.Sort.putCells (Value.int .i64) 0 d))else w.heap[b]?:=by
 show((w.heap.modify blk (Go.Sort.onCells (Go.Sort.putCells (Value.int .i64) 0 d))) ++ os)[b]? = _
 rw [Array.getElem?_append,if_pos (by simpa using hb),Array.getElem?_modify]
 by_cases h:b=blk
 ·rw [if_pos h,if_pos h.symm]
 ·rw [if_neg h,if_neg (Ne.symm h)]
theorem ACall.sortI {B C:Ctx} (hP:B.P=C.P) (hT:B.tid=C.tid) {ρs:Go.Shelf.Ren} (L:Lays.n189 B.P ρs) {f:FuncId} (hf:ρs.f 189=f) (hcall:∀(vs:Array Value) (w:World),(callFunc f vs).run B.P w=.ok (.enter f vs) w) {obs:List O} (id gg:Nat) {xs:LI}
  (ho:oAt obs id=.arr .int xs gg true) (hxb:xs.length<=1048576) {K:Sl->List O->Prop} (hk:K (.t []) (oSet obs id (.arr .int (Go.Proofs.YtcinngodeoidnaaGreat.sortI xs) gg true))):ACall C obs f [.own id gg] fun x o=>Later (K x o):=by
 refine⟨fun vs w=>by rw [<- hP];exact hcall vs w,fun w ρ vs rr hl hx=>?_⟩
 have hid:id < obs.length:=by
  rcases Nat.lt_or_ge id obs.length with h | h
  ·exact h
  ·rw [oAt_eq,geN h]at ho;cases ho
 have ho':obs[id]? = some (.arr .int xs gg true):=by rw [oAt_get hid,ho]
 match vs,hl with
 | [u1],_=>
 have a1:=hx 0 _ u1 rfl rfl
 obtain⟨_,a1⟩:=(show AVRel (C.V w obs ρ) obs ρ (.own id gg) u1 from a1)
 have hu1:u1=ρ id:=(a1 gg (by unfold genOf;rw [ho'];rfl)).2 rfl
 obtain⟨cs,hown,henc,hnn,hml⟩:=rr.os id _ ho'
 have hcs:=enc_ints henc
 subst hcs
 rcases hown.2 with⟨hv,_⟩ | ⟨b,cap,cur,hv,_,hg,h1,h2,h3,h4⟩
 ·exact(hnn rfl hv).elim
 simp only [E.size,Nat.mul_one]at h3 h4
 have hblk:b < w.heap.size:=(ageS.1 hg).1
 have hcc:∀ i (hi:i < xs.length),cur[i]? = some (.int .i64 xs[i]):=fun i hi=>by
  have:=congrArg (fun l=>l[i]?) h4
  simp only [List.getElem?_take,if_pos hi,List.getElem?_map,geE hi,Option.map_some]at this
  simpa using this
 have hH:Go.Sort.Holds (Value.int .i64) w b 0 xs.toArray:=fun j hj=>by
  have hj:j < xs.length:=by simpa using hj
  refine⟨?_,?_⟩
  ·simp only [World.cell?,hg,Nat.zero_add]
   show cur[j]? = _
   rw [hcc j hj]
   simp [hj]
  ·simp [World.frozen?,hg]
 have main:=Any.slices_Sort_int L b 0 cap xs w hH hblk om
 rw [hf,hP]at main
 subst hu1
 rw [hv]
 refine main.mono fun e w' ⟨he,n,os,hw'⟩=>⟨.tuple #[],he,.t [],?_⟩
 rw [merge_sortI]at hw'
 have hlen:=sortI_len xs
 have hheap:=fun b' (hb:b' < w.heap.size)=>gr_heap w b n (Go.Proofs.YtcinngodeoidnaaGreat.sortI xs).toArray os b' hb
 have hext:Ext (fun b'=>fpo (ρ id) (.arr .int xs gg true) b') w w':=by
  rw [hw']
  refine⟨rfl,rfl,rfl,?_,Nat.le_add_right _ _,fun b' hb' hS=>?_⟩
  ·show w.heap.size<=((w.heap.modify b _) ++ os).size
   simp
  ·rw [hheap b' hb',if_neg]
   intro e
   subst e
   exact hS (by simp [fpo,hv,Value.ownBlock])
 have hfb:∀ b',fpo (ρ id) (.arr .int (Go.Proofs.YtcinngodeoidnaaGreat.sortI xs) gg true) b'->fpo (ρ id) (.arr .int xs gg true) b'\/w.heap.size<=b':=fun b' hb'=>.inl hb'
 have T:=Turn.one rr id (.arr .int xs gg true) (.arr .int (Go.Proofs.YtcinngodeoidnaaGreat.sortI xs) gg true) (ρ id) ho' hext (w':=w') ?_ hfb (fun c' hc=>⟨gg,rfl,.inl ⟨(by cases hc;rfl),rfl⟩⟩)
 ·have hst:=T.step rr
  refine⟨obs.set id (.arr .int (Go.Proofs.YtcinngodeoidnaaGreat.sortI xs) gg true),_,hst,⟨[],rfl,rfl,by simp⟩,?_⟩
  rw [oSet_eq]at hk
  exact hk
 ·refine⟨(Go.Proofs.YtcinngodeoidnaaGreat.sortI xs).map (Value.int .i64),⟨by simp [E.size],.inr ⟨b,cap,Go.Sort.putCells (Value.int .i64) 0 (Go.Proofs.YtcinngodeoidnaaGreat.sortI xs).toArray cur,by rw [hlen];exact hv,nz0 _,?_,by rw [hlen];exact h1,h2,by simpa [Go.Sort.putCells,E.size] using h3,?_⟩⟩,⟨by simp [E.size],fun i hi=>?_⟩,fun _=>by rw [hv];simp,by rw [hlen];exact hml⟩
  ·rw [hw',hheap b hblk,if_pos rfl,hg]
   rfl
  ·rw [hlen]
   apply List.ext_getElem?
   intro i
   simp only [E.size,Nat.mul_one]
   by_cases hi:i < xs.length
   ·rw [List.getElem?_take_of_lt hi]
    have hic:i < cur.size:=by rw [h3];omega
    rw [Array.getElem?_toList]
    unfold Go.Sort.putCells
    rw [Array.getElem?_mapIdx,Array.getElem?_eq_getElem hic]
    simp [hlen,hi]
   ·rw [geN (by simp;omega),geN (by simp [hlen];omega)]
  ·refine⟨.int .i64 (Go.Proofs.YtcinngodeoidnaaGreat.sortI xs)[i],rfl,fun j hj=>?_⟩
   have:j=0:=by simp [E.size]at hj;omega
   subst this
   simp [E.size,Value.cells,hi]
def sortIL_ren:Go.Shelf.Ren:=⟨fun | 189=>182 | 125=>135 | 257=>203 | 128=>170 | 129=>171 | 294=>210 | 295=>211 | 296=>212 | 297=>213 | 298=>214 | 299=>215 | 216=>216 | 300=>217 | 301=>218 | 328=>220 | 329=>187 | 330=>188 | 331=>221 | 332=>222 | 215=>172 | 343=>223 | n=>n,fun | 28=>25 | 3=>3 | 46=>82 | 0=>0 | 51=>111 | 53=>113 | 4=>4 | 183=>104 | 182=>103 | 131=>108 | 5=>5 | 9=>9 | 218=>119 | 222=>123 | 228=>131 | 229=>132 | n=>n,fun n=>n⟩
theorem sortIL:Lays.n189 Tryz.prog sortIL_ren where
 mixed:=by kernel_rfl
 f125:=Tryz.func135.trans (congrArg some (by kernel_rfl))
 f128:=Tryz.func170.trans (congrArg some (by kernel_rfl))
 f129:=Tryz.func171.trans (congrArg some (by kernel_rfl))
 f189:=Tryz.func182.trans (congrArg some (by kernel_rfl))
 f215:=Tryz.func172.trans (congrArg some (by kernel_rfl))
 f216:=Tryz.func216.trans (congrArg some (by kernel_rfl))
 f257:=Tryz.func203.trans (congrArg some (by kernel_rfl))
 f294:=Tryz.func210.trans (congrArg some (by kernel_rfl))
 f295:=Tryz.func211.trans (congrArg some (by kernel_rfl))
 f296:=Tryz.func212.trans (congrArg some (by kernel_rfl))
 f297:=Tryz.func213.trans (congrArg some (by kernel_rfl))
 f298:=Tryz.func214.trans (congrArg some (by kernel_rfl))
 f299:=Tryz.func215.trans (congrArg some (by kernel_rfl))
 f300:=Tryz.func217.trans (congrArg some (by kernel_rfl))
 f301:=Tryz.func218.trans (congrArg some (by kernel_rfl))
 f328:=Tryz.func220.trans (congrArg some (by kernel_rfl))
 f329:=Tryz.func187.trans (congrArg some (by kernel_rfl))
 f330:=Tryz.func188.trans (congrArg some (by kernel_rfl))
 f331:=Tryz.func221.trans (congrArg some (by kernel_rfl))
 f332:=Tryz.func222.trans (congrArg some (by kernel_rfl))
 f343:=Tryz.func223.trans (congrArg some (by kernel_rfl))
 t0:=Tryz.underlying0
 a0:=Tryz.isAgg0
 z0:=Tryz.sizeOf0
 v0:=Tryz.zeroValue0
 t3:=Tryz.underlying3
 a3:=Tryz.isAgg3
 z3:=Tryz.sizeOf3
 v3:=Tryz.zeroValue3
 t4:=Tryz.underlying4
 a4:=Tryz.isAgg4
 z4:=Tryz.sizeOf4
 v4:=Tryz.zeroValue4
 t5:=Tryz.underlying5
 a5:=Tryz.isAgg5
 z5:=Tryz.sizeOf5
 v5:=Tryz.zeroValue5
 t9:=Tryz.underlying9
 a9:=Tryz.isAgg9
 z9:=Tryz.sizeOf9
 v9:=Tryz.zeroValue9
 t28:=Tryz.underlying25
 a28:=Tryz.isAgg25
 z28:=Tryz.sizeOf25
 v28:=Tryz.zeroValue25
 t46:=Tryz.underlying82
 a46:=Tryz.isAgg82
 z46:=Tryz.sizeOf82
 v46:=Tryz.zeroValue82
 t51:=Tryz.underlying111
 a51:=Tryz.isAgg111
 z51:=Tryz.sizeOf111
 v51:=Tryz.zeroValue111
 t53:=Tryz.underlying113
 a53:=Tryz.isAgg113
 z53:=Tryz.sizeOf113
 v53:=Tryz.zeroValue113
 t131:=Tryz.underlying108
 a131:=Tryz.isAgg108
 z131:=Tryz.sizeOf108
 v131:=Tryz.zeroValue108
 t182:=Tryz.underlying103
 a182:=Tryz.isAgg103
 z182:=Tryz.sizeOf103
 v182:=Tryz.zeroValue103
 t183:=Tryz.underlying104
 a183:=Tryz.isAgg104
 z183:=Tryz.sizeOf104
 v183:=Tryz.zeroValue104
 t218:=Tryz.underlying119
 a218:=Tryz.isAgg119
 z218:=Tryz.sizeOf119
 v218:=Tryz.zeroValue119
 t222:=Tryz.underlying123
 a222:=Tryz.isAgg123
 z222:=Tryz.sizeOf123
 v222:=Tryz.zeroValue123
 t228:=Tryz.underlying131
 a228:=Tryz.isAgg131
 z228:=Tryz.sizeOf131
 v228:=Tryz.zeroValue131
 t229:=Tryz.underlying132
 a229:=Tryz.isAgg132
 z229:=Tryz.sizeOf132
 v229:=Tryz.zeroValue132
theorem count_set {l:List Bool} {i:Nat} (hi:i < l.length) (h:l.getD i false=false):(l.set i true).count true=l.count true+1:=by
 have e:l[i]=false:=by simpa [gdE,hi] using h
 rw [List.count_set hi,e]
 simp
structure Gr (n:Nat) (p:List Bool×List Int):Prop where
 l1:p.1.length=n
 l2:letters n p.2
 l3:p.2.length<=p.1.count true
theorem Gr.le {n:Nat} {p:List Bool×List Int} (h:Gr n p):p.2.length<=n:=by
 have h1:=h.l3
 have h2:=List.count_le_length (a:=true) (l:=p.1)
 have:=h.l1
 omega
theorem stJ_on {p:List Bool×List Int} {j:Int} (h:p.1.getD j.toNat false=true):stJ p j=p:=by unfold stJ;rw [h];rfl
theorem stJ_off {p:List Bool×List Int} {j:Int} (h:p.1.getD j.toNat false=false):stJ p j=(p.1.set j.toNat true,p.2 ++ [j]):=by unfold stJ;rw [h];rfl
theorem Gr.st {n:Nat} {p:List Bool×List Int} (h:Gr n p) {j:Int} (hj:0<=j/\j < n):Gr n (stJ p j):=by
 cases hb:p.1.getD j.toNat false with
 | true=>rw [stJ_on hb];exact h
 | false=>
  rw [stJ_off hb]
  refine⟨by simp [h.l1],letters_append.2 ⟨h.l2,letters_cons.2 ⟨hj,letters_nil _⟩⟩,?_⟩
  have:=h.l3
  rw [count_set (by rw [h.l1];omega) hb]
  simp
  omega
theorem grP_done {c:LL} {f k:Nat} {p:List Bool×List Int} (h:p.2.length<=k):grP c f k p=p:=by
 cases f with
 | zero=>rfl
 | succ f=>
  have:Nat.blt k p.2.length=false:=by
   rw [Bool.eq_false_iff];intro e;rw [Nat.blt_eq]at e;omega
  simp only [grP,this,cond_false]
theorem grP_step {c:LL} {f k:Nat} {p:List Bool×List Int} (h:k < p.2.length):grP c (f+1) k p=grP c f (k+1) ((nbI c (p.2.getD k 0).toNat).foldl stJ p):=by
 have:Nat.blt k p.2.length=true:=by rw [Nat.blt_eq];exact h
 simp only [grP,this,cond_true]
theorem Gr.fold {n:Nat}:∀(l:LI) {p:List Bool×List Int},Gr n p->letters n l->Gr n (l.foldl stJ p)
 | [],_,h,_=>h
 | j :: l,_,h,hl=>by
  obtain⟨h1,h2⟩:=letters_cons.1 hl
  exact Gr.fold l (h.st h1) h2
theorem Gr.grow {c:LL}:∀(f k:Nat) {p:List Bool×List Int},Gr c.length p->Gr c.length (grP c f k p)
 | 0,_,_,h=>h
 | f+1,k,p,h=>by
  rcases Nat.lt_or_ge k p.2.length with hk | hk
  ·rw [grP_step hk]
   exact Gr.grow f (k+1) (h.fold _ nbI_mem)
  ·rw [grP_done hk];exact h
theorem fold_take {α β:Type} (f:β->α->β) (d:α) (l:List α) (b:β) (k:Nat) (h:k < l.length):(l.take (k+1)).foldl f b=f ((l.take k).foldl f b) (l.getD k d):=by
 rw [<- take_snoc d l k h,List.foldl_append];rfl
theorem Gr.one {n:Nat} {seen:List Bool} (h:seen.length=n) {i:Nat} (hi:i < n):Gr n (seen.set i true,[(i:Int)]):=by
 refine⟨by simp [h],letters_cons.2 ⟨⟨by omega,by omega⟩,letters_nil _⟩,?_⟩
 show 1<=(seen.set i true).count true
 exact List.count_pos_iff.2 (List.mem_iff_getElem.2 ⟨i,by simp [h,hi],by simp⟩)
theorem ptS_on {c:LL} {p:List Bool×List (List Int)} {i:Nat} (h:p.1.getD i false=true):ptS c p i=p:=by unfold ptS;rw [h];rfl
theorem ptS_off {c:LL} {p:List Bool×List (List Int)} {i:Nat} (h:p.1.getD i false=false):ptS c p i =
  ((grP c (c.length+1) 0 (p.1.set i true,[(i:Int)])).1,p.2 ++ [sortI (grP c (c.length+1) 0 (p.1.set i true,[(i:Int)])).2]):=by unfold ptS;rw [h];rfl
theorem range_fold {β:Type} (f:β->Nat->β) (b:β) (i:Nat):(List.range (i+1)).foldl f b=f ((List.range i).foldl f b) i:=by
 rw [List.range_succ,List.foldl_append];rfl
theorem c_impl_PartsOf (c:LL) (hc:CartanP c):FunA B 152 [.sl false (.row false) c] (fun rs o=>rs=[.own 0 0]/\∃ ys,rw2 ys=partsI c/\o=[.arr .lrow ys 0 true]):=by
 have hn:=hc.2.1
 refine wk Tryz.call152 Tryz.func152 rfl Tryz.ntmps152 fun C hC hP hT hfn hpin hfin hX=>wW ?_
 refine Run.R ?_
 refine Run.R ?_
 refine Run.g fun K hK=>?_
 refine FunA.cW hP hT (c_impl_IsCartan c) ?_
 rintro rs o ⟨rfl,rfl⟩
 rw [isC_true hc]
 refine wF ?_;clear hK K
 refine Run.c ?_ ?_
 ·intro h;simp at h
 intro _
 refine Run.R ?_
 refine Run.R ?_
 refine Run.k [0,2,3,4,18,19,20] [0,1] ?_
 refine Run.loopI (X:=Nat×List Bool×List (Nat×List Int)) (fun x=>⟨70,[(0,true,.v (.sl false (.row false) c)),(2,true,.v (.nils)),(3,true,.v (.own 0 0)),(4,true,.v (.own 1 0)),(19,true,.v (.int .i64 (c.length))),(20,true,.v (.int .i64 (x.1)))],[.arr .lrow (x.2.2) 0 true,.arr .bool (x.2.1) 0 true]⟩) (fun x=>(x.1<=c.length/\x.2.1.length=c.length/\x.2.2.length<=x.1)/\(List.range x.1).foldl (ptS c) (List.replicate c.length false,[])=(x.2.1,rw2 x.2.2)) (fun x=>c.length - x.1) ((0,List.replicate c.length false,[])) (⟨⟨nz0 _,by simp,by simp⟩,rfl⟩) ?_ ?_
 ·exact Le.s
 rintro⟨i,seen,ys⟩ ⟨⟨hi,hs,hyl⟩,hE⟩ ih
 try simp only []
 simp only []at hi hs hyl hE
 refine Run.R ?_
 refine Run.c ?_ ?_
 rotate_left
 ·intro h
  have h:i=c.length:=by rw [dfE]at h;omega
  subst h
  refine Run.x ?_
  refine Run.R ?_
  refine Run.k [2] [0] ?_
  refine Run.r [2] ?_
  exact⟨rfl,ys,by unfold partsI;rw [hE],rfl⟩
 intro h
 have h:i < c.length:=by rw [dtE]at h;omega
 have hstep:=range_fold (ptS c) (List.replicate c.length false,[]) i
 rw [hE]at hstep
 refine Run.R ?_
 refine Run.R ?_
 refine Run.c ?_ ?_
 ·intro hb
  rw [ptS_on hb]at hstep
  refine Run.x ?_
  refine Run.RW ?_
  refine Run.k [0,2,3,4,19,20] [0,1] ?_
  exact Run.j (ih ((i+1,seen,ys)) (⟨⟨h,hs,by simp only [];omega⟩,hstep⟩) mz)
 intro hb
 have hb:seen.getD i false=false:=hb
 rw [ptS_off hb]at hstep
 have hg0:=Gr.one hs h
 refine Run.R ?_
 refine Run.R ?_
 refine Run.R ?_
 refine Run.k [0,2,3,4,5,6,7,19,20] [0,1,2] ?_
 generalize hG:grP c (c.length+1) 0 (seen.set i true,[(i:Int)])=G at hstep
 refine Run.loopI (X:=Nat×Nat×List Bool×List Int) (fun x=>⟨70,[(0,true,.v (.sl false (.row false) c)),(2,true,.v (.nils)),(3,true,.v (.own 0 0)),(4,true,.v (.own 1 0)),(5,true,.v (.int .i64 i)),(6,true,.v (.own 2 0)),(7,true,.v (.int .i64 (x.1))),(19,true,.v (.int .i64 (c.length))),(20,true,.v (.int .i64 i))],[.arr .lrow (ys) 0 true,.arr .bool (x.2.2.1) 0 true,.arr .int (x.2.2.2) 0 true]⟩) (fun x=>(x.1+x.2.1=c.length+1/\Gr c.length x.2.2)/\grP c x.2.1 x.1 x.2.2=G) (fun x=>c.length+1 - x.1) ((0,c.length+1,seen.set i true,[(i:Int)])) (⟨⟨by simp only [];omega,hg0⟩,hG⟩) ?_ ?_
 ·exact Le.s
 rintro⟨k,f,s2,part⟩ ⟨⟨hkf,hg⟩,hG2⟩ ihO
 try simp only []
 simp only []at hkf hg hG2
 have hpl:=hg.le
 simp only []at hpl
 refine Run.R ?_
 refine Run.c ?_ ?_
 rotate_left
 ·intro h2
  have h2:part.length<=k:=by rw [dfE]at h2;omega
  rw [grP_done h2]at hG2
  subst hG2
  simp only []at hstep
  refine Run.x ?_
  refine Run.g fun K hK=>?_
  refine ACall.sortI hP hT sortIL rfl (fun vs w=>Tryz.call182 vs w) 2 0 rfl om ?_
  refine wF ?_;clear hK K
  refine Run.g fun K hK=>?_
  intro l hl
  refine wF ?_;clear hK K
  refine Run.RW ?_
  refine Run.k [0,2,3,4,19,20] [0,1] ?_
  exact Run.j (ih ((i+1,s2,ys ++ [(l,sortI part)])) (⟨⟨h,hg.l1,by simp only [lenA,lenC,lenN];omega⟩,by rw [hstep];simp [rw2]⟩) mz)
 intro h2
 have h2:k < part.length:=by rw [dtE]at h2;omega
 obtain⟨f',rfl⟩:∃ f',f=f'+1:=⟨f - 1,by omega⟩
 rw [grP_step h2]at hG2
 have hG2:grP c f' (k+1) ((nbI c (part.getD k 0).toNat).foldl stJ (s2,part))=G:=hG2
 obtain⟨p1,p2⟩:=letters_mem (show letters c.length part from hg.l2) h2
 obtain⟨p,hp⟩:∃ p:Nat,part.getD k 0=(p:Int):=⟨(part.getD k 0).toNat,by omega⟩
 rw [hp,Int.toNat_natCast]at hG2
 rw [hp]at p1 p2
 have hnl:=nbK_len c p c.length
 rw [nbK_all]at hnl
 refine Run.g fun K hK=>?_
 rw [hp]
 refine FunA.e hP hT (c_impl_NeighboursOf c p hc om) ?_
 refine wE ?_;clear hK K
 refine Run.k [0,2,3,4,5,6,7,19,20,43,44,45] [0,1,2,3] ?_
 refine Run.loopI (X:=Nat×List Bool×List Int) (fun x=>⟨70,[(0,true,.v (.sl false (.row false) c)),(2,true,.v (.nils)),(3,true,.v (.own 0 0)),(4,true,.v (.own 1 0)),(5,true,.v (.int .i64 i)),(6,true,.v (.own 2 0)),(7,true,.v (.int .i64 k)),(19,true,.v (.int .i64 (c.length))),(20,true,.v (.int .i64 i)),(43,true,.v (.own 3 0)),(44,true,.v (.int .i64 ((nbI c p).length))),(45,true,.v (.int .i64 (x.1)))],[.arr .lrow (ys) 0 true,.arr .bool (x.2.1) 0 true,.arr .int (x.2.2) 0 true,.arr .int ((nbI c p)) 0 true]⟩) (fun x=>(x.1<=(nbI c p).length/\Gr c.length x.2)/\((nbI c p).take x.1).foldl stJ (s2,part)=x.2) (fun x=>(nbI c p).length - x.1) ((0,s2,part)) (⟨⟨nz0 _,hg⟩,rfl⟩) ?_ ?_
 ·exact Le.s
 rintro⟨m,s3,part3⟩ ⟨⟨hm,hg3⟩,hF⟩ ihK
 try simp only []
 simp only []at hm hg3 hF
 have hpl3:=hg3.le
 simp only []at hpl3
 refine Run.R ?_
 refine Run.c ?_ ?_
 rotate_left
 ·intro h3
  have h3:m=(nbI c p).length:=by rw [dfE]at h3;omega
  rw [h3,tkL]at hF
  rw [hF]at hG2
  refine Run.x ?_
  refine Run.RW ?_
  refine Run.k [0,2,3,4,5,6,7,19,20] [0,1,2] ?_
  refine Run.le ?_ (ihO (k+1,f',s3,part3) ⟨⟨by simp only [];omega,hg3⟩,hG2⟩ (by simp only [];omega))
  exact Le.sub (by first | rfl | simp) (by simp only [AW7,simprocAttr];try simp)
 intro h3
 have h3:m < (nbI c p).length:=by rw [dtE]at h3;omega
 obtain⟨j1,j2⟩:=letters_mem (nbI_mem (c:=c) (i:=p)) h3
 have hst:=fold_take stJ 0 (nbI c p) (s2,part) m h3
 rw [hF]at hst
 have hs3:=hg3.l1
 simp only []at hs3
 have hg4:=hg3.st ⟨j1,j2⟩
 refine Run.R ?_
 refine Run.R ?_
 refine Run.c ?_ ?_
 ·intro hb3
  have hb3:s3.getD ((nbI c p).getD m 0).toNat false=false:=by simpa using hb3
  rw [stJ_off hb3]at hst hg4
  refine Run.R ?_
  refine Run.R ?_
  refine Run.RW ?_
  refine Run.k [0,2,3,4,5,6,7,19,20,43,44,45] [0,1,2,3] ?_
  exact Run.j (ihK ((m+1,s3.set ((nbI c p).getD m 0).toNat true,part3 ++ [(nbI c p).getD m 0])) (⟨⟨by simp only [];omega,hg4⟩,hst⟩) mz)
 ·intro hb3
  have hb3:s3.getD ((nbI c p).getD m 0).toNat false=true:=by simpa using hb3
  rw [stJ_on hb3]at hst
  refine Run.RW ?_
  exact Run.j (ihK ((m+1,s3,part3)) (⟨⟨by simp only [];omega,hg3⟩,hst⟩) mz)
theorem stJ_keep {p:List Bool×List Int} {j:Int} {i:Nat} (h:p.1.getD i false=true):(stJ p j).1.getD i false=true:=by
 unfold stJ
 cases hb:p.1.getD j.toNat false with
 | true=>exact h
 | false=>
  simp only [cond_false]
  have hi:i < p.1.length:=by
   rcases Nat.lt_or_ge i p.1.length with h' | h'
   ·exact h'
   ·simp [gdE,geN h']at h
  by_cases e:j.toNat=i
  ·subst e;simp [gdE,hi]
  ·simp only [gdE]at h ⊢
   rw [List.getElem?_set_ne e];exact h
theorem fold_keep {i:Nat}:∀(l:LI) {p:List Bool×List Int},p.1.getD i false=true->(l.foldl stJ p).1.getD i false=true
 | [],_,h=>h
 | j :: l,_,h=>fold_keep l (stJ_keep h)
theorem grP_keep {c:LL} {i:Nat}:∀(f k:Nat) {p:List Bool×List Int},p.1.getD i false=true->(grP c f k p).1.getD i false=true
 | 0,_,_,h=>h
 | f+1,k,p,h=>by
  rcases Nat.lt_or_ge k p.2.length with hk | hk
  ·rw [grP_step hk];exact grP_keep f (k+1) (fold_keep _ h)
  ·rw [grP_done hk];exact h
def marks (c:LL) (i:Nat):List Bool:=(grP c (c.length+1) 0 ((List.replicate c.length false).set i true,[(i:Int)])).1
def mkK (s:List Bool) (k:Nat):List Int:=((List.range k).filter fun(k:Nat)=>s.getD k false).map Int.ofNat
theorem mkK_all (c:LL) (i:Nat):mkK (marks c i) c.length=partS c i:=rfl
theorem mkK_step (s:List Bool) (k:Nat):mkK s (k+1)=if s.getD k false=true then mkK s k ++ [(k:Int)]else mkK s k:=by
 unfold mkK
 rw [List.range_succ,List.filter_append,List.map_append]
 by_cases h:s.getD k false=true
 ·rw [if_pos h,List.filter_cons_of_pos (p:=fun(k:Nat)=>s.getD k false) h];rfl
 ·have h:s.getD k false=false:=by simpa using h
  rw [if_neg (by rw [h];decide),List.filter_cons_of_neg (p:=fun(k:Nat)=>s.getD k false) (by rw [h];decide)];exact List.append_nil _
theorem mkK_len (s:List Bool) (k:Nat):(mkK s k).length<=k:=by
 unfold mkK
 rw [List.length_map]
 exact Nat.le_trans (List.length_filter_le ..) (by simp)
theorem marks_self {c:LL} {i:Nat} (hi:i < c.length):(marks c i).getD i false=true:=
 grP_keep _ _ (by simp [gdE,hi])
theorem partS_ne {c:LL} {i:Nat} (hi:i < c.length):0 < (partS c i).length:=by
 apply List.length_pos_of_mem (a:=(i:Int))
 exact List.mem_map.2 ⟨i,List.mem_filter.2 ⟨List.mem_range.2 hi,marks_self hi⟩,rfl⟩
theorem c_spec_l3Part (c:LL) (i:Nat) (hc:CartanP c) (hi:i < c.length):FunA B 183 [.sl false (.row false) c,.int .i64 i] (fun rs o=>rs=[.own 0 0]/\o=[.arr .int (partS c i) 0 true]):=by
 have hn:=hc.2.1
 have hg0:=Gr.one (seen:=List.replicate c.length false) (n:=c.length) (by simp) hi
 refine wk Tryz.call183 Tryz.func183 rfl Tryz.ntmps183 fun C hC hP hT hfn hpin hfin hX=>wW ?_
 refine Run.R ?_
 refine Run.R ?_
 refine Run.R ?_
 refine Run.R ?_
 refine Run.R ?_
 refine Run.k [0,1,4,5,6,7] [0,1] ?_
 generalize hG:grP c (c.length+1) 0 ((List.replicate c.length false).set i true,[(i:Int)])=G
 have hGm:G.1=marks c i:=by rw [<- hG];rfl
 refine Run.loopI (X:=Nat×Nat×List Bool×List Int) (fun x=>⟨75,[(0,true,.v (.sl false (.row false) c)),(1,true,.v (.int .i64 i)),(4,true,.v (.nils)),(5,true,.v (.own 0 0)),(6,true,.v (.own 1 0)),(7,true,.v (.int .i64 (x.1)))],[.arr .bool (x.2.2.1) 0 true,.arr .int (x.2.2.2) 0 true]⟩) (fun x=>(x.1+x.2.1=c.length+1/\Gr c.length x.2.2)/\grP c x.2.1 x.1 x.2.2=G) (fun x=>c.length+1 - x.1) ((0,c.length+1,(List.replicate c.length false).set i true,[(i:Int)])) (⟨⟨by simp only [];omega,hg0⟩,hG⟩) ?_ ?_
 ·exact Le.s
 rintro⟨k,f,s2,part⟩ ⟨⟨hkf,hg⟩,hG2⟩ ihO
 try simp only []
 simp only []at hkf hg hG2
 have hpl:=hg.le
 simp only []at hpl
 refine Run.R ?_
 refine Run.c ?_ ?_
 rotate_left
 ·intro h2
  have h2:part.length<=k:=by rw [dfE]at h2;omega
  rw [grP_done h2]at hG2
  subst hG2
  have hs2:s2=marks c i:=hGm
  have hs2l:s2.length=c.length:=hg.l1
  refine Run.x ?_
  refine Run.R ?_
  refine Run.R ?_
  refine Run.k [0,1,4,5,10,11] [0,2] ?_
  refine Run.loopI (X:=Nat) (fun m=>⟨75,[(0,true,.v (.sl false (.row false) c)),(1,true,.v (.int .i64 i)),(4,true,.v (.nils)),(5,true,.v (.own 0 0)),(10,true,.v (.own 1 0)),(11,true,.v (.int .i64 m))],[.arr .bool (s2) 0 true,.arr .int ((mkK s2 m)) 0 true]⟩) (fun m=>m<=c.length) (fun m=>c.length - m) (0) (nz0 _) ?_ ?_
  ·exact Le.s
  rintro m hm ih
  try simp only []
  have hml:=mkK_len s2 m
  refine Run.R ?_
  refine Run.c ?_ ?_
  rotate_left
  ·intro h3
   have h3:m=c.length:=by rw [dfE]at h3;omega
   subst h3
   refine Run.x ?_
   refine Run.R ?_
   refine Run.k [4] [1] ?_
   refine Run.r [4] ?_
   exact⟨rfl,by rw [<- mkK_all,<- hs2]⟩
  intro h3
  have h3:m < c.length:=by rw [dtE]at h3;omega
  have e:=mkK_step s2 m
  refine Run.R ?_
  refine Run.c ?_ ?_
  ·intro hb
   have hb:s2.getD m false=true:=hb
   rw [if_pos hb]at e
   refine Run.R ?_
   refine Run.RW ?_
   refine Run.k [0,1,4,5,10,11] [0,1] ?_
   refine Run.le ?_ (ih (m+1) om (by(try simp only [lenA,lenC,lenN]);omega))
   exact Le.sub (by first | rfl | (simp only [e];done) | (rw [e];rfl)) (by simp only [AW7,simprocAttr];try simp)
  ·intro hb
   have hb:s2.getD m false=false:=hb
   rw [if_neg (by rw [hb];decide)]at e
   refine Run.RW ?_
   refine Run.le ?_ (ih (m+1) om (by(try simp only [lenA,lenC,lenN]);omega))
   exact Le.sub (by first | rfl | (simp only [e];done) | (rw [e];rfl)) (by simp only [AW7,simprocAttr];try simp)
 intro h2
 have h2:k < part.length:=by rw [dtE]at h2;omega
 obtain⟨f',rfl⟩:∃ f',f=f'+1:=⟨f - 1,by omega⟩
 rw [grP_step h2]at hG2
 have hG2:grP c f' (k+1) ((nbI c (part.getD k 0).toNat).foldl stJ (s2,part))=G:=hG2
 obtain⟨p1,p2⟩:=letters_mem (show letters c.length part from hg.l2) h2
 obtain⟨p,hp⟩:∃ p:Nat,part.getD k 0=(p:Int):=⟨(part.getD k 0).toNat,by omega⟩
 rw [hp,Int.toNat_natCast]at hG2
 rw [hp]at p1 p2
 have hnl:=nbK_len c p c.length
 rw [nbK_all]at hnl
 refine Run.g fun K hK=>?_
 rw [hp]
 refine FunA.e hP hT (c_spec_NeighboursOf c p hc om) ?_
 refine wE ?_;clear hK K
 refine Run.R ?_
 refine Run.k [0,1,4,5,6,7,8,9] [0,1,2] ?_
 refine Run.loopI (X:=Nat×List Bool×List Int) (fun x=>⟨75,[(0,true,.v (.sl false (.row false) c)),(1,true,.v (.int .i64 i)),(4,true,.v (.nils)),(5,true,.v (.own 0 0)),(6,true,.v (.own 1 0)),(7,true,.v (.int .i64 k)),(8,true,.v (.own 2 0)),(9,true,.v (.int .i64 (x.1)))],[.arr .bool (x.2.1) 0 true,.arr .int (x.2.2) 0 true,.arr .int ((nbI c p)) 0 true]⟩) (fun x=>(x.1<=(nbI c p).length/\Gr c.length x.2)/\((nbI c p).take x.1).foldl stJ (s2,part)=x.2) (fun x=>(nbI c p).length - x.1) ((0,s2,part)) (⟨⟨nz0 _,hg⟩,rfl⟩) ?_ ?_
 ·exact Le.s
 rintro⟨m,s3,part3⟩ ⟨⟨hm,hg3⟩,hF⟩ ihK
 try simp only []
 simp only []at hm hg3 hF
 have hpl3:=hg3.le
 simp only []at hpl3
 refine Run.R ?_
 refine Run.c ?_ ?_
 rotate_left
 ·intro h3
  have h3:m=(nbI c p).length:=by rw [dfE]at h3;omega
  rw [h3,tkL]at hF
  rw [hF]at hG2
  refine Run.x ?_
  refine Run.RW ?_
  refine Run.k [0,1,4,5,6,7] [0,1] ?_
  refine Run.le ?_ (ihO (k+1,f',s3,part3) ⟨⟨by simp only [];omega,hg3⟩,hG2⟩ (by simp only [];omega))
  exact Le.sub (by first | rfl | simp) (by simp only [AW7,simprocAttr];try simp)
 intro h3
 have h3:m < (nbI c p).length:=by rw [dtE]at h3;omega
 obtain⟨j1,j2⟩:=letters_mem (nbI_mem (c:=c) (i:=p)) h3
 have hst:=fold_take stJ 0 (nbI c p) (s2,part) m h3
 rw [hF]at hst
 have hs3:=hg3.l1
 simp only []at hs3
 have hg4:=hg3.st ⟨j1,j2⟩
 refine Run.R ?_
 refine Run.c ?_ ?_
 ·intro hb3
  have hb3:s3.getD ((nbI c p).getD m 0).toNat false=false:=by simpa using hb3
  rw [stJ_off hb3]at hst hg4
  refine Run.R ?_
  refine Run.R ?_
  refine Run.RW ?_
  refine Run.k [0,1,4,5,6,7,8,9] [0,1,2] ?_
  exact Run.j (ihK ((m+1,s3.set ((nbI c p).getD m 0).toNat true,part3 ++ [(nbI c p).getD m 0])) (⟨⟨by simp only [];omega,hg4⟩,hst⟩) mz)
 ·intro hb3
  have hb3:s3.getD ((nbI c p).getD m 0).toNat false=true:=by simpa using hb3
  rw [stJ_on hb3]at hst
  refine Run.RW ?_
  exact Run.j (ihK ((m+1,s3,part3)) (⟨⟨by simp only [];omega,hg3⟩,hst⟩) mz)
def ptK (c:LL) (k:Nat):List (List Int):=((List.range k).map (partS c)).zipIdx.filterMap fun p=>bif p.1.getD 0 0 == (p.2:Int)then some p.1 else none
theorem ptK_step (c:LL) (k:Nat):ptK c (k+1)=if (partS c k).getD 0 0=(k:Int)then ptK c k ++ [partS c k]else ptK c k:=by
 unfold ptK
 rw [List.range_succ,List.map_append,List.zipIdx_append,List.filterMap_append]
 by_cases h:(partS c k).getD 0 0=(k:Int)
 ·rw [if_pos h]
  have h':((partS c k)[0]?.getD 0 == (k:Int))=true:=by rw [<- gdE];simpa using h
  simp [h']
 ·rw [if_neg h]
  have h':((partS c k)[0]?.getD 0 == (k:Int))=false:=by rw [<- gdE];simpa using h
  simp [h']
theorem c_spec_PartsOf (c:LL) (hc:CartanP c):FunA B 154 [.sl false (.row false) c] (fun rs o=>rs=[.own 0 0]/\∃ ys,rw2 ys=partsS c/\o=[.arr .lrow ys 0 true]):=by
 have hn:=hc.2.1
 refine wk Tryz.call154 Tryz.func154 rfl Tryz.ntmps154 fun C hC hP hT hfn hpin hfin hX=>wW ?_
 refine Run.R ?_
 refine Run.R ?_
 refine Run.R ?_
 refine Run.loopI (X:=Nat×List (Nat×List Int)) (fun x=>⟨30,[(0,true,.v (.sl false (.row false) c)),(2,true,.v (.nils)),(3,true,.v (.own 0 0)),(4,true,.v (.int .i64 (x.1)))],[.arr .lrow (x.2) 0 true]⟩) (fun x=>(x.1<=c.length/\x.2.length<=x.1)/\rw2 x.2=ptK c x.1) (fun x=>c.length - x.1) ((0,[])) (⟨⟨nz0 _,by simp⟩,rfl⟩) ?_ ?_
 ·exact Le.s
 rintro⟨i,ys⟩ ⟨⟨hi,hyl⟩,hE⟩ ih
 try simp only []
 simp only []at hi hyl hE
 rcases Nat.lt_or_ge i c.length with h | h
 ·have hd:decide ((i:Int) < c.length)=true:=by simp;exact h
  refine Run.g fun K hK=>?_
  rw [hd]
  refine .inl (FunA.callG hP hT (c_spec_IsCartan c) (fun _=>rfl) (fun _=>by simp only [AW7,simprocAttr]) ?_)
  rw [isC_true hc]
  refine wF ?_;clear hK K
  refine Run.c ?_ ?_
  rotate_left
  ·intro h;simp at h
  intro _
  have hpn:=partS_ne h
  have hst:=ptK_step c i
  refine Run.g fun K hK=>?_
  refine FunA.e hP hT (c_spec_l3Part c i hc h) ?_
  refine wE ?_;clear hK K
  refine Run.R ?_
  refine Run.c ?_ ?_
  ·intro h2
   have h2:(partS c i).getD 0 0=(i:Int):=by simpa using h2
   rw [if_pos h2]at hst
   refine Run.g fun K hK=>?_
   intro l hl
   refine wF ?_;clear hK K
   refine Run.RW ?_
   refine Run.k [0,2,3,4] [0] ?_
   exact Run.j (ih ((i+1,ys ++ [(l,partS c i)])) (⟨⟨h,by simp only [lenA,lenC,lenN];omega⟩,by rw [hst,<- hE];simp [rw2]⟩) mz)
  ·intro h2
   have h2:¬(partS c i).getD 0 0=(i:Int):=by simpa using h2
   rw [if_neg h2]at hst
   refine Run.RW ?_
   refine Run.k [0,2,3,4] [0] ?_
   exact Run.j (ih ((i+1,ys)) (⟨⟨h,by simp only [];omega⟩,by rw [hst,<- hE]⟩) mz)
 ·have h:i=c.length:=by omega
  subst h
  have hd:decide ((c.length:Int) < c.length)=false:=by simp
  refine Run.g fun K hK=>?_
  rw [hd]
  refine .inl (CallG.off (.bool false) ?_)
  refine wF ?_;clear hK K
  refine Run.c ?_ ?_
  ·intro h;simp at h
  intro _
  refine Run.x ?_
  refine Run.R ?_
  refine Run.r [2] ?_
  exact⟨rfl,ys,hE,rfl⟩
theorem c_impl_IsConnected (c:LL) (hc:CartanP c):FunA B 115 [.sl false (.row false) c] (fun rs o=>rs=[.bool ((partsI c).length == 1)]/\o=[]):=by
 refine wk Tryz.call115 Tryz.func115 rfl Tryz.ntmps115 fun C hC hP hT hfn hpin hfin hX=>wW ?_
 refine Run.R ?_
 refine Run.g fun K hK=>?_
 refine FunA.cW hP hT (c_impl_PartsOf c hc) ?_
 rintro rs o ⟨rfl,ys,hy,rfl⟩
 refine wF ?_;clear hK K
 refine Run.k [2] [] ?_
 refine Run.r [2] ?_
 have e:ys.length=(partsI c).length:=by rw [<- hy];simp [rw2]
 rw [e]
 refine⟨?_,rfl⟩
 congr 2
 rw [Bool.eq_iff_iff]
 simp
 omega
end Go.Proofs.YtcinngodeoidnaaGreat
