/- All elements of a finite group, length by length. -/
import Derived.Test.YtcinngodeoidnaaGreatDoorB15
import Derived.Test.YtcinngodeoidnaaGreatDoorB7
import Derived.WalkKit
import Derived.Deep.QuietTactic
import Derived.BigQuiet
set_option linter.unusedVariables false
set_option linter.unusedSimpArgs false
namespace Go.Proofs.YtcinngodeoidnaaGreatDoor
open Go Go.Aw Go.Cox
def addN (a:List (List Int)) (v:List Int):List (List Int):=if v∈a then a else a ++ [v]
def nxI (c:List (List Int)) (x:List Int) (a:List (List Int)) (i:Nat):List (List Int):=if x.getD i 0 < 0 then a else addN a (reflL c i x)
def nxX (c:List (List Int)) (a:List (List Int)) (x:List Int):List (List Int):=(List.range c.length).foldl (nxI c x) a
def nxS (c:List (List Int)) (sh:List (List Int)):List (List Int):=sh.foldl (nxX c) []
def shl (c:List (List Int)):Nat→List (List Int)
 | 0=>[ones c.length]
 | L+1=>nxS c (shl c L)
theorem addN_mem (a:List (List Int)) (v z:List Int):z∈addN a v↔z∈a∨z=v:=by
 unfold addN
 by_cases h:v∈a
 ·rw [if_pos h]
  constructor
  ·exact .inl
  ·rintro(h1 | rfl)<;>assumption
 ·rw [if_neg h];simp
theorem addN_nodup {a:List (List Int)} (h:a.Nodup) (v:List Int):(addN a v).Nodup:=by
 unfold addN
 by_cases hv:v∈a
 ·rw [if_pos hv];exact h
 ·rw [if_neg hv,List.nodup_append]
  exact⟨h,by simp,fun x hx y hy e=>hv (by simp at hy;rw [← hy,← e];exact hx)⟩
theorem nxI_mem (c:List (List Int)) (x:List Int) (a:List (List Int)) (i:Nat) (z:List Int):z∈nxI c x a i↔z∈a∨(0≤x.getD i 0∧z=reflL c i x):=by
 unfold nxI
 by_cases h:x.getD i 0 < 0
 ·rw [if_pos h]
  constructor
  ·exact .inl
  ·rintro(h1 | ⟨h1,_⟩)
   ·exact h1
   ·omega
 ·rw [if_neg h,addN_mem]
  constructor
  ·rintro(h1 | h1)
   ·exact .inl h1
   ·exact .inr ⟨by omega,h1⟩
  ·rintro(h1 | ⟨_,h1⟩)
   ·exact .inl h1
   ·exact .inr h1
theorem nxI_fold (c:List (List Int)) (x:List Int):∀(l:List Nat) (a:List (List Int)),(∀ z,z∈l.foldl (nxI c x) a↔z∈a∨∃ i∈l,0≤x.getD i 0∧z=reflL c i x)∧(a.Nodup→(l.foldl (nxI c x) a).Nodup)
 | [],a=>⟨fun z=>by simp,id⟩
 | i :: l,a=>by
  obtain⟨h1,h2⟩:=nxI_fold c x l (nxI c x a i)
  refine⟨fun z=>?_,fun hn=>h2 ?_⟩
  ·rw [List.foldl_cons,h1,nxI_mem]
   constructor
   ·rintro((h | h) | ⟨j,hj,h⟩)
    ·exact .inl h
    ·exact .inr ⟨i,List.mem_cons_self ..,h⟩
    ·exact .inr ⟨j,List.mem_cons_of_mem _ hj,h⟩
   ·rintro(h | ⟨j,hj,h⟩)
    ·exact .inl (.inl h)
    ·rcases List.mem_cons.1 hj with rfl | hj
     ·exact .inl (.inr h)
     ·exact .inr ⟨j,hj,h⟩
  ·unfold nxI
   split
   ·exact hn
   ·exact addN_nodup hn _
theorem nxX_fold (c:List (List Int)):∀(sh a:List (List Int)),(∀ z,z∈sh.foldl (nxX c) a↔z∈a∨∃ x∈sh,∃ i,i < c.length∧0≤x.getD i 0∧z=reflL c i x)∧(a.Nodup→(sh.foldl (nxX c) a).Nodup)
 | [],a=>⟨fun z=>by simp,id⟩
 | x :: sh,a=>by
  obtain⟨h1,h2⟩:=nxX_fold c sh (nxX c a x)
  obtain⟨k1,k2⟩:=nxI_fold c x (List.range c.length) a
  refine⟨fun z=>?_,fun hn=>h2 (k2 hn)⟩
  rw [List.foldl_cons,h1,show z∈nxX c a x↔_ from k1 z]
  constructor
  ·rintro((h | ⟨i,hi,h⟩) | ⟨y,hy,h⟩)
   ·exact .inl h
   ·exact .inr ⟨x,List.mem_cons_self ..,i,List.mem_range.1 hi,h⟩
   ·exact .inr ⟨y,List.mem_cons_of_mem _ hy,h⟩
  ·rintro(h | ⟨y,hy,i,hi,h⟩)
   ·exact .inl (.inl h)
   ·rcases List.mem_cons.1 hy with rfl | hy
    ·exact .inl (.inr ⟨i,List.mem_range.2 hi,h⟩)
    ·exact .inr ⟨y,hy,i,hi,h⟩
theorem far_step {c:List (List Int)} (hc:CartanP c) {L:Nat} {v:List Int}:Far c (L+1) v↔∃ x,Far c L x∧∃ i,i < c.length∧0≤x.getD i 0∧v=reflL c i x:=by
 constructor
 ·intro h
  rcases fst_of_far hc h with⟨_,h2⟩ | ⟨h1,h2,h3,M,h4,h5⟩
  ·omega
  ·have:M=L:=by omega
   subst this
   have hk:(((fstN v).toNat:Nat):Int)=fstN v:=by omega
   refine⟨_,h5,(fstN v).toNat,by omega,?_,?_⟩
   ·rw [reflL_get c (fstN v) v (fstN v).toNat (by rw [h.1];omega),show ent c (fstN v).toNat (fstN v).toNat=2 from(matA_cartan hc).diag _ (by omega)]
    omega
   ·rw [hk,refl2 hc ⟨h1,h2⟩ h.1]
 ·rintro⟨x,hx,i,hi,h0,rfl⟩
  have:=hx.nz hc i hi
  exact hx.up hc ⟨by omega,by omega⟩ (by rw [Int.toNat_natCast];omega)
theorem shl_spec {c:List (List Int)} (hc:CartanP c):∀ L,(shl c L).Nodup∧∀ v,v∈shl c L↔Far c L v
 | 0=>⟨by simp [shl],fun v=>by
   simp only [shl,List.mem_singleton]
   exact⟨fun h=>h▸Far.ones c,fun h=>h.zero⟩⟩
 | L+1=>by
  obtain⟨h1,h2⟩:=shl_spec hc L
  obtain⟨k1,k2⟩:=nxX_fold c (shl c L) []
  refine⟨k2 List.nodup_nil,fun v=>?_⟩
  rw [show v∈shl c (L+1)↔_ from k1 v,far_step hc]
  constructor
  ·rintro(h | ⟨x,hx,h⟩)
   ·simp at h
   ·exact⟨x,(h2 x).1 hx,h⟩
  ·rintro⟨x,hx,h⟩
   exact .inr ⟨x,(h2 x).2 hx,h⟩
def wds (c:List (List Int)) (L:Nat):List (List Int):=(shl c L).map (nfL c 31)
def outS (c:List (List Int)):Nat→List (List Int)
 | 0=>[[]]
 | L+1=>outS c L ++ srt (wds c (L+1))
def allL (c:List (List Int)):List (List Int):=outS c 25
theorem wds_mem {c:List (List Int)} (hc:CartanP c) {L:Nat} (hL:L≤30) (w:List Int):w∈wds c L↔Nf c w∧w.length=L:=by
 unfold wds
 rw [List.mem_map]
 constructor
 ·rintro⟨v,hv,rfl⟩
  have hf:=((shl_spec hc L).2 v).1 hv
  obtain⟨n1,n2,n3⟩:=nfL_far hc 31 L hf (by omega)
  exact⟨⟨n2,by unfold redL;rw [n3],by omega⟩,n1⟩
 ·rintro⟨hn,rfl⟩
  exact⟨imageL c w,((shl_spec hc _).2 _).2 (hn.far hc),hn.2.1⟩
theorem wds_nodup {c:List (List Int)} (hc:CartanP c) {L:Nat} (hL:L≤30):(wds c L).Nodup:=by
 unfold wds
 obtain⟨h1,h2⟩:=shl_spec hc L
 rw [List.nodup_iff_pairwise_ne,List.pairwise_map]
 refine List.Pairwise.imp_of_mem ?_ (List.nodup_iff_pairwise_ne.1 h1)
 intro a b ha hb hne e
 apply hne
 rw [← (nfL_far hc 31 L ((h2 a).1 ha) (by omega)).2.2,← (nfL_far hc 31 L ((h2 b).1 hb) (by omega)).2.2,e]
theorem outS_mem {c:List (List Int)} (hc:CartanP c):∀ {L:Nat},L≤30→∀ w,w∈outS c L↔Nf c w∧w.length≤L
 | 0,_,w=>by
  simp only [outS,List.mem_singleton]
  constructor
  ·rintro rfl
   refine⟨⟨letters_nil _,?_,by simp⟩,by simp⟩
   have:=red_Red hc (letters_nil _) (w:=[]) (by simp)
   have h:=(red_far hc (Far.ones c) (by omega) (w:=[]))
   exact List.eq_nil_of_length_eq_zero h.1
  ·rintro⟨_,h⟩
   exact List.eq_nil_of_length_eq_zero (by omega)
 | L+1,hL,w=>by
  simp only [outS,List.mem_append,(srt_spec _).2,outS_mem hc (show L≤30 by omega) w,wds_mem hc hL w]
  constructor
  ·rintro(⟨h1,h2⟩ | ⟨h1,h2⟩)<;>exact⟨h1,by omega⟩
  ·rintro⟨h1,h2⟩
   rcases Nat.lt_or_ge w.length (L+1)with h | h
   ·exact .inl ⟨h1,by omega⟩
   ·exact .inr ⟨h1,by omega⟩
theorem cmpW_short {p q:List Int} (h:p.length < q.length):cmpW p q < 0:=by unfold cmpW;rw [if_pos h];decide
theorem outS_strict {c:List (List Int)} (hc:CartanP c):∀ {L:Nat},L≤30→StrictW (outS c L)
 | 0,_=>by unfold StrictW outS;simp
 | L+1,hL=>by
  refine List.pairwise_append.2 ⟨outS_strict hc (by omega),(srt_spec _).1,fun a ha b hb=>?_⟩
  have h1:=(outS_mem hc (by omega) a).1 ha
  have h2:=(wds_mem hc hL b).1 (((srt_spec _).2 b).1 hb)
  exact cmpW_short (by omega)
theorem allL_spec {c:List (List Int)} (hF:FinP c):StrictW (allL c)∧∀ w,w∈allL c↔Nf c w:=by
 refine⟨outS_strict hF.1 (by omega),fun w=>?_⟩
 rw [show w∈allL c↔_ from outS_mem hF.1 (by omega) w]
 refine⟨fun h=>h.1,fun h=>⟨h,?_⟩⟩
 have:=fin_len hF _ (h.far hF.1)
 omega
theorem shl_end {c:List (List Int)} (hF:FinP c) {L:Nat} (hL:25≤L):shl c L=[]:=by
 cases h:shl c L with
 | nil=>rfl
 | cons v l=>
  have:=fin_len hF _ (((shl_spec hF.1 L).2 v).1 (by rw [h];exact List.mem_cons_self ..))
  omega
theorem shl_stop {c:List (List Int)} {L:Nat} (h:shl c L=[]):∀ k,shl c (L+k)=[]∧outS c (L+k)=outS c L
 | 0=>⟨h,rfl⟩
 | k+1=>by
  obtain⟨h1,h2⟩:=shl_stop h k
  have h3:shl c (L+(k+1))=[]:=by
   show nxS c (shl c (L+k))=[]
   rw [h1];rfl
  refine⟨h3,?_⟩
  show outS c (L+k) ++ srt (wds c (L+(k+1)))=_
  rw [wds,h3,h2]
  simp [srt_nil]
theorem shl_all {c:List (List Int)} {L:Nat} (hL:L≤25) (h:shl c L=[]):outS c L=allL c:=by
 obtain⟨k,hk⟩:=Nat.exists_eq_add_of_le hL
 have:=(shl_stop h k).2
 unfold allL
 rw [hk,this]
theorem srt_perm {l:List (List Int)} (h:l.Nodup):(srt l).Perm l:=by
 obtain⟨h1,h2⟩:=srt_spec l
 have hn:(srt l).Nodup:=List.Pairwise.imp (fun {a b} h e=>by rw [e,cmpW_self]at h;omega) h1
 exact(List.perm_ext_iff_of_nodup hn h).2 h2
theorem outS_len {c:List (List Int)} (hc:CartanP c) {L:Nat} (hL:L+1≤30):(outS c (L+1)).length=(outS c L).length+(shl c (L+1)).length:=by
 show(outS c L ++ srt (wds c (L+1))).length=_
 rw [List.length_append,(srt_perm (wds_nodup hc hL)).length_eq]
 simp [wds]
theorem outS_mono {c:List (List Int)}:∀(k L:Nat),(outS c L).length≤(outS c (L+k)).length
 | 0,_=>Nat.le_refl _
 | k+1,L=>Nat.le_trans (outS_mono k L) (by show _≤(outS c (L+k) ++ _).length;simp)
theorem outS_le {c:List (List Int)} {L:Nat} (hL:L≤25):(outS c L).length≤(allL c).length:=by
 obtain⟨k,hk⟩:=Nat.exists_eq_add_of_le hL
 have:=outS_mono (c:=c) k L
 rw [← hk]at this
 exact this
theorem far_bd24 {c:List (List Int)} (hF:FinP c) {L:Nat} {v:List Int} (h:Far c L v):Bd (4 ^ 24) v:=by
 obtain⟨n1,n2,n3⟩:=nfL_far hF.1 31 L h (by have:=fin_len hF _ h;omega)
 have:=Bd.image hF.1 _ n2
 rw [n3,n1]at this
 exact this.mono (pow4_le (fin_len hF _ h))
end Go.Proofs.YtcinngodeoidnaaGreatDoor
namespace Go.Proofs.YtcinngodeoidnaaGreatDoor
open Go
def zero4:Array Value:=#[.int .i64 0,.int .i64 0,.int .i64 0,.int .i64 0]
def key4 (xs:List Int):List Int:=[xs.getD 0 0,xs.getD 1 0,xs.getD 2 0,xs.getD 3 0]
def vec4 (xs:List Int):Array Value:=#[.int .i64 (xs.getD 0 0),.int .i64 (xs.getD 1 0),.int .i64 (xs.getD 2 0),.int .i64 (xs.getD 3 0)]
theorem alloc2_new (w:World) (o1 o2:Obj):((w.alloc o1).alloc o2).heap[w.heap.size+1]? = some o2:=by
 show((w.heap.push o1).push o2)[w.heap.size+1]? = _
 rw [Array.getElem?_push,if_pos (by simp)]
theorem alloc2_fst (w:World) (o1 o2:Obj):((w.alloc o1).alloc o2).heap[w.heap.size]? = some o1:=by
 show((w.heap.push o1).push o2)[w.heap.size]? = _
 rw [Array.getElem?_push,if_neg (by simp),Array.getElem?_push,if_pos rfl]
theorem alloc2_old (w:World) (o1 o2:Obj) {b:Nat} (h:b < w.heap.size):((w.alloc o1).alloc o2).heap[b]? = w.heap[b]?:=by
 show((w.heap.push o1).push o2)[b]? = _
 rw [Array.getElem?_push,if_neg (by simp;omega),Array.getElem?_push,if_neg (by omega)]
theorem vec_copy (a:Addr) (cap:Nat) (xs:List Int) (w:World) (h1:1≤xs.length) (hl:xs.length≤4) (hr:∀ k (hk:k < xs.length),w.cell? (a.add k)=some (.int .i64 xs[k])) (t:TypeId) :
  (Builtin.copy_ #[25,25] 3 #[.slice (some ⟨w.heap.size+1,0,none⟩) 4 4,.slice (some a) xs.length cap]).run Tryz.prog ((w.alloc (.cells zero4 t)).alloc (.cells zero4 t)) =
   .ok (.int .i64 xs.length) (((w.alloc (.cells zero4 t)).alloc (.cells zero4 t)).setRow (w.heap.size+1) (vec4 xs)):=by
 have hr2:∀ k (hk:k < xs.length),((w.alloc (.cells zero4 t)).alloc (.cells zero4 t)).cell? (a.add k)=some (.int .i64 xs[k]):=fun k hk=>by
  have h0:=hr k hk
  have hlt:a.block < w.heap.size:=by
   unfold World.cell? at h0
   rw [Go.Aw.add_block]at h0
   cases hb:w.heap[a.block]? with
   | none=>rw [hb]at h0;simp at h0
   | some o=>exact(Array.getElem?_eq_some_iff.1 hb).1
  rw [← h0]
  unfold World.cell?
  rw [Go.Aw.add_block,alloc2_old _ _ _ hlt]
 have hmin:Nat.min xs.length 4=xs.length:=Nat.min_eq_left hl
 have h:=run_copy_row (P:=Tryz.prog) ((w.alloc (.cells zero4 t)).alloc (.cells zero4 t)) 25 25 3 3 (w.heap.size+1) 0 4 4 a xs.length cap _ t (xs.map (Value.int .i64)) Tryz.underlying25 (by kernel_rfl) (alloc2_new _ _ _) (by rw [List.length_map,hmin])
  (fun j v hv=>by
   obtain⟨hj,rfl⟩:=List.getElem?_eq_some_iff.1 hv
   simpa using hr2 j (by simpa using hj)) (by rw [List.length_map,Nat.zero_add];exact hl) (by simp [Value.oneCell'])
 simp only [hmin,List.take_zero,List.nil_append,Nat.zero_add,List.length_map]at h
 have e:((xs.map (Value.int .i64)) ++ (zero4.toList.drop xs.length)).toArray=vec4 xs:=by
  match xs,h1,hl with
  | [_],_,_=>rfl
  | [_,_],_,_=>rfl
  | [_,_,_],_,_=>rfl
  | [_,_,_,_],_,_=>rfl
 rw [e]at h
 exact h
structure Kp (n:Nat) (w w':World):Prop where
 os:w'.os=w.os
 tape:w'.tape=w.tape
 output:w'.output=w.output
 size:w.heap.size≤w'.heap.size
 drawn:w.drawn≤w'.drawn
 block:∀ b,b < n→w'.heap[b]? = w.heap[b]?
theorem Kp.refl (n:Nat) (w:World):Kp n w w:=⟨rfl,rfl,rfl,Nat.le_refl _,Nat.le_refl _,fun _ _=>rfl⟩
theorem Kp.cell {n:Nat} {w w':World} (h:Kp n w w') (b j:Nat) (v:Value) (hb:n≤b):Kp n w (w'.setCell ⟨b,j,none⟩ v):=
 ⟨h.os,h.tape,h.output,by simpa [World.setCell] using h.size,h.drawn,fun c hc=>by
  rw [← h.block c hc]
  unfold World.setCell
  simp [Array.getElem?_modify,show ¬b=c by omega]⟩
theorem Kp.row {n:Nat} {w w':World} (h:Kp n w w') (b:Nat) (cs:Array Value) (hb:n≤b):Kp n w (w'.setRow b cs):=
 ⟨h.os,h.tape,h.output,by simpa [World.setRow] using h.size,h.drawn,fun c hc=>by rw [setRow_other _ _ _ _ (by omega)];exact h.block c hc⟩
theorem Kp.alloc {n:Nat} {w w':World} (h:Kp n w w') (o:Obj) (hn:n≤w'.heap.size):Kp n w (w'.alloc o):=
 ⟨h.os,h.tape,h.output,by have:=h.size;simp;omega,h.drawn,fun c hc=>by
  rw [← h.block c hc]
  show(w'.heap.push o)[c]? = _
  rw [Array.getElem?_push,if_neg (by omega)]⟩
theorem vec_frame (w:World) (o1 o2:Obj) (cs:Array Value) (v0 v1 v2 v3:Value) :
  Kp w.heap.size w (((((((w.alloc o1).alloc o2).setRow (w.heap.size+1) cs).setCell ⟨w.heap.size,0,none⟩ v0).setCell ⟨w.heap.size,1,none⟩ v1).setCell ⟨w.heap.size,2,none⟩ v2).setCell ⟨w.heap.size,3,none⟩ v3):=
 (((((((Kp.refl _ w).alloc o1 (Nat.le_refl _)).alloc o2 (by simp)).row _ cs (by omega)).cell _ _ _ (Nat.le_refl _)).cell _ _ _ (Nat.le_refl _)).cell _ _ _ (Nat.le_refl _)).cell _ _ _ (Nat.le_refl _)
set_option maxRecDepth 100000 in
theorem w_vectorOf (a:Addr) (cap:Nat) (xs:List Int) (w:World) (h1:1≤xs.length) (hl:xs.length≤4) (hr:∀ k (hk:k < xs.length),w.cell? (a.add k)=some (.int .i64 xs[k])) :
  Calls Tryz.prog 187 #[.slice (some a) xs.length cap] w fun e w'=>e=.returned (.agg #[.int .i64 (xs.getD 0 0),.int .i64 (xs.getD 1 0),.int .i64 (xs.getD 2 0),.int .i64 (xs.getD 3 0)])∧Kp w.heap.size w w':=by
 have hcp:=vec_copy a cap xs w h1 hl hr 122
 have g3:(((w.alloc (.cells zero4 122)).alloc (.cells zero4 122)).setRow (w.heap.size+1) (vec4 xs)).heap[w.heap.size+1]? = some (.cells (vec4 xs) 122 (0,0)):=setRow_heap _ _ _ _ _ _ (alloc2_new _ _ _)
 have c0:(((w.alloc (.cells zero4 122)).alloc (.cells zero4 122)).setRow (w.heap.size+1) (vec4 xs)).cell? ⟨w.heap.size+1,0,none⟩=some (.int .i64 (xs.getD 0 0)):=by simp only [World.cell?,g3];rfl
 have c1:(((w.alloc (.cells zero4 122)).alloc (.cells zero4 122)).setRow (w.heap.size+1) (vec4 xs)).cell? ⟨w.heap.size+1,1,none⟩=some (.int .i64 (xs.getD 1 0)):=by simp only [World.cell?,g3];rfl
 have c2:(((w.alloc (.cells zero4 122)).alloc (.cells zero4 122)).setRow (w.heap.size+1) (vec4 xs)).cell? ⟨w.heap.size+1,2,none⟩=some (.int .i64 (xs.getD 2 0)):=by simp only [World.cell?,g3];rfl
 have c3:(((w.alloc (.cells zero4 122)).alloc (.cells zero4 122)).setRow (w.heap.size+1) (vec4 xs)).cell? ⟨w.heap.size+1,3,none⟩=some (.int .i64 (xs.getD 3 0)):=by simp only [World.cell?,g3];rfl
 have g2:(((w.alloc (.cells zero4 122)).alloc (.cells zero4 122)).setRow (w.heap.size+1) (vec4 xs)).heap[w.heap.size]? = some (.cells zero4 122 (0,0)):=by rw [setRow_other _ _ _ _ (by omega)];exact alloc2_fst _ _ _
 have d0:(((w.alloc (.cells zero4 122)).alloc (.cells zero4 122)).setRow (w.heap.size+1) (vec4 xs)).cell? ⟨w.heap.size,0,none⟩=some (.int .i64 0):=by simp only [World.cell?,g2];rfl
 have z0:(((w.alloc (.cells zero4 122)).alloc (.cells zero4 122)).setRow (w.heap.size+1) (vec4 xs)).frozen? ⟨w.heap.size,0,none⟩=false:=by simp only [World.frozen?,g2];rfl
 have d1:(((w.alloc (.cells zero4 122)).alloc (.cells zero4 122)).setRow (w.heap.size+1) (vec4 xs)).cell? ⟨w.heap.size,1,none⟩=some (.int .i64 0):=by simp only [World.cell?,g2];rfl
 have z1:(((w.alloc (.cells zero4 122)).alloc (.cells zero4 122)).setRow (w.heap.size+1) (vec4 xs)).frozen? ⟨w.heap.size,1,none⟩=false:=by simp only [World.frozen?,g2];rfl
 have d2:(((w.alloc (.cells zero4 122)).alloc (.cells zero4 122)).setRow (w.heap.size+1) (vec4 xs)).cell? ⟨w.heap.size,2,none⟩=some (.int .i64 0):=by simp only [World.cell?,g2];rfl
 have z2:(((w.alloc (.cells zero4 122)).alloc (.cells zero4 122)).setRow (w.heap.size+1) (vec4 xs)).frozen? ⟨w.heap.size,2,none⟩=false:=by simp only [World.frozen?,g2];rfl
 have d3:(((w.alloc (.cells zero4 122)).alloc (.cells zero4 122)).setRow (w.heap.size+1) (vec4 xs)).cell? ⟨w.heap.size,3,none⟩=some (.int .i64 0):=by simp only [World.cell?,g2];rfl
 have z3:(((w.alloc (.cells zero4 122)).alloc (.cells zero4 122)).setRow (w.heap.size+1) (vec4 xs)).frozen? ⟨w.heap.size,3,none⟩=false:=by simp only [World.frozen?,g2];rfl
 clear g3 g2
 unfold zero4 at hcp c0 c1 c2 c3 d0 d1 d2 d3 z0 z1 z2 z3
 go_enter Tryz.func187,Tryz.ntmps187
 go_wp2
 have hres:Tryz.f187.results=#[.cell 2 122]:=rfl
 generalize hw3:(((w.alloc (.cells #[.int .i64 0,.int .i64 0,.int .i64 0,.int .i64 0] 122)).alloc (.cells #[.int .i64 0,.int .i64 0,.int .i64 0,.int .i64 0] 122)).setRow (w.heap.size+1) (vec4 xs))=w3 at *
 have hld:=Go.Aw.run_wload (C:=B) (t:=122) (e:=.vec) (a:=⟨w.heap.size,0,none⟩) (d:=key4 xs) (w:=(((w3.setCell ⟨w.heap.size,0,none⟩ (.int .i64 (xs.getD 0 0))).setCell ⟨w.heap.size,1,none⟩ (.int .i64 (xs.getD 1 0))).setCell ⟨w.heap.size,2,none⟩ (.int .i64 (xs.getD 2 0))).setCell ⟨w.heap.size,3,none⟩ (.int .i64 (xs.getD 3 0))) B_ok rfl rfl (fun j hj=>by
  rw [Go.Aw.add_plain,Nat.zero_add]
  match j,hj with
  | 0,_=>
   rw [World.cell?_setCell_other _ _ _ _ (by simp),World.cell?_setCell_other _ _ _ _ (by simp),World.cell?_setCell_other _ _ _ _ (by simp),World.cell?_setCell_same _ _ _ d0];rfl
  | 1,_=>
   rw [World.cell?_setCell_other _ _ _ _ (by simp),World.cell?_setCell_other _ _ _ _ (by simp),World.cell?_setCell_same (u:=.int .i64 0) _ _ _ (by rw [World.cell?_setCell_other _ _ _ _ (by simp)];exact d1)];rfl
  | 2,_=>
   rw [World.cell?_setCell_other _ _ _ _ (by simp),World.cell?_setCell_same (u:=.int .i64 0) _ _ _ (by rw [World.cell?_setCell_other _ _ _ _ (by simp),World.cell?_setCell_other _ _ _ _ (by simp)];exact d2)];rfl
  | 3,_=>
   rw [World.cell?_setCell_same (u:=.int .i64 0) _ _ _ (by rw [World.cell?_setCell_other _ _ _ _ (by simp),World.cell?_setCell_other _ _ _ _ (by simp),World.cell?_setCell_other _ _ _ _ (by simp)];exact d3)];rfl)
 simp only [List.getD_eq_getElem?_getD]at hld
 refine⟨rfl,.agg ((key4 xs).map (Value.int .i64)).toArray,?_,?_⟩
 ·unfold results
  rw [hres]
  simp only [Instr.loadAt,Instr.sureAddr,Sem.run_bind,Sem.run_pure,Result.andThen_ok]at hld
  simp [asAddr]
  exact hld
 ·refine⟨by simp [key4],?_⟩
  rw [← hw3]
  exact vec_frame w _ _ _ _ _ _ _
open Go.Aw
theorem key4_inj {xs ys:List Int} (hx:xs.length≤4) (h:xs.length=ys.length) (e:key4 xs=key4 ys):xs=ys:=by
 simp only [key4,List.cons.injEq,and_true]at e
 obtain⟨e0,e1,e2,e3⟩:=e
 apply List.ext_getElem h
 intro i h1 h2
 have:xs.getD i 0=ys.getD i 0:=by
  match i,(show i < 4 by omega) with
  | 0,_=>exact e0
  | 1,_=>exact e1
  | 2,_=>exact e2
  | 3,_=>exact e3
 simpa [List.getD_eq_getElem?_getD,h1,h2] using this
theorem key4_take {xs:List Int} (h:xs.length≤4):(key4 xs).take xs.length=xs:=by
 match xs,h with
 | [],_=>rfl
 | [_],_=>rfl
 | [_,_],_=>rfl
 | [_,_,_],_=>rfl
 | [_,_,_,_],_=>rfl
theorem c_impl_vectorOf (xs:List Int) (h1:1≤xs.length) (hl:xs.length≤4):FunA B 187 [.sl false .int xs] (fun rs o=>rs=[.vec (key4 xs)]∧o=[]):=by
 refine⟨fun vs w=>Tryz.call187 vs w,fun w L vs hG hv ha=>?_⟩
 match vs,hv with
 | [s],_=>
 have hs:SlRel ((B.bareL w L).V w [] (fun _=>undef)) false .int xs s:=ha 0 _ s rfl rfl
 obtain⟨base,cap,hv',hc,hcm,hx⟩:=hs
 obtain⟨a,_,hb,_⟩:=hx 0 (by omega)
 subst hb hv'
 have hcell:∀ k (hk:k < xs.length),w.cell? (a.add k)=some (.int .i64 xs[k]):=fun k hk=>by
  obtain⟨a',u,e,_,hu,hq⟩:=hx k hk
  cases e
  cases hu
  have h0:=hq 0 (by simp [E.size])
  simp only [E.size,Nat.mul_one,Nat.add_zero]at h0
  exact V_cell (by simpa [Value.cells] using h0)
 refine(w_vectorOf a cap xs w h1 hl hcell).mono ?_
 rintro e w' ⟨rfl,hk⟩
 refine⟨[.agg ((key4 xs).map (Value.int .i64)).toArray],rfl,[.vec (key4 xs)],[],fun _=>undef,⟨rfl,rfl⟩,rfl,fun i x v hx hv=>?_,⟨fun id o h=>by simp at h,fun i j o o' b h=>by simp at h,fun b ⟨id,o,h,_⟩=>by simp at h,hk.os,hk.tape,hk.output,hk.size,fun _=>hk.drawn,fun b hb _=>hk.block b hb,hG⟩,rfl,rfl⟩
 match i with
 | 0=>simp at hx hv;subst hx hv;exact⟨rfl,rfl⟩
 | i+1=>simp at hx
end Go.Proofs.YtcinngodeoidnaaGreatDoor
namespace Go.Proofs.YtcinngodeoidnaaGreatDoor
open Go Go.Aw
theorem c_impl_list (xs:List Int) (n:Nat) (h4:xs.length=4) (hn:n≤4):FunA B 188 [.vec xs,.int .i64 n] (fun rs o=>rs=[.own 0 0]∧o=[.arr .int (xs.take n) 0 true]):=by
 refine FunA.walk B_ok (fn:=Tryz.f188) (fun vs w=>Tryz.call188 vs w) Tryz.func188 rfl (by rw [Tryz.ntmps188];simp) (fun C hC hP hT hΓ hbt hfn hpin hfin=>?_);have hX:=BX;rw [← hΓ,← hbt.1,← hbt.2.1,← hbt.2.2.1]at hX;rw [hT]at hX;rw [Tryz.ntmps188];simp only [AW7,simprocAttr,hX]
 refine Run.R ?_
 refine Run.R ?_
 refine Run.reK hpin [4] [0] (by decide) (by simp) ?_;simp only [AR,AW7,simprocAttr]
 refine Run.rW [4] (hfin _ _ rfl rfl ?_)
 exact⟨rfl,rfl⟩
end Go.Proofs.YtcinngodeoidnaaGreatDoor
namespace Go.Proofs.YtcinngodeoidnaaGreatDoor
open Go Go.Aw Go.Cox
def badB (c:List (List Int)) (i j:Nat):Bool:=bif i == j then !decide (ent c i j=2)else decide (ent c i j < -3) || decide (0 < ent c i j) || (decide (ent c i j=0) != decide (ent c j i=0))
def ctB (c:List (List Int)):Bool:=Nat.ble 1 c.length && Nat.ble c.length 4 && (List.range c.length).all (fun i=>(c.getD i []).length == c.length) && (List.range c.length).all fun i=>(List.range c.length).all fun j=>!badB c i j
theorem badB_iff (c:List (List Int)) (i j:Nat):badB c i j=true↔badE c i j:=by
 unfold badB badE
 by_cases h:i=j
 ·subst h;simp
 ·have:(i == j)=false:=by simpa using h
  rw [this]
  simp only [cond_false,h,false_and,false_or,ne_eq,not_false_eq_true,true_and,Bool.or_eq_true,decide_eq_true_eq,bne_iff_ne,or_assoc]
  constructor
  ·rintro(h1 | h1 | h1)
   ·exact .inl h1
   ·exact .inr (.inl h1)
   ·refine .inr (.inr fun h2=>h1 ?_)
    rw [Bool.eq_iff_iff,decide_eq_true_eq,decide_eq_true_eq];exact h2
  ·rintro(h1 | h1 | h1)
   ·exact .inl h1
   ·exact .inr (.inl h1)
   ·refine .inr (.inr fun h2=>h1 ?_)
    rw [Bool.eq_iff_iff,decide_eq_true_eq,decide_eq_true_eq]at h2;exact h2
theorem ctB_eq (c:List (List Int)):isC c=ctB c:=by
 rw [Bool.eq_iff_iff,isC_iff]
 simp only [ctB,CartanP,Bool.and_eq_true,List.all_eq_true,List.mem_range,Bool.not_eq_true',beq_iff_eq,Nat.ble_eq]
 constructor
 ·rintro⟨h1,h2,h3,h4⟩
  refine⟨⟨⟨h1,h2⟩,h3⟩,fun i hi j hj=>?_⟩
  rw [Bool.eq_false_iff]
  exact fun e=>h4 i j hi hj ((badB_iff c i j).1 e)
 ·rintro⟨⟨⟨h1,h2⟩,h3⟩,h4⟩
  refine⟨h1,h2,h3,fun i j hi hj e=>?_⟩
  have:=h4 i hi j hj
  rw [(badB_iff c i j).2 e]at this
  cases this
def nbI (c:List (List Int)) (i:Nat):List Int:=((List.range c.length).filter fun j=>!(j == i) && !(ent c i j == 0)).map Int.ofNat
def stJ (p:List Bool×List Int) (j:Int):List Bool×List Int:=bif p.1.getD j.toNat false then p else(p.1.set j.toNat true,p.2 ++ [j])
def grP (c:List (List Int)):Nat→Nat→List Bool×List Int→List Bool×List Int
 | 0,_,p=>p
 | f+1,k,p=>bif Nat.blt k p.2.length then grP c f (k+1) ((nbI c (p.2.getD k 0).toNat).foldl stJ p)else p
def insI (x:Int):List Int→List Int
 | []=>[x]
 | y :: l=>bif decide (x≤y)then x :: y :: l else y :: insI x l
def sortI (l:List Int):List Int:=l.foldr insI []
def ptS (c:List (List Int)) (p:List Bool×List (List Int)) (i:Nat):List Bool×List (List Int):=
 bif p.1.getD i false then p else((grP c (c.length+1) 0 (p.1.set i true,[(i:Int)])).1,p.2 ++ [sortI (grP c (c.length+1) 0 (p.1.set i true,[(i:Int)])).2])
def partsI (c:List (List Int)):List (List Int):=((List.range c.length).foldl (ptS c) (List.replicate c.length false,[])).2
def partS (c:List (List Int)) (i:Nat):List Int:=((List.range c.length).filter fun(k:Nat)=>(grP c (c.length+1) 0 ((List.replicate c.length false).set i true,[(i:Int)])).1.getD k false).map Int.ofNat
def partsS (c:List (List Int)):List (List Int):=((List.range c.length).map (partS c)).zipIdx.filterMap fun p=>bif p.1.getD 0 0 == (p.2:Int)then some p.1 else none
def tyL:List (List UInt8×List (List Int)×Nat):=[
 ([65,49],[[2]],2),([65,50],[[2,-1],[-1,2]],6),([65,51],[[2,-1,0],[-1,2,-1],[0,-1,2]],24),([65,52],[[2,-1,0,0],[-1,2,-1,0],[0,-1,2,-1],[0,0,-1,2]],120),
 ([66,50],[[2,-1],[-2,2]],8),([66,51],[[2,-1,0],[-1,2,-1],[0,-2,2]],48),([66,52],[[2,-1,0,0],[-1,2,-1,0],[0,-1,2,-1],[0,0,-2,2]],384),
 ([67,51],[[2,-1,0],[-1,2,-2],[0,-1,2]],48),([67,52],[[2,-1,0,0],[-1,2,-1,0],[0,-1,2,-2],[0,0,-1,2]],384),
 ([68,52],[[2,-1,0,0],[-1,2,-1,-1],[0,-1,2,0],[0,-1,0,2]],192),([70,52],[[2,-1,0,0],[-1,2,-1,0],[0,-2,2,-1],[0,0,-1,2]],1152),([71,50],[[2,-1],[-3,2]],12),
 ([65,49,126],[[2,-2],[-2,2]],0),([65,50,126],[[2,-1,-1],[-1,2,-1],[-1,-1,2]],0),([65,51,126],[[2,-1,0,-1],[-1,2,-1,0],[0,-1,2,-1],[-1,0,-1,2]],0),
 ([67,50,126],[[2,-1,0],[-2,2,-2],[0,-1,2]],0),([71,50,126],[[2,-1,0],[-1,2,-1],[0,-3,2]],0)]
def fitM (a b:List (List Int)) (order:List Int) (i:Nat):Bool:=order.zipIdx.all fun p=>decide (ent a i p.1.toNat=ent b order.length p.2) && decide (ent a p.1.toNat i=ent b p.2 order.length)
def mtL (a b:List (List Int)) (rec:List Int→Int→List (List Int)) (order:List Int) (most:Int):List Nat→List (List Int)→List (List Int)
 | [],out=>out
 | i :: r,out=>bif decide ((i:Int)∈order)then mtL a b rec order most r out else
   bif decide (most≤((out ++ (bif fitM a b order i then rec (order ++ [(i:Int)]) (most - out.length)else [])).length:Int))then out ++ (bif fitM a b order i then rec (order ++ [(i:Int)]) (most - out.length)else [])
   else mtL a b rec order most r (out ++ (bif fitM a b order i then rec (order ++ [(i:Int)]) (most - out.length)else []))
def mtI (a b:List (List Int)):Nat→List Int→Int→List (List Int)
 | 0,order,_=>[order]
 | f+1,order,most=>mtL a b (mtI a b f) order most (List.range a.length) []
def isoI (a b:List (List Int)):Bool:=a.length == b.length && (ctB a && ctB b && !(mtI a b b.length [] 1).isEmpty)
def firstT (iso:List (List Int)→List (List Int)→Bool) (a:List (List Int)):List (List UInt8×List (List Int)×Nat)→List UInt8
 | []=>[63]
 | t :: l=>bif iso a t.2.1 then t.1 else firstT iso a l
def nameI (a:List (List Int)):List UInt8:=bif ctB a && (partsI a).length == 1 then firstT isoI a tyL else []
def ordN (n:Nat):Nat→List (List Int)
 | 0=>[[]]
 | k+1=>(ordN n k).flatMap fun o=>((List.range n).filter fun(x:Nat)=>!decide ((x:Int)∈o)).map fun(x:Nat)=>o ++ [(x:Int)]
def isoS (a b:List (List Int)):Bool:=a.length == b.length && (ctB a && ctB b && (ordN a.length a.length).any fun o=>decide (pick a o=b))
def nameS (a:List (List Int)):List UInt8:=firstT isoS a tyL
def joinX:List (List UInt8)→List UInt8
 | []=>[]
 | [x]=>x
 | x :: y :: l=>x ++ [120] ++ joinX (y :: l)
def cutX:List UInt8→List UInt8→List (List UInt8)
 | p,[]=>[p]
 | p,b :: l=>bif b == 120 then p :: cutX [] l else cutX (p ++ [b]) l
def sizeT (s:List UInt8):Nat:=match tyL.find? (fun t=>t.1 == s) with
 | some t=>t.2.2
 | none=>0
def sizeL (l:List (List UInt8)):Int:=bif Nat.ble l.length 4 then l.foldl (fun n p=>n*(sizeT p:Int)) 1 else 0
def sizeI (c:List (List Int)):Int:=sizeL (cutX [] (joinX ((partsI c).map fun p=>nameI (pick c p))))
def sizeS (c:List (List Int)):Int:=sizeL (cutX [] (joinX ((partsS c).map fun p=>nameS (pick c p))))
def rf1 (a:Int):List Int→List Int→List Int
 | x :: v,y :: col=>Int.sub x (Int.mul a y) :: rf1 a v col
 | _,_=>[]
def posI:Int→Bool
 | .ofNat 0=>false
 | .ofNat (_+1)=>true
 | .negSucc _=>false
def nngI:Int→Bool
 | .ofNat _=>true
 | .negSucc _=>false
def preI:Nat→List Int→Bool
 | 0,_=>true
 | i+1,y :: l=>nngI y && preI i l
 | _,[]=>true
def nxC (x:List Int):Nat→List Int→List (List Int)→List (List Int)
 | i,a :: r,col :: cs=>bif posI a then(bif preI i (rf1 a x col)then rf1 a x col :: nxC x (i+1) r cs else nxC x (i+1) r cs)else nxC x (i+1) r cs
 | _,_,_=>[]
def colsI (c:List (List Int)):List (List Int):=(List.range c.length).map fun i=>(List.range c.length).map fun k=>ent c k i
def cntG (cols:List (List Int)):Nat→List (List Int)→Nat
 | 0,_=>0
 | f+1,sh=>bif sh.isEmpty then 0 else sh.length+cntG cols f (sh.flatMap fun x=>nxC x 0 x cols)
def cntN (c:List (List Int)):Nat:=cntG (colsI c) 25 [ones c.length]
def chkN (c:List (List Int)):Bool:=decide (sizeI c=sizeS c) && decide (0 < sizeI c) && (decide (200 < sizeI c) || decide ((cntN c:Int)=sizeI c))
end Go.Proofs.YtcinngodeoidnaaGreatDoor
