/- A row of rows, sorted: slices.SortFunc at a call. -/
import Derived.Test.YtcinngodeoidnaaGreatDoorB7
import Derived.Shelf.SlSortCmp.Whole1
set_option linter.unusedVariables false
set_option linter.unusedSimpArgs false
namespace Go.Proofs.YtcinngodeoidnaaGreatDoor
open Go Go.Aw
theorem world_grow {w w':World} (h1:w'.os=w.os) (h2:w'.tape=w.tape) (h3:w'.output=w.output) (h4:w.drawn<=w'.drawn) (h5:w.heap.size<=w'.heap.size) (h6:∀ b,b < w.heap.size->w'.heap[b]? = w.heap[b]?) :
  w'=Go.Sort.grow (w.drewN (w'.drawn - w.drawn)) (w'.heap.extract w.heap.size w'.heap.size):=by
 have hh:w'.heap=w.heap ++ w'.heap.extract w.heap.size w'.heap.size:=by
  apply Array.ext_getElem?
  intro i
  rw [Array.getElem?_append]
  split
  ·rename_i hi;exact h6 i hi
  ·rename_i hi
   rw [Array.getElem?_extract]
   split
   ·congr 1;omega
   ·rename_i h;rw [Array.getElem?_eq_none];omega
 have hd:w.drawn+(w'.drawn - w.drawn)=w'.drawn:=by omega
 unfold Go.Sort.grow World.drewN
 obtain⟨H',t',d',o',u'⟩:=w'
 simp only at h1 h2 h3 hh hd ⊢
 subst h1 h2 h3
 rw [<- hh,hd]
theorem sw_heap {α:Type} [Inhabited α] (enc:α->Value) (w:World) (blk off m:Nat) (d:Array α) (os:Array Obj) (b:Nat) (hb:b < w.heap.size) :
  (sortWorld enc w blk off m d os).heap[b]? = if b=blk then(w.heap[b]?).map (Go.Sort.onCells (Go.Sort.putCells enc off d))else w.heap[b]?:=by
 show((w.heap.modify blk (Go.Sort.onCells (Go.Sort.putCells enc off d))) ++ os)[b]? = _
 rw [Array.getElem?_append,if_pos (by simpa using hb),Array.getElem?_modify]
 by_cases h:b=blk
 ·rw [if_pos h,if_pos h.symm]
 ·rw [if_neg h,if_neg (Ne.symm h)]
theorem sw_size {α:Type} [Inhabited α] (enc:α->Value) (w:World) (blk off m:Nat) (d:Array α) (os:Array Obj):w.heap.size<=(sortWorld enc w blk off m d os).heap.size:=by
 show _<=((w.heap.modify blk (Go.Sort.onCells (Go.Sort.putCells enc off d))) ++ os).size
 simp
theorem ACall.sort {B C:Ctx} [DrT B] (hP:B.P=C.P) (hT:B.tid=C.tid) {ρs:Go.Shelf.Ren} (L:SlLaysF.n6 B.P ρs) {f g:FuncId} (hf:ρs.f 6=f) {cf:List Int->List Int->Int} (hO:Go.Sort.SWO (ltOf cf)) {obs:List O} (id gg:Nat) {ys:List (Nat×List Int)}
  (ho:oAt obs id=.arr .lrow ys gg true) (hyb:ys.length<=1048576) (hcmp:∀ a b,(a=[]\/a∈ys.map (·.2))->(b=[]\/b∈ys.map (·.2))->FunA B g [.sl false .int a,.sl false .int b] (fun rs o=>rs=[.int .i64 (cf a b)]/\o=[])) {K:Sl->List O->Prop}
  (hk:∀ ys',ys'.Perm ys->ys'.Pairwise (fun p q=>¬cf q.2 p.2 < 0)->K (.t []) (oSet obs id (.arr .lrow ys' gg true))):ACall C obs f [.own id gg,.fn g] fun x o=>Later (K x o):=by
 refine⟨fun vs w=>by rw [<- hP,<- hf];exact L.f6.enters rfl vs w,fun w ρ vs rr hl hx=>?_⟩
 have hid:id < obs.length:=by
  rcases Nat.lt_or_ge id obs.length with h | h
  ·exact h
  ·rw [oAt_eq,geN h]at ho;cases ho
 have ho':obs[id]? = some (.arr .lrow ys gg true):=by rw [oAt_get hid,ho]
 match vs,hl with
 | [u1,u2],_=>
 have a1:=hx 0 _ u1 rfl rfl
 have a2:u2=.func (.func g) #[] #[]:=hx 1 _ u2 rfl rfl
 obtain⟨_,a1⟩:=(show AVRel (C.V w obs ρ) obs ρ (.own id gg) u1 from a1)
 have hu1:u1=ρ id:=(a1 gg (by unfold genOf;rw [ho'];rfl)).2 rfl
 obtain⟨cs,hown,henc,hnn,hml⟩:=rr.os id _ ho'
 have hcl:cs.length=ys.length:=by simpa [E.size] using henc.1
 rcases hown.2 with⟨hv,_⟩ | ⟨b,cap,cur,hv,_,hg,h1,h2,h3,h4⟩
 ·exact(hnn rfl hv).elim
 have hrow:∀ i (hi:i < ys.length),∃ u,cs[i]? = some u/\LRowRel (C.V w obs ρ) ys[i].1 ys[i].2 u:=by
  intro i hi
  obtain⟨u,hu,hc⟩:=henc.2 i hi
  have hu':LRowRel (C.V w obs ρ) ys[i].1 ys[i].2 u:=hu
  have hc0:=hc 0 (by simp [E.size])
  simp only [E.size,Nat.mul_one,Nat.add_zero]at hc0
  refine⟨u,?_,hu'⟩
  rw [hc0,cells_oneCell hu'.oneCell]
  rfl
 have hob:Own obs ρ b:=⟨id,_,ho',by simp [fpo,hv,Value.ownBlock]⟩
 let nil:Value:=.slice none 0 0
 let enc:Fin (ys.length+1)->Value:=fun i=>cs.getD i.1 nil
 let row:Fin (ys.length+1)->List Int:=fun i=>(ys.map (·.2)).getD i.1 []
 let cf':Fin (ys.length+1)->Fin (ys.length+1)->Int:=fun i j=>cf (row i) (row j)
 let d:Array (Fin (ys.length+1)):=Array.ofFn fun i:Fin ys.length=>i.castSucc
 have hds:d.size=ys.length:=Array.size_ofFn
 have hd:∀ j,j < ys.length->(d[j]!).1=j:=fun j hj=>by
  rw [getElem!_pos d j (by rw [hds];exact hj)]
  simp [d]
 have henc':∀ i:Fin (ys.length+1),(∃ h:i.1 < ys.length,cs[i.1]? = some (enc i)/\row i=ys[i.1].2/\LRowRel (C.V w obs ρ) ys[i.1].1 (row i) (enc i))\/(enc i=nil/\row i=[]):=by
  intro i
  by_cases hi:i.1 < ys.length
  ·obtain⟨u,hu,hr⟩:=hrow i.1 hi
   have e1:enc i=u:=by show cs.getD i.1 nil=u;simp [List.getD,hu]
   have e2:row i=ys[i.1].2:=by show(ys.map (·.2)).getD i.1 []=_;simp [List.getD,hi]
   exact .inl ⟨hi,by rw [e1];exact hu,e2,by rw [e1,e2];exact hr⟩
  ·right
   exact⟨by show cs.getD i.1 nil=nil;simp [List.getD,geN (by omega:cs.length<=i.1)],by show(ys.map (·.2)).getD i.1 []=[];simp [List.getD,geN (by simp;omega:(ys.map (·.2)).length<=i.1)]⟩
 have hone:OneCell enc:=fun i=>by
  rcases henc' i with⟨_,_,_,h⟩ | ⟨h,_⟩
  ·exact h.oneCell
  ·rw [h];rfl
 have hmem:∀ i,row i=[]\/row i∈ys.map (·.2):=fun i=>by
  rcases henc' i with⟨h,_,h2,_⟩ | ⟨_,h⟩
  ·right;rw [h2];exact List.mem_map.2 ⟨_,List.getElem_mem h,rfl⟩
  ·exact .inl h
 have hblk:b < w.heap.size:=(ageS.1 hg).1
 have hcc:∀ i,i < ys.length->cur[i]? = cs[i]?:=fun i hi=>by
  rw [<- h4]
  simp only [E.size,Nat.mul_one]
  rw [List.getElem?_take_of_lt hi]
  simp
 have hH:Go.Sort.Holds enc w b 0 d:=fun j hj=>by
  rw [hds]at hj
  refine⟨?_,?_⟩
  ·have hj':=hd j hj
   simp only [World.cell?,hg,Nat.zero_add]
   show cur[j]? = some (enc d[j]!)
   rw [hcc j hj]
   rcases henc' (d[j]!) with⟨_,h,_⟩ | ⟨h,_⟩
   ·rw [hj']at h;exact h
   ·have:enc d[j]! = cs.getD j nil:=by show cs.getD (d[j]!).1 nil=_;rw [hj']
    rw [this]
    simp [List.getD,geE (by omega:j < cs.length)]
  ·simp [World.frozen?,hg]
 have hvis:∀ l o,(C.V w obs ρ).H l=some o->l≠b/\w.heap[l]? = some o:=fun l o h=>by
  obtain⟨k1,k2⟩:=H_vis h
  exact⟨fun e=>k1 (e▸hob),k2⟩
 have hC:CmpLays1 B.P g #[] enc cf' b 0 d.size w:=by
  intro m os dk _ x y
  have hrel:∀ z,AVRel ((B.bareL (sortWorld enc w b 0 m dk os) (fun _=>False)).V (sortWorld enc w b 0 m dk os) [] (fun _=>undef)) [] (fun _=>undef) (.sl false .int (row z)) (enc z):=fun z=>by
   rcases henc' z with⟨_,_,_,cap,cur,hv,_,hH,hc⟩ | ⟨hz,hr⟩
   ·obtain⟨k1,k2⟩:=hvis _ _ hH
    have k3:=sw_heap enc w b 0 m dk os _ (ageS.1 k2).1
    rw [if_neg k1,k2]at k3
    have hl:LRowRel ((B.bareL (sortWorld enc w b 0 m dk os) (fun _=>True)).V (sortWorld enc w b 0 m dk os) [] (fun _=>undef)) _ (row z) (enc z):=
     ⟨cap,cur,hv,.inr trivial,by rw [H_bare,k3];show _=some (Obj.cells cur (B.tid .int) (0,0));rw [hT];rfl,hc⟩
    have hs:=hl.toRow.weaken.toSl
    obtain⟨base,cap',q1,q2,q3,q4⟩:=hs
    refine⟨base,cap',q1,q2,q3,fun i hi=>?_⟩
    obtain⟨a,u,r1,_,r3,r4⟩:=q4 i hi
    refine⟨a,u,r1,by simp,r3,fun j hj=>?_⟩
    have:=r4 j hj
    simpa [Vw.cell,H_bare] using this
   ·rw [hz,hr]
    exact⟨none,0,rfl,by simp,by simp,fun i hi=>by simp at hi⟩
  have key:=(hcmp (row x) (row y) (hmem x) (hmem y)).2 (sortWorld enc w b 0 m dk os) (fun _=>False) [enc x,enc y] (by rw [hP];exact rr.laid.up (fun c hc hno=>by rw [sw_heap enc w b 0 m dk os c hc,if_neg (fun e:c=b=>hno (e▸hob))]) (fun _ _ _ k=>k)) rfl (fun i a v hi hv=>by
   match i with
   | 0=>simp at hi hv;subst hi hv;exact hrel x
   | 1=>simp at hi hv;subst hi hv;exact hrel y
   | i+2=>simp at hi)
  refine key.mono fun e w' ⟨us,he,xs,obs',ρ',⟨hxs,hobs⟩,hul,hu,hw',_,_⟩=>?_
  subst hxs hobs
  match us,hul with
  | [v],_=>
  have hv:v=.int .i64 (cf (row x) (row y)):=hu 0 _ v rfl rfl
  refine⟨by rw [he,hv];rfl,_,_,world_grow hw'.os0 hw'.tape hw'.output (hw'.drawn (DrT.h (B:=B))) hw'.grow (fun b hb=>hw'.kept b hb (fun k=>k))⟩
 have hsz:d.size < 4611686018427387904:=by rw [hds];omega
 have hO':Go.Sort.SWO (ltOf cf'):=⟨fun x=>hO.irrefl _,fun x y z=>hO.trans _ _ _,fun x y z=>hO.ntrans _ _ _⟩
 have main:=Any.slices_SortFunc L enc hone cf' hO' g #[] b 0 cap d w (hcmp [] [] (.inl rfl) (.inl rfl)).1 hC hH hblk hsz
 rw [hf,hP,hds]at main
 subst a2 hu1
 rw [hv]
 refine main.mono fun e w' ⟨he,d',n,os,hperm,hsort,hw'⟩=>⟨.tuple #[],he,.t [],?_⟩
 obtain⟨hps,_,hpp⟩:=hperm
 rw [hds]at hps
 have hpl:d'.toList.Perm d.toList:=by
  have e1:d'.extract 0 ys.length=d':=(congrArg (fun k=>d'.extract 0 k) hps.symm).trans Array.extract_size
  have e2:d.extract 0 ys.length=d:=(congrArg (fun k=>d.extract 0 k) hds.symm).trans Array.extract_size
  rw [e1,e2]at hpp
  exact hpp
 have hdl:∀ x∈d'.toList,x.1 < ys.length:=fun x hx=>by
  have:=hpl.mem_iff.1 hx
  simp only [d,Array.toList_ofFn,List.mem_ofFn]at this
  obtain⟨i,rfl⟩:=this
  exact i.2
 let nth:Fin (ys.length+1)->Nat×List Int:=fun i=>ys.getD i.1 (0,[])
 have hnth:∀ i:Fin (ys.length+1),i.1 < ys.length->row i=(nth i).2:=fun i hi=>by
  show(ys.map (·.2)).getD i.1 []=(ys.getD i.1 (0,[])).2
  simp [List.getD,hi]
 let ys':=d'.toList.map nth
 have hyl:ys'.length=ys.length:=by simp [ys',hps]
 have hyp:ys'.Perm ys:=by
  have e:d.toList.map nth=ys:=by
   apply List.ext_getElem
   ·simp [hds]
   ·intro i q1 q2
    simp only [List.getElem_map,Array.getElem_toList]
    have:=hd i q2
    rw [getElem!_pos d i (by rw [hds];exact q2)]at this
    show ys.getD (d[i]'_).1 (0,[])=_
    rw [this]
    simp [List.getD,q2]
  rw [<- e]
  exact hpl.map _
 have hget:∀ i (hi:i < ys.length),d'[i]! = d'[i]'om:=fun i hi=>getElem!_pos d' i om
 have hys:ys'.Pairwise (fun p q=>¬cf q.2 p.2 < 0):=by
  refine List.pairwise_iff_getElem.2 fun i j hi hj hij=>?_
  rw [hyl]at hi hj
  have hso:=hsort i j (nz0 _) hij hj
  rw [hget i hi,hget j hj]at hso
  have hlt:¬cf (row (d'[j]'om)) (row (d'[i]'om)) < 0:=by
   have:decide (cf (row (d'[j]'om)) (row (d'[i]'om)) < 0)=false:=hso
   simpa using this
  have m1:=hdl (d'[i]'om) (by simp)
  have m2:=hdl (d'[j]'om) (by simp)
  rw [hnth _ m1,hnth _ m2]at hlt
  simpa [ys'] using hlt
 have hheap:=fun b' (hb:b' < w.heap.size)=>sw_heap enc w b 0 n d' os b' hb
 have hext:Ext (fun b'=>fpo (ρ id) (.arr .lrow ys gg true) b') w w':=by
  rw [hw']
  refine⟨rfl,rfl,rfl,sw_size ..,Nat.le_add_right _ _,fun b' hb' hS=>?_⟩
  rw [hheap b' hb',if_neg]
  intro e
  subst e
  exact hS (by simp [fpo,hv,Value.ownBlock])
 have hfb:∀ b',fpo (ρ id) (.arr .lrow ys' gg true) b'->fpo (ρ id) (.arr .lrow ys gg true) b'\/w.heap.size<=b':=fun b' hb'=>.inl hb'
 have hle:=le_one (C:=C) (o':=.arr .lrow ys' gg true) (v:=ρ id) ho' hext hfb
 have T:=Turn.one rr id (.arr .lrow ys gg true) (.arr .lrow ys' gg true) (ρ id) ho' hext (w':=w') ?_ hfb (fun c' hc=>⟨gg,rfl,.inl ⟨(by cases hc;rfl),rfl⟩⟩)
 ·have hst:=T.step rr
  refine⟨obs.set id (.arr .lrow ys' gg true),_,hst,⟨[],rfl,rfl,by simp⟩,?_⟩
  have:=hk ys' hyp hys
  rw [oSet_eq]at this
  exact this
 ·refine⟨d'.toList.map enc,⟨by simp [hps,hyl,E.size],.inr ⟨b,cap,Go.Sort.putCells enc 0 d' cur,by rw [hyl];exact hv,nz0 _,?_,by rw [hyl];exact h1,h2,by simpa [Go.Sort.putCells] using h3,?_⟩⟩,⟨by simp [hps,hyl,E.size],fun i hi=>?_⟩,fun _=>by rw [hv];simp,by rw [hyl];exact hml⟩
  ·rw [hw',hheap b hblk,if_pos rfl,hg]
   rfl
  ·rw [hyl]
   apply List.ext_getElem?
   intro i
   simp only [E.size,Nat.mul_one]
   by_cases hi:i < ys.length
   ·rw [List.getElem?_take_of_lt hi]
    have hic:i < cur.size:=by rw [h3];simp only [E.size,Nat.mul_one];omega
    have hput:(Go.Sort.putCells enc 0 d' cur)[i]? = some (enc (d'[i]'om)):=by
     unfold Go.Sort.putCells
     rw [Array.getElem?_mapIdx,Array.getElem?_eq_getElem hic]
     simp only [Option.map_some]
     rw [if_pos om,Nat.sub_zero,hget i hi]
    rw [Array.getElem?_toList,hput]
    simp [hps,hi]
   ·rw [geN (by simp;omega),geN (by simp [hps];omega)]
  ·rw [hyl]at hi
   have hm:=hdl (d'[i]'om) (by simp)
   have hyi:ys'[i]'om=nth (d'[i]'om):=by simp [ys']
   rcases henc' (d'[i]'om) with⟨q1,q2,q3,q4⟩ | ⟨q1,q2⟩
   ·refine⟨enc (d'[i]'om),?_,fun j hj=>?_⟩
    ·rw [hyi]
     show LRowRel _ (nth (d'[i]'om)).1 (nth (d'[i]'om)).2 _
     rw [<- hnth _ hm]
     have:(nth (d'[i]'om)).1=ys[(d'[i]'om).1].1:=by
      show(ys.getD _ (0,[])).1=_
      simp [List.getD,q1]
     rw [this]
     exact q4.mono hle
    ·have:j=0:=by simp [E.size]at hj;omega
     subst this
     rw [cells_oneCell (hone _)]
     simp [E.size,hps,hi]
   ·exfalso
    obtain⟨u,r1,r2⟩:=hrow (d'[i]'om).1 hm
    obtain⟨c1,c2,r3,_⟩:=r2
    have:enc (d'[i]'om)=u:=by show cs.getD _ nil=u;simp [List.getD,r1]
    rw [q1,r3]at this
    simp [nil]at this
def srtL_ren:Go.Shelf.Ren:=⟨fun | 6=>189 | 15=>143 | 14=>209 | 28=>180 | 29=>181 | 20=>222 | 21=>223 | 22=>224 | 23=>225 | 24=>226 | 25=>227 | 26=>228 | 27=>229 | 46=>238 | 47=>203 | 48=>204 | 49=>239 | 50=>240 | 57=>248 | n=>n,fun | 22=>24 | 24=>25 | 25=>89 | 3=>3 | 39=>95 | 0=>0 | 53=>117 | 55=>119 | 4=>4 | 46=>109 | 45=>108 | 50=>114 | 5=>5 | 9=>9 | 66=>129 | 70=>133 | 76=>148 | 77=>149 | n=>n,fun n=>n⟩
theorem srtL:SlLaysF.n6 Tryz.prog srtL_ren where
 mixed:=by kernel_rfl
 f6:=⟨Tryz.f189.name,by decide,Tryz.func189.trans (congrArg some (by kernel_rfl))⟩
 f14:=⟨Tryz.f209.name,by decide,Tryz.func209.trans (congrArg some (by kernel_rfl))⟩
 f15:=Tryz.func143.trans (congrArg some (by kernel_rfl))
 f20:=⟨Tryz.f222.name,by decide,Tryz.func222.trans (congrArg some (by kernel_rfl))⟩
 f21:=⟨Tryz.f223.name,by decide,Tryz.func223.trans (congrArg some (by kernel_rfl))⟩
 f22:=⟨Tryz.f224.name,by decide,Tryz.func224.trans (congrArg some (by kernel_rfl))⟩
 f23:=⟨Tryz.f225.name,by decide,Tryz.func225.trans (congrArg some (by kernel_rfl))⟩
 f24:=⟨Tryz.f226.name,by decide,Tryz.func226.trans (congrArg some (by kernel_rfl))⟩
 f25:=⟨Tryz.f227.name,by decide,Tryz.func227.trans (congrArg some (by kernel_rfl))⟩
 f26:=⟨Tryz.f228.name,by decide,Tryz.func228.trans (congrArg some (by kernel_rfl))⟩
 f27:=⟨Tryz.f229.name,by decide,Tryz.func229.trans (congrArg some (by kernel_rfl))⟩
 f28:=Tryz.func180.trans (congrArg some (by kernel_rfl))
 f29:=Tryz.func181.trans (congrArg some (by kernel_rfl))
 f46:=⟨Tryz.f238.name,by decide,Tryz.func238.trans (congrArg some (by kernel_rfl))⟩
 f47:=Tryz.func203.trans (congrArg some (by kernel_rfl))
 f48:=Tryz.func204.trans (congrArg some (by kernel_rfl))
 f49:=⟨Tryz.f239.name,by decide,Tryz.func239.trans (congrArg some (by kernel_rfl))⟩
 f50:=⟨Tryz.f240.name,by decide,Tryz.func240.trans (congrArg some (by kernel_rfl))⟩
 f57:=⟨Tryz.f248.name,by decide,Tryz.func248.trans (congrArg some (by kernel_rfl))⟩
 t0:=Tryz.underlying0
 a0:=Tryz.isAgg0
 z0:=Tryz.sizeOf0
 v0:=Tryz.zeroValue0
 t3:=Tryz.underlying3
 a3:=Tryz.isAgg3
 z3:=Tryz.sizeOf3
 v3:=Tryz.zeroValue3
 t4:=Tryz.underlying4
 a4:=Tryz.isAgg4
 z4:=Tryz.sizeOf4
 v4:=Tryz.zeroValue4
 t5:=Tryz.underlying5
 a5:=Tryz.isAgg5
 z5:=Tryz.sizeOf5
 v5:=Tryz.zeroValue5
 t9:=Tryz.underlying9
 a9:=Tryz.isAgg9
 z9:=Tryz.sizeOf9
 v9:=Tryz.zeroValue9
 t22:=Tryz.underlying24
 a22:=Tryz.isAgg24
 z22:=Tryz.sizeOf24
 v22:=Tryz.zeroValue24
 a24:=Tryz.isAgg25
 z24:=Tryz.sizeOf25
 t25:=Tryz.underlying89
 a25:=Tryz.isAgg89
 z25:=Tryz.sizeOf89
 v25:=Tryz.zeroValue89
 t39:=Tryz.underlying95
 a39:=Tryz.isAgg95
 z39:=Tryz.sizeOf95
 v39:=Tryz.zeroValue95
 t45:=Tryz.underlying108
 a45:=Tryz.isAgg108
 z45:=Tryz.sizeOf108
 v45:=Tryz.zeroValue108
 t46:=Tryz.underlying109
 a46:=Tryz.isAgg109
 z46:=Tryz.sizeOf109
 v46:=Tryz.zeroValue109
 t50:=Tryz.underlying114
 a50:=Tryz.isAgg114
 z50:=Tryz.sizeOf114
 v50:=Tryz.zeroValue114
 t53:=Tryz.underlying117
 a53:=Tryz.isAgg117
 z53:=Tryz.sizeOf117
 v53:=Tryz.zeroValue117
 t55:=Tryz.underlying119
 a55:=Tryz.isAgg119
 z55:=Tryz.sizeOf119
 v55:=Tryz.zeroValue119
 t66:=Tryz.underlying129
 a66:=Tryz.isAgg129
 z66:=Tryz.sizeOf129
 v66:=Tryz.zeroValue129
 t70:=Tryz.underlying133
 a70:=Tryz.isAgg133
 z70:=Tryz.sizeOf133
 v70:=Tryz.zeroValue133
 t76:=Tryz.underlying148
 a76:=Tryz.isAgg148
 z76:=Tryz.sizeOf148
 v76:=Tryz.zeroValue148
 t77:=Tryz.underlying149
 a77:=Tryz.isAgg149
 z77:=Tryz.sizeOf149
 v77:=Tryz.zeroValue149
theorem cmpN_lt_trans (p q r:LI):∀ n i,cmpN p q n i < 0->cmpN q r n i < 0->cmpN p r n i < 0
 | 0,i,h,_=>by simp [cmpN]at h
 | n+1,i,h1,h2=>by
  have ih:=cmpN_lt_trans p q r n (i+1)
  simp only [cmpN]at h1 h2 ⊢
  split at h1<;>split at h2<;>(try split at h1)<;>(try split at h2)<;>(try split)<;>(try split)<;>first | omega | (exact ih h1 h2) | (exfalso;omega)
theorem cmpN_ge_trans (p q r:LI):∀ n i,0<=cmpN p q n i->0<=cmpN q r n i->0<=cmpN p r n i
 | 0,i,_,_=>by simp [cmpN]
 | n+1,i,h1,h2=>by
  have ih:=cmpN_ge_trans p q r n (i+1)
  simp only [cmpN]at h1 h2 ⊢
  split at h1<;>split at h2<;>(try split at h1)<;>(try split at h2)<;>(try split)<;>(try split)<;>first | omega | (exact ih h1 h2) | (exfalso;omega)
theorem cmpN_self (p:LI):∀ n i,cmpN p p n i=0
 | 0,i=>rfl
 | n+1,i=>by simp only [cmpN];rw [if_neg om,if_neg om];exact cmpN_self p n (i+1)
theorem cmpW_self (p:LI):cmpW p p=0:=by unfold cmpW;rw [if_neg om,if_neg om];exact cmpN_self p _ 0
theorem cmpW_lt_trans {p q r:LI} (h1:cmpW p q < 0) (h2:cmpW q r < 0):cmpW p r < 0:=by
 unfold cmpW at *
 have ih:=cmpN_lt_trans p q r p.length 0
 split at h1
 ·split at h2
  ·rw [if_pos om];omega
  ·split at h2
   ·omega
   ·rw [if_pos om];omega
 ·split at h1
  ·omega
  ·have e:p.length=q.length:=by omega
   split at h2
   ·rw [if_pos om];omega
   ·split at h2
    ·omega
    ·rw [if_neg om,if_neg om];rw [<- e]at h2;exact ih h1 h2
theorem cmpW_ge_trans {p q r:LI} (h1:0<=cmpW p q) (h2:0<=cmpW q r):0<=cmpW p r:=by
 unfold cmpW at *
 have ih:=cmpN_ge_trans p q r p.length 0
 split at h1
 ·omega
 ·split at h1
  ·split at h2
   ·omega
   ·split at h2
    ·rw [if_neg om,if_pos om];omega
    ·rw [if_neg om,if_pos om];omega
  ·have e:p.length=q.length:=by omega
   split at h2
   ·omega
   ·split at h2
    ·rw [if_neg om,if_pos om];omega
    ·rw [if_neg om,if_neg om];rw [<- e]at h2;exact ih h1 h2
theorem cmpW_swo:Go.Sort.SWO (ltOf cmpW):=by
 refine⟨fun x=>?_,fun x y z h1 h2=>?_,fun x y z h1 h2=>?_⟩
 ·unfold ltOf;rw [cmpW_self];rfl
 ·unfold ltOf at *
  rw [dtE]at *
  exact cmpW_lt_trans h1 h2
 ·unfold ltOf at *
  rw [dfE]at *
  have:=cmpW_ge_trans (p:=x) (q:=y) (r:=z) om om
  omega
def cmpI (a b:Int):Int:=if a < b then -1 else if a > b then 1 else 0
theorem c_isNaN (a:Int):FunA B 207 [.int .i64 a] (fun rs o=>rs=[.bool false]/\o=[]):=by
 refine wk Tryz.call207 Tryz.func207 rfl Tryz.ntmps207 fun C hC hP hT hfn hpin hfin hX=>wW ?_
 refine Run.R ?_
 refine Run.R ?_
 refine Run.r [2] ?_
 exact⟨by simp,rfl⟩
theorem c_cmpCompare (a b:Int):FunA B 211 [.int .i64 a,.int .i64 b] (fun rs o=>rs=[.int .i64 (cmpI a b)]/\o=[]):=by
 refine wk Tryz.call211 Tryz.func211 rfl Tryz.ntmps211 fun C hC hP hT hfn hpin hfin hX=>wW ?_
 refine Run.R ?_
 refine Run.g fun K hK=>?_
 refine FunA.e hP hT (c_isNaN a) ?_
 refine wE ?_;clear hK K
 refine Run.g fun K hK=>?_
 refine FunA.e hP hT (c_isNaN b) ?_
 refine wE ?_;clear hK K
 refine Run.R ?_
 refine Run.c ?_ ?_
 ·intro h;cases h
 intro _
 refine Run.R ?_
 refine Run.c ?_ ?_
 ·intro h;cases h
 intro _
 refine Run.R ?_
 refine Run.c ?_ ?_
 ·intro h
  rw [dtE]at h
  refine Run.R ?_
  refine Run.r [4] ?_
  unfold cmpI;rw [if_pos h];exact⟨rfl,rfl⟩
 intro h1
 rw [dfE]at h1
 refine Run.R ?_
 refine Run.c ?_ ?_
 ·intro h
  rw [dtE]at h
  refine Run.R ?_
  refine Run.r [4] ?_
  unfold cmpI;rw [if_neg h1,if_pos h];exact⟨rfl,rfl⟩
 intro h2
 rw [dfE]at h2
 refine Run.R ?_
 refine Run.r [4] ?_
 unfold cmpI;rw [if_neg h1,if_neg h2];exact⟨rfl,rfl⟩
theorem c_slicesCompare (p q:LI) (hp:p.length<=1048576):FunA B 212 [.sl false .int p,.sl false .int q] (fun rs o=>(∃ v,rs=[.int .i64 v]/\(p.length=q.length->v=cmpN p q p.length 0))/\o=[]):=by
 refine wk Tryz.call212 Tryz.func212 rfl Tryz.ntmps212 fun C hC hP hT hfn hpin hfin hX=>wW ?_
 refine Run.R ?_
 refine Run.R ?_
 refine Run.loopI (X:=Nat) (fun i=>⟨36,[(0,true,.v (.sl false .int p)),(1,true,.v (.sl false .int q)),(9,true,.v (.sl false .int p)),(10,true,.v (.int .i64 (p.length))),(11,true,.v (.int .i64 i))],[]⟩) (fun i=>i<=p.length/\cmpN p q (p.length - i) i=cmpN p q p.length 0) (fun i=>p.length - i) (0) (⟨by omega,rfl⟩) ?_ ?_
 ·exact Le.s
 rintro i ⟨hi,he⟩ ih
 try simp only []
 refine Run.R ?_
 refine Run.c ?_ ?_
 rotate_left
 ·intro h
  rw [dfE]at h
  refine Run.x ?_
  refine Run.R ?_
  rw [show p.length - i=0 by omega]at he
  refine Run.c ?_ ?_
  ·intro h2
   rw [dtE]at h2
   refine Run.R ?_
   refine Run.r [4] ?_
   exact⟨⟨_,rfl,fun e=>by omega⟩,rfl⟩
  intro h2
  refine Run.R ?_
  refine Run.r [4] ?_
  exact⟨⟨_,rfl,fun e=>he⟩,rfl⟩
 intro h
 rw [dtE]at h
 refine Run.R ?_
 refine Run.R ?_
 refine Run.c ?_ ?_
 ·intro h2
  rw [dtE]at h2
  refine Run.R ?_
  refine Run.r [4] ?_
  exact⟨⟨_,rfl,fun e=>by omega⟩,rfl⟩
 intro h2
 rw [dfE]at h2
 have hs:p.length - i=(p.length - (i+1))+1:=by omega
 rw [hs]at he
 simp only [cmpN]at he
 refine Run.R ?_
 refine Run.g fun K hK=>?_
 refine FunA.e hP hT (c_cmpCompare (p.getD i 0) (q.getD i 0)) ?_
 refine wE ?_;clear hK K
 refine Run.R ?_
 refine Run.c ?_ ?_
 ·intro h3
  have h3:cmpI (p.getD i 0) (q.getD i 0)≠0:=by simpa using h3
  have e2:cmpI (p.getD i 0) (q.getD i 0)=cmpN p q p.length 0:=by
   rw [<- he];unfold cmpI at *
   by_cases k1:p.getD i 0 < q.getD i 0
   ·rw [if_pos k1,if_pos k1]
   ·by_cases k2:p.getD i 0 > q.getD i 0
    ·rw [if_neg k1,if_pos k2,if_neg k1,if_pos k2]
    ·rw [if_neg k1,if_neg k2]at h3;omega
  refine Run.R ?_
  refine Run.r [4] ?_
  exact⟨⟨_,rfl,fun _=>e2⟩,rfl⟩
 intro h3
 have h3:cmpI (p.getD i 0) (q.getD i 0)=0:=by simpa using h3
 have e3:cmpN p q (p.length - (i+1)) (i+1)=cmpN p q p.length 0:=by
  rw [<- he];unfold cmpI at h3
  split at h3
  ·omega
  ·split at h3
   ·omega
   ·rename_i k1 k2;rw [if_neg k1,if_neg k2]
 refine Run.RW ?_
 exact Run.j (ih (i+1) (⟨by omega,e3⟩) mz)
def orL:List Int->Int
 | []=>0
 | x :: l=>if x=0 then orL l else x
theorem orL_drop (xs:LI) {i:Nat} (h:i < xs.length):orL (xs.drop i)=if xs.getD i 0=0 then orL (xs.drop (i+1))else xs.getD i 0:=by
 rw [List.drop_eq_getElem_cons h,getD_eq h];rfl
theorem c_cmpOr (xs:LI) (hl:xs.length<=1048576):FunA B 210 [.sl false .int xs] (fun rs o=>rs=[.int .i64 (orL xs)]/\o=[]):=by
 refine wk Tryz.call210 Tryz.func210 rfl Tryz.ntmps210 fun C hC hP hT hfn hpin hfin hX=>wW ?_
 refine Run.R ?_
 refine Run.R ?_
 refine Run.R ?_
 refine Run.loopI (X:=Nat) (fun i=>⟨18,[(0,true,.v (.sl false .int xs)),(3,true,.v (.int .i64 0)),(6,true,.v (.sl false .int xs)),(7,true,.v (.int .i64 (xs.length))),(8,true,.v (.int .i64 i))],[]⟩) (fun i=>i<=xs.length/\orL (xs.drop i)=orL xs) (fun i=>xs.length - i) (0) (⟨by omega,rfl⟩) ?_ ?_
 ·exact Le.s
 rintro i ⟨hi,he⟩ ih
 try simp only []
 refine Run.R ?_
 refine Run.c ?_ ?_
 rotate_left
 ·intro h
  rw [dfE]at h
  refine Run.x ?_
  refine Run.R ?_
  refine Run.r [2] ?_
  rw [List.drop_eq_nil_of_le om]at he
  exact⟨by rw [<- he];rfl,rfl⟩
 intro h
 rw [dtE]at h
 rw [orL_drop xs om]at he
 refine Run.R ?_
 refine Run.R ?_
 refine Run.c ?_ ?_
 ·intro h2
  have h2:xs.getD i 0≠0:=by simpa using h2
  rw [if_neg h2]at he
  refine Run.R ?_
  refine Run.r [2] ?_
  exact⟨by rw [he],rfl⟩
 intro h2
 have h2:xs.getD i 0=0:=by simpa using h2
 rw [if_pos h2]at he
 refine Run.RW ?_
 exact Run.j (ih (i+1) (⟨by omega,he⟩) mz)
theorem c_impl_CompareWords (p q:LI) (hp:p.length<=1048576):FunA B 190 [.sl false .int p,.sl false .int q] (fun rs o=>rs=[.int .i64 (cmpW p q)]/\o=[]):=by
 refine wk Tryz.call190 Tryz.func190 rfl Tryz.ntmps190 fun C hC hP hT hfn hpin hfin hX=>wW ?_
 refine Run.R ?_
 refine Run.g fun K hK=>?_
 refine FunA.e hP hT (c_cmpCompare (p.length:Int) (q.length:Int)) ?_
 refine FunA.cW hP hT (c_slicesCompare p q hp) ?_
 rintro rs o ⟨⟨v,rfl,hv⟩,rfl⟩
 refine wW ?_
 refine FunA.e hP hT (c_cmpOr [cmpI p.length q.length,v] (by simp)) ?_
 refine wE ?_;clear hK K
 have e:orL [cmpI p.length q.length,v]=cmpW p q:=by
  simp only [orL]
  unfold cmpI cmpW
  by_cases k1:p.length < q.length
  ·rw [if_pos (by omega:(p.length:Int) < q.length),if_pos k1];rfl
  ·by_cases k2:p.length > q.length
   ·rw [if_neg (by omega:¬(p.length:Int) < q.length),if_pos (by omega:(p.length:Int) > q.length),if_neg k1,if_pos k2];rfl
   ·rw [if_neg (by omega:¬(p.length:Int) < q.length),if_neg (by omega:¬(p.length:Int) > q.length),if_neg k1,if_neg k2,if_pos rfl,<- hv om]
    split
    ·rename_i h;exact h.symm
    ·rfl
 refine Run.k [4] [] ?_
 refine Run.r [4] ?_
 rw [e];exact⟨rfl,rfl⟩
def putS (w:LI):Bool->List (List Int)->List (List Int)
 | b,[]=>if b then []else [w]
 | b,x :: l=>if cmpW w x < 0/\b=false then w :: x :: putS w true l else x :: putS w (b || cmpW w x == 0) l
def rw2 (ys:List (Nat×List Int)):List (List Int):=ys.map (·.2)
def lb1 (ys:List (Nat×List Int)):List Nat:=ys.map (·.1)
theorem rw2_app (a b:List (Nat×List Int)):rw2 (a ++ b)=rw2 a ++ rw2 b:=by simp [rw2]
theorem lb1_app (a b:List (Nat×List Int)):lb1 (a ++ b)=lb1 a ++ lb1 b:=by simp [lb1]
theorem drop_cons' (ys:List (Nat×List Int)) {i:Nat} (h:i < ys.length):ys.drop i=ys.getD i (0,[]) :: ys.drop (i+1):=by
 rw [List.drop_eq_getElem_cons h,getD_eq h]
theorem lb_step {zs ys:List (Nat×List Int)} {i:Nat} (h:i < ys.length) (hn:(lb1 zs ++ lb1 (ys.drop i)).Nodup):(lb1 (zs ++ [((ys.getD i (0,[])).1,(ys.getD i (0,[])).2)]) ++ lb1 (ys.drop (i+1))).Nodup:=by
 rw [drop_cons' ys h]at hn
 have e:lb1 (ys.getD i (0,[]) :: ys.drop (i+1))=[(ys.getD i (0,[])).1] ++ lb1 (ys.drop (i+1)):=rfl
 rw [e,<- List.append_assoc]at hn
 rw [lb1_app]
 exact hn
theorem lb_ins {zs ys:List (Nat×List Int)} {i q:Nat} {w:LI} (hn:(lb1 zs ++ lb1 (ys.drop i)).Nodup) (h1:∀ p∈zs,p.1≠q) (h2:∀ p∈ys,p.1≠q):(lb1 (zs ++ [(q,w)]) ++ lb1 (ys.drop i)).Nodup:=by
 rw [lb1_app,List.append_assoc]
 rw [List.nodup_append]at hn ⊢
 obtain⟨n1,n2,n3⟩:=hn
 refine⟨n1,?_,fun a ha b hb=>?_⟩
 ·show(q :: lb1 (ys.drop i)).Nodup
  rw [List.nodup_cons]
  refine⟨fun hm=>?_,n2⟩
  obtain⟨p,hp,e⟩:=List.mem_map.1 hm
  exact h2 p (List.mem_of_mem_drop hp) e
 ·rcases List.mem_append.1 hb with hb | hb
  ·simp [lb1]at hb
   obtain⟨p,hp,rfl⟩:=List.mem_map.1 ha
   rw [hb];exact h1 p hp
  ·exact n3 a ha b hb
set_option maxHeartbeats 1000000 in
theorem c_spec_l11Put (ys:List (Nat×List Int)) (w:LI) (hnd:(lb1 ys).Nodup) (hyl:ys.length<=100000) (hw:w.length<=1048576) (nn:Bool) :
  FunM B 161 [.own 0 0,.sl false .int w] .lrow ys nn (fun rs o=>rs=[.own 1 0]/\∃ ys',rw2 ys'=putS w false (rw2 ys)/\(lb1 ys').Nodup/\o=[.arr .lrow ys 0 nn,.arr .lrow ys' 0 true]):=by
 refine FunM.walk B_ok (fn:=Tryz.f161) (fun vs w=>Tryz.call161 vs w) Tryz.func161 rfl (by rw [Tryz.ntmps161];simp) (fun C hC hP hT hΓ hbt hfn hpin hfin=>?_);have hX:=BX;rw [<- hΓ,<- hbt.1,<- hbt.2.1,<- hbt.2.2.1]at hX;rw [hT]at hX;rw [Tryz.ntmps161];simp only [AW7,simprocAttr,hX]
 refine Run.R ?_
 refine Run.R ?_
 refine Run.R ?_
 refine Run.R ?_
 refine Run.kp [0,1,5,6,7] [0,1] ?_
 refine Run.loopI (X:=List (Nat×List Int)×Bool×Nat) (fun x=>⟨52,[(0,true,.v (.own 0 0)),(1,true,.v (.sl false .int w)),(5,true,.v (.own 1 0)),(6,true,.v (.bool (x.2.1))),(7,true,.v (.int .i64 (x.2.2)))],[.arr .lrow ys 0 nn,.arr .lrow (x.1) 0 true]⟩) (fun x=>x.2.2<=ys.length/\x.1.length<=2*x.2.2/\rw2 x.1 ++ putS w x.2.1 (rw2 (ys.drop x.2.2))=putS w false (rw2 ys)/\(lb1 x.1 ++ lb1 (ys.drop x.2.2)).Nodup) (fun x=>ys.length - x.2.2) (([],false,0)) (⟨nz0 _,by simp,rfl,hnd⟩) ?_ ?_
 ·exact Le.s
 rintro⟨zs,b,i⟩ ⟨hi,hzl,hE,hN⟩ ih
 try simp only []
 simp only []at hi hzl hE hN
 refine Run.R ?_
 refine Run.c ?_ ?_
 rotate_left
 ·intro h
  have hie:i=ys.length:=by rw [dfE]at h;omega
  refine Run.x ?_
  refine Run.R ?_
  refine Run.c ?_ ?_
  ·intro hb
   have hb:b=false:=by simpa using hb
   subst hb
   refine Run.g fun K hK=>?_
   intro q hq
   have hN3:=lb_ins (w:=w) hN (hq (.arr .lrow zs 0 true) (.tail _ (.head _)) _ _ _ rfl) (hq (.arr .lrow ys 0 nn) (.head _) _ _ _ rfl)
   rw [hie,List.drop_length]at hE hN3
   have e0:lb1 ([]:List (Nat×List Int))=[]:=rfl
   rw [e0,List.append_nil]at hN3
   (repeat(with_reducible refine And.intro ?_ ?_);exact vc0)
   refine wE ?_;clear hK K
   refine Run.R ?_
   refine Run.kp [4] [0,1] ?_
   refine Run.retW [4] (by decide) (by rw [hfn];rfl) (by simp only [AW7,simprocAttr,hX];rfl) (by simp only [AW7,simprocAttr,hX]) (hfin _ _ _ rfl rfl rfl ?_)
   exact⟨rfl,_,by rw [<- hE,rw2_app];simp [putS,rw2],hN3,rfl⟩
  intro hb
  have hb:b=true:=by simpa using hb
  subst hb
  refine Run.R ?_
  refine Run.kp [4] [0,1] ?_
  rw [hie,List.drop_length]at hE hN
  have e0:lb1 ([]:List (Nat×List Int))=[]:=rfl
  rw [e0,List.append_nil]at hN
  refine Run.retW [4] (by decide) (by rw [hfn];rfl) (by simp only [AW7,simprocAttr,hX];rfl) (by simp only [AW7,simprocAttr,hX]) (hfin _ _ _ rfl rfl rfl ?_)
  exact⟨rfl,zs,by rw [<- hE];simp [putS,rw2],hN,rfl⟩
 intro h
 have h:i < ys.length:=by rw [dtE]at h;omega
 refine Run.g fun K hK=>?_
 refine FunA.e hP hT (c_spec_CompareWords w (ys.getD i (0,[])).2 om) ?_
 refine wE ?_;clear hK K
 have hd:rw2 (ys.drop i)=(ys.getD i (0,[])).2 :: rw2 (ys.drop (i+1)):=by rw [drop_cons' ys h];rfl
 rw [hd]at hE
 simp only [putS]at hE
 have hN2:=lb_step h hN
 refine Run.R ?_
 refine Run.c ?_ ?_
 ·intro h0
  have h0:cmpW w (ys.getD i (0,[])).2=0:=by simpa using h0
  rw [if_neg om,h0]at hE
  simp only [h0]
  refine Run.R ?_
  refine Run.R ?_
  refine Run.c ?_ ?_
  ·intro h;cases h
  intro _
  refine Run.R ?_
  refine Run.kp [0,1,5,6,7] [0,1] ?_
  refine Run.RW ?_
  exact Run.j (ih ((zs ++ [((ys.getD i (0,[])).1,(ys.getD i (0,[])).2)],true,i+1)) (⟨h,by simp;omega,by rw [rw2_app,List.append_assoc,<- hE];simp [rw2],hN2⟩) mz)
 intro h0
 have h0:(cmpW w (ys.getD i (0,[])).2 == 0)=false:=h0
 rw [h0,Bool.or_false]at hE
 refine Run.R ?_
 refine Run.c ?_ ?_
 ·intro hlt
  have hlt:cmpW w (ys.getD i (0,[])).2 < 0/\b=false:=by simpa using hlt
  obtain⟨hl1,rfl⟩:=hlt
  rw [if_pos ⟨hl1,rfl⟩]at hE
  refine Run.g fun K hK=>?_
  intro q hq
  have hN3:=lb_ins (w:=w) hN (hq (.arr .lrow zs 0 true) (.tail _ (.head _)) _ _ _ rfl) (hq (.arr .lrow ys 0 nn) (.head _) _ _ _ rfl)
  (repeat(with_reducible refine And.intro ?_ ?_);exact vc0)
  refine wE ?_;clear hK K
  refine Run.R ?_
  refine Run.R ?_
  have hN4:=lb_step h hN3
  refine Run.kp [0,1,5,6,7] [0,1] ?_
  refine Run.RW ?_
  exact Run.j (ih ((zs ++ [(q,w)] ++ [((ys.getD i (0,[])).1,(ys.getD i (0,[])).2)],true,i+1)) (⟨h,by simp only [lenA,lenC,lenN];omega,by rw [rw2_app,rw2_app,List.append_assoc,List.append_assoc,<- hE];simp [rw2],hN4⟩) mz)
 intro hlt
 have hlt:¬(cmpW w (ys.getD i (0,[])).2 < 0/\b=false):=by intro⟨k1,k2⟩;rw [k2,decide_eq_true k1]at hlt;cases hlt
 rw [if_neg hlt]at hE
 refine Run.R ?_
 refine Run.kp [0,1,5,6,7] [0,1] ?_
 refine Run.RW ?_
 exact Run.j (ih ((zs ++ [((ys.getD i (0,[])).1,(ys.getD i (0,[])).2)],b,i+1)) (⟨h,by simp;omega,by rw [rw2_app,List.append_assoc,<- hE];simp [rw2],hN2⟩) mz)
abbrev ent (c:LL) (i j:Nat):Int:=(c.getD i []).getD j 0
def badE (c:LL) (i j:Nat):Prop:=(i=j/\ent c i j≠2)\/(i≠j/\(ent c i j < -3\/ent c i j > 0\/¬(ent c i j=0↔ent c j i=0)))
def CartanP (c:LL):Prop:=1<=c.length/\c.length<=4/\(∀ i,i < c.length->(c.getD i []).length=c.length)/\∀ i j,i < c.length->j < c.length->¬badE c i j
open Classical in
noncomputable def isC (c:LL):Bool:=decide (CartanP c)
theorem isC_iff {c:LL}:isC c=true↔CartanP c:=by simp [isC]
theorem isC_false {c:LL} (h:¬CartanP c):isC c=false:=by simp [isC,h]
theorem isC_true {c:LL} (h:CartanP c):isC c=true:=isC_iff.2 h
theorem badE_impl (c:LL) (i j:Nat):(bif bif (i:Int) == (j:Int)then ent c i j != 2 else false then true
        else
         bif (i:Int) != (j:Int) then
          bif
            bif decide (ent c i j < -3)then true
            else decide (0 < ent c i j) then
           true
          else(ent c i j == 0) != (ent c j i == 0)
         else false)=true↔badE c i j:=by
 unfold badE
 have e:((i:Int) == (j:Int))=decide (i=j):=by
  rw [Bool.eq_iff_iff];simp;omega
 have e2:((i:Int) != (j:Int)) = !decide (i=j):=by rw [<- e];rfl
 rw [e,e2]
 generalize ent c i j=x
 generalize ent c j i=y
 have e3:(x == 0)=decide (x=0):=by rw [Bool.eq_iff_iff];simp
 have e4:(y == 0)=decide (y=0):=by rw [Bool.eq_iff_iff];simp
 rw [e3,e4]
 by_cases h:i=j
 ·simp [h]
 ·simp only [h,decide_false,cond_false,Bool.not_false,cond_true,false_and,ne_eq,not_false_eq_true,true_and,false_or]
  by_cases h1:x < -3
  ·simp [h1]
  ·by_cases h2:0 < x
   ·simp [h2]
   ·simp only [h1,h2,decide_false,cond_false,false_or]
    by_cases h3:x=0<;>by_cases h4:y=0<;>simp [h3,h4]
theorem c_impl_IsCartan (c:LL):FunA B 62 [.sl false (.row false) c] (fun rs o=>rs=[.bool (isC c)]/\o=[]):=by
 refine wk Tryz.call62 Tryz.func62 rfl Tryz.ntmps62 fun C hC hP hT hfn hpin hfin hX=>wW ?_
 refine Run.len 0 rfl fun hlen=>?_
 refine Run.R ?_
 refine Run.R ?_
 refine Run.R ?_
 refine Run.keep [0,2,3,16] ?_;simp only [AK,Nat.reduceBEq]
 refine Run.c ?_ ?_
 ·intro hc
  refine Run.R ?_
  refine Run.r [2] ?_
  refine⟨?_,rfl⟩
  rw [isC_false fun h=>?_]
  obtain⟨h1,h2,_⟩:=h
  by_cases h3:(c.length:Int) < 1
  ·omega
  ·simp [h3]at hc;omega
 intro hc
 have hn:1<=c.length/\c.length<=4:=by
  by_cases h3:(c.length:Int) < 1
  ·simp [h3]at hc
  ·simp [h3]at hc;omega
 refine Run.R ?_
 refine Run.keep [0,2,3,17,18,19] ?_;simp only [AK,Nat.reduceBEq]
 refine Run.loopI (X:=Nat) (fun i=>⟨78,[(0,true,.v (.sl false (.row false) c)),(2,true,.v (.bool false)),(3,true,.v (.int .i64 c.length)),(17,true,.v (.sl false (.row false) c)),(18,true,.v (.int .i64 c.length)),(19,true,.v (.int .i64 i))],[]⟩) (fun i=>i<=c.length/\∀ k,k < i->(c.getD k []).length=c.length) (fun i=>c.length - i) 0 ⟨nz0 _,by omega⟩ ?_ ?_
 ·exact Le.sub (by simp only [AW7,simprocAttr]) (by simp only [AW7,simprocAttr];try simp)
 rintro i ⟨hi,hrow⟩ ih
 refine Run.R ?_
 refine Run.c ?_ ?_
 ·intro hc2
  have hc2:i < c.length:=by simpa using hc2
  refine Run.R ?_
  refine Run.R ?_
  refine Run.c ?_ ?_
  ·intro hne
   refine Run.R ?_
   refine Run.r [2] ?_
   refine⟨?_,rfl⟩
   rw [isC_false fun h=>?_]
   have:=h.2.2.1 i hc2
   have hne:¬(c.getD i []).length=c.length:=by simp [-List.getD_eq_getElem?_getD]at hne;omega
   exact hne this
  ·intro heq
   have heq:(c.getD i []).length=c.length:=by simp [-List.getD_eq_getElem?_getD]at heq;omega
   refine Run.RW ?_
   refine Run.le ?_ (ih (i+1) ⟨hc2,fun k hk=>?_⟩ om)
   ·exact Le.sub (by simp only [AW7,simprocAttr]) (by simp only [AW7,simprocAttr,Option.some.injEq,Prod.mk.injEq,Sl.v.injEq,AV.int.injEq,AV.own.injEq,AV.bool.injEq];try(repeat' apply And.intro);all_goals omega)
   ·rcases Nat.lt_succ_iff_lt_or_eq.1 hk with h | rfl
    ·exact hrow k h
    ·exact heq
 intro hc2
 have hc2:i=c.length:=by simp at hc2;omega
 subst hc2
 refine Run.x ?_
 refine Run.R ?_
 refine Run.keep [0,2,3,28,29] ?_;simp only [AK,Nat.reduceBEq]
 refine Run.loopI (X:=Nat) (fun i=>⟨78,[(0,true,.v (.sl false (.row false) c)),(2,true,.v (.bool false)),(3,true,.v (.int .i64 c.length)),(28,true,.v (.int .i64 c.length)),(29,true,.v (.int .i64 i))],[]⟩) (fun i=>i<=c.length/\∀ k j,k < i->j < c.length->¬badE c k j) (fun i=>c.length - i) 0 ⟨nz0 _,by omega⟩ ?_ ?_
 ·exact Le.sub (by simp only [AW7,simprocAttr]) (by simp only [AW7,simprocAttr];try simp)
 clear ih
 rintro i ⟨hi,hcel⟩ ih
 refine Run.R ?_
 refine Run.c ?_ ?_
 ·intro hc2
  have hc2:i < c.length:=by simpa using hc2
  have hri:=hrow i hc2
  refine Run.R ?_
  refine Run.R ?_
  refine Run.keep [0,2,3,28,29,6,32,33] ?_;simp only [AK,Nat.reduceBEq]
  refine Run.loopI (X:=Nat) (fun j=>⟨78,[(0,true,.v (.sl false (.row false) c)),(2,true,.v (.bool false)),(3,true,.v (.int .i64 c.length)),(28,true,.v (.int .i64 c.length)),(29,true,.v (.int .i64 i)),(6,true,.v (.int .i64 i)),(32,true,.v (.int .i64 c.length)),(33,true,.v (.int .i64 j))],[]⟩) (fun j=>j<=c.length/\∀ q,q < j->¬badE c i q) (fun j=>c.length - j) 0 ⟨nz0 _,by omega⟩ ?_ ?_
  ·exact Le.sub (by simp only [AW7,simprocAttr]) (by simp only [AW7,simprocAttr];try simp)
  rintro j ⟨hj,hcj⟩ ihj
  refine Run.R ?_
  refine Run.c ?_ ?_
  ·intro hc3
   have hc3:j < c.length:=by simpa using hc3
   have hrj:=hrow j hc3
   refine Run.R ?_
   refine Run.R ?_
   refine Run.R ?_
   refine Run.keep [0,2,3,28,29,6,32,33,75] ?_;simp only [AK,Nat.reduceBEq]
   refine Run.c ?_ ?_
   ·intro hb
    have hb:=(badE_impl c i j).1 hb
    refine Run.R ?_
    refine Run.r [2] ?_
    refine⟨?_,rfl⟩
    rw [isC_false fun h=>h.2.2.2 i j hc2 hc3 hb]
   ·intro hb
    have hb:¬badE c i j:=fun h=>by
     have:=(badE_impl c i j).2 h
     rw [this]at hb
     cases hb
    refine Run.RW ?_
    refine Run.le ?_ (ihj (j+1) ⟨hc3,fun q hq=>?_⟩ om)
    ·exact Le.sub (by simp only [AW7,simprocAttr]) (by simp only [AW7,simprocAttr,Option.some.injEq,Prod.mk.injEq,Sl.v.injEq,AV.int.injEq,AV.own.injEq,AV.bool.injEq];try(repeat' apply And.intro);all_goals omega)
    ·rcases Nat.lt_succ_iff_lt_or_eq.1 hq with h | rfl
     ·exact hcj q h
     ·exact hb
  ·intro hc3
   have hc3:j=c.length:=by simp at hc3;omega
   subst hc3
   refine Run.x ?_
   refine Run.RW ?_
   refine Run.le ?_ (ih (i+1) ⟨hc2,fun k q hk hq=>?_⟩ om)
   ·exact Le.sub (by simp only [AW7,simprocAttr]) (by simp only [AW7,simprocAttr,Option.some.injEq,Prod.mk.injEq,Sl.v.injEq,AV.int.injEq,AV.own.injEq,AV.bool.injEq];try(repeat' apply And.intro);all_goals omega)
   ·rcases Nat.lt_succ_iff_lt_or_eq.1 hk with h | rfl
    ·exact hcel k q h hq
    ·exact hcj q hq
 ·intro hc2
  have hc2:i=c.length:=by simp at hc2;omega
  subst hc2
  refine Run.x ?_
  refine Run.R ?_
  refine Run.r [2] ?_
  refine⟨?_,rfl⟩
  rw [isC_true ⟨hn.1,hn.2,hrow,fun k q hk hq=>hcel k q hk hq⟩]
def inB (x lo hi:Int):Bool:=bif decide (x≥lo)then decide (x<=hi)else false
theorem inB_iff {x lo hi:Int}:inB x lo hi=true↔lo<=x/\x<=hi:=by
 unfold inB
 by_cases h:x≥lo<;>simp [h]<;>omega
theorem c_spec_l1In (x lo hi:Int):FunA B 116 [.int .i64 x,.int .i64 lo,.int .i64 hi] (fun rs o=>rs=[.bool (inB x lo hi)]/\o=[]):=by
 refine wk Tryz.call116 Tryz.func116 rfl Tryz.ntmps116 fun C hC hP hT hfn hpin hfin hX=>wW ?_
 refine Run.R ?_
 refine Run.R ?_
 refine Run.r [6] ?_
 exact⟨rfl,rfl⟩
theorem badE_spec (c:LL) (i j:Nat):(bif bif (i:Int) == (j:Int)then ent c i j != 2 else false then true
        else
         bif (i:Int) != (j:Int) then
          bif !inB (ent c i j) (-3) 0 then true
          else(ent c i j == 0) != (ent c j i == 0)
         else false)=true↔badE c i j:=by
 rw [<- badE_impl]
 have:(!inB (ent c i j) (-3) 0)=(bif decide (ent c i j < -3)then true else decide (0 < ent c i j)):=by
  generalize ent c i j=x
  unfold inB
  by_cases h1:x < -3
  ·have:¬x≥-3:=by omega
   simp [h1,this]
  ·have:x≥-3:=by omega
   by_cases h2:0 < x
   ·have h3:¬x<=0:=by omega
    simp [h1,this,h2,h3]
   ·have h3:x<=0:=by omega
    simp [h1,this,h2,h3]
 rw [this]
theorem c_spec_IsCartan (c:LL):FunA B 108 [.sl false (.row false) c] (fun rs o=>rs=[.bool (isC c)]/\o=[]):=by
 refine wk Tryz.call108 Tryz.func108 rfl Tryz.ntmps108 fun C hC hP hT hfn hpin hfin hX=>wW ?_
 refine Run.len 0 rfl fun hlen=>?_
 refine Run.R ?_
 refine Run.R ?_
 refine Run.loopI (X:=Nat) (fun i=>⟨83,[(0,true,.v (.sl false (.row false) c)),(2,true,.v (.bool false)),(3,true,.v (.int .i64 i))],[]⟩) (fun i=>i<=c.length/\∀ k,k < i->(c.getD k []).length=c.length) (fun i=>c.length - i) 0 ⟨nz0 _,by omega⟩ ?_ ?_
 ·exact Le.sub (by simp only [AW7,simprocAttr]) (by simp only [AW7,simprocAttr];try simp)
 rintro i ⟨hi,hrow⟩ ih
 refine Run.R ?_
 refine Run.c ?_ ?_
 ·intro hc2
  have hc2:i < c.length:=by simpa using hc2
  refine Run.R ?_
  refine Run.c ?_ ?_
  ·intro hne
   refine Run.R ?_
   refine Run.r [2] ?_
   refine⟨?_,rfl⟩
   rw [isC_false fun h=>?_]
   have:=h.2.2.1 i hc2
   have hne:¬(c.getD i []).length=c.length:=by simp [-List.getD_eq_getElem?_getD]at hne;omega
   exact hne this
  ·intro heq
   have heq:(c.getD i []).length=c.length:=by simp [-List.getD_eq_getElem?_getD]at heq;omega
   refine Run.RW ?_
   refine Run.le ?_ (ih (i+1) ⟨hc2,fun k hk=>?_⟩ om)
   ·exact Le.sub (by simp only [AW7,simprocAttr]) (by simp only [AW7,simprocAttr,Option.some.injEq,Prod.mk.injEq,Sl.v.injEq,AV.int.injEq,AV.own.injEq,AV.bool.injEq];try(repeat' apply And.intro);all_goals omega)
   ·rcases Nat.lt_succ_iff_lt_or_eq.1 hk with h | rfl
    ·exact hrow k h
    ·exact heq
 intro hc2
 have hc2:i=c.length:=by simp at hc2;omega
 subst hc2
 refine Run.x ?_
 refine Run.R ?_
 refine Run.keep [0,2,4] ?_;simp only [AK,Nat.reduceBEq]
 refine Run.loopI (X:=Nat) (fun i=>⟨83,[(0,true,.v (.sl false (.row false) c)),(2,true,.v (.bool false)),(4,true,.v (.int .i64 i))],[]⟩) (fun i=>i<=c.length/\∀ k j,k < i->j < c.length->¬badE c k j) (fun i=>c.length - i) 0 ⟨nz0 _,by omega⟩ ?_ ?_
 ·exact Le.sub (by simp only [AW7,simprocAttr]) (by simp only [AW7,simprocAttr];try simp)
 clear ih
 rintro i ⟨hi,hcel⟩ ih
 refine Run.R ?_
 refine Run.c ?_ ?_
 ·intro hc2
  have hc2:i < c.length:=by simpa using hc2
  have hri:=hrow i hc2
  refine Run.R ?_
  refine Run.keep [0,2,4,5] ?_;simp only [AK,Nat.reduceBEq]
  refine Run.loopI (X:=Nat) (fun j=>⟨83,[(0,true,.v (.sl false (.row false) c)),(2,true,.v (.bool false)),(4,true,.v (.int .i64 i)),(5,true,.v (.int .i64 j))],[]⟩) (fun j=>j<=c.length/\∀ q,q < j->¬badE c i q) (fun j=>c.length - j) 0 ⟨nz0 _,by omega⟩ ?_ ?_
  ·exact Le.sub (by simp only [AW7,simprocAttr]) (by simp only [AW7,simprocAttr];try simp)
  rintro j ⟨hj,hcj⟩ ihj
  refine Run.R ?_
  refine Run.c ?_ ?_
  ·intro hc3
   have hc3:j < c.length:=by simpa using hc3
   have hrj:=hrow j hc3
   refine Run.keep [0,2,4,5] ?_;simp only [AK,Nat.reduceBEq]
   refine Run.nq ?_
   refine Run.regionD hC true [0,1,2,3,4,5,6,7,8,9,10,11,12,13,14,15,16,17,18,19,20,21,22,23,24,25,26,27,28,29,30,31,32,33,34,35,36,37,38,39,40,41,42,43,44,45,46,47] (by kernel_rfl) (fun K hK=>?_)
   simp only [AW7,simprocAttr,hX]
   (repeat(with_reducible refine And.intro ?_ ?_);exact vc0)
   refine .inl (FunA.callG hP hT (c_spec_l1In (ent c i j) (-3) 0) (fun _=>rfl) (fun _=>by simp only [AW7,simprocAttr]) ?_)
   refine wW ?_
   refine hK _ ?_
   clear hK K
   refine Run.nq ?_
   refine Run.c ?_ ?_
   ·intro hb
    have hb:=(badE_spec c i j).1 hb
    refine Run.R ?_
    refine Run.r [2] ?_
    refine⟨?_,rfl⟩
    rw [isC_false fun h=>h.2.2.2 i j hc2 hc3 hb]
   ·intro hb
    have hb:¬badE c i j:=fun h=>by
     have:=(badE_spec c i j).2 h
     rw [this]at hb
     cases hb
    refine Run.keep [0,2,4,5] ?_;simp only [AK,Nat.reduceBEq]
    refine Run.RW ?_
    refine Run.le ?_ (ihj (j+1) ⟨hc3,fun q hq=>?_⟩ om)
    ·exact Le.sub (by simp only [AW7,simprocAttr]) (by simp only [AW7,simprocAttr,Option.some.injEq,Prod.mk.injEq,Sl.v.injEq,AV.int.injEq,AV.own.injEq,AV.bool.injEq];try(repeat' apply And.intro);all_goals omega)
    ·rcases Nat.lt_succ_iff_lt_or_eq.1 hq with h | rfl
     ·exact hcj q h
     ·exact hb
  ·intro hc3
   have hc3:j=c.length:=by simp at hc3;omega
   subst hc3
   refine Run.x ?_
   refine Run.RW ?_
   refine Run.le ?_ (ih (i+1) ⟨hc2,fun k q hk hq=>?_⟩ om)
   ·exact Le.sub (by simp only [AW7,simprocAttr]) (by simp only [AW7,simprocAttr,Option.some.injEq,Prod.mk.injEq,Sl.v.injEq,AV.int.injEq,AV.own.injEq,AV.bool.injEq];try(repeat' apply And.intro);all_goals omega)
   ·rcases Nat.lt_succ_iff_lt_or_eq.1 hk with h | rfl
    ·exact hcel k q h hq
    ·exact hcj q hq
 ·intro hc2
  have hc2:i=c.length:=by simp at hc2;omega
  subst hc2
  refine Run.x ?_
  refine Run.g fun K hK=>?_
  refine FunA.e hP hT (c_spec_l1In (c.length:Int) 1 4) ?_
  refine wE ?_;clear hK K
  refine Run.r [2] ?_
  refine⟨?_,rfl⟩
  have:isC c=inB c.length 1 4:=by
   rw [Bool.eq_iff_iff,isC_iff,inB_iff]
   constructor
   ·intro h;have h1:=h.1;have h2:=h.2.1;omega
   ·intro h;exact⟨by omega,by omega,hrow,fun k q hk hq=>hcel k q hk hq⟩
  rw [this]
end Go.Proofs.YtcinngodeoidnaaGreatDoor
