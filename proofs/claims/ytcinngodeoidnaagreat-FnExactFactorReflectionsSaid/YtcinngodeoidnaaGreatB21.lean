/- A list of pairs of rows, a variable of a function literal, sorted: slices.SortFunc at a call. -/
import Derived.Test.YtcinngodeoidnaaGreatB13
import Derived.Shelf.SlSortCmp.WholeK
import Derived.Test.YtcinngodeoidnaaGreatB20
import Derived.Test.YtcinngodeoidnaaGreatB16
import Derived.Test.YtcinngodeoidnaaGreatB17
set_option linter.unusedVariables false
set_option linter.unusedSimpArgs false
namespace Go.Proofs.YtcinngodeoidnaaGreat
open Go Go.Aw Go.Sort
theorem ACall.sortBag {B C:Ctx} [DrT B] (hP:B.P=C.P) (hT:B.tid=C.tid) {ρs:Go.Shelf.Ren} (L:SlLaysF0.n6 B.P ρs) (aE:∀ w,(isAgg (ρs.t 24)).run B.P w=.ok true w) (zE:∀ w,(Go.sizeOf (ρs.t 24)).run B.P w=.ok 2 w)
  {f g:FuncId} (hf:ρs.f 6=f) {cf:E.pr.D->E.pr.D->Int} (hO:Go.Sort.SWO (ltOf cf)) {obs:List O} {d:BagD} {gg:Nat}
  (ho:bagH obs=some (d,gg)) (h2:2<=d.ph) (hpos:0 < d.xs.length) (hyb:d.xs.length<=1048576) (hcmp:∀ a b,a∈d.xs->b∈d.xs->FunA B g [.prv a,.prv b] (fun rs o=>rs=[.int .i64 (cf a b)]/\o=[])) {K:Sl->List O->Prop}
  (hk:∀ ys':List E.pr.D,ys'.Perm d.xs->ys'.Pairwise (fun p q=>¬cf q p < 0)->K (.t []) (oSet obs 0 (.bag { d with xs:=ys' } gg))):ACall C obs f [.own 0 gg,.fn g] fun x o=>Later (K x o):=by
 refine⟨fun vs w=>by rw [<- hP,<- hf];exact L.f6.enters rfl vs w,fun w ρ vs rr hl hx=>?_⟩
 have ho':=bagH_get ho
 match vs,hl with
 | [u1,u2],_=>
 have a1:=hx 0 _ u1 rfl rfl
 have a2:u2=.func (.func g) #[] #[]:=hx 1 _ u2 rfl rfl
 obtain⟨hu1,hB⟩:=own_bag rr ho' a1
 obtain⟨cs,hown,henc,hnn,hml⟩:=hB.r h2
 have hcl:cs.length=d.xs.length*2:=by simpa [E.size] using henc.1
 rcases hown.2 with⟨hv,_⟩ | ⟨b,cap,cur,hv,_,hg,h1,h3,h4,h5⟩
 ·exact(hnn hv).elim
 have hrow:∀ i (hi:i < d.xs.length),∃ v1 v2,cs[i*2]? = some v1/\cs[i*2+1]? = some v2/\ElRel (C.V w obs ρ) .pr d.xs[i] (.agg #[v1,v2])/\v1.oneCell'=true/\v2.oneCell'=true:=by
  intro i hi
  obtain⟨u,hu,hc⟩:=henc.2 i hi
  have hu0:=hu
  obtain⟨v1,v2,rfl,r1,r2⟩:∃ v1 v2,u=.agg #[v1,v2]/\RowRel (C.V w obs ρ) true d.xs[i].1 v1/\RowRel (C.V w obs ρ) true d.xs[i].2 v2:=hu
  have c0:=hc 0 (by simp [E.size])
  have c1:=hc 1 (by simp [E.size])
  simp only [E.size,Nat.add_zero]at c0 c1
  exact⟨v1,v2,by rw [c0];rfl,by rw [c1];rfl,hu0,RowRel.oneCell r1,RowRel.oneCell r2⟩
 have hob:Own obs ρ b:=⟨0,_,ho',.inr (.inr (.inl ⟨h2,by rw [<- hu1,hv];rfl⟩))⟩
 haveI:Inhabited (Fin d.xs.length):=⟨⟨0,hpos⟩⟩
 let nil:Value:=.slice none 0 0
 let enc:Fin d.xs.length->List Value:=fun i=>[cs.getD (i.1*2) nil,cs.getD (i.1*2+1) nil]
 let cf':Fin d.xs.length->Fin d.xs.length->Int:=fun i j=>cf d.xs[i] d.xs[j]
 let dd:Array (Fin d.xs.length):=Array.ofFn fun i=>i
 have hds:dd.size=d.xs.length:=Array.size_ofFn
 have hdd:∀ j (hj:j < d.xs.length),dd[j]! = ⟨j,hj⟩:=fun j hj=>by
  rw [getElem!_pos dd j (by rw [hds];exact hj)]
  simp [dd]
 have henc':∀ i:Fin d.xs.length,∃ v1 v2,enc i=[v1,v2]/\cs[i.1*2]? = some v1/\cs[i.1*2+1]? = some v2/\ElRel (C.V w obs ρ) .pr d.xs[i] (.agg #[v1,v2])/\v1.oneCell'=true/\v2.oneCell'=true:=by
  intro i
  obtain⟨v1,v2,e1,e2,r⟩:=hrow i.1 i.2
  exact⟨v1,v2,by show [cs.getD (i.1*2) nil,cs.getD (i.1*2+1) nil]=_;simp [List.getD,e1,e2],e1,e2,r⟩
 have hk2:∀ x,(enc x).length=2:=fun _=>rfl
 have hone:∀ x,∀ v∈enc x,v.oneCell'=true:=fun x v hv=>by
  obtain⟨v1,v2,e,_,_,_,o1,o2⟩:=henc' x
  rw [e]at hv
  rcases List.mem_cons.1 hv with rfl | hv
  ·exact o1
  ·simp at hv;subst hv;exact o2
 have hblk:b < w.heap.size:=(ageS.1 hg).1
 have hcc:∀ i,i < d.xs.length*2->cur[i]? = cs[i]?:=fun i hi=>by
  rw [<- h5,List.getElem?_take_of_lt hi]
  simp
 have hflat:∀(q:Array (Fin d.xs.length)) (i c:Nat) (hi:i < q.size) (hc:c < 2),(flatK enc 2 q)[i*2+c]! = (enc q[i]!)[c]!:=fun q i c hi hc=>by
  rw [get_flatK _ _ _ _ om,show(i*2+c) / 2=i by omega,show(i*2+c) % 2=c by omega]
 have hH:HoldsK enc 2 w b 0 dd:=by
  intro j hj
  rw [size_flatK,hds]at hj
  refine⟨?_,by simp [World.frozen?,hg]⟩
  have hj2:j / 2 < d.xs.length:=by omega
  have e0:=hflat dd (j / 2) (j % 2) (by rw [hds];exact hj2) om
  rw [show j / 2*2+j % 2=j by omega,hdd _ hj2]at e0
  simp only [World.cell?,hg,Nat.zero_add,id_eq]
  rw [e0,hcc j hj]
  obtain⟨v1,v2,e,c1,c2,_⟩:=henc' ⟨j / 2,hj2⟩
  rw [e]
  rcases(by omega:j % 2=0\/j % 2=1)with h | h
  ·rw [h,<- show j / 2*2=j by omega];exact c1
  ·rw [h,<- show j / 2*2+1=j by omega]
   have:(j / 2*2+1) / 2=j / 2:=by omega
   exact c2
 have hvis:∀ l o,(C.V w obs ρ).H l=some o->l≠b/\w.heap[l]? = some o:=fun l o h=>by
  obtain⟨k1,k2⟩:=H_vis h
  exact⟨fun e=>k1 (e▸hob),k2⟩
 have hswk:∀ m dk os,sortWorldK enc 2 w b 0 m dk os=sortWorld id w b 0 m (flatK enc 2 dk) os:=fun _ _ _=>rfl
 have hC:CmpLays B.P g #[] enc 2 cf' b 0 dd.size w:=by
  intro m os dk _ x y
  rw [hswk]
  have hle:(C.V w obs ρ).le ((B.bareL (sortWorld id w b 0 m (flatK enc 2 dk) os) (fun _=>True)).V (sortWorld id w b 0 m (flatK enc 2 dk) os) [] (fun _=>undef)):=by
   refine⟨fun l o h=>?_,fun _ _=>.inr trivial,by show B.tid .int=C.tid .int;rw [hT]⟩
   obtain⟨k1,k2⟩:=hvis l o h
   have k3:=sw_heap (id:Value->Value) w b 0 m (flatK enc 2 dk) os l (ageS.1 k2).1
   rw [if_neg k1,k2]at k3
   rw [H_bare]
   exact k3
  have hrel:∀ z,AVRel ((B.bareL (sortWorld id w b 0 m (flatK enc 2 dk) os) (fun _=>True)).V (sortWorld id w b 0 m (flatK enc 2 dk) os) [] (fun _=>undef)) [] (fun _=>undef) (.prv d.xs[z]) (.agg (enc z).toArray):=fun z=>by
   obtain⟨v1,v2,e,_,_,r,_⟩:=henc' z
   rw [e]
   exact r.mono hle
  have key:=(hcmp d.xs[x] d.xs[y] (List.getElem_mem _) (List.getElem_mem _)).2 (sortWorld id w b 0 m (flatK enc 2 dk) os) (fun _=>True) [.agg (enc x).toArray,.agg (enc y).toArray] (by rw [hP];exact rr.laid.up (fun c hc hno=>by rw [sw_heap (id:Value->Value) w b 0 m (flatK enc 2 dk) os c hc,if_neg (fun e:c=b=>hno (e▸hob))]) (fun _ _ _ k=>k)) rfl (fun i a v hi hv=>by
   match i with
   | 0=>simp at hi hv;subst hi hv;exact hrel x
   | 1=>simp at hi hv;subst hi hv;exact hrel y
   | i+2=>simp at hi)
  refine key.mono fun e w' ⟨us,he,xs,obs',ρ',⟨hxs,hobs⟩,hul,hu,hw',_,_⟩=>?_
  subst hxs hobs
  match us,hul with
  | [v],_=>
  have hv:v=.int .i64 (cf d.xs[x] d.xs[y]):=hu 0 _ v rfl rfl
  refine⟨by rw [he,hv];rfl,_,_,world_grow hw'.os0 hw'.tape hw'.output (hw'.drawn (DrT.h (B:=B))) hw'.grow (fun b hb=>hw'.kept b hb (fun k=>k))⟩
 have hsz:dd.size < 4611686018427387904:=by rw [hds];omega
 have hO':Go.Sort.SWO (ltOf cf'):=⟨fun x=>hO.irrefl _,fun x y z=>hO.trans _ _ _,fun x y z=>hO.ntrans _ _ _⟩
 have main:=AnyQ.slices_SortFunc L 2 aE zE enc hk2 hone cf' hO' g #[] b 0 cap dd w (hcmp d.xs[0] d.xs[0] (List.getElem_mem _) (List.getElem_mem _)).1 hC hH hblk hsz
 rw [hf,hP,hds]at main
 subst a2 hu1
 rw [hv]
 refine main.mono fun e w' ⟨he,d',n,os,hperm,hsort,hw'⟩=>⟨.tuple #[],he,.t [],?_⟩
 rw [hswk]at hw'
 obtain⟨hps,_,hpp⟩:=hperm
 rw [hds]at hps
 have hpl:d'.toList.Perm dd.toList:=by
  have e1:d'.extract 0 d.xs.length=d':=(congrArg (fun k=>d'.extract 0 k) hps.symm).trans Array.extract_size
  have e2:dd.extract 0 d.xs.length=dd:=(congrArg (fun k=>dd.extract 0 k) hds.symm).trans Array.extract_size
  rw [e1,e2]at hpp
  exact hpp
 let ys':List E.pr.D:=d'.toList.map fun i=>d.xs[i]
 have hyl:ys'.length=d.xs.length:=by simp [ys',hps]
 have hyp:ys'.Perm d.xs:=by
  have e:dd.toList.map (fun i=>d.xs[i])=d.xs:=by
   apply List.ext_getElem
   ·simp [hds]
   ·intro i q1 q2
    simp [dd]
  rw [<- e]
  exact hpl.map _
 have hget:∀ i (hi:i < d.xs.length),d'[i]! = d'[i]'om:=fun i hi=>getElem!_pos d' i om
 have hys:ys'.Pairwise (fun p q=>¬cf q p < 0):=by
  refine List.pairwise_iff_getElem.2 fun i j hi hj hij=>?_
  rw [hyl]at hi hj
  have hso:=hsort i j (nz0 _) hij hj
  rw [hget i hi,hget j hj]at hso
  have:decide (cf d.xs[d'[j]'om] d.xs[d'[i]'om] < 0)=false:=hso
  simpa [ys'] using this
 have hheap:=fun b' (hb:b' < w.heap.size)=>sw_heap (id:Value->Value) w b 0 n (flatK enc 2 d') os b' hb
 have hext:Ext (fun b'=>fpo (ρ 0) (.bag d gg) b') w w':=by
  rw [hw']
  refine⟨rfl,rfl,rfl,sw_size ..,Nat.le_add_right _ _,fun b' hb' hS=>?_⟩
  rw [hheap b' hb',if_neg]
  intro e
  subst e
  exact hS (.inr (.inr (.inl ⟨h2,by rw [hv];rfl⟩)))
 have hfb:∀ b',fpo (ρ 0) (.bag { d with xs:=ys' } gg) b'->fpo (ρ 0) (.bag d gg) b'\/w.heap.size<=b':=fun b' hb'=>.inl hb'
 have hle:=le_one (C:=C) (o':=.bag { d with xs:=ys' } gg) (v:=ρ 0) ho' hext hfb
 have T:=Turn.one rr 0 (.bag d gg) (.bag { d with xs:=ys' } gg) (ρ 0) ho' hext (w':=w') ?_ hfb (fun c' hc=>⟨gg,rfl,.inl ⟨(by cases hc;rfl),rfl⟩⟩)
 ·have hst:=T.step rr
  refine⟨obs.set 0 (.bag { d with xs:=ys' } gg),_,hst,⟨[],rfl,rfl,by simp⟩,?_⟩
  have:=hk ys' hyp hys
  rw [oSet_eq]at this
  exact this
 ·have hfs:(flatK enc 2 d').size=d.xs.length*2:=by rw [size_flatK,hps]
  have hcs:d.xs.length*2<=cur.size:=by rw [h4];omega
  refine hB.list (st':=d.st) h2 (fun b' hlt hne=>?_) (fun _ h=>.inl h) ⟨(flatK enc 2 d').toList,⟨by simp [hyl,hps],.inr ⟨b,cap,Go.Sort.putCells id 0 (flatK enc 2 d') cur,by rw [hyl];exact hv,nz0 _,?_,by rw [hyl];exact h1,h3,by simpa [Go.Sort.putCells] using h4,?_⟩⟩,⟨by simp [hyl,hps,E.size],fun i hi=>?_⟩,hnn,by rw [hyl];exact hml⟩ (fun h=>⟨h,rfl⟩)
  ·rw [hw',hheap b' hlt,if_neg]
   intro e
   subst e
   exact hne (by rw [hv];rfl)
  ·rw [hw',hheap b hblk,if_pos rfl,hg]
   rfl
  ·rw [hyl]
   apply List.ext_getElem?
   intro i
   by_cases hi:i < d.xs.length*2
   ·rw [List.getElem?_take_of_lt hi]
    have hput:(Go.Sort.putCells id 0 (flatK enc 2 d') cur)[i]? = some ((flatK enc 2 d')[i]'om):=by
     unfold Go.Sort.putCells
     rw [Array.getElem?_mapIdx,Array.getElem?_eq_getElem om]
     simp only [Option.map_some]
     rw [if_pos om,Nat.sub_zero,getElem!_pos (flatK enc 2 d') i om]
     rfl
    rw [Array.getElem?_toList,hput,Array.getElem?_toList,Array.getElem?_eq_getElem om]
   ·rw [geN (by simp;omega),geN (by simp [hps];omega)]
  ·rw [hyl]at hi
   obtain⟨v1,v2,e,c1,c2,r,o1,o2⟩:=henc' (d'[i]'om)
   have hyi:ys'[i]'om=d.xs[d'[i]'om]:=by simp [ys']
   refine⟨.agg #[v1,v2],?_,fun j hj=>?_⟩
   ·rw [hyi]
    exact r.mono hle
   ·simp only [E.size]at hj ⊢
    have e0:=hflat d' i j om hj
    rw [hget i hi,e]at e0
    rw [Array.getElem?_toList,Array.getElem?_eq_getElem om,<- getElem!_pos (flatK enc 2 d') (i*2+j) om,e0]
    match j,hj with
    | 0,_=>rfl
    | 1,_=>rfl
open Go.Cox
def srtB_ren:Go.Shelf.Ren:=⟨fun | 6=>147 | 15=>135 | 14=>180 | 28=>170 | 29=>171 | 20=>195 | 21=>196 | 22=>197 | 23=>198 | 24=>199 | 25=>200 | 26=>201 | 27=>202 | 46=>207 | 47=>187 | 48=>188 | 49=>208 | 50=>209 | 57=>219 | n=>n,fun | 22=>88 | 24=>92 | 25=>95 | 3=>3 | 39=>82 | 0=>0 | 53=>111 | 55=>113 | 4=>4 | 46=>104 | 45=>103 | 50=>108 | 5=>5 | 9=>9 | 66=>119 | 70=>123 | 76=>131 | 77=>132 | n=>n,fun n=>n⟩
theorem srtB:SlLaysF0.n6 Tryz.prog srtB_ren where
 mixed:=by kernel_rfl
 f6:=⟨Tryz.f147.name,by decide,Tryz.func147.trans (congrArg some (by kernel_rfl))⟩
 f14:=⟨Tryz.f180.name,by decide,Tryz.func180.trans (congrArg some (by kernel_rfl))⟩
 f15:=Tryz.func135.trans (congrArg some (by kernel_rfl))
 f20:=⟨Tryz.f195.name,by decide,Tryz.func195.trans (congrArg some (by kernel_rfl))⟩
 f21:=⟨Tryz.f196.name,by decide,Tryz.func196.trans (congrArg some (by kernel_rfl))⟩
 f22:=⟨Tryz.f197.name,by decide,Tryz.func197.trans (congrArg some (by kernel_rfl))⟩
 f23:=⟨Tryz.f198.name,by decide,Tryz.func198.trans (congrArg some (by kernel_rfl))⟩
 f24:=⟨Tryz.f199.name,by decide,Tryz.func199.trans (congrArg some (by kernel_rfl))⟩
 f25:=⟨Tryz.f200.name,by decide,Tryz.func200.trans (congrArg some (by kernel_rfl))⟩
 f26:=⟨Tryz.f201.name,by decide,Tryz.func201.trans (congrArg some (by kernel_rfl))⟩
 f27:=⟨Tryz.f202.name,by decide,Tryz.func202.trans (congrArg some (by kernel_rfl))⟩
 f28:=Tryz.func170.trans (congrArg some (by kernel_rfl))
 f29:=Tryz.func171.trans (congrArg some (by kernel_rfl))
 f46:=⟨Tryz.f207.name,by decide,Tryz.func207.trans (congrArg some (by kernel_rfl))⟩
 f47:=Tryz.func187.trans (congrArg some (by kernel_rfl))
 f48:=Tryz.func188.trans (congrArg some (by kernel_rfl))
 f49:=⟨Tryz.f208.name,by decide,Tryz.func208.trans (congrArg some (by kernel_rfl))⟩
 f50:=⟨Tryz.f209.name,by decide,Tryz.func209.trans (congrArg some (by kernel_rfl))⟩
 f57:=⟨Tryz.f219.name,by decide,Tryz.func219.trans (congrArg some (by kernel_rfl))⟩
 t0:=Tryz.underlying0
 a0:=Tryz.isAgg0
 z0:=Tryz.sizeOf0
 v0:=Tryz.zeroValue0
 t3:=Tryz.underlying3
 a3:=Tryz.isAgg3
 z3:=Tryz.sizeOf3
 v3:=Tryz.zeroValue3
 t4:=Tryz.underlying4
 a4:=Tryz.isAgg4
 z4:=Tryz.sizeOf4
 v4:=Tryz.zeroValue4
 t5:=Tryz.underlying5
 a5:=Tryz.isAgg5
 z5:=Tryz.sizeOf5
 v5:=Tryz.zeroValue5
 t9:=Tryz.underlying9
 a9:=Tryz.isAgg9
 z9:=Tryz.sizeOf9
 v9:=Tryz.zeroValue9
 t22:=Tryz.underlying88
 a22:=Tryz.isAgg88
 z22:=Tryz.sizeOf88
 v22:=Tryz.zeroValue88
 t25:=Tryz.underlying95
 a25:=Tryz.isAgg95
 z25:=Tryz.sizeOf95
 v25:=Tryz.zeroValue95
 t39:=Tryz.underlying82
 a39:=Tryz.isAgg82
 z39:=Tryz.sizeOf82
 v39:=Tryz.zeroValue82
 t45:=Tryz.underlying103
 a45:=Tryz.isAgg103
 z45:=Tryz.sizeOf103
 v45:=Tryz.zeroValue103
 t46:=Tryz.underlying104
 a46:=Tryz.isAgg104
 z46:=Tryz.sizeOf104
 v46:=Tryz.zeroValue104
 t50:=Tryz.underlying108
 a50:=Tryz.isAgg108
 z50:=Tryz.sizeOf108
 v50:=Tryz.zeroValue108
 t53:=Tryz.underlying111
 a53:=Tryz.isAgg111
 z53:=Tryz.sizeOf111
 v53:=Tryz.zeroValue111
 t55:=Tryz.underlying113
 a55:=Tryz.isAgg113
 z55:=Tryz.sizeOf113
 v55:=Tryz.zeroValue113
 t66:=Tryz.underlying119
 a66:=Tryz.isAgg119
 z66:=Tryz.sizeOf119
 v66:=Tryz.zeroValue119
 t70:=Tryz.underlying123
 a70:=Tryz.isAgg123
 z70:=Tryz.sizeOf123
 v70:=Tryz.zeroValue123
 t76:=Tryz.underlying131
 a76:=Tryz.isAgg131
 z76:=Tryz.sizeOf131
 v76:=Tryz.zeroValue131
 t77:=Tryz.underlying132
 a77:=Tryz.isAgg132
 z77:=Tryz.sizeOf132
 v77:=Tryz.zeroValue132
theorem aCT_some (C:Ctx) (ds:Rg) (rest:List Oper) (n:Nat) (fr:List (Nat×Bool×Sl)) (obs:List O) (K:St->Prop) (d:Nat) (hs:Prop) (xs:List AV) (f:FuncId) :
  aCT C ds rest n fr obs K (some d) hs xs (some f)=(d < n/\hs/\ACall C obs f xs fun x obs'=>(ds.kp=true->Keeps obs obs')/\Later (aexec C ds rest ⟨n,(d,true,x) :: fr,obs'⟩ K)):=rfl
theorem lrA_hp (id g:Nat) (z:AV) (h k:Nat):lrA id g z (.hp h k)=.hp h k:=rfl
set_option maxHeartbeats 4000000 in
theorem c_impl_pairedRoots (c:LL) (H:Int) (hc:CartanP c) (h1:1<=H) (h2:H<=12):FunA B 108 [.sl false (.row false) c,.int .i64 H]
  (fun rs o=>∃ L zs,(RL c H L/\∀ z,RS c H z->z∈L)/\rs=[.own 0 0,.own 1 0]/\o=[.arr (.row true) L 0 true,.arr (.row true) zs 0 true]):=by
 have hn:=hc.2.1
 refine wk Tryz.call108 Tryz.func108 rfl Tryz.ntmps108 fun C hC hP hT hfn hpin hfin hX=>wW ?_
 refine Run.g fun K hK=>?_
 intro hb
 refine wE ?_;clear hK K
 refine Run.g fun K hK=>?_
 refine FunA.cW hP hT (c_impl_TransposeCartan c hc) ?_
 rintro rs o ⟨rfl,ts,hts,rfl⟩
 refine wF ?_;clear hK K
 refine Run.g fun K hK=>?_
 intro lb
 refine wE ?_;clear hK K
 refine Run.g fun K hK=>?_
 intro sb mb
 refine wE ?_;clear hK K
 refine Run.R ?_
 refine Run.R ?_
 refine Run.k [0,3,4,5,6,7,8,9,24,25] [0,1] ?_
 refine Run.loopI (X:=Nat×List (List Int×List Int)) (fun x=>⟨90,[(0,true,.v (.sl false (.row false) c)),(3,true,.v (.hp hb 0)),(4,true,.v (.nils)),(5,true,.v (.nils)),(6,true,.v (.own 1 0)),(7,true,.v (.hp lb 0)),(8,true,.v (.hp sb 0)),(9,true,.v (.clo3 146 sb hb lb)),(24,true,.v (.int .i64 ((c.length:Nat)))),(25,true,.v (.int .i64 (x.1)))],[.bag ⟨4,hb,H,lb,true,x.2,sb,mb,⟨true,false⟩,mlR (x.2.map (·.1))⟩ 0,.arr .lrow (ts) 0 true]⟩) (fun x=>x.1<=c.length/\PI c H x.2/\SimP c x.1 x.2) (fun x=>c.length - x.1) ((0,[])) (⟨nz0 _,⟨PL.nil c H,fun p hp=>by cases hp⟩,fun i hi=>absurd hi (Nat.not_lt_zero i)⟩) ?_ ?_
 ·exact Le.s
 rintro⟨k,xs⟩ ⟨hk,hI,hS⟩ ih
 try simp only []
 simp only []at hk hI hS
 have hxl:=hI.len hc h1 h2
 refine Run.R ?_
 refine Run.c ?_ ?_
 ·intro h
  have h:k < c.length:=by simpa using h
  refine Run.R ?_
  refine Run.g fun K hK=>?_
  refine FunA.cW hP hT (c_impl_simple c.length k om om) ?_
  rintro rs o ⟨rfl,rfl⟩
  simp only [Int.toNat_natCast]
  refine wW ?_
  refine FunA.cW hP hT (c_impl_simple c.length k om om) ?_
  rintro rs o ⟨rfl,rfl⟩
  simp only [Int.toNat_natCast]
  refine wW ?_
  rw [aCT_some]
  refine wW ?_
  refine ACall.letgo 2 rfl ?_
  simp only [AL,lrA_hp,List.map_cons,List.map_nil,AW7,simprocAttr]
  refine ACall.letgo 3 rfl ?_
  simp only [AL,lrA_hp,List.map_cons,List.map_nil,AW7,simprocAttr]
  refine FunO.callBag hP hT (c_add (simL c.length k) (simL c.length k) H hb lb sb mb xs (fun x hx=>by have:=(RS.sim (h:=H) k h).box h1 x hx;omega) (by rw [simL_len];exact hn) (fun z hz=>by rw [hI.lens z hz,simL_len]) om) 0 0 rfl (by simp only [AW7,simprocAttr]) ?_
  rintro rs o' obs' ⟨rfl,g,e⟩
  injection e with e1 e2
  subst e1 e2
  refine wF ?_;clear hK K
  refine Run.RW ?_
  refine Run.k [0,3,4,5,6,7,8,9,24,25] [0,1] ?_
  refine Run.le ?_ (ih (k+1,addX H xs (simL c.length k,simL c.length k)) ⟨h,hI.add hc (Rt.sim h) (simL_len _ _),hS.next hc h h1 _⟩ (by simp only [];omega))
  exact Le.sub (by rfl) (by simp only [AW7,simprocAttr];try simp)
 intro h
 have h:k=c.length:=by simp at h;omega
 subst h
 refine Run.x ?_
 refine Run.R ?_
 refine Run.k [0,3,4,5,6,7,8,9,11] [0,1] ?_
 refine Run.loopI (X:=Nat×List (List Int×List Int)) (fun x=>⟨90,[(0,true,.v (.sl false (.row false) c)),(3,true,.v (.hp hb 0)),(4,true,.v (.nils)),(5,true,.v (.nils)),(6,true,.v (.own 1 0)),(7,true,.v (.hp lb 0)),(8,true,.v (.hp sb 0)),(9,true,.v (.clo3 146 sb hb lb)),(11,true,.v (.int .i64 (x.1)))],[.bag ⟨4,hb,H,lb,true,x.2,sb,mb,⟨true,false⟩,mlR (x.2.map (·.1))⟩ 0,.arr .lrow (ts) 0 true]⟩) (fun x=>x.1<=x.2.length/\PI c H x.2/\SimP c c.length x.2/\PD c H (x.2.map (·.1)) x.1 0) (fun x=>28561 - x.1) ((0,xs)) (⟨nz0 _,hI,hS,PD.zero _ _ _⟩) ?_ ?_
 ·exact Le.s
 rintro⟨k,zs⟩ ⟨hk2,hI2,hS2,hD2⟩ ihO
 try simp only []
 simp only []at hk2 hI2 hS2 hD2
 have hzl:=hI2.len hc h1 h2
 refine Run.R ?_
 refine Run.c ?_ ?_
 ·intro h
  have h:k < zs.length:=by rw [dtE]at h;omega
  obtain⟨hR,hdl⟩:=hI2.at h
  refine Run.g fun K hK=>?_
  rw [prSt_arr]
  refine wF ?_;clear hK K
  generalize hd:zs.getD k ([],[])=d at hR hdl
  refine Run.letgoP 2 12 rfl rfl ?_
  simp only [AW7,simprocAttr]
  refine Run.R ?_
  refine Run.k [0,3,4,5,6,7,8,9,11,12,50,51] [0,1] ?_
  refine Run.loopI (X:=Nat×List (List Int×List Int)) (fun y=>⟨90,[(0,true,.v (.sl false (.row false) c)),(3,true,.v (.hp hb 0)),(4,true,.v (.nils)),(5,true,.v (.nils)),(6,true,.v (.own 1 0)),(7,true,.v (.hp lb 0)),(8,true,.v (.hp sb 0)),(9,true,.v (.clo3 146 sb hb lb)),(11,true,.v (.int .i64 k)),(12,true,.v (.relt true .pr d)),(50,true,.v (.int .i64 ((c.length:Nat)))),(51,true,.v (.int .i64 (y.1)))],[.bag ⟨4,hb,H,lb,true,y.2,sb,mb,⟨true,false⟩,mlR (y.2.map (·.1))⟩ 0,.arr .lrow (ts) 0 true]⟩) (fun y=>(y.1<=c.length/\k < y.2.length/\y.2.getD k ([],[])=d)/\PI c H y.2/\SimP c c.length y.2/\PD c H (y.2.map (·.1)) k y.1) (fun y=>c.length - y.1) ((0,zs)) (⟨⟨nz0 _,h,hd⟩,hI2,hS2,hD2⟩) ?_ ?_
  ·exact Le.s
  rintro⟨i,us⟩ ⟨⟨hi,hku,hdu⟩,hI3,hS3,hD3⟩ ihK
  try simp only []
  simp only []at hi hku hdu hI3 hS3 hD3
  have hul:=hI3.len hc h1 h2
  refine Run.R ?_
  refine Run.c ?_ ?_
  ·intro hq
   have hq:i < c.length:=by rw [dtE]at hq;omega
   have hdb:Bnd 100000000000000000 d.1:=fun x hx=>by have:=hR.box h1 x hx;omega
   have hmb:Bnd 1000000000000000000 (mirL c i d.1):=fun x hx=>by
    have:=mir_bnd hc (i:=(i:Int)) om hR.len (M:=12) om (fun y hy=>by have:=hR.box h1 y hy;omega) x hx
    omega
   have htr:(ts.map (·.2)).length=c.length:=by have:=congrArg List.length hts;rw [trL_len]at this;simpa [rw2] using this
   have hrowt:((ts.map (·.2)).getD (i:Int).toNat []).length=(ts.map (·.2)).length:=by
    rw [htr,show ts.map (·.2)=trL c from hts,Int.toNat_natCast,trL_row c hq]
    simp
   refine Run.R ?_
   refine Run.nq ?_
   refine Run.regionDL hC true [0,1,2,3,4,6,7,8,9,5,10] 11 (by kernel_rfl) (by kernel_rfl) (fun K hK=>?_)
   simp only [AW7,simprocAttr,hX]
   (repeat(with_reducible refine And.intro ?_ ?_);exact vc0)
   refine FunA.callD hP hT (c_impl_mirrored c (i:Int) d.1 hc om hR.len hdb) (by simp only [AW7,simprocAttr]) ?_
   rintro rs o ⟨rfl,rfl⟩
   refine wW ?_
   refine FunA.callD hP hT (c_impl_mirrored_w (ts.map (·.2)) (i:Int) d.2 om om hrowt om) (by simp only [AW7,simprocAttr]) ?_
   rintro rs o ⟨rfl,ys,hyl,rfl⟩
   refine wW ?_
   rw [aCT_some]
   refine wW ?_
   refine ACall.letgo 2 rfl ?_
   simp only [AL,lrA_hp,List.map_cons,List.map_nil,AW7,simprocAttr]
   refine ACall.letgo 3 rfl ?_
   simp only [AL,lrA_hp,List.map_cons,List.map_nil,AW7,simprocAttr]
   refine FunO.callBag hP hT (c_add (mirL c i d.1) ys H hb lb sb mb us hmb (by rw [mir_len,hR.len];exact hn) (fun z hz=>by rw [hI3.lens z hz,mir_len,hR.len]) om) 0 0 rfl (by simp only [AW7,simprocAttr]) ?_
   rintro rs o' obs' ⟨rfl,g,e⟩
   injection e with e1 e2
   subst e1 e2
   refine wF ?_;clear hK K
   refine Run.RW ?_
   refine Run.k [0,3,4,5,6,7,8,9,11,12,50,51] [0,1] ?_
   have hD4:PD c H ((addX H us (mirL c i d.1,ys)).map (·.1)) k (i+1):=by
    rw [addX_fst]
    have:=hD3.add (by rw [List.length_map];exact hku)
    rw [fst_at hku,hdu]at this
    exact this
   refine Run.le ?_ (ihK (i+1,addX H us (mirL c i d.1,ys)) ⟨⟨hq,Nat.lt_of_lt_of_le hku (addX_len _ _ _),by simp only [];rw [addX_get hku];exact hdu⟩,hI3.add hc (hR.rt.mir om) om,hS3.add _ _,hD4⟩ (by simp only [];omega))
   exact Le.sub (by rfl) (by simp only [AW7,simprocAttr];try simp)
  intro hq
  have hq:i=c.length:=by rw [dfE]at hq;omega
  subst hq
  refine Run.x ?_
  refine Run.RW ?_
  refine Run.k [0,3,4,5,6,7,8,9,11] [0,1] ?_
  refine Run.le ?_ (ihO (k+1,us) ⟨hku,hI3,hS3,hD3.next⟩ (by simp only [];omega))
  exact Le.sub (by rfl) (by simp only [AW7,simprocAttr];try simp)
 intro h
 have h:k=zs.length:=by rw [dfE]at h;omega
 subst h
 have hpos:0 < zs.length:=by
  have:=hS2 0 hc.1
  have:=List.length_pos_of_mem this
  simpa using this
 refine Run.x ?_
 refine Run.g fun K hK=>?_
 refine ACall.sortBag hP hT srtB (fun w=>Tryz.isAgg92 w) (fun w=>Tryz.sizeOf92 w) rfl cmpR_swo rfl (show 2<=4 by decide) hpos (show zs.length<=1048576 by omega) (fun a b ha hb=>?_) ?_
 ·have h3:∀ p∈zs,Bnd 1000000000000000000 p.1/\p.1.length=c.length:=fun p hp=>by
   have hm:=hI2.pl.mem p.1 (List.mem_map.2 ⟨p,hp,rfl⟩)
   exact⟨fun x hx=>by have:=hm.box h1 x hx;omega,hm.len⟩
  exact c_cmpPair a b (h3 a ha).1 (h3 b hb).1 (by rw [(h3 a ha).2];exact hn) (by rw [(h3 a ha).2,(h3 b hb).2])
 intro ps hpm hps
 have hRL:=sorted_RL hI2 hS2 hD2 hpm hps
 have hpl:ps.length=zs.length:=hpm.length_eq
 refine wF ?_;clear hK K
 refine Run.R ?_
 refine Run.torows hC 2 rfl ?_
 refine Run.torows hC 3 rfl ?_
 simp only [AW7,simprocAttr]
 refine Run.R ?_
 refine Run.k [4,5,14,15,71,72,73] [0,2,3] ?_
 refine Run.loopI (X:=Nat) (fun k=>⟨90,[(4,true,.v (.nils)),(5,true,.v (.nils)),(14,true,.v (.own 1 0)),(15,true,.v (.own 2 0)),(71,true,.v (.own 0 0)),(72,true,.v (.int .i64 ((ps.length:Nat)))),(73,true,.v (.int .i64 k))],[.bag ⟨4,hb,H,lb,true,ps,sb,mb,⟨true,false⟩,mlR (zs.map (·.1))⟩ 0,.arr (.row true) (((ps.take k).map (·.1))) 0 true,.arr (.row true) (((ps.take k).map (·.2))) 0 true]⟩) (fun k=>k<=ps.length) (fun k=>ps.length - k) (0) (nz0 _) ?_ ?_
 ·exact Le.s
 rintro k hk3 ihJ
 try simp only []
 refine Run.R ?_
 refine Run.c ?_ ?_
 ·intro h
  have h:k < ps.length:=by rw [dtE]at h;omega
  have e1:((ps.take k).map (·.1)).length=k:=by simp;omega
  have e2:((ps.take k).map (·.2)).length=k:=by simp;omega
  have hgk:ps.getD k ([],[])=ps[k]:=by simp [gdE,h]
  have f1:(ps.take (k+1)).map (·.1)=(ps.take k).map (·.1) ++ [(ps.getD k ([],[])).1]:=by rw [hgk,List.take_succ_eq_append_getElem h,List.map_append];rfl
  have f2:(ps.take (k+1)).map (·.2)=(ps.take k).map (·.2) ++ [(ps.getD k ([],[])).2]:=by rw [hgk,List.take_succ_eq_append_getElem h,List.map_append];rfl
  refine Run.g fun K hK=>?_
  rw [prSt_arr]
  refine wF ?_;clear hK K
  generalize ps.getD k ([],[])=d at f1 f2
  refine Run.letgoP 3 17 rfl rfl ?_
  simp only [AW7,simprocAttr]
  refine Run.R ?_
  refine Run.R ?_
  refine Run.RW ?_
  refine Run.k [4,5,14,15,71,72,73] [0,1,2] ?_
  refine Run.le ?_ (ihJ (k+1) om om)
  exact Le.sub (by rw [f1,f2]) (by simp only [AW7,simprocAttr];try simp)
 intro h
 have h:k=ps.length:=by rw [dfE]at h;omega
 subst h
 rw [tkL]
 refine Run.x ?_
 refine Run.R ?_
 refine Run.k [4,5] [1,2] ?_
 refine Run.r [4,5] ?_
 exact⟨_,_,hRL,rfl,rfl⟩
theorem c_spec_PositiveRoots (c:LL):FunA B 43 [.sl false (.row false) c] (fun rs o=>rs=[.own 0 0,.bool (isF c)]/\∃ ys,(isF c=true->RL c 12 (rw2 ys)/\∀ z,RS c 12 z->z∈rw2 ys)/\(isF c=false->ys=[])/\(lb1 ys).Nodup/\o=[.arr .lrow ys 0 true]):=by
 refine wk Tryz.call43 Tryz.func43 rfl Tryz.ntmps43 fun C hC hP hT hfn hpin hfin hX=>wW ?_
 refine Run.R ?_
 refine Run.g fun K hK=>?_
 refine FunA.e hP hT (c_spec_IsFinite c) ?_
 refine wE ?_;clear hK K
 refine Run.c ?_ ?_
 ·intro h
  have h:isF c=false:=by simpa using h
  refine Run.R ?_
  refine Run.r [2,3] ?_
  rw [h]
  exact⟨rfl,[],fun h=>absurd h (by simp),fun _=>rfl,by simp [lb1],rfl⟩
 intro h
 have h:isF c=true:=by simpa using h
 have hF:=isF_iff.1 h
 refine Run.g fun K hK=>?_
 refine FunA.cW hP hT (c_spec_RootsUpTo1 c 12 hF.1 om om) ?_
 rintro rs o ⟨rfl,ys,⟨h1,h2,h3⟩,rfl⟩
 refine wF ?_;clear hK K
 refine Run.r [2,3] ?_
 rw [h]
 exact⟨rfl,ys,fun _=>⟨h1,h2⟩,fun h=>absurd h (by simp),h3,rfl⟩
def RAll (c:LL) (h:Int) (L:LL):Prop:=RL c h L/\∀ z,RS c h z->z∈L
theorem RAll.ext {c:LL} {h:Int} {L M:LL} (a:RAll c h L) (b:RAll c h M):L=M:=
 strR_ext a.1.st b.1.st fun x=>⟨fun hx=>b.2 x (a.1.mem x hx),fun hx=>a.2 x (b.1.mem x hx)⟩
open Classical in
noncomputable def rutO (c:LL) (h:Int):List (List Int):=if k:CartanP c/\(1<=h/\h<=12)/\∃ L,RAll c h L then Classical.choose k.2.2 else []
theorem rutO_eq {c:LL} {h:Int} {L:LL} (hc:CartanP c) (hh:1<=h/\h<=12) (k:RAll c h L):rutO c h=L:=by
 have k2:CartanP c/\(1<=h/\h<=12)/\∃ L,RAll c h L:=⟨hc,hh,L,k⟩
 unfold rutO
 rw [dif_pos k2]
 exact(Classical.choose_spec k2.2.2).ext k
theorem rutO_off {c:LL} {h:Int} (k:¬(CartanP c/\1<=h/\h<=12)):rutO c h=[]:=by
 unfold rutO
 rw [dif_neg fun q=>k ⟨q.1,q.2.1⟩]
theorem c_impl_RootsUpTo (c:LL) (h:Int):FunA B 36 [.sl false (.row false) c,.int .i64 h] (fun rs o=>rs=[.own 0 0]/\(CartanP c/\1<=h/\h<=12->RAll c h (rutO c h))/\o=[.arr (.row true) (rutO c h) 0 true]):=by
 refine wk Tryz.call36 Tryz.func36 rfl Tryz.ntmps36 fun C hC hP hT hfn hpin hfin hX=>wW ?_
 refine Run.R ?_
 refine Run.g fun K hK=>?_
 refine FunA.e hP hT (c_impl_IsCartan c) ?_
 refine wE ?_;clear hK K
 refine Run.c ?_ ?_
 ·intro q
  have hn:¬(CartanP c/\1<=h/\h<=12):=by
   rintro⟨hc,h1,h2⟩
   rw [isC_true hc]at q
   simp at q
   omega
  refine Run.R ?_
  refine Run.torows hC 0 rfl ?_
  simp only [AW7,simprocAttr]
  refine Run.k [4] [0] ?_
  refine Run.r [4] ?_
  rw [rutO_off hn]
  exact⟨rfl,fun k=>absurd k hn,rfl⟩
 intro q
 have hn:CartanP c/\1<=h/\h<=12:=by
  cases hb:isC c with
  | false=>rw [hb]at q;simp at q
  | true=>rw [hb]at q;simp at q;exact⟨isC_iff.1 hb,by omega,by omega⟩
 refine Run.g fun K hK=>?_
 refine FunA.cW hP hT (c_impl_pairedRoots c h hn.1 hn.2.1 hn.2.2) ?_
 rintro rs o ⟨L,zs,hL,rfl,rfl⟩
 refine wF ?_;clear hK K
 refine Run.R ?_
 refine Run.k [4] [0] ?_
 refine Run.r [4] ?_
 rw [rutO_eq hn.1 hn.2 hL]
 exact⟨rfl,fun _=>hL,rfl⟩
theorem c_impl_PositiveRoots (c:LL):FunA B 42 [.sl false (.row false) c] (fun rs o=>rs=[.own 0 0,.bool (isF c)]/\(isF c=true->RAll c 12 (rutO c 12))/\∃ L,L=(if isF c=true then rutO c 12 else [])/\o=[.arr (.row true) L 0 true]):=by
 refine wk Tryz.call42 Tryz.func42 rfl Tryz.ntmps42 fun C hC hP hT hfn hpin hfin hX=>wW ?_
 refine Run.R ?_
 refine Run.g fun K hK=>?_
 refine FunA.e hP hT (c_impl_IsFinite c) ?_
 refine wE ?_;clear hK K
 refine Run.c ?_ ?_
 ·intro h
  have h:isF c=false:=by simpa using h
  refine Run.R ?_
  refine Run.torows hC 0 rfl ?_
  simp only [AW7,simprocAttr]
  refine Run.k [2,3] [0] ?_
  refine Run.r [2,3] ?_
  rw [h]
  exact⟨rfl,fun k=>absurd k (by simp),[],by simp,rfl⟩
 intro h
 have h:isF c=true:=by simpa using h
 have hF:=isF_iff.1 h
 refine Run.g fun K hK=>?_
 refine FunA.cW hP hT (c_impl_RootsUpTo c 12) ?_
 rintro rs o ⟨rfl,hA,rfl⟩
 refine wF ?_;clear hK K
 refine Run.k [2,3] [0] ?_
 refine Run.r [2,3] ?_
 rw [h]
 exact⟨rfl,fun _=>hA ⟨hF.1,by omega,by omega⟩,_,by simp,rfl⟩
theorem simI_some {c:LL} {r:LI} {i:Nat} (h:simI c r=some i):i < c.length/\r=simL c.length i:=by
 obtain⟨h1,h2,_⟩:=find_some' h
 exact⟨h1,by simpa using h2⟩
theorem rflP_spec {c:LL} (hc:CartanP c):∀(k:Nat) (r p q:LI) (i:Nat),r.length=c.length->rflP c k r p=some (q,i)->i < c.length/\∃ t,letters c.length t/\t.length<=k/\q=p ++ t/\r=actR c t (simL c.length i)
 | 0,r,p,q,i,hr,h=>by
  unfold rflP at h
  cases e:simI c r with
  | some j=>
   rw [e]at h
   obtain⟨rfl,rfl⟩:=Prod.mk.inj (Option.some.inj h)
   obtain⟨h1,h2⟩:=simI_some e
   exact⟨h1,[],letters_nil _,by simp,by simp,h2⟩
  | none=>rw [e]at h;cases h
 | k+1,r,p,q,i,hr,h=>by
  unfold rflP at h
  cases e:simI c r with
  | some j=>
   rw [e]at h
   obtain⟨rfl,rfl⟩:=Prod.mk.inj (Option.some.inj h)
   obtain⟨h1,h2⟩:=simI_some e
   exact⟨h1,[],letters_nil _,by simp,by simp,h2⟩
  | none=>
   rw [e]at h
   simp only []at h
   cases e2:lowI c r with
   | none=>rw [e2]at h;cases h
   | some j=>
    rw [e2]at h
    simp only []at h
    obtain⟨j1,_,_⟩:=find_some' e2
    split at h
    ·obtain⟨h1,t,t1,t2,t3,t4⟩:=rflP_spec hc k _ _ _ _ (by rw [mir_len];exact hr) h
     refine⟨h1,(j:Int) :: t,letters_cons.2 ⟨⟨by omega,by omega⟩,t1⟩,by simp;omega,by rw [t3];simp,?_⟩
     show r=mirL c (j:Int) (actR c t (simL c.length i))
     rw [<- t4,mir2 hc ⟨by omega,by omega⟩ hr]
    ·cases h
theorem rfl_facts {c:LL} {r:LI} (h:rflB c r=true):CartanP c/\r.length=c.length/\sgnR r=1/\∃ t i,i < c.length/\letters c.length t/\t.length<=7/\r=actR c t (simL c.length i)/\rflX c r=redL c (t ++ [(i:Int)] ++ t.reverse):=by
 have hX:rflX c r=rflL c (rflO c r):=by unfold rflX;rw [if_pos h]
 have h0:=h
 simp only [rflB,bAnd]at h0
 cases e:rflO c r with
 | none=>rw [e]at h0;cases h0.1
 | some x=>
  obtain⟨q,i⟩:=x
  rw [e]at hX
  unfold rflO at e
  split at e
  ·rename_i hw
   rw [bAnd,beq_iff_eq]at hw
   obtain⟨hc,hr⟩:=wgtB_iff.1 hw.1
   have hrl:r.length=c.length:=hr.1
   obtain⟨h1,t,t1,t2,t3,t4⟩:=rflP_spec hc 7 r [] q i hrl e
   rw [List.nil_append]at t3
   subst t3
   exact⟨hc,hrl,hw.2,q,i,h1,t1,t2,t4,hX⟩
  ·cases e
theorem rfl_let {n:Nat} {t:LI} {i:Nat} (hi:i < n) (ht:letters n t):letters n (t ++ [(i:Int)] ++ t.reverse):=
 letters_append.2 ⟨letters_append.2 ⟨ht,letters_cons.2 ⟨⟨by omega,by omega⟩,letters_nil _⟩⟩,letters_reverse ht⟩
theorem rfl_neg {c:LL} {r:LI} (h:rflB c r=true):letters c.length (rflX c r)/\(rflX c r).length % 2=1/\actR c (rflX c r) r=negL r/\imageL c (rflX c r ++ rflX c r)=ones c.length:=by
 obtain⟨hc,hr,_,t,i,hi,ht,htl,e1,e2⟩:=rfl_facts h
 have hl:=rfl_let hi ht
 obtain⟨x1,x2,x3,x4,_⟩:=red_spec hc hl (by simp;omega)
 rw [e2]
 refine⟨x1,by rw [x3];simp;omega,?_,?_⟩
 ·rw [actR_same hc x1 hl x4 hr,actR_append,actR_append]
  have e3:actR c t.reverse r=simL c.length i:=by rw [e1,actR_rev hc t ht (simL_len _ _)]
  rw [e3]
  show actR c t (mirL c (i:Int) (simL c.length i))=negL r
  rw [mir_sim hc hi,actR_neg,<- e1]
 ·rw [image_append,x4,same_elt hc x1 hl x4 (imageL_length _ _),<- image_append]
  have hrev:(t ++ [(i:Int)] ++ t.reverse).reverse=t ++ [(i:Int)] ++ t.reverse:=by simp
  have:=act_rev hc (t ++ [(i:Int)] ++ t.reverse) hl (ones_length c.length)
  rw [hrev]at this
  rw [image_append]
  exact this
def LinE (n:Nat) (m:Int) (x a b:LI):Prop:=x.length=n/\a.length=n/\b.length=n/\∀ k,k < n->x.getD k 0=a.getD k 0 - m*b.getD k 0
theorem gd0x {l:LI} {k:Nat} (h:k < l.length):l.getD k 0=l[k]:=by simp [gdE,h]
theorem mir_at {c:LL} {i:Nat} {x:LI} (hi:i < x.length):(mirL c (i:Int) x).getD i 0=x.getD i 0 - dotL (c.getD i []) x:=by
 unfold mirL
 simp [gdE,List.getElem?_set,hi]
theorem LinE.mir {c:LL} (hc:CartanP c) {m:Int} {x a b:LI} (h:LinE c.length m x a b) {i:Nat} (hi:i < c.length):LinE c.length m (mirL c (i:Int) x) (mirL c (i:Int) a) (mirL c (i:Int) b):=by
 obtain⟨h1,h2,h3,h4⟩:=h
 refine⟨by rw [mir_len];exact h1,by rw [mir_len];exact h2,by rw [mir_len];exact h3,fun k hk=>?_⟩
 by_cases e:k=i
 ·subst e
  rw [mir_at om,mir_at om,mir_at om]
  have hr:(c.getD k []).length=c.length:=hc.2.2.1 k hk
  have:=dot_lin x a b (c.getD k []) m om om om (fun q hq=>h4 q om)
  rw [dot_comm _ x,dot_comm _ a,dot_comm _ b,this,h4 k hk]
  grind
 ·rw [mir_get e,mir_get e,mir_get e];exact h4 k hk
theorem LinE.act {c:LL} (hc:CartanP c) {m:Int} {x a b:LI} (h:LinE c.length m x a b):∀(w:LI),letters c.length w->LinE c.length m (actR c w x) (actR c w a) (actR c w b)
 | [],_=>h
 | i :: w,hw=>by
  obtain⟨hi,hw⟩:=letters_cons.1 hw
  have e:((i.toNat:Nat):Int)=i:=by omega
  have:=(LinE.act hc h w hw).mir hc (i:=i.toNat) om
  rw [e]at this
  exact this
theorem rfl_lin {c:LL} (hc:CartanP c) {t:LI} {i:Nat} (hi:i < c.length) (ht:letters c.length t) {v:LI} (hv:v.length=c.length):∃ m,LinE c.length m (actR c (t ++ [(i:Int)] ++ t.reverse) v) v (actR c t (simL c.length i)):=by
 refine⟨dotL (c.getD i []) (actR c t.reverse v),?_⟩
 have h0:LinE c.length (dotL (c.getD i []) (actR c t.reverse v)) (mirL c (i:Int) (actR c t.reverse v)) (actR c t.reverse v) (simL c.length i):=by
  refine⟨by rw [mir_len,actR_len];exact hv,by rw [actR_len];exact hv,simL_len _ _,fun k hk=>?_⟩
  rw [simL_get _ _ _ hi]
  by_cases e:k=i
  ·subst e;rw [mir_at (by rw [actR_len];omega),if_pos rfl];omega
  ·rw [mir_get e,if_neg e];omega
 have h1:=h0.act hc t ht
 rw [actR_rev2 hc ht hv]at h1
 rw [actR_append,actR_append]
 exact h1
theorem rfl_inj {c:LL} {r r':LI} (h:rflB c r=true) (h':rflB c r'=true) (e:rflX c r=rflX c r'):r=r':=by
 obtain⟨hc,hr,hs,t,i,hi,ht,htl,e1,e2⟩:=rfl_facts h
 obtain⟨_,hr',hs',t',j,hj,ht',_,e1',_⟩:=rfl_facts h'
 obtain⟨_,_,n1,_⟩:=rfl_neg h'
 have hl:=rfl_let hi ht
 obtain⟨x1,_,_,x4,_⟩:=red_spec hc hl (by simp;omega)
 rw [<- e,e2,actR_same hc x1 hl x4 hr']at n1
 obtain⟨m,l1,l2,l3,l4⟩:=rfl_lin hc hi ht hr'
 rw [n1,<- e1]at l4
 have hsc:sclL 2 r'=sclL m r:=by
  apply List.ext_getElem (by simp [sclL];omega)
  intro k k1 k2
  have hk:k < c.length:=by simp [sclL]at k1;omega
  have q:=l4 k hk
  rw [negL_get]at q
  have a1:=sclL_get 2 r' k
  have a2:=sclL_get m r k
  rw [<- gd0x k1,<- gd0x k2,a1,a2]
  omega
 have f1:=congrArg (actR c t'.reverse) hsc
 rw [actR_scl,actR_scl,e1',actR_rev hc t' ht' (simL_len _ _)]at f1
 have f2:=congrArg (actR c t.reverse) hsc
 rw [actR_scl,actR_scl]at f2
 have f3:actR c t.reverse r=simL c.length i:=by rw [e1,actR_rev hc t ht (simL_len _ _)]
 rw [f3]at f2
 have g1:=congrArg (fun l=>l.getD j 0) f1
 have g2:=congrArg (fun l=>l.getD i 0) f2
 simp only [sclL_get]at g1 g2
 rw [simL_get _ _ _ hj,if_pos rfl]at g1
 rw [simL_get _ _ _ hi,if_pos rfl]at g2
 generalize (actR c t.reverse r').getD i 0=y at g2
 generalize (actR c t'.reverse r).getD j 0=z at g1
 have hm:m=2*y:=by omega
 have hyz:y*z=1:=by
  rw [hm,Int.mul_assoc]at g1;omega
 have hy:y=1\/y = -1:=by
  rcases Int.le_total y 0 with q | q
  ·right
   rcases Int.le_total y (-2)with q2 | q2
   ·exfalso
    rcases Int.le_total z (-1)with q3 | q3
    ·have:=Int.mul_le_mul_of_nonneg_right (show 2<=-y by omega) (show 0<=-z by omega)
     rw [Int.neg_mul_neg]at this;omega
    ·rcases(show z = -0\/0 < z\/z = -1 by omega)with q4 | q4 | q4
     ·rw [q4]at hyz;simp at hyz
     ·have:=Int.mul_nonneg (show 0<=-y by omega) (show 0<=z by omega);rw [Int.neg_mul]at this;omega
     ·rw [q4]at hyz;omega
   ·rcases(show y=0\/y = -1\/y = -2 by omega)with q4 | q4 | q4
    ·rw [q4]at hyz;simp at hyz
    ·exact q4
    ·rw [q4]at hyz;omega
  ·left
   rcases(show y=0\/y=1\/2<=y by omega)with q4 | q4 | q4
   ·rw [q4]at hyz;simp at hyz
   ·exact q4
   ·exfalso
    rcases(show z<=0\/1<=z by omega)with q5 | q5
    ·have:=Int.mul_nonneg q (show 0<=-z by omega);rw [Int.mul_neg]at this;omega
    ·have:=Int.mul_le_mul_of_nonneg_right q4 (show 0<=z by omega);omega
 have hext:∀ n:Int,m=2*n->∀ k,r'.getD k 0=n*r.getD k 0:=fun n hn k=>by
  have:=congrArg (fun l=>l.getD k 0) hsc
  simp only [sclL_get]at this
  rw [hn,Int.mul_assoc]at this
  omega
 rcases hy with hy | hy
 ·have hk:=hext 1 om
  apply List.ext_getElem om
  intro k k1 k2
  have:=hk k
  rw [gd0x k1,gd0x k2]at this
  omega
 ·exfalso
  have hk:=hext (-1) om
  have he:r'=negL r:=by
   apply List.ext_getElem (by simp [negL];omega)
   intro k k1 k2
   have:=hk k
   rw [<- gd0x k1,<- gd0x k2,negL_get]
   omega
  rw [he,sgn_neg,hs]at hs'
  cases hs'
end Go.Proofs.YtcinngodeoidnaaGreat
