/- Strings cut and joined: the library's functions. -/
import Derived.Test.YtcinngodeoidnaaGreatDoorB16
import Derived.Shelf.Strings.Split
import Derived.Shelf.Strings.OnBuilder
import Derived.Test.YtcinngodeoidnaaGreatDoorB14
import Derived.Test.YtcinngodeoidnaaGreatDoorB13
set_option linter.unusedVariables false
set_option linter.unusedSimpArgs false
namespace Go.Proofs.YtcinngodeoidnaaGreatDoor
open Go Go.Aw
open Go.RowKit (Below)
set_option maxRecDepth 100000
def spltL_ren:Go.Shelf.Ren:=⟨fun | 146=>195 | 221=>213 | 268=>230 | 138=>231 | 143=>232 | 195=>241 | 197=>242 | 218=>243 | 219=>244 | 260=>249 | 217=>250 | 225=>251 | 224=>252 | 267=>253 | 266=>254 | 314=>255 | n=>n,fun | 9=>9 | 31=>90 | 3=>3 | 4=>4 | 0=>0 | 105=>163 | 21=>21 | 5=>5 | 46=>95 | 119=>171 | 139=>174 | 138=>173 | 146=>175 | 51=>117 | n=>n,fun | 1=>0 | 3=>1 | 4=>2 | n=>n⟩
theorem spltL:Lays.n146 Tryz.prog spltL_ren where
 mixed:=by kernel_rfl
 f138:=Tryz.func231.trans (congrArg some (by kernel_rfl))
 f143:=Tryz.func232.trans (congrArg some (by kernel_rfl))
 f146:=Tryz.func195.trans (congrArg some (by kernel_rfl))
 f195:=Tryz.func241.trans (congrArg some (by kernel_rfl))
 f197:=Tryz.func242.trans (congrArg some (by kernel_rfl))
 f217:=Tryz.func250.trans (congrArg some (by kernel_rfl))
 f218:=Tryz.func243.trans (congrArg some (by kernel_rfl))
 f219:=Tryz.func244.trans (congrArg some (by kernel_rfl))
 f221:=Tryz.func213.trans (congrArg some (by kernel_rfl))
 f224:=Tryz.func252.trans (congrArg some (by kernel_rfl))
 f225:=Tryz.func251.trans (congrArg some (by kernel_rfl))
 f260:=Tryz.func249.trans (congrArg some (by kernel_rfl))
 f266:=Tryz.func254.trans (congrArg some (by kernel_rfl))
 f267:=Tryz.func253.trans (congrArg some (by kernel_rfl))
 f268:=Tryz.func230.trans (congrArg some (by kernel_rfl))
 f314:=Tryz.func255.trans (congrArg some (by kernel_rfl))
 t0:=Tryz.underlying0
 a0:=Tryz.isAgg0
 z0:=Tryz.sizeOf0
 v0:=Tryz.zeroValue0
 t3:=Tryz.underlying3
 a3:=Tryz.isAgg3
 z3:=Tryz.sizeOf3
 v3:=Tryz.zeroValue3
 t4:=Tryz.underlying4
 a4:=Tryz.isAgg4
 z4:=Tryz.sizeOf4
 v4:=Tryz.zeroValue4
 t5:=Tryz.underlying5
 a5:=Tryz.isAgg5
 z5:=Tryz.sizeOf5
 v5:=Tryz.zeroValue5
 t9:=Tryz.underlying9
 a9:=Tryz.isAgg9
 z9:=Tryz.sizeOf9
 v9:=Tryz.zeroValue9
 t21:=Tryz.underlying21
 a21:=Tryz.isAgg21
 z21:=Tryz.sizeOf21
 v21:=Tryz.zeroValue21
 t31:=Tryz.underlying90
 a31:=Tryz.isAgg90
 z31:=Tryz.sizeOf90
 v31:=Tryz.zeroValue90
 t46:=Tryz.underlying95
 a46:=Tryz.isAgg95
 z46:=Tryz.sizeOf95
 v46:=Tryz.zeroValue95
 t51:=Tryz.underlying117
 a51:=Tryz.isAgg117
 z51:=Tryz.sizeOf117
 v51:=Tryz.zeroValue117
 t105:=Tryz.underlying163
 a105:=Tryz.isAgg163
 z105:=Tryz.sizeOf163
 v105:=Tryz.zeroValue163
 t119:=Tryz.underlying171
 a119:=Tryz.isAgg171
 z119:=Tryz.sizeOf171
 t138:=Tryz.underlying173
 a138:=Tryz.isAgg173
 z138:=Tryz.sizeOf173
 v138:=Tryz.zeroValue173
 t139:=Tryz.underlying174
 a139:=Tryz.isAgg174
 z139:=Tryz.sizeOf174
 v139:=Tryz.zeroValue174
 t146:=Tryz.underlying175
 a146:=Tryz.isAgg175
 z146:=Tryz.sizeOf175
 v146:=Tryz.zeroValue175
 g1:=by kernel_rfl
 g3:=by kernel_rfl
 g4:=by kernel_rfl
def joinL_ren:Go.Shelf.Ren:=⟨fun | 156=>199 | 165=>218 | 166=>219 | 169=>220 | 240=>236 | 241=>237 | 276=>246 | 277=>247 | n=>n,fun | 31=>90 | 9=>9 | 3=>3 | 4=>4 | 0=>0 | 20=>20 | 72=>141 | 76=>145 | 70=>139 | 37=>22 | 75=>144 | 127=>160 | 164=>166 | 5=>5 | 80=>147 | n=>n,fun n=>n⟩
theorem joinL:Lays.n156 Tryz.prog joinL_ren where
 mixed:=by kernel_rfl
 f156:=Tryz.func199.trans (congrArg some (by kernel_rfl))
 f165:=Tryz.func218.trans (congrArg some (by kernel_rfl))
 f166:=Tryz.func219.trans (congrArg some (by kernel_rfl))
 f169:=Tryz.func220.trans (congrArg some (by kernel_rfl))
 f240:=Tryz.func236.trans (congrArg some (by kernel_rfl))
 f241:=Tryz.func237.trans (congrArg some (by kernel_rfl))
 f276:=Tryz.func246.trans (congrArg some (by kernel_rfl))
 f277:=Tryz.func247.trans (congrArg some (by kernel_rfl))
 t0:=Tryz.underlying0
 a0:=Tryz.isAgg0
 z0:=Tryz.sizeOf0
 v0:=Tryz.zeroValue0
 t3:=Tryz.underlying3
 a3:=Tryz.isAgg3
 z3:=Tryz.sizeOf3
 v3:=Tryz.zeroValue3
 t4:=Tryz.underlying4
 a4:=Tryz.isAgg4
 z4:=Tryz.sizeOf4
 v4:=Tryz.zeroValue4
 t9:=Tryz.underlying9
 a9:=Tryz.isAgg9
 z9:=Tryz.sizeOf9
 v9:=Tryz.zeroValue9
 t20:=Tryz.underlying20
 a20:=Tryz.isAgg20
 z20:=Tryz.sizeOf20
 v20:=Tryz.zeroValue20
 t31:=Tryz.underlying90
 a31:=Tryz.isAgg90
 z31:=Tryz.sizeOf90
 v31:=Tryz.zeroValue90
 t37:=Tryz.underlying22
 a37:=Tryz.isAgg22
 z37:=Tryz.sizeOf22
 v37:=Tryz.zeroValue22
 t70:=Tryz.underlying139
 a70:=Tryz.isAgg139
 z70:=Tryz.sizeOf139
 v70:=Tryz.zeroValue139
 t72:=Tryz.underlying141
 a72:=Tryz.isAgg141
 z72:=Tryz.sizeOf141
 v72:=Tryz.zeroValue141
 t75:=Tryz.underlying144
 a75:=Tryz.isAgg144
 z75:=Tryz.sizeOf144
 v75:=Tryz.zeroValue144
 t76:=Tryz.underlying145
 a76:=Tryz.isAgg145
 z76:=Tryz.sizeOf145
 v76:=Tryz.zeroValue145
 t127:=Tryz.underlying160
 a127:=Tryz.isAgg160
 z127:=Tryz.sizeOf160
 v127:=Tryz.zeroValue160
 t164:=Tryz.underlying166
 a164:=Tryz.isAgg166
 z164:=Tryz.sizeOf166
 v164:=Tryz.zeroValue166
theorem joinX_extra:Builder.Extra Tryz.prog joinL_ren where
 sizeBuilder:=by kernel_rfl
 liesBuilder:=by kernel_rfl
 t5:=Tryz.underlying5
 a5:=Tryz.isAgg5
 z5:=Tryz.sizeOf5
 v5:=Tryz.zeroValue5
 infoByte:=by kernel_rfl
 cellsByte:=by kernel_rfl
 sizeByte:=by kernel_rfl
 neB5:=by decide
theorem bsize (l:List UInt8):(⟨l.toArray⟩:ByteArray).size=l.length:=by
 show l.toArray.size=l.length
 exact List.size_toArray
theorem bsize2 (s:ByteArray):s.size=s.data.toList.length:=(Array.length_toList).symm
theorem str_eta (s:ByteArray):(⟨s.data.toList.toArray⟩:ByteArray)=s:=by
 cases s;rfl
theorem c_strings_Split (s:List UInt8) (b:UInt8) (hs:s.length<=1048576):FunA B 195 [.str s,.str [b]] (fun rs o=>rs=[.own 0 0]/\o=[.arr .str (Lib.split s [b]) 0 true]):=by
 refine⟨fun vs w=>Tryz.call195 vs w,fun w L vs hG hl ha=>?_⟩
 match vs,hl with
 | [u1,u2],_=>
 have hu1:u1=.string ⟨s.toArray⟩:=ha 0 _ _ rfl rfl
 have hu2:u2=.string ⟨[b].toArray⟩:=ha 1 _ _ rfl rfl
 subst hu1 hu2
 obtain⟨_,m,hm⟩:=hG.2 _ (show B.P.globalNamed maxN=some (spltL_ren.g 1) by kernel_rfl)
 have r0:=wrel_start B w L (fun _=>undef) hG
 have main:=Any.strings_Split spltL (by kernel_rfl) ⟨s.toArray⟩ ⟨[b].toArray⟩ m w (by rw [bsize];omega) hm (by rw [bsize];simp)
 have hdat:=Lib.splitB_data ⟨[b].toArray⟩ 0 (Lib.countB ⟨s.toArray⟩ ⟨[b].toArray⟩) ⟨s.toArray⟩
 have hlen:=Lib.splitB_all ⟨[b].toArray⟩ (by rw [bsize];simp) 0 _ ⟨s.toArray⟩ rfl
 have hle:=Lib.countB_le ⟨[b].toArray⟩ (by rw [bsize];simp) s.length ⟨s.toArray⟩ (by rw [bsize];exact Nat.le_refl _)
 rw [bsize]at hle
 generalize hps:Lib.splitB ⟨[b].toArray⟩ 0 (Lib.countB ⟨s.toArray⟩ ⟨[b].toArray⟩) ⟨s.toArray⟩=ps at *
 generalize hn:Lib.countB ⟨s.toArray⟩ ⟨[b].toArray⟩=n at *
 have hsp:Lib.split s [b]=ps.map (·.data.toList):=by
  rw [hdat,<- hn]
  rfl
 have hsl:(Lib.split s [b]).length=n+1:=by rw [hsp,List.length_map,hlen]
 have hsz:∀ x∈ps,x.size<=maxLen:=by
  have key:∀(k:Nat) (t:List UInt8),t.length<=1048576->∀ x∈Lib.splitK [b] 0 k t,x.length<=1048576:=by
   intro k
   induction k with
   | zero=>intro t ht x hx;simp [Lib.splitK]at hx;rw [hx];exact ht
   | succ k ih=>
    intro t ht x hx
    unfold Lib.splitK at hx
    split at hx
    ·simp at hx;rw [hx];exact ht
    ·rcases List.mem_cons.1 hx with rfl | hx
     ·simp;omega
     ·exact ih _ (by simp;omega) x hx
  intro x hx
  have h1:=key n s hs x.data.toList (by rw [<- hn]at hdat;rw [<- hn,<- show(ps.map (·.data.toList))=_ from hdat];exact List.mem_map.2 ⟨x,hx,rfl⟩)
  rw [bsize2,maxLen_num];omega
 refine main.mono ?_
 rintro e w' ⟨he,rfl⟩
 have T:=Turn.new r0 (Ext.alloc (fun _=>False) w (.cells (ps.map Value.string).toArray (spltL_ren.t 9))) (.arr .str (Lib.split s [b]) 0 true) (.slice (some ⟨w.heap.size,0,none⟩) (n+1) (n+1))
  ⟨ps.map Value.string,⟨by simp [hsl,hlen,E.size],.inr ⟨w.heap.size,n+1,(ps.map Value.string).toArray,by rw [hsl],nz0 _,heap_alloc_new w _,by rw [hsl];exact Nat.le_refl _,by rw [maxLen_num];omega,by simp [hlen,E.size],by rw [hsl];simp only [E.size,Nat.mul_one];exact List.take_of_length_le (by simp [hlen])⟩⟩,
   ⟨by simp [hsl,hlen,E.size],fun i hi=>by
    have hi':i < ps.length:=by rw [hsl]at hi;omega
    have e1:(Lib.split s [b])[i]=ps[i].data.toList:=by simp [hsp]
    refine⟨.string ps[i],⟨by rw [e1,str_eta],by rw [e1,<- bsize2];exact hsz ps[i] (List.getElem_mem hi')⟩,fun j hj=>?_⟩
    have:j=0:=by simp [E.size]at hj;omega
    subst this
    simp [E.size,Value.cells,hi']⟩,by simp,by rw [hsl,maxLen_num];omega⟩
  (fun b' hb=>by simp [fpo,Value.ownBlock]at hb;omega)
 refine⟨[.slice (some ⟨w.heap.size,0,none⟩) (n+1) (n+1)],he,[.own 0 0],_,_,⟨rfl,rfl⟩,rfl,fun i y u hy hu=>?_,(T.step r0).wr,rfl,rfl⟩
 match i,hy,hu with
 | 0,hy,hu=>
  simp at hy hu
  subst hy hu
  exact⟨by simp,fun c hc=>by simp [genOf,O.gen]at hc;exact⟨nz0 _,fun _=>by simp⟩⟩
theorem c_strings_Join (xs:List (List UInt8)) (sep:List UInt8) (hl:xs.length<=1048576) (hlen:(Lib.join xs sep).length<=1048576):FunA BJ 199 [.sl false .str xs,.str sep] (fun rs o=>rs=[.str (Lib.join xs sep)]/\o=[]):=by
 refine⟨fun vs w=>Tryz.call199 vs w,fun w L vs hG hv ha=>?_⟩
 match vs,hv with
 | [u1,u2],_=>
 have hs:SlRel ((BJ.bareL w L).V w [] (fun _=>undef)) false .str xs u1:=ha 0 _ u1 rfl rfl
 have hu2:u2=.string ⟨sep.toArray⟩:=ha 1 _ _ rfl rfl
 subst hu2
 obtain⟨base,cap,hu1,hc,hcm,hx⟩:=hs
 subst hu1
 have fin:∀ e w',(e=Ending.returned (.string ⟨(Lib.join xs sep).toArray⟩)/\Below w.heap.size w w')->∃ us:List Value,e=.returned (pack us)/\∃ rs obs' ρ',(rs=[AV.str (Lib.join xs sep)]/\obs'=[])/\us.length=rs.length /\
   (∀(i:Nat) (x:AV) (v:Value),rs[i]? = some x->us[i]? = some v->AVRel ((BJ.bareL w L).V w' obs' ρ') obs' ρ' x v)/\WRel (BJ.bareL w L) obs' w' ρ'/\rs.all freshAV=true/\obs'.all freshO=true:=by
  rintro e w' ⟨he,hb⟩
  refine⟨[.string ⟨(Lib.join xs sep).toArray⟩],he,[.str (Lib.join xs sep)],[],fun _=>undef,⟨rfl,rfl⟩,rfl,fun i y u hy hu=>?_,⟨fun id o h=>by simp at h,fun i j o o' b h=>by simp at h,fun b ⟨id,o,h,_⟩=>by simp at h,hb.os,hb.tape,hb.output,hb.size,fun h=>(by cases h),fun b hb' _=>hb.block b hb',hG⟩,rfl,rfl⟩
  match i,hy,hu with
  | 0,hy,hu=>simp at hy hu;subst hy hu;rfl
 cases xs with
 | nil=>
  have main:=Any.strings_Join_none joinL joinX_extra base cap ⟨sep.toArray⟩ w
  exact main.mono fun e w' ⟨he,hw⟩=>fin e w' ⟨he,hw▸Below.refl _ _⟩
 | cons x xs=>
  obtain⟨a,u,hb,_,hu,hq⟩:=hx 0 (by simp)
  subst hb
  have hcell:∀ k (hk:k < (x :: xs).length),w.cell? (a.add k)=some (.string ⟨(x :: xs)[k].toArray⟩):=fun k hk=>by
   obtain⟨a',u,e,_,hu,hq⟩:=hx k hk
   cases e
   obtain⟨rfl,_⟩:=hu
   have h0:=hq 0 (by simp [E.size])
   simp only [E.size,Nat.mul_one,Nat.add_zero]at h0
   exact V_cell (by simpa [Value.cells] using h0)
  have hsp:a.spot=none:=by
   have h0:=hcell 0 (by simp)
   unfold World.cell? at h0
   have e0:(a.add 0)=a:=by simp [Addr.add]
   rw [e0]at h0
   cases hb:w.heap[a.block]? with
   | none=>rw [hb]at h0;simp at h0
   | some o=>
    rw [hb]at h0
    cases o<;>simp at h0
    exact h0.1
  obtain⟨bk,off,sp⟩:=a
  simp only at hsp
  subst hsp
  have hlt:bk < w.heap.size:=by
   have h0:=hcell 0 (by simp)
   unfold World.cell? at h0
   cases hb:w.heap[(⟨bk,off,none⟩:Addr).block]? with
   | none=>simp [Addr.add,hb]at h0
   | some o=>exact(ageS.1 hb).1
  have e1:((x :: xs).map fun s=>(⟨s.toArray⟩:ByteArray)).map (·.data.toList)=x :: xs:=by simp [Function.comp_def]
  have main:=Any.strings_Join joinL joinX_extra bk off cap ((x :: xs).map fun s=>(⟨s.toArray⟩:ByteArray)) ⟨sep.toArray⟩ w (fun j y hy=>by
   rw [List.getElem?_map,Option.map_eq_some_iff]at hy
   obtain⟨s,hs,rfl⟩:=hy
   obtain⟨hj,rfl⟩:=geS.1 hs
   have:=hcell j hj
   rw [add_plain]at this
   exact this) hlt (by rw [List.length_map];omega) (by rw [List.length_map];exact hc) (by rw [e1];exact Nat.le_trans hlen (by decide))
  rw [e1,List.length_map]at main
  exact main.mono fun e w' h=>fin e w' h
open Go Go.Aw Go.Cox
set_option maxRecDepth 100000
theorem chkN1:(finM 1).all chkN=true:=by decide +kernel
theorem chkN2:(finM 2).all chkN=true:=by decide +kernel
theorem chkN3:(finM 3).all chkN=true:=by decide +kernel
theorem chkN4a:((finM 4).take 70).all chkN=true:=by decide +kernel
theorem chkN4b:(((finM 4).drop 70).take 60).all chkN=true:=by decide +kernel
theorem chkN4c:(((finM 4).drop 130).take 60).all chkN=true:=by decide +kernel
theorem chkN4d:((finM 4).drop 190).all chkN=true:=by decide +kernel
theorem all_take {l:List (List (List Int))} {p:List (List Int)->Bool} (n:Nat) (h1:(l.take n).all p=true) (h2:(l.drop n).all p=true):l.all p=true:=by
 have e:=congrArg (fun x=>x.all p) (List.take_append_drop n l)
 rw [<- e]
 simp only [List.all_append,h1,h2,Bool.and_self]
theorem chkN_fin {c:LL} (hF:FinP c):chkN c=true:=by
 refine fin_chk hF chkN1 chkN2 chkN3 (all_take 70 chkN4a (all_take 60 chkN4b (all_take 60 ?_ ?_)))
 ·rw [List.drop_drop];exact chkN4c
 ·rw [List.drop_drop,List.drop_drop];exact chkN4d
theorem posI_eq (a:Int):posI a=decide (0 < a):=by
 cases a with
 | ofNat n=>cases n with
  | zero=>rfl
  | succ n=>simp [posI]
 | negSucc n=>simp [posI]
theorem nngI_eq (a:Int):nngI a=decide (0<=a):=by
 cases a with
 | ofNat n=>simp [nngI]
 | negSucc n=>simp [nngI]
theorem preI_iff:∀(i:Nat) (l:LI),preI i l=true↔∀ k,k < i->k < l.length->0<=l.getD k 0
 | 0,l=>by simp [preI]
 | i+1,[]=>by simp [preI]
 | i+1,y :: l=>by
  simp only [preI,bAnd,nngI_eq,dtE,preI_iff i l]
  constructor
  ·rintro⟨h1,h2⟩ k hk hl
   cases k with
   | zero=>exact h1
   | succ k=>exact h2 k om (by simpa using hl)
  ·intro h
   exact⟨h 0 om (by simp),fun k hk hl=>h (k+1) om (by simpa using hl)⟩
theorem rf1_eq (a:Int):∀(v col:LI),v.length<=col.length->rf1 a v col=(List.range v.length).map fun k=>v.getD k 0 - a*col.getD k 0
 | [],col,_=>by cases col<;>rfl
 | x :: v,[],h=>by simp at h
 | x :: v,y :: col,h=>by
  simp only [rf1,lenC,List.range_succ_eq_map,List.map_cons,List.map_map]
  rw [rf1_eq a v col (by simpa using h)]
  rfl
theorem cols_get (c:LL) {i k:Nat} (hi:i < c.length) (hk:k < c.length):((colsI c).getD i []).getD k 0=ent c k i:=by
 simp [colsI,gdE,hi,hk]
theorem rf1_refl (c:LL) {i:Nat} (hi:i < c.length) {x:LI} (hx:x.length=c.length):rf1 (x.getD i 0) x ((colsI c).getD i [])=reflL c i x:=by
 have hl:((colsI c).getD i []).length=c.length:=by simp [colsI,gdE,hi]
 rw [rf1_eq _ _ _ om]
 unfold reflL
 apply List.map_congr_left
 intro k hk
 have hk:k < c.length:=by have:=List.mem_range.1 hk;omega
 rw [cols_get c hi hk,Int.toNat_natCast]
theorem nxC_aux (c:LL) {x:LI} (hx:x.length=c.length):∀(m i:Nat),i+m=c.length->nxC x i (x.drop i) ((colsI c).drop i) =
  ((List.range' i m).filter fun i=>decide (0 < x.getD i 0) && preI i (reflL c i x)).map fun(i:Nat)=>reflL c i x
 | 0,i,h=>by
  rw [List.drop_eq_nil_of_le om]
  simp [nxC]
 | m+1,i,h=>by
  have hi:i < x.length:=by omega
  have hcl:(colsI c).length=c.length:=by simp [colsI]
  have hci:i < (colsI c).length:=by omega
  rw [List.drop_eq_getElem_cons hi,List.drop_eq_getElem_cons hci]
  simp only [nxC]
  rw [nxC_aux c hx m (i+1) om,posI_eq]
  have e1:x[i]=x.getD i 0:=by simp [gdE,hi]
  have e2:(colsI c)[i]=(colsI c).getD i []:=by simp [gdE,hci]
  rw [e1,e2,rf1_refl c om hx,List.range'_succ,List.filter_cons]
  by_cases h1:0 < x.getD i 0
  ·by_cases h2:preI i (reflL c i x)=true
   ·rw [decide_eq_true h1,cond_true,h2,cond_true,Bool.and_self,if_pos rfl,List.map_cons]
   ·have h2:preI i (reflL c i x)=false:=by simpa using h2
    rw [decide_eq_true h1,cond_true,h2,cond_false,Bool.and_false,if_neg (by simp)]
  ·rw [decide_eq_false h1,cond_false,Bool.false_and,if_neg (by simp)]
theorem nxC_eq (c:LL) {x:LI} (hx:x.length=c.length):nxC x 0 x (colsI c) =
  ((List.range c.length).filter fun i=>decide (0 < x.getD i 0) && preI i (reflL c i x)).map fun(i:Nat)=>reflL c i x:=by
 have:=nxC_aux c hx c.length 0 om
 rw [List.drop_zero,List.drop_zero,<- List.range_eq_range']at this
 exact this
def lvT (c:LL):Nat->List (List Int)
 | 0=>[ones c.length]
 | L+1=>(lvT c L).flatMap fun x=>nxC x 0 x (colsI c)
theorem first_uniq {v:LI} {i j:Nat} (hi:v.getD i 0 < 0) (hj:v.getD j 0 < 0) (h1:∀ k,k < i->k < v.length->0<=v.getD k 0) (h2:∀ k,k < j->k < v.length->0<=v.getD k 0):i=j:=by
 have len:∀ {k},v.getD k 0 < 0->k < v.length:=fun {k} h=>by
  rcases Nat.lt_or_ge k v.length with h' | h'
  ·exact h'
  ·simp [gdE,geN h']at h
 rcases Nat.lt_trichotomy i j with h | h | h
 ·have:=h2 i h (len hi);omega
 ·exact h
 ·have:=h1 j h (len hj);omega
theorem lvT_spec {c:LL} (hc:CartanP c):∀ L,(lvT c L).Nodup/\∀ v,v∈lvT c L↔Far c L v
 | 0=>⟨by simp [lvT],fun v=>by
   simp only [lvT,List.mem_singleton]
   exact⟨fun h=>h▸Far.ones c,fun h=>h.zero⟩⟩
 | L+1=>by
  obtain⟨h1,h2⟩:=lvT_spec hc L
  have mem:∀ x,x∈lvT c L->∀ z,z∈nxC x 0 x (colsI c)↔∃ i,i < c.length/\0 < x.getD i 0/\(∀ k,k < i->k < c.length->0<=(reflL c i x).getD k 0)/\z=reflL c i x:=by
   intro x hx z
   have hxl:=((h2 x).1 hx).1
   rw [nxC_eq c hxl,List.mem_map]
   simp only [List.mem_filter,List.mem_range,bAnd,dtE,preI_iff,reflL_length,hxl]
   constructor
   ·rintro⟨i,⟨a,b,d⟩,rfl⟩;exact⟨i,a,b,d,rfl⟩
   ·rintro⟨i,a,b,d,rfl⟩;exact⟨i,⟨a,b,d⟩,rfl⟩
  have back:∀ {x:LI} {i:Nat},Far c L x->i < c.length->0 < x.getD i 0->(reflL c i x).getD i 0 < 0:=by
   intro x i hx hi h0
   rw [reflL_get c i x i (by rw [hx.1];exact hi),Int.toNat_natCast,show ent c i i=2 from(matA_cartan hc).diag i hi]
   omega
  refine⟨?_,fun v=>?_⟩
  ·rw [List.nodup_iff_pairwise_ne]
   show((lvT c L).flatMap fun x=>nxC x 0 x (colsI c)).Pairwise _
   rw [List.pairwise_flatMap]
   refine⟨fun x hx=>?_,?_⟩
   ·have hxf:=(h2 x).1 hx
    rw [nxC_eq c hxf.1,List.pairwise_map]
    refine List.Pairwise.imp_of_mem ?_ (List.Pairwise.filter _ (List.nodup_iff_pairwise_ne.1 List.nodup_range))
    intro i j hi hj hne e
    simp only [List.mem_filter,List.mem_range,bAnd,dtE,preI_iff,reflL_length,hxf.1]at hi hj
    apply hne
    refine first_uniq (back hxf hi.1 hi.2.1) (by rw [e];exact back hxf hj.1 hj.2.1) (fun k k1 k2=>hi.2.2 k k1 (by rw [reflL_length,hxf.1]at k2;exact k2)) (fun k k1 k2=>by rw [e];exact hj.2.2 k k1 (by rw [reflL_length,hxf.1]at k2;exact k2))
   ·refine List.Pairwise.imp_of_mem ?_ (List.nodup_iff_pairwise_ne.1 h1)
    intro x y hx hy hne u hu w hw e
    subst e
    obtain⟨i,i1,i2,i3,i4⟩:=(mem x hx u).1 hu
    obtain⟨j,j1,j2,j3,j4⟩:=(mem y hy u).1 hw
    have hxf:=(h2 x).1 hx
    have hyf:=(h2 y).1 hy
    have hul:u.length=c.length:=by rw [i4,reflL_length,hxf.1]
    have hij:i=j:=first_uniq (v:=u) (by rw [i4];exact back hxf i1 i2) (by rw [j4];exact back hyf j1 j2) (fun k k1 k2=>by rw [i4];exact i3 k k1 om) (fun k k1 k2=>by rw [j4];exact j3 k k1 om)
    subst hij
    apply hne
    have e1:=refl2 hc (i:=(i:Int)) ⟨by omega,by omega⟩ hxf.1
    have e2:=refl2 hc (i:=(i:Int)) ⟨by omega,by omega⟩ hyf.1
    rw [<- e1,<- i4,j4,e2]
  ·show v∈(lvT c L).flatMap _↔_
   rw [List.mem_flatMap]
   constructor
   ·rintro⟨x,hx,hz⟩
    obtain⟨i,i1,i2,i3,rfl⟩:=(mem x hx v).1 hz
    exact((h2 x).1 hx).up hc ⟨by omega,by omega⟩ (by rw [Int.toNat_natCast];exact i2)
   ·intro h
    rcases fst_of_far hc h with⟨_,q2⟩ | ⟨q1,q2,q3,M,q4,q5⟩
    ·omega
    ·have:M=L:=by omega
     subst this
     have hk:(((fstN v).toNat:Nat):Int)=fstN v:=by omega
     have hx0:(reflL c (fstN v) v).getD (fstN v).toNat 0 = -(v.getD (fstN v).toNat 0):=by
      rw [reflL_get c (fstN v) v (fstN v).toNat (by rw [h.1];omega),show ent c (fstN v).toNat (fstN v).toNat=2 from(matA_cartan hc).diag _ om]
      omega
     have e:=refl2 hc (i:=fstN v) ⟨q1,q2⟩ h.1
     refine⟨_,(h2 _).2 q5,(mem _ ((h2 _).2 q5) v).2 ⟨(fstN v).toNat,by omega,by omega,fun k k1 k2=>?_,by rw [hk,e]⟩⟩
     rw [hk,e]
     rcases firstNeg_spec v v.length with⟨f1,f2⟩ | ⟨i,f1,f2,f3,f4⟩
     ·exact f2 k (by rw [h.1];exact k2)
     ·refine f4 k ?_
      have:fstN v=i:=f1
      omega
def oL (c:LL):Nat->Nat
 | 0=>0
 | L+1=>oL c L+(lvT c L).length
theorem oL_flat {c:LL} {L:Nat} (h:lvT c L=[]):∀ k,lvT c (L+k)=[]/\oL c (L+k)=oL c L
 | 0=>⟨h,rfl⟩
 | k+1=>by
  obtain⟨h1,h2⟩:=oL_flat h k
  exact⟨by show(lvT c (L+k)).flatMap _=[];rw [h1];rfl,by show oL c (L+k)+(lvT c (L+k)).length=_;rw [h1,h2];rfl⟩
theorem cntG_eq (c:LL):∀(f L:Nat),oL c (L+f)=oL c L+cntG (colsI c) f (lvT c L)
 | 0,L=>rfl
 | f+1,L=>by
  simp only [cntG]
  cases h:lvT c L with
  | nil=>simp only [List.isEmpty_nil,cond_true];exact(oL_flat h (f+1)).2
  | cons x l=>
   simp only [List.isEmpty_cons,cond_false]
   rw [show L+(f+1)=(L+1)+f by omega,cntG_eq c f (L+1),<- h]
   show oL c L+(lvT c L).length+cntG (colsI c) f ((lvT c L).flatMap _)=_
   omega
theorem outS_oL {c:LL} (hc:CartanP c):∀ L,L<=29->(outS c L).length=oL c (L+1)
 | 0,_=>rfl
 | L+1,hL=>by
  rw [outS_len hc om,outS_oL hc L om]
  have hp:(shl c (L+1)).Perm (lvT c (L+1)):=(List.perm_ext_iff_of_nodup (shl_spec hc _).1 (lvT_spec hc _).1).2 fun v=>((shl_spec hc _).2 v).trans ((lvT_spec hc _).2 v).symm
  rw [hp.length_eq]
  rfl
theorem cnt_all {c:LL} (hF:FinP c):cntN c=(allL c).length:=by
 have h1:=cntG_eq c 25 0
 have h2:=outS_oL hF.1 24 om
 have h3:=outS_len hF.1 (L:=24) om
 rw [shl_end hF (by omega:25<=24+1)]at h3
 show cntG (colsI c) 25 (lvT c 0)=(outS c 25).length
 rw [h3,h2]
 simp only [oL,Nat.zero_add]at h1 ⊢
 simp only [lenN,Nat.add_zero]
 exact h1.symm
theorem fin_size {c:LL} (hF:FinP c):sizeI c=sizeS c/\0 < sizeI c/\(sizeI c<=200->((allL c).length:Int)=sizeI c):=by
 have h:=chkN_fin hF
 simp only [chkN,bAnd,Bool.or_eq_true,dtE]at h
 refine⟨h.1.1,h.1.2,fun h2=>?_⟩
 rw [<- cnt_all hF]
 rcases h.2 with h3 | h3
 ·omega
 ·exact h3
theorem sizeT_le (s:List UInt8):sizeT s<=1152:=by
 unfold sizeT
 split
 ·rename_i t h
  have hm:=List.mem_of_find?_eq_some h
  exact(by decide:∀ t∈tyL,t.2.2<=1152) t hm
 ·omega
def szN (l:List (List UInt8)):Nat:=l.foldl (fun n p=>n*sizeT p) 1
theorem fold_cast (l:List (List UInt8)):∀ n:Nat,l.foldl (fun(n:Int) p=>n*(sizeT p:Int)) (n:Int)=((l.foldl (fun(n:Nat) p=>n*sizeT p) n:Nat):Int):=by
 induction l with
 | nil=>intro n;rfl
 | cons a l ih=>
  intro n
  simp only [List.foldl_cons]
  rw [<- ih (n*sizeT a)]
  rw [Int.natCast_mul]
theorem sizeL_eq (l:List (List UInt8)):sizeL l=if l.length<=4 then(szN l:Int)else 0:=by
 unfold sizeL
 by_cases h:l.length<=4
 ·rw [if_pos h,Nat.ble_eq_true_of_le h,cond_true]
  exact fold_cast l 1
 ·rw [if_neg h,show Nat.ble l.length 4=false by rw [Bool.eq_false_iff];exact fun e=>h (Nat.le_of_ble_eq_true e),cond_false]
theorem szN_step (l:List (List UInt8)) (i:Nat) (h:i < l.length):szN (l.take (i+1))=szN (l.take i)*sizeT (l.getD i []):=by
 unfold szN
 rw [<- take_snoc [] l i h,List.foldl_append]
 rfl
theorem szN_le (l:List (List UInt8)) (i:Nat):szN (l.take i)<=1152 ^ i:=by
 induction i with
 | zero=>simp [szN]
 | succ i ih=>
  rcases Nat.lt_or_ge i l.length with h | h
  ·rw [szN_step l i h,Nat.pow_succ]
   exact Nat.mul_le_mul ih (sizeT_le _)
  ·rw [List.take_of_length_le om]
   rw [List.take_of_length_le om]at ih
   rw [Nat.pow_succ]
   omega
theorem pow_small (i:Nat) (h:i<=4):1152 ^ i<=1761205026816:=by
 calc 1152 ^ i<=1152 ^ 4:=Nat.pow_le_pow_right om h
  _=1761205026816:=by decide
theorem cutX_len:∀(s p:List UInt8),(cutX p s).length<=s.length+1
 | [],p=>by simp [cutX]
 | b :: l,p=>by
  simp only [cutX]
  cases h:b == 120
  ·rw [cond_false];have:=cutX_len l (p ++ [b]);simp only [lenC];omega
  ·rw [cond_true];have:=cutX_len l [];simp only [lenC];omega
theorem cutX_drop (s p:List UInt8) (i:Nat) (h:i < s.length):cutX p (s.drop i)=if s.getD i 0=120 then p :: cutX [] (s.drop (i+1))else cutX (p ++ [s.getD i 0]) (s.drop (i+1)):=by
 rw [List.drop_eq_getElem_cons h]
 have e:s[i]=s.getD i 0:=by simp [gdE,h]
 simp only [cutX,e]
 by_cases h2:s.getD i 0=120
 ·rw [if_pos h2,show(s.getD i 0 == 120)=true from beq_iff_eq.2 h2,cond_true]
 ·rw [if_neg h2,show(s.getD i 0 == 120)=false from by rw [Bool.eq_false_iff];exact fun e=>h2 (beq_iff_eq.1 e),cond_false]
theorem c_spec_l2Cut (s:List UInt8) (hs:s.length<=1000):FunA B 131 [.str s,.int .u8 120] (fun rs o=>rs=[.own 0 0]/\o=[.arr .str (cutX [] s) 0 true]):=by
 refine wk Tryz.call131 Tryz.func131 rfl Tryz.ntmps131 fun C hC hP hT hfn hpin hfin hX=>wW ?_
 refine Run.R ?_
 refine Run.R ?_
 refine Run.R ?_
 refine Run.R ?_
 refine Run.loopI (X:=List (List UInt8)×List UInt8×Nat) (fun x=>⟨35,[(0,true,.v (.str s)),(1,true,.v (.int .u8 120)),(4,true,.v (.nils)),(5,true,.v (.own 0 0)),(6,true,.v (.str (x.2.1))),(7,true,.v (.int .i64 (x.2.2)))],[.arr .str (x.1) 0 true]⟩) (fun x=>(x.2.2<=s.length/\x.2.1.length<=x.2.2/\x.1.length<=x.2.2)/\x.1 ++ cutX x.2.1 (s.drop x.2.2)=cutX [] s) (fun x=>s.length - x.2.2) (([],[],0)) (⟨⟨nz0 _,by simp,by simp⟩,rfl⟩) ?_ ?_
 ·exact Le.s
 rintro⟨ps,p,i⟩ ⟨⟨hi,hpl,hpsl⟩,hE⟩ ih
 try simp only []
 simp only []at hi hpl hpsl hE
 have hm2:p.length<=maxLen:=by simp [maxLen];omega
 refine Run.R ?_
 refine Run.c ?_ ?_
 rotate_left
 ·intro h
  have h:i=s.length:=by rw [dfE]at h;omega
  subst h
  rw [List.drop_length]at hE
  refine Run.x ?_
  refine Run.R ?_
  refine Run.k [4] [0] ?_
  refine Run.r [4] ?_
  exact⟨rfl,by rw [<- hE];rfl⟩
 intro h
 have h:i < s.length:=by rw [dtE]at h;omega
 have hst:=cutX_drop s p i h
 refine Run.R ?_
 refine Run.c ?_ ?_
 ·intro h2
  have h2:s.getD i 0=120:=by
   have h2:(((s.getD i 0).toNat:Nat):Int)=120:=by simpa [-List.getD_eq_getElem?_getD] using h2
   apply UInt8.toNat.inj
   have:(120:UInt8).toNat=120:=rfl
   omega
  rw [if_pos h2]at hst
  refine Run.R ?_
  refine Run.R ?_
  refine Run.RW ?_
  refine Run.k [0,1,4,5,6,7] [0] ?_
  exact Run.j (ih ((ps ++ [p],[],i+1)) (⟨⟨h,by simp only [lenN];omega,by simp only [lenA,lenC,lenN];omega⟩,by rw [List.append_assoc,List.singleton_append,<- hst];exact hE⟩) mz)
 ·intro h2
  have h2:¬s.getD i 0=120:=by
   intro e
   rw [e]at h2
   simp at h2
  rw [if_neg h2]at hst
  have e2:((i:Int)+1).toNat=i+1:=by omega
  have hm1:p.length+(List.take (i+1 - i) (List.drop i s)).length<=maxLen:=by simp [maxLen];omega
  have e3:List.take (i+1 - i) (List.drop i s)=[s.getD i 0]:=by
   rw [show i+1 - i=1 by omega,List.drop_eq_getElem_cons h,gdE,geE h];rfl
  refine Run.nq ?_;refine Run.regionW hC (fun K hK=>?_);refine wWW ?_
  refine wE ?_;clear hK K
  rw [e2,e3]
  refine Run.RW ?_
  refine Run.k [0,1,4,5,6,7] [0] ?_
  exact Run.j (ih ((ps,p ++ [s.getD i 0],i+1)) (⟨⟨h,by simp only [lenA,lenC,lenN];omega,by simp only [];omega⟩,by rw [<- hst];exact hE⟩) mz)
set_option maxHeartbeats 4000000 in
theorem c_spec_SizeByName (s:List UInt8) (hs:s.length<=1000):FunA B 80 [.str s] (fun rs o=>rs=[.int .i64 (sizeL (cutX [] s))]/\o=[]):=by
 refine wk Tryz.call80 Tryz.func80 rfl Tryz.ntmps80 fun C hC hP hT hfn hpin hfin hX=>wW ?_
 refine Run.R ?_
 refine Run.g fun K hK=>?_
 refine FunA.e hP hT (c_spec_l2Cut s hs) ?_
 refine wE ?_;clear hK K
 have hl:=cutX_len s []
 have hsz:=sizeL_eq (cutX [] s)
 generalize cutX [] s=l at *
 refine Run.R ?_
 refine Run.R ?_
 refine Run.k [0,2,3,4,5] [0] ?_
 refine Run.loopI (X:=Nat) (fun i=>⟨52,[(0,true,.v (.str s)),(2,true,.v (.int .i64 0)),(3,true,.v (.own 0 0)),(4,true,.v (.int .i64 (((szN (l.take i):Nat))))),(5,true,.v (.int .i64 i))],[.arr .str (l) 0 true]⟩) (fun i=>i<=l.length/\i<=4) (fun i=>l.length - i) (0) (⟨nz0 _,by omega⟩) ?_ ?_
 ·exact Le.s
 rintro i ⟨hi,hi4⟩ ih
 try simp only []
 refine Run.R ?_
 refine Run.c ?_ ?_
 rotate_left
 ·intro h
  have h:i=l.length\/(i=4/\i < l.length):=by
   by_cases h1:i < l.length
   ·right
    refine⟨?_,h1⟩
    have e1:decide ((i:Int) < l.length)=true:=by simp;exact h1
    rw [e1]at h
    simp at h
    omega
   ·left;omega
  refine Run.x ?_
  refine Run.R ?_
  refine Run.c ?_ ?_
  ·intro h3
   have h3:4 < l.length:=by rw [dtE]at h3;omega
   refine Run.R ?_
   refine Run.k [2] [] ?_
   refine Run.r [2] ?_
   exact⟨by rw [hsz,if_neg om],rfl⟩
  ·intro h3
   have h3:l.length<=4:=by rw [dfE]at h3;omega
   have h4:i=l.length:=by omega
   subst h4
   rw [tkL]
   refine Run.R ?_
   refine Run.k [2] [] ?_
   refine Run.r [2] ?_
   exact⟨by rw [hsz,if_pos h3],rfl⟩
 intro h
 have h:i < l.length/\i < 4:=by
  by_cases h1:i < l.length
  ·have e1:decide ((i:Int) < l.length)=true:=by simp;exact h1
   rw [e1]at h
   simp at h
   omega
  ·have e1:decide ((i:Int) < l.length)=false:=by simp;omega
   rw [e1]at h
   simp at h
 obtain⟨h,h4⟩:=h
 have hst:=szN_step l i h
 have hb1:=szN_le l i
 have hb2:=szN_le l (i+1)
 have hb3:=pow_small i om
 have hb4:=pow_small (i+1) om
 refine Run.R ?_
 refine Run.R ?_
 generalize hq:l.getD i []=nm at *
 refine Run.R ?_
 refine Run.c ?_ ?_
 ·intro h
  have h:nm=[65,49]:=by simpa using h
  refine Run.R ?_
  have hz:sizeT nm=2:=by rw [h];decide
  rw [hz]at hst
  have hz2:IntKind.i64.wrap (((szN (l.take i):Nat):Int)*2)=((szN (l.take (i+1)):Nat):Int):=by rw [hst,wrap_id om];omega
  refine Run.g fun K hK=>?_
  rw [hz2]
  refine wF ?_;clear hK K
  refine Run.RW ?_
  refine Run.k [0,2,3,4,5] [0] ?_
  exact Run.j (ih (i+1) om mz)
 intro n0
 have n0:¬nm=[65,49]:=by simpa using n0
 refine Run.R ?_
 refine Run.c ?_ ?_
 ·intro h
  have h:nm=[65,50]:=by simpa using h
  refine Run.R ?_
  have hz:sizeT nm=6:=by rw [h];decide
  rw [hz]at hst
  have hz2:IntKind.i64.wrap (((szN (l.take i):Nat):Int)*6)=((szN (l.take (i+1)):Nat):Int):=by rw [hst,wrap_id om];omega
  refine Run.g fun K hK=>?_
  rw [hz2]
  refine wF ?_;clear hK K
  refine Run.RW ?_
  refine Run.k [0,2,3,4,5] [0] ?_
  exact Run.j (ih (i+1) om mz)
 intro n1
 have n1:¬nm=[65,50]:=by simpa using n1
 refine Run.R ?_
 refine Run.c ?_ ?_
 ·intro h
  have h:nm=[65,51]:=by simpa using h
  refine Run.R ?_
  have hz:sizeT nm=24:=by rw [h];decide
  rw [hz]at hst
  have hz2:IntKind.i64.wrap (((szN (l.take i):Nat):Int)*24)=((szN (l.take (i+1)):Nat):Int):=by rw [hst,wrap_id om];omega
  refine Run.g fun K hK=>?_
  rw [hz2]
  refine wF ?_;clear hK K
  refine Run.RW ?_
  refine Run.k [0,2,3,4,5] [0] ?_
  exact Run.j (ih (i+1) om mz)
 intro n2
 have n2:¬nm=[65,51]:=by simpa using n2
 refine Run.R ?_
 refine Run.c ?_ ?_
 ·intro h
  have h:nm=[65,52]:=by simpa using h
  refine Run.R ?_
  have hz:sizeT nm=120:=by rw [h];decide
  rw [hz]at hst
  have hz2:IntKind.i64.wrap (((szN (l.take i):Nat):Int)*120)=((szN (l.take (i+1)):Nat):Int):=by rw [hst,wrap_id om];omega
  refine Run.g fun K hK=>?_
  rw [hz2]
  refine wF ?_;clear hK K
  refine Run.RW ?_
  refine Run.k [0,2,3,4,5] [0] ?_
  exact Run.j (ih (i+1) om mz)
 intro n3
 have n3:¬nm=[65,52]:=by simpa using n3
 refine Run.R ?_
 refine Run.c ?_ ?_
 ·intro h
  have h:nm=[66,50]:=by simpa using h
  refine Run.R ?_
  have hz:sizeT nm=8:=by rw [h];decide
  rw [hz]at hst
  have hz2:IntKind.i64.wrap (((szN (l.take i):Nat):Int)*8)=((szN (l.take (i+1)):Nat):Int):=by rw [hst,wrap_id om];omega
  refine Run.g fun K hK=>?_
  rw [hz2]
  refine wF ?_;clear hK K
  refine Run.RW ?_
  refine Run.k [0,2,3,4,5] [0] ?_
  exact Run.j (ih (i+1) om mz)
 intro n4
 have n4:¬nm=[66,50]:=by simpa using n4
 refine Run.R ?_
 refine Run.c ?_ ?_
 ·intro h
  have h:nm=[66,51]:=by simpa using h
  refine Run.c ?_ ?_
  rotate_left
  ·intro h9;rw [h]at h9;exact absurd h9 (by decide)
  intro _
  refine Run.R ?_
  have hz:sizeT nm=48:=by rw [h];decide
  rw [hz]at hst
  have hz2:IntKind.i64.wrap (((szN (l.take i):Nat):Int)*48)=((szN (l.take (i+1)):Nat):Int):=by rw [hst,wrap_id om];omega
  refine Run.g fun K hK=>?_
  rw [hz2]
  refine wF ?_;clear hK K
  refine Run.RW ?_
  refine Run.k [0,2,3,4,5] [0] ?_
  exact Run.j (ih (i+1) om mz)
 intro n5
 have n5:¬nm=[66,51]:=by simpa using n5
 refine Run.R ?_
 refine Run.c ?_ ?_
 ·intro h
  have h:nm=[67,51]:=by simpa using h
  refine Run.R ?_
  have hz:sizeT nm=48:=by rw [h];decide
  rw [hz]at hst
  have hz2:IntKind.i64.wrap (((szN (l.take i):Nat):Int)*48)=((szN (l.take (i+1)):Nat):Int):=by rw [hst,wrap_id om];omega
  refine Run.g fun K hK=>?_
  rw [hz2]
  refine wF ?_;clear hK K
  refine Run.RW ?_
  refine Run.k [0,2,3,4,5] [0] ?_
  exact Run.j (ih (i+1) om mz)
 intro n6
 have n6:¬nm=[67,51]:=by simpa using n6
 refine Run.R ?_
 refine Run.c ?_ ?_
 ·intro h
  have h:nm=[66,52]:=by simpa using h
  refine Run.c ?_ ?_
  rotate_left
  ·intro h9;rw [h]at h9;exact absurd h9 (by decide)
  intro _
  refine Run.R ?_
  have hz:sizeT nm=384:=by rw [h];decide
  rw [hz]at hst
  have hz2:IntKind.i64.wrap (((szN (l.take i):Nat):Int)*384)=((szN (l.take (i+1)):Nat):Int):=by rw [hst,wrap_id om];omega
  refine Run.g fun K hK=>?_
  rw [hz2]
  refine wF ?_;clear hK K
  refine Run.RW ?_
  refine Run.k [0,2,3,4,5] [0] ?_
  exact Run.j (ih (i+1) om mz)
 intro n7
 have n7:¬nm=[66,52]:=by simpa using n7
 refine Run.R ?_
 refine Run.c ?_ ?_
 ·intro h
  have h:nm=[67,52]:=by simpa using h
  refine Run.R ?_
  have hz:sizeT nm=384:=by rw [h];decide
  rw [hz]at hst
  have hz2:IntKind.i64.wrap (((szN (l.take i):Nat):Int)*384)=((szN (l.take (i+1)):Nat):Int):=by rw [hst,wrap_id om];omega
  refine Run.g fun K hK=>?_
  rw [hz2]
  refine wF ?_;clear hK K
  refine Run.RW ?_
  refine Run.k [0,2,3,4,5] [0] ?_
  exact Run.j (ih (i+1) om mz)
 intro n8
 have n8:¬nm=[67,52]:=by simpa using n8
 refine Run.R ?_
 refine Run.c ?_ ?_
 ·intro h
  have h:nm=[68,52]:=by simpa using h
  refine Run.R ?_
  have hz:sizeT nm=192:=by rw [h];decide
  rw [hz]at hst
  have hz2:IntKind.i64.wrap (((szN (l.take i):Nat):Int)*192)=((szN (l.take (i+1)):Nat):Int):=by rw [hst,wrap_id om];omega
  refine Run.g fun K hK=>?_
  rw [hz2]
  refine wF ?_;clear hK K
  refine Run.RW ?_
  refine Run.k [0,2,3,4,5] [0] ?_
  exact Run.j (ih (i+1) om mz)
 intro n9
 have n9:¬nm=[68,52]:=by simpa using n9
 refine Run.R ?_
 refine Run.c ?_ ?_
 ·intro h
  have h:nm=[70,52]:=by simpa using h
  refine Run.R ?_
  have hz:sizeT nm=1152:=by rw [h];decide
  rw [hz]at hst
  have hz2:IntKind.i64.wrap (((szN (l.take i):Nat):Int)*1152)=((szN (l.take (i+1)):Nat):Int):=by rw [hst,wrap_id om];omega
  refine Run.g fun K hK=>?_
  rw [hz2]
  refine wF ?_;clear hK K
  refine Run.RW ?_
  refine Run.k [0,2,3,4,5] [0] ?_
  exact Run.j (ih (i+1) om mz)
 intro n10
 have n10:¬nm=[70,52]:=by simpa using n10
 refine Run.R ?_
 refine Run.c ?_ ?_
 ·intro h
  have h:nm=[71,50]:=by simpa using h
  refine Run.R ?_
  have hz:sizeT nm=12:=by rw [h];decide
  rw [hz]at hst
  have hz2:IntKind.i64.wrap (((szN (l.take i):Nat):Int)*12)=((szN (l.take (i+1)):Nat):Int):=by rw [hst,wrap_id om];omega
  refine Run.g fun K hK=>?_
  rw [hz2]
  refine wF ?_;clear hK K
  refine Run.RW ?_
  refine Run.k [0,2,3,4,5] [0] ?_
  exact Run.j (ih (i+1) om mz)
 intro n11
 have n11:¬nm=[71,50]:=by simpa using n11
 have hz:sizeT nm=0:=by
  unfold sizeT
  split
  ·rename_i t ht
   have hm:=List.mem_of_find?_eq_some ht
   have hn:t.1=nm:=by simpa using List.find?_some ht
   subst hn
   have:t.2.2=0\/t.1∈[[65,49],[65,50],[65,51],[65,52],[66,50],[66,51],[67,51],[66,52],[67,52],[68,52],[70,52],[71,50]]:=(by decide:∀ t∈tyL,t.2.2=0\/t.1∈[[65,49],[65,50],[65,51],[65,52],[66,50],[66,51],[67,51],[66,52],[67,52],[68,52],[70,52],[71,50]]) t hm
   rcases this with h | h
   ·exact h
   ·exfalso;revert h;simp [n0,n1,n2,n3,n4,n5,n6,n7,n8,n9,n10,n11]
  ·rfl
 rw [hz]at hst
 have hz2:IntKind.i64.wrap (((szN (l.take i):Nat):Int)*0)=((szN (l.take (i+1)):Nat):Int):=by rw [hst,wrap_id om];omega
 refine Run.g fun K hK=>?_
 rw [hz2]
 refine wF ?_;clear hK K
 refine Run.RW ?_
 refine Run.k [0,2,3,4,5] [0] ?_
 exact Run.j (ih (i+1) om mz)
theorem c_impl_sizeOfType (nm:List UInt8):FunA B 196 [.str nm] (fun rs o=>rs=[.int .i64 (sizeT nm:Nat)]/\o=[]):=by
 refine wk Tryz.call196 Tryz.func196 rfl Tryz.ntmps196 fun C hC hP hT hfn hpin hfin hX=>wW ?_
 refine Run.R ?_
 refine Run.R ?_
 refine Run.R ?_
 refine Run.c ?_ ?_
 ·intro h
  have h:nm=[65,49]:=by simpa using h
  refine Run.R ?_
  have hz:sizeT nm=2:=by rw [h];decide
  refine Run.r [2] ?_
  exact⟨by rw [hz];rfl,rfl⟩
 intro n0
 have n0:¬nm=[65,49]:=by simpa using n0
 refine Run.R ?_
 refine Run.c ?_ ?_
 ·intro h
  have h:nm=[65,50]:=by simpa using h
  refine Run.R ?_
  have hz:sizeT nm=6:=by rw [h];decide
  refine Run.r [2] ?_
  exact⟨by rw [hz];rfl,rfl⟩
 intro n1
 have n1:¬nm=[65,50]:=by simpa using n1
 refine Run.R ?_
 refine Run.c ?_ ?_
 ·intro h
  have h:nm=[65,51]:=by simpa using h
  refine Run.R ?_
  have hz:sizeT nm=24:=by rw [h];decide
  refine Run.r [2] ?_
  exact⟨by rw [hz];rfl,rfl⟩
 intro n2
 have n2:¬nm=[65,51]:=by simpa using n2
 refine Run.R ?_
 refine Run.c ?_ ?_
 ·intro h
  have h:nm=[65,52]:=by simpa using h
  refine Run.R ?_
  have hz:sizeT nm=120:=by rw [h];decide
  refine Run.r [2] ?_
  exact⟨by rw [hz];rfl,rfl⟩
 intro n3
 have n3:¬nm=[65,52]:=by simpa using n3
 refine Run.R ?_
 refine Run.c ?_ ?_
 ·intro h
  have h:nm=[66,50]:=by simpa using h
  refine Run.R ?_
  have hz:sizeT nm=8:=by rw [h];decide
  refine Run.r [2] ?_
  exact⟨by rw [hz];rfl,rfl⟩
 intro n4
 have n4:¬nm=[66,50]:=by simpa using n4
 refine Run.R ?_
 refine Run.c ?_ ?_
 ·intro h
  have h:nm=[66,51]:=by simpa using h
  refine Run.c ?_ ?_
  rotate_left
  ·intro h9;rw [h]at h9;exact absurd h9 (by decide)
  intro _
  refine Run.R ?_
  have hz:sizeT nm=48:=by rw [h];decide
  refine Run.r [2] ?_
  exact⟨by rw [hz];rfl,rfl⟩
 intro n5
 have n5:¬nm=[66,51]:=by simpa using n5
 refine Run.R ?_
 refine Run.c ?_ ?_
 ·intro h
  have h:nm=[67,51]:=by simpa using h
  refine Run.R ?_
  have hz:sizeT nm=48:=by rw [h];decide
  refine Run.r [2] ?_
  exact⟨by rw [hz];rfl,rfl⟩
 intro n6
 have n6:¬nm=[67,51]:=by simpa using n6
 refine Run.R ?_
 refine Run.c ?_ ?_
 ·intro h
  have h:nm=[66,52]:=by simpa using h
  refine Run.c ?_ ?_
  rotate_left
  ·intro h9;rw [h]at h9;exact absurd h9 (by decide)
  intro _
  refine Run.R ?_
  have hz:sizeT nm=384:=by rw [h];decide
  refine Run.r [2] ?_
  exact⟨by rw [hz];rfl,rfl⟩
 intro n7
 have n7:¬nm=[66,52]:=by simpa using n7
 refine Run.R ?_
 refine Run.c ?_ ?_
 ·intro h
  have h:nm=[67,52]:=by simpa using h
  refine Run.R ?_
  have hz:sizeT nm=384:=by rw [h];decide
  refine Run.r [2] ?_
  exact⟨by rw [hz];rfl,rfl⟩
 intro n8
 have n8:¬nm=[67,52]:=by simpa using n8
 refine Run.R ?_
 refine Run.c ?_ ?_
 ·intro h
  have h:nm=[68,52]:=by simpa using h
  refine Run.R ?_
  have hz:sizeT nm=192:=by rw [h];decide
  refine Run.r [2] ?_
  exact⟨by rw [hz];rfl,rfl⟩
 intro n9
 have n9:¬nm=[68,52]:=by simpa using n9
 refine Run.R ?_
 refine Run.c ?_ ?_
 ·intro h
  have h:nm=[70,52]:=by simpa using h
  refine Run.R ?_
  have hz:sizeT nm=1152:=by rw [h];decide
  refine Run.r [2] ?_
  exact⟨by rw [hz];rfl,rfl⟩
 intro n10
 have n10:¬nm=[70,52]:=by simpa using n10
 refine Run.R ?_
 refine Run.c ?_ ?_
 ·intro h
  have h:nm=[71,50]:=by simpa using h
  refine Run.R ?_
  have hz:sizeT nm=12:=by rw [h];decide
  refine Run.r [2] ?_
  exact⟨by rw [hz];rfl,rfl⟩
 intro n11
 have n11:¬nm=[71,50]:=by simpa using n11
 have hz:sizeT nm=0:=by
  unfold sizeT
  split
  ·rename_i t ht
   have hm:=List.mem_of_find?_eq_some ht
   have hn:t.1=nm:=by simpa using List.find?_some ht
   subst hn
   have:t.2.2=0\/t.1∈[[65,49],[65,50],[65,51],[65,52],[66,50],[66,51],[67,51],[66,52],[67,52],[68,52],[70,52],[71,50]]:=(by decide:∀ t∈tyL,t.2.2=0\/t.1∈[[65,49],[65,50],[65,51],[65,52],[66,50],[66,51],[67,51],[66,52],[67,52],[68,52],[70,52],[71,50]]) t hm
   rcases this with h | h
   ·exact h
   ·exfalso;revert h;simp [n0,n1,n2,n3,n4,n5,n6,n7,n8,n9,n10,n11]
  ·rfl
 refine Run.R ?_
 refine Run.r [2] ?_
 exact⟨by rw [hz];rfl,rfl⟩
theorem pick_ent {c:LL} {s:LI} {i j:Nat} (hi:i < s.length) (hj:j < s.length):ent (pick c s) i j=ent c (s.getD i 0).toNat (s.getD j 0).toNat:=by
 simp [ent,pick,gdE,hi,hj]
theorem pick_cartan {c:LL} (hc:CartanP c) {s:LI} (hs:setP c.length s) (hne:s≠[]):CartanP (pick c s):=by
 have hl:=set_len hs
 have hn:=hc.2.1
 have hp:0 < s.length:=List.length_pos_iff.2 hne
 have e:(pick c s).length=s.length:=by simp [pick]
 refine⟨by omega,by omega,fun i hi=>?_,fun i j hi hj hb=>?_⟩
 ·rw [e]at hi ⊢
  simp [pick,gdE,hi]
 ·rw [e]at hi hj
  obtain⟨a1,a2,_⟩:=hs i hi
  obtain⟨b1,b2,_⟩:=hs j hj
  refine hc.2.2.2 (s.getD i 0).toNat (s.getD j 0).toNat om om ?_
  rcases hb with⟨h1,h2⟩ | ⟨h1,h2⟩
  ·refine .inl ⟨by rw [h1],?_⟩
   rwa [pick_ent hi hj]at h2
  ·refine .inr ⟨fun h=>?_,?_⟩
   ·rcases Nat.lt_or_ge i j with q | q
    ·have:=setP_mono hs i j q hj;omega
    ·have:=setP_mono hs j i om hi;omega
   ·rwa [pick_ent hi hj,pick_ent hj hi]at h2
theorem map_set {f:Int->Int} (l:LI) (m:Nat) (h:m < l.length):((l.take m).map f ++ l.drop m).set m (f (l.getD m 0))=(l.take (m+1)).map f ++ l.drop (m+1):=by
 rw [<- take_snoc 0 l m h,List.set_append,if_neg (by simp;omega)]
 have:l.drop m=l.getD m 0 :: l.drop (m+1):=by
  rw [List.drop_eq_getElem_cons h];simp [gdE,h]
 rw [this]
 simp [Nat.min_eq_left (Nat.le_of_lt h)]
end Go.Proofs.YtcinngodeoidnaaGreatDoor
