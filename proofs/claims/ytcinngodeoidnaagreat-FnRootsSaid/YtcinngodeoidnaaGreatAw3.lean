/- Operations, the last of them; the walk through a region. -/
import Derived.Test.YtcinngodeoidnaaGreatAw2
import Derived.OneCell
import Derived.Laws.CopyRow
import Derived.Laws.IdiomCopy
import Derived.MapKept
set_option linter.unusedVariables false
set_option linter.unusedSimpArgs false
namespace Go.Aw
open Go
def copyV (e?:Option E) (d s:AV) (obs:List O):Res:=
 match e?,d with
 | some .int,.own id g=>match obs[id]? with
  | some (.arr .int xs g' nn)=>if g=g' then
    match srcL .int s obs (some id) with
    | some zs=>.ok True (.int .i64 (min zs.length xs.length:Nat)) (obs.set id (.arr .int (zs.take xs.length ++ xs.drop zs.length) g nn))
    | none=>.bad
   else .bad
  | _=>.bad
 | some .int,.asl id g=>match obs[id]? with
  | some (.arr .vec [ys] g' nn)=>if g=g' then
    match srcL .int s obs (some id) with
    | some zs=>.ok True (.int .i64 (min zs.length 4:Nat)) (obs.set id (.arr .vec [zs.take 4 ++ ys.drop zs.length] g nn))
    | none=>.bad
   else .bad
  | _=>.bad
 | _,_=>.bad
section sound
variable {C:Ctx} {obs:List O} {w:World} {ρ:Nat->Value}
theorem run_bounds {len cap:Nat} {isS:Bool} {lo hi:Option AV} {l h:Int} {lv hv:Option Value} (hlv:lv.isSome=lo.isSome) (hhv:hv.isSome=hi.isSome)
  (hlo:∀ x v,lo=some x->lv=some v->AVRel (C.V w obs ρ) obs ρ x v) (hhi:∀ x v,hi=some x->hv=some v->AVRel (C.V w obs ρ) obs ρ x v)
  (h1:bnd 0 lo=some l) (h2:bnd len hi=some h) (h0:0<=l) (hlh:l<=h) (hc:h<=cap) (w':World) :
  (Instr.sliceBounds isS len cap lv hv none).run C.P w'=.ok (l.toNat,h.toNat,cap) w':=by
 have hh0:0<=h:=by omega
 have el:(match lv with | some v=>Instr.sliceBound v h.toNat .sliceB | none=>pure 0:Sem Nat).run C.P w'=.ok l.toNat w':=by
  cases lo with
  | none=>
   simp [bnd]at h1
   subst h1
   cases lv with
   | none=>rfl
   | some v=>simp at hlv
  | some x=>
   cases lv with
   | none=>simp at hlv
   | some v=>
    have:=hlo x v rfl rfl
    unfold bnd at h1
    split at h1
    ·cases ‹some x=none›
    ·rename_i k n heq
     cases heq
     cases h1
     cases this
     have hle:l<=(h.toNat:Int):=by omega
     exact run_sliceBound _ _ _ _ _ h0 hle
    ·cases h1
 have eh:(match hv with | some v=>Instr.sliceBound v cap (if isS then .sliceAcap else .sliceAlen) | none=>pure len:Sem Nat).run C.P w'=.ok h.toNat w':=by
  cases hi with
  | none=>
   simp [bnd]at h2
   subst h2
   cases hv with
   | none=>simp
   | some v=>simp at hhv
  | some x=>
   cases hv with
   | none=>simp at hhv
   | some v=>
    have:=hhi x v rfl rfl
    unfold bnd at h2
    split at h2
    ·cases ‹some x=none›
    ·rename_i k n heq
     cases heq
     cases h2
     cases this
     exact run_sliceBound _ _ _ _ _ hh0 hc
    ·cases h2
 unfold Instr.sliceBounds
 cases hv with
 | none=>
  simp only [Option.isSome_none]at hhv
  simp only [Sem.run_bind,Sem.run_pure,Result.andThen_ok]at eh ⊢
  cases eh
  cases lv with
  | none=>simp at el ⊢;exact el
  | some v=>simp only [Option.isSome_none]at el ⊢;simp [el]
 | some v=>
  simp only [Sem.run_bind,Sem.run_pure,Result.andThen_ok]at eh ⊢
  rw [eh]
  cases lv with
  | none=>simp at el ⊢;exact el
  | some v=>simp [el]
theorem sliceV_sound (hC:C.Ok) {t:TypeId} {x:AV} {lo hi:Option AV} {vc:Prop} {r:AV} {o:List O} (ht:(∃ s,x=.str s/\C.bt t=some .str)\/∃ e,C.Γ t=some e/\((∃ f e' xs,x=.sl f e' xs/\e'.size=e.size)\/(∃ l xs,x=.lr l xs/\e.size=1)))
  {u:Value} {lv hv:Option Value} (hlv:lv.isSome=lo.isSome) (hhv:hv.isSome=hi.isSome)
  (hx:AVRel (C.V w obs ρ) obs ρ x u) (hlo:∀ x v,lo=some x->lv=some v->AVRel (C.V w obs ρ) obs ρ x v) (hhi:∀ x v,hi=some x->hv=some v->AVRel (C.V w obs ρ) obs ρ x v)
  (h:sliceV x lo hi obs=.ok vc r o) (hvc:vc) :
  o=obs/\∃ z,AVRel (C.V w obs ρ) obs ρ r z/\∀ w',(Instr.sliceAt t u lv hv none).run C.P w'=.ok z w':=by
 have core:∀(f:Bool) (e e':E) (xs:List e'.D) (l h:Int),C.Γ t=some e->e'.size=e.size->SlRel (C.V w obs ρ) f e' xs u->bnd 0 lo=some l->bnd xs.length hi=some h->0<=l->l<=h->h<=xs.length ->
   ∃ z,SlRel (C.V w obs ρ) f e' ((xs.drop l.toNat).take (h.toNat - l.toNat)) z/\∀ w',(Instr.sliceAt t u lv hv none).run C.P w'=.ok z w':=by
  intro f e e' xs l h he hse hs h1 h2 h0 hlh hle
  obtain⟨hu,i,hinf,_,hsz,_⟩:=hC.sl t e he
  have hs':=hs
  obtain⟨base,cap,rfl,hc1,hc2,_⟩:=hs'
  have hb:=run_bounds (C:=C) (isS:=true) (cap:=cap) hlv hhv hlo hhi h1 h2 h0 hlh om
  refine⟨.slice (if cap=l.toNat then base else base.map (·.add (l.toNat*e.size))) (h.toNat - l.toNat) (cap - l.toNat),?_,fun w'=>?_⟩
  ·refine SlRel.piece hs om om om hc2 ?_
   intro hlt
   rw [if_neg om,hse]
  ·simp [Instr.sliceAt,run_underlying hu,Instr.slice,hb w',sizeOf,typeInfo,hinf,hsz]
 unfold sliceV at h
 split at h
 ·rename_i f e' xs
  split at h
  case h_2=>cases h
  rename_i l hh h1 h2
  cases h
  obtain⟨h0,hlh,hle⟩:=hvc
  rcases ht with⟨s,hs,_⟩ | ⟨e,he,⟨f2,e2,xs2,heq,hse⟩ | ⟨l2,xs2,heq,_⟩⟩
  ·cases hs
  ·cases heq
   obtain⟨z,k1,k2⟩:=core f e e' xs l hh he hse hx h1 h2 h0 hlh hle
   exact⟨rfl,z,k1,k2⟩
  ·cases heq
 ·rename_i l0 xs
  split at h
  case h_2=>cases h
  rename_i l hh h1 h2
  cases h
  obtain⟨h0,hlh,hle⟩:=hvc
  rcases ht with⟨s,hs,_⟩ | ⟨e,he,⟨f2,e2,xs2,heq,hse⟩ | ⟨l2,xs2,heq,hse⟩⟩
  ·cases hs
  ·cases heq
  ·cases heq
   obtain⟨z,k1,k2⟩:=core true e .int xs l hh he (by rw [hse];rfl) (LRowRel.toRow hx).toSl h1 h2 h0 hlh hle
   exact⟨rfl,z,k1,k2⟩
 ·rename_i s
  split at h
  case h_2=>cases h
  rename_i l hh h1 h2
  cases h
  obtain⟨h0,hlh,hle⟩:=hvc
  rcases ht with⟨s',hs,hb⟩ | ⟨e,he,⟨f2,e2,xs2,heq,hse⟩ | ⟨l2,xs2,heq,hse⟩⟩
  ·cases hs
   obtain⟨hu,_⟩:=hC.bt t _ hb
   simp only [BT.desc]at hu
   simp only [AVRel]at hx
   subst hx
   have esz:(⟨s.toArray⟩:ByteArray).size=s.length:=by simp [ByteArray.size]
   have hbd:=run_bounds (C:=C) (isS:=false) (cap:=s.length) hlv hhv hlo hhi h1 h2 h0 hlh om
   refine⟨rfl,.string (ByteArray.extract ⟨s.toArray⟩ l.toNat hh.toNat),?_,fun w'=>?_⟩
   ·simp only [AVRel]
    congr 1
    apply bytes_ext
    simp [ByteArray.data_extract]
   ·simp only [Instr.sliceAt,Instr.slice,Sem.run_bind,run_underlying hu,Result.andThen_ok]
    simp only [Option.isSome_none,Bool.false_eq_true,if_false,esz,Sem.run_bind,hbd w',Result.andThen_ok]
    simp
  ·cases heq
  ·cases heq
 ·cases h
where
 bytes_ext {a b:ByteArray} (h:a.data.toList=b.data.toList):a=b:=by
  cases a;cases b;congr 1;exact Array.ext' h
def slice3V (e?:Option E) (x:AV) (lo hi:Option AV) (mx:AV) (obs:List O):Res:=
 match e?,lo,hi,x,mx with
 | some _,none,some (.int _ n),.own id g,.int _ m=>match obs[id]? with
  | some (.ap q ys true g' _)=>if g=g' then .ok (n=ys.length/\m=ys.length) (.hdr (some q) ys.length) obs else .bad
  | _=>.bad
 | _,_,_,_,_=>.bad
theorem run_bound_eq (P:Program) (k:IntKind) (n m:Nat) (r:BoundsCode) (w:World) (h:n<=m):(Instr.sliceBound (.int k n) m r).run P w=.ok n w:=by
 have hn:0<=(n:Int)/\(n:Int)<=(m:Int):=by omega
 simp [Instr.sliceBound,asIntOf,hn]
theorem slice3V_sound (hC:C.Ok) {t:TypeId} {x mx:AV} {lo hi:Option AV} {vc:Prop} {r:AV} {o:List O} (rr:WRel C obs w ρ)
  {u mv:Value} {lv hv:Option Value} (hlv:lv.isSome=lo.isSome) (hhv:hv.isSome=hi.isSome)
  (hx:AVRel (C.V w obs ρ) obs ρ x u) (hm:AVRel (C.V w obs ρ) obs ρ mx mv) (hhi:∀ x v,hi=some x->hv=some v->AVRel (C.V w obs ρ) obs ρ x v)
  (h:slice3V (C.Γ t) x lo hi mx obs=.ok vc r o) (hvc:vc) :
  o=obs/\∃ z,AVRel (C.V w obs ρ) obs ρ r z/\∀ w',(Instr.sliceAt t u lv hv (some mv)).run C.P w'=.ok z w':=by
 unfold slice3V at h
 split at h
 case h_2=>cases h
 rename_i _ e k n id g k' m he
 split at h
 case h_2=>cases h
 rename_i q ys g' nn ho
 split at h
 case isFalse=>cases h
 rename_i hg
 subst hg
 cases h
 obtain⟨rfl,rfl⟩:=hvc
 obtain⟨hu,i,hinf,_,hsz,_⟩:=hC.sl t e he
 obtain⟨_,cs,hown,henc,_,_,_,_,hfr⟩:=own_ap rr ho hx
 obtain⟨hb,hc⟩:=hfr rfl
 rcases hown.2 with⟨hn,_⟩ | ⟨b,cap,cur,hv2,_,_,hcap,_⟩
 ·rw [hn]at hb;simp [Value.ownBlock]at hb
 rw [hv2]at hb
 have hbq:b=hdB q:=by simpa [Value.ownBlock] using hb
 subst hbq
 simp only [AVRel]at hm
 subst hm
 have hvs:hv=some (.int k ys.length):=by
  cases hv with
  | none=>simp at hhv
  | some v=>have:=hhi _ v rfl rfl;simp only [AVRel]at this;rw [this]
 have hls:lv=none:=by
  cases lv with
  | none=>rfl
  | some v=>simp at hlv
 subst hvs hls hv2
 refine⟨rfl,.slice (some ⟨hdB q,0,none⟩) ys.length (hdC q),rfl,fun w'=>?_⟩
 have e1:=run_bound_eq C.P k' ys.length cap .slice3Acap w' hcap
 have e2:=run_bound_eq C.P k ys.length ys.length .slice3B w' (Nat.le_refl _)
 simp [Instr.sliceAt,run_underlying hu,Instr.slice,Instr.sliceBounds,e1,e2,sizeOf,typeInfo,hinf,hsz,hc,Addr.add]
theorem enc_ints {V:Vw} {xs:List Int} {cs:List Value} (h:Enc V .int xs cs):cs=xs.map (Value.int .i64):=by
 apply List.ext_getElem?
 intro i
 have hl:=h.1
 simp only [E.size,Nat.mul_one]at hl
 by_cases hi:i < xs.length
 ·obtain⟨u,hu,hc⟩:=h.2 i hi
  have h0:=hc 0 (by simp [E.size])
  cases hu
  simp [E.size,Value.cells]at h0
  rw [h0]
  simp [hi]
 ·rw [geN om,geN (by simp;omega)]
theorem ints_enc {V:Vw} (xs:List Int):Enc V .int xs (xs.map (Value.int .i64)):=
 ⟨by simp [E.size],fun i hi=>⟨_,rfl,fun j hj=>by
  have:j=0:=by simp [E.size]at hj;omega
  subst this
  simp [E.size,Value.cells,hi]⟩⟩
theorem copyV_sound (hC:C.Ok) {t t2 ty:TypeId} {x y:AV} {vc:Prop} {r:AV} {o:List O} (rr:WRel C obs w ρ) {u v:Value}
  (hx:AVRel (C.V w obs ρ) obs ρ x u) (hy:AVRel (C.V w obs ρ) obs ρ y v) (h:copyV (C.Γ t) x y obs=.ok vc r o) :
  ∃ z w',(Builtin.copy_ #[t,t2] ty #[u,v]).run C.P w=.ok z w'/\Step C w w' obs o ρ ρ/\AVRel (C.V w' o ρ) o ρ r z:=by
 unfold copyV at h
 split at h
 case h_3=>cases h
 case h_2=>
  rename_i _ id g he
  split at h
  case h_2=>cases h
  rename_i ys g' nn ho
  split at h
  case isFalse=>cases h
  rename_i hg
  subst hg
  split at h
  case h_2=>cases h
  rename_i zs hz
  cases h
  obtain⟨ht,i,hi,_,hsize,_⟩:=hC.sl t .int he
  have hsz:(C.P.info? (C.tid .int)).map (·.size)=some 1:=by rw [hi];simp [hsize,E.size]
  obtain⟨a0,len,cap,hρ,hu⟩:=(hx.2 g (by simp [genOf,ho,O.gen])).2 rfl
  obtain⟨cs,hown,henc,hnn,hml⟩:=rr.os id _ ho
  rw [hρ]at hown
  rcases hown.2 with⟨hh,_⟩ | ⟨b,c2,cur,hh,hb0,hgc,hn,hcap,hcs,htk⟩
  ·cases hh
  cases hh
  obtain⟨uu,⟨huu,h4⟩,hcell4⟩:∃ uu,ElRel (C.V w obs ρ) .vec ys uu/\∀ j,j < 4->cs[0*4+j]? = uu.cells[j]?:=by
   obtain⟨uu,k1,k2⟩:=henc.2 0 (by simp)
   exact⟨uu,k1,k2⟩
  have hcl4:cs.length=4:=by have:=henc.1;simpa [E.size] using this
  have hcsy:cs=ys.map (Value.int .i64):=by
   apply List.ext_getElem?
   intro j
   by_cases hj:j < 4
   ·have:=hcell4 j hj
    rw [Nat.zero_mul,Nat.zero_add]at this
    rw [this,huu]
    simp [Value.cells]
   ·rw [geN om,geN (by simp;omega)]
  simp only [lenC,lenN,Nat.zero_add,E.size,Nat.one_mul]at hn hcs htk
  rw [hcsy]at htk
  have hfp:fpo (ρ id) (.arr .vec [ys] g nn) b:=by simp [fpo,hρ,Value.ownBlock]
  have hρe:(fun i=>if i=id then ρ id else ρ i)=ρ:=by funext i;split<;>simp_all
  have l4:(zs.take 4 ++ ys.drop zs.length).length=4:=by simp;omega
  rcases srcL_sound rr hy hz with⟨hz0,b2,c,hv⟩ | ⟨a,c,news,hv,hcell,hone,henc2⟩
  ·subst hz0
   have e:obs.set id (.arr .vec [([]:List Int).take 4 ++ ys.drop ([]:List Int).length] g nn)=obs:=by
    simp only [List.take_nil,List.nil_append,lenN,List.drop_zero]
    apply List.ext_getElem?
    intro j
    by_cases hj:id=j
    ·subst hj;rw [List.getElem?_set_self (geS.1 ho).1,ho]
    ·rw [List.getElem?_set_ne hj]
   rw [e,hu,hv]
   exact⟨_,w,run_copy_none (P:=C.P) w t t2 ty (C.tid .int) _ _ _ _ _ _ ht hsz (by simp),Step.refl rr,rfl⟩
  ·have hn2:=enc_ints henc2
   subst hn2
   have hlen:((zs.map (Value.int .i64)).take 4).length=Nat.min zs.length 4:=by rw [List.length_take,List.length_map,Nat.min_comm]
   have hrun:=run_copy_row (P:=C.P) w t t2 ty (C.tid .int) b 0 4 4 a zs.length c cur (C.tid .vec) ((zs.map (Value.int .i64)).take 4) ht hsz hgc hlen
    (fun j q hq=>by
     rw [List.getElem?_take]at hq
     split at hq
     ·exact hcell j q hq
     ·cases hq) (by rw [hlen];have:Nat.min zs.length 4<=4:=Nat.min_le_right ..;omega) (fun q hq=>hone q (List.mem_of_mem_take hq))
   rw [hlen]at hrun
   rw [hu,hv]
   refine⟨_,_,hrun,?_,rfl⟩
   have hcurl:cur.toList=ys.map (Value.int .i64) ++ cur.toList.drop 4:=by rw [<- htk,List.take_append_drop]
   have hnew:(cur.toList.take 0 ++ (zs.map (Value.int .i64)).take 4 ++ cur.toList.drop (0+Nat.min zs.length 4))=(zs.take 4 ++ ys.drop zs.length).map (Value.int .i64) ++ cur.toList.drop 4:=by
    rw [List.take_zero,List.nil_append,Nat.zero_add,List.map_append,List.map_take,List.append_assoc]
    congr 1
    by_cases hz4:zs.length<=4
    ·have e1:Nat.min zs.length 4=zs.length:=Nat.min_eq_left hz4
     rw [e1,List.map_drop]
     conv=>lhs;rw [hcurl]
     rw [List.drop_append_of_le_length (by simp;omega)]
    ·have e1:Nat.min zs.length 4=4:=Nat.min_eq_right om
     rw [e1,List.drop_of_length_le (l:=ys) om]
     simp
   rw [hnew]
   have hext:Ext (fun b'=>fpo (ρ id) (.arr .vec [ys] g nn) b') w (w.setRow b ((zs.take 4 ++ ys.drop zs.length).map (Value.int .i64) ++ cur.toList.drop 4).toArray):=
    ⟨rfl,rfl,rfl,by simp,Nat.le_refl _,fun b' _ hS=>setRow_other w b b' _ fun e=>hS (e▸hfp)⟩
   have hb:∀ b',fpo (ρ id) (.arr .vec [zs.take 4 ++ ys.drop zs.length] g nn) b'->fpo (ρ id) (.arr .vec [ys] g nn) b'\/w.heap.size<=b':=fun b' hb'=>.inl hb'
   have hset:=setRow_heap w b cur ((zs.take 4 ++ ys.drop zs.length).map (Value.int .i64) ++ cur.toList.drop 4).toArray (C.tid .vec) (0,0) hgc
   have T:=Turn.one rr id (.arr .vec [ys] g nn) (.arr .vec [zs.take 4 ++ ys.drop zs.length] g nn) (ρ id) ho hext
    (by
     rw [hρe]
     refine⟨(zs.take 4 ++ ys.drop zs.length).map (Value.int .i64),⟨by rw [List.length_map,l4];simp [E.size],.inr ⟨b,cap,_,hρ,hb0,hset,by simpa using hn,hcap,?_,?_⟩⟩,⟨by rw [List.length_map,l4];simp [E.size],fun k hk=>?_⟩,hnn,by simp [maxLen]⟩
     ·simp only [List.size_toArray,lenA,List.length_map,List.length_drop,Array.length_toList,E.size]
      simp only [lenA,List.length_drop]at l4
      omega
     ·simp only [lenC,lenN,Nat.zero_add,E.size,Nat.one_mul]
      rw [List.take_append_of_le_length (by rw [List.length_map,l4];omega),List.take_of_length_le (by rw [List.length_map,l4];omega)]
     ·have:k=0:=by simp at hk;omega
      subst this
      refine⟨.agg ((zs.take 4 ++ ys.drop zs.length).map (Value.int .i64)).toArray,⟨rfl,l4⟩,fun j hj=>?_⟩
      simp [Value.cells,E.size]) hb
    (by
     intro c' hc'
     simp [O.gen]at hc'
     exact⟨g,by simp [O.gen],.inl ⟨hc'.symm,rfl⟩⟩)
   rw [hρe]at T
   exact T.step rr
 rename_i _ id g he
 split at h
 case h_2=>cases h
 rename_i xs g' nn ho
 split at h
 case isFalse=>cases h
 rename_i hg
 subst hg
 split at h
 case h_2=>cases h
 rename_i zs hz
 cases h
 obtain⟨ht,i,hi,_,hsize,_⟩:=hC.sl t .int he
 have hsz:(C.P.info? (C.tid .int)).map (·.size)=some 1:=by rw [hi];simp [hsize,E.size]
 obtain⟨hρ,cs,hown,henc,hnn,hml⟩:=own_arr rr ho hx
 have hcs:=enc_ints henc
 subst hcs
 have same:(zs=[]\/xs=[])->obs.set id (.arr .int (zs.take xs.length ++ xs.drop zs.length) g nn)=obs:=by
  intro h
  have e:zs.take xs.length ++ xs.drop zs.length=xs:=by rcases h with rfl | rfl<;>simp
  rw [e]
  apply List.ext_getElem?
  intro j
  by_cases hj:id=j
  ·subst hj;rw [List.getElem?_set_self (geS.1 ho).1,ho]
  ·rw [List.getElem?_set_ne hj]
 have none_:(zs=[]\/xs=[])->∀ d a dLen dCap sLen sCap,u=.slice d dLen dCap->v=.slice a sLen sCap->Nat.min sLen dLen=0 ->
   ∃ z w',(Builtin.copy_ #[t,t2] ty #[u,v]).run C.P w=.ok z w'/\Step C w w' obs (obs.set id (.arr .int (zs.take xs.length ++ xs.drop zs.length) g nn)) ρ ρ /\
    AVRel (C.V w' (obs.set id (.arr .int (zs.take xs.length ++ xs.drop zs.length) g nn)) ρ) (obs.set id (.arr .int (zs.take xs.length ++ xs.drop zs.length) g nn)) ρ (.int .i64 (min zs.length xs.length:Nat)) z:=by
  intro h0 d a dLen dCap sLen sCap hu hv hn
  rw [same h0,hu,hv]
  refine⟨_,w,run_copy_none (P:=C.P) w t t2 ty (C.tid .int) d a dLen dCap sLen sCap ht hsz hn,Step.refl rr,?_⟩
  have:min zs.length xs.length=0:=by rcases h0 with rfl | rfl<;>simp
  rw [this]
  rfl
 rcases srcL_sound rr hy hz with⟨hz0,b,c,hv⟩ | ⟨a,c,news,hv,hcell,hone,henc2⟩
 ·obtain⟨a,cap,hu⟩:=ownsRow_len hown
  exact none_ (.inl hz0) _ _ _ _ _ _ hu hv (by simp)
 ·have hn:=enc_ints henc2
  subst hn
  rcases hown.2 with⟨hu,hx0⟩ | ⟨b,cap,cur,hu,_,hgc,m1,m2,m3,m4⟩
  ·exact none_ (.inr (nilZ hx0)) _ _ _ _ _ _ hu hv (by simp)
  ·have hfp:fpo (ρ id) (.arr .int xs g nn) b:=by rw [<- hρ];simp [fpo,hu,Value.ownBlock]
   have m4':cur.toList.take xs.length=xs.map (Value.int .i64):=by simpa [E.size] using m4
   have m3':cur.size=cap:=by simpa [E.size] using m3
   have hlen:((zs.map (Value.int .i64)).take xs.length).length=Nat.min zs.length xs.length:=by rw [List.length_take,List.length_map,Nat.min_comm]
   have hmin:Nat.min zs.length xs.length<=cap:=Nat.le_trans (Nat.min_le_right ..) m1
   have hrun:=run_copy_row (P:=C.P) w t t2 ty (C.tid .int) b 0 xs.length cap a zs.length c cur (C.tid .int) ((zs.map (Value.int .i64)).take xs.length) ht hsz hgc hlen
    (fun j q hq=>by
     rw [List.getElem?_take]at hq
     split at hq
     ·exact hcell j q hq
     ·cases hq) (by rw [hlen];omega) (fun q hq=>hone q (List.mem_of_mem_take hq))
   rw [hlen]at hrun
   rw [hu,hv]
   refine⟨_,_,hrun,?_,rfl⟩
   have hρe:(fun i=>if i=id then ρ id else ρ i)=ρ:=by funext i;split<;>simp_all
   have hfpe:∀ b',fpo (ρ id) (.arr .int xs g nn) b'->b'=b:=fun b' hb'=>by rw [<- hρ]at hb';simp [fpo,hu,Value.ownBlock]at hb';exact hb'.symm
   have hext:Ext (fun b'=>fpo (ρ id) (.arr .int xs g nn) b') w (w.setRow b (cur.toList.take 0 ++ (zs.map (Value.int .i64)).take xs.length ++ cur.toList.drop (0+Nat.min zs.length xs.length)).toArray):=
    ⟨rfl,rfl,rfl,by simp,Nat.le_refl _,fun b' _ hS=>setRow_other w b b' _ fun e=>hS (e▸hfp)⟩
   have hb:∀ b',fpo (ρ id) (.arr .int (zs.take xs.length ++ xs.drop zs.length) g nn) b'->fpo (ρ id) (.arr .int xs g nn) b'\/w.heap.size<=b':=fun b' hb'=>.inl hb'
   have T:=Turn.one rr id (.arr .int xs g nn) (.arr .int (zs.take xs.length ++ xs.drop zs.length) g nn) (ρ id) ho hext (w':=w.setRow b (cur.toList.take 0 ++ (zs.map (Value.int .i64)).take xs.length ++ cur.toList.drop (0+Nat.min zs.length xs.length)).toArray)
    (by
     have e1:(zs.take xs.length ++ xs.drop zs.length).length=xs.length:=by simp;omega
     refine⟨(zs.take xs.length ++ xs.drop zs.length).map (Value.int .i64),⟨by simp [E.size],.inr ⟨b,cap,_,by rw [<- hρ,e1];exact hu,nz0 _,setRow_heap w b cur _ _ _ hgc,by rw [e1];exact m1,m2,?_,?_⟩⟩,ints_enc _,by rw [<- hρ];exact hnn,by rw [e1];exact hml⟩
     ·have:=Nat.min_le_left zs.length xs.length
      have hcl:cur.toList.length=cap:=by simpa using m3'
      simp [E.size,-Array.length_toList]
      rw [hcl]
      have e5:min xs.length zs.length=Nat.min zs.length xs.length:=Nat.min_comm _ _
      have e6:zs.length.min xs.length=min zs.length xs.length:=rfl
      omega
     ·have hcl:cur.toList.length=cap:=by simpa using m3'
      rw [e1]
      have e7:cur.toList=xs.map (Value.int .i64) ++ cur.toList.drop xs.length:=by rw [<- m4',List.take_append_drop]
      apply List.ext_getElem?
      intro j
      simp only [E.size,Nat.mul_one,List.take_zero,List.nil_append,Nat.zero_add,List.getElem?_take,List.getElem?_append,List.length_take,List.length_map,List.getElem?_drop,List.map_append,List.map_take,List.map_drop]
      have e6:zs.length.min xs.length=min zs.length xs.length:=rfl
      rw [e6]
      by_cases hj:j < xs.length
      ·rw [if_pos hj]
       by_cases hj2:j < min xs.length zs.length
       ·rw [if_pos hj2,if_pos hj2]
       ·rw [if_neg hj2,if_neg hj2]
        have h3:zs.length<=j:=by omega
        have h4:min zs.length xs.length+(j - min xs.length zs.length)=j:=by omega
        have h5:zs.length+(j - min xs.length zs.length)=j:=by omega
        rw [h4,h5,e7,List.getElem?_append_left (by simpa using hj)]
      ·rw [if_neg hj,if_neg om]
       rw [geN]
       simp;omega) hb
    (by
     intro c' hc'
     simp [O.gen]at hc'
     exact⟨g,by simp [O.gen],.inl ⟨hc'.symm,rfl⟩⟩)
   rw [hρe]at T
   exact T.step rr
end sound
def mfindI:List (MK×MV)->MK->Nat->Option (Nat×MV)
 | [],_,_=>none
 | p :: l,k,i=>if k=p.1 then some (i,p.2)else mfindI l k (i+1)
def mfind (l:List (MK×MV)) (k:MK):Option MV:=(mfindI l k 0).map (·.2)
def mput (l:List (MK×MV)) (k:MK) (v:MV):List (MK×MV):=match mfindI l k 0 with
 | some (i,_)=>l.set i (k,v)
 | none=>l ++ [(k,v)]
def mgetB (l:List (MK×MV)) (k:MK):Bool:=match mfind l k with
 | some (.bool b)=>b
 | _=>false
def mgetI (l:List (MK×MV)) (k:MK):Int:=match mfind l k with
 | some (.int n)=>n
 | _=>0
def keyV (m:MT):AV->Option MK
 | .str s=>if m.kv=false then some (.str s)else none
 | .vec xs=>if m.kv=true then some (.vec xs)else none
 | _=>none
def valV (m:MT):AV->Option MV
 | .bool b=>if m.vi=false then some (.bool b)else none
 | .int .i64 n=>if m.vi=true then some (.int n)else none
 | _=>none
def mgetV (m:MT) (l:List (MK×MV)) (k:MK):AV:=if m.vi then .int .i64 (mgetI l k)else .bool (mgetB l k)
def mlookV (mt:Option MT) (x i:AV) (obs:List O):Res:=
 match mt,x with
 | some m,.own id g=>match obs[id]?,keyV m i with
  | some (.mp m' l g'),some k=>if g=g'/\m.kv=m'.kv/\m.vi=m'.vi then .ok True (mgetV m l k) obs else .bad
  | _,_=>.bad
 | _,_=>.bad
def mupdV (mt:Option MT) (x i y:AV) (obs:List O):Res:=
 match mt,x with
 | some m,.own id g=>match obs[id]?,keyV m i,valV m y with
  | some (.mp m' l g'),some k,some v=>if g=g'/\m.kv=m'.kv/\m.vi=m'.vi then .skip True (obs.set id (.mp m' (mput l k v) g))else .bad
  | _,_,_=>.bad
 | _,_=>.bad
def mmakeV (mt:Option MT) (obs:List O):Res:=
 match mt with
 | some m=>.ok True (.own obs.length 0) (obs ++ [.mp m [] 0])
 | none=>.bad
theorem ba_beq (x y:Array UInt8):((⟨x⟩:ByteArray) == ⟨y⟩)=(x == y):=rfl
theorem findNow_str {s:List UInt8}:∀ {es:List MapEntry} {l:List (MK×MV)} {i0:Nat},es.map (fun e=>(e.key,e.val))=l.map (fun p=>(p.1.val,p.2.val))->(∀ p∈l,p.1.ok false) ->
  Instr.findNow .string (.string ⟨s.toArray⟩) es i0=some ((mfindI l (.str s) i0).map fun q=>(q.1,q.2.val))
 | [],[],i0,_,_=>rfl
 | [],_ :: _,_,h,_=>by simp at h
 | _ :: _,[],_,h,_=>by simp at h
 | e :: es,p :: l,i0,h,hk=>by
  simp only [List.map_cons,List.cons.injEq,Prod.mk.injEq]at h
  obtain⟨⟨h1,h2⟩,h3⟩:=h
  have h4:=hk p (mcS ..)
  obtain⟨k,v⟩:=p
  cases k with
  | vec xs=>exact h4.elim
  | str t=>
   have ih:=findNow_str (s:=s) (i0:=i0+1) h3 (fun q hq=>hk q (mcM _ hq))
   have e1:e.key=.string ⟨t.toArray⟩:=h1
   simp only [Instr.findNow,e1,Instr.sameNow,mfindI]
   by_cases hst:s=t
   ·subst hst
    rw [if_pos rfl]
    simp only [ba_beq,beq_self_eq_true]
    rw [h2];rfl
   ·have hne:((⟨s.toArray⟩:ByteArray) == ⟨t.toArray⟩)=false:=by
     rw [ba_beq,beq_eq_false_iff_ne]
     intro hh
     exact hst (by have:=congrArg Array.toList hh;simpa using this)
    rw [hne,if_neg (fun hh=>hst (by cases hh;rfl))]
    exact ih
theorem mfindI_spec {k:MK}:∀ {l:List (MK×MV)} {i0 i:Nat} {v:MV},mfindI l k i0=some (i,v)->i0<=i/\l[i - i0]? = some (k,v)
 | [],_,_,_,h=>by simp [mfindI]at h
 | p :: l,i0,i,v,h=>by
  simp only [mfindI]at h
  split at h
  ·rename_i hk
   simp only [Option.some.injEq,Prod.mk.injEq]at h
   obtain⟨rfl,rfl⟩:=h
   exact⟨Nat.le_refl _,by rw [Nat.sub_self,hk];rfl⟩
  ·obtain⟨h1,h2⟩:=mfindI_spec h
   exact⟨by omega,by rw [show i - i0=(i - (i0+1))+1 by omega];simpa using h2⟩
theorem run_part_i {P:Program} {ti:TypeId} (h2:P.underlying ti=some (.int .i64)) (xs:Array Value) (k:Nat) (v:Value) (hv:xs[k]? = some v) (w:World):(part ti xs k).run P w=.ok v w:=by
 simp [part,isAgg,run_underlying h2,hv]
theorem run_check_vecD {P:Program} {kt ti:TypeId} (h1:P.underlying kt=some (.array 4 ti)) (h2:P.underlying ti=some (.int .i64)) {i:TypeInfo} (hi:P.info? ti=some i) (hs:i.size=1) (em:Bool) (a b c d:Int) (w:World) (n:Nat) :
  (Instr.checkKey em (n+2) kt (.agg #[.int .i64 a,.int .i64 b,.int .i64 c,.int .i64 d])).run P w=.ok () w:=by
 have hp:=fun k v=>run_part_i h2 #[.int .i64 a,.int .i64 b,.int .i64 c,.int .i64 d] k v
 have hc:∀ v w,(Instr.checkKey em (n+1) ti (.int .i64 v)).run P w=.ok () w:=fun v w=>by simp [Instr.checkKey,run_underlying h2]
 rw [Instr.checkKey]
 simp only [Sem.run_bind,run_underlying h1,Result.andThen_ok]
 simp [Std.Legacy.Range.forIn_eq_forIn_range',Std.Legacy.Range.size,List.range',sizeOf,typeInfo,hi,hs,hp,hc,Sem.run_bind,Result.andThen]
theorem run_equal_vecD {P:Program} {kt ti:TypeId} (h1:P.underlying kt=some (.array 4 ti)) (h2:P.underlying ti=some (.int .i64)) {i:TypeInfo} (hi:P.info? ti=some i) (hs:i.size=1) (a b c d a' b' c' d':Int) (w:World) (n:Nat) :
  (Op.equalIn (n+2) kt (.agg #[.int .i64 a,.int .i64 b,.int .i64 c,.int .i64 d]) (.agg #[.int .i64 a',.int .i64 b',.int .i64 c',.int .i64 d'])).run P w=.ok (a == a' && b == b' && c == c' && d == d') w:=by
 have p0:∀ w,(part ti #[.int .i64 a,.int .i64 b,.int .i64 c,.int .i64 d] 0).run P w=.ok (.int .i64 a) w:=run_part_i h2 _ _ _ rfl
 have q0:∀ w,(part ti #[.int .i64 a',.int .i64 b',.int .i64 c',.int .i64 d'] 0).run P w=.ok (.int .i64 a') w:=run_part_i h2 _ _ _ rfl
 have p1:∀ w,(part ti #[.int .i64 a,.int .i64 b,.int .i64 c,.int .i64 d] 1).run P w=.ok (.int .i64 b) w:=run_part_i h2 _ _ _ rfl
 have q1:∀ w,(part ti #[.int .i64 a',.int .i64 b',.int .i64 c',.int .i64 d'] 1).run P w=.ok (.int .i64 b') w:=run_part_i h2 _ _ _ rfl
 have p2:∀ w,(part ti #[.int .i64 a,.int .i64 b,.int .i64 c,.int .i64 d] 2).run P w=.ok (.int .i64 c) w:=run_part_i h2 _ _ _ rfl
 have q2:∀ w,(part ti #[.int .i64 a',.int .i64 b',.int .i64 c',.int .i64 d'] 2).run P w=.ok (.int .i64 c') w:=run_part_i h2 _ _ _ rfl
 have p3:∀ w,(part ti #[.int .i64 a,.int .i64 b,.int .i64 c,.int .i64 d] 3).run P w=.ok (.int .i64 d) w:=run_part_i h2 _ _ _ rfl
 have q3:∀ w,(part ti #[.int .i64 a',.int .i64 b',.int .i64 c',.int .i64 d'] 3).run P w=.ok (.int .i64 d') w:=run_part_i h2 _ _ _ rfl
 have hc:∀ x y w,(Op.equalIn (n+1) ti (.int .i64 x) (.int .i64 y)).run P w=.ok (x == y) w:=fun x y w=>by rw [Op.equalIn];simp [run_underlying h2]
 have c0:=hc a a'
 have c1:=hc b b'
 have c2:=hc c c'
 have c3:=hc d d'
 clear hc
 generalize (a == a')=r0 at *
 generalize (b == b')=r1 at *
 generalize (c == c')=r2 at *
 generalize (d == d')=r3 at *
 have hz:(sizeOf ti).run P w=.ok 1 w:=by simp [sizeOf,typeInfo,hi,hs]
 rw [Op.equalIn]
 simp only [Sem.run_bind,run_underlying h1,Result.andThen_ok,hz,Std.Legacy.Range.forIn_eq_forIn_range',Std.Legacy.Range.size]
 simp only [List.range',Nat.reduceSub,Nat.reduceAdd,Nat.reduceDiv,List.forIn_cons,List.forIn_nil,Nat.mul_one,Sem.run_bind,p0,q0,Result.andThen_ok,c0]
 cases r0
 ·simp
 simp [p1,q1,c1]
 cases r1
 ·simp
 simp [p2,q2,c2]
 cases r2
 ·simp
 simp [p3,q3,c3]
 cases r3<;>simp
theorem vec4 {xs:List Int} (h:xs.length=4):∃ a b c d,xs=[a,b,c,d]:=by
 match xs,h with
 | [a,b,c,d],_=>exact⟨a,b,c,d,rfl⟩
theorem run_check_vec {P:Program} {kt ti:TypeId} (h1:P.underlying kt=some (.array 4 ti)) (h2:P.underlying ti=some (.int .i64)) {i:TypeInfo} (hi:P.info? ti=some i) (hs:i.size=1) (em:Bool) {xs:List Int} (hx:xs.length=4) (w:World) :
  (Instr.checkKey em 10000 kt (MK.vec xs).val).run P w=.ok () w:=by
 obtain⟨a,b,c,d,rfl⟩:=vec4 hx
 exact run_check_vecD h1 h2 hi hs em a b c d w 9998
theorem run_equal_vec {P:Program} {kt ti:TypeId} (h1:P.underlying kt=some (.array 4 ti)) (h2:P.underlying ti=some (.int .i64)) {i:TypeInfo} (hi:P.info? ti=some i) (hs:i.size=1) {xs ys:List Int} (hx:xs.length=4) (hy:ys.length=4) (w:World) :
  (Op.equal kt (MK.vec xs).val (MK.vec ys).val).run P w=.ok (decide (xs=ys)) w:=by
 obtain⟨a,b,c,d,rfl⟩:=vec4 hx
 obtain⟨a',b',c',d',rfl⟩:=vec4 hy
 have e:(a == a' && b == b' && c == c' && d == d')=decide ([a,b,c,d]=[a',b',c',d']):=by
  rw [Bool.eq_iff_iff];simp [and_assoc]
 rw [<- e]
 exact run_equal_vecD h1 h2 hi hs a b c d a' b' c' d' w 9998
theorem run_find_vec {P:Program} {kt ti:TypeId} (h1:P.underlying kt=some (.array 4 ti)) (h2:P.underlying ti=some (.int .i64)) {i:TypeInfo} (hi:P.info? ti=some i) (hs:i.size=1) {xs:List Int} (hx:xs.length=4) (w:World) :
  ∀ {es:List MapEntry} {l:List (MK×MV)} (i0:Nat),es.map (fun e=>(e.key,e.val))=l.map (fun p=>(p.1.val,p.2.val))->(∀ p∈l,p.1.ok true) ->
  (Instr.findAsking kt (MK.vec xs).val es i0).run P w=.ok ((mfindI l (.vec xs) i0).map fun q=>(q.1,q.2.val)) w
 | [],[],i0,_,_=>by simp [Instr.findAsking,mfindI]
 | [],_ :: _,_,h,_=>by simp at h
 | _ :: _,[],_,h,_=>by simp at h
 | e :: es,p :: l,i0,h,hk=>by
  simp only [List.map_cons,List.cons.injEq,Prod.mk.injEq]at h
  obtain⟨⟨h3,h4⟩,h5⟩:=h
  have h6:=hk p (mcS ..)
  obtain⟨k,v⟩:=p
  cases k with
  | str s=>exact h6.elim
  | vec ys=>
   have ih:=run_find_vec h1 h2 hi hs hx w (i0+1) h5 (fun q hq=>hk q (mcM _ hq))
   have e1:e.key=(MK.vec ys).val:=h3
   have e2:e.val=v.val:=h4
   simp only [Instr.findAsking,mfindI,e1,Sem.run_bind,run_equal_vec h1 h2 hi hs hx h6,Result.andThen_ok]
   by_cases hxy:xs=ys
   ·subst hxy;simp [e2]
   ·have:¬(MK.vec xs=MK.vec ys):=fun hh=>hxy (by cases hh;rfl)
    simp [hxy,ih]
theorem run_findKey_vec {P:Program} {kt ti:TypeId} (h1:P.underlying kt=some (.array 4 ti)) (h2:P.underlying ti=some (.int .i64)) {i:TypeInfo} (hi:P.info? ti=some i) (hs:i.size=1) {xs:List Int} (hx:xs.length=4) (w:World)
  {es:List MapEntry} {l:List (MK×MV)} (he:es.map (fun e=>(e.key,e.val))=l.map (fun p=>(p.1.val,p.2.val))) (hk:∀ p∈l,p.1.ok true) :
  (Instr.findKey kt (MK.vec xs).val es).run P w=.ok ((mfindI l (.vec xs) 0).map fun q=>(q.1,q.2.val)) w:=by
 have h:=run_find_vec h1 h2 hi hs hx w 0 he hk
 rw [<- h]
 cases es with
 | nil=>simp [Instr.findKey,run_underlying h1,Instr.findNow,Instr.findAsking]
 | cons e es=>simp [Instr.findKey,run_underlying h1,Instr.findNow,Instr.sameNow]
theorem sameBits_vec {xs:List Int} (n:Nat):Instr.sameBits (n+1) (MK.vec xs).val (MK.vec xs).val=true:=by
 simp only [MK.val,Instr.sameBits,beq_self_eq_true,Bool.true_and,alT]
 intro p hp
 obtain⟨i,hi,e⟩:=List.getElem_of_mem hp
 rw [List.getElem_zip]at e
 rw [<- e]
 cases n<;>simp [Instr.sameBits]
theorem run_stays_vec {P:Program} {xs:List Int} (w:World):(Instr.keyThatStays (MK.vec xs).val (MK.vec xs).val).run P w=.ok (MK.vec xs).val w:=by
 have:Instr.sameBits 10000 (MK.vec xs).val (MK.vec xs).val=true:=sameBits_vec 9999
 simp [Instr.keyThatStays,this]
section maps
variable {C:Ctx} {obs:List O} {w:World} {ρ:Nat->Value}
theorem own_mp {id g:Nat} {m:MT} {l:List (MK×MV)} {v:Value} (r:WRel C obs w ρ) (ho:obs[id]? = some (.mp m l g)) (h:AVRel (C.V w obs ρ) obs ρ (.own id g) v) :
  v=ρ id/\ORel C.tid w (C.V w obs ρ) v (.mp m l g):=by
 obtain⟨_,h2⟩:=h
 have hv:v=ρ id:=(h2 g (by unfold genOf;rw [ho];rfl)).2 rfl
 exact⟨hv,by rw [hv];exact r.os id _ ho⟩
theorem keyV_rel {m:MT} {i:AV} {k:MK} {j:Value} (h:keyV m i=some k) (hi:AVRel (C.V w obs ρ) obs ρ i j):j=k.val/\k.ok m.kv:=by
 unfold keyV at h
 split at h
 ·split at h
  ·rename_i hk;cases h;exact⟨hi,by rw [hk];trivial⟩
  ·cases h
 ·split at h
  ·rename_i hk;cases h;exact⟨hi.1,by rw [hk];exact hi.2⟩
  ·cases h
 ·cases h
theorem key_facts (hC:C.Ok) {t:TypeId} {m:MT} (hmt:C.mt t=some m):∃ kt et,C.P.underlying t=some (.map kt et)/\(∀ k:MK,k.ok m.kv->(∀ em w,(Instr.checkKey em 10000 kt k.val).run C.P w=.ok () w) /\
  (∀(es:List MapEntry) (l:List (MK×MV)) w,es.map (fun e=>(e.key,e.val))=l.map (fun p=>(p.1.val,p.2.val))->(∀ p∈l,p.1.ok m.kv)->(Instr.findKey kt k.val es).run C.P w=.ok ((mfindI l k 0).map fun q=>(q.1,q.2.val)) w) /\
  (∀ w,(Instr.keyThatStays k.val k.val).run C.P w=.ok k.val w))/\∀ w,(zeroValue et).run C.P w=.ok (if m.vi then .int .i64 0 else .bool false) w:=by
 obtain⟨kt,et,hu,hks,hkv,hz⟩:=hC.mt t m hmt
 refine⟨kt,et,hu,fun k hk=>?_,hz⟩
 cases k with
 | str s=>
  have hkf:m.kv=false:=by
   cases h:m.kv with
   | false=>rfl
   | true=>rw [h]at hk;exact hk.elim
  have hkt:=hks hkf
  refine⟨fun em w=>Go.MapKept.run_checkKey (w:=w) hkt (k:=.string ⟨s.toArray⟩) (show Go.MapKept.IsKey .string (.string ⟨s.toArray⟩)from trivial) em 9999,fun es l w he hl=>?_,fun w=>?_⟩
  ·rw [hkf]at hl
   exact Go.MapKept.run_findKey (w:=w) hkt (findNow_str (s:=s) (i0:=0) he hl)
  ·simp [MK.val,Instr.keyThatStays,Instr.sameBits,ba_beq]
 | vec xs=>
  have hkf:m.kv=true:=by
   cases h:m.kv with
   | true=>rfl
   | false=>rw [h]at hk;exact hk.elim
  obtain⟨ti,h1,h2,i,hi,hs⟩:=hkv hkf
  rw [hkf]at hk
  refine⟨fun em w=>run_check_vec h1 h2 hi hs em hk w,fun es l w he hl=>?_,fun w=>run_stays_vec w⟩
  rw [hkf]at hl
  exact run_findKey_vec h1 h2 hi hs hk w he hl
theorem mlook_core (hC:C.Ok) {t:TypeId} {m:MT} (hmt:C.mt t=some m) {b:Nat} {es:Array MapEntry} {clock:Nat} {l:List (MK×MV)} {m':MT} (hh:w.heap[b]? = some (.map es clock)) (hes:es.toList.map (fun e=>(e.key,e.val))=l.map (fun p=>(p.1.val,p.2.val)))
  (hok:∀ p∈l,p.1.ok m'.kv/\p.2.ok m'.vi) (hkv:m.kv=m'.kv) (hvi:m.vi=m'.vi) {k:MK} (hkok:k.ok m.kv):∃ z,AVRel (C.V w obs ρ) obs ρ (mgetV m l k) z/\(Instr.lookup t (.map (some b)) k.val false).run C.P w=.ok z w:=by
 obtain⟨kt,et,hu,hkf,hz⟩:=key_facts hC hmt
 obtain⟨hck,hfd,_⟩:=hkf k hkok
 have h1:=hck es.isEmpty w
 have h2:=hfd es.toList l w hes (fun p hp=>by have:=(hok p hp).1;rw [<- hkv]at this;exact this)
 have h3:=Go.MapKept.run_getObj_map (P:=C.P) hh
 cases hfi:mfindI l k 0 with
 | none=>
  rw [hfi]at h2
  simp only [Option.map_none]at h2
  refine⟨if m.vi then .int .i64 0 else .bool false,?_,?_⟩
  ·simp only [mgetV,mgetI,mgetB,mfind,hfi,Option.map_none]
   cases m.vi<;>rfl
  ·simp [Instr.lookup,run_underlying hu,h3,h1,h2,hz,Sem.run_bind,Result.andThen]
 | some q=>
  obtain⟨i,v⟩:=q
  rw [hfi]at h2
  simp only [Option.map_some]at h2
  obtain⟨_,hq⟩:=mfindI_spec hfi
  have hvok:=(hok _ (List.mem_of_getElem? hq)).2
  refine⟨v.val,?_,?_⟩
  ·simp only [mgetV,mgetI,mgetB,mfind,hfi,Option.map_some]
   rw [<- hvi]at hvok
   cases hm:m.vi<;>rw [hm]at hvok<;>cases v<;>first | rfl | exact hvok.elim
  ·simp [Instr.lookup,run_underlying hu,h3,h1,h2,Sem.run_bind,Result.andThen]
theorem mlookV_sound (hC:C.Ok) {t:TypeId} {x i:AV} {vc:Prop} {r:AV} {o:List O} (rr:WRel C obs w ρ) {u j:Value} (hx:AVRel (C.V w obs ρ) obs ρ x u) (hi:AVRel (C.V w obs ρ) obs ρ i j)
  (h:mlookV (C.mt t) x i obs=.ok vc r o):o=obs/\∃ z,AVRel (C.V w obs ρ) obs ρ r z/\(Instr.lookup t u j false).run C.P w=.ok z w:=by
 unfold mlookV at h
 split at h
 ·rename_i m id g hmt
  split at h
  ·rename_i m' l g' k ho hk
   split at h
   ·rename_i hc
    obtain⟨rfl,hkv,hvi⟩:=hc
    cases h
    refine⟨rfl,?_⟩
    obtain⟨_,b,es,clock,hv,hh,hes,hok⟩:=own_mp rr ho hx
    obtain⟨hj,hkok⟩:=keyV_rel hk hi
    subst hj hv
    exact mlook_core hC hmt hh hes hok hkv hvi hkok
   ·cases h
  ·cases h
 ·cases h
theorem mmakeV_sound {t:TypeId} {vc:Prop} {r:AV} {o:List O} (rr:WRel C obs w ρ) (h:mmakeV (C.mt t) obs=.ok vc r o) :
  ∃ z w',(Instr.makeMap t none).run C.P w=.ok z w'/\NewOk C obs w ρ r o z w':=by
 unfold mmakeV at h
 split at h
 ·rename_i m hmt
  cases h
  have hrun:(Instr.makeMap t none).run C.P w=.ok (.map (some w.heap.size)) (w.alloc (.map #[] 0)):=by
   simp [Instr.makeMap,newObj,Sem.run,Result.andThen]
  refine⟨_,_,hrun,?_⟩
  have T:=Turn.new (C:=C) rr (Ext.alloc (fun _=>False) w (.map #[] 0)) (.mp m [] 0) (.map (some w.heap.size))
   ⟨w.heap.size,#[],0,rfl,(Go.MapKept.heap_alloc w (.map #[] 0)).1,rfl,by simp⟩ (fun b hb=>by have hb:Value.map (some w.heap.size)=Value.map (some b):=hb;cases hb;exact Nat.le_refl _)
  refine⟨_,T.step rr,?_⟩
  refine⟨by simp,fun c hc=>?_⟩
  have:c=0:=by simpa [genOf,O.gen] using hc.symm
  subst this
  exact⟨Nat.le_refl _,fun _=>by simp⟩
 ·cases h
theorem mupd_core (hC:C.Ok) {t:TypeId} {m:MT} (hmt:C.mt t=some m) {b:Nat} {es:Array MapEntry} {clock:Nat} {l:List (MK×MV)} {m':MT} (hh:w.heap[b]? = some (.map es clock)) (hes:es.toList.map (fun e=>(e.key,e.val))=l.map (fun p=>(p.1.val,p.2.val)))
  (hok:∀ p∈l,p.1.ok m'.kv/\p.2.ok m'.vi) (hkv:m.kv=m'.kv) (hvi:m.vi=m'.vi) {k:MK} (hkok:k.ok m.kv) {v:MV} (hvok:v.ok m.vi):∃ es' clock',(Instr.mapUpdate t (.map (some b)) k.val v.val).run C.P w=.ok () { w with heap:=w.heap.setIfInBounds b (.map es' clock') } /\
   es'.toList.map (fun e=>(e.key,e.val))=(mput l k v).map (fun p=>(p.1.val,p.2.val))/\∀ p∈mput l k v,p.1.ok m'.kv/\p.2.ok m'.vi:=by
 obtain⟨kt,et,hu,hkf,_⟩:=key_facts hC hmt
 obtain⟨hck,hfd,hstay⟩:=hkf k hkok
 have h1:=hck false w
 have h2:=hfd es.toList l w hes (fun p hp=>by have:=(hok p hp).1;rw [<- hkv]at this;exact this)
 have h3:=Go.MapKept.run_getObj_map (P:=C.P) hh
 have hel:es.toList.length=l.length:=by have:=congrArg List.length hes;simpa using this
 have hnew:(k).ok m'.kv/\v.ok m'.vi:=⟨by rw [<- hkv];exact hkok,by rw [<- hvi];exact hvok⟩
 cases hfi:mfindI l k 0 with
 | none=>
  rw [hfi]at h2
  simp only [Option.map_none]at h2
  refine⟨es.push { key:=k.val,val:=v.val,born:=clock },clock+1,?_,?_,?_⟩
  ·have h4:=Go.MapKept.run_setObj_map (P:=C.P) (.map (es.push { key:=k.val,val:=v.val,born:=clock }) (clock+1)) hh
   simp [Instr.mapUpdate,run_underlying hu,h3,h1,h2,h4,Sem.run_bind,Result.andThen]
  ·simp only [mput,hfi,Array.toList_push,List.map_append,hes,List.map_cons,List.map_nil]
  ·simp only [mput,hfi]
   intro p hp
   rcases List.mem_append.1 hp with hp | hp
   ·exact hok p hp
   ·simp at hp;subst hp;exact hnew
 | some q=>
  obtain⟨i,v0⟩:=q
  rw [hfi]at h2
  simp only [Option.map_some]at h2
  obtain⟨_,hq⟩:=mfindI_spec hfi
  rw [Nat.sub_zero]at hq
  have hil:i < l.length:=(geS.1 hq).1
  have hkey:(es[i]?).map (·.key)=some k.val:=by
   have e1:(es.toList.map (fun e=>(e.key,e.val)))[i]? = some ((k).val,v0.val):=by rw [hes,List.getElem?_map,hq];rfl
   rw [List.getElem?_map,Array.getElem?_toList]at e1
   cases he:es[i]? with
   | none=>rw [he]at e1;cases e1
   | some e=>rw [he]at e1;simp at e1;simp [e1.1]
  refine⟨es.modify i fun e=>{ e with key:=k.val,val:=v.val },clock,?_,?_,?_⟩
  ·have h4:=Go.MapKept.run_setObj_map (P:=C.P) (.map (es.modify i fun e=>{ e with key:=k.val,val:=v.val }) clock) hh
   have h5:=hstay w
   simp [Instr.mapUpdate,run_underlying hu,h3,h1,h2,h4,h5,hkey,Sem.run_bind,Result.andThen]
  ·simp only [mput,hfi]
   apply List.ext_getElem?
   intro n
   have e0:(es.toList.map (fun e=>(e.key,e.val)))[n]? = (l.map (fun p=>(p.1.val,p.2.val)))[n]?:=by rw [hes]
   simp only [List.getElem?_map,Array.getElem?_toList,Array.getElem?_modify,List.getElem?_set]at e0 ⊢
   by_cases hn:i=n
   ·subst hn
    rw [if_pos rfl,if_pos rfl,if_pos hil]
    have:i < es.size:=by simpa using (by omega:i < es.toList.length)
    simp [this]
   ·rw [if_neg hn,if_neg hn];exact e0
  ·simp only [mput,hfi]
   intro p hp
   rcases List.mem_or_eq_of_mem_set hp with hp | rfl
   ·exact hok p hp
   ·exact hnew
theorem valV_rel {m:MT} {y:AV} {v:MV} {z:Value} (hvv:valV m y=some v) (hy:AVRel (C.V w obs ρ) obs ρ y z):z=v.val/\v.ok m.vi:=by
 unfold valV at hvv
 split at hvv
 ·split at hvv
  ·rename_i hb;cases hvv;exact⟨hy,by rw [hb];trivial⟩
  ·cases hvv
 ·split at hvv
  ·rename_i hb;cases hvv;exact⟨hy,by rw [hb];trivial⟩
  ·cases hvv
 ·cases hvv
theorem mupdV_sound (hC:C.Ok) {t:TypeId} {x i y:AV} {vc:Prop} {o:List O} (rr:WRel C obs w ρ) {u j z:Value} (hx:AVRel (C.V w obs ρ) obs ρ x u) (hi:AVRel (C.V w obs ρ) obs ρ i j) (hy:AVRel (C.V w obs ρ) obs ρ y z)
  (h:mupdV (C.mt t) x i y obs=.skip vc o):∃ w',(Instr.mapUpdate t u j z).run C.P w=.ok () w'/\Step C w w' obs o ρ ρ:=by
 unfold mupdV at h
 split at h
 ·rename_i m id g hmt
  split at h
  ·rename_i m' l g' k v ho hk hvv
   split at h
   ·rename_i hc
    obtain⟨rfl,hkv,hvi⟩:=hc
    cases h
    obtain⟨hρ,b,es,clock,hv,hh,hes,hok⟩:=own_mp rr ho hx
    obtain⟨hj,hkok⟩:=keyV_rel hk hi
    obtain⟨rfl,hvok⟩:=valV_rel hvv hy
    subst hj
    obtain⟨es',clock',hrun,hes',hok'⟩:=mupd_core hC hmt hh hes hok hkv hvi hkok hvok
    rw [<- hv]at hrun
    have hset:=Go.MapKept.heap_set (o':=Obj.map es' clock') hh
    have hfp:fpo (ρ id) (.mp m' l g) b:=by show ρ id=_;rw [<- hρ];exact hv
    have hext:Ext (fun b'=>fpo (ρ id) (.mp m' l g) b') w { w with heap:=w.heap.setIfInBounds b (.map es' clock') }:=
     ⟨rfl,rfl,rfl,by simp,Nat.le_refl _,fun b' _ hS=>hset.2 b' (fun e=>hS (e▸hfp))⟩
    have T:=Turn.one rr id (.mp m' l g) (.mp m' (mput l k v) g) (ρ id) ho hext
     ⟨b,es',clock',by rw [<- hρ];exact hv,hset.1,hes',hok'⟩ (fun b' hb'=>.inl hb') (fun c' hc=>⟨g,rfl,.inl ⟨(by cases hc;rfl),rfl⟩⟩)
    have hst:=T.step rr
    have hρρ:(fun i=>if i=id then ρ id else ρ i)=ρ:=by funext i;by_cases e:i=id<;>simp [e]
    rw [hρρ]at hst
    exact⟨_,hrun,hst⟩
   ·cases h
  ·cases h
 ·cases h
end maps
def allocV (wt:Option E) (rw:Bool) (obs:List O):Res:=
 match wt,rw with
 | some .vec,_=>.ok True (.elt obs.length 0 4 0) (obs ++ [.arr .vec [[0,0,0,0]] 0 true])
 | none,true=>.ok True (.elt obs.length 0 1 0) (obs ++ [.arr (.row true) [[]] 0 true])
 | _,_=>.bad
def wloadV (x:AV) (obs:List O):Res:=
 match x with
 | .relt _ .vec d=>.ok True (.vec d) obs
 | .elt id g s k=>match obs[id]? with
  | some (.arr .vec xs g' _)=>if g=g'/\s=4 then .ok True (.vec (xs.getD k [0,0,0,0])) obs else .bad
  | _=>.bad
 | _=>.bad
def loadS (sc:Bool) (wt:Option E) (x:AV) (obs:List O):Res:=
 match wt with
 | none=>loadV sc x obs
 | some _=>wloadV x obs
def wstoreV (x y:AV) (obs:List O):Res:=
 match x,y with
 | .elt id g s 0,.vec ys=>match obs[id]? with
  | some (.arr .vec [_] g' nn)=>if g=g'/\s=4 then .skip True (obs.set id (.arr .vec [ys] g nn))else .bad
  | _=>.bad
 | _,_=>.bad
def storeS (sc:Bool) (wt:Option E) (x y:AV) (obs:List O):Res:=
 match wt with
 | none=>storeV sc x y obs
 | some _=>wstoreV x y obs
def widxV (x i:AV) (obs:List O):Res:=
 match x,i with
 | .relt f .vec xs,.int _ n=>.ok (0<=n/\n < 4) (.relt f .int (xs.getD n.toNat 0)) obs
 | _,_=>.bad
def idxS (e?:Option E) (wt:Option E) (x i:AV) (obs:List O):Res:=
 match wt with
 | none=>idxV e? x i obs
 | some _=>widxV x i obs
def boxV (wt:Option E) (x:AV) (obs:List O):Res:=
 match wt,x with
 | some .vec,.vec xs=>.ok True (.relt true .vec xs) obs
 | _,_=>.bad
def wsliceV (x:AV) (lo hi:Option AV) (obs:List O):Res:=
 match x,lo,bnd 4 hi with
 | .relt f .vec xs,none,some h=>.ok (0<=h/\h<=4) (.sl f .int (xs.take h.toNat)) obs
 | .elt id g 4 0,none,some h=>match hi,obs[id]? with
  | none,some (.arr .vec [_] g' _)=>if g=g'/\h=4 then .ok True (.asl id g) obs else .bad
  | _,_=>.bad
 | _,_,_=>.bad
def sliceT (wt:Option E) (r:Res) (x:AV) (lo hi:Option AV) (obs:List O):Res:=
 match wt with
 | none=>r
 | some _=>wsliceV x lo hi obs
section wide
variable {C:Ctx} {obs:List O} {w:World} {ρ:Nat->Value}
theorem run_wload (hC:C.Ok) {t:TypeId} {e:E} (ht:C.wt t=some e) {a:Addr} {d:List Int} (h4:d.length=4) (hc:∀ j,j < 4->w.cell? (a.add j)=(d.map (Value.int .i64))[j]?) :
  (Instr.loadAt t (.pointer (some a))).run C.P w=.ok (.agg (d.map (Value.int .i64)).toArray) w:=by
 obtain⟨_,rfl,ti,h1,h2,_,i,hi,_,hs⟩:=hC.wt t e ht
 have hl:=run_loadCells_list (P:=C.P) w a (d.map (Value.int .i64)) (fun j v hv=>by
  have hj:j < 4:=by have:=(geS.1 hv).1;simpa [h4] using this
  rw [hc j hj];exact hv)
 rw [List.length_map,h4]at hl
 simp [Instr.loadAt,Instr.sureAddr,loadVar,isAgg,run_underlying h1,sizeOf,typeInfo,hi,hs,E.size,hl]
theorem wloadV_sound (hC:C.Ok) {t:TypeId} {e:E} (ht:C.wt t=some e) {x:AV} {vc:Prop} {r:AV} {o:List O} (rr:WRel C obs w ρ) {u:Value}
  (hx:AVRel (C.V w obs ρ) obs ρ x u) (h:wloadV x obs=.ok vc r o) :
  o=obs/\∃ z,AVRel (C.V w obs ρ) obs ρ r z/\(Instr.loadAt t u).run C.P w=.ok z w:=by
 unfold wloadV at h
 split at h
 ·rename_i f d
  cases h
  obtain⟨a,z,hu,hf,hr,hcell⟩:=hx
  subst hu
  obtain⟨rfl,h4⟩:=hr
  refine⟨rfl,_,⟨rfl,h4⟩,run_wload hC ht h4 fun j hj=>?_⟩
  have h0:=hcell j hj
  simp only [Value.cells]at h0
  have hlt:j < d.length:=by omega
  rw [List.getElem?_toArray,List.getElem?_map,geE hlt]at h0
  rw [List.getElem?_map,geE hlt]
  exact V_cell h0
 ·rename_i id g s k
  split at h
  case h_2=>cases h
  rename_i xs g' nn ho
  split at h
  case isFalse=>cases h
  rename_i hc
  obtain⟨rfl,rfl⟩:=hc
  cases h
  obtain⟨a,len,cap,hρ,hk,hu⟩:=(hx.2 g (by simp [genOf,ho,O.gen])).2 rfl
  subst hu
  obtain⟨cs,hown,henc,_⟩:=rr.os id _ ho
  rw [hρ]at hown
  obtain⟨b,ha,hlen⟩:∃ b,a=⟨b,0,none⟩/\len=xs.length:=by
   rcases hown.2 with⟨hh,_⟩ | ⟨b,c2,cur,hh,_⟩
   ·cases hh
   ·cases hh;exact⟨b,rfl,rfl⟩
  subst ha hlen
  obtain⟨z,hr,hz⟩:=henc.2 k hk
  obtain⟨rfl,h4⟩:=hr
  refine⟨rfl,_,⟨rfl,by rw [getD_eq hk];exact h4⟩,?_⟩
  rw [getD_eq hk]
  refine run_wload hC ht h4 fun j hj=>?_
  have h0:=hz j hj
  simp only [Value.cells,E.size]at h0
  have hlt:j < xs[k].length:=by omega
  rw [List.getElem?_toArray,List.getElem?_map,geE hlt]at h0
  rw [List.getElem?_map,geE hlt,add_add,Option.map_some]
  exact hown.cells (g:=b) (by simp [Value.ownBlock]) _ _ h0
 ·cases h
theorem widxV_sound (hC:C.Ok) {t:TypeId} {e:E} (ht:C.wt t=some e) {x i:AV} {vc:Prop} {r:AV} {o:List O} {u j:Value}
  (hx:AVRel (C.V w obs ρ) obs ρ x u) (hi:AVRel (C.V w obs ρ) obs ρ i j) (h:widxV x i obs=.ok vc r o) (hv:vc) :
  o=obs/\∃ z,AVRel (C.V w obs ρ) obs ρ r z/\∀ w',(Instr.indexAt t u j).run C.P w'=.ok z w':=by
 obtain⟨_,_,ti,h1,h2,⟨i1,hi1,hs1⟩,_⟩:=hC.wt t e ht
 unfold widxV at h
 split at h
 ·rename_i f xs k n
  cases h
  obtain⟨h0,h4⟩:=hv
  simp only [AVRel]at hi
  obtain⟨a,z,hu,hf,⟨rfl,hl⟩,hcell⟩:=hx
  subst hu hi
  have hlt:n.toNat < xs.length:=by omega
  refine⟨rfl,.pointer (some (a.add n.toNat)),⟨a.add n.toNat,.int .i64 xs[n.toNat],rfl,by rw [add_block];exact hf,by rw [getD_eq hlt];rfl,fun q hq=>?_⟩,fun w'=>?_⟩
  ·have:q=0:=by simp [E.size]at hq;omega
   subst this
   have:=hcell n.toNat (by simp only [E.size];omega)
   rw [add_add]
   simpa [Value.cells,hlt] using this
  ·simp [Instr.indexAt,run_underlying h1,asIntOf,Instr.sureAddr,h0,h4,sizeOf,typeInfo,hi1,hs1]
 ·cases h
theorem allocV_sound (hC:C.Ok) {t:TypeId} {vc:Prop} {r:AV} {o:List O} (rr:WRel C obs w ρ) (h:allocV (C.wt t) (t == C.tid .lrow) obs=.ok vc r o) :
  ∃ z w',(do pure (Value.pointer (some (<- newVar t (<- zeroValue t)))):Sem Value).run C.P w=.ok z w'/\NewOk C obs w ρ r o z w':=by
 unfold allocV at h
 split at h
 ·rename_i hw
  cases h
  obtain⟨htt,_,ti,h1,h2,_,i,hi,hz,hs⟩:=hC.wt t _ hw
  have hrun:(do pure (Value.pointer (some (<- newVar t (<- zeroValue t)))):Sem Value).run C.P w=.ok (.pointer (some ⟨w.heap.size,0,none⟩)) (w.alloc (.cells #[.int .i64 0,.int .i64 0,.int .i64 0,.int .i64 0] t)):=by
   simp [newVar,newRow,newObj,zeroValue,typeInfo,hi,hz,E.zero,Value.cells,Sem.run,Result.andThen,Sem.run_bind]
  refine⟨_,_,hrun,?_⟩
  have hcs:∀ V:Vw,Enc V .vec [[0,0,0,0]] [.int .i64 0,.int .i64 0,.int .i64 0,.int .i64 0]:=fun V=>⟨rfl,fun k hk=>by
   have:k=0:=by simp at hk;omega
   subst this
   refine⟨.agg #[.int .i64 0,.int .i64 0,.int .i64 0,.int .i64 0],⟨rfl,rfl⟩,fun j hj=>?_⟩
   simp only [E.size,Nat.zero_mul,Nat.zero_add,Value.cells]
   simp⟩
  have T:=Turn.new (C:=C) rr (Ext.alloc (fun _=>False) w (.cells #[.int .i64 0,.int .i64 0,.int .i64 0,.int .i64 0] t)) (.arr .vec [[0,0,0,0]] 0 true) (.slice (some ⟨w.heap.size,0,none⟩) 1 1)
   ⟨[.int .i64 0,.int .i64 0,.int .i64 0,.int .i64 0],⟨rfl,.inr ⟨w.heap.size,1,#[.int .i64 0,.int .i64 0,.int .i64 0,.int .i64 0],rfl,nz0 _,by rw [<- htt];exact heap_alloc_new w _,Nat.le_refl _,by simp [maxLen],rfl,rfl⟩⟩,hcs _,by simp,by simp [maxLen]⟩
   (fun b hb=>by simp [fpo,Value.ownBlock]at hb;omega)
  refine⟨_,T.step rr,⟨by simp,fun c hc=>?_⟩⟩
  have:c=0:=by simpa [genOf,O.gen] using hc.symm
  subst this
  refine⟨Nat.le_refl _,fun _=>⟨⟨w.heap.size,0,none⟩,1,1,by simp,by simp,by simp [Addr.add]⟩⟩
 ·rename_i hw hrw
  cases h
  have htt:t=C.tid .lrow:=by simpa using hrw
  obtain⟨i,hi,hz,hs⟩:=hC.lr
  rw [<- htt]at hi
  have hrun:(do pure (Value.pointer (some (<- newVar t (<- zeroValue t)))):Sem Value).run C.P w=.ok (.pointer (some ⟨w.heap.size,0,none⟩)) (w.alloc (.cells #[.slice none 0 0] t)):=by
   simp [newVar,newRow,newObj,zeroValue,typeInfo,hi,hz,Value.cells,Sem.run,Result.andThen,Sem.run_bind]
  refine⟨_,_,hrun,?_⟩
  have hcs:∀ V:Vw,Enc V (.row true) [[]] [.slice none 0 0]:=fun V=>⟨rfl,fun k hk=>by
   have:k=0:=by simp at hk;omega
   subst this
   refine⟨.slice none 0 0,⟨none,0,rfl,by simp,by simp,fun i hi=>by simp at hi⟩,fun j hj=>?_⟩
   simp only [E.size,Nat.zero_mul,Nat.zero_add,Value.cells]
   have:j=0:=by simp [E.size]at hj;omega
   subst this
   simp⟩
  have T:=Turn.new (C:=C) rr (Ext.alloc (fun _=>False) w (.cells #[.slice none 0 0] t)) (.arr (.row true) [[]] 0 true) (.slice (some ⟨w.heap.size,0,none⟩) 1 1)
   ⟨[.slice none 0 0],⟨rfl,.inr ⟨w.heap.size,1,#[.slice none 0 0],rfl,nz0 _,by rw [hC.same,<- htt];exact heap_alloc_new w _,Nat.le_refl _,by simp [maxLen],rfl,rfl⟩⟩,hcs _,by simp,by simp [maxLen]⟩
   (fun b hb=>by simp [fpo,Value.ownBlock]at hb;omega)
  refine⟨_,T.step rr,⟨by simp,fun c hc=>?_⟩⟩
  have:c=0:=by simpa [genOf,O.gen] using hc.symm
  subst this
  refine⟨Nat.le_refl _,fun _=>⟨⟨w.heap.size,0,none⟩,1,1,by simp,by simp,by simp [Addr.add]⟩⟩
 ·cases h
theorem wstoreV_sound (hC:C.Ok) {t:TypeId} {e:E} (ht:C.wt t=some e) {x y:AV} {vc:Prop} {o:List O} (rr:WRel C obs w ρ) {u v:Value}
  (hx:AVRel (C.V w obs ρ) obs ρ x u) (hy:AVRel (C.V w obs ρ) obs ρ y v) (h:wstoreV x y obs=.skip vc o) :
  ∃ w',(Instr.storeAt t u v).run C.P w=.ok () w'/\Step C w w' obs o ρ ρ:=by
 obtain⟨_,rfl,ti,h1,h2,_,i,hi,hz,hs⟩:=hC.wt t e ht
 unfold wstoreV at h
 split at h
 case h_2=>cases h
 rename_i id g s ys
 split at h
 case h_2=>cases h
 rename_i x0 g' nn ho
 split at h
 case isFalse=>cases h
 rename_i hc
 obtain⟨rfl,rfl⟩:=hc
 cases h
 obtain⟨rfl,h4⟩:=hy
 obtain⟨a,len,cap,hρ,hk,hu⟩:=(hx.2 g (by simp [genOf,ho,O.gen])).2 rfl
 subst hu
 obtain⟨cs,hown,henc,hnn,hml⟩:=rr.os id _ ho
 rw [hρ]at hown
 rcases hown.2 with⟨hh,_⟩ | ⟨b,c2,cur,hh,hb0,hg,hn,hcap,hsz,htk⟩
 ·cases hh
 cases hh
 simp only [lenC,lenN,Nat.zero_add,E.size]at hn hsz
 have hv1:∀ v∈ys.map (Value.int .i64),v.oneCell'=true:=by simp [Value.oneCell']
 have hst:=run_storeCells_at C.P b 0 (C.tid .vec) (ys.map (Value.int .i64)) 0 cur w hg (by simp [h4];omega) hv1
 simp only [Nat.add_zero,Nat.zero_add,List.take_zero,List.nil_append,List.length_map,h4]at hst
 have hrun:(Instr.storeAt t (.pointer (some ((⟨b,0,none⟩:Addr).add (0*4)))) (.agg (ys.map (Value.int .i64)).toArray)).run C.P w=.ok () (w.setRow b (ys.map (Value.int .i64) ++ cur.toList.drop 4).toArray):=by
  simp only [Nat.zero_mul,Instr.storeAt,Instr.sureAddr,storeVar,Sem.run_bind,Sem.run_pure,Result.andThen_ok,add_plain,Nat.add_zero]
  simp [sizeOf,typeInfo,hi,hs,E.size,Value.cells,h4,hst]
 have hfp:fpo (ρ id) (.arr .vec [x0] g nn) b:=by simp [fpo,hρ,Value.ownBlock]
 have hρe:(fun i=>if i=id then ρ id else ρ i)=ρ:=by funext i;split<;>simp_all
 have hset:=setRow_heap w b cur (ys.map (Value.int .i64) ++ cur.toList.drop 4).toArray (C.tid .vec) (0,0) hg
 refine⟨_,hrun,?_⟩
 have hext:Ext (fun b'=>fpo (ρ id) (.arr .vec [x0] g nn) b') w (w.setRow b (ys.map (Value.int .i64) ++ cur.toList.drop 4).toArray):=by
  refine⟨rfl,rfl,rfl,by simp [World.setRow],Nat.le_refl _,fun b' hb' hS=>?_⟩
  have hne:b'≠b:=fun e=>hS (e▸hfp)
  exact setRow_other w b b' _ hne
 have hb:∀ b',fpo (ρ id) (.arr .vec [ys] g nn) b'->fpo (ρ id) (.arr .vec [x0] g nn) b'\/w.heap.size<=b':=fun b' hb'=>.inl hb'
 have T:=Turn.one rr id (.arr .vec [x0] g nn) (.arr .vec [ys] g nn) (ρ id) ho hext
  (by
   rw [hρe]
   refine⟨ys.map (Value.int .i64),⟨by simp [h4,E.size],.inr ⟨b,cap,(ys.map (Value.int .i64) ++ cur.toList.drop 4).toArray,hρ,hb0,hset,by simpa using hn,hcap,?_,?_⟩⟩,⟨by simp [h4,E.size],fun k hk=>?_⟩,hnn,by simp [maxLen]⟩
   ·simp [h4,E.size,hsz];omega
   ·simp [E.size,h4]
   ·have:k=0:=by simp at hk;omega
    subst this
    refine⟨.agg (ys.map (Value.int .i64)).toArray,⟨rfl,h4⟩,fun j hj=>?_⟩
    simp [Value.cells,E.size]) hb
  (by
   intro c' hc'
   simp [O.gen]at hc'
   exact⟨g,by simp [O.gen],.inl ⟨hc'.symm,rfl⟩⟩)
 rw [hρe]at T
 exact T.step rr
theorem boxV_sound (hC:C.Ok) {t:TypeId} {x:AV} {vc:Prop} {r:AV} {o:List O} (rr:WRel C obs w ρ) {u:Value} (hx:AVRel (C.V w obs ρ) obs ρ x u) (h:boxV (C.wt t) x obs=.ok vc r o) :
  ∃ z w',(Instr.box t u).run C.P w=.ok z w'/\NewOk C obs w ρ r o z w':=by
 unfold boxV at h
 split at h
 ·rename_i xs hw
  cases h
  obtain⟨rfl,h4⟩:=hx
  have hrun:(Instr.box t (.agg (xs.map (Value.int .i64)).toArray)).run C.P w=.ok (.pointer (some ⟨w.heap.size,0,none⟩)) (w.alloc (.cells (xs.map (Value.int .i64)).toArray t)):=by
   simp [Instr.box,newVar,newRow,newObj,Value.cells,Sem.run,Result.andThen,Sem.run_bind]
  have T:=Turn.none rr (Ext.alloc (fun _=>False) w (.cells (xs.map (Value.int .i64)).toArray t))
  have S:=T.step rr
  refine⟨_,_,hrun,ρ,S,⟨w.heap.size,0,none⟩,.agg (xs.map (Value.int .i64)).toArray,rfl,fun _=>.inl (.inl rr.grow),⟨rfl,h4⟩,fun j hj=>?_⟩
  have hno:¬Own obs ρ w.heap.size:=fun⟨id,o,ho,hf⟩=>absurd ((rr.os id o ho).lt hf) (Nat.lt_irrefl _)
  simp only [Ctx.V,Vw.cell,add_plain,mask,if_neg hno,heap_alloc_new]
  simp [Value.cells]
 ·cases h
theorem wsliceV_sound (hC:C.Ok) {t:TypeId} {e:E} (ht:C.wt t=some e) {x:AV} {lo hi:Option AV} {vc:Prop} {r:AV} {o:List O} {u:Value} {lv hv:Option Value} (hlv:lv.isSome=lo.isSome) (hhv:hv.isSome=hi.isSome)
  (hx:AVRel (C.V w obs ρ) obs ρ x u) (hlo:∀ x v,lo=some x->lv=some v->AVRel (C.V w obs ρ) obs ρ x v) (hhi:∀ x v,hi=some x->hv=some v->AVRel (C.V w obs ρ) obs ρ x v)
  (h:wsliceV x lo hi obs=.ok vc r o) (hvc:vc) :
  o=obs/\∃ z,AVRel (C.V w obs ρ) obs ρ r z/\∀ w',(Instr.sliceAt t u lv hv none).run C.P w'=.ok z w':=by
 obtain⟨_,_,ti,h1,h2,⟨i1,hi1,hs1⟩,_⟩:=hC.wt t e ht
 unfold wsliceV at h
 split at h
 ·rename_i f xs n hb
  cases h
  obtain⟨h0,h4⟩:=hvc
  obtain⟨a,z,hu,hf,⟨rfl,hl⟩,hcell⟩:=hx
  subst hu
  have hbd:=run_bounds (C:=C) (isS:=false) (cap:=4) (len:=4) hlv hhv hlo hhi (l:=0) (h:=n) rfl hb om om om
  refine⟨rfl,.slice (some a) n.toNat 4,?_,fun w'=>?_⟩
  ·refine⟨some a,4,by simp [hl];omega,by simp;omega,by simp [maxLen],fun i hi=>?_⟩
   have hi':i < n.toNat/\i < 4:=by simp at hi;omega
   refine⟨a,.int .i64 (xs.getD i 0),rfl,hf,by simp [ElRel,hi'.1,gdE,show i < xs.length by omega],fun j hj=>?_⟩
   have:j=0:=by simp [E.size]at hj;omega
   subst this
   have:=hcell i (by simp only [E.size];omega)
   simp only [E.size,Nat.mul_one,Nat.add_zero]
   rw [this]
   simp [Value.cells,show i < xs.length by omega]
  ·simp [Instr.sliceAt,run_underlying h1,Instr.sureAddr,hbd w',sizeOf,typeInfo,hi1,hs1,Addr.add]
 ·rename_i id g h4 hb
  split at h
  case h_2=>cases h
  rename_i x0 g' nn ho
  split at h
  case isFalse=>cases h
  rename_i hg
  obtain⟨hg,h40⟩:=hg
  subst hg h40
  cases h
  obtain⟨a,len,cap,hρ,hk,hu⟩:=(hx.2 g (by simp [genOf,ho,O.gen])).2 rfl
  subst hu
  have hbd:=run_bounds (C:=C) (isS:=false) (cap:=4) (len:=4) hlv hhv hlo hhi (l:=0) (h:=4) rfl hb om om om
  refine⟨rfl,.slice (some a) 4 4,⟨hx.1,fun c hc=>?_⟩,fun w'=>?_⟩
  ·have:c=g:=by simp [genOf,ho,O.gen]at hc;exact hc.symm
   subst this
   exact⟨Nat.le_refl _,fun _=>⟨a,len,cap,hρ,rfl⟩⟩
  ·simp [Instr.sliceAt,run_underlying h1,Instr.sureAddr,hbd w',sizeOf,typeInfo,hi1,hs1,Addr.add]
 ·cases h
end wide
def bagH:List O->Option (BagD×Nat)
 | .bag d g :: _=>some (d,g)
 | _=>none
theorem bagH_get {obs:List O} {d:BagD} {g:Nat} (h:bagH obs=some (d,g)):obs[0]? = some (.bag d g):=by
 unfold bagH at h
 split at h
 ·cases h;rfl
 ·cases h
def bagLoad (bt:Option BT) (gp:Option E) (mt:Option MT) (q k:Nat) (obs:List O):BagD×Nat->Res
 | (d,g)=>match k,bt,gp,mt with
  | 0,some (.int .i64),_,_=>if q=d.hb then .ok True (.int .i64 d.hn) obs else .bad
  | 0,none,some .pr,_=>if q=d.lb/\2<=d.ph/\d.st=true then .ok True (.own 0 g) obs else .bad
  | 0,none,none,some _=>if q=d.sb/\4<=d.ph then .ok True (.mv d.mb) obs else .bad
  | _,_,_,_=>.bad
def pairLoad (id g k:Nat) (obs:List O):Res:=
 match obs[id]? with
 | some (.bag d g')=>if g=g'/\2<=d.ph then .ok (k < d.xs.length) (.prv (d.xs.getD k ([],[]))) obs else .bad
 | some (.arr .pr xs g' _)=>if g=g' then .ok (k < xs.length) (.prv (xs.getD k ([],[]))) obs else .bad
 | _=>.bad
def orBag (r:Res) (f:BagD×Nat->Res):Option (BagD×Nat)->Res
 | some x=>f x
 | none=>r
def loadX (bt:Option BT) (gp:Option E) (mt:Option MT) (sc:Bool) (wt:Option E) (pt:Bool) (x:AV) (obs:List O):Res:=
 match x with
 | .hp q k=>orBag (loadS sc wt (.hp q k) obs) (bagLoad bt gp mt q k obs) (bagH obs)
 | .elt id g 2 k=>bif pt then pairLoad id g k obs else .bad
 | x=>loadS sc wt x obs
section bag
variable {C:Ctx} {obs:List O} {w:World} {ρ:Nat->Value}
theorem ptr_hp {q:Nat} {u:Value} (h:AVRel (C.V w obs ρ) obs ρ (.hp q 0) u):u=.pointer (some ⟨hdB q,0,none⟩):=by
 have h:u=.pointer (some ((⟨hdB q,0,none⟩:Addr).add 0)):=h
 rw [h];simp [Addr.add]
theorem pair_run (hC:C.Ok) {t:TypeId} (ht:C.pt t=true) {a:Addr} {u1 u2:Value} (h1:w.cell? a=some u1) (h2:w.cell? (a.add 1)=some u2):(Instr.loadAt t (.pointer (some a))).run C.P w=.ok (.agg #[u1,u2]) w:=by
 obtain⟨_,f0,f1,hu,_,_,_,_,i,hi,_,hs⟩:=hC.pt t ht
 have hl:=run_loadCells_list (P:=C.P) w a [u1,u2] (fun j v hv=>by
  match j,hv with
  | 0,hv=>simp at hv;subst hv;simpa [Addr.add] using h1
  | 1,hv=>simp at hv;subst hv;exact h2)
 simp only [lenC,lenN]at hl
 simp [Instr.loadAt,Instr.sureAddr,loadVar,isAgg,run_underlying hu,sizeOf,typeInfo,hi,hs,hl]
theorem pair_load (hC:C.Ok) {t:TypeId} (ht:C.pt t=true) {v:Value} {xs:List E.pr.D} {cs:List Value} (hown:w.ownsRow 0 (C.tid .pr) 2 v xs.length cs) (henc:Enc (C.V w obs ρ) .pr xs cs) {k:Nat} (hk:k < xs.length) {a:Addr} {len cap:Nat} (hv:v=.slice (some a) len cap) :
  ∃ z,AVRel (C.V w obs ρ) obs ρ (.prv (xs.getD k ([],[]))) z/\(Instr.loadAt t (.pointer (some (a.add (k*2))))).run C.P w=.ok z w:=by
 obtain⟨u,hu,hc⟩:=henc.2 k hk
 have hu':=hu
 obtain⟨u1,u2,rfl,_,_⟩:∃ u1 u2,u=.agg #[u1,u2]/\RowRel (C.V w obs ρ) true xs[k].1 u1/\RowRel (C.V w obs ρ) true xs[k].2 u2:=hu
 refine⟨_,by rw [getD_eq hk];exact hu',?_⟩
 subst hv
 rcases hown.2 with⟨hn,_⟩ | ⟨b,cap',cur,hv,_,hg,hn,hcap,hsz,htk⟩
 ·cases hn
 cases hv
 have hcl:cs.length=xs.length*2:=henc.1
 have hcell:∀ j,j < 2->w.cell? ((⟨b,0,none⟩:Addr).add (k*2+j))=(#[u1,u2]:Array Value)[j]?:=fun j hj=>by
  have h1:=hc j hj
  simp only [E.size]at h1
  rw [add_plain]
  simp only [World.cell?,hg,Nat.zero_add]
  have h2:(cur.toList.take (xs.length*2))[k*2+j]? = cs[k*2+j]?:=by rw [htk]
  rw [List.getElem?_take,if_pos om]at h2
  have h3:(Value.agg #[u1,u2]).cells=#[u1,u2]:=rfl
  rw [h3]at h1
  rw [<- h1,<- h2]
  simp
 refine pair_run hC ht ?_ ?_
 ·have:=hcell 0 om;simpa using this
 ·rw [add_add];have:=hcell 1 om;simpa using this
theorem loadX_sound (hC:C.Ok) {t:TypeId} {x:AV} {vc:Prop} {r:AV} {o:List O} (rr:WRel C obs w ρ) {u:Value}
  (hx:AVRel (C.V w obs ρ) obs ρ x u) (h:loadX (C.bt t) (C.Γ t) (C.mt t) (C.sc t) (C.wt t) (C.pt t) x obs=.ok vc r o) (hv:vc) :
  o=obs/\∃ z,AVRel (C.V w obs ρ) obs ρ r z/\(Instr.loadAt t u).run C.P w=.ok z w:=by
 have old:∀ {x:AV},AVRel (C.V w obs ρ) obs ρ x u->loadS (C.sc t) (C.wt t) x obs=.ok vc r o->o=obs/\∃ z,AVRel (C.V w obs ρ) obs ρ r z/\(Instr.loadAt t u).run C.P w=.ok z w:=by
  intro x hx h
  cases hw:C.wt t with
  | none=>rw [hw]at h;exact loadV_sound hC rr hx h hv
  | some e=>rw [hw]at h;exact wloadV_sound hC hw rr hx h
 unfold loadX at h
 split at h
 ·rename_i q k
  cases hb:bagH obs with
  | none=>rw [hb]at h;exact old hx h
  | some p=>
   rw [hb]at h
   obtain⟨d,g⟩:=p
   have ho:=bagH_get hb
   have hB:BagRel w (C.V w obs ρ) (C.tid .pr) (ρ 0) d:=rr.os 0 _ ho
   have h:bagLoad (C.bt t) (C.Γ t) (C.mt t) q k obs (d,g)=.ok vc r o:=h
   unfold bagLoad at h
   have one:∀ {b:Nat} {v:Value} {ty:TypeId},(isAgg t).run C.P w=.ok false w->w.heap[b]? = some (.cells #[v] ty (0,0))->(Instr.loadAt t (.pointer (some ⟨b,0,none⟩))).run C.P w=.ok v w:=by
    intro b v ty h1 h2
    have h3:=cell_of_one h2
    simp [Instr.loadAt,Instr.sureAddr,loadVar,h1,h3]
   simp only at h
   split at h
   ·rename_i hbt _
    split at h
    ·rename_i hq
     cases h
     subst hq
     obtain⟨ty,e⟩:=hB.h
     have hsc:C.sc t=true:=by simp [Ctx.sc,hbt]
     rw [ptr_hp hx]
     exact⟨rfl,_,rfl,one ((sc_plain hC hsc).1 w) e⟩
    ·cases h
   ·rename_i hg _
    split at h
    ·rename_i hq
     obtain⟨hq,h2,hst⟩:=hq
     cases h
     subst hq
     obtain⟨u',ty,e,_,hu⟩:=hB.l om
     have hsc:C.sc t=true:=by simp [Ctx.sc,hg]
     rw [ptr_hp hx]
     refine⟨rfl,u',⟨(geS.1 ho).1,fun c hc=>?_⟩,one ((sc_plain hC hsc).1 w) e⟩
     have:c=g:=by simpa [genOf,ho,O.gen] using hc.symm
     subst this
     exact⟨Nat.le_refl _,fun _=>hu h2 hst⟩
    ·cases h
   ·rename_i m _ _ hm _
    split at h
    ·rename_i hq
     obtain⟨hq,h4⟩:=hq
     cases h
     subst hq
     obtain⟨u',ty,e,hu⟩:=hB.s om
     obtain⟨kt,et,hund,_⟩:=hC.mt t _ hm
     rw [ptr_hp hx]
     exact⟨rfl,u',hu h4,one (by simp [isAgg,run_underlying hund]) e⟩
    ·cases h
   ·cases h
 ·rename_i id g k
  cases hp:C.pt t with
  | false=>rw [hp]at h;cases h
  | true=>
   rw [hp]at h
   have h:pairLoad id g k obs=.ok vc r o:=h
   unfold pairLoad at h
   obtain⟨hid,hel⟩:=hx
   split at h
   ·rename_i d g' ho
    split at h
    ·rename_i hc
     obtain⟨hg,h2⟩:=hc
     subst hg
     cases h
     obtain⟨_,hel⟩:=hel g (by simp [genOf,ho,O.gen])
     obtain⟨a,len,cap,hr,hk,hu⟩:=hel rfl
     obtain⟨cs,hown,henc,_⟩:=(show BagRel w (C.V w obs ρ) (C.tid .pr) (ρ id) d from rr.os id _ ho).r h2
     subst hu
     exact⟨rfl,pair_load hC hp hown henc hv hr⟩
    ·cases h
   ·rename_i xs g' nn ho
    split at h
    ·rename_i hc
     subst hc
     cases h
     obtain⟨_,hel⟩:=hel g (by simp [genOf,ho,O.gen])
     obtain⟨a,len,cap,hr,hk,hu⟩:=hel rfl
     obtain⟨cs,hown,henc,_⟩:=rr.os id _ ho
     subst hu
     exact⟨rfl,pair_load hC hp hown henc hv hr⟩
    ·cases h
   ·cases h
 ·exact old hx h
theorem Turn.merge {w':World} (r:WRel C obs w ρ) (i j:Nat) (hij:i≠j) (o o2 o':O) (v:Value) (hi:obs[i]? = some o) (hj:obs[j]? = some o2)
  (h:Ext (fun b=>fpo (ρ i) o b\/fpo (ρ j) o2 b) w w')
  (ho:ORel C.tid w' (C.V w' ((obs.set j .dead).set i o') (fun k=>if k=i then v else ρ k)) v o')
  (hb:∀ b,fpo v o' b->(fpo (ρ i) o b\/fpo (ρ j) o2 b)\/w.heap.size<=b)
  (hg:∀ c',o'.gen=some c'->∃ c,o.gen=some c/\((c'=c/\v=ρ i)\/c < c')) :
  Turn C w w' obs ((obs.set j .dead).set i o') ρ (fun k=>if k=i then v else ρ k) (fun b=>fpo (ρ i) o b\/fpo (ρ j) o2 b):=by
 have hli:i < obs.length:=(geS.1 hi).1
 have hlj:j < obs.length:=(geS.1 hj).1
 have get:∀ k o1,((obs.set j .dead).set i o')[k]? = some o1->(k=i/\o1=o')\/(k≠i/\k=j/\o1=.dead)\/(k≠i/\k≠j/\obs[k]? = some o1):=by
  intro k o1 hk
  by_cases h1:k=i
  ·subst h1
   rw [List.getElem?_set_self (by simpa using hli)]at hk
   cases hk;exact .inl ⟨rfl,rfl⟩
  ·rw [List.getElem?_set_ne (Ne.symm h1)]at hk
   by_cases h2:k=j
   ·subst h2
    rw [List.getElem?_set_self hlj]at hk
    cases hk;exact .inr (.inl ⟨h1,rfl,rfl⟩)
   ·rw [List.getElem?_set_ne (Ne.symm h2)]at hk
    exact .inr (.inr ⟨h1,h2,hk⟩)
 have out:∀ k o1 b,k≠i->k≠j->obs[k]? = some o1->fpo (ρ k) o1 b->¬((fpo (ρ i) o b\/fpo (ρ j) o2 b)\/w.heap.size<=b):=by
  rintro k o1 b h1 h2 hk hf ((hS | hS) | hS)
  ·exact h1 (r.dis k i o1 o b hk hi hf hS)
  ·exact h2 (r.dis k j o1 o2 b hk hj hf hS)
  ·have:=(r.os k o1 hk).lt hf;omega
 refine⟨h,by simp,fun b hS=>hS.elim (fun k=>⟨i,o,hi,k⟩) (fun k=>⟨j,o2,hj,k⟩),fun k o1 hk=>?_,fun k l o1 o2' b hk hl bk bl hS=>?_⟩
 ·rcases get k o1 hk with⟨rfl,rfl⟩ | ⟨h1,rfl,rfl⟩ | ⟨h1,h2,h3⟩
  ·refine .inr ⟨by simpa using ho,fun b hb'=>hb b (by simpa using hb'),fun _ c' hc'=>?_⟩
   obtain⟨c,hc,hh⟩:=hg c' hc'
   exact⟨c,by unfold genOf;rw [hi];exact hc,by simpa using hh⟩
  ·exact .inr ⟨trivial,fun b hb'=>by simp [fpo]at hb',fun _ c' hc'=>by simp [O.gen]at hc'⟩
  ·exact .inl ⟨h3,if_neg h1,fun b hb' hS=>out k o1 b h1 h2 h3 hb' (.inl hS)⟩
 ·have key:∀ k o1,((obs.set j .dead).set i o')[k]? = some o1->fpo (if k=i then v else ρ k) o1 b->k=i:=by
   intro k o1 hk bk
   rcases get k o1 hk with⟨rfl,rfl⟩ | ⟨h1,rfl,rfl⟩ | ⟨h1,h2,h3⟩
   ·rfl
   ·simp [fpo]at bk
   ·rw [if_neg h1]at bk
    exact absurd hS (out k o1 b h1 h2 h3 bk)
  rw [key k o1 hk bk,key l o2' hl bl]
theorem le_merge {w':World} {i j:Nat} {o o2 o':O} {v:Value} (hi:obs[i]? = some o) (hj:obs[j]? = some o2) (h:Ext (fun b=>fpo (ρ i) o b\/fpo (ρ j) o2 b) w w')
  (hb:∀ b,fpo v o' b->(fpo (ρ i) o b\/fpo (ρ j) o2 b)\/w.heap.size<=b):(C.V w obs ρ).le (C.V w' ((obs.set j .dead).set i o') (fun k=>if k=i then v else ρ k)):=by
 refine⟨fun b x hx=>?_,fun _ h=>h,rfl⟩
 simp only [Ctx.V,mask]at hx ⊢
 split at hx
 ·cases hx
 ·rename_i hn
  have hlt:=(ageS.1 hx).1
  have hS:¬(fpo (ρ i) o b\/fpo (ρ j) o2 b):=fun hh=>hn (hh.elim (fun k=>⟨i,o,hi,k⟩) (fun k=>⟨j,o2,hj,k⟩))
  have hn':¬Own ((obs.set j .dead).set i o') (fun k=>if k=i then v else ρ k) b:=by
   rintro⟨k,ok,hk,hf⟩
   simp only at hf
   have hli:i < obs.length:=(geS.1 hi).1
   have hlj:j < obs.length:=(geS.1 hj).1
   by_cases h1:k=i
   ·subst h1
    rw [List.getElem?_set_self (by simpa using hli)]at hk
    cases hk
    rw [if_pos rfl]at hf
    rcases hb b hf with k1 | k1
    ·exact hS k1
    ·omega
   ·rw [List.getElem?_set_ne (Ne.symm h1)]at hk
    rw [if_neg h1]at hf
    by_cases h2:k=j
    ·subst h2
     rw [List.getElem?_set_self hlj]at hk
     cases hk;simp [fpo]at hf
    ·rw [List.getElem?_set_ne (Ne.symm h2)]at hk
     exact hn ⟨k,ok,hk,hf⟩
  rw [if_neg hn',h.block b hlt hS]
  exact hx
end bag
def bagStore (gp:Option E) (mt:Option MT) (q k:Nat) (y:AV) (obs:List O):BagD×Nat->Res
 | (d,g)=>match k,y with
  | 0,.own j g2=>
   if j=0 then
    match gp with
    | some .pr=>if g2=g/\q=d.lb/\2<=d.ph then .skip True (obs.set 0 (.bag { d with st:=true } g))else .bad
    | _=>.bad
   else match obs[j]? with
    | some (.arr .pr xs g' true)=>if gp=some .pr/\g2=g'/\q=d.lb/\d.ph=1 then .skip True ((obs.set j .dead).set 0 (.bag { d with ph:=2,st:=true,xs:=xs } (g+1)))else .bad
    | some (.mp m l g')=>match mt with
     | some m2=>if g2=g'/\q=d.sb/\d.ph=3/\m2.kv=m.kv/\m2.vi=m.vi then .all (fun _=>True) (fun _=>.junk) (fun b=>(obs.set j .dead).set 0 (.bag { d with ph:=4,mb:=b,m:=m,ml:=l } g))else .bad
     | none=>.bad
    | _=>.bad
  | _,_=>.bad
def pairStore (x:AV) (d:E.pr.D) (obs:List O):Res:=
 match x with
 | .elt id g s 0=>match obs[id]? with
  | some (.arr .pr [_] g' nn)=>if g=g'/\s=2 then .skip True (obs.set id (.arr .pr [d] g nn))else .bad
  | _=>.bad
 | _=>.bad
def storeX (gp:Option E) (mt:Option MT) (sc:Bool) (wt:Option E) (pt:Bool) (x y:AV) (obs:List O):Res:=
 match y with
 | .prv d=>bif pt then pairStore x d obs else .bad
 | y=>match x with
  | .hp q k=>orBag (storeS sc wt (.hp q k) y obs) (bagStore gp mt q k y obs) (bagH obs)
  | x=>storeS sc wt x y obs
section bag
variable {C:Ctx} {obs:List O} {w:World} {ρ:Nat->Value}
theorem one_store {t:TypeId} {b:Nat} {u v:Value} {ty:TypeId} (hs:∃ i,C.P.info? t=some i/\i.size=1) (hone:v.oneCell'=true) (h:w.heap[b]? = some (.cells #[u] ty (0,0))) :
  (Instr.storeAt t (.pointer (some ⟨b,0,none⟩)) v).run C.P w=.ok () (w.setCell ⟨b,0,none⟩ v):=by
 obtain⟨i,hi,hi1⟩:=hs
 have h1:=cell_of_one h
 have h2:=free_of_one h
 simp [Instr.storeAt,Instr.sureAddr,storeVar,sizeOf,typeInfo,hi,hi1,cells_oneCell hone,storeCells,run_store _ _ _ _ _ hone,Addr.add,h1,h2]
theorem ext_setCell {b:Nat} {u v:Value} {ty:TypeId} (h:w.heap[b]? = some (.cells #[u] ty (0,0))) {S:Nat->Prop} (hS:S b):Ext S w (w.setCell ⟨b,0,none⟩ v):=
 ⟨rfl,rfl,rfl,by simp [World.setCell],Nat.le_refl _,fun b' _ hb=>Go.RowKit.Below.heap_setCell _ _ _ _ (fun e=>hb (by rw [e];exact hS))⟩
theorem slice_one {base e size:Nat} {v:Value} {n:Nat} {cs:List Value} (h:w.ownsRow base e size v n cs):v.oneCell'=true:=by
 obtain⟨a,cap,rfl⟩:=ownsRow_len h;rfl
theorem pairStore_sound (hC:C.Ok) {t:TypeId} (ht:C.pt t=true) {x:AV} {d:E.pr.D} {vc:Prop} {o:List O} (rr:WRel C obs w ρ) {u v:Value}
  (hx:AVRel (C.V w obs ρ) obs ρ x u) (hy:AVRel (C.V w obs ρ) obs ρ (.prv d) v) (h:pairStore x d obs=.skip vc o) :
  ∃ w',(Instr.storeAt t u v).run C.P w=.ok () w'/\Step C w w' obs o ρ ρ:=by
 obtain⟨_,f0,f1,hund,_,_,_,_,i,hi,hz,hs⟩:=hC.pt t ht
 unfold pairStore at h
 split at h
 case h_2=>cases h
 rename_i id g s
 split at h
 case h_2=>cases h
 rename_i x0 g' nn ho
 split at h
 case isFalse=>cases h
 rename_i hc
 obtain⟨rfl,rfl⟩:=hc
 cases h
 have hy0:=hy
 obtain⟨v1,v2,hvv,hr1,hr2⟩:=(show ElRel (C.V w obs ρ) .pr d v from hy)
 obtain⟨a,len,cap,hρ,hk,hu⟩:=(hx.2 g (by simp [genOf,ho,O.gen])).2 rfl
 subst hu
 obtain⟨cs,hown,henc,hnn,hml⟩:=rr.os id _ ho
 rw [hρ]at hown
 rcases hown.2 with⟨hh,_⟩ | ⟨b,c2,cur,hh,hb0,hg,hn,hcap,hsz,htk⟩
 ·cases hh
 cases hh
 simp only [lenC,lenN,Nat.zero_add,E.size]at hn hsz
 have hv1:∀ v∈[v1,v2],v.oneCell'=true:=by simp [RowRel.oneCell hr1,RowRel.oneCell hr2]
 have hst:=run_storeCells_at C.P b 0 (C.tid .pr) [v1,v2] 0 cur w hg (by simp;omega) hv1
 simp only [Nat.add_zero,Nat.zero_add,List.take_zero,List.nil_append,lenC,lenN]at hst
 have hrun:(Instr.storeAt t (.pointer (some ((⟨b,0,none⟩:Addr).add (0*2)))) v).run C.P w=.ok () (w.setRow b ([v1,v2] ++ cur.toList.drop 2).toArray):=by
  rw [hvv]
  simp only [Nat.zero_mul,Instr.storeAt,Instr.sureAddr,storeVar,Sem.run_bind,Sem.run_pure,Result.andThen_ok,add_plain,Nat.add_zero]
  simp [sizeOf,typeInfo,hi,hs,Value.cells,hst]
 have hfp:fpo (ρ id) (.arr .pr [x0] g nn) b:=by simp [fpo,hρ,Value.ownBlock]
 have hρe:(fun i=>if i=id then ρ id else ρ i)=ρ:=by funext i;split<;>simp_all
 have hset:=setRow_heap w b cur ([v1,v2] ++ cur.toList.drop 2).toArray (C.tid .pr) (0,0) hg
 refine⟨_,hrun,?_⟩
 have hext:Ext (fun b'=>fpo (ρ id) (.arr .pr [x0] g nn) b') w (w.setRow b ([v1,v2] ++ cur.toList.drop 2).toArray):=by
  refine⟨rfl,rfl,rfl,by simp [World.setRow],Nat.le_refl _,fun b' hb' hS=>?_⟩
  have hne:b'≠b:=fun e=>hS (e▸hfp)
  exact setRow_other w b b' _ hne
 have hb:∀ b',fpo (ρ id) (.arr .pr [d] g nn) b'->fpo (ρ id) (.arr .pr [x0] g nn) b'\/w.heap.size<=b':=fun b' hb'=>.inl hb'
 have hV:=le_one (C:=C) (o':=.arr .pr [d] g nn) (v:=ρ id) ho hext hb
 rw [hρe]at hV
 have T:=Turn.one rr id (.arr .pr [x0] g nn) (.arr .pr [d] g nn) (ρ id) ho hext
  (by
   rw [hρe]
   refine⟨[v1,v2],⟨by simp [E.size],.inr ⟨b,cap,([v1,v2] ++ cur.toList.drop 2).toArray,hρ,hb0,hset,by simpa using hn,hcap,?_,?_⟩⟩,⟨by simp [E.size],fun k hk=>?_⟩,hnn,by simp [maxLen]⟩
   ·simp [E.size,hsz];omega
   ·simp [E.size]
   ·have:k=0:=by simp at hk;omega
    subst this
    refine⟨v,(show ElRel (C.V w obs ρ) .pr d v from hy0).mono hV,fun j hj=>?_⟩
    rw [hvv]
    simp [Value.cells,E.size]) hb
  (by
   intro c' hc'
   simp [O.gen]at hc'
   exact⟨g,by simp [O.gen],.inl ⟨hc'.symm,rfl⟩⟩)
 rw [hρe]at T
 exact T.step rr
theorem storeX_skip (hC:C.Ok) {t:TypeId} {x y:AV} {vc:Prop} {o:List O} (rr:WRel C obs w ρ) {u v:Value} (hx:AVRel (C.V w obs ρ) obs ρ x u) (hy:AVRel (C.V w obs ρ) obs ρ y v)
  (hns:∀ s,y≠.str s) (h:storeX (C.Γ t) (C.mt t) (C.sc t) (C.wt t) (C.pt t) x y obs=.skip vc o) (hv:vc):∃ w' ρ',(Instr.storeAt t u v).run C.P w=.ok () w'/\Step C w w' obs o ρ ρ':=by
 have old:∀ {x y:AV},AVRel (C.V w obs ρ) obs ρ x u->AVRel (C.V w obs ρ) obs ρ y v->(∀ s,y≠.str s)->storeS (C.sc t) (C.wt t) x y obs=.skip vc o->∃ w' ρ',(Instr.storeAt t u v).run C.P w=.ok () w'/\Step C w w' obs o ρ ρ':=by
  intro x y hx hy hns h
  cases hw:C.wt t with
  | none=>
   rw [hw]at h
   obtain⟨w',h1,h2⟩:=storeV_sound hC rr hx hy (fun s hs=>absurd hs (hns s)) h hv
   exact⟨w',ρ,h1,h2⟩
  | some e=>
   rw [hw]at h
   obtain⟨w',h1,h2⟩:=wstoreV_sound hC hw rr hx hy h
   exact⟨w',ρ,h1,h2⟩
 unfold storeX at h
 split at h
 ·rename_i d
  cases hp:C.pt t with
  | false=>rw [hp]at h;cases h
  | true=>
   rw [hp]at h
   obtain⟨w',h1,h2⟩:=pairStore_sound hC hp rr hx hy h
   exact⟨w',ρ,h1,h2⟩
 ·rename_i hnp
  split at h
  ·rename_i q k
   cases hb:bagH obs with
   | none=>rw [hb]at h;exact old hx hy hns h
   | some p=>
    rw [hb]at h
    obtain⟨d,g⟩:=p
    have ho:=bagH_get hb
    have hB:BagRel w (C.V w obs ρ) (C.tid .pr) (ρ 0) d:=rr.os 0 _ ho
    replace h:bagStore (C.Γ t) (C.mt t) q k y obs (d,g)=.skip vc o:=h
    unfold bagStore at h
    simp only at h
    split at h
    case h_2=>cases h
    rename_i j g2
    split at h
    ·rename_i hj
     subst hj
     split at h
     case h_2=>cases h
     rename_i hg
     split at h
     case isFalse=>cases h
     rename_i hc
     obtain⟨hgg,hq,h2⟩:=hc
     subst hgg hq
     cases h
     obtain⟨hv0,_⟩:=own_bag rr ho hy
     obtain⟨u',ty,e,eo,_⟩:=hB.l om
     obtain⟨cs,hown,henc,hnn,hml⟩:=hB.r h2
     have hone:=slice_one hown
     rw [ptr_hp hx,hv0]
     have hfp:fpo (ρ 0) (.bag d g2) (hdB d.lb):=.inr (.inl ⟨by omega,rfl⟩)
     have hext:=ext_setCell (v:=ρ 0) e (S:=fun b=>fpo (ρ 0) (.bag d g2) b) hfp
     have hρe:(fun i=>if i=0 then ρ 0 else ρ i)=ρ:=by funext i;split<;>simp_all
     have hbb:∀ b',fpo (ρ 0) (.bag { d with st:=true } g2) b'->fpo (ρ 0) (.bag d g2) b'\/w.heap.size<=b':=fun b' hb'=>.inl hb'
     have hV:=le_one (C:=C) (o':=.bag { d with st:=true } g2) (v:=ρ 0) ho hext hbb
     rw [hρe]at hV
     have T:=Turn.one rr 0 (.bag d g2) (.bag { d with st:=true } g2) (ρ 0) ho hext (by
      rw [hρe]
      have oth:∀ {b:Nat},b≠hdB d.lb->(w.setCell ⟨hdB d.lb,0,none⟩ (ρ 0)).heap[b]? = w.heap[b]?:=fun hne=>Go.RowKit.Below.heap_setCell _ _ _ _ hne
      obtain⟨th,eh⟩:=hB.h
      refine⟨⟨th,by rw [oth (Ne.symm (hB.d1 om))];exact eh⟩,hB.d1,hB.d2,hB.d3,hB.d4,fun _=>⟨ρ 0,ty,one_setCell e,hone,fun _ _=>rfl⟩,fun _=>⟨cs,ownsRow_setCell_other hown (fun k=>(hB.d2 h2 _ k).2 rfl) _,henc.mono hV,hnn,hml⟩,fun k3=>?_,fun k4=>?_⟩
      ·obtain⟨u3,t3,e3,r3⟩:=hB.s k3
       exact⟨u3,t3,by rw [oth (hB.d3 k3).2.1];exact e3,r3⟩
      ·obtain⟨es,ck,e3,r3⟩:=hB.m k4
       exact⟨es,ck,by rw [oth (hB.d4 k4).2.1];exact e3,r3⟩) hbb (by
      intro c' hc'
      simp [O.gen]at hc'
      exact⟨g2,by simp [O.gen],.inl ⟨hc'.symm,rfl⟩⟩)
     rw [hρe]at T
     exact⟨_,ρ,one_store (hC.slc t _ hg) hone e,T.step rr⟩
    ·rename_i hj
     split at h
     ·rename_i xs g' ho2
      split at h
      case isFalse=>cases h
      rename_i hc
      obtain⟨hg,hgg,hq,h1⟩:=hc
      subst hgg hq
      cases h
      obtain⟨hv0,cs,hown,henc,hnn,hml⟩:=own_arr rr ho2 hy
      obtain⟨u',ty,e,eo,_⟩:=hB.l om
      have hone:=slice_one hown
      rw [ptr_hp hx]
      have hfp:fpo (ρ 0) (.bag d g) (hdB d.lb):=.inr (.inl ⟨by omega,rfl⟩)
      have hext:=ext_setCell (v:=v) e (S:=fun b=>fpo (ρ 0) (.bag d g) b\/fpo (ρ j) (.arr .pr xs g2 true) b) (.inl hfp)
      have hbb:∀ b',fpo v (.bag { d with ph:=2,st:=true,xs:=xs } (g+1)) b'->(fpo (ρ 0) (.bag d g) b'\/fpo (ρ j) (.arr .pr xs g2 true) b')\/w.heap.size<=b':=by
       rintro b' (k | ⟨_,k⟩ | ⟨_,k⟩ | ⟨k,_⟩ | ⟨k,_⟩)
       ·exact .inl (.inl (.inl k))
       ·exact .inl (.inl (.inr (.inl ⟨by omega,k⟩)))
       ·exact .inl (.inr (by rw [<- hv0];exact k))
       ·exact absurd (show 3<=2 from k) (by decide)
       ·exact absurd (show 4<=2 from k) (by decide)
      have hV:=le_merge (C:=C) ho ho2 hext hbb
      have hdis:∀ b,v.ownBlock=some b->b≠hdB d.hb/\b≠hdB d.lb:=by
       intro b hb
       have h3:fpo (ρ j) (.arr .pr xs g2 true) b:=by rw [<- hv0];exact hb
       refine⟨fun e=>?_,fun e=>?_⟩
       ·exact hj (rr.dis j 0 _ _ b ho2 ho h3 (.inl e))
       ·exact hj (rr.dis j 0 _ _ b ho2 ho h3 (.inr (.inl ⟨by omega,e⟩)))
      have T:=Turn.merge rr 0 j (Ne.symm hj) (.bag d g) (.arr .pr xs g2 true) (.bag { d with ph:=2,st:=true,xs:=xs } (g+1)) v ho ho2 hext (by
       obtain⟨th,eh⟩:=hB.h
       refine⟨⟨th,by rw [Go.RowKit.Below.heap_setCell _ _ _ _ (Ne.symm (hB.d1 om))];exact eh⟩,fun _=>hB.d1 om,fun _=>hdis,fun k=>absurd (show 3<=2 from k) (by decide),fun k=>absurd (show 4<=2 from k) (by decide),fun _=>⟨v,ty,one_setCell e,hone,fun _ _=>rfl⟩,fun _=>⟨cs,ownsRow_setCell_other hown (fun k=>(hdis _ k).2 rfl) _,henc.mono hV,hnn rfl,hml⟩,fun k=>absurd (show 3<=2 from k) (by decide),fun k=>absurd (show 4<=2 from k) (by decide)⟩) hbb (by
       intro c' hc'
       simp [O.gen]at hc'
       exact⟨g,by simp [O.gen],.inr om⟩)
      exact⟨_,_,one_store (hC.slc t _ hg) hone e,T.step rr⟩
     ·split at h
      ·split at h<;>cases h
      ·cases h
     ·cases h
  ·exact old hx hy hns h
theorem storeX_all (hC:C.Ok) {t:TypeId} {x y:AV} {p:Nat->Prop} {r:Nat->AV} {o:Nat->List O} (rr:WRel C obs w ρ) {u v:Value} (hx:AVRel (C.V w obs ρ) obs ρ x u) (hy:AVRel (C.V w obs ρ) obs ρ y v)
  (hns:∀ s,y≠.str s) (h:storeX (C.Γ t) (C.mt t) (C.sc t) (C.wt t) (C.pt t) x y obs=.all p r o):∃ w' l ρ',p l/\(Instr.storeAt t u v).run C.P w=.ok () w'/\r l=.junk/\Step C w w' obs (o l) ρ ρ':=by
 have old:∀ {x y:AV},AVRel (C.V w obs ρ) obs ρ x u->AVRel (C.V w obs ρ) obs ρ y v->storeS (C.sc t) (C.wt t) x y obs=.all p r o->∃ w' l ρ',p l/\(Instr.storeAt t u v).run C.P w=.ok () w'/\r l=.junk/\Step C w w' obs (o l) ρ ρ':=by
  intro x y hx hy h
  cases hw:C.wt t with
  | none=>
   rw [hw]at h
   obtain⟨w',l,h0,h1,h2,h3⟩:=storeM_sound hC rr hx hy h
   exact⟨w',l,ρ,h0,h1,h2,h3⟩
  | some e=>
   rw [hw]at h
   simp only [storeS,wstoreV]at h
   (repeat' split at h)<;>cases h
 unfold storeX at h
 split at h
 ·cases hp:C.pt t with
  | false=>rw [hp]at h;cases h
  | true=>
   rw [hp]at h
   simp only [cond_true,pairStore]at h
   (repeat' split at h)<;>cases h
 ·rename_i hnp
  split at h
  ·rename_i q k
   cases hb:bagH obs with
   | none=>rw [hb]at h;exact old hx hy h
   | some p0=>
    rw [hb]at h
    obtain⟨d,g⟩:=p0
    have ho:=bagH_get hb
    have hB:BagRel w (C.V w obs ρ) (C.tid .pr) (ρ 0) d:=rr.os 0 _ ho
    replace h:bagStore (C.Γ t) (C.mt t) q k y obs (d,g)=.all p r o:=h
    unfold bagStore at h
    simp only at h
    split at h
    case h_2=>cases h
    rename_i j g2
    split at h
    ·split at h
     ·split at h<;>cases h
     ·cases h
    ·rename_i hj
     split at h
     ·split at h<;>cases h
     ·rename_i m l g' ho2
      split at h
      case h_2=>cases h
      rename_i m2 hm2
      split at h
      case isFalse=>cases h
      rename_i hc
      obtain⟨hgg,hq,h3,hkv,hvi⟩:=hc
      subst hgg hq
      cases h
      obtain⟨hv0,b,es,clock,hmv,hh,hes,hok⟩:=own_mp rr ho2 hy
      obtain⟨u',ty,e,_⟩:=hB.s om
      have hone:v.oneCell'=true:=by rw [hmv];rfl
      rw [ptr_hp hx]
      have hfp:fpo (ρ 0) (.bag d g) (hdB d.sb):=.inr (.inr (.inr (.inl ⟨by omega,rfl⟩)))
      have hfm:fpo (ρ j) (.mp m l g2) b:=by show ρ j=_;rw [<- hv0];exact hmv
      have hext:=ext_setCell (v:=v) e (S:=fun b=>fpo (ρ 0) (.bag d g) b\/fpo (ρ j) (.mp m l g2) b) (.inl hfp)
      have hbb:∀ b',fpo (ρ 0) (.bag { d with ph:=4,mb:=b,m:=m,ml:=l } g) b'->(fpo (ρ 0) (.bag d g) b'\/fpo (ρ j) (.mp m l g2) b')\/w.heap.size<=b':=by
       rintro b' (k | ⟨_,k⟩ | ⟨_,k⟩ | ⟨_,k⟩ | ⟨_,k⟩)
       ·exact .inl (.inl (.inl k))
       ·exact .inl (.inl (.inr (.inl ⟨by omega,k⟩)))
       ·exact .inl (.inl (.inr (.inr (.inl ⟨by omega,k⟩))))
       ·exact .inl (.inl (.inr (.inr (.inr (.inl ⟨by omega,k⟩)))))
       ·refine .inl (.inr ?_);rw [show b'=b from k];exact hfm
      have hV:=le_merge (C:=C) ho ho2 hext hbb
      have hdis:∀ c,fpo (ρ 0) (.bag d g) c->b≠c:=fun c hc e=>hj (rr.dis j 0 _ _ b ho2 ho hfm (by rw [e];exact hc))
      have oth:∀ {c:Nat},c≠hdB d.sb->(w.setCell ⟨hdB d.sb,0,none⟩ v).heap[c]? = w.heap[c]?:=fun hne=>Go.RowKit.Below.heap_setCell _ _ _ _ hne
      have T:=Turn.merge rr 0 j (Ne.symm hj) (.bag d g) (.mp m l g2) (.bag { d with ph:=4,mb:=b,m:=m,ml:=l } g) (ρ 0) ho ho2 hext (by
       obtain⟨th,eh⟩:=hB.h
       obtain⟨a1,a2,a3⟩:=hB.d3 om
       obtain⟨ul,tl,el,ol,cl⟩:=hB.l om
       obtain⟨cs,hown,henc,hnn,hml⟩:=hB.r om
       refine⟨⟨th,by rw [oth (Ne.symm a1)];exact eh⟩,fun _=>hB.d1 om,fun _=>hB.d2 om,fun _=>⟨a1,a2,a3⟩,fun _=>⟨hdis _ (.inl rfl),hdis _ (.inr (.inl ⟨by omega,rfl⟩)),fun k=>hdis _ (.inr (.inr (.inl ⟨by omega,k⟩))) rfl,hdis _ hfp⟩,
        fun _=>⟨ul,tl,by rw [oth (Ne.symm a2)];exact el,ol,fun _=>cl om⟩,fun _=>⟨cs,ownsRow_setCell_other hown a3 _,henc.mono hV,hnn,hml⟩,fun _=>⟨v,ty,one_setCell e,fun _=>hmv⟩,
        fun _=>⟨es,clock,by rw [oth (hdis _ hfp)];exact hh,hes,hok⟩⟩) hbb (by
       intro c' hc'
       simp [O.gen]at hc'
       exact⟨g,by simp [O.gen],.inl ⟨hc'.symm,rfl⟩⟩)
      obtain⟨inf,zz,hi,hs,_,_⟩:=hC.mtz t _ hm2
      exact⟨_,b,_,trivial,one_store ⟨inf,hi,hs⟩ hone e,rfl,T.step rr⟩
     ·cases h
  ·exact old hx hy h
end bag
def bagLook (mt:Option MT) (b:Nat) (i:AV) (obs:List O):BagD×Nat->Res
 | (d,_)=>match mt with
  | some m=>match keyV m i with
   | some k=>if b=d.mb/\4<=d.ph/\m.kv=d.m.kv/\m.vi=d.m.vi then .ok True (mgetV m d.ml k) obs else .bad
   | none=>.bad
  | none=>.bad
def bagUpd (mt:Option MT) (b:Nat) (i y:AV) (obs:List O):BagD×Nat->Res
 | (d,g)=>match mt with
  | some m=>match keyV m i,valV m y with
   | some k,some v=>if b=d.mb/\4<=d.ph/\m.kv=d.m.kv/\m.vi=d.m.vi then .skip True (obs.set 0 (.bag { d with ml:=mput d.ml k v } g))else .bad
   | _,_=>.bad
  | none=>.bad
def mlookX (mt:Option MT) (x i:AV) (obs:List O):Res:=
 match x with
 | .mv b=>orBag .bad (bagLook mt b i obs) (bagH obs)
 | x=>mlookV mt x i obs
def mupdX (mt:Option MT) (x i y:AV) (obs:List O):Res:=
 match x with
 | .mv b=>orBag .bad (bagUpd mt b i y obs) (bagH obs)
 | x=>mupdV mt x i y obs
def bagAlloc (gp:Option E) (mt:Option MT) (obs:List O):BagD×Nat->Res
 | (d,g)=>match gp,mt with
  | some .pr,_=>if d.ph=0 then .all (fun _=>True) (fun l=>.hp l 0) (fun l=>obs.set 0 (.bag { d with ph:=1,lb:=l } g))else .bad
  | none,some _=>if d.ph=2 then .all (fun _=>True) (fun l=>.hp l 0) (fun l=>obs.set 0 (.bag { d with ph:=3,sb:=l } g))else .bad
  | _,_=>.bad
def allocX (gp:Option E) (mt:Option MT) (wt:Option E) (rw pt:Bool) (obs:List O):Res:=
 bif pt then .ok True (.elt obs.length 0 2 0) (obs ++ [.arr .pr [([],[])] 0 true])
 else match wt,rw with
  | none,false=>orBag .bad (bagAlloc gp mt obs) (bagH obs)
  | _,_=>allocV wt rw obs
def boxX (bt:Option BT) (wt:Option E) (pt:Bool) (x:AV) (obs:List O):Res:=
 match x with
 | .int .i64 n=>match bt with
  | some (.int .i64)=>.all (fun _=>True) (fun l=>.hp l 0) (fun l=>obs ++ [.bag ⟨0,l,n,0,false,[],0,0,⟨false,false⟩,[]⟩ 0])
  | _=>.bad
 | .prv d=>bif pt then .ok True (.relt true .pr d) obs else .bad
 | x=>boxV wt x obs
def bldV (wt:Option E) (pt:Bool) (parts:List (Nat×AV)) (obs:List O):Res:=
 match pt,wt,parts with
 | true,_,[(0,x),(1,y)]=>match toE (.row true) x,toE (.row true) y with
  | some a,some b=>.ok True (.prv (a,b)) obs
  | _,_=>.bad
 | false,some .vec,[]=>.ok True (.vec [0,0,0,0]) obs
 | _,_,_=>.bad
def fldV (pt:Bool) (x:AV) (k:Nat) (obs:List O):Res:=
 match pt,x,k with
 | true,.relt f .pr d,0=>.ok True (.relt f (.row true) d.1) obs
 | true,.relt f .pr d,1=>.ok True (.relt f (.row true) d.2) obs
 | _,_,_=>.bad
section bag
variable {C:Ctx} {obs:List O} {w:World} {ρ:Nat->Value}
theorem mlookX_sound (hC:C.Ok) {t:TypeId} {x i:AV} {vc:Prop} {r:AV} {o:List O} (rr:WRel C obs w ρ) {u j:Value} (hx:AVRel (C.V w obs ρ) obs ρ x u) (hi:AVRel (C.V w obs ρ) obs ρ i j)
  (h:mlookX (C.mt t) x i obs=.ok vc r o):o=obs/\∃ z,AVRel (C.V w obs ρ) obs ρ r z/\(Instr.lookup t u j false).run C.P w=.ok z w:=by
 unfold mlookX at h
 split at h
 ·rename_i b
  cases hb:bagH obs with
  | none=>rw [hb]at h;cases h
  | some p0=>
   rw [hb]at h
   obtain⟨d,g⟩:=p0
   have hB:BagRel w (C.V w obs ρ) (C.tid .pr) (ρ 0) d:=rr.os 0 _ (bagH_get hb)
   replace h:bagLook (C.mt t) b i obs (d,g)=.ok vc r o:=h
   unfold bagLook at h
   simp only at h
   split at h
   case h_2=>cases h
   rename_i m hmt
   split at h
   case h_2=>cases h
   rename_i k hk
   split at h
   case isFalse=>cases h
   rename_i hc
   obtain⟨rfl,h4,hkv,hvi⟩:=hc
   cases h
   obtain⟨es,clock,hh,hes,hok⟩:=hB.m h4
   obtain⟨hj,hkok⟩:=keyV_rel hk hi
   have hx:u=.map (some d.mb):=hx
   subst hj hx
   exact⟨rfl,mlook_core hC hmt hh hes hok hkv hvi hkok⟩
 ·exact mlookV_sound hC rr hx hi h
theorem mupdX_sound (hC:C.Ok) {t:TypeId} {x i y:AV} {vc:Prop} {o:List O} (rr:WRel C obs w ρ) {u j z:Value} (hx:AVRel (C.V w obs ρ) obs ρ x u) (hi:AVRel (C.V w obs ρ) obs ρ i j) (hy:AVRel (C.V w obs ρ) obs ρ y z)
  (h:mupdX (C.mt t) x i y obs=.skip vc o):∃ w',(Instr.mapUpdate t u j z).run C.P w=.ok () w'/\Step C w w' obs o ρ ρ:=by
 unfold mupdX at h
 split at h
 ·rename_i b
  cases hb:bagH obs with
  | none=>rw [hb]at h;cases h
  | some p0=>
   rw [hb]at h
   obtain⟨d,g⟩:=p0
   have ho:=bagH_get hb
   have hB:BagRel w (C.V w obs ρ) (C.tid .pr) (ρ 0) d:=rr.os 0 _ ho
   replace h:bagUpd (C.mt t) b i y obs (d,g)=.skip vc o:=h
   unfold bagUpd at h
   simp only at h
   split at h
   case h_2=>cases h
   rename_i m hmt
   split at h
   case h_2=>cases h
   rename_i k v hk hvv
   split at h
   case isFalse=>cases h
   rename_i hc
   obtain⟨rfl,h4,hkv,hvi⟩:=hc
   cases h
   obtain⟨es,clock,hh,hes,hok⟩:=hB.m h4
   obtain⟨hj,hkok⟩:=keyV_rel hk hi
   obtain⟨hz,hvok⟩:=valV_rel hvv hy
   have hx:u=.map (some d.mb):=hx
   subst hj hx hz
   obtain⟨es',clock',hrun,hes',hok'⟩:=mupd_core hC hmt hh hes hok hkv hvi hkok hvok
   have hset:=Go.MapKept.heap_set (o':=Obj.map es' clock') hh
   have hfp:fpo (ρ 0) (.bag d g) d.mb:=.inr (.inr (.inr (.inr ⟨h4,rfl⟩)))
   have hext:Ext (fun b'=>fpo (ρ 0) (.bag d g) b') w { w with heap:=w.heap.setIfInBounds d.mb (.map es' clock') }:=
    ⟨rfl,rfl,rfl,by simp,Nat.le_refl _,fun b' _ hS=>hset.2 b' (fun e=>hS (e▸hfp))⟩
   have hbb:∀ b',fpo (ρ 0) (.bag { d with ml:=mput d.ml k v } g) b'->fpo (ρ 0) (.bag d g) b'\/w.heap.size<=b':=fun b' hb'=>.inl hb'
   have hρe:(fun i=>if i=0 then ρ 0 else ρ i)=ρ:=by funext i;split<;>simp_all
   have hV:=le_one (C:=C) (o':=.bag { d with ml:=mput d.ml k v } g) (v:=ρ 0) ho hext hbb
   rw [hρe]at hV
   have T:=Turn.one rr 0 (.bag d g) (.bag { d with ml:=mput d.ml k v } g) (ρ 0) ho hext (by
    rw [hρe]
    obtain⟨th,eh⟩:=hB.h
    obtain⟨a1,a2,a3,a4⟩:=hB.d4 h4
    obtain⟨ul,tl,el,ol,cl⟩:=hB.l om
    obtain⟨cs,hown,henc,hnn,hml⟩:=hB.r om
    obtain⟨us,ts,esb,cb⟩:=hB.s om
    refine⟨⟨th,by rw [hset.2 _ (Ne.symm a1)];exact eh⟩,hB.d1,hB.d2,hB.d3,hB.d4,fun _=>⟨ul,tl,by rw [hset.2 _ (Ne.symm a2)];exact el,ol,cl⟩,fun _=>⟨cs,ownsRow_kept hown (fun b hb=>hset.2 b (fun e=>a3 (e▸hb))),henc.mono hV,hnn,hml⟩,
     fun _=>⟨us,ts,by rw [hset.2 _ (Ne.symm a4)];exact esb,cb⟩,fun _=>⟨es',clock',hset.1,hes',hok'⟩⟩) hbb (by
    intro c' hc'
    simp [O.gen]at hc'
    exact⟨g,by simp [O.gen],.inl ⟨hc'.symm,rfl⟩⟩)
   rw [hρe]at T
   exact⟨_,hrun,T.step rr⟩
 ·exact mupdV_sound hC rr hx hi hy h
theorem hdb_mk (b:Nat):∃ l,hdB l=b:=⟨b*18446744073709551616,by unfold hdB;omega⟩
theorem boxX_sound (hC:C.Ok) {t:TypeId} {x:AV} (rr:WRel C obs w ρ) {u:Value} (hx:AVRel (C.V w obs ρ) obs ρ x u) :
  (∀ vc r o,boxX (C.bt t) (C.wt t) (C.pt t) x obs=.ok vc r o->∃ z w',(Instr.box t u).run C.P w=.ok z w'/\NewOk C obs w ρ r o z w') /\
  (∀ vc o,boxX (C.bt t) (C.wt t) (C.pt t) x obs≠.skip vc o) /\
  (∀ p r o,boxX (C.bt t) (C.wt t) (C.pt t) x obs=.all p r o->∃ z w' l,p l/\(Instr.box t u).run C.P w=.ok z w'/\NewOk C obs w ρ (r l) (o l) z w'):=by
 unfold boxX
 split
 ·rename_i n
  refine⟨fun vc r o h=>?_,fun vc o h=>?_,fun p r o h=>?_⟩
  ·split at h<;>cases h
  ·split at h<;>cases h
  ·split at h
   case h_2=>cases h
   cases h
   have hx:u=.int .i64 n:=hx
   subst hx
   obtain⟨l,hl⟩:=hdb_mk w.heap.size
   have hrun:(Instr.box t (.int .i64 n)).run C.P w=.ok (.pointer (some ⟨w.heap.size,0,none⟩)) (w.alloc (.cells #[.int .i64 n] t)):=by
    simp [Instr.box,newVar,newRow,newObj,Value.cells,Sem.run,Result.andThen,Sem.run_bind]
   have T:=Turn.new (C:=C) rr (Ext.alloc (fun _=>False) w (.cells #[.int .i64 n] t)) (.bag ⟨0,l,n,0,false,[],0,0,⟨false,false⟩,[]⟩ 0) (.int .i64 0)
    (⟨⟨t,by rw [hl];exact heap_alloc_new w _⟩,fun k=>absurd (show 1<=0 from k) (by decide),fun k=>absurd (show 2<=0 from k) (by decide),fun k=>absurd (show 3<=0 from k) (by decide),fun k=>absurd (show 4<=0 from k) (by decide),fun k=>absurd (show 1<=0 from k) (by decide),fun k=>absurd (show 2<=0 from k) (by decide),fun k=>absurd (show 3<=0 from k) (by decide),fun k=>absurd (show 4<=0 from k) (by decide)⟩:BagRel _ _ _ _ _)
    (by
     rintro b (k | ⟨k,_⟩ | ⟨k,_⟩ | ⟨k,_⟩ | ⟨k,_⟩)
     ·rw [show b=hdB l from k,hl];exact Nat.le_refl _
     ·exact absurd (show 1<=0 from k) (by decide)
     ·exact absurd (show 2<=0 from k) (by decide)
     ·exact absurd (show 3<=0 from k) (by decide)
     ·exact absurd (show 4<=0 from k) (by decide))
   refine⟨_,_,l,trivial,hrun,_,T.step rr,?_⟩
   show _=Value.pointer (some ((⟨hdB l,0,none⟩:Addr).add 0))
   rw [hl];simp [Addr.add]
 ·rename_i d
  refine⟨fun vc r o h=>?_,fun vc o h=>?_,fun p r o h=>?_⟩
  ·cases hp:C.pt t with
   | false=>rw [hp]at h;cases h
   | true=>
    rw [hp]at h
    cases h
    have hx0:ElRel (C.V w obs ρ) .pr d u:=hx
    obtain⟨v1,v2,hu,hr1,hr2⟩:=hx0
    have hrun:(Instr.box t u).run C.P w=.ok (.pointer (some ⟨w.heap.size,0,none⟩)) (w.alloc (.cells #[v1,v2] t)):=by
     rw [hu]
     simp [Instr.box,newVar,newRow,newObj,Value.cells,Sem.run,Result.andThen,Sem.run_bind]
    have T:=Turn.none rr (Ext.alloc (fun _=>False) w (.cells #[v1,v2] t))
    refine⟨_,_,hrun,ρ,T.step rr,⟨w.heap.size,0,none⟩,u,rfl,fun _=>.inl (.inl rr.grow),(show ElRel (C.V w obs ρ) .pr d u from hx).mono T.le,fun j hj=>?_⟩
    have hno:¬Own obs ρ w.heap.size:=fun⟨id,o,ho,hf⟩=>absurd ((rr.os id o ho).lt hf) (Nat.lt_irrefl _)
    rw [hu]
    simp only [Ctx.V,Vw.cell,add_plain,mask,if_neg hno,heap_alloc_new]
    simp [Value.cells]
  ·cases hp:C.pt t<;>rw [hp]at h<;>cases h
  ·cases hp:C.pt t<;>rw [hp]at h<;>cases h
 ·refine⟨fun vc r o h=>boxV_sound hC rr hx h,fun vc o h=>?_,fun p r o h=>?_⟩
  ·unfold boxV at h;split at h<;>cases h
  ·unfold boxV at h;split at h<;>cases h
theorem run_build_pr (hC:C.Ok) {t:TypeId} (ht:C.pt t=true) {u v:Value} (h1:u.oneCell'=true) (h2:v.oneCell'=true):(Instr.build t #[(0,u),(1,v)]).run C.P w=.ok (.agg #[u,v]) w:=by
 obtain⟨_,f0,f1,hund,o0,o1,⟨i0,hi0,hs0⟩,⟨i1,hi1,hs1⟩,i,hi,hz,hs⟩:=hC.pt t ht
 have c1:=cells_oneCell h1
 have c2:=cells_oneCell h2
 have hzc:E.pr.zero.cells=#[.slice none 0 0,.slice none 0 0]:=rfl
 simp [Instr.build,zeroValue,typeInfo,hi,hz,run_underlying hund,sizeOf,hi0,hs0,hi1,hs1,o0,o1,hzc,Instr.fill,c1,c2,Sem.run_bind,Result.andThen]
theorem run_build_vec (hC:C.Ok) {t:TypeId} {e:E} (ht:C.wt t=some e):(Instr.build t #[]).run C.P w=.ok (.agg #[.int .i64 0,.int .i64 0,.int .i64 0,.int .i64 0]) w:=by
 obtain⟨_,rfl,ti,h1,h2,⟨i1,hi1,hs1⟩,i,hi,hz,hs⟩:=hC.wt t e ht
 simp [Instr.build,zeroValue,typeInfo,hi,hz,run_underlying h1,sizeOf,hi1,E.zero,Value.cells,Instr.fill,Sem.run_bind,Result.andThen]
theorem run_field (hC:C.Ok) {t:TypeId} (ht:C.pt t=true) (a:Addr) (k:Nat) (hk:k < 2):(Instr.fieldAt t (.pointer (some a)) k).run C.P w=.ok (.pointer (some (a.add k))) w:=by
 obtain⟨_,f0,f1,hund,o0,o1,⟨i0,hi0,hs0⟩,⟨i1,hi1,hs1⟩,i,hi,hz,hs⟩:=hC.pt t ht
 match k,hk with
 | 0,_=>simp [Instr.fieldAt,run_underlying hund,Instr.sureAddr,fieldPlace,sizeOf,typeInfo,hi0,hs0,o0]
 | 1,_=>simp [Instr.fieldAt,run_underlying hund,Instr.sureAddr,fieldPlace,sizeOf,typeInfo,hi1,hs1,o1]
theorem bldV_sound (hC:C.Ok) {t:TypeId} {parts:List (Nat×AV)} {pv:Array (Nat×Value)} (hpl:pv.toList.length=parts.length)
  (hpv:∀(i:Nat) (x:Nat×AV) (v:Nat×Value),parts[i]? = some x->pv.toList[i]? = some v->v.1=x.1/\AVRel (C.V w obs ρ) obs ρ x.2 v.2) {vc:Prop} {r:AV} {o:List O} (h:bldV (C.wt t) (C.pt t) parts obs=.ok vc r o) :
  o=obs/\∃ z,AVRel (C.V w obs ρ) obs ρ r z/\(Instr.build t pv).run C.P w=.ok z w:=by
 unfold bldV at h
 obtain⟨pl⟩:=pv
 split at h
 ·rename_i x y hp
  split at h
  case h_2=>cases h
  rename_i xs ys hx hy
  cases h
  match pl,hpl with
  | [(a,u),(b,v)],_=>
  obtain⟨e1,k1⟩:=hpv 0 _ (a,u) rfl rfl
  obtain⟨e2,k2⟩:=hpv 1 _ (b,v) rfl rfl
  simp only at e1 e2 k1 k2
  subst e1 e2
  have r1:RowRel (C.V w obs ρ) true xs u:=toE_rel hx (fun s hs=>by subst hs;simp [toE]at hx) k1
  have r2:RowRel (C.V w obs ρ) true ys v:=toE_rel hy (fun s hs=>by subst hs;simp [toE]at hy) k2
  exact⟨rfl,.agg #[u,v],⟨u,v,rfl,r1,r2⟩,run_build_pr hC hp (RowRel.oneCell r1) (RowRel.oneCell r2)⟩
 ·rename_i hp hw
  cases h
  match pl,hpl with
  | [],_=>exact⟨rfl,_,⟨rfl,rfl⟩,run_build_vec hC hw⟩
 ·cases h
theorem fldV_sound (hC:C.Ok) {t:TypeId} {x:AV} {k:Nat} {u:Value} (hx:AVRel (C.V w obs ρ) obs ρ x u) {vc:Prop} {r:AV} {o:List O} (h:fldV (C.pt t) x k obs=.ok vc r o) :
  o=obs/\∃ z,AVRel (C.V w obs ρ) obs ρ r z/\(Instr.fieldAt t u k).run C.P w=.ok z w:=by
 unfold fldV at h
 split at h
 ·rename_i f d hp
  cases h
  obtain⟨a,z,hu,hf,⟨u1,u2,hz,h1,h2⟩,hc⟩:=hx
  subst hu
  refine⟨rfl,_,⟨a.add 0,u1,rfl,by rw [add_block];exact hf,h1,fun j hj=>?_⟩,run_field hC hp a 0 (by decide)⟩
  have:j=0:=by simp [E.size]at hj;omega
  subst this
  have:=hc 0 (by simp [E.size])
  rw [add_add,this,hz,cells_oneCell (RowRel.oneCell h1)]
  rfl
 ·rename_i f d hp
  cases h
  obtain⟨a,z,hu,hf,⟨u1,u2,hz,h1,h2⟩,hc⟩:=hx
  subst hu
  refine⟨rfl,_,⟨a.add 1,u2,rfl,by rw [add_block];exact hf,h2,fun j hj=>?_⟩,run_field hC hp a 1 (by decide)⟩
  have:j=0:=by simp [E.size]at hj;omega
  subst this
  have:=hc 1 (by simp [E.size])
  rw [add_add,this,hz,cells_oneCell (RowRel.oneCell h2)]
  rfl
 ·cases h
theorem allocX_sound (hC:C.Ok) {t:TypeId} (rr:WRel C obs w ρ) :
  (∀ vc r o,allocX (C.Γ t) (C.mt t) (C.wt t) (t == C.tid .lrow) (C.pt t) obs=.ok vc r o->∃ z w',(do pure (Value.pointer (some (<- newVar t (<- zeroValue t)))):Sem Value).run C.P w=.ok z w'/\NewOk C obs w ρ r o z w') /\
  (∀ vc o,allocX (C.Γ t) (C.mt t) (C.wt t) (t == C.tid .lrow) (C.pt t) obs≠.skip vc o) /\
  (∀ p r o,allocX (C.Γ t) (C.mt t) (C.wt t) (t == C.tid .lrow) (C.pt t) obs=.all p r o->∃ z w' l,p l/\(do pure (Value.pointer (some (<- newVar t (<- zeroValue t)))):Sem Value).run C.P w=.ok z w'/\NewOk C obs w ρ (r l) (o l) z w'):=by
 have okA:∀ wt rw' vc o,allocV wt rw' obs≠.skip vc o:=by intro wt rw' vc o h;unfold allocV at h;split at h<;>cases h
 have alA:∀ wt rw' p r o,allocV wt rw' obs≠.all p r o:=by intro wt rw' p r o h;unfold allocV at h;split at h<;>cases h
 have bad:orBag .bad (bagAlloc (C.Γ t) (C.mt t) obs) (bagH obs)=.bad\/∃ d g,bagH obs=some (d,g):=by
  cases hb:bagH obs with
  | none=>exact .inl rfl
  | some p0=>exact .inr ⟨p0.1,p0.2,rfl⟩
 unfold allocX
 cases hp:C.pt t with
 | true=>
  refine⟨fun vc r o h=>?_,(fun vc o=>by intro h;cases h),(fun p r o h=>by cases h)⟩
  cases h
  obtain⟨htt,f0,f1,hund,_,_,_,_,i,hi,hz,hs⟩:=hC.pt t hp
  have hrun:(do pure (Value.pointer (some (<- newVar t (<- zeroValue t)))):Sem Value).run C.P w=.ok (.pointer (some ⟨w.heap.size,0,none⟩)) (w.alloc (.cells #[.slice none 0 0,.slice none 0 0] t)):=by
   simp [newVar,newRow,newObj,zeroValue,typeInfo,hi,hz,E.zero,Value.cells,Sem.run,Result.andThen,Sem.run_bind]
  refine⟨_,_,hrun,?_⟩
  have nil:∀ V:Vw,RowRel V true [] (.slice none 0 0):=fun V=>⟨none,0,rfl,by simp,by simp,fun i hi=>by simp at hi⟩
  have hcs:∀ V:Vw,Enc V .pr [([],[])] [.slice none 0 0,.slice none 0 0]:=fun V=>⟨rfl,fun k hk=>by
   have:k=0:=by simp at hk;omega
   subst this
   refine⟨.agg #[.slice none 0 0,.slice none 0 0],⟨_,_,rfl,nil V,nil V⟩,fun j hj=>?_⟩
   simp only [E.size,Nat.zero_mul,Nat.zero_add,Value.cells]
   simp⟩
  have T:=Turn.new (C:=C) rr (Ext.alloc (fun _=>False) w (.cells #[.slice none 0 0,.slice none 0 0] t)) (.arr .pr [([],[])] 0 true) (.slice (some ⟨w.heap.size,0,none⟩) 1 1)
   ⟨[.slice none 0 0,.slice none 0 0],⟨rfl,.inr ⟨w.heap.size,1,#[.slice none 0 0,.slice none 0 0],rfl,nz0 _,by rw [<- htt];exact heap_alloc_new w _,Nat.le_refl _,by simp [maxLen],rfl,rfl⟩⟩,hcs _,by simp,by simp [maxLen]⟩
   (fun b hb=>by simp [fpo,Value.ownBlock]at hb;omega)
  refine⟨_,T.step rr,⟨by simp,fun c hc=>?_⟩⟩
  have:c=0:=by simpa [genOf,O.gen] using hc.symm
  subst this
  refine⟨Nat.le_refl _,fun _=>⟨⟨w.heap.size,0,none⟩,1,1,by simp,by simp,by simp [Addr.add]⟩⟩
 | false=>
  simp only [cond_false]
  split
  ·rename_i hw hr
   refine⟨fun vc r o h=>?_,fun vc o h=>?_,fun p r o h=>?_⟩
   ·rcases bad with e | ⟨d,g,e⟩
    ·rw [e]at h;cases h
    ·rw [e]at h
     replace h:bagAlloc (C.Γ t) (C.mt t) obs (d,g)=.ok vc r o:=h
     unfold bagAlloc at h
     simp only at h
     (repeat' split at h)<;>cases h
   ·rcases bad with e | ⟨d,g,e⟩
    ·rw [e]at h;cases h
    ·rw [e]at h
     replace h:bagAlloc (C.Γ t) (C.mt t) obs (d,g)=.skip vc o:=h
     unfold bagAlloc at h
     simp only at h
     (repeat' split at h)<;>cases h
   ·rcases bad with e | ⟨d,g,e⟩
    ·rw [e]at h;cases h
    rw [e]at h
    have ho:=bagH_get e
    have hB:BagRel w (C.V w obs ρ) (C.tid .pr) (ρ 0) d:=rr.os 0 _ ho
    obtain⟨l,hl⟩:=hdb_mk w.heap.size
    have lt:∀ {b:Nat} {o:Obj},w.heap[b]? = some o->b < w.heap.size:=fun e=>(ageS.1 e).1
    have go:∀(z:Value),z.oneCell'=true->(∃ i,C.P.info? t=some i/\i.zero=some z)->∀(d':BagD),BagRel (w.alloc (.cells #[z] t)) (C.V (w.alloc (.cells #[z] t)) (obs.set 0 (.bag d' g)) ρ) (C.tid .pr) (ρ 0) d' ->
      (∀ b,fpo (ρ 0) (.bag d' g) b->fpo (ρ 0) (.bag d g) b\/w.heap.size<=b)->∃ z' w',(do pure (Value.pointer (some (<- newVar t (<- zeroValue t)))):Sem Value).run C.P w=.ok z' w'/\NewOk C obs w ρ (.hp l 0) (obs.set 0 (.bag d' g)) z' w':=by
     intro z hz1 ⟨i,hi,hz⟩ d' hd' hb'
     have hrun:(do pure (Value.pointer (some (<- newVar t (<- zeroValue t)))):Sem Value).run C.P w=.ok (.pointer (some ⟨w.heap.size,0,none⟩)) (w.alloc (.cells #[z] t)):=by
      simp [newVar,newRow,newObj,zeroValue,typeInfo,hi,hz,cells_oneCell hz1,Sem.run,Result.andThen,Sem.run_bind]
     have hρe:(fun i=>if i=0 then ρ 0 else ρ i)=ρ:=by funext i;split<;>simp_all
     have T:=Turn.one rr 0 (.bag d g) (.bag d' g) (ρ 0) ho ((Ext.alloc (fun _=>False) w (.cells #[z] t)).mono fun _ k=>k.elim) (by rw [hρe];exact hd') hb' (by
      intro c' hc'
      simp [O.gen]at hc'
      exact⟨g,by simp [O.gen],.inl ⟨hc'.symm,rfl⟩⟩)
     rw [hρe]at T
     refine⟨_,_,hrun,ρ,T.step rr,?_⟩
     show _=Value.pointer (some ((⟨hdB l,0,none⟩:Addr).add 0))
     rw [hl];simp [Addr.add]
    have old:∀ {z:Value} {b:Nat},b < w.heap.size->(w.alloc (.cells #[z] t)).heap[b]? = w.heap[b]?:=fun {z b} hb=>by
     show(w.heap.push _)[b]? = _
     rw [Array.getElem?_push,if_neg om]
    replace h:bagAlloc (C.Γ t) (C.mt t) obs (d,g)=.all p r o:=h
    unfold bagAlloc at h
    simp only at h
    obtain⟨th,eh⟩:=hB.h
    split at h
    ·rename_i hg
     split at h
     case isFalse=>cases h
     rename_i h0
     cases h
     obtain⟨i,hi,hz⟩:=hC.slz t _ hg
     have hbb:∀ b,fpo (ρ 0) (.bag { d with ph:=1,lb:=l } g) b->fpo (ρ 0) (.bag d g) b\/w.heap.size<=b:=by
      rintro b (k | ⟨_,k⟩ | ⟨k,_⟩ | ⟨k,_⟩ | ⟨k,_⟩)
      ·exact .inl (.inl k)
      ·right;rw [show b=hdB l from k,hl];exact Nat.le_refl _
      ·exact absurd (show 2<=1 from k) (by decide)
      ·exact absurd (show 3<=1 from k) (by decide)
      ·exact absurd (show 4<=1 from k) (by decide)
     obtain⟨z',w',k1,k2⟩:=go (.slice none 0 0) rfl ⟨i,hi,hz⟩ { d with ph:=1,lb:=l }
      ⟨⟨th,by rw [old (lt eh)];exact eh⟩,fun _=>by show hdB l≠_;rw [hl];exact fun k=>absurd (lt eh) (by rw [<- k];exact Nat.lt_irrefl _),fun k=>absurd (show 2<=1 from k) (by decide),fun k=>absurd (show 3<=1 from k) (by decide),fun k=>absurd (show 4<=1 from k) (by decide),
       fun _=>⟨.slice none 0 0,t,by show _[hdB l]? = _;rw [hl];exact heap_alloc_new w _,rfl,fun k=>absurd (show 2<=1 from k) (by decide)⟩,fun k=>absurd (show 2<=1 from k) (by decide),fun k=>absurd (show 3<=1 from k) (by decide),fun k=>absurd (show 4<=1 from k) (by decide)⟩ hbb
     exact⟨z',w',l,trivial,k1,k2⟩
    ·rename_i m hg hm
     split at h
     case isFalse=>cases h
     rename_i h2
     cases h
     obtain⟨i,z,hi,_,hz,hz1⟩:=hC.mtz t _ hm
     have hbb:∀ b,fpo (ρ 0) (.bag { d with ph:=3,sb:=l } g) b->fpo (ρ 0) (.bag d g) b\/w.heap.size<=b:=by
      rintro b (k | ⟨_,k⟩ | ⟨_,k⟩ | ⟨_,k⟩ | ⟨k,_⟩)
      ·exact .inl (.inl k)
      ·exact .inl (.inr (.inl ⟨by omega,k⟩))
      ·exact .inl (.inr (.inr (.inl ⟨by omega,k⟩)))
      ·right;rw [show b=hdB l from k,hl];exact Nat.le_refl _
      ·exact absurd (show 4<=3 from k) (by decide)
     obtain⟨ul,tl,el,ol,cl⟩:=hB.l om
     obtain⟨cs,hown,henc,hnn,hml⟩:=hB.r om
     have hV:=le_one (C:=C) (o':=.bag { d with ph:=3,sb:=l } g) (v:=ρ 0) ho ((Ext.alloc (fun b=>fpo (ρ 0) (.bag d g) b) w (.cells #[z] t))) hbb
     have hρe:(fun i=>if i=0 then ρ 0 else ρ i)=ρ:=by funext i;split<;>simp_all
     rw [hρe]at hV
     obtain⟨z',w',k1,k2⟩:=go z hz1 ⟨i,hi,hz⟩ { d with ph:=3,sb:=l }
      ⟨⟨th,by rw [old (lt eh)];exact eh⟩,fun _=>hB.d1 om,fun _=>hB.d2 om,fun _=>⟨by show hdB l≠_;rw [hl];exact fun k=>absurd (lt eh) (by rw [<- k];exact Nat.lt_irrefl _),by show hdB l≠_;rw [hl];exact fun k=>absurd (lt el) (by rw [<- k];exact Nat.lt_irrefl _),
        fun k=>absurd (mem_lt_of_ownsRow hown k) (by show ¬hdB l < _;rw [hl];exact Nat.lt_irrefl _)⟩,fun k=>absurd (show 4<=3 from k) (by decide),
       fun _=>⟨ul,tl,by rw [old (lt el)];exact el,ol,fun _=>cl om⟩,fun _=>⟨cs,ownsRow_kept hown (fun b hb=>old (mem_lt_of_ownsRow hown hb)),henc.mono hV,hnn,hml⟩,
       fun _=>⟨z,t,by show _[hdB l]? = _;rw [hl];exact heap_alloc_new w _,fun k=>absurd (show 4<=3 from k) (by decide)⟩,fun k=>absurd (show 4<=3 from k) (by decide)⟩ hbb
     exact⟨z',w',l,trivial,k1,k2⟩
    ·cases h
  ·exact⟨fun vc r o h=>allocV_sound hC rr h,fun vc o=>okA _ _ vc o,fun p r o=>fun h=>absurd h (alA _ _ p r o)⟩
end bag
end Go.Aw
