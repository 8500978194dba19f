/- Operations that make or write memory: make, a literal slice, append, a store, a piece of a slice. -/
import Derived.Test.YtcinngodeoidnaaGreatDoorAw1
import Derived.Laws.AppendOwnNone
import Derived.Great.BuildSlice
import Derived.Laws.CopyRow
import Derived.Laws.IdiomCopy
import Derived.MapKept
set_option linter.unusedVariables false
set_option linter.unusedSimpArgs false
namespace Go.Aw
open Go
theorem maxLen_num:maxLen=9223372036854775807:=rfl
def E.fam:E->E
 | .row _=>.lrow
 | e=>e
def E.made:E->E
 | .lrow=>.row true
 | e=>e
def E.zeroD:(e:E)->Option e.D
 | .int=>some (0:Int)
 | .byte=>some (0:Int)
 | .bool=>some false
 | .str=>some []
 | .row _=>some []
 | .lrow=>none
 | .vec=>some [0,0,0,0]
 | .pr=>none
def makeV (e?:Option E) (l c:AV) (obs:List O):Res:=
 match e?,l,c with
 | some .lrow,.int _ n,.int _ m=>.ok (n=m/\0<=n/\24*n<=281474976710656) (.own obs.length 0) (obs ++ [.mat (List.replicate n.toNat none) (List.replicate n.toNat []) 0 true])
 | some e,.int _ n,.int _ m=>
  match e.made.zeroD with
  | some z=>.ok (n=m/\0<=n/\e.bytes*n<=281474976710656) (.own obs.length 0) (obs ++ [.arr e.made (List.replicate n.toNat z) 0 true])
  | none=>.bad
 | _,_,_=>.bad
def allE (e:E):List AV->Option (List e.D)
 | []=>some []
 | x :: r=>match toE e x,allE e r with
  | some d,some l=>some (d :: l)
  | _,_=>none
def rowsOf:List AV->List O->Option (List (List Int)×List O)
 | [],obs=>some ([],obs)
 | .sl _ .int xs :: r,obs=>(rowsOf r obs).map fun p=>(xs :: p.1,p.2)
 | .lr _ xs :: r,obs=>(rowsOf r obs).map fun p=>(xs :: p.1,p.2)
 | .own id g :: r,obs=>match obs[id]? with
  | some (.arr .int xs g' _)=>if g=g' then(rowsOf r (obs.set id .dead)).map fun p=>(xs :: p.1,p.2)else none
  | _=>none
 | _,_=>none
def unapO:O->O
 | .ap _ ys _ g nn=>.arr .lrow ys g nn
 | o=>o
def FreshL (obs:List O) (l:Nat):Prop:=∀ o∈obs,∀ ys gg nn,unapO o=.arr .lrow ys gg nn->∀ p∈ys,p.1≠l
theorem lab_enc {tid:E->TypeId} {w:World} {V:Vw} {v:Value} {o:O} {ys:List (Nat×List Int)} {gg:Nat} {nn:Bool} (h:ORel tid w V v o) (he:unapO o=.arr .lrow ys gg nn):∃ cs,Enc V .lrow ys cs:=by
 cases o with
 | arr e xs g n2=>cases he;obtain⟨cs,_,h2,_⟩:=h;exact⟨cs,h2⟩
 | ap q xs fr g n2=>cases he;obtain⟨cs,_,h2,_⟩:=h;exact⟨cs,h2⟩
 | _=>cases he
def buildV (e?:Option E) (n:Nat) (parts:List (Nat×AV)) (obs:List O):Res:=
 match e? with
 | some e=>
  if parts.map (·.1)=List.range n/\n<=1000 then
   if e=.lrow then
    match parts with
    | []=>.ok True (.own obs.length 0) (obs ++ [.arr .lrow [] 0 true])
    | [(_,.lr l xs)]=>.ok True (.own obs.length 0) (obs ++ [.arr .lrow [(l,xs)] 0 true])
    | [(_,.sl true .int xs)]=>.ok True (.own obs.length 0) (obs ++ [.arr (.row true) [xs] 0 true])
    | [(_,.own id g)]=>match obs[id]? with
     | some (.arr .int xs g' true)=>if g=g' then
       .all (FreshL obs) (.own obs.length 0) (fun l=>obs.set id .dead ++ [.arr .lrow [(l,xs)] 0 true])
      else .bad
     | _=>.bad
    | _=>match rowsOf (parts.map (·.2)) obs with
     | some (l,obs')=>.ok True (.own obs.length 0) (obs' ++ [.arr (.row false) l 0 true])
     | none=>.bad
   else
    match allE e (parts.map (·.2)) with
    | some l=>.ok (∀ s,AV.str s∈parts.map (·.2)->s.length<=maxLen) (.own obs.length 0) (obs ++ [.arr e l 0 true])
    | none=>.bad
  else .bad
 | none=>.bad
def convL:(e' e:E)->List e.D->Option (List e'.D)
 | .int,.int,ys=>some ys
 | .byte,.byte,ys=>some ys
 | .bool,.bool,ys=>some ys
 | .str,.str,ys=>some ys
 | .row true,.row true,ys=>some ys
 | .row true,.lrow,ys=>some (ys.map (·.2))
 | .row false,.row _,ys=>some ys
 | .row false,.lrow,ys=>some (ys.map (·.2))
 | .lrow,.lrow,ys=>some ys
 | .vec,.vec,ys=>some ys
 | .pr,.pr,ys=>some ys
 | _,_,_=>none
def hdrL:(e':E)->Nat->Nat->List O->Option (List e'.D)
 | .int,h,n,.mat hs rows _ _ :: _=>if some h∈hs/\n=(rows.getD (hs.idxOf (some h)) []).length then some (rows.getD (hs.idxOf (some h)) [])else none
 | .int,h,n,.cur _ _ :: .mat hs rows _ _ :: _=>if some h∈hs/\n=(rows.getD (hs.idxOf (some h)) []).length then some (rows.getD (hs.idxOf (some h)) [])else none
 | _,_,_,_=>none
def srcL (e':E) (x:AV) (obs:List O) (not:Option Nat):Option (List e'.D):=
 match x with
 | .sl _ e ys=>convL e' e ys
 | .lr _ ys=>convL e' .int ys
 | .nils=>some []
 | .emp _=>some []
 | .hdr (some h) n=>hdrL e' h n obs
 | .own id g=>if not=some id then none else match obs[id]? with
  | some (.arr e ys g' _)=>if g=g' then convL e' e ys else none
  | _=>none
 | _=>none
def appendV (e?:Option E) (s x:AV) (obs:List O):Res:=
 match e?,s with
 | some e,.own id g=>match obs[id]? with
  | some (.arr e' xs g' nn)=>
   if g=g'/\e'.fam=e.fam then
    match srcL e' x obs (some id) with
    | some ys=>.ok ((xs.length+ys.length)*e.bytes<=140737488355328) (.own id (g+1)) (obs.set id (.arr e' (xs ++ ys) (g+1) (nn || !ys.isEmpty)))
    | none=>.bad
   else .bad
  | some (.ap q ys fr g' nn)=>
   if g=g'/\E.lrow.fam=e.fam then
    match srcL .lrow x obs (some id) with
    | some zs=>.ok ((ys.length+zs.length)*e.bytes<=140737488355328) (.own id (g+1)) (obs.set id (.ap q (ys ++ zs) false (g+1) (nn || !zs.isEmpty)))
    | none=>.bad
   else .bad
  | _=>.bad
 | some e,.nils=>match srcL e x obs none with
  | some ys=>.ok (ys.length*e.bytes<=140737488355328) (.own obs.length 0) (obs ++ [.arr e ys 0 (!ys.isEmpty)])
  | none=>.bad
 | _,_=>.bad
def bnd (d:Int):Option AV->Option Int
 | none=>some d
 | some (.int _ n)=>some n
 | _=>none
def sliceV (x:AV) (lo hi:Option AV) (obs:List O):Res:=
 match x with
 | .sl f e xs=>match bnd 0 lo,bnd xs.length hi with
  | some l,some h=>.ok (0<=l/\l<=h/\h<=xs.length) (.sl f e ((xs.drop l.toNat).take (h.toNat - l.toNat))) obs
  | _,_=>.bad
 | .lr _ xs=>match bnd 0 lo,bnd xs.length hi with
  | some l,some h=>.ok (0<=l/\l<=h/\h<=xs.length) (.sl true .int ((xs.drop l.toNat).take (h.toNat - l.toNat))) obs
  | _,_=>.bad
 | .str s=>match bnd 0 lo,bnd s.length hi with
  | some l,some h=>.ok (0<=l/\l<=h/\h<=s.length) (.str ((s.drop l.toNat).take (h.toNat - l.toNat))) obs
  | _,_=>.bad
 | _=>.bad
section sound
variable {C:Ctx} {obs:List O} {w:World} {ρ:Nat->Value}
theorem le_one {w':World} {id:Nat} {o o':O} {v:Value} (ho:obs[id]? = some o) (h:Ext (fun b=>fpo (ρ id) o b) w w')
  (hb:∀ b,fpo v o' b->fpo (ρ id) o b\/w.heap.size<=b):(C.V w obs ρ).le (C.V w' (obs.set id o') (fun i=>if i=id then v else ρ i)):=by
 refine⟨fun b x hx=>?_,fun _ h=>h,rfl⟩
 simp only [Ctx.V,mask]at hx ⊢
 split at hx
 ·cases hx
 ·rename_i hn
  have hlt:=(ageS.1 hx).1
  have hS:¬fpo (ρ id) o b:=fun hh=>hn ⟨id,o,ho,hh⟩
  have hn':¬Own (obs.set id o') (fun i=>if i=id then v else ρ i) b:=by
   rintro⟨j,oj,hj,hf⟩
   by_cases hji:id=j
   ·subst hji
    rw [List.getElem?_set_self (geS.1 ho).1]at hj
    cases hj
    rcases hb b (by simpa using hf)with hh | hh
    ·exact hS hh
    ·omega
   ·rw [List.getElem?_set_ne hji]at hj
    exact hn ⟨j,oj,hj,by simpa [Ne.symm hji] using hf⟩
  rw [if_neg hn',h.block b hlt hS]
  exact hx
theorem le_new {w':World} {o:O} {v:Value} (h:Ext (fun _=>False) w w')
  (hb:∀ b,fpo v o b->w.heap.size<=b):(C.V w obs ρ).le (C.V w' (obs ++ [o]) (fun i=>if i=obs.length then v else ρ i)):=by
 refine⟨fun b x hx=>?_,fun _ h=>h,rfl⟩
 simp only [Ctx.V,mask]at hx ⊢
 split at hx
 ·cases hx
 ·rename_i hn
  have hlt:=(ageS.1 hx).1
  have hn':¬Own (obs ++ [o]) (fun i=>if i=obs.length then v else ρ i) b:=by
   rintro⟨j,oj,hj,hf⟩
   rw [List.getElem?_append]at hj
   split at hj
   ·rename_i hl
    exact hn ⟨j,oj,hj,by simpa [Nat.ne_of_lt hl] using hf⟩
   ·have hj0:j=obs.length:=by
     rcases Nat.lt_or_ge obs.length j with k | k
     ·rw [geN (by simp;omega)]at hj;cases hj
     ·omega
    subst hj0
    simp at hj
    subst hj
    have:=hb b (by simpa using hf)
    omega
  rw [if_neg hn',h.block b hlt (fun k=>k)]
  exact hx
theorem toE_rel {V:Vw} {e:E} {x:AV} {d:e.D} {u:Value} (h:toE e x=some d) (hs:∀ s,x=.str s->s.length<=maxLen) (hx:AVRel V obs ρ x u):ElRel V e d u:=by
 unfold toE at h
 split at h<;>simp at h
 ·subst h;exact hx
 ·subst h;exact hx
 ·subst h;exact hx
 ·subst h;exact⟨hx,hs _ rfl⟩
 ·subst h;exact SlRel.toRow hx
 ·subst h;exact LRowRel.toRow hx
 ·subst h;exact(SlRel.toRow hx).weaken
 ·subst h;exact(LRowRel.toRow hx).weaken
 ·subst h;exact hx
 ·subst h;exact hx
theorem enc_set {V:Vw} {e:E} (h1:e.size=1) {xs:List e.D} {cs:List Value} (h:Enc V e xs cs) {k:Nat} {d:e.D} {u:Value} (hd:ElRel V e d u):Enc V e (xs.set k d) (cs.set k u):=by
 refine⟨by simpa using h.1,fun i hi=>?_⟩
 simp at hi
 by_cases hk:k=i
 ·subst hk
  refine⟨u,by simpa using hd,fun j hj=>?_⟩
  have:j=0:=by omega
  subst this
  have hl:k < cs.length:=by have:=h.1;rw [h1]at this;omega
  rw [(one_cells h1 hd).1]
  simp [h1,hl]
 ·obtain⟨z,hz,hc⟩:=h.2 i hi
  refine⟨z,by simpa [hk] using hz,fun j hj=>?_⟩
  have:j=0:=by omega
  subst this
  rw [<- hc 0 hj]
  simp [h1,List.getElem?_set_ne hk]
theorem get_set {α:Type} {l:List α} {i k:Nat} {a b:α} (h:(l.set k a)[i]? = some b):(i=k/\b=a)\/(i≠k/\l[i]? = some b):=by
 by_cases hk:k=i
 ·subst hk
  rw [List.getElem?_set_self' ]at h
  cases hh:l[k]? with
  | none=>rw [hh]at h;cases h
  | some c=>rw [hh]at h;cases h;exact .inl ⟨rfl,rfl⟩
 ·rw [List.getElem?_set_ne hk]at h
  exact .inr ⟨fun e=>hk e.symm,h⟩
theorem storeH_sound (hC:C.Ok) {t:TypeId} {id g k:Nat} {D:List Nat} {F:Nat->List Int} {hs:List Nat} {nn:Bool} {q m:Nat} (rr:WRel C obs w ρ) {u v:Value} (ho:obs[id]? = some (.gm D F hs g nn))
  (hx:AVRel (C.V w obs ρ) obs ρ (.elt id g 1 k) u) (hy:AVRel (C.V w obs ρ) obs ρ (.hdr (some q) m) v) (hsc:C.sc t=true) (hvc:q∈D/\m=(F q).length) :
  ∃ w',(Instr.storeAt t u v).run C.P w=.ok () w'/\Step C w w' obs (obs.set id (.gm D F (hs.set k q) g nn)) ρ ρ:=by
 obtain⟨hq,hm⟩:=hvc
 obtain⟨a,len,cap,hρ,hk,hu⟩:=(hx.2 g (by simp [genOf,ho,O.gen])).2 rfl
 subst hu
 obtain⟨cs,hown,hrow,hpool,hinj,hout,hnn,hml⟩:=rr.os id _ ho
 rw [hρ]at hown
 obtain⟨b,ha,hlen⟩:∃ b,a=⟨b,0,none⟩/\len=hs.length:=by
  rcases hown.2 with⟨hh,_⟩ | ⟨b,c2,cur,hh,_⟩
  ·cases hh
  ·cases hh;exact⟨b,rfl,rfl⟩
 subst ha hlen
 have hcl:cs.length=hs.length:=by have:=hown.1;omega
 have hvv:v=.slice (some ⟨hdB q,0,none⟩) (F q).length (hdC q):=by rw [<- hm];exact hy
 have hcell:=hown.cellAt k om
 have hfr:=hown.frozenAt k
 obtain⟨hst,hgr⟩:=hown.stored k v
 rw [geE om]at hcell
 obtain⟨i,hi,hi1⟩:=(sc_plain hC hsc).2
 have hone:v.oneCell'=true:=by rw [hvv];rfl
 have hrun:(Instr.storeAt t (.pointer (some ((⟨b,0,none⟩:Addr).add (k*1)))) v).run C.P w=.ok () (w.setCell ⟨b,k,none⟩ v):=by
  rw [add_plain]
  simp only [Nat.mul_one,Nat.zero_add,Instr.storeAt,Instr.sureAddr,storeVar,Sem.run_bind,Sem.run_pure,Result.andThen_ok]
  simp [sizeOf,typeInfo,hi,hi1,cells_oneCell hone,storeCells,run_store _ _ _ _ _ hone,Addr.add,hcell,hfr]
 have hfp:fpo (ρ id) (.gm D F hs g nn) b:=.inl (by rw [hρ];rfl)
 have hρe:(fun i=>if i=id then ρ id else ρ i)=ρ:=by funext i;split<;>simp_all
 refine⟨_,hrun,?_⟩
 have hext0:Ext (fun b'=>b'=b) w (w.setCell ⟨b,k,none⟩ v):=(Ext.grownBy hgr (run_drawn _ hrun)).mono fun x hx=>by cases hx;rfl
 have hext:Ext (fun b'=>fpo (ρ id) (.gm D F hs g nn) b') w (w.setCell ⟨b,k,none⟩ v):=hext0.mono fun x hx=>by cases hx;exact hfp
 have hb:∀ b',fpo (ρ id) (.gm D F (hs.set k q) g nn) b'->fpo (ρ id) (.gm D F hs g nn) b'\/w.heap.size<=b':=fun b' hb'=>.inl hb'
 have T:=Turn.one rr id (.gm D F hs g nn) (.gm D F (hs.set k q) g nn) (ρ id) ho hext (w':=w.setCell ⟨b,k,none⟩ v)
  (by
   refine⟨cs.set k v,by rw [hρ];simpa using hst,fun i1 h1 u1 q1 q2=>?_,fun h1 hm1=>(hpool h1 hm1).kept fun x hx=>?_,hinj,hout,hnn,by simpa using hml⟩
   ·rcases get_set q1 with⟨a1,a2⟩ | ⟨a1,a2⟩
    ·rcases get_set q2 with⟨_,b2⟩ | ⟨b1,_⟩
     ·subst a2 b2;exact⟨hq,hvv⟩
     ·exact absurd a1 b1
    ·rcases get_set q2 with⟨b1,_⟩ | ⟨_,b2⟩
     ·exact absurd b1 a1
     ·exact hrow i1 h1 u1 a2 b2
   ·have hx:=Option.some.inj hx
    subst hx
    refine hext0.block _ ((rr.os id _ ho).lt (b:=hdB h1) (.inr ⟨h1,hm1,rfl⟩)) fun e=>?_
    exact hout h1 hm1 (by rw [hρ,e];rfl)) hb
  (by
   intro c' hc'
   simp [O.gen]at hc'
   exact⟨g,by simp [O.gen],.inl ⟨hc'.symm,rfl⟩⟩)
 rw [hρe]at T
 exact T.step rr
theorem storeP_sound (hC:C.Ok) {t:TypeId} {q k:Nat} {n:Int} {D:List Nat} {F:Nat->List Int} {hs:List Nat} {g:Nat} {nn:Bool} {obs:List O} {id:Nat} (ho:obs[id]? = some (.gm D F hs g nn)) {w:World} {ρ:Nat->Value} (rr:WRel C obs w ρ) {u v:Value}
  (hx:AVRel (C.V w obs ρ) obs ρ (.hp q k) u) (hy:AVRel (C.V w obs ρ) obs ρ (.int .i64 n) v) (hsc:C.sc t=true) (hvc:q∈D/\k < (F q).length) :
  ∃ w',(Instr.storeAt t u v).run C.P w=.ok () w'/\Step C w w' obs (obs.set id (.gm D (updF F q k n) hs g nn)) ρ ρ:=by
 obtain⟨hq,hk⟩:=hvc
 have hu:u=.pointer (some ((⟨hdB q,0,none⟩:Addr).add k)):=hx
 have hv:v=.int .i64 n:=hy
 subst hu hv
 obtain⟨cs,hown,hrow,hpool,hinj,hout,hnn,hml⟩:=rr.os id _ ho
 obtain⟨_,cur,hg,m1,m2,m3,m4⟩:=hpool q hq
 have hin:w.ownsRow 0 (C.tid .int) 1 (.slice (some ⟨hdB q,0,none⟩) (F q).length (hdC q)) (F q).length ((F q).map (Value.int .i64)):=
  ⟨by simp,.inr ⟨hdB q,hdC q,cur,rfl,nz0 _,hg,m1,m2,by simpa using m3,by simpa using m4⟩⟩
 have hcell:=hin.cellAt k (by simpa using hk)
 have hfr:=hin.frozenAt k
 obtain⟨hst,hgr⟩:=hin.stored k (.int .i64 n)
 rw [geE (by simpa using hk)]at hcell
 obtain⟨i,hi,hi1⟩:=(sc_plain hC hsc).2
 have hone:(Value.int .i64 n).oneCell'=true:=rfl
 have hrun:(Instr.storeAt t (.pointer (some ((⟨hdB q,0,none⟩:Addr).add k))) (.int .i64 n)).run C.P w=.ok () (w.setCell ⟨hdB q,k,none⟩ (.int .i64 n)):=by
  rw [add_plain]
  simp only [Nat.zero_add,Instr.storeAt,Instr.sureAddr,storeVar,Sem.run_bind,Sem.run_pure,Result.andThen_ok]
  simp [sizeOf,typeInfo,hi,hi1,cells_oneCell hone,storeCells,run_store _ _ _ _ _ hone,Addr.add,hcell,hfr]
 have hfp:fpo (ρ id) (.gm D F hs g nn) (hdB q):=.inr ⟨q,hq,rfl⟩
 have hρe:(fun i=>if i=id then ρ id else ρ i)=ρ:=by funext i;split<;>simp_all
 refine⟨_,hrun,?_⟩
 have hext0:Ext (fun b'=>b'=hdB q) w (w.setCell ⟨hdB q,k,none⟩ (.int .i64 n)):=(Ext.grownBy hgr (run_drawn _ hrun)).mono fun x hx=>by cases hx;rfl
 have hext:Ext (fun b'=>fpo (ρ id) (.gm D F hs g nn) b') w (w.setCell ⟨hdB q,k,none⟩ (.int .i64 n)):=hext0.mono fun x hx=>by cases hx;exact hfp
 have hb:∀ b',fpo (ρ id) (.gm D (updF F q k n) hs g nn) b'->fpo (ρ id) (.gm D F hs g nn) b'\/w.heap.size<=b':=fun b' hb'=>.inl hb'
 have hlenF:∀ h,(updF F q k n h).length=(F h).length:=by
  intro h
  unfold updF
  split
  ·rename_i e;subst e;simp
  ·rfl
 have T:=Turn.one rr id (.gm D F hs g nn) (.gm D (updF F q k n) hs g nn) (ρ id) ho hext (w':=w.setCell ⟨hdB q,k,none⟩ (.int .i64 n))
  (by
   refine⟨cs,ownsRow_kept hown fun b' hb'=>hext0.block b' ((rr.os id _ ho).lt (b:=b') (.inl hb')) fun e=>hout q hq (by rw [hb',e]),fun i1 h1 u1 q1 q2=>by rw [hlenF];exact hrow i1 h1 u1 q1 q2,fun h1 hm1=>?_,hinj,hout,hnn,hml⟩
   rw [hlenF]
   by_cases hh:h1=q
   ·subst hh
    rcases hst.2 with⟨hz,_⟩ | ⟨b3,cap3,cur3,hv3,_,hg3,n1,n2,n3,n4⟩
    ·cases hz
    ·have ev:=Value.slice.inj hv3
     have eb:hdB h1=b3:=congrArg Addr.block (Option.some.inj ev.1)
     have ec:hdC h1=cap3:=ev.2.2
     subst eb ec
     refine⟨by rw [hlenF],cur3,hg3,by rw [hlenF];exact m1,m2,by simpa using n3,?_⟩
     rw [hlenF]
     have e1:updF F h1 k n h1=(F h1).set k n:=by simp [updF]
     rw [e1,List.map_set]
     simpa using n4
   ·have e1:updF F q k n h1=F h1:=by unfold updF;rw [if_neg hh]
    rw [e1]
    refine(hpool h1 hm1).kept fun x hx=>?_
    have hx:=Option.some.inj hx
    subst hx
    exact hext0.block _ ((rr.os id _ ho).lt (b:=hdB h1) (.inr ⟨h1,hm1,rfl⟩)) fun e=>hh (hinj h1 q hm1 hq e)) hb
  (by
   intro c' hc'
   simp [O.gen]at hc'
   exact⟨g,by simp [O.gen],.inl ⟨hc'.symm,rfl⟩⟩)
 rw [hρe]at T
 exact T.step rr
theorem storeR_sound (hC:C.Ok) {t:TypeId} {q k:Nat} {n:Int} {hs:List (Option Nat)} {rows:List (List Int)} {g:Nat} {nn:Bool} {obs:List O} {id:Nat} (ho:obs[id]? = some (.mat hs rows g nn)) {w:World} {ρ:Nat->Value} (rr:WRel C obs w ρ) {u v:Value}
  (hx:AVRel (C.V w obs ρ) obs ρ (.hp q k) u) (hy:AVRel (C.V w obs ρ) obs ρ (.int .i64 n) v) (hsc:C.sc t=true) (hvc:some q∈hs/\k < (rows.getD (hs.idxOf (some q)) []).length) :
  ∃ w',(Instr.storeAt t u v).run C.P w=.ok () w'/\Step C w w' obs (obs.set id (.mat hs (setM hs rows q k n) g nn)) ρ ρ:=by
 obtain⟨hq,hk⟩:=hvc
 have hu:u=.pointer (some ((⟨hdB q,0,none⟩:Addr).add k)):=hx
 have hv:v=.int .i64 n:=hy
 subst hu hv
 obtain⟨cs,hown,hlen,hrow,hinj,hout,hnn,hml⟩:=rr.os id _ ho
 have hi0:hs.idxOf (some q) < hs.length:=List.idxOf_lt_length_iff.2 hq
 have hat:hs[hs.idxOf (some q)]? = some (some q):=by rw [geE hi0];simp
 have hcl:cs.length=rows.length:=by have:=hown.1;omega
 unfold setM
 generalize hs.idxOf (some q)=i0 at *
 have hrow0:rows[i0]? = some (rows.getD i0 []):=by rw [gdE,geE om];simp
 generalize hX:rows.getD i0 []=X at *
 obtain⟨hvx,cur,hg,m1,m2,m3,m4⟩:=hrow i0 (some q) X cs[i0] hat hrow0 (by simp)
 have hin:w.ownsRow 0 (C.tid .int) 1 (.slice (some ⟨hdB q,0,none⟩) X.length (hdC q)) X.length (X.map (Value.int .i64)):=
  ⟨by simp,.inr ⟨hdB q,hdC q,cur,rfl,nz0 _,hg,m1,m2,by simpa using m3,by simpa using m4⟩⟩
 have hcell:=hin.cellAt k (by simpa using hk)
 have hfr:=hin.frozenAt k
 obtain⟨hst,hgr⟩:=hin.stored k (.int .i64 n)
 rw [geE (by simpa using hk)]at hcell
 obtain⟨i,hi,hi1⟩:=(sc_plain hC hsc).2
 have hone:(Value.int .i64 n).oneCell'=true:=rfl
 have hrun:(Instr.storeAt t (.pointer (some ((⟨hdB q,0,none⟩:Addr).add k))) (.int .i64 n)).run C.P w=.ok () (w.setCell ⟨hdB q,k,none⟩ (.int .i64 n)):=by
  rw [add_plain]
  simp only [Nat.zero_add,Instr.storeAt,Instr.sureAddr,storeVar,Sem.run_bind,Sem.run_pure,Result.andThen_ok]
  simp [sizeOf,typeInfo,hi,hi1,cells_oneCell hone,storeCells,run_store _ _ _ _ _ hone,Addr.add,hcell,hfr]
 have hfp:fpo (ρ id) (.mat hs rows g nn) (hdB q):=.inr ⟨q,hq,rfl⟩
 have hρe:(fun i=>if i=id then ρ id else ρ i)=ρ:=by funext i;split<;>simp_all
 refine⟨_,hrun,?_⟩
 have hext0:Ext (fun b'=>b'=hdB q) w (w.setCell ⟨hdB q,k,none⟩ (.int .i64 n)):=(Ext.grownBy hgr (run_drawn _ hrun)).mono fun x hx=>by cases hx;rfl
 have hext:Ext (fun b'=>fpo (ρ id) (.mat hs rows g nn) b') w (w.setCell ⟨hdB q,k,none⟩ (.int .i64 n)):=hext0.mono fun x hx=>by cases hx;exact hfp
 have hb:∀ b',fpo (ρ id) (.mat hs (rows.set i0 (X.set k n)) g nn) b'->fpo (ρ id) (.mat hs rows g nn) b'\/w.heap.size<=b':=fun b' hb'=>.inl hb'
 have T:=Turn.one rr id (.mat hs rows g nn) (.mat hs (rows.set i0 (X.set k n)) g nn) (ρ id) ho hext (w':=w.setCell ⟨hdB q,k,none⟩ (.int .i64 n))
  (by
   refine⟨cs,by rw [List.length_set];exact ownsRow_kept hown fun b' hb'=>hext0.block b' ((rr.os id _ ho).lt (b:=b') (.inl hb')) fun e=>hout q hq (by rw [hb',e]),by rw [List.length_set];exact hlen,fun i1 h1 xs u1 q1 q2 q3=>?_,hinj,hout,hnn,by rw [List.length_set];exact hml⟩
   by_cases hii:i1=i0
   ·subst hii
    rw [hat]at q1
    cases q1
    rw [List.getElem?_set_self om]at q2
    cases q2
    have q3':u1=cs[i1]:=by rw [geE om]at q3;exact(Option.some.inj q3).symm
    rcases hst.2 with⟨hz,_⟩ | ⟨b3,cap3,cur3,hv3,_,hg3,n1,n2,n3,n4⟩
    ·cases hz
    ·have ev:=Value.slice.inj hv3
     have eb:hdB q=b3:=congrArg Addr.block (Option.some.inj ev.1)
     have ec:hdC q=cap3:=ev.2.2
     subst eb ec
     refine⟨by rw [q3',List.length_set];exact hvx,cur3,hg3,by simpa using m1,m2,by simpa using n3,?_⟩
     rw [List.map_set]
     simpa using n4
   ·rw [List.getElem?_set_ne (Ne.symm hii)]at q2
    refine(hrow i1 h1 xs u1 q1 q2 q3).kept fun x hx=>?_
    subst hx
    exact hext0.block _ ((rr.os id _ ho).lt (b:=hdB x) (.inr ⟨x,List.mem_of_getElem? q1,rfl⟩)) fun e=>hii (hinj i1 i0 x q q1 hat e)) hb
  (by
   intro c' hc'
   simp [O.gen]at hc'
   exact⟨g,by simp [O.gen],.inl ⟨hc'.symm,rfl⟩⟩)
 rw [hρe]at T
 exact T.step rr
theorem storeV_sound (hC:C.Ok) {t:TypeId} {x y:AV} {vc:Prop} {o:List O} (rr:WRel C obs w ρ) {u v:Value}
  (hx:AVRel (C.V w obs ρ) obs ρ x u) (hy:AVRel (C.V w obs ρ) obs ρ y v) (hs:∀ s,y=.str s->s.length<=maxLen) (h:storeV (C.sc t) x y obs=.skip vc o) (hvc:vc) :
  ∃ w',(Instr.storeAt t u v).run C.P w=.ok () w'/\Step C w w' obs o ρ ρ:=by
 unfold storeV at h
 split at h
 case h_3=>cases h
 case h_2=>
  rename_i q k
  split at h
  case h_4=>cases h
  case h_3=>
   rename_i n s0 g1 hs rows g nn rest
   split at h
   case isFalse=>cases h
   rename_i hsc
   cases h
   exact storeR_sound (id:=1) hC rfl rr hx hy hsc hvc
  case h_2=>
   rename_i n hs rows g nn rest
   split at h
   case isFalse=>cases h
   rename_i hsc
   cases h
   exact storeR_sound (id:=0) hC rfl rr hx hy hsc hvc
  rename_i n D F hs g nn rest
  split at h
  case isFalse=>cases h
  rename_i hsc
  cases h
  exact storeP_sound (id:=0) hC rfl rr hx hy hsc hvc
 rename_i id g s k
 split at h
 case h_4=>cases h
 case h_3=>
  rename_i D F hs2 g' nn ho
  split at h
  case isFalse=>cases h
  rename_i hc
  obtain⟨hg,hss,hsc⟩:=hc
  subst hg hss
  split at h
  case h_2=>cases h
  rename_i q m
  cases h
  exact storeH_sound hC rr ho hx hy hsc hvc
 case h_2=>
  split at h
  case isFalse=>cases h
  split at h
  case h_2=>cases h
  split at h
  case h_2=>cases h
  split at h<;>cases h
 rename_i e xs g' nn ho
 split at h
 case isFalse=>cases h
 rename_i hc
 obtain⟨hg,hss,hsc,h1⟩:=hc
 subst hg hss
 split at h
 case h_2=>cases h
 rename_i d hd
 cases h
 have hel:=toE_rel hd hs hy
 obtain⟨a,len,cap,hρ,hk,hu⟩:=(hx.2 g (by simp [genOf,ho,O.gen])).2 rfl
 subst hu
 obtain⟨cs,hown,henc,hnn,hml⟩:=rr.os id _ ho
 rw [hρ]at hown
 obtain⟨b,ha,hlen⟩:∃ b,a=⟨b,0,none⟩/\len=xs.length:=by
  rcases hown.2 with⟨hh,_⟩ | ⟨b,c2,cur,hh,_⟩
  ·cases hh
  ·cases hh;exact⟨b,rfl,rfl⟩
 subst ha hlen
 have hcl:cs.length=xs.length:=by have:=henc.1;rw [h1]at this;omega
 have hcell:=hown.cellAt k (by rw [h1];omega)
 have hfr:=hown.frozenAt k
 obtain⟨hst,hgr⟩:=hown.stored k v
 rw [geE om]at hcell
 obtain⟨i,hi,hi1⟩:=(sc_plain hC hsc).2
 have hv1:=one_cells h1 hel
 have hrun:(Instr.storeAt t (.pointer (some ((⟨b,0,none⟩:Addr).add (k*e.size)))) v).run C.P w=.ok () (w.setCell ⟨b,k,none⟩ v):=by
  rw [add_plain,h1]
  simp only [Nat.mul_one,Nat.zero_add,Instr.storeAt,Instr.sureAddr,storeVar,Sem.run_bind,Sem.run_pure,Result.andThen_ok]
  simp [sizeOf,typeInfo,hi,hi1,hv1.1,storeCells,run_store _ _ _ _ _ hv1.2,Addr.add,hcell,hfr]
 have hfp:fpo (ρ id) (.arr e xs g nn) b:=by simp [fpo,hρ,Value.ownBlock]
 have hρe:(fun i=>if i=id then ρ id else ρ i)=ρ:=by funext i;split<;>simp_all
 refine⟨_,hrun,?_⟩
 have hext:Ext (fun b'=>fpo (ρ id) (.arr e xs g nn) b') w (w.setCell ⟨b,k,none⟩ v):=(Ext.grownBy hgr (run_drawn _ hrun)).mono fun x hx=>by cases hx;exact hfp
 have hb:∀ b',fpo (ρ id) (.arr e (xs.set k d) g nn) b'->fpo (ρ id) (.arr e xs g nn) b'\/w.heap.size<=b':=fun b' hb'=>.inl hb'
 have hV:=le_one (C:=C) ho hext hb
 have T:=Turn.one rr id (.arr e xs g nn) (.arr e (xs.set k d) g nn) (ρ id) ho hext (w':=w.setCell ⟨b,k,none⟩ v)
  (by
   rw [hρe]at hV ⊢
   refine⟨cs.set k v,?_,enc_set h1 (henc.mono hV) (hel.mono hV),hnn,by simpa using hml⟩
   rw [hρ]
   simpa using hst) hb
  (by
   intro c' hc'
   simp [O.gen]at hc'
   exact⟨g,by simp [O.gen],.inl ⟨hc'.symm,rfl⟩⟩)
 rw [hρe]at T
 exact T.step rr
theorem hd_of (l cap:Nat) (h:cap<=maxLen):hdB (l*18446744073709551616+cap)=l/\hdC (l*18446744073709551616+cap)=cap:=by
 rw [maxLen_num]at h
 unfold hdB hdC
 constructor<;>omega
theorem storeM_sound (hC:C.Ok) {t:TypeId} {x y:AV} {p:Nat->Prop} {r:AV} {o:Nat->List O} (rr:WRel C obs w ρ) {u v:Value}
  (hx:AVRel (C.V w obs ρ) obs ρ x u) (hy:AVRel (C.V w obs ρ) obs ρ y v) (h:storeV (C.sc t) x y obs=.all p r o) :
  ∃ w' l,p l/\(Instr.storeAt t u v).run C.P w=.ok () w'/\r=.junk/\Step C w w' obs (o l) ρ ρ:=by
 unfold storeV at h
 split at h
 case h_3=>cases h
 case h_2=>
  split at h
  ·split at h<;>cases h
  ·split at h<;>cases h
  ·split at h<;>cases h
  ·cases h
 rename_i id g s k
 split at h
 case h_4=>cases h
 case h_3=>
  split at h
  ·split at h<;>cases h
  ·cases h
 case h_1=>
  split at h
  case isFalse=>cases h
  split at h<;>cases h
 rename_i hs rows g' nn ho
 split at h
 case isFalse=>cases h
 rename_i hc
 obtain⟨hg,hss,hsc⟩:=hc
 subst hg hss
 split at h
 case h_2=>cases h
 rename_i id2 g2
 split at h
 case h_2=>cases h
 rename_i xs g2' ho2
 split at h
 case isFalse=>cases h
 rename_i hg2
 subst hg2
 cases h
 have hne:id2≠id:=fun e=>by subst e;rw [ho]at ho2;cases ho2
 obtain⟨a,len,cap,hρ,hk,hu⟩:=(hx.2 g (by simp [genOf,ho,O.gen])).2 rfl
 subst hu
 have hM:=rr.os id _ ho
 obtain⟨cs,hown,hhl,hrow,hnd,hout,hnn,hml⟩:=hM
 rw [hρ]at hown
 obtain⟨b,ha,hlen⟩:∃ b,a=⟨b,0,none⟩/\len=rows.length:=by
  rcases hown.2 with⟨hh,_⟩ | ⟨b,c2,cur,hh,_⟩
  ·cases hh
  ·cases hh;exact⟨b,rfl,rfl⟩
 subst ha hlen
 have hcl:cs.length=rows.length:=by have:=hown.1;omega
 obtain⟨hv2,cs2,hown2,henc2,hnn2,hml2⟩:=own_arr rr ho2 hy
 have hcs2:cs2=xs.map (Value.int .i64):=by
  apply List.ext_getElem?
  intro i
  have hl:=henc2.1
  simp only [E.size,Nat.mul_one]at hl
  by_cases hi:i < xs.length
  ·obtain⟨u,hu,hc⟩:=henc2.2 i hi
   have h0:=hc 0 (by simp [E.size])
   cases hu
   simp [E.size,Value.cells]at h0
   rw [h0]
   simp [hi]
  ·rw [geN om,geN (by simp;omega)]
 subst hcs2
 rcases hown2.2 with⟨hvn,_⟩ | ⟨l2,cap2,cur2,hvv,_,hg2,m1,m2,m3,m4⟩
 ·exact absurd hvn (hv2▸hnn2 rfl)
 have hfp2:fpo (ρ id2) (.arr .int xs g2 true) l2:=by rw [<- hv2];simp [fpo,hvv,Value.ownBlock]
 have hfpb:fpo (ρ id) (.mat hs rows g nn) b:=.inl (by rw [hρ];rfl)
 have hl2b:l2≠b:=fun e=>hne (rr.dis id2 id _ _ l2 ho2 ho hfp2 (e▸hfpb))
 have hcell:=hown.cellAt k om
 have hfr:=hown.frozenAt k
 obtain⟨hst,hgr⟩:=hown.stored k v
 rw [geE om]at hcell
 obtain⟨i,hi,hi1⟩:=(sc_plain hC hsc).2
 have hone:v.oneCell'=true:=by rw [hvv];rfl
 have hrun:(Instr.storeAt t (.pointer (some ((⟨b,0,none⟩:Addr).add (k*1)))) v).run C.P w=.ok () (w.setCell ⟨b,k,none⟩ v):=by
  rw [add_plain]
  simp only [Nat.mul_one,Nat.zero_add,Instr.storeAt,Instr.sureAddr,storeVar,Sem.run_bind,Sem.run_pure,Result.andThen_ok]
  simp [sizeOf,typeInfo,hi,hi1,cells_oneCell hone,storeCells,run_store _ _ _ _ _ hone,Addr.add,hcell,hfr]
 obtain⟨e1,e2⟩:=hd_of l2 cap2 m2
 have hlt:id < obs.length:=(geS.1 ho).1
 have hlt2:id2 < obs.length:=(geS.1 ho2).1
 have hext0:Ext (fun b'=>b'=b) w (w.setCell ⟨b,k,none⟩ v):=(Ext.grownBy hgr (run_drawn _ hrun)).mono fun x hx=>by cases hx;rfl
 refine⟨_,l2*18446744073709551616+cap2,trivial,hrun,rfl,?_⟩
 have T:Turn C w (w.setCell ⟨b,k,none⟩ v) obs ((obs.set id2 .dead).set id (.mat (hs.set k (some (l2*18446744073709551616+cap2))) (rows.set k xs) g nn)) ρ ρ
   (fun b'=>fpo (ρ id) (.mat hs rows g nn) b'\/fpo (ρ id2) (.arr .int xs g2 true) b'):=by
  have get:∀(j:Nat) (o1:O),((obs.set id2 .dead).set id (.mat (hs.set k (some (l2*18446744073709551616+cap2))) (rows.set k xs) g nn))[j]? = some o1 ->
    (id=j/\o1=.mat (hs.set k (some (l2*18446744073709551616+cap2))) (rows.set k xs) g nn)\/(id2=j/\o1=.dead)\/(j≠id/\j≠id2/\obs[j]? = some o1):=by
   intro j o1 hj
   rcases get_set hj with⟨h1,h2⟩ | ⟨h1,h2⟩
   ·exact .inl ⟨h1.symm,h2⟩
   ·rcases get_set h2 with⟨h3,h4⟩ | ⟨h3,h4⟩
    ·exact .inr (.inl ⟨h3.symm,h4⟩)
    ·exact .inr (.inr ⟨h1,h3,h4⟩)
  have newfp:∀ b',fpo (ρ id) (.mat (hs.set k (some (l2*18446744073709551616+cap2))) (rows.set k xs) g nn) b'->fpo (ρ id) (.mat hs rows g nn) b'\/fpo (ρ id2) (.arr .int xs g2 true) b':=by
   rintro b' (h | ⟨h,hm,rfl⟩)
   ·exact .inl (.inl h)
   ·obtain⟨j,hj⟩:=List.getElem?_of_mem hm
    rcases get_set hj with⟨_,h2⟩ | ⟨_,h2⟩
    ·cases h2;rw [e1];exact .inr hfp2
    ·exact .inl (.inr ⟨h,List.mem_of_getElem? h2,rfl⟩)
  refine⟨hext0.mono fun x hx=>by cases hx;exact .inl hfpb,by simp,fun b' hb'=>?_,fun j o1 hj=>?_,fun i1 j o1 o2 b' hi1' hj bi bj hS=>?_⟩
  ·rcases hb' with h | h
   ·exact⟨id,_,ho,h⟩
   ·exact⟨id2,_,ho2,h⟩
  ·rcases get j o1 hj with⟨rfl,rfl⟩ | ⟨rfl,rfl⟩ | ⟨n1,n2,h3⟩
   ·refine .inr ⟨?_,fun b' hb'=>.inl (newfp b' hb'),fun _ c' hc'=>⟨g,by simp [genOf,ho,O.gen],.inl ⟨by simp [O.gen]at hc';exact hc'.symm,rfl⟩⟩⟩
    refine⟨cs.set k v,by rw [hρ];simpa using hst,by simpa using hhl,fun i1 h1 xs1 u1 q1 q2 q3=>?_,fun i1 j1 h1 h2 q1 q2 q3=>?_,fun h1 q1=>?_,hnn,by simpa using hml⟩
    ·rcases get_set q1 with⟨a1,a2⟩ | ⟨a1,a2⟩
     ·subst a1 a2
      rcases get_set q2 with⟨_,b2⟩ | ⟨b1,_⟩
      ·rcases get_set q3 with⟨_,c2⟩ | ⟨c1,_⟩
       ·subst b2 c2
        refine⟨by rw [e1,e2];exact hvv,cur2,?_,by rw [e2];exact m1,by rw [e2];exact m2,by rw [e2];simpa [E.size] using m3,by simpa [E.size] using m4⟩
        rw [e1,hext0.block l2 (ageS.1 hg2).1 hl2b]
        exact hg2
       ·exact absurd rfl c1
      ·exact absurd rfl b1
     ·rcases get_set q2 with⟨b1,_⟩ | ⟨_,b2⟩
      ·exact absurd b1 a1
      ·rcases get_set q3 with⟨c1,_⟩ | ⟨_,c2⟩
       ·exact absurd c1 a1
       ·refine(hrow i1 h1 xs1 u1 a2 b2 c2).kept fun x hx=>?_
        subst hx
        have hmem:some x∈hs:=List.mem_of_getElem? a2
        refine hext0.block _ ((rr.os id _ ho).lt (b:=hdB x) (.inr ⟨x,hmem,rfl⟩)) fun e=>?_
        exact hout x hmem (by rw [hρ,e];rfl)
    ·have other:∀(n1:Nat) (hh:Nat),hs[n1]? = some (some hh)->hdB hh≠l2:=fun n1 hh q e=>
      hne (rr.dis id2 id _ _ l2 ho2 ho hfp2 (.inr ⟨hh,List.mem_of_getElem? q,e⟩))
     rcases get_set q1 with⟨a1,a2⟩ | ⟨a1,a2⟩<;>rcases get_set q2 with⟨b1,b2⟩ | ⟨b1,b2⟩
     ·exact a1.trans b1.symm
     ·cases a2;rw [e1]at q3;exact absurd q3.symm (other j1 h2 b2)
     ·cases b2;rw [e1]at q3;exact absurd q3 (other i1 h1 a2)
     ·exact hnd i1 j1 h1 h2 a2 b2 q3
    ·obtain⟨j1,q2⟩:=List.getElem?_of_mem q1
     rcases get_set q2 with⟨a1,a2⟩ | ⟨a1,a2⟩
     ·cases a2;rw [e1,hρ];intro hh;simp [Value.ownBlock]at hh;exact hl2b hh.symm
     ·exact hout h1 (List.mem_of_getElem? a2)
   ·exact .inr ⟨trivial,fun b' hb'=>hb'.elim,fun _ c' hc'=>by simp [O.gen]at hc'⟩
   ·refine .inl ⟨h3,rfl,fun b' hb' hh=>?_⟩
    rcases hh with hh | hh
    ·exact n1 (rr.dis j id _ _ b' h3 ho hb' hh)
    ·exact n2 (rr.dis j id2 _ _ b' h3 ho2 hb' hh)
  ·have key:∀(i1:Nat) (o1:O),((obs.set id2 .dead).set id (.mat (hs.set k (some (l2*18446744073709551616+cap2))) (rows.set k xs) g nn))[i1]? = some o1->fpo (ρ i1) o1 b'->i1=id:=by
    intro i1 o1 h1 h2
    rcases get i1 o1 h1 with⟨h,_⟩ | ⟨rfl,rfl⟩ | ⟨n1,n2,h3⟩
    ·exact h.symm
    ·exact h2.elim
    ·exfalso
     rcases hS with(hh | hh) | hh
     ·exact n1 (rr.dis i1 id _ _ b' h3 ho h2 hh)
     ·exact n2 (rr.dis i1 id2 _ _ b' h3 ho2 h2 hh)
     ·have:=(rr.os i1 o1 h3).lt h2;omega
   rw [key i1 o1 hi1' bi,key j o2 hj bj]
 exact T.step rr
theorem enc_replicate {V:Vw} {e:E} {z:e.D} {u:Value} (hz:ElRel V e z u) {n:Nat} {cs:List Value} (hl:cs.length=n*e.size) (hc:∀ j,j < n*e.size->cs[j]? = u.cells[j % e.size]?) :
  Enc V e (List.replicate n z) cs:=by
 refine⟨by simpa using hl,fun i hi=>⟨u,by simpa using hz,fun j hj=>?_⟩⟩
 simp at hi
 have hlt:i*e.size+j < n*e.size:=by
  have:(i+1)*e.size<=n*e.size:=Nat.mul_le_mul_right _ hi
  rw [Nat.add_mul]at this
  omega
 rw [hc _ hlt]
 congr 1
 rw [Nat.mul_comm,Nat.mul_add_mod,Nat.mod_eq_of_lt hj]
theorem zeroD_rel {V:Vw} {e:E} {z:e.D} (h:e.zeroD=some z):ElRel V e z e.zero:=by
 cases e<;>simp [E.zeroD]at h<;>subst h
 ·rfl
 ·rfl
 ·rfl
 ·exact⟨rfl,by simp⟩
 ·exact⟨none,0,rfl,by simp,by simp,fun i hi=>by simp at hi⟩
 ·exact⟨rfl,rfl⟩
theorem zero_fam (e:E):e.made.zero=e.zero/\e.made.size=e.size:=by
 cases e<;>simp [E.zero,E.size,E.made]
theorem tid_fam (hC:C.Ok) (e:E):C.tid e.made=C.tid e:=by
 cases e<;>first | rfl | exact hC.same true
theorem madeCells_get (z:Array Value) (n j:Nat) (h:j < n) (hz:0 < z.size):(madeCells z n).toList[j]? = z[j % z.size]?:=by
 have hm:j % z.size < z.size:=Nat.mod_lt _ hz
 simp [madeCells,h,hm,getElem!_pos]
theorem makeV_sound (hC:C.Ok) {t:TypeId} {x y:AV} {vc:Prop} {r:AV} {o:List O} (rr:WRel C obs w ρ) {u v:Value}
  (hx:AVRel (C.V w obs ρ) obs ρ x u) (hy:AVRel (C.V w obs ρ) obs ρ y v) (h:makeV (C.Γ t) x y obs=.ok vc r o) (hv:vc) :
  ∃ z w' ρ',(Instr.makeSlice t u v).run C.P w=.ok z w'/\Step C w w' obs o ρ ρ'/\AVRel (C.V w' o ρ') o ρ' r z:=by
 unfold makeV at h
 split at h
 case h_3=>cases h
 case h_1=>
  rename_i k n k2 m he
  cases h
  obtain⟨rfl,h0,hb⟩:=hv
  simp only [AVRel]at hx hy
  subst hx hy
  obtain⟨ht,i,hi,hzero,hsize,hbytes⟩:=hC.sl t .lrow he
  obtain⟨q,rfl⟩:=Int.eq_ofNat_of_zero_le h0
  have hbq:24*q<=281474976710656:=by omega
  have hq:q<=maxLen:=by rw [maxLen_num];omega
  obtain⟨w',hrun,hown,hgr⟩:=run_make_full (P:=C.P) w 0 t (C.tid .lrow) i (E.zero .lrow) 1 ht hi hzero hsize k k2 q (by rw [hbytes];exact hbq) hq (nz0 _)
  have hext:Ext (fun _=>False) w w':=(Ext.grownBy hgr (run_drawn _ hrun)).mono fun x hx=>by cases hx
  have hfb:∀ b,fpo (.slice (some ⟨w.heap.size,0,none⟩) q q) (.mat (List.replicate (q:Int).toNat none) (List.replicate (q:Int).toNat []) 0 true) b->w.heap.size<=b:=by
   rintro b (hb | ⟨h,hm,_⟩)
   ·simp [Value.ownBlock]at hb
    omega
   ·simp at hm
  refine⟨_,w',_,hrun,(Turn.new rr hext _ (.slice (some ⟨w.heap.size,0,none⟩) q q) ?_ hfb).step rr,?_⟩
  ·refine⟨_,by simpa using hown,by simp,fun i1 h1 xs1 u1 q1 q2 q3=>?_,fun i1 j1 h1 h2 q1=>?_,fun h1 q1=>by simp at q1,by simp,by simpa using hq⟩
   ·have hlt:i1 < q:=by
     have:=(geS.1 q1).1
     simpa using this
    rw [List.getElem?_replicate]at q1 q2
    rw [if_pos (by simpa using hlt)]at q1 q2
    cases q1
    cases q2
    have h3:=madeCells_get (E.zero .lrow).cells (q*1) i1 om (by decide)
    rw [Nat.mul_one,q3]at h3
    have h4:i1 % (E.zero .lrow).cells.size=0:=Nat.mod_one _
    rw [h4]at h3
    refine⟨?_,rfl⟩
    simpa [E.zero,Value.cells] using h3
   ·rw [List.getElem?_replicate]at q1
    split at q1<;>cases q1
  ·refine⟨by simp,fun c hc=>?_⟩
   have:c=0:=by simpa [genOf,O.gen] using hc.symm
   subst this
   simp
 rename_i _ e k n k2 m _ he
 split at h
 case h_2=>cases h
 rename_i z hz
 cases h
 obtain⟨rfl,h0,hb⟩:=hv
 simp only [AVRel]at hx hy
 subst hx hy
 obtain⟨ht,i,hi,hzero,hsize,hbytes⟩:=hC.sl t e he
 obtain⟨q,rfl⟩:=Int.eq_ofNat_of_zero_le h0
 have hbq:e.bytes*q<=281474976710656:=by
  have:((e.bytes*q:Nat):Int)<=281474976710656:=by rw [Int.natCast_mul];exact hb
  omega
 have hbp:0 < e.bytes:=by cases e<;>simp [E.bytes]
 have hq:q<=maxLen:=by
  have:q<=e.bytes*q:=Nat.le_mul_of_pos_left q hbp
  rw [maxLen_num];omega
 have hzs:e.zero.cells.size=e.size:=by cases e<;>rfl
 obtain⟨w',hrun,hown,hgr⟩:=run_make_full (P:=C.P) w 0 t (C.tid e) i e.zero e.size ht hi hzero hsize k k2 q (by rw [hbytes];exact hbq) hq (nz0 _)
 have hext:Ext (fun _=>False) w w':=(Ext.grownBy hgr (run_drawn _ hrun)).mono fun x hx=>by cases hx
 obtain⟨hzf,hsf⟩:=zero_fam e
 have hfb:∀ b,fpo (.slice (some ⟨w.heap.size,0,none⟩) q q) (.arr e.made (List.replicate (q:Int).toNat z) 0 true) b->w.heap.size<=b:=by
  intro b hb
  simp [fpo,Value.ownBlock]at hb
  omega
 have hV:=le_new (C:=C) (obs:=obs) (ρ:=ρ) hext hfb
 refine⟨_,w',_,hrun,(Turn.new rr hext _ (.slice (some ⟨w.heap.size,0,none⟩) q q) ?_ hfb).step rr,?_⟩
 ·refine⟨_,?_,enc_replicate (u:=e.zero) (n:=q) (by have:=zeroD_rel (V:=C.V w' (obs ++ [.arr e.made (List.replicate (q:Int).toNat z) 0 true]) (fun i=>if i=obs.length then .slice (some ⟨w.heap.size,0,none⟩) q q else ρ i)) hz;rw [hzf]at this;exact this) (by rw [hsf];exact hown.1) ?_,by simp,by simpa using hq⟩
  ·rw [tid_fam hC,hsf]
   simpa using hown
  ·intro j hj
   rw [hsf]at hj ⊢
   rw [madeCells_get _ _ _ hj (by rw [hzs];exact e.size_pos),hzs]
 ·refine⟨by simp,fun c hc=>?_⟩
  have:c=0:=by simpa [genOf,O.gen] using hc.symm
  subst this
  simp
theorem convL_rel {V:Vw} {e' e:E} {ys:List e.D} {zs:List e'.D} (h:convL e' e ys=some zs) {i:Nat} (hi:i < ys.length) :
  ∃ hi':i < zs.length,e'.size=e.size/\∀ u,ElRel V e ys[i] u->ElRel V e' zs[i] u:=by
 unfold convL at h
 split at h<;>simp at h<;>subst h
 ·exact⟨hi,rfl,fun u k=>k⟩
 ·exact⟨hi,rfl,fun u k=>k⟩
 ·exact⟨hi,rfl,fun u k=>k⟩
 ·exact⟨hi,rfl,fun u k=>k⟩
 ·exact⟨hi,rfl,fun u k=>k⟩
 ·exact⟨by simpa using hi,rfl,fun u k=>by have k2:=LRowRel.toRow k;simpa [ElRel] using k2⟩
 ·exact⟨hi,rfl,fun u k=>RowRel.weaken k⟩
 ·exact⟨by simpa using hi,rfl,fun u k=>by have k2:=(LRowRel.toRow k).weaken;simpa [ElRel] using k2⟩
 ·exact⟨hi,rfl,fun u k=>k⟩
 ·exact⟨hi,rfl,fun u k=>k⟩
 ·exact⟨hi,rfl,fun u k=>k⟩
theorem convL_len {e' e:E} {ys:List e.D} {zs:List e'.D} (h:convL e' e ys=some zs):zs.length=ys.length:=by
 unfold convL at h
 split at h<;>simp at h<;>subst h<;>simp
def SrcCells (w:World) (V:Vw) (e:E) (zs:List e.D) (v:Value):Prop:=
 (zs=[]/\∃ b c,v=.slice b 0 c) \/
 ∃ a c news,v=.slice (some a) zs.length c/\(∀ j u,news[j]? = some u->w.cell? (a.add j)=some u)/\(∀ u∈news,u.oneCell'=true)/\Enc V e zs news
theorem Enc.conv {V:Vw} {e' e:E} {ys:List e.D} {zs:List e'.D} (h:convL e' e ys=some zs) {cs:List Value} (k:Enc V e ys cs):Enc V e' zs cs:=by
 have hl:=convL_len h
 by_cases hz:ys.length=0
 ·have h1:=k.1
  rw [hz]at h1 hl
  exact⟨by rw [hl];simpa using h1,fun i hi=>by omega⟩
 ·have hs:e'.size=e.size:=(convL_rel (V:=V) h (i:=0) om).2.1
  refine⟨by rw [hl,hs];exact k.1,fun i hi=>?_⟩
  obtain⟨u,hu,hc⟩:=k.2 i om
  obtain⟨_,_,hr⟩:=convL_rel (V:=V) h (i:=i) om
  exact⟨u,hr u hu,fun j hj=>by rw [hs]at hj ⊢;exact hc j hj⟩
theorem SlRel.src {f:Bool} {e:E} {ys:List e.D} {v:Value} (h:SlRel (C.V w obs ρ) f e ys v) {e':E} {zs:List e'.D} (hc:convL e' e ys=some zs):SrcCells w (C.V w obs ρ) e' zs v:=by
 obtain⟨base,cap,hv,h1,h2,hx⟩:=h
 have hl:=convL_len hc
 by_cases hz:ys.length=0
 ·exact .inl ⟨nilZ om,base,cap,by rw [hv,hz]⟩
 ·obtain⟨a,_,ha,_⟩:=hx 0 om
  have cellOf:∀ j,j < ys.length*e.size->∃ i k,j=i*e.size+k/\i < ys.length/\k < e.size:=by
   intro j hj
   have hp:=e.size_pos
   refine⟨j / e.size,j % e.size,(Nat.div_add_mod' j e.size).symm,?_,Nat.mod_lt _ hp⟩
   exact Nat.div_lt_of_lt_mul (by rw [Nat.mul_comm];exact hj)
  have each:∀ j,j < ys.length*e.size->∃ u,w.cell? (a.add j)=some u/\u.oneCell'=true:=by
   intro j hj
   obtain⟨i,k,rfl,hi,hk⟩:=cellOf j hj
   obtain⟨a',u,ha',_,hr,hcell⟩:=hx i hi
   rw [ha]at ha'
   cases ha'
   have hsz:=hr.cells
   have hck:=hcell k hk
   rw [Array.getElem?_eq_getElem om]at hck
   exact⟨_,V_cell hck,hsz.2 _ (by simp)⟩
  refine .inr ⟨a,cap,(List.range (ys.length*e.size)).map (fun j=>(w.cell? (a.add j)).getD undef),by rw [hv,ha,hl],?_,?_,?_⟩
  ·intro j u hj
   have hlt:j < ys.length*e.size:=by
    rcases Nat.lt_or_ge j (ys.length*e.size)with h | h
    ·exact h
    ·rw [geN (by simpa using h)]at hj;cases hj
   obtain⟨u',hu',_⟩:=each j hlt
   simp [hlt,hu']at hj
   rw [hu',hj]
  ·intro u hu
   obtain⟨j,hj,rfl⟩:=List.mem_map.1 hu
   obtain⟨u',hu',h1⟩:=each j (List.mem_range.1 hj)
   simpa [hu'] using h1
  ·refine Enc.conv hc ⟨by simp,fun i hi=>?_⟩
   obtain⟨a',u,ha',_,hr,hcell⟩:=hx i hi
   rw [ha]at ha'
   cases ha'
   refine⟨u,hr,fun k hk=>?_⟩
   have hlt:i*e.size+k < ys.length*e.size:=by
    have:(i+1)*e.size<=ys.length*e.size:=Nat.mul_le_mul_right _ hi
    rw [Nat.add_mul]at this
    omega
   have hsz:=hr.cells
   have hck:=hcell k hk
   rw [Array.getElem?_eq_getElem om]at hck ⊢
   have:=V_cell hck
   simp [hlt,this]
theorem hdrL_sound (rr:WRel C obs w ρ) {id:Nat} {hs:List (Option Nat)} {rows:List (List Int)} {g:Nat} {nn:Bool} (ho:obs[id]? = some (.mat hs rows g nn)) {q n:Nat} (hq:some q∈hs) (hn:n=(rows.getD (hs.idxOf (some q)) []).length) {v:Value}
  (hx:v=.slice (some ⟨hdB q,0,none⟩) n (hdC q)):SrcCells w (C.V w obs ρ) .int (rows.getD (hs.idxOf (some q)) []) v:=by
 obtain⟨cs,hown,hlen,hrow,hinj,hout,hnn,hml⟩:=rr.os id _ ho
 have hi0:hs.idxOf (some q) < hs.length:=List.idxOf_lt_length_iff.2 hq
 have hat:hs[hs.idxOf (some q)]? = some (some q):=by rw [geE hi0];simp
 have hcl:cs.length=rows.length:=by have:=hown.1;omega
 generalize hs.idxOf (some q)=i0 at *
 have hrow0:rows[i0]? = some (rows.getD i0 []):=by rw [gdE,geE om];simp
 generalize hX:rows.getD i0 []=X at *
 obtain⟨hvx,cur,hg,m1,m2,m3,m4⟩:=hrow i0 (some q) X cs[i0] hat hrow0 (by simp)
 have hin:w.ownsRow 0 (C.tid .int) 1 (.slice (some ⟨hdB q,0,none⟩) X.length (hdC q)) X.length (X.map (Value.int .i64)):=
  ⟨by simp,.inr ⟨hdB q,hdC q,cur,rfl,nz0 _,hg,m1,m2,by simpa using m3,by simpa using m4⟩⟩
 refine .inr ⟨⟨hdB q,0,none⟩,hdC q,X.map (Value.int .i64),by rw [hx,hn],fun j u hj=>hin.cells (g:=hdB q) rfl j u hj,fun u hu=>?_,?_⟩
 ·obtain⟨z,_,rfl⟩:=List.mem_map.1 hu;rfl
 ·refine⟨by simp [E.size],fun i hi=>⟨.int .i64 X[i],rfl,fun j hj=>?_⟩⟩
  have:j=0:=by simp [E.size]at hj;omega
  subst this
  simp [E.size,Value.cells,hi]
theorem srcL_sound {e':E} {x:AV} {no:Option Nat} {zs:List e'.D} (rr:WRel C obs w ρ) {v:Value} (hx:AVRel (C.V w obs ρ) obs ρ x v) (h:srcL e' x obs no=some zs) :
  SrcCells w (C.V w obs ρ) e' zs v:=by
 unfold srcL at h
 split at h
 ·exact SlRel.src hx h
 ·exact SlRel.src (LRowRel.toRow hx).toSl h
 ·simp at h
  subst h
  exact .inl ⟨rfl,none,0,hx⟩
 ·simp at h
  subst h
  obtain⟨a,c,hv,_⟩:=hx
  exact .inl ⟨rfl,a,c,hv⟩
 ·rename_i q n
  have hx:v=.slice (some ⟨hdB q,0,none⟩) n (hdC q):=hx
  unfold hdrL at h
  split at h
  ·split at h
   ·rename_i hc
    cases h
    exact hdrL_sound (id:=0) rr rfl hc.1 hc.2 hx
   ·cases h
  ·split at h
   ·rename_i hc
    cases h
    exact hdrL_sound (id:=1) rr rfl hc.1 hc.2 hx
   ·cases h
  ·cases h
 ·rename_i id g
  split at h
  ·cases h
  split at h
  case h_2=>cases h
  rename_i e ys g' nn ho
  split at h
  case isFalse=>cases h
  rename_i hg
  subst hg
  obtain⟨hρ,cs,hown,henc,hnn,hml⟩:=own_arr rr ho hx
  have hl:=convL_len h
  have henc':=henc.conv h
  rcases hown.2 with⟨hv,hz⟩ | ⟨b,cap,cur,hv,rest⟩
  ·exact .inl ⟨nilZ om,none,0,hv⟩
  ·refine .inr ⟨⟨b,0,none⟩,cap,cs,by rw [hv,hl],fun j u hj=>hown.cells (g:=b) (by rw [hv];rfl) j u hj,fun u hu=>?_,henc'⟩
   obtain⟨j,hj⟩:=List.getElem?_of_mem hu
   have hjl:j < cs.length:=(geS.1 hj).1
   have hp:=e.size_pos
   have hdiv:j / e.size < ys.length:=Nat.div_lt_of_lt_mul (by rw [Nat.mul_comm];have:=henc.1;omega)
   obtain⟨z,hz,hc⟩:=henc.2 (j / e.size) hdiv
   have hk:=hc (j % e.size) (Nat.mod_lt _ hp)
   rw [Nat.div_add_mod',hj]at hk
   have hsz:=hz.cells
   rw [Array.getElem?_eq_getElem (by rw [hsz.1];exact Nat.mod_lt _ hp)]at hk
   have hk2:=Option.some.inj hk
   rw [hk2]
   exact hsz.2 _ (by simp)
 ·cases h
theorem enc_append {V:Vw} {e:E} {xs ys:List e.D} {cs ds:List Value} (h:Enc V e xs cs) (k:Enc V e ys ds):Enc V e (xs ++ ys) (cs ++ ds):=by
 refine⟨by rw [lenA,lenA,h.1,k.1,Nat.add_mul],fun i hi=>?_⟩
 by_cases hlt:i < xs.length
 ·obtain⟨u,hu,hc⟩:=h.2 i hlt
  refine⟨u,by rw [List.getElem_append_left hlt];exact hu,fun j hj=>?_⟩
  rw [List.getElem?_append_left,hc j hj]
  rw [h.1]
  have:(i+1)*e.size<=xs.length*e.size:=Nat.mul_le_mul_right _ hlt
  rw [Nat.add_mul]at this
  omega
 ·simp at hi
  obtain⟨u,hu,hc⟩:=k.2 (i - xs.length) om
  refine⟨u,by rw [List.getElem_append_right om];exact hu,fun j hj=>?_⟩
  have h1:xs.length*e.size<=i*e.size:=Nat.mul_le_mul_right _ om
  rw [List.getElem?_append_right (by rw [h.1];omega),<- hc j hj,h.1]
  congr 1
  rw [Nat.sub_mul]
  omega
theorem run_append_zero {t ty e:TypeId} {i:TypeInfo} (ht:C.P.underlying t=some (.slice e)) (hi:C.P.info? e=some i) {v:Value} {n:Nat} {cs:List Value} {size:Nat} (hown:w.ownsRow 0 e size v n cs) (b:Option Addr) (c:Nat) :
  (Builtin.append_ #[t,t] ty #[v,.slice b 0 c]).run C.P w=.ok v w:=by
 rcases hown.2 with⟨rfl,rfl⟩ | ⟨g,cap,cur,rfl,_,_,hnc,_⟩
 ·cases b<;>simp [Builtin.append_,run_underlying ht,sizeOf,typeInfo,hi,Builtin.lenOf,Builtin.firstCells,loadCells,loadCellsFrom]
 ·cases b<;>simp [Builtin.append_,run_underlying ht,sizeOf,typeInfo,hi,Builtin.lenOf,Builtin.firstCells,hnc,storeCells,loadCells,loadCellsFrom]
theorem append_core {t ty:TypeId} {e0 e:E} (hC:C.Ok) (he:C.Γ t=some e0) (hf:e.fam=e0.fam) {v u:Value} {xs zs:List e.D} {cs:List Value} (hown:w.ownsRow 0 (C.tid e) e.size v xs.length cs)
  (hb:(xs.length+zs.length)*e0.bytes<=140737488355328) (hsrc:SrcCells w (C.V w obs ρ) e zs u) :
  ∃ v' w' ds,(Builtin.append_ #[t,t] ty #[v,u]).run C.P w=.ok v' w'/\w'.ownsRow 0 (C.tid e) e.size v' (xs ++ zs).length (cs ++ ds)/\Enc (C.V w obs ρ) e zs ds/\w.grownBy w' v.ownBlock /\
   (zs.isEmpty=false->v'≠.slice none 0 0)/\(v≠.slice none 0 0->v'≠.slice none 0 0)/\(∀ b,v'.ownBlock=some b->v.ownBlock=some b\/w.heap.size<=b)/\(xs ++ zs).length<=maxLen/\(∀ b,v.ownBlock=some b->v'.ownBlock=some b\/w'.heap[b]? = w.heap[b]?):=by
 obtain⟨ht,i0,hi0,hz0,hs0,hb0⟩:=hC.sl t e0 he
 have htid:C.tid e=C.tid e0:=by
  cases e<;>cases e0<;>simp [E.fam]at hf<;>first | rfl | (rename_i f;exact hC.same f) | (rename_i f;exact(hC.same f).symm) | (rename_i f g;exact(hC.same f).trans (hC.same g).symm)
 have hsz:e.size=e0.size:=by cases e<;>cases e0<;>simp [E.fam]at hf<;>rfl
 have hbp:0 < e0.bytes:=by cases e0<;>simp [E.bytes]
 have hlen:(xs ++ zs).length=xs.length+zs.length:=lenA
 have hmax:xs.length+zs.length<=maxLen:=by
  have:xs.length+zs.length<=(xs.length+zs.length)*e0.bytes:=Nat.le_mul_of_pos_right _ hbp
  rw [maxLen_num];omega
 rcases hsrc with⟨rfl,b,c,rfl⟩ | ⟨a,c,news,rfl,h1,h2,h3⟩
 ·refine⟨v,w,[],run_append_zero ht hi0 (by rw [<- htid];exact hown) b c,by simpa using hown,⟨by simp,fun i hi=>by simp at hi⟩,⟨rfl,rfl,rfl,Nat.le_refl _,fun _ _ _=>rfl⟩,by simp,fun h=>h,fun b h=>.inl h,by rw [hlen];exact hmax,fun b h=>.inl h⟩
 ·rw [htid,hsz]at hown
  have hl:news.length=zs.length*e0.size:=by rw [<- hsz];exact h3.1
  obtain⟨v',w',hrun,hown',hgr,hnil⟩:=run_append_own (P:=C.P) w 0 t ty (C.tid e0) i0 e0.zero e0.size e0.bytes ht hi0 hz0 hs0 hb0 (by cases e0<;>rfl) e0.size_pos v xs.length cs hown a zs.length c news hl h1 h2 hmax hb (nz0 _)
  refine⟨v',w',news,hrun,by rw [hlen,htid,hsz];exact hown',h3,hgr,?_,fun h k=>h (hnil.1 k).1,?_,by rw [hlen];exact hmax,?_⟩
  ·intro hz k
   have:=(hnil.1 k).2
   have:zs=[]:=nilZ this
   subst this
   simp at hz
  ·intro bb hbb
   by_cases hz:zs.length=0
   ·have hzz:zs=[]:=nilZ hz
    subst hzz
    have hr0:=run_append_zero (C:=C) (ty:=ty) ht hi0 hown (some a) c
    rw [hz]at hrun
    rw [hr0]at hrun
    cases hrun
    exact .inl hbb
   ·have hpos:0 < zs.length:=Nat.pos_of_ne_zero hz
    have hmax':=hmax
    rw [maxLen_num]at hmax'
    rcases hown.2 with⟨rfl,h0⟩ | ⟨g,cap,cur,rfl,_,hg,hnc,hcm,hcs,htake⟩
    ·have hr0:=run_append_nil (P:=C.P) w t ty (C.tid e0) i0 e0.zero ht hi0 hz0 a zs.length c news (by rw [hs0];exact hl) h1 hpos om (by rw [hb0];have:=hb;rw [Nat.add_mul]at this;omega)
     rw [hr0]at hrun
     cases hrun
     simp [Value.ownBlock]at hbb
     exact .inr om
    ·by_cases hroom:xs.length+zs.length<=cap
     ·have hfit:xs.length*i0.size+news.length<=cur.size:=by rw [hl,hcs,hs0,<- Nat.add_mul];exact Nat.mul_le_mul_right _ hroom
      have hr0:=run_append_room (P:=C.P) w t ty (C.tid e0) i0 ht hi0 g xs.length cap cur hg a zs.length c news (by rw [hs0];exact hl) h1 h2 hroom hfit
      rw [hr0]at hrun
      cases hrun
      exact .inl hbb
     ·have hr0:=run_append_grow (P:=C.P) w t ty (C.tid e0) i0 e0.zero ht hi0 hz0 ⟨g,0,none⟩ xs.length cap cs (by rw [hs0];exact hown.1) (hown.cells (g:=g) rfl) a zs.length c news (by rw [hs0];exact hl) h1 om om
       (growslice_fits om (by rw [hb0];exact hb))
      rw [hr0]at hrun
      cases hrun
      simp [Value.ownBlock]at hbb
      exact .inr om
  ·intro bb hbb
   by_cases hz:zs.length=0
   ·have hzz:zs=[]:=nilZ hz
    subst hzz
    have hr0:=run_append_zero (C:=C) (ty:=ty) ht hi0 hown (some a) c
    rw [hz]at hrun
    rw [hr0]at hrun
    cases hrun
    exact .inl hbb
   ·have hpos:0 < zs.length:=Nat.pos_of_ne_zero hz
    have hmax':=hmax
    rw [maxLen_num]at hmax'
    rcases hown.2 with⟨rfl,h0⟩ | ⟨g,cap,cur,rfl,_,hg,hnc,hcm,hcs,htake⟩
    ·have hr0:=run_append_nil (P:=C.P) w t ty (C.tid e0) i0 e0.zero ht hi0 hz0 a zs.length c news (by rw [hs0];exact hl) h1 hpos om (by rw [hb0];have:=hb;rw [Nat.add_mul]at this;omega)
     rw [hr0]at hrun
     cases hrun
     simp [Value.ownBlock]at hbb
    ·by_cases hroom:xs.length+zs.length<=cap
     ·have hfit:xs.length*i0.size+news.length<=cur.size:=by rw [hl,hcs,hs0,<- Nat.add_mul];exact Nat.mul_le_mul_right _ hroom
      have hr0:=run_append_room (P:=C.P) w t ty (C.tid e0) i0 ht hi0 g xs.length cap cur hg a zs.length c news (by rw [hs0];exact hl) h1 h2 hroom hfit
      rw [hr0]at hrun
      cases hrun
      exact .inl hbb
     ·have hr0:=run_append_grow (P:=C.P) w t ty (C.tid e0) i0 e0.zero ht hi0 hz0 ⟨g,0,none⟩ xs.length cap cs (by rw [hs0];exact hown.1) (hown.cells (g:=g) rfl) a zs.length c news (by rw [hs0];exact hl) h1 om om
       (growslice_fits om (by rw [hb0];exact hb))
      rw [hr0]at hrun
      cases hrun
      refine .inr ?_
      have hlt:bb < w.heap.size:=mem_lt_of_ownsRow hown hbb
      show(w.heap.push _)[bb]? = _
      rw [Array.getElem?_push,if_neg om]
theorem appendV_sound (hC:C.Ok) {t ty:TypeId} {x y:AV} {vc:Prop} {r:AV} {o:List O} (rr:WRel C obs w ρ) {u v:Value}
  (hx:AVRel (C.V w obs ρ) obs ρ x u) (hy:AVRel (C.V w obs ρ) obs ρ y v) (h:appendV (C.Γ t) x y obs=.ok vc r o) (hv:vc) :
  ∃ z w' ρ',(Builtin.append_ #[t,t] ty #[u,v]).run C.P w=.ok z w'/\Step C w w' obs o ρ ρ'/\AVRel (C.V w' o ρ') o ρ' r z:=by
 unfold appendV at h
 split at h
 ·rename_i _ e id g he
  split at h
  case h_3=>cases h
  case h_2=>
   rename_i q xs fr g' nn ho
   split at h
   case isFalse=>cases h
   rename_i hc
   obtain⟨hg,hf⟩:=hc
   subst hg
   split at h
   case h_2=>cases h
   rename_i zs hz
   cases h
   obtain⟨hρ,cs,hown,henc,hnn,hml,hq,⟨cur,ty',f,hcur,hpre⟩,_⟩:=own_ap rr ho hx
   have hsrc:=srcL_sound rr hy hz
   obtain⟨v',w',ds,hrun,hown',hds,hgr,hn1,hn2,hblk,hmax,hold⟩:=append_core (ty:=ty) (e:=.lrow) hC he hf hown hv hsrc
   have hext:Ext (fun b=>fpo (ρ id) (.ap q xs fr g nn) b) w w':=(Ext.grownBy hgr (run_drawn _ hrun)).mono fun b hb=>by rw [fpo,<- hρ];exact .inl hb
   have hb:∀ b,fpo v' (.ap q (xs ++ zs) false (g+1) (nn || !zs.isEmpty)) b->fpo (ρ id) (.ap q xs fr g nn) b\/w.heap.size<=b:=by
    intro b hb
    rw [fpo,<- hρ]
    rcases hb with hb | hb
    ·exact(hblk b hb).imp .inl (fun k=>k)
    ·exact .inl (.inr hb)
   have hV:=le_one (C:=C) ho hext hb
   have hlt:id < obs.length:=(geS.1 ho).1
   have hcl:cs.length=xs.length:=by have:=henc.1;simpa [E.size] using this
   have hpre':∃ cur t f,w'.heap[hdB q]? = some (.cells cur t f)/\∀ i,i < hdC q->cur[i]? = (cs ++ ds)[i]?:=by
    have hap:∀ i,i < hdC q->(cs ++ ds)[i]? = cs[i]?:=fun i hi=>by rw [List.getElem?_append_left om]
    have hblt:hdB q < w.heap.size:=(ageS.1 hcur).1
    have keep:w'.heap[hdB q]? = w.heap[hdB q]?->∃ cur t f,w'.heap[hdB q]? = some (.cells cur t f)/\∀ i,i < hdC q->cur[i]? = (cs ++ ds)[i]?:=fun e=>⟨cur,ty',f,by rw [e];exact hcur,fun i hi=>by rw [hap i hi];exact hpre i hi⟩
    by_cases hbq:u.ownBlock=some (hdB q)
    ·rcases hold _ hbq with h1 | h1
     ·rcases hown'.2 with⟨hn,_⟩ | ⟨k,cap,cur2,hv2,_,hg2,hc1,_,hc3,hc4⟩
      ·rw [hn]at h1;simp [Value.ownBlock]at h1
      ·rw [hv2]at h1
       have hk:k=hdB q:=by simpa [Value.ownBlock] using h1
       subst hk
       refine⟨cur2,_,_,hg2,fun i hi=>?_⟩
       have hlen:(xs ++ zs).length=xs.length+zs.length:=lenA
       have:=congrArg (fun l=>l[i]?) hc4
       simp only [List.getElem?_take,E.size,Nat.mul_one]at this
       rw [if_pos om]at this
       simpa using this
     ·exact keep h1
    ·exact keep (hgr.block _ hblt (fun e=>hbq e.symm))
   refine⟨v',w',_,hrun,(Turn.one rr id (.ap q xs fr g nn) (.ap q (xs ++ zs) false (g+1) (nn || !zs.isEmpty)) v' ho hext ?_ hb ?_).step rr,?_⟩
   ·refine⟨cs ++ ds,hown',enc_append (henc.mono hV) (hds.mono hV),fun hnz=>?_,hmax,by simp;omega,hpre',by simp⟩
    rcases Bool.or_eq_true _ _▸hnz with k | k
    ·exact hn2 (hnn k)
    ·exact hn1 (by simpa using k)
   ·intro c' hc'
    simp [O.gen]at hc'
    exact⟨g,by simp [O.gen],.inr om⟩
   ·refine⟨by simpa using hlt,fun c hc=>?_⟩
    have:c=g+1:=by simpa [genOf,hlt,O.gen] using hc.symm
    subst this
    simp
  rename_i e' xs g' nn ho
  split at h
  case isFalse=>cases h
  rename_i hc
  obtain⟨hg,hf⟩:=hc
  subst hg
  split at h
  case h_2=>cases h
  rename_i zs hz
  cases h
  obtain⟨hρ,cs,hown,henc,hnn,hml⟩:=own_arr rr ho hx
  have hsrc:=srcL_sound rr hy hz
  obtain⟨v',w',ds,hrun,hown',hds,hgr,hn1,hn2,hblk,hmax,_⟩:=append_core (ty:=ty) hC he hf hown hv hsrc
  have hext:Ext (fun b=>fpo (ρ id) (.arr e' xs g nn) b) w w':=(Ext.grownBy hgr (run_drawn _ hrun)).mono fun b hb=>by rw [fpo,<- hρ];exact hb
  have hb:∀ b,fpo v' (.arr e' (xs ++ zs) (g+1) (nn || !zs.isEmpty)) b->fpo (ρ id) (.arr e' xs g nn) b\/w.heap.size<=b:=by
   intro b hb
   rw [fpo,<- hρ]
   exact hblk b hb
  have hV:=le_one (C:=C) ho hext hb
  have hlt:id < obs.length:=(geS.1 ho).1
  refine⟨v',w',_,hrun,(Turn.one rr id (.arr e' xs g nn) (.arr e' (xs ++ zs) (g+1) (nn || !zs.isEmpty)) v' ho hext ?_ hb ?_).step rr,?_⟩
  ·refine⟨cs ++ ds,hown',enc_append (henc.mono hV) (hds.mono hV),fun hnz=>?_,hmax⟩
   rcases Bool.or_eq_true _ _▸hnz with k | k
   ·exact hn2 (hnn k)
   ·exact hn1 (by simpa using k)
  ·intro c' hc'
   simp [O.gen]at hc'
   exact⟨g,by simp [O.gen],.inr om⟩
  ·refine⟨by simpa using hlt,fun c hc=>?_⟩
   have:c=g+1:=by simpa [genOf,hlt,O.gen] using hc.symm
   subst this
   simp
 ·rename_i _ e he
  split at h
  case h_2=>cases h
  rename_i zs hz
  cases h
  simp only [AVRel]at hx
  subst hx
  have hsrc:=srcL_sound rr hy hz
  have hown:w.ownsRow 0 (C.tid e) e.size (.slice none 0 0) ([]:List e.D).length []:=World.ownsRow_nil _ _ _ _
  obtain⟨v',w',ds,hrun,hown',hds,hgr,hn1,hn2,hblk,hmax,_⟩:=append_core (ty:=ty) (xs:=[]) hC he rfl hown (by simpa using hv) hsrc
  have hext:Ext (fun _=>False) w w':=(Ext.grownBy hgr (run_drawn _ hrun)).mono fun b hb=>by simp [Value.ownBlock]at hb
  have hb:∀ b,fpo v' (.arr e zs 0 (!zs.isEmpty)) b->w.heap.size<=b:=by
   intro b hb
   rcases hblk b hb with k | k
   ·simp [Value.ownBlock]at k
   ·exact k
  have hV:=le_new (C:=C) (obs:=obs) (ρ:=ρ) hext hb
  refine⟨v',w',_,hrun,(Turn.new rr hext _ v' ?_ hb).step rr,?_⟩
  ·exact⟨ds,by simpa using hown',hds.mono hV,fun hnz=>hn1 (by simpa using hnz),by simpa using hmax⟩
  ·refine⟨by simp,fun c hc=>?_⟩
   have:c=0:=by simpa [genOf,O.gen] using hc.symm
   subst this
   simp
 ·cases h
def zapV (e?:Option E) (b?:Option BT) (x y:AV) (obs:List O):Res:=
 match e?,b?,x,y with
 | some .int,some (.int .i64),.own id g,.int .i64 m=>match obs[id]? with
  | some (.arr .int xs g' _)=>if g=g' then .ok (0 < m/\m<=1000000/\0 < xs.length/\xs.length<=1000000) (.own id (g+1)) (obs.set id (.arr .int (xs ++ List.replicate m.toNat 0) (g+1) true))else .bad
  | _=>.bad
 | _,_,_,_=>.bad
theorem zeroCells_int (n:Nat):Builtin.zeroCells (Value.int .i64 0).cells n=(List.replicate n (Value.int .i64 0)).toArray:=by
 apply Array.ext'
 simp only [Builtin.zeroCells,Value.cells]
 apply List.ext_getElem?
 intro j
 by_cases hj:j < n
 ·simp [hj,Nat.mod_one]
 ·simp [hj]
theorem run_append_zeros {P:Program} {w:World} {t tn ty e:TypeId} {i:TypeInfo} (ht:P.underlying t=some (.slice e)) (htn:P.underlying tn=some (.int .i64)) (hi:P.info? e=some i) (hz:i.zero=some (.int .i64 0)) (hs:i.size=1) (hb:i.bytes=8)
  {v:Value} {n:Nat} {xs:List Value} (hown:w.ownsRow 0 e 1 v n xs) (h0:0 < n) (hn:n<=1000000) {m:Nat} (hm0:0 < m) (hm:m<=1000000) :
  ∃ v' w',(Builtin.append_ #[t,tn] ty #[v,.int .i64 m]).run P w=.ok v' w'/\w'.ownsRow 0 e 1 v' (n+m) (xs ++ List.replicate m (.int .i64 0))/\w.grownBy w' v.ownBlock/\v'≠.slice none 0 0/\(∀ b,v'.ownBlock=some b->v.ownBlock=some b\/w.heap.size<=b):=by
 have hmn:m≠0:=by omega
 have hw:IntKind.i64.wrap (m:Int)=m:=by rw [IntKind.wrap_i64];omega
 have hneg:¬((m:Int) < 0):=by omega
 have h48i:¬(281474976710656 < (m:Int)*8):=by omega
 have hxl:xs.length=n:=by simpa using hown.1
 have hlen:(xs ++ List.replicate m (Value.int .i64 0)).length=(n+m)*1:=by simp [hxl]
 rcases hown.2 with⟨rfl,hz0⟩ | ⟨g,cap,cur,rfl,hbg,hg,hnc,hcm,hcs,htake⟩
 ·omega
 by_cases hroom:n+m<=cap
 ·have hfit:n+(List.replicate m (Value.int .i64 0)).length<=cur.size:=by simp at hcs;simp;omega
  have hst:=run_storeCells_at P g n e (List.replicate m (Value.int .i64 0)) 0 cur w hg (by simpa using hfit) (fun u hu=>by rw [(List.mem_replicate.1 hu).2];rfl)
  simp only [Nat.add_zero]at hst
  have hr:(Builtin.append_ #[t,tn] ty #[.slice (some ⟨g,0,none⟩) n cap,.int .i64 m]).run P w=.ok (.slice (some ⟨g,0,none⟩) (n+m) cap) (w.setRow g (cur.toList.take n ++ List.replicate m (Value.int .i64 0) ++ cur.toList.drop (n+(List.replicate m (Value.int .i64 0)).length)).toArray):=by
   simp [Builtin.append_,run_underlying ht,run_underlying htn,sizeOf,typeInfo,zeroValue,hi,hz,hs,hb,asInt,asIntOf,hw,hmn,hneg,h48i,hroom,Addr.add_lit,zeroCells_int]
   simp only [List.append_assoc,List.length_replicate]at hst
   rw [hst]
   rfl
  refine⟨_,_,hr,⟨hlen,.inr ⟨g,cap,_,rfl,hbg,setRow_heap w g cur _ e _ hg,hroom,hcm,?_,?_⟩⟩,⟨rfl,rfl,rfl,by simp,fun k _ hk=>setRow_other w g k _ (fun e=>hk (by simp [Value.ownBlock,e]))⟩,by simp,fun b hb=>.inl hb⟩
  ·simp only [List.size_toArray,lenA,List.length_take,List.length_drop,Array.length_toList]
   simp at hcs
   simp
   omega
  ·have htk:cur.toList.take n=xs:=by simpa using htake
   rw [htk,<- hlen]
   exact List.take_left
 ·have holds:∀ j u,xs[j]? = some u->w.cell? ((⟨g,0,none⟩:Addr).add j)=some u:=hown.cells (g:=g) rfl
  have h63':¬(9223372036854775807 < ((n:Int)+(m:Int))):=by omega
  have h48':¬(281474976710656 < Builtin.nextslicecap (n+m) cap*8):=by
   have:=growslice_fits (need:=n+m) (old:=cap) (bytes:=8) om om
   omega
  have hfo:=run_firstCells_some (P:=P) w.drew 1 n ⟨g,0,none⟩ n cap xs (by simpa using hxl) (by simpa using holds)
  have hge:=grownCap_ge w (n+m) cap e
  have hcm2:grownCap w (n+m) cap e<=maxLen:=grownCap_le_maxLen w (n+m) cap e (by unfold maxLen;omega)
  have hr:(Builtin.append_ #[t,tn] ty #[.slice (some ⟨g,0,none⟩) n cap,.int .i64 m]).run P w=.ok (.slice (some ⟨w.heap.size,0,none⟩) (n+m) (grownCap w (n+m) cap e))
    (w.drew.alloc (.cells (xs.toArray ++ (List.replicate m (Value.int .i64 0)).toArray ++ Builtin.zeroCells (Value.int .i64 0).cells (grownCap w (n+m) cap e - (n+m))) e)):=by
   simp [Builtin.append_,run_underlying ht,run_underlying htn,sizeOf,typeInfo,zeroValue,hi,hz,hs,hb,asInt,asIntOf,hw,hmn,hneg,h48i,hroom,h63',h48',Question.forced,hfo,newRow,grownCap,zeroCells_int]
  refine⟨_,_,hr,⟨hlen,.inr ⟨w.heap.size,_,_,rfl,nz0 _,heap_alloc_new w.drew _,hge,hcm2,?_,?_⟩⟩,⟨rfl,rfl,rfl,by simp,fun k hk _=>heap_alloc_old w.drew _ k hk⟩,by simp,fun b hb=>?_⟩
  ·simp only [Array.size_append,List.size_toArray,size_zeroCells,hxl,List.length_replicate]
   simp [Value.cells]
   omega
  ·simp only [Array.toList_append,List.append_assoc]
   rw [<- List.append_assoc,<- hlen]
   exact List.take_left
  ·simp [Value.ownBlock]at hb
   exact .inr om
theorem zapV_sound (hC:C.Ok) {t tn ty:TypeId} {x y:AV} {vc:Prop} {r:AV} {o:List O} (rr:WRel C obs w ρ) {u v:Value}
  (hx:AVRel (C.V w obs ρ) obs ρ x u) (hy:AVRel (C.V w obs ρ) obs ρ y v) (h:zapV (C.Γ t) (C.bt tn) x y obs=.ok vc r o) (hv:vc) :
  ∃ z w' ρ',(Builtin.append_ #[t,tn] ty #[u,v]).run C.P w=.ok z w'/\Step C w w' obs o ρ ρ'/\AVRel (C.V w' o ρ') o ρ' r z:=by
 unfold zapV at h
 split at h
 case h_2=>cases h
 rename_i id g m he hbt
 split at h
 case h_2=>cases h
 rename_i xs g' nn ho
 split at h
 case isFalse=>cases h
 rename_i hg
 subst hg
 cases h
 obtain⟨m0,m1,x0,x1⟩:=hv
 have hy':v=.int .i64 m:=hy
 subst hy'
 obtain⟨k,rfl⟩:∃ k:Nat,m=k:=⟨m.toNat,by omega⟩
 obtain⟨ht,i0,hi0,hz0,hs0,hb0⟩:=hC.sl t .int he
 obtain⟨hρ,cs,hown,henc,hnn,hml⟩:=own_arr rr ho hx
 obtain⟨v',w',hrun,hown',hgr,hn1,hblk⟩:=run_append_zeros (ty:=ty) ht (hC.bt tn _ hbt).1 hi0 hz0 hs0 hb0 hown x0 x1 (m:=k) om om
 have hext:Ext (fun b=>fpo (ρ id) (.arr .int xs g nn) b) w w':=(Ext.grownBy hgr (run_drawn _ hrun)).mono fun b hb=>by rw [fpo,<- hρ];exact hb
 have hb:∀ b,fpo v' (.arr .int (xs ++ List.replicate (k:Int).toNat 0) (g+1) true) b->fpo (ρ id) (.arr .int xs g nn) b\/w.heap.size<=b:=by
  intro b hb
  rw [fpo,<- hρ]
  exact hblk b hb
 have hV:=le_one (C:=C) ho hext hb
 have hlt:id < obs.length:=(geS.1 ho).1
 refine⟨v',w',_,hrun,(Turn.one rr id (.arr .int xs g nn) (.arr .int (xs ++ List.replicate (k:Int).toNat 0) (g+1) true) v' ho hext ?_ hb ?_).step rr,?_⟩
 ·refine⟨cs ++ List.replicate k (.int .i64 0),by rw [lenA,List.length_replicate];exact hown',enc_append (henc.mono hV) ?_,fun _=>hn1,by simp;rw [maxLen_num];omega⟩
  rw [show((k:Int).toNat)=k by omega]
  refine⟨by simp [E.size],fun i hi=>⟨.int .i64 0,by simp at hi;simp [ElRel],fun j hj=>?_⟩⟩
  have:j=0:=by simp [E.size]at hj;omega
  subst this
  simp at hi
  simp [E.size,Value.cells,hi]
 ·intro c' hc'
  simp [O.gen]at hc'
  exact⟨g,by simp [O.gen],.inr om⟩
 ·refine⟨by simpa using hlt,fun c hc=>?_⟩
  have:c=g+1:=by simpa [genOf,hlt,O.gen] using hc.symm
  subst this
  simp
end sound
end Go.Aw
namespace Go.Aw
open Go
section sound
variable {C:Ctx} {obs:List O} {w:World} {ρ:Nat->Value}
theorem run_build {t:TypeId} {e:E} (hC:C.Ok) (he:C.Γ t=some e) {vs:List Value} (hv:∀ v∈vs,v.cells.size=e.size) (hl:vs.length<=1000) (parts:Array (Nat×Value)) (hp:parts.toList=(vs.zipIdx 0).map fun x=>(x.2,x.1)) :
  ∃ cs:Array Value,(Instr.buildSlice t vs.length parts).run C.P w=.ok (.slice (some ⟨w.heap.size,0,none⟩) vs.length vs.length) (w.alloc (.cells cs (C.tid e)))/\cs.size=vs.length*e.size /\
   ∀ i (h:i < vs.length),∀ j,j < e.size->cs[i*e.size+j]? = vs[i].cells[j]?:=by
 obtain⟨ht,i,hi,hz,hs,_⟩:=hC.sl t e he
 have h4:e.size<=4:=by cases e<;>simp [E.size]
 by_cases h0:vs.length=0
 ·have hn:vs=[]:=nilZ h0
  subst hn
  have hpp:parts=#[]:=by apply Array.ext';simpa using hp
  subst hpp
  exact⟨#[],by simp [Instr.buildSlice,run_underlying ht,sizeOf,typeInfo,hi,newRow,Instr.fill,Array.range_zero'],by simp,fun i h=>by simp at h⟩
 ·have hm:vs.length*e.size<=4000:=Nat.le_trans (Nat.mul_le_mul hl h4) (by decide)
  have hpos:0 < vs.length*e.size:=Nat.mul_pos om e.size_pos
  obtain⟨r,h1,h2,h3⟩:=Great.fill_dense e.size_pos vs 0 ((Array.range (vs.length*e.size)).map (e.zero.cells[· % e.zero.cells.size]!)) hv (by simp)
  refine⟨r,run_buildSlice w t (C.tid e) vs.length parts r i e.zero ht hi hz (by rw [hs];omega) (by rw [hs];omega) (by rw [hs,hp];exact h1),by rw [h2];simp,fun k hk j hj=>?_⟩
  have hlt:k*e.size+j < vs.length*e.size:=by
   have:=Nat.mul_le_mul_right e.size (show k+1<=vs.length by omega)
   rw [Nat.add_mul]at this
   omega
  rw [h3,if_pos ⟨by simp,by simpa using hlt⟩]
  have e1:(k*e.size+j) / e.size=k:=Nat.div_eq_of_lt_le om (by rw [Nat.add_mul];omega)
  have e2:(k*e.size+j) % e.size=j:=by rw [Nat.mul_comm,Nat.mul_add_mod,Nat.mod_eq_of_lt hj]
  rw [e1,e2]
  simp [hk]
theorem allE_rel {V:Vw} {e:E}:∀ {l:List AV} {ds:List e.D} {vs:List Value},allE e l=some ds->vs.length=l.length->(∀ s,AV.str s∈l->s.length<=maxLen) ->
  (∀(i:Nat) (x:AV) (v:Value),l[i]? = some x->vs[i]? = some v->AVRel V obs ρ x v)->ds.length=vs.length/\∀(i:Nat) (d:e.D) (v:Value),ds[i]? = some d->vs[i]? = some v->ElRel V e d v
 | [],ds,vs,h,hl,_,_=>by
  simp [allE]at h
  subst h
  simp at hl
  subst hl
  simp
 | x :: l,ds,vs,h,hl,hs,hr=>by
  simp only [allE]at h
  split at h
  ·rename_i d ds' hd hds
   cases h
   cases vs with
   | nil=>simp at hl
   | cons v vs=>
    have h0:=toE_rel hd (fun s k=>hs s (by rw [<- k];simp)) (hr 0 x v rfl rfl)
    obtain⟨i1,i2⟩:=allE_rel hds (by simpa using hl) (fun s k=>hs s (mcM _ k)) (fun i x v hx hv=>hr (i+1) x v (by simpa using hx) (by simpa using hv))
    refine⟨by simp [i1],fun i d' v' hd' hv'=>?_⟩
    cases i with
    | zero=>simp at hd' hv';subst hd' hv';exact h0
    | succ i=>exact i2 i d' v' (by simpa using hd') (by simpa using hv')
  ·cases h
theorem buildNew {t:TypeId} {e e2:E} (hC:C.Ok) (he:C.Γ t=some e) (h2:e2.fam=e.fam) (rr:WRel C obs w ρ) {vs:List Value} {ds:List e2.D} (hl:vs.length<=1000) (hds:ds.length=vs.length)
  (hr:∀ V',(C.V w obs ρ).le V'->∀(i:Nat) (d:e2.D) (v:Value),ds[i]? = some d->vs[i]? = some v->ElRel V' e2 d v)
  (parts:Array (Nat×Value)) (hp:parts.toList=(vs.zipIdx 0).map fun x=>(x.2,x.1)) :
  ∃ z w' ρ',(Instr.buildSlice t vs.length parts).run C.P w=.ok z w'/\Step C w w' obs (obs ++ [.arr e2 ds 0 true]) ρ ρ'/\AVRel (C.V w' (obs ++ [.arr e2 ds 0 true]) ρ') (obs ++ [.arr e2 ds 0 true]) ρ' (.own obs.length 0) z:=by
 have htid:C.tid e2=C.tid e:=by
  cases e2<;>cases e<;>simp [E.fam]at h2<;>first | rfl | (rename_i f;exact hC.same f) | (rename_i f;exact(hC.same f).symm) | (rename_i f g;exact(hC.same f).trans (hC.same g).symm)
 have hs2:e2.size=e.size:=by cases e2<;>cases e<;>simp [E.fam]at h2<;>rfl
 have hv:∀ v∈vs,v.cells.size=e.size:=by
  intro v hv
  obtain⟨i,hi⟩:=List.getElem?_of_mem hv
  have hlt:i < vs.length:=(geS.1 hi).1
  rw [<- hs2]
  exact(hr _ (Vw.le.refl _) i (ds[i]'om) v (by simp) hi).cells.1
 obtain⟨cs,hrun,hcl,hcs⟩:=run_build (w:=w) hC he hv hl parts hp
 have hext:Ext (fun _=>False) w (w.alloc (.cells cs (C.tid e))):=Ext.alloc _ _ _
 have hb:∀ b,fpo (.slice (some ⟨w.heap.size,0,none⟩) vs.length vs.length) (.arr e2 ds 0 true) b->w.heap.size<=b:=by
  intro b hb
  simp [fpo,Value.ownBlock]at hb
  omega
 have hV:=le_new (C:=C) (obs:=obs) (ρ:=ρ) hext hb
 refine⟨_,_,_,hrun,(Turn.new rr hext _ _ ?_ hb).step rr,?_⟩
 ·refine⟨cs.toList,⟨by rw [hs2,hds];simpa using hcl,.inr ⟨w.heap.size,vs.length,cs,by rw [hds],nz0 _,?_,by omega,by rw [maxLen_num];omega,by rw [hs2];exact hcl,?_⟩⟩,⟨by rw [hs2,hds];simpa using hcl,fun i hi=>⟨vs[i]'om,hr _ hV i _ _ (by simp) (by simp),fun j hj=>?_⟩⟩,by simp,by rw [hds,maxLen_num];omega⟩
  ·rw [htid];exact heap_alloc_new w _
  ·rw [hds,hs2];exact List.take_of_length_le (by rw [Array.length_toList,hcl];exact Nat.le_refl _)
  ·rw [hs2]at hj ⊢
   rw [Array.getElem?_toList]
   exact hcs i om j hj
 ·refine⟨by simp,fun c hc=>?_⟩
  have:c=0:=by simpa [genOf,O.gen] using hc.symm
  subst this
  simp
theorem letgo_rel (rr:WRel C obs w ρ) {id g:Nat} {xs:List Int} {nn:Bool} (ho:obs[id]? = some (.arr .int xs g nn)) :
  Step C w w obs (obs.set id .dead) ρ (fun i=>if i=id then ρ id else ρ i)/\RowRel (C.V w (obs.set id .dead) (fun i=>if i=id then ρ id else ρ i)) true xs (ρ id) /\
   (nn=true->∃ l,(ρ id).ownBlock=some l/\LRowRel (C.V w (obs.set id .dead) (fun i=>if i=id then ρ id else ρ i)) l xs (ρ id)):=by
 have T:=Turn.letgo rr ho
 have hst:=T.step rr
 obtain⟨cs,hown,henc,hnn,hml⟩:=rr.os id _ ho
 have hcs:cs=xs.map (Value.int .i64):=by
  apply List.ext_getElem?
  intro i
  have hl:=henc.1
  simp only [E.size,Nat.mul_one]at hl
  by_cases hi:i < xs.length
  ·obtain⟨u,hu,hc⟩:=henc.2 i hi
   have h0:=hc 0 (by simp [E.size])
   cases hu
   simp [E.size,Value.cells]at h0
   rw [h0]
   simp [hi]
  ·rw [geN om,geN (by simp;omega)]
 subst hcs
 rcases hown.2 with⟨hv,hz⟩ | ⟨b,cap,cur,hv,_,hg,h1,h2,h3,h4⟩
 ·have hx:xs=[]:=nilZ hz
  subst hx
  exact⟨hst,⟨none,0,by rw [hv];rfl,by simp,by simp,fun i hi=>by simp at hi⟩,fun k=>absurd hv (hnn k)⟩
 ·have hfp:fpo (ρ id) (.arr .int xs g nn) b:=by simp [fpo,hv,Value.ownBlock]
  have hnot:¬Own (obs.set id .dead) (fun i=>if i=id then ρ id else ρ i) b:=by
   rintro⟨j,oj,hj,hf⟩
   by_cases hji:id=j
   ·subst hji
    rw [List.getElem?_set_self (geS.1 ho).1]at hj
    cases hj
    simp [fpo]at hf
   ·rw [List.getElem?_set_ne hji]at hj
    simp only [if_neg (Ne.symm hji)]at hf
    exact hji (rr.dis id j _ oj b ho hj hfp hf)
  have hH:(C.V w (obs.set id .dead) (fun i=>if i=id then ρ id else ρ i)).H b=some (.cells cur (C.tid .int) (0,0)):=by
   simp only [Ctx.V,mask,if_neg hnot]
   exact hg
  have hL:LRowRel (C.V w (obs.set id .dead) (fun i=>if i=id then ρ id else ρ i)) b xs (ρ id):=by
   refine⟨cap,cur,hv,.inl (rr.own b ⟨id,_,ho,hfp⟩),hH,h1,h2,by simpa [E.size] using h3,by simpa [E.size] using h4⟩
  exact⟨hst,LRowRel.toRow hL,fun _=>⟨b,by rw [hv];rfl,hL⟩⟩
theorem rowsOf_sound:∀ {l:List AV} {obs obs':List O} {ρ:Nat->Value} {rs:List (List Int)} {vs:List Value},WRel C obs w ρ->rowsOf l obs=some (rs,obs')->vs.length=l.length ->
  (∀(i:Nat) (x:AV) (v:Value),l[i]? = some x->vs[i]? = some v->AVRel (C.V w obs ρ) obs ρ x v) ->
  ∃ ρ',Step C w w obs obs' ρ ρ'/\obs'.length=obs.length/\rs.length=vs.length/\∀(i:Nat) (d:List Int) (v:Value),rs[i]? = some d->vs[i]? = some v->RowRel (C.V w obs' ρ') false d v
 | [],obs,obs',ρ,rs,vs,rr,h,hl,_=>by
  simp [rowsOf]at h
  obtain⟨rfl,rfl⟩:=h
  simp at hl
  subst hl
  exact⟨ρ,Step.refl rr,rfl,rfl,by simp⟩
 | x :: l,obs,obs',ρ,rs,vs,rr,h,hl,hr=>by
  cases vs with
  | nil=>simp at hl
  | cons v vs=>
  have h0:=hr 0 x v rfl rfl
  have fin:∀(obs1:List O) (ρ1:Nat->Value) (xs:List Int),Step C w w obs obs1 ρ ρ1->obs1.length=obs.length->RowRel (C.V w obs1 ρ1) false xs v->(rowsOf l obs1).map (fun p=>(xs :: p.1,p.2))=some (rs,obs') ->
    ∃ ρ',Step C w w obs obs' ρ ρ'/\obs'.length=obs.length/\rs.length=(v :: vs).length/\∀(i:Nat) (d:List Int) (u:Value),rs[i]? = some d->(v :: vs)[i]? = some u->RowRel (C.V w obs' ρ') false d u:=by
   intro obs1 ρ1 xs hst hlen hrow hm
   cases hro:rowsOf l obs1 with
   | none=>rw [hro]at hm;simp at hm
   | some p=>
    rw [hro]at hm
    obtain⟨rs1,obs2⟩:=p
    simp at hm
    obtain⟨rfl,rfl⟩:=hm
    obtain⟨ρ',k1,k2,k3,k4⟩:=rowsOf_sound hst.wr hro (by simpa using hl) (fun i x v hx hv=>hst.av (hr (i+1) x v (by simpa using hx) (by simpa using hv)))
    refine⟨ρ',hst.trans k1,by omega,by simp [k3],fun i d u hd hu=>?_⟩
    cases i with
    | zero=>simp at hd hu;subst hd hu;exact hrow.mono k1.le
    | succ i=>exact k4 i d u (by simpa using hd) (by simpa using hu)
  unfold rowsOf at h
  split at h
  ·cases ‹_=[]›
  ·rename_i f xs r heq
   cases heq
   exact fin _ _ xs (Step.refl rr) rfl ((SlRel.toRow h0).weaken) h
  ·rename_i b xs r heq
   cases heq
   exact fin _ _ xs (Step.refl rr) rfl ((LRowRel.toRow h0).weaken) h
  ·rename_i id g r heq
   cases heq
   split at h
   ·rename_i xs g' nn ho
    split at h
    ·rename_i hg
     subst hg
     obtain⟨hv,_⟩:=own_arr rr ho h0
     subst hv
     obtain⟨k1,k2,_⟩:=letgo_rel rr ho
     exact fin _ _ xs k1 (by simp) k2.weaken h
    ·cases h
   ·cases h
  ·cases h
def NewOk (C:Ctx) (obs:List O) (w:World) (ρ:Nat->Value) (r:AV) (o:List O) (z:Value) (w':World):Prop:=
 ∃ ρ',Step C w w' obs o ρ ρ'/\AVRel (C.V w' o ρ') o ρ' r z
theorem parts_get {parts:List (Nat×AV)} {vs:List Value}
  (h:∀(i:Nat) (x:Nat×AV) (v:Value),parts[i]? = some x->vs[i]? = some v->AVRel (C.V w obs ρ) obs ρ x.2 v) :
  ∀(i:Nat) (x:AV) (v:Value),(parts.map (·.2))[i]? = some x->vs[i]? = some v->AVRel (C.V w obs ρ) obs ρ x v:=by
 intro i x v hx hv
 rw [List.getElem?_map,Option.map_eq_some_iff]at hx
 obtain⟨p,hp,rfl⟩:=hx
 exact h i p v hp hv
theorem buildV_sound (hC:C.Ok) {t:TypeId} {n:Nat} {parts:List (Nat×AV)} (rr:WRel C obs w ρ) {pv:Array (Nat×Value)} (hpl:pv.toList.length=parts.length)
  (hpv:∀(i:Nat) (x:Nat×AV) (v:Nat×Value),parts[i]? = some x->pv.toList[i]? = some v->v.1=x.1/\AVRel (C.V w obs ρ) obs ρ x.2 v.2) :
  (∀(vc:Prop) (r:AV) (o:List O),buildV (C.Γ t) n parts obs=.ok vc r o->vc->∃ z w',(Instr.buildSlice t n pv).run C.P w=.ok z w'/\NewOk C obs w ρ r o z w') /\
  (∀(p:Nat->Prop) (r:AV) (o:Nat->List O),buildV (C.Γ t) n parts obs=.all p r o->∃ z w' l,p l/\(Instr.buildSlice t n pv).run C.P w=.ok z w'/\NewOk C obs w ρ r (o l) z w'):=by
 have hvs:∃ vs:List Value,vs=pv.toList.map (·.2):=⟨_,rfl⟩
 obtain⟨vs,hvs⟩:=hvs
 have hvl:vs.length=parts.length:=by rw [hvs];simpa using hpl
 have hrel:∀(i:Nat) (x:Nat×AV) (v:Value),parts[i]? = some x->vs[i]? = some v->AVRel (C.V w obs ρ) obs ρ x.2 v:=by
  intro i x v hx hv
  rw [hvs,List.getElem?_map,Option.map_eq_some_iff]at hv
  obtain⟨p,hp,rfl⟩:=hv
  exact(hpv i x p hx hp).2
 have hparts:parts.map (·.1)=List.range n->n=vs.length/\pv.toList=(vs.zipIdx 0).map fun x=>(x.2,x.1):=by
  intro h
  have hn:n=vs.length:=by have:=congrArg List.length h;simp at this;omega
  refine⟨hn,?_⟩
  apply List.ext_getElem?
  intro i
  by_cases hi:i < vs.length
  ·have hp:i < parts.length:=by omega
   have hq:i < pv.toList.length:=by omega
   have hh:=hpv i parts[i] pv.toList[i] (by simp [hp]) (by simp)
   have h1:parts[i].1=i:=by
    have:=congrArg (fun l=>l[i]?) h
    simp [hp,show i < n by omega]at this
    exact this
   have h2:vs[i]=pv.toList[i].2:=by simp [hvs]
   simp only [List.getElem?_map,List.getElem?_zipIdx]
   simp only [geE (show i < pv.toList.length by omega),geE hi,Option.map_some,Nat.zero_add]
   congr 1
   exact Prod.ext (by rw [hh.1,h1]) h2.symm
  ·rw [geN om,geN (by simp;omega)]
 have hav:=parts_get hrel
 unfold buildV
 split
 case h_2=>exact⟨fun _ _ _ h=>(by cases h),fun _ _ _ h=>(by cases h)⟩
 rename_i _ e he
 split
 case isFalse=>exact⟨fun _ _ _ h=>(by cases h),fun _ _ _ h=>(by cases h)⟩
 rename_i hc
 obtain⟨hr,hn⟩:=hc
 obtain⟨rfl,hpp⟩:=hparts hr
 split
 ·rename_i hel
  subst hel
  split
  ·
   refine⟨fun _ _ _ h _=>?_,fun _ _ _ h=>by cases h⟩
   cases h
   have hv0:vs=[]:=nilZ (by simpa using hvl)
   obtain⟨z,w',ρ',k1,k2,k3⟩:=buildNew (e2:=.lrow) (ds:=[]) hC he rfl rr hn (by rw [hv0];rfl) (fun _ _ i d v hd=>by simp at hd) pv hpp
   exact⟨z,w',k1,ρ',k2,k3⟩
  ·rename_i a l xs
   refine⟨fun _ _ _ h _=>?_,fun _ _ _ h=>by cases h⟩
   cases h
   obtain⟨v0,hv0⟩:∃ v0,vs=[v0]:=by
    match vs,hvl with
    | [v0],_=>exact⟨v0,rfl⟩
   have hh:=hav 0 _ v0 rfl (by rw [hv0];rfl)
   obtain⟨z,w',ρ',k1,k2,k3⟩:=buildNew (e2:=.lrow) (ds:=[(l,xs)]) hC he rfl rr hn (by rw [hv0];rfl) (fun V' hV i d v hd hv=>by
    rw [hv0]at hv
    cases i with
    | zero=>simp at hd hv;subst hd hv;exact LRowRel.mono hV hh
    | succ i=>simp at hd) pv hpp
   exact⟨z,w',k1,ρ',k2,k3⟩
  ·rename_i a xs
   refine⟨fun _ _ _ h _=>?_,fun _ _ _ h=>by cases h⟩
   cases h
   obtain⟨v0,hv0⟩:∃ v0,vs=[v0]:=by
    match vs,hvl with
    | [v0],_=>exact⟨v0,rfl⟩
   have hh:=hav 0 _ v0 rfl (by rw [hv0];rfl)
   obtain⟨z,w',ρ',k1,k2,k3⟩:=buildNew (e2:=.row true) (ds:=[xs]) hC he rfl rr hn (by rw [hv0];rfl) (fun V' hV i d v hd hv=>by
    rw [hv0]at hv
    cases i with
    | zero=>simp at hd hv;subst hd hv;exact RowRel.mono hV (SlRel.toRow hh)
    | succ i=>simp at hd) pv hpp
   exact⟨z,w',k1,ρ',k2,k3⟩
  ·rename_i a id g
   refine⟨fun vc r o h _=>?_,fun p r o h=>?_⟩
   ·split at h
    ·split at h<;>cases h
    ·cases h
   ·split at h
    case h_2=>cases h
    rename_i xs g' ho
    split at h
    case isFalse=>cases h
    rename_i hg
    subst hg
    cases h
    obtain⟨v0,hv0⟩:∃ v0,vs=[v0]:=by
     match vs,hvl with
     | [v0],_=>exact⟨v0,rfl⟩
    have hh:=hav 0 _ v0 rfl (by rw [hv0];rfl)
    obtain⟨hv,_⟩:=own_arr rr ho hh
    obtain⟨m1,_,m3⟩:=letgo_rel rr ho
    obtain⟨l,hl,hL⟩:=m3 rfl
    have hfresh:FreshL obs l:=by
     intro o ho' ys gg nn heq p hp hpl
     obtain⟨j,hj⟩:=List.getElem?_of_mem ho'
     obtain⟨cs,henc⟩:=lab_enc (rr.os j _ hj) heq
     obtain⟨i,hi⟩:=List.getElem?_of_mem hp
     have hlt:i < ys.length:=(geS.1 hi).1
     obtain⟨u,hu,_⟩:=henc.2 i hlt
     have hpi:ys[i]=p:=(geS.1 hi).2
     rw [hpi]at hu
     obtain⟨cap,cur,_,_,hH,_⟩:=hu
     rw [hpl]at hH
     have hown:Own obs ρ l:=⟨id,_,ho,by simpa [fpo] using hl⟩
     simp [Ctx.V,mask,hown]at hH
    obtain⟨z,w',ρ',k1,k2,k3⟩:=buildNew (obs:=obs.set id .dead) (ρ:=fun i=>if i=id then ρ id else ρ i) (e2:=.lrow) (ds:=[(l,xs)]) hC he rfl m1.wr hn (by rw [hv0];rfl) (fun V' hV i d v hd hv'=>by
     rw [hv0]at hv'
     cases i with
     | zero=>simp at hd hv';subst hd hv';rw [hv];exact LRowRel.mono hV hL
     | succ i=>simp at hd) pv hpp
    rw [List.length_set]at k3
    exact⟨z,w',l,hfresh,k1,ρ',m1.trans k2,k3⟩
  ·refine⟨fun vc r o h _=>?_,fun p r o h=>?_⟩
   ·split at h
    case h_2=>cases h
    rename_i l obs' hro
    cases h
    obtain⟨ρ1,m1,m2,m3,m4⟩:=rowsOf_sound rr hro (by simpa using hvl) hav
    obtain⟨z,w',ρ',k1,k2,k3⟩:=buildNew (obs:=obs') (ρ:=ρ1) (e2:=.row false) (ds:=l) hC he rfl m1.wr hn m3 (fun V' hV i d v hd hv=>RowRel.mono hV (m4 i d v hd hv)) pv hpp
    rw [m2]at k3
    exact⟨z,w',k1,ρ',m1.trans k2,k3⟩
   ·split at h<;>cases h
 ·refine⟨fun vc r o h hvc=>?_,fun p r o h=>?_⟩
  ·split at h
   case h_2=>cases h
   rename_i l hal
   cases h
   obtain⟨m1,m2⟩:=allE_rel hal (by simpa using hvl) hvc hav
   obtain⟨z,w',ρ',k1,k2,k3⟩:=buildNew (e2:=e) (ds:=l) hC he rfl rr hn m1 (fun V' hV i d v hd hv=>(m2 i d v hd hv).mono hV) pv hpp
   exact⟨z,w',k1,ρ',k2,k3⟩
  ·split at h<;>cases h
end sound
end Go.Aw
namespace Go.Aw
open Go
def copyV (e?:Option E) (d s:AV) (obs:List O):Res:=
 match e?,d with
 | some .int,.own id g=>match obs[id]? with
  | some (.arr .int xs g' nn)=>if g=g' then
    match srcL .int s obs (some id) with
    | some zs=>.ok True (.int .i64 (min zs.length xs.length:Nat)) (obs.set id (.arr .int (zs.take xs.length ++ xs.drop zs.length) g nn))
    | none=>.bad
   else .bad
  | _=>.bad
 | _,_=>.bad
section sound
variable {C:Ctx} {obs:List O} {w:World} {ρ:Nat->Value}
theorem run_bounds {len cap:Nat} {isS:Bool} {lo hi:Option AV} {l h:Int} {lv hv:Option Value} (hlv:lv.isSome=lo.isSome) (hhv:hv.isSome=hi.isSome)
  (hlo:∀ x v,lo=some x->lv=some v->AVRel (C.V w obs ρ) obs ρ x v) (hhi:∀ x v,hi=some x->hv=some v->AVRel (C.V w obs ρ) obs ρ x v)
  (h1:bnd 0 lo=some l) (h2:bnd len hi=some h) (h0:0<=l) (hlh:l<=h) (hc:h<=cap) (w':World) :
  (Instr.sliceBounds isS len cap lv hv none).run C.P w'=.ok (l.toNat,h.toNat,cap) w':=by
 have hh0:0<=h:=by omega
 have el:(match lv with | some v=>Instr.sliceBound v h.toNat .sliceB | none=>pure 0:Sem Nat).run C.P w'=.ok l.toNat w':=by
  cases lo with
  | none=>
   simp [bnd]at h1
   subst h1
   cases lv with
   | none=>rfl
   | some v=>simp at hlv
  | some x=>
   cases lv with
   | none=>simp at hlv
   | some v=>
    have:=hlo x v rfl rfl
    unfold bnd at h1
    split at h1
    ·cases ‹some x=none›
    ·rename_i k n heq
     cases heq
     cases h1
     cases this
     have hle:l<=(h.toNat:Int):=by omega
     exact run_sliceBound _ _ _ _ _ h0 hle
    ·cases h1
 have eh:(match hv with | some v=>Instr.sliceBound v cap (if isS then .sliceAcap else .sliceAlen) | none=>pure len:Sem Nat).run C.P w'=.ok h.toNat w':=by
  cases hi with
  | none=>
   simp [bnd]at h2
   subst h2
   cases hv with
   | none=>simp
   | some v=>simp at hhv
  | some x=>
   cases hv with
   | none=>simp at hhv
   | some v=>
    have:=hhi x v rfl rfl
    unfold bnd at h2
    split at h2
    ·cases ‹some x=none›
    ·rename_i k n heq
     cases heq
     cases h2
     cases this
     exact run_sliceBound _ _ _ _ _ hh0 hc
    ·cases h2
 unfold Instr.sliceBounds
 cases hv with
 | none=>
  simp only [Option.isSome_none]at hhv
  simp only [Sem.run_bind,Sem.run_pure,Result.andThen_ok]at eh ⊢
  cases eh
  cases lv with
  | none=>simp at el ⊢;exact el
  | some v=>simp only [Option.isSome_none]at el ⊢;simp [el]
 | some v=>
  simp only [Sem.run_bind,Sem.run_pure,Result.andThen_ok]at eh ⊢
  rw [eh]
  cases lv with
  | none=>simp at el ⊢;exact el
  | some v=>simp [el]
theorem sliceV_sound (hC:C.Ok) {t:TypeId} {x:AV} {lo hi:Option AV} {vc:Prop} {r:AV} {o:List O} (ht:(∃ s,x=.str s/\C.bt t=some .str)\/∃ e,C.Γ t=some e/\((∃ f e' xs,x=.sl f e' xs/\e'.size=e.size)\/(∃ l xs,x=.lr l xs/\e.size=1)))
  {u:Value} {lv hv:Option Value} (hlv:lv.isSome=lo.isSome) (hhv:hv.isSome=hi.isSome)
  (hx:AVRel (C.V w obs ρ) obs ρ x u) (hlo:∀ x v,lo=some x->lv=some v->AVRel (C.V w obs ρ) obs ρ x v) (hhi:∀ x v,hi=some x->hv=some v->AVRel (C.V w obs ρ) obs ρ x v)
  (h:sliceV x lo hi obs=.ok vc r o) (hvc:vc) :
  o=obs/\∃ z,AVRel (C.V w obs ρ) obs ρ r z/\∀ w',(Instr.sliceAt t u lv hv none).run C.P w'=.ok z w':=by
 have core:∀(f:Bool) (e e':E) (xs:List e'.D) (l h:Int),C.Γ t=some e->e'.size=e.size->SlRel (C.V w obs ρ) f e' xs u->bnd 0 lo=some l->bnd xs.length hi=some h->0<=l->l<=h->h<=xs.length ->
   ∃ z,SlRel (C.V w obs ρ) f e' ((xs.drop l.toNat).take (h.toNat - l.toNat)) z/\∀ w',(Instr.sliceAt t u lv hv none).run C.P w'=.ok z w':=by
  intro f e e' xs l h he hse hs h1 h2 h0 hlh hle
  obtain⟨hu,i,hinf,_,hsz,_⟩:=hC.sl t e he
  have hs':=hs
  obtain⟨base,cap,rfl,hc1,hc2,_⟩:=hs'
  have hb:=run_bounds (C:=C) (isS:=true) (cap:=cap) hlv hhv hlo hhi h1 h2 h0 hlh om
  refine⟨.slice (if cap=l.toNat then base else base.map (·.add (l.toNat*e.size))) (h.toNat - l.toNat) (cap - l.toNat),?_,fun w'=>?_⟩
  ·refine SlRel.piece hs om om om hc2 ?_
   intro hlt
   rw [if_neg om,hse]
  ·simp [Instr.sliceAt,run_underlying hu,Instr.slice,hb w',sizeOf,typeInfo,hinf,hsz]
 unfold sliceV at h
 split at h
 ·rename_i f e' xs
  split at h
  case h_2=>cases h
  rename_i l hh h1 h2
  cases h
  obtain⟨h0,hlh,hle⟩:=hvc
  rcases ht with⟨s,hs,_⟩ | ⟨e,he,⟨f2,e2,xs2,heq,hse⟩ | ⟨l2,xs2,heq,_⟩⟩
  ·cases hs
  ·cases heq
   obtain⟨z,k1,k2⟩:=core f e e' xs l hh he hse hx h1 h2 h0 hlh hle
   exact⟨rfl,z,k1,k2⟩
  ·cases heq
 ·rename_i l0 xs
  split at h
  case h_2=>cases h
  rename_i l hh h1 h2
  cases h
  obtain⟨h0,hlh,hle⟩:=hvc
  rcases ht with⟨s,hs,_⟩ | ⟨e,he,⟨f2,e2,xs2,heq,hse⟩ | ⟨l2,xs2,heq,hse⟩⟩
  ·cases hs
  ·cases heq
  ·cases heq
   obtain⟨z,k1,k2⟩:=core true e .int xs l hh he (by rw [hse];rfl) (LRowRel.toRow hx).toSl h1 h2 h0 hlh hle
   exact⟨rfl,z,k1,k2⟩
 ·rename_i s
  split at h
  case h_2=>cases h
  rename_i l hh h1 h2
  cases h
  obtain⟨h0,hlh,hle⟩:=hvc
  rcases ht with⟨s',hs,hb⟩ | ⟨e,he,⟨f2,e2,xs2,heq,hse⟩ | ⟨l2,xs2,heq,hse⟩⟩
  ·cases hs
   obtain⟨hu,_⟩:=hC.bt t _ hb
   simp only [BT.desc]at hu
   simp only [AVRel]at hx
   subst hx
   have esz:(⟨s.toArray⟩:ByteArray).size=s.length:=by simp [ByteArray.size]
   have hbd:=run_bounds (C:=C) (isS:=false) (cap:=s.length) hlv hhv hlo hhi h1 h2 h0 hlh om
   refine⟨rfl,.string (ByteArray.extract ⟨s.toArray⟩ l.toNat hh.toNat),?_,fun w'=>?_⟩
   ·simp only [AVRel]
    congr 1
    apply bytes_ext
    simp [ByteArray.data_extract]
   ·simp only [Instr.sliceAt,Instr.slice,Sem.run_bind,run_underlying hu,Result.andThen_ok]
    simp only [Option.isSome_none,Bool.false_eq_true,if_false,esz,Sem.run_bind,hbd w',Result.andThen_ok]
    simp
  ·cases heq
  ·cases heq
 ·cases h
where
 bytes_ext {a b:ByteArray} (h:a.data.toList=b.data.toList):a=b:=by
  cases a;cases b;congr 1;exact Array.ext' h
def slice3V (e?:Option E) (x:AV) (lo hi:Option AV) (mx:AV) (obs:List O):Res:=
 match e?,lo,hi,x,mx with
 | some _,none,some (.int _ n),.own id g,.int _ m=>match obs[id]? with
  | some (.ap q ys true g' _)=>if g=g' then .ok (n=ys.length/\m=ys.length) (.hdr (some q) ys.length) obs else .bad
  | _=>.bad
 | _,_,_,_,_=>.bad
theorem run_bound_eq (P:Program) (k:IntKind) (n m:Nat) (r:BoundsCode) (w:World) (h:n<=m):(Instr.sliceBound (.int k n) m r).run P w=.ok n w:=by
 have hn:0<=(n:Int)/\(n:Int)<=(m:Int):=by omega
 simp [Instr.sliceBound,asIntOf,hn]
theorem slice3V_sound (hC:C.Ok) {t:TypeId} {x mx:AV} {lo hi:Option AV} {vc:Prop} {r:AV} {o:List O} (rr:WRel C obs w ρ)
  {u mv:Value} {lv hv:Option Value} (hlv:lv.isSome=lo.isSome) (hhv:hv.isSome=hi.isSome)
  (hx:AVRel (C.V w obs ρ) obs ρ x u) (hm:AVRel (C.V w obs ρ) obs ρ mx mv) (hhi:∀ x v,hi=some x->hv=some v->AVRel (C.V w obs ρ) obs ρ x v)
  (h:slice3V (C.Γ t) x lo hi mx obs=.ok vc r o) (hvc:vc) :
  o=obs/\∃ z,AVRel (C.V w obs ρ) obs ρ r z/\∀ w',(Instr.sliceAt t u lv hv (some mv)).run C.P w'=.ok z w':=by
 unfold slice3V at h
 split at h
 case h_2=>cases h
 rename_i _ e k n id g k' m he
 split at h
 case h_2=>cases h
 rename_i q ys g' nn ho
 split at h
 case isFalse=>cases h
 rename_i hg
 subst hg
 cases h
 obtain⟨rfl,rfl⟩:=hvc
 obtain⟨hu,i,hinf,_,hsz,_⟩:=hC.sl t e he
 obtain⟨_,cs,hown,henc,_,_,_,_,hfr⟩:=own_ap rr ho hx
 obtain⟨hb,hc⟩:=hfr rfl
 rcases hown.2 with⟨hn,_⟩ | ⟨b,cap,cur,hv2,_,_,hcap,_⟩
 ·rw [hn]at hb;simp [Value.ownBlock]at hb
 rw [hv2]at hb
 have hbq:b=hdB q:=by simpa [Value.ownBlock] using hb
 subst hbq
 simp only [AVRel]at hm
 subst hm
 have hvs:hv=some (.int k ys.length):=by
  cases hv with
  | none=>simp at hhv
  | some v=>have:=hhi _ v rfl rfl;simp only [AVRel]at this;rw [this]
 have hls:lv=none:=by
  cases lv with
  | none=>rfl
  | some v=>simp at hlv
 subst hvs hls hv2
 refine⟨rfl,.slice (some ⟨hdB q,0,none⟩) ys.length (hdC q),rfl,fun w'=>?_⟩
 have e1:=run_bound_eq C.P k' ys.length cap .slice3Acap w' hcap
 have e2:=run_bound_eq C.P k ys.length ys.length .slice3B w' (Nat.le_refl _)
 simp [Instr.sliceAt,run_underlying hu,Instr.slice,Instr.sliceBounds,e1,e2,sizeOf,typeInfo,hinf,hsz,hc,Addr.add]
theorem enc_ints {V:Vw} {xs:List Int} {cs:List Value} (h:Enc V .int xs cs):cs=xs.map (Value.int .i64):=by
 apply List.ext_getElem?
 intro i
 have hl:=h.1
 simp only [E.size,Nat.mul_one]at hl
 by_cases hi:i < xs.length
 ·obtain⟨u,hu,hc⟩:=h.2 i hi
  have h0:=hc 0 (by simp [E.size])
  cases hu
  simp [E.size,Value.cells]at h0
  rw [h0]
  simp [hi]
 ·rw [geN om,geN (by simp;omega)]
theorem ints_enc {V:Vw} (xs:List Int):Enc V .int xs (xs.map (Value.int .i64)):=
 ⟨by simp [E.size],fun i hi=>⟨_,rfl,fun j hj=>by
  have:j=0:=by simp [E.size]at hj;omega
  subst this
  simp [E.size,Value.cells,hi]⟩⟩
theorem copyV_sound (hC:C.Ok) {t t2 ty:TypeId} {x y:AV} {vc:Prop} {r:AV} {o:List O} (rr:WRel C obs w ρ) {u v:Value}
  (hx:AVRel (C.V w obs ρ) obs ρ x u) (hy:AVRel (C.V w obs ρ) obs ρ y v) (h:copyV (C.Γ t) x y obs=.ok vc r o) :
  ∃ z w',(Builtin.copy_ #[t,t2] ty #[u,v]).run C.P w=.ok z w'/\Step C w w' obs o ρ ρ/\AVRel (C.V w' o ρ) o ρ r z:=by
 unfold copyV at h
 split at h
 case h_2=>cases h
 rename_i _ id g he
 split at h
 case h_2=>cases h
 rename_i xs g' nn ho
 split at h
 case isFalse=>cases h
 rename_i hg
 subst hg
 split at h
 case h_2=>cases h
 rename_i zs hz
 cases h
 obtain⟨ht,i,hi,_,hsize,_⟩:=hC.sl t .int he
 have hsz:(C.P.info? (C.tid .int)).map (·.size)=some 1:=by rw [hi];simp [hsize,E.size]
 obtain⟨hρ,cs,hown,henc,hnn,hml⟩:=own_arr rr ho hx
 have hcs:=enc_ints henc
 subst hcs
 have same:(zs=[]\/xs=[])->obs.set id (.arr .int (zs.take xs.length ++ xs.drop zs.length) g nn)=obs:=by
  intro h
  have e:zs.take xs.length ++ xs.drop zs.length=xs:=by rcases h with rfl | rfl<;>simp
  rw [e]
  apply List.ext_getElem?
  intro j
  by_cases hj:id=j
  ·subst hj;rw [List.getElem?_set_self (geS.1 ho).1,ho]
  ·rw [List.getElem?_set_ne hj]
 have none_:(zs=[]\/xs=[])->∀ d a dLen dCap sLen sCap,u=.slice d dLen dCap->v=.slice a sLen sCap->Nat.min sLen dLen=0 ->
   ∃ z w',(Builtin.copy_ #[t,t2] ty #[u,v]).run C.P w=.ok z w'/\Step C w w' obs (obs.set id (.arr .int (zs.take xs.length ++ xs.drop zs.length) g nn)) ρ ρ /\
    AVRel (C.V w' (obs.set id (.arr .int (zs.take xs.length ++ xs.drop zs.length) g nn)) ρ) (obs.set id (.arr .int (zs.take xs.length ++ xs.drop zs.length) g nn)) ρ (.int .i64 (min zs.length xs.length:Nat)) z:=by
  intro h0 d a dLen dCap sLen sCap hu hv hn
  rw [same h0,hu,hv]
  refine⟨_,w,run_copy_none (P:=C.P) w t t2 ty (C.tid .int) d a dLen dCap sLen sCap ht hsz hn,Step.refl rr,?_⟩
  have:min zs.length xs.length=0:=by rcases h0 with rfl | rfl<;>simp
  rw [this]
  rfl
 rcases srcL_sound rr hy hz with⟨hz0,b,c,hv⟩ | ⟨a,c,news,hv,hcell,hone,henc2⟩
 ·obtain⟨a,cap,hu⟩:=ownsRow_len hown
  exact none_ (.inl hz0) _ _ _ _ _ _ hu hv (by simp)
 ·have hn:=enc_ints henc2
  subst hn
  rcases hown.2 with⟨hu,hx0⟩ | ⟨b,cap,cur,hu,_,hgc,m1,m2,m3,m4⟩
  ·exact none_ (.inr (nilZ hx0)) _ _ _ _ _ _ hu hv (by simp)
  ·have hfp:fpo (ρ id) (.arr .int xs g nn) b:=by rw [<- hρ];simp [fpo,hu,Value.ownBlock]
   have m4':cur.toList.take xs.length=xs.map (Value.int .i64):=by simpa [E.size] using m4
   have m3':cur.size=cap:=by simpa [E.size] using m3
   have hlen:((zs.map (Value.int .i64)).take xs.length).length=Nat.min zs.length xs.length:=by rw [List.length_take,List.length_map,Nat.min_comm]
   have hmin:Nat.min zs.length xs.length<=cap:=Nat.le_trans (Nat.min_le_right ..) m1
   have hrun:=run_copy_row (P:=C.P) w t t2 ty (C.tid .int) b 0 xs.length cap a zs.length c cur (C.tid .int) ((zs.map (Value.int .i64)).take xs.length) ht hsz hgc hlen
    (fun j q hq=>by
     rw [List.getElem?_take]at hq
     split at hq
     ·exact hcell j q hq
     ·cases hq) (by rw [hlen];omega) (fun q hq=>hone q (List.mem_of_mem_take hq))
   rw [hlen]at hrun
   rw [hu,hv]
   refine⟨_,_,hrun,?_,rfl⟩
   have hρe:(fun i=>if i=id then ρ id else ρ i)=ρ:=by funext i;split<;>simp_all
   have hfpe:∀ b',fpo (ρ id) (.arr .int xs g nn) b'->b'=b:=fun b' hb'=>by rw [<- hρ]at hb';simp [fpo,hu,Value.ownBlock]at hb';exact hb'.symm
   have hext:Ext (fun b'=>fpo (ρ id) (.arr .int xs g nn) b') w (w.setRow b (cur.toList.take 0 ++ (zs.map (Value.int .i64)).take xs.length ++ cur.toList.drop (0+Nat.min zs.length xs.length)).toArray):=
    ⟨rfl,rfl,rfl,by simp,Nat.le_refl _,fun b' _ hS=>setRow_other w b b' _ fun e=>hS (e▸hfp)⟩
   have hb:∀ b',fpo (ρ id) (.arr .int (zs.take xs.length ++ xs.drop zs.length) g nn) b'->fpo (ρ id) (.arr .int xs g nn) b'\/w.heap.size<=b':=fun b' hb'=>.inl hb'
   have T:=Turn.one rr id (.arr .int xs g nn) (.arr .int (zs.take xs.length ++ xs.drop zs.length) g nn) (ρ id) ho hext (w':=w.setRow b (cur.toList.take 0 ++ (zs.map (Value.int .i64)).take xs.length ++ cur.toList.drop (0+Nat.min zs.length xs.length)).toArray)
    (by
     have e1:(zs.take xs.length ++ xs.drop zs.length).length=xs.length:=by simp;omega
     refine⟨(zs.take xs.length ++ xs.drop zs.length).map (Value.int .i64),⟨by simp [E.size],.inr ⟨b,cap,_,by rw [<- hρ,e1];exact hu,nz0 _,setRow_heap w b cur _ _ _ hgc,by rw [e1];exact m1,m2,?_,?_⟩⟩,ints_enc _,by rw [<- hρ];exact hnn,by rw [e1];exact hml⟩
     ·have:=Nat.min_le_left zs.length xs.length
      have hcl:cur.toList.length=cap:=by simpa using m3'
      simp [E.size,-Array.length_toList]
      rw [hcl]
      have e5:min xs.length zs.length=Nat.min zs.length xs.length:=Nat.min_comm _ _
      have e6:zs.length.min xs.length=min zs.length xs.length:=rfl
      omega
     ·have hcl:cur.toList.length=cap:=by simpa using m3'
      rw [e1]
      have e7:cur.toList=xs.map (Value.int .i64) ++ cur.toList.drop xs.length:=by rw [<- m4',List.take_append_drop]
      apply List.ext_getElem?
      intro j
      simp only [E.size,Nat.mul_one,List.take_zero,List.nil_append,Nat.zero_add,List.getElem?_take,List.getElem?_append,List.length_take,List.length_map,List.getElem?_drop,List.map_append,List.map_take,List.map_drop]
      have e6:zs.length.min xs.length=min zs.length xs.length:=rfl
      rw [e6]
      by_cases hj:j < xs.length
      ·rw [if_pos hj]
       by_cases hj2:j < min xs.length zs.length
       ·rw [if_pos hj2,if_pos hj2]
       ·rw [if_neg hj2,if_neg hj2]
        have h3:zs.length<=j:=by omega
        have h4:min zs.length xs.length+(j - min xs.length zs.length)=j:=by omega
        have h5:zs.length+(j - min xs.length zs.length)=j:=by omega
        rw [h4,h5,e7,List.getElem?_append_left (by simpa using hj)]
      ·rw [if_neg hj,if_neg om]
       rw [geN]
       simp;omega) hb
    (by
     intro c' hc'
     simp [O.gen]at hc'
     exact⟨g,by simp [O.gen],.inl ⟨hc'.symm,rfl⟩⟩)
   rw [hρe]at T
   exact T.step rr
end sound
def mfindI:List (MK×MV)->MK->Nat->Option (Nat×MV)
 | [],_,_=>none
 | p :: l,k,i=>if k=p.1 then some (i,p.2)else mfindI l k (i+1)
def mfind (l:List (MK×MV)) (k:MK):Option MV:=(mfindI l k 0).map (·.2)
def mput (l:List (MK×MV)) (k:MK) (v:MV):List (MK×MV):=match mfindI l k 0 with
 | some (i,_)=>l.set i (k,v)
 | none=>l ++ [(k,v)]
def mgetB (l:List (MK×MV)) (k:MK):Bool:=match mfind l k with
 | some (.bool b)=>b
 | _=>false
def mgetI (l:List (MK×MV)) (k:MK):Int:=match mfind l k with
 | some (.int n)=>n
 | _=>0
def keyV (m:MT):AV->Option MK
 | .str s=>if m.kv=false then some (.str s)else none
 | .vec xs=>if m.kv=true then some (.vec xs)else none
 | _=>none
def valV (m:MT):AV->Option MV
 | .bool b=>if m.vi=false then some (.bool b)else none
 | .int .i64 n=>if m.vi=true then some (.int n)else none
 | _=>none
def mgetV (m:MT) (l:List (MK×MV)) (k:MK):AV:=if m.vi then .int .i64 (mgetI l k)else .bool (mgetB l k)
def mlookV (mt:Option MT) (x i:AV) (obs:List O):Res:=
 match mt,x with
 | some m,.own id g=>match obs[id]?,keyV m i with
  | some (.mp m' l g'),some k=>if g=g'/\m.kv=m'.kv/\m.vi=m'.vi then .ok True (mgetV m l k) obs else .bad
  | _,_=>.bad
 | _,_=>.bad
def mupdV (mt:Option MT) (x i y:AV) (obs:List O):Res:=
 match mt,x with
 | some m,.own id g=>match obs[id]?,keyV m i,valV m y with
  | some (.mp m' l g'),some k,some v=>if g=g'/\m.kv=m'.kv/\m.vi=m'.vi then .skip True (obs.set id (.mp m' (mput l k v) g))else .bad
  | _,_,_=>.bad
 | _,_=>.bad
def mmakeV (mt:Option MT) (obs:List O):Res:=
 match mt with
 | some m=>.ok True (.own obs.length 0) (obs ++ [.mp m [] 0])
 | none=>.bad
theorem ba_beq (x y:Array UInt8):((⟨x⟩:ByteArray) == ⟨y⟩)=(x == y):=rfl
theorem findNow_str {s:List UInt8}:∀ {es:List MapEntry} {l:List (MK×MV)} {i0:Nat},es.map (fun e=>(e.key,e.val))=l.map (fun p=>(p.1.val,p.2.val))->(∀ p∈l,p.1.ok false) ->
  Instr.findNow .string (.string ⟨s.toArray⟩) es i0=some ((mfindI l (.str s) i0).map fun q=>(q.1,q.2.val))
 | [],[],i0,_,_=>rfl
 | [],_ :: _,_,h,_=>by simp at h
 | _ :: _,[],_,h,_=>by simp at h
 | e :: es,p :: l,i0,h,hk=>by
  simp only [List.map_cons,List.cons.injEq,Prod.mk.injEq]at h
  obtain⟨⟨h1,h2⟩,h3⟩:=h
  have h4:=hk p (mcS ..)
  obtain⟨k,v⟩:=p
  cases k with
  | vec xs=>exact h4.elim
  | str t=>
   have ih:=findNow_str (s:=s) (i0:=i0+1) h3 (fun q hq=>hk q (mcM _ hq))
   have e1:e.key=.string ⟨t.toArray⟩:=h1
   simp only [Instr.findNow,e1,Instr.sameNow,mfindI]
   by_cases hst:s=t
   ·subst hst
    rw [if_pos rfl]
    simp only [ba_beq,beq_self_eq_true]
    rw [h2];rfl
   ·have hne:((⟨s.toArray⟩:ByteArray) == ⟨t.toArray⟩)=false:=by
     rw [ba_beq,beq_eq_false_iff_ne]
     intro hh
     exact hst (by have:=congrArg Array.toList hh;simpa using this)
    rw [hne,if_neg (fun hh=>hst (by cases hh;rfl))]
    exact ih
theorem mfindI_spec {k:MK}:∀ {l:List (MK×MV)} {i0 i:Nat} {v:MV},mfindI l k i0=some (i,v)->i0<=i/\l[i - i0]? = some (k,v)
 | [],_,_,_,h=>by simp [mfindI]at h
 | p :: l,i0,i,v,h=>by
  simp only [mfindI]at h
  split at h
  ·rename_i hk
   simp only [Option.some.injEq,Prod.mk.injEq]at h
   obtain⟨rfl,rfl⟩:=h
   exact⟨Nat.le_refl _,by rw [Nat.sub_self,hk];rfl⟩
  ·obtain⟨h1,h2⟩:=mfindI_spec h
   exact⟨by omega,by rw [show i - i0=(i - (i0+1))+1 by omega];simpa using h2⟩
theorem run_part_i {P:Program} {ti:TypeId} (h2:P.underlying ti=some (.int .i64)) (xs:Array Value) (k:Nat) (v:Value) (hv:xs[k]? = some v) (w:World):(part ti xs k).run P w=.ok v w:=by
 simp [part,isAgg,run_underlying h2,hv]
theorem run_check_vecD {P:Program} {kt ti:TypeId} (h1:P.underlying kt=some (.array 4 ti)) (h2:P.underlying ti=some (.int .i64)) {i:TypeInfo} (hi:P.info? ti=some i) (hs:i.size=1) (em:Bool) (a b c d:Int) (w:World) (n:Nat) :
  (Instr.checkKey em (n+2) kt (.agg #[.int .i64 a,.int .i64 b,.int .i64 c,.int .i64 d])).run P w=.ok () w:=by
 have hp:=fun k v=>run_part_i h2 #[.int .i64 a,.int .i64 b,.int .i64 c,.int .i64 d] k v
 have hc:∀ v w,(Instr.checkKey em (n+1) ti (.int .i64 v)).run P w=.ok () w:=fun v w=>by simp [Instr.checkKey,run_underlying h2]
 rw [Instr.checkKey]
 simp only [Sem.run_bind,run_underlying h1,Result.andThen_ok]
 simp [Std.Legacy.Range.forIn_eq_forIn_range',Std.Legacy.Range.size,List.range',sizeOf,typeInfo,hi,hs,hp,hc,Sem.run_bind,Result.andThen]
theorem run_equal_vecD {P:Program} {kt ti:TypeId} (h1:P.underlying kt=some (.array 4 ti)) (h2:P.underlying ti=some (.int .i64)) {i:TypeInfo} (hi:P.info? ti=some i) (hs:i.size=1) (a b c d a' b' c' d':Int) (w:World) (n:Nat) :
  (Op.equalIn (n+2) kt (.agg #[.int .i64 a,.int .i64 b,.int .i64 c,.int .i64 d]) (.agg #[.int .i64 a',.int .i64 b',.int .i64 c',.int .i64 d'])).run P w=.ok (a == a' && b == b' && c == c' && d == d') w:=by
 have p0:∀ w,(part ti #[.int .i64 a,.int .i64 b,.int .i64 c,.int .i64 d] 0).run P w=.ok (.int .i64 a) w:=run_part_i h2 _ _ _ rfl
 have q0:∀ w,(part ti #[.int .i64 a',.int .i64 b',.int .i64 c',.int .i64 d'] 0).run P w=.ok (.int .i64 a') w:=run_part_i h2 _ _ _ rfl
 have p1:∀ w,(part ti #[.int .i64 a,.int .i64 b,.int .i64 c,.int .i64 d] 1).run P w=.ok (.int .i64 b) w:=run_part_i h2 _ _ _ rfl
 have q1:∀ w,(part ti #[.int .i64 a',.int .i64 b',.int .i64 c',.int .i64 d'] 1).run P w=.ok (.int .i64 b') w:=run_part_i h2 _ _ _ rfl
 have p2:∀ w,(part ti #[.int .i64 a,.int .i64 b,.int .i64 c,.int .i64 d] 2).run P w=.ok (.int .i64 c) w:=run_part_i h2 _ _ _ rfl
 have q2:∀ w,(part ti #[.int .i64 a',.int .i64 b',.int .i64 c',.int .i64 d'] 2).run P w=.ok (.int .i64 c') w:=run_part_i h2 _ _ _ rfl
 have p3:∀ w,(part ti #[.int .i64 a,.int .i64 b,.int .i64 c,.int .i64 d] 3).run P w=.ok (.int .i64 d) w:=run_part_i h2 _ _ _ rfl
 have q3:∀ w,(part ti #[.int .i64 a',.int .i64 b',.int .i64 c',.int .i64 d'] 3).run P w=.ok (.int .i64 d') w:=run_part_i h2 _ _ _ rfl
 have hc:∀ x y w,(Op.equalIn (n+1) ti (.int .i64 x) (.int .i64 y)).run P w=.ok (x == y) w:=fun x y w=>by rw [Op.equalIn];simp [run_underlying h2]
 have c0:=hc a a'
 have c1:=hc b b'
 have c2:=hc c c'
 have c3:=hc d d'
 clear hc
 generalize (a == a')=r0 at *
 generalize (b == b')=r1 at *
 generalize (c == c')=r2 at *
 generalize (d == d')=r3 at *
 have hz:(sizeOf ti).run P w=.ok 1 w:=by simp [sizeOf,typeInfo,hi,hs]
 rw [Op.equalIn]
 simp only [Sem.run_bind,run_underlying h1,Result.andThen_ok,hz,Std.Legacy.Range.forIn_eq_forIn_range',Std.Legacy.Range.size]
 simp only [List.range',Nat.reduceSub,Nat.reduceAdd,Nat.reduceDiv,List.forIn_cons,List.forIn_nil,Nat.mul_one,Sem.run_bind,p0,q0,Result.andThen_ok,c0]
 cases r0
 ·simp
 simp [p1,q1,c1]
 cases r1
 ·simp
 simp [p2,q2,c2]
 cases r2
 ·simp
 simp [p3,q3,c3]
 cases r3<;>simp
theorem vec4 {xs:List Int} (h:xs.length=4):∃ a b c d,xs=[a,b,c,d]:=by
 match xs,h with
 | [a,b,c,d],_=>exact⟨a,b,c,d,rfl⟩
theorem run_check_vec {P:Program} {kt ti:TypeId} (h1:P.underlying kt=some (.array 4 ti)) (h2:P.underlying ti=some (.int .i64)) {i:TypeInfo} (hi:P.info? ti=some i) (hs:i.size=1) (em:Bool) {xs:List Int} (hx:xs.length=4) (w:World) :
  (Instr.checkKey em 10000 kt (MK.vec xs).val).run P w=.ok () w:=by
 obtain⟨a,b,c,d,rfl⟩:=vec4 hx
 exact run_check_vecD h1 h2 hi hs em a b c d w 9998
theorem run_equal_vec {P:Program} {kt ti:TypeId} (h1:P.underlying kt=some (.array 4 ti)) (h2:P.underlying ti=some (.int .i64)) {i:TypeInfo} (hi:P.info? ti=some i) (hs:i.size=1) {xs ys:List Int} (hx:xs.length=4) (hy:ys.length=4) (w:World) :
  (Op.equal kt (MK.vec xs).val (MK.vec ys).val).run P w=.ok (decide (xs=ys)) w:=by
 obtain⟨a,b,c,d,rfl⟩:=vec4 hx
 obtain⟨a',b',c',d',rfl⟩:=vec4 hy
 have e:(a == a' && b == b' && c == c' && d == d')=decide ([a,b,c,d]=[a',b',c',d']):=by
  rw [Bool.eq_iff_iff];simp [and_assoc]
 rw [<- e]
 exact run_equal_vecD h1 h2 hi hs a b c d a' b' c' d' w 9998
theorem run_find_vec {P:Program} {kt ti:TypeId} (h1:P.underlying kt=some (.array 4 ti)) (h2:P.underlying ti=some (.int .i64)) {i:TypeInfo} (hi:P.info? ti=some i) (hs:i.size=1) {xs:List Int} (hx:xs.length=4) (w:World) :
  ∀ {es:List MapEntry} {l:List (MK×MV)} (i0:Nat),es.map (fun e=>(e.key,e.val))=l.map (fun p=>(p.1.val,p.2.val))->(∀ p∈l,p.1.ok true) ->
  (Instr.findAsking kt (MK.vec xs).val es i0).run P w=.ok ((mfindI l (.vec xs) i0).map fun q=>(q.1,q.2.val)) w
 | [],[],i0,_,_=>by simp [Instr.findAsking,mfindI]
 | [],_ :: _,_,h,_=>by simp at h
 | _ :: _,[],_,h,_=>by simp at h
 | e :: es,p :: l,i0,h,hk=>by
  simp only [List.map_cons,List.cons.injEq,Prod.mk.injEq]at h
  obtain⟨⟨h3,h4⟩,h5⟩:=h
  have h6:=hk p (mcS ..)
  obtain⟨k,v⟩:=p
  cases k with
  | str s=>exact h6.elim
  | vec ys=>
   have ih:=run_find_vec h1 h2 hi hs hx w (i0+1) h5 (fun q hq=>hk q (mcM _ hq))
   have e1:e.key=(MK.vec ys).val:=h3
   have e2:e.val=v.val:=h4
   simp only [Instr.findAsking,mfindI,e1,Sem.run_bind,run_equal_vec h1 h2 hi hs hx h6,Result.andThen_ok]
   by_cases hxy:xs=ys
   ·subst hxy;simp [e2]
   ·have:¬(MK.vec xs=MK.vec ys):=fun hh=>hxy (by cases hh;rfl)
    simp [hxy,ih]
theorem run_findKey_vec {P:Program} {kt ti:TypeId} (h1:P.underlying kt=some (.array 4 ti)) (h2:P.underlying ti=some (.int .i64)) {i:TypeInfo} (hi:P.info? ti=some i) (hs:i.size=1) {xs:List Int} (hx:xs.length=4) (w:World)
  {es:List MapEntry} {l:List (MK×MV)} (he:es.map (fun e=>(e.key,e.val))=l.map (fun p=>(p.1.val,p.2.val))) (hk:∀ p∈l,p.1.ok true) :
  (Instr.findKey kt (MK.vec xs).val es).run P w=.ok ((mfindI l (.vec xs) 0).map fun q=>(q.1,q.2.val)) w:=by
 have h:=run_find_vec h1 h2 hi hs hx w 0 he hk
 rw [<- h]
 cases es with
 | nil=>simp [Instr.findKey,run_underlying h1,Instr.findNow,Instr.findAsking]
 | cons e es=>simp [Instr.findKey,run_underlying h1,Instr.findNow,Instr.sameNow]
theorem sameBits_vec {xs:List Int} (n:Nat):Instr.sameBits (n+1) (MK.vec xs).val (MK.vec xs).val=true:=by
 simp only [MK.val,Instr.sameBits,beq_self_eq_true,Bool.true_and,alT]
 intro p hp
 obtain⟨i,hi,e⟩:=List.getElem_of_mem hp
 rw [List.getElem_zip]at e
 rw [<- e]
 cases n<;>simp [Instr.sameBits]
theorem run_stays_vec {P:Program} {xs:List Int} (w:World):(Instr.keyThatStays (MK.vec xs).val (MK.vec xs).val).run P w=.ok (MK.vec xs).val w:=by
 have:Instr.sameBits 10000 (MK.vec xs).val (MK.vec xs).val=true:=sameBits_vec 9999
 simp [Instr.keyThatStays,this]
section maps
variable {C:Ctx} {obs:List O} {w:World} {ρ:Nat->Value}
theorem own_mp {id g:Nat} {m:MT} {l:List (MK×MV)} {v:Value} (r:WRel C obs w ρ) (ho:obs[id]? = some (.mp m l g)) (h:AVRel (C.V w obs ρ) obs ρ (.own id g) v) :
  v=ρ id/\ORel C.tid w (C.V w obs ρ) v (.mp m l g):=by
 obtain⟨_,h2⟩:=h
 have hv:v=ρ id:=(h2 g (by unfold genOf;rw [ho];rfl)).2 rfl
 exact⟨hv,by rw [hv];exact r.os id _ ho⟩
theorem keyV_rel {m:MT} {i:AV} {k:MK} {j:Value} (h:keyV m i=some k) (hi:AVRel (C.V w obs ρ) obs ρ i j):j=k.val/\k.ok m.kv:=by
 unfold keyV at h
 split at h
 ·split at h
  ·rename_i hk;cases h;exact⟨hi,by rw [hk];trivial⟩
  ·cases h
 ·split at h
  ·rename_i hk;cases h;exact⟨hi.1,by rw [hk];exact hi.2⟩
  ·cases h
 ·cases h
theorem key_facts (hC:C.Ok) {t:TypeId} {m:MT} (hmt:C.mt t=some m):∃ kt et,C.P.underlying t=some (.map kt et)/\(∀ k:MK,k.ok m.kv->(∀ em w,(Instr.checkKey em 10000 kt k.val).run C.P w=.ok () w) /\
  (∀(es:List MapEntry) (l:List (MK×MV)) w,es.map (fun e=>(e.key,e.val))=l.map (fun p=>(p.1.val,p.2.val))->(∀ p∈l,p.1.ok m.kv)->(Instr.findKey kt k.val es).run C.P w=.ok ((mfindI l k 0).map fun q=>(q.1,q.2.val)) w) /\
  (∀ w,(Instr.keyThatStays k.val k.val).run C.P w=.ok k.val w))/\∀ w,(zeroValue et).run C.P w=.ok (if m.vi then .int .i64 0 else .bool false) w:=by
 obtain⟨kt,et,hu,hks,hkv,hz⟩:=hC.mt t m hmt
 refine⟨kt,et,hu,fun k hk=>?_,hz⟩
 cases k with
 | str s=>
  have hkf:m.kv=false:=by
   cases h:m.kv with
   | false=>rfl
   | true=>rw [h]at hk;exact hk.elim
  have hkt:=hks hkf
  refine⟨fun em w=>Go.MapKept.run_checkKey (w:=w) hkt (k:=.string ⟨s.toArray⟩) (show Go.MapKept.IsKey .string (.string ⟨s.toArray⟩)from trivial) em 9999,fun es l w he hl=>?_,fun w=>?_⟩
  ·rw [hkf]at hl
   exact Go.MapKept.run_findKey (w:=w) hkt (findNow_str (s:=s) (i0:=0) he hl)
  ·simp [MK.val,Instr.keyThatStays,Instr.sameBits,ba_beq]
 | vec xs=>
  have hkf:m.kv=true:=by
   cases h:m.kv with
   | true=>rfl
   | false=>rw [h]at hk;exact hk.elim
  obtain⟨ti,h1,h2,i,hi,hs⟩:=hkv hkf
  rw [hkf]at hk
  refine⟨fun em w=>run_check_vec h1 h2 hi hs em hk w,fun es l w he hl=>?_,fun w=>run_stays_vec w⟩
  rw [hkf]at hl
  exact run_findKey_vec h1 h2 hi hs hk w he hl
theorem mlookV_sound (hC:C.Ok) {t:TypeId} {x i:AV} {vc:Prop} {r:AV} {o:List O} (rr:WRel C obs w ρ) {u j:Value} (hx:AVRel (C.V w obs ρ) obs ρ x u) (hi:AVRel (C.V w obs ρ) obs ρ i j)
  (h:mlookV (C.mt t) x i obs=.ok vc r o):o=obs/\∃ z,AVRel (C.V w obs ρ) obs ρ r z/\(Instr.lookup t u j false).run C.P w=.ok z w:=by
 unfold mlookV at h
 split at h
 ·rename_i m id g hmt
  split at h
  ·rename_i m' l g' k ho hk
   split at h
   ·rename_i hc
    obtain⟨rfl,hkv,hvi⟩:=hc
    cases h
    refine⟨rfl,?_⟩
    obtain⟨_,b,es,clock,hv,hh,hes,hok⟩:=own_mp rr ho hx
    obtain⟨kt,et,hu,hkf,hz⟩:=key_facts hC hmt
    obtain⟨hj,hkok⟩:=keyV_rel hk hi
    obtain⟨hck,hfd,_⟩:=hkf k hkok
    subst hj hv
    have h1:=hck es.isEmpty w
    have h2:=hfd es.toList l w hes (fun p hp=>by have:=(hok p hp).1;rw [<- hkv]at this;exact this)
    have h3:=Go.MapKept.run_getObj_map (P:=C.P) hh
    cases hfi:mfindI l k 0 with
    | none=>
     rw [hfi]at h2
     simp only [Option.map_none]at h2
     refine⟨if m.vi then .int .i64 0 else .bool false,?_,?_⟩
     ·simp only [mgetV,mgetI,mgetB,mfind,hfi,Option.map_none]
      cases m.vi<;>rfl
     ·simp [Instr.lookup,run_underlying hu,h3,h1,h2,hz,Sem.run_bind,Result.andThen]
    | some q=>
     obtain⟨i,v⟩:=q
     rw [hfi]at h2
     simp only [Option.map_some]at h2
     obtain⟨_,hq⟩:=mfindI_spec hfi
     have hvok:=(hok _ (List.mem_of_getElem? hq)).2
     refine⟨v.val,?_,?_⟩
     ·simp only [mgetV,mgetI,mgetB,mfind,hfi,Option.map_some]
      rw [<- hvi]at hvok
      cases hm:m.vi<;>rw [hm]at hvok<;>cases v<;>first | rfl | exact hvok.elim
     ·simp [Instr.lookup,run_underlying hu,h3,h1,h2,Sem.run_bind,Result.andThen]
   ·cases h
  ·cases h
 ·cases h
theorem mmakeV_sound {t:TypeId} {vc:Prop} {r:AV} {o:List O} (rr:WRel C obs w ρ) (h:mmakeV (C.mt t) obs=.ok vc r o) :
  ∃ z w',(Instr.makeMap t none).run C.P w=.ok z w'/\NewOk C obs w ρ r o z w':=by
 unfold mmakeV at h
 split at h
 ·rename_i m hmt
  cases h
  have hrun:(Instr.makeMap t none).run C.P w=.ok (.map (some w.heap.size)) (w.alloc (.map #[] 0)):=by
   simp [Instr.makeMap,newObj,Sem.run,Result.andThen]
  refine⟨_,_,hrun,?_⟩
  have T:=Turn.new (C:=C) rr (Ext.alloc (fun _=>False) w (.map #[] 0)) (.mp m [] 0) (.map (some w.heap.size))
   ⟨w.heap.size,#[],0,rfl,(Go.MapKept.heap_alloc w (.map #[] 0)).1,rfl,by simp⟩ (fun b hb=>by have hb:Value.map (some w.heap.size)=Value.map (some b):=hb;cases hb;exact Nat.le_refl _)
  refine⟨_,T.step rr,?_⟩
  refine⟨by simp,fun c hc=>?_⟩
  have:c=0:=by simpa [genOf,O.gen] using hc.symm
  subst this
  exact⟨Nat.le_refl _,fun _=>by simp⟩
 ·cases h
theorem mupdV_sound (hC:C.Ok) {t:TypeId} {x i y:AV} {vc:Prop} {o:List O} (rr:WRel C obs w ρ) {u j z:Value} (hx:AVRel (C.V w obs ρ) obs ρ x u) (hi:AVRel (C.V w obs ρ) obs ρ i j) (hy:AVRel (C.V w obs ρ) obs ρ y z)
  (h:mupdV (C.mt t) x i y obs=.skip vc o):∃ w',(Instr.mapUpdate t u j z).run C.P w=.ok () w'/\Step C w w' obs o ρ ρ:=by
 unfold mupdV at h
 split at h
 ·rename_i m id g hmt
  split at h
  ·rename_i m' l g' k v ho hk hvv
   split at h
   ·rename_i hc
    obtain⟨rfl,hkv,hvi⟩:=hc
    cases h
    obtain⟨hρ,b,es,clock,hv,hh,hes,hok⟩:=own_mp rr ho hx
    obtain⟨kt,et,hu,hkf,_⟩:=key_facts hC hmt
    obtain⟨hj,hkok⟩:=keyV_rel hk hi
    obtain⟨hck,hfd,hstay⟩:=hkf k hkok
    ·have hzv:z=v.val/\v.ok m.vi:=by
      unfold valV at hvv
      split at hvv
      ·split at hvv
       ·rename_i hb;cases hvv;exact⟨hy,by rw [hb];trivial⟩
       ·cases hvv
      ·split at hvv
       ·rename_i hb;cases hvv;exact⟨hy,by rw [hb];trivial⟩
       ·cases hvv
      ·cases hvv
     obtain⟨rfl,hvok⟩:=hzv
     subst hj
     have h1:=hck false w
     have h2:=hfd es.toList l w hes (fun p hp=>by have:=(hok p hp).1;rw [<- hkv]at this;exact this)
     have h3:=Go.MapKept.run_getObj_map (P:=C.P) hh
     have hblk:b < w.heap.size:=(ageS.1 hh).1
     have key:∃ es' clock',(Instr.mapUpdate t u k.val v.val).run C.P w=.ok () { w with heap:=w.heap.setIfInBounds b (.map es' clock') } /\
       es'.toList.map (fun e=>(e.key,e.val))=(mput l k v).map (fun p=>(p.1.val,p.2.val))/\∀ p∈mput l k v,p.1.ok m'.kv/\p.2.ok m'.vi:=by
      have hel:es.toList.length=l.length:=by have:=congrArg List.length hes;simpa using this
      have hnew:(k).ok m'.kv/\v.ok m'.vi:=⟨by rw [<- hkv];exact hkok,by rw [<- hvi];exact hvok⟩
      cases hfi:mfindI l k 0 with
      | none=>
       rw [hfi]at h2
       simp only [Option.map_none]at h2
       refine⟨es.push { key:=k.val,val:=v.val,born:=clock },clock+1,?_,?_,?_⟩
       ·have h4:=Go.MapKept.run_setObj_map (P:=C.P) (.map (es.push { key:=k.val,val:=v.val,born:=clock }) (clock+1)) hh
        simp [Instr.mapUpdate,run_underlying hu,hv,h3,h1,h2,h4,Sem.run_bind,Result.andThen]
       ·simp only [mput,hfi,Array.toList_push,List.map_append,hes,List.map_cons,List.map_nil]
       ·simp only [mput,hfi]
        intro p hp
        rcases List.mem_append.1 hp with hp | hp
        ·exact hok p hp
        ·simp at hp;subst hp;exact hnew
      | some q=>
       obtain⟨i,v0⟩:=q
       rw [hfi]at h2
       simp only [Option.map_some]at h2
       obtain⟨_,hq⟩:=mfindI_spec hfi
       rw [Nat.sub_zero]at hq
       have hil:i < l.length:=(geS.1 hq).1
       have hkey:(es[i]?).map (·.key)=some k.val:=by
        have e1:(es.toList.map (fun e=>(e.key,e.val)))[i]? = some ((k).val,v0.val):=by rw [hes,List.getElem?_map,hq];rfl
        rw [List.getElem?_map,Array.getElem?_toList]at e1
        cases he:es[i]? with
        | none=>rw [he]at e1;cases e1
        | some e=>rw [he]at e1;simp at e1;simp [e1.1]
       refine⟨es.modify i fun e=>{ e with key:=k.val,val:=v.val },clock,?_,?_,?_⟩
       ·have h4:=Go.MapKept.run_setObj_map (P:=C.P) (.map (es.modify i fun e=>{ e with key:=k.val,val:=v.val }) clock) hh
        have h5:=hstay w
        simp [Instr.mapUpdate,run_underlying hu,hv,h3,h1,h2,h4,h5,hkey,Sem.run_bind,Result.andThen]
       ·simp only [mput,hfi]
        apply List.ext_getElem?
        intro n
        have e0:(es.toList.map (fun e=>(e.key,e.val)))[n]? = (l.map (fun p=>(p.1.val,p.2.val)))[n]?:=by rw [hes]
        simp only [List.getElem?_map,Array.getElem?_toList,Array.getElem?_modify,List.getElem?_set]at e0 ⊢
        by_cases hn:i=n
        ·subst hn
         rw [if_pos rfl,if_pos rfl,if_pos hil]
         have:i < es.size:=by simpa using (by omega:i < es.toList.length)
         simp [this]
        ·rw [if_neg hn,if_neg hn];exact e0
       ·simp only [mput,hfi]
        intro p hp
        rcases List.mem_or_eq_of_mem_set hp with hp | rfl
        ·exact hok p hp
        ·exact hnew
     obtain⟨es',clock',hrun,hes',hok'⟩:=key
     have hset:=Go.MapKept.heap_set (o':=Obj.map es' clock') hh
     have hfp:fpo (ρ id) (.mp m' l g) b:=by show ρ id=_;rw [<- hρ];exact hv
     have hext:Ext (fun b'=>fpo (ρ id) (.mp m' l g) b') w { w with heap:=w.heap.setIfInBounds b (.map es' clock') }:=
      ⟨rfl,rfl,rfl,by simp,Nat.le_refl _,fun b' _ hS=>hset.2 b' (fun e=>hS (e▸hfp))⟩
     have T:=Turn.one rr id (.mp m' l g) (.mp m' (mput l k v) g) (ρ id) ho hext
      ⟨b,es',clock',by rw [<- hρ];exact hv,hset.1,hes',hok'⟩ (fun b' hb'=>.inl hb') (fun c' hc=>⟨g,rfl,.inl ⟨(by cases hc;rfl),rfl⟩⟩)
     have hst:=T.step rr
     have hρρ:(fun i=>if i=id then ρ id else ρ i)=ρ:=by funext i;by_cases e:i=id<;>simp [e]
     rw [hρρ]at hst
     exact⟨_,hrun,hst⟩
   ·cases h
  ·cases h
 ·cases h
end maps
def allocV (wt:Option E) (rw:Bool) (obs:List O):Res:=
 match wt,rw with
 | some .vec,_=>.ok True (.elt obs.length 0 4 0) (obs ++ [.arr .vec [[0,0,0,0]] 0 true])
 | none,true=>.ok True (.elt obs.length 0 1 0) (obs ++ [.arr (.row true) [[]] 0 true])
 | _,_=>.bad
def wloadV (x:AV) (obs:List O):Res:=
 match x with
 | .relt _ .vec d=>.ok True (.vec d) obs
 | .elt id g s k=>match obs[id]? with
  | some (.arr .vec xs g' _)=>if g=g'/\s=4 then .ok True (.vec (xs.getD k [0,0,0,0])) obs else .bad
  | _=>.bad
 | _=>.bad
def loadS (sc:Bool) (wt:Option E) (x:AV) (obs:List O):Res:=
 match wt with
 | none=>loadV sc x obs
 | some _=>wloadV x obs
def wstoreV (x y:AV) (obs:List O):Res:=
 match x,y with
 | .elt id g s 0,.vec ys=>match obs[id]? with
  | some (.arr .vec [_] g' nn)=>if g=g'/\s=4 then .skip True (obs.set id (.arr .vec [ys] g nn))else .bad
  | _=>.bad
 | _,_=>.bad
def storeS (sc:Bool) (wt:Option E) (x y:AV) (obs:List O):Res:=
 match wt with
 | none=>storeV sc x y obs
 | some _=>wstoreV x y obs
def widxV (x i:AV) (obs:List O):Res:=
 match x,i with
 | .relt f .vec xs,.int _ n=>.ok (0<=n/\n < 4) (.relt f .int (xs.getD n.toNat 0)) obs
 | _,_=>.bad
def idxS (e?:Option E) (wt:Option E) (x i:AV) (obs:List O):Res:=
 match wt with
 | none=>idxV e? x i obs
 | some _=>widxV x i obs
def boxV (wt:Option E) (x:AV) (obs:List O):Res:=
 match wt,x with
 | some .vec,.vec xs=>.ok True (.relt true .vec xs) obs
 | _,_=>.bad
def wsliceV (x:AV) (lo hi:Option AV) (obs:List O):Res:=
 match x,lo,bnd 4 hi with
 | .relt f .vec xs,none,some h=>.ok (0<=h/\h<=4) (.sl f .int (xs.take h.toNat)) obs
 | _,_,_=>.bad
def sliceT (wt:Option E) (r:Res) (x:AV) (lo hi:Option AV) (obs:List O):Res:=
 match wt with
 | none=>r
 | some _=>wsliceV x lo hi obs
section wide
variable {C:Ctx} {obs:List O} {w:World} {ρ:Nat->Value}
theorem run_wload (hC:C.Ok) {t:TypeId} {e:E} (ht:C.wt t=some e) {a:Addr} {d:List Int} (h4:d.length=4) (hc:∀ j,j < 4->w.cell? (a.add j)=(d.map (Value.int .i64))[j]?) :
  (Instr.loadAt t (.pointer (some a))).run C.P w=.ok (.agg (d.map (Value.int .i64)).toArray) w:=by
 obtain⟨_,rfl,ti,h1,h2,_,i,hi,_,hs⟩:=hC.wt t e ht
 have hl:=run_loadCells_list (P:=C.P) w a (d.map (Value.int .i64)) (fun j v hv=>by
  have hj:j < 4:=by have:=(geS.1 hv).1;simpa [h4] using this
  rw [hc j hj];exact hv)
 rw [List.length_map,h4]at hl
 simp [Instr.loadAt,Instr.sureAddr,loadVar,isAgg,run_underlying h1,sizeOf,typeInfo,hi,hs,E.size,hl]
theorem wloadV_sound (hC:C.Ok) {t:TypeId} {e:E} (ht:C.wt t=some e) {x:AV} {vc:Prop} {r:AV} {o:List O} (rr:WRel C obs w ρ) {u:Value}
  (hx:AVRel (C.V w obs ρ) obs ρ x u) (h:wloadV x obs=.ok vc r o) :
  o=obs/\∃ z,AVRel (C.V w obs ρ) obs ρ r z/\(Instr.loadAt t u).run C.P w=.ok z w:=by
 unfold wloadV at h
 split at h
 ·rename_i f d
  cases h
  obtain⟨a,z,hu,hf,hr,hcell⟩:=hx
  subst hu
  obtain⟨rfl,h4⟩:=hr
  refine⟨rfl,_,⟨rfl,h4⟩,run_wload hC ht h4 fun j hj=>?_⟩
  have h0:=hcell j hj
  simp only [Value.cells]at h0
  have hlt:j < d.length:=by omega
  rw [List.getElem?_toArray,List.getElem?_map,geE hlt]at h0
  rw [List.getElem?_map,geE hlt]
  exact V_cell h0
 ·rename_i id g s k
  split at h
  case h_2=>cases h
  rename_i xs g' nn ho
  split at h
  case isFalse=>cases h
  rename_i hc
  obtain⟨rfl,rfl⟩:=hc
  cases h
  obtain⟨a,len,cap,hρ,hk,hu⟩:=(hx.2 g (by simp [genOf,ho,O.gen])).2 rfl
  subst hu
  obtain⟨cs,hown,henc,_⟩:=rr.os id _ ho
  rw [hρ]at hown
  obtain⟨b,ha,hlen⟩:∃ b,a=⟨b,0,none⟩/\len=xs.length:=by
   rcases hown.2 with⟨hh,_⟩ | ⟨b,c2,cur,hh,_⟩
   ·cases hh
   ·cases hh;exact⟨b,rfl,rfl⟩
  subst ha hlen
  obtain⟨z,hr,hz⟩:=henc.2 k hk
  obtain⟨rfl,h4⟩:=hr
  refine⟨rfl,_,⟨rfl,by rw [getD_eq hk];exact h4⟩,?_⟩
  rw [getD_eq hk]
  refine run_wload hC ht h4 fun j hj=>?_
  have h0:=hz j hj
  simp only [Value.cells,E.size]at h0
  have hlt:j < xs[k].length:=by omega
  rw [List.getElem?_toArray,List.getElem?_map,geE hlt]at h0
  rw [List.getElem?_map,geE hlt,add_add,Option.map_some]
  exact hown.cells (g:=b) (by simp [Value.ownBlock]) _ _ h0
 ·cases h
theorem widxV_sound (hC:C.Ok) {t:TypeId} {e:E} (ht:C.wt t=some e) {x i:AV} {vc:Prop} {r:AV} {o:List O} {u j:Value}
  (hx:AVRel (C.V w obs ρ) obs ρ x u) (hi:AVRel (C.V w obs ρ) obs ρ i j) (h:widxV x i obs=.ok vc r o) (hv:vc) :
  o=obs/\∃ z,AVRel (C.V w obs ρ) obs ρ r z/\∀ w',(Instr.indexAt t u j).run C.P w'=.ok z w':=by
 obtain⟨_,_,ti,h1,h2,⟨i1,hi1,hs1⟩,_⟩:=hC.wt t e ht
 unfold widxV at h
 split at h
 ·rename_i f xs k n
  cases h
  obtain⟨h0,h4⟩:=hv
  simp only [AVRel]at hi
  obtain⟨a,z,hu,hf,⟨rfl,hl⟩,hcell⟩:=hx
  subst hu hi
  have hlt:n.toNat < xs.length:=by omega
  refine⟨rfl,.pointer (some (a.add n.toNat)),⟨a.add n.toNat,.int .i64 xs[n.toNat],rfl,by rw [add_block];exact hf,by rw [getD_eq hlt];rfl,fun q hq=>?_⟩,fun w'=>?_⟩
  ·have:q=0:=by simp [E.size]at hq;omega
   subst this
   have:=hcell n.toNat (by simp only [E.size];omega)
   rw [add_add]
   simpa [Value.cells,hlt] using this
  ·simp [Instr.indexAt,run_underlying h1,asIntOf,Instr.sureAddr,h0,h4,sizeOf,typeInfo,hi1,hs1]
 ·cases h
theorem allocV_sound (hC:C.Ok) {t:TypeId} {vc:Prop} {r:AV} {o:List O} (rr:WRel C obs w ρ) (h:allocV (C.wt t) (t == C.tid .lrow) obs=.ok vc r o) :
  ∃ z w',(do pure (Value.pointer (some (<- newVar t (<- zeroValue t)))):Sem Value).run C.P w=.ok z w'/\NewOk C obs w ρ r o z w':=by
 unfold allocV at h
 split at h
 ·rename_i hw
  cases h
  obtain⟨htt,_,ti,h1,h2,_,i,hi,hz,hs⟩:=hC.wt t _ hw
  have hrun:(do pure (Value.pointer (some (<- newVar t (<- zeroValue t)))):Sem Value).run C.P w=.ok (.pointer (some ⟨w.heap.size,0,none⟩)) (w.alloc (.cells #[.int .i64 0,.int .i64 0,.int .i64 0,.int .i64 0] t)):=by
   simp [newVar,newRow,newObj,zeroValue,typeInfo,hi,hz,E.zero,Value.cells,Sem.run,Result.andThen,Sem.run_bind]
  refine⟨_,_,hrun,?_⟩
  have hcs:∀ V:Vw,Enc V .vec [[0,0,0,0]] [.int .i64 0,.int .i64 0,.int .i64 0,.int .i64 0]:=fun V=>⟨rfl,fun k hk=>by
   have:k=0:=by simp at hk;omega
   subst this
   refine⟨.agg #[.int .i64 0,.int .i64 0,.int .i64 0,.int .i64 0],⟨rfl,rfl⟩,fun j hj=>?_⟩
   simp only [E.size,Nat.zero_mul,Nat.zero_add,Value.cells]
   simp⟩
  have T:=Turn.new (C:=C) rr (Ext.alloc (fun _=>False) w (.cells #[.int .i64 0,.int .i64 0,.int .i64 0,.int .i64 0] t)) (.arr .vec [[0,0,0,0]] 0 true) (.slice (some ⟨w.heap.size,0,none⟩) 1 1)
   ⟨[.int .i64 0,.int .i64 0,.int .i64 0,.int .i64 0],⟨rfl,.inr ⟨w.heap.size,1,#[.int .i64 0,.int .i64 0,.int .i64 0,.int .i64 0],rfl,nz0 _,by rw [<- htt];exact heap_alloc_new w _,Nat.le_refl _,by simp [maxLen],rfl,rfl⟩⟩,hcs _,by simp,by simp [maxLen]⟩
   (fun b hb=>by simp [fpo,Value.ownBlock]at hb;omega)
  refine⟨_,T.step rr,⟨by simp,fun c hc=>?_⟩⟩
  have:c=0:=by simpa [genOf,O.gen] using hc.symm
  subst this
  refine⟨Nat.le_refl _,fun _=>⟨⟨w.heap.size,0,none⟩,1,1,by simp,by simp,by simp [Addr.add]⟩⟩
 ·rename_i hw hrw
  cases h
  have htt:t=C.tid .lrow:=by simpa using hrw
  obtain⟨i,hi,hz,hs⟩:=hC.lr
  rw [<- htt]at hi
  have hrun:(do pure (Value.pointer (some (<- newVar t (<- zeroValue t)))):Sem Value).run C.P w=.ok (.pointer (some ⟨w.heap.size,0,none⟩)) (w.alloc (.cells #[.slice none 0 0] t)):=by
   simp [newVar,newRow,newObj,zeroValue,typeInfo,hi,hz,Value.cells,Sem.run,Result.andThen,Sem.run_bind]
  refine⟨_,_,hrun,?_⟩
  have hcs:∀ V:Vw,Enc V (.row true) [[]] [.slice none 0 0]:=fun V=>⟨rfl,fun k hk=>by
   have:k=0:=by simp at hk;omega
   subst this
   refine⟨.slice none 0 0,⟨none,0,rfl,by simp,by simp,fun i hi=>by simp at hi⟩,fun j hj=>?_⟩
   simp only [E.size,Nat.zero_mul,Nat.zero_add,Value.cells]
   have:j=0:=by simp [E.size]at hj;omega
   subst this
   simp⟩
  have T:=Turn.new (C:=C) rr (Ext.alloc (fun _=>False) w (.cells #[.slice none 0 0] t)) (.arr (.row true) [[]] 0 true) (.slice (some ⟨w.heap.size,0,none⟩) 1 1)
   ⟨[.slice none 0 0],⟨rfl,.inr ⟨w.heap.size,1,#[.slice none 0 0],rfl,nz0 _,by rw [hC.same,<- htt];exact heap_alloc_new w _,Nat.le_refl _,by simp [maxLen],rfl,rfl⟩⟩,hcs _,by simp,by simp [maxLen]⟩
   (fun b hb=>by simp [fpo,Value.ownBlock]at hb;omega)
  refine⟨_,T.step rr,⟨by simp,fun c hc=>?_⟩⟩
  have:c=0:=by simpa [genOf,O.gen] using hc.symm
  subst this
  refine⟨Nat.le_refl _,fun _=>⟨⟨w.heap.size,0,none⟩,1,1,by simp,by simp,by simp [Addr.add]⟩⟩
 ·cases h
theorem wstoreV_sound (hC:C.Ok) {t:TypeId} {e:E} (ht:C.wt t=some e) {x y:AV} {vc:Prop} {o:List O} (rr:WRel C obs w ρ) {u v:Value}
  (hx:AVRel (C.V w obs ρ) obs ρ x u) (hy:AVRel (C.V w obs ρ) obs ρ y v) (h:wstoreV x y obs=.skip vc o) :
  ∃ w',(Instr.storeAt t u v).run C.P w=.ok () w'/\Step C w w' obs o ρ ρ:=by
 obtain⟨_,rfl,ti,h1,h2,_,i,hi,hz,hs⟩:=hC.wt t e ht
 unfold wstoreV at h
 split at h
 case h_2=>cases h
 rename_i id g s ys
 split at h
 case h_2=>cases h
 rename_i x0 g' nn ho
 split at h
 case isFalse=>cases h
 rename_i hc
 obtain⟨rfl,rfl⟩:=hc
 cases h
 obtain⟨rfl,h4⟩:=hy
 obtain⟨a,len,cap,hρ,hk,hu⟩:=(hx.2 g (by simp [genOf,ho,O.gen])).2 rfl
 subst hu
 obtain⟨cs,hown,henc,hnn,hml⟩:=rr.os id _ ho
 rw [hρ]at hown
 rcases hown.2 with⟨hh,_⟩ | ⟨b,c2,cur,hh,hb0,hg,hn,hcap,hsz,htk⟩
 ·cases hh
 cases hh
 simp only [lenC,lenN,Nat.zero_add,E.size]at hn hsz
 have hv1:∀ v∈ys.map (Value.int .i64),v.oneCell'=true:=by simp [Value.oneCell']
 have hst:=run_storeCells_at C.P b 0 (C.tid .vec) (ys.map (Value.int .i64)) 0 cur w hg (by simp [h4];omega) hv1
 simp only [Nat.add_zero,Nat.zero_add,List.take_zero,List.nil_append,List.length_map,h4]at hst
 have hrun:(Instr.storeAt t (.pointer (some ((⟨b,0,none⟩:Addr).add (0*4)))) (.agg (ys.map (Value.int .i64)).toArray)).run C.P w=.ok () (w.setRow b (ys.map (Value.int .i64) ++ cur.toList.drop 4).toArray):=by
  simp only [Nat.zero_mul,Instr.storeAt,Instr.sureAddr,storeVar,Sem.run_bind,Sem.run_pure,Result.andThen_ok,add_plain,Nat.add_zero]
  simp [sizeOf,typeInfo,hi,hs,E.size,Value.cells,h4,hst]
 have hfp:fpo (ρ id) (.arr .vec [x0] g nn) b:=by simp [fpo,hρ,Value.ownBlock]
 have hρe:(fun i=>if i=id then ρ id else ρ i)=ρ:=by funext i;split<;>simp_all
 have hset:=setRow_heap w b cur (ys.map (Value.int .i64) ++ cur.toList.drop 4).toArray (C.tid .vec) (0,0) hg
 refine⟨_,hrun,?_⟩
 have hext:Ext (fun b'=>fpo (ρ id) (.arr .vec [x0] g nn) b') w (w.setRow b (ys.map (Value.int .i64) ++ cur.toList.drop 4).toArray):=by
  refine⟨rfl,rfl,rfl,by simp [World.setRow],Nat.le_refl _,fun b' hb' hS=>?_⟩
  have hne:b'≠b:=fun e=>hS (e▸hfp)
  exact setRow_other w b b' _ hne
 have hb:∀ b',fpo (ρ id) (.arr .vec [ys] g nn) b'->fpo (ρ id) (.arr .vec [x0] g nn) b'\/w.heap.size<=b':=fun b' hb'=>.inl hb'
 have T:=Turn.one rr id (.arr .vec [x0] g nn) (.arr .vec [ys] g nn) (ρ id) ho hext
  (by
   rw [hρe]
   refine⟨ys.map (Value.int .i64),⟨by simp [h4,E.size],.inr ⟨b,cap,(ys.map (Value.int .i64) ++ cur.toList.drop 4).toArray,hρ,hb0,hset,by simpa using hn,hcap,?_,?_⟩⟩,⟨by simp [h4,E.size],fun k hk=>?_⟩,hnn,by simp [maxLen]⟩
   ·simp [h4,E.size,hsz];omega
   ·simp [E.size,h4]
   ·have:k=0:=by simp at hk;omega
    subst this
    refine⟨.agg (ys.map (Value.int .i64)).toArray,⟨rfl,h4⟩,fun j hj=>?_⟩
    simp [Value.cells,E.size]) hb
  (by
   intro c' hc'
   simp [O.gen]at hc'
   exact⟨g,by simp [O.gen],.inl ⟨hc'.symm,rfl⟩⟩)
 rw [hρe]at T
 exact T.step rr
theorem boxV_sound (hC:C.Ok) {t:TypeId} {x:AV} {vc:Prop} {r:AV} {o:List O} (rr:WRel C obs w ρ) {u:Value} (hx:AVRel (C.V w obs ρ) obs ρ x u) (h:boxV (C.wt t) x obs=.ok vc r o) :
  ∃ z w',(Instr.box t u).run C.P w=.ok z w'/\NewOk C obs w ρ r o z w':=by
 unfold boxV at h
 split at h
 ·rename_i xs hw
  cases h
  obtain⟨rfl,h4⟩:=hx
  have hrun:(Instr.box t (.agg (xs.map (Value.int .i64)).toArray)).run C.P w=.ok (.pointer (some ⟨w.heap.size,0,none⟩)) (w.alloc (.cells (xs.map (Value.int .i64)).toArray t)):=by
   simp [Instr.box,newVar,newRow,newObj,Value.cells,Sem.run,Result.andThen,Sem.run_bind]
  have T:=Turn.none rr (Ext.alloc (fun _=>False) w (.cells (xs.map (Value.int .i64)).toArray t))
  have S:=T.step rr
  refine⟨_,_,hrun,ρ,S,⟨w.heap.size,0,none⟩,.agg (xs.map (Value.int .i64)).toArray,rfl,fun _=>.inl (.inl rr.grow),⟨rfl,h4⟩,fun j hj=>?_⟩
  have hno:¬Own obs ρ w.heap.size:=fun⟨id,o,ho,hf⟩=>absurd ((rr.os id o ho).lt hf) (Nat.lt_irrefl _)
  simp only [Ctx.V,Vw.cell,add_plain,mask,if_neg hno,heap_alloc_new]
  simp [Value.cells]
 ·cases h
theorem wsliceV_sound (hC:C.Ok) {t:TypeId} {e:E} (ht:C.wt t=some e) {x:AV} {lo hi:Option AV} {vc:Prop} {r:AV} {o:List O} {u:Value} {lv hv:Option Value} (hlv:lv.isSome=lo.isSome) (hhv:hv.isSome=hi.isSome)
  (hx:AVRel (C.V w obs ρ) obs ρ x u) (hlo:∀ x v,lo=some x->lv=some v->AVRel (C.V w obs ρ) obs ρ x v) (hhi:∀ x v,hi=some x->hv=some v->AVRel (C.V w obs ρ) obs ρ x v)
  (h:wsliceV x lo hi obs=.ok vc r o) (hvc:vc) :
  o=obs/\∃ z,AVRel (C.V w obs ρ) obs ρ r z/\∀ w',(Instr.sliceAt t u lv hv none).run C.P w'=.ok z w':=by
 obtain⟨_,_,ti,h1,h2,⟨i1,hi1,hs1⟩,_⟩:=hC.wt t e ht
 unfold wsliceV at h
 split at h
 ·rename_i f xs n hb
  cases h
  obtain⟨h0,h4⟩:=hvc
  obtain⟨a,z,hu,hf,⟨rfl,hl⟩,hcell⟩:=hx
  subst hu
  have hbd:=run_bounds (C:=C) (isS:=false) (cap:=4) (len:=4) hlv hhv hlo hhi (l:=0) (h:=n) rfl hb om om om
  refine⟨rfl,.slice (some a) n.toNat 4,?_,fun w'=>?_⟩
  ·refine⟨some a,4,by simp [hl];omega,by simp;omega,by simp [maxLen],fun i hi=>?_⟩
   have hi':i < n.toNat/\i < 4:=by simp at hi;omega
   refine⟨a,.int .i64 (xs.getD i 0),rfl,hf,by simp [ElRel,hi'.1,gdE,show i < xs.length by omega],fun j hj=>?_⟩
   have:j=0:=by simp [E.size]at hj;omega
   subst this
   have:=hcell i (by simp only [E.size];omega)
   simp only [E.size,Nat.mul_one,Nat.add_zero]
   rw [this]
   simp [Value.cells,show i < xs.length by omega]
  ·simp [Instr.sliceAt,run_underlying h1,Instr.sureAddr,hbd w',sizeOf,typeInfo,hi1,hs1,Addr.add]
 ·cases h
end wide
end Go.Aw
