/- Operations that make or write memory: make, a literal slice, append, a store, a piece of a slice. -/
import Derived.Test.YtcinngodeoidnaaGreatAw1
import Derived.Laws.AppendOwnNone
import Derived.Great.BuildSlice
set_option linter.unusedVariables false
set_option linter.unusedSimpArgs false
namespace Go.Aw
open Go
theorem maxLen_num:maxLen=9223372036854775807:=rfl
def E.fam:E->E
 | .row _=>.lrow
 | e=>e
def E.made:E->E
 | .lrow=>.row true
 | e=>e
def E.zeroD:(e:E)->Option e.D
 | .int=>some (0:Int)
 | .byte=>some (0:Int)
 | .bool=>some false
 | .str=>some []
 | .row _=>some []
 | .lrow=>none
 | .vec=>some [0,0,0,0]
 | .pr=>none
def makeV (e?:Option E) (l c:AV) (obs:List O):Res:=
 match e?,l,c with
 | some .lrow,.int _ n,.int _ m=>.ok (n=m/\0<=n/\24*n<=281474976710656) (.own obs.length 0) (obs ++ [.mat (List.replicate n.toNat none) (List.replicate n.toNat []) 0 true])
 | some e,.int _ n,.int _ m=>
  match e.made.zeroD with
  | some z=>.ok (n=m/\0<=n/\e.bytes*n<=281474976710656) (.own obs.length 0) (obs ++ [.arr e.made (List.replicate n.toNat z) 0 true])
  | none=>.bad
 | _,_,_=>.bad
def allE (e:E):List AV->Option (List e.D)
 | []=>some []
 | x :: r=>match toE e x,allE e r with
  | some d,some l=>some (d :: l)
  | _,_=>none
def rowsOf:List AV->List O->Option (List (List Int)×List O)
 | [],obs=>some ([],obs)
 | .sl _ .int xs :: r,obs=>(rowsOf r obs).map fun p=>(xs :: p.1,p.2)
 | .lr _ xs :: r,obs=>(rowsOf r obs).map fun p=>(xs :: p.1,p.2)
 | .own id g :: r,obs=>match obs[id]? with
  | some (.arr .int xs g' _)=>if g=g' then(rowsOf r (obs.set id .dead)).map fun p=>(xs :: p.1,p.2)else none
  | _=>none
 | _,_=>none
def unapO:O->O
 | .ap _ ys _ g nn=>.arr .lrow ys g nn
 | o=>o
def FreshL (obs:List O) (l:Nat):Prop:=∀ o∈obs,∀ ys gg nn,unapO o=.arr .lrow ys gg nn->∀ p∈ys,p.1≠l
theorem lab_enc {tid:E->TypeId} {w:World} {V:Vw} {v:Value} {o:O} {ys:List (Nat×List Int)} {gg:Nat} {nn:Bool} (h:ORel tid w V v o) (he:unapO o=.arr .lrow ys gg nn):∃ cs,Enc V .lrow ys cs:=by
 cases o with
 | arr e xs g n2=>cases he;obtain⟨cs,_,h2,_⟩:=h;exact⟨cs,h2⟩
 | ap q xs fr g n2=>cases he;obtain⟨cs,_,h2,_⟩:=h;exact⟨cs,h2⟩
 | _=>cases he
def buildV (e?:Option E) (n:Nat) (parts:List (Nat×AV)) (obs:List O):Res:=
 match e? with
 | some e=>
  if parts.map (·.1)=List.range n/\n<=1000 then
   if e=.lrow then
    match parts with
    | []=>.ok True (.own obs.length 0) (obs ++ [.arr .lrow [] 0 true])
    | [(_,.lr l xs)]=>.ok True (.own obs.length 0) (obs ++ [.arr .lrow [(l,xs)] 0 true])
    | [(_,.sl true .int xs)]=>.ok True (.own obs.length 0) (obs ++ [.arr (.row true) [xs] 0 true])
    | [(_,.own id g)]=>match obs[id]? with
     | some (.arr .int xs g' true)=>if g=g' then
       .all (FreshL obs) (fun _=>.own obs.length 0) (fun l=>obs.set id .dead ++ [.arr .lrow [(l,xs)] 0 true])
      else .bad
     | _=>.bad
    | _=>match rowsOf (parts.map (·.2)) obs with
     | some (l,obs')=>.ok True (.own obs.length 0) (obs' ++ [.arr (.row false) l 0 true])
     | none=>.bad
   else
    match allE e (parts.map (·.2)) with
    | some l=>.ok (∀ s,AV.str s∈parts.map (·.2)->s.length<=maxLen) (.own obs.length 0) (obs ++ [.arr e l 0 true])
    | none=>.bad
  else .bad
 | none=>.bad
def convL:(e' e:E)->List e.D->Option (List e'.D)
 | .int,.int,ys=>some ys
 | .byte,.byte,ys=>some ys
 | .bool,.bool,ys=>some ys
 | .str,.str,ys=>some ys
 | .row true,.row true,ys=>some ys
 | .row true,.lrow,ys=>some (ys.map (·.2))
 | .row false,.row _,ys=>some ys
 | .row false,.lrow,ys=>some (ys.map (·.2))
 | .lrow,.lrow,ys=>some ys
 | .vec,.vec,ys=>some ys
 | .pr,.pr,ys=>some ys
 | _,_,_=>none
def hdrL:(e':E)->Nat->Nat->List O->Option (List e'.D)
 | .int,h,n,.mat hs rows _ _ :: _=>if some h∈hs/\n=(rows.getD (hs.idxOf (some h)) []).length then some (rows.getD (hs.idxOf (some h)) [])else none
 | .int,h,n,.cur _ _ :: .mat hs rows _ _ :: _=>if some h∈hs/\n=(rows.getD (hs.idxOf (some h)) []).length then some (rows.getD (hs.idxOf (some h)) [])else none
 | _,_,_,_=>none
def srcL (e':E) (x:AV) (obs:List O) (not:Option Nat):Option (List e'.D):=
 match x with
 | .sl _ e ys=>convL e' e ys
 | .lr _ ys=>convL e' .int ys
 | .nils=>some []
 | .emp _=>some []
 | .hdr (some h) n=>hdrL e' h n obs
 | .own id g=>if not=some id then none else match obs[id]? with
  | some (.arr e ys g' _)=>if g=g' then convL e' e ys else none
  | _=>none
 | _=>none
def appendV (e?:Option E) (s x:AV) (obs:List O):Res:=
 match e?,s with
 | some e,.own id g=>match obs[id]? with
  | some (.arr e' xs g' nn)=>
   if g=g'/\e'.fam=e.fam then
    match srcL e' x obs (some id) with
    | some ys=>.ok ((xs.length+ys.length)*e.bytes<=140737488355328) (.own id (g+1)) (obs.set id (.arr e' (xs ++ ys) (g+1) (nn || !ys.isEmpty)))
    | none=>.bad
   else .bad
  | some (.ap q ys fr g' nn)=>
   if g=g'/\E.lrow.fam=e.fam then
    match srcL .lrow x obs (some id) with
    | some zs=>.ok ((ys.length+zs.length)*e.bytes<=140737488355328) (.own id (g+1)) (obs.set id (.ap q (ys ++ zs) false (g+1) (nn || !zs.isEmpty)))
    | none=>.bad
   else .bad
  | some (.bag d g')=>
   if (g=g'/\2<=d.ph)/\E.pr.fam=e.fam then
    match srcL .pr x obs (some id) with
    | some ys=>.ok ((d.xs.length+ys.length)*e.bytes<=140737488355328) (.own id (g+1)) (obs.set id (.bag { d with st:=false,xs:=d.xs ++ ys } (g+1)))
    | none=>.bad
   else .bad
  | _=>.bad
 | some e,.nils=>match srcL e x obs none with
  | some ys=>.ok (ys.length*e.bytes<=140737488355328) (.own obs.length 0) (obs ++ [.arr e ys 0 (!ys.isEmpty)])
  | none=>.bad
 | _,_=>.bad
def bnd (d:Int):Option AV->Option Int
 | none=>some d
 | some (.int _ n)=>some n
 | _=>none
def sliceV (x:AV) (lo hi:Option AV) (obs:List O):Res:=
 match x with
 | .sl f e xs=>match bnd 0 lo,bnd xs.length hi with
  | some l,some h=>.ok (0<=l/\l<=h/\h<=xs.length) (.sl f e ((xs.drop l.toNat).take (h.toNat - l.toNat))) obs
  | _,_=>.bad
 | .lr _ xs=>match bnd 0 lo,bnd xs.length hi with
  | some l,some h=>.ok (0<=l/\l<=h/\h<=xs.length) (.sl true .int ((xs.drop l.toNat).take (h.toNat - l.toNat))) obs
  | _,_=>.bad
 | .str s=>match bnd 0 lo,bnd s.length hi with
  | some l,some h=>.ok (0<=l/\l<=h/\h<=s.length) (.str ((s.drop l.toNat).take (h.toNat - l.toNat))) obs
  | _,_=>.bad
 | _=>.bad
section sound
variable {C:Ctx} {obs:List O} {w:World} {ρ:Nat->Value}
theorem le_one {w':World} {id:Nat} {o o':O} {v:Value} (ho:obs[id]? = some o) (h:Ext (fun b=>fpo (ρ id) o b) w w')
  (hb:∀ b,fpo v o' b->fpo (ρ id) o b\/w.heap.size<=b):(C.V w obs ρ).le (C.V w' (obs.set id o') (fun i=>if i=id then v else ρ i)):=by
 refine⟨fun b x hx=>?_,fun _ h=>h,rfl⟩
 simp only [Ctx.V,mask]at hx ⊢
 split at hx
 ·cases hx
 ·rename_i hn
  have hlt:=(ageS.1 hx).1
  have hS:¬fpo (ρ id) o b:=fun hh=>hn ⟨id,o,ho,hh⟩
  have hn':¬Own (obs.set id o') (fun i=>if i=id then v else ρ i) b:=by
   rintro⟨j,oj,hj,hf⟩
   by_cases hji:id=j
   ·subst hji
    rw [List.getElem?_set_self (geS.1 ho).1]at hj
    cases hj
    rcases hb b (by simpa using hf)with hh | hh
    ·exact hS hh
    ·omega
   ·rw [List.getElem?_set_ne hji]at hj
    exact hn ⟨j,oj,hj,by simpa [Ne.symm hji] using hf⟩
  rw [if_neg hn',h.block b hlt hS]
  exact hx
theorem le_new {w':World} {o:O} {v:Value} (h:Ext (fun _=>False) w w')
  (hb:∀ b,fpo v o b->w.heap.size<=b):(C.V w obs ρ).le (C.V w' (obs ++ [o]) (fun i=>if i=obs.length then v else ρ i)):=by
 refine⟨fun b x hx=>?_,fun _ h=>h,rfl⟩
 simp only [Ctx.V,mask]at hx ⊢
 split at hx
 ·cases hx
 ·rename_i hn
  have hlt:=(ageS.1 hx).1
  have hn':¬Own (obs ++ [o]) (fun i=>if i=obs.length then v else ρ i) b:=by
   rintro⟨j,oj,hj,hf⟩
   rw [List.getElem?_append]at hj
   split at hj
   ·rename_i hl
    exact hn ⟨j,oj,hj,by simpa [Nat.ne_of_lt hl] using hf⟩
   ·have hj0:j=obs.length:=by
     rcases Nat.lt_or_ge obs.length j with k | k
     ·rw [geN (by simp;omega)]at hj;cases hj
     ·omega
    subst hj0
    simp at hj
    subst hj
    have:=hb b (by simpa using hf)
    omega
  rw [if_neg hn',h.block b hlt (fun k=>k)]
  exact hx
theorem toE_rel {V:Vw} {e:E} {x:AV} {d:e.D} {u:Value} (h:toE e x=some d) (hs:∀ s,x=.str s->s.length<=maxLen) (hx:AVRel V obs ρ x u):ElRel V e d u:=by
 unfold toE at h
 split at h<;>simp at h
 ·subst h;exact hx
 ·subst h;exact hx
 ·subst h;exact hx
 ·subst h;exact⟨hx,hs _ rfl⟩
 ·subst h;exact SlRel.toRow hx
 ·subst h;exact LRowRel.toRow hx
 ·subst h;exact(SlRel.toRow hx).weaken
 ·subst h;exact(LRowRel.toRow hx).weaken
 ·subst h;exact hx
 ·subst h;exact hx
 ·subst h;exact hx
theorem enc_set {V:Vw} {e:E} (h1:e.size=1) {xs:List e.D} {cs:List Value} (h:Enc V e xs cs) {k:Nat} {d:e.D} {u:Value} (hd:ElRel V e d u):Enc V e (xs.set k d) (cs.set k u):=by
 refine⟨by simpa using h.1,fun i hi=>?_⟩
 simp at hi
 by_cases hk:k=i
 ·subst hk
  refine⟨u,by simpa using hd,fun j hj=>?_⟩
  have:j=0:=by omega
  subst this
  have hl:k < cs.length:=by have:=h.1;rw [h1]at this;omega
  rw [(one_cells h1 hd).1]
  simp [h1,hl]
 ·obtain⟨z,hz,hc⟩:=h.2 i hi
  refine⟨z,by simpa [hk] using hz,fun j hj=>?_⟩
  have:j=0:=by omega
  subst this
  rw [<- hc 0 hj]
  simp [h1,List.getElem?_set_ne hk]
theorem get_set {α:Type} {l:List α} {i k:Nat} {a b:α} (h:(l.set k a)[i]? = some b):(i=k/\b=a)\/(i≠k/\l[i]? = some b):=by
 by_cases hk:k=i
 ·subst hk
  rw [List.getElem?_set_self' ]at h
  cases hh:l[k]? with
  | none=>rw [hh]at h;cases h
  | some c=>rw [hh]at h;cases h;exact .inl ⟨rfl,rfl⟩
 ·rw [List.getElem?_set_ne hk]at h
  exact .inr ⟨fun e=>hk e.symm,h⟩
theorem storeH_sound (hC:C.Ok) {t:TypeId} {id g k:Nat} {D:List Nat} {F:Nat->List Int} {hs:List Nat} {nn:Bool} {q m:Nat} (rr:WRel C obs w ρ) {u v:Value} (ho:obs[id]? = some (.gm D F hs g nn))
  (hx:AVRel (C.V w obs ρ) obs ρ (.elt id g 1 k) u) (hy:AVRel (C.V w obs ρ) obs ρ (.hdr (some q) m) v) (hsc:C.sc t=true) (hvc:q∈D/\m=(F q).length) :
  ∃ w',(Instr.storeAt t u v).run C.P w=.ok () w'/\Step C w w' obs (obs.set id (.gm D F (hs.set k q) g nn)) ρ ρ:=by
 obtain⟨hq,hm⟩:=hvc
 obtain⟨a,len,cap,hρ,hk,hu⟩:=(hx.2 g (by simp [genOf,ho,O.gen])).2 rfl
 subst hu
 obtain⟨cs,hown,hrow,hpool,hinj,hout,hnn,hml⟩:=rr.os id _ ho
 rw [hρ]at hown
 obtain⟨b,ha,hlen⟩:∃ b,a=⟨b,0,none⟩/\len=hs.length:=by
  rcases hown.2 with⟨hh,_⟩ | ⟨b,c2,cur,hh,_⟩
  ·cases hh
  ·cases hh;exact⟨b,rfl,rfl⟩
 subst ha hlen
 have hcl:cs.length=hs.length:=by have:=hown.1;omega
 have hvv:v=.slice (some ⟨hdB q,0,none⟩) (F q).length (hdC q):=by rw [<- hm];exact hy
 have hcell:=hown.cellAt k om
 have hfr:=hown.frozenAt k
 obtain⟨hst,hgr⟩:=hown.stored k v
 rw [geE om]at hcell
 obtain⟨i,hi,hi1⟩:=(sc_plain hC hsc).2
 have hone:v.oneCell'=true:=by rw [hvv];rfl
 have hrun:(Instr.storeAt t (.pointer (some ((⟨b,0,none⟩:Addr).add (k*1)))) v).run C.P w=.ok () (w.setCell ⟨b,k,none⟩ v):=by
  rw [add_plain]
  simp only [Nat.mul_one,Nat.zero_add,Instr.storeAt,Instr.sureAddr,storeVar,Sem.run_bind,Sem.run_pure,Result.andThen_ok]
  simp [sizeOf,typeInfo,hi,hi1,cells_oneCell hone,storeCells,run_store _ _ _ _ _ hone,Addr.add,hcell,hfr]
 have hfp:fpo (ρ id) (.gm D F hs g nn) b:=.inl (by rw [hρ];rfl)
 have hρe:(fun i=>if i=id then ρ id else ρ i)=ρ:=by funext i;split<;>simp_all
 refine⟨_,hrun,?_⟩
 have hext0:Ext (fun b'=>b'=b) w (w.setCell ⟨b,k,none⟩ v):=(Ext.grownBy hgr (run_drawn _ hrun)).mono fun x hx=>by cases hx;rfl
 have hext:Ext (fun b'=>fpo (ρ id) (.gm D F hs g nn) b') w (w.setCell ⟨b,k,none⟩ v):=hext0.mono fun x hx=>by cases hx;exact hfp
 have hb:∀ b',fpo (ρ id) (.gm D F (hs.set k q) g nn) b'->fpo (ρ id) (.gm D F hs g nn) b'\/w.heap.size<=b':=fun b' hb'=>.inl hb'
 have T:=Turn.one rr id (.gm D F hs g nn) (.gm D F (hs.set k q) g nn) (ρ id) ho hext (w':=w.setCell ⟨b,k,none⟩ v)
  (by
   refine⟨cs.set k v,by rw [hρ];simpa using hst,fun i1 h1 u1 q1 q2=>?_,fun h1 hm1=>(hpool h1 hm1).kept fun x hx=>?_,hinj,hout,hnn,by simpa using hml⟩
   ·rcases get_set q1 with⟨a1,a2⟩ | ⟨a1,a2⟩
    ·rcases get_set q2 with⟨_,b2⟩ | ⟨b1,_⟩
     ·subst a2 b2;exact⟨hq,hvv⟩
     ·exact absurd a1 b1
    ·rcases get_set q2 with⟨b1,_⟩ | ⟨_,b2⟩
     ·exact absurd b1 a1
     ·exact hrow i1 h1 u1 a2 b2
   ·have hx:=Option.some.inj hx
    subst hx
    refine hext0.block _ ((rr.os id _ ho).lt (b:=hdB h1) (.inr ⟨h1,hm1,rfl⟩)) fun e=>?_
    exact hout h1 hm1 (by rw [hρ,e];rfl)) hb
  (by
   intro c' hc'
   simp [O.gen]at hc'
   exact⟨g,by simp [O.gen],.inl ⟨hc'.symm,rfl⟩⟩)
 rw [hρe]at T
 exact T.step rr
theorem storeP_sound (hC:C.Ok) {t:TypeId} {q k:Nat} {n:Int} {D:List Nat} {F:Nat->List Int} {hs:List Nat} {g:Nat} {nn:Bool} {obs:List O} {id:Nat} (ho:obs[id]? = some (.gm D F hs g nn)) {w:World} {ρ:Nat->Value} (rr:WRel C obs w ρ) {u v:Value}
  (hx:AVRel (C.V w obs ρ) obs ρ (.hp q k) u) (hy:AVRel (C.V w obs ρ) obs ρ (.int .i64 n) v) (hsc:C.sc t=true) (hvc:q∈D/\k < (F q).length) :
  ∃ w',(Instr.storeAt t u v).run C.P w=.ok () w'/\Step C w w' obs (obs.set id (.gm D (updF F q k n) hs g nn)) ρ ρ:=by
 obtain⟨hq,hk⟩:=hvc
 have hu:u=.pointer (some ((⟨hdB q,0,none⟩:Addr).add k)):=hx
 have hv:v=.int .i64 n:=hy
 subst hu hv
 obtain⟨cs,hown,hrow,hpool,hinj,hout,hnn,hml⟩:=rr.os id _ ho
 obtain⟨_,cur,hg,m1,m2,m3,m4⟩:=hpool q hq
 have hin:w.ownsRow 0 (C.tid .int) 1 (.slice (some ⟨hdB q,0,none⟩) (F q).length (hdC q)) (F q).length ((F q).map (Value.int .i64)):=
  ⟨by simp,.inr ⟨hdB q,hdC q,cur,rfl,nz0 _,hg,m1,m2,by simpa using m3,by simpa using m4⟩⟩
 have hcell:=hin.cellAt k (by simpa using hk)
 have hfr:=hin.frozenAt k
 obtain⟨hst,hgr⟩:=hin.stored k (.int .i64 n)
 rw [geE (by simpa using hk)]at hcell
 obtain⟨i,hi,hi1⟩:=(sc_plain hC hsc).2
 have hone:(Value.int .i64 n).oneCell'=true:=rfl
 have hrun:(Instr.storeAt t (.pointer (some ((⟨hdB q,0,none⟩:Addr).add k))) (.int .i64 n)).run C.P w=.ok () (w.setCell ⟨hdB q,k,none⟩ (.int .i64 n)):=by
  rw [add_plain]
  simp only [Nat.zero_add,Instr.storeAt,Instr.sureAddr,storeVar,Sem.run_bind,Sem.run_pure,Result.andThen_ok]
  simp [sizeOf,typeInfo,hi,hi1,cells_oneCell hone,storeCells,run_store _ _ _ _ _ hone,Addr.add,hcell,hfr]
 have hfp:fpo (ρ id) (.gm D F hs g nn) (hdB q):=.inr ⟨q,hq,rfl⟩
 have hρe:(fun i=>if i=id then ρ id else ρ i)=ρ:=by funext i;split<;>simp_all
 refine⟨_,hrun,?_⟩
 have hext0:Ext (fun b'=>b'=hdB q) w (w.setCell ⟨hdB q,k,none⟩ (.int .i64 n)):=(Ext.grownBy hgr (run_drawn _ hrun)).mono fun x hx=>by cases hx;rfl
 have hext:Ext (fun b'=>fpo (ρ id) (.gm D F hs g nn) b') w (w.setCell ⟨hdB q,k,none⟩ (.int .i64 n)):=hext0.mono fun x hx=>by cases hx;exact hfp
 have hb:∀ b',fpo (ρ id) (.gm D (updF F q k n) hs g nn) b'->fpo (ρ id) (.gm D F hs g nn) b'\/w.heap.size<=b':=fun b' hb'=>.inl hb'
 have hlenF:∀ h,(updF F q k n h).length=(F h).length:=by
  intro h
  unfold updF
  split
  ·rename_i e;subst e;simp
  ·rfl
 have T:=Turn.one rr id (.gm D F hs g nn) (.gm D (updF F q k n) hs g nn) (ρ id) ho hext (w':=w.setCell ⟨hdB q,k,none⟩ (.int .i64 n))
  (by
   refine⟨cs,ownsRow_kept hown fun b' hb'=>hext0.block b' ((rr.os id _ ho).lt (b:=b') (.inl hb')) fun e=>hout q hq (by rw [hb',e]),fun i1 h1 u1 q1 q2=>by rw [hlenF];exact hrow i1 h1 u1 q1 q2,fun h1 hm1=>?_,hinj,hout,hnn,hml⟩
   rw [hlenF]
   by_cases hh:h1=q
   ·subst hh
    rcases hst.2 with⟨hz,_⟩ | ⟨b3,cap3,cur3,hv3,_,hg3,n1,n2,n3,n4⟩
    ·cases hz
    ·have ev:=Value.slice.inj hv3
     have eb:hdB h1=b3:=congrArg Addr.block (Option.some.inj ev.1)
     have ec:hdC h1=cap3:=ev.2.2
     subst eb ec
     refine⟨by rw [hlenF],cur3,hg3,by rw [hlenF];exact m1,m2,by simpa using n3,?_⟩
     rw [hlenF]
     have e1:updF F h1 k n h1=(F h1).set k n:=by simp [updF]
     rw [e1,List.map_set]
     simpa using n4
   ·have e1:updF F q k n h1=F h1:=by unfold updF;rw [if_neg hh]
    rw [e1]
    refine(hpool h1 hm1).kept fun x hx=>?_
    have hx:=Option.some.inj hx
    subst hx
    exact hext0.block _ ((rr.os id _ ho).lt (b:=hdB h1) (.inr ⟨h1,hm1,rfl⟩)) fun e=>hh (hinj h1 q hm1 hq e)) hb
  (by
   intro c' hc'
   simp [O.gen]at hc'
   exact⟨g,by simp [O.gen],.inl ⟨hc'.symm,rfl⟩⟩)
 rw [hρe]at T
 exact T.step rr
theorem storeR_sound (hC:C.Ok) {t:TypeId} {q k:Nat} {n:Int} {hs:List (Option Nat)} {rows:List (List Int)} {g:Nat} {nn:Bool} {obs:List O} {id:Nat} (ho:obs[id]? = some (.mat hs rows g nn)) {w:World} {ρ:Nat->Value} (rr:WRel C obs w ρ) {u v:Value}
  (hx:AVRel (C.V w obs ρ) obs ρ (.hp q k) u) (hy:AVRel (C.V w obs ρ) obs ρ (.int .i64 n) v) (hsc:C.sc t=true) (hvc:some q∈hs/\k < (rows.getD (hs.idxOf (some q)) []).length) :
  ∃ w',(Instr.storeAt t u v).run C.P w=.ok () w'/\Step C w w' obs (obs.set id (.mat hs (setM hs rows q k n) g nn)) ρ ρ:=by
 obtain⟨hq,hk⟩:=hvc
 have hu:u=.pointer (some ((⟨hdB q,0,none⟩:Addr).add k)):=hx
 have hv:v=.int .i64 n:=hy
 subst hu hv
 obtain⟨cs,hown,hlen,hrow,hinj,hout,hnn,hml⟩:=rr.os id _ ho
 have hi0:hs.idxOf (some q) < hs.length:=List.idxOf_lt_length_iff.2 hq
 have hat:hs[hs.idxOf (some q)]? = some (some q):=by rw [geE hi0];simp
 have hcl:cs.length=rows.length:=by have:=hown.1;omega
 unfold setM
 generalize hs.idxOf (some q)=i0 at *
 have hrow0:rows[i0]? = some (rows.getD i0 []):=by rw [gdE,geE om];simp
 generalize hX:rows.getD i0 []=X at *
 obtain⟨hvx,cur,hg,m1,m2,m3,m4⟩:=hrow i0 (some q) X cs[i0] hat hrow0 (by simp)
 have hin:w.ownsRow 0 (C.tid .int) 1 (.slice (some ⟨hdB q,0,none⟩) X.length (hdC q)) X.length (X.map (Value.int .i64)):=
  ⟨by simp,.inr ⟨hdB q,hdC q,cur,rfl,nz0 _,hg,m1,m2,by simpa using m3,by simpa using m4⟩⟩
 have hcell:=hin.cellAt k (by simpa using hk)
 have hfr:=hin.frozenAt k
 obtain⟨hst,hgr⟩:=hin.stored k (.int .i64 n)
 rw [geE (by simpa using hk)]at hcell
 obtain⟨i,hi,hi1⟩:=(sc_plain hC hsc).2
 have hone:(Value.int .i64 n).oneCell'=true:=rfl
 have hrun:(Instr.storeAt t (.pointer (some ((⟨hdB q,0,none⟩:Addr).add k))) (.int .i64 n)).run C.P w=.ok () (w.setCell ⟨hdB q,k,none⟩ (.int .i64 n)):=by
  rw [add_plain]
  simp only [Nat.zero_add,Instr.storeAt,Instr.sureAddr,storeVar,Sem.run_bind,Sem.run_pure,Result.andThen_ok]
  simp [sizeOf,typeInfo,hi,hi1,cells_oneCell hone,storeCells,run_store _ _ _ _ _ hone,Addr.add,hcell,hfr]
 have hfp:fpo (ρ id) (.mat hs rows g nn) (hdB q):=.inr ⟨q,hq,rfl⟩
 have hρe:(fun i=>if i=id then ρ id else ρ i)=ρ:=by funext i;split<;>simp_all
 refine⟨_,hrun,?_⟩
 have hext0:Ext (fun b'=>b'=hdB q) w (w.setCell ⟨hdB q,k,none⟩ (.int .i64 n)):=(Ext.grownBy hgr (run_drawn _ hrun)).mono fun x hx=>by cases hx;rfl
 have hext:Ext (fun b'=>fpo (ρ id) (.mat hs rows g nn) b') w (w.setCell ⟨hdB q,k,none⟩ (.int .i64 n)):=hext0.mono fun x hx=>by cases hx;exact hfp
 have hb:∀ b',fpo (ρ id) (.mat hs (rows.set i0 (X.set k n)) g nn) b'->fpo (ρ id) (.mat hs rows g nn) b'\/w.heap.size<=b':=fun b' hb'=>.inl hb'
 have T:=Turn.one rr id (.mat hs rows g nn) (.mat hs (rows.set i0 (X.set k n)) g nn) (ρ id) ho hext (w':=w.setCell ⟨hdB q,k,none⟩ (.int .i64 n))
  (by
   refine⟨cs,by rw [List.length_set];exact ownsRow_kept hown fun b' hb'=>hext0.block b' ((rr.os id _ ho).lt (b:=b') (.inl hb')) fun e=>hout q hq (by rw [hb',e]),by rw [List.length_set];exact hlen,fun i1 h1 xs u1 q1 q2 q3=>?_,hinj,hout,hnn,by rw [List.length_set];exact hml⟩
   by_cases hii:i1=i0
   ·subst hii
    rw [hat]at q1
    cases q1
    rw [List.getElem?_set_self om]at q2
    cases q2
    have q3':u1=cs[i1]:=by rw [geE om]at q3;exact(Option.some.inj q3).symm
    rcases hst.2 with⟨hz,_⟩ | ⟨b3,cap3,cur3,hv3,_,hg3,n1,n2,n3,n4⟩
    ·cases hz
    ·have ev:=Value.slice.inj hv3
     have eb:hdB q=b3:=congrArg Addr.block (Option.some.inj ev.1)
     have ec:hdC q=cap3:=ev.2.2
     subst eb ec
     refine⟨by rw [q3',List.length_set];exact hvx,cur3,hg3,by simpa using m1,m2,by simpa using n3,?_⟩
     rw [List.map_set]
     simpa using n4
   ·rw [List.getElem?_set_ne (Ne.symm hii)]at q2
    refine(hrow i1 h1 xs u1 q1 q2 q3).kept fun x hx=>?_
    subst hx
    exact hext0.block _ ((rr.os id _ ho).lt (b:=hdB x) (.inr ⟨x,List.mem_of_getElem? q1,rfl⟩)) fun e=>hii (hinj i1 i0 x q q1 hat e)) hb
  (by
   intro c' hc'
   simp [O.gen]at hc'
   exact⟨g,by simp [O.gen],.inl ⟨hc'.symm,rfl⟩⟩)
 rw [hρe]at T
 exact T.step rr
theorem storeV_sound (hC:C.Ok) {t:TypeId} {x y:AV} {vc:Prop} {o:List O} (rr:WRel C obs w ρ) {u v:Value}
  (hx:AVRel (C.V w obs ρ) obs ρ x u) (hy:AVRel (C.V w obs ρ) obs ρ y v) (hs:∀ s,y=.str s->s.length<=maxLen) (h:storeV (C.sc t) x y obs=.skip vc o) (hvc:vc) :
  ∃ w',(Instr.storeAt t u v).run C.P w=.ok () w'/\Step C w w' obs o ρ ρ:=by
 unfold storeV at h
 split at h
 case h_3=>cases h
 case h_2=>
  rename_i q k
  split at h
  case h_4=>cases h
  case h_3=>
   rename_i n s0 g1 hs rows g nn rest
   split at h
   case isFalse=>cases h
   rename_i hsc
   cases h
   exact storeR_sound (id:=1) hC rfl rr hx hy hsc hvc
  case h_2=>
   rename_i n hs rows g nn rest
   split at h
   case isFalse=>cases h
   rename_i hsc
   cases h
   exact storeR_sound (id:=0) hC rfl rr hx hy hsc hvc
  rename_i n D F hs g nn rest
  split at h
  case isFalse=>cases h
  rename_i hsc
  cases h
  exact storeP_sound (id:=0) hC rfl rr hx hy hsc hvc
 rename_i id g s k
 split at h
 case h_4=>cases h
 case h_3=>
  rename_i D F hs2 g' nn ho
  split at h
  case isFalse=>cases h
  rename_i hc
  obtain⟨hg,hss,hsc⟩:=hc
  subst hg hss
  split at h
  case h_2=>cases h
  rename_i q m
  cases h
  exact storeH_sound hC rr ho hx hy hsc hvc
 case h_2=>
  split at h
  case isFalse=>cases h
  split at h
  case h_2=>cases h
  split at h
  case h_2=>cases h
  split at h<;>cases h
 rename_i e xs g' nn ho
 split at h
 case isFalse=>cases h
 rename_i hc
 obtain⟨hg,hss,hsc,h1⟩:=hc
 subst hg hss
 split at h
 case h_2=>cases h
 rename_i d hd
 cases h
 have hel:=toE_rel hd hs hy
 obtain⟨a,len,cap,hρ,hk,hu⟩:=(hx.2 g (by simp [genOf,ho,O.gen])).2 rfl
 subst hu
 obtain⟨cs,hown,henc,hnn,hml⟩:=rr.os id _ ho
 rw [hρ]at hown
 obtain⟨b,ha,hlen⟩:∃ b,a=⟨b,0,none⟩/\len=xs.length:=by
  rcases hown.2 with⟨hh,_⟩ | ⟨b,c2,cur,hh,_⟩
  ·cases hh
  ·cases hh;exact⟨b,rfl,rfl⟩
 subst ha hlen
 have hcl:cs.length=xs.length:=by have:=henc.1;rw [h1]at this;omega
 have hcell:=hown.cellAt k (by rw [h1];omega)
 have hfr:=hown.frozenAt k
 obtain⟨hst,hgr⟩:=hown.stored k v
 rw [geE om]at hcell
 obtain⟨i,hi,hi1⟩:=(sc_plain hC hsc).2
 have hv1:=one_cells h1 hel
 have hrun:(Instr.storeAt t (.pointer (some ((⟨b,0,none⟩:Addr).add (k*e.size)))) v).run C.P w=.ok () (w.setCell ⟨b,k,none⟩ v):=by
  rw [add_plain,h1]
  simp only [Nat.mul_one,Nat.zero_add,Instr.storeAt,Instr.sureAddr,storeVar,Sem.run_bind,Sem.run_pure,Result.andThen_ok]
  simp [sizeOf,typeInfo,hi,hi1,hv1.1,storeCells,run_store _ _ _ _ _ hv1.2,Addr.add,hcell,hfr]
 have hfp:fpo (ρ id) (.arr e xs g nn) b:=by simp [fpo,hρ,Value.ownBlock]
 have hρe:(fun i=>if i=id then ρ id else ρ i)=ρ:=by funext i;split<;>simp_all
 refine⟨_,hrun,?_⟩
 have hext:Ext (fun b'=>fpo (ρ id) (.arr e xs g nn) b') w (w.setCell ⟨b,k,none⟩ v):=(Ext.grownBy hgr (run_drawn _ hrun)).mono fun x hx=>by cases hx;exact hfp
 have hb:∀ b',fpo (ρ id) (.arr e (xs.set k d) g nn) b'->fpo (ρ id) (.arr e xs g nn) b'\/w.heap.size<=b':=fun b' hb'=>.inl hb'
 have hV:=le_one (C:=C) ho hext hb
 have T:=Turn.one rr id (.arr e xs g nn) (.arr e (xs.set k d) g nn) (ρ id) ho hext (w':=w.setCell ⟨b,k,none⟩ v)
  (by
   rw [hρe]at hV ⊢
   refine⟨cs.set k v,?_,enc_set h1 (henc.mono hV) (hel.mono hV),hnn,by simpa using hml⟩
   rw [hρ]
   simpa using hst) hb
  (by
   intro c' hc'
   simp [O.gen]at hc'
   exact⟨g,by simp [O.gen],.inl ⟨hc'.symm,rfl⟩⟩)
 rw [hρe]at T
 exact T.step rr
theorem hd_of (l cap:Nat) (h:cap<=maxLen):hdB (l*18446744073709551616+cap)=l/\hdC (l*18446744073709551616+cap)=cap:=by
 rw [maxLen_num]at h
 unfold hdB hdC
 constructor<;>omega
theorem storeM_sound (hC:C.Ok) {t:TypeId} {x y:AV} {p:Nat->Prop} {r:Nat->AV} {o:Nat->List O} (rr:WRel C obs w ρ) {u v:Value}
  (hx:AVRel (C.V w obs ρ) obs ρ x u) (hy:AVRel (C.V w obs ρ) obs ρ y v) (h:storeV (C.sc t) x y obs=.all p r o) :
  ∃ w' l,p l/\(Instr.storeAt t u v).run C.P w=.ok () w'/\r l=.junk/\Step C w w' obs (o l) ρ ρ:=by
 unfold storeV at h
 split at h
 case h_3=>cases h
 case h_2=>
  split at h
  ·split at h<;>cases h
  ·split at h<;>cases h
  ·split at h<;>cases h
  ·cases h
 rename_i id g s k
 split at h
 case h_4=>cases h
 case h_3=>
  split at h
  ·split at h<;>cases h
  ·cases h
 case h_1=>
  split at h
  case isFalse=>cases h
  split at h<;>cases h
 rename_i hs rows g' nn ho
 split at h
 case isFalse=>cases h
 rename_i hc
 obtain⟨hg,hss,hsc⟩:=hc
 subst hg hss
 split at h
 case h_2=>cases h
 rename_i id2 g2
 split at h
 case h_2=>cases h
 rename_i xs g2' ho2
 split at h
 case isFalse=>cases h
 rename_i hg2
 subst hg2
 cases h
 have hne:id2≠id:=fun e=>by subst e;rw [ho]at ho2;cases ho2
 obtain⟨a,len,cap,hρ,hk,hu⟩:=(hx.2 g (by simp [genOf,ho,O.gen])).2 rfl
 subst hu
 have hM:=rr.os id _ ho
 obtain⟨cs,hown,hhl,hrow,hnd,hout,hnn,hml⟩:=hM
 rw [hρ]at hown
 obtain⟨b,ha,hlen⟩:∃ b,a=⟨b,0,none⟩/\len=rows.length:=by
  rcases hown.2 with⟨hh,_⟩ | ⟨b,c2,cur,hh,_⟩
  ·cases hh
  ·cases hh;exact⟨b,rfl,rfl⟩
 subst ha hlen
 have hcl:cs.length=rows.length:=by have:=hown.1;omega
 obtain⟨hv2,cs2,hown2,henc2,hnn2,hml2⟩:=own_arr rr ho2 hy
 have hcs2:cs2=xs.map (Value.int .i64):=by
  apply List.ext_getElem?
  intro i
  have hl:=henc2.1
  simp only [E.size,Nat.mul_one]at hl
  by_cases hi:i < xs.length
  ·obtain⟨u,hu,hc⟩:=henc2.2 i hi
   have h0:=hc 0 (by simp [E.size])
   cases hu
   simp [E.size,Value.cells]at h0
   rw [h0]
   simp [hi]
  ·rw [geN om,geN (by simp;omega)]
 subst hcs2
 rcases hown2.2 with⟨hvn,_⟩ | ⟨l2,cap2,cur2,hvv,_,hg2,m1,m2,m3,m4⟩
 ·exact absurd hvn (hv2▸hnn2 rfl)
 have hfp2:fpo (ρ id2) (.arr .int xs g2 true) l2:=by rw [<- hv2];simp [fpo,hvv,Value.ownBlock]
 have hfpb:fpo (ρ id) (.mat hs rows g nn) b:=.inl (by rw [hρ];rfl)
 have hl2b:l2≠b:=fun e=>hne (rr.dis id2 id _ _ l2 ho2 ho hfp2 (e▸hfpb))
 have hcell:=hown.cellAt k om
 have hfr:=hown.frozenAt k
 obtain⟨hst,hgr⟩:=hown.stored k v
 rw [geE om]at hcell
 obtain⟨i,hi,hi1⟩:=(sc_plain hC hsc).2
 have hone:v.oneCell'=true:=by rw [hvv];rfl
 have hrun:(Instr.storeAt t (.pointer (some ((⟨b,0,none⟩:Addr).add (k*1)))) v).run C.P w=.ok () (w.setCell ⟨b,k,none⟩ v):=by
  rw [add_plain]
  simp only [Nat.mul_one,Nat.zero_add,Instr.storeAt,Instr.sureAddr,storeVar,Sem.run_bind,Sem.run_pure,Result.andThen_ok]
  simp [sizeOf,typeInfo,hi,hi1,cells_oneCell hone,storeCells,run_store _ _ _ _ _ hone,Addr.add,hcell,hfr]
 obtain⟨e1,e2⟩:=hd_of l2 cap2 m2
 have hlt:id < obs.length:=(geS.1 ho).1
 have hlt2:id2 < obs.length:=(geS.1 ho2).1
 have hext0:Ext (fun b'=>b'=b) w (w.setCell ⟨b,k,none⟩ v):=(Ext.grownBy hgr (run_drawn _ hrun)).mono fun x hx=>by cases hx;rfl
 refine⟨_,l2*18446744073709551616+cap2,trivial,hrun,rfl,?_⟩
 have T:Turn C w (w.setCell ⟨b,k,none⟩ v) obs ((obs.set id2 .dead).set id (.mat (hs.set k (some (l2*18446744073709551616+cap2))) (rows.set k xs) g nn)) ρ ρ
   (fun b'=>fpo (ρ id) (.mat hs rows g nn) b'\/fpo (ρ id2) (.arr .int xs g2 true) b'):=by
  have get:∀(j:Nat) (o1:O),((obs.set id2 .dead).set id (.mat (hs.set k (some (l2*18446744073709551616+cap2))) (rows.set k xs) g nn))[j]? = some o1 ->
    (id=j/\o1=.mat (hs.set k (some (l2*18446744073709551616+cap2))) (rows.set k xs) g nn)\/(id2=j/\o1=.dead)\/(j≠id/\j≠id2/\obs[j]? = some o1):=by
   intro j o1 hj
   rcases get_set hj with⟨h1,h2⟩ | ⟨h1,h2⟩
   ·exact .inl ⟨h1.symm,h2⟩
   ·rcases get_set h2 with⟨h3,h4⟩ | ⟨h3,h4⟩
    ·exact .inr (.inl ⟨h3.symm,h4⟩)
    ·exact .inr (.inr ⟨h1,h3,h4⟩)
  have newfp:∀ b',fpo (ρ id) (.mat (hs.set k (some (l2*18446744073709551616+cap2))) (rows.set k xs) g nn) b'->fpo (ρ id) (.mat hs rows g nn) b'\/fpo (ρ id2) (.arr .int xs g2 true) b':=by
   rintro b' (h | ⟨h,hm,rfl⟩)
   ·exact .inl (.inl h)
   ·obtain⟨j,hj⟩:=List.getElem?_of_mem hm
    rcases get_set hj with⟨_,h2⟩ | ⟨_,h2⟩
    ·cases h2;rw [e1];exact .inr hfp2
    ·exact .inl (.inr ⟨h,List.mem_of_getElem? h2,rfl⟩)
  refine⟨hext0.mono fun x hx=>by cases hx;exact .inl hfpb,by simp,fun b' hb'=>?_,fun j o1 hj=>?_,fun i1 j o1 o2 b' hi1' hj bi bj hS=>?_⟩
  ·rcases hb' with h | h
   ·exact⟨id,_,ho,h⟩
   ·exact⟨id2,_,ho2,h⟩
  ·rcases get j o1 hj with⟨rfl,rfl⟩ | ⟨rfl,rfl⟩ | ⟨n1,n2,h3⟩
   ·refine .inr ⟨?_,fun b' hb'=>.inl (newfp b' hb'),fun _ c' hc'=>⟨g,by simp [genOf,ho,O.gen],.inl ⟨by simp [O.gen]at hc';exact hc'.symm,rfl⟩⟩⟩
    refine⟨cs.set k v,by rw [hρ];simpa using hst,by simpa using hhl,fun i1 h1 xs1 u1 q1 q2 q3=>?_,fun i1 j1 h1 h2 q1 q2 q3=>?_,fun h1 q1=>?_,hnn,by simpa using hml⟩
    ·rcases get_set q1 with⟨a1,a2⟩ | ⟨a1,a2⟩
     ·subst a1 a2
      rcases get_set q2 with⟨_,b2⟩ | ⟨b1,_⟩
      ·rcases get_set q3 with⟨_,c2⟩ | ⟨c1,_⟩
       ·subst b2 c2
        refine⟨by rw [e1,e2];exact hvv,cur2,?_,by rw [e2];exact m1,by rw [e2];exact m2,by rw [e2];simpa [E.size] using m3,by simpa [E.size] using m4⟩
        rw [e1,hext0.block l2 (ageS.1 hg2).1 hl2b]
        exact hg2
       ·exact absurd rfl c1
      ·exact absurd rfl b1
     ·rcases get_set q2 with⟨b1,_⟩ | ⟨_,b2⟩
      ·exact absurd b1 a1
      ·rcases get_set q3 with⟨c1,_⟩ | ⟨_,c2⟩
       ·exact absurd c1 a1
       ·refine(hrow i1 h1 xs1 u1 a2 b2 c2).kept fun x hx=>?_
        subst hx
        have hmem:some x∈hs:=List.mem_of_getElem? a2
        refine hext0.block _ ((rr.os id _ ho).lt (b:=hdB x) (.inr ⟨x,hmem,rfl⟩)) fun e=>?_
        exact hout x hmem (by rw [hρ,e];rfl)
    ·have other:∀(n1:Nat) (hh:Nat),hs[n1]? = some (some hh)->hdB hh≠l2:=fun n1 hh q e=>
      hne (rr.dis id2 id _ _ l2 ho2 ho hfp2 (.inr ⟨hh,List.mem_of_getElem? q,e⟩))
     rcases get_set q1 with⟨a1,a2⟩ | ⟨a1,a2⟩<;>rcases get_set q2 with⟨b1,b2⟩ | ⟨b1,b2⟩
     ·exact a1.trans b1.symm
     ·cases a2;rw [e1]at q3;exact absurd q3.symm (other j1 h2 b2)
     ·cases b2;rw [e1]at q3;exact absurd q3 (other i1 h1 a2)
     ·exact hnd i1 j1 h1 h2 a2 b2 q3
    ·obtain⟨j1,q2⟩:=List.getElem?_of_mem q1
     rcases get_set q2 with⟨a1,a2⟩ | ⟨a1,a2⟩
     ·cases a2;rw [e1,hρ];intro hh;simp [Value.ownBlock]at hh;exact hl2b hh.symm
     ·exact hout h1 (List.mem_of_getElem? a2)
   ·exact .inr ⟨trivial,fun b' hb'=>hb'.elim,fun _ c' hc'=>by simp [O.gen]at hc'⟩
   ·refine .inl ⟨h3,rfl,fun b' hb' hh=>?_⟩
    rcases hh with hh | hh
    ·exact n1 (rr.dis j id _ _ b' h3 ho hb' hh)
    ·exact n2 (rr.dis j id2 _ _ b' h3 ho2 hb' hh)
  ·have key:∀(i1:Nat) (o1:O),((obs.set id2 .dead).set id (.mat (hs.set k (some (l2*18446744073709551616+cap2))) (rows.set k xs) g nn))[i1]? = some o1->fpo (ρ i1) o1 b'->i1=id:=by
    intro i1 o1 h1 h2
    rcases get i1 o1 h1 with⟨h,_⟩ | ⟨rfl,rfl⟩ | ⟨n1,n2,h3⟩
    ·exact h.symm
    ·exact h2.elim
    ·exfalso
     rcases hS with(hh | hh) | hh
     ·exact n1 (rr.dis i1 id _ _ b' h3 ho h2 hh)
     ·exact n2 (rr.dis i1 id2 _ _ b' h3 ho2 h2 hh)
     ·have:=(rr.os i1 o1 h3).lt h2;omega
   rw [key i1 o1 hi1' bi,key j o2 hj bj]
 exact T.step rr
theorem enc_replicate {V:Vw} {e:E} {z:e.D} {u:Value} (hz:ElRel V e z u) {n:Nat} {cs:List Value} (hl:cs.length=n*e.size) (hc:∀ j,j < n*e.size->cs[j]? = u.cells[j % e.size]?) :
  Enc V e (List.replicate n z) cs:=by
 refine⟨by simpa using hl,fun i hi=>⟨u,by simpa using hz,fun j hj=>?_⟩⟩
 simp at hi
 have hlt:i*e.size+j < n*e.size:=by
  have:(i+1)*e.size<=n*e.size:=Nat.mul_le_mul_right _ hi
  rw [Nat.add_mul]at this
  omega
 rw [hc _ hlt]
 congr 1
 rw [Nat.mul_comm,Nat.mul_add_mod,Nat.mod_eq_of_lt hj]
theorem zeroD_rel {V:Vw} {e:E} {z:e.D} (h:e.zeroD=some z):ElRel V e z e.zero:=by
 cases e<;>simp [E.zeroD]at h<;>subst h
 ·rfl
 ·rfl
 ·rfl
 ·exact⟨rfl,by simp⟩
 ·exact⟨none,0,rfl,by simp,by simp,fun i hi=>by simp at hi⟩
 ·exact⟨rfl,rfl⟩
theorem zero_fam (e:E):e.made.zero=e.zero/\e.made.size=e.size:=by
 cases e<;>simp [E.zero,E.size,E.made]
theorem tid_fam (hC:C.Ok) (e:E):C.tid e.made=C.tid e:=by
 cases e<;>first | rfl | exact hC.same true
theorem madeCells_get (z:Array Value) (n j:Nat) (h:j < n) (hz:0 < z.size):(madeCells z n).toList[j]? = z[j % z.size]?:=by
 have hm:j % z.size < z.size:=Nat.mod_lt _ hz
 simp [madeCells,h,hm,getElem!_pos]
theorem makeV_sound (hC:C.Ok) {t:TypeId} {x y:AV} {vc:Prop} {r:AV} {o:List O} (rr:WRel C obs w ρ) {u v:Value}
  (hx:AVRel (C.V w obs ρ) obs ρ x u) (hy:AVRel (C.V w obs ρ) obs ρ y v) (h:makeV (C.Γ t) x y obs=.ok vc r o) (hv:vc) :
  ∃ z w' ρ',(Instr.makeSlice t u v).run C.P w=.ok z w'/\Step C w w' obs o ρ ρ'/\AVRel (C.V w' o ρ') o ρ' r z:=by
 unfold makeV at h
 split at h
 case h_3=>cases h
 case h_1=>
  rename_i k n k2 m he
  cases h
  obtain⟨rfl,h0,hb⟩:=hv
  simp only [AVRel]at hx hy
  subst hx hy
  obtain⟨ht,i,hi,hzero,hsize,hbytes⟩:=hC.sl t .lrow he
  obtain⟨q,rfl⟩:=Int.eq_ofNat_of_zero_le h0
  have hbq:24*q<=281474976710656:=by omega
  have hq:q<=maxLen:=by rw [maxLen_num];omega
  obtain⟨w',hrun,hown,hgr⟩:=run_make_full (P:=C.P) w 0 t (C.tid .lrow) i (E.zero .lrow) 1 ht hi hzero hsize k k2 q (by rw [hbytes];exact hbq) hq (nz0 _)
  have hext:Ext (fun _=>False) w w':=(Ext.grownBy hgr (run_drawn _ hrun)).mono fun x hx=>by cases hx
  have hfb:∀ b,fpo (.slice (some ⟨w.heap.size,0,none⟩) q q) (.mat (List.replicate (q:Int).toNat none) (List.replicate (q:Int).toNat []) 0 true) b->w.heap.size<=b:=by
   rintro b (hb | ⟨h,hm,_⟩)
   ·simp [Value.ownBlock]at hb
    omega
   ·simp at hm
  refine⟨_,w',_,hrun,(Turn.new rr hext _ (.slice (some ⟨w.heap.size,0,none⟩) q q) ?_ hfb).step rr,?_⟩
  ·refine⟨_,by simpa using hown,by simp,fun i1 h1 xs1 u1 q1 q2 q3=>?_,fun i1 j1 h1 h2 q1=>?_,fun h1 q1=>by simp at q1,by simp,by simpa using hq⟩
   ·have hlt:i1 < q:=by
     have:=(geS.1 q1).1
     simpa using this
    rw [List.getElem?_replicate]at q1 q2
    rw [if_pos (by simpa using hlt)]at q1 q2
    cases q1
    cases q2
    have h3:=madeCells_get (E.zero .lrow).cells (q*1) i1 om (by decide)
    rw [Nat.mul_one,q3]at h3
    have h4:i1 % (E.zero .lrow).cells.size=0:=Nat.mod_one _
    rw [h4]at h3
    refine⟨?_,rfl⟩
    simpa [E.zero,Value.cells] using h3
   ·rw [List.getElem?_replicate]at q1
    split at q1<;>cases q1
  ·refine⟨by simp,fun c hc=>?_⟩
   have:c=0:=by simpa [genOf,O.gen] using hc.symm
   subst this
   simp
 rename_i _ e k n k2 m _ he
 split at h
 case h_2=>cases h
 rename_i z hz
 cases h
 obtain⟨rfl,h0,hb⟩:=hv
 simp only [AVRel]at hx hy
 subst hx hy
 obtain⟨ht,i,hi,hzero,hsize,hbytes⟩:=hC.sl t e he
 obtain⟨q,rfl⟩:=Int.eq_ofNat_of_zero_le h0
 have hbq:e.bytes*q<=281474976710656:=by
  have:((e.bytes*q:Nat):Int)<=281474976710656:=by rw [Int.natCast_mul];exact hb
  omega
 have hbp:0 < e.bytes:=by cases e<;>simp [E.bytes]
 have hq:q<=maxLen:=by
  have:q<=e.bytes*q:=Nat.le_mul_of_pos_left q hbp
  rw [maxLen_num];omega
 have hzs:e.zero.cells.size=e.size:=by cases e<;>rfl
 obtain⟨w',hrun,hown,hgr⟩:=run_make_full (P:=C.P) w 0 t (C.tid e) i e.zero e.size ht hi hzero hsize k k2 q (by rw [hbytes];exact hbq) hq (nz0 _)
 have hext:Ext (fun _=>False) w w':=(Ext.grownBy hgr (run_drawn _ hrun)).mono fun x hx=>by cases hx
 obtain⟨hzf,hsf⟩:=zero_fam e
 have hfb:∀ b,fpo (.slice (some ⟨w.heap.size,0,none⟩) q q) (.arr e.made (List.replicate (q:Int).toNat z) 0 true) b->w.heap.size<=b:=by
  intro b hb
  simp [fpo,Value.ownBlock]at hb
  omega
 have hV:=le_new (C:=C) (obs:=obs) (ρ:=ρ) hext hfb
 refine⟨_,w',_,hrun,(Turn.new rr hext _ (.slice (some ⟨w.heap.size,0,none⟩) q q) ?_ hfb).step rr,?_⟩
 ·refine⟨_,?_,enc_replicate (u:=e.zero) (n:=q) (by have:=zeroD_rel (V:=C.V w' (obs ++ [.arr e.made (List.replicate (q:Int).toNat z) 0 true]) (fun i=>if i=obs.length then .slice (some ⟨w.heap.size,0,none⟩) q q else ρ i)) hz;rw [hzf]at this;exact this) (by rw [hsf];exact hown.1) ?_,by simp,by simpa using hq⟩
  ·rw [tid_fam hC,hsf]
   simpa using hown
  ·intro j hj
   rw [hsf]at hj ⊢
   rw [madeCells_get _ _ _ hj (by rw [hzs];exact e.size_pos),hzs]
 ·refine⟨by simp,fun c hc=>?_⟩
  have:c=0:=by simpa [genOf,O.gen] using hc.symm
  subst this
  simp
theorem convL_rel {V:Vw} {e' e:E} {ys:List e.D} {zs:List e'.D} (h:convL e' e ys=some zs) {i:Nat} (hi:i < ys.length) :
  ∃ hi':i < zs.length,e'.size=e.size/\∀ u,ElRel V e ys[i] u->ElRel V e' zs[i] u:=by
 unfold convL at h
 split at h<;>simp at h<;>subst h
 ·exact⟨hi,rfl,fun u k=>k⟩
 ·exact⟨hi,rfl,fun u k=>k⟩
 ·exact⟨hi,rfl,fun u k=>k⟩
 ·exact⟨hi,rfl,fun u k=>k⟩
 ·exact⟨hi,rfl,fun u k=>k⟩
 ·exact⟨by simpa using hi,rfl,fun u k=>by have k2:=LRowRel.toRow k;simpa [ElRel] using k2⟩
 ·exact⟨hi,rfl,fun u k=>RowRel.weaken k⟩
 ·exact⟨by simpa using hi,rfl,fun u k=>by have k2:=(LRowRel.toRow k).weaken;simpa [ElRel] using k2⟩
 ·exact⟨hi,rfl,fun u k=>k⟩
 ·exact⟨hi,rfl,fun u k=>k⟩
 ·exact⟨hi,rfl,fun u k=>k⟩
theorem convL_len {e' e:E} {ys:List e.D} {zs:List e'.D} (h:convL e' e ys=some zs):zs.length=ys.length:=by
 unfold convL at h
 split at h<;>simp at h<;>subst h<;>simp
def SrcCells (w:World) (V:Vw) (e:E) (zs:List e.D) (v:Value):Prop:=
 (zs=[]/\∃ b c,v=.slice b 0 c) \/
 ∃ a c news,v=.slice (some a) zs.length c/\(∀ j u,news[j]? = some u->w.cell? (a.add j)=some u)/\(∀ u∈news,u.oneCell'=true)/\Enc V e zs news
theorem Enc.conv {V:Vw} {e' e:E} {ys:List e.D} {zs:List e'.D} (h:convL e' e ys=some zs) {cs:List Value} (k:Enc V e ys cs):Enc V e' zs cs:=by
 have hl:=convL_len h
 by_cases hz:ys.length=0
 ·have h1:=k.1
  rw [hz]at h1 hl
  exact⟨by rw [hl];simpa using h1,fun i hi=>by omega⟩
 ·have hs:e'.size=e.size:=(convL_rel (V:=V) h (i:=0) om).2.1
  refine⟨by rw [hl,hs];exact k.1,fun i hi=>?_⟩
  obtain⟨u,hu,hc⟩:=k.2 i om
  obtain⟨_,_,hr⟩:=convL_rel (V:=V) h (i:=i) om
  exact⟨u,hr u hu,fun j hj=>by rw [hs]at hj ⊢;exact hc j hj⟩
theorem SlRel.src {f:Bool} {e:E} {ys:List e.D} {v:Value} (h:SlRel (C.V w obs ρ) f e ys v) {e':E} {zs:List e'.D} (hc:convL e' e ys=some zs):SrcCells w (C.V w obs ρ) e' zs v:=by
 obtain⟨base,cap,hv,h1,h2,hx⟩:=h
 have hl:=convL_len hc
 by_cases hz:ys.length=0
 ·exact .inl ⟨nilZ om,base,cap,by rw [hv,hz]⟩
 ·obtain⟨a,_,ha,_⟩:=hx 0 om
  have cellOf:∀ j,j < ys.length*e.size->∃ i k,j=i*e.size+k/\i < ys.length/\k < e.size:=by
   intro j hj
   have hp:=e.size_pos
   refine⟨j / e.size,j % e.size,(Nat.div_add_mod' j e.size).symm,?_,Nat.mod_lt _ hp⟩
   exact Nat.div_lt_of_lt_mul (by rw [Nat.mul_comm];exact hj)
  have each:∀ j,j < ys.length*e.size->∃ u,w.cell? (a.add j)=some u/\u.oneCell'=true:=by
   intro j hj
   obtain⟨i,k,rfl,hi,hk⟩:=cellOf j hj
   obtain⟨a',u,ha',_,hr,hcell⟩:=hx i hi
   rw [ha]at ha'
   cases ha'
   have hsz:=hr.cells
   have hck:=hcell k hk
   rw [Array.getElem?_eq_getElem om]at hck
   exact⟨_,V_cell hck,hsz.2 _ (by simp)⟩
  refine .inr ⟨a,cap,(List.range (ys.length*e.size)).map (fun j=>(w.cell? (a.add j)).getD undef),by rw [hv,ha,hl],?_,?_,?_⟩
  ·intro j u hj
   have hlt:j < ys.length*e.size:=by
    rcases Nat.lt_or_ge j (ys.length*e.size)with h | h
    ·exact h
    ·rw [geN (by simpa using h)]at hj;cases hj
   obtain⟨u',hu',_⟩:=each j hlt
   simp [hlt,hu']at hj
   rw [hu',hj]
  ·intro u hu
   obtain⟨j,hj,rfl⟩:=List.mem_map.1 hu
   obtain⟨u',hu',h1⟩:=each j (List.mem_range.1 hj)
   simpa [hu'] using h1
  ·refine Enc.conv hc ⟨by simp,fun i hi=>?_⟩
   obtain⟨a',u,ha',_,hr,hcell⟩:=hx i hi
   rw [ha]at ha'
   cases ha'
   refine⟨u,hr,fun k hk=>?_⟩
   have hlt:i*e.size+k < ys.length*e.size:=by
    have:(i+1)*e.size<=ys.length*e.size:=Nat.mul_le_mul_right _ hi
    rw [Nat.add_mul]at this
    omega
   have hsz:=hr.cells
   have hck:=hcell k hk
   rw [Array.getElem?_eq_getElem om]at hck ⊢
   have:=V_cell hck
   simp [hlt,this]
theorem hdrL_sound (rr:WRel C obs w ρ) {id:Nat} {hs:List (Option Nat)} {rows:List (List Int)} {g:Nat} {nn:Bool} (ho:obs[id]? = some (.mat hs rows g nn)) {q n:Nat} (hq:some q∈hs) (hn:n=(rows.getD (hs.idxOf (some q)) []).length) {v:Value}
  (hx:v=.slice (some ⟨hdB q,0,none⟩) n (hdC q)):SrcCells w (C.V w obs ρ) .int (rows.getD (hs.idxOf (some q)) []) v:=by
 obtain⟨cs,hown,hlen,hrow,hinj,hout,hnn,hml⟩:=rr.os id _ ho
 have hi0:hs.idxOf (some q) < hs.length:=List.idxOf_lt_length_iff.2 hq
 have hat:hs[hs.idxOf (some q)]? = some (some q):=by rw [geE hi0];simp
 have hcl:cs.length=rows.length:=by have:=hown.1;omega
 generalize hs.idxOf (some q)=i0 at *
 have hrow0:rows[i0]? = some (rows.getD i0 []):=by rw [gdE,geE om];simp
 generalize hX:rows.getD i0 []=X at *
 obtain⟨hvx,cur,hg,m1,m2,m3,m4⟩:=hrow i0 (some q) X cs[i0] hat hrow0 (by simp)
 have hin:w.ownsRow 0 (C.tid .int) 1 (.slice (some ⟨hdB q,0,none⟩) X.length (hdC q)) X.length (X.map (Value.int .i64)):=
  ⟨by simp,.inr ⟨hdB q,hdC q,cur,rfl,nz0 _,hg,m1,m2,by simpa using m3,by simpa using m4⟩⟩
 refine .inr ⟨⟨hdB q,0,none⟩,hdC q,X.map (Value.int .i64),by rw [hx,hn],fun j u hj=>hin.cells (g:=hdB q) rfl j u hj,fun u hu=>?_,?_⟩
 ·obtain⟨z,_,rfl⟩:=List.mem_map.1 hu;rfl
 ·refine⟨by simp [E.size],fun i hi=>⟨.int .i64 X[i],rfl,fun j hj=>?_⟩⟩
  have:j=0:=by simp [E.size]at hj;omega
  subst this
  simp [E.size,Value.cells,hi]
theorem srcL_sound {e':E} {x:AV} {no:Option Nat} {zs:List e'.D} (rr:WRel C obs w ρ) {v:Value} (hx:AVRel (C.V w obs ρ) obs ρ x v) (h:srcL e' x obs no=some zs) :
  SrcCells w (C.V w obs ρ) e' zs v:=by
 unfold srcL at h
 split at h
 ·exact SlRel.src hx h
 ·exact SlRel.src (LRowRel.toRow hx).toSl h
 ·simp at h
  subst h
  exact .inl ⟨rfl,none,0,hx⟩
 ·simp at h
  subst h
  obtain⟨a,c,hv,_⟩:=hx
  exact .inl ⟨rfl,a,c,hv⟩
 ·rename_i q n
  have hx:v=.slice (some ⟨hdB q,0,none⟩) n (hdC q):=hx
  unfold hdrL at h
  split at h
  ·split at h
   ·rename_i hc
    cases h
    exact hdrL_sound (id:=0) rr rfl hc.1 hc.2 hx
   ·cases h
  ·split at h
   ·rename_i hc
    cases h
    exact hdrL_sound (id:=1) rr rfl hc.1 hc.2 hx
   ·cases h
  ·cases h
 ·rename_i id g
  split at h
  ·cases h
  split at h
  case h_2=>cases h
  rename_i e ys g' nn ho
  split at h
  case isFalse=>cases h
  rename_i hg
  subst hg
  obtain⟨hρ,cs,hown,henc,hnn,hml⟩:=own_arr rr ho hx
  have hl:=convL_len h
  have henc':=henc.conv h
  rcases hown.2 with⟨hv,hz⟩ | ⟨b,cap,cur,hv,rest⟩
  ·exact .inl ⟨nilZ om,none,0,hv⟩
  ·refine .inr ⟨⟨b,0,none⟩,cap,cs,by rw [hv,hl],fun j u hj=>hown.cells (g:=b) (by rw [hv];rfl) j u hj,fun u hu=>?_,henc'⟩
   obtain⟨j,hj⟩:=List.getElem?_of_mem hu
   have hjl:j < cs.length:=(geS.1 hj).1
   have hp:=e.size_pos
   have hdiv:j / e.size < ys.length:=Nat.div_lt_of_lt_mul (by rw [Nat.mul_comm];have:=henc.1;omega)
   obtain⟨z,hz,hc⟩:=henc.2 (j / e.size) hdiv
   have hk:=hc (j % e.size) (Nat.mod_lt _ hp)
   rw [Nat.div_add_mod',hj]at hk
   have hsz:=hz.cells
   rw [Array.getElem?_eq_getElem (by rw [hsz.1];exact Nat.mod_lt _ hp)]at hk
   have hk2:=Option.some.inj hk
   rw [hk2]
   exact hsz.2 _ (by simp)
 ·cases h
theorem enc_append {V:Vw} {e:E} {xs ys:List e.D} {cs ds:List Value} (h:Enc V e xs cs) (k:Enc V e ys ds):Enc V e (xs ++ ys) (cs ++ ds):=by
 refine⟨by rw [lenA,lenA,h.1,k.1,Nat.add_mul],fun i hi=>?_⟩
 by_cases hlt:i < xs.length
 ·obtain⟨u,hu,hc⟩:=h.2 i hlt
  refine⟨u,by rw [List.getElem_append_left hlt];exact hu,fun j hj=>?_⟩
  rw [List.getElem?_append_left,hc j hj]
  rw [h.1]
  have:(i+1)*e.size<=xs.length*e.size:=Nat.mul_le_mul_right _ hlt
  rw [Nat.add_mul]at this
  omega
 ·simp at hi
  obtain⟨u,hu,hc⟩:=k.2 (i - xs.length) om
  refine⟨u,by rw [List.getElem_append_right om];exact hu,fun j hj=>?_⟩
  have h1:xs.length*e.size<=i*e.size:=Nat.mul_le_mul_right _ om
  rw [List.getElem?_append_right (by rw [h.1];omega),<- hc j hj,h.1]
  congr 1
  rw [Nat.sub_mul]
  omega
theorem run_append_zero {t ty e:TypeId} {i:TypeInfo} (ht:C.P.underlying t=some (.slice e)) (hi:C.P.info? e=some i) {v:Value} {n:Nat} {cs:List Value} {size:Nat} (hown:w.ownsRow 0 e size v n cs) (b:Option Addr) (c:Nat) :
  (Builtin.append_ #[t,t] ty #[v,.slice b 0 c]).run C.P w=.ok v w:=by
 rcases hown.2 with⟨rfl,rfl⟩ | ⟨g,cap,cur,rfl,_,_,hnc,_⟩
 ·cases b<;>simp [Builtin.append_,run_underlying ht,sizeOf,typeInfo,hi,Builtin.lenOf,Builtin.firstCells,loadCells,loadCellsFrom]
 ·cases b<;>simp [Builtin.append_,run_underlying ht,sizeOf,typeInfo,hi,Builtin.lenOf,Builtin.firstCells,hnc,storeCells,loadCells,loadCellsFrom]
theorem append_core {t ty:TypeId} {e0 e:E} (hC:C.Ok) (he:C.Γ t=some e0) (hf:e.fam=e0.fam) {v u:Value} {xs zs:List e.D} {cs:List Value} (hown:w.ownsRow 0 (C.tid e) e.size v xs.length cs)
  (hb:(xs.length+zs.length)*e0.bytes<=140737488355328) (hsrc:SrcCells w (C.V w obs ρ) e zs u) :
  ∃ v' w' ds,(Builtin.append_ #[t,t] ty #[v,u]).run C.P w=.ok v' w'/\w'.ownsRow 0 (C.tid e) e.size v' (xs ++ zs).length (cs ++ ds)/\Enc (C.V w obs ρ) e zs ds/\w.grownBy w' v.ownBlock /\
   (zs.isEmpty=false->v'≠.slice none 0 0)/\(v≠.slice none 0 0->v'≠.slice none 0 0)/\(∀ b,v'.ownBlock=some b->v.ownBlock=some b\/w.heap.size<=b)/\(xs ++ zs).length<=maxLen/\(∀ b,v.ownBlock=some b->v'.ownBlock=some b\/w'.heap[b]? = w.heap[b]?):=by
 obtain⟨ht,i0,hi0,hz0,hs0,hb0⟩:=hC.sl t e0 he
 have htid:C.tid e=C.tid e0:=by
  cases e<;>cases e0<;>simp [E.fam]at hf<;>first | rfl | (rename_i f;exact hC.same f) | (rename_i f;exact(hC.same f).symm) | (rename_i f g;exact(hC.same f).trans (hC.same g).symm)
 have hsz:e.size=e0.size:=by cases e<;>cases e0<;>simp [E.fam]at hf<;>rfl
 have hbp:0 < e0.bytes:=by cases e0<;>simp [E.bytes]
 have hlen:(xs ++ zs).length=xs.length+zs.length:=lenA
 have hmax:xs.length+zs.length<=maxLen:=by
  have:xs.length+zs.length<=(xs.length+zs.length)*e0.bytes:=Nat.le_mul_of_pos_right _ hbp
  rw [maxLen_num];omega
 rcases hsrc with⟨rfl,b,c,rfl⟩ | ⟨a,c,news,rfl,h1,h2,h3⟩
 ·refine⟨v,w,[],run_append_zero ht hi0 (by rw [<- htid];exact hown) b c,by simpa using hown,⟨by simp,fun i hi=>by simp at hi⟩,⟨rfl,rfl,rfl,Nat.le_refl _,fun _ _ _=>rfl⟩,by simp,fun h=>h,fun b h=>.inl h,by rw [hlen];exact hmax,fun b h=>.inl h⟩
 ·rw [htid,hsz]at hown
  have hl:news.length=zs.length*e0.size:=by rw [<- hsz];exact h3.1
  obtain⟨v',w',hrun,hown',hgr,hnil⟩:=run_append_own (P:=C.P) w 0 t ty (C.tid e0) i0 e0.zero e0.size e0.bytes ht hi0 hz0 hs0 hb0 (by cases e0<;>rfl) e0.size_pos v xs.length cs hown a zs.length c news hl h1 h2 hmax hb (nz0 _)
  refine⟨v',w',news,hrun,by rw [hlen,htid,hsz];exact hown',h3,hgr,?_,fun h k=>h (hnil.1 k).1,?_,by rw [hlen];exact hmax,?_⟩
  ·intro hz k
   have:=(hnil.1 k).2
   have:zs=[]:=nilZ this
   subst this
   simp at hz
  ·intro bb hbb
   by_cases hz:zs.length=0
   ·have hzz:zs=[]:=nilZ hz
    subst hzz
    have hr0:=run_append_zero (C:=C) (ty:=ty) ht hi0 hown (some a) c
    rw [hz]at hrun
    rw [hr0]at hrun
    cases hrun
    exact .inl hbb
   ·have hpos:0 < zs.length:=Nat.pos_of_ne_zero hz
    have hmax':=hmax
    rw [maxLen_num]at hmax'
    rcases hown.2 with⟨rfl,h0⟩ | ⟨g,cap,cur,rfl,_,hg,hnc,hcm,hcs,htake⟩
    ·have hr0:=run_append_nil (P:=C.P) w t ty (C.tid e0) i0 e0.zero ht hi0 hz0 a zs.length c news (by rw [hs0];exact hl) h1 hpos om (by rw [hb0];have:=hb;rw [Nat.add_mul]at this;omega)
     rw [hr0]at hrun
     cases hrun
     simp [Value.ownBlock]at hbb
     exact .inr om
    ·by_cases hroom:xs.length+zs.length<=cap
     ·have hfit:xs.length*i0.size+news.length<=cur.size:=by rw [hl,hcs,hs0,<- Nat.add_mul];exact Nat.mul_le_mul_right _ hroom
      have hr0:=run_append_room (P:=C.P) w t ty (C.tid e0) i0 ht hi0 g xs.length cap cur hg a zs.length c news (by rw [hs0];exact hl) h1 h2 hroom hfit
      rw [hr0]at hrun
      cases hrun
      exact .inl hbb
     ·have hr0:=run_append_grow (P:=C.P) w t ty (C.tid e0) i0 e0.zero ht hi0 hz0 ⟨g,0,none⟩ xs.length cap cs (by rw [hs0];exact hown.1) (hown.cells (g:=g) rfl) a zs.length c news (by rw [hs0];exact hl) h1 om om
       (growslice_fits om (by rw [hb0];exact hb))
      rw [hr0]at hrun
      cases hrun
      simp [Value.ownBlock]at hbb
      exact .inr om
  ·intro bb hbb
   by_cases hz:zs.length=0
   ·have hzz:zs=[]:=nilZ hz
    subst hzz
    have hr0:=run_append_zero (C:=C) (ty:=ty) ht hi0 hown (some a) c
    rw [hz]at hrun
    rw [hr0]at hrun
    cases hrun
    exact .inl hbb
   ·have hpos:0 < zs.length:=Nat.pos_of_ne_zero hz
    have hmax':=hmax
    rw [maxLen_num]at hmax'
    rcases hown.2 with⟨rfl,h0⟩ | ⟨g,cap,cur,rfl,_,hg,hnc,hcm,hcs,htake⟩
    ·have hr0:=run_append_nil (P:=C.P) w t ty (C.tid e0) i0 e0.zero ht hi0 hz0 a zs.length c news (by rw [hs0];exact hl) h1 hpos om (by rw [hb0];have:=hb;rw [Nat.add_mul]at this;omega)
     rw [hr0]at hrun
     cases hrun
     simp [Value.ownBlock]at hbb
    ·by_cases hroom:xs.length+zs.length<=cap
     ·have hfit:xs.length*i0.size+news.length<=cur.size:=by rw [hl,hcs,hs0,<- Nat.add_mul];exact Nat.mul_le_mul_right _ hroom
      have hr0:=run_append_room (P:=C.P) w t ty (C.tid e0) i0 ht hi0 g xs.length cap cur hg a zs.length c news (by rw [hs0];exact hl) h1 h2 hroom hfit
      rw [hr0]at hrun
      cases hrun
      exact .inl hbb
     ·have hr0:=run_append_grow (P:=C.P) w t ty (C.tid e0) i0 e0.zero ht hi0 hz0 ⟨g,0,none⟩ xs.length cap cs (by rw [hs0];exact hown.1) (hown.cells (g:=g) rfl) a zs.length c news (by rw [hs0];exact hl) h1 om om
       (growslice_fits om (by rw [hb0];exact hb))
      rw [hr0]at hrun
      cases hrun
      refine .inr ?_
      have hlt:bb < w.heap.size:=mem_lt_of_ownsRow hown hbb
      show(w.heap.push _)[bb]? = _
      rw [Array.getElem?_push,if_neg om]
theorem BagRel.list {w':World} {V V':Vw} {tpr:TypeId} {v v':Value} {d:BagD} {xs':List (List Int×List Int)} {st':Bool} (h:BagRel w V tpr v d) (h2:2<=d.ph) (hk:∀ b,b < w.heap.size->v.ownBlock≠some b->w'.heap[b]? = w.heap[b]?)
  (hb:∀ b,v'.ownBlock=some b->v.ownBlock=some b\/w.heap.size<=b) (hr:∃ cs,w'.ownsRow 0 tpr 2 v' xs'.length cs/\Enc V' .pr xs' cs/\v'≠.slice none 0 0/\xs'.length<=maxLen) (hst:st'=true->d.st=true/\v'=v) :
  BagRel w' V' tpr v' { d with st:=st',xs:=xs' }:=by
 have lt:∀ {b:Nat} {o:Obj},w.heap[b]? = some o->b < w.heap.size:=fun e=>(ageS.1 e).1
 have k1:∃ t,w'.heap[hdB d.hb]? = some (.cells #[.int .i64 d.hn] t (0,0)):=by
  obtain⟨t,e⟩:=h.h
  exact⟨t,by rw [hk _ (lt e) (fun k=>((h.d2 h2) _ k).1 rfl)];exact e⟩
 have n1:hdB d.hb < w.heap.size:=by obtain⟨t,e⟩:=h.h;exact lt e
 obtain⟨u,t,e,eo,ec⟩:=h.l om
 have e':w'.heap[hdB d.lb]? = some (.cells #[u] t (0,0)):=by rw [hk _ (lt e) (fun k=>((h.d2 h2) _ k).2 rfl)];exact e
 refine⟨k1,h.d1,fun _ b k=>?_,fun k3=>?_,fun k4=>?_,fun _=>⟨u,t,e',eo,fun _ k=>?_⟩,fun _=>hr,fun k3=>?_,fun k4=>?_⟩
 ·rcases hb b k with k | k
  ·exact h.d2 h2 b k
  ·have h3:=lt e;show b≠hdB d.hb/\b≠hdB d.lb;exact⟨fun x=>by omega,fun x=>by omega⟩
 ·obtain⟨a1,a2,a3⟩:=h.d3 k3
  refine⟨a1,a2,fun k=>?_⟩
  rcases hb _ k with k | k
  ·exact a3 k
  ·obtain⟨_,_,e3,_⟩:=h.s k3;have h4:=lt e3;exact absurd k (Nat.not_le.2 h4)
 ·obtain⟨a1,a2,a3,a4⟩:=h.d4 k4
  refine⟨a1,a2,fun k=>?_,a4⟩
  rcases hb _ k with k | k
  ·exact a3 k
  ·obtain⟨_,_,e3,_⟩:=h.m k4;have h4':=lt e3;exact absurd k (Nat.not_le.2 h4')
 ·obtain⟨s1,s2⟩:=hst k
  rw [s2];exact ec h2 s1
 ·obtain⟨u3,t3,e3,r3⟩:=h.s k3
  exact⟨u3,t3,by rw [hk _ (lt e3) (h.d3 k3).2.2];exact e3,r3⟩
 ·obtain⟨es,ck,e3,r3⟩:=h.m k4
  exact⟨es,ck,by rw [hk _ (lt e3) (h.d4 k4).2.2.1];exact e3,r3⟩
theorem appendV_sound (hC:C.Ok) {t ty:TypeId} {x y:AV} {vc:Prop} {r:AV} {o:List O} (rr:WRel C obs w ρ) {u v:Value}
  (hx:AVRel (C.V w obs ρ) obs ρ x u) (hy:AVRel (C.V w obs ρ) obs ρ y v) (h:appendV (C.Γ t) x y obs=.ok vc r o) (hv:vc) :
  ∃ z w' ρ',(Builtin.append_ #[t,t] ty #[u,v]).run C.P w=.ok z w'/\Step C w w' obs o ρ ρ'/\AVRel (C.V w' o ρ') o ρ' r z:=by
 unfold appendV at h
 split at h
 ·rename_i _ e id g he
  split at h
  case h_4=>cases h
  case h_3=>
   rename_i d g' ho
   split at h
   case isFalse=>cases h
   rename_i hc
   obtain⟨⟨hg,h2⟩,hf⟩:=hc
   subst hg
   split at h
   case h_2=>cases h
   rename_i zs hz
   cases h
   obtain⟨hρ,hbag⟩:=own_bag rr ho hx
   obtain⟨cs,hown,henc,hnn,hml⟩:=hbag.r h2
   have hsrc:=srcL_sound rr hy hz
   obtain⟨v',w',ds,hrun,hown',hds,hgr,hn1,hn2,hblk,hmax,_⟩:=append_core (ty:=ty) (e:=.pr) hC he hf hown hv hsrc
   have hext:Ext (fun b=>fpo (ρ id) (.bag d g) b) w w':=(Ext.grownBy hgr (run_drawn _ hrun)).mono fun b hb=>by rw [fpo,<- hρ];exact .inr (.inr (.inl ⟨h2,hb⟩))
   have hb:∀ b,fpo v' (.bag { d with st:=false,xs:=d.xs ++ zs } (g+1)) b->fpo (ρ id) (.bag d g) b\/w.heap.size<=b:=by
    intro b hb
    rw [fpo,<- hρ]
    rcases hb with hb | hb | ⟨k,hb⟩ | hb | hb
    ·exact .inl (.inl hb)
    ·exact .inl (.inr (.inl hb))
    ·exact(hblk b hb).imp (fun k'=>.inr (.inr (.inl ⟨k,k'⟩))) (fun k=>k)
    ·exact .inl (.inr (.inr (.inr (.inl hb))))
    ·exact .inl (.inr (.inr (.inr (.inr hb))))
   have hV:=le_one (C:=C) ho hext hb
   have hlt:id < obs.length:=(geS.1 ho).1
   refine⟨v',w',_,hrun,(Turn.one rr id (.bag d g) (.bag { d with st:=false,xs:=d.xs ++ zs } (g+1)) v' ho hext ?_ hb ?_).step rr,?_⟩
   ·exact hbag.list h2 (fun b hlt hne=>hgr.block b hlt (fun e=>hne e.symm)) hblk ⟨cs ++ ds,hown',enc_append (henc.mono hV) (hds.mono hV),hn2 hnn,hmax⟩ (by simp)
   ·intro c' hc'
    simp [O.gen]at hc'
    exact⟨g,by simp [O.gen],.inr om⟩
   ·refine⟨by simpa using hlt,fun c hc=>?_⟩
    have:c=g+1:=by simpa [genOf,hlt,O.gen] using hc.symm
    subst this
    simp
  case h_2=>
   rename_i q xs fr g' nn ho
   split at h
   case isFalse=>cases h
   rename_i hc
   obtain⟨hg,hf⟩:=hc
   subst hg
   split at h
   case h_2=>cases h
   rename_i zs hz
   cases h
   obtain⟨hρ,cs,hown,henc,hnn,hml,hq,⟨cur,ty',f,hcur,hpre⟩,_⟩:=own_ap rr ho hx
   have hsrc:=srcL_sound rr hy hz
   obtain⟨v',w',ds,hrun,hown',hds,hgr,hn1,hn2,hblk,hmax,hold⟩:=append_core (ty:=ty) (e:=.lrow) hC he hf hown hv hsrc
   have hext:Ext (fun b=>fpo (ρ id) (.ap q xs fr g nn) b) w w':=(Ext.grownBy hgr (run_drawn _ hrun)).mono fun b hb=>by rw [fpo,<- hρ];exact .inl hb
   have hb:∀ b,fpo v' (.ap q (xs ++ zs) false (g+1) (nn || !zs.isEmpty)) b->fpo (ρ id) (.ap q xs fr g nn) b\/w.heap.size<=b:=by
    intro b hb
    rw [fpo,<- hρ]
    rcases hb with hb | hb
    ·exact(hblk b hb).imp .inl (fun k=>k)
    ·exact .inl (.inr hb)
   have hV:=le_one (C:=C) ho hext hb
   have hlt:id < obs.length:=(geS.1 ho).1
   have hcl:cs.length=xs.length:=by have:=henc.1;simpa [E.size] using this
   have hpre':∃ cur t f,w'.heap[hdB q]? = some (.cells cur t f)/\∀ i,i < hdC q->cur[i]? = (cs ++ ds)[i]?:=by
    have hap:∀ i,i < hdC q->(cs ++ ds)[i]? = cs[i]?:=fun i hi=>by rw [List.getElem?_append_left om]
    have hblt:hdB q < w.heap.size:=(ageS.1 hcur).1
    have keep:w'.heap[hdB q]? = w.heap[hdB q]?->∃ cur t f,w'.heap[hdB q]? = some (.cells cur t f)/\∀ i,i < hdC q->cur[i]? = (cs ++ ds)[i]?:=fun e=>⟨cur,ty',f,by rw [e];exact hcur,fun i hi=>by rw [hap i hi];exact hpre i hi⟩
    by_cases hbq:u.ownBlock=some (hdB q)
    ·rcases hold _ hbq with h1 | h1
     ·rcases hown'.2 with⟨hn,_⟩ | ⟨k,cap,cur2,hv2,_,hg2,hc1,_,hc3,hc4⟩
      ·rw [hn]at h1;simp [Value.ownBlock]at h1
      ·rw [hv2]at h1
       have hk:k=hdB q:=by simpa [Value.ownBlock] using h1
       subst hk
       refine⟨cur2,_,_,hg2,fun i hi=>?_⟩
       have hlen:(xs ++ zs).length=xs.length+zs.length:=lenA
       have:=congrArg (fun l=>l[i]?) hc4
       simp only [List.getElem?_take,E.size,Nat.mul_one]at this
       rw [if_pos om]at this
       simpa using this
     ·exact keep h1
    ·exact keep (hgr.block _ hblt (fun e=>hbq e.symm))
   refine⟨v',w',_,hrun,(Turn.one rr id (.ap q xs fr g nn) (.ap q (xs ++ zs) false (g+1) (nn || !zs.isEmpty)) v' ho hext ?_ hb ?_).step rr,?_⟩
   ·refine⟨cs ++ ds,hown',enc_append (henc.mono hV) (hds.mono hV),fun hnz=>?_,hmax,by simp;omega,hpre',by simp⟩
    rcases Bool.or_eq_true _ _▸hnz with k | k
    ·exact hn2 (hnn k)
    ·exact hn1 (by simpa using k)
   ·intro c' hc'
    simp [O.gen]at hc'
    exact⟨g,by simp [O.gen],.inr om⟩
   ·refine⟨by simpa using hlt,fun c hc=>?_⟩
    have:c=g+1:=by simpa [genOf,hlt,O.gen] using hc.symm
    subst this
    simp
  rename_i e' xs g' nn ho
  split at h
  case isFalse=>cases h
  rename_i hc
  obtain⟨hg,hf⟩:=hc
  subst hg
  split at h
  case h_2=>cases h
  rename_i zs hz
  cases h
  obtain⟨hρ,cs,hown,henc,hnn,hml⟩:=own_arr rr ho hx
  have hsrc:=srcL_sound rr hy hz
  obtain⟨v',w',ds,hrun,hown',hds,hgr,hn1,hn2,hblk,hmax,_⟩:=append_core (ty:=ty) hC he hf hown hv hsrc
  have hext:Ext (fun b=>fpo (ρ id) (.arr e' xs g nn) b) w w':=(Ext.grownBy hgr (run_drawn _ hrun)).mono fun b hb=>by rw [fpo,<- hρ];exact hb
  have hb:∀ b,fpo v' (.arr e' (xs ++ zs) (g+1) (nn || !zs.isEmpty)) b->fpo (ρ id) (.arr e' xs g nn) b\/w.heap.size<=b:=by
   intro b hb
   rw [fpo,<- hρ]
   exact hblk b hb
  have hV:=le_one (C:=C) ho hext hb
  have hlt:id < obs.length:=(geS.1 ho).1
  refine⟨v',w',_,hrun,(Turn.one rr id (.arr e' xs g nn) (.arr e' (xs ++ zs) (g+1) (nn || !zs.isEmpty)) v' ho hext ?_ hb ?_).step rr,?_⟩
  ·refine⟨cs ++ ds,hown',enc_append (henc.mono hV) (hds.mono hV),fun hnz=>?_,hmax⟩
   rcases Bool.or_eq_true _ _▸hnz with k | k
   ·exact hn2 (hnn k)
   ·exact hn1 (by simpa using k)
  ·intro c' hc'
   simp [O.gen]at hc'
   exact⟨g,by simp [O.gen],.inr om⟩
  ·refine⟨by simpa using hlt,fun c hc=>?_⟩
   have:c=g+1:=by simpa [genOf,hlt,O.gen] using hc.symm
   subst this
   simp
 ·rename_i _ e he
  split at h
  case h_2=>cases h
  rename_i zs hz
  cases h
  simp only [AVRel]at hx
  subst hx
  have hsrc:=srcL_sound rr hy hz
  have hown:w.ownsRow 0 (C.tid e) e.size (.slice none 0 0) ([]:List e.D).length []:=World.ownsRow_nil _ _ _ _
  obtain⟨v',w',ds,hrun,hown',hds,hgr,hn1,hn2,hblk,hmax,_⟩:=append_core (ty:=ty) (xs:=[]) hC he rfl hown (by simpa using hv) hsrc
  have hext:Ext (fun _=>False) w w':=(Ext.grownBy hgr (run_drawn _ hrun)).mono fun b hb=>by simp [Value.ownBlock]at hb
  have hb:∀ b,fpo v' (.arr e zs 0 (!zs.isEmpty)) b->w.heap.size<=b:=by
   intro b hb
   rcases hblk b hb with k | k
   ·simp [Value.ownBlock]at k
   ·exact k
  have hV:=le_new (C:=C) (obs:=obs) (ρ:=ρ) hext hb
  refine⟨v',w',_,hrun,(Turn.new rr hext _ v' ?_ hb).step rr,?_⟩
  ·exact⟨ds,by simpa using hown',hds.mono hV,fun hnz=>hn1 (by simpa using hnz),by simpa using hmax⟩
  ·refine⟨by simp,fun c hc=>?_⟩
   have:c=0:=by simpa [genOf,O.gen] using hc.symm
   subst this
   simp
 ·cases h
def zapV (e?:Option E) (b?:Option BT) (x y:AV) (obs:List O):Res:=
 match e?,b?,x,y with
 | some .int,some (.int .i64),.own id g,.int .i64 m=>match obs[id]? with
  | some (.arr .int xs g' _)=>if g=g' then .ok (0 < m/\m<=1000000/\0 < xs.length/\xs.length<=1000000) (.own id (g+1)) (obs.set id (.arr .int (xs ++ List.replicate m.toNat 0) (g+1) true))else .bad
  | _=>.bad
 | _,_,_,_=>.bad
theorem zeroCells_int (n:Nat):Builtin.zeroCells (Value.int .i64 0).cells n=(List.replicate n (Value.int .i64 0)).toArray:=by
 apply Array.ext'
 simp only [Builtin.zeroCells,Value.cells]
 apply List.ext_getElem?
 intro j
 by_cases hj:j < n
 ·simp [hj,Nat.mod_one]
 ·simp [hj]
theorem run_append_zeros {P:Program} {w:World} {t tn ty e:TypeId} {i:TypeInfo} (ht:P.underlying t=some (.slice e)) (htn:P.underlying tn=some (.int .i64)) (hi:P.info? e=some i) (hz:i.zero=some (.int .i64 0)) (hs:i.size=1) (hb:i.bytes=8)
  {v:Value} {n:Nat} {xs:List Value} (hown:w.ownsRow 0 e 1 v n xs) (h0:0 < n) (hn:n<=1000000) {m:Nat} (hm0:0 < m) (hm:m<=1000000) :
  ∃ v' w',(Builtin.append_ #[t,tn] ty #[v,.int .i64 m]).run P w=.ok v' w'/\w'.ownsRow 0 e 1 v' (n+m) (xs ++ List.replicate m (.int .i64 0))/\w.grownBy w' v.ownBlock/\v'≠.slice none 0 0/\(∀ b,v'.ownBlock=some b->v.ownBlock=some b\/w.heap.size<=b):=by
 have hmn:m≠0:=by omega
 have hw:IntKind.i64.wrap (m:Int)=m:=by rw [IntKind.wrap_i64];omega
 have hneg:¬((m:Int) < 0):=by omega
 have h48i:¬(281474976710656 < (m:Int)*8):=by omega
 have hxl:xs.length=n:=by simpa using hown.1
 have hlen:(xs ++ List.replicate m (Value.int .i64 0)).length=(n+m)*1:=by simp [hxl]
 rcases hown.2 with⟨rfl,hz0⟩ | ⟨g,cap,cur,rfl,hbg,hg,hnc,hcm,hcs,htake⟩
 ·omega
 by_cases hroom:n+m<=cap
 ·have hfit:n+(List.replicate m (Value.int .i64 0)).length<=cur.size:=by simp at hcs;simp;omega
  have hst:=run_storeCells_at P g n e (List.replicate m (Value.int .i64 0)) 0 cur w hg (by simpa using hfit) (fun u hu=>by rw [(List.mem_replicate.1 hu).2];rfl)
  simp only [Nat.add_zero]at hst
  have hr:(Builtin.append_ #[t,tn] ty #[.slice (some ⟨g,0,none⟩) n cap,.int .i64 m]).run P w=.ok (.slice (some ⟨g,0,none⟩) (n+m) cap) (w.setRow g (cur.toList.take n ++ List.replicate m (Value.int .i64 0) ++ cur.toList.drop (n+(List.replicate m (Value.int .i64 0)).length)).toArray):=by
   simp [Builtin.append_,run_underlying ht,run_underlying htn,sizeOf,typeInfo,zeroValue,hi,hz,hs,hb,asInt,asIntOf,hw,hmn,hneg,h48i,hroom,Addr.add_lit,zeroCells_int]
   simp only [List.append_assoc,List.length_replicate]at hst
   rw [hst]
   rfl
  refine⟨_,_,hr,⟨hlen,.inr ⟨g,cap,_,rfl,hbg,setRow_heap w g cur _ e _ hg,hroom,hcm,?_,?_⟩⟩,⟨rfl,rfl,rfl,by simp,fun k _ hk=>setRow_other w g k _ (fun e=>hk (by simp [Value.ownBlock,e]))⟩,by simp,fun b hb=>.inl hb⟩
  ·simp only [List.size_toArray,lenA,List.length_take,List.length_drop,Array.length_toList]
   simp at hcs
   simp
   omega
  ·have htk:cur.toList.take n=xs:=by simpa using htake
   rw [htk,<- hlen]
   exact List.take_left
 ·have holds:∀ j u,xs[j]? = some u->w.cell? ((⟨g,0,none⟩:Addr).add j)=some u:=hown.cells (g:=g) rfl
  have h63':¬(9223372036854775807 < ((n:Int)+(m:Int))):=by omega
  have h48':¬(281474976710656 < Builtin.nextslicecap (n+m) cap*8):=by
   have:=growslice_fits (need:=n+m) (old:=cap) (bytes:=8) om om
   omega
  have hfo:=run_firstCells_some (P:=P) w.drew 1 n ⟨g,0,none⟩ n cap xs (by simpa using hxl) (by simpa using holds)
  have hge:=grownCap_ge w (n+m) cap e
  have hcm2:grownCap w (n+m) cap e<=maxLen:=grownCap_le_maxLen w (n+m) cap e (by unfold maxLen;omega)
  have hr:(Builtin.append_ #[t,tn] ty #[.slice (some ⟨g,0,none⟩) n cap,.int .i64 m]).run P w=.ok (.slice (some ⟨w.heap.size,0,none⟩) (n+m) (grownCap w (n+m) cap e))
    (w.drew.alloc (.cells (xs.toArray ++ (List.replicate m (Value.int .i64 0)).toArray ++ Builtin.zeroCells (Value.int .i64 0).cells (grownCap w (n+m) cap e - (n+m))) e)):=by
   simp [Builtin.append_,run_underlying ht,run_underlying htn,sizeOf,typeInfo,zeroValue,hi,hz,hs,hb,asInt,asIntOf,hw,hmn,hneg,h48i,hroom,h63',h48',Question.forced,hfo,newRow,grownCap,zeroCells_int]
  refine⟨_,_,hr,⟨hlen,.inr ⟨w.heap.size,_,_,rfl,nz0 _,heap_alloc_new w.drew _,hge,hcm2,?_,?_⟩⟩,⟨rfl,rfl,rfl,by simp,fun k hk _=>heap_alloc_old w.drew _ k hk⟩,by simp,fun b hb=>?_⟩
  ·simp only [Array.size_append,List.size_toArray,size_zeroCells,hxl,List.length_replicate]
   simp [Value.cells]
   omega
  ·simp only [Array.toList_append,List.append_assoc]
   rw [<- List.append_assoc,<- hlen]
   exact List.take_left
  ·simp [Value.ownBlock]at hb
   exact .inr om
theorem zapV_sound (hC:C.Ok) {t tn ty:TypeId} {x y:AV} {vc:Prop} {r:AV} {o:List O} (rr:WRel C obs w ρ) {u v:Value}
  (hx:AVRel (C.V w obs ρ) obs ρ x u) (hy:AVRel (C.V w obs ρ) obs ρ y v) (h:zapV (C.Γ t) (C.bt tn) x y obs=.ok vc r o) (hv:vc) :
  ∃ z w' ρ',(Builtin.append_ #[t,tn] ty #[u,v]).run C.P w=.ok z w'/\Step C w w' obs o ρ ρ'/\AVRel (C.V w' o ρ') o ρ' r z:=by
 unfold zapV at h
 split at h
 case h_2=>cases h
 rename_i id g m he hbt
 split at h
 case h_2=>cases h
 rename_i xs g' nn ho
 split at h
 case isFalse=>cases h
 rename_i hg
 subst hg
 cases h
 obtain⟨m0,m1,x0,x1⟩:=hv
 have hy':v=.int .i64 m:=hy
 subst hy'
 obtain⟨k,rfl⟩:∃ k:Nat,m=k:=⟨m.toNat,by omega⟩
 obtain⟨ht,i0,hi0,hz0,hs0,hb0⟩:=hC.sl t .int he
 obtain⟨hρ,cs,hown,henc,hnn,hml⟩:=own_arr rr ho hx
 obtain⟨v',w',hrun,hown',hgr,hn1,hblk⟩:=run_append_zeros (ty:=ty) ht (hC.bt tn _ hbt).1 hi0 hz0 hs0 hb0 hown x0 x1 (m:=k) om om
 have hext:Ext (fun b=>fpo (ρ id) (.arr .int xs g nn) b) w w':=(Ext.grownBy hgr (run_drawn _ hrun)).mono fun b hb=>by rw [fpo,<- hρ];exact hb
 have hb:∀ b,fpo v' (.arr .int (xs ++ List.replicate (k:Int).toNat 0) (g+1) true) b->fpo (ρ id) (.arr .int xs g nn) b\/w.heap.size<=b:=by
  intro b hb
  rw [fpo,<- hρ]
  exact hblk b hb
 have hV:=le_one (C:=C) ho hext hb
 have hlt:id < obs.length:=(geS.1 ho).1
 refine⟨v',w',_,hrun,(Turn.one rr id (.arr .int xs g nn) (.arr .int (xs ++ List.replicate (k:Int).toNat 0) (g+1) true) v' ho hext ?_ hb ?_).step rr,?_⟩
 ·refine⟨cs ++ List.replicate k (.int .i64 0),by rw [lenA,List.length_replicate];exact hown',enc_append (henc.mono hV) ?_,fun _=>hn1,by simp;rw [maxLen_num];omega⟩
  rw [show((k:Int).toNat)=k by omega]
  refine⟨by simp [E.size],fun i hi=>⟨.int .i64 0,by simp at hi;simp [ElRel],fun j hj=>?_⟩⟩
  have:j=0:=by simp [E.size]at hj;omega
  subst this
  simp at hi
  simp [E.size,Value.cells,hi]
 ·intro c' hc'
  simp [O.gen]at hc'
  exact⟨g,by simp [O.gen],.inr om⟩
 ·refine⟨by simpa using hlt,fun c hc=>?_⟩
  have:c=g+1:=by simpa [genOf,hlt,O.gen] using hc.symm
  subst this
  simp
end sound
end Go.Aw
namespace Go.Aw
open Go
section sound
variable {C:Ctx} {obs:List O} {w:World} {ρ:Nat->Value}
theorem run_build {t:TypeId} {e:E} (hC:C.Ok) (he:C.Γ t=some e) {vs:List Value} (hv:∀ v∈vs,v.cells.size=e.size) (hl:vs.length<=1000) (parts:Array (Nat×Value)) (hp:parts.toList=(vs.zipIdx 0).map fun x=>(x.2,x.1)) :
  ∃ cs:Array Value,(Instr.buildSlice t vs.length parts).run C.P w=.ok (.slice (some ⟨w.heap.size,0,none⟩) vs.length vs.length) (w.alloc (.cells cs (C.tid e)))/\cs.size=vs.length*e.size /\
   ∀ i (h:i < vs.length),∀ j,j < e.size->cs[i*e.size+j]? = vs[i].cells[j]?:=by
 obtain⟨ht,i,hi,hz,hs,_⟩:=hC.sl t e he
 have h4:e.size<=4:=by cases e<;>simp [E.size]
 by_cases h0:vs.length=0
 ·have hn:vs=[]:=nilZ h0
  subst hn
  have hpp:parts=#[]:=by apply Array.ext';simpa using hp
  subst hpp
  exact⟨#[],by simp [Instr.buildSlice,run_underlying ht,sizeOf,typeInfo,hi,newRow,Instr.fill,Array.range_zero'],by simp,fun i h=>by simp at h⟩
 ·have hm:vs.length*e.size<=4000:=Nat.le_trans (Nat.mul_le_mul hl h4) (by decide)
  have hpos:0 < vs.length*e.size:=Nat.mul_pos om e.size_pos
  obtain⟨r,h1,h2,h3⟩:=Great.fill_dense e.size_pos vs 0 ((Array.range (vs.length*e.size)).map (e.zero.cells[· % e.zero.cells.size]!)) hv (by simp)
  refine⟨r,run_buildSlice w t (C.tid e) vs.length parts r i e.zero ht hi hz (by rw [hs];omega) (by rw [hs];omega) (by rw [hs,hp];exact h1),by rw [h2];simp,fun k hk j hj=>?_⟩
  have hlt:k*e.size+j < vs.length*e.size:=by
   have:=Nat.mul_le_mul_right e.size (show k+1<=vs.length by omega)
   rw [Nat.add_mul]at this
   omega
  rw [h3,if_pos ⟨by simp,by simpa using hlt⟩]
  have e1:(k*e.size+j) / e.size=k:=Nat.div_eq_of_lt_le om (by rw [Nat.add_mul];omega)
  have e2:(k*e.size+j) % e.size=j:=by rw [Nat.mul_comm,Nat.mul_add_mod,Nat.mod_eq_of_lt hj]
  rw [e1,e2]
  simp [hk]
theorem allE_rel {V:Vw} {e:E}:∀ {l:List AV} {ds:List e.D} {vs:List Value},allE e l=some ds->vs.length=l.length->(∀ s,AV.str s∈l->s.length<=maxLen) ->
  (∀(i:Nat) (x:AV) (v:Value),l[i]? = some x->vs[i]? = some v->AVRel V obs ρ x v)->ds.length=vs.length/\∀(i:Nat) (d:e.D) (v:Value),ds[i]? = some d->vs[i]? = some v->ElRel V e d v
 | [],ds,vs,h,hl,_,_=>by
  simp [allE]at h
  subst h
  simp at hl
  subst hl
  simp
 | x :: l,ds,vs,h,hl,hs,hr=>by
  simp only [allE]at h
  split at h
  ·rename_i d ds' hd hds
   cases h
   cases vs with
   | nil=>simp at hl
   | cons v vs=>
    have h0:=toE_rel hd (fun s k=>hs s (by rw [<- k];simp)) (hr 0 x v rfl rfl)
    obtain⟨i1,i2⟩:=allE_rel hds (by simpa using hl) (fun s k=>hs s (mcM _ k)) (fun i x v hx hv=>hr (i+1) x v (by simpa using hx) (by simpa using hv))
    refine⟨by simp [i1],fun i d' v' hd' hv'=>?_⟩
    cases i with
    | zero=>simp at hd' hv';subst hd' hv';exact h0
    | succ i=>exact i2 i d' v' (by simpa using hd') (by simpa using hv')
  ·cases h
theorem buildNew {t:TypeId} {e e2:E} (hC:C.Ok) (he:C.Γ t=some e) (h2:e2.fam=e.fam) (rr:WRel C obs w ρ) {vs:List Value} {ds:List e2.D} (hl:vs.length<=1000) (hds:ds.length=vs.length)
  (hr:∀ V',(C.V w obs ρ).le V'->∀(i:Nat) (d:e2.D) (v:Value),ds[i]? = some d->vs[i]? = some v->ElRel V' e2 d v)
  (parts:Array (Nat×Value)) (hp:parts.toList=(vs.zipIdx 0).map fun x=>(x.2,x.1)) :
  ∃ z w' ρ',(Instr.buildSlice t vs.length parts).run C.P w=.ok z w'/\Step C w w' obs (obs ++ [.arr e2 ds 0 true]) ρ ρ'/\AVRel (C.V w' (obs ++ [.arr e2 ds 0 true]) ρ') (obs ++ [.arr e2 ds 0 true]) ρ' (.own obs.length 0) z:=by
 have htid:C.tid e2=C.tid e:=by
  cases e2<;>cases e<;>simp [E.fam]at h2<;>first | rfl | (rename_i f;exact hC.same f) | (rename_i f;exact(hC.same f).symm) | (rename_i f g;exact(hC.same f).trans (hC.same g).symm)
 have hs2:e2.size=e.size:=by cases e2<;>cases e<;>simp [E.fam]at h2<;>rfl
 have hv:∀ v∈vs,v.cells.size=e.size:=by
  intro v hv
  obtain⟨i,hi⟩:=List.getElem?_of_mem hv
  have hlt:i < vs.length:=(geS.1 hi).1
  rw [<- hs2]
  exact(hr _ (Vw.le.refl _) i (ds[i]'om) v (by simp) hi).cells.1
 obtain⟨cs,hrun,hcl,hcs⟩:=run_build (w:=w) hC he hv hl parts hp
 have hext:Ext (fun _=>False) w (w.alloc (.cells cs (C.tid e))):=Ext.alloc _ _ _
 have hb:∀ b,fpo (.slice (some ⟨w.heap.size,0,none⟩) vs.length vs.length) (.arr e2 ds 0 true) b->w.heap.size<=b:=by
  intro b hb
  simp [fpo,Value.ownBlock]at hb
  omega
 have hV:=le_new (C:=C) (obs:=obs) (ρ:=ρ) hext hb
 refine⟨_,_,_,hrun,(Turn.new rr hext _ _ ?_ hb).step rr,?_⟩
 ·refine⟨cs.toList,⟨by rw [hs2,hds];simpa using hcl,.inr ⟨w.heap.size,vs.length,cs,by rw [hds],nz0 _,?_,by omega,by rw [maxLen_num];omega,by rw [hs2];exact hcl,?_⟩⟩,⟨by rw [hs2,hds];simpa using hcl,fun i hi=>⟨vs[i]'om,hr _ hV i _ _ (by simp) (by simp),fun j hj=>?_⟩⟩,by simp,by rw [hds,maxLen_num];omega⟩
  ·rw [htid];exact heap_alloc_new w _
  ·rw [hds,hs2];exact List.take_of_length_le (by rw [Array.length_toList,hcl];exact Nat.le_refl _)
  ·rw [hs2]at hj ⊢
   rw [Array.getElem?_toList]
   exact hcs i om j hj
 ·refine⟨by simp,fun c hc=>?_⟩
  have:c=0:=by simpa [genOf,O.gen] using hc.symm
  subst this
  simp
theorem letgo_rel (rr:WRel C obs w ρ) {id g:Nat} {xs:List Int} {nn:Bool} (ho:obs[id]? = some (.arr .int xs g nn)) :
  Step C w w obs (obs.set id .dead) ρ (fun i=>if i=id then ρ id else ρ i)/\RowRel (C.V w (obs.set id .dead) (fun i=>if i=id then ρ id else ρ i)) true xs (ρ id) /\
   (nn=true->∃ l,(ρ id).ownBlock=some l/\LRowRel (C.V w (obs.set id .dead) (fun i=>if i=id then ρ id else ρ i)) l xs (ρ id)):=by
 have T:=Turn.letgo rr ho
 have hst:=T.step rr
 obtain⟨cs,hown,henc,hnn,hml⟩:=rr.os id _ ho
 have hcs:cs=xs.map (Value.int .i64):=by
  apply List.ext_getElem?
  intro i
  have hl:=henc.1
  simp only [E.size,Nat.mul_one]at hl
  by_cases hi:i < xs.length
  ·obtain⟨u,hu,hc⟩:=henc.2 i hi
   have h0:=hc 0 (by simp [E.size])
   cases hu
   simp [E.size,Value.cells]at h0
   rw [h0]
   simp [hi]
  ·rw [geN om,geN (by simp;omega)]
 subst hcs
 rcases hown.2 with⟨hv,hz⟩ | ⟨b,cap,cur,hv,_,hg,h1,h2,h3,h4⟩
 ·have hx:xs=[]:=nilZ hz
  subst hx
  exact⟨hst,⟨none,0,by rw [hv];rfl,by simp,by simp,fun i hi=>by simp at hi⟩,fun k=>absurd hv (hnn k)⟩
 ·have hfp:fpo (ρ id) (.arr .int xs g nn) b:=by simp [fpo,hv,Value.ownBlock]
  have hnot:¬Own (obs.set id .dead) (fun i=>if i=id then ρ id else ρ i) b:=by
   rintro⟨j,oj,hj,hf⟩
   by_cases hji:id=j
   ·subst hji
    rw [List.getElem?_set_self (geS.1 ho).1]at hj
    cases hj
    simp [fpo]at hf
   ·rw [List.getElem?_set_ne hji]at hj
    simp only [if_neg (Ne.symm hji)]at hf
    exact hji (rr.dis id j _ oj b ho hj hfp hf)
  have hH:(C.V w (obs.set id .dead) (fun i=>if i=id then ρ id else ρ i)).H b=some (.cells cur (C.tid .int) (0,0)):=by
   simp only [Ctx.V,mask,if_neg hnot]
   exact hg
  have hL:LRowRel (C.V w (obs.set id .dead) (fun i=>if i=id then ρ id else ρ i)) b xs (ρ id):=by
   refine⟨cap,cur,hv,.inl (rr.own b ⟨id,_,ho,hfp⟩),hH,h1,h2,by simpa [E.size] using h3,by simpa [E.size] using h4⟩
  exact⟨hst,LRowRel.toRow hL,fun _=>⟨b,by rw [hv];rfl,hL⟩⟩
theorem rowsOf_sound:∀ {l:List AV} {obs obs':List O} {ρ:Nat->Value} {rs:List (List Int)} {vs:List Value},WRel C obs w ρ->rowsOf l obs=some (rs,obs')->vs.length=l.length ->
  (∀(i:Nat) (x:AV) (v:Value),l[i]? = some x->vs[i]? = some v->AVRel (C.V w obs ρ) obs ρ x v) ->
  ∃ ρ',Step C w w obs obs' ρ ρ'/\obs'.length=obs.length/\rs.length=vs.length/\∀(i:Nat) (d:List Int) (v:Value),rs[i]? = some d->vs[i]? = some v->RowRel (C.V w obs' ρ') false d v
 | [],obs,obs',ρ,rs,vs,rr,h,hl,_=>by
  simp [rowsOf]at h
  obtain⟨rfl,rfl⟩:=h
  simp at hl
  subst hl
  exact⟨ρ,Step.refl rr,rfl,rfl,by simp⟩
 | x :: l,obs,obs',ρ,rs,vs,rr,h,hl,hr=>by
  cases vs with
  | nil=>simp at hl
  | cons v vs=>
  have h0:=hr 0 x v rfl rfl
  have fin:∀(obs1:List O) (ρ1:Nat->Value) (xs:List Int),Step C w w obs obs1 ρ ρ1->obs1.length=obs.length->RowRel (C.V w obs1 ρ1) false xs v->(rowsOf l obs1).map (fun p=>(xs :: p.1,p.2))=some (rs,obs') ->
    ∃ ρ',Step C w w obs obs' ρ ρ'/\obs'.length=obs.length/\rs.length=(v :: vs).length/\∀(i:Nat) (d:List Int) (u:Value),rs[i]? = some d->(v :: vs)[i]? = some u->RowRel (C.V w obs' ρ') false d u:=by
   intro obs1 ρ1 xs hst hlen hrow hm
   cases hro:rowsOf l obs1 with
   | none=>rw [hro]at hm;simp at hm
   | some p=>
    rw [hro]at hm
    obtain⟨rs1,obs2⟩:=p
    simp at hm
    obtain⟨rfl,rfl⟩:=hm
    obtain⟨ρ',k1,k2,k3,k4⟩:=rowsOf_sound hst.wr hro (by simpa using hl) (fun i x v hx hv=>hst.av (hr (i+1) x v (by simpa using hx) (by simpa using hv)))
    refine⟨ρ',hst.trans k1,by omega,by simp [k3],fun i d u hd hu=>?_⟩
    cases i with
    | zero=>simp at hd hu;subst hd hu;exact hrow.mono k1.le
    | succ i=>exact k4 i d u (by simpa using hd) (by simpa using hu)
  unfold rowsOf at h
  split at h
  ·cases ‹_=[]›
  ·rename_i f xs r heq
   cases heq
   exact fin _ _ xs (Step.refl rr) rfl ((SlRel.toRow h0).weaken) h
  ·rename_i b xs r heq
   cases heq
   exact fin _ _ xs (Step.refl rr) rfl ((LRowRel.toRow h0).weaken) h
  ·rename_i id g r heq
   cases heq
   split at h
   ·rename_i xs g' nn ho
    split at h
    ·rename_i hg
     subst hg
     obtain⟨hv,_⟩:=own_arr rr ho h0
     subst hv
     obtain⟨k1,k2,_⟩:=letgo_rel rr ho
     exact fin _ _ xs k1 (by simp) k2.weaken h
    ·cases h
   ·cases h
  ·cases h
def NewOk (C:Ctx) (obs:List O) (w:World) (ρ:Nat->Value) (r:AV) (o:List O) (z:Value) (w':World):Prop:=
 ∃ ρ',Step C w w' obs o ρ ρ'/\AVRel (C.V w' o ρ') o ρ' r z
theorem parts_get {parts:List (Nat×AV)} {vs:List Value}
  (h:∀(i:Nat) (x:Nat×AV) (v:Value),parts[i]? = some x->vs[i]? = some v->AVRel (C.V w obs ρ) obs ρ x.2 v) :
  ∀(i:Nat) (x:AV) (v:Value),(parts.map (·.2))[i]? = some x->vs[i]? = some v->AVRel (C.V w obs ρ) obs ρ x v:=by
 intro i x v hx hv
 rw [List.getElem?_map,Option.map_eq_some_iff]at hx
 obtain⟨p,hp,rfl⟩:=hx
 exact h i p v hp hv
theorem buildV_sound (hC:C.Ok) {t:TypeId} {n:Nat} {parts:List (Nat×AV)} (rr:WRel C obs w ρ) {pv:Array (Nat×Value)} (hpl:pv.toList.length=parts.length)
  (hpv:∀(i:Nat) (x:Nat×AV) (v:Nat×Value),parts[i]? = some x->pv.toList[i]? = some v->v.1=x.1/\AVRel (C.V w obs ρ) obs ρ x.2 v.2) :
  (∀(vc:Prop) (r:AV) (o:List O),buildV (C.Γ t) n parts obs=.ok vc r o->vc->∃ z w',(Instr.buildSlice t n pv).run C.P w=.ok z w'/\NewOk C obs w ρ r o z w') /\
  (∀(p:Nat->Prop) (r:Nat->AV) (o:Nat->List O),buildV (C.Γ t) n parts obs=.all p r o->∃ z w' l,p l/\(Instr.buildSlice t n pv).run C.P w=.ok z w'/\NewOk C obs w ρ (r l) (o l) z w'):=by
 have hvs:∃ vs:List Value,vs=pv.toList.map (·.2):=⟨_,rfl⟩
 obtain⟨vs,hvs⟩:=hvs
 have hvl:vs.length=parts.length:=by rw [hvs];simpa using hpl
 have hrel:∀(i:Nat) (x:Nat×AV) (v:Value),parts[i]? = some x->vs[i]? = some v->AVRel (C.V w obs ρ) obs ρ x.2 v:=by
  intro i x v hx hv
  rw [hvs,List.getElem?_map,Option.map_eq_some_iff]at hv
  obtain⟨p,hp,rfl⟩:=hv
  exact(hpv i x p hx hp).2
 have hparts:parts.map (·.1)=List.range n->n=vs.length/\pv.toList=(vs.zipIdx 0).map fun x=>(x.2,x.1):=by
  intro h
  have hn:n=vs.length:=by have:=congrArg List.length h;simp at this;omega
  refine⟨hn,?_⟩
  apply List.ext_getElem?
  intro i
  by_cases hi:i < vs.length
  ·have hp:i < parts.length:=by omega
   have hq:i < pv.toList.length:=by omega
   have hh:=hpv i parts[i] pv.toList[i] (by simp [hp]) (by simp)
   have h1:parts[i].1=i:=by
    have:=congrArg (fun l=>l[i]?) h
    simp [hp,show i < n by omega]at this
    exact this
   have h2:vs[i]=pv.toList[i].2:=by simp [hvs]
   simp only [List.getElem?_map,List.getElem?_zipIdx]
   simp only [geE (show i < pv.toList.length by omega),geE hi,Option.map_some,Nat.zero_add]
   congr 1
   exact Prod.ext (by rw [hh.1,h1]) h2.symm
  ·rw [geN om,geN (by simp;omega)]
 have hav:=parts_get hrel
 unfold buildV
 split
 case h_2=>exact⟨fun _ _ _ h=>(by cases h),fun _ _ _ h=>(by cases h)⟩
 rename_i _ e he
 split
 case isFalse=>exact⟨fun _ _ _ h=>(by cases h),fun _ _ _ h=>(by cases h)⟩
 rename_i hc
 obtain⟨hr,hn⟩:=hc
 obtain⟨rfl,hpp⟩:=hparts hr
 split
 ·rename_i hel
  subst hel
  split
  ·
   refine⟨fun _ _ _ h _=>?_,fun _ _ _ h=>by cases h⟩
   cases h
   have hv0:vs=[]:=nilZ (by simpa using hvl)
   obtain⟨z,w',ρ',k1,k2,k3⟩:=buildNew (e2:=.lrow) (ds:=[]) hC he rfl rr hn (by rw [hv0];rfl) (fun _ _ i d v hd=>by simp at hd) pv hpp
   exact⟨z,w',k1,ρ',k2,k3⟩
  ·rename_i a l xs
   refine⟨fun _ _ _ h _=>?_,fun _ _ _ h=>by cases h⟩
   cases h
   obtain⟨v0,hv0⟩:∃ v0,vs=[v0]:=by
    match vs,hvl with
    | [v0],_=>exact⟨v0,rfl⟩
   have hh:=hav 0 _ v0 rfl (by rw [hv0];rfl)
   obtain⟨z,w',ρ',k1,k2,k3⟩:=buildNew (e2:=.lrow) (ds:=[(l,xs)]) hC he rfl rr hn (by rw [hv0];rfl) (fun V' hV i d v hd hv=>by
    rw [hv0]at hv
    cases i with
    | zero=>simp at hd hv;subst hd hv;exact LRowRel.mono hV hh
    | succ i=>simp at hd) pv hpp
   exact⟨z,w',k1,ρ',k2,k3⟩
  ·rename_i a xs
   refine⟨fun _ _ _ h _=>?_,fun _ _ _ h=>by cases h⟩
   cases h
   obtain⟨v0,hv0⟩:∃ v0,vs=[v0]:=by
    match vs,hvl with
    | [v0],_=>exact⟨v0,rfl⟩
   have hh:=hav 0 _ v0 rfl (by rw [hv0];rfl)
   obtain⟨z,w',ρ',k1,k2,k3⟩:=buildNew (e2:=.row true) (ds:=[xs]) hC he rfl rr hn (by rw [hv0];rfl) (fun V' hV i d v hd hv=>by
    rw [hv0]at hv
    cases i with
    | zero=>simp at hd hv;subst hd hv;exact RowRel.mono hV (SlRel.toRow hh)
    | succ i=>simp at hd) pv hpp
   exact⟨z,w',k1,ρ',k2,k3⟩
  ·rename_i a id g
   refine⟨fun vc r o h _=>?_,fun p r o h=>?_⟩
   ·split at h
    ·split at h<;>cases h
    ·cases h
   ·split at h
    case h_2=>cases h
    rename_i xs g' ho
    split at h
    case isFalse=>cases h
    rename_i hg
    subst hg
    cases h
    obtain⟨v0,hv0⟩:∃ v0,vs=[v0]:=by
     match vs,hvl with
     | [v0],_=>exact⟨v0,rfl⟩
    have hh:=hav 0 _ v0 rfl (by rw [hv0];rfl)
    obtain⟨hv,_⟩:=own_arr rr ho hh
    obtain⟨m1,_,m3⟩:=letgo_rel rr ho
    obtain⟨l,hl,hL⟩:=m3 rfl
    have hfresh:FreshL obs l:=by
     intro o ho' ys gg nn heq p hp hpl
     obtain⟨j,hj⟩:=List.getElem?_of_mem ho'
     obtain⟨cs,henc⟩:=lab_enc (rr.os j _ hj) heq
     obtain⟨i,hi⟩:=List.getElem?_of_mem hp
     have hlt:i < ys.length:=(geS.1 hi).1
     obtain⟨u,hu,_⟩:=henc.2 i hlt
     have hpi:ys[i]=p:=(geS.1 hi).2
     rw [hpi]at hu
     obtain⟨cap,cur,_,_,hH,_⟩:=hu
     rw [hpl]at hH
     have hown:Own obs ρ l:=⟨id,_,ho,by simpa [fpo] using hl⟩
     simp [Ctx.V,mask,hown]at hH
    obtain⟨z,w',ρ',k1,k2,k3⟩:=buildNew (obs:=obs.set id .dead) (ρ:=fun i=>if i=id then ρ id else ρ i) (e2:=.lrow) (ds:=[(l,xs)]) hC he rfl m1.wr hn (by rw [hv0];rfl) (fun V' hV i d v hd hv'=>by
     rw [hv0]at hv'
     cases i with
     | zero=>simp at hd hv';subst hd hv';rw [hv];exact LRowRel.mono hV hL
     | succ i=>simp at hd) pv hpp
    rw [List.length_set]at k3
    exact⟨z,w',l,hfresh,k1,ρ',m1.trans k2,k3⟩
  ·refine⟨fun vc r o h _=>?_,fun p r o h=>?_⟩
   ·split at h
    case h_2=>cases h
    rename_i l obs' hro
    cases h
    obtain⟨ρ1,m1,m2,m3,m4⟩:=rowsOf_sound rr hro (by simpa using hvl) hav
    obtain⟨z,w',ρ',k1,k2,k3⟩:=buildNew (obs:=obs') (ρ:=ρ1) (e2:=.row false) (ds:=l) hC he rfl m1.wr hn m3 (fun V' hV i d v hd hv=>RowRel.mono hV (m4 i d v hd hv)) pv hpp
    rw [m2]at k3
    exact⟨z,w',k1,ρ',m1.trans k2,k3⟩
   ·split at h<;>cases h
 ·refine⟨fun vc r o h hvc=>?_,fun p r o h=>?_⟩
  ·split at h
   case h_2=>cases h
   rename_i l hal
   cases h
   obtain⟨m1,m2⟩:=allE_rel hal (by simpa using hvl) hvc hav
   obtain⟨z,w',ρ',k1,k2,k3⟩:=buildNew (e2:=e) (ds:=l) hC he rfl rr hn m1 (fun V' hV i d v hd hv=>(m2 i d v hd hv).mono hV) pv hpp
   exact⟨z,w',k1,ρ',k2,k3⟩
  ·split at h<;>cases h
end sound
end Go.Aw
