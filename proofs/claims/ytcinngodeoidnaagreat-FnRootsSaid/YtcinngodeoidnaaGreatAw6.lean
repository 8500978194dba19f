/- A region that draws its order: the walk of one order serves every order, if what may change places is apart and one of the two only reads. -/
import Derived.Test.YtcinngodeoidnaaGreatAw5
import Derived.Orders
import Derived.WalkKit
import Derived.ProofKit
import Derived.OpenShut
import Derived.Carry
import Derived.Deep.Matrix
import Derived.ChangeSlices
set_option linter.unusedVariables false
set_option linter.unusedSimpArgs false
namespace Go.Aw
open Go
def opnd:Operand->List Nat
 | .tmp t=>[t]
 | _=>[]
def opndO:Option Operand->List Nat
 | some x=>opnd x
 | none=>[]
def opndL:List Operand->List Nat
 | []=>[]
 | x :: l=>opnd x ++ opndL l
def opndP:List (Nat×Operand)->List Nat
 | []=>[]
 | x :: l=>opnd x.2 ++ opndP l
def opndC:Callee->List Nat
 | .value x=>opnd x
 | _=>[]
def opReads:Op->List Nat
 | .move x=>opnd x
 | .assign x=>opnd x
 | .pick c a b=>opnd c ++ opnd a ++ opnd b
 | .binOp _ _ x y _=>opnd x ++ opnd y
 | .unOp _ _ x=>opnd x
 | .load _ x=>opnd x
 | .box _ x=>opnd x
 | .store _ x y=>opnd x ++ opnd y
 | .indexAddr _ x y=>opnd x ++ opnd y
 | .convert _ _ x=>opnd x
 | .index _ x y=>opnd x ++ opnd y
 | .lookup _ x y _=>opnd x ++ opnd y
 | .mapUpdate _ x y z=>opnd x ++ opnd y ++ opnd z
 | .insert _ x y z=>opnd x ++ opnd y ++ opnd z
 | .makeSlice _ x y=>opnd x ++ opnd y
 | .buildSlice _ _ parts=>opndP parts.toList
 | .slice _ x lo hi mx=>opnd x ++ opndO lo ++ opndO hi ++ opndO mx
 | .extract x _=>opnd x
 | .call c=>opndC c.callee ++ opndL c.args.toList
 | .makeFunc _ first caps=>opndL first.toList ++ opndL caps.toList
 | .build _ parts=>opndP parts.toList
 | .fieldAddr _ x _=>opnd x
 | _=>[]
def gReads (ds:List (Option Nat)):Option (Nat×Bool)->List Nat
 | some (j,_)=>(slotOf ds j).toList
 | none=>[]
def reads (ds:List (Option Nat)) (o:Oper):List Nat:=opReads o.op ++ gReads ds o.guard
def Agree (L:List Nat) (σ σ':St):Prop:=∀ s∈L,look s σ.fr=look s σ'.fr
section
variable {σ σ':St}
theorem ev_agree {x:Operand} (h:Agree (opnd x) σ σ'):σ.ev x=σ'.ev x:=by
 cases x with
 | tmp t=>simp only [St.ev,h t (by simp [opnd])]
 | _=>rfl
theorem has_agree {x:Operand} (h:Agree (opnd x) σ σ'):σ.has x=σ'.has x:=by
 cases x with
 | tmp t=>simp only [St.has,h t (by simp [opnd])]
 | _=>rfl
theorem Agree.left {L M:List Nat} (h:Agree (L ++ M) σ σ'):Agree L σ σ':=fun s hs=>h s (List.mem_append_left _ hs)
theorem Agree.right {L M:List Nat} (h:Agree (L ++ M) σ σ'):Agree M σ σ':=fun s hs=>h s (List.mem_append_right _ hs)
theorem evL_agree:∀ {l:List Operand},Agree (opndL l) σ σ'->evL σ l=evL σ' l
 | [],_=>rfl
 | x :: l,h=>by simp only [evL,ev_agree (Agree.left h),evL_agree (Agree.right h)]
theorem hasL_agree:∀ {l:List Operand},Agree (opndL l) σ σ'->hasL σ l=hasL σ' l
 | [],_=>rfl
 | x :: l,h=>by simp only [hasL,has_agree (Agree.left h),hasL_agree (Agree.right h)]
theorem evP_agree:∀ {l:List (Nat×Operand)},Agree (opndP l) σ σ'->evP σ l=evP σ' l
 | [],_=>rfl
 | x :: l,h=>by simp only [evP,ev_agree (Agree.left h),evP_agree (Agree.right h)]
theorem hasP_agree:∀ {l:List (Nat×Operand)},Agree (opndP l) σ σ'->hasP σ l=hasP σ' l
 | [],_=>rfl
 | x :: l,h=>by simp only [hasP,has_agree (Agree.left h),hasP_agree (Agree.right h)]
theorem omap_agree {x:Option Operand} (h:Agree (opndO x) σ σ'):x.map σ.ev=x.map σ'.ev:=by
 cases x with
 | none=>rfl
 | some x=>simp only [Option.map_some,ev_agree (x:=x) h]
theorem hasO_agree {x:Option Operand} (h:Agree (opndO x) σ σ'):hasO σ x=hasO σ' x:=by
 cases x with
 | none=>rfl
 | some x=>exact has_agree (x:=x) h
theorem hasAll_agree {op:Op} (h:Agree (opReads op) σ σ'):hasAll σ op=hasAll σ' op:=by
 cases op<;>simp only [opReads]at h<;>try rfl
 case binOp=>simp only [hasAll,has_agree h.left,has_agree h.right]
 case unOp=>exact has_agree h
 case load=>exact has_agree h
 case box=>exact has_agree h
 case store=>simp only [hasAll,has_agree h.left,has_agree h.right]
 case indexAddr=>simp only [hasAll,has_agree h.left,has_agree h.right]
 case convert=>simp only [hasAll,has_agree h]
 case index=>simp only [hasAll,has_agree h.left,has_agree h.right]
 case lookup=>simp only [hasAll,has_agree h.left,has_agree h.right]
 case mapUpdate=>simp only [hasAll,has_agree h.left.left,has_agree h.left.right,has_agree h.right]
 case insert=>simp only [hasAll,has_agree h.left.left,has_agree h.left.right,has_agree h.right]
 case makeSlice=>simp only [hasAll,has_agree h.left,has_agree h.right]
 case buildSlice=>simp only [hasAll,<- hasP_eq,hasP_agree h]
 case slice t x lo hi mx=>
  cases mx with
  | none=>simp only [hasAll,<- hasO_eq,has_agree h.left.left.left,hasO_agree h.left.left.right,hasO_agree h.left.right]
  | some m=>simp only [hasAll,<- hasO_eq,has_agree h.left.left.left,hasO_agree h.left.left.right,hasO_agree h.left.right,has_agree (x:=m) h.right]
 case pick=>exact has_agree h.left.left
 case call=>simp only [hasAll,<- hasL_eq,hasL_agree h.right]
 case makeFunc=>simp only [hasAll,<- hasL_eq,hasL_agree h.right]
 case build=>simp only [hasAll,<- hasP_eq,hasP_agree h]
 case fieldAddr=>exact has_agree h
def Res.on (obs:List O):Res->Res
 | .ok vc x _=>.ok vc x obs
 | r=>r
variable {C:Ctx}
theorem astep_agree {op:Op} (h:Agree (opReads op) σ σ') (ho:σ.obs=σ'.obs):astep C σ op=astep C σ' op:=by
 obtain⟨n,fr,obs⟩:=σ
 obtain⟨n',fr',obs'⟩:=σ'
 simp only at ho
 subst ho
 cases op<;>simp only [opReads]at h<;>try rfl
 case move=>simp only [astep,ev_agree h,has_agree h]
 case assign=>simp only [astep,ev_agree h,has_agree h]
 case pick=>simp only [astep_pick,ev_agree h.left.left,ev_agree h.left.right,ev_agree h.right,has_agree h.left.right,has_agree h.right]
 case binOp=>simp only [astep_bin,ev_agree h.left,ev_agree h.right]
 case unOp=>simp only [astep,ev_agree h]
 case load=>simp only [astep,ev_agree h]
 case box=>simp only [astep,ev_agree h]
 case store=>simp only [astep_store,ev_agree h.left,ev_agree h.right]
 case indexAddr=>simp only [astep,ev_agree h.left,ev_agree h.right]
 case convert=>simp only [astep,ev_agree h]
 case index=>simp only [astep,ev_agree h.left,ev_agree h.right]
 case lookup t x y b=>
  cases b with
  | true=>rfl
  | false=>simp only [astep,ev_agree h.left,ev_agree h.right]
 case mapUpdate=>simp only [astep,ev_agree h.left.left,ev_agree h.left.right,ev_agree h.right]
 case insert=>simp only [astep,ev_agree h.left.left,ev_agree h.left.right,ev_agree h.right]
 case makeMap t x=>cases x<;>rfl
 case makeFunc fn first caps=>
  cases fn<;>try rfl
  simp only [astep,<- evL_eq,evL_agree h.left,evL_agree h.right]
 case makeSlice=>simp only [astep,ev_agree h.left,ev_agree h.right]
 case buildSlice t m parts=>simp only [astep,<- evP_eq,evP_agree h]
 case build t parts=>simp only [astep,<- evP_eq,evP_agree h]
 case fieldAddr t x k=>simp only [astep,ev_agree h]
 case slice t x lo hi mx=>
  cases mx with
  | none=>simp only [astep_slice,ev_agree h.left.left.left,omap_agree h.left.left.right,omap_agree h.left.right]
  | some m=>simp only [astep,ev_agree h.left.left.left,omap_agree h.left.left.right,omap_agree h.left.right,ev_agree (x:=m) h.right]
 case extract x i=>
  cases x with
  | tmp t=>simp only [astep_ex,h t (by simp [opnd])]
  | _=>rfl
 case call c=>
  obtain⟨cal,args,ts⟩:=c
  cases cal with
  | builtin b=>
   obtain⟨l⟩:=args
   obtain⟨tl⟩:=ts
   replace h:Agree (opndL l) _ _:=h.right
   cases b<;>try rfl
   case len=>
    match l,tl with
    | [x],[t]=>exact congrArg (fun y=>lenQ (C.bt t) (C.Γ t) y obs) (ev_agree (x:=x) h.left)
    | [],_=>rfl
    | [_],[]=>rfl
    | [_],_ :: _ :: _=>rfl
    | _ :: _ :: _,_=>rfl
   case append=>
    match l,tl with
    | [x,y],[t,t']=>simp only [astep,ev_agree (x:=x) h.left,ev_agree (x:=y) h.right.left]
    | [],_=>rfl
    | [_],_=>rfl
    | [_,_],[]=>rfl
    | [_,_],[_]=>rfl
    | [_,_],_ :: _ :: _ :: _=>rfl
    | _ :: _ :: _ :: _,_=>rfl
   case copy=>
    match l,tl with
    | [x,y],[t,t']=>simp only [astep,ev_agree (x:=x) h.left,ev_agree (x:=y) h.right.left]
    | [],_=>rfl
    | [_],_=>rfl
    | [_,_],[]=>rfl
    | [_,_],[_]=>rfl
    | [_,_],_ :: _ :: _ :: _=>rfl
    | _ :: _ :: _ :: _,_=>rfl
   case max=>
    match l with
    | [x,y]=>simp only [astep,ev_agree (x:=x) h.left,ev_agree (x:=y) h.right.left]
    | []=>rfl
    | [_]=>rfl
    | _ :: _ :: _ :: _=>rfl
   case min=>
    match l with
    | [x,y]=>simp only [astep,ev_agree (x:=x) h.left,ev_agree (x:=y) h.right.left]
    | []=>rfl
    | [_]=>rfl
    | _ :: _ :: _ :: _=>rfl
  | _=>rfl
def pureOp:Op->Bool
 | .move _ | .assign _ | .pick .. | .binOp .. | .unOp .. | .extract .. | .slice _ _ (some _) _ none | .slice _ _ none (some _) none | .index .. | .fieldAddr ..=>true
 | _=>false
theorem binV_on (op:BinOp) (x y:AV) (obs obs':List O):binV op x y obs'=(binV op x y obs).on obs':=by
 unfold binV
 split
 ·unfold binI sameK
  repeat' split
  all_goals rfl
 all_goals ((repeat' split)<;>rfl)
theorem binQ_on (b:Option BT) (gq:Option E) (op:BinOp) (x y:AV) (obs obs':List O):binQ b gq op x y obs'=(binQ b gq op x y obs).on obs':=by
 unfold binQ
 split<;>first | exact binV_on .. | rfl
theorem astep_pure {op:Op} (hp:pureOp op=true) (n:Nat) (fr:List (Nat×Bool×Sl)) (obs obs':List O):astep C ⟨n,fr,obs'⟩ op=(astep C ⟨n,fr,obs⟩ op).on obs':=by
 cases op<;>simp only [pureOp]at hp<;>first | (cases hp;done) | skip
 case move=>rfl
 case assign=>rfl
 case pick c x y=>
  simp only [astep_pick,pickQ]
  rw [show St.ev ⟨n,fr,obs'⟩ c=St.ev ⟨n,fr,obs⟩ c from rfl,show St.ev ⟨n,fr,obs'⟩ x=St.ev ⟨n,fr,obs⟩ x from rfl,show St.ev ⟨n,fr,obs'⟩ y=St.ev ⟨n,fr,obs⟩ y from rfl]
  cases St.ev ⟨n,fr,obs⟩ c<;>cases St.ev ⟨n,fr,obs⟩ x<;>cases St.ev ⟨n,fr,obs⟩ y<;>rfl
 case binOp op t x y t'=>exact binQ_on ..
 case unOp op t x=>
  simp only [astep,unV]
  rw [show St.ev ⟨n,fr,obs'⟩ x=St.ev ⟨n,fr,obs⟩ x from rfl]
  split<;>rfl
 case slice t x lo hi mx=>
  cases mx with
  | some m=>simp [pureOp]at hp
  | none=>
   simp only [astep_slice]
   rw [show St.ev ⟨n,fr,obs'⟩ x=St.ev ⟨n,fr,obs⟩ x from rfl,show(lo.map fun z=>St.ev ⟨n,fr,obs'⟩ z)=(lo.map fun z=>St.ev ⟨n,fr,obs⟩ z)from rfl,show(hi.map fun z=>St.ev ⟨n,fr,obs'⟩ z)=(hi.map fun z=>St.ev ⟨n,fr,obs⟩ z)from rfl]
   have key:∀(v:AV) (l h:Option AV),sliceV v l h obs'=(sliceV v l h obs).on obs':=by
    intro v l h
    unfold sliceV
    split<;>first | rfl | (split<;>rfl)
   cases C.wt t with
   | some e=>
    simp only [sliceT_some]
    have keyw:∀(v:AV) (l h:Option AV),(l.isSome=true\/h.isSome=true)->wsliceV v l h obs'=(wsliceV v l h obs).on obs':=by
     intro v l h hs
     unfold wsliceV
     split
     ·rfl
     ·rcases hs with hs | hs
      ·cases hs
      ·cases h with
       | none=>cases hs
       | some y=>rfl
     ·rfl
    refine keyw _ _ _ ?_
    cases lo with
    | some _=>exact .inl rfl
    | none=>
     cases hi with
     | some _=>exact .inr rfl
     | none=>simp [pureOp]at hp
   | none=>
   simp only [sliceT_none]
   unfold sliceQ
   split
   ·exact key ..
   ·split
    ·exact key ..
    ·rfl
   ·split
    ·exact key ..
    ·rfl
   ·rfl
 case fieldAddr t x k=>
  simp only [astep,fldV]
  rw [show St.ev ⟨n,fr,obs'⟩ x=St.ev ⟨n,fr,obs⟩ x from rfl]
  split<;>rfl
 case index t x i=>
  simp only [astep,sixV]
  rw [show St.ev ⟨n,fr,obs'⟩ x=St.ev ⟨n,fr,obs⟩ x from rfl,show St.ev ⟨n,fr,obs'⟩ i=St.ev ⟨n,fr,obs⟩ i from rfl]
  split<;>rfl
 case extract x i=>
  cases x with
  | tmp t=>
   simp only [astep_ex,exQ]
   rcases look t fr with _ | ⟨_ | _,_ | l⟩<;>try rfl
   simp only []
   cases l[i]?<;>rfl
  | _=>rfl
theorem bagH_keep {obs obs':List O} (hk:Keeps obs obs') (hn:obs≠[]):bagH obs'=bagH obs:=by
 cases obs with
 | nil=>exact absurd rfl hn
 | cons o1 r1=>
  have h0:=hk 0 o1 rfl
  cases obs' with
  | nil=>simp at h0
  | cons o2 r2=>
   have h0:o2=o1:=by simpa using h0
   subst h0
   cases o2<;>rfl
theorem bagLoad_on (bt:Option BT) (gp:Option E) (mt:Option MT) (q k:Nat) (obs obs':List O) (p:BagD×Nat):bagLoad bt gp mt q k obs' p=(bagLoad bt gp mt q k obs p).on obs':=by
 obtain⟨d,g⟩:=p
 unfold bagLoad
 (repeat' split)<;>rfl
theorem bagLook_on (mt:Option MT) (b:Nat) (i:AV) (obs obs':List O) (p:BagD×Nat):bagLook mt b i obs' p=(bagLook mt b i obs p).on obs':=by
 obtain⟨d,g⟩:=p
 unfold bagLook
 (repeat' split)<;>rfl
theorem loadS_keep {obs obs':List O} (hk:Keeps obs obs') {sc:Bool} {wt:Option E} {v:AV} {vc:Prop} {x:AV} {o:List O} (h:loadS sc wt v obs=.ok vc x o):loadS sc wt v obs'=.ok vc x obs':=by
 revert h
 cases wt with
 | some e=>
  simp only [loadS_some]
  cases v<;>simp only [wloadV]<;>intro h<;>try(cases h;done)
  case elt id g s k=>
   cases ho:obs[id]? with
   | none=>rw [ho]at h;cases h
   | some ob=>
    rw [ho]at h
    rw [hk id ob ho]
    cases ob with
    | arr e xs g' nn=>
     cases e with
     | vec=>
      simp only at h ⊢
      split at h
      ·rename_i hc;rw [if_pos hc];cases h;rfl
      ·cases h
     | _=>cases h
    | _=>cases h
  case relt f e d=>
   cases e<;>simp only at h ⊢<;>first | (cases h;done) | (cases h;rfl)
 | none=>
 simp only [loadS_none]
 cases v<;>simp only [loadV]<;>intro h<;>try(cases h;done)
 case elt id g s k=>
  cases ho:obs[id]? with
  | none=>rw [ho]at h;cases h
  | some ob=>
   rw [ho]at h
   rw [hk id ob ho]
   cases ob with
   | dead=>cases h
   | arr e xs g' nn=>
    simp only at h ⊢
    split at h
    ·rename_i hc;rw [if_pos hc];cases h;rfl
    ·cases h
   | mat hs xs g' nn=>
    simp only at h ⊢
    split at h
    ·rename_i hc;rw [if_pos hc];cases h;rfl
    ·cases h
   | gm D F xs g' nn=>
    simp only at h ⊢
    split at h
    ·rename_i hc;rw [if_pos hc];cases h;rfl
    ·cases h
   | mp _ _ _=>cases h
   | ap _ _ _ _ _=>cases h
   | cur _ _=>cases h
   | bag _ _=>cases h
 case relt f e d=>
  split at h
  ·rename_i hc;rw [if_pos hc];cases h;rfl
  ·cases h
 case hp q k=>
  cases obs with
  | nil=>cases h
  | cons o1 r1=>
   have h0:=hk 0 o1 rfl
   cases obs' with
   | nil=>simp at h0
   | cons o2 r2=>
    have h0:o2=o1:=by simpa using h0
    subst h0
    cases o2<;>simp only at h ⊢<;>try(cases h;done)
    all_goals
     split at h
     ·rename_i hc;rw [if_pos hc];cases h;rfl
     ·cases h
theorem loadX_keep {obs obs':List O} (hk:Keeps obs obs') {bt:Option BT} {gp:Option E} {mt:Option MT} {sc:Bool} {wt:Option E} {pt:Bool} {v:AV} {vc:Prop} {x:AV} {o:List O} (h:loadX bt gp mt sc wt pt v obs=.ok vc x o):loadX bt gp mt sc wt pt v obs'=.ok vc x obs':=by
 rw [loadX_sel]at h ⊢
 cases v with
 | hp q k=>
  simp only [selH]at h ⊢
  by_cases hn:obs=[]
  ·subst hn
   cases wt<;>cases h
  ·rw [bagH_keep hk hn]
   cases hb:bagH obs with
   | none=>rw [hb]at h;exact loadS_keep hk h
   | some p=>
    rw [hb]at h
    simp only [orBag]at h ⊢
    rw [bagLoad_on bt gp mt q k obs obs' p,h];rfl
 | elt id g s k=>
  simp only [selH,selE]at h ⊢
  cases hs:s == 2 with
  | false=>rw [hs]at h;exact loadS_keep hk h
  | true=>
   rw [hs]at h
   simp only [cond_true]at h ⊢
   cases pt with
   | false=>cases h
   | true=>
    simp only [cond_true,pairLoad]at h ⊢
    cases ho:obs[id]? with
    | none=>rw [ho]at h;cases h
    | some ob=>
     rw [ho]at h
     rw [hk id ob ho]
     cases ob with
     | bag d g'=>
      simp only at h ⊢
      split at h
      ·rename_i hc;rw [if_pos hc];cases h;rfl
      ·cases h
     | arr e xs g' nn=>
      cases e with
      | pr=>
       simp only at h ⊢
       split at h
       ·rename_i hc;rw [if_pos hc];cases h;rfl
       ·cases h
      | _=>cases h
     | _=>cases h
 | _=>exact loadS_keep hk h
theorem mlookV_keep {obs obs':List O} (hk:Keeps obs obs') {mt:Option MT} {v u:AV} {vc:Prop} {x:AV} {o:List O} (h:mlookV mt v u obs=.ok vc x o):mlookV mt v u obs'=.ok vc x obs':=by
 unfold mlookV at h ⊢
 split at h
 ·rename_i m id g
  cases ho:obs[id]? with
  | none=>rw [ho]at h;cases h
  | some ob=>
   rw [ho]at h
   simp only [hk id ob ho]
   split at h
   ·rename_i heq hkv
    cases heq
    split at h
    ·rename_i hc;rw [if_pos hc];cases h;rfl
    ·cases h
   ·cases h
 ·cases h
theorem mlookX_keep {obs obs':List O} (hk:Keeps obs obs') {mt:Option MT} {v u:AV} {vc:Prop} {x:AV} {o:List O} (h:mlookX mt v u obs=.ok vc x o):mlookX mt v u obs'=.ok vc x obs':=by
 rw [mlookX_sel]at h ⊢
 cases v with
 | mv b=>
  simp only [selM]at h ⊢
  by_cases hn:obs=[]
  ·subst hn;cases h
  ·rw [bagH_keep hk hn]
   cases hb:bagH obs with
   | none=>rw [hb]at h;cases h
   | some p=>
    rw [hb]at h
    simp only [orBag]at h ⊢
    rw [bagLook_on mt b u obs obs' p,h];rfl
 | _=>exact mlookV_keep hk h
theorem slice0_keep {obs obs':List O} (hk:Keeps obs obs') {b:Option BT} {e wt:Option E} {v:AV} {vc:Prop} {x:AV} {o:List O} (h:sliceT wt (sliceQ b e v none none obs) v none none obs=.ok vc x o):sliceT wt (sliceQ b e v none none obs') v none none obs'=.ok vc x obs':=by
 cases wt with
 | none=>
  rw [sliceT_none]at h ⊢
  have key:∀(v:AV) (l h:Option AV),sliceV v l h obs'=(sliceV v l h obs).on obs':=by
   intro v l h
   unfold sliceV
   split<;>first | rfl | (split<;>rfl)
  have key2:sliceQ b e v none none obs'=(sliceQ b e v none none obs).on obs':=by
   unfold sliceQ
   split
   ·exact key ..
   ·split
    ·exact key ..
    ·rfl
   ·split
    ·exact key ..
    ·rfl
   ·rfl
  rw [key2,h];rfl
 | some _=>
  rw [sliceT_some]at h ⊢
  unfold wsliceV at h ⊢
  split at h
  ·cases h;rfl
  ·rename_i id g h4 hb hb2
   try simp only at h ⊢
   cases ho:obs[id]? with
   | none=>rw [ho]at h;cases h
   | some ob=>
    rw [ho]at h
    rw [hk id ob ho]
    split at h
    ·rename_i he
     cases he
     split at h
     ·rename_i hc;rw [if_pos hc];cases h;rfl
     ·cases h
    ·cases h
  ·cases h
theorem astep_keeps {op:Op} (hr:roOp op=true) {n:Nat} {fr:List (Nat×Bool×Sl)} {obs obs':List O} (hk:Keeps obs obs') {vc:Prop} {x:AV} {o:List O} (h:astep C ⟨n,fr,obs⟩ op=.ok vc x o) :
  astep C ⟨n,fr,obs'⟩ op=.ok vc x obs':=by
 by_cases hp:pureOp op=true
 ·rw [astep_pure hp n fr obs obs',h];rfl
 ·cases op<;>simp only [roOp]at hr<;>first | (cases hr;done) | (exact absurd rfl hp) | skip
  case slice t y lo hi mx=>
   cases mx with
   | none=>
    cases lo with
    | some _=>exact absurd rfl hp
    | none=>
    cases hi with
    | some _=>exact absurd rfl hp
    | none=>
    simp only [astep_slice,Option.map_none]at h ⊢
    rw [show St.ev ⟨n,fr,obs'⟩ y=St.ev ⟨n,fr,obs⟩ y from rfl]
    exact slice0_keep hk h
   | some m=>
    simp only [astep]at h ⊢
    rw [show St.ev ⟨n,fr,obs'⟩ y=St.ev ⟨n,fr,obs⟩ y from rfl,show(lo.map fun z=>St.ev ⟨n,fr,obs'⟩ z)=(lo.map fun z=>St.ev ⟨n,fr,obs⟩ z)from rfl,show(hi.map fun z=>St.ev ⟨n,fr,obs'⟩ z)=(hi.map fun z=>St.ev ⟨n,fr,obs⟩ z)from rfl,show St.ev ⟨n,fr,obs'⟩ m=St.ev ⟨n,fr,obs⟩ m from rfl]
    unfold slice3V at h ⊢
    split at h
    case h_2=>cases h
    rename_i q0 k0 n0 id g k' m' e1 e2 e3 e4 e5
    have e2':(lo.map fun z=>St.ev ⟨n,fr,obs⟩ z)=none:=e2
    have e3':(hi.map fun z=>St.ev ⟨n,fr,obs⟩ z)=some (AV.int k0 n0):=e3
    rw [e1,e2',e3',e4,e5]
    dsimp only
    cases ho:obs[id]? with
    | none=>rw [ho]at h;cases h
    | some ob=>
     rw [ho]at h
     rw [hk id ob ho]
     cases ob with
     | ap q ys fr2 g' nn=>
      cases fr2 with
      | false=>cases h
      | true=>
       simp only at h ⊢
       split at h
       ·rename_i hc;rw [if_pos hc];cases h;rfl
       ·cases h
     | _=>cases h
  case load t y=>
   simp only [astep]at h ⊢
   rw [show St.ev ⟨n,fr,obs'⟩ y=St.ev ⟨n,fr,obs⟩ y from rfl]
   exact loadX_keep hk h
  case indexAddr t y z=>
   simp only [astep]at h ⊢
   rw [show St.ev ⟨n,fr,obs'⟩ y=St.ev ⟨n,fr,obs⟩ y from rfl,show St.ev ⟨n,fr,obs'⟩ z=St.ev ⟨n,fr,obs⟩ z from rfl]
   revert h
   cases C.wt t with
   | some e=>
    simp only [idxS_some]
    cases St.ev ⟨n,fr,obs⟩ y<;>cases St.ev ⟨n,fr,obs⟩ z<;>simp only [widxV]<;>intro h<;>try(cases h;done)
    case relt.int f e d k i=>
     cases e<;>simp only at h ⊢<;>first | (cases h;done) | (cases h;rfl)
   | none=>
   simp only [idxS_none]
   cases C.Γ t with
   | none=>intro h;simp [idxV]at h
   | some e2=>
    cases St.ev ⟨n,fr,obs⟩ y<;>cases St.ev ⟨n,fr,obs⟩ z<;>simp only [idxV]<;>intro h<;>try(cases h;done)
    case sl.int=>
     split at h
     ·rename_i hc;rw [if_pos hc];cases h;rfl
     ·cases h
    case lr.int=>
     split at h
     ·rename_i hc;rw [if_pos hc];cases h;rfl
     ·cases h
    case hdr.int q m k i=>
     cases q with
     | none=>cases h
     | some q=>
      simp only at h ⊢
      split at h
      ·rename_i hc;rw [if_pos hc];cases h;rfl
      ·cases h
    case own.int id g k i=>
     cases ho:obs[id]? with
     | none=>rw [ho]at h;cases h
     | some ob=>
      rw [ho]at h
      rw [hk id ob ho]
      cases ob with
      | dead=>cases h
      | arr e xs g' nn=>
       simp only at h ⊢
       split at h
       ·rename_i hc;rw [if_pos hc];cases h;rfl
       ·cases h
      | mat hs xs g' nn=>
       simp only at h ⊢
       split at h
       ·rename_i hc;rw [if_pos hc];cases h;rfl
       ·cases h
      | gm D F xs g' nn=>
       simp only at h ⊢
       split at h
       ·rename_i hc;rw [if_pos hc];cases h;rfl
       ·cases h
      | mp _ _ _=>cases h
      | ap _ _ _ _ _=>cases h
      | cur _ _=>cases h
      | bag d g'=>
       simp only at h ⊢
       split at h
       ·rename_i hc;rw [if_pos hc];cases h;rfl
       ·cases h
  case lookup t y z b=>
   cases b with
   | true=>simp [astep]at h
   | false=>
    simp only [astep]at h ⊢
    rw [show St.ev ⟨n,fr,obs'⟩ y=St.ev ⟨n,fr,obs⟩ y from rfl,show St.ev ⟨n,fr,obs'⟩ z=St.ev ⟨n,fr,obs⟩ z from rfl]
    exact mlookX_keep hk h
  case convert s d y=>
   simp only [astep]at h ⊢
   rw [show St.ev ⟨n,fr,obs'⟩ y=St.ev ⟨n,fr,obs⟩ y from rfl]
   revert h
   generalize St.ev ⟨n,fr,obs⟩ y=v
   intro h
   unfold cnvV at h ⊢
   split at h
   ·split at h
    ·rename_i hc;simp only [hc,if_true];cases h;rfl
    ·cases h
   ·split at h
    ·rename_i hc;simp only [hc,if_true];cases h;rfl
    ·cases h
   ·rename_i id g hd
    cases ho:obs[id]? with
    | none=>rw [ho]at h;cases h
    | some ob=>
     rw [ho]at h
     simp only [hk id ob ho]
     split at h
     ·rename_i heq
      cases heq
      split at h
      ·rename_i hc;simp only [hc,and_self,if_true];cases h;rfl
      ·cases h
     ·cases h
   ·cases h
  case call c=>
   obtain⟨cal,⟨l⟩,⟨tl⟩⟩:=c
   cases cal with
   | builtin b=>
    cases b<;>simp only [roOp]at hr<;>first | (cases hr;done) | skip
    case len=>
     match l,tl with
     | [y],[t]=>
      have h':lenQ (C.bt t) (C.Γ t) (St.ev ⟨n,fr,obs⟩ y) obs=.ok vc x o:=h
      show lenQ (C.bt t) (C.Γ t) (St.ev ⟨n,fr,obs⟩ y) obs'=.ok vc x obs'
      revert h'
      generalize St.ev ⟨n,fr,obs⟩ y=v
      intro h'
      have key:lenV v obs=.ok vc x o->lenV v obs'=.ok vc x obs':=by
       intro hh
       cases v<;>simp only [lenV]at hh ⊢<;>try(cases hh;done)
       case sl=>cases hh;rfl
       case lr=>cases hh;rfl
       case nils=>cases hh;rfl
       case emp=>cases hh;rfl
       case str=>cases hh;rfl
       case lenv=>cases hh;rfl
       case hdr q m=>cases q<;>first | (cases hh;done) | (cases hh;rfl)
       case own id g=>
        cases ho:obs[id]? with
        | none=>rw [ho]at hh;cases hh
        | some ob=>
         rw [ho]at hh
         rw [hk id ob ho]
         cases ob with
         | dead=>cases hh
         | arr e xs g' nn=>
          simp only at hh ⊢
          split at hh
          ·rename_i hc;rw [if_pos hc];cases hh;rfl
          ·cases hh
         | mat hs xs g' nn=>
          simp only at hh ⊢
          split at hh
          ·rename_i hc;rw [if_pos hc];cases hh;rfl
          ·cases hh
         | gm D F xs g' nn=>
          simp only at hh ⊢
          split at hh
          ·rename_i hc;rw [if_pos hc];cases hh;rfl
          ·cases hh
         | mp _ _ _=>cases hh
         | ap q xs fr2 g' nn=>
          simp only at hh ⊢
          split at hh
          ·rename_i hc;rw [if_pos hc];cases hh;rfl
          ·cases hh
         | cur _ _=>cases hh
         | bag d g'=>
          simp only at hh ⊢
          split at hh
          ·rename_i hc;rw [if_pos hc];cases hh;rfl
          ·cases hh
      unfold lenQ at h' ⊢
      split at h'
      ·exact key h'
      ·cases h'
      ·rename_i g e _ _;exact key h'
      ·cases h'
     | [],_=>cases h
     | [_],[]=>cases h
     | [_],_ :: _ :: _=>cases h
     | _ :: _ :: _,_=>cases h
    case max=>
     match l with
     | [y,z]=>
      have h':maxV true (St.ev ⟨n,fr,obs⟩ y) (St.ev ⟨n,fr,obs⟩ z) obs=.ok vc x o:=h
      show maxV true (St.ev ⟨n,fr,obs⟩ y) (St.ev ⟨n,fr,obs⟩ z) obs'=.ok vc x obs'
      revert h'
      cases St.ev ⟨n,fr,obs⟩ y<;>cases St.ev ⟨n,fr,obs⟩ z<;>intro h'<;>first | (cases h';rfl) | cases h'
     | []=>cases h
     | [_]=>cases h
     | _ :: _ :: _ :: _=>cases h
    case min=>
     match l with
     | [y,z]=>
      have h':maxV false (St.ev ⟨n,fr,obs⟩ y) (St.ev ⟨n,fr,obs⟩ z) obs=.ok vc x o:=h
      show maxV false (St.ev ⟨n,fr,obs⟩ y) (St.ev ⟨n,fr,obs⟩ z) obs'=.ok vc x obs'
      revert h'
      cases St.ev ⟨n,fr,obs⟩ y<;>cases St.ev ⟨n,fr,obs⟩ z<;>intro h'<;>first | (cases h';rfl) | cases h'
     | []=>cases h
     | [_]=>cases h
     | _ :: _ :: _ :: _=>cases h
   | _=>cases hr
end
end Go.Aw
namespace Go.Aw
open Go
def Res.plain:Res->Prop
 | .bad=>True
 | .ok _ _ _=>True
 | _=>False
section
variable {C:Ctx} {rg:Rg} {σ σ':St}
theorem binV_plain (op:BinOp) (x y:AV) (obs:List O):(binV op x y obs).plain:=by
 have:=binV_shape op x y obs
 cases h:binV op x y obs<;>first | trivial | exact absurd h (this.1 _ _) | exact absurd h (this.2 _ _ _)
theorem lenV_plain (x:AV) (obs:List O):(lenV x obs).plain:=by
 have:=lenV_shape x obs
 cases h:lenV x obs<;>first | trivial | exact absurd h (this.1 _ _) | exact absurd h (this.2 _ _ _)
theorem idxV_plain (e w:Option E) (x i:AV) (obs:List O):(idxS e w x i obs).plain:=by
 have:=idxS_shape e w x i obs
 cases h:idxS e w x i obs<;>first | trivial | exact absurd h (this.1 _ _) | exact absurd h (this.2 _ _ _)
theorem loadX_plain (bt:Option BT) (gp:Option E) (mt:Option MT) (b:Bool) (w:Option E) (pt:Bool) (x:AV) (obs:List O):(loadX bt gp mt b w pt x obs).plain:=by
 have:=loadX_shape bt gp mt b w pt x obs
 cases h:loadX bt gp mt b w pt x obs<;>first | trivial | exact absurd h (this.1 _ _) | exact absurd h (this.2 _ _ _)
theorem mlookX_plain (mt:Option MT) (x i:AV) (obs:List O):(mlookX mt x i obs).plain:=by
 have:=mlookX_shape mt x i obs
 cases h:mlookX mt x i obs<;>first | trivial | exact absurd h (this.1 _ _) | exact absurd h (this.2 _ _ _)
theorem sliceV_plain (x:AV) (lo hi:Option AV) (obs:List O):(sliceV x lo hi obs).plain:=by
 have:=sliceV_shape x lo hi obs
 cases h:sliceV x lo hi obs<;>first | trivial | exact absurd h (this.1 _ _) | exact absurd h (this.2 _ _ _)
theorem maxV_plain (b:Bool) (x y:AV) (obs:List O):(maxV b x y obs).plain:=by
 unfold maxV;split<;>trivial
theorem ro_plain {op:Op} (h:roOp op=true):(astep C σ op).plain:=by
 cases op<;>simp only [roOp]at h<;>first | (cases h;done) | skip
 case move=>trivial
 case assign=>trivial
 case pick=>rw [astep_pick];unfold pickQ;split<;>trivial
 case binOp=>
  rw [astep_bin];unfold binQ
  split<;>first | exact binV_plain .. | trivial
 case unOp=>simp only [astep,unV];split<;>trivial
 case load=>exact loadX_plain ..
 case fieldAddr=>simp only [astep,fldV];(repeat' split)<;>trivial
 case indexAddr=>exact idxV_plain ..
 case convert=>simp only [astep,cnvV];(repeat' split)<;>trivial
 case index=>simp only [astep,sixV];(repeat' split)<;>trivial
 case lookup t x y b=>
  cases b with
  | true=>trivial
  | false=>exact mlookX_plain ..
 case slice t x lo hi mx=>
  cases mx with
  | some _=>simp only [astep,slice3V];(repeat' split)<;>trivial
  | none=>
   rw [astep_slice]
   cases C.wt t with
   | some e=>
    rw [sliceT_some]
    have hs:=wsliceV_shape (σ.ev x) (lo.map σ.ev) (hi.map σ.ev) σ.obs
    cases h:wsliceV (σ.ev x) (lo.map σ.ev) (hi.map σ.ev) σ.obs<;>first | trivial | exact absurd h (hs.1 _ _) | exact absurd h (hs.2 _ _ _)
   | none=>
   rw [sliceT_none];unfold sliceQ
   split
   ·exact sliceV_plain ..
   ·split
    ·exact sliceV_plain ..
    ·trivial
   ·split
    ·exact sliceV_plain ..
    ·trivial
   ·trivial
 case extract x i=>
  simp only [astep,exV]
  split
  ·split
   ·split<;>trivial
   ·trivial
  ·trivial
 case call c=>
  obtain⟨cal,⟨l⟩,⟨tl⟩⟩:=c
  cases cal with
  | builtin b=>
   cases b<;>simp only []at h<;>first | (cases h;done) | skip
   case len=>
    match l,tl with
    | [y],[t]=>
     show(lenQ (C.bt t) (C.Γ t) (σ.ev y) σ.obs).plain
     unfold lenQ
     split
     ·exact lenV_plain ..
     ·trivial
     ·exact lenV_plain ..
     ·trivial
    | [],_=>trivial
    | [_],[]=>trivial
    | [_],_ :: _ :: _=>trivial
    | _ :: _ :: _,_=>trivial
   case max=>
    match l with
    | [y,z]=>exact maxV_plain ..
    | []=>trivial
    | [_]=>trivial
    | _ :: _ :: _ :: _=>trivial
   case min=>
    match l with
    | [y,z]=>exact maxV_plain ..
    | []=>trivial
    | [_]=>trivial
    | _ :: _ :: _ :: _=>trivial
  | _=>cases h
theorem ro_callee {op:Op} (h:roOp op=true) (σ:St):calleeOf σ op=none:=by
 unfold roOp at h
 split at h<;>first | rfl | cases h
def roS (σ:St) (o:Oper) (x:AV):Sl:=match o.guard with
 | none=>mvS σ o.op x
 | some _=>.v x
def RO (C:Ctx) (rg:Rg) (o:Oper) (σ:St) (ex:Bool) (s:Sl):Prop:=
 inN σ.n o.dst/\gex rg.ds σ o.guard=some ex/\∃ vc ob x,astep C σ o.op=.ok vc x ob/\(ex=true->hasAll σ o.op/\vc)/\s=roS σ o x
theorem mvS_agree {op:Op} (h:Agree (opReads op) σ σ') (x:AV):mvS σ op x=mvS σ' op x:=by
 unfold mvS
 split
 ·rename_i t
  rw [h t (by simp [opReads,opnd])]
 ·rfl
theorem roS_agree {o:Oper} (h:Agree (opReads o.op) σ σ') (x:AV):roS σ o x=roS σ' o x:=by
 unfold roS
 split
 ·exact mvS_agree h x
 ·rfl
theorem ro_of_aone {o:Oper} (hr:roOp o.op=true) {K:St->Prop} (h:aone C rg o σ K):∃ ex x,RO C rg o σ ex x/\K (σ.put o.dst ex x σ.obs):=by
 unfold aone at h
 obtain⟨hd,h⟩:=h
 rw [ro_callee hr σ]at h
 have hp:=ro_plain (C:=C) (σ:=σ) hr
 cases hg:o.guard with
 | none=>
  rw [hg]at h
  simp only at h
  cases hs:astep C σ o.op with
  | bad=>rw [hs]at h;exact h.elim
  | ok vc x ob=>
   rw [hs]at h
   have:=roOp_obs hr hs
   subst this
   exact⟨true,mvS σ o.op x,⟨hd,by rw [hg];rfl,vc,_,x,hs,fun _=>⟨h.1,h.2.1⟩,by simp only [roS,hg]⟩,h.2.2⟩
  | skip vc ob=>rw [hs]at hp;exact hp.elim
  | all p x ob=>rw [hs]at hp;exact hp.elim
 | some g=>
  rw [hg]at h
  simp only at h
  cases hgx:gex rg.ds σ (some g) with
  | none=>rw [hgx]at h;exact h.elim
  | some ex=>
   rw [hgx]at h
   simp only [hr,if_true]at h
   cases hs:astep C σ o.op with
   | bad=>rw [hs]at h;exact h.elim
   | ok vc x ob=>rw [hs]at h;exact⟨ex,.v x,⟨hd,by rw [hg];exact hgx,vc,ob,x,hs,h.1,by simp only [roS,hg]⟩,h.2⟩
   | skip vc ob=>rw [hs]at hp;exact hp.elim
   | all p x ob=>rw [hs]at hp;exact hp.elim
theorem aone_of_ro {o:Oper} (hr:roOp o.op=true) {K:St->Prop} {ex:Bool} {s:Sl} (h:RO C rg o σ ex s) (hk:K (σ.put o.dst ex s σ.obs)):aone C rg o σ K:=by
 obtain⟨hd,hg,vc,ob,x,hs,hh,rfl⟩:=h
 unfold aone
 refine⟨hd,?_⟩
 rw [ro_callee hr σ]
 cases hgg:o.guard with
 | none=>
  rw [hgg]at hg
  cases hg
  simp only [roS,hgg]at hk
  simp only [hs]
  have:=roOp_obs hr hs
  subst this
  exact⟨(hh rfl).1,(hh rfl).2,hk⟩
 | some g=>
  rw [hgg]at hg
  simp only [roS,hgg]at hk
  simp only [hg,hr,if_true,hs]
  exact⟨hh,hk⟩
def Eqv (σ σ':St):Prop:=σ.n=σ'.n/\σ.obs=σ'.obs/\∀ s,look s σ.fr=look s σ'.fr
def Resp (K:St->Prop):Prop:=∀ σ σ',Eqv σ σ'->K σ->K σ'
theorem Eqv.refl (σ:St):Eqv σ σ:=⟨rfl,rfl,fun _=>rfl⟩
theorem Eqv.agree (h:Eqv σ σ') (L:List Nat):Agree L σ σ':=fun s _=>h.2.2 s
theorem look_put (σ:St) (d:Nat) (ex:Bool) (x:Sl) (obs:List O) (s:Nat):look s (σ.put (some d) ex x obs).fr=if s=d then some (ex,x)else look s σ.fr:=by
 simp only [St.put,look,beq_iff_eq]
theorem put_n' (σ:St) (d:Option Nat) (ex:Bool) (x:Sl) (obs:List O):(σ.put d ex x obs).n=σ.n:=by cases d<;>rfl
theorem put_obs' (σ:St) (d:Option Nat) (ex:Bool) (x:Sl) (obs:List O):(σ.put d ex x obs).obs=obs:=by cases d<;>rfl
theorem look_put_ne {σ:St} {d:Option Nat} {ex:Bool} {x:Sl} {obs:List O} {s:Nat} (h:d≠some s):look s (σ.put d ex x obs).fr=look s σ.fr:=by
 cases d with
 | none=>rfl
 | some d=>rw [look_put,if_neg (fun e=>h (by rw [e]))]
theorem Eqv.put (h:Eqv σ σ') (d:Option Nat) (ex:Bool) (x:Sl) (obs:List O):Eqv (σ.put d ex x obs) (σ'.put d ex x obs):=by
 refine⟨by rw [put_n',put_n',h.1],by rw [put_obs',put_obs'],fun s=>?_⟩
 cases d with
 | none=>exact h.2.2 s
 | some d=>rw [look_put,look_put,h.2.2 s]
theorem put_swap {d d':Option Nat} (hd:d=none\/d≠d') (ex ex':Bool) (x x':Sl) (o1 obs:List O) :
  Eqv ((σ.put d ex x o1).put d' ex' x' obs) ((σ.put d' ex' x' obs).put d ex x obs):=by
 refine⟨by simp [put_n'],by simp [put_obs'],fun s=>?_⟩
 cases d with
 | none=>cases d'<;>rfl
 | some d=>
  cases d' with
  | none=>rfl
  | some d'=>
   rw [look_put,look_put,look_put,look_put]
   have hne:d≠d':=by
    rcases hd with h | h
    ·cases h
    ·exact fun e=>h (by rw [e])
   by_cases h1:s=d'
   ·subst h1
    rw [if_pos rfl,if_neg (Ne.symm hne),if_pos rfl]
   ·rw [if_neg h1,if_neg h1]
theorem gex_agree {ds:List (Option Nat)} {g:Option (Nat×Bool)} (h:Agree (gReads ds g) σ σ'):gex ds σ g=gex ds σ' g:=by
 cases g with
 | none=>rfl
 | some q=>
  obtain⟨j,b⟩:=q
  simp only [gex]
  cases hs:slotOf ds j with
  | none=>rfl
  | some d=>simp only [h d (by simp [gReads,hs])]
theorem callee_reads {op:Op} {f:FuncId} {args:List Operand} {σ0:St} (h:calleeOf σ0 op=some (f,args)) {σ σ':St} (ha:Agree (opReads op) σ σ'):Agree (opndL args) σ σ':=by
 obtain⟨x,ts,rfl,_⟩:=calleeOf_op h
 simpa using ha.right
theorem callee_agree {op:Op} {σ σ':St} (h:Agree (opReads op) σ σ'):calleeOf σ op=calleeOf σ' op:=by
 cases op<;>try rfl
 case call c=>
  obtain⟨cal,args,ts⟩:=c
  cases cal<;>try rfl
  case value x=>
   cases x<;>try rfl
   case tmp t=>
    simp only [calleeOf]
    rw [h t (by simp [opReads,opndC,opnd])]
theorem caps_agree {op:Op} {σ σ':St} (h:Agree (opReads op) σ σ'):capsOf σ op=capsOf σ' op:=by
 cases op<;>try rfl
 case call c=>
  obtain⟨cal,args,ts⟩:=c
  cases cal<;>try rfl
  case value x=>
   cases x<;>try rfl
   case tmp t=>
    simp only [capsOf]
    rw [h t (by simp [opReads,opndC,opnd])]
theorem aNro_mono {o:Oper} {K K':St->Prop} (hk:∀ σ,K σ->K' σ) {ex:Bool} (h:aNro C o σ K ex):aNro C o σ K' ex:=by
 cases ex with
 | false=>exact hk _ h
 | true=>
  simp only [aNro]at h ⊢
  split<;>rename_i hs<;>rw [hs]at h
  ·exact h
  ·exact⟨h.1,h.2.1,hk _ h.2.2⟩
  ·exact⟨h.1,h.2.1,h.2.2.1,hk _ h.2.2.2⟩
  ·exact⟨h.1,fun l hl=>hk _ (h.2 l hl)⟩
theorem aone_mono {o:Oper} {K K':St->Prop} (hk:∀ σ,K σ->K' σ) (h:aone C rg o σ K):aone C rg o σ K':=by
 unfold aone at *
 refine⟨h.1,?_⟩
 have h:=h.2
 split
 ·rename_i hg
  rw [hg]at h
  simp only at h
  split
  ·rename_i f args hc
   rw [hc]at h
   exact⟨h.1,h.2.mono fun x o hh=>⟨hh.1,hk _ hh.2⟩⟩
  ·rename_i hc
   rw [hc]at h
   simp only at h
   split<;>rename_i hs<;>rw [hs]at h
   ·exact h
   ·exact⟨h.1,h.2.1,hk _ h.2.2⟩
   ·exact⟨h.1,h.2.1,h.2.2.1,hk _ h.2.2.2⟩
   ·exact⟨h.1,fun l hl=>hk _ (h.2 l hl)⟩
 ·rename_i g hg
  rw [hg]at h
  simp only at h
  split
  ·rename_i hx;rw [hx]at h;exact h
  ·rename_i ex hx
   rw [hx]at h
   simp only at h
   split
   ·rename_i f args hc
    rw [hc]at h
    exact⟨h.1,h.2.mono (fun x hx=>hk _ hx) (fun x o hx=>⟨hx.1,hk _ hx.2⟩)⟩
   ·rename_i hc
    rw [hc]at h
    simp only at h
    split
    ·rename_i hr
     rw [if_pos hr]at h
     split<;>rename_i hs
     ·rw [hs]at h;exact⟨h.1,hk _ h.2⟩
     ·split at h<;>first | exact h | (rename_i h2;exact absurd h2 (hs _ _ _))
    ·rename_i hr;rw [if_neg hr]at h;exact aNro_mono hk h
def intParts (l:List (Nat×Operand)):Bool:=l.all fun p=>match p.2 with
 | .const (.int _ _)=>true
 | _=>false
def keepOp (op:Op):Bool:=
 match op with
  | .buildSlice _ _ parts=>intParts parts.toList
  | .call ⟨.value _,_,_⟩=>true
  | .makeSlice _ _ _=>true
  | _=>false
structure Left (rg:Rg) (σ σ2:St) (o:Oper):Prop where
 n:σ2.n=σ.n
 fr:∀ s,o.dst≠some s->look s σ2.fr=look s σ.fr
 ro:roOp o.op=true->σ2.obs=σ.obs
 keep:rg.kp=true->keepOp o.op=true->Keeps σ.obs σ2.obs
theorem Left.put {o:Oper} {ex:Bool} {x:Sl} {obs:List O} (h1:roOp o.op=true->obs=σ.obs) (h2:rg.kp=true->keepOp o.op=true->Keeps σ.obs obs):Left rg σ (σ.put o.dst ex x obs) o:=
 ⟨put_n' ..,fun _ hs=>look_put_ne hs,fun h=>by rw [put_obs'];exact h1 h,fun h k=>by rw [put_obs'];exact h2 h k⟩
theorem ro_not_call {op:Op} {f:FuncId} {args:List Operand} {σ:St} (hc:calleeOf σ op=some (f,args)):¬roOp op=true:=fun h=>by rw [ro_callee h σ]at hc;cases hc
theorem Keeps.refl (obs:List O):Keeps obs obs:=fun _ _ h=>h
theorem Keeps.app (obs l:List O):Keeps obs (obs ++ l):=fun id o h=>by
 rw [List.getElem?_append_left (geS.1 h).1];exact h
theorem intParts_ev {l:List (Nat×Operand)} (h:intParts l=true) {σ:St}:∀ p∈l.map (fun p=>(p.1,σ.ev p.2)),∃ k n,p.2=.int k n:=by
 intro p hp
 obtain⟨q,hq,rfl⟩:=List.mem_map.1 hp
 have h1:=alT.1 h q hq
 obtain⟨a,o⟩:=q
 cases o with
 | const v=>cases v<;>first | exact⟨_,_,rfl⟩ | (simp at h1;done)
 | _=>simp at h1
theorem buildV_int {e?:Option E} {n:Nat} {parts:List (Nat×AV)} {obs:List O} (hp:∀ p∈parts,∃ k n,p.2=.int k n) :
  buildV e? n parts obs=.bad\/∃ vc x o,buildV e? n parts obs=.ok vc x (obs ++ [o]):=by
 unfold buildV
 split
 ·split
  ·split
   ·split
    ·exact .inr ⟨_,_,_,rfl⟩
    ·obtain⟨k,m,h⟩:=hp _ (mcS ..);cases h
    ·obtain⟨k,m,h⟩:=hp _ (mcS ..);cases h
    ·obtain⟨k,m,h⟩:=hp _ (mcS ..);cases h
    ·rename_i h0 _ _ _
     cases parts with
     | nil=>exact(h0 rfl).elim
     | cons p r=>
      obtain⟨k,m,h⟩:=hp p (mcS ..)
      obtain⟨a,b⟩:=p
      simp only at h
      subst h
      exact .inl (by simp [rowsOf])
   ·split
    ·exact .inr ⟨_,_,_,rfl⟩
    ·exact .inl rfl
  ·exact .inl rfl
 ·exact .inl rfl
theorem keep_op {op:Op} (hk:keepOp op=true):(∃ t x y,op=.makeSlice t x y)\/(∃ x args ts,op=.call ⟨.value x,args,ts⟩)\/∃ t n parts,op=.buildSlice t n parts/\intParts parts.toList=true:=by
 unfold keepOp at hk
 split at hk
 ·exact .inr (.inr ⟨_,_,_,rfl,hk⟩)
 ·exact .inr (.inl ⟨_,_,_,rfl⟩)
 ·exact .inl ⟨_,_,_,rfl⟩
 ·cases hk
theorem keep_make {op:Op} (hk:keepOp op=true) {vc:Prop} {x:AV} {ob:List O} (hs:astep C σ op=.ok vc x ob):Keeps σ.obs ob:=by
 rcases keep_op hk with⟨t,y,z,rfl⟩ | ⟨y,args,ts,rfl⟩ | ⟨t,m,parts,rfl,hi⟩
 ·simp only [astep]at hs
  unfold makeV at hs
  split at hs
  ·cases hs;exact Keeps.app _ _
  ·split at hs
   ·cases hs;exact Keeps.app _ _
   ·cases hs
  ·cases hs
 ·cases hs
 ·rcases buildV_int (e?:=C.Γ t) (n:=m) (obs:=σ.obs) (intParts_ev (σ:=σ) hi)with h | ⟨vc',x',o,h⟩
  ·have h1:buildV (C.Γ t) m (parts.toList.map fun p=>(p.1,σ.ev p.2)) σ.obs=.ok vc x ob:=hs
   rw [h]at h1;cases h1
  ·have h1:buildV (C.Γ t) m (parts.toList.map fun p=>(p.1,σ.ev p.2)) σ.obs=.ok vc x ob:=hs
   rw [h]at h1;cases h1;exact Keeps.app _ _
theorem keep_not_skip {op:Op} (hk:keepOp op=true) {vc:Prop} {ob:List O} (hs:astep C σ op=.skip vc ob):False:=by
 rcases keep_op hk with⟨t,y,z,rfl⟩ | ⟨y,args,ts,rfl⟩ | ⟨t,m,parts,rfl,hi⟩
 ·exact(makeV_shape _ _ _ _).1 _ _ hs
 ·cases hs
 ·have h1:buildV (C.Γ t) m (parts.toList.map fun p=>(p.1,σ.ev p.2)) σ.obs=.skip vc ob:=hs
  rcases buildV_int (e?:=C.Γ t) (n:=m) (obs:=σ.obs) (intParts_ev (σ:=σ) hi)with h | ⟨vc',x',o,h⟩<;>rw [h]at h1<;>cases h1
theorem keep_not_all {op:Op} (hk:keepOp op=true) {p:Nat->Prop} {x:Nat->AV} {ob:Nat->List O} (hs:astep C σ op=.all p x ob):False:=by
 rcases keep_op hk with⟨t,y,z,rfl⟩ | ⟨y,args,ts,rfl⟩ | ⟨t,m,parts,rfl,hi⟩
 ·exact(makeV_shape _ _ _ _).2 _ _ _ hs
 ·cases hs
 ·have h1:buildV (C.Γ t) m (parts.toList.map fun p=>(p.1,σ.ev p.2)) σ.obs=.all p x ob:=hs
  rcases buildV_int (e?:=C.Γ t) (n:=m) (obs:=σ.obs) (intParts_ev (σ:=σ) hi)with h | ⟨vc',x',o,h⟩<;>rw [h]at h1<;>cases h1
theorem aone_frame {o:Oper} {d:Option Nat} {ex:Bool} {x:Sl} (h1:∀ s∈reads rg.ds o,d≠some s) (h2:d=none\/d≠o.dst) {K:St->Prop} (hK:Resp K) (h:aone C rg o (σ.put d ex x σ.obs) K) :
  aone C rg o σ fun σ2=>Left rg σ σ2 o/\K (σ2.put d ex x σ2.obs):=by
 have hag:Agree (reads rg.ds o) (σ.put d ex x σ.obs) σ:=fun s hs=>look_put_ne (h1 s hs)
 have hob:(σ.put d ex x σ.obs).obs=σ.obs:=put_obs' ..
 have hgx:=gex_agree (ds:=rg.ds) hag.right
 have has:=hasAll_agree (op:=o.op) hag.left
 have hst:=astep_agree (C:=C) (op:=o.op) hag.left hob
 have swap:∀(ex':Bool) (x':Sl) (obs:List O),K ((σ.put d ex x σ.obs).put o.dst ex' x' obs)->K ((σ.put o.dst ex' x' obs).put d ex x (σ.put o.dst ex' x' obs).obs):=fun ex' x' obs hk=>by
  rw [put_obs']
  exact hK _ _ (put_swap h2 ..) hk
 unfold aone at *
 refine⟨by rw [<- put_n' σ d ex x σ.obs];exact h.1,?_⟩
 have h:=h.2
 rw [hob,callee_agree hag.left]at h
 split
 ·rename_i hg
  rw [hg]at h
  simp only at h
  split
  ·rename_i f args hc
   rw [hc]at h
   simp only at h
   have he:args.map (σ.put d ex x σ.obs).ev=args.map σ.ev:=by
    rw [<- evL_eq,<- evL_eq]
    exact evL_agree (callee_reads hc hag.left)
   have hh:(∀ y∈args,(σ.put d ex x σ.obs).has y)=∀ y∈args,σ.has y:=by
    rw [<- hasL_eq,<- hasL_eq]
    exact hasL_agree (callee_reads hc hag.left)
   rw [he,hh,caps_agree hag.left]at h
   exact⟨h.1,h.2.mono fun y ob hy=>⟨hy.1,Left.put (fun k=>absurd k (ro_not_call hc)) (fun k _=>hy.1 k),swap _ _ _ hy.2⟩⟩
  ·rename_i hc
   rw [hc]at h
   simp only at h
   rw [hst,has]at h
   simp only [mvS_agree hag.left]at h
   split<;>rename_i hs<;>rw [hs]at h
   ·exact h
   ·exact⟨h.1,h.2.1,Left.put (fun k=>roOp_obs k hs) (fun _ k=>keep_make k hs),swap _ _ _ h.2.2⟩
   ·rename_i vc ob
    obtain⟨a1,a2,a3,a4⟩:=h
    refine⟨a1,a2,a3,?_,?_⟩
    ·have:=Left.put (rg:=rg) (σ:=σ) (o:=o) (ex:=true) (x:=.v .junk) (obs:=ob) (fun k=>by have:=ro_plain (C:=C) (σ:=σ) k;rw [hs]at this;exact this.elim) (fun _ k=>(keep_not_skip k hs).elim)
     rw [a3]at this
     exact this
    ·have:=swap true (.v .junk) ob (by rw [a3];exact a4)
     rw [a3]at this
     exact this
   ·exact⟨h.1,fun l hl=>⟨Left.put (fun k=>by have:=ro_plain (C:=C) (σ:=σ) k;rw [hs]at this;exact this.elim) (fun _ k=>(keep_not_all k hs).elim),swap _ _ _ (h.2 l hl)⟩⟩
 ·rename_i g hg
  rw [hg]at h hgx
  simp only at h
  rw [hgx]at h
  split
  ·rename_i hx;rw [hx]at h;exact h
  ·rename_i ex' hx
   rw [hx]at h
   simp only at h
   split
   ·rename_i f args hc
    rw [hc]at h
    simp only at h
    have he:args.map (σ.put d ex x σ.obs).ev=args.map σ.ev:=by
     rw [<- evL_eq,<- evL_eq]
     exact evL_agree (callee_reads hc hag.left)
    have hh:(∀ y∈args,(σ.put d ex x σ.obs).has y)=∀ y∈args,σ.has y:=by
     rw [<- hasL_eq,<- hasL_eq]
     exact hasL_agree (callee_reads hc hag.left)
    rw [he,hh,caps_agree hag.left]at h
    exact⟨h.1,h.2.mono (fun y hy=>⟨Left.put (fun _=>rfl) (fun _ _=>Keeps.refl _),swap _ _ _ hy⟩) (fun y ob hy=>⟨hy.1,Left.put (fun k=>absurd k (ro_not_call hc)) (fun k _=>hy.1 k),swap _ _ _ hy.2⟩)⟩
   ·rename_i hc
    rw [hc]at h
    simp only at h
    split
    ·rename_i hr
     rw [if_pos hr,hst,has]at h
     split<;>rename_i hs
     ·rw [hs]at h;exact⟨h.1,Left.put (fun _=>rfl) (fun _ _=>Keeps.refl _),swap _ _ _ h.2⟩
     ·split at h<;>first | exact h | (rename_i h2;exact absurd h2 (hs _ _ _))
    ·rename_i hr;rw [if_neg hr]at h
     cases ex' with
     | false=>
      simp only [aNro]at h ⊢
      rw [hob]at h
      exact⟨Left.put (fun _=>rfl) (fun _ _=>Keeps.refl _),swap _ _ _ h⟩
     | true=>
      simp only [aNro]at h ⊢
      rw [hst,has]at h
      split<;>rename_i hs<;>rw [hs]at h
      ·exact h
      ·exact⟨h.1,h.2.1,Left.put (fun k=>absurd k hr) (fun _ k=>keep_make k hs),swap _ _ _ h.2.2⟩
      ·rename_i vc ob
       obtain⟨a1,a2,a3,a4⟩:=h
       refine⟨a1,a2,a3,?_,?_⟩
       ·have:=Left.put (rg:=rg) (σ:=σ) (o:=o) (ex:=true) (x:=.v .junk) (obs:=ob) (fun k=>absurd k hr) (fun _ k=>(keep_not_skip k hs).elim)
        rw [a3]at this
        exact this
       ·have:=swap true (.v .junk) ob (by rw [a3];exact a4)
        rw [a3]at this
        exact this
      ·exact⟨h.1,fun l hl=>⟨Left.put (fun k=>absurd k hr) (fun _ k=>(keep_not_all k hs).elim),swap _ _ _ (h.2 l hl)⟩⟩
theorem RO.move {o:Oper} {ex:Bool} {x:Sl} (h:RO C rg o σ ex x) (hr:roOp o.op=true) (hn:σ'.n=σ.n) (ha:Agree (reads rg.ds o) σ σ') (hc:pureOp o.op=true\/Keeps σ.obs σ'.obs):RO C rg o σ' ex x:=by
 obtain⟨h1,h2,vc,ob,y,h3,h4,h5⟩:=h
 refine⟨by rw [hn];exact h1,by rw [<- gex_agree ha.right];exact h2,vc,σ'.obs,y,?_,by rw [<- hasAll_agree ha.left];exact h4,by rw [h5];exact roS_agree ha.left y⟩
 have e:astep C σ o.op=astep C ⟨σ'.n,σ'.fr,σ.obs⟩ o.op:=astep_agree (σ:=σ) (σ':=⟨σ'.n,σ'.fr,σ.obs⟩) (fun s hs=>ha.left s hs) rfl
 rw [e]at h3
 rcases hc with hp | hk
 ·have:=astep_pure (C:=C) hp σ'.n σ'.fr σ.obs σ'.obs
  rw [h3]at this
  exact this
 ·exact astep_keeps hr hk h3
structure MaySwap (rg:Rg) (i j:Oper):Prop where
 ro:roOp i.op=true
 a1:∀ s∈reads rg.ds j,i.dst≠some s
 a2:∀ s∈reads rg.ds i,j.dst≠some s
 a3:i.dst=none\/i.dst≠j.dst
 c:roOp j.op=true\/pureOp i.op=true\/(rg.kp=true/\keepOp j.op=true)
theorem aone_swap {i j:Oper} (m:MaySwap rg i j) {K:St->Prop} (hK:Resp K) (h:aone C rg i σ fun σ1=>aone C rg j σ1 K):aone C rg j σ fun σ2=>aone C rg i σ2 K:=by
 obtain⟨ex,x,hro,hk⟩:=ro_of_aone m.ro h
 refine aone_mono (fun σ2 h2=>?_) (aone_frame m.a1 m.a3 hK hk)
 obtain⟨hl,hk2⟩:=h2
 refine aone_of_ro m.ro (hro.move m.ro hl.n (fun s hs=>(hl.fr s (m.a2 s hs)).symm) ?_) hk2
 rcases m.c with c | c | c
 ·right;rw [hl.ro c];exact Keeps.refl _
 ·exact .inl c
 ·exact .inr (hl.keep c.1 c.2)
theorem aone_resp {o:Oper} {K:St->Prop} (hK:Resp K):Resp (fun σ=>aone C rg o σ K):=by
 intro σ σ' he h
 have hag:Agree (reads rg.ds o) σ σ':=he.agree _
 have hgx:=gex_agree (ds:=rg.ds) hag.right
 have has:=hasAll_agree (op:=o.op) hag.left
 have hst:=astep_agree (C:=C) (op:=o.op) hag.left he.2.1
 have swap:∀(d:Option Nat) (ex':Bool) (x':Sl) (obs:List O),K (σ.put d ex' x' obs)->K (σ'.put d ex' x' obs):=fun d ex' x' obs hk=>hK _ _ (he.put ..) hk
 simp only [aone]at *
 rw [<- he.1]
 refine⟨h.1,?_⟩
 have h:=h.2
 rw [callee_agree hag.left]at h
 rw [<- he.2.1]
 split
 ·rename_i hg
  rw [hg]at h
  simp only at h
  split
  ·rename_i f args hc
   rw [hc]at h
   simp only at h
   have hev:args.map σ.ev=args.map σ'.ev:=by
    rw [<- evL_eq,<- evL_eq]
    exact evL_agree (callee_reads hc hag.left)
   have hh:(∀ y∈args,σ.has y)=∀ y∈args,σ'.has y:=by
    rw [<- hasL_eq,<- hasL_eq]
    exact hasL_agree (callee_reads hc hag.left)
   rw [hev,hh,caps_agree hag.left]at h
   exact⟨h.1,h.2.mono fun y ob hy=>⟨hy.1,swap _ _ _ _ hy.2⟩⟩
  ·rename_i hc
   rw [hc]at h
   simp only at h
   rw [hst,has]at h
   simp only [mvS_agree hag.left]at h
   split<;>rename_i hs<;>rw [hs]at h
   ·exact h
   ·exact⟨h.1,h.2.1,swap _ _ _ _ h.2.2⟩
   ·exact⟨h.1,h.2.1,h.2.2.1,swap _ _ _ _ h.2.2.2⟩
   ·exact⟨h.1,fun l hl=>swap _ _ _ _ (h.2 l hl)⟩
 ·rename_i g hg
  rw [hg]at h hgx
  simp only at h
  rw [hgx]at h
  split
  ·rename_i hx;rw [hx]at h;exact h
  ·rename_i ex' hx
   rw [hx]at h
   simp only at h
   split
   ·rename_i f args hc
    rw [hc]at h
    simp only at h
    have hev:args.map σ.ev=args.map σ'.ev:=by
     rw [<- evL_eq,<- evL_eq]
     exact evL_agree (callee_reads hc hag.left)
    have hh:(∀ y∈args,σ.has y)=∀ y∈args,σ'.has y:=by
     rw [<- hasL_eq,<- hasL_eq]
     exact hasL_agree (callee_reads hc hag.left)
    rw [hev,hh,caps_agree hag.left]at h
    exact⟨h.1,h.2.mono (fun y hy=>swap _ _ _ _ hy) (fun y ob hy=>⟨hy.1,swap _ _ _ _ hy.2⟩)⟩
   ·rename_i hc
    rw [hc]at h
    simp only at h
    split
    ·rename_i hr
     rw [if_pos hr,hst,has]at h
     split<;>rename_i hs
     ·rw [hs]at h;exact⟨h.1,swap _ _ _ _ h.2⟩
     ·split at h<;>first | exact h | (rename_i h2;exact absurd h2 (hs _ _ _))
    ·rename_i hr;rw [if_neg hr]at h
     cases ex' with
     | false=>
      simp only [aNro]at h ⊢
      rw [<- he.2.1];exact swap _ _ _ _ h
     | true=>
      simp only [aNro]at h ⊢
      rw [hst,has]at h
      split<;>rename_i hs<;>rw [hs]at h
      ·exact h
      ·exact⟨h.1,h.2.1,swap _ _ _ _ h.2.2⟩
      ·exact⟨h.1,h.2.1,h.2.2.1,swap _ _ _ _ h.2.2.2⟩
      ·exact⟨h.1,fun l hl=>swap _ _ _ _ (h.2 l hl)⟩
theorem aexec_resp {K:St->Prop} (hK:Resp K):∀ l:List Oper,Resp (fun σ=>aexec C rg l σ K)
 | []=>hK
 | o :: l=>aone_resp (aexec_resp hK l)
theorem aexec_front {K:St->Prop} (hK:Resp K) {o:Oper} {c2:List Oper}:∀ {c1:List Oper},(∀ x∈c1,MaySwap rg x o)->∀ {σ:St},aexec C rg (c1 ++ o :: c2) σ K->aexec C rg (o :: (c1 ++ c2)) σ K
 | [],_,_,h=>h
 | x :: c1,hm,σ,h=>by
  have h1:aone C rg x σ fun σ1=>aexec C rg (o :: (c1 ++ c2)) σ1 K:=aone_mono (fun σ1 h1=>aexec_front hK (fun y hy=>hm y (mcM _ hy)) h1) h
  exact aone_swap (hm x mcS) (aexec_resp hK (c1 ++ c2)) h1
end
end Go.Aw
namespace Go.Aw
open Go
def edgesOf (o:Oper):List Nat:=(o.after.toList.filter (Region.binds .any)).map (·.on)
def edgesAt (l:List Oper) (i:Nat):List Nat:=match l[i]? with
 | some o=>edgesOf o
 | none=>[]
def pathB (l:List Oper):Nat->Nat->Nat->Bool
 | 0,_,_=>false
 | f+1,x,i=>(edgesAt l i).any fun y=>y == x || pathB l f x y
def disj (d:Option Nat) (L:List Nat):Bool:=match d with
 | some d=>!L.contains d
 | none=>true
def maySwapB (rg:Rg) (i j:Oper):Bool:=
 roOp i.op && disj i.dst (reads rg.ds j) && disj j.dst (reads rg.ds i) && (i.dst == none || i.dst != j.dst) && (roOp j.op || pureOp i.op || (rg.kp && keepOp j.op))
def swapAt (rg:Rg) (l:List Oper) (x i:Nat):Bool:=match l[x]?,l[i]? with
 | some a,some b=>maySwapB rg a b
 | _,_=>false
def pwB (f:Nat->Nat->Bool):List Nat->Bool
 | []=>true
 | x :: r=>r.all (f x) && pwB f r
def pairB (kp:Bool) (l:List Oper) (x i:Nat):Bool:=(pathB l l.length x i || swapAt ⟨l.map (·.dst),kp⟩ l x i) && (!(edgesAt l x).contains i) && (x != i)
def ordOK (kp:Bool) (l:List Oper) (c:List Nat):Bool:=
 pwB (pairB kp l) c && c.all (fun x=>decide (x < l.length) && (edgesAt l x).all fun y=>decide (y < l.length) && y != x) && (List.range l.length).all fun i=>c.contains i
theorem pwB_pw {f:Nat->Nat->Bool}:∀ {l:List Nat},pwB f l=true->l.Pairwise fun x y=>f x y=true
 | [],_=>.nil
 | x :: r,h=>by
  simp only [pwB,bAnd,alT]at h
  exact .cons h.1 (pwB_pw h.2)
theorem disj_spec {d:Option Nat} {L:List Nat} (h:disj d L=true):∀ s∈L,d≠some s:=by
 intro s hs e
 subst e
 simp [disj,hs]at h
theorem maySwapB_spec {rg:Rg} {i j:Oper} (h:maySwapB rg i j=true):MaySwap rg i j:=by
 simp only [maySwapB,bAnd,Bool.or_eq_true,beq_iff_eq,bne_iff_ne]at h
 obtain⟨⟨⟨⟨h1,h2⟩,h3⟩,h4⟩,h5⟩:=h
 refine⟨h1,disj_spec h2,disj_spec h3,?_,?_⟩
 ·exact h4
 ·rcases h5 with(h | h) | h
  ·exact .inl h
  ·exact .inr (.inl h)
  ·exact .inr (.inr h)
def nthO:List Oper->Nat->Oper
 | [],_=>⟨none,.move (.func 0),0,"",#[],none⟩
 | o :: r,i=>bif i == 0 then o else nthO r (i - 1)
def pickO (l:List Oper):List Nat->List Oper
 | []=>[]
 | i :: c=>nthO l i :: pickO l c
theorem nthO_eq:∀ {l:List Oper} {i:Nat} {o:Oper},l[i]? = some o->nthO l i=o
 | [],_,_,h=>by simp at h
 | o :: r,i,p,h=>by
  cases i with
  | zero=>simpa [nthO] using h
  | succ i=>simpa [nthO] using nthO_eq (l:=r) (i:=i) (by simpa using h)
theorem nthO_cons (o:Oper) (r:List Oper) (i:Nat):nthO (o :: r) i=bif i == 0 then o else nthO r (i - 1):=rfl
theorem pickO_nil (l:List Oper):pickO l []=[]:=rfl
theorem pickO_cons (l:List Oper) (i:Nat) (c:List Nat):pickO l (i :: c)=nthO l i :: pickO l c:=rfl
section
variable {C:Ctx} {l:List Oper} {kp:Bool}
structure LeftOk (kp:Bool) (l:List Oper) (c:List Nat) (listed:Array Bool):Prop where
 pw:c.Pairwise fun x y=>pairB kp l x y=true
 lt:∀ x∈c,x < l.length
 ed:∀ x∈c,∀ y∈edgesAt l x,y < l.length/\y≠x
 size:listed.size=l.length
 un:∀ i,listed.getD i true=false↔i∈c
 closed:∀ i,listed.getD i false=true->∀ y∈edgesAt l i,listed.getD y false=true
theorem listed_not {listed:Array Bool} {i:Nat} (h1:listed.getD i false=true) (h2:listed.getD i true=false):False:=by
 rcases Nat.lt_or_ge i listed.size with h | h
 ·simp [h]at h1 h2;rw [h1]at h2;cases h2
 ·simp [Array.getElem?_eq_none h]at h1
theorem path_listed {listed:Array Bool} (hc:∀ i,listed.getD i false=true->∀ y∈edgesAt l i,listed.getD y false=true):∀(f x i:Nat),pathB l f x i=true->(∀ y∈edgesAt l i,listed.getD y false=true)->listed.getD x false=true
 | 0,_,_,h,_=>by simp [pathB]at h
 | f+1,x,i,h,hi=>by
  simp only [pathB,List.any_eq_true,Bool.or_eq_true,beq_iff_eq]at h
  obtain⟨y,hy,h⟩:=h
  rcases h with rfl | h
  ·exact hi _ hy
  ·exact path_listed hc f x y h (hc y (hi y hy))
theorem ready_edges {listed:Array Bool} {i:Nat} (h:i∈Region.ready .any l.toArray listed):listed.getD i true=false/\∀ y∈edgesAt l i,listed.getD y false=true:=by
 obtain⟨h1,o,ho,hall⟩:=mem_ready.1 h
 refine⟨h1,fun y hy=>?_⟩
 rw [List.getElem?_toArray]at ho
 simp only [edgesAt,ho,edgesOf,List.mem_map,List.mem_filter]at hy
 obtain⟨e,⟨he,hb⟩,rfl⟩:=hy
 exact hall e (by simpa using he) hb
theorem edges_ready {listed:Array Bool} {i:Nat} (hi:i < l.length) (h1:listed.getD i true=false) (h2:∀ y∈edgesAt l i,listed.getD y false=true):i∈Region.ready .any l.toArray listed:=by
 refine mem_ready.2 ⟨h1,l[i],by rw [List.getElem?_toArray];exact geE hi,fun e he hb=>h2 e.on ?_⟩
 simp only [edgesAt,geE hi,edgesOf,List.mem_map,List.mem_filter]
 exact⟨e,⟨by simpa using he,hb⟩,rfl⟩
theorem any_of_aexec (hC:C.Ok) {K:St->Prop} (hK:Resp K) {Q:Exit->Act->World->Prop} (hQ:∀ σ' a' w' ρ',K σ'->Rel C σ' a' w' ρ'->Q .normal a' w') :
  ∀(m:Nat) (c:List Nat) (listed:Array Bool) (σ:St) (a:Act) (w:World) (ρ:Nat->Value),c.length=m->LeftOk kp l c listed ->
   aexec C ⟨l.map (·.dst),kp⟩ (pickO l c) σ K->Rel C σ a w ρ->wpAny C.P .any l.toArray Q m listed a w
 | 0,c,listed,σ,a,w,ρ,hm,hl,h,r=>by
  have hc:c=[]:=nilZ hm
  subst hc
  refine⟨?_,hQ σ a w ρ h r⟩
  apply List.eq_nil_iff_forall_not_mem.2
  intro i hi
  have:=(hl.un i).1 (ready_edges hi).1
  simp at this
 | m+1,c,listed,σ,a,w,ρ,hm,hl,h,r=>by
  refine⟨fun hr=>?_,fun i hi=>?_⟩
  ·exfalso
   match c,hm with
   | x :: c',_=>
    have hx:x∈Region.ready .any l.toArray listed:=by
     refine edges_ready (hl.lt x mcS) ((hl.un x).2 mcS) fun y hy=>?_
     obtain⟨h1,h2⟩:=hl.ed x mcS y hy
     have hnc:y∉x :: c':=by
      intro hm
      rcases List.mem_cons.1 hm with e | hm
      ·exact h2 e
      ·have:=(List.pairwise_cons.1 hl.pw).1 y hm
       simp [pairB]at this
       exact this.1.2 hy
     have h3:¬listed.getD y true=false:=fun e=>hnc ((hl.un y).1 e)
     have hlt:y < listed.size:=by rw [hl.size];exact h1
     simp [hlt]at h3 ⊢
     exact h3
    rw [hr]at hx
    cases hx
  ·obtain⟨hi1,hi2⟩:=ready_edges hi
   have hic:=(hl.un i).1 hi1
   obtain⟨c1,c2,rfl⟩:=List.append_of_mem hic
   have hlt:=hl.lt i hic
   have hget:l[i]? = some l[i]:=geE hlt
   have hsub:(c1 ++ c2).Sublist (c1 ++ i :: c2):=List.Sublist.append_left (List.sublist_cons_self i c2) c1
   have hpw:=hl.pw
   rw [List.pairwise_append]at hpw
   obtain⟨p1,p2,p3⟩:=hpw
   have hpick:∀ c1:List Nat,pickO l (c1 ++ i :: c2)=pickO l c1 ++ l[i] :: pickO l c2:=by
    intro c1
    induction c1 with
    | nil=>simp only [List.nil_append,pickO,nthO_eq hget]
    | cons x c1 ih=>simp only [List.cons_append,pickO,ih]
   have hpick2:∀ c1:List Nat,pickO l c1 ++ pickO l c2=pickO l (c1 ++ c2):=by
    intro c1
    induction c1 with
    | nil=>rfl
    | cons x c1 ih=>simp only [List.cons_append,pickO,ih]
   rw [hpick]at h
   have hmem:∀ o∈pickO l c1,∃ x∈c1,l[x]? = some o:=by
    have:∀ c:List Nat,(∀ x∈c,x < l.length)->∀ o∈pickO l c,∃ x∈c,l[x]? = some o:=by
     intro c
     induction c with
     | nil=>intro _ o ho;simp [pickO]at ho
     | cons x c ih=>
      intro hx o ho
      simp only [pickO,List.mem_cons]at ho
      rcases ho with e | ho
      ·refine⟨x,mcS,?_⟩
       have:=geE (hx x mcS)
       rw [e,nthO_eq this];exact this
      ·obtain⟨y,hy,h'⟩:=ih (fun z hz=>hx z (mcM _ hz)) o ho
       exact⟨y,mcM _ hy,h'⟩
    exact this c1 fun x hx=>hl.lt x (List.mem_append_left _ hx)
   have hsw:∀ o∈pickO l c1,MaySwap ⟨l.map (·.dst),kp⟩ o l[i]:=by
    intro o ho
    obtain⟨x,hx,hxo⟩:=hmem o ho
    have hp:=p3 x hx i mcS
    simp only [pairB,bAnd,Bool.or_eq_true]at hp
    rcases hp.1.1 with hp | hp
    ·exact(listed_not (path_listed hl.closed _ x i hp hi2) ((hl.un x).2 (List.mem_append_left _ hx))).elim
    ·simp only [swapAt,hxo,hget]at hp
     exact maySwapB_spec hp
   have h2:=aexec_front hK hsw h
   refine aone_wp hC (K2:=wpAny C.P .any l.toArray Q m (listed.setIfInBounds i true)) (fun σ' a' w' ρ' h' r'=>?_) hget h2 r
   rw [hpick2]at h'
   have hil:i < listed.size:=by rw [hl.size];exact hlt
   refine any_of_aexec hC hK hQ m (c1 ++ c2) (listed.setIfInBounds i true) σ' a' w' ρ' ?_ ⟨hl.pw.sublist hsub,fun x hx=>hl.lt x (hsub.subset hx),fun x hx=>hl.ed x (hsub.subset hx),by rw [Array.size_setIfInBounds];exact hl.size,fun j=>?_,fun j hj y hy=>?_⟩ h' r'
   ·simp at hm ⊢;omega
   ·by_cases hij:i=j
    ·subst hij
     have hno:i∉c1 ++ c2:=by
      intro hmm
      rcases List.mem_append.1 hmm with k | k
      ·have:=p3 i k i mcS
       simp [pairB]at this
      ·have:=(List.pairwise_cons.1 p2).1 i k
       simp [pairB]at this
     simp [hil,hno]
    ·rw [getD_set_ne true hij,hl.un j]
     simp only [List.mem_append,List.mem_cons]
     constructor
     ·rintro(h | h | h)
      ·exact .inl h
      ·exact absurd h.symm hij
      ·exact .inr h
     ·rintro(h | h)
      ·exact .inl h
      ·exact .inr (.inr h)
   ·by_cases hij:i=j
    ·subst hij
     exact getD_set_true (hi2 y hy)
    ·rw [getD_set_ne false hij]at hj
     exact getD_set_true (hl.closed j hj y hy)
theorem any_of_aexecL (hC:C.Ok) {K:St->Prop} (hK:Resp K) {Q:Exit->Act->World->Prop} (hQ:∀ σ' a' w' ρ',K σ'->Rel C σ' a' w' ρ'->Q .normal a' w') (j:Nat) :
  ∀(m:Nat) (c:List Nat) (listed:Array Bool) (σ:St) (a:Act) (w:World) (ρ:Nat->Value),c.length=m->(∀ x∈c,pathB l l.length x j=true)->LeftOk kp l (c ++ [j]) listed ->
   aexec C ⟨l.map (·.dst),kp⟩ (pickO l c) σ (fun σ'=>aexec C ⟨l.map (·.dst),false⟩ (pickO l [j]) σ' K)->Rel C σ a w ρ->wpAny C.P .any l.toArray Q (m+1) listed a w
 | 0,c,listed,σ,a,w,ρ,hm,hp,hl,h,r=>by
  have hc:c=[]:=nilZ hm
  subst hc
  have hsw:LeftOk false l [j] listed:=⟨List.pairwise_singleton _ _,fun x hx=>hl.lt x hx,fun x hx=>hl.ed x hx,hl.size,hl.un,hl.closed⟩
  exact any_of_aexec hC hK hQ 1 [j] listed σ a w ρ rfl hsw h r
 | m+1,c,listed,σ,a,w,ρ,hm,hp,hl,h,r=>by
  have hKK:Resp (fun σ'=>aexec C ⟨l.map (·.dst),false⟩ (pickO l [j]) σ' K):=aexec_resp hK _
  refine⟨fun hr=>?_,fun i hi=>?_⟩
  ·exfalso
   match c,hm,hl with
   | x :: c',_,hl=>
    have hx:x∈Region.ready .any l.toArray listed:=by
     refine edges_ready (hl.lt x mcS) ((hl.un x).2 mcS) fun y hy=>?_
     obtain⟨h1,h2⟩:=hl.ed x mcS y hy
     have hnc:y∉x :: (c' ++ [j]):=by
      intro hm
      rcases List.mem_cons.1 hm with e | hm
      ·exact h2 e
      ·have:=(List.pairwise_cons.1 hl.pw).1 y hm
       simp [pairB]at this
       exact this.1.2 hy
     have h3:¬listed.getD y true=false:=fun e=>hnc ((hl.un y).1 e)
     have hlt:y < listed.size:=by rw [hl.size];exact h1
     simp [hlt]at h3 ⊢
     exact h3
    rw [hr]at hx
    cases hx
  ·obtain⟨hi1,hi2⟩:=ready_edges hi
   have hicj:=(hl.un i).1 hi1
   have hpl:∀ x∈c,listed.getD x true=false:=fun x hx=>(hl.un x).2 (List.mem_append_left _ hx)
   have hic:i∈c:=by
    rcases List.mem_append.1 hicj with hic | hij
    ·exact hic
    ·have hij:i=j:=by simpa using hij
     match c,hm with
     | x :: c',_=>exact(listed_not (path_listed hl.closed _ x i (by rw [hij];exact hp x mcS) hi2) (hpl x mcS)).elim
   obtain⟨c1,c2,rfl⟩:=List.append_of_mem hic
   have hlt:=hl.lt i hicj
   have hget:l[i]? = some l[i]:=geE hlt
   have hsub0:(c1 ++ c2).Sublist (c1 ++ i :: c2):=List.Sublist.append_left (List.sublist_cons_self i c2) c1
   have hsub:(c1 ++ c2 ++ [j]).Sublist (c1 ++ i :: c2 ++ [j]):=List.Sublist.append hsub0 (List.Sublist.refl _)
   have hpw:=hl.pw
   rw [List.append_assoc,List.cons_append,List.pairwise_append]at hpw
   obtain⟨p1,p2,p3⟩:=hpw
   have hpick:∀ c1:List Nat,pickO l (c1 ++ i :: c2)=pickO l c1 ++ l[i] :: pickO l c2:=by
    intro c1
    induction c1 with
    | nil=>simp only [List.nil_append,pickO,nthO_eq hget]
    | cons x c1 ih=>simp only [List.cons_append,pickO,ih]
   have hpick2:∀ c1:List Nat,pickO l c1 ++ pickO l c2=pickO l (c1 ++ c2):=by
    intro c1
    induction c1 with
    | nil=>rfl
    | cons x c1 ih=>simp only [List.cons_append,pickO,ih]
   rw [hpick]at h
   have hmem:∀ o∈pickO l c1,∃ x∈c1,l[x]? = some o:=by
    have:∀ c:List Nat,(∀ x∈c,x < l.length)->∀ o∈pickO l c,∃ x∈c,l[x]? = some o:=by
     intro c
     induction c with
     | nil=>intro _ o ho;simp [pickO]at ho
     | cons x c ih=>
      intro hx o ho
      simp only [pickO,List.mem_cons]at ho
      rcases ho with e | ho
      ·refine⟨x,mcS,?_⟩
       have:=geE (hx x mcS)
       rw [e,nthO_eq this];exact this
      ·obtain⟨y,hy,h'⟩:=ih (fun z hz=>hx z (mcM _ hz)) o ho
       exact⟨y,mcM _ hy,h'⟩
    exact this c1 fun x hx=>hl.lt x (List.mem_append_left _ (List.mem_append_left _ hx))
   have hsw:∀ o∈pickO l c1,MaySwap ⟨l.map (·.dst),kp⟩ o l[i]:=by
    intro o ho
    obtain⟨x,hx,hxo⟩:=hmem o ho
    have hp:=p3 x hx i mcS
    simp only [pairB,bAnd,Bool.or_eq_true]at hp
    rcases hp.1.1 with hp | hp
    ·exact(listed_not (path_listed hl.closed _ x i hp hi2) (hpl x (List.mem_append_left _ hx))).elim
    ·simp only [swapAt,hxo,hget]at hp
     exact maySwapB_spec hp
   have h2:=aexec_front hKK hsw h
   refine aone_wp hC (K2:=wpAny C.P .any l.toArray Q (m+1) (listed.setIfInBounds i true)) (fun σ' a' w' ρ' h' r'=>?_) hget h2 r
   rw [hpick2]at h'
   have hil:i < listed.size:=by rw [hl.size];exact hlt
   refine any_of_aexecL hC hK hQ j m (c1 ++ c2) (listed.setIfInBounds i true) σ' a' w' ρ' ?_ (fun x hx=>hp x (hsub0.subset hx)) ⟨hl.pw.sublist hsub,fun x hx=>hl.lt x (hsub.subset hx),fun x hx=>hl.ed x (hsub.subset hx),by rw [Array.size_setIfInBounds];exact hl.size,fun q=>?_,fun q hj y hy=>?_⟩ h' r'
   ·simp at hm ⊢;omega
   ·by_cases hij:i=q
    ·subst hij
     have hno:i∉c1 ++ c2 ++ [j]:=by
      intro hmm
      rw [List.append_assoc]at hmm
      rcases List.mem_append.1 hmm with k | k
      ·have:=p3 i k i mcS
       simp [pairB]at this
      ·have:=(List.pairwise_cons.1 p2).1 i k
       simp [pairB]at this
     simp only [List.mem_append,List.mem_singleton,not_or]at hno
     simp [hil,hno]
    ·rw [getD_set_ne true hij,hl.un q]
     simp only [List.mem_append,List.mem_cons,List.mem_singleton]
     constructor
     ·rintro((h | h | h) | h)
      ·exact .inl (.inl h)
      ·exact absurd h.symm hij
      ·exact .inl (.inr h)
      ·exact .inr h
     ·rintro((h | h) | h)
      ·exact .inl (.inl h)
      ·exact .inl (.inr (.inr h))
      ·exact .inr h
   ·by_cases hij:i=q
    ·subst hij
     exact getD_set_true (hi2 y hy)
    ·rw [getD_set_ne false hij]at hj
     exact getD_set_true (hl.closed q hj y hy)
theorem Run.resp {k:List Item}:Resp (Run C k):=by
 intro σ σ' he h a w ρ r b cs
 exact h a w ρ ⟨r.defers,r.size.trans he.1.symm,fun s ex x hs=>by
  rw [he.2.2 s]at hs
  rw [he.2.1]
  exact r.fr s ex x hs,by rw [he.2.1];exact r.w,by rw [he.2.1];exact r.pin⟩ b cs
theorem Run.regionD (hC:C.Ok) (kp:Bool) (c:List Nat) {k:List Item} {σ:St} {id:Nat} {l:List Oper} (hB:ordOK kp l c=true)
  (h:∀ K:St->Prop,(∀ σ',Run C k σ'->K σ')->aexec C ⟨dstL l,kp⟩ (pickO l c) σ K):Run C (.code (.region id l.toArray true) :: k) σ:=by
 intro a w ρ r b cs
 have h1:=h (fun σ'=>Run C k σ') (fun _ hr=>hr)
 rw [dstL_eq]at h1
 simp only [ordOK,bAnd,alT,List.mem_range]at hB
 obtain⟨⟨hp,ha⟩,hr⟩:=hB
 have hcl:c.length=l.length:=by
  have hpw:=pwB_pw hp
  have hnd:c.Nodup:=hpw.imp (fun {x y} h=>by simp [pairB]at h;exact h.2)
  have hperm:c.Perm (List.range l.length):=by
   refine(List.perm_ext_iff_of_nodup hnd List.nodup_range).2 fun i=>?_
   rw [List.mem_range]
   constructor
   ·intro hi
    have:=ha i hi
    simp at this
    exact this.1
   ·intro hi
    simpa using hr i hi
  simpa using hperm.length_eq
 have hst:Step C w { w with drawn:=w.drawn+1 } σ.obs σ.obs ρ ρ:=(Turn.none r.w (Ext.drew _ w)).step r.w
 have hrel:Rel C σ a { w with drawn:=w.drawn+1 } ρ:=hst.rel r
 have hw:(Code.region id l.toArray true).wp C.P (fun e a' w'=>e=.normal/\∃ σ' ρ',Run C k σ'/\Rel C σ' a' w' ρ') a w:=by
  refine wp_region_any hC.mixed ?_
  simp only [List.size_toArray]
  refine any_of_aexec (kp:=kp) hC Run.resp (fun σ' a' w' ρ' hk hr=>⟨rfl,σ',ρ',hk,hr⟩) l.length c (Array.replicate l.length false) σ a _ ρ hcl ⟨pwB_pw hp,fun x hx=>?_,fun x hx y hy=>?_,by simp,fun i=>?_,fun i hi=>?_⟩ h1 hrel
  ·have:=ha x hx;simp at this;exact this.1
  ·have:=ha x hx;simp at this;exact this.2 y hy
  ·rcases Nat.lt_or_ge i l.length with hi | hi
   ·have:=hr i hi
    simp at this
    simp [hi,this]
   ·simp [hi]
    intro hic
    have:=ha i hic
    simp at this
    omega
  ·rcases Nat.lt_or_ge i l.length with hh | hh
   ·simp [hh]at hi
   ·simp [hh]at hi
 obtain⟨e,a',w',⟨rfl,σ',ρ',hk,hr⟩,harr⟩:=hw b k cs
 obtain⟨e2,a2,w2,hp,harr2⟩:=hk a' w' ρ' hr b cs
 exact⟨e2,a2,w2,hp,.of_steps harr harr2⟩
theorem Run.regionDL (hC:C.Ok) (kp:Bool) (c:List Nat) (j:Nat) {k:List Item} {σ:St} {id:Nat} {l:List Oper} (hB:ordOK kp l (c ++ [j])=true) (hj:(c.all fun x=>pathB l l.length x j)=true)
  (h:∀ K:St->Prop,(∀ σ',Run C k σ'->K σ')->aexec C ⟨dstL l,kp⟩ (pickO l c) σ (fun σ'=>aexec C ⟨dstL l,false⟩ (pickO l [j]) σ' K)):Run C (.code (.region id l.toArray true) :: k) σ:=by
 intro a w ρ r b cs
 have h1:=h (fun σ'=>Run C k σ') (fun _ hr=>hr)
 rw [dstL_eq]at h1
 simp only [ordOK,bAnd,alT,List.mem_range]at hB
 obtain⟨⟨hp,ha⟩,hr⟩:=hB
 have hcl:(c ++ [j]).length=l.length:=by
  have hpw:=pwB_pw hp
  have hnd:(c ++ [j]).Nodup:=hpw.imp (fun {x y} h=>by simp [pairB]at h;exact h.2)
  have hperm:(c ++ [j]).Perm (List.range l.length):=by
   refine(List.perm_ext_iff_of_nodup hnd List.nodup_range).2 fun i=>?_
   rw [List.mem_range]
   constructor
   ·intro hi
    have:=ha i hi
    simp at this
    exact this.1
   ·intro hi
    simpa using hr i hi
  simpa using hperm.length_eq
 have hst:Step C w { w with drawn:=w.drawn+1 } σ.obs σ.obs ρ ρ:=(Turn.none r.w (Ext.drew _ w)).step r.w
 have hrel:Rel C σ a { w with drawn:=w.drawn+1 } ρ:=hst.rel r
 have hw:(Code.region id l.toArray true).wp C.P (fun e a' w'=>e=.normal/\∃ σ' ρ',Run C k σ'/\Rel C σ' a' w' ρ') a w:=by
  refine wp_region_any hC.mixed ?_
  simp only [List.size_toArray]
  have hwl:∀ {Q:Exit->Act->World->Prop} {w':World},wpAny C.P .any l.toArray Q (c.length+1) (Array.replicate l.length false) a w'->wpAny C.P .any l.toArray Q l.length (Array.replicate l.length false) a w':=by
   intro Q w' h
   have e:l.length=c.length+1:=by simpa using hcl.symm
   rw [e]at h ⊢
   exact h
  refine hwl (any_of_aexecL (kp:=kp) hC Run.resp (fun σ' a' w' ρ' hk hr=>⟨rfl,σ',ρ',hk,hr⟩) j c.length c (Array.replicate l.length false) σ a _ ρ rfl (fun x hx=>by simpa using alT.1 hj x hx) ⟨pwB_pw hp,fun x hx=>?_,fun x hx y hy=>?_,by simp,fun i=>?_,fun i hi=>?_⟩ h1 hrel)
  ·have:=ha x hx;simp at this;exact this.1
  ·have:=ha x hx;simp at this;exact this.2 y hy
  ·rcases Nat.lt_or_ge i l.length with hi | hi
   ·have:=hr i hi
    simp at this
    simp [hi,this]
   ·have hnc:i∉c ++ [j]:=fun hic=>by
     have:=(ha i hic).1
     rw [dtE]at this
     omega
    have h5:(Array.replicate l.length false).getD i true=true:=by simp [hi]
    rw [h5]
    exact⟨fun h=>(by cases h),fun h=>absurd h hnc⟩
  ·rcases Nat.lt_or_ge i l.length with hh | hh
   ·simp [hh]at hi
   ·simp [hh]at hi
 obtain⟨e,a',w',⟨rfl,σ',ρ',hk,hr⟩,harr⟩:=hw b k cs
 obtain⟨e2,a2,w2,hp,harr2⟩:=hk a' w' ρ' hr b cs
 exact⟨e2,a2,w2,hp,.of_steps harr harr2⟩
end
theorem FunA.callW {B C:Ctx} [DrLe B C] (hP:B.P=C.P) (hT:B.tid=C.tid) {f:FuncId} {args0:List AV} {post:List AV->List O->Prop} (h:FunA B f args0 post) {obs:List O} {args:List AV} (ha:argsOk obs args args0)
  {K:Sl->List O->Prop} (hk:∀ xs obs',post xs obs'->K (resSl obs.length xs) (obs ++ obs')):ACall C obs f args fun x o=>Later (K x o):=FunA.call hP hT h ha hk
theorem FunA.callD {B C:Ctx} [DrLe B C] (hP:B.P=C.P) (hT:B.tid=C.tid) {f:FuncId} {args0:List AV} {post:List AV->List O->Prop} (h:FunA B f args0 post) {obs:List O} {args:List AV} (ha:argsOk obs args args0)
  {K:Sl->List O->Prop} (hk:∀ xs obs',post xs obs'->K (resSl obs.length xs) (obs ++ obs')):ACall C obs f args fun x o=>Keeps obs o/\Later (K x o):=FunA.call hP hT h ha fun xs obs' hp=>⟨Keeps.app _ _,hk xs obs' hp⟩
theorem argsOk_nil (obs:List O):argsOk obs [] []=True:=rfl
theorem argsOk_cons (obs:List O) (x y:AV) (l r:List AV):argsOk obs (x :: l) (y :: r)=(argOk obs x y/\argsOk obs l r):=rfl
theorem argOk_int (obs:List O) (x:AV) (k:IntKind) (n:Int):argOk obs x (.int k n)=(x=.int k n):=by cases x<;>rfl
theorem argOk_bool (obs:List O) (x:AV) (n:Bool):argOk obs x (.bool n)=(x=.bool n):=by cases x<;>rfl
theorem argOk_str (obs:List O) (x:AV) (n:List UInt8):argOk obs x (.str n)=(x=.str n):=by cases x<;>rfl
theorem argOk_fn (obs:List O) (x:AV) (n:Nat):argOk obs x (.fn n)=(x=.fn n):=by cases x<;>rfl
theorem argOk_vec (obs:List O) (x:AV) (n:List Int):argOk obs x (.vec n)=(x=.vec n):=by cases x<;>rfl
theorem argOk_nil (obs:List O) (x:AV):argOk obs x .nils=(x=.nils):=by cases x<;>rfl
theorem argOk_sl (obs:List O) (f:Bool) (e e':E) (xs:List e.D) (ys:List e'.D):argOk obs (.sl f e' ys) (.sl false e xs)=convV e e' ys xs:=rfl
theorem argOk_lr (obs:List O) (e:E) (xs:List e.D) (l:Nat) (ys:List Int):argOk obs (.lr l ys) (.sl false e xs)=convV e .int ys xs:=rfl
theorem argOk_nils (obs:List O) (e:E) (xs:List e.D):argOk obs .nils (.sl false e xs)=(xs=[]):=rfl
def argO (g:Nat) (e:E) (xs:List e.D):O->Prop
 | .arr e' ys g' _=>g=g'/\convV e e' ys xs
 | .mat _ rows g' _=>g=g'/\e=.row false/\convV e (.row false) rows xs
 | _=>False
theorem argOk_own (obs:List O) (e:E) (xs:List e.D) (id g:Nat):argOk obs (.own id g) (.sl false e xs)=argO g e xs (oAt obs id):=by
 rw [at_arr]
 simp only [argOk]
 cases h:obs[id]? with
 | none=>simp [argO]
 | some o=>cases o<;>rfl
theorem argO_arr (g g':Nat) (e e':E) (xs:List e.D) (ys:List e'.D) (nn:Bool):argO g e xs (.arr e' ys g' nn)=(g=g'/\convV e e' ys xs):=rfl
theorem argO_mat (g g':Nat) (e:E) (xs:List e.D) (hs:List (Option Nat)) (rows:List (List Int)) (nn:Bool):argO g e xs (.mat hs rows g' nn)=(g=g'/\e=.row false/\convV e (.row false) rows xs):=rfl
theorem cvV_int (ys zs:List Int):convV .int .int ys zs=(zs=ys):=rfl
theorem cvV_byte (ys zs:List Int):convV .byte .byte ys zs=(zs=ys):=rfl
theorem cvV_bool (ys zs:List Bool):convV .bool .bool ys zs=(zs=ys):=rfl
theorem cvV_str (ys zs:List (List UInt8)):convV .str .str ys zs=(zs=ys):=rfl
theorem cvV_row (f:Bool) (ys zs:List (List Int)):convV (.row false) (.row f) ys zs=(zs=ys):=rfl
theorem cvV_lrow (ys:List (Nat×List Int)) (zs:List (List Int)):convV (.row false) .lrow ys zs=(zs=ys.map (·.2)):=rfl
theorem AZ:type_of% @AY/\type_of% @nthO_cons/\type_of% @pickO_nil/\type_of% @pickO_cons/\(∀ p:Prop,(false=true->p)=True)/\(∀ p:Prop,(true=true->p)=p)/\type_of% @argsOk_nil/\type_of% @argsOk_cons/\type_of% @argOk_int/\type_of% @argOk_bool/\type_of% @argOk_str/\type_of% @argOk_fn/\type_of% @argOk_vec/\type_of% @argOk_nil /\
  type_of% @argOk_sl/\type_of% @argOk_lr/\type_of% @argOk_nils/\type_of% @argOk_own/\type_of% @argO_arr/\type_of% @cvV_int/\type_of% @cvV_byte/\type_of% @cvV_bool/\type_of% @cvV_str/\type_of% @cvV_row/\type_of% @cvV_lrow/\(∀ k n,St.n ⟨k,n,([]:List O)⟩=k):=by
 refine⟨AY,nthO_cons,pickO_nil,pickO_cons,?_,?_,argsOk_nil,argsOk_cons,argOk_int,argOk_bool,argOk_str,argOk_fn,argOk_vec,argOk_nil,argOk_sl,argOk_lr,argOk_nils,argOk_own,argO_arr,cvV_int,cvV_byte,cvV_bool,cvV_str,cvV_row,cvV_lrow,fun _ _=>rfl⟩<;>simp
end Go.Aw
namespace Go.Aw
open Go
def Ctx.lent (B:Ctx) (fn:Func) (R:Ending->World->Prop) (w:World) (L:Nat->Prop) (o:O) (v:Value):Ctx:={ B.enterL fn R w (fun b=>fpo v o b) L with pin:=[v] }
def Ctx.lentB (B:Ctx) (w:World) (L:Nat->Prop) (o:O) (v:Value):Ctx:=B.lent default (fun _ _=>True) w L o v
theorem Ctx.Ok.lent {B:Ctx} (h:B.Ok) (fn:Func) (R:Ending->World->Prop) (w:World) (L:Nat->Prop) (o:O) (v:Value):(B.lent fn R w L o v).Ok:=⟨h.sl,h.slc,h.bt,h.same,h.mixed,h.u8,h.mt,h.wt,h.lr,h.slz,h.mtz,h.pt⟩
def backO (o0:O) (v v':Value):O->Prop
 | .dead=>True
 | .arr e _ g _=>freshE e=true/\(g=0->v'=v)
 | .mat hs _ g _=>g=0/\v'=v/\∃ rows nn,o0=.mat hs rows 0 nn
 | .gm D _ _ g _=>g=0/\v'=v/\∃ F0 hs0 nn,o0=.gm D F0 hs0 0 nn
 | .mp _ _ g=>g=0/\v'=v/\∃ m0 l0,o0=.mp m0 l0 0
 | .ap ..=>False
 | .cur s g=>g=0/\v'=v/\o0=.cur s 0
 | .bag _ g=>g=0->v'=v
def FunO (B:Ctx) (f:FuncId) (args:List AV) (o0:O) (post:List AV->List O->Prop):Prop:=
 (∀(vs:Array Value) (w:World),(callFunc f vs).run B.P w=.ok (.enter f vs) w) /\
 ∀ w (L:Nat->Prop) (v:Value) (vs:List Value),WRel (B.lentB w L o0 v) [o0] w (fun _=>v)->vs.length=args.length ->
  (∀(i:Nat) (x:AV) (u:Value),args[i]? = some x->vs[i]? = some u->AVRel ((B.lentB w L o0 v).V w [o0] (fun _=>v)) [o0] (fun _=>v) x u) ->
  Calls B.P f vs.toArray w fun en w'=>∃ us:List Value,en=.returned (pack us)/\∃ rs o' obs' ρ',post rs (o' :: obs')/\us.length=rs.length /\
   (∀(i:Nat) (x:AV) (u:Value),rs[i]? = some x->us[i]? = some u->AVRel ((B.lentB w L o0 v).V w' (o' :: obs') ρ') (o' :: obs') ρ' x u) /\
   WRel (B.lentB w L o0 v) (o' :: obs') w' ρ'/\rs.all freshAV=true/\obs'.all freshO=true/\backO o0 v (ρ' 0) o'
def FunM (B:Ctx) (f:FuncId) (args:List AV) (e:E) (xs:List e.D) (nn:Bool) (post:List AV->List O->Prop):Prop:=FunO B f args (.arr e xs 0 nn) post
def RM (B:Ctx) (w:World) (L:Nat->Prop) (o:O) (v:Value) (post:List AV->List O->Prop):Ending->World->Prop:=fun en w'=>∃ us:List Value,en=.returned (pack us)/\∃ rs o' obs' ρ',post rs (o' :: obs')/\us.length=rs.length /\
   (∀(i:Nat) (x:AV) (u:Value),rs[i]? = some x->us[i]? = some u->AVRel ((B.lentB w L o v).V w' (o' :: obs') ρ') (o' :: obs') ρ' x u) /\
   WRel (B.lentB w L o v) (o' :: obs') w' ρ'/\rs.all freshAV=true/\obs'.all freshO=true/\backO o v (ρ' 0) o'
def backB:O->Bool
 | .dead=>true
 | .arr e _ _ _=>freshE e
 | .mat ..=>false
 | .gm ..=>false
 | .mp ..=>false
 | .ap ..=>false
 | .cur ..=>false
 | .bag ..=>false
def backP (o0:O):O->Prop
 | .dead=>True
 | .arr e _ _ _=>freshE e=true/\∃ e' xs g' nn,o0=.arr e' xs g' nn
 | .mat hs _ g _=>g=0/\∃ rows nn,o0=.mat hs rows 0 nn
 | .gm D _ _ g _=>g=0/\∃ F0 hs0 nn,o0=.gm D F0 hs0 0 nn
 | .mp _ _ g=>g=0/\∃ m0 l0,o0=.mp m0 l0 0
 | .ap ..=>False
 | .cur s g=>g=0/\o0=.cur s 0
 | .bag _ _=>∃ d' g',o0=.bag d' g'
theorem FunO.fin {B:Ctx} {fn:Func} {w:World} {L:Nat->Prop} {o:O} {v:Value} {post:List AV->List O->Prop} {rs:List AV} {o':O} {obs':List O} (hp:post rs (o' :: obs')) (h1:rs.all freshAV=true) (h2:obs'.all freshO=true) (h3:backP o o') :
  Fin (B.lent fn (RM B w L o v post) w L o v) rs (o' :: obs'):=by
 intro w' ρ vs hr hpin hl ha
 refine⟨vs,rfl,rs,o',obs',ρ,hp,hl,ha,⟨hr.os,hr.dis,hr.own,hr.os0,hr.tape,hr.output,hr.grow,hr.drawn,hr.kept,hr.gl⟩,h1,h2,?_⟩
 cases o' with
 | dead=>trivial
 | arr e xs g nn=>
  obtain⟨h3,e',xs',g',nn',rfl⟩:=h3
  obtain⟨_,hk⟩:=hpin 0 v rfl
  exact⟨h3,fun h4=>hk (by rw [h4];rfl)⟩
 | mat hs rows g nn=>
  obtain⟨h3,h4⟩:=h3
  obtain⟨_,hk⟩:=hpin 0 v rfl
  exact⟨h3,hk (by rw [h3];rfl),h4⟩
 | gm D F hs g nn=>
  obtain⟨h3,h4⟩:=h3
  obtain⟨_,hk⟩:=hpin 0 v rfl
  exact⟨h3,hk (by rw [h3];rfl),h4⟩
 | mp m l g=>
  obtain⟨h3,h4⟩:=h3
  obtain⟨_,hk⟩:=hpin 0 v rfl
  exact⟨h3,hk (by rw [h3];rfl),h4⟩
 | ap _ _ _ _ _=>exact h3.elim
 | cur s g=>
  obtain⟨h3,h4⟩:=h3
  obtain⟨_,hk⟩:=hpin 0 v rfl
  exact⟨h3,hk (by rw [h3];rfl),h4⟩
 | bag d g=>
  obtain⟨_,hk⟩:=hpin 0 v rfl
  exact fun h4=>hk (by rw [h4];rfl)
theorem FunO.walk {B:Ctx} (hB:B.Ok) {f:FuncId} {fn:Func} {c:Code} {args:List AV} {o0:O} {post:List AV->List O->Prop} (hcall:∀(vs:Array Value) (w:World),(callFunc f vs).run B.P w=.ok (.enter f vs) w)
  (hf:B.P.funcs[f]? = some fn) (hb:fn.body=some c) (hn:args.length<=fn.ntmps)
  (h:∀ C:Ctx,C.Ok->B.P=C.P->B.tid=C.tid->C.Γ=B.Γ->(C.bt=B.bt/\C.mt=B.mt/\C.wt=B.wt/\C.dr=B.dr/\C.pt=B.pt)->C.fn=fn->C.pin.length=1->(∀ rs o' obs',rs.all freshAV=true->obs'.all freshO=true->backP o0 o'->post rs (o' :: obs')->Fin C rs (o' :: obs')) ->
   Run C [.code c] ⟨fn.ntmps,entF 0 args,[o0]⟩):FunO B f args o0 post:=by
 refine⟨hcall,fun w L v vs hw hl ha=>?_⟩
 refine calls_of_run (C:=B.lent fn (RM B w L o0 v post) w L o0 v) (ρ:=fun _=>v) hf hb
  (h _ (hB.lent fn _ w L _ v) rfl rfl rfl ⟨rfl,rfl,rfl,rfl,rfl⟩ rfl rfl fun _ _ _ h1 h2 h3 hp=>FunO.fin hp h1 h2 h3) ⟨rfl,?_,?_,⟨hw.os,hw.dis,hw.own,hw.os0,hw.tape,hw.output,hw.grow,hw.drawn,hw.kept,hw.gl⟩,fun j u hj=>?_⟩
 ·simp [Ctx.lent,Ctx.enterL]
  omega
 ·intro s ex x hx
  have hent:=entry_eq args fn.ntmps
  have hz:look s ((args.zipIdx 0).map (fun p=>(p.2,true,Sl.v p.1)))=some (ex,x):=by
   have:=congrArg St.fr hent
   simp only [entry]at this
   rw [this];exact hx
  obtain⟨k,y,h1,h2,rfl,rfl⟩:=look_zip args s 0 ex x hz
  refine⟨fun _=>?_,by simp⟩
  have hk:k < args.length:=(geS.1 h2).1
  have hkv:k < vs.length:=by omega
  have hs:s=k:=by omega
  subst hs
  have hg:((vs.toArray ++ Array.replicate ((B.lent fn (RM B w L o0 v post) w L o0 v).fn.ntmps - vs.toArray.size) undef).getD s undef)=vs[s]:=by
   simp [Array.getD_eq_getD_getElem?,Array.getElem?_append,hkv]
  rw [hg]
  exact ha s y vs[s] h2 (by simp)
 ·match j,hj with
  | 0,hj=>
   simp [Ctx.lent]at hj
   exact⟨by simp,fun _=>hj⟩
  | j+1,hj=>simp [Ctx.lent]at hj
theorem backB_P {e:E} {xs:List e.D} {g:Nat} {nn:Bool} {o':O} (h:backB o'=true):backP (.arr e xs g nn) o':=by
 cases o' with
 | dead=>trivial
 | arr e2 ys g2 n2=>exact⟨h,_,_,_,_,rfl⟩
 | mat _ _ _ _=>cases h
 | gm _ _ _ _ _=>cases h
 | mp _ _ _=>cases h
 | ap _ _ _ _ _=>cases h
 | cur _ _=>cases h
 | bag _ _=>cases h
theorem FunM.walk {B:Ctx} (hB:B.Ok) {f:FuncId} {fn:Func} {c:Code} {args:List AV} {e:E} {xs:List e.D} {nn:Bool} {post:List AV->List O->Prop} (hcall:∀(vs:Array Value) (w:World),(callFunc f vs).run B.P w=.ok (.enter f vs) w)
  (hf:B.P.funcs[f]? = some fn) (hb:fn.body=some c) (hn:args.length<=fn.ntmps)
  (h:∀ C:Ctx,C.Ok->B.P=C.P->B.tid=C.tid->C.Γ=B.Γ->(C.bt=B.bt/\C.mt=B.mt/\C.wt=B.wt/\C.dr=B.dr/\C.pt=B.pt)->C.fn=fn->C.pin.length=1->(∀ rs o' obs',rs.all freshAV=true->obs'.all freshO=true->backB o'=true->post rs (o' :: obs')->Fin C rs (o' :: obs')) ->
   Run C [.code c] ⟨fn.ntmps,entF 0 args,[.arr e xs 0 nn]⟩):FunM B f args e xs nn post:=
 FunO.walk hB hcall hf hb hn fun C h1 h2 h3 h4 h5 h6 h7 hfin=>h C h1 h2 h3 h4 h5 h6 h7 fun rs o' obs' k1 k2 k3 k4=>hfin rs o' obs' k1 k2 (backB_P k3) k4
def regO (g:Nat):O->O
 | .dead=>.dead
 | .arr e xs g' nn=>.arr e xs (g+g') nn
 | .mat hs rows g' nn=>.mat hs rows (g+g') nn
 | .gm D F hs g' nn=>.gm D F hs (g+g') nn
 | .mp m l g'=>.mp m l (g+g')
 | .ap q ys fr g' nn=>.ap q ys fr (g+g') nn
 | .cur s g'=>.cur s (g+g')
 | .bag d g'=>.bag d (g+g')
def shiftM (i0 g0 n:Nat):AV->AV
 | .own 0 g=>.own i0 (g0+g)
 | .own (k+1) g=>.own (n+k) g
 | x=>x
theorem joinM {B C:Ctx} [hD:DrLe B C] (hP:B.tid=C.tid) {obs obs':List O} {w w':World} {ρ ρ':Nat->Value} {L:Nat->Prop} (hL:∀ b,L b->C.seen obs ρ b) (rr:WRel C obs w ρ) {i0 g:Nat} {o o0:O} (hi:obs[i0]? = some o) (hog:o.gen=some g) (hfo:∀ b,fpo (ρ i0) o0 b↔fpo (ρ i0) o b) (hcu:∀ s,o0=.cur s 0->o=.cur s g) {o':O}
  (r':WRel (B.lentB w L o0 (ρ i0)) (o' :: obs') w' ρ') (hf:obs'.all freshO=true) (hb:backO o0 (ρ i0) (ρ' 0) o') :
  ∃ ρ2,Step C w w' obs (obs.set i0 (regO g o') ++ obs') ρ ρ2/\∀(x:AV) (v:Value),freshAV x=true->AVRel ((B.lentB w L o0 (ρ i0)).V w' (o' :: obs') ρ') (o' :: obs') ρ' x v ->
   AVRel (C.V w' (obs.set i0 (regO g o') ++ obs') ρ2) (obs.set i0 (regO g o') ++ obs') ρ2 (shiftM i0 g obs.length x) v:=by
 let ρ2:Nat->Value:=fun i=>if i < obs.length then(if i=i0 then ρ' 0 else ρ i)else ρ' (i - obs.length+1)
 have hi0:i0 < obs.length:=(geS.1 hi).1
 have hset:(obs.set i0 (regO g o')).length=obs.length:=by simp
 have hM:∀ b,(B.lentB w L o0 (ρ i0)).M b↔fpo (ρ i0) o b:=fun b=>hfo b
 have hMown:∀ b,fpo (ρ i0) o b->Own obs ρ b:=fun b h=>⟨i0,_,hi,h⟩
 have hext:Ext0 (fun b=>fpo (ρ i0) o b) w w':=⟨r'.os0,r'.tape,r'.output,r'.grow,fun b hb hS=>r'.kept b hb fun k=>hS ((hM b).1 k)⟩
 have ho':∀ b,Own (o' :: obs') ρ' b->w.heap.size<=b\/fpo (ρ i0) o b:=fun b hb=>(r'.own b hb).imp id (hM b).1
 have hreg:∀ b,fpo (ρ' 0) (regO g o') b->fpo (ρ' 0) o' b:=fun b h=>by cases o'<;>exact h
 have hreg':∀ b,fpo (ρ' 0) (regO g o') b->w.heap.size<=b\/fpo (ρ i0) o b:=fun b h=>ho' b ⟨0,o',rfl,hreg b h⟩
 have get2:∀(id:Nat) (o:O),(obs.set i0 (regO g o') ++ obs')[id]? = some o ->
   (id=i0/\o=regO g o'/\ρ2 id=ρ' 0)\/(id≠i0/\id < obs.length/\obs[id]? = some o/\ρ2 id=ρ id)\/(obs.length<=id/\obs'[id - obs.length]? = some o/\ρ2 id=ρ' (id - obs.length+1)):=by
  intro id o ho
  rw [List.getElem?_append]at ho
  split at ho
  ·rename_i hlt
   rw [hset]at hlt
   by_cases hii:i0=id
   ·subst hii
    rw [List.getElem?_set_self hi0]at ho
    cases ho
    exact .inl ⟨rfl,rfl,by simp [ρ2,hi0]⟩
   ·rw [List.getElem?_set_ne hii]at ho
    exact .inr (.inl ⟨Ne.symm hii,hlt,ho,by simp [ρ2,hlt,Ne.symm hii]⟩)
  ·rename_i hlt
   rw [hset]at hlt ho
   exact .inr (.inr ⟨by omega,ho,by simp [ρ2,hlt]⟩)
 have split:∀ b,Own (obs.set i0 (regO g o') ++ obs') ρ2 b->(∃ id o,id≠i0/\obs[id]? = some o/\fpo (ρ id) o b)\/(fpo (ρ' 0) (regO g o') b)\/(∃ k o,obs'[k]? = some o/\fpo (ρ' (k+1)) o b):=by
  rintro b ⟨id,o,ho,hfp⟩
  rcases get2 id o ho with⟨rfl,rfl,h3⟩ | ⟨h1,h2,h3,h4⟩ | ⟨h1,h2,h3⟩
  ·rw [h3]at hfp;exact .inr (.inl hfp)
  ·rw [h4]at hfp;exact .inl ⟨id,o,h1,h3,hfp⟩
  ·rw [h3]at hfp;exact .inr (.inr ⟨_,o,h2,hfp⟩)
 have hV:(C.V w obs ρ).le (C.V w' (obs.set i0 (regO g o') ++ obs') ρ2):=by
  refine⟨fun b x hx=>?_,fun _ h=>h,rfl⟩
  simp only [Ctx.V,mask]at hx ⊢
  split at hx
  ·cases hx
  ·rename_i hn
   have hlt:=(ageS.1 hx).1
   have hn':¬Own (obs.set i0 (regO g o') ++ obs') ρ2 b:=fun k=>by
    rcases split b k with⟨id,o,_,h2,h3⟩ | h | ⟨k,o,h1,h2⟩
    ·exact hn ⟨id,o,h2,h3⟩
    ·rcases hreg' b h with h | h
     ·omega
     ·exact hn (hMown b h)
    ·rcases ho' b ⟨k+1,o,by simpa using h1,h2⟩with h | h
     ·omega
     ·exact hn (hMown b h)
   rw [if_neg hn',hext.block b hlt (fun k=>hn (hMown b k))]
   exact hx
 have hH:∀ b o,((B.lentB w L o0 (ρ i0)).V w' (o' :: obs') ρ').Fr b->((B.lentB w L o0 (ρ i0)).V w' (o' :: obs') ρ').H b=some o->(C.V w' (obs.set i0 (regO g o') ++ obs') ρ2).H b=some o:=by
  intro b o hfr hx
  simp only [Ctx.V,mask]at hx ⊢
  split at hx
  ·cases hx
  ·rename_i hn
   have hn':¬Own (obs.set i0 (regO g o') ++ obs') ρ2 b:=fun k=>by
    rcases split b k with⟨id,o2,h1,h2,h3⟩ | h | ⟨k,o2,h1,h2⟩
    ·have hlt:=(rr.os id o2 h2).lt h3
     rcases hfr with(hge | hm) | hl
     ·exact absurd hlt (Nat.not_lt.2 hge)
     ·exact h1 (rr.dis id i0 o2 _ b h2 hi h3 ((hM b).1 hm))
     ·exact(hL b hl).2 ⟨id,o2,h2,h3⟩
    ·exact hn ⟨0,o',rfl,hreg b h⟩
    ·exact hn ⟨k+1,o2,by simpa using h1,h2⟩
   rw [if_neg hn']
   exact hx
 have hF:∀ b,((B.lentB w L o0 (ρ i0)).V w' (o' :: obs') ρ').Fr b->(C.V w' (obs.set i0 (regO g o') ++ obs') ρ2).Fr b:=fun b hfr=>by
  rcases hfr with(h | h) | h
  ·exact .inl (.inl (Nat.le_trans rr.grow h))
  ·exact .inl (rr.own b (hMown b ((hM b).1 h)))
  ·exact(hL b h).1
 have ht:(C.V w' (obs.set i0 (regO g o') ++ obs') ρ2).ti=((B.lentB w L o0 (ρ i0)).V w' (o' :: obs') ρ').ti:=by show C.tid .int=B.tid .int;rw [hP]
 have hwr:WRel C (obs.set i0 (regO g o') ++ obs') w' ρ2:=by
  refine⟨fun id o ho=>?_,fun i j o o2 b hi' hj' bi bj=>?_,fun b hb'=>?_,hext.os.trans rr.os0,hext.tape.trans rr.tape,hext.output.trans rr.output,Nat.le_trans rr.grow hext.size,fun hd=>Nat.le_trans (rr.drawn hd) (r'.drawn (hD.h hd)),fun b hb' hM'=>?_,rr.gl⟩
  ·rcases get2 id o ho with⟨rfl,rfl,h3⟩ | ⟨h1,h2,h3,h4⟩ | ⟨h1,h2,h3⟩
   ·rw [h3]
    have k:=r'.os 0 o' rfl
    cases o' with
    | dead=>trivial
    | arr e2 ys g2 n2=>
     obtain⟨cs,k1,k2,k3⟩:=k
     exact⟨cs,by have:B.tid e2=C.tid e2:=congrFun hP e2;rw [<- this];exact k1,k2.fresh hH hF ht hb.1,k3⟩
    | mat hs2 rows2 g2 n2=>exact ORel.mat_tid (tid:=B.tid) (congrFun hP .lrow) (congrFun hP .int) k
    | gm D2 F2 hs2 g2 n2=>exact ORel.gm_tid (tid:=B.tid) (congrFun hP .lrow) (congrFun hP .int) k
    | mp m2 l2 g2=>exact k
    | ap _ _ _ _ _=>exact hb.elim
    | cur s2 g2=>
     obtain⟨hg2,hv2,hb2⟩:=hb
     have ho2:=hcu s2 hb2
     subst ho2
     obtain⟨b,t,i,h,k1,k2,k3,⟨xs,k4,k5⟩,k6⟩:=k
     obtain⟨_,_,_,_,_,_,_,⟨ys,m1,_⟩,_⟩:=rr.os id _ hi
     have hxy:∃ zs,SlRel (C.V w' (obs.set id (regO g (.cur s2 g2)) ++ obs') ρ2) false .byte zs s2/\i<=zs.length:=by
      refine⟨ys,m1.mono hV,?_⟩
      obtain⟨_,_,e1,_⟩:=m1
      obtain⟨_,_,e2,_⟩:=k4
      rw [e1]at e2
      injection e2 with _ e3 _
      rw [e3];exact k5
     exact⟨b,t,i,h,k1,k2,k3,hxy,k6⟩
    | bag d2 g2=>exact BagRel.fresh (congrFun hP .pr) hH hF ht k
   ·rw [h4]
    exact(rr.os id o h3).kept0 hV hext (fun b hfp hS=>h1 (rr.dis id i0 o _ b h3 hi hfp hS))
   ·rw [h3]
    have k:=r'.os (id - obs.length+1) o (by simpa using h2)
    cases o with
    | dead=>trivial
    | arr e2 ys g2 n2=>
     obtain⟨cs,k1,k2,k3⟩:=k
     have hfo:freshE e2=true:=by
      have:=alT.1 hf _ (List.mem_of_getElem? h2)
      simpa [freshO] using this
     exact⟨cs,by have:B.tid e2=C.tid e2:=congrFun hP e2;rw [<- this];exact k1,k2.fresh hH hF ht hfo,k3⟩
    | mat hs2 rows2 g2 n2=>exact ORel.mat_tid (tid:=B.tid) (congrFun hP .lrow) (congrFun hP .int) k
    | gm D2 F2 hs2 g2 n2=>have:=alT.1 hf _ (List.mem_of_getElem? h2);simp [freshO]at this
    | mp _ l2 g2=>exact k
    | ap _ _ _ _ _=>have:=alT.1 hf _ (List.mem_of_getElem? h2);simp [freshO]at this
    | cur _ _=>have:=alT.1 hf _ (List.mem_of_getElem? h2);simp [freshO]at this
    | bag _ _=>have:=alT.1 hf _ (List.mem_of_getElem? h2);simp [freshO]at this
  ·have low:∀ k o3,obs'[k]? = some o3->fpo (ρ' (k+1)) o3 b->∀ id o4,obs[id]? = some o4->fpo (ρ id) o4 b->id≠i0->False:=by
    intro k o3 h1 h2 id o4 h3 h4 h5
    rcases ho' b ⟨k+1,o3,by simpa using h1,h2⟩with h | h
    ·have:=(rr.os id o4 h3).lt h4;omega
    ·exact h5 (rr.dis id i0 o4 _ b h3 hi h4 h)
   rcases get2 i o hi' with⟨rfl,rfl,h3⟩ | ⟨h1,h2,h3,h4⟩ | ⟨h1,h2,h3⟩<;>rcases get2 j o2 hj' with⟨rfl,rfl,k3⟩ | ⟨k1,k2,k3,k4⟩ | ⟨k1,k2,k3⟩
   ·rfl
   ·rw [h3]at bi;rw [k4]at bj
    rcases hreg' b bi with h | h
    ·have:=(rr.os j o2 k3).lt bj;omega
    ·exact absurd (rr.dis j i o2 _ b k3 hi bj h) k1
   ·rw [h3]at bi;rw [k3]at bj
    have:=r'.dis 0 (j - obs.length+1) o' o2 b rfl (by simpa using k2) (hreg b bi) bj
    omega
   ·rw [h4]at bi;rw [k3]at bj
    rcases hreg' b bj with h | h
    ·have:=(rr.os i o h3).lt bi;omega
    ·exact absurd (rr.dis i j o _ b h3 hi bi h) h1
   ·rw [h4]at bi;rw [k4]at bj
    exact rr.dis i j o o2 b h3 k3 bi bj
   ·rw [h4]at bi;rw [k3]at bj
    exact(low _ o2 k2 bj i o h3 bi h1).elim
   ·rw [h3]at bi;rw [k3]at bj
    have:=r'.dis (i - obs.length+1) 0 o o' b (by simpa using h2) rfl bi (hreg b bj)
    omega
   ·rw [h3]at bi;rw [k4]at bj
    exact(low _ o h2 bi j o2 k3 bj k1).elim
   ·rw [h3]at bi;rw [k3]at bj
    have:=r'.dis (i - obs.length+1) (j - obs.length+1) o o2 b (by simpa using h2) (by simpa using k2) bi bj
    omega
  ·rcases split b hb' with⟨id,o,h1,h2,h3⟩ | h | ⟨k,o,h1,h2⟩
   ·exact rr.own b ⟨id,o,h2,h3⟩
   ·exact(hreg' b h).elim (fun h=>.inl (Nat.le_trans rr.grow h)) (fun h=>rr.own b (hMown b h))
   ·exact(ho' b ⟨k+1,o,by simpa using h1,h2⟩).elim (fun h=>.inl (Nat.le_trans rr.grow h)) (fun h=>rr.own b (hMown b h))
  ·have hnS:¬fpo (ρ i0) o b:=fun k=>by
    rcases rr.own b (hMown b k)with h | h
    ·omega
    ·exact hM' h
   rw [hext.block b (Nat.lt_of_lt_of_le hb' rr.grow) hnS]
   exact rr.kept b hb' hM'
 have hgen0:genOf (obs.set i0 (regO g o') ++ obs') i0=(regO g o').gen:=by
  unfold genOf
  rw [List.getElem?_append_left (by rw [hset];exact hi0),List.getElem?_set_self hi0];rfl
 refine⟨ρ2,⟨hwr,hV,by simp,fun id c' hid hc=>?_⟩,fun x v hfx hx=>?_⟩
 ·by_cases hii:id=i0
  ·subst hii
   rw [hgen0]at hc
   cases o' with
   | ap _ _ _ _ _=>exact hb.elim
   | dead=>simp [regO,O.gen]at hc
   | arr e2 ys g2 n2=>
    simp [regO,O.gen]at hc
    subst hc
    refine⟨g,by unfold genOf;rw [hi];exact hog,?_⟩
    by_cases hg2:g2=0
    ·refine .inl ⟨by omega,?_⟩
     show ρ2 id=ρ id
     simp only [ρ2,hi0,if_true]
     exact hb.2 hg2
    ·exact .inr om
   | mat hs2 rows2 g2 n2=>
    simp [regO,O.gen]at hc
    subst hc
    have hg2:g2=0:=hb.1
    refine⟨g,by unfold genOf;rw [hi];exact hog,.inl ⟨by omega,?_⟩⟩
    show ρ2 id=ρ id
    simp only [ρ2,hi0,if_true]
    exact hb.2.1
   | gm D2 F2 hs2 g2 n2=>
    simp [regO,O.gen]at hc
    subst hc
    have hg2:g2=0:=hb.1
    refine⟨g,by unfold genOf;rw [hi];exact hog,.inl ⟨by omega,?_⟩⟩
    show ρ2 id=ρ id
    simp only [ρ2,hi0,if_true]
    exact hb.2.1
   | mp _ l2 g2=>
    simp [regO,O.gen]at hc
    subst hc
    have hg2:g2=0:=hb.1
    refine⟨g,by unfold genOf;rw [hi];exact hog,.inl ⟨by omega,?_⟩⟩
    show ρ2 id=ρ id
    simp only [ρ2,hi0,if_true]
    exact hb.2.1
   | cur _ g2=>
    simp [regO,O.gen]at hc
    subst hc
    have hg2:g2=0:=hb.1
    refine⟨g,by unfold genOf;rw [hi];exact hog,.inl ⟨by omega,?_⟩⟩
    show ρ2 id=ρ id
    simp only [ρ2,hi0,if_true]
    exact hb.2.1
   | bag d2 g2=>
    simp [regO,O.gen]at hc
    subst hc
    refine⟨g,by unfold genOf;rw [hi];exact hog,?_⟩
    by_cases hg2:g2=0
    ·refine .inl ⟨by omega,?_⟩
     show ρ2 id=ρ id
     simp only [ρ2,hi0,if_true]
     exact hb hg2
    ·exact .inr om
  ·unfold genOf at hc
   rw [List.getElem?_append_left (by rw [hset];exact hid),List.getElem?_set_ne (Ne.symm hii)]at hc
   exact⟨c',hc,.inl ⟨rfl,by simp [ρ2,hid,hii]⟩⟩
 ·cases x with
  | junk=>trivial
  | int k n=>exact hx
  | bool b=>exact hx
  | str s=>exact hx
  | sl f e xs=>
   simp [freshAV]at hfx
   obtain⟨rfl,hfe⟩:=hfx
   exact SlRel.fresh hH hF ht hfe hx
  | lr l xs=>exact LRowRel.fresh hH hF ht hx
  | vec xs=>exact hx
  | nils=>exact hx
  | own id g1=>
   match id with
   | 0=>
    refine⟨by simp;omega,fun c hc=>?_⟩
    rw [hgen0]at hc
    have e0:ρ2 i0=ρ' 0:=by simp only [ρ2,hi0,if_true]
    cases o' with
    | ap _ _ _ _ _=>exact hb.elim
    | dead=>simp [regO,O.gen]at hc
    | arr e2 ys g2 n2=>
     simp [regO,O.gen]at hc
     have h3:=hx.2 g2 rfl
     refine⟨by omega,fun hh=>?_⟩
     rw [e0]
     exact h3.2 om
    | mat hs2 rows2 g2 n2=>
     simp [regO,O.gen]at hc
     have h3:=hx.2 g2 rfl
     refine⟨by omega,fun hh=>?_⟩
     rw [e0]
     exact h3.2 om
    | gm D2 F2 hs2 g2 n2=>
     simp [regO,O.gen]at hc
     have h3:=hx.2 g2 rfl
     refine⟨by omega,fun hh=>?_⟩
     rw [e0]
     exact h3.2 om
    | mp _ l2 g2=>
     simp [regO,O.gen]at hc
     have h3:=hx.2 g2 rfl
     refine⟨by omega,fun hh=>?_⟩
     rw [e0]
     exact h3.2 om
    | cur _ g2=>
     simp [regO,O.gen]at hc
     have h3:=hx.2 g2 rfl
     refine⟨by omega,fun hh=>?_⟩
     rw [e0]
     exact h3.2 om
    | bag _ g2=>
     simp [regO,O.gen]at hc
     have h3:=hx.2 g2 rfl
     refine⟨by omega,fun hh=>?_⟩
     rw [e0]
     exact h3.2 om
   | k+1=>
    refine⟨by have:=hx.1;simp at this ⊢;omega,fun c hc=>?_⟩
    have e1:genOf (obs.set i0 (regO g o') ++ obs') (obs.length+k)=genOf (o' :: obs') (k+1):=by
     unfold genOf;rw [List.getElem?_append_right (by rw [hset];omega),hset];simp
    rw [e1]at hc
    have h3:=hx.2 c hc
    have e2:ρ2 (obs.length+k)=ρ' (k+1):=by
     show(if obs.length+k < obs.length then(if obs.length+k=i0 then ρ' 0 else ρ (obs.length+k))else ρ' (obs.length+k - obs.length+1))=ρ' (k+1)
     rw [if_neg om,Nat.add_sub_cancel_left]
    rw [e2]
    exact h3
  | elt id g s k=>simp [freshAV]at hfx
  | asl id g=>simp [freshAV]at hfx
  | relt f e d=>simp [freshAV]at hfx
  | hdr h n=>simp [freshAV]at hfx
  | emp b=>simp [freshAV]at hfx
  | fn f=>exact hx
  | hp q k=>simp [freshAV]at hfx
  | lenv n=>simp [freshAV]at hfx
  | clo f e d=>simp [freshAV]at hfx
  | mv b=>simp [freshAV]at hfx
  | prv d=>simp [freshAV]at hfx
  | clo3 f a b c=>simp [freshAV]at hfx
end Go.Aw
namespace Go.Aw
open Go
def argOkM (obs:List O) (i0 g:Nat):(actual formal:AV)->Prop
 | x,.own 0 0=>x=.own i0 g
 | .own id g',.sl false e xs=>id≠i0/\argOk obs (.own id g') (.sl false e xs)
 | x,y=>argOk obs x y
def argsOkM (obs:List O) (i0 g:Nat):List AV->List AV->Prop
 | [],[]=>True
 | x :: l,y :: r=>argOkM obs i0 g x y/\argsOkM obs i0 g l r
 | _,_=>False
section
variable {B C:Ctx} {obs:List O} {w:World} {ρ:Nat->Value} {L:Nat->Prop} {i0 g:Nat} {o o0:O}
theorem lent_vis {b:Nat} (h:¬fpo (ρ i0) o0 b):((B.lentB w L o0 (ρ i0)).V w [o0] (fun _=>ρ i0)).H b=w.heap[b]?:=by
 have hn:¬Own [o0] (fun _=>ρ i0) b:=by
  rintro⟨id,o,ho,hf⟩
  cases id with
  | zero=>simp at ho;subst ho;exact h hf
  | succ id=>simp at ho
 simp only [Ctx.V,mask,if_neg hn]
theorem cell_of_heap {V:Vw} {a:Addr} {v:Value} (hH:V.H a.block=w.heap[a.block]?) (h:w.cell? a=some v):V.cell a=some v:=by
 simp only [Vw.cell,hH]
 unfold World.cell? at h
 cases hb:w.heap[a.block]? with
 | none=>rw [hb]at h;simp at h
 | some o=>rw [hb]at h;cases o<;>simp at h ⊢;exact h
theorem lent_sub (hT:B.tid=C.tid) (hi:obs[i0]? = some o) (hfo:∀ b,fpo (ρ i0) o0 b->fpo (ρ i0) o b) (hL:L=C.seen obs ρ):(C.V w obs ρ).sub ((B.lentB w L o0 (ρ i0)).V w [o0] (fun _=>ρ i0)) where
 H:=fun b x h=>by
  obtain⟨hn,hx⟩:=H_vis h
  rw [lent_vis fun hb=>hn ⟨i0,_,hi,hfo _ hb⟩]
  exact hx
 Fr:=fun b x h hf=>.inr (by rw [hL];exact⟨hf,(H_vis h).1⟩)
 ti:=by show B.tid .int=C.tid .int;rw [hT]
theorem mat_to {V V':Vw} {tid:E->TypeId} {e':E} {rows:List (List Int)} {zs:List e'.D} {v:Value} {hs:List (Option Nat)} {g':Nat} {nn:Bool} (he:e'=.row false) (hc:convV e' (.row false) rows zs)
  (hV:∀ b,fpo v (.mat hs rows g' nn) b->∀ a x,a.block=b->w.cell? a=some x->V'.cell a=some x) (k:ORel tid w V v (.mat hs rows g' nn)):SlRel V' false e' zs v:=by
 have k0:=mat_rows (V':=⟨fun b=>w.heap[b]?,fun _=>True,V'.ti⟩) (fun a x h=>by
  unfold World.cell? at h
  simp only [Vw.cell]
  cases hb:w.heap[a.block]? with
  | none=>rw [hb]at h;simp at h
  | some o=>rw [hb]at h;cases o<;>simp at h ⊢;exact h) k
 subst he
 have hz:zs=rows:=hc
 subst hz
 have toW:∀ {a:Addr} {x:Value},(⟨fun b=>w.heap[b]?,fun _=>True,V'.ti⟩:Vw).cell a=some x->w.cell? a=some x:=by
  intro a x h
  simp only [Vw.cell]at h
  unfold World.cell?
  cases hb:w.heap[a.block]? with
  | none=>rw [hb]at h;simp at h
  | some o=>rw [hb]at h;cases o<;>simp at h ⊢;exact h
 obtain⟨base,cap,hv,h1,h2,hx⟩:=k0
 obtain⟨cs,k1,k2,k3,_⟩:=k
 have hcl:cs.length=zs.length:=by have:=k1.1;omega
 refine⟨base,cap,hv,h1,h2,fun i hi=>?_⟩
 obtain⟨a,u,ha,_,hr,hcell⟩:=hx i hi
 have hob:fpo v (.mat hs zs g' nn) a.block:=.inl (by rw [hv,ha];rfl)
 have hca:∀ j,j < 1->V'.cell (a.add (i*1+j))=u.cells[j]?:=by
  intro j hj
  have h3:=hcell j hj
  have hone:=RowRel.oneCell hr
  rw [cells_oneCell hone]at h3 ⊢
  have:j=0:=by omega
  subst this
  exact hV _ hob _ _ (add_block _ _) (toW h3)
 refine⟨a,u,ha,by simp,?_,hca⟩
 have hu:u=cs[i]:=by
  have h3:=hcell 0 (by simp [E.size])
  rw [cells_oneCell (RowRel.oneCell hr)]at h3
  have h4:=toW h3
  rcases k1.2 with⟨hv2,hz2⟩ | ⟨b,cap2,cur,hv2,_⟩
  ·omega
  ·rw [hv2]at hv
   have hab:a=⟨b,0,none⟩:=by
    have:=congrArg (fun x=>match x with | Value.slice p _ _=>p | _=>none) hv
    simp at this
    rw [ha]at this
    exact(Option.some.inj this).symm
   have h5:=k1.cells (g:=b) (by rw [hv2];rfl) i cs[i] (by simp)
   rw [hab]at h4
   simp only [E.size,Nat.mul_one,Nat.add_zero]at h4
   rw [h5]at h4
   simpa using h4.symm
 have hm:=k3 i hs[i] zs[i] cs[i] (by simp) (by simp) (by simp)
 obtain⟨rb,rc,rv,r1,r2,rx⟩:=hr
 refine⟨rb,rc,rv,r1,r2,fun q hq=>?_⟩
 obtain⟨ra,hra,_,hrc⟩:=rx q hq
 refine⟨ra,hra,by simp,?_⟩
 cases hh:hs[i] with
 | none=>
  rw [hh]at hm
  rw [hm.2]at hq
  simp at hq
 | some h=>
  rw [hh,<- hu]at hm
  obtain⟨h6,_⟩:=hm
  rw [rv]at h6
  have hblk:ra.block=hdB h:=by
   have:=congrArg (fun x=>match x with | Value.slice p _ _=>p | _=>none) h6
   simp at this
   rw [hra]at this
   exact congrArg Addr.block (Option.some.inj this)
  refine hV (hdB h) (.inr ⟨h,by rw [<- hh];simp,rfl⟩) _ _ (by rw [add_block];exact hblk) (toW hrc)
theorem argOkM_sound (hT:B.tid=C.tid) (rr:WRel C obs w ρ) (hi:obs[i0]? = some o) (hog:o.gen=some g) (hog0:o0.gen=some 0) (hfo:∀ b,fpo (ρ i0) o0 b->fpo (ρ i0) o b) (hL:L=C.seen obs ρ) {x y:AV} {v:Value} (h:argOkM obs i0 g x y) (hx:AVRel (C.V w obs ρ) obs ρ x v) :
  AVRel ((B.lentB w L o0 (ρ i0)).V w [o0] (fun _=>ρ i0)) [o0] (fun _=>ρ i0) y v:=by
 have hs:=lent_sub (w:=w) hT hi hfo hL
 have plain:argOk obs x y->(∀ id g' e xs,x=.own id g'->y≠.sl false e xs)->AVRel ((B.lentB w L o0 (ρ i0)).V w [o0] (fun _=>ρ i0)) [o0] (fun _=>ρ i0) y v:=by
  intro h hne
  unfold argOk at h
  split at h
  ·subst h;exact hx
  ·subst h;exact hx
  ·subst h;exact hx
  ·subst h;exact hx
  ·subst h;exact hx
  ·subst h;exact hx
  ·split at h
   ·exact(SlRel.conv h (SlRel.sub hs hx)).weaken
   ·exact(SlRel.conv h (LRowRel.toRow (LRowRel.sub hs hx)).toSl).weaken
   ·subst h
    exact⟨none,0,hx,by simp,by simp,fun i hi=>by simp at hi⟩
   ·subst h
    obtain⟨a,c,hv,hc,_⟩:=hx
    exact emp_rel hv hc
   ·exact absurd rfl (hne _ _ _ _ rfl)
   ·exact h.elim
  ·split at h
   ·exact SlRel.conv h (SlRel.sub hs hx)
   ·exact SlRel.conv h (LRowRel.toRow (LRowRel.sub hs hx)).toSl
   ·subst h
    exact⟨none,0,hx,by simp,by simp,fun i hi=>by simp at hi⟩
   ·exact h.elim
  ·subst h;exact LRowRel.sub hs hx
  ·subst h
   obtain⟨ad,u,hv,hf,hel,hcl⟩:=hx
   obtain⟨k1,k2⟩:=cells_sub hs hel hcl
   exact⟨ad,u,hv,fun _=>k2 (hf rfl),hel.sub hs,k1⟩
  ·subst h
   obtain⟨ad,u,hv,hf,hel,hcl⟩:=hx
   obtain⟨k1,k2⟩:=cells_sub hs hel hcl
   exact⟨ad,u,hv,k2 hf,hel.sub hs,k1⟩
  ·subst h;exact hx
  ·exact h.elim
 unfold argOkM at h
 split at h
 ·subst h
  refine⟨by simp,fun c hc=>⟨nz0 _,fun _=>?_⟩⟩
  exact(hx.2 g (by unfold genOf;rw [hi];exact hog)).2 rfl
 ·rename_i id g' e2 ys
  obtain⟨hne,h⟩:=h
  simp only [argOk]at h
  split at h
  ·rename_i ho
   obtain⟨hg,hc⟩:=h
   subst hg
   obtain⟨hv,cs,hown,henc,_,_⟩:=own_arr rr ho hx
   refine own_sl (fun b hb a x hab hax=>cell_of_heap (lent_vis fun k=>hne ?_) hax) hc hown (henc.sub hs)
   rw [hab]at k
   exact rr.dis _ _ _ _ b ho hi (by rw [<- hv];exact hb) (hfo _ k)
  ·rename_i ho
   obtain⟨hg,he,hc⟩:=h
   subst hg
   obtain⟨hv,hor⟩:=own_mat rr ho hx
   refine mat_to he hc (fun b hb a x hab hax=>cell_of_heap (lent_vis fun k=>hne ?_) hax) hor
   rw [hab]at k
   exact rr.dis _ _ _ _ b ho hi (by rw [<- hv];exact hb) (hfo _ k)
  ·exact h.elim
 ·rename_i h1 h2
  exact plain h fun id g' e xs hx' hy=>h2 id g' e xs hx' hy
theorem argsOkM_sound (hT:B.tid=C.tid) (rr:WRel C obs w ρ) (hi:obs[i0]? = some o) (hog:o.gen=some g) (hog0:o0.gen=some 0) (hfo:∀ b,fpo (ρ i0) o0 b->fpo (ρ i0) o b) (hL:L=C.seen obs ρ):∀ {l r:List AV} {vs:List Value},argsOkM obs i0 g l r->vs.length=l.length ->
  (∀(i:Nat) (x:AV) (v:Value),l[i]? = some x->vs[i]? = some v->AVRel (C.V w obs ρ) obs ρ x v) ->
  vs.length=r.length/\∀(i:Nat) (x:AV) (v:Value),r[i]? = some x->vs[i]? = some v->AVRel ((B.lentB w L o0 (ρ i0)).V w [o0] (fun _=>ρ i0)) [o0] (fun _=>ρ i0) x v
 | [],[],vs,_,hl,_=>⟨hl,fun i x v h=>by simp at h⟩
 | x :: l,y :: r,vs,h,hl,ha=>by
  cases vs with
  | nil=>simp at hl
  | cons v vs=>
   obtain⟨h1,h2⟩:=argsOkM_sound (vs:=vs) hT rr hi hog hog0 hfo hL h.2 (by simpa using hl) (fun i x v hx hv=>ha (i+1) x v (by simpa using hx) (by simpa using hv))
   refine⟨by simp [h1],fun i x' v' hx' hv'=>?_⟩
   cases i with
   | zero=>simp at hx' hv';subst hx' hv';exact argOkM_sound hT rr hi hog hog0 hfo hL h.1 (ha 0 x v rfl rfl)
   | succ i=>exact h2 i x' v' (by simpa using hx') (by simpa using hv')
 | [],_ :: _,_,h,_,_=>h.elim
 | _ :: _,[],_,h,_,_=>h.elim
end
def resM (i0 g n:Nat):List AV->Sl
 | [x]=>.v (shiftM i0 g n x)
 | l=>.t (l.map (shiftM i0 g n))
theorem oAt_lt {obs:List O} {i:Nat} {o:O} {g:Nat} (ho:oAt obs i=o) (hg:o.gen=some g):obs[i]? = some o:=by
 have hid:i < obs.length:=by
  rcases Nat.lt_or_ge i obs.length with h | h
  ·exact h
  ·rw [oAt_eq,geN h]at ho;subst ho;simp [O.gen]at hg
 rw [oAt_get hid,ho]
theorem FunO.callX {B C:Ctx} [DrLe B C] (hP:B.P=C.P) (hT:B.tid=C.tid) {f:FuncId} {args0:List AV} {o0:O} {post:List AV->List O->Prop} (h:FunO B f args0 o0 post) {obs:List O} {args:List AV} (i0 g:Nat) {o:O}
  (ho:oAt obs i0=o) (hog:o.gen=some g) (hog0:o0.gen=some 0) (hfo:∀ v b,fpo v o0 b↔fpo v o b) (hor:∀ w V V' v,V.sub V'->ORel C.tid w V v o->ORel B.tid w V' v o0) (ha:argsOkM obs i0 g args args0) (hcu:∀ s,o0=.cur s 0->o=.cur s g)
  {K:Sl->List O->Prop} (hk:∀ rs o' obs',post rs (o' :: obs')->K (resM i0 g obs.length rs) (oSet obs i0 (regO g o') ++ obs')):ACall C obs f args fun x o=>Later (K x o):=by
 have hi:obs[i0]? = some o:=oAt_lt ho hog
 refine⟨fun vs w=>by rw [<- hP];exact h.1 vs w,fun w ρ vs rr hl hx=>?_⟩
 obtain⟨h1,h2⟩:=argsOkM_sound (B:=B) (o0:=o0) hT rr hi hog hog0 (fun b=>(hfo _ b).1) rfl ha hl hx
 have hstart:WRel (B.lentB w (C.seen obs ρ) o0 (ρ i0)) [o0] w (fun _=>ρ i0):=by
  refine⟨fun id o hh=>?_,fun i j o o' b hi' hj' _ _=>?_,fun b ⟨id,o,hh,hf⟩=>?_,rfl,rfl,rfl,Nat.le_refl _,fun _=>Nat.le_refl _,fun _ _ _=>rfl,?_⟩
  ·cases id with
   | zero=>
    simp at hh;subst hh
    exact hor _ _ _ _ (lent_sub hT hi (fun b=>(hfo _ b).1) rfl) (rr.os i0 _ hi)
   | succ id=>simp at hh
  ·cases i with
   | zero=>
    cases j with
    | zero=>rfl
    | succ j=>simp at hj'
   | succ i=>simp at hi'
  ·cases id with
   | zero=>simp at hh;subst hh;exact .inr hf
   | succ id=>simp at hh
  ·show Laid B.P w _
   rw [hP]
   exact rr.laid.up (fun _ _ _=>rfl) fun b _ k hf=>k ⟨i0,o,hi,(hfo _ b).1 hf⟩
 rw [<- hP]
 refine(h.2 w (C.seen obs ρ) (ρ i0) vs hstart h1 h2).mono fun en w' ⟨us,hen,rs,o',obs',ρ',hp,hul,hu,hw',hf1,hf2,hb⟩=>?_
 obtain⟨ρ2,hst,hav⟩:=joinM hT (fun _ h=>h) rr hi hog (hfo _) hcu hw' hf2 hb
 rw [<- oSet_eq]at hst hav
 refine⟨pack us,hen,resM i0 g obs.length rs,oSet obs i0 (regO g o') ++ obs',ρ2,hst,?_,hk rs o' obs' hp⟩
 have each:∀(i:Nat) (x:AV) (v:Value),rs[i]? = some x->us[i]? = some v->AVRel (C.V w' (oSet obs i0 (regO g o') ++ obs') ρ2) (oSet obs i0 (regO g o') ++ obs') ρ2 (shiftM i0 g obs.length x) v:=fun i x v hx hv=>
  hav x v (alT.1 hf1 _ (List.mem_of_getElem? hx)) (hu i x v hx hv)
 match rs,us,hul with
 | [],[],_=>exact⟨[],rfl,rfl,by simp⟩
 | [x],[u],_=>exact each 0 x u rfl rfl
 | x :: y :: l,u :: u2 :: us,hul=>
  refine⟨u :: u2 :: us,by simp [pack],by simpa using hul,fun i a b ha hb=>?_⟩
  rw [List.getElem?_map,Option.map_eq_some_iff]at ha
  obtain⟨z,hz,rfl⟩:=ha
  exact each i z b hz hb
theorem FunM.call {B C:Ctx} [DrLe B C] (hP:B.P=C.P) (hT:B.tid=C.tid) {f:FuncId} {args0:List AV} {e:E} {xs:List e.D} {nn:Bool} {post:List AV->List O->Prop} (h:FunM B f args0 e xs nn post) {obs:List O} {args:List AV} (i0 g:Nat) {nn':Bool}
  (ho:oAt obs i0=.arr e xs g nn') (hnn:nn=true->nn'=true) (he:freshE e=true) (ha:argsOkM obs i0 g args args0)
  {K:Sl->List O->Prop} (hk:∀ rs o' obs',post rs (o' :: obs')->K (resM i0 g obs.length rs) (oSet obs i0 (regO g o') ++ obs')):ACall C obs f args fun x o=>Later (K x o):=
 FunO.callX hP hT h i0 g ho rfl rfl (fun _ _=>Iff.rfl) (fun w V V' v hs ⟨cs,k1,k2,k3,k4⟩=>⟨cs,by have:B.tid e=C.tid e:=congrFun hT e;rw [this];exact k1,k2.sub hs,fun k=>k3 (hnn k),k4⟩) ha (fun _ h=>by cases h) hk
theorem FunO.callCur {B C:Ctx} [DrLe B C] (hP:B.P=C.P) (hT:B.tid=C.tid) {f:FuncId} {args0:List AV} {s:Value} {post:List AV->List O->Prop} (h:FunO B f args0 (.cur s 0) post) {obs:List O} {args:List AV} (i0 g:Nat)
  (ho:oAt obs i0=.cur s g) (ha:argsOkM obs i0 g args args0)
  {K:Sl->List O->Prop} (hk:∀ rs o' obs',post rs (o' :: obs')->K (resM i0 g obs.length rs) (oSet obs i0 (regO g o') ++ obs')):ACall C obs f args fun x o=>Later (K x o):=
 FunO.callX hP hT h i0 g ho rfl rfl (fun _ _=>Iff.rfl) (fun w V V' v hs ⟨b,t,i,h,k1,k2,k3,⟨xs,k4,k5⟩,k6⟩=>⟨b,t,i,h,k1,k2,k3,⟨xs,SlRel.sub hs k4,k5⟩,k6⟩) ha (fun _ h=>by cases h;rfl) hk
theorem FunO.callCurD {B C:Ctx} [DrLe B C] (hP:B.P=C.P) (hT:B.tid=C.tid) {f:FuncId} {args0:List AV} {s:Value} {post:List AV->List O->Prop} (h:FunO B f args0 (.cur s 0) post) {obs:List O} {args:List AV} (i0 g:Nat)
  (ho:oAt obs i0=.cur s g) (hpost:∀ rs o,post rs o->o=[.cur s 0]) (ha:argsOkM obs i0 g args args0)
  {K:Sl->List O->Prop} (hk:∀ rs,post rs [.cur s 0]->K (resM i0 g obs.length rs) obs):ACall C obs f args fun x o=>Keeps obs o/\Later (K x o):=
 FunO.callCur hP hT h i0 g ho ha (K:=fun x o=>Keeps obs o/\K x o) (fun rs o' obs' hp=>by
  have e:=hpost _ _ hp
  injection e with e1 e2
  subst e1 e2
  have e3:oSet obs i0 (regO g (.cur s 0)) ++ []=obs:=by
   rw [List.append_nil,oSet_eq]
   have hl:=oAt_lt ho (g:=g) rfl
   apply List.ext_getElem?
   intro j
   by_cases hj:i0=j
   ·subst hj;rw [List.getElem?_set_self (geS.1 hl).1,hl];rfl
   ·rw [List.getElem?_set_ne hj]
  rw [e3]
  exact⟨Keeps.refl _,hk _ hp⟩)
theorem FunO.callBag {B C:Ctx} [DrLe B C] (hP:B.P=C.P) (hT:B.tid=C.tid) {f:FuncId} {args0:List AV} {d:BagD} {post:List AV->List O->Prop} (h:FunO B f args0 (.bag d 0) post) {obs:List O} {args:List AV} (i0 g:Nat)
  (ho:oAt obs i0=.bag d g) (ha:argsOkM obs i0 g args args0)
  {K:Sl->List O->Prop} (hk:∀ rs o' obs',post rs (o' :: obs')->K (resM i0 g obs.length rs) (oSet obs i0 (regO g o') ++ obs')):ACall C obs f args fun x o=>Later (K x o):=
 FunO.callX hP hT h i0 g ho rfl rfl (fun _ _=>Iff.rfl) (fun w V V' v hs k=>BagRel.sub (congrFun hT .pr).symm hs k) ha (fun _ h=>by cases h) hk
theorem argsOkM_nil (obs:List O) (i0 g:Nat):argsOkM obs i0 g [] []=True:=rfl
theorem argsOkM_cons (obs:List O) (i0 g:Nat) (x y:AV) (l r:List AV):argsOkM obs i0 g (x :: l) (y :: r)=(argOkM obs i0 g x y/\argsOkM obs i0 g l r):=rfl
theorem argOkM_own (obs:List O) (i0 g:Nat) (x:AV):argOkM obs i0 g x (.own 0 0)=(x=.own i0 g):=by cases x<;>rfl
theorem argOkM_int (obs:List O) (i0 g:Nat) (x:AV) (k:IntKind) (n:Int):argOkM obs i0 g x (.int k n)=(x=.int k n):=by cases x<;>rfl
theorem argOkM_bool (obs:List O) (i0 g:Nat) (x:AV) (n:Bool):argOkM obs i0 g x (.bool n)=(x=.bool n):=by cases x<;>rfl
theorem argOkM_sl (obs:List O) (i0 g:Nat) (f:Bool) (e e':E) (xs:List e.D) (ys:List e'.D):argOkM obs i0 g (.sl f e' ys) (.sl false e xs)=convV e e' ys xs:=rfl
theorem argOkM_lr (obs:List O) (i0 g:Nat) (e:E) (xs:List e.D) (l:Nat) (ys:List Int):argOkM obs i0 g (.lr l ys) (.sl false e xs)=convV e .int ys xs:=rfl
theorem argOkM_osl (obs:List O) (i0 g id g':Nat) (e:E) (xs:List e.D):argOkM obs i0 g (.own id g') (.sl false e xs)=(id≠i0/\argO g' e xs (oAt obs id)):=by rw [<- argOk_own];rfl
theorem regO_arr (g g':Nat) (e:E) (xs:List e.D) (nn:Bool):regO g (.arr e xs g' nn)=.arr e xs (g+g') nn:=rfl
theorem regO_mat (g g':Nat) (hs:List (Option Nat)) (rows:List (List Int)) (nn:Bool):regO g (.mat hs rows g' nn)=.mat hs rows (g+g') nn:=rfl
theorem regO_bag (g g':Nat) (d:BagD):regO g (.bag d g')=.bag d (g+g'):=rfl
theorem regO_cur (g g':Nat) (s:Value):regO g (.cur s g')=.cur s (g+g'):=rfl
theorem regO_dead (g:Nat):regO g .dead=.dead:=rfl
theorem resM_one (i0 g n:Nat) (x:AV):resM i0 g n [x]=.v (shiftM i0 g n x):=rfl
theorem resM_zero (i0 g n:Nat):resM i0 g n []=.t []:=rfl
theorem resM_two (i0 g n:Nat) (x y:AV):resM i0 g n [x,y]=.t [shiftM i0 g n x,shiftM i0 g n y]:=rfl
theorem shiftM_own (i0 g n g1:Nat):shiftM i0 g n (.own 0 g1)=.own i0 (g+g1):=rfl
theorem shiftM_own1 (i0 g n g1:Nat):shiftM i0 g n (.own 1 g1)=.own (n+0) g1:=rfl
theorem shiftM_int (i0 g n:Nat) (k:IntKind) (x:Int):shiftM i0 g n (.int k x)=.int k x:=rfl
theorem shiftM_bool (i0 g n:Nat) (x:Bool):shiftM i0 g n (.bool x)=.bool x:=rfl
theorem shiftM_str (i0 g n:Nat) (x:List UInt8):shiftM i0 g n (.str x)=.str x:=rfl
theorem shiftM_nils (i0 g n:Nat):shiftM i0 g n .nils=.nils:=rfl
theorem AW0:type_of% @AZ/\type_of% @argsOkM_nil/\type_of% @argsOkM_cons/\type_of% @argOkM_own/\type_of% @argOkM_int/\type_of% @argOkM_bool/\type_of% @argOkM_sl/\type_of% @argOkM_lr/\type_of% @argOkM_osl/\type_of% @regO_arr/\type_of% @regO_dead /\
  type_of% @resM_one/\type_of% @resM_zero/\type_of% @resM_two/\type_of% @shiftM_own/\type_of% @shiftM_own1/\type_of% @shiftM_int/\type_of% @shiftM_bool/\type_of% @shiftM_str/\type_of% @shiftM_nils/\(∀ n:Nat,n+0=n)/\type_of% @inN_some/\type_of% @inN_none/\(∀ p:Prop,(False->p)=True):=by
 refine⟨AZ,argsOkM_nil,argsOkM_cons,argOkM_own,argOkM_int,argOkM_bool,argOkM_sl,argOkM_lr,argOkM_osl,regO_arr,regO_dead,resM_one,resM_zero,resM_two,shiftM_own,shiftM_own1,shiftM_int,shiftM_bool,shiftM_str,shiftM_nils,fun _=>rfl,inN_some,inN_none,fun _=>by simp⟩
theorem AW:type_of% @AW0/\type_of% @X_copy/\type_of% @copyV_own/\type_of% @Q_cpO/\type_of% @Q_cpE/\type_of% @Q_lenM/\type_of% @Q_idxM/\type_of% @Q_loadM/\type_of% @Q_st_own/\type_of% @Q_storeM/\type_of% @Q_stR/\type_of% @Q_stM/\type_of% @S_all0/\type_of% @argO_mat/\type_of% @regO_mat:=
 ⟨AW0,X_copy,copyV_own,Q_cpO,Q_cpE,Q_lenM,Q_idxM,Q_loadM,Q_st_own,Q_storeM,Q_stR,Q_stM,S_all0,argO_mat,regO_mat⟩
end Go.Aw
namespace Go.Aw
open Go Go.ChangeShapes Go.WideShapes Go.ChangeAt Go.RowKit Go.Deep
section
variable {H:Type} {enc:TypeId×Value->H} {P:Program}
theorem trodAll_below (hl:laidOutB P=true) {W W':World} (hb:Below W.heap.size W W'):∀ {ts:List TypeId} {vs:List Value} {ds:List (DataW H)} {ps:List MemPlace},ts.all (fun t=>P.readableRec t && decide (t < P.types.size))=true ->
  DataW.TrodAll enc P W 0 (fun _=>true) true ts vs ds ps->(∀ x∈ps,x.block < W.heap.size)->DataW.TrodAll enc P W' 0 (fun b=>decide (b < W.heap.size)) true ts vs ds ps
 | [],vs,ds,ps,_,h,_=>by
  obtain⟨rfl,rfl,rfl⟩:=trodAll_nil h
  exact trodAll_mk0
 | t :: ts,vs,ds,ps,hr,h,hlt=>by
  simp only [List.all_cons,bAnd,dtE]at hr
  obtain⟨v,vs',d,ds',p,q,rfl,rfl,rfl,hd,hrest⟩:=trodAll_cons h
  exact trodAll_cons_mk (Below.trod hl hr.1.1 hr.1.2 hd hb fun x hx=>hlt x (List.mem_append_left _ hx)) (trodAll_below hl hb hr.2 hrest fun x hx=>hlt x (List.mem_append_right _ hx))
variable {B:Ctx} {W:World}
theorem cell_bare' {a:Addr} {v:Value} (h:W.cell? a=some v):((B.bare W).V W [] (fun _=>undef)).cell a=some v:=cell_bare h
theorem arg_bytes {t e:TypeId} {v:Value} {d:DataW H} {p:List MemPlace} {base:Nat} (ht:P.underlying t=some (.slice e)) (he:P.underlying e=some (.int .u8)) (hc:P.cellsOf e=1)
  (hval:Value.okWide P W .any base t v) (h:DataW.Trod enc P W 0 (fun _=>true) true t v d p) :
  ∃ xs:List Int,(∀ n∈xs,(Lit.int .u8 n).wf=true)/\AVRel ((B.bare W).V W [] (fun _=>undef)) [] (fun _=>undef) (.sl false .byte xs) v:=by
 obtain⟨a0,len,cap,rfl⟩:=okWide_slice ht hval
 obtain⟨fuel,hf⟩:=h
 rcases open_ints ht he hc hf with⟨hcs,hx⟩ | ⟨a,len',cap',zs,hcs,_,hl,hm,hz,hx,hcell,hwz⟩
 ·simp [Value.cells]at hcs
  obtain⟨rfl,rfl,rfl⟩:=hcs
  exact⟨[],by simp,none,0,rfl,by simp,by simp,fun i hi=>by simp at hi⟩
 ·simp [Value.cells]at hcs
  obtain⟨rfl,rfl,rfl⟩:=hcs
  simp only [if_true]at hz
  have hlen:(zs.take len).length=len:=by simp;omega
  refine⟨zs.take len,fun n hn=>hwz n (List.mem_of_mem_take hn),some a,cap,by rw [hlen],by omega,hm,fun i hi=>⟨a,.int .u8 (zs.take len)[i],rfl,by simp,rfl,fun j hj=>?_⟩⟩
  simp only [E.size]at hj
  have hj0:j=0:=by omega
  subst hj0
  have h1:=hcell i om
  simp only [E.size,Nat.mul_one,Nat.add_zero]
  rw [cell_bare' h1]
  have:i < zs.length:=by omega
  simp [Value.cells,List.getD,this]
theorem FunA.law {f:FuncId} {args:List AV} (h:FunA B f args fun rs _=>rs=[.bool true]) {vs:List Value} (hl:vs.length=args.length)
  (ha:∀(i:Nat) (x:AV) (v:Value),args[i]? = some x->vs[i]? = some v->AVRel ((B.bare W).V W [] (fun _=>undef)) [] (fun _=>undef) x v)
  (hG:Laid B.P W (fun _=>False):=by exact⟨fun g hg=>nomatch ((show B.P.globalNamed tabN=none by kernel_rfl).symm.trans hg),fun g hg=>nomatch ((show B.P.globalNamed maxN=none by kernel_rfl).symm.trans hg)⟩) :
  Calls B.P f vs.toArray W fun e W'=>e=.returned (.bool true)/\Below W.heap.size W W':=by
 refine(h.2 W (fun _=>False) vs hG hl ha).mono fun e W' ⟨us,he,xs,obs',ρ',hp,hul,hu,hw,_,_⟩=>?_
 subst hp
 match us,hul with
 | [u],_=>
  have:u=.bool true:=hu 0 (.bool true) u rfl rfl
  subst this
  exact⟨he,hw.os0,hw.tape,hw.output,hw.grow,fun k hk=>hw.kept k hk (fun m=>m)⟩
theorem args1 {V:Vw} {x:AV} {v:Value} (h:AVRel V [] (fun _=>undef) x v):∀(i:Nat) (y:AV) (u:Value),[x][i]? = some y->[v][i]? = some u->AVRel V [] (fun _=>undef) y u:=by
 intro i y u hy hu
 match i,hy,hu with
 | 0,hy,hu=>simp at hy hu;subst hy hu;exact h
end
end Go.Aw
namespace Go.Aw
open Go
theorem FunA.callG {B C:Ctx} [DrLe B C] (hP:B.P=C.P) (hT:B.tid=C.tid) {f:FuncId} {args0:List AV} {x:AV} (h:FunA B f args0 (fun rs o=>rs=[x]/\o=[])) (hx:∀ n,shiftAV n x=x) {obs:List O} {args:List AV} {ex:Bool} (ha:ex=true->argsOk obs args args0)
  {K:AV->Prop} (hk:K x):CallG C obs f args ex fun y=>Later (K y):=
 ⟨x,fun he=>FunA.call hP hT h (ha he) fun rs o ⟨h1,h2⟩=>by subst h1 h2;exact⟨by simp [resSl,hx],by simp⟩,hk⟩
def consO (s:Nat):Option (Bool×Sl)->List (Nat×Bool×Sl)->List (Nat×Bool×Sl)
 | some x,l=>(s,x) :: l
 | none,l=>l
def keepF (fr:List (Nat×Bool×Sl)):List Nat->List (Nat×Bool×Sl)
 | []=>[]
 | s :: ks=>consO s (look s fr) (keepF fr ks)
theorem keepF_sub (fr:List (Nat×Bool×Sl)):∀ ks:List Nat,subF fr (keepF fr ks)
 | []=>trivial
 | s :: ks=>by
  simp only [keepF]
  cases h:look s fr with
  | none=>exact keepF_sub fr ks
  | some x=>exact⟨h,keepF_sub fr ks⟩
theorem Run.keep {C:Ctx} {k:List Item} (ks:List Nat) {n:Nat} {fr:List (Nat×Bool×Sl)} {obs:List O} (h:Run C k ⟨n,keepF fr ks,obs⟩):Run C k ⟨n,fr,obs⟩:=Run.le (Le.sub rfl (keepF_sub fr ks)) h
theorem consO_some (s:Nat) (x:Bool×Sl) (l:List (Nat×Bool×Sl)):consO s (some x) l=(s,x) :: l:=rfl
theorem consO_none (s:Nat) (l:List (Nat×Bool×Sl)):consO s none l=l:=rfl
theorem keepF_nil (fr:List (Nat×Bool×Sl)):keepF fr []=[]:=rfl
theorem keepF_cons (fr:List (Nat×Bool×Sl)) (s:Nat) (ks:List Nat):keepF fr (s :: ks)=consO s (look s fr) (keepF fr ks):=rfl
theorem AK:type_of% @consO_some/\type_of% @consO_none/\type_of% @keepF_nil/\type_of% @keepF_cons/\type_of% @look_nil/\type_of% @look_cons/\(∀(α:Type) (a b:α),(bif true then a else b)=a)/\(∀(α:Type) (a b:α),(bif false then a else b)=b):=
 ⟨consO_some,consO_none,keepF_nil,keepF_cons,look_nil,look_cons,fun _ _ _=>rfl,fun _ _ _=>rfl⟩
end Go.Aw
namespace Go.Aw
open Go
def idAV (n:Nat):AV->Bool
 | .own id _=>decide (id < n)
 | .elt id _ _ _=>decide (id < n)
 | .asl id _=>decide (id < n)
 | _=>true
def idSl (n:Nat):Sl->Bool
 | .v x=>idAV n x
 | .t l=>l.all (idAV n)
def idFr (n:Nat):List (Nat×Bool×Sl)->Bool
 | []=>true
 | p :: r=>idSl n p.2.2 && idFr n r
theorem idFr_look {n:Nat}:∀ {fr:List (Nat×Bool×Sl)},idFr n fr=true->∀ {s:Nat} {ex:Bool} {x:Sl},look s fr=some (ex,x)->idSl n x=true
 | [],_,s,ex,x,h=>by simp [look]at h
 | (t,ey,y) :: r,hs,s,ex,x,h=>by
  simp only [idFr,bAnd]at hs
  simp only [look]at h
  split at h
  ·cases h;exact hs.1
  ·exact idFr_look hs.2 h
theorem AVRel.cut {V V':Vw} {obs rest:List O} {ρ:Nat->Value} (hV:V.le V') {x:AV} {v:Value} (hi:idAV obs.length x=true) (h:AVRel V (obs ++ rest) ρ x v):AVRel V' obs ρ x v:=by
 have hg:∀ id,id < obs.length->genOf (obs ++ rest) id=genOf obs id:=fun id hid=>by
  unfold genOf;rw [List.getElem?_append_left hid]
 cases x with
 | junk=>trivial
 | int k n=>exact h
 | bool b=>exact h
 | str s=>exact h
 | sl f e xs=>exact SlRel.mono hV h
 | lr l xs=>exact LRowRel.mono hV h
 | vec xs=>exact h
 | nils=>exact h
 | own id g=>
  have hid:id < obs.length:=by simpa [idAV] using hi
  exact⟨hid,fun c hc=>h.2 c (by rw [hg id hid];exact hc)⟩
 | elt id g s k=>
  have hid:id < obs.length:=by simpa [idAV] using hi
  exact⟨hid,fun c hc=>h.2 c (by rw [hg id hid];exact hc)⟩
 | asl id g=>
  have hid:id < obs.length:=by simpa [idAV] using hi
  exact⟨hid,fun c hc=>h.2 c (by rw [hg id hid];exact hc)⟩
 | relt f e d=>
  obtain⟨a,u,hv,hf,hr,hc⟩:=h
  refine⟨a,u,hv,fun k=>hV.Fr _ (hf k),hr.mono hV,fun j hj=>?_⟩
  have hsz:=hr.cells.1
  have h3:=hc j hj
  rw [Array.getElem?_eq_getElem om]at h3 ⊢
  exact hV.cell h3
 | hdr h' n=>exact h
 | hp h' n=>exact h
 | emp b=>exact h
 | lenv b=>exact h
 | mv b=>exact h
 | prv d=>exact(show ElRel _ .pr d _ from h).mono hV
 | clo3 f a b c=>exact h
 | clo f e d=>
  obtain⟨a,u,hv,hf,hr,hc⟩:=h
  refine⟨a,u,hv,hV.Fr _ hf,hr.mono hV,fun j hj=>?_⟩
  have hsz:=hr.cells.1
  have h3:=hc j hj
  rw [Array.getElem?_eq_getElem om]at h3 ⊢
  exact hV.cell h3
 | fn f=>exact h
theorem Le.cut {C:Ctx} {n:Nat} {fr fr':List (Nat×Bool×Sl)} {obs obs':List O} (rest:List O) (hp:C.pin.length<=obs'.length) (ho:obs=obs' ++ rest) (h:subF fr fr') (hi:idFr obs'.length fr'=true) :
  Le C ⟨n,fr,obs⟩ ⟨n,fr',obs'⟩:=by
 subst ho
 intro a w ρ r
 have hown:∀ b,Own obs' ρ b->Own (obs' ++ rest) ρ b:=by
  rintro b ⟨id,o,ho,hb⟩
  exact⟨id,o,by rw [List.getElem?_append_left (geS.1 ho).1];exact ho,hb⟩
 have hle:(C.V w (obs' ++ rest) ρ).le (C.V w obs' ρ):=by
  refine⟨fun b o hb=>?_,fun _ hb=>hb,rfl⟩
  simp only [Ctx.V,mask]at hb ⊢
  split at hb
  ·cases hb
  ·rename_i hnn
   rw [if_neg (fun k=>hnn (hown b k))]
   exact hb
 have up:∀ id o,obs'[id]? = some o->(obs' ++ rest)[id]? = some o:=fun id o ho=>by rw [List.getElem?_append_left (geS.1 ho).1];exact ho
 have hw:WRel C obs' w ρ:=⟨fun id o ho=>(r.w.os id o (up id o ho)).kept hle (Ext.refl (fun _=>False) w) (fun _ _ k=>k),fun i j o o' b hi hj bi bj=>r.w.dis i j o o' b (up i o hi) (up j o' hj) bi bj,
  fun b hb=>r.w.own b (hown b hb),r.w.os0,r.w.tape,r.w.output,r.w.grow,r.w.drawn,r.w.kept,r.w.gl⟩
 refine⟨ρ,r.defers,r.size,fun s ex x hl=>?_,hw,fun j v hj=>?_⟩
 ·obtain⟨k1,k2⟩:=r.fr s ex x (subF_look h hl)
  refine⟨fun he=>?_,k2⟩
  have hid:=idFr_look hi hl
  have k:=k1 he
  cases x with
  | v x=>exact AVRel.cut hle hid k
  | t l=>
   obtain⟨vs,q1,q2,q3⟩:=k
   refine⟨vs,q1,q2,fun i x y hx hy=>AVRel.cut hle ?_ (q3 i x y hx hy)⟩
   exact alT.1 hid _ (List.mem_of_getElem? hx)
 ·have hlt:=(geS.1 hj).1
  obtain⟨k1,k2⟩:=r.pin j v hj
  refine⟨by show j < obs'.length;omega,fun hg=>k2 ?_⟩
  unfold genOf at hg ⊢
  rw [List.getElem?_append_left om]
  exact hg
theorem Le.cut0 {C:Ctx} (hp:C.pin=[]) {n:Nat} {fr fr':List (Nat×Bool×Sl)} {obs obs':List O} (rest:List O) (ho:obs=obs' ++ rest) (h:subF fr fr') (hi:idFr obs'.length fr'=true) :
  Le C ⟨n,fr,obs⟩ ⟨n,fr',obs'⟩:=Le.cut rest (by rw [hp];simp) ho h hi
end Go.Aw
