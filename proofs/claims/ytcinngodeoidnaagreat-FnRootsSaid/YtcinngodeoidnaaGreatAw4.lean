/- The walk through a region, operation by operation. -/
import Derived.Test.YtcinngodeoidnaaGreatAw3
import Derived.Laws.BytesString
import Derived.Laws.BytesArg
import Derived.Orders
set_option linter.unusedVariables false
set_option linter.unusedSimpArgs false
namespace Go.Aw
open Go
def pickV (σ:St) (c a b:Operand):Res:=
 match σ.ev c,σ.ev a,σ.ev b with
 | .bool t,.bool x,.bool y=>.ok ((t=true->σ.has a)/\(t=false->σ.has b)) (.bool (bif t then x else y)) σ.obs
 | _,_,_=>.bad
def unV (op:UnOp) (x:AV) (obs:List O):Res:=
 match op,x with
 | .neg,.int k n=>.ok True (.int k (k.wrap (0 - n))) obs
 | .not,.bool b=>.ok True (.bool !b) obs
 | _,_=>.bad
def maxV (big:Bool) (x y:AV) (obs:List O):Res:=
 match x,y with
 | .int k a,.int _ b=>.ok True (.int k (if big then(if b > a then b else a) else(if b < a then b else a))) obs
 | _,_=>.bad
def exV (σ:St) (x:Operand) (i:Nat):Res:=
 match x with
 | .tmp t=>match look t σ.fr with
  | some (true,.t l)=>match l[i]? with
   | some v=>.ok True v σ.obs
   | none=>.bad
  | _=>.bad
 | _=>.bad
def binS (C:Ctx) (σ:St) (op:BinOp) (t:TypeId) (x y:Operand):Res:=
 match σ.ev x,C.bt t,C.Γ t with
 | .bool _,some .bool,_=>binV op (σ.ev x) (σ.ev y) σ.obs
 | .bool _,_,_=>.bad
 | .int _ _,_,_=>binV op (σ.ev x) (σ.ev y) σ.obs
 | .str _,_,_=>binV op (σ.ev x) (σ.ev y) σ.obs
 | _,_,some _=>binV op (σ.ev x) (σ.ev y) σ.obs
 | _,_,none=>.bad
def lenS (C:Ctx) (σ:St) (t:TypeId) (x:Operand):Res:=
 match σ.ev x,C.bt t,C.Γ t with
 | .str _,some .str,_=>lenV (σ.ev x) σ.obs
 | .str _,_,_=>.bad
 | _,_,some _=>lenV (σ.ev x) σ.obs
 | _,_,none=>.bad
def sliceS (C:Ctx) (σ:St) (t:TypeId) (x:Operand) (lo hi:Option Operand):Res:=
 match σ.ev x,C.bt t,C.Γ t with
 | .str _,some .str,_=>sliceV (σ.ev x) (lo.map σ.ev) (hi.map σ.ev) σ.obs
 | .sl _ e' _,_,some e=>if e'.size=e.size then sliceV (σ.ev x) (lo.map σ.ev) (hi.map σ.ev) σ.obs else .bad
 | .lr _ _,_,some e=>if e.size=1 then sliceV (σ.ev x) (lo.map σ.ev) (hi.map σ.ev) σ.obs else .bad
 | _,_,_=>.bad
def bytesOf (xs:List Int):List UInt8:=xs.map fun n=>UInt8.ofNat n.toNat
def cnvV (bs bd:Option BT) (gs:Option E) (x:AV) (obs:List O):Res:=
 match bd,x with
 | some (.int k'),.int _ n=>if bs.isSome then .ok True (.int k' (k'.wrap n)) obs else .bad
 | some .str,.sl _ .byte xs=>if gs=some .byte then .ok True (.str (bytesOf xs)) obs else .bad
 | some .str,.own id g=>match obs[id]? with
  | some (.arr .byte xs g' _)=>if g=g'/\gs=some .byte then .ok True (.str (bytesOf xs)) obs else .bad
  | _=>.bad
 | _,_=>.bad
def sixV (b:Option BT) (x i:AV) (obs:List O):Res:=
 match b,x,i with
 | some .str,.str s,.int _ n=>.ok (0<=n/\n < s.length) (.int .u8 (s.getD n.toNat 0).toNat) obs
 | _,_,_=>.bad
def mkfV (f:Nat) (l l2:List AV) (obs:List O):Res:=
 match l,l2 with
 | [],[.relt true e d]=>.ok True (.clo f e d) obs
 | [],[.hp a 0,.hp b 0,.hp c 0]=>.ok True (.clo3 f a b c) obs
 | _,_=>.bad
def astep (C:Ctx) (σ:St):Op->Res
 | .move x=>.ok (σ.has x) (σ.ev x) σ.obs
 | .assign x=>.ok (σ.has x) (σ.ev x) σ.obs
 | .pick c a b=>pickV σ c a b
 | .binOp op t x y _=>binS C σ op t x y
 | .unOp op _ x=>unV op (σ.ev x) σ.obs
 | .load t x=>loadX (C.bt t) (C.Γ t) (C.mt t) (C.sc t) (C.wt t) (C.pt t) (σ.ev x) σ.obs
 | .store t x y=>match σ.ev y with
  | .str _=>.bad
  | _=>storeX (C.Γ t) (C.mt t) (C.sc t) (C.wt t) (C.pt t) (σ.ev x) (σ.ev y) σ.obs
 | .indexAddr t x i=>idxS (C.Γ t) (C.wt t) (σ.ev x) (σ.ev i) σ.obs
 | .alloc t=>allocX (C.Γ t) (C.mt t) (C.wt t) (t == C.tid .lrow) (C.pt t) σ.obs
 | .makeFunc (.func f) first caps=>mkfV f (first.toList.map σ.ev) (caps.toList.map σ.ev) σ.obs
 | .box t x=>boxX (C.bt t) (C.wt t) (C.pt t) (σ.ev x) σ.obs
 | .build t parts=>bldV (C.wt t) (C.pt t) (parts.toList.map fun p=>(p.1,σ.ev p.2)) σ.obs
 | .fieldAddr t x k=>fldV (C.pt t) (σ.ev x) k σ.obs
 | .makeSlice t l c=>makeV (C.Γ t) (σ.ev l) (σ.ev c) σ.obs
 | .buildSlice t n parts=>buildV (C.Γ t) n (parts.toList.map fun p=>(p.1,σ.ev p.2)) σ.obs
 | .slice t x lo hi none=>sliceT (C.wt t) (sliceS C σ t x lo hi) (σ.ev x) (lo.map σ.ev) (hi.map σ.ev) σ.obs
 | .slice t x lo hi (some m)=>slice3V (C.Γ t) (σ.ev x) (lo.map σ.ev) (hi.map σ.ev) (σ.ev m) σ.obs
 | .extract x i=>exV σ x i
 | .convert s d x=>cnvV (C.bt s) (C.bt d) (C.Γ s) (σ.ev x) σ.obs
 | .index t x i=>sixV (C.bt t) (σ.ev x) (σ.ev i) σ.obs
 | .lookup t x i false=>mlookX (C.mt t) (σ.ev x) (σ.ev i) σ.obs
 | .mapUpdate t x i y=>mupdX (C.mt t) (σ.ev x) (σ.ev i) (σ.ev y) σ.obs
 | .insert t x i y=>mupdX (C.mt t) (σ.ev x) (σ.ev i) (σ.ev y) σ.obs
 | .makeMap t none=>mmakeV (C.mt t) σ.obs
 | .call c=>match c with
  | { callee:=.builtin b,args,argTypes }=>match b,args.toList,argTypes.toList with
   | .len,[x],[t]=>lenS C σ t x
   | .max,[x,y],_=>maxV true (σ.ev x) (σ.ev y) σ.obs
   | .min,[x,y],_=>maxV false (σ.ev x) (σ.ev y) σ.obs
   | .append,[x,y],[t,t']=>if t=t' then appendV (C.Γ t) (σ.ev x) (σ.ev y) σ.obs else zapV (C.Γ t) (C.bt t') (σ.ev x) (σ.ev y) σ.obs
   | .copy,[x,y],[t,_]=>copyV (C.Γ t) (σ.ev x) (σ.ev y) σ.obs
   | _,_,_=>.bad
  | _=>.bad
 | _=>.bad
def hasAll (σ:St):Op->Prop
 | .pick c _ _=>σ.has c
 | .extract _ _=>True
 | .binOp _ _ x y _=>σ.has x/\σ.has y
 | .unOp _ _ x=>σ.has x
 | .load _ x=>σ.has x
 | .box _ x=>σ.has x
 | .build _ parts=>∀ p∈parts.toList,σ.has p.2
 | .fieldAddr _ x _=>σ.has x
 | .store _ x y=>σ.has x/\σ.has y
 | .indexAddr _ x y=>σ.has x/\σ.has y
 | .convert _ _ x=>σ.has x
 | .index _ x y=>σ.has x/\σ.has y
 | .lookup _ x y _=>σ.has x/\σ.has y
 | .mapUpdate _ x y z=>σ.has x/\σ.has y/\σ.has z
 | .insert _ x y z=>σ.has x/\σ.has y/\σ.has z
 | .makeSlice _ x y=>σ.has x/\σ.has y
 | .buildSlice _ _ parts=>∀ p∈parts.toList,σ.has p.2
 | .slice _ x lo hi none=>σ.has x/\(∀ y,lo=some y->σ.has y)/\(∀ y,hi=some y->σ.has y)
 | .slice _ x lo hi (some m)=>σ.has x/\(∀ y,lo=some y->σ.has y)/\(∀ y,hi=some y->σ.has y)/\σ.has m
 | .call c=>∀ x∈c.args.toList,σ.has x
 | .makeFunc _ _ caps=>∀ x∈caps.toList,σ.has x
 | _=>True
section sound
variable {C:Ctx}
def OpOk (C:Ctx) (σ:St) (o:Op) (ty:TypeId) (a:Act) (w:World) (ρ:Nat->Value):Prop:=
 (∀ vc r obs',astep C σ o=.ok vc r obs'->hasAll σ o->vc->∃ z w',(∀ d p af g,(execOp a.eval ⟨d,o,ty,p,af,g⟩).run C.P w=.ok (.value z) w')/\NewOk C σ.obs w ρ r obs' z w') /\
 (∀ vc obs',astep C σ o=.skip vc obs'->hasAll σ o->vc->∃ w',(∀ d p af g,(execOp a.eval ⟨d,o,ty,p,af,g⟩).run C.P w=.ok .skip w')/\∃ ρ',Step C w w' σ.obs obs' ρ ρ') /\
 (∀ p r obs',astep C σ o=.all p r obs'->hasAll σ o->∃ z w' l,p l/\(((∀ d p af g,(execOp a.eval ⟨d,o,ty,p,af,g⟩).run C.P w=.ok (.value z) w')/\NewOk C σ.obs w ρ (r l) (obs' l) z w') \/
  ((∀ d p af g,(execOp a.eval ⟨d,o,ty,p,af,g⟩).run C.P w=.ok .skip w')/\r l=.junk/\∃ ρ',Step C w w' σ.obs (obs' l) ρ ρ')))
theorem NewOk.same {obs:List O} {w:World} {ρ:Nat->Value} {r:AV} {z:Value} (rr:WRel C obs w ρ) (h:AVRel (C.V w obs ρ) obs ρ r z):NewOk C obs w ρ r obs z w:=
 ⟨ρ,Step.refl rr,h⟩
theorem OpOk.of_ok {σ:St} {o:Op} {ty:TypeId} {a:Act} {w:World} {ρ:Nat->Value}
  (h:∀ vc r obs',astep C σ o=.ok vc r obs'->hasAll σ o->vc->∃ z w',(∀ d p af g,(execOp a.eval ⟨d,o,ty,p,af,g⟩).run C.P w=.ok (.value z) w')/\NewOk C σ.obs w ρ r obs' z w')
  (h2:∀ vc obs',astep C σ o≠.skip vc obs') (h3:∀ p r obs',astep C σ o≠.all p r obs'):OpOk C σ o ty a w ρ:=
 ⟨h,fun vc obs' k=>absurd k (h2 vc obs'),fun p r obs' k=>absurd k (h3 p r obs')⟩
theorem binV_shape (op:BinOp) (x y:AV) (obs:List O):(∀ vc o,binV op x y obs≠.skip vc o)/\∀ p r o,binV op x y obs≠.all p r o:=by
 unfold binV
 constructor<;>intros<;>(split<;>first | (unfold binI sameK;(repeat' split)<;>simp;done) | ((repeat' split)<;>simp;done))
theorem lenV_shape (x:AV) (obs:List O):(∀ vc o,lenV x obs≠.skip vc o)/\∀ p r o,lenV x obs≠.all p r o:=by
 unfold lenV
 constructor<;>intros<;>(repeat' split)<;>simp
theorem wloadV_shape (x:AV) (obs:List O):(∀ vc o,wloadV x obs≠.skip vc o)/\∀ p r o,wloadV x obs≠.all p r o:=by
 unfold wloadV
 constructor<;>intros<;>(repeat' split)<;>simp
theorem widxV_shape (x i:AV) (obs:List O):(∀ vc o,widxV x i obs≠.skip vc o)/\∀ p r o,widxV x i obs≠.all p r o:=by
 unfold widxV
 constructor<;>intros<;>(repeat' split)<;>simp
theorem wstoreV_shape (x y:AV) (obs:List O):(∀ vc r o,wstoreV x y obs≠.ok vc r o)/\∀ p r o,wstoreV x y obs≠.all p r o:=by
 unfold wstoreV
 constructor<;>intros<;>(repeat' split)<;>simp
theorem wsliceV_shape (x:AV) (lo hi:Option AV) (obs:List O):(∀ vc o,wsliceV x lo hi obs≠.skip vc o)/\∀ p r o,wsliceV x lo hi obs≠.all p r o:=by
 unfold wsliceV
 constructor<;>intros<;>(repeat' split)<;>simp
theorem idxV_shape (e:Option E) (x i:AV) (obs:List O):(∀ vc o,idxV e x i obs≠.skip vc o)/\∀ p r o,idxV e x i obs≠.all p r o:=by
 unfold idxV
 constructor<;>intros<;>(repeat' split)<;>simp
theorem loadV_shape (b:Bool) (x:AV) (obs:List O):(∀ vc o,loadV b x obs≠.skip vc o)/\∀ p r o,loadV b x obs≠.all p r o:=by
 unfold loadV
 constructor<;>intros<;>(repeat' split)<;>simp
theorem storeV_shape (b:Bool) (x y:AV) (obs:List O):∀ vc r o,storeV b x y obs≠.ok vc r o:=by
 unfold storeV
 intros;(repeat' split)<;>simp
theorem loadS_shape (b:Bool) (e:Option E) (x:AV) (obs:List O):(∀ vc o,loadS b e x obs≠.skip vc o)/\∀ p r o,loadS b e x obs≠.all p r o:=by
 cases e with
 | none=>exact loadV_shape b x obs
 | some e=>exact wloadV_shape x obs
theorem idxS_shape (g e:Option E) (x i:AV) (obs:List O):(∀ vc o,idxS g e x i obs≠.skip vc o)/\∀ p r o,idxS g e x i obs≠.all p r o:=by
 cases e with
 | none=>exact idxV_shape g x i obs
 | some e=>exact widxV_shape x i obs
theorem storeS_shape (b:Bool) (e:Option E) (x y:AV) (obs:List O):∀ vc r o,storeS b e x y obs≠.ok vc r o:=by
 cases e with
 | none=>exact storeV_shape b x y obs
 | some e=>exact(wstoreV_shape x y obs).1
theorem loadX_shape (bt:Option BT) (gp:Option E) (mt:Option MT) (sc:Bool) (wt:Option E) (pt:Bool) (x:AV) (obs:List O):(∀ vc o,loadX bt gp mt sc wt pt x obs≠.skip vc o)/\∀ p r o,loadX bt gp mt sc wt pt x obs≠.all p r o:=by
 have old:=fun x=>loadS_shape sc wt x obs
 unfold loadX
 split
 ·cases bagH obs with
  | none=>exact old _
  | some p0=>
   obtain⟨d,g⟩:=p0
   simp only [orBag,bagLoad]
   constructor<;>intros<;>(repeat' split)<;>simp
 ·cases pt
  ·constructor<;>intros<;>simp
  ·simp only [cond_true,pairLoad]
   constructor<;>intros<;>(repeat' split)<;>simp
 ·exact old _
theorem storeX_shape (gp:Option E) (mt:Option MT) (sc:Bool) (wt:Option E) (pt:Bool) (x y:AV) (obs:List O):∀ vc r o,storeX gp mt sc wt pt x y obs≠.ok vc r o:=by
 have old:=fun x y=>storeS_shape sc wt x y obs
 unfold storeX
 split
 ·cases pt
  ·intros;simp
  ·simp only [cond_true,pairStore]
   intros;(repeat' split)<;>simp
 ·split
  ·cases bagH obs with
   | none=>exact old _ _
   | some p0=>
    obtain⟨d,g⟩:=p0
    simp only [orBag,bagStore]
    intros;(repeat' split)<;>simp
  ·exact old _ _
theorem mlookX_shape (mt:Option MT) (x i:AV) (obs:List O):(∀ vc o,mlookX mt x i obs≠.skip vc o)/\∀ p r o,mlookX mt x i obs≠.all p r o:=by
 unfold mlookX mlookV
 split
 ·cases bagH obs with
  | none=>constructor<;>intros<;>simp [orBag]
  | some p0=>
   obtain⟨d,g⟩:=p0
   simp only [orBag,bagLook]
   constructor<;>intros<;>(repeat' split)<;>simp
 ·constructor<;>intros<;>(repeat' split)<;>simp
theorem mupdX_shape (mt:Option MT) (x i y:AV) (obs:List O):(∀ vc r o,mupdX mt x i y obs≠.ok vc r o)/\∀ p r o,mupdX mt x i y obs≠.all p r o:=by
 unfold mupdX mupdV
 split
 ·cases bagH obs with
  | none=>constructor<;>intros<;>simp [orBag]
  | some p0=>
   obtain⟨d,g⟩:=p0
   simp only [orBag,bagUpd]
   constructor<;>intros<;>(repeat' split)<;>simp
 ·constructor<;>intros<;>(repeat' split)<;>simp
theorem bldV_shape (wt:Option E) (pt:Bool) (l:List (Nat×AV)) (obs:List O):(∀ vc o,bldV wt pt l obs≠.skip vc o)/\∀ p r o,bldV wt pt l obs≠.all p r o:=by
 unfold bldV
 constructor<;>intros<;>(repeat' split)<;>simp
theorem fldV_shape (pt:Bool) (x:AV) (k:Nat) (obs:List O):(∀ vc o,fldV pt x k obs≠.skip vc o)/\∀ p r o,fldV pt x k obs≠.all p r o:=by
 unfold fldV
 constructor<;>intros<;>(repeat' split)<;>simp
theorem copyV_shape (e:Option E) (x i:AV) (obs:List O):(∀ vc o,copyV e x i obs≠.skip vc o)/\∀ p r o,copyV e x i obs≠.all p r o:=by
 unfold copyV
 constructor<;>intros<;>(repeat' split)<;>simp
theorem makeV_shape (e:Option E) (x i:AV) (obs:List O):(∀ vc o,makeV e x i obs≠.skip vc o)/\∀ p r o,makeV e x i obs≠.all p r o:=by
 unfold makeV
 constructor<;>intros<;>(repeat' split)<;>simp
theorem buildV_shape (e:Option E) (n:Nat) (l:List (Nat×AV)) (obs:List O):∀ vc o,buildV e n l obs≠.skip vc o:=by
 unfold buildV
 intros;(repeat' split)<;>simp
theorem zapV_shape (e:Option E) (b:Option BT) (x i:AV) (obs:List O):(∀ vc o,zapV e b x i obs≠.skip vc o)/\∀ p r o,zapV e b x i obs≠.all p r o:=by
 unfold zapV
 constructor<;>intros<;>(repeat' split)<;>simp
theorem appendV_shape (e:Option E) (x i:AV) (obs:List O):(∀ vc o,appendV e x i obs≠.skip vc o)/\∀ p r o,appendV e x i obs≠.all p r o:=by
 unfold appendV
 constructor<;>intros<;>(repeat' split)<;>simp
theorem sliceV_shape (x:AV) (lo hi:Option AV) (obs:List O):(∀ vc o,sliceV x lo hi obs≠.skip vc o)/\∀ p r o,sliceV x lo hi obs≠.all p r o:=by
 unfold sliceV
 constructor<;>intros<;>(repeat' split)<;>simp
section
variable {σ:St} {a:Act} {w:World} {ρ:Nat->Value} {ty:TypeId}
theorem ok_move (r:Rel C σ a w ρ) (x:Operand):OpOk C σ (.move x) ty a w ρ:=
 .of_ok (fun vc q o h _ hv=>by
  simp only [astep]at h
  cases h
  exact⟨a.eval x,w,fun _ _ _ _=>rfl,NewOk.same r.w (r.ev hv)⟩) (by simp [astep]) (by simp [astep])
theorem ok_assign (r:Rel C σ a w ρ) (x:Operand):OpOk C σ (.assign x) ty a w ρ:=
 .of_ok (fun vc q o h _ hv=>by
  simp only [astep]at h
  cases h
  exact⟨a.eval x,w,fun _ _ _ _=>rfl,NewOk.same r.w (r.ev hv)⟩) (by simp [astep]) (by simp [astep])
theorem ok_pick (r:Rel C σ a w ρ) (c x y:Operand):OpOk C σ (.pick c x y) ty a w ρ:=by
 refine .of_ok (fun vc q o h hh hv=>?_) (by intro vc o;simp only [astep,pickV];split<;>simp) (by intro p q o;simp only [astep,pickV];split<;>simp)
 simp only [astep,pickV]at h
 split at h
 case h_2=>cases h
 rename_i t bx by' hc hx hy
 cases h
 have h1:=r.ev (x:=c) hh
 rw [hc]at h1
 simp only [AVRel]at h1
 cases t with
 | true=>
  have h2:=r.ev (hv.1 rfl)
  rw [hx]at h2
  exact⟨a.eval x,w,fun _ _ _ _=>by simp [execOp,h1,asBool],NewOk.same r.w (by simpa using h2)⟩
 | false=>
  have h2:=r.ev (hv.2 rfl)
  rw [hy]at h2
  exact⟨a.eval y,w,fun _ _ _ _=>by simp [execOp,h1,asBool],NewOk.same r.w (by simpa using h2)⟩
theorem binS_bin {op:BinOp} {t:TypeId} {x y:Operand}:binS C σ op t x y=.bad\/binS C σ op t x y=binV op (σ.ev x) (σ.ev y) σ.obs:=by
 unfold binS
 split<;>first | exact .inr rfl | exact .inl rfl
theorem ok_bin (hC:C.Ok) (r:Rel C σ a w ρ) (op:BinOp) (t t':TypeId) (x y:Operand):OpOk C σ (.binOp op t x y t') ty a w ρ:=by
 refine .of_ok (fun vc q o h hh hv=>?_) (fun vc o k=>?_) (fun p q o k=>?_)
 ·simp only [astep]at h
  have hb:(∃ b,σ.ev x=.bool b)->C.P.underlying t=some .bool:=by
   rintro⟨b,hb⟩
   unfold binS at h
   rw [hb]at h
   cases ht:C.bt t with
   | none=>rw [ht]at h;simp at h
   | some q=>cases q<;>rw [ht]at h<;>first | exact(hC.bt t _ ht).1 | simp at h
  have hsl:(∀ s,σ.ev x≠.str s)->(∀ b,σ.ev x≠.bool b)->(∀ k n,σ.ev x≠.int k n)->∃ e,C.P.underlying t=some (.slice e):=by
   intro h1 h2 h3
   unfold binS at h
   cases hg:C.Γ t with
   | some e=>exact⟨_,(hC.sl t e hg).1⟩
   | none=>
    rw [hg]at h
    cases hx:σ.ev x<;>rw [hx]at h<;>first | exact absurd hx (h1 _) | exact absurd hx (h2 _) | exact absurd hx (h3 _ _) | (simp at h;done)
  rcases binS_bin (C:=C) (σ:=σ) (op:=op) (t:=t) (x:=x) (y:=y)with k | k
  ·rw [k]at h;cases h
  ·rw [k]at h
   obtain⟨rfl,z,h1,h2⟩:=binV_sound (w:=w) (t:=t) hsl hb (r.ev hh.1) (r.ev hh.2) h hv x y
   refine⟨z,w,fun _ _ _ _=>?_,NewOk.same r.w h1⟩
   have h3:=h2 w
   simp only [execOp]
   rw [Sem.run_bind,h3]
   rfl
 ·simp only [astep]at k
  rcases binS_bin (C:=C) (σ:=σ) (op:=op) (t:=t) (x:=x) (y:=y)with j | j<;>rw [j]at k
  ·cases k
  ·exact(binV_shape _ _ _ _).1 _ _ k
 ·simp only [astep]at k
  rcases binS_bin (C:=C) (σ:=σ) (op:=op) (t:=t) (x:=x) (y:=y)with j | j<;>rw [j]at k
  ·cases k
  ·exact(binV_shape _ _ _ _).2 _ _ _ k
theorem ok_un (r:Rel C σ a w ρ) (op:UnOp) (t:TypeId) (x:Operand):OpOk C σ (.unOp op t x) ty a w ρ:=by
 refine .of_ok (fun vc q o h hh hv=>?_) (by intro vc o;simp only [astep,unV];split<;>simp) (by intro p q o;simp only [astep,unV];split<;>simp)
 simp only [astep,unV]at h
 have hx:=r.ev (x:=x) hh
 split at h
 ·rename_i k n hk
  cases h
  rw [hk]at hx
  simp only [AVRel]at hx
  exact⟨.int k (k.wrap (0 - n)),w,fun _ _ _ _=>by simp [execOp,hx,Op.unary,Op.intArith],NewOk.same r.w rfl⟩
 ·rename_i b hk
  cases h
  rw [hk]at hx
  simp only [AVRel]at hx
  exact⟨.bool !b,w,fun _ _ _ _=>by simp [execOp,hx,Op.unary],NewOk.same r.w rfl⟩
 ·cases h
theorem ok_load (hC:C.Ok) (r:Rel C σ a w ρ) (t:TypeId) (x:Operand):OpOk C σ (.load t x) ty a w ρ:=by
 refine .of_ok (fun vc q o h hh hv=>?_) (fun vc o=>(loadX_shape _ _ _ _ _ _ _ _).1 vc o) (fun p q o=>(loadX_shape _ _ _ _ _ _ _ _).2 p q o)
 obtain⟨rfl,z,h1,h2⟩:=loadX_sound hC r.w (r.ev hh) h hv
 exact⟨z,w,fun _ _ _ _=>by simp [execOp,h2],NewOk.same r.w h1⟩
theorem ok_store (hC:C.Ok) (r:Rel C σ a w ρ) (t:TypeId) (x y:Operand):OpOk C σ (.store t x y) ty a w ρ:=by
 refine⟨fun vc q o h=>?_,fun vc o h hh hv=>?_,fun p q o h hh=>?_⟩
 ·simp only [astep]at h
  split at h
  ·cases h
  ·exact absurd h (storeX_shape _ _ _ _ _ _ _ _ _ _ _)
 ·simp only [astep]at h
  split at h
  ·cases h
  ·rename_i hns
   obtain⟨w',ρ',h1,h2⟩:=storeX_skip hC r.w (r.ev hh.1) (r.ev hh.2) (fun s hs=>absurd hs (hns s)) h hv
   exact⟨w',fun _ _ _ _=>by simp [execOp,h1],ρ',h2⟩
 ·simp only [astep]at h
  split at h
  ·cases h
  ·rename_i hns
   obtain⟨w',l,ρ',h0,h1,h2,h3⟩:=storeX_all hC r.w (r.ev hh.1) (r.ev hh.2) (fun s hs=>absurd hs (hns s)) h
   exact⟨undef,w',l,h0,.inr ⟨fun _ _ _ _=>by simp [execOp,h1],h2,ρ',h3⟩⟩
theorem ok_alloc (hC:C.Ok) (r:Rel C σ a w ρ) (t:TypeId):OpOk C σ (.alloc t) ty a w ρ:=by
 obtain⟨k1,k2,k3⟩:=allocX_sound (t:=t) hC r.w
 refine⟨fun vc q o h hh hv=>?_,fun vc o h=>absurd h (k2 vc o),fun p q o h hh=>?_⟩
 ·obtain⟨z,w',h1,h2⟩:=k1 vc q o h
  have h3:(Instr.alloc t true (.tuple #[])).run C.P w=.ok z w':=h1
  exact⟨z,w',fun _ _ _ _=>by simp [execOp,h3],h2⟩
 ·obtain⟨z,w',l,h0,h1,h2⟩:=k3 p q o h
  have h3:(Instr.alloc t true (.tuple #[])).run C.P w=.ok z w':=h1
  exact⟨z,w',l,h0,.inl ⟨fun _ _ _ _=>by simp [execOp,h3],h2⟩⟩
theorem ok_mkf (r:Rel C σ a w ρ) (fn:Fn) (first caps:Array Operand):OpOk C σ (.makeFunc fn first caps) ty a w ρ:=by
 cases fn with
 | func f=>
  refine .of_ok (fun vc q o h hh hv=>?_) (fun vc o=>by simp only [astep,mkfV];split<;>simp) (fun p q o=>by simp only [astep,mkfV];split<;>simp)
  simp only [astep]at h
  unfold mkfV at h
  split at h
  case h_3=>cases h
  case h_2=>
   rename_i q1 q2 q3 h1 h2
   cases h
   obtain⟨fl⟩:=first
   obtain⟨cl⟩:=caps
   have hf:fl=[]:=by simpa using h1
   subst hf
   match cl,h2 with
   | [x,y,z],h2=>
    simp at h2
    obtain⟨e1,e2,e3⟩:=h2
    have k1:=r.ev (hh x (by simp))
    have k2:=r.ev (hh y (by simp))
    have k3:=r.ev (hh z (by simp))
    rw [e1]at k1
    rw [e2]at k2
    rw [e3]at k3
    refine⟨.func (.func f) #[] #[a.eval x,a.eval y,a.eval z],w,fun _ _ _ _=>?_,NewOk.same r.w ?_⟩
    ·simp [execOp,Instr.makeFunc]
    ·show _=Value.func (.func f) #[] _
     rw [ptr_hp k1,ptr_hp k2,ptr_hp k3]
   | [],h2=>simp at h2
   | [_],h2=>simp at h2
   | [_,_],h2=>simp at h2
   | _ :: _ :: _ :: _ :: _,h2=>simp at h2
  rename_i e d h1 h2
  cases h
  obtain⟨fl⟩:=first
  obtain⟨cl⟩:=caps
  have hf:fl=[]:=by simpa using h1
  subst hf
  obtain⟨x,hx,hxe⟩:∃ x,cl=[x]/\σ.ev x=.relt true e d:=by
   match cl,h2 with
   | [x],h2=>exact⟨x,rfl,by simpa using h2⟩
   | [],h2=>simp at h2
   | _ :: _ :: _,h2=>simp at h2
  subst hx
  have hr:=r.ev (hh x (by simp))
  rw [hxe]at hr
  obtain⟨ad,u,hv1,hfr,hel,hcl⟩:=hr
  refine⟨.func (.func f) #[] #[a.eval x],w,fun _ _ _ _=>?_,NewOk.same r.w ⟨ad,u,by rw [hv1],hfr rfl,hel,hcl⟩⟩
  simp [execOp,Instr.makeFunc]
 | _=>exact .of_ok (fun vc q o h=>by simp [astep]at h) (by simp [astep]) (by simp [astep])
theorem ok_box (hC:C.Ok) (r:Rel C σ a w ρ) (t:TypeId) (x:Operand):OpOk C σ (.box t x) ty a w ρ:=by
 refine⟨fun vc q o h hh hv=>?_,fun vc o h hh=>?_,fun p q o h hh=>?_⟩
 ·obtain⟨z,w',h1,h2⟩:=(boxX_sound (t:=t) hC r.w (r.ev hh)).1 vc q o h
  exact⟨z,w',fun _ _ _ _=>by simp [execOp,h1],h2⟩
 ·exact absurd h ((boxX_sound (t:=t) hC r.w (r.ev hh)).2.1 vc o)
 ·obtain⟨z,w',l,h0,h1,h2⟩:=(boxX_sound (t:=t) hC r.w (r.ev hh)).2.2 p q o h
  exact⟨z,w',l,h0,.inl ⟨fun _ _ _ _=>by simp [execOp,h1],h2⟩⟩
theorem ok_bld (hC:C.Ok) (r:Rel C σ a w ρ) (t:TypeId) (parts:Array (Nat×Operand)):OpOk C σ (.build t parts) ty a w ρ:=by
 refine .of_ok (fun vc q o h hh hv=>?_) (fun vc o=>(bldV_shape _ _ _ _).1 vc o) (fun p q o=>(bldV_shape _ _ _ _).2 p q o)
 obtain⟨rfl,z,h1,h2⟩:=bldV_sound (pv:=parts.map fun p=>(p.1,a.eval p.2)) hC (by simp) (by
  intro i x v hx hv
  simp only [Array.toList_map,List.getElem?_map,Option.map_eq_some_iff]at hx hv
  obtain⟨p,hp,rfl⟩:=hx
  obtain⟨p',hp',rfl⟩:=hv
  rw [hp]at hp'
  cases hp'
  exact⟨rfl,r.ev (hh p (List.mem_of_getElem? hp))⟩) h
 exact⟨z,w,fun _ _ _ _=>by simp [execOp,h2],NewOk.same r.w h1⟩
theorem ok_fld (hC:C.Ok) (r:Rel C σ a w ρ) (t:TypeId) (x:Operand) (k:Nat):OpOk C σ (.fieldAddr t x k) ty a w ρ:=by
 refine .of_ok (fun vc q o h hh hv=>?_) (fun vc o=>(fldV_shape _ _ _ _).1 vc o) (fun p q o=>(fldV_shape _ _ _ _).2 p q o)
 obtain⟨rfl,z,h1,h2⟩:=fldV_sound hC (r.ev hh) h
 exact⟨z,w,fun _ _ _ _=>by simp [execOp,h2],NewOk.same r.w h1⟩
theorem ok_idx (hC:C.Ok) (r:Rel C σ a w ρ) (t:TypeId) (x i:Operand):OpOk C σ (.indexAddr t x i) ty a w ρ:=by
 refine .of_ok (fun vc q o h hh hv=>?_) (fun vc o=>(idxS_shape _ _ _ _ _).1 vc o) (fun p q o=>(idxS_shape _ _ _ _ _).2 p q o)
 simp only [astep]at h
 cases hw:C.wt t with
 | none=>
  rw [hw]at h
  obtain⟨rfl,z,h1,h2⟩:=idxV_sound hC rfl r.w (r.ev hh.1) (r.ev hh.2) h hv
  exact⟨z,w,fun _ _ _ _=>by simp [execOp,h2 w],NewOk.same r.w h1⟩
 | some e=>
  rw [hw]at h
  obtain⟨rfl,z,h1,h2⟩:=widxV_sound hC hw (r.ev hh.1) (r.ev hh.2) h hv
  exact⟨z,w,fun _ _ _ _=>by simp [execOp,h2 w],NewOk.same r.w h1⟩
theorem ok_make (hC:C.Ok) (r:Rel C σ a w ρ) (t:TypeId) (x i:Operand):OpOk C σ (.makeSlice t x i) ty a w ρ:=by
 refine .of_ok (fun vc q o h hh hv=>?_) (fun vc o=>(makeV_shape _ _ _ _).1 vc o) (fun p q o=>(makeV_shape _ _ _ _).2 p q o)
 obtain⟨z,w',ρ',h1,h2,h3⟩:=makeV_sound hC r.w (r.ev hh.1) (r.ev hh.2) h hv
 exact⟨z,w',fun _ _ _ _=>by simp [execOp,h1],ρ',h2,h3⟩
theorem ok_build (hC:C.Ok) (r:Rel C σ a w ρ) (t:TypeId) (n:Nat) (parts:Array (Nat×Operand)):OpOk C σ (.buildSlice t n parts) ty a w ρ:=by
 have key:∀ hh:hasAll σ (.buildSlice t n parts),_:=fun hh=>buildV_sound (t:=t) (n:=n) (parts:=parts.toList.map fun p=>(p.1,σ.ev p.2)) (pv:=parts.map fun p=>(p.1,a.eval p.2)) hC r.w (by simp) (by
  intro i x v hx hv
  simp only [Array.toList_map,List.getElem?_map,Option.map_eq_some_iff]at hx hv
  obtain⟨p,hp,rfl⟩:=hx
  obtain⟨p',hp',rfl⟩:=hv
  rw [hp]at hp'
  cases hp'
  exact⟨rfl,r.ev (hh p (List.mem_of_getElem? hp))⟩)
 refine⟨fun vc q o h hh hv=>?_,fun vc o h=>absurd h (buildV_shape _ _ _ _ vc o),fun p q o h hh=>?_⟩
 ·obtain⟨z,w',h1,h2⟩:=(key hh).1 vc q o h hv
  exact⟨z,w',fun _ _ _ _=>by simp [execOp,h1],h2⟩
 ·obtain⟨z,w',l,hl,h1,h2⟩:=(key hh).2 p q o h
  exact⟨z,w',l,hl,.inl ⟨fun _ _ _ _=>by simp [execOp,h1],h2⟩⟩
theorem sliceS_v {t:TypeId} {x:Operand} {lo hi:Option Operand}:sliceS C σ t x lo hi=.bad\/(sliceS C σ t x lo hi=sliceV (σ.ev x) (lo.map σ.ev) (hi.map σ.ev) σ.obs /\
  ((∃ s,σ.ev x=.str s/\C.bt t=some .str)\/∃ e,C.Γ t=some e/\((∃ f e' xs,σ.ev x=.sl f e' xs/\e'.size=e.size)\/(∃ l xs,σ.ev x=.lr l xs/\e.size=1)))):=by
 unfold sliceS
 split
 ·rename_i s h1 h2;exact .inr ⟨by rw [h1],.inl ⟨s,h1,h2⟩⟩
 ·rename_i f e' xs e h1 h2
  split
  ·rename_i hs;exact .inr ⟨by rw [h1],.inr ⟨e,h2,.inl ⟨f,e',xs,h1,hs⟩⟩⟩
  ·exact .inl rfl
 ·rename_i l xs e h1 h2
  split
  ·rename_i hs;exact .inr ⟨by rw [h1],.inr ⟨e,h2,.inr ⟨l,xs,h1,hs⟩⟩⟩
  ·exact .inl rfl
 ·exact .inl rfl
theorem ok_slice (hC:C.Ok) (r:Rel C σ a w ρ) (t:TypeId) (x:Operand) (lo hi mx:Option Operand):OpOk C σ (.slice t x lo hi mx) ty a w ρ:=by
 cases mx with
 | some m=>
  have hsh:(∀ vc o,slice3V (C.Γ t) (σ.ev x) (lo.map σ.ev) (hi.map σ.ev) (σ.ev m) σ.obs≠.skip vc o)/\∀ p r o,slice3V (C.Γ t) (σ.ev x) (lo.map σ.ev) (hi.map σ.ev) (σ.ev m) σ.obs≠.all p r o:=by
   unfold slice3V
   constructor<;>intros<;>(repeat' split)<;>simp
  refine .of_ok (fun vc q o h hh hv=>?_) (fun vc o=>hsh.1 vc o) (fun p q o=>hsh.2 p q o)
  simp only [astep]at h
  obtain⟨rfl,z,h1,h2⟩:=slice3V_sound (w:=w) (ρ:=ρ) (lv:=lo.map a.eval) (hv:=hi.map a.eval) (mv:=a.eval m) hC r.w (by simp) (by simp) (r.ev hh.1) (r.ev hh.2.2.2)
   (fun y v hy hv'=>by
    cases hi with
    | none=>simp at hy
    | some q=>simp at hy hv';subst hy hv';exact r.ev (hh.2.2.1 q rfl)) h hv
  exact⟨z,w,fun _ _ _ _=>by simp [execOp,h2 w],NewOk.same r.w h1⟩
 | none=>
  have hlo:hasAll σ (.slice t x lo hi none)->∀(y:AV) (v:Value),lo.map σ.ev=some y->lo.map a.eval=some v->AVRel (C.V w σ.obs ρ) σ.obs ρ y v:=fun hh y v hy hv'=>by
   cases lo with
   | none=>simp at hy
   | some q=>simp at hy hv';subst hy hv';exact r.ev (hh.2.1 q rfl)
  have hhi:hasAll σ (.slice t x lo hi none)->∀(y:AV) (v:Value),hi.map σ.ev=some y->hi.map a.eval=some v->AVRel (C.V w σ.obs ρ) σ.obs ρ y v:=fun hh y v hy hv'=>by
   cases hi with
   | none=>simp at hy
   | some q=>simp at hy hv';subst hy hv';exact r.ev (hh.2.2 q rfl)
  cases hw:C.wt t with
  | some e=>
   refine .of_ok (fun vc q o h hh hv=>?_) (fun vc o=>by simp only [astep,hw];exact(wsliceV_shape _ _ _ _).1 vc o) (fun p q o=>by simp only [astep,hw];exact(wsliceV_shape _ _ _ _).2 p q o)
   simp only [astep,hw]at h
   obtain⟨rfl,z,h1,h2⟩:=wsliceV_sound (w:=w) (ρ:=ρ) (lv:=lo.map a.eval) (hv:=hi.map a.eval) hC hw (by simp) (by simp) (r.ev hh.1) (hlo hh) (hhi hh) h hv
   exact⟨z,w,fun _ _ _ _=>by simp [execOp,h2 w],NewOk.same r.w h1⟩
  | none=>
  have hA:astep C σ (.slice t x lo hi none)=sliceS C σ t x lo hi:=by simp only [astep,hw];rfl
  rcases sliceS_v (C:=C) (σ:=σ) (t:=t) (x:=x) (lo:=lo) (hi:=hi)with k | ⟨k,ht⟩
  ·exact .of_ok (fun vc q o h=>by rw [hA,k]at h;cases h) (by rw [hA,k];simp) (by rw [hA,k];simp)
  ·refine .of_ok (fun vc q o h hh hv=>?_) (fun vc o=>by rw [hA,k];exact(sliceV_shape _ _ _ _).1 vc o) (fun p q o=>by rw [hA,k];exact(sliceV_shape _ _ _ _).2 p q o)
   rw [hA,k]at h
   obtain⟨rfl,z,h1,h2⟩:=sliceV_sound (w:=w) (ρ:=ρ) (lv:=lo.map a.eval) (hv:=hi.map a.eval) hC ht (by simp) (by simp) (r.ev hh.1) (hlo hh) (hhi hh) h hv
   exact⟨z,w,fun _ _ _ _=>by simp [execOp,h2 w],NewOk.same r.w h1⟩
theorem ok_extract (r:Rel C σ a w ρ) (x:Operand) (i:Nat):OpOk C σ (.extract x i) ty a w ρ:=by
 refine .of_ok (fun vc q o h hh hv=>?_) (by intro vc o;simp only [astep,exV];(repeat' split)<;>simp) (by intro p q o;simp only [astep,exV];(repeat' split)<;>simp)
 simp only [astep,exV]at h
 split at h
 case h_2=>cases h
 rename_i t
 split at h
 case h_2=>cases h
 rename_i l hl
 split at h
 case h_2=>cases h
 rename_i hv'
 cases h
 obtain⟨vs,h1,h2,h3⟩:=(r.fr t true _ hl).1 rfl
 have hlt:i < vs.length:=by rw [h2];exact(geS.1 hv').1
 refine⟨vs[i],w,fun _ _ _ _=>?_,NewOk.same r.w (h3 i _ vs[i] hv' (by simp))⟩
 have e1:a.eval (.tmp t)=.tuple vs.toArray:=h1
 simp [execOp,e1,Instr.extract,hlt]
theorem lenS_v {t:TypeId} {x:Operand}:lenS C σ t x=.bad\/(lenS C σ t x=lenV (σ.ev x) σ.obs/\(∀ s,σ.ev x=.str s->C.bt t=some .str)/\((∀ s,σ.ev x≠.str s)->∃ e,C.Γ t=some e)):=by
 unfold lenS
 split
 ·rename_i s h1 h2;exact .inr ⟨by rw [h1],fun _ _=>h2,fun k=>absurd h1 (k s)⟩
 ·exact .inl rfl
 ·rename_i e h1 h2 h3
  refine .inr ⟨rfl,fun s hs=>?_,fun _=>⟨e,by assumption⟩⟩
  exact(h2 s hs).elim
 ·exact .inl rfl
theorem ok_builtin (hC:C.Ok) (r:Rel C σ a w ρ) (b:Builtin) (args:Array Operand) (ts:Array TypeId):OpOk C σ (.call ⟨.builtin b,args,ts⟩) ty a w ρ:=by
 have hargs:args=args.toList.toArray:=rfl
 have hts:ts=ts.toList.toArray:=rfl
 have bad:astep C σ (.call ⟨.builtin b,args,ts⟩)=.bad->OpOk C σ (.call ⟨.builtin b,args,ts⟩) ty a w ρ:=fun k=>
  .of_ok (fun vc q o h=>by rw [k]at h;cases h) (by simp [k]) (by simp [k])
 by_cases hb:∃ x t,b=.len/\args.toList=[x]/\ts.toList=[t]
 ·obtain⟨x,t,rfl,h1,h2⟩:=hb
  have ha:astep C σ (.call ⟨.builtin .len,args,ts⟩)=lenS C σ t x:=by simp [astep,h1,h2]
  rcases lenS_v (C:=C) (σ:=σ) (t:=t) (x:=x)with k | ⟨k,k1,k2⟩
  ·exact bad (ha.trans k)
  ·refine .of_ok (fun vc q o h hh hv=>?_) (fun vc o=>by rw [ha,k];exact(lenV_shape _ _).1 vc o) (fun p q o=>by rw [ha,k];exact(lenV_shape _ _).2 p q o)
   rw [ha,k]at h
   have hx:σ.has x:=hh x (by simp [h1])
   obtain⟨rfl,z,h3,h4⟩:=lenV_sound (w:=w) (t:=t) (ty:=ty) (fun s hs=>(hC.bt t _ (k1 s hs)).1) (fun hn=>let ⟨e,he⟩:=k2 hn;⟨_,(hC.sl t e he).1⟩) r.w (r.ev hx) h
   refine⟨z,w,fun _ _ _ _=>?_,NewOk.same r.w h3⟩
   have e1:args=#[x]:=by rw [hargs,h1]
   have e2:ts=#[t]:=by rw [hts,h2]
   subst e1 e2
   simp [execOp,resolve,invoke,builtin,h4 w]
 by_cases hb2:∃ x y,(b=.max\/b=.min)/\args.toList=[x,y]
 ·obtain⟨x,y,hbb,h1⟩:=hb2
  obtain⟨big,hbig⟩:∃ big,astep C σ (.call ⟨.builtin b,args,ts⟩)=maxV big (σ.ev x) (σ.ev y) σ.obs/\b=(if big then .max else .min):=by
   rcases hbb with rfl | rfl
   ·exact⟨true,by simp [astep,h1],rfl⟩
   ·exact⟨false,by simp [astep,h1],rfl⟩
  refine .of_ok (fun vc q o h hh hv=>?_) (fun vc o=>by rw [hbig.1];unfold maxV;split<;>simp) (fun p q o=>by rw [hbig.1];unfold maxV;split<;>simp)
  rw [hbig.1]at h
  have hx:=r.ev (x:=x) (hh x (by simp [h1]))
  have hy:=r.ev (x:=y) (hh y (by simp [h1]))
  unfold maxV at h
  split at h
  case h_2=>cases h
  rename_i k n k' m e1 e2
  cases h
  rw [e1]at hx
  rw [e2]at hy
  simp only [AVRel]at hx hy
  have e3:args=#[x,y]:=by rw [hargs,h1]
  subst e3
  refine⟨_,w,fun _ _ _ _=>?_,NewOk.same r.w rfl⟩
  cases big with
  | true=>simp only [if_true]at hbig;obtain⟨_,rfl⟩:=hbig;simp [execOp,resolve,invoke,builtin,hx,hy,Builtin.max_,Builtin.max2]
  | false=>simp at hbig;obtain⟨_,rfl⟩:=hbig;simp [execOp,resolve,invoke,builtin,hx,hy,Builtin.min_,Builtin.min2]
 by_cases hb3:∃ x y t,b=.append/\args.toList=[x,y]/\ts.toList=[t,t]
 ·obtain⟨x,y,t,rfl,h1,h2⟩:=hb3
  have ha:astep C σ (.call ⟨.builtin .append,args,ts⟩)=appendV (C.Γ t) (σ.ev x) (σ.ev y) σ.obs:=by simp [astep,h1,h2]
  refine .of_ok (fun vc q o h hh hv=>?_) (fun vc o=>by rw [ha];exact(appendV_shape _ _ _ _).1 vc o) (fun p q o=>by rw [ha];exact(appendV_shape _ _ _ _).2 p q o)
  rw [ha]at h
  have hx:=r.ev (x:=x) (hh x (by simp [h1]))
  have hy:=r.ev (x:=y) (hh y (by simp [h1]))
  obtain⟨z,w',ρ',k1,k2,k3⟩:=appendV_sound (ty:=ty) hC r.w hx hy h hv
  refine⟨z,w',fun _ _ _ _=>?_,ρ',k2,k3⟩
  have e1:args=#[x,y]:=by rw [hargs,h1]
  have e2:ts=#[t,t]:=by rw [hts,h2]
  subst e1 e2
  simp [execOp,resolve,invoke,builtin,k1]
 by_cases hb5:∃ x y t t2,b=.append/\args.toList=[x,y]/\ts.toList=[t,t2]/\t≠t2
 ·obtain⟨x,y,t,t2,rfl,h1,h2,hne⟩:=hb5
  have ha:astep C σ (.call ⟨.builtin .append,args,ts⟩)=zapV (C.Γ t) (C.bt t2) (σ.ev x) (σ.ev y) σ.obs:=by simp [astep,h1,h2,hne]
  refine .of_ok (fun vc q o h hh hv=>?_) (fun vc o=>by rw [ha];exact(zapV_shape _ _ _ _ _).1 vc o) (fun p q o=>by rw [ha];exact(zapV_shape _ _ _ _ _).2 p q o)
  rw [ha]at h
  have hx:=r.ev (x:=x) (hh x (by simp [h1]))
  have hy:=r.ev (x:=y) (hh y (by simp [h1]))
  obtain⟨z,w',ρ',k1,k2,k3⟩:=zapV_sound (ty:=ty) hC r.w hx hy h hv
  refine⟨z,w',fun _ _ _ _=>?_,ρ',k2,k3⟩
  have e1:args=#[x,y]:=by rw [hargs,h1]
  have e2:ts=#[t,t2]:=by rw [hts,h2]
  subst e1 e2
  simp [execOp,resolve,invoke,builtin,k1]
 by_cases hb4:∃ x y t t2,b=.copy/\args.toList=[x,y]/\ts.toList=[t,t2]
 ·obtain⟨x,y,t,t2,rfl,h1,h2⟩:=hb4
  have ha:astep C σ (.call ⟨.builtin .copy,args,ts⟩)=copyV (C.Γ t) (σ.ev x) (σ.ev y) σ.obs:=by simp [astep,h1,h2]
  refine .of_ok (fun vc q o h hh hv=>?_) (fun vc o=>by rw [ha];exact(copyV_shape _ _ _ _).1 vc o) (fun p q o=>by rw [ha];exact(copyV_shape _ _ _ _).2 p q o)
  rw [ha]at h
  have hx:=r.ev (x:=x) (hh x (by simp [h1]))
  have hy:=r.ev (x:=y) (hh y (by simp [h1]))
  obtain⟨z,w',k1,k2,k3⟩:=copyV_sound (t2:=t2) (ty:=ty) hC r.w hx hy h
  refine⟨z,w',fun _ _ _ _=>?_,ρ,k2,k3⟩
  have e1:args=#[x,y]:=by rw [hargs,h1]
  have e2:ts=#[t,t2]:=by rw [hts,h2]
  subst e1 e2
  simp [execOp,resolve,invoke,builtin,k1]
 ·apply bad
  simp only [astep]
  split
  ·exact absurd ⟨_,_,rfl,‹_›,‹_›⟩ hb
  ·exact absurd ⟨_,_,.inl rfl,‹_›⟩ hb2
  ·exact absurd ⟨_,_,.inr rfl,‹_›⟩ hb2
  ·split
   ·rename_i h;subst h;exact absurd ⟨_,_,_,rfl,‹_›,‹_›⟩ hb3
   ·rename_i h;exact absurd ⟨_,_,_,_,rfl,‹_›,‹_›,h⟩ hb5
  ·exact absurd ⟨_,_,_,_,rfl,‹_›,‹_›⟩ hb4
  ·rfl
theorem cnvV_shape (bs bd:Option BT) (gs:Option E) (x:AV) (obs:List O):(∀ vc o,cnvV bs bd gs x obs≠.skip vc o)/\∀ p r o,cnvV bs bd gs x obs≠.all p r o:=by
 unfold cnvV
 constructor<;>intros<;>(repeat' split)<;>simp
theorem sixV_shape (b:Option BT) (x i:AV) (obs:List O):(∀ vc o,sixV b x i obs≠.skip vc o)/\∀ p r o,sixV b x i obs≠.all p r o:=by
 unfold sixV
 constructor<;>intros<;>(repeat' split)<;>simp
theorem conv_bytes {P:Program} {w:World} {src e dst:TypeId} (hs:P.underlying src=some (.slice e)) (he:P.underlying e=some (.int .u8)) (hd:P.underlying dst=some .string) {xs:List Int} {base:Option Addr} {cap:Nat}
  (hx:∀ i (_:i < xs.length),∃ a,base=some a/\w.cell? (a.add i)=some (.int .u8 xs[i])):(convert src dst (.slice base xs.length cap)).run P w=.ok (.string ⟨(bytesOf xs).toArray⟩) w:=by
 cases base with
 | none=>
  have h0:xs=[]:=by
   cases xs with
   | nil=>rfl
   | cons y ys=>obtain⟨a,ha,_⟩:=hx 0 (by simp);cases ha
  subst h0
  rw [run_convert_bytes_nil w src e hs he _ _ dst hd]
  rfl
 | some a=>
  have hl:(loadCells a xs.length).run P w=.ok (xs.map (Value.int .u8)).toArray w:=by
   have:=run_loadCells_list (P:=P) w a (xs.map (Value.int .u8)) (fun j v hj=>by
    have hjl:j < xs.length:=by
     rcases Nat.lt_or_ge j xs.length with h | h
     ·exact h
     ·simp [geN (show(xs.map (Value.int .u8)).length<=j by simpa using h)]at hj
    obtain⟨a',ha',hc⟩:=hx j hjl
    cases ha'
    simp [geE hjl]at hj
    subst hj
    exact hc)
   simpa using this
  rw [run_convert_bytes_string w src dst e _ _ cap hs he hd,run_bytesToString w _ _ cap xs hl,foldl_push_bytes]
  simp [ByteArray.empty,ByteArray.emptyWithCapacity,bytesOf]
  rfl
theorem intKind_of {P:Program} {t:TypeId} {k:IntKind} (h:P.underlying t=some (.int k)):P.intKind t=k:=by
 simp [Program.intKind,h]
theorem ok_conv (hC:C.Ok) (r:Rel C σ a w ρ) (s d:TypeId) (x:Operand):OpOk C σ (.convert s d x) ty a w ρ:=by
 refine .of_ok (fun vc q o h hh hv=>?_) (fun vc o=>(cnvV_shape _ _ _ _ _).1 vc o) (fun p q o=>(cnvV_shape _ _ _ _ _).2 p q o)
 have hx:=r.ev (x:=x) hh
 simp only [astep]at h
 unfold cnvV at h
 split at h
 ·rename_i k' k n hd hk
  split at h
  ·rename_i hs
   cases h
   rw [hk]at hx
   simp only [AVRel]at hx
   obtain⟨bs,hbs⟩:=Option.isSome_iff_exists.mp hs
   have h1:=(hC.bt _ _ hbs).1
   have h2:C.P.underlying d=some (.int k'):=(hC.bt _ _ hd).1
   refine⟨.int k' (k'.wrap n),w,fun _ _ _ _=>?_,NewOk.same r.w rfl⟩
   have h3:=run_convert_int (P:=C.P) w s d k n (by rw [h1];rfl) (by rw [intKind_of h2];exact h2)
   rw [intKind_of h2]at h3
   simp [execOp,hx,h3]
  ·cases h
 ·rename_i f xs hd hk
  split at h
  ·rename_i hs
   cases h
   rw [hk]at hx
   obtain⟨base,cap,hv',_,_,hel⟩:=hx
   have h2:C.P.underlying d=some .string:=(hC.bt _ _ hd).1
   refine⟨.string ⟨(bytesOf xs).toArray⟩,w,fun _ _ _ _=>?_,NewOk.same r.w rfl⟩
   have:=conv_bytes (w:=w) (hC.sl s .byte hs).1 (hC.u8 s hs) h2 (xs:=xs) (base:=base) (cap:=cap) (fun i hi=>by
    obtain⟨a,u,ha,_,hu,hc⟩:=hel i hi
    cases hu
    have:=hc 0 (by simp [E.size])
    exact⟨a,ha,V_cell (by simpa [E.size,Value.cells] using this)⟩)
   simp [execOp,hv',this]
  ·cases h
 ·rename_i id g hd hk
  split at h
  ·rename_i xs g' nn ho
   split at h
   ·rename_i hs
    obtain⟨rfl,hs⟩:=hs
    cases h
    rw [hk]at hx
    obtain⟨_,cs,hown,henc,_,_⟩:=own_arr r.w ho hx
    have h2:C.P.underlying d=some .string:=(hC.bt _ _ hd).1
    refine⟨.string ⟨(bytesOf xs).toArray⟩,w,fun _ _ _ _=>?_,NewOk.same r.w rfl⟩
    have key:∃ base cap,a.eval x=.slice base xs.length cap/\∀ i (_:i < xs.length),∃ a,base=some a/\w.cell? (a.add i)=some (.int .u8 xs[i]):=by
     rcases hown.2 with⟨hv',hz⟩ | ⟨b,cap,cur,hv',_⟩
     ·exact⟨none,0,by rw [hz];exact hv',fun i hi=>by omega⟩
     ·refine⟨some ⟨b,0,none⟩,cap,hv',fun i hi=>⟨_,rfl,?_⟩⟩
      obtain⟨u,hu,hcell⟩:=henc.2 i hi
      cases hu
      have h5:=hcell 0 (by simp [E.size])
      have h6:=hown.cells (g:=b) (by rw [hv'];rfl) i (.int .u8 xs[i]) (by simpa [E.size,Value.cells] using h5)
      exact h6
    obtain⟨base,cap,hv',hel⟩:=key
    have:=conv_bytes (w:=w) (hC.sl s .byte hs).1 (hC.u8 s hs) h2 (xs:=xs) (base:=base) (cap:=cap) hel
    simp [execOp,hv',this]
   ·cases h
  ·cases h
 ·cases h
theorem ok_index (hC:C.Ok) (r:Rel C σ a w ρ) (t:TypeId) (x i:Operand):OpOk C σ (.index t x i) ty a w ρ:=by
 refine .of_ok (fun vc q o h hh hv=>?_) (fun vc o=>(sixV_shape _ _ _ _).1 vc o) (fun p q o=>(sixV_shape _ _ _ _).2 p q o)
 have hx:=r.ev (x:=x) hh.1
 have hi:=r.ev (x:=i) hh.2
 simp only [astep]at h
 unfold sixV at h
 split at h
 ·rename_i s k n hb hs hn
  cases h
  rw [hs]at hx
  rw [hn]at hi
  simp only [AVRel]at hx hi
  have h2:C.P.underlying t=some .string:=(hC.bt _ _ hb).1
  have h3:0<=n/\n < ((⟨s.toArray⟩:ByteArray).size:Nat):=by simpa [ByteArray.size] using hv
  refine⟨_,w,fun _ _ _ _=>?_,NewOk.same r.w rfl⟩
  have h4:=run_index_string (P:=C.P) w t ⟨s.toArray⟩ k n h2
  rw [dif_pos h3]at h4
  have h5:((⟨s.toArray⟩:ByteArray)[n.toNat]'om)=s.getD n.toNat 0:=by
   have:n.toNat < s.length:=by omega
   simp [ByteArray.getElem_eq_getElem_data,gdE,this]
  rw [h5]at h4
  simp [execOp,hx,hi,h4]
 ·cases h
theorem mmakeV_shape (mt:Option MT) (obs:List O):(∀ vc o,mmakeV mt obs≠.skip vc o)/\∀ p r o,mmakeV mt obs≠.all p r o:=by
 unfold mmakeV
 constructor<;>intros<;>(repeat' split)<;>simp
theorem ok_lookup (hC:C.Ok) (r:Rel C σ a w ρ) (t:TypeId) (x i:Operand) (b:Bool):OpOk C σ (.lookup t x i b) ty a w ρ:=by
 cases b with
 | true=>exact .of_ok (fun vc q o h=>by simp [astep]at h) (by simp [astep]) (by simp [astep])
 | false=>
  refine .of_ok (fun vc q o h hh hv=>?_) (fun vc o=>(mlookX_shape _ _ _ _).1 vc o) (fun p q o=>(mlookX_shape _ _ _ _).2 p q o)
  obtain⟨rfl,z,h1,h2⟩:=mlookX_sound hC r.w (r.ev hh.1) (r.ev hh.2) h
  exact⟨z,w,fun _ _ _ _=>by simp [execOp,h2],NewOk.same r.w h1⟩
theorem ok_mupd (hC:C.Ok) (r:Rel C σ a w ρ) (t:TypeId) (x i y:Operand):OpOk C σ (.mapUpdate t x i y) ty a w ρ:=by
 refine⟨fun vc q o h=>absurd h ((mupdX_shape _ _ _ _ _).1 vc q o),fun vc o h hh hv=>?_,fun p q o h=>absurd h ((mupdX_shape _ _ _ _ _).2 p q o)⟩
 obtain⟨w',h1,h2⟩:=mupdX_sound hC r.w (r.ev hh.1) (r.ev hh.2.1) (r.ev hh.2.2) h
 exact⟨w',fun _ _ _ _=>by simp [execOp,h1],ρ,h2⟩
theorem ok_insert (hC:C.Ok) (r:Rel C σ a w ρ) (t:TypeId) (x i y:Operand):OpOk C σ (.insert t x i y) ty a w ρ:=by
 refine⟨fun vc q o h=>absurd h ((mupdX_shape _ _ _ _ _).1 vc q o),fun vc o h hh hv=>?_,fun p q o h=>absurd h ((mupdX_shape _ _ _ _ _).2 p q o)⟩
 obtain⟨w',h1,h2⟩:=mupdX_sound hC r.w (r.ev hh.1) (r.ev hh.2.1) (r.ev hh.2.2) h
 exact⟨w',fun _ _ _ _=>by simp [execOp,h1],ρ,h2⟩
theorem ok_mmake (r:Rel C σ a w ρ) (t:TypeId) (x:Option Operand):OpOk C σ (.makeMap t x) ty a w ρ:=by
 cases x with
 | some x=>exact .of_ok (fun vc q o h=>by simp [astep]at h) (by simp [astep]) (by simp [astep])
 | none=>
  refine .of_ok (fun vc q o h hh hv=>?_) (fun vc o=>(mmakeV_shape _ _).1 vc o) (fun p q o=>(mmakeV_shape _ _).2 p q o)
  obtain⟨z,w',h1,h2⟩:=mmakeV_sound r.w h
  exact⟨z,w',fun _ _ _ _=>by simp [execOp,h1],h2⟩
theorem astep_ok (hC:C.Ok) (r:Rel C σ a w ρ) (o:Op):OpOk C σ o ty a w ρ:=by
 cases o with
 | move x=>exact ok_move r x
 | assign x=>exact ok_assign r x
 | pick c x y=>exact ok_pick r c x y
 | binOp op t x y t'=>exact ok_bin hC r op t t' x y
 | unOp op t x=>exact ok_un r op t x
 | load t x=>exact ok_load hC r t x
 | alloc t=>exact ok_alloc hC r t
 | box t x=>exact ok_box hC r t x
 | build t parts=>exact ok_bld hC r t parts
 | fieldAddr t x k=>exact ok_fld hC r t x k
 | makeFunc fn first caps=>exact ok_mkf r fn first caps
 | store t x y=>exact ok_store hC r t x y
 | indexAddr t x i=>exact ok_idx hC r t x i
 | makeSlice t l c=>exact ok_make hC r t l c
 | buildSlice t n parts=>exact ok_build hC r t n parts
 | slice t x lo hi mx=>exact ok_slice hC r t x lo hi mx
 | extract x i=>exact ok_extract r x i
 | convert s d x=>exact ok_conv hC r s d x
 | index t x i=>exact ok_index hC r t x i
 | lookup t x i b=>exact ok_lookup hC r t x i b
 | mapUpdate t x i y=>exact ok_mupd hC r t x i y
 | insert t x i y=>exact ok_insert hC r t x i y
 | makeMap t x=>exact ok_mmake r t x
 | call c=>
  obtain⟨callee,args,ts⟩:=c
  cases callee with
  | builtin b=>exact ok_builtin hC r b args ts
  | value f=>exact .of_ok (fun vc q o h=>by simp [astep]at h) (by simp [astep]) (by simp [astep])
  | invoke f m=>exact .of_ok (fun vc q o h=>by simp [astep]at h) (by simp [astep]) (by simp [astep])
 | _=>exact .of_ok (fun vc q o h=>by simp [astep]at h) (by simp [astep]) (by simp [astep])
end
end sound
end Go.Aw
namespace Go.Aw
open Go
def Later (p:Prop):Prop:=p
@[congr] theorem Later.congr (p:Prop):Later p=Later p:=rfl
def ACall (C:Ctx) (obs:List O) (f:FuncId) (args:List AV) (K:Sl->List O->Prop):Prop:=
 (∀(vs:Array Value) (w:World),(callFunc f vs).run C.P w=.ok (.enter f vs) w) /\
 ∀ w ρ (vs:List Value),WRel C obs w ρ->vs.length=args.length->(∀(i:Nat) (x:AV) (v:Value),args[i]? = some x->vs[i]? = some v->AVRel (C.V w obs ρ) obs ρ x v) ->
  Calls C.P f vs.toArray w fun e w'=>∃ v,e=.returned v/\∃ x obs' ρ',Step C w w' obs obs' ρ ρ'/\SlotRel (C.V w' obs' ρ') obs' ρ' x v/\K x obs'
theorem ACall.mono {C:Ctx} {obs:List O} {f:FuncId} {args:List AV} {K K':Sl->List O->Prop} (h:ACall C obs f args K) (hk:∀ x o,K x o->K' x o):ACall C obs f args K':=
 ⟨h.1,fun w ρ vs r hl ha=>(h.2 w ρ vs r hl ha).mono fun _ _ ⟨v,he,x,o,ρ',h1,h2,h3⟩=>⟨v,he,x,o,ρ',h1,h2,hk _ _ h3⟩⟩
def CallG (C:Ctx) (obs:List O) (f:FuncId) (args:List AV) (ex:Bool) (K:AV->Prop):Prop:=
 ∃ x,(ex=true->ACall C obs f args fun y o=>y=.v x/\o=obs)/\K x
def CallH (C:Ctx) (obs:List O) (f:FuncId) (args:List AV) (ex:Bool) (K:AV->Prop) (K2:Sl->List O->Prop):Prop:=
 CallG C obs f args ex K\/(ex=true/\ACall C obs f args K2)
theorem CallH.mono {C:Ctx} {obs:List O} {f:FuncId} {args:List AV} {ex:Bool} {K K':AV->Prop} {K2 K2':Sl->List O->Prop} (h:CallH C obs f args ex K K2) (hk:∀ x,K x->K' x) (hk2:∀ x o,K2 x o->K2' x o):CallH C obs f args ex K' K2':=by
 rcases h with⟨x,h1,h2⟩ | ⟨h1,h2⟩
 ·exact .inl ⟨x,h1,hk x h2⟩
 ·exact .inr ⟨h1,h2.mono hk2⟩
def slotOf:List (Option Nat)->Nat->Option Nat
 | [],_=>none
 | d :: r,j=>bif j == 0 then d else slotOf r (j - 1)
theorem slotOf_eq:∀(ops:List Oper) (j:Nat),slotOf (ops.map (·.dst)) j=(ops[j]?).bind (·.dst)
 | [],j=>by simp [slotOf]
 | o :: l,j=>by
  cases j with
  | zero=>simp [slotOf]
  | succ j=>simp [slotOf,slotOf_eq l j]
def gex (ds:List (Option Nat)) (σ:St):Option (Nat×Bool)->Option Bool
 | none=>some true
 | some (j,want)=>match slotOf ds j with
  | none=>none
  | some d=>match look d σ.fr with
   | some (ex,.v (.bool b))=>some (ex && (b == want))
   | _=>none
def roOp:Op->Bool
 | .move _ | .assign _ | .pick .. | .binOp .. | .unOp .. | .load .. | .indexAddr .. | .slice .. | .extract .. | .convert .. | .index .. | .lookup .. | .fieldAddr ..=>true
 | .call ⟨.builtin .len,_,_⟩=>true
 | .call ⟨.builtin .max,_,_⟩=>true
 | .call ⟨.builtin .min,_,_⟩=>true
 | _=>false
def St.put (σ:St) (d:Option Nat) (ex:Bool) (x:Sl) (obs:List O):St:=
 match d with
 | some d=>⟨σ.n,(d,ex,x) :: σ.fr,obs⟩
 | none=>⟨σ.n,σ.fr,obs⟩
def inN (n:Nat):Option Nat->Prop
 | none=>True
 | some d=>d < n
def fnOf:Option (Bool×Sl)->Option FuncId
 | some (true,.v (.fn f))=>some f
 | some (true,.v (.clo f _ _))=>some f
 | some (true,.v (.clo3 f _ _ _))=>some f
 | _=>none
def capT:Option (Bool×Sl)->List AV
 | some (true,.v (.clo _ e d))=>[.relt true e d]
 | some (true,.v (.clo3 _ a b c))=>[.hp a 0,.hp b 0,.hp c 0]
 | _=>[]
def capsOf (σ:St):Op->List AV
 | .call ⟨.value (.tmp t),_,_⟩=>capT (look t σ.fr)
 | _=>[]
def apCap (l:List AV):List AV->List AV
 | []=>l
 | m=>l ++ m
theorem apCap_eq (l:List AV):∀ m,apCap l m=l ++ m
 | []=>by simp [apCap]
 | _ :: _=>rfl
def calleeOf (σ:St):Op->Option (FuncId×List Operand)
 | .call ⟨.value (.func f),args,_⟩=>some (f,args.toList)
 | .call ⟨.value (.tmp t),args,_⟩=>(fnOf (look t σ.fr)).map fun f=>(f,args.toList)
 | _=>none
structure Rg where
 ds:List (Option Nat)
 kp:Bool
def Keeps (obs obs':List O):Prop:=∀(id:Nat) (o:O),obs[id]? = some o->obs'[id]? = some o
def mvS (σ:St) (op:Op) (x:AV):Sl:=
 match op with
 | .move (.tmp t)=>match look t σ.fr with
  | some (_,.t l)=>.t l
  | _=>.v x
 | _=>.v x
def aNro (C:Ctx) (o:Oper) (σ:St) (K:St->Prop):Bool->Prop
 | false=>K (σ.put o.dst false (.v .junk) σ.obs)
 | true=>match astep C σ o.op with
  | .bad=>False
  | .ok vc x obs'=>hasAll σ o.op/\vc/\K (σ.put o.dst true (.v x) obs')
  | .skip vc obs'=>hasAll σ o.op/\vc/\o.dst=none/\K (σ.put none true (.v .junk) obs')
  | .all p x obs'=>hasAll σ o.op/\∀ l,p l->K (σ.put o.dst true (.v (x l)) (obs' l))
def aone (C:Ctx) (rg:Rg) (o:Oper) (σ:St) (K:St->Prop):Prop:=
 inN σ.n o.dst /\
 match o.guard with
 | none=>match calleeOf σ o.op with
  | some (f,args)=>(∀ x∈args,σ.has x)/\ACall C σ.obs f (apCap (args.map σ.ev) (capsOf σ o.op)) fun x obs'=>(rg.kp=true->Keeps σ.obs obs')/\Later (K (σ.put o.dst true x obs'))
  | none=>match astep C σ o.op with
   | .bad=>False
   | .ok vc x obs'=>hasAll σ o.op/\vc/\K (σ.put o.dst true (mvS σ o.op x) obs')
   | .skip vc obs'=>hasAll σ o.op/\vc/\o.dst=none/\K (σ.put none true (.v .junk) obs')
   | .all p x obs'=>hasAll σ o.op/\∀ l,p l->K (σ.put o.dst true (.v (x l)) (obs' l))
 | some g=>match gex rg.ds σ (some g) with
  | none=>False
  | some ex=>match calleeOf σ o.op with
   | some (f,args)=>(ex=true->∀ x∈args,σ.has x)/\CallH C σ.obs f (apCap (args.map σ.ev) (capsOf σ o.op)) ex (fun x=>Later (K (σ.put o.dst ex (.v x) σ.obs))) fun x obs'=>(rg.kp=true->Keeps σ.obs obs')/\Later (K (σ.put o.dst true x obs'))
   | none=>if roOp o.op=true then match astep C σ o.op with
     | .ok vc x _=>(ex=true->hasAll σ o.op/\vc)/\K (σ.put o.dst ex (.v x) σ.obs)
     | _=>False
    else aNro C o σ K ex
def aexec (C:Ctx) (rg:Rg):List Oper->St->(St->Prop)->Prop
 | [],σ,K=>K σ
 | o :: rest,σ,K=>aone C rg o σ fun σ'=>aexec C rg rest σ' K
section sound
variable {C:Ctx}
theorem put_rel {σ:St} {a:Act} {w:World} {ρ:Nat->Value} (r:Rel C σ a w ρ) {d:Option Nat} (hd:inN σ.n d) {ex:Bool} {x:Sl} {v:Value} (h1:ex=true->SlotRel (C.V w σ.obs ρ) σ.obs ρ x v) (h2:ex=false->v=undef) :
  Rel C (σ.put d ex x σ.obs) (a.put d v) w ρ:=by
 cases d with
 | none=>exact⟨r.defers,r.size,r.fr,r.w,r.pin⟩
 | some d=>exact r.put hd h1 h2
theorem put_obs {σ:St} {d:Option Nat} {ex:Bool} {x:Sl} {obs':List O}:σ.put d ex x obs'=({ σ with obs:=obs' }:St).put d ex x obs':=by
 cases d<;>rfl
theorem step_put {σ:St} {a:Act} {w w':World} {ρ ρ':Nat->Value} {obs':List O} (r:Rel C σ a w ρ) (h:Step C w w' σ.obs obs' ρ ρ') {d:Option Nat} (hd:inN σ.n d) {x:Sl} {v:Value} (h1:SlotRel (C.V w' obs' ρ') obs' ρ' x v) :
  Rel C (σ.put d true x obs') (a.put d v) w' ρ':=by
 rw [put_obs]
 exact put_rel (σ:={ σ with obs:=obs' }) (h.rel r) hd (fun _=>h1) (by simp)
theorem wanted_gex {ops:List Oper} {σ:St} {a:Act} {w:World} {ρ:Nat->Value} (r:Rel C σ a w ρ) {o:Oper} {ex:Bool} (h:gex (ops.map (·.dst)) σ o.guard=some ex):Region.wanted o (yielded ops.toArray a.tmps)=ex:=by
 unfold gex at h
 unfold Region.wanted
 cases hg:o.guard with
 | none=>rw [hg]at h;simp at h;simp [h]
 | some g=>
  obtain⟨j,want⟩:=g
  rw [hg]at h
  simp only at h ⊢
  rw [slotOf_eq]at h
  cases hj:(ops[j]?).bind (·.dst) with
  | none=>rw [hj]at h;simp at h
  | some d=>
   rw [hj]at h
   simp only at h
   split at h
   ·rename_i ex' b hl
    cases h
    have hf:=r.fr d ex' _ hl
    have hy:yielded ops.toArray a.tmps j=(match a.tmps[d]? with | some (.bool b)=>some b | _=>none):=by
     unfold yielded
     simp only [List.getElem?_toArray]
     rw [hj]
     rfl
    rw [hy]
    cases ex' with
    | true=>
     have hv:=hf.1 rfl
     simp only [SlotRel,AVRel]at hv
     have:a.tmps[d]? = some (.bool b):=by
      rw [Array.getD_eq_getD_getElem?]at hv
      cases hx:a.tmps[d]? with
      | none=>rw [hx]at hv;simp [undef]at hv
      | some u=>rw [hx]at hv;simpa using hv
     rw [this]
     cases b<;>cases want<;>rfl
    | false=>
     have hv:=hf.2 rfl
     rw [Array.getD_eq_getD_getElem?]at hv
     cases hx:a.tmps[d]? with
     | none=>simp
     | some u=>rw [hx]at hv;simp [undef]at hv;subst hv;simp
   ·cases h
theorem loadX_obs {bt:Option BT} {gp:Option E} {mt:Option MT} {sc:Bool} {wt:Option E} {pt:Bool} {y:AV} {obs:List O} {vc:Prop} {x:AV} {obs':List O} (h:loadX bt gp mt sc wt pt y obs=.ok vc x obs'):obs'=obs:=by
 have old:∀ y,loadS sc wt y obs=.ok vc x obs'->obs'=obs:=by
  intro y h
  simp only [loadS,loadV,wloadV]at h
  (repeat' split at h)<;>cases h<;>rfl
 unfold loadX at h
 split at h
 ·cases hb:bagH obs with
  | none=>rw [hb]at h;exact old _ h
  | some p0=>
   obtain⟨d,g⟩:=p0
   rw [hb]at h
   simp only [orBag,bagLoad]at h
   (repeat' split at h)<;>cases h<;>rfl
 ·cases pt
  ·cases h
  ·simp only [cond_true,pairLoad]at h
   (repeat' split at h)<;>cases h<;>rfl
 ·exact old _ h
theorem mlookX_obs {mt:Option MT} {y i:AV} {obs:List O} {vc:Prop} {x:AV} {obs':List O} (h:mlookX mt y i obs=.ok vc x obs'):obs'=obs:=by
 unfold mlookX mlookV at h
 split at h
 ·cases hb:bagH obs with
  | none=>rw [hb]at h;cases h
  | some p0=>
   obtain⟨d,g⟩:=p0
   rw [hb]at h
   simp only [orBag,bagLook]at h
   (repeat' split at h)<;>cases h<;>rfl
 ·(repeat' split at h)<;>cases h<;>rfl
theorem roOp_obs {σ:St} {op:Op} (h:roOp op=true) {vc:Prop} {x:AV} {obs':List O} (hs:astep C σ op=.ok vc x obs'):obs'=σ.obs:=by
 have binv:∀ b u v,binV b u v σ.obs=.ok vc x obs'->obs'=σ.obs:=by
  intro b u v hb
  unfold binV at hb
  split at hb
  ·unfold binI sameK at hb
   (repeat' split at hb)<;>cases hb<;>rfl
  all_goals ((repeat' split at hb)<;>cases hb<;>rfl)
 have lenv:∀ u,lenV u σ.obs=.ok vc x obs'->obs'=σ.obs:=by
  intro u hb
  unfold lenV at hb
  (repeat' split at hb)<;>cases hb<;>rfl
 have slv:∀ u lo hi,sliceV u lo hi σ.obs=.ok vc x obs'->obs'=σ.obs:=by
  intro u lo hi hb
  unfold sliceV at hb
  (repeat' split at hb)<;>cases hb<;>rfl
 unfold roOp at h
 split at h<;>first | (simp at h;done) | skip
 ·simp only [astep]at hs;cases hs;rfl
 ·simp only [astep]at hs;cases hs;rfl
 ·simp only [astep,pickV]at hs;split at hs<;>cases hs;rfl
 ·simp only [astep]at hs
  rename_i op t x' y t'
  rcases binS_bin (C:=C) (σ:=σ) (op:=op) (t:=t) (x:=x') (y:=y)with k | k<;>rw [k]at hs
  ·cases hs
  ·exact binv _ _ _ hs
 ·simp only [astep,unV]at hs;(repeat' split at hs)<;>cases hs<;>rfl
 ·exact loadX_obs hs
 ·simp only [astep,idxS,idxV,widxV]at hs;(repeat' split at hs)<;>cases hs<;>rfl
 ·rename_i t x' lo hi mx
  cases mx with
  | some m=>
   simp only [astep]at hs
   unfold slice3V at hs
   (repeat' split at hs)<;>cases hs<;>rfl
  | none=>
   simp only [astep]at hs
   cases hw:C.wt t with
   | some e=>rw [hw]at hs;simp only [sliceT,wsliceV]at hs;(repeat' split at hs)<;>cases hs<;>rfl
   | none=>
    rw [hw]at hs
    simp only [sliceT]at hs
    rcases sliceS_v (C:=C) (σ:=σ) (t:=t) (x:=x') (lo:=lo) (hi:=hi)with k | ⟨k,_⟩<;>rw [k]at hs
    ·cases hs
    ·exact slv _ _ _ hs
 ·simp only [astep,exV]at hs;(repeat' split at hs)<;>cases hs<;>rfl
 ·simp only [astep,cnvV]at hs;(repeat' split at hs)<;>cases hs<;>rfl
 ·simp only [astep,sixV]at hs;(repeat' split at hs)<;>cases hs<;>rfl
 ·rename_i t x' y' b
  cases b with
  | true=>simp [astep]at hs
  | false=>exact mlookX_obs hs
 ·simp only [astep,fldV]at hs;(repeat' split at hs)<;>cases hs<;>rfl
 ·simp only [astep]at hs
  split at hs
  ·rename_i x' t _ _ _
   rcases lenS_v (C:=C) (σ:=σ) (t:=t) (x:=x')with k | ⟨k,_⟩<;>rw [k]at hs
   ·cases hs
   ·exact lenv _ hs
  all_goals first | (cases hs;done) | (simp at *;done)
 ·simp only [astep]at hs
  split at hs
  all_goals first | (unfold maxV at hs;split at hs<;>cases hs<;>rfl) | (cases hs;done) | (simp at *;done)
 ·simp only [astep]at hs
  split at hs
  all_goals first | (unfold maxV at hs;split at hs<;>cases hs<;>rfl) | (cases hs;done) | (simp at *;done)
theorem calleeOf_op {σ:St} {op:Op} {f:FuncId} {args:List Operand} (h:calleeOf σ op=some (f,args)):∃ x ts,op=.call ⟨.value x,args.toArray,ts⟩/\(x=.func f\/∃ t,x=.tmp t/\fnOf (look t σ.fr)=some f):=by
 unfold calleeOf at h
 split at h
 ·cases h;exact⟨_,_,rfl,.inl rfl⟩
 ·rw [Option.map_eq_some_iff]at h
  obtain⟨f',h1,h2⟩:=h
  cases h2
  exact⟨_,_,rfl,.inr ⟨_,rfl,h1⟩⟩
 ·cases h
theorem callee_caps {σ:St} {a:Act} {w:World} {ρ:Nat->Value} (r:Rel C σ a w ρ) {op:Op} {x:Operand} {f:FuncId} {args:Array Operand} {ts:Array TypeId} (ho:op=.call ⟨.value x,args,ts⟩) (h:x=.func f\/∃ t,x=.tmp t/\fnOf (look t σ.fr)=some f) :
  ∃ cs:List Value,a.eval x=.func (.func f) #[] cs.toArray/\cs.length=(capsOf σ op).length/\∀(i:Nat) (y:AV) (v:Value),(capsOf σ op)[i]? = some y->cs[i]? = some v->AVRel (C.V w σ.obs ρ) σ.obs ρ y v:=by
 subst ho
 rcases h with rfl | ⟨t,rfl,hl⟩
 ·exact⟨[],rfl,rfl,fun i y v hy=>by simp [capsOf]at hy⟩
 ·have key:∀ q,look t σ.fr=q->fnOf q=some f->(q=some (true,.v (.fn f))/\capT q=[])\/(∃ e d,q=some (true,.v (.clo f e d))/\capT q=[.relt true e d])\/∃ a b c,q=some (true,.v (.clo3 f a b c))/\capT q=[.hp a 0,.hp b 0,.hp c 0]:=by
   intro q _ hq
   unfold fnOf at hq
   split at hq
   ·cases hq;exact .inl ⟨rfl,rfl⟩
   ·cases hq;exact .inr (.inl ⟨_,_,rfl,rfl⟩)
   ·cases hq;exact .inr (.inr ⟨_,_,_,rfl,rfl⟩)
   ·cases hq
  have e:capsOf σ (.call ⟨.value (.tmp t),args,ts⟩)=capT (look t σ.fr):=rfl
  rw [e]
  rcases key _ rfl hl with⟨hlk,hcp⟩ | ⟨e',d',hlk,hcp⟩ | ⟨p1,p2,p3,hlk,hcp⟩
  ·rw [hcp]
   exact⟨[],(r.fr t true _ hlk).1 rfl,rfl,fun i y v hy=>by simp at hy⟩
  ·rw [hcp]
   obtain⟨ad,u,hv,hfr,hel,hcl⟩:=(show AVRel (C.V w σ.obs ρ) σ.obs ρ (.clo f e' d') _ from(r.fr t true _ hlk).1 rfl)
   refine⟨[.pointer (some ad)],hv,rfl,fun i y v hy hv2=>?_⟩
   match i,hy,hv2 with
   | 0,hy,hv2=>simp at hy hv2;subst hy hv2;exact⟨ad,u,rfl,fun _=>hfr,hel,hcl⟩
   | i+1,hy,_=>simp at hy
  ·rw [hcp]
   have hv:=(show AVRel (C.V w σ.obs ρ) σ.obs ρ (.clo3 f p1 p2 p3) _ from(r.fr t true _ hlk).1 rfl)
   refine⟨[.pointer (some ⟨hdB p1,0,none⟩),.pointer (some ⟨hdB p2,0,none⟩),.pointer (some ⟨hdB p3,0,none⟩)],hv,rfl,fun i y v hy hv2=>?_⟩
   match i,hy,hv2 with
   | 0,hy,hv2=>simp at hy hv2;subst hy hv2;rfl
   | 1,hy,hv2=>simp at hy hv2;subst hy hv2;rfl
   | 2,hy,hv2=>simp at hy hv2;subst hy hv2;rfl
   | i+3,hy,_=>simp at hy
theorem args_rel {σ:St} {a:Act} {w:World} {ρ:Nat->Value} (r:Rel C σ a w ρ) {args:List Operand} (hh:∀ x∈args,σ.has x) {cp:List AV} {cs:List Value} (h1:cs.length=cp.length) (h2:∀(i:Nat) (y:AV) (v:Value),cp[i]? = some y->cs[i]? = some v->AVRel (C.V w σ.obs ρ) σ.obs ρ y v) :
  (args.map a.eval ++ cs).length=(apCap (args.map σ.ev) cp).length/\∀(i:Nat) (x:AV) (v:Value),(apCap (args.map σ.ev) cp)[i]? = some x->(args.map a.eval ++ cs)[i]? = some v->AVRel (C.V w σ.obs ρ) σ.obs ρ x v:=by
 rw [apCap_eq]
 refine⟨by simp [h1],fun i x v hx hv=>?_⟩
 by_cases hi:i < args.length
 ·rw [List.getElem?_append_left (by simpa using hi)]at hx hv
  simp only [List.getElem?_map,Option.map_eq_some_iff]at hx hv
  obtain⟨y,hy,rfl⟩:=hx
  obtain⟨y',hy',rfl⟩:=hv
  rw [hy]at hy'
  cases hy'
  exact r.ev (hh y (List.mem_of_getElem? hy))
 ·rw [List.getElem?_append_right (by simp;omega)]at hx hv
  simp only [List.length_map]at hx hv
  exact h2 _ _ _ hx hv
theorem run_call {a:Act} {o:Oper} {f:FuncId} {x:Operand} {args:List Operand} {ts:Array TypeId} {cs:List Value} (ho:o.op=.call ⟨.value x,args.toArray,ts⟩) (hx:a.eval x=.func (.func f) #[] cs.toArray)
  (hf:∀(vs:Array Value) (w:World),(callFunc f vs).run C.P w=.ok (.enter f vs) w) (w:World):(execOp a.eval o).run C.P w=.ok (.enter f (args.map a.eval ++ cs).toArray) w:=by
 unfold execOp
 simp only [ho,resolve,hx,Deferred.ofValue,Sem.run_bind,Sem.run_pure,Result.andThen_ok,invoke]
 have e:(#[] ++ Array.map a.eval args.toArray ++ cs.toArray:Array Value)=(args.map a.eval ++ cs).toArray:=by simp
 rw [e]
 exact hf _ _
theorem mvS_rel {σ:St} {a:Act} {w w':World} {ρ ρ':Nat->Value} {o:Oper} {x:AV} {z:Value} {obs':List O} (r:Rel C σ a w ρ) (hst:Step C w w' σ.obs obs' ρ ρ') (hm:∀ t,o.op=.move (.tmp t)->σ.has (.tmp t)) (hrun:(execOp a.eval o).run C.P w=.ok (.value z) w')
  (hx:AVRel (C.V w' obs' ρ') obs' ρ' x z):SlotRel (C.V w' obs' ρ') obs' ρ' (mvS σ o.op x) z:=by
 obtain⟨d,op,ty,p,af,g⟩:=o
 unfold mvS
 split
 ·rename_i t hop
  simp only at hop
  subst hop
  split
  ·rename_i ex l hl
   have he:ex=true:=by
    have:St.has σ (.tmp t):=hm t rfl
    simp only [St.has,hl]at this
    exact this
   have h1:=hst.slot ((r.fr t ex _ hl).1 he)
   have h2:(execOp a.eval ⟨d,.move (.tmp t),ty,p,af,g⟩).run C.P w=.ok (.value (a.tmps.getD t undef)) w:=rfl
   rw [h2]at hrun
   injection hrun with h3 h4
   injection h3 with h5
   rw [<- h5]
   exact h1
  ·exact hx
 ·exact hx
theorem aone_wp (hC:C.Ok) {ops:List Oper} {kp:Bool} {K:St->Prop} {Q:Exit->Act->World->Prop} {K2:Act->World->Prop} (ih:∀ σ' a' w' ρ',K σ'->Rel C σ' a' w' ρ'->K2 a' w')
  {i:Nat} {o:Oper} {σ:St} {a:Act} {w:World} {ρ:Nat->Value} (he:ops[i]? = some o) (h:aone C ⟨ops.map (·.dst),kp⟩ o σ K) (r:Rel C σ a w ρ):wpOp C.P ops.toArray Q i K2 a w:=by
  have he2:ops.toArray[i]? = some o:=by rw [List.getElem?_toArray];exact he
  simp only [aone]at h
  obtain⟨hd,h⟩:=h
  simp only [wpOp,he2]
  split at h
  ·
   rename_i hg
   have hw:Region.wanted o (yielded ops.toArray a.tmps)=true:=by unfold Region.wanted;rw [hg]
   simp only [hw,if_true]
   refine .inl ?_
   split at h
   ·rename_i f args hc
    obtain⟨cx,ts,hop,hcx⟩:=calleeOf_op hc
    obtain⟨hh,hf,hcall⟩:=h
    unfold Oper.wp
    obtain⟨cs,hce,hc1,hc2⟩:=callee_caps r hop hcx
    obtain⟨hr1,hr2⟩:=args_rel r hh hc1 hc2
    rw [run_call hop hce hf w]
    simp only [Oper.upon]
    have hcl:=hcall w ρ (args.map a.eval ++ cs) r.w hr1 hr2
    refine hcl.mono fun e w' ⟨v,hev,x,obs',ρ',hst,hx,hk⟩=>?_
    subst hev
    exact ih _ _ _ _ hk.2 (step_put r hst hd hx)
   ·have hok:=astep_ok (ty:=o.type) hC r o.op
    split at h
    ·exact h.elim
    ·rename_i vc x obs' hs
     obtain⟨hh,hv,hk⟩:=h
     obtain⟨z,w',hrun,ρ',hst,hx⟩:=hok.1 vc x obs' hs hh hv
     have hrun':(execOp a.eval o).run C.P w=.ok (.value z) w':=hrun o.dst o.pos o.after o.guard
     unfold Oper.wp
     rw [hrun']
     simp only [Oper.upon]
     exact ih _ _ _ _ hk (step_put (x:=mvS σ o.op x) r hst hd (mvS_rel r hst (fun t ht=>by rw [ht]at hs;simp only [astep]at hs;injection hs with e1 _ _;rw [e1];exact hv) hrun' hx))
    ·rename_i vc obs' hs
     obtain⟨hh,hv,hdn,hk⟩:=h
     obtain⟨w',hrun,ρ',hst⟩:=hok.2.1 vc obs' hs hh hv
     have hrun':(execOp a.eval o).run C.P w=.ok .skip w':=hrun o.dst o.pos o.after o.guard
     unfold Oper.wp
     rw [hrun']
     simp only [Oper.upon]
     rw [hdn]
     exact ih _ _ _ _ hk (step_put (d:=none) (x:=.v .junk) (v:=undef) r hst trivial trivial)
    ·rename_i p x obs' hs
     obtain⟨hh,hk⟩:=h
     obtain⟨z,w',l,hl,⟨hrun,ρ',hst,hx⟩ | ⟨hrun,hxj,ρ',hst⟩⟩:=hok.2.2 p x obs' hs hh
     ·have hrun':(execOp a.eval o).run C.P w=.ok (.value z) w':=hrun o.dst o.pos o.after o.guard
      unfold Oper.wp
      rw [hrun']
      simp only [Oper.upon]
      exact ih _ _ _ _ (hk l hl) (step_put (x:=.v (x l)) r hst hd hx)
     ·have hrun':(execOp a.eval o).run C.P w=.ok .skip w':=hrun o.dst o.pos o.after o.guard
      unfold Oper.wp
      rw [hrun']
      simp only [Oper.upon]
      exact ih _ _ _ _ (hk l hl) (step_put (x:=.v (x l)) (v:=undef) r hst hd (by rw [hxj];trivial))
  ·
   rename_i g hg
   split at h
   ·exact h.elim
   ·rename_i ex hgx
    have hw:Region.wanted o (yielded ops.toArray a.tmps)=ex:=wanted_gex r (by rw [hg];exact hgx)
    rw [hw]
    split at h
    ·rename_i f args hc
     obtain⟨cx,ts,hop,hcx⟩:=calleeOf_op hc
     obtain⟨hh,⟨x,hcall,hk⟩ | ⟨hex,hcall⟩⟩:=h
     case inr=>
      subst hex
      simp only [if_true]
      refine .inl ?_
      have hh:=hh rfl
      obtain⟨hf,hcall⟩:=hcall
      unfold Oper.wp
      obtain⟨cs,hce,hc1,hc2⟩:=callee_caps r hop hcx
      obtain⟨hr1,hr2⟩:=args_rel r hh hc1 hc2
      rw [run_call hop hce hf w]
      simp only [Oper.upon]
      have hcl:=hcall w ρ (args.map a.eval ++ cs) r.w hr1 hr2
      refine hcl.mono fun e w' ⟨v,hev,x,obs',ρ',hst,hx,hk⟩=>?_
      subst hev
      exact ih _ _ _ _ hk.2 (step_put r hst hd hx)
     cases ex with
     | true=>
      simp only [if_true]
      refine .inl ?_
      have hh:=hh rfl
      obtain⟨hf,hcall⟩:=hcall rfl
      unfold Oper.wp
      obtain⟨cs,hce,hc1,hc2⟩:=callee_caps r hop hcx
      obtain⟨hr1,hr2⟩:=args_rel r hh hc1 hc2
      rw [run_call hop hce hf w]
      simp only [Oper.upon]
      have hcl:=hcall w ρ (args.map a.eval ++ cs) r.w hr1 hr2
      refine hcl.mono fun e w' ⟨v,hev,y,obs',ρ',hst,hx,hy,ho⟩=>?_
      subst hev hy ho
      exact ih _ _ _ _ hk (step_put r hst hd hx)
     | false=>
      simp only [Bool.false_eq_true,if_false]
      exact ih _ _ _ _ hk (put_rel r hd (by simp) (fun _=>rfl))
    ·split at h
     case isFalse=>
      cases ex with
      | false=>
       simp only [Bool.false_eq_true,if_false]
       exact ih _ _ _ _ h (put_rel r hd (by simp) (fun _=>rfl))
      | true=>
       simp only [if_true]
       refine .inl ?_
       have hok:=astep_ok (ty:=o.type) hC r o.op
       simp only [aNro]at h
       split at h
       ·exact h.elim
       ·rename_i vc x obs' hs
        obtain⟨hh,hv,hk⟩:=h
        obtain⟨z,w',hrun,ρ',hst,hx⟩:=hok.1 vc x obs' hs hh hv
        have hrun':(execOp a.eval o).run C.P w=.ok (.value z) w':=hrun o.dst o.pos o.after o.guard
        unfold Oper.wp
        rw [hrun']
        simp only [Oper.upon]
        exact ih _ _ _ _ hk (step_put (x:=.v x) r hst hd hx)
       ·rename_i vc obs' hs
        obtain⟨hh,hv,hdn,hk⟩:=h
        obtain⟨w',hrun,ρ',hst⟩:=hok.2.1 vc obs' hs hh hv
        have hrun':(execOp a.eval o).run C.P w=.ok .skip w':=hrun o.dst o.pos o.after o.guard
        unfold Oper.wp
        rw [hrun']
        simp only [Oper.upon]
        rw [hdn]
        exact ih _ _ _ _ hk (step_put (d:=none) (x:=.v .junk) (v:=undef) r hst trivial trivial)
       ·rename_i p x obs' hs
        obtain⟨hh,hk⟩:=h
        obtain⟨z,w',l,hl,⟨hrun,ρ',hst,hx⟩ | ⟨hrun,hxj,ρ',hst⟩⟩:=hok.2.2 p x obs' hs hh
        ·have hrun':(execOp a.eval o).run C.P w=.ok (.value z) w':=hrun o.dst o.pos o.after o.guard
         unfold Oper.wp
         rw [hrun']
         simp only [Oper.upon]
         exact ih _ _ _ _ (hk l hl) (step_put (x:=.v (x l)) r hst hd hx)
        ·have hrun':(execOp a.eval o).run C.P w=.ok .skip w':=hrun o.dst o.pos o.after o.guard
         unfold Oper.wp
         rw [hrun']
         simp only [Oper.upon]
         exact ih _ _ _ _ (hk l hl) (step_put (x:=.v (x l)) (v:=undef) r hst hd (by rw [hxj];trivial))
     rename_i hro
     split at h
     case h_2=>exact h.elim
     rename_i vc x obs' hs
     obtain⟨hh,hk⟩:=h
     cases ex with
     | true=>
      simp only [if_true]
      refine .inl ?_
      obtain⟨h1,h2⟩:=hh rfl
      obtain⟨z,w',hrun,ρ',hst,hx⟩:=(astep_ok (ty:=o.type) hC r o.op).1 vc x obs' hs h1 h2
      have hob:=roOp_obs hro hs
      subst hob
      have hrun':(execOp a.eval o).run C.P w=.ok (.value z) w':=hrun o.dst o.pos o.after o.guard
      unfold Oper.wp
      rw [hrun']
      simp only [Oper.upon]
      exact ih _ _ _ _ hk (step_put (x:=.v x) r hst hd hx)
     | false=>
      simp only [Bool.false_eq_true,if_false]
      exact ih _ _ _ _ hk (put_rel r hd (by simp) (fun _=>rfl))
theorem aexec_wp (hC:C.Ok) {ops:List Oper} {kp:Bool} {K:St->Prop} {Q:Exit->Act->World->Prop} (hQ:∀ σ' a' w' ρ',K σ'->Rel C σ' a' w' ρ'->Q .normal a' w') :
  ∀(idxs:List Nat) (σ:St) (a:Act) (w:World) (ρ:Nat->Value),(∀ i∈idxs,i < ops.length)->aexec C ⟨ops.map (·.dst),kp⟩ (idxs.filterMap (ops[·]?)) σ K->Rel C σ a w ρ->wpOps C.P ops.toArray Q idxs a w
 | [],σ,a,w,ρ,_,h,r=>hQ σ a w ρ h r
 | i :: rest,σ,a,w,ρ,hi,h,r=>by
  have hlt:i < ops.length:=hi i mcS
  have he:ops[i]? = some ops[i]:=geE hlt
  rw [List.filterMap_cons,he]at h
  rw [wpOps_cons]
  exact aone_wp hC (fun σ' a' w' ρ' h' r'=>aexec_wp hC hQ rest σ' a' w' ρ' (fun j hj=>hi j (mcM _ hj)) h' r') he h r
theorem filterMap_from (ops:List Oper):∀(l pre:List Oper),ops=pre ++ l->(List.range' pre.length l.length).filterMap (ops[·]?)=l
 | [],_,_=>rfl
 | o :: l,pre,h=>by
  have h1:ops[pre.length]? = some o:=by rw [h];simp
  have ih:=filterMap_from ops l (pre ++ [o]) (by rw [h];simp)
  simp only [lenA,lenC,lenN,Nat.zero_add]at ih
  simp only [lenC,List.range'_succ,List.filterMap_cons,h1,ih]
theorem filterMap_range (ops:List Oper):(List.range ops.length).filterMap (ops[·]?)=ops:=by
 rw [List.range_eq_range']
 exact filterMap_from ops ops [] rfl
theorem Run.region (hC:C.Ok) {σ:St} {k:List Item} {id:Nat} {l:List Oper} (h:∀ K:St->Prop,(∀ σ',Run C k σ'->K σ')->aexec C ⟨l.map (·.dst),false⟩ l σ K):Run C (.code (.region id l.toArray false) :: k) σ:=by
 intro a w ρ r b cs
 have h1:=h (fun σ'=>Run C k σ') (fun _ hr=>hr)
 have hw:(Code.region id l.toArray false).wp C.P (fun e a' w'=>e=.normal/\∃ σ' ρ',Run C k σ'/\Rel C σ' a' w' ρ') a w:=by
  refine wp_region ?_
  refine aexec_wp hC (kp:=false) (K:=fun σ'=>Run C k σ') (fun σ' a' w' ρ' hk hr=>⟨rfl,σ',ρ',hk,hr⟩) _ σ a w ρ (by simp) ?_ r
  simp only [List.size_toArray]
  rw [filterMap_range]
  exact h1
 obtain⟨e,a',w',⟨rfl,σ',ρ',hk,hr⟩,harr⟩:=hw b k cs
 obtain⟨e2,a2,w2,hp,harr2⟩:=hk a' w' ρ' hr b cs
 exact⟨e2,a2,w2,hp,.of_steps harr harr2⟩
end sound
end Go.Aw
namespace Go.Aw
open Go
def Ctx.enterL (B:Ctx) (fn:Func) (R:Ending->World->Prop) (w0:World) (M L:Nat->Prop):Ctx:={ B with fn:=fn,R:=R,w0:=w0,M:=M,pin:=[],L:=L }
theorem Ctx.Ok.enterL {B:Ctx} (h:B.Ok) (fn:Func) (R:Ending->World->Prop) (w0:World) (M L:Nat->Prop):(B.enterL fn R w0 M L).Ok:=⟨h.sl,h.slc,h.bt,h.same,h.mixed,h.u8,h.mt,h.wt,h.lr,h.slz,h.mtz,h.pt⟩
def pack (us:List Value):Value:=if h:us.length=1 then us[0]else .tuple us.toArray
def freshE:E->Bool
 | .row f=>f
 | _=>true
def freshAV:AV->Bool
 | .sl f e _=>f && freshE e
 | .relt ..=>false
 | .elt ..=>false
 | .asl ..=>false
 | .hdr ..=>false
 | .emp ..=>false
 | .hp ..=>false
 | .lenv ..=>false
 | .clo ..=>false
 | .mv ..=>false
 | .prv ..=>false
 | .clo3 ..=>false
 | _=>true
def freshO:O->Bool
 | .dead=>true
 | .arr e _ _ _=>freshE e
 | .mat ..=>true
 | .gm ..=>false
 | .mp ..=>true
 | .ap ..=>false
 | .cur ..=>false
 | .bag ..=>false
def Ctx.bareL (B:Ctx) (w:World) (L:Nat->Prop):Ctx:=B.enterL default (fun _ _=>True) w (fun _=>False) L
abbrev Ctx.bare (B:Ctx) (w:World):Ctx:=B.bareL w (fun _=>False)
def FunA (B:Ctx) (f:FuncId) (args:List AV) (post:List AV->List O->Prop):Prop:=
 (∀(vs:Array Value) (w:World),(callFunc f vs).run B.P w=.ok (.enter f vs) w) /\
 ∀ w (L:Nat->Prop) (vs:List Value),Laid B.P w (fun _=>False)->vs.length=args.length->(∀(i:Nat) (x:AV) (v:Value),args[i]? = some x->vs[i]? = some v->AVRel ((B.bareL w L).V w [] (fun _=>undef)) [] (fun _=>undef) x v) ->
  Calls B.P f vs.toArray w fun e w'=>∃ us:List Value,e=.returned (pack us)/\∃ xs obs' ρ',post xs obs'/\us.length=xs.length /\
   (∀(i:Nat) (x:AV) (v:Value),xs[i]? = some x->us[i]? = some v->AVRel ((B.bareL w L).V w' obs' ρ') obs' ρ' x v)/\WRel (B.bareL w L) obs' w' ρ'/\xs.all freshAV=true/\obs'.all freshO=true
theorem FunA.mono {B:Ctx} {f:FuncId} {args:List AV} {post post':List AV->List O->Prop} (h:FunA B f args post) (hp:∀ x o,post x o->post' x o):FunA B f args post':=
 ⟨h.1,fun w L vs hG hl ha=>(h.2 w L vs hG hl ha).mono fun _ _ ⟨us,he,xs,o,ρ',k,r⟩=>⟨us,he,xs,o,ρ',hp _ _ k,r⟩⟩
def entry (args:List AV) (n:Nat):St:=⟨n,(args.zipIdx).map (fun p=>(p.2,true,.v p.1)),[]⟩
def RA (B:Ctx) (w:World) (L:Nat->Prop) (post:List AV->List O->Prop):Ending->World->Prop:=fun e w'=>∃ us:List Value,e=.returned (pack us)/\∃ xs obs' ρ',post xs obs'/\us.length=xs.length /\
   (∀(i:Nat) (x:AV) (v:Value),xs[i]? = some x->us[i]? = some v->AVRel ((B.bareL w L).V w' obs' ρ') obs' ρ' x v)/\WRel (B.bareL w L) obs' w' ρ'/\xs.all freshAV=true/\obs'.all freshO=true
theorem look_zip (args:List AV):∀(s i:Nat) (ex:Bool) (x:Sl),look s ((args.zipIdx i).map (fun p=>(p.2,true,Sl.v p.1)))=some (ex,x)->∃ k y,s=i+k/\args[k]? = some y/\ex=true/\x=.v y:=by
 induction args with
 | nil=>intro s i ex x h;simp [look]at h
 | cons a l ih=>
  intro s i ex x h
  simp only [List.zipIdx_cons,List.map_cons,look]at h
  split at h
  ·rename_i hs
   have hs:s=i:=by simpa using hs
   cases h
   exact⟨0,a,by omega,rfl,rfl,rfl⟩
  ·obtain⟨k,y,h1,h2,h3⟩:=ih s (i+1) ex x h
   exact⟨k+1,y,by omega,by simpa using h2,h3⟩
theorem WRel_bare {B:Ctx} {fn:Func} {R:Ending->World->Prop} {w0 w:World} {L:Nat->Prop} {obs:List O} {ρ:Nat->Value} (h:WRel (B.enterL fn R w0 (fun _=>False) L) obs w ρ):WRel (B.bareL w0 L) obs w ρ:=
 ⟨h.os,h.dis,h.own,h.os0,h.tape,h.output,h.grow,h.drawn,h.kept,h.gl⟩
theorem calls_of_run {C:Ctx} {f:FuncId} {c:Code} {σ:St} {args:Array Value} {w:World} {ρ:Nat->Value} (hf:C.P.funcs[f]? = some C.fn) (hb:C.fn.body=some c)
  (h:Run C [.code c] σ) (hr:Rel C σ { tmps:=args ++ Array.replicate (C.fn.ntmps - args.size) undef,defers:=[] } w ρ):Calls C.P f args w C.R:=by
 intro cs
 let b:Frame:={ (default:Frame)with fn:=f,kind:=.normal }
 have henter:Frame.enter C.P f args .normal=b.at { tmps:=args ++ Array.replicate (C.fn.ntmps - args.size) undef,defers:=[] } [.code c]:=by
  simp [Frame.enter,Frame.at,hf,hb,b]
 obtain⟨e,a',w',hq,harr⟩:=h _ w ρ hr b cs
 rw [<- henter]at harr
 cases e with
 | normal=>
  obtain⟨hd,v,hv,hR⟩:=hq
  exact⟨.returned v,w',_,hR,Steps.trans harr (.one step_end),rfl,rfl,hd,rfl,C.fn,hf,hv⟩
 | ret=>
  obtain⟨hd,v,hv,hR⟩:=hq
  obtain⟨todo,hs⟩:=harr
  exact⟨.returned v,w',_,hR,hs,rfl,rfl,hd,rfl,C.fn,hf,hv⟩
 | panic chain=>
  obtain⟨hd,hR⟩:=hq
  obtain⟨todo,hs⟩:=harr
  exact⟨.panicked chain,w',_,hR,hs,rfl,rfl,hd,C.fn,hf⟩
 | exit id=>exact hq.elim
 | goto l=>exact hq.elim
 | outgrown=>exact⟨.outgrown,w',b,hq,harr.resolve_left (by simp [b]),rfl,trivial⟩
theorem wrel_start (B:Ctx) (w:World) (L:Nat->Prop) (ρ:Nat->Value) (hG:Laid B.P w (fun _=>False)):WRel (B.bareL w L) [] w ρ where
 os:=fun id o h=>by simp at h
 dis:=fun i j o o' b h=>by simp at h
 own:=fun b ⟨id,o,h,_⟩=>by simp at h
 os0:=rfl
 tape:=rfl
 output:=rfl
 grow:=Nat.le_refl _
 drawn:=fun _=>Nat.le_refl _
 kept:=fun _ _ _=>rfl
 gl:=hG
theorem FunA.enter {B:Ctx} {f:FuncId} {fn:Func} {c:Code} {args:List AV} {post:List AV->List O->Prop} (hcall:∀(vs:Array Value) (w:World),(callFunc f vs).run B.P w=.ok (.enter f vs) w)
  (hf:B.P.funcs[f]? = some fn) (hb:fn.body=some c) (hn:args.length<=fn.ntmps)
  (h:∀ w L,Run (B.enterL fn (RA B w L post) w (fun _=>False) L) [.code c] (entry args fn.ntmps)):FunA B f args post:=by
 refine⟨hcall,fun w L vs hG hl ha=>?_⟩
 have hw:=wrel_start B w L (fun _=>undef) hG
 refine calls_of_run (C:=B.enterL fn (RA B w L post) w (fun _=>False) L) (ρ:=fun _=>undef) hf hb (h w L) ⟨rfl,?_,?_,⟨hw.os,hw.dis,hw.own,hw.os0,hw.tape,hw.output,hw.grow,hw.drawn,hw.kept,hw.gl⟩,fun j v hj=>by simp [Ctx.enterL]at hj⟩
 ·simp [entry,Ctx.enterL]
  omega
 ·intro s ex x hx
  obtain⟨k,y,h1,h2,rfl,rfl⟩:=look_zip args s 0 ex x hx
  refine⟨fun _=>?_,by simp⟩
  have hk:k < args.length:=(geS.1 h2).1
  have hkv:k < vs.length:=by omega
  have hs:s=k:=by omega
  subst hs
  have hg:((vs.toArray ++ Array.replicate ((B.enterL fn (RA B w L post) w (fun _=>False) L).fn.ntmps - vs.toArray.size) undef).getD s undef)=vs[s]:=by
   simp [Array.getD_eq_getD_getElem?,Array.getElem?_append,hkv]
  rw [hg]
  exact ha s y vs[s] h2 (by simp)
theorem FunA.fin {B:Ctx} {fn:Func} {w:World} {L:Nat->Prop} {post:List AV->List O->Prop} {xs:List AV} {obs:List O} (hp:post xs obs) (h1:xs.all freshAV=true) (h2:obs.all freshO=true) :
  Fin (B.enterL fn (RA B w L post) w (fun _=>False) L) xs obs:=by
 intro w' ρ vs hr _ hl ha
 exact⟨vs,rfl,xs,obs,ρ,hp,hl,ha,WRel_bare hr,h1,h2⟩
def convV:(e' e:E)->List e.D->List e'.D->Prop
 | .row false,.row _,ys,zs=>zs=ys
 | .row false,.lrow,ys,zs=>zs=ys.map (·.2)
 | .row true,.row true,ys,zs=>zs=ys
 | .row true,.lrow,ys,zs=>zs=ys.map (·.2)
 | .lrow,.lrow,ys,zs=>zs=ys
 | .pr,.pr,ys,zs=>zs=ys
 | .int,.int,ys,zs=>zs=ys
 | .byte,.byte,ys,zs=>zs=ys
 | .bool,.bool,ys,zs=>zs=ys
 | .str,.str,ys,zs=>zs=ys
 | .vec,.vec,ys,zs=>zs=ys
 | _,_,_,_=>False
def argOk (obs:List O):(actual formal:AV)->Prop
 | x,.int k n=>x=.int k n
 | x,.bool b=>x=.bool b
 | x,.str s=>x=.str s
 | x,.fn f=>x=.fn f
 | x,.vec l=>x=.vec l
 | x,.nils=>x=.nils
 | x,.sl false e xs=>match x with
  | .sl _ e' ys=>convV e e' ys xs
  | .lr _ ys=>convV e .int ys xs
  | .nils=>xs=[]
  | .emp _=>xs=[]
  | .own id g=>match obs[id]? with
   | some (.arr e' ys g' _)=>g=g'/\convV e e' ys xs
   | some (.mat _ rows g' _)=>g=g'/\e=.row false/\convV e (.row false) rows xs
   | _=>False
  | _=>False
 | x,.sl true e xs=>match x with
  | .sl true e' ys=>convV e e' ys xs
  | .lr _ ys=>convV e .int ys xs
  | .nils=>xs=[]
  | _=>False
 | x,.lr l xs=>x=.lr l xs
 | x,.relt true e d=>x=.relt true e d
 | x,.clo f e d=>x=.clo f e d
 | x,.hp h k=>x=.hp h k
 | _,_=>False
def argsOk (obs:List O):List AV->List AV->Prop
 | [],[]=>True
 | x :: l,y :: r=>argOk obs x y/\argsOk obs l r
 | _,_=>False
def shiftAV (n:Nat):AV->AV
 | .own id g=>.own (n+id) g
 | x=>x
def resSl (n:Nat):List AV->Sl
 | [x]=>.v (shiftAV n x)
 | l=>.t (l.map (shiftAV n))
theorem H_bare {B:Ctx} {w:World} {L:Nat->Prop} {b:Nat}:((B.bareL w L).V w [] (fun _=>undef)).H b=w.heap[b]?:=by
 have hn:¬Own [] (fun _=>undef) b:=by rintro⟨id,o,ho,_⟩;simp at ho
 simp only [Ctx.V,mask,if_neg hn]
theorem cell_bare {B:Ctx} {w:World} {L:Nat->Prop} {a:Addr} {v:Value} (h:w.cell? a=some v):((B.bareL w L).V w [] (fun _=>undef)).cell a=some v:=by
 simp only [Vw.cell,H_bare]
 unfold World.cell? at h
 cases hb:w.heap[a.block]? with
 | none=>rw [hb]at h;simp at h
 | some o=>rw [hb]at h;cases o<;>simp at h ⊢;exact h
def Ctx.seen (C:Ctx) (obs:List O) (ρ:Nat->Value) (b:Nat):Prop:=C.Fr b/\¬Own obs ρ b
theorem H_vis {C:Ctx} {obs:List O} {w:World} {ρ:Nat->Value} {b:Nat} {o:Obj} (h:(C.V w obs ρ).H b=some o):¬Own obs ρ b/\w.heap[b]? = some o:=by
 simp only [Ctx.V,mask]at h
 split at h
 ·cases h
 ·rename_i hn;exact⟨hn,h⟩
theorem sub_bare {B C:Ctx} (hT:B.tid=C.tid) {obs:List O} {w:World} {ρ:Nat->Value}:(C.V w obs ρ).sub ((B.bareL w (C.seen obs ρ)).V w [] (fun _=>undef)) where
 H:=fun b o h=>by rw [H_bare];exact(H_vis h).2
 Fr:=fun b o h hf=>.inr ⟨hf,(H_vis h).1⟩
 ti:=by show B.tid .int=C.tid .int;rw [hT]
theorem conv_len {e' e:E} {ys:List e.D} {zs:List e'.D} (h:convV e' e ys zs):zs.length=ys.length/\e'.size=e.size:=by
 unfold convV at h
 split at h<;>first | (subst h;exact⟨by simp,rfl⟩) | exact h.elim
theorem conv_el {V:Vw} {e' e:E} {ys:List e.D} {zs:List e'.D} (h:convV e' e ys zs) {i:Nat} (hi:i < ys.length) (hi':i < zs.length) {u:Value} (hu:ElRel V e ys[i] u):ElRel V e' zs[i] u:=by
 unfold convV at h
 split at h<;>first | exact h.elim | subst h
 ·exact RowRel.weaken hu
 ·have k:=RowRel.weaken (LRowRel.toRow hu)
  simpa [ElRel] using k
 ·exact hu
 ·have k:=LRowRel.toRow hu
  simpa [ElRel] using k
 ·exact hu
 ·exact hu
 ·exact hu
 ·exact hu
 ·exact hu
 ·exact hu
 ·exact hu
theorem SlRel.conv {V:Vw} {f:Bool} {e' e:E} {ys:List e.D} {zs:List e'.D} {v:Value} (hc:convV e' e ys zs) (h:SlRel V f e ys v):SlRel V f e' zs v:=by
 obtain⟨base,cap,hv,h1,h2,hx⟩:=h
 obtain⟨hl,hs⟩:=conv_len hc
 refine⟨base,cap,by rw [hl];exact hv,by omega,h2,fun i hi=>?_⟩
 obtain⟨a,u,ha,hf,hu,hcell⟩:=hx i om
 exact⟨a,u,ha,hf,conv_el hc om hi hu,fun j hj=>by rw [hs]at *;exact hcell j hj⟩
theorem own_sl {V:Vw} {w:World} {e' e:E} {ys:List e.D} {zs:List e'.D} {v:Value} {cs:List Value} {ti:TypeId} (hb:∀ b,v.ownBlock=some b->∀ a x,a.block=b->w.cell? a=some x->V.cell a=some x)
  (hc:convV e' e ys zs) (hown:w.ownsRow 0 ti e.size v ys.length cs) (henc:Enc V e ys cs):SlRel V false e' zs v:=by
 obtain⟨hl,hs⟩:=conv_len hc
 rcases hown.2 with⟨hv,hz⟩ | ⟨b,cap,cur,hv,_,hg,h1,h2,h3,h4⟩
 ·exact⟨none,0,by rw [hl,hz];exact hv,by omega,by omega,fun i hi=>by omega⟩
 ·refine⟨some ⟨b,0,none⟩,cap,by rw [hl];exact hv,by omega,h2,fun i hi=>?_⟩
  obtain⟨u,hu,hcell⟩:=henc.2 i om
  refine⟨⟨b,0,none⟩,u,rfl,by simp,conv_el hc om hi hu,fun j hj=>?_⟩
  have hsz:=hu.cells.1
  have h5:=hcell j om
  rw [Array.getElem?_eq_getElem om]at h5 ⊢
  rw [hs]
  exact hb b (by rw [hv];rfl) _ _ (add_block _ _) (hown.cells (g:=b) (by rw [hv];rfl) _ _ h5)
theorem mat_rows {tid:E->TypeId} {w:World} {V V':Vw} (hV:∀ a x,w.cell? a=some x->V'.cell a=some x) {v:Value} {hs:List (Option Nat)} {rows:List (List Int)} {g:Nat} {nn:Bool} (k:ORel tid w V v (.mat hs rows g nn)) :
  SlRel V' false (.row false) rows v:=by
 obtain⟨cs,k1,k2,k3,_⟩:=k
 have hcl:cs.length=rows.length:=by have:=k1.1;omega
 have key:∀ i (hi:i < rows.length),RowRel V' false rows[i] cs[i]:=by
  intro i hi
  have:=k3 i hs[i] rows[i] cs[i] (by simp) (by simp) (by simp)
  cases hh:hs[i] with
  | none=>
   rw [hh]at this
   obtain⟨h1,h2⟩:=this
   rw [h1,h2]
   exact⟨none,0,rfl,by simp,by simp,fun i hi=>by simp at hi⟩
  | some h=>
   rw [hh]at this
   obtain⟨h1,cur,hg,h2,h3,h4,h5⟩:=this
   refine⟨some ⟨hdB h,0,none⟩,hdC h,h1,h2,h3,fun j hj=>⟨⟨hdB h,0,none⟩,rfl,by simp,hV _ _ ?_⟩⟩
   rw [add_plain]
   have:(cur.toList.take rows[i].length)[j]? = (rows[i].map (Value.int .i64))[j]?:=by rw [h5]
   rw [List.getElem?_take,if_pos hj]at this
   simp [World.cell?,hg]
   simpa [hj] using this
 rcases k1.2 with⟨hv,hz⟩ | ⟨b,cap,cur,hv,_,hg,h1,h2,h3,h4⟩
 ·exact⟨none,0,by rw [hz];exact hv,by omega,by omega,fun i hi=>by omega⟩
 ·refine⟨some ⟨b,0,none⟩,cap,hv,h1,h2,fun i hi=>?_⟩
  refine⟨⟨b,0,none⟩,cs[i],rfl,by simp,key i hi,fun j hj=>?_⟩
  have:j=0:=by simp [E.size]at hj;omega
  subst this
  rw [cells_oneCell (RowRel.oneCell (key i hi))]
  simp only [E.size,Nat.mul_one,Nat.add_zero]
  exact hV _ _ (k1.cells (g:=b) (by rw [hv];rfl) i cs[i] (by simp))
theorem mat_bare {C:Ctx} {obs:List O} {w:World} {ρ:Nat->Value} {e':E} {rows:List (List Int)} {zs:List e'.D} {v:Value} {hs:List (Option Nat)} {g:Nat} {nn:Bool} {V':Vw} (he:e'=.row false) (hc:convV e' (.row false) rows zs)
  (hV:∀ a x,w.cell? a=some x->V'.cell a=some x) (k:ORel C.tid w (C.V w obs ρ) v (.mat hs rows g nn)):SlRel V' false e' zs v:=by
 subst he
 have hc:zs=rows:=hc
 subst hc;exact mat_rows hV k
theorem emp_rel {V:Vw} {e:E} {a:Option Addr} {c:Nat} {v:Value} (hv:v=.slice a 0 c) (hc:c<=maxLen:=by assumption):SlRel V false e [] v:=
 ⟨a,c,hv,by simp,hc,fun i hi=>by simp at hi⟩
theorem cells_sub {V V':Vw} (h:V.sub V') {e:E} {d:e.D} {u:Value} {a:Addr} (hel:ElRel V e d u) (hc:∀ j,j < e.size->V.cell (a.add j)=u.cells[j]?):(∀ j,j < e.size->V'.cell (a.add j)=u.cells[j]?)/\(V.Fr a.block->V'.Fr a.block):=by
 have hsz:=hel.cells.1
 refine⟨fun j hj=>?_,fun hf=>?_⟩
 ·have h3:=hc j hj
  rw [Array.getElem?_eq_getElem om]at h3 ⊢
  exact(h.cell h3).1
 ·have h3:=hc 0 e.size_pos
  rw [Array.getElem?_eq_getElem (by have:=e.size_pos;omega)]at h3
  have:=(h.cell h3).2
  rw [add_block]at this
  exact this hf
theorem argOk_sound {B C:Ctx} (hT:B.tid=C.tid) {obs:List O} {w:World} {ρ:Nat->Value} (rr:WRel C obs w ρ) {x y:AV} {v:Value} (h:argOk obs x y) (hx:AVRel (C.V w obs ρ) obs ρ x v) :
  AVRel ((B.bareL w (C.seen obs ρ)).V w [] (fun _=>undef)) [] (fun _=>undef) y v:=by
 have hs:=sub_bare (B:=B) (C:=C) hT (obs:=obs) (w:=w) (ρ:=ρ)
 unfold argOk at h
 split at h
 ·subst h;exact hx
 ·subst h;exact hx
 ·subst h;exact hx
 ·subst h;exact hx
 ·subst h;exact hx
 ·subst h;exact hx
 ·split at h
  ·exact(SlRel.conv h (SlRel.sub hs hx)).weaken
  ·exact(SlRel.conv h (LRowRel.toRow (LRowRel.sub hs hx)).toSl).weaken
  ·subst h
   exact⟨none,0,hx,by simp,by simp,fun i hi=>by simp at hi⟩
  ·subst h
   obtain⟨a,c,hv,hc,_⟩:=hx
   exact emp_rel hv hc
  ·split at h
   ·rename_i ho
    obtain⟨hg,hc⟩:=h
    subst hg
    obtain⟨_,cs,hown,henc,_,_⟩:=own_arr rr ho hx
    exact own_sl (fun _ _ _ _ _ h=>cell_bare h) hc hown (henc.sub hs)
   ·rename_i ho
    obtain⟨hg,he,hc⟩:=h
    subst hg
    have h1:v=ρ _:=(hx.2 _ (by simp [genOf,ho,O.gen])).2 rfl
    subst h1
    exact mat_bare he hc (fun a x h=>cell_bare h) (rr.os _ _ ho)
   ·exact h.elim
  ·exact h.elim
 ·split at h
  ·exact SlRel.conv h (SlRel.sub hs hx)
  ·exact SlRel.conv h (LRowRel.toRow (LRowRel.sub hs hx)).toSl
  ·subst h
   exact⟨none,0,hx,by simp,by simp,fun i hi=>by simp at hi⟩
  ·exact h.elim
 ·subst h;exact LRowRel.sub hs hx
 ·subst h
  obtain⟨ad,u,hv,hf,hel,hcl⟩:=hx
  obtain⟨k1,k2⟩:=cells_sub hs hel hcl
  exact⟨ad,u,hv,fun _=>k2 (hf rfl),hel.sub hs,k1⟩
 ·subst h
  obtain⟨ad,u,hv,hf,hel,hcl⟩:=hx
  obtain⟨k1,k2⟩:=cells_sub hs hel hcl
  exact⟨ad,u,hv,k2 hf,hel.sub hs,k1⟩
 ·subst h;exact hx
 ·exact h.elim
theorem argsOk_sound {B C:Ctx} (hT:B.tid=C.tid) {obs:List O} {w:World} {ρ:Nat->Value} (rr:WRel C obs w ρ):∀ {l r:List AV} {vs:List Value},argsOk obs l r->vs.length=l.length ->
  (∀(i:Nat) (x:AV) (v:Value),l[i]? = some x->vs[i]? = some v->AVRel (C.V w obs ρ) obs ρ x v) ->
  vs.length=r.length/\∀(i:Nat) (x:AV) (v:Value),r[i]? = some x->vs[i]? = some v->AVRel ((B.bareL w (C.seen obs ρ)).V w [] (fun _=>undef)) [] (fun _=>undef) x v
 | [],[],vs,_,hl,_=>⟨hl,fun i x v h=>by simp at h⟩
 | x :: l,y :: r,vs,h,hl,ha=>by
  cases vs with
  | nil=>simp at hl
  | cons v vs=>
   obtain⟨h1,h2⟩:=argsOk_sound hT rr h.2 (by simpa using hl) (fun i x v hx hv=>ha (i+1) x v (by simpa using hx) (by simpa using hv))
   refine⟨by simp [h1],fun i x' v' hx' hv'=>?_⟩
   cases i with
   | zero=>simp at hx' hv';subst hx' hv';exact argOk_sound hT rr h.1 (ha 0 x v rfl rfl)
   | succ i=>exact h2 i x' v' (by simpa using hx') (by simpa using hv')
 | [],_ :: _,_,h,_,_=>h.elim
 | _ :: _,[],_,h,_,_=>h.elim
theorem RowRel.fresh {V V':Vw} (hH:∀ b o,V.Fr b->V.H b=some o->V'.H b=some o) (hF:∀ b,V.Fr b->V'.Fr b) {xs:List Int} {v:Value} (h:RowRel V true xs v):RowRel V' true xs v:=by
 obtain⟨base,cap,hv,h1,h2,hx⟩:=h
 refine⟨base,cap,hv,h1,h2,fun i hi=>?_⟩
 obtain⟨a,ha,hf,hc⟩:=hx i hi
 refine⟨a,ha,fun k=>hF _ (hf k),?_⟩
 unfold Vw.cell at hc ⊢
 rw [add_block]at hc ⊢
 cases hb:V.H a.block with
 | none=>rw [hb]at hc;simp at hc
 | some o=>rw [hb]at hc;rw [hH _ _ (hf rfl) hb];exact hc
theorem LRowRel.fresh {V V':Vw} (hH:∀ b o,V.Fr b->V.H b=some o->V'.H b=some o) (hF:∀ b,V.Fr b->V'.Fr b) (ht:V'.ti=V.ti) {l:Nat} {xs:List Int} {v:Value} (h:LRowRel V l xs v):LRowRel V' l xs v:=by
 obtain⟨cap,cur,hv,hf,hb,rest⟩:=h
 exact⟨cap,cur,hv,hF _ hf,by rw [ht];exact hH _ _ hf hb,rest⟩
theorem ElRel.fresh {V V':Vw} (hH:∀ b o,V.Fr b->V.H b=some o->V'.H b=some o) (hF:∀ b,V.Fr b->V'.Fr b) (ht:V'.ti=V.ti):{e:E}->freshE e=true->{d:e.D}->{v:Value}->ElRel V e d v->ElRel V' e d v
 | .int,_,_,_,k=>k
 | .byte,_,_,_,k=>k
 | .bool,_,_,_,k=>k
 | .str,_,_,_,k=>k
 | .row true,_,_,_,k=>RowRel.fresh hH hF k
 | .row false,h,_,_,_=>by simp [freshE]at h
 | .lrow,_,(_,_),_,k=>LRowRel.fresh hH hF ht k
 | .vec,_,_,_,k=>k
 | .pr,_,(_,_),_,⟨u1,u2,hv,h1,h2⟩=>⟨u1,u2,hv,RowRel.fresh hH hF h1,RowRel.fresh hH hF h2⟩
theorem SlRel.fresh {V V':Vw} (hH:∀ b o,V.Fr b->V.H b=some o->V'.H b=some o) (hF:∀ b,V.Fr b->V'.Fr b) (ht:V'.ti=V.ti) {e:E} (he:freshE e=true) {xs:List e.D} {v:Value} (h:SlRel V true e xs v):SlRel V' true e xs v:=by
 obtain⟨base,cap,hv,h1,h2,hx⟩:=h
 refine⟨base,cap,hv,h1,h2,fun i hi=>?_⟩
 obtain⟨a,u,ha,hf,hu,hc⟩:=hx i hi
 refine⟨a,u,ha,fun k=>hF _ (hf k),hu.fresh hH hF ht he,fun j hj=>?_⟩
 have hsz:=hu.cells.1
 have h3:=hc j hj
 rw [Array.getElem?_eq_getElem om]at h3 ⊢
 unfold Vw.cell at h3 ⊢
 rw [add_block]at h3 ⊢
 cases hb:V.H a.block with
 | none=>rw [hb]at h3;simp at h3
 | some o=>rw [hb]at h3;rw [hH _ _ (hf rfl) hb];exact h3
theorem Enc.fresh {V V':Vw} (hH:∀ b o,V.Fr b->V.H b=some o->V'.H b=some o) (hF:∀ b,V.Fr b->V'.Fr b) (ht:V'.ti=V.ti) {e:E} (he:freshE e=true) {xs:List e.D} {cs:List Value} (h:Enc V e xs cs):Enc V' e xs cs:=
 ⟨h.1,fun i hi=>let ⟨u,h1,h2⟩:=h.2 i hi;⟨u,h1.fresh hH hF ht he,h2⟩⟩
theorem BagRel.fresh {tpr tpr':TypeId} {w:World} {V V':Vw} {v:Value} {d:BagD} (h2:tpr=tpr') (hH:∀ b o,V.Fr b->V.H b=some o->V'.H b=some o) (hF:∀ b,V.Fr b->V'.Fr b) (ht:V'.ti=V.ti) (k:BagRel w V tpr v d):BagRel w V' tpr' v d:=by
 subst h2
 exact⟨k.h,k.d1,k.d2,k.d3,k.d4,k.l,fun h=>by obtain⟨cs,a,b,c⟩:=k.r h;exact⟨cs,a,b.fresh hH hF ht rfl,c⟩,k.s,k.m⟩
theorem BagRel.sub {tpr tpr':TypeId} {w:World} {V V':Vw} {v:Value} {d:BagD} (h2:tpr=tpr') (hs:V.sub V') (k:BagRel w V tpr v d):BagRel w V' tpr' v d:=by
 subst h2
 exact⟨k.h,k.d1,k.d2,k.d3,k.d4,k.l,fun h=>by obtain⟨cs,a,b,c⟩:=k.r h;exact⟨cs,a,b.sub hs,c⟩,k.s,k.m⟩
theorem ORel.mat_tid {tid tid':E->TypeId} {w:World} {V V':Vw} {v:Value} {hs:List (Option Nat)} {rows:List (List Int)} {g g':Nat} {nn:Bool} (h1:tid .lrow=tid' .lrow) (h2:tid .int=tid' .int)
  (k:ORel tid w V v (.mat hs rows g nn)):ORel tid' w V' v (.mat hs rows g' nn):=by
 obtain⟨cs,k1,k2,k3,k4⟩:=k
 exact⟨cs,by rw [<- h1];exact k1,k2,fun i h xs u a b c=>by rw [<- h2];exact k3 i h xs u a b c,k4⟩
theorem ORel.gm_tid {tid tid':E->TypeId} {w:World} {V V':Vw} {v:Value} {D:List Nat} {F:Nat->List Int} {hs:List Nat} {g g':Nat} {nn:Bool} (h1:tid .lrow=tid' .lrow) (h2:tid .int=tid' .int)
  (k:ORel tid w V v (.gm D F hs g nn)):ORel tid' w V' v (.gm D F hs g' nn):=by
 obtain⟨cs,k1,k2,k3,k4⟩:=k
 exact⟨cs,by rw [<- h1];exact k1,k2,fun h hm=>by rw [<- h2];exact k3 h hm,k4⟩
theorem join {B C:Ctx} [hD:DrLe B C] (hP:B.tid=C.tid) {obs obs':List O} {w w':World} {ρ ρ':Nat->Value} {L:Nat->Prop} (hL:∀ b,L b->C.seen obs ρ b) (rr:WRel C obs w ρ) (r':WRel (B.bareL w L) obs' w' ρ') (hf:obs'.all freshO=true) :
  ∃ ρ2,Step C w w' obs (obs ++ obs') ρ ρ2/\∀(x:AV) (v:Value),freshAV x=true->AVRel ((B.bareL w L).V w' obs' ρ') obs' ρ' x v->AVRel (C.V w' (obs ++ obs') ρ2) (obs ++ obs') ρ2 (shiftAV obs.length x) v:=by
 let ρ2:Nat->Value:=fun i=>if i < obs.length then ρ i else ρ' (i - obs.length)
 have hext:Ext0 (fun _=>False) w w':=⟨r'.os0,r'.tape,r'.output,r'.grow,fun b hb _=>r'.kept b hb (fun k=>k)⟩
 have ho':∀ b,Own obs' ρ' b->w.heap.size<=b:=fun b hb=>(r'.own b hb).resolve_right (fun k=>k)
 have split:∀ b,Own (obs ++ obs') ρ2 b->Own obs ρ b\/Own obs' ρ' b:=by
  rintro b ⟨id,o,ho,hfp⟩
  rw [List.getElem?_append]at ho
  split at ho
  ·rename_i hlt
   exact .inl ⟨id,o,ho,by simpa [ρ2,hlt] using hfp⟩
  ·rename_i hlt
   exact .inr ⟨id - obs.length,o,ho,by simpa [ρ2,hlt] using hfp⟩
 have hV:(C.V w obs ρ).le (C.V w' (obs ++ obs') ρ2):=by
  refine⟨fun b x hx=>?_,fun _ h=>h,rfl⟩
  simp only [Ctx.V,mask]at hx ⊢
  split at hx
  ·cases hx
  ·rename_i hn
   have hlt:=(ageS.1 hx).1
   have hn':¬Own (obs ++ obs') ρ2 b:=fun k=>by
    rcases split b k with k | k
    ·exact hn k
    ·have:=ho' b k;omega
   rw [if_neg hn',hext.block b hlt (fun k=>k)]
   exact hx
 have hH:∀ b o,((B.bareL w L).V w' obs' ρ').Fr b->((B.bareL w L).V w' obs' ρ').H b=some o->(C.V w' (obs ++ obs') ρ2).H b=some o:=by
  intro b o hfr hx
  simp only [Ctx.V,mask]at hx ⊢
  split at hx
  ·cases hx
  ·rename_i hn
   have hn':¬Own (obs ++ obs') ρ2 b:=fun k=>by
    rcases split b k with⟨id,o',k1,k2⟩ | k
    ·rcases hfr with hge | hl
     ·have hge:w.heap.size<=b:=hge.resolve_right (fun k=>k)
      have:=(rr.os id o' k1).lt k2;omega
     ·exact(hL b hl).2 ⟨id,o',k1,k2⟩
    ·exact hn k
   rw [if_neg hn']
   exact hx
 have hF:∀ b,((B.bareL w L).V w' obs' ρ').Fr b->(C.V w' (obs ++ obs') ρ2).Fr b:=fun b hfr=>hfr.elim (fun hfr=>.inl (.inl (Nat.le_trans rr.grow (hfr.resolve_right (fun k=>k))))) fun hl=>(hL b hl).1
 have ht:(C.V w' (obs ++ obs') ρ2).ti=((B.bareL w L).V w' obs' ρ').ti:=by show C.tid .int=B.tid .int;rw [hP]
 have hwr:WRel C (obs ++ obs') w' ρ2:=by
  refine⟨fun id o ho=>?_,fun i j o o2 b hi hj bi bj=>?_,fun b hb=>?_,hext.os.trans rr.os0,hext.tape.trans rr.tape,hext.output.trans rr.output,Nat.le_trans rr.grow hext.size,fun hd=>Nat.le_trans (rr.drawn hd) (r'.drawn (hD.h hd)),fun b hb hM=>?_,rr.gl⟩
  ·rw [List.getElem?_append]at ho
   split at ho
   ·rename_i hlt
    have:ρ2 id=ρ id:=by simp [ρ2,hlt]
    rw [this]
    exact(rr.os id o ho).kept0 hV hext (fun _ _ k=>k)
   ·rename_i hlt
    have:ρ2 id=ρ' (id - obs.length):=by simp [ρ2,hlt]
    rw [this]
    have k:=r'.os _ o ho
    cases o with
    | dead=>trivial
    | arr e xs g nn=>
     obtain⟨cs,h1,h2,h3⟩:=k
     have hfo:freshE e=true:=by
      have:=alT.1 hf _ (List.mem_of_getElem? ho)
      simpa [freshO] using this
     exact⟨cs,by have:(B.bareL w L).tid e=C.tid e:=congrFun hP e;rw [<- this];exact h1,h2.fresh hH hF ht hfo,h3⟩
    | mat hs rows g nn=>exact ORel.mat_tid (tid:=(B.bareL w L).tid) (congrFun hP .lrow) (congrFun hP .int) k
    | gm D F hs g nn=>have:=alT.1 hf _ (List.mem_of_getElem? ho);simp [freshO]at this
    | mp _ l2 g2=>exact k
    | ap _ _ _ _ _=>have:=alT.1 hf _ (List.mem_of_getElem? ho);simp [freshO]at this
    | cur _ _=>have:=alT.1 hf _ (List.mem_of_getElem? ho);simp [freshO]at this
    | bag _ _=>have:=alT.1 hf _ (List.mem_of_getElem? ho);simp [freshO]at this
  ·rw [List.getElem?_append]at hi hj
   split at hi<;>split at hj
   ·rename_i h1 h2
    exact rr.dis i j o o2 b hi hj (by simpa [ρ2,h1] using bi) (by simpa [ρ2,h2] using bj)
   ·rename_i h1 h2
    have k1:=(rr.os i o hi).lt (b:=b) (by simpa [ρ2,h1] using bi)
    have k2:=ho' b ⟨_,o2,hj,by simpa [ρ2,h2] using bj⟩
    omega
   ·rename_i h1 h2
    have k1:=(rr.os j o2 hj).lt (b:=b) (by simpa [ρ2,h2] using bj)
    have k2:=ho' b ⟨_,o,hi,by simpa [ρ2,h1] using bi⟩
    omega
   ·rename_i h1 h2
    have:=r'.dis _ _ o o2 b hi hj (by simpa [ρ2,h1] using bi) (by simpa [ρ2,h2] using bj)
    omega
  ·rcases split b hb with k | k
   ·exact rr.own b k
   ·exact .inl (Nat.le_trans rr.grow (ho' b k))
  ·rw [hext.block b (Nat.lt_of_lt_of_le hb rr.grow) (fun k=>k)]
   exact rr.kept b hb hM
 refine⟨ρ2,⟨hwr,hV,by simp,fun id c' hid hc=>⟨c',?_,.inl ⟨rfl,by simp [ρ2,hid]⟩⟩⟩,fun x v hfx hx=>?_⟩
 ·unfold genOf at hc ⊢
  rw [List.getElem?_append_left hid]at hc
  exact hc
 ·cases x with
  | junk=>trivial
  | int k n=>exact hx
  | bool b=>exact hx
  | str s=>exact hx
  | sl f e xs=>
   simp [freshAV]at hfx
   obtain⟨rfl,hfe⟩:=hfx
   exact SlRel.fresh hH hF ht hfe hx
  | lr l xs=>exact LRowRel.fresh hH hF ht hx
  | vec xs=>exact hx
  | nils=>exact hx
  | own id g=>
   refine⟨by have:=hx.1;simp;omega,fun c hc=>?_⟩
   have e1:genOf (obs ++ obs') (obs.length+id)=genOf obs' id:=by unfold genOf;rw [List.getElem?_append_right om];simp
   rw [e1]at hc
   have h3:=hx.2 c hc
   have e2:ρ2 (obs.length+id)=ρ' id:=by
    show(if obs.length+id < obs.length then ρ (obs.length+id)else ρ' (obs.length+id - obs.length))=ρ' id
    rw [if_neg om,Nat.add_sub_cancel_left]
   rw [e2]
   exact h3
  | elt id g s k=>simp [freshAV]at hfx
  | asl id g=>simp [freshAV]at hfx
  | relt f e d=>simp [freshAV]at hfx
  | hdr h n=>simp [freshAV]at hfx
  | emp b=>simp [freshAV]at hfx
  | fn f=>exact hx
  | hp q k=>simp [freshAV]at hfx
  | lenv n=>simp [freshAV]at hfx
  | clo f e d=>simp [freshAV]at hfx
  | mv b=>simp [freshAV]at hfx
  | prv d=>simp [freshAV]at hfx
  | clo3 f a b c=>simp [freshAV]at hfx
theorem FunA.call {B C:Ctx} [DrLe B C] (hP:B.P=C.P) (hT:B.tid=C.tid) {f:FuncId} {args0:List AV} {post:List AV->List O->Prop} (h:FunA B f args0 post) {obs:List O} {args:List AV} (ha:argsOk obs args args0)
  {K:Sl->List O->Prop} (hk:∀ xs obs',post xs obs'->K (resSl obs.length xs) (obs ++ obs')):ACall C obs f args K:=by
 refine⟨fun vs w=>by rw [<- hP];exact h.1 vs w,fun w ρ vs rr hl hx=>?_⟩
 obtain⟨h1,h2⟩:=argsOk_sound (B:=B) hT rr ha hl hx
 rw [<- hP]
 refine(h.2 w (C.seen obs ρ) vs (by rw [hP];exact rr.laid.up (fun _ _ _=>rfl) (fun _ _ _ k=>k)) h1 h2).mono fun e w' ⟨us,he,xs,obs',ρ',hp,hul,hu,hw',hf1,hf2⟩=>?_
 obtain⟨ρ2,hst,hav⟩:=join hT (fun _ h=>h) rr hw' hf2
 refine⟨pack us,he,resSl obs.length xs,obs ++ obs',ρ2,hst,?_,hk xs obs' hp⟩
 have each:∀(i:Nat) (x:AV) (v:Value),xs[i]? = some x->us[i]? = some v->AVRel (C.V w' (obs ++ obs') ρ2) (obs ++ obs') ρ2 (shiftAV obs.length x) v:=fun i x v hx hv=>
  hav x v (alT.1 hf1 _ (List.mem_of_getElem? hx)) (hu i x v hx hv)
 match xs,us,hul with
 | [],[],_=>exact⟨[],rfl,rfl,by simp⟩
 | [x],[u],_=>exact each 0 x u rfl rfl
 | x :: y :: l,u :: u2 :: us,hul=>
  refine⟨u :: u2 :: us,by simp [pack],by simpa using hul,fun i a b ha hb=>?_⟩
  rw [List.getElem?_map,Option.map_eq_some_iff]at ha
  obtain⟨z,hz,rfl⟩:=ha
  exact each i z b hz hb
end Go.Aw
namespace Go.Aw
open Go
def slV:Option (Bool×Sl)->AV
 | some (_,.v x)=>x
 | _=>.junk
def slH:Option (Bool×Sl)->Prop
 | some (ex,_)=>ex=true
 | none=>True
theorem ev_tmp (n:Nat) (fr:List (Nat×Bool×Sl)) (obs:List O) (t:Nat):St.ev ⟨n,fr,obs⟩ (.tmp t)=slV (look t fr):=by
 simp only [St.ev,slV]
 split<;>simp_all
theorem ev_int (σ:St) (k:IntKind) (n:Int):σ.ev (.const (.int k n))=.int k n:=rfl
theorem ev_bool (σ:St) (b:Bool):σ.ev (.const (.bool b))=.bool b:=rfl
theorem ev_str (σ:St) (s:ByteArray):σ.ev (.const (.string s))=.str s.data.toList:=rfl
theorem ev_nil (σ:St):σ.ev (.const (.slice none 0 0))=.nils:=rfl
theorem ev_func (σ:St) (f:Nat):σ.ev (.func f)=.fn f:=rfl
theorem has_tmp (n:Nat) (fr:List (Nat×Bool×Sl)) (obs:List O) (t:Nat):St.has ⟨n,fr,obs⟩ (.tmp t)=slH (look t fr):=by
 simp only [St.has,slH]
 split<;>simp_all
theorem has_const (σ:St) (v:Value):σ.has (.const v)=True:=rfl
theorem has_func (σ:St) (f:Nat):σ.has (.func f)=True:=rfl
theorem slV_v (ex:Bool) (x:AV):slV (some (ex,.v x))=x:=rfl
theorem slV_t (ex:Bool) (l:List AV):slV (some (ex,.t l))=.junk:=rfl
theorem slV_none:slV none=.junk:=rfl
theorem slH_some (ex:Bool) (x:Sl):slH (some (ex,x))=(ex=true):=rfl
theorem slH_none:slH none=True:=rfl
theorem look_nil (s:Nat):look s []=none:=rfl
theorem look_cons (s k:Nat) (x:Bool×Sl) (r:List (Nat×Bool×Sl)):look s ((k,x) :: r)=bif s == k then some x else look s r:=by
 simp only [look];cases s == k<;>rfl
theorem slotOf_cons (d:Option Nat) (r:List (Option Nat)) (j:Nat):slotOf (d :: r) j=bif j == 0 then d else slotOf r (j - 1):=rfl
def aR (C:Ctx) (ds:Rg) (rest:List Oper) (n:Nat) (fr:List (Nat×Bool×Sl)) (d:Option Nat) (K:St->Prop):Res->Prop
 | .bad=>False
 | .ok vc x obs=>vc/\aexec C ds rest (St.put ⟨n,fr,obs⟩ d true (.v x) obs) K
 | .skip vc obs=>vc/\d=none/\aexec C ds rest ⟨n,fr,obs⟩ K
 | .all p x obs=>∀ l,p l->aexec C ds rest (St.put ⟨n,fr,obs l⟩ d true (.v (x l)) (obs l)) K
theorem aexec_nil (C:Ctx) (ds:Rg) (σ:St) (K:St->Prop):aexec C ds [] σ K=K σ:=rfl
section
variable (C:Ctx) (ds:Rg) (rest:List Oper) (n:Nat) (fr:List (Nat×Bool×Sl)) (obs:List O) (K:St->Prop) (d:Nat) (ty:TypeId) (p:String) (af:Array Edge)
theorem mvS_v {op:Op} (hm:∀ t,op≠.move (.tmp t)) (σ:St) (x:AV):mvS σ op x=.v x:=by
 unfold mvS
 split
 ·rename_i t;exact absurd rfl (hm t)
 ·rfl
theorem aexec_plain {op:Op} (h:calleeOf ⟨n,fr,obs⟩ op=none) (hm:∀ t,op≠.move (.tmp t)) (d:Option Nat):aexec C ds (⟨d,op,ty,p,af,none⟩ :: rest) ⟨n,fr,obs⟩ K=(inN n d/\hasAll ⟨n,fr,obs⟩ op/\aR C ds rest n fr d K (astep C ⟨n,fr,obs⟩ op)):=by
 simp only [aexec,aone,h,mvS_v hm]
 congr 1
 cases astep C ⟨n,fr,obs⟩ op with
 | bad=>simp [aR]
 | ok vc x o=>cases d<;>rfl
 | skip vc o=>cases d<;>rfl
 | all q x o=>cases d<;>rfl
theorem inN_some (d:Nat):inN n (some d)=(d < n):=rfl
theorem inN_none:inN n none=True:=rfl
def gexV (b:Bool):Option (Bool×Sl)->Option Bool
 | some (ex,.v (.bool c))=>some (ex && (c == b))
 | _=>none
def lookO (fr:List (Nat×Bool×Sl)):Option Nat->Option (Bool×Sl)
 | some d=>look d fr
 | none=>none
theorem lookO_some (d:Nat):lookO fr (some d)=look d fr:=rfl
theorem gexV_b (b ex c:Bool):gexV b (some (ex,.v (.bool c)))=some (ex && (c == b)):=rfl
theorem gex_eq (j:Nat) (b:Bool):gex ds.ds ⟨n,fr,obs⟩ (some (j,b))=gexV b (lookO fr (slotOf ds.ds j)):=by
 simp only [gex,gexV,lookO]
 cases slotOf ds.ds j with
 | none=>rfl
 | some d=>cases look d fr with
  | none=>rfl
  | some q=>obtain⟨ex,x⟩:=q;cases x with
   | v x=>cases x<;>rfl
   | t l=>rfl
def hG (σ:St) (ex:Bool):Op->Prop
 | .pick c _ _=>ex=true->σ.has c
 | .extract _ _=>True
 | .binOp _ _ x y _=>(ex=true->σ.has x)/\(ex=true->σ.has y)
 | .unOp _ _ x=>ex=true->σ.has x
 | .load _ x=>ex=true->σ.has x
 | .indexAddr _ x y=>(ex=true->σ.has x)/\(ex=true->σ.has y)
 | .slice _ x lo hi none=>(ex=true->σ.has x)/\(∀ y,lo=some y->ex=true->σ.has y)/\(∀ y,hi=some y->ex=true->σ.has y)
 | .call c=>∀ x∈c.args.toList,ex=true->σ.has x
 | .move _=>True
 | .assign _=>True
 | _=>False
def aG (C:Ctx) (ds:Rg) (rest:List Oper) (n:Nat) (fr:List (Nat×Bool×Sl)) (obs:List O) (d:Option Nat) (K:St->Prop) (ex:Bool):Res->Prop
 | .ok vc x _=>(ex=true->vc)/\aexec C ds rest (St.put ⟨n,fr,obs⟩ d ex (.v x) obs) K
 | _=>False
end
end Go.Aw
