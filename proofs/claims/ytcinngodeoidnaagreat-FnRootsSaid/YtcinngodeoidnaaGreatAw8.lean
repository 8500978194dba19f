/- Steps of a walk with their own proofs of what is left to show: they look up 'hC', 'hX', 'hK', 'hfn' where they are used. -/
import Derived.Test.YtcinngodeoidnaaGreatAw7
set_option linter.unusedVariables false
set_option linter.unusedSimpArgs false
namespace Go.Aw
open Go
structure Hid (q:Prop):Prop where
 out:q
theorem ACall.letgo {C:Ctx} {obs:List O} {f:FuncId} {args:List AV} {K:Sl->List O->Prop} (id:Nat) {g:Nat} {e:E} {xs:List e.D} {nn:Bool} (ho:oAt obs id=.arr e xs g nn)
  (h:ACall C (oSet obs id .dead) f (args.map (lrA id g (.sl true e xs))) K):ACall C obs f args K:=by
 refine⟨h.1,fun w ρ vs rr hl ha=>?_⟩
 have ho':obs[id]? = some (.arr e xs g nn):=oAt_lt ho rfl
 obtain⟨hst,hsl⟩:=letgo_sl rr ho'
 rw [<- oSet_eq]at hst hsl
 refine(h.2 w _ vs hst.wr (by simpa using hl) (fun i x v hx hv=>?_)).mono fun e w' ⟨v,he,x,o,ρ',h1,h2,h3⟩=>⟨v,he,x,o,ρ',hst.trans h1,h2,h3⟩
 rw [List.getElem?_map,Option.map_eq_some_iff]at hx
 obtain⟨y,hy,rfl⟩:=hx
 have hv':=ha i y v hy hv
 have mvd:∀ y,AVRel (C.V w obs ρ) obs ρ y v->AVRel (C.V w (oSet obs id .dead) (fun i=>if i=id then ρ id else ρ i)) (oSet obs id .dead) (fun i=>if i=id then ρ id else ρ i) y v:=fun y h=>hst.slot (x:=.v y) h
 cases y with
 | own i' g'=>
  by_cases hc:(i' == id && g' == g)=true
  ·obtain⟨rfl,rfl⟩:i'=id/\g'=g:=by simpa using hc
   have hvρ:v=ρ i':=(hv'.2 g' (by simp [genOf,ho',O.gen])).2 rfl
   simp only [lrA,hc,cond_true]
   rw [hvρ]
   exact hsl
  ·have hc2:(i' == id && g' == g)=false:=by simpa using hc
   simp only [lrA,hc2,cond_false]
   exact mvd _ hv'
 | _=>exact mvd _ hv'
theorem Run.torows {C:Ctx} (hC:C.Ok) {k:List Item} (id:Nat) {n:Nat} {fr:List (Nat×Bool×Sl)} {obs:List O} {g:Nat} {nn:Bool} (ho:oAt obs id=.arr .lrow [] g nn)
  (h:Run C k ⟨n,fr,oSet obs id (.arr (.row true) [] g nn)⟩):Run C k ⟨n,fr,obs⟩:=by
 refine Run.le (fun a w ρ r=>?_) h
 have ho':obs[id]? = some (.arr .lrow [] g nn):=oAt_lt ho rfl
 have hρe:(fun i=>if i=id then ρ id else ρ i)=ρ:=by funext i;split<;>simp_all
 have T:=Turn.one r.w id (.arr .lrow [] g nn) (.arr (.row true) [] g nn) (ρ id) ho' (Ext.refl _ w) (by
  obtain⟨cs,h1,h2,h3,h4⟩:=r.w.os id _ ho'
  refine⟨cs,by rw [hC.same];exact h1,⟨by simpa using h2.1,fun i hi=>by simp at hi⟩,h3,by simp [maxLen]⟩) (fun b hb=>.inl hb) (by
   intro c' hc'
   simp [O.gen]at hc'
   exact⟨g,by simp [O.gen],.inl ⟨hc'.symm,rfl⟩⟩)
 have hst:=T.step r.w
 rw [<- oSet_eq]at hst
 exact⟨_,hst.rel r⟩
theorem Run.R {C:Ctx} {σ σ':St} {k k':List Item} (rest:Run C k' σ') (h:Hid (Run C k' σ')->Run C k σ:=by
  intro hHid
  refine Run.nq ?_
  refine Run.regionW hC (fun K hK=>?_)
  simp only [AW7,simprocAttr,hX]
  (repeat(with_reducible refine And.intro ?_ ?_);exact vc0)
  refine hK _ ?_
  clear hK K
  refine Run.nq ?_
  exact hHid.out):Run C k σ:=h ⟨rest⟩
theorem Run.RW {C:Ctx} {σ σ':St} {k k':List Item} (rest:Run C k' σ') (h:Hid (Run C k' σ')->Run C k σ:=by
  intro hHid
  refine Run.nq ?_
  refine Run.regionW hC (fun K hK=>?_)
  simp(disch:=omega) only [wrap_id,AW7,simprocAttr,hX]
  (repeat(with_reducible refine And.intro ?_ ?_);exact vc0)
  refine hK _ ?_
  clear hK K
  refine Run.nq ?_
  exact hHid.out):Run C k σ:=h ⟨rest⟩
theorem wW {p q:Prop} (rest:q) (h:Hid q->p:=by
  intro hHid
  (try simp only [AW7,simprocAttr,hX])
  (repeat(with_reducible refine And.intro ?_ ?_);exact vc0)
  exact hHid.out):p:=h ⟨rest⟩
theorem wWW {p q:Prop} (rest:q) (h:Hid q->p:=by
  intro hHid
  simp(disch:=omega) only [wrap_id,AW7,simprocAttr,hX]
  (repeat(with_reducible refine And.intro ?_ ?_);exact vc0)
  exact hHid.out):p:=h ⟨rest⟩
theorem wE {p q:Prop} (rest:q) (h:Hid q->p:=by
  intro hHid
  (repeat(with_reducible refine And.intro ?_ ?_);exact vc0)
  refine hK _ ?_
  refine Run.nq ?_
  exact hHid.out):p:=h ⟨rest⟩
theorem Run.cW {C:Ctx} {σ:St} {c:Operand} {x y:Code} {t:Bool} {k:List Item} (ht:t=true->Run C (.code x :: k) σ) (hf:t=false->Run C (.code y :: k) σ)
  (hc:σ.ev c=.bool t:=by simp only [AW7,simprocAttr,hX];rfl) (hh:σ.has c:=by simp only [AW7,simprocAttr,hX]):Run C (.code (.cond c x y) :: k) σ:=Run.cond hc hh ht hf
theorem Run.rW {C:Ctx} {σ:St} {k:List Item} (ts:List Nat) {xs:List AV} (h:Fin C xs σ.obs) (hl:ts.length<=4:=by decide) (hres:C.fn.results=(ts.map ResultVar.tmp).toArray:=by rw [hfn];rfl)
  (hx:evT σ ts=xs:=by simp only [AW7,simprocAttr,hX];rfl) (hh:hasT σ ts:=by simp only [AW7,simprocAttr,hX]):Run C (.code .ret :: k) σ:=Run.retW ts hl hres hx hh h
theorem FunA.cW {B C:Ctx} [DrLe B C] (hP:B.P=C.P) (hT:B.tid=C.tid) {f:FuncId} {args0:List AV} {post:List AV->List O->Prop} (h:FunA B f args0 post) {obs:List O} {args:List AV}
  {K:Sl->List O->Prop} (hk:∀ xs obs',post xs obs'->K (resSl obs.length xs) (obs ++ obs')) (ha:argsOk obs args args0:=by simp only [AW7,simprocAttr]):ACall C obs f args fun x o=>Later (K x o):=FunA.callW hP hT h ha hk
theorem Run.g {C:Ctx} {σ:St} {k k':List Item} {q:(St->Prop)->Prop} (rest:∀ K:St->Prop,(∀ σ',Run C k' σ'->K σ')->q K) (h:Hid (∀ K:St->Prop,(∀ σ',Run C k' σ'->K σ')->q K)->Run C k σ:=by
  intro hHid
  refine Run.nq ?_
  refine Run.regionW hC (fun K hK=>?_)
  (try simp only [AW7,simprocAttr,hX])
  (repeat(with_reducible refine And.intro ?_ ?_);exact vc0)
  exact hHid.out K hK):Run C k σ:=h ⟨rest⟩
theorem Run.c {C:Ctx} {σ:St} {c:Operand} {x y:Code} {t:Bool} {k0 k:List Item} (ht:t=true->Run C (.code x :: k) σ) (hf:t=false->Run C (.code y :: k) σ)
  (h:Hid (Run C (.code (.cond c x y) :: k) σ)->Run C k0 σ:=by
   intro hHid
   refine Run.nq ?_
   exact hHid.out)
  (hc:σ.ev c=.bool t:=by simp only [AW7,simprocAttr,hX];rfl) (hh:σ.has c:=by simp only [AW7,simprocAttr,hX]):Run C k0 σ:=h ⟨Run.cond hc hh ht hf⟩
theorem Run.x {C:Ctx} {σ:St} {k k1 k2:List Item} {id:Nat} (rest:Run C k2 σ) (hk:exitTo id k=some k1:=by rfl) (h:Hid (Run C k2 σ)->Run C k1 σ:=by
  intro hHid
  refine Run.nq ?_
  exact hHid.out):Run C (.code (.exit id) :: k) σ:=Run.exit hk (h ⟨rest⟩)
theorem Run.k {C:Ctx} {k:List Item} (ks π:List Nat) {n:Nat} {fr:List (Nat×Bool×Sl)} {obs:List O} {σ':St} (rest:Run C k σ') (h:Hid (Run C k σ')->Run C k ⟨n,frV (reF π obs fr ks),reOs obs π⟩:=by
  intro hHid
  simp only [AR,AW7,simprocAttr]
  exact hHid.out) (hp:C.pin=[]:=by exact hpin) (hn:nodupB π=true:=by decide) (hl:π.all (fun i=>decide (i < obs.length))=true:=by simp):Run C k ⟨n,fr,obs⟩:=Run.reK hp ks π hn hl (h ⟨rest⟩)
theorem Run.kp {C:Ctx} {k:List Item} (ks π:List Nat) {n:Nat} {fr:List (Nat×Bool×Sl)} {obs:List O} {σ':St} (rest:Run C k σ') (h:Hid (Run C k σ')->Run C k ⟨n,frV (reF π obs fr ks),reOs obs π⟩:=by
  intro hHid
  simp only [AR,AW7,simprocAttr]
  exact hHid.out) (hp:C.pin.length=1:=by exact hpin) (h0:π[0]? = some 0:=by rfl) (hg:gen0 (oAt obs 0)=true:=by simp [oAt,gen0]) (hn:nodupB π=true:=by decide) (hl:π.all (fun i=>decide (i < obs.length))=true:=by simp):Run C k ⟨n,fr,obs⟩:=Run.reKP hp ks π h0 hg hn hl (h ⟨rest⟩)
theorem Run.l {C:Ctx} {k:List Item} (id:Nat) (ks:List Nat) {n:Nat} {fr:List (Nat×Bool×Sl)} {obs:List O} {g:Nat} {e:E} {xs:List e.D} {nn:Bool} {σ':St} (rest:Run C k σ') (ho:oAt obs id=.arr e xs g nn:=by rfl)
  (h:Hid (Run C k σ')->Run C k ⟨n,frV (lrF id g (.sl true e xs) fr ks),oSet obs id .dead⟩:=by
   intro hHid
   simp only [AL,frV_cons,frV_nil,AW7,simprocAttr]
   exact hHid.out):Run C k ⟨n,fr,obs⟩:=Run.letgoK id ks ho (h ⟨rest⟩)
theorem Le.s {C:Ctx} {n n':Nat} {fr fr':List (Nat×Bool×Sl)} {obs obs':List O} (h:Le C ⟨n,fr,obs⟩ ⟨n',fr',obs'⟩:=by exact Le.sub (by first | rfl | simp) (by simp only [AW7,simprocAttr,hX];try simp<;>try(first | rfl | exact⟨rfl,rfl⟩ | exact⟨rfl,rfl,rfl⟩))):Le C ⟨n,fr,obs⟩ ⟨n',fr',obs'⟩:=h
theorem Run.j {C:Ctx} {k:List Item} {σ σ':St} (h:Run C k σ') (hl:Le C σ σ':=by exact Le.sub (by rfl) (by simp only [AW7,simprocAttr];try simp)):Run C k σ:=Run.le hl h
theorem wF {p q:Prop} (rest:q) (h:Hid q->p:=by
  intro hHid
  (try simp only [AW7,simprocAttr,hX])
  (repeat(with_reducible refine And.intro ?_ ?_);exact vc0)
  refine hK _ ?_
  refine Run.nq ?_
  exact hHid.out):p:=h ⟨rest⟩
theorem Run.r {C:Ctx} {σ:St} {k:List Item} {p:Prop} (ts:List Nat) {xs:List AV} (rest:p) (hx:evT σ ts=xs:=by simp only [AW7,simprocAttr,hX];rfl) (h:Hid p->Fin C xs σ.obs:=by
  intro hHid
  exact hfin _ _ rfl rfl hHid.out) (hl:ts.length<=4:=by decide) (hres:C.fn.results=(ts.map ResultVar.tmp).toArray:=by rw [hfn];rfl) (hh:hasT σ ts:=by simp only [AW7,simprocAttr,hX]):Run C (.code .ret :: k) σ:=Run.retW ts hl hres hx hh (h ⟨rest⟩)
theorem FunA.e {B C:Ctx} [DrLe B C] (hP:B.P=C.P) (hT:B.tid=C.tid) {f:FuncId} {args0 rs0:List AV} {o0:List O} (h:FunA B f args0 (fun rs o=>rs=rs0/\o=o0)) {obs:List O} {args:List AV} {K:Sl->List O->Prop} {q:Prop} (rest:q) (ha:argsOk obs args args0:=by simp only [AW7,simprocAttr])
  (hk:Hid q->K (resSl obs.length rs0) (obs ++ o0):=by
   intro hHid
   (try simp only [AW7,simprocAttr,hX])
   (repeat(with_reducible refine And.intro ?_ ?_);exact vc0)
   exact hHid.out):ACall C obs f args fun x o=>Later (K x o):=FunA.cW hP hT h (fun rs o hr=>by obtain⟨h1,h2⟩:=hr;subst h1 h2;exact hk ⟨rest⟩) ha
theorem mz {p:Prop} (h:p:=by(try simp only [List.length_append,List.length_cons,List.length_nil]);omega):p:=h
end Go.Aw
