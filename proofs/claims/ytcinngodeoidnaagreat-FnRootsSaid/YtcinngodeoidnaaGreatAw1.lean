/- The abstract values of the walk, how they stand for the model's values in a world, and how that carries over as the world grows. No program is named here. -/
import Derived.Calls
import Derived.Laws.AppendOwn
import Derived.Laws.MakeOwn
import Derived.Laws.OwnMore
import Derived.Laws.CopyOwn
import Derived.Laws.Cells
import Derived.Laws.Entries
import Derived.Laws.Slices
import Derived.Below
import Derived.IntWalk
import Derived.Lib.LaidTab
import Derived.Lib.ItoaNum
import Derived.OwnWalk
import Derived.Laws.Strings
import Derived.Laws.Concat
import Derived.Laws.Small
import Derived.Laws.Shifts
set_option linter.unusedVariables false
set_option linter.unusedSimpArgs false
namespace Go
@[reducible] def LL:Type:=List (List Int)
@[reducible] def LI:Type:=List Int
theorem om {p:Prop} (h:p:=by omega):p:=h
theorem gdE:type_of% @List.getD_eq_getElem?_getD:=@List.getD_eq_getElem?_getD
theorem geE:type_of% @List.getElem?_eq_getElem:=@List.getElem?_eq_getElem
theorem dtE:type_of% @decide_eq_true_eq:=@decide_eq_true_eq
theorem dfE:type_of% @decide_eq_false_iff_not:=@decide_eq_false_iff_not
theorem lenA:type_of% @List.length_append:=@List.length_append
theorem lenC:type_of% @List.length_cons:=@List.length_cons
theorem geS:type_of% @List.getElem?_eq_some_iff:=@List.getElem?_eq_some_iff
theorem geN:type_of% @List.getElem?_eq_none:=@List.getElem?_eq_none
theorem mcS:type_of% @List.mem_cons_self:=@List.mem_cons_self
theorem lenN:type_of% @List.length_nil:=@List.length_nil
theorem nilZ:type_of% @List.eq_nil_of_length_eq_zero:=@List.eq_nil_of_length_eq_zero
theorem bAnd:type_of% @Bool.and_eq_true:=@Bool.and_eq_true
theorem ageS:type_of% @Array.getElem?_eq_some_iff:=@Array.getElem?_eq_some_iff
theorem tkL:type_of% @List.take_length:=@List.take_length
theorem alT:type_of% @List.all_eq_true:=@List.all_eq_true
theorem nz0:type_of% @Nat.zero_le:=@Nat.zero_le
theorem mcM:type_of% @List.mem_cons_of_mem:=@List.mem_cons_of_mem
end Go
namespace Go.Aw
open Go
inductive E where
 | int | byte | bool | str | row (f:Bool) | lrow | vec | pr
 deriving DecidableEq
@[reducible] def E.D:E->Type
 | .int=>Int
 | .byte=>Int
 | .bool=>Bool
 | .str=>List UInt8
 | .row _=>List Int
 | .lrow=>Nat×List Int
 | .vec=>List Int
 | .pr=>List Int×List Int
def E.size:E->Nat
 | .vec=>4
 | .pr=>2
 | _=>1
def E.bytes:E->Nat
 | .int=>8
 | .byte=>1
 | .bool=>1
 | .str=>16
 | .row _=>24
 | .lrow=>24
 | .vec=>32
 | .pr=>48
def E.zero:E->Value
 | .int=>.int .i64 0
 | .byte=>.int .u8 0
 | .bool=>.bool false
 | .str=>.string ByteArray.empty
 | .row _=>.slice none 0 0
 | .lrow=>.slice none 0 0
 | .vec=>.agg #[.int .i64 0,.int .i64 0,.int .i64 0,.int .i64 0]
 | .pr=>.agg #[.slice none 0 0,.slice none 0 0]
structure Vw where
 H:Nat->Option Obj
 Fr:Nat->Prop
 ti:TypeId
def Vw.cell (V:Vw) (a:Addr):Option Value:=
 match V.H a.block with
 | some (.cells c _ _)=>if a.spot.isSome then none else c[a.off]?
 | _=>none
structure Vw.le (V V':Vw):Prop where
 H:∀ b o,V.H b=some o->V'.H b=some o
 Fr:∀ b,V.Fr b->V'.Fr b
 ti:V'.ti=V.ti
theorem Vw.le.refl (V:Vw):V.le V:=⟨fun _ _ h=>h,fun _ h=>h,rfl⟩
theorem Vw.le.trans {A B C:Vw} (h:A.le B) (k:B.le C):A.le C:=
 ⟨fun b o x=>k.H b o (h.H b o x),fun b x=>k.Fr b (h.Fr b x),k.ti.trans h.ti⟩
theorem Vw.le.cell {V V':Vw} (h:V.le V') {a:Addr} {v:Value} (hc:V.cell a=some v):V'.cell a=some v:=by
 unfold Vw.cell at *
 cases hb:V.H a.block with
 | none=>rw [hb]at hc;simp at hc
 | some o=>rw [hb]at hc;rw [h.H _ _ hb];exact hc
def RowRel (V:Vw) (f:Bool) (xs:List Int) (v:Value):Prop:=
 ∃ base cap,v=.slice base xs.length cap/\xs.length<=cap/\cap<=maxLen /\
  ∀ i (_:i < xs.length),∃ a,base=some a/\(f=true->V.Fr a.block)/\V.cell (a.add i)=some (.int .i64 xs[i])
def LRowRel (V:Vw) (l:Nat) (xs:List Int) (v:Value):Prop:=
 ∃ cap cur,v=.slice (some ⟨l,0,none⟩) xs.length cap/\V.Fr l/\V.H l=some (.cells cur V.ti (0,0))/\xs.length<=cap/\cap<=maxLen /\
  cur.size=cap/\cur.toList.take xs.length=xs.map (Value.int .i64)
def ElRel (V:Vw):(e:E)->e.D->Value->Prop
 | .int,n,v=>v=.int .i64 n
 | .byte,n,v=>v=.int .u8 n
 | .bool,b,v=>v=.bool b
 | .str,s,v=>v=.string ⟨s.toArray⟩/\s.length<=maxLen
 | .row f,xs,v=>RowRel V f xs v
 | .lrow,(l,xs),v=>LRowRel V l xs v
 | .vec,xs,v=>v=.agg (xs.map (Value.int .i64)).toArray/\xs.length=4
 | .pr,(xs,ys),v=>∃ u1 u2,v=.agg #[u1,u2]/\RowRel V true xs u1/\RowRel V true ys u2
theorem RowRel.mono {V V':Vw} (h:V.le V') {f:Bool} {xs:List Int} {v:Value}:RowRel V f xs v->RowRel V' f xs v
 | ⟨base,cap,hv,h1,h2,hx⟩=>⟨base,cap,hv,h1,h2,fun i hi=>
   let ⟨a,ha,hf,hc⟩:=hx i hi
   ⟨a,ha,fun e=>h.Fr _ (hf e),h.cell hc⟩⟩
theorem LRowRel.mono {V V':Vw} (h:V.le V') {l:Nat} {xs:List Int} {v:Value}:LRowRel V l xs v->LRowRel V' l xs v
 | ⟨cap,cur,hv,hf,hb,rest⟩=>⟨cap,cur,hv,h.Fr _ hf,by rw [h.ti];exact h.H _ _ hb,rest⟩
theorem ElRel.mono {V V':Vw} (h:V.le V'):{e:E}->{d:e.D}->{v:Value}->ElRel V e d v->ElRel V' e d v
 | .int,_,_,k=>k
 | .byte,_,_,k=>k
 | .bool,_,_,k=>k
 | .str,_,_,k=>k
 | .row _,_,_,k=>RowRel.mono h k
 | .lrow,(_,_),_,k=>LRowRel.mono h k
 | .vec,_,_,k=>k
 | .pr,(_,_),_,⟨u1,u2,hv,h1,h2⟩=>⟨u1,u2,hv,RowRel.mono h h1,RowRel.mono h h2⟩
theorem RowRel.oneCell {V:Vw} {f:Bool} {xs:List Int} {v:Value} (h:RowRel V f xs v):v.oneCell'=true:=by
 obtain⟨b,c,rfl,_⟩:=h;rfl
theorem LRowRel.oneCell {V:Vw} {l:Nat} {xs:List Int} {v:Value} (h:LRowRel V l xs v):v.oneCell'=true:=by
 obtain⟨b,c,rfl,_⟩:=h;rfl
theorem cells_oneCell {v:Value} (h:v.oneCell'=true):v.cells=#[v]:=by
 cases v<;>first | rfl | simp [Value.oneCell']at h
theorem ElRel.cells {V:Vw}:{e:E}->{d:e.D}->{v:Value}->ElRel V e d v->v.cells.size=e.size/\∀ u∈v.cells.toList,u.oneCell'=true
 | .int,_,_,k=>by cases k;simp [Value.cells,E.size,Value.oneCell']
 | .byte,_,_,k=>by cases k;simp [Value.cells,E.size,Value.oneCell']
 | .bool,_,_,k=>by cases k;simp [Value.cells,E.size,Value.oneCell']
 | .str,_,_,k=>by obtain⟨rfl,_⟩:=k;simp [Value.cells,E.size,Value.oneCell']
 | .row _,_,v,k=>by have:=RowRel.oneCell k;rw [cells_oneCell this];simp [E.size,this]
 | .lrow,(_,_),v,k=>by have:=LRowRel.oneCell k;rw [cells_oneCell this];simp [E.size,this]
 | .vec,xs,_,k=>by
   obtain⟨rfl,h4⟩:=k
   simp only [Value.cells,E.size]
   refine⟨by simp [h4],?_⟩
   simp [Value.oneCell']
 | .pr,(_,_),_,⟨u1,u2,hv,h1,h2⟩=>by
   subst hv
   simp [Value.cells,E.size,RowRel.oneCell h1,RowRel.oneCell h2]
def Enc (V:Vw) (e:E) (xs:List e.D) (cs:List Value):Prop:=
 cs.length=xs.length*e.size/\∀ i (h:i < xs.length),∃ u,ElRel V e xs[i] u/\∀ j,j < e.size->cs[i*e.size+j]? = u.cells[j]?
theorem Enc.mono {V V':Vw} (h:V.le V') {e:E} {xs:List e.D} {cs:List Value} (k:Enc V e xs cs):Enc V' e xs cs:=
 ⟨k.1,fun i hi=>let ⟨u,h1,h2⟩:=k.2 i hi;⟨u,h1.mono h,h2⟩⟩
def SlRel (V:Vw) (f:Bool) (e:E) (xs:List e.D) (v:Value):Prop:=
 ∃ base cap,v=.slice base xs.length cap/\xs.length<=cap/\cap<=maxLen /\
  ∀ i (h:i < xs.length),∃ a u,base=some a/\(f=true->V.Fr a.block)/\ElRel V e xs[i] u/\∀ j,j < e.size->V.cell (a.add (i*e.size+j))=u.cells[j]?
theorem SlRel.mono {V V':Vw} (h:V.le V') {f:Bool} {e:E} {xs:List e.D} {v:Value}:SlRel V f e xs v->SlRel V' f e xs v
 | ⟨base,cap,hv,h1,h2,hx⟩=>⟨base,cap,hv,h1,h2,fun i hi=>by
   obtain⟨a,u,ha,hf,hr,hc⟩:=hx i hi
   refine⟨a,u,ha,fun k=>h.Fr _ (hf k),hr.mono h,fun j hj=>?_⟩
   have hsz:=hr.cells.1
   have h3:=hc j hj
   rw [Array.getElem?_eq_getElem om]at h3 ⊢
   exact h.cell h3⟩
theorem RowRel.toSl {V:Vw} {f:Bool} {xs:List Int} {v:Value} (h:RowRel V f xs v):SlRel V f .int xs v:=by
 obtain⟨base,cap,hv,h1,h2,hx⟩:=h
 refine⟨base,cap,hv,h1,h2,fun i hi=>?_⟩
 obtain⟨a,ha,hf,hc⟩:=hx i hi
 refine⟨a,.int .i64 xs[i],ha,hf,rfl,fun j hj=>?_⟩
 have:j=0:=by simp [E.size]at hj;omega
 subst this
 simpa [E.size,Value.cells] using hc
theorem SlRel.toRow {V:Vw} {f:Bool} {xs:List Int} {v:Value} (h:SlRel V f .int xs v):RowRel V f xs v:=by
 obtain⟨base,cap,hv,h1,h2,hx⟩:=h
 refine⟨base,cap,hv,h1,h2,fun i hi=>?_⟩
 obtain⟨a,u,ha,hf,hr,hc⟩:=hx i hi
 cases hr
 refine⟨a,ha,hf,?_⟩
 have:=hc 0 (by simp [E.size])
 simpa [E.size,Value.cells] using this
theorem add_add (a:Addr) (m n:Nat):(a.add m).add n=a.add (m+n):=by
 unfold Addr.add
 by_cases hm:m=0
 ·subst hm;simp
 ·by_cases hn:n=0
  ·subst hn;simp [hm]
  ·simp [hm,hn,Nat.add_assoc]
theorem add_block (a:Addr) (n:Nat):(a.add n).block=a.block:=by unfold Addr.add;split<;>rfl
theorem add_plain (b o n:Nat):(⟨b,o,none⟩:Addr).add n=⟨b,o+n,none⟩:=by
 unfold Addr.add;split<;>simp_all
theorem SlRel.weaken {V:Vw} {f:Bool} {e:E} {xs:List e.D} {v:Value} (h:SlRel V f e xs v):SlRel V false e xs v:=by
 obtain⟨base,cap,hv,h1,h2,hx⟩:=h
 exact⟨base,cap,hv,h1,h2,fun i hi=>let ⟨a,u,ha,_,r⟩:=hx i hi;⟨a,u,ha,by simp,r⟩⟩
theorem RowRel.weaken {V:Vw} {f:Bool} {xs:List Int} {v:Value} (h:RowRel V f xs v):RowRel V false xs v:=
 (h.toSl.weaken).toRow
theorem SlRel.piece {V:Vw} {f:Bool} {e:E} {xs:List e.D} {base:Option Addr} {len cap:Nat} (h:SlRel V f e xs (.slice base len cap)) {lo hi m:Nat} (h1:lo<=hi) (h2:hi<=xs.length) (hm:hi<=m) (hm2:m<=maxLen)
  {base':Option Addr} (hb:lo < hi->base'=base.map (·.add (lo*e.size))):SlRel V f e ((xs.drop lo).take (hi - lo)) (.slice base' (hi - lo) (m - lo)):=by
 obtain⟨b,c,hv,h3,h4,hx⟩:=h
 cases hv
 have hl:((xs.drop lo).take (hi - lo)).length=hi - lo:=by simp;omega
 refine⟨base',m - lo,by rw [hl],by rw [hl];omega,by omega,fun i hi'=>?_⟩
 rw [hl]at hi'
 obtain⟨a,u,ha,hf,hr,hc⟩:=hx (lo+i) om
 refine⟨a.add (lo*e.size),u,by rw [hb om,ha];rfl,by rw [add_block];exact hf,by simpa using hr,fun j hj=>?_⟩
 rw [add_add,<- hc j hj,Nat.add_mul,Nat.add_assoc]
theorem E.size_pos (e:E):0 < e.size:=by cases e<;>simp [E.size]
structure Vw.sub (V V':Vw):Prop where
 H:∀ b o,V.H b=some o->V'.H b=some o
 Fr:∀ b o,V.H b=some o->V.Fr b->V'.Fr b
 ti:V'.ti=V.ti
theorem Vw.sub.cell {V V':Vw} (h:V.sub V') {a:Addr} {v:Value} (hc:V.cell a=some v):V'.cell a=some v/\(V.Fr a.block->V'.Fr a.block):=by
 unfold Vw.cell at *
 cases hb:V.H a.block with
 | none=>rw [hb]at hc;simp at hc
 | some o=>rw [hb]at hc;rw [h.H _ _ hb];exact⟨hc,h.Fr _ _ hb⟩
theorem RowRel.sub {V V':Vw} (h:V.sub V') {f:Bool} {xs:List Int} {v:Value}:RowRel V f xs v->RowRel V' f xs v
 | ⟨base,cap,hv,h1,h2,hx⟩=>⟨base,cap,hv,h1,h2,fun i hi=>by
   obtain⟨a,ha,hf,hc⟩:=hx i hi
   have:=h.cell hc
   rw [add_block]at this
   exact⟨a,ha,fun e=>this.2 (hf e),this.1⟩⟩
theorem LRowRel.sub {V V':Vw} (h:V.sub V') {l:Nat} {xs:List Int} {v:Value}:LRowRel V l xs v->LRowRel V' l xs v
 | ⟨cap,cur,hv,hf,hb,rest⟩=>⟨cap,cur,hv,h.Fr _ _ hb hf,by rw [h.ti];exact h.H _ _ hb,rest⟩
theorem ElRel.sub {V V':Vw} (h:V.sub V'):{e:E}->{d:e.D}->{v:Value}->ElRel V e d v->ElRel V' e d v
 | .int,_,_,k=>k
 | .byte,_,_,k=>k
 | .bool,_,_,k=>k
 | .str,_,_,k=>k
 | .row _,_,_,k=>RowRel.sub h k
 | .lrow,(_,_),_,k=>LRowRel.sub h k
 | .vec,_,_,k=>k
 | .pr,(_,_),_,⟨u1,u2,hv,h1,h2⟩=>⟨u1,u2,hv,RowRel.sub h h1,RowRel.sub h h2⟩
theorem Enc.sub {V V':Vw} (h:V.sub V') {e:E} {xs:List e.D} {cs:List Value} (k:Enc V e xs cs):Enc V' e xs cs:=
 ⟨k.1,fun i hi=>let ⟨u,h1,h2⟩:=k.2 i hi;⟨u,h1.sub h,h2⟩⟩
theorem SlRel.sub {V V':Vw} (h:V.sub V') {f:Bool} {e:E} {xs:List e.D} {v:Value}:SlRel V f e xs v->SlRel V' f e xs v
 | ⟨base,cap,hv,h1,h2,hx⟩=>⟨base,cap,hv,h1,h2,fun i hi=>by
   obtain⟨a,u,ha,hf,hr,hc⟩:=hx i hi
   have hsz:=hr.cells.1
   refine⟨a,u,ha,fun k=>?_,hr.sub h,fun j hj=>?_⟩
   ·have h3:=hc 0 e.size_pos
    rw [Array.getElem?_eq_getElem (by have:=e.size_pos;omega)]at h3
    have:=(h.cell h3).2
    rw [add_block]at this
    exact this (hf k)
   ·have h3:=hc j hj
    rw [Array.getElem?_eq_getElem om]at h3 ⊢
    exact(h.cell h3).1⟩
theorem LRowRel.toRow {V:Vw} {l:Nat} {xs:List Int} {v:Value} (h:LRowRel V l xs v):RowRel V true xs v:=by
 obtain⟨cap,cur,hv,hf,hb,h1,h2,h3,h4⟩:=h
 refine⟨some ⟨l,0,none⟩,cap,hv,h1,h2,fun i hi=>⟨⟨l,0,none⟩,rfl,fun _=>hf,?_⟩⟩
 rw [add_plain]
 have:(cur.toList.take xs.length)[i]? = (xs.map (Value.int .i64))[i]?:=by rw [h4]
 rw [List.getElem?_take,if_pos hi]at this
 simp [Vw.cell,hb]
 simpa [hi] using this
end Go.Aw
namespace Go.Aw
open Go
open Go.RowKit (Below)
theorem ask_drawn {α:Type}:∀(k:Ask α) (w:World),w.drawn<=(w.ask k).2.drawn
 | .done a,w=>Nat.le_refl _
 | .ask what range k,w=>by
  unfold World.ask
  simp only
  split
  ·exact ask_drawn _ w
  ·exact Nat.le_trans (Nat.le_succ _) (ask_drawn _ { w with drawn:=w.drawn+1 })
theorem sys_drawn (c:Sys) (w:World):w.drawn<=(w.sys c).2.drawn:=by
 have h:=ask_drawn (Kernel.perform c w.os) w
 unfold World.sys
 generalize w.ask (Kernel.perform c w.os)=r at h
 obtain⟨⟨r,os⟩,w'⟩:=r
 cases r<;>first | exact h | exact Nat.le_refl _
theorem view_drawn {p:Program} {w w':World} {a k:Addr} {u:TypeId} {v:Value} {b:Bool} {l:List Addr} (h:w.viewStore p a u k v b=.ok (w',l)):w'.drawn=w.drawn:=by
 unfold World.viewStore at h
 simp only [bind,Except.bind,pure,Except.pure]at h
 (repeat' split at h)<;>first | (cases h;done) | (cases h;rfl)
theorem run_drawn {α:Type} {P:Program}:∀(m:Sem α) {w w':World} {a:α},m.run P w=.ok a w'->w.drawn<=w'.drawn:=by
 intro m
 induction m with
 | pure b=>intro w w' a h;simp only [Sem.run]at h;cases h;exact Nat.le_refl _
 | load m x k ih=>
  intro w w' a h
  simp only [Sem.run]at h
  split at h
  ·exact ih _ h
  ·split at h
   ·exact ih _ h
   ·cases h
 | store m x v k ih=>
  intro w w' a h
  have key:(match w.cell? x with
   | some _=>if w.frozen? x then Result.halt (.unsupported (.unsafePointer "a write to bytes that a string shares")) w else k.run P (w.setCell x v)
   | none=>match w.farStore P x v (m == Mode.atomic) with
    | .ok (w,_)=>k.run P w
    | .error h=>.halt h w)=.ok a w':=by
   cases v<;>first | exact h | (simp only [Sem.run]at h;done) | (simp only [Sem.run]at h;cases h;done) | (simp only [Sem.run]at h;exact h)
  split at key
  ·split at key
   ·cases key
   ·have t:=ih key;exact t
  ·split at key
   ·rename_i w2 l hf
    unfold World.farStore at hf
    split at hf
    ·split at hf
     ·rename_i r hv
      obtain⟨w3,l3⟩:=r
      cases hf
      have:=view_drawn hv
      have:=ih key
      omega
     ·cases hf
    ·cases hf
   ·cases key
 | new o k ih=>
  intro w w' a h
  simp only [Sem.run]at h
  have t:=ih _ h
  exact t
 | shape r k ih=>
  intro w w' a h
  simp only [Sem.run]at h
  exact ih _ h
 | freeze x n k ih=>
  intro w w' a h
  simp only [Sem.run]at h
  have:=ih h
  have e:(w.freeze x n).drawn=w.drawn:=by unfold World.freeze;split<;>rfl
  omega
 | frozen x k ih=>
  intro w w' a h
  simp only [Sem.run]at h
  exact ih _ h
 | getObj r k ih=>
  intro w w' a h
  simp only [Sem.run]at h
  split at h<;>first | (cases h;done) | exact ih _ h
 | setObj r o k ih=>
  intro w w' a h
  simp only [Sem.run]at h
  split at h<;>first | (cases h;done) | (have t:=ih h;exact t)
 | choose q k ih=>
  intro w w' a h
  simp only [Sem.run]at h
  split at h
  ·exact ih _ h
  ·exact Nat.le_trans (Nat.le_succ _) (ih _ h)
 | sys c k ih=>
  intro w w' a h
  simp only [Sem.run]at h
  exact Nat.le_trans (sys_drawn c w) (ih _ h)
 | program k ih=>
  intro w w' a h
  simp only [Sem.run]at h
  exact ih _ h
 | mark x k ih=>
  intro w w' a h
  simp only [Sem.run]at h
  exact ih h
 | halt x=>
  intro w w' a h
  simp only [Sem.run]at h
  cases h
inductive AV where
 | junk
 | int (k:IntKind) (n:Int)
 | bool (b:Bool)
 | str (s:List UInt8)
 | sl (f:Bool) (e:E) (xs:List e.D)
 | lr (l:Nat) (xs:List Int)
 | vec (xs:List Int)
 | nils
 | own (id g:Nat)
 | elt (id g s k:Nat)
 | relt (f:Bool) (e:E) (d:e.D)
 | hdr (h:Option Nat) (n:Nat)
 | emp (b:Bool)
 | fn (f:Nat)
 | hp (h k:Nat)
 | lenv (n:Nat)
 | clo (f:Nat) (e:E) (d:e.D)
 | mv (b:Nat)
 | prv (d:E.pr.D)
 | clo3 (f a b c:Nat)
 | asl (id g:Nat)
inductive MK where
 | str (s:List UInt8)
 | vec (xs:List Int)
 deriving DecidableEq
inductive MV where
 | bool (b:Bool)
 | int (n:Int)
structure MT where
 kv:Bool
 vi:Bool
def MK.val:MK->Value
 | .str s=>.string ⟨s.toArray⟩
 | .vec xs=>.agg (xs.map (Value.int .i64)).toArray
def MV.val:MV->Value
 | .bool b=>.bool b
 | .int n=>.int .i64 n
def MK.ok:Bool->MK->Prop
 | false,.str _=>True
 | true,.vec xs=>xs.length=4
 | _,_=>False
def MV.ok:Bool->MV->Prop
 | false,.bool _=>True
 | true,.int _=>True
 | _,_=>False
structure BagD where
 ph:Nat
 hb:Nat
 hn:Int
 lb:Nat
 st:Bool
 xs:List (List Int×List Int)
 sb:Nat
 mb:Nat
 m:MT
 ml:List (MK×MV)
inductive O where
 | dead
 | arr (e:E) (xs:List e.D) (g:Nat) (nn:Bool)
 | mat (hs:List (Option Nat)) (rows:List (List Int)) (g:Nat) (nn:Bool)
 | gm (D:List Nat) (F:Nat->List Int) (hs:List Nat) (g:Nat) (nn:Bool)
 | mp (m:MT) (l:List (MK×MV)) (g:Nat)
 | ap (h:Nat) (ys:List (Nat×List Int)) (fr:Bool) (g:Nat) (nn:Bool)
 | cur (s:Value) (g:Nat)
 | bag (d:BagD) (g:Nat)
def O.gen:O->Option Nat
 | .dead=>none
 | .arr _ _ g _=>some g
 | .mat _ _ g _=>some g
 | .gm _ _ _ g _=>some g
 | .mp _ _ g=>some g
 | .ap _ _ _ g _=>some g
 | .cur _ g=>some g
 | .bag _ g=>some g
def hdB (h:Nat):Nat:=h / 18446744073709551616
def hdC (h:Nat):Nat:=h % 18446744073709551616
def MRel (w:World) (ti:TypeId) (h:Option Nat) (xs:List Int) (v:Value):Prop:=
 match h with
 | none=>v=.slice none 0 0/\xs=[]
 | some h=>v=.slice (some ⟨hdB h,0,none⟩) xs.length (hdC h)/\∃ cur,w.heap[hdB h]? = some (.cells cur ti (0,0))/\xs.length<=hdC h/\hdC h<=maxLen/\cur.size=hdC h/\cur.toList.take xs.length=xs.map (Value.int .i64)
inductive Sl where
 | v (x:AV)
 | t (l:List AV)
structure St where
 n:Nat
 fr:List (Nat×Bool×Sl)
 obs:List O
def genOf (obs:List O) (id:Nat):Option Nat:=(obs[id]?).bind O.gen
def AVRel (V:Vw) (obs:List O) (ρ:Nat->Value):AV->Value->Prop
 | .junk,_=>True
 | .int k n,v=>v=.int k n
 | .bool b,v=>v=.bool b
 | .str s,v=>v=.string ⟨s.toArray⟩
 | .sl f e xs,v=>SlRel V f e xs v
 | .lr l xs,v=>LRowRel V l xs v
 | .vec xs,v=>v=.agg (xs.map (Value.int .i64)).toArray/\xs.length=4
 | .nils,v=>v=.slice none 0 0
 | .own id g,v=>id < obs.length/\∀ c,genOf obs id=some c->g<=c/\(g=c->v=ρ id)
 | .elt id g s k,v=>id < obs.length/\∀ c,genOf obs id=some c->g<=c/\(g=c->∃ a len cap,ρ id=.slice (some a) len cap/\k < len/\v=.pointer (some (a.add (k*s))))
 | .relt f e d,v=>∃ a u,v=.pointer (some a)/\(f=true->V.Fr a.block)/\ElRel V e d u/\∀ j,j < e.size->V.cell (a.add j)=u.cells[j]?
 | .hdr h n,v=>v=(match h with | none=>.slice none 0 0 | some h=>.slice (some ⟨hdB h,0,none⟩) n (hdC h))
 | .emp b,v=>∃ a c,v=.slice a 0 c/\c<=maxLen/\a.isNone=b
 | .fn f,v=>v=.func (.func f) #[] #[]
 | .hp h k,v=>v=.pointer (some ((⟨hdB h,0,none⟩:Addr).add k))
 | .lenv n,v=>∃ a c,v=.slice a n c
 | .clo f e d,v=>∃ a u,v=.func (.func f) #[] #[.pointer (some a)]/\V.Fr a.block/\ElRel V e d u/\∀ j,j < e.size->V.cell (a.add j)=u.cells[j]?
 | .mv b,v=>v=.map (some b)
 | .prv d,v=>ElRel V .pr d v
 | .asl id g,v=>id < obs.length/\∀ c,genOf obs id=some c->g<=c/\(g=c->∃ a len cap,ρ id=.slice (some a) len cap/\v=.slice (some a) 4 4)
 | .clo3 f a b c,v=>v=.func (.func f) #[] #[.pointer (some ⟨hdB a,0,none⟩),.pointer (some ⟨hdB b,0,none⟩),.pointer (some ⟨hdB c,0,none⟩)]
def SlotRel (V:Vw) (obs:List O) (ρ:Nat->Value):Sl->Value->Prop
 | .v x,v=>AVRel V obs ρ x v
 | .t l,v=>∃ vs:List Value,v=.tuple vs.toArray/\vs.length=l.length/\∀(i:Nat) (x:AV) (y:Value),l[i]? = some x->vs[i]? = some y->AVRel V obs ρ x y
inductive BT where
 | int (k:IntKind) | bool | str
def BT.desc:BT->TypeDesc
 | .int k=>.int k
 | .bool=>.bool
 | .str=>.string
structure Ctx where
 P:Program
 fn:Func
 R:Ending->World->Prop
 w0:World
 M:Nat->Prop
 tid:E->TypeId
 Γ:TypeId->Option E
 bt:TypeId->Option BT
 mt:TypeId->Option MT
 pin:List Value
 L:Nat->Prop
 wt:TypeId->Option E
 dr:Bool
 pt:TypeId->Bool
structure Ctx.Ok (C:Ctx):Prop where
 sl:∀ t e,C.Γ t=some e->C.P.underlying t=some (.slice (C.tid e))/\∃ i,C.P.info? (C.tid e)=some i/\i.zero=some e.zero/\i.size=e.size/\i.bytes=e.bytes
 slc:∀ t e,C.Γ t=some e->∃ i,C.P.info? t=some i/\i.size=1
 bt:∀ t b,C.bt t=some b->C.P.underlying t=some b.desc/\∃ i,C.P.info? t=some i/\i.size=1
 same:∀ f,C.tid (.row f)=C.tid .lrow
 mixed:C.P.follows .mixedOrders=true
 u8:∀ t,C.Γ t=some .byte->C.P.underlying (C.tid .byte)=some (.int .u8)
 mt:∀ t m,C.mt t=some m->∃ kt et,C.P.underlying t=some (.map kt et)/\(m.kv=false->C.P.underlying kt=some .string)/\(m.kv=true->∃ ti,C.P.underlying kt=some (.array 4 ti)/\C.P.underlying ti=some (.int .i64)/\∃ i,C.P.info? ti=some i/\i.size=1)/\∀ w,(zeroValue et).run C.P w=.ok (if m.vi then .int .i64 0 else .bool false) w
 wt:∀ t e,C.wt t=some e->t=C.tid e/\e=.vec/\∃ ti,C.P.underlying t=some (.array 4 ti)/\C.P.underlying ti=some (.int .i64)/\(∃ i,C.P.info? ti=some i/\i.size=1)/\∃ i,C.P.info? t=some i/\i.zero=some e.zero/\i.size=e.size
 lr:∃ i,C.P.info? (C.tid .lrow)=some i/\i.zero=some (.slice none 0 0)/\i.size=1
 slz:∀ t e,C.Γ t=some e->∃ i,C.P.info? t=some i/\i.zero=some (.slice none 0 0)
 mtz:∀ t m,C.mt t=some m->∃ i z,C.P.info? t=some i/\i.size=1/\i.zero=some z/\z.oneCell'=true
 pt:∀ t,C.pt t=true->t=C.tid .pr/\∃ f0 f1,C.P.underlying t=some (.struct #[f0,f1])/\f0.offset=0/\f1.offset=1/\(∃ i,C.P.info? f0.type=some i/\i.size=1)/\(∃ i,C.P.info? f1.type=some i/\i.size=1)/\∃ i,C.P.info? t=some i/\i.zero=some E.pr.zero/\i.size=2
def Ctx.sc (C:Ctx) (t:TypeId):Bool:=(C.bt t).isSome || (C.Γ t).isSome
def Ctx.Wr (C:Ctx) (b:Nat):Prop:=C.w0.heap.size<=b\/C.M b
def Ctx.Fr (C:Ctx) (b:Nat):Prop:=C.Wr b\/C.L b
def fpo (v:Value):O->Nat->Prop
 | .dead,_=>False
 | .arr _ _ _ _,b=>v.ownBlock=some b
 | .mat hs _ _ _,b=>v.ownBlock=some b\/∃ h,some h∈hs/\hdB h=b
 | .gm D _ _ _ _,b=>v.ownBlock=some b\/∃ h,h∈D/\hdB h=b
 | .mp _ _ _,b=>v=.map (some b)
 | .ap h _ _ _ _,b=>v.ownBlock=some b\/hdB h=b
 | .cur _ _,b=>v=.pointer (some ⟨b,0,none⟩)
 | .bag d _,b=>b=hdB d.hb\/(1<=d.ph/\b=hdB d.lb)\/(2<=d.ph/\v.ownBlock=some b)\/(3<=d.ph/\b=hdB d.sb)\/(4<=d.ph/\b=d.mb)
def Own (obs:List O) (ρ:Nat->Value) (b:Nat):Prop:=∃ id o,obs[id]? = some o/\fpo (ρ id) o b
open Classical in
noncomputable def mask (w:World) (obs:List O) (ρ:Nat->Value) (b:Nat):Option Obj:=if Own obs ρ b then none else w.heap[b]?
noncomputable def Ctx.V (C:Ctx) (w:World) (obs:List O) (ρ:Nat->Value):Vw:=⟨mask w obs ρ,C.Fr,C.tid .int⟩
structure BagRel (w:World) (V:Vw) (tpr:TypeId) (v:Value) (d:BagD):Prop where
 h:∃ t,w.heap[hdB d.hb]? = some (.cells #[.int .i64 d.hn] t (0,0))
 d1:1<=d.ph->hdB d.lb≠hdB d.hb
 d2:2<=d.ph->∀ b,v.ownBlock=some b->b≠hdB d.hb/\b≠hdB d.lb
 d3:3<=d.ph->hdB d.sb≠hdB d.hb/\hdB d.sb≠hdB d.lb/\v.ownBlock≠some (hdB d.sb)
 d4:4<=d.ph->d.mb≠hdB d.hb/\d.mb≠hdB d.lb/\v.ownBlock≠some d.mb/\d.mb≠hdB d.sb
 l:1<=d.ph->∃ u t,w.heap[hdB d.lb]? = some (.cells #[u] t (0,0))/\u.oneCell'=true/\(2<=d.ph->d.st=true->u=v)
 r:2<=d.ph->∃ cs,w.ownsRow 0 tpr 2 v d.xs.length cs/\Enc V .pr d.xs cs/\v≠.slice none 0 0/\d.xs.length<=maxLen
 s:3<=d.ph->∃ u t,w.heap[hdB d.sb]? = some (.cells #[u] t (0,0))/\(4<=d.ph->u=.map (some d.mb))
 m:4<=d.ph->∃ es clock,w.heap[d.mb]? = some (.map es clock)/\es.toList.map (fun e=>(e.key,e.val))=d.ml.map (fun p=>(p.1.val,p.2.val))/\∀ p∈d.ml,p.1.ok d.m.kv/\p.2.ok d.m.vi
def ORel (tid:E->TypeId) (w:World) (V:Vw) (v:Value):O->Prop
 | .dead=>True
 | .arr e xs _ nn=>∃ cs,w.ownsRow 0 (tid e) e.size v xs.length cs/\Enc V e xs cs/\(nn=true->v≠.slice none 0 0)/\xs.length<=maxLen
 | .mat hs rows _ nn=>∃ cs,w.ownsRow 0 (tid .lrow) 1 v rows.length cs/\hs.length=rows.length/\(∀(i:Nat) (h:Option Nat) (xs:List Int) (u:Value),hs[i]? = some h->rows[i]? = some xs->cs[i]? = some u->MRel w (tid .int) h xs u) /\
   (∀(i j h h':Nat),hs[i]? = some (some h)->hs[j]? = some (some h')->hdB h=hdB h'->i=j)/\(∀ h,some h∈hs->v.ownBlock≠some (hdB h))/\(nn=true->v≠.slice none 0 0)/\rows.length<=maxLen
 | .gm D F hs _ nn=>∃ cs,w.ownsRow 0 (tid .lrow) 1 v hs.length cs/\(∀(i:Nat) (h:Nat) (u:Value),hs[i]? = some h->cs[i]? = some u->h∈D/\u=.slice (some ⟨hdB h,0,none⟩) (F h).length (hdC h)) /\
   (∀ h,h∈D->MRel w (tid .int) (some h) (F h) (.slice (some ⟨hdB h,0,none⟩) (F h).length (hdC h)))/\(∀ h h',h∈D->h'∈D->hdB h=hdB h'->h=h')/\(∀ h,h∈D->v.ownBlock≠some (hdB h))/\(nn=true->v≠.slice none 0 0)/\hs.length<=maxLen
 | .mp m l _=>∃ b es clock,v=.map (some b)/\w.heap[b]? = some (.map es clock)/\es.toList.map (fun e=>(e.key,e.val))=l.map (fun p=>(p.1.val,p.2.val))/\∀ p∈l,p.1.ok m.kv/\p.2.ok m.vi
 | .ap h ys fr _ nn=>∃ cs,w.ownsRow 0 (tid .lrow) 1 v ys.length cs/\Enc V .lrow ys cs/\(nn=true->v≠.slice none 0 0)/\ys.length<=maxLen/\hdC h<=ys.length /\
   (∃ cur t f,w.heap[hdB h]? = some (.cells cur t f)/\∀ i,i < hdC h->cur[i]? = cs[i]?)/\(fr=true->v.ownBlock=some (hdB h)/\hdC h=ys.length)
 | .cur s _=>∃ b t,∃ i h:Int,v=.pointer (some ⟨b,0,none⟩)/\w.heap[b]? = some (.cells #[s,.int .i64 i,.int .i64 h] t (0,0))/\0<=i/\(∃ xs,SlRel V false .byte xs s/\i<=xs.length)/\-9223372036854775808<=h/\h<=9223372036854775807
 | .bag d _=>BagRel w V (tid .pr) v d
def look (s:Nat):List (Nat×Bool×Sl)->Option (Bool×Sl)
 | []=>none
 | (k,x) :: r=>if s == k then some x else look s r
def tabN:String:="internal/strconv.uint64pow10"
def maxN:String:="internal/bytealg.MaxLen"
def Laid (P:Program) (w:World) (M:Nat->Prop):Prop:=(∀ g,P.globalNamed tabN=some g->¬M g/\Lib.TabIs P w tabN .u64 Lib.pow10Tab)/\∀ g,P.globalNamed maxN=some g->¬M g/\∃ m,w.cell? ⟨g,0,none⟩=some (.int .i64 m)
theorem Laid.lt {P:Program} {w:World} {g:Nat} (hg:P.globalNamed tabN=some g) (h:Lib.TabIs P w tabN .u64 Lib.pow10Tab):g < w.heap.size:=by
 unfold Lib.TabIs World.var? at h
 rw [hg]at h
 simp only [Option.bind_some]at h
 split at h
 ·rename_i h1;exact(ageS.1 h1).1
 ·cases h
theorem Laid.up {P:Program} {w w':World} {M M':Nat->Prop} (h:Laid P w M) (hk:∀ b,b < w.heap.size->¬M b->w'.heap[b]? = w.heap[b]?) (hM:∀ b,b < w.heap.size->¬M b->¬M' b):Laid P w' M':=by
 refine⟨fun g hg=>?_,fun g hg=>?_⟩
 ·obtain⟨h1,h2⟩:=h.1 g hg
  have hl:=Laid.lt hg h2
  refine⟨hM g hl h1,?_⟩
  unfold Lib.TabIs World.var? at h2 ⊢
  rw [hg]at h2 ⊢
  simp only [Option.bind_some]at h2 ⊢
  rw [hk g hl h1]
  exact h2
 ·obtain⟨h1,m,h2⟩:=h.2 g hg
  have hl:g < w.heap.size:=by
   unfold World.cell? at h2
   cases hb:w.heap[g]? with
   | none=>rw [hb]at h2;simp at h2
   | some o=>exact(ageS.1 hb).1
  refine⟨hM g hl h1,m,?_⟩
  rw [<- h2]
  unfold World.cell?
  rw [hk g hl h1]
structure WRel (C:Ctx) (obs:List O) (w:World) (ρ:Nat->Value):Prop where
 os:∀ id o,obs[id]? = some o->ORel C.tid w (C.V w obs ρ) (ρ id) o
 dis:∀ i j o o' b,obs[i]? = some o->obs[j]? = some o'->fpo (ρ i) o b->fpo (ρ j) o' b->i=j
 own:∀ b,Own obs ρ b->C.Wr b
 os0:w.os=C.w0.os
 tape:w.tape=C.w0.tape
 output:w.output=C.w0.output
 grow:C.w0.heap.size<=w.heap.size
 drawn:C.dr=true->C.w0.drawn<=w.drawn
 kept:∀ b,b < C.w0.heap.size->¬C.M b->w.heap[b]? = C.w0.heap[b]?
 gl:Laid C.P C.w0 C.M
theorem WRel.laid {C:Ctx} {obs:List O} {w:World} {ρ:Nat->Value} (r:WRel C obs w ρ):Laid C.P w (Own obs ρ):=
 r.gl.up r.kept fun b hb hM ho=>(r.own b ho).elim (fun k=>absurd hb (Nat.not_lt.2 k)) hM
structure Rel (C:Ctx) (σ:St) (a:Act) (w:World) (ρ:Nat->Value):Prop where
 defers:a.defers=[]
 size:a.tmps.size=σ.n
 fr:∀ s ex x,look s σ.fr=some (ex,x)->(ex=true->SlotRel (C.V w σ.obs ρ) σ.obs ρ x (a.tmps.getD s undef))/\(ex=false->a.tmps.getD s undef=undef)
 w:WRel C σ.obs w ρ
 pin:∀(j:Nat) (v:Value),C.pin[j]? = some v->j < σ.obs.length/\(genOf σ.obs j=some 0->ρ j=v)
class DrLe (B C:Ctx):Prop where
 h:C.dr=true->B.dr=true
class DrT (B:Ctx):Prop where
 h:B.dr=true
instance (B C:Ctx) [h:DrT B]:DrLe B C:=⟨fun _=>h.h⟩
structure Ext0 (S:Nat->Prop) (w w':World):Prop where
 os:w'.os=w.os
 tape:w'.tape=w.tape
 output:w'.output=w.output
 size:w.heap.size<=w'.heap.size
 block:∀ b,b < w.heap.size->¬S b->w'.heap[b]? = w.heap[b]?
structure Ext (S:Nat->Prop) (w w':World):Prop where
 os:w'.os=w.os
 tape:w'.tape=w.tape
 output:w'.output=w.output
 size:w.heap.size<=w'.heap.size
 drawn:w.drawn<=w'.drawn
 block:∀ b,b < w.heap.size->¬S b->w'.heap[b]? = w.heap[b]?
theorem Ext.refl (S:Nat->Prop) (w:World):Ext S w w:=⟨rfl,rfl,rfl,Nat.le_refl _,Nat.le_refl _,fun _ _ _=>rfl⟩
theorem Ext.trans {S:Nat->Prop} {a b c:World} (h:Ext S a b) (k:Ext S b c):Ext S a c:=
 ⟨k.os.trans h.os,k.tape.trans h.tape,k.output.trans h.output,Nat.le_trans h.size k.size,Nat.le_trans h.drawn k.drawn,fun i hi hs=>(k.block i (Nat.lt_of_lt_of_le hi h.size) hs).trans (h.block i hi hs)⟩
theorem Ext.mono {S T:Nat->Prop} {a b:World} (h:Ext S a b) (k:∀ x,S x->T x):Ext T a b:=
 ⟨h.os,h.tape,h.output,h.size,h.drawn,fun i hi hs=>h.block i hi (fun x=>hs (k i x))⟩
theorem Ext.drew (S:Nat->Prop) (w:World):Ext S w { w with drawn:=w.drawn+1 }:=⟨rfl,rfl,rfl,Nat.le_refl _,Nat.le_succ _,fun _ _ _=>rfl⟩
theorem Ext.alloc (S:Nat->Prop) (w:World) (o:Obj):Ext S w (w.alloc o):=
 ⟨rfl,rfl,rfl,by simp,Nat.le_refl _,fun b hb _=>World.alloc_eq w o▸by show(w.heap.push o)[b]? = _;rw [Array.getElem?_push,if_neg om]⟩
theorem Ext.grownBy {w w':World} {r:Option Nat} (h:w.grownBy w' r) (hd:w.drawn<=w'.drawn):Ext (fun b=>r=some b) w w':=
 ⟨h.os,h.tape,h.output,h.size,hd,fun b hb hs=>h.block b hb (fun e=>hs e.symm)⟩
theorem mem_lt_of_ownsRow {w:World} {base e size:Nat} {v:Value} {n:Nat} {xs:List Value} (h:w.ownsRow base e size v n xs) {b:Nat} (hb:v.ownBlock=some b):b < w.heap.size:=
 (h.lt b hb).2
theorem ORel.lt {tid:E->TypeId} {w:World} {V:Vw} {v:Value} {o:O} (h:ORel tid w V v o) {b:Nat} (hb:fpo v o b):b < w.heap.size:=by
 cases o with
 | dead=>simp [fpo]at hb
 | arr e xs g nn=>obtain⟨cs,h1,_⟩:=h;exact mem_lt_of_ownsRow h1 hb
 | mat hs rows g nn=>
  obtain⟨cs,h1,h2,h3,_⟩:=h
  rcases hb with hb | ⟨h,hm,rfl⟩
  ·exact mem_lt_of_ownsRow h1 hb
  ·obtain⟨i,hi⟩:=List.getElem?_of_mem hm
   have hlt:i < hs.length:=(geS.1 hi).1
   have hc:cs.length=rows.length:=by have:=h1.1;omega
   obtain⟨_,cur,hg,_⟩:=h3 i (some h) rows[i] cs[i] hi (by simp) (by simp)
   exact(ageS.1 hg).1
 | gm D F hs g nn=>
  obtain⟨cs,h1,h2,h3,_⟩:=h
  rcases hb with hb | ⟨h,hm,rfl⟩
  ·exact mem_lt_of_ownsRow h1 hb
  ·obtain⟨_,cur,hg,_⟩:=h3 h hm
   exact(ageS.1 hg).1
 | mp m l g=>
  obtain⟨b',es,clock,h1,h2,_⟩:=h
  have hb:v=.map (some b):=hb
  rw [h1]at hb
  cases hb
  exact(ageS.1 h2).1
 | ap q ys fr g nn=>
  obtain⟨cs,h1,_,_,_,_,⟨cur,ty,f,h2,_⟩,_⟩:=h
  rcases hb with hb | hb
  ·exact mem_lt_of_ownsRow h1 hb
  ·rw [<- hb];exact(ageS.1 h2).1
 | cur s g=>
  obtain⟨b',t,i,h,h1,h2,_⟩:=h
  have hb:v=.pointer (some ⟨b,0,none⟩):=hb
  rw [h1]at hb
  cases hb
  exact(ageS.1 h2).1
 | bag d g=>
  have h:BagRel w V (tid .pr) v d:=h
  rcases hb with rfl | ⟨k,rfl⟩ | ⟨k,e1⟩ | ⟨k,rfl⟩ | ⟨k,rfl⟩
  ·obtain⟨t,e⟩:=h.h;exact(ageS.1 e).1
  ·obtain⟨u,t,e,_⟩:=h.l k;exact(ageS.1 e).1
  ·obtain⟨cs,e,_⟩:=h.r k;exact mem_lt_of_ownsRow e e1
  ·obtain⟨u,t,e,_⟩:=h.s k;exact(ageS.1 e).1
  ·obtain⟨u,t,e,_⟩:=h.m k;exact(ageS.1 e).1
theorem MRel.kept {w w':World} {ti:TypeId} {h:Option Nat} {xs:List Int} {v:Value} (k:MRel w ti h xs v) (hw:∀ x,h=some x->w'.heap[hdB x]? = w.heap[hdB x]?):MRel w' ti h xs v:=by
 cases h with
 | none=>exact k
 | some h=>
  obtain⟨h1,cur,hg,rest⟩:=k
  exact⟨h1,cur,by rw [hw h rfl];exact hg,rest⟩
theorem ownsRow_kept {w w':World} {e size:Nat} {v:Value} {n:Nat} {cs:List Value} (h1:w.ownsRow 0 e size v n cs) (hw:∀ b,v.ownBlock=some b->w'.heap[b]? = w.heap[b]?):w'.ownsRow 0 e size v n cs:=by
 refine⟨h1.1,?_⟩
 rcases h1.2 with hn | ⟨k,cap,cur,hv,hb,hg,rest⟩
 ·exact .inl hn
 ·refine .inr ⟨k,cap,cur,hv,hb,?_,rest⟩
  subst hv
  rw [hw k rfl]
  exact hg
theorem BagRel.kept {w w':World} {V V':Vw} {tpr:TypeId} {v:Value} {d:BagD} {g:Nat} (h:BagRel w V tpr v d) (hV:V.le V') (hk:∀ b,fpo v (.bag d g) b->w'.heap[b]? = w.heap[b]?):BagRel w' V' tpr v d where
 h:=by obtain⟨t,e⟩:=h.h;exact⟨t,by rw [hk _ (.inl rfl)];exact e⟩
 d1:=h.d1
 d2:=h.d2
 d3:=h.d3
 d4:=h.d4
 l:=fun k=>by obtain⟨u,t,e,r⟩:=h.l k;exact⟨u,t,by rw [hk _ (.inr (.inl ⟨k,rfl⟩))];exact e,r⟩
 r:=fun k=>by
  obtain⟨cs,e,r1,r2⟩:=h.r k
  exact⟨cs,ownsRow_kept e fun b hb=>hk _ (.inr (.inr (.inl ⟨k,hb⟩))),r1.mono hV,r2⟩
 s:=fun k=>by obtain⟨u,t,e,r⟩:=h.s k;exact⟨u,t,by rw [hk _ (.inr (.inr (.inr (.inl ⟨k,rfl⟩))))];exact e,r⟩
 m:=fun k=>by obtain⟨u,t,e,r⟩:=h.m k;exact⟨u,t,by rw [hk _ (.inr (.inr (.inr (.inr ⟨k,rfl⟩))))];exact e,r⟩
theorem Ext.to0 {S:Nat->Prop} {w w':World} (h:Ext S w w'):Ext0 S w w':=⟨h.os,h.tape,h.output,h.size,h.block⟩
theorem ORel.kept0 {tid:E->TypeId} {w w':World} {V V':Vw} {v:Value} {o:O} (h0:ORel tid w V v o) (hV:V.le V') {S:Nat->Prop} (hx:Ext0 S w w') (hS:∀ b,fpo v o b->¬S b) :
  ORel tid w' V' v o:=by
 have h:=h0
 cases o with
 | dead=>trivial
 | arr e xs g nn=>
  obtain⟨cs,h1,h2,h3⟩:=h
  refine⟨cs,?_,h2.mono hV,h3⟩
  refine⟨h1.1,?_⟩
  rcases h1.2 with hn | ⟨k,cap,cur,hv,hb,hg,rest⟩
  ·exact .inl hn
  ·refine .inr ⟨k,cap,cur,hv,hb,?_,rest⟩
   subst hv
   rw [hx.block k (ageS.1 hg).1 (hS k (by simp [fpo,Value.ownBlock]))]
   exact hg
 | mat hs rows g nn=>
  have hlt:=fun b=>ORel.lt (o:=.mat hs rows g nn) h (b:=b)
  obtain⟨cs,h1,h2,h3,h4,h5,h6⟩:=h
  have hk:∀ b,fpo v (.mat hs rows g nn) b->w'.heap[b]? = w.heap[b]?:=fun b hb=>hx.block b (hlt b hb) (hS b hb)
  exact⟨cs,ownsRow_kept h1 fun b hb=>hk b (.inl hb),h2,fun i h xs u a b c=>(h3 i h xs u a b c).kept fun x hx=>hk _ (.inr ⟨x,by rw [<- hx];exact List.mem_of_getElem? a,rfl⟩),h4,h5,h6⟩
 | gm D F hs g nn=>
  have hlt:=fun b=>ORel.lt (o:=.gm D F hs g nn) h (b:=b)
  obtain⟨cs,h1,h2,h3,h4⟩:=h
  have hk:∀ b,fpo v (.gm D F hs g nn) b->w'.heap[b]? = w.heap[b]?:=fun b hb=>hx.block b (hlt b hb) (hS b hb)
  exact⟨cs,ownsRow_kept h1 fun b hb=>hk b (.inl hb),h2,fun h hm=>(h3 h hm).kept fun x hx=>hk _ (.inr ⟨x,by rw [<- Option.some.inj hx];exact hm,rfl⟩),h4⟩
 | mp m l g=>
  obtain⟨b,es,clock,h1,h2,h3⟩:=h
  exact⟨b,es,clock,h1,by rw [hx.block b (ageS.1 h2).1 (hS b h1)];exact h2,h3⟩
 | ap q ys fr g nn=>
  have hlt:=fun b=>ORel.lt (o:=.ap q ys fr g nn) h0 (b:=b)
  have hk:∀ b,fpo v (.ap q ys fr g nn) b->w'.heap[b]? = w.heap[b]?:=fun b hb=>hx.block b (hlt b hb) (hS b hb)
  obtain⟨cs,h1,h2,h3,h4,h5,⟨cur,ty,f,h6,h7⟩,h8⟩:=h0
  exact⟨cs,ownsRow_kept h1 fun b hb=>hk b (.inl hb),h2.mono hV,h3,h4,h5,⟨cur,ty,f,by rw [hk _ (.inr rfl)];exact h6,h7⟩,h8⟩
 | cur s g=>
  obtain⟨b,t,i,h,h1,h2,h3,⟨xs,h4,h5⟩,h6⟩:=h
  exact⟨b,t,i,h,h1,by rw [hx.block b (ageS.1 h2).1 (hS b h1)];exact h2,h3,⟨xs,h4.mono hV,h5⟩,h6⟩
 | bag d g=>
  exact BagRel.kept (g:=g) h hV fun b hb=>hx.block b (ORel.lt h0 (b:=b) hb) (hS b hb)
theorem ORel.kept {tid:E->TypeId} {w w':World} {V V':Vw} {v:Value} {o:O} (h0:ORel tid w V v o) (hV:V.le V') {S:Nat->Prop} (hx:Ext S w w') (hS:∀ b,fpo v o b->¬S b):ORel tid w' V' v o:=h0.kept0 hV hx.to0 hS
theorem AVRel.carry {V V':Vw} {obs obs':List O} {ρ ρ':Nat->Value} (hV:V.le V') (hl:obs.length<=obs'.length)
  (hg:∀ id c',id < obs.length->genOf obs' id=some c'->∃ c,genOf obs id=some c/\((c'=c/\ρ' id=ρ id)\/c < c')) {x:AV} {v:Value}
  (h:AVRel V obs ρ x v):AVRel V' obs' ρ' x v:=by
 cases x with
 | junk=>trivial
 | int k n=>exact h
 | bool b=>exact h
 | str s=>exact h
 | sl f e xs=>exact SlRel.mono hV h
 | lr l xs=>exact LRowRel.mono hV h
 | vec xs=>exact h
 | nils=>exact h
 | own id g=>
  refine⟨Nat.lt_of_lt_of_le h.1 hl,fun c' hc'=>?_⟩
  obtain⟨c,hc,hh⟩:=hg id c' h.1 hc'
  obtain⟨h1,h2⟩:=h.2 c hc
  rcases hh with⟨rfl,e⟩ | hlt
  ·exact⟨h1,fun k=>by rw [e];exact h2 k⟩
  ·exact⟨by omega,fun k=>by omega⟩
 | elt id g s k=>
  refine⟨Nat.lt_of_lt_of_le h.1 hl,fun c' hc'=>?_⟩
  obtain⟨c,hc,hh⟩:=hg id c' h.1 hc'
  obtain⟨h1,h2⟩:=h.2 c hc
  rcases hh with⟨rfl,e⟩ | hlt
  ·exact⟨h1,fun k=>by rw [e];exact h2 k⟩
  ·exact⟨by omega,fun k=>by omega⟩
 | relt f e d=>
  obtain⟨a,u,hv,hf,hr,hc⟩:=h
  refine⟨a,u,hv,fun k=>hV.Fr _ (hf k),hr.mono hV,fun j hj=>?_⟩
  have hsz:=hr.cells.1
  have h3:=hc j hj
  rw [Array.getElem?_eq_getElem om]at h3 ⊢
  exact hV.cell h3
 | hdr h n=>exact h
 | emp b=>exact h
 | fn f=>exact h
 | hp q k=>exact h
 | lenv n=>exact h
 | clo f e d=>
  obtain⟨a,u,hv,hf,hr,hc⟩:=h
  refine⟨a,u,hv,hV.Fr _ hf,hr.mono hV,fun j hj=>?_⟩
  have hsz:=hr.cells.1
  have h3:=hc j hj
  rw [Array.getElem?_eq_getElem om]at h3 ⊢
  exact hV.cell h3
 | mv b=>exact h
 | prv d=>exact(show ElRel V .pr d v from h).mono hV
 | clo3 f a b c=>exact h
 | asl id g=>
  refine⟨Nat.lt_of_lt_of_le h.1 hl,fun c' hc'=>?_⟩
  obtain⟨c,hc,hh⟩:=hg id c' h.1 hc'
  obtain⟨h1,h2⟩:=h.2 c hc
  rcases hh with⟨rfl,e⟩ | hlt
  ·exact⟨h1,fun k=>by rw [e];exact h2 k⟩
  ·exact⟨by omega,fun k=>by omega⟩
theorem SlotRel.carry {V V':Vw} {obs obs':List O} {ρ ρ':Nat->Value} (hV:V.le V') (hl:obs.length<=obs'.length)
  (hg:∀ id c',id < obs.length->genOf obs' id=some c'->∃ c,genOf obs id=some c/\((c'=c/\ρ' id=ρ id)\/c < c')) {x:Sl} {v:Value}
  (h:SlotRel V obs ρ x v):SlotRel V' obs' ρ' x v:=by
 cases x with
 | v x=>exact AVRel.carry hV hl hg h
 | t l=>
  obtain⟨vs,h1,h2,h3⟩:=h
  exact⟨vs,h1,h2,fun i x y hx hy=>AVRel.carry hV hl hg (h3 i x y hx hy)⟩
structure Turn (C:Ctx) (w w':World) (obs obs':List O) (ρ ρ':Nat->Value) (S:Nat->Prop):Prop where
 ext:Ext S w w'
 len:obs.length<=obs'.length
 sown:∀ b,S b->Own obs ρ b
 each:∀ j o,obs'[j]? = some o ->
  (obs[j]? = some o/\ρ' j=ρ j/\∀ b,fpo (ρ j) o b->¬S b) \/
  (ORel C.tid w' (C.V w' obs' ρ') (ρ' j) o/\(∀ b,fpo (ρ' j) o b->S b\/w.heap.size<=b) /\
   (j < obs.length->∀ c',o.gen=some c'->∃ c,genOf obs j=some c/\((c'=c/\ρ' j=ρ j)\/c < c')))
 dis:∀ i j o o' b,obs'[i]? = some o->obs'[j]? = some o'->fpo (ρ' i) o b->fpo (ρ' j) o' b->(S b\/w.heap.size<=b)->i=j
theorem Turn.le {C:Ctx} {w w':World} {obs obs':List O} {ρ ρ':Nat->Value} {S:Nat->Prop} (h:Turn C w w' obs obs' ρ ρ' S):(C.V w obs ρ).le (C.V w' obs' ρ'):=by
 refine⟨fun b o hb=>?_,fun _ hb=>hb,rfl⟩
 simp only [Ctx.V,mask]at hb ⊢
 split at hb
 ·cases hb
 ·rename_i hn
  have hlt:b < w.heap.size:=(ageS.1 hb).1
  have hS:¬S b:=fun hs=>hn (h.sown b hs)
  have hn':¬Own obs' ρ' b:=by
   rintro⟨id,o',ho,hf⟩
   rcases h.each id o' ho with⟨h1,h2,_⟩ | ⟨_,h2,_⟩
   ·exact hn ⟨id,o',h1,by rw [<- h2];exact hf⟩
   ·rcases h2 b hf with hs | hs
    ·exact hS hs
    ·omega
  rw [if_neg hn',h.ext.block b hlt hS]
  exact hb
theorem Turn.gens {C:Ctx} {w w':World} {obs obs':List O} {ρ ρ':Nat->Value} {S:Nat->Prop} (h:Turn C w w' obs obs' ρ ρ' S) :
  ∀ id c',id < obs.length->genOf obs' id=some c'->∃ c,genOf obs id=some c/\((c'=c/\ρ' id=ρ id)\/c < c'):=by
 intro id c' hl hc
 unfold genOf at hc
 cases ho:obs'[id]? with
 | none=>rw [ho]at hc;simp at hc
 | some o=>
  rw [ho]at hc
  rcases h.each id o ho with⟨h1,h2,_⟩ | ⟨_,_,h3⟩
  ·exact⟨c',by unfold genOf;rw [h1];exact hc,.inl ⟨rfl,h2⟩⟩
  ·exact h3 hl c' hc
theorem Turn.wrel {C:Ctx} {w w':World} {obs obs':List O} {ρ ρ':Nat->Value} {S:Nat->Prop} (h:Turn C w w' obs obs' ρ ρ' S) (r:WRel C obs w ρ) :
  WRel C obs' w' ρ' where
 os:=fun id o ho=>by
  rcases h.each id o ho with⟨h1,h2,h3⟩ | ⟨h1,_⟩
  ·rw [h2];exact(r.os id o h1).kept h.le h.ext h3
  ·exact h1
 dis:=fun i j o o' b hi hj bi bj=>by
  by_cases hS:S b\/w.heap.size<=b
  ·exact h.dis i j o o' b hi hj bi bj hS
  ·have hS1:¬S b:=fun k=>hS (.inl k)
   have hS2:¬w.heap.size<=b:=fun k=>hS (.inr k)
   rcases h.each i o hi with⟨h1,h2,_⟩ | ⟨_,h2,_⟩
   ·rcases h.each j o' hj with⟨k1,k2,_⟩ | ⟨_,k2,_⟩
    ·exact r.dis i j o o' b h1 k1 (by rw [<- h2];exact bi) (by rw [<- k2];exact bj)
    ·rcases k2 b bj with hs | hs
     ·exact absurd hs hS1
     ·exact absurd hs hS2
   ·rcases h2 b bi with hs | hs
    ·exact absurd hs hS1
    ·exact absurd hs hS2
 own:=fun b ⟨id,o,ho,hf⟩=>by
  rcases h.each id o ho with⟨h1,h2,_⟩ | ⟨_,h2,_⟩
  ·exact r.own b ⟨id,o,h1,by rw [<- h2];exact hf⟩
  ·rcases h2 b hf with hs | hs
   ·exact r.own b (h.sown b hs)
   ·exact .inl (Nat.le_trans r.grow hs)
 os0:=h.ext.os.trans r.os0
 tape:=h.ext.tape.trans r.tape
 output:=h.ext.output.trans r.output
 grow:=Nat.le_trans r.grow h.ext.size
 drawn:=fun hd=>Nat.le_trans (r.drawn hd) h.ext.drawn
 kept:=fun b hb hM=>by
  have hS:¬S b:=fun hs=>by
   rcases r.own b (h.sown b hs)with k | k
   ·omega
   ·exact hM k
  rw [h.ext.block b (Nat.lt_of_lt_of_le hb r.grow) hS]
  exact r.kept b hb hM
 gl:=r.gl
structure Step (C:Ctx) (w w':World) (obs obs':List O) (ρ ρ':Nat->Value):Prop where
 wr:WRel C obs' w' ρ'
 le:(C.V w obs ρ).le (C.V w' obs' ρ')
 len:obs.length<=obs'.length
 gens:∀ id c',id < obs.length->genOf obs' id=some c'->∃ c,genOf obs id=some c/\((c'=c/\ρ' id=ρ id)\/c < c')
theorem Turn.step {C:Ctx} {w w':World} {obs obs':List O} {ρ ρ':Nat->Value} {S:Nat->Prop} (h:Turn C w w' obs obs' ρ ρ' S) (r:WRel C obs w ρ):Step C w w' obs obs' ρ ρ':=
 ⟨h.wrel r,h.le,h.len,h.gens⟩
theorem Step.refl {C:Ctx} {w:World} {obs:List O} {ρ:Nat->Value} (r:WRel C obs w ρ):Step C w w obs obs ρ ρ:=
 ⟨r,Vw.le.refl _,Nat.le_refl _,fun _ c' _ h=>⟨c',h,.inl ⟨rfl,rfl⟩⟩⟩
theorem Step.trans {C:Ctx} {w w1 w2:World} {obs obs1 obs2:List O} {ρ ρ1 ρ2:Nat->Value} (h:Step C w w1 obs obs1 ρ ρ1) (k:Step C w1 w2 obs1 obs2 ρ1 ρ2):Step C w w2 obs obs2 ρ ρ2 where
 wr:=k.wr
 le:=h.le.trans k.le
 len:=Nat.le_trans h.len k.len
 gens:=fun id c2 hid hc2=>by
  obtain⟨c1,h1,k1⟩:=k.gens id c2 (Nat.lt_of_lt_of_le hid h.len) hc2
  obtain⟨c,h0,k0⟩:=h.gens id c1 hid h1
  refine⟨c,h0,?_⟩
  rcases k1 with⟨e1,f1⟩ | l1
  ·rcases k0 with⟨e0,f0⟩ | l0
   ·exact .inl ⟨e1.trans e0,f1.trans f0⟩
   ·exact .inr om
  ·rcases k0 with⟨e0,_⟩ | l0
   ·exact .inr om
   ·exact .inr om
theorem Step.slot {C:Ctx} {w w':World} {obs obs':List O} {ρ ρ':Nat->Value} (h:Step C w w' obs obs' ρ ρ') {x:Sl} {v:Value} (k:SlotRel (C.V w obs ρ) obs ρ x v):SlotRel (C.V w' obs' ρ') obs' ρ' x v:=
 SlotRel.carry h.le h.len h.gens k
theorem Step.av {C:Ctx} {w w':World} {obs obs':List O} {ρ ρ':Nat->Value} (h:Step C w w' obs obs' ρ ρ') {x:AV} {v:Value} (k:AVRel (C.V w obs ρ) obs ρ x v):AVRel (C.V w' obs' ρ') obs' ρ' x v:=
 AVRel.carry h.le h.len h.gens k
theorem Step.rel {C:Ctx} {w w':World} {σ:St} {obs':List O} {ρ ρ':Nat->Value} {a:Act} (h:Step C w w' σ.obs obs' ρ ρ') (r:Rel C σ a w ρ):Rel C { σ with obs:=obs' } a w' ρ' where
 defers:=r.defers
 size:=r.size
 fr:=fun s ex x hx=>⟨fun he=>h.slot ((r.fr s ex x hx).1 he),(r.fr s ex x hx).2⟩
 w:=h.wr
 pin:=fun j v hj=>by
  obtain⟨h1,h2⟩:=r.pin j v hj
  refine⟨Nat.lt_of_lt_of_le h1 h.len,fun hg=>?_⟩
  obtain⟨c,hc,hh⟩:=h.gens j 0 h1 hg
  rcases hh with⟨e,f⟩ | hlt
  ·rw [f];exact h2 (by rw [hc,<- e])
  ·omega
theorem Turn.none {C:Ctx} {w w':World} {obs:List O} {ρ:Nat->Value} (r:WRel C obs w ρ) (h:Ext (fun _=>False) w w'):Turn C w w' obs obs ρ ρ (fun _=>False) where
 ext:=h
 len:=Nat.le_refl _
 sown:=fun _ k=>k.elim
 each:=fun j o ho=>.inl ⟨ho,rfl,fun _ _ k=>k⟩
 dis:=fun i j o o' b hi _ bi _ hS=>by
  have:=(r.os i o hi).lt bi
  rcases hS with k | k
  ·exact k.elim
  ·omega
theorem Turn.new {C:Ctx} {w w':World} {obs:List O} {ρ:Nat->Value} (r:WRel C obs w ρ) (h:Ext (fun _=>False) w w') (o:O) (v:Value)
  (ho:ORel C.tid w' (C.V w' (obs ++ [o]) (fun i=>if i=obs.length then v else ρ i)) v o) (hb:∀ b,fpo v o b->w.heap.size<=b) :
  Turn C w w' obs (obs ++ [o]) ρ (fun i=>if i=obs.length then v else ρ i) (fun _=>False) where
 ext:=h
 len:=by simp
 sown:=fun _ k=>k.elim
 each:=fun j o' hj=>by
  rw [List.getElem?_append]at hj
  split at hj
  ·rename_i hlt
   exact .inl ⟨hj,if_neg om,fun _ _ k=>k⟩
  ·rename_i hlt
   have hj0:j=obs.length:=by
    rcases Nat.lt_or_ge obs.length j with k | k
    ·rw [geN (by simp;omega)]at hj;cases hj
    ·omega
   subst hj0
   simp at hj
   subst hj
   refine .inr ⟨by simpa using ho,fun b hb'=>.inr (hb b (by simpa using hb')),fun k=>absurd k om⟩
 dis:=fun i j o1 o2 b hi hj bi bj hS=>by
  have hS:w.heap.size<=b:=hS.resolve_left (fun k=>k)
  have key:∀ i o1,(obs ++ [o])[i]? = some o1->fpo (if i=obs.length then v else ρ i) o1 b->i=obs.length:=by
   intro i o1 hi bi
   rw [List.getElem?_append]at hi
   split at hi
   ·rename_i hlt
    rw [if_neg om]at bi
    have:=(r.os i o1 hi).lt bi
    omega
   ·rename_i hlt
    rcases Nat.lt_or_ge obs.length i with k | k
    ·rw [geN (by simp;omega)]at hi;cases hi
    ·omega
  rw [key i o1 hi bi,key j o2 hj bj]
theorem Turn.one {C:Ctx} {w w':World} {obs:List O} {ρ:Nat->Value} (r:WRel C obs w ρ) (id:Nat) (o o':O) (v:Value) (hid:obs[id]? = some o)
  (h:Ext (fun b=>fpo (ρ id) o b) w w')
  (ho:ORel C.tid w' (C.V w' (obs.set id o') (fun i=>if i=id then v else ρ i)) v o')
  (hb:∀ b,fpo v o' b->fpo (ρ id) o b\/w.heap.size<=b)
  (hg:∀ c',o'.gen=some c'->∃ c,o.gen=some c/\((c'=c/\v=ρ id)\/c < c')) :
  Turn C w w' obs (obs.set id o') ρ (fun i=>if i=id then v else ρ i) (fun b=>fpo (ρ id) o b) where
 ext:=h
 len:=by simp
 sown:=fun b k=>⟨id,o,hid,k⟩
 each:=fun j o1 hj=>by
  have hlt:id < obs.length:=(geS.1 hid).1
  by_cases hji:j=id
  ·subst hji
   rw [List.getElem?_set_self hlt]at hj
   cases hj
   refine .inr ⟨by simpa using ho,fun b hb'=>hb b (by simpa using hb'),fun _ c' hc'=>?_⟩
   obtain⟨c,hc,hh⟩:=hg c' hc'
   exact⟨c,by unfold genOf;rw [hid];exact hc,by simpa using hh⟩
  ·rw [List.getElem?_set_ne (Ne.symm hji)]at hj
   refine .inl ⟨hj,if_neg hji,fun b hb' hb2=>hji (r.dis j id o1 o b hj hid hb' hb2)⟩
 dis:=fun i j o1 o2 b hi hj bi bj hS=>by
  have hlt:id < obs.length:=(geS.1 hid).1
  have key:∀ i o1,(obs.set id o')[i]? = some o1->fpo (if i=id then v else ρ i) o1 b->i=id:=by
   intro i o1 hi bi
   apply Classical.byContradiction
   intro hne
   rw [List.getElem?_set_ne (Ne.symm hne)]at hi
   rw [if_neg hne]at bi
   rcases hS with k | k
   ·exact hne (r.dis i id o1 o b hi hid bi k)
   ·have:=(r.os i o1 hi).lt bi
    omega
  rw [key i o1 hi bi,key j o2 hj bj]
theorem Turn.letgo {C:Ctx} {w:World} {obs:List O} {ρ:Nat->Value} (r:WRel C obs w ρ) {id:Nat} {o:O} (ho:obs[id]? = some o) :
  Turn C w w obs (obs.set id .dead) ρ (fun i=>if i=id then ρ id else ρ i) (fun b=>fpo (ρ id) o b):=
 Turn.one r id o .dead (ρ id) ho (Ext.refl _ _) trivial (fun b hb=>by simp [fpo]at hb) (fun c' hc=>by simp [O.gen]at hc)
theorem put_tmps (a:Act) (d:Option Nat) (v:Value):(a.put d v).tmps.size=a.tmps.size:=by
 cases d<;>simp [Act.put]
theorem Rel.put {C:Ctx} {σ:St} {a:Act} {w:World} {ρ:Nat->Value} (r:Rel C σ a w ρ) {d:Nat} (hd:d < σ.n) {ex:Bool} {x:Sl} {v:Value}
  (h1:ex=true->SlotRel (C.V w σ.obs ρ) σ.obs ρ x v) (h2:ex=false->v=undef):Rel C { σ with fr:=(d,ex,x) :: σ.fr } (a.put (some d) v) w ρ where
 defers:=r.defers
 size:=by rw [put_tmps];exact r.size
 fr:=fun s ex' x' hs=>by
  simp only [look]at hs
  have hsz:d < a.tmps.size:=by rw [r.size];exact hd
  split at hs
  ·rename_i hk
   have hk:s=d:=by simpa using hk
   cases hs
   subst hk
   have:(a.put (some s) v).tmps.getD s undef=v:=by simp [Act.put,Array.getD,hsz]
   rw [this]
   exact⟨h1,h2⟩
  ·rename_i hk
   have hk:s≠d:=by simpa using hk
   have:(a.put (some d) v).tmps.getD s undef=a.tmps.getD s undef:=by
    simp only [Act.put,Array.getD_eq_getD_getElem?]
    rw [Array.getElem?_setIfInBounds_ne (Ne.symm hk)]
   rw [this]
   exact r.fr s ex' x' hs
 w:=r.w
 pin:=r.pin
end Go.Aw
namespace Go.Aw
open Go
def Run (C:Ctx) (k:List Item) (σ:St):Prop:=
 ∀ a w ρ,Rel C σ a w ρ->∀(b:Frame) (cs:List Frame),∃ e a' w',bodyPost C.P C.fn C.R e a' w'/\Arrives C.P (lone (b.at a k) cs w) b [] cs e a' w'
section
variable {C:Ctx} {σ:St} {k:List Item}
theorem Run.of_step {k':List Item} (h:Run C k' σ) (hs:∀(a:Act) (b:Frame) (cs:List Frame) (w:World),step C.P (lone (b.at a k) cs w)=.next (lone (b.at a k') cs w)):Run C k σ:=by
 intro a w ρ r b cs
 obtain⟨e,a',w',hp,harr⟩:=h a w ρ r b cs
 exact⟨e,a',w',hp,.of_steps (.one (hs a b cs w)) harr⟩
theorem Run.seq {x y:Code} (h:Run C (.code x :: .code y :: k) σ):Run C (.code (.seq x y) :: k) σ:=h.of_step fun _ _ _ _=>step_seq
theorem Run.skip (h:Run C k σ):Run C (.code .skip :: k) σ:=h.of_step fun _ _ _ _=>step_skip
theorem Run.block {id:Nat} {c:Code} (h:Run C (.code c :: .inBlock id :: k) σ):Run C (.code (.block id c) :: k) σ:=h.of_step fun _ _ _ _=>step_block
theorem Run.unblock {id:Nat} (h:Run C k σ):Run C (.inBlock id :: k) σ:=h.of_step fun _ _ _ _=>step_inBlock
theorem Run.exit {id:Nat} {k':List Item} (hk:exitTo id k=some k') (h:Run C k' σ):Run C (.code (.exit id) :: k) σ:=h.of_step fun _ _ _ _=>step_exit hk
theorem Run.loop {c:Code} (h:Run C (.code c :: .inLoop c :: k) σ):Run C (.code (.loop c) :: k) σ:=h.of_step fun _ _ _ _=>step_loop
theorem Run.round {c:Code} (h:Run C (.code c :: .inLoop c :: k) σ):Run C (.inLoop c :: k) σ:=h.of_step fun _ _ _ _=>step_inLoop
def Le (C:Ctx) (σ σ':St):Prop:=∀ a w ρ,Rel C σ a w ρ->∃ ρ',Rel C σ' a w ρ'
theorem Run.le {σ':St} (hl:Le C σ σ') (h:Run C k σ'):Run C k σ:=fun a w ρ r b cs=>by
 obtain⟨ρ',r'⟩:=hl a w ρ r
 exact h a w ρ' r' b cs
theorem Run.fact {p:Prop} (hp:∀ a w ρ,Rel C σ a w ρ->p) (h:p->Run C k σ):Run C k σ:=fun a w ρ r=>h (hp a w ρ r) a w ρ r
theorem Run.loopI {X:Type} {c:Code} (I:X->St) (ok:X->Prop) (μ:X->Nat) (x0:X) (h0:ok x0) (hl:Le C σ (I x0))
  (h:∀ x,ok x->(∀ y,ok y->μ y < μ x->Run C (.inLoop c :: k) (I y))->Run C (.code c :: .inLoop c :: k) (I x)):Run C (.code (.loop c) :: k) σ:=by
 have key:∀ n x,μ x=n->ok x->Run C (.code c :: .inLoop c :: k) (I x):=by
  intro n
  induction n using Nat.strongRecOn with
  | _ n ih=>
   intro x hn hx
   exact h x hx fun y hy hlt=>(ih (μ y) (hn▸hlt) y rfl hy).round
 exact(Run.le hl (key _ x0 rfl h0)).loop
end
def constAV:Value->AV
 | .int k n=>.int k n
 | .bool b=>.bool b
 | .string s=>.str s.data.toList
 | .slice none 0 0=>.nils
 | _=>.junk
def St.ev (σ:St):Operand->AV
 | .tmp t=>match look t σ.fr with
  | some (_,.v x)=>x
  | _=>.junk
 | .const v=>constAV v
 | .func f=>.fn f
 | .global _=>.junk
def St.has (σ:St):Operand->Prop
 | .tmp t=>match look t σ.fr with
  | some (ex,_)=>ex=true
  | none=>True
 | _=>True
theorem constAV_rel (V:Vw) (obs:List O) (ρ:Nat->Value) (v:Value):AVRel V obs ρ (constAV v) v:=by
 unfold constAV
 split<;>simp [AVRel]
theorem Rel.ev {C:Ctx} {σ:St} {a:Act} {w:World} {ρ:Nat->Value} (r:Rel C σ a w ρ) {x:Operand} (hx:σ.has x):AVRel (C.V w σ.obs ρ) σ.obs ρ (σ.ev x) (a.eval x):=by
 cases x with
 | tmp t=>
  simp only [St.ev,St.has,Act.eval]at *
  cases hl:look t σ.fr with
  | none=>simp [AVRel]
  | some p=>
   obtain⟨ex,x⟩:=p
   rw [hl]at hx
   have:=(r.fr t ex x hl).1 hx
   cases x with
   | v x=>exact this
   | t l=>simp [AVRel]
 | const v=>exact constAV_rel _ _ _ v
 | func f=>simp [St.ev,AVRel,Act.eval]
 | global g=>simp [St.ev,AVRel]
section
variable {C:Ctx} {σ:St} {k:List Item}
theorem Run.cond {c:Operand} {x y:Code} {t:Bool} (hc:σ.ev c=.bool t) (hh:σ.has c) (ht:t=true->Run C (.code x :: k) σ) (hf:t=false->Run C (.code y :: k) σ):Run C (.code (.cond c x y) :: k) σ:=by
 intro a w ρ r b cs
 have hv:=r.ev hh
 rw [hc]at hv
 simp only [AVRel]at hv
 have hs:∀(b:Frame) (cs:List Frame),step C.P (lone (b.at a (.code (.cond c x y) :: k)) cs w)=.next (lone (b.at a (.code (if t then x else y) :: k)) cs w):=fun b cs=>step_cond hv
 cases t with
 | true=>
  obtain⟨e,a',w',hp,harr⟩:=ht rfl a w ρ r b cs
  exact⟨e,a',w',hp,.of_steps (.one (hs b cs)) harr⟩
 | false=>
  obtain⟨e,a',w',hp,harr⟩:=hf rfl a w ρ r b cs
  exact⟨e,a',w',hp,.of_steps (.one (hs b cs)) harr⟩
def Fin (C:Ctx) (xs:List AV) (obs:List O):Prop:=
 ∀ w ρ (vs:List Value),WRel C obs w ρ->(∀(j:Nat) (v:Value),C.pin[j]? = some v->j < obs.length/\(genOf obs j=some 0->ρ j=v))->vs.length=xs.length->(∀(i:Nat) (x:AV) (v:Value),xs[i]? = some x->vs[i]? = some v->AVRel (C.V w obs ρ) obs ρ x v) ->
  C.R (.returned (if h:vs.length=1 then vs[0]else .tuple vs.toArray)) w
theorem run_results (P:Program) (fn:Func) (ts:List Nat) (hl:ts.length<=4) (hr:fn.results=(ts.map ResultVar.tmp).toArray) (tmps:Array Value) (w:World) :
  (results fn tmps).run P w=.ok (if h:(ts.map fun t=>tmps.getD t undef).length=1 then(ts.map fun t=>tmps.getD t undef)[0]else .tuple (ts.map fun t=>tmps.getD t undef).toArray) w:=by
 match ts,hl with
 | [],_=>simp at hr;simp [results,hr]
 | [a],_=>simp at hr;simp [results,hr]
 | [a,b],_=>simp at hr;simp [results,hr]
 | [a,b,c],_=>simp at hr;simp [results,hr]
 | [a,b,c,d],_=>simp at hr;simp [results,hr]
 | _ :: _ :: _ :: _ :: _ :: _,h=>simp at h
theorem Run.ret_aux {xs:List AV} {ts:List Nat} (hl:ts.length<=4) (hres:C.fn.results=(ts.map ResultVar.tmp).toArray) (hx:xs=ts.map fun t=>σ.ev (.tmp t)) (hh:∀ t∈ts,σ.has (.tmp t)) (h:Fin C xs σ.obs)
  {a:Act} {w:World} {ρ:Nat->Value} (r:Rel C σ a w ρ):∃ v,(results C.fn a.tmps).run C.P w=.ok v w/\C.R (.returned v) w:=by
 refine⟨_,run_results C.P C.fn ts hl hres a.tmps w,?_⟩
 subst hx
 refine h w ρ _ r.w r.pin (by simp) ?_
 intro i x v hi hv
 simp only [List.getElem?_map,Option.map_eq_some_iff]at hi hv
 obtain⟨t,ht,rfl⟩:=hi
 obtain⟨t',ht',rfl⟩:=hv
 rw [ht]at ht'
 cases ht'
 exact r.ev (hh t (List.mem_of_getElem? ht))
theorem Run.ret {xs:List AV} {ts:List Nat} (hl:ts.length<=4) (hres:C.fn.results=(ts.map ResultVar.tmp).toArray) (hx:xs=ts.map fun t=>σ.ev (.tmp t)) (hh:∀ t∈ts,σ.has (.tmp t)) (h:Fin C xs σ.obs):Run C (.code .ret :: k) σ:=by
 intro a w ρ r b cs
 exact⟨.ret,a,w,⟨r.defers,Run.ret_aux hl hres hx hh h r⟩,_,.one step_ret⟩
theorem Run.done {xs:List AV} {ts:List Nat} (hl:ts.length<=4) (hres:C.fn.results=(ts.map ResultVar.tmp).toArray) (hx:xs=ts.map fun t=>σ.ev (.tmp t)) (hh:∀ t∈ts,σ.has (.tmp t)) (h:Fin C xs σ.obs):Run C [] σ:=by
 intro a w ρ r b cs
 exact⟨.normal,a,w,⟨r.defers,Run.ret_aux hl hres hx hh h r⟩,Steps.refl _ _⟩
end
end Go.Aw
namespace Go.Aw
open Go
inductive Res where
 | bad
 | ok (vc:Prop) (x:AV) (obs:List O)
 | skip (vc:Prop) (obs:List O)
 | all (p:Nat->Prop) (x:Nat->AV) (obs:Nat->List O)
def E.dflt:(e:E)->e.D
 | .int=>(0:Int)
 | .byte=>(0:Int)
 | .bool=>false
 | .str=>[]
 | .row _=>[]
 | .lrow=>(0,[])
 | .vec=>[0,0,0,0]
 | .pr=>([],[])
def ofE:(e:E)->e.D->AV
 | .int,n=>.int .i64 n
 | .byte,n=>.int .u8 n
 | .bool,b=>.bool b
 | .str,s=>.str s
 | .row g,xs=>.sl g .int xs
 | .lrow,(l,xs)=>.lr l xs
 | .vec,xs=>.vec xs
 | .pr,d=>.prv d
def andI (k:IntKind) (a b:Int):Int:=k.wrap (BitVec.ofInt k.bits a &&& BitVec.ofInt k.bits b).toNat
def orI (k:IntKind) (a b:Int):Int:=k.wrap (BitVec.ofInt k.bits a ||| BitVec.ofInt k.bits b).toNat
def xorI (k:IntKind) (a b:Int):Int:=k.wrap (BitVec.ofInt k.bits a ^^^ BitVec.ofInt k.bits b).toNat
def sameK (k k':IntKind) (r:Res):Res:=if k=k' then r else .bad
def binI (op:BinOp) (k k':IntKind) (a b:Int) (obs:List O):Res:=
 match op with
 | .add=>sameK k k' (.ok True (.int k (k.wrap (a+b))) obs)
 | .sub=>sameK k k' (.ok True (.int k (k.wrap (a - b))) obs)
 | .mul=>sameK k k' (.ok True (.int k (k.wrap (a*b))) obs)
 | .eql=>sameK k k' (.ok True (.bool (a == b)) obs)
 | .neq=>sameK k k' (.ok True (.bool (a != b)) obs)
 | .lss=>sameK k k' (.ok True (.bool (decide (a < b))) obs)
 | .leq=>sameK k k' (.ok True (.bool (decide (a<=b))) obs)
 | .gtr=>sameK k k' (.ok True (.bool (decide (a > b))) obs)
 | .geq=>sameK k k' (.ok True (.bool (decide (a≥b))) obs)
 | .quo=>sameK k k' (.ok (b≠0) (.int k (k.wrap (a.tdiv b))) obs)
 | .rem=>sameK k k' (.ok (b≠0) (.int k (a.tmod b)) obs)
 | .and=>sameK k k' (.ok True (.int k (andI k a b)) obs)
 | .or=>sameK k k' (.ok True (.int k (orI k a b)) obs)
 | .xor=>sameK k k' (.ok True (.int k (xorI k a b)) obs)
 | .shl=>.ok (0<=b) (.int k (k.wrap (a*2 ^ min b.toNat k.bits))) obs
 | .shr=>.ok (0<=b) (.int k (a / 2 ^ min b.toNat k.bits)) obs
 | _=>.bad
def binV (op:BinOp) (x y:AV) (obs:List O):Res:=
 match x,y with
 | .int k a,.int k' b=>binI op k k' a b obs
 | .bool a,.bool b=>match op with
  | .eql=>.ok True (.bool (a == b)) obs
  | .neq=>.ok True (.bool (a != b)) obs
  | _=>.bad
 | .str a,.str b=>match op with
  | .eql=>.ok True (.bool (a == b)) obs
  | .neq=>.ok True (.bool (a != b)) obs
  | .add=>.ok (a.length+b.length<=maxLen) (.str (a ++ b)) obs
  | _=>.bad
 | .sl _ _ xs,.nils=>match op with
  | .eql=>.ok (xs≠[]) (.bool false) obs
  | .neq=>.ok (xs≠[]) (.bool true) obs
  | _=>.bad
 | .emp b,.nils=>match op with
  | .eql=>.ok True (.bool b) obs
  | .neq=>.ok True (.bool !b) obs
  | _=>.bad
 | .nils,.nils=>match op with
  | .eql=>.ok True (.bool true) obs
  | .neq=>.ok True (.bool false) obs
  | _=>.bad
 | _,_=>.bad
def lenV (x:AV) (obs:List O):Res:=
 match x with
 | .sl _ _ xs=>.ok True (.int .i64 xs.length) obs
 | .lr _ xs=>.ok True (.int .i64 xs.length) obs
 | .nils=>.ok True (.int .i64 0) obs
 | .emp _=>.ok True (.int .i64 0) obs
 | .str s=>.ok True (.int .i64 s.length) obs
 | .own id g=>match obs[id]? with
  | some (.arr _ xs g' _)=>if g=g' then .ok True (.int .i64 xs.length) obs else .bad
  | some (.mat _ rows g' _)=>if g=g' then .ok True (.int .i64 rows.length) obs else .bad
  | some (.gm _ _ hs g' _)=>if g=g' then .ok True (.int .i64 hs.length) obs else .bad
  | some (.ap _ ys _ g' _)=>if g=g' then .ok True (.int .i64 ys.length) obs else .bad
  | some (.bag d g')=>if g=g'/\2<=d.ph then .ok True (.int .i64 d.xs.length) obs else .bad
  | _=>.bad
 | .hdr (some _) n=>.ok True (.int .i64 n) obs
 | .lenv n=>.ok True (.int .i64 n) obs
 | _=>.bad
def idxV (e?:Option E) (x i:AV) (obs:List O):Res:=
 match e?,x,i with
 | some e2,.sl f e xs,.int _ n=>if e.size=e2.size then .ok (0<=n/\n < xs.length) (.relt f e (xs.getD n.toNat e.dflt)) obs else .bad
 | some e2,.lr _ xs,.int _ n=>if e2.size=1 then .ok (0<=n/\n < xs.length) (.relt true .int (xs.getD n.toNat 0)) obs else .bad
 | some e2,.own id g,.int _ n=>match obs[id]? with
  | some (.arr e xs g' _)=>if g=g'/\e.size=e2.size then .ok (0<=n/\n < xs.length) (.elt id g e.size n.toNat) obs else .bad
  | some (.mat _ rows g' _)=>if g=g'/\e2.size=1 then .ok (0<=n/\n < rows.length) (.elt id g 1 n.toNat) obs else .bad
  | some (.gm _ _ hs g' _)=>if g=g'/\e2.size=1 then .ok (0<=n/\n < hs.length) (.elt id g 1 n.toNat) obs else .bad
  | some (.bag d g')=>if (g=g'/\2<=d.ph)/\e2.size=2 then .ok (0<=n/\n < d.xs.length) (.elt id g 2 n.toNat) obs else .bad
  | _=>.bad
 | some e2,.hdr (some h) m,.int _ n=>if e2.size=1 then .ok (0<=n/\n < m) (.hp h n.toNat) obs else .bad
 | _,_,_=>.bad
def loadV (sc:Bool) (x:AV) (obs:List O):Res:=
 match x with
 | .relt f e d=>if sc=true/\e.size=1 then .ok True (ofE e d) obs else .bad
 | .elt id g s k=>match obs[id]? with
  | some (.arr e xs g' _)=>if g=g'/\s=e.size/\sc=true/\e.size=1 then .ok True (ofE e (xs.getD k e.dflt)) obs else .bad
  | some (.mat hs rows g' _)=>if g=g'/\s=1/\sc=true then .ok True (.hdr (hs.getD k none) (rows.getD k []).length) obs else .bad
  | some (.gm _ F hs g' _)=>if g=g'/\s=1/\sc=true then .ok True (.hdr (some (hs.getD k 0)) (F (hs.getD k 0)).length) obs else .bad
  | _=>.bad
 | .hp h k=>match obs with
  | .gm D F _ _ _ :: _=>if sc=true then .ok (h∈D/\k < (F h).length) (.int .i64 ((F h).getD k 0)) obs else .bad
  | .ap q ys _ _ _ :: _=>if sc=true then .ok (h=q/\k < hdC q) (.lr (ys.getD k (0,[])).1 (ys.getD k (0,[])).2) obs else .bad
  | _=>.bad
 | _=>.bad
def updF (F:Nat->List Int) (h k:Nat) (n:Int):Nat->List Int:=fun y=>if y=h then(F h).set k n else F y
def setM (hs:List (Option Nat)) (rows:List (List Int)) (h k:Nat) (n:Int):List (List Int):=rows.set (hs.idxOf (some h)) ((rows.getD (hs.idxOf (some h)) []).set k n)
def toE:(e:E)->AV->Option e.D
 | .int,.int .i64 n=>some n
 | .byte,.int .u8 n=>some n
 | .bool,.bool b=>some b
 | .str,.str s=>some s
 | .row true,.sl true .int xs=>some xs
 | .row true,.lr _ xs=>some xs
 | .row false,.sl _ .int xs=>some xs
 | .row false,.lr _ xs=>some xs
 | .lrow,.lr l xs=>some (l,xs)
 | .vec,.vec xs=>some xs
 | .pr,.prv d=>some d
 | _,_=>none
def storeV (sc:Bool) (x y:AV) (obs:List O):Res:=
 match x with
 | .elt id g s k=>match obs[id]? with
  | some (.arr e xs g' nn)=>if g=g'/\s=e.size/\sc=true/\e.size=1 then
    match toE e y with
    | some d=>.skip True (obs.set id (.arr e (xs.set k d) g nn))
    | none=>.bad
    else .bad
  | some (.mat hs rows g' nn)=>if g=g'/\s=1/\sc=true then
    match y with
    | .own id2 g2=>match obs[id2]? with
     | some (.arr .int xs g2' true)=>if g2=g2' then .all (fun _=>True) (fun _=>.junk) (fun h=>(obs.set id2 .dead).set id (.mat (hs.set k (some h)) (rows.set k xs) g nn))else .bad
     | _=>.bad
    | _=>.bad
    else .bad
  | some (.gm D F hs g' nn)=>if g=g'/\s=1/\sc=true then
    match y with
    | .hdr (some h) m=>.skip (h∈D/\m=(F h).length) (obs.set id (.gm D F (hs.set k h) g nn))
    | _=>.bad
    else .bad
  | _=>.bad
 | .hp h k=>match y,obs with
  | .int .i64 n,.gm D F hs g nn :: r=>if sc=true then .skip (h∈D/\k < (F h).length) (.gm D (updF F h k n) hs g nn :: r)else .bad
  | .int .i64 n,.mat hs rows g nn :: r=>if sc=true then .skip (some h∈hs/\k < (rows.getD (hs.idxOf (some h)) []).length) (.mat hs (setM hs rows h k n) g nn :: r)else .bad
  | .int .i64 n,.cur s g1 :: .mat hs rows g nn :: r=>if sc=true then .skip (some h∈hs/\k < (rows.getD (hs.idxOf (some h)) []).length) (.cur s g1 :: .mat hs (setM hs rows h k n) g nn :: r)else .bad
  | _,_=>.bad
 | _=>.bad
section sound
variable {C:Ctx} {obs:List O} {w:World} {ρ:Nat->Value}
theorem run_equalIn_nil {P:Program} {t e:TypeId} (d:Nat) (ht:P.underlying t=some (.slice e)) (b:Option Addr) (n c:Nat) (w:World):(Op.equalIn (d+1) t (.slice b n c) (.slice none 0 0)).run P w=.ok b.isNone w:=by
 cases b<;>simp [Op.equalIn,run_underlying ht]
theorem run_equal_nil {P:Program} {t e:TypeId} (ht:P.underlying t=some (.slice e)) (b:Option Addr) (n c:Nat) (w:World):(Op.equal t (.slice b n c) (.slice none 0 0)).run P w=.ok b.isNone w:=run_equalIn_nil 9999 ht b n c w
theorem run_nil_eql {P:Program} {t e:TypeId} (ht:P.underlying t=some (.slice e)) (b:Option Addr) (n c:Nat) (w:World):(binOp .eql t (.slice b n c) (.slice none 0 0)).run P w=.ok (.bool b.isNone) w:=by
 simp only [binOp]
 simp [run_equal_nil ht b n c w]
theorem run_nil_neq {P:Program} {t e:TypeId} (ht:P.underlying t=some (.slice e)) (b:Option Addr) (n c:Nat) (w:World):(binOp .neq t (.slice b n c) (.slice none 0 0)).run P w=.ok (.bool !b.isNone) w:=by
 simp only [binOp]
 simp [run_equal_nil ht b n c w]
theorem sl_base {V:Vw} {f:Bool} {e:E} {xs:List e.D} {v:Value} (h:SlRel V f e xs v) (hx:xs≠[]):∃ a n c,v=.slice (some a) n c:=by
 obtain⟨base,cap,hv,_,_,hel⟩:=h
 obtain⟨a,_,hb,_⟩:=hel 0 (List.length_pos_iff.2 hx)
 exact⟨a,_,_,by rw [hv,hb]⟩
theorem binV_sound {op:BinOp} {t:TypeId} {x y:AV} {vc:Prop} {r:AV} {o:List O} (hsl:(∀ s,x≠.str s)->(∀ b,x≠.bool b)->(∀ k n,x≠.int k n)->∃ e,C.P.underlying t=some (.slice e)) (hb:(∃ a,x=.bool a)->C.P.underlying t=some .bool)
  {u v:Value} (hx:AVRel (C.V w obs ρ) obs ρ x u) (hy:AVRel (C.V w obs ρ) obs ρ y v) (h:binV op x y obs=.ok vc r o) (hv:vc) (ox oy:Operand) :
  o=obs/\∃ z,AVRel (C.V w obs ρ) obs ρ r z/\∀ w',((do eqGuard op t ox oy u v;binOp op t u v):Sem Value).run C.P w'=.ok z w':=by
 unfold binV at h
 split at h
 ·simp only [AVRel]at hx hy
  subst hx hy
  unfold binI at h
  have sk:∀ {k k':IntKind} {a:Res},sameK k k' a=.ok vc r o->k=k'/\a=.ok vc r o:=by
   intro k k' a h
   unfold sameK at h
   split at h
   ·exact⟨‹_›,h⟩
   ·cases h
  split at h
  ·obtain⟨rfl,h2⟩:=sk h;cases h2;exact⟨rfl,_,rfl,fun w'=>by simp [eqGuard,binOp,Op.intArith]⟩
  ·obtain⟨rfl,h2⟩:=sk h;cases h2;exact⟨rfl,_,rfl,fun w'=>by simp [eqGuard,binOp,Op.intArith]⟩
  ·obtain⟨rfl,h2⟩:=sk h;cases h2;exact⟨rfl,_,rfl,fun w'=>by simp [eqGuard,binOp,Op.intArith]⟩
  ·obtain⟨rfl,h2⟩:=sk h;cases h2;exact⟨rfl,_,rfl,fun w'=>by simp [eqGuard,binOp,Op.intCmp]⟩
  ·obtain⟨rfl,h2⟩:=sk h;cases h2;exact⟨rfl,_,rfl,fun w'=>by simp [eqGuard,binOp,Op.intCmp]⟩
  ·obtain⟨rfl,h2⟩:=sk h;cases h2;exact⟨rfl,_,rfl,fun w'=>by simp [eqGuard,binOp,Op.intCmp]⟩
  ·obtain⟨rfl,h2⟩:=sk h;cases h2;exact⟨rfl,_,rfl,fun w'=>by simp [eqGuard,binOp,Op.intCmp]⟩
  ·obtain⟨rfl,h2⟩:=sk h;cases h2;exact⟨rfl,_,rfl,fun w'=>by simp [eqGuard,binOp,Op.intCmp]⟩
  ·obtain⟨rfl,h2⟩:=sk h;cases h2;exact⟨rfl,_,rfl,fun w'=>by simp [eqGuard,binOp,Op.intCmp]⟩
  ·obtain⟨rfl,h2⟩:=sk h;cases h2;exact⟨rfl,_,rfl,fun w'=>by simp [eqGuard,binOp,Op.intDiv,hv]⟩
  ·obtain⟨rfl,h2⟩:=sk h;cases h2;exact⟨rfl,_,rfl,fun w'=>by simp [eqGuard,binOp,Op.intDiv,hv]⟩
  ·obtain⟨rfl,h2⟩:=sk h;cases h2;exact⟨rfl,_,rfl,fun w'=>by simp [eqGuard,binOp,Op.intBits,andI]⟩
  ·obtain⟨rfl,h2⟩:=sk h;cases h2;exact⟨rfl,_,rfl,fun w'=>by simp [eqGuard,binOp,Op.intBits,orI]⟩
  ·obtain⟨rfl,h2⟩:=sk h;cases h2;exact⟨rfl,_,rfl,fun w'=>by simp [eqGuard,binOp,Op.intBits,xorI]⟩
  ·cases h;exact⟨rfl,_,rfl,fun w'=>by simp [eqGuard,binOp,shift_shl_any _ _ _ _ hv]⟩
  ·cases h;exact⟨rfl,_,rfl,fun w'=>by simp [eqGuard,binOp,shift_shr_any _ _ _ _ hv]⟩
  ·cases h
 ·simp only [AVRel]at hx hy
  subst hx hy
  have hu:=hb ⟨_,rfl⟩
  split at h<;>cases h
  ·refine⟨rfl,_,rfl,fun w'=>?_⟩
   have:=run_eql_bool (P:=C.P) w' t
   simp [eqGuard,this _ _ hu]
  ·refine⟨rfl,_,rfl,fun w'=>?_⟩
   have:=run_neq_bool (P:=C.P) w' t
   simp [eqGuard,this _ _ hu,bne]
 ·simp only [AVRel]at hx hy
  subst hx hy
  split at h<;>cases h
  ·refine⟨rfl,_,rfl,fun w'=>?_⟩
   simp [eqGuard,binOp,Op.stringOp,ByteArray.toList_eq]
  ·refine⟨rfl,_,rfl,fun w'=>?_⟩
   simp [eqGuard,binOp,Op.stringOp,ByteArray.toList_eq,bne]
  ·rename_i a b _
   refine⟨rfl,_,rfl,fun w'=>?_⟩
   have:=run_string_add_sum (P:=C.P) w' ⟨a.toArray⟩ ⟨b.toArray⟩ (by simp [ByteArray.size];simp [maxLen]at hv;exact hv)
   rw [ByteArray.mk_append_mk]at this
   simp [eqGuard,binOp,this]
 ·simp only [AVRel]at hy
  subst hy
  obtain⟨e,he⟩:=hsl (by simp) (by simp) (by simp)
  split at h<;>cases h
  ·obtain⟨a,n,c,rfl⟩:=sl_base hx hv
   exact⟨rfl,_,rfl,fun w'=>by simp [eqGuard,run_nil_eql he]⟩
  ·obtain⟨a,n,c,rfl⟩:=sl_base hx hv
   exact⟨rfl,_,rfl,fun w'=>by simp [eqGuard,run_nil_neq he]⟩
 ·simp only [AVRel]at hy
  subst hy
  obtain⟨e,he⟩:=hsl (by simp) (by simp) (by simp)
  obtain⟨a,c,rfl,_,rfl⟩:=hx
  split at h<;>cases h
  ·exact⟨rfl,_,rfl,fun w'=>by simp [eqGuard,run_nil_eql he]⟩
  ·exact⟨rfl,_,rfl,fun w'=>by simp [eqGuard,run_nil_neq he]⟩
 ·simp only [AVRel]at hx hy
  subst hx hy
  obtain⟨e,he⟩:=hsl (by simp) (by simp) (by simp)
  split at h<;>cases h
  ·exact⟨rfl,_,rfl,fun w'=>by simp [eqGuard,run_nil_eql he]⟩
  ·exact⟨rfl,_,rfl,fun w'=>by simp [eqGuard,run_nil_neq he]⟩
 ·cases h
theorem own_arr {id g:Nat} {e:E} {xs:List e.D} {nn:Bool} {v:Value} (r:WRel C obs w ρ) (ho:obs[id]? = some (.arr e xs g nn)) (h:AVRel (C.V w obs ρ) obs ρ (.own id g) v) :
  v=ρ id/\∃ cs,w.ownsRow 0 (C.tid e) e.size v xs.length cs/\Enc (C.V w obs ρ) e xs cs/\(nn=true->v≠.slice none 0 0)/\xs.length<=maxLen:=by
 have h1:v=ρ id:=(h.2 g (by simp [genOf,ho,O.gen])).2 rfl
 subst h1
 exact⟨rfl,r.os id _ ho⟩
theorem own_mat {id g:Nat} {hs:List (Option Nat)} {rows:List (List Int)} {nn:Bool} {v:Value} (r:WRel C obs w ρ) (ho:obs[id]? = some (.mat hs rows g nn)) (h:AVRel (C.V w obs ρ) obs ρ (.own id g) v) :
  v=ρ id/\ORel C.tid w (C.V w obs ρ) v (.mat hs rows g nn):=by
 have h1:v=ρ id:=(h.2 g (by simp [genOf,ho,O.gen])).2 rfl
 subst h1
 exact⟨rfl,r.os id _ ho⟩
theorem own_gm {id g:Nat} {D:List Nat} {F:Nat->List Int} {hs:List Nat} {nn:Bool} {v:Value} (r:WRel C obs w ρ) (ho:obs[id]? = some (.gm D F hs g nn)) (h:AVRel (C.V w obs ρ) obs ρ (.own id g) v) :
  v=ρ id/\ORel C.tid w (C.V w obs ρ) v (.gm D F hs g nn):=by
 have h1:v=ρ id:=(h.2 g (by simp [genOf,ho,O.gen])).2 rfl
 subst h1
 exact⟨rfl,r.os id _ ho⟩
theorem own_ap {id g:Nat} {q:Nat} {ys:List (Nat×List Int)} {fr nn:Bool} {v:Value} (r:WRel C obs w ρ) (ho:obs[id]? = some (.ap q ys fr g nn)) (h:AVRel (C.V w obs ρ) obs ρ (.own id g) v) :
  v=ρ id/\ORel C.tid w (C.V w obs ρ) v (.ap q ys fr g nn):=by
 have h1:v=ρ id:=(h.2 g (by simp [genOf,ho,O.gen])).2 rfl
 subst h1
 exact⟨rfl,r.os id _ ho⟩
theorem own_bag {id g:Nat} {d:BagD} {v:Value} (r:WRel C obs w ρ) (ho:obs[id]? = some (.bag d g)) (h:AVRel (C.V w obs ρ) obs ρ (.own id g) v) :
  v=ρ id/\BagRel w (C.V w obs ρ) (C.tid .pr) v d:=by
 have h1:v=ρ id:=(h.2 g (by simp [genOf,ho,O.gen])).2 rfl
 subst h1
 exact⟨rfl,r.os id _ ho⟩
theorem ownsRow_len {base e size:Nat} {v:Value} {n:Nat} {cs:List Value} (h:w.ownsRow base e size v n cs):∃ a cap,v=.slice a n cap:=by
 rcases h.2 with⟨rfl,rfl⟩ | ⟨g,cap,cur,rfl,_⟩
 ·exact⟨_,_,rfl⟩
 ·exact⟨_,_,rfl⟩
theorem lenV_sound {t ty:TypeId} {x:AV} {vc:Prop} {r:AV} {o:List O} (hs:∀ s,x=.str s->C.P.underlying t=some .string) (hl:(∀ s,x≠.str s)->∃ e,C.P.underlying t=some (.slice e))
  (rr:WRel C obs w ρ) {u:Value} (hx:AVRel (C.V w obs ρ) obs ρ x u) (h:lenV x obs=.ok vc r o) :
  o=obs/\∃ z,AVRel (C.V w obs ρ) obs ρ r z/\∀ w',(Builtin.len_ #[t] ty #[u]).run C.P w'=.ok z w':=by
 have sl:∀ a n c,(∃ e,C.P.underlying t=some (.slice e))->u=.slice a n c->∀ w',(Builtin.len_ #[t] ty #[u]).run C.P w'=.ok (.int .i64 n) w':=by
  intro a n c ⟨e,he⟩ hu w'
  subst hu
  simp [Builtin.len_,run_underlying he,goInt]
 unfold lenV at h
 split at h
 ·cases h
  obtain⟨b,c,hv,_⟩:=hx
  exact⟨rfl,_,rfl,sl _ _ _ (hl (by simp)) hv⟩
 ·cases h
  obtain⟨c,cur,hv,_⟩:=hx
  exact⟨rfl,_,rfl,sl _ _ _ (hl (by simp)) hv⟩
 ·cases h
  exact⟨rfl,_,rfl,sl _ _ _ (hl (by simp)) hx⟩
 ·cases h
  obtain⟨a,c,hv,_⟩:=hx
  exact⟨rfl,_,rfl,sl _ _ _ (hl (by simp)) hv⟩
 ·cases h
  rename_i s
  have hu:=hs s rfl
  simp only [AVRel]at hx
  subst hx
  refine⟨rfl,_,rfl,fun w'=>?_⟩
  have e1:(⟨s.toArray⟩:ByteArray).size=s.length:=by simp [ByteArray.size]
  simp only [Builtin.len_]
  simp [run_underlying hu,goInt,e1]
 ·rename_i id g
  split at h
  ·rename_i e xs g' nn ho
   split at h
   ·rename_i hg
    subst hg
    cases h
    obtain⟨_,cs,h1,_⟩:=own_arr rr ho hx
    obtain⟨a,c,hv⟩:=ownsRow_len h1
    exact⟨rfl,_,rfl,sl _ _ _ (hl (by simp)) hv⟩
   ·cases h
  ·rename_i hs rows g' nn ho
   split at h
   ·rename_i hg
    subst hg
    cases h
    obtain⟨_,cs,h1,_⟩:=own_mat rr ho hx
    obtain⟨a,c,hv⟩:=ownsRow_len h1
    exact⟨rfl,_,rfl,sl _ _ _ (hl (by simp)) hv⟩
   ·cases h
  ·rename_i D F hs g' nn ho
   split at h
   ·rename_i hg
    subst hg
    cases h
    obtain⟨_,cs,h1,_⟩:=own_gm rr ho hx
    obtain⟨a,c,hv⟩:=ownsRow_len h1
    exact⟨rfl,_,rfl,sl _ _ _ (hl (by simp)) hv⟩
   ·cases h
  ·rename_i q ys fr g' nn ho
   split at h
   ·rename_i hg
    subst hg
    cases h
    obtain⟨_,cs,h1,_⟩:=own_ap rr ho hx
    obtain⟨a,c,hv⟩:=ownsRow_len h1
    exact⟨rfl,_,rfl,sl _ _ _ (hl (by simp)) hv⟩
   ·cases h
  ·rename_i d g' ho
   split at h
   ·rename_i hg
    obtain⟨hg,h2⟩:=hg
    subst hg
    cases h
    obtain⟨_,hb⟩:=own_bag rr ho hx
    obtain⟨cs,h1,_⟩:=hb.r h2
    obtain⟨a,c,hv⟩:=ownsRow_len h1
    exact⟨rfl,_,rfl,sl _ _ _ (hl (by simp)) hv⟩
   ·cases h
  ·cases h
 ·cases h
  exact⟨rfl,_,rfl,sl _ _ _ (hl (by simp)) hx⟩
 ·cases h
  obtain⟨a,c,hv⟩:=hx
  exact⟨rfl,_,rfl,sl _ _ _ (hl (by simp)) hv⟩
 ·cases h
theorem getD_eq {α:Type} {l:List α} {k:Nat} {d:α} (h:k < l.length):l.getD k d=l[k]:=by
 simp [List.getD,geE h]
theorem idxV_sound (hC:C.Ok) {t:TypeId} {e?:Option E} (he:e? = C.Γ t) {x i:AV} {vc:Prop} {r:AV} {o:List O} (rr:WRel C obs w ρ) {u j:Value}
  (hx:AVRel (C.V w obs ρ) obs ρ x u) (hi:AVRel (C.V w obs ρ) obs ρ i j) (h:idxV e? x i obs=.ok vc r o) (hv:vc) :
  o=obs/\∃ z,AVRel (C.V w obs ρ) obs ρ r z/\∀ w',(Instr.indexAt t u j).run C.P w'=.ok z w':=by
 have sl:∀ e,C.Γ t=some e->∀ a len cap k (n:Int),u=.slice (some a) len cap->j=.int k n->0<=n->n < len->∀ w',(Instr.indexAt t u j).run C.P w'=.ok (.pointer (some (a.add (n.toNat*e.size)))) w':=by
  intro e he a len cap k n hu hj h0 h1 w'
  obtain⟨ht,i,hinf,_,hs,_⟩:=hC.sl t e he
  subst hu hj
  simp [Instr.indexAt,run_underlying ht,asIntOf,h0,h1,sizeOf,typeInfo,hinf,hs]
 unfold idxV at h
 split at h
 ·rename_i _ e2 f e xs k n
  split at h
  case isFalse=>cases h
  rename_i hse
  cases h
  obtain⟨h0,h1⟩:=hv
  simp only [AVRel]at hi
  obtain⟨base,cap,hu,h2,h3,hel⟩:=hx
  have hlt:n.toNat < xs.length:=by omega
  obtain⟨a,z,hb,hf,hr,hc⟩:=hel n.toNat hlt
  subst hb
  refine⟨rfl,_,⟨a.add (n.toNat*e.size),z,rfl,by rw [add_block];exact hf,by rw [getD_eq hlt];exact hr,fun q hq=>?_⟩,fun w'=>?_⟩
  ·rw [add_add];exact hc q hq
  ·rw [hse];exact sl e2 he.symm _ _ _ _ _ hu hi h0 h1 w'
 ·rename_i _ e2 l xs k n
  split at h
  case isFalse=>cases h
  rename_i hse
  cases h
  obtain⟨h0,h1⟩:=hv
  simp only [AVRel]at hi
  have hx2:=LRowRel.toRow hx
  obtain⟨base,cap,hu,h2,h3,hel⟩:=hx2
  have hlt:n.toNat < xs.length:=by omega
  obtain⟨a,hb,hf,hc⟩:=hel n.toNat hlt
  subst hb
  refine⟨rfl,_,⟨a.add n.toNat,.int .i64 xs[n.toNat],rfl,by rw [add_block];exact hf,by rw [getD_eq hlt];rfl,fun q hq=>?_⟩,fun w'=>?_⟩
  ·have:q=0:=by simp [E.size]at hq;omega
   subst this
   rw [add_add]
   simpa [Value.cells] using hc
  ·have:=sl e2 he.symm _ _ _ _ _ hu hi h0 h1 w'
   rw [hse,Nat.mul_one]at this
   exact this
 ·rename_i _ e2 id g k n
  split at h
  ·rename_i e xs g' nn ho
   split at h
   ·rename_i hg
    obtain⟨hg,hse⟩:=hg
    subst hg
    cases h
    obtain⟨h0,h1⟩:=hv
    simp only [AVRel]at hi
    obtain⟨hρ,cs,hown,_⟩:=own_arr rr ho hx
    have hn:0 < xs.length:=by omega
    rcases hown.2 with⟨_,hz⟩ | ⟨b,cap,cur,hu,_⟩
    ·omega
    ·refine⟨rfl,.pointer (some ((⟨b,0,none⟩:Addr).add (n.toNat*e.size))),⟨hx.1,fun c hc=>?_⟩,fun w'=>?_⟩
     ·have:c=g:=by simp [genOf,ho,O.gen]at hc;exact hc.symm
      subst this
      exact⟨Nat.le_refl _,fun _=>⟨⟨b,0,none⟩,xs.length,cap,by rw [<- hρ];exact hu,by omega,rfl⟩⟩
     ·rw [hse];exact sl e2 he.symm _ _ _ _ _ hu hi h0 h1 w'
   ·cases h
  ·rename_i hs rows g' nn ho
   split at h
   ·rename_i hg
    obtain⟨hg,hse⟩:=hg
    subst hg
    cases h
    obtain⟨h0,h1⟩:=hv
    simp only [AVRel]at hi
    obtain⟨hρ,cs,hown,_⟩:=own_mat rr ho hx
    have hn:0 < rows.length:=by omega
    rcases hown.2 with⟨_,hz⟩ | ⟨b,cap,cur,hu,_⟩
    ·omega
    ·refine⟨rfl,.pointer (some ((⟨b,0,none⟩:Addr).add (n.toNat*1))),⟨hx.1,fun c hc=>?_⟩,fun w'=>?_⟩
     ·have:c=g:=by simp [genOf,ho,O.gen]at hc;exact hc.symm
      subst this
      exact⟨Nat.le_refl _,fun _=>⟨⟨b,0,none⟩,rows.length,cap,by rw [<- hρ];exact hu,by omega,rfl⟩⟩
     ·have:=sl e2 he.symm _ _ _ _ _ hu hi h0 h1 w';rw [hse]at this;exact this
   ·cases h
  ·rename_i D F hs g' nn ho
   split at h
   ·rename_i hg
    obtain⟨hg,hse⟩:=hg
    subst hg
    cases h
    obtain⟨h0,h1⟩:=hv
    simp only [AVRel]at hi
    obtain⟨hρ,cs,hown,_⟩:=own_gm rr ho hx
    have hn:0 < hs.length:=by omega
    rcases hown.2 with⟨_,hz⟩ | ⟨b,cap,cur,hu,_⟩
    ·omega
    ·refine⟨rfl,.pointer (some ((⟨b,0,none⟩:Addr).add (n.toNat*1))),⟨hx.1,fun c hc=>?_⟩,fun w'=>?_⟩
     ·have:c=g:=by simp [genOf,ho,O.gen]at hc;exact hc.symm
      subst this
      exact⟨Nat.le_refl _,fun _=>⟨⟨b,0,none⟩,hs.length,cap,by rw [<- hρ];exact hu,by omega,rfl⟩⟩
     ·have:=sl e2 he.symm _ _ _ _ _ hu hi h0 h1 w';rw [hse]at this;exact this
   ·cases h
  ·rename_i d g' ho
   split at h
   ·rename_i hg
    obtain⟨⟨hg,h2⟩,hse⟩:=hg
    subst hg
    cases h
    obtain⟨h0,h1⟩:=hv
    simp only [AVRel]at hi
    obtain⟨hρ,hb⟩:=own_bag rr ho hx
    obtain⟨cs,hown,_⟩:=hb.r h2
    have hn:0 < d.xs.length:=by omega
    rcases hown.2 with⟨_,hz⟩ | ⟨b,cap,cur,hu,_⟩
    ·omega
    ·refine⟨rfl,.pointer (some ((⟨b,0,none⟩:Addr).add (n.toNat*2))),⟨hx.1,fun c hc=>?_⟩,fun w'=>?_⟩
     ·have:c=g:=by simp [genOf,ho,O.gen]at hc;exact hc.symm
      subst this
      exact⟨Nat.le_refl _,fun _=>⟨⟨b,0,none⟩,d.xs.length,cap,by rw [<- hρ];exact hu,by omega,rfl⟩⟩
     ·rw [<- hse];exact sl e2 he.symm _ _ _ _ _ hu hi h0 h1 w'
   ·cases h
  ·cases h
 ·rename_i _ e2 q m k n
  split at h
  case isFalse=>cases h
  rename_i hse
  cases h
  obtain⟨h0,h1⟩:=hv
  simp only [AVRel]at hi
  refine⟨rfl,.pointer (some ((⟨hdB q,0,none⟩:Addr).add n.toNat)),rfl,fun w'=>?_⟩
  have:=sl e2 he.symm _ _ _ _ _ hx hi h0 h1 w'
  rw [hse,Nat.mul_one]at this
  exact this
 ·cases h
theorem sc_plain (hC:C.Ok) {t:TypeId} (h:C.sc t=true):(∀ w',(isAgg t).run C.P w'=.ok false w')/\∃ i,C.P.info? t=some i/\i.size=1:=by
 unfold Ctx.sc at h
 rcases Bool.or_eq_true _ _▸h with h | h
 ·obtain⟨b,hb⟩:=Option.isSome_iff_exists.1 h
  obtain⟨h1,h2⟩:=hC.bt t b hb
  refine⟨fun w'=>?_,h2⟩
  cases b<;>simp [isAgg,run_underlying h1,BT.desc]
 ·obtain⟨e,he⟩:=Option.isSome_iff_exists.1 h
  obtain⟨h1,_⟩:=hC.sl t e he
  exact⟨fun w'=>by simp [isAgg,run_underlying h1],hC.slc t e he⟩
theorem ofE_rel {V:Vw} {e:E} (h1:e.size=1) {d:e.D} {u:Value} (h:ElRel V e d u):AVRel V obs ρ (ofE e d) u:=by
 cases e with
 | int=>exact h
 | byte=>exact h
 | bool=>exact h
 | str=>exact h.1
 | row f=>exact RowRel.toSl h
 | lrow=>exact h
 | vec=>simp [E.size]at h1
 | pr=>simp [E.size]at h1
theorem one_cells {V:Vw} {e:E} (h1:e.size=1) {d:e.D} {u:Value} (h:ElRel V e d u):u.cells=#[u]/\u.oneCell'=true:=by
 cases e with
 | int=>cases h;exact⟨rfl,rfl⟩
 | byte=>cases h;exact⟨rfl,rfl⟩
 | bool=>cases h;exact⟨rfl,rfl⟩
 | str=>obtain⟨rfl,_⟩:=h;exact⟨rfl,rfl⟩
 | row f=>exact⟨cells_oneCell (RowRel.oneCell h),RowRel.oneCell h⟩
 | lrow=>exact⟨cells_oneCell (LRowRel.oneCell h),LRowRel.oneCell h⟩
 | vec=>simp [E.size]at h1
 | pr=>simp [E.size]at h1
theorem V_cell {a:Addr} {v:Value} (h:(C.V w obs ρ).cell a=some v):w.cell? a=some v:=by
 simp only [Vw.cell,Ctx.V,mask]at h
 unfold World.cell?
 split at h
 ·rename_i c t f hm
  split at hm
  ·cases hm
  ·rw [hm];exact h
 ·cases h
theorem loadV_sound (hC:C.Ok) {t:TypeId} {x:AV} {vc:Prop} {r:AV} {o:List O} (rr:WRel C obs w ρ) {u:Value}
  (hx:AVRel (C.V w obs ρ) obs ρ x u) (h:loadV (C.sc t) x obs=.ok vc r o) (hv:vc) :
  o=obs/\∃ z,AVRel (C.V w obs ρ) obs ρ r z/\(Instr.loadAt t u).run C.P w=.ok z w:=by
 unfold loadV at h
 split at h
 ·rename_i f e d
  split at h
  case isFalse=>cases h
  rename_i hc
  cases h
  obtain⟨a,z,hu,hf,hr,hcell⟩:=hx
  subst hu
  have h0:=hcell 0 om
  rw [(one_cells hc.2 hr).1]at h0
  simp [Addr.add]at h0
  have h1:=V_cell h0
  refine⟨rfl,z,ofE_rel hc.2 hr,?_⟩
  simp [Instr.loadAt,Instr.sureAddr,loadVar,(sc_plain hC hc.1).1 w,h1]
 ·rename_i id g s k
  split at h
  case h_4=>cases h
  case h_3=>
   rename_i D F hs g' nn ho
   split at h
   case isFalse=>cases h
   rename_i hc
   obtain⟨hg,hss,hsc⟩:=hc
   subst hg hss
   cases h
   obtain⟨a,len,cap,hρ,hk,hu⟩:=(hx.2 g (by simp [genOf,ho,O.gen])).2 rfl
   subst hu
   obtain⟨cs,hown,hrow,_⟩:=rr.os id _ ho
   rw [hρ]at hown
   have hlen:len=hs.length:=by
    rcases hown.2 with⟨hh,_⟩ | ⟨b,c2,cur,hh,_⟩
    ·cases hh
    ·cases hh;rfl
   subst hlen
   have hcl:cs.length=hs.length:=by have:=hown.1;omega
   have hm:=hrow k hs[k] cs[k] (by simp) (by simp)
   have hcell:=hown.cells (g:=a.block) (by simp [Value.ownBlock]) k cs[k] (by simp)
   have ha:a=⟨a.block,0,none⟩:=by
    rcases hown.2 with⟨hh,_⟩ | ⟨b,c2,cur,hh,_⟩
    ·cases hh
    ·cases hh;rfl
   rw [<- ha]at hcell
   refine⟨rfl,cs[k],?_,by simp [Instr.loadAt,Instr.sureAddr,loadVar,(sc_plain hC hsc).1 w,hcell]⟩
   have e1:hs.getD k 0=hs[k]:=by simp [hk]
   rw [e1]
   exact hm.2
  case h_2=>
   rename_i hs rows g' nn ho
   split at h
   case isFalse=>cases h
   rename_i hc
   obtain⟨hg,hss,hsc⟩:=hc
   subst hg hss
   cases h
   obtain⟨a,len,cap,hρ,hk,hu⟩:=(hx.2 g (by simp [genOf,ho,O.gen])).2 rfl
   subst hu
   obtain⟨cs,hown,hhl,hrow,_⟩:=rr.os id _ ho
   rw [hρ]at hown
   have hlen:len=rows.length:=by
    rcases hown.2 with⟨hh,_⟩ | ⟨b,c2,cur,hh,_⟩
    ·cases hh
    ·cases hh;rfl
   subst hlen
   have hcl:cs.length=rows.length:=by have:=hown.1;omega
   have hm:=hrow k hs[k] rows[k] cs[k] (by simp) (by simp) (by simp)
   have hcell:=hown.cells (g:=a.block) (by simp [Value.ownBlock]) k cs[k] (by simp)
   have ha:a=⟨a.block,0,none⟩:=by
    rcases hown.2 with⟨hh,_⟩ | ⟨b,c2,cur,hh,_⟩
    ·cases hh
    ·cases hh;rfl
   rw [<- ha]at hcell
   refine⟨rfl,cs[k],?_,by simp [Instr.loadAt,Instr.sureAddr,loadVar,(sc_plain hC hsc).1 w,hcell]⟩
   have e1:hs.getD k none=hs[k]:=by simp [show k < hs.length by omega]
   have e2:rows.getD k []=rows[k]:=by simp [hk]
   rw [e1,e2]
   cases hh:hs[k] with
   | none=>rw [hh]at hm;exact hm.1
   | some h=>rw [hh]at hm;exact hm.1
  rename_i e xs g' nn ho
  split at h
  case isFalse=>cases h
  rename_i hc
  obtain⟨hg,hs,hsc,h1⟩:=hc
  subst hg hs
  cases h
  obtain⟨a,len,cap,hρ,hk,hu⟩:=(hx.2 g (by simp [genOf,ho,O.gen])).2 rfl
  subst hu
  obtain⟨cs,hown,henc,_⟩:=rr.os id _ ho
  rw [hρ]at hown
  have hlen:len=xs.length:=by
   rcases hown.2 with⟨hh,_⟩ | ⟨b,c2,cur,hh,_⟩
   ·cases hh
   ·cases hh;rfl
  subst hlen
  obtain⟨z,hr,hz⟩:=henc.2 k hk
  have h0:=hz 0 om
  rw [(one_cells h1 hr).1]at h0
  simp [h1]at h0
  have hcell:=hown.cells (g:=a.block) (by simp [Value.ownBlock]) k z h0
  have ha:a=⟨a.block,0,none⟩:=by
   rcases hown.2 with⟨hh,_⟩ | ⟨b,c2,cur,hh,_⟩
   ·cases hh
   ·cases hh;rfl
  rw [<- ha]at hcell
  refine⟨rfl,z,by rw [getD_eq hk];exact ofE_rel h1 hr,?_⟩
  simp [Instr.loadAt,Instr.sureAddr,loadVar,(sc_plain hC hsc).1 w,h1,hcell]
 ·rename_i q k
  split at h
  case h_3=>cases h
  case h_2=>
   rename_i q' ys fr g nn rest
   split at h
   case isFalse=>cases h
   rename_i hsc
   cases h
   obtain⟨hq,hk⟩:=hv
   subst hq
   obtain⟨cs,hown,henc,_,_,hle,⟨cur,ty,f,hg,hcur⟩,_⟩:=rr.os 0 _ rfl
   have hky:k < ys.length:=by omega
   obtain⟨u2,hu2,hc2⟩:=henc.2 k hky
   have h0:=hc2 0 (by simp [E.size])
   simp only [E.size,Nat.mul_one,Nat.add_zero]at h0
   have hl2:LRowRel (C.V w (.ap q ys fr g nn :: rest) ρ) (ys.getD k (0,[])).1 (ys.getD k (0,[])).2 u2:=by
    rw [getD_eq hky];exact hu2
   rw [cells_oneCell (LRowRel.oneCell hl2)]at h0
   have hcell:w.cell? ((⟨hdB q,0,none⟩:Addr).add k)=some u2:=by
    rw [add_plain]
    simp only [World.cell?,hg,Nat.zero_add]
    have:=hcur k hk
    rw [h0]at this
    simpa using this
   refine⟨rfl,u2,hl2,?_⟩
   rw [show u=.pointer (some ((⟨hdB q,0,none⟩:Addr).add k))from hx]
   simp [Instr.loadAt,Instr.sureAddr,loadVar,(sc_plain hC hsc).1 w,hcell]
  rename_i D F hs g nn rest
  split at h
  case isFalse=>cases h
  rename_i hsc
  cases h
  obtain⟨hq,hk⟩:=hv
  obtain⟨cs,_,_,hpool,_⟩:=rr.os 0 _ rfl
  obtain⟨_,cur,hg,m1,m2,m3,m4⟩:=hpool q hq
  have hcell:w.cell? ((⟨hdB q,0,none⟩:Addr).add k)=some (.int .i64 ((F q).getD k 0)):=by
   have h5:(cur.toList.take (F q).length)[k]? = ((F q).map (Value.int .i64))[k]?:=by rw [m4]
   rw [List.getElem?_take,if_pos hk]at h5
   rw [add_plain]
   simp only [World.cell?,hg,Nat.zero_add]
   simpa [hk] using h5
  refine⟨rfl,_,rfl,?_⟩
  rw [show u=.pointer (some ((⟨hdB q,0,none⟩:Addr).add k))from hx]
  simp [Instr.loadAt,Instr.sureAddr,loadVar,(sc_plain hC hsc).1 w,hcell]
 ·cases h
end sound
end Go.Aw
