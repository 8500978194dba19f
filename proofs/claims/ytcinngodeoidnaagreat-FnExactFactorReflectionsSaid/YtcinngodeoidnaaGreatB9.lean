/- The tables of this program's types. -/
import Derived.Test.YtcinngodeoidnaaGreatAw8
import Derived.Test.YtcinngodeoidnaaGreatProg
import Derived.KernelRfl
set_option linter.unusedVariables false
set_option linter.unusedSimpArgs false
namespace Go.Proofs.YtcinngodeoidnaaGreat
open Go Go.Aw
def Btid:E->Nat
 | .int=>3
 | .byte=>5
 | .bool=>4
 | .str=>9
 | .row _=>25
 | .lrow=>25
 | .vec=>90
 | .pr=>92
def BG (t:Nat):Option E:=if t=25 then some .int else if t=24 then some .lrow else if t=100 then some .str else if t=22 then some .byte else if t=117 then some .bool else if t=88 then some .pr else none
def Bbt (t:Nat):Option BT:=if t=3 then some (.int .i64)else if t=4 then some .bool else if t=9 then some .str else if t=5 then some (.int .u8)else none
def BM (t:Nat):Option MT:=if t=89 then some ⟨true,false⟩else none
def BW (t:Nat):Option E:=if t=90 then some .vec else none
def Bpt (t:Nat):Bool:=t == 92
noncomputable def B:Ctx:=⟨Tryz.prog,default,(fun _ _=>True),default,(fun _=>False),Btid,BG,Bbt,BM,[],(fun _=>False),BW,true,Bpt⟩
instance:DrT B:=⟨rfl⟩
set_option maxRecDepth 100000 in
theorem B_ok:B.Ok:=by
 refine⟨fun t e h=>?_,fun t e h=>?_,fun t b h=>?_,fun f=>rfl,by kernel_rfl,fun t h=>?_,fun t m h=>?_,fun t e h=>?_,?_,fun t e h=>?_,fun t m h=>?_,fun t h=>?_⟩
 ·simp only [B,BG]at h
  (repeat' split at h)<;>first | (cases h;done) | (cases h;subst_vars;first | exact⟨Tryz.underlying25,_,rfl,rfl,rfl,rfl⟩ | exact⟨Tryz.underlying24,_,rfl,rfl,rfl,rfl⟩ | exact⟨Tryz.underlying100,_,rfl,rfl,rfl,rfl⟩ | exact⟨Tryz.underlying22,_,rfl,rfl,rfl,rfl⟩ | exact⟨Tryz.underlying117,_,rfl,rfl,rfl,rfl⟩ | exact⟨Tryz.underlying88,_,rfl,rfl,rfl,rfl⟩)
 ·simp only [B,BG]at h
  (repeat' split at h)<;>first | (cases h;done) | (cases h;subst_vars;exact⟨_,rfl,rfl⟩)
 ·simp only [B,Bbt]at h
  (repeat' split at h)<;>first | (cases h;done) | (cases h;subst_vars;first | exact⟨Tryz.underlying3,_,rfl,rfl⟩ | exact⟨Tryz.underlying4,_,rfl,rfl⟩ | exact⟨Tryz.underlying9,_,rfl,rfl⟩ | exact⟨Tryz.underlying5,_,rfl,rfl⟩)
 ·exact Tryz.underlying5
 ·simp only [B,BM]at h
  (repeat' split at h)<;>first | (cases h;done) | (cases h;subst_vars;first | exact⟨_,_,Tryz.underlying89,fun h=>(by cases h),fun _=>⟨_,Tryz.underlying90,Tryz.underlying3,_,rfl,rfl⟩,Tryz.zeroValue4⟩ | (cases h;done))
 ·simp only [B,BW]at h
  split at h
  ·cases h;subst_vars;exact⟨rfl,rfl,_,Tryz.underlying90,Tryz.underlying3,⟨_,rfl,rfl⟩,_,rfl,rfl,rfl⟩
  ·cases h
 ·exact⟨_,rfl,rfl,rfl⟩
 ·simp only [B,BG]at h
  (repeat' split at h)<;>first | (cases h;done) | (cases h;subst_vars;exact⟨_,rfl,rfl⟩)
 ·simp only [B,BM]at h
  (repeat' split at h)<;>first | (cases h;done) | (cases h;subst_vars;exact⟨_,_,rfl,rfl,rfl,rfl⟩)
 ·simp only [B,Bpt,beq_iff_eq]at h
  subst h;exact⟨rfl,_,_,Tryz.underlying92,rfl,rfl,⟨_,rfl,rfl⟩,⟨_,rfl,rfl⟩,_,rfl,rfl,rfl⟩
theorem BX:B.tid .lrow=25/\B.Γ 25=some .int/\B.Γ 24=some .lrow/\B.Γ 100=some .str/\B.Γ 22=some .byte/\B.Γ 117=some .bool/\B.Γ 88=some .pr/\B.bt 3=some (.int .i64)/\B.bt 4=some .bool/\B.bt 9=some .str/\B.bt 5=some (.int .u8)/\B.bt 25=none/\B.bt 24=none/\B.bt 100=none/\B.bt 22=none/\B.bt 117=none/\B.bt 88=none/\B.Γ 3=none/\B.Γ 4=none/\B.Γ 9=none/\B.Γ 5=none/\B.mt 0=none/\B.mt 89=some ⟨true,false⟩/\B.wt 25=none/\B.wt 24=none/\B.wt 100=none/\B.wt 22=none/\B.wt 117=none/\B.wt 88=none/\B.wt 3=none/\B.wt 4=none/\B.wt 9=none/\B.wt 5=none/\B.wt 0=none/\B.wt 90=some .vec/\B.Γ 90=none/\B.bt 90=none/\B.pt 25=false/\B.pt 24=false/\B.pt 100=false/\B.pt 22=false/\B.pt 117=false/\B.pt 88=false/\B.pt 3=false/\B.pt 4=false/\B.pt 9=false/\B.pt 5=false/\B.pt 89=false/\B.pt 0=false/\B.pt 90=false/\B.wt 89=none/\B.Γ 89=none/\B.bt 89=none/\B.mt 25=none/\B.mt 24=none/\B.mt 100=none/\B.mt 22=none/\B.mt 117=none/\B.mt 88=none/\B.mt 3=none/\B.mt 4=none/\B.mt 9=none/\B.mt 5=none/\B.pt 92=true:=⟨rfl,rfl,rfl,rfl,rfl,rfl,rfl,rfl,rfl,rfl,rfl,rfl,rfl,rfl,rfl,rfl,rfl,rfl,rfl,rfl,rfl,rfl,rfl,rfl,rfl,rfl,rfl,rfl,rfl,rfl,rfl,rfl,rfl,rfl,rfl,rfl,rfl,rfl,rfl,rfl,rfl,rfl,rfl,rfl,rfl,rfl,rfl,rfl,rfl,rfl,rfl,rfl,rfl,rfl,rfl,rfl,rfl,rfl,rfl,rfl,rfl,rfl,rfl,rfl⟩
theorem wk {f:FuncId} {args:List AV} {post:List AV->List O->Prop} {fn:Func} {c:Code} {m:Nat} (h1:∀(vs:Array Value) (w:World),(callFunc f vs).run B.P w=.ok (.enter f vs) w) (hf:B.P.funcs[f]? = some fn) (hb:fn.body=some c) (hm:fn.ntmps=m)
  (h:∀ C:Ctx,C.Ok->B.P=C.P->B.tid=C.tid->C.fn=fn->C.pin=[]->(∀ xs obs,xs.all freshAV=true->obs.all freshO=true->post xs obs->Fin C xs obs)->(C.tid .lrow=25/\C.Γ 25=some .int/\C.Γ 24=some .lrow/\C.Γ 100=some .str/\C.Γ 22=some .byte/\C.Γ 117=some .bool/\C.Γ 88=some .pr/\C.bt 3=some (.int .i64)/\C.bt 4=some .bool/\C.bt 9=some .str/\C.bt 5=some (.int .u8)/\C.bt 25=none/\C.bt 24=none/\C.bt 100=none/\C.bt 22=none/\C.bt 117=none/\C.bt 88=none/\C.Γ 3=none/\C.Γ 4=none/\C.Γ 9=none/\C.Γ 5=none/\C.mt 0=none/\C.mt 89=some ⟨true,false⟩/\C.wt 25=none/\C.wt 24=none/\C.wt 100=none/\C.wt 22=none/\C.wt 117=none/\C.wt 88=none/\C.wt 3=none/\C.wt 4=none/\C.wt 9=none/\C.wt 5=none/\C.wt 0=none/\C.wt 90=some .vec/\C.Γ 90=none/\C.bt 90=none/\C.pt 25=false/\C.pt 24=false/\C.pt 100=false/\C.pt 22=false/\C.pt 117=false/\C.pt 88=false/\C.pt 3=false/\C.pt 4=false/\C.pt 9=false/\C.pt 5=false/\C.pt 89=false/\C.pt 0=false/\C.pt 90=false/\C.wt 89=none/\C.Γ 89=none/\C.bt 89=none/\C.mt 25=none/\C.mt 24=none/\C.mt 100=none/\C.mt 22=none/\C.mt 117=none/\C.mt 88=none/\C.mt 3=none/\C.mt 4=none/\C.mt 9=none/\C.mt 5=none/\C.pt 92=true)->Run C [.code c] (entry args m)) (hn:args.length<=m:=by simp):FunA B f args post:=by
 subst hm
 refine FunA.walk B_ok h1 hf hb hn (fun C hC hP hT hΓ hbt hfn hpin hfin=>?_)
 have hX:=BX
 rw [<- hΓ,<- hbt.1,<- hbt.2.1,<- hbt.2.2.1,<- hbt.2.2.2.2]at hX
 rw [hT]at hX
 exact h C hC hP hT hfn hpin hfin hX
theorem take_snoc {α:Type} (d:α) (p:List α) (i:Nat) (h:i < p.length):p.take i ++ [p.getD i d]=p.take (i+1):=by
 rw [List.take_add_one]
 simp [h]
theorem set_fill (p:LI) (i:Nat) (h:i < p.length) (z:Int):(p.take i ++ List.replicate (p.length - i) z).set i (p.getD i 0)=p.take (i+1) ++ List.replicate (p.length - (i+1)) z:=by
 obtain⟨m,hm⟩:∃ m,p.length - i=m+1:=⟨p.length - i - 1,by omega⟩
 have hl:(p.take i).length=i:=by simp;omega
 rw [hm,List.replicate_succ,List.set_append,hl,if_neg om,Nat.sub_self,List.set_cons_zero,<- take_snoc 0 p i h,show p.length - (i+1)=m from by omega]
 simp
theorem c_toIntS (p:LI) (hp:p.length<=1048576):FunA B 68 [.sl false .int p] (fun rs o=>rs=[.own 0 0]/\o=[.arr .int p 0 true]):=by
 refine wk Tryz.call68 Tryz.func68 rfl Tryz.ntmps68 fun C hC hP hT hfn hpin hfin hX=>wW ?_
 refine Run.R ?_
 refine Run.R ?_
 refine Run.R ?_
 refine Run.loopI (X:=Nat) (fun i=>⟨22,[(0,true,.v (.sl false .int p)),(4,true,.v (.int .i64 i)),(3,true,.v (.own 0 0))],[.arr .int (p.take i ++ List.replicate (p.length - i) 0) 0 true]⟩) (fun i=>i<=p.length) (fun i=>p.length - i) 0 (nz0 _) ?_ ?_
 ·refine Le.sub (by simp) ?_
  simp only [AW7,simprocAttr,hX];try simp
 rintro i hi ih
 refine Run.R ?_
 refine Run.c ?_ ?_
 ·intro hc
  have hc:i < p.length:=by simpa using hc
  refine Run.R ?_
  refine Run.RW ?_
  refine Run.le ?_ (ih (i+1) hc om)
  refine Le.sub ?_ ?_
  ·rw [<- set_fill p i hc]
  ·simp only [AW7,simprocAttr];try simp
 ·intro hc
  have hc:i=p.length:=by simp at hc;omega
  refine Run.x ?_
  refine Run.R ?_
  subst hc
  refine Run.r [2] ?_
  simp
theorem c_eqIntS (p q:LI) (hp:p.length<=4503599627370496):FunA B 69 [.sl false .int p,.sl false .int q] (fun rs o=>rs=[.bool (p == q)]/\o=[]):=by
 refine wk Tryz.call69 Tryz.func69 rfl Tryz.ntmps69 fun C hC hP hT hfn hpin hfin hX=>wW ?_
 refine Run.R ?_
 refine Run.R ?_
 refine Run.c ?_ ?_
 ·intro hc
  refine Run.R ?_
  refine Run.r [4] ?_
  have:p≠q:=fun h=>by simp [h]at hc
  simpa using this
 intro hc
 have hl:p.length=q.length:=by simp at hc;omega
 refine Run.R ?_
 refine Run.loopI (X:=Nat) (fun i=>⟨26,[(0,true,.v (.sl false .int p)),(1,true,.v (.sl false .int q)),(5,true,.v (.int .i64 i)),(4,true,.v (.bool false))],[]⟩) (fun i=>i<=p.length/\p.take i=q.take i) (fun i=>p.length - i) 0 (by simp) ?_ ?_
 ·exact Le.sub (by simp only [AW7,simprocAttr]) (by simp only [AW7,simprocAttr];try simp)
 rintro i ⟨hi,ht⟩ ih
 refine Run.R ?_
 refine Run.c ?_ ?_
 ·intro hc2
  have hc2:i < p.length:=by simpa using hc2
  refine Run.nq ?_;refine Run.regionD hC true [0,1,2,3,4,5,6,7,8] (by kernel_rfl) (fun K hK=>?_);simp only [AW7,simprocAttr,hX];(repeat(with_reducible refine And.intro ?_ ?_);exact vc0);refine wE ?_;clear hK K
  refine Run.c ?_ ?_
  ·intro hne
   refine Run.R ?_
   refine Run.r [4] ?_
   have:p≠q:=fun h=>by simp [h]at hne
   simpa using this
  ·intro he
   have he:p.getD i 0=q.getD i 0:=by simpa using he
   refine Run.RW ?_
   refine Run.le ?_ (ih (i+1) ⟨hc2,?_⟩ om)
   ·exact Le.sub (by simp only [AW7,simprocAttr]) (by simp only [AW7,simprocAttr,Option.some.injEq,Prod.mk.injEq,Sl.v.injEq,AV.int.injEq,AV.own.injEq,AV.bool.injEq];try(repeat' apply And.intro);all_goals omega)
   ·rw [<- take_snoc 0 p i hc2,<- take_snoc 0 q i om,ht,he]
 ·intro hc2
  have hc2:i=p.length:=by simp at hc2;omega
  refine Run.x ?_
  refine Run.R ?_
  refine Run.r [4] ?_
  have:p=q:=by rw [hc2,tkL,hl,tkL]at ht;exact ht
  simp [this]
def iota (k:Int):Nat->List Int
 | 0=>[]
 | n+1=>iota k n ++ [k+n]
theorem iota_length (k:Int):∀ n,(iota k n).length=n
 | 0=>rfl
 | n+1=>by simp [iota,iota_length k n]
theorem iota_getD (k:Int):∀ n i:Nat,i < n->(iota k n).getD i 0=k+i
 | n+1,i,h=>by
  simp only [iota,gdE]
  by_cases hi:i < n
  ·rw [List.getElem?_append_left (by rw [iota_length];exact hi),<- gdE]
   exact iota_getD k n i hi
  ·have:i=n:=by omega
   subst this
   rw [List.getElem?_append_right (by rw [iota_length];exact Nat.le_refl _)]
   simp [iota_length]
theorem set_mark (k:Int) (p:LI) (i:Nat) (h:i < p.length):(iota k i ++ p.drop i).set i (k+i)=iota k (i+1) ++ p.drop (i+1):=by
 rw [List.set_append,iota_length,if_neg om,Nat.sub_self,List.drop_eq_getElem_cons h,List.set_cons_zero]
 simp [iota]
theorem c_markIntS (p:LI) (k:Int) (hp:p.length<=4503599627370496) (hk:0<=k/\k<=4503599627370496) (nn:Bool) :
  FunM B 70 [.own 0 0,.int .i64 k] .int p nn (fun rs o=>rs=[.int .i64 (k+p.length)]/\o=[.arr .int (iota k p.length) 0 nn]):=by
 refine FunM.walk B_ok (fn:=Tryz.f70) (fun vs w=>Tryz.call70 vs w) Tryz.func70 rfl (by rw [Tryz.ntmps70];simp) (fun C hC hP hT hΓ hbt hfn hpin hfin=>?_);have hX:=BX;rw [<- hΓ,<- hbt.1,<- hbt.2.1,<- hbt.2.2.1,<- hbt.2.2.2.2]at hX;rw [hT]at hX;rw [Tryz.ntmps70];simp only [AW7,simprocAttr,hX]
 refine Run.R ?_
 refine Run.R ?_
 refine Run.loopI (X:=Nat) (fun i=>⟨19,[(0,true,.v (.own 0 0)),(1,true,.v (.int .i64 (k+i))),(5,true,.v (.int .i64 i)),(4,true,.v (.int .i64 0))],[.arr .int (iota k i ++ p.drop i) 0 nn]⟩) (fun i=>i<=p.length) (fun i=>p.length - i) 0 (by simp) ?_ ?_
 ·refine Le.sub (by simp [iota]) ?_
  simp only [AW7,simprocAttr,hX];try simp
 rintro i hi ih
 have hlen:(iota k i ++ p.drop i).length=p.length:=by simp [iota_length];omega
 refine Run.R ?_
 refine Run.c ?_ ?_
 ·intro hc2
  have hc2:i < p.length:=by rw [hlen]at hc2;simpa using hc2
  refine Run.R ?_
  refine Run.RW ?_
  refine Run.RW ?_
  refine Run.le ?_ (ih (i+1) hc2 om)
  refine Le.sub ?_ ?_
  ·rw [<- set_mark k p i hc2]
  ·simp only [AW7,simprocAttr,Option.some.injEq,Prod.mk.injEq,Sl.v.injEq,AV.int.injEq,AV.own.injEq,AV.bool.injEq];simp;omega
 ·intro hc2
  have hc2:i=p.length:=by rw [hlen]at hc2;simp at hc2;omega
  refine Run.x ?_
  refine Run.R ?_
  subst hc2
  refine Run.rW [4] (hfin _ _ _ rfl rfl rfl ?_)
  simp
theorem c_heldIntS (p:LI) (k:Int) (hp:p.length<=4503599627370496) (hk:0<=k/\k<=4503599627370496) :
  FunA B 124 [.sl false .int p,.int .i64 k] (fun rs o=>rs=[.int .i64 (if p=iota k p.length then k+p.length else -1)]/\o=[]):=by
 refine wk Tryz.call124 Tryz.func124 rfl Tryz.ntmps124 fun C hC hP hT hfn hpin hfin hX=>wW ?_
 refine Run.R ?_
 refine Run.R ?_
 refine Run.loopI (X:=Nat) (fun i=>⟨21,[(0,true,.v (.sl false .int p)),(1,true,.v (.int .i64 (k+i))),(5,true,.v (.int .i64 i)),(4,true,.v (.int .i64 0))],[]⟩) (fun i=>i<=p.length/\p.take i=iota k i) (fun i=>p.length - i) 0 (by simp [iota]) ?_ ?_
 ·refine Le.sub rfl ?_
  simp only [AW7,simprocAttr,hX];try simp
 rintro i ⟨hi,ht⟩ ih
 refine Run.R ?_
 refine Run.c ?_ ?_
 ·intro hc2
  have hc2:i < p.length:=by simpa using hc2
  refine Run.R ?_
  refine Run.c ?_ ?_
  ·intro hne
   refine Run.R ?_
   refine Run.r [4] ?_
   have:p≠iota k p.length:=by
    intro h
    have h1:p.getD i 0=k+i:=by
     have h2:=iota_getD k p.length i hc2
     rwa [<- h]at h2
    have hne:p.getD i 0≠k+i:=by simpa using hne
    exact hne h1
   simp [this]
  ·intro he
   have he:p.getD i 0=k+i:=by simpa using he
   refine Run.RW ?_
   refine Run.RW ?_
   refine Run.le ?_ (ih (i+1) ⟨hc2,?_⟩ om)
   ·refine Le.sub rfl ?_
    simp only [AW7,simprocAttr,Option.some.injEq,Prod.mk.injEq,Sl.v.injEq,AV.int.injEq,AV.own.injEq,AV.bool.injEq];simp;omega
   ·rw [<- take_snoc 0 p i hc2,ht,he];rfl
 ·intro hc2
  have hc2:i=p.length:=by simp at hc2;omega
  refine Run.x ?_
  refine Run.R ?_
  subst hc2
  refine Run.r [4] ?_
  rw [tkL]at ht
  simp [<- ht]
def szI (p:LI) (l:Int):Int:=if l - p.length < 0 then -1 else l - p.length
def szR:List (List Int)->Int->Int
 | [],l=>l
 | r :: rs,l=>if szI r l < 0 then -1 else szR rs (szI r l)
def szII (rows:LL) (l:Int):Int:=if l - rows.length < 0 then -1 else szR rows (l - rows.length)
theorem szR_le:∀(rows:LL) (l:Int),0<=l->0<=szR rows l->szR rows l<=l/\∀ r∈rows,(r.length:Int)<=l
 | [],l,_,_=>⟨Int.le_refl _,by simp⟩
 | r :: rs,l,h0,h=>by
  simp only [szR]at h ⊢
  by_cases hs:szI r l < 0
  ·rw [if_pos hs]at h;omega
  ·rw [if_neg hs]at h ⊢
   have h1:0<=szI r l:=by omega
   have h2:szI r l=l - r.length:=by unfold szI at h1 ⊢;split<;>simp_all
   obtain⟨h3,h4⟩:=szR_le rs _ h1 h
   refine⟨by omega,fun q hq=>?_⟩
   rcases List.mem_cons.1 hq with rfl | hq
   ·omega
   ·have:=h4 q hq;omega
theorem szII_le (rows:LL) (l:Int) (h0:0<=l) (h:0<=szII rows l):(rows.length:Int)<=l/\∀ r∈rows,(r.length:Int)<=l:=by
 unfold szII at h
 split at h
 ·omega
 ·obtain⟨h1,h2⟩:=szR_le rows (l - rows.length) om h
  exact⟨by omega,fun r hr=>by have:=h2 r hr;omega⟩
theorem c_szIntS (p:LI) (l:Int) (hl:0<=l/\l<=1048576):FunA B 123 [.sl false .int p,.int .i64 l] (fun rs o=>rs=[.int .i64 (szI p l)]/\o=[]):=by
 refine wk Tryz.call123 Tryz.func123 rfl Tryz.ntmps123 fun C hC hP hT hfn hpin hfin hX=>wW ?_
 refine Run.len 0 rfl fun hlen=>?_
 refine Run.R ?_
 refine Run.RW ?_
 refine Run.R ?_
 refine Run.c ?_ ?_
 ·intro hc
  refine Run.R ?_
  refine Run.r [4] ?_
  simp [szI]at hc ⊢;omega
 ·intro hc
  refine Run.R ?_
  refine Run.r [4] ?_
  simp [szI]at hc ⊢;omega
theorem szR_snoc {rows:LL} {i:Nat} (h:i < rows.length) (l:Int):szR (rows.drop i) l=if szI (rows.getD i []) l < 0 then -1 else szR (rows.drop (i+1)) (szI (rows.getD i []) l):=by
 rw [List.drop_eq_getElem_cons h,show rows.getD i []=rows[i]from by simp [h]]
 rfl
theorem c_szIntSS (rows:LL) (l:Int) (hl:0<=l/\l<=1048576):FunA B 63 [.sl false (.row false) rows,.int .i64 l] (fun rs o=>rs=[.int .i64 (szII rows l)]/\o=[]):=by
 refine wk Tryz.call63 Tryz.func63 rfl Tryz.ntmps63 fun C hC hP hT hfn hpin hfin hX=>wW ?_
 refine Run.len 0 rfl fun hlen=>?_
 refine Run.R ?_
 refine Run.RW ?_
 refine Run.R ?_
 refine Run.c ?_ ?_
 ·intro hc
  refine Run.R ?_
  refine Run.r [4] ?_
  have hc:l - rows.length < 0:=by simpa using hc
  simp [szII,hc]
 intro hc
 have hc:¬l - rows.length < 0:=by simpa using hc
 refine Run.R ?_
 refine Run.keep [0,1,4,5] ?_;simp only [AK,Nat.reduceBEq]
 refine Run.loopI (X:=Nat×Int) (fun x=>⟨27,[(0,true,.v (.sl false (.row false) rows)),(1,true,.v (.int .i64 x.2)),(4,true,.v (.int .i64 0)),(5,true,.v (.int .i64 x.1))],[]⟩) (fun x=>x.1<=rows.length/\0<=x.2/\x.2<=1048576/\szII rows l=szR (rows.drop x.1) x.2) (fun x=>rows.length - x.1) (0,l - rows.length) ⟨nz0 _,by simp only [];omega,by simp only [];omega,by simp [szII,hc]⟩ ?_ ?_
 ·exact Le.sub (by simp only [AW7,simprocAttr]) (by simp only [AW7,simprocAttr];try simp)
 rintro⟨i,l2⟩ ⟨hi,hl2,hl3,hz⟩ ih
 simp only []at hi hl2 hl3 hz ⊢
 refine Run.R ?_
 refine Run.c ?_ ?_
 ·intro hc2
  have hc2:i < rows.length:=by simpa using hc2
  rw [szR_snoc hc2]at hz
  refine Run.g fun K hK=>?_
  refine FunA.e hP hT (c_szIntS (rows.getD i []) l2 ⟨hl2,hl3⟩) ?_
  refine wE ?_;clear hK K
  refine Run.R ?_
  refine Run.c ?_ ?_
  ·intro hc3
   have hc3:szI (rows.getD i []) l2 < 0:=by simpa using hc3
   rw [if_pos hc3]at hz
   refine Run.R ?_
   refine Run.r [4] ?_
   simp [hz]
  ·intro hc3
   have hc3:¬szI (rows.getD i []) l2 < 0:=by simpa using hc3
   rw [if_neg hc3]at hz
   refine Run.RW ?_
   refine Run.le ?_ (ih (i+1,szI (rows.getD i []) l2) ⟨hc2,by simp only [];omega,?_,hz⟩ (by simp only [];omega))
   ·exact Le.sub (by simp only [AW7,simprocAttr]) (by simp only [AW7,simprocAttr,Option.some.injEq,Prod.mk.injEq,Sl.v.injEq,AV.int.injEq,AV.own.injEq,AV.bool.injEq];try(repeat' apply And.intro);all_goals omega)
   ·simp only []
    unfold szI
    split<;>omega
 ·intro hc2
  have hc2:i=rows.length:=by simp at hc2;omega
  subst hc2
  refine Run.x ?_
  refine Run.R ?_
  refine Run.r [4] ?_
  simp [hz,szR]
theorem set_fillG {α:Type} (z:α) (p:List α) (i:Nat) (h:i < p.length):(p.take i ++ List.replicate (p.length - i) z).set i (p.getD i z)=p.take (i+1) ++ List.replicate (p.length - (i+1)) z:=by
 obtain⟨m,hm⟩:∃ m,p.length - i=m+1:=⟨p.length - i - 1,by omega⟩
 have hl:(p.take i).length=i:=by simp;omega
 rw [hm,List.replicate_succ,List.set_append,hl,if_neg om,Nat.sub_self,List.set_cons_zero,<- take_snoc z p i h,show p.length - (i+1)=m from by omega]
 simp
theorem c_toIntSS (rows:LL) (hr:rows.length<=1048576) (hrr:∀ r∈rows,r.length<=1048576) :
  FunA B 64 [.sl false (.row false) rows] (fun rs o=>rs=[.own 0 0]/\∃ hs:List (Option Nat),hs.length=rows.length/\o=[.mat hs rows 0 true]):=by
 refine wk Tryz.call64 Tryz.func64 rfl Tryz.ntmps64 fun C hC hP hT hfn hpin hfin hX=>wW ?_
 refine Run.R ?_
 refine Run.R ?_
 refine Run.R ?_
 refine Run.keep [0,2,3,4] ?_;simp only [AK,Nat.reduceBEq]
 refine Run.loopI (X:=Nat×List (Option Nat)) (fun x=>⟨23,[(0,true,.v (.sl false (.row false) rows)),(2,true,.v .nils),(3,true,.v (.own 0 0)),(4,true,.v (.int .i64 x.1))],[.mat x.2 (rows.take x.1 ++ List.replicate (rows.length - x.1) []) 0 true]⟩) (fun x=>x.1<=rows.length/\x.2.length=rows.length) (fun x=>rows.length - x.1) (0,List.replicate rows.length none) ⟨nz0 _,by simp⟩ ?_ ?_
 ·refine Le.sub (by simp) ?_
  simp only [AW7,simprocAttr,hX];try simp
 rintro⟨i,hs⟩ ⟨hi,hh⟩ ih
 simp only []at hi hh ⊢
 refine Run.R ?_
 refine Run.c ?_ ?_
 ·intro hc
  have hc:i < rows.length:=by simpa using hc
  refine Run.g fun K hK=>?_
  refine FunA.cW hP hT (c_toIntS (rows.getD i []) (by rw [show rows.getD i []=rows[i]from by simp [hc]];exact hrr _ (by simp))) ?_
  rintro rs o ⟨rfl,rfl⟩
  simp only [AW7,simprocAttr,hX]
  refine⟨⟨by omega,by simp;omega⟩,fun l=>hK _ ?_⟩
  clear hK K
  refine Run.nq ?_
  refine Run.RW ?_
  refine Run.le ?_ (ih (i+1,hs.set i (some l)) ⟨hc,by simpa using hh⟩ (by simp only [];omega))
  refine Le.cut0 hpin [_] (by rw [<- set_fillG [] rows i hc];rfl) ?_ rfl
  simp only [AW7,simprocAttr];try simp
 ·intro hc
  have hc:i=rows.length:=by simp at hc;omega
  subst hc
  refine Run.x ?_
  refine Run.R ?_
  refine Run.r [2] ?_
  refine⟨rfl,hs,hh,?_⟩
  simp
theorem c_eqIntSS (a b:LL) (ha:a.length<=4503599627370496) (hr:∀ r∈a,r.length<=4503599627370496):FunA B 65 [.sl false (.row false) a,.sl false (.row false) b] (fun rs o=>rs=[.bool (a == b)]/\o=[]):=by
 refine wk Tryz.call65 Tryz.func65 rfl Tryz.ntmps65 fun C hC hP hT hfn hpin hfin hX=>wW ?_
 refine Run.R ?_
 refine Run.R ?_
 refine Run.c ?_ ?_
 ·intro hc
  refine Run.R ?_
  refine Run.r [4] ?_
  have:a≠b:=fun h=>by simp [h]at hc
  simpa using this
 intro hc
 have hl:a.length=b.length:=by simp at hc;omega
 refine Run.R ?_
 refine Run.loopI (X:=Nat) (fun i=>⟨27,[(0,true,.v (.sl false (.row false) a)),(1,true,.v (.sl false (.row false) b)),(4,true,.v (.bool false)),(5,true,.v (.int .i64 i))],[]⟩) (fun i=>i<=a.length/\a.take i=b.take i) (fun i=>a.length - i) 0 (by simp) ?_ ?_
 ·exact Le.sub (by simp only [AW7,simprocAttr]) (by simp only [AW7,simprocAttr];try simp)
 rintro i ⟨hi,ht⟩ ih
 refine Run.R ?_
 refine Run.c ?_ ?_
 ·intro hc2
  have hc2:i < a.length:=by simpa using hc2
  have hra:(a.getD i []).length<=4503599627370496:=by rw [show a.getD i []=a[i]from by simp [hc2]];exact hr _ (by simp)
  refine Run.nq ?_
  refine Run.regionD hC true [0,1,2,3,4,5,6,7,8,9] (by kernel_rfl) (fun K hK=>?_)
  simp only [AW7,simprocAttr,hX]
  (repeat(with_reducible refine And.intro ?_ ?_);exact vc0)
  refine FunA.callD hP hT (c_eqIntS (a.getD i []) (b.getD i []) hra) (by simp only [AW7,simprocAttr]) ?_
  rintro rs o ⟨rfl,rfl⟩
  refine wF ?_;clear hK K
  refine Run.c ?_ ?_
  ·intro hne
   refine Run.R ?_
   refine Run.r [4] ?_
   have:a≠b:=fun h=>by simp [h]at hne
   simpa using this
  ·intro he
   have he:a.getD i []=b.getD i []:=by
    revert he
    cases h:(a.getD i [] == b.getD i []) with
    | true=>intro _;simpa using h
    | false=>intro he;cases he
   refine Run.RW ?_
   refine Run.le ?_ (ih (i+1) ⟨hc2,?_⟩ om)
   ·exact Le.sub (by simp only [AW7,simprocAttr]) (by simp only [AW7,simprocAttr,Option.some.injEq,Prod.mk.injEq,Sl.v.injEq,AV.int.injEq,AV.own.injEq,AV.bool.injEq];try(repeat' apply And.intro);all_goals omega)
   ·rw [<- take_snoc [] a i hc2,<- take_snoc [] b i om,ht,he]
 ·intro hc2
  have hc2:i=a.length:=by simp at hc2;omega
  refine Run.x ?_
  refine Run.R ?_
  refine Run.r [4] ?_
  have:a=b:=by rw [hc2,tkL,hl,tkL]at ht;exact ht
  simp [this]
abbrev ent (c:LL) (i j:Nat):Int:=(c.getD i []).getD j 0
def badE (c:LL) (i j:Nat):Prop:=(i=j/\ent c i j≠2)\/(i≠j/\(ent c i j < -3\/ent c i j > 0\/¬(ent c i j=0↔ent c j i=0)))
def CartanP (c:LL):Prop:=1<=c.length/\c.length<=4/\(∀ i,i < c.length->(c.getD i []).length=c.length)/\∀ i j,i < c.length->j < c.length->¬badE c i j
open Classical in
noncomputable def isC (c:LL):Bool:=decide (CartanP c)
theorem isC_iff {c:LL}:isC c=true↔CartanP c:=by simp [isC]
theorem isC_false {c:LL} (h:¬CartanP c):isC c=false:=by simp [isC,h]
theorem isC_true {c:LL} (h:CartanP c):isC c=true:=isC_iff.2 h
theorem badE_impl (c:LL) (i j:Nat):(bif bif (i:Int) == (j:Int)then ent c i j != 2 else false then true
        else
         bif (i:Int) != (j:Int) then
          bif
            bif decide (ent c i j < -3)then true
            else decide (0 < ent c i j) then
           true
          else(ent c i j == 0) != (ent c j i == 0)
         else false)=true↔badE c i j:=by
 unfold badE
 have e:((i:Int) == (j:Int))=decide (i=j):=by
  rw [Bool.eq_iff_iff];simp;omega
 have e2:((i:Int) != (j:Int)) = !decide (i=j):=by rw [<- e];rfl
 rw [e,e2]
 generalize ent c i j=x
 generalize ent c j i=y
 have e3:(x == 0)=decide (x=0):=by rw [Bool.eq_iff_iff];simp
 have e4:(y == 0)=decide (y=0):=by rw [Bool.eq_iff_iff];simp
 rw [e3,e4]
 by_cases h:i=j
 ·simp [h]
 ·simp only [h,decide_false,cond_false,Bool.not_false,cond_true,false_and,ne_eq,not_false_eq_true,true_and,false_or]
  by_cases h1:x < -3
  ·simp [h1]
  ·by_cases h2:0 < x
   ·simp [h2]
   ·simp only [h1,h2,decide_false,cond_false,false_or]
    by_cases h3:x=0<;>by_cases h4:y=0<;>simp [h3,h4]
theorem c_impl_IsCartan (c:LL):FunA B 107 [.sl false (.row false) c] (fun rs o=>rs=[.bool (isC c)]/\o=[]):=by
 refine wk Tryz.call107 Tryz.func107 rfl Tryz.ntmps107 fun C hC hP hT hfn hpin hfin hX=>wW ?_
 refine Run.len 0 rfl fun hlen=>?_
 refine Run.R ?_
 refine Run.R ?_
 refine Run.R ?_
 refine Run.keep [0,2,3,16] ?_;simp only [AK,Nat.reduceBEq]
 refine Run.c ?_ ?_
 ·intro hc
  refine Run.R ?_
  refine Run.r [2] ?_
  refine⟨?_,rfl⟩
  rw [isC_false fun h=>?_]
  obtain⟨h1,h2,_⟩:=h
  by_cases h3:(c.length:Int) < 1
  ·omega
  ·simp [h3]at hc;omega
 intro hc
 have hn:1<=c.length/\c.length<=4:=by
  by_cases h3:(c.length:Int) < 1
  ·simp [h3]at hc
  ·simp [h3]at hc;omega
 refine Run.R ?_
 refine Run.keep [0,2,3,17,18,19] ?_;simp only [AK,Nat.reduceBEq]
 refine Run.loopI (X:=Nat) (fun i=>⟨78,[(0,true,.v (.sl false (.row false) c)),(2,true,.v (.bool false)),(3,true,.v (.int .i64 c.length)),(17,true,.v (.sl false (.row false) c)),(18,true,.v (.int .i64 c.length)),(19,true,.v (.int .i64 i))],[]⟩) (fun i=>i<=c.length/\∀ k,k < i->(c.getD k []).length=c.length) (fun i=>c.length - i) 0 ⟨nz0 _,by omega⟩ ?_ ?_
 ·exact Le.sub (by simp only [AW7,simprocAttr]) (by simp only [AW7,simprocAttr];try simp)
 rintro i ⟨hi,hrow⟩ ih
 refine Run.R ?_
 refine Run.c ?_ ?_
 ·intro hc2
  have hc2:i < c.length:=by simpa using hc2
  refine Run.R ?_
  refine Run.R ?_
  refine Run.c ?_ ?_
  ·intro hne
   refine Run.R ?_
   refine Run.r [2] ?_
   refine⟨?_,rfl⟩
   rw [isC_false fun h=>?_]
   have:=h.2.2.1 i hc2
   have hne:¬(c.getD i []).length=c.length:=by simp [-List.getD_eq_getElem?_getD]at hne;omega
   exact hne this
  ·intro heq
   have heq:(c.getD i []).length=c.length:=by simp [-List.getD_eq_getElem?_getD]at heq;omega
   refine Run.RW ?_
   refine Run.le ?_ (ih (i+1) ⟨hc2,fun k hk=>?_⟩ om)
   ·exact Le.sub (by simp only [AW7,simprocAttr]) (by simp only [AW7,simprocAttr,Option.some.injEq,Prod.mk.injEq,Sl.v.injEq,AV.int.injEq,AV.own.injEq,AV.bool.injEq];try(repeat' apply And.intro);all_goals omega)
   ·rcases Nat.lt_succ_iff_lt_or_eq.1 hk with h | rfl
    ·exact hrow k h
    ·exact heq
 intro hc2
 have hc2:i=c.length:=by simp at hc2;omega
 subst hc2
 refine Run.x ?_
 refine Run.R ?_
 refine Run.keep [0,2,3,28,29] ?_;simp only [AK,Nat.reduceBEq]
 refine Run.loopI (X:=Nat) (fun i=>⟨78,[(0,true,.v (.sl false (.row false) c)),(2,true,.v (.bool false)),(3,true,.v (.int .i64 c.length)),(28,true,.v (.int .i64 c.length)),(29,true,.v (.int .i64 i))],[]⟩) (fun i=>i<=c.length/\∀ k j,k < i->j < c.length->¬badE c k j) (fun i=>c.length - i) 0 ⟨nz0 _,by omega⟩ ?_ ?_
 ·exact Le.sub (by simp only [AW7,simprocAttr]) (by simp only [AW7,simprocAttr];try simp)
 clear ih
 rintro i ⟨hi,hcel⟩ ih
 refine Run.R ?_
 refine Run.c ?_ ?_
 ·intro hc2
  have hc2:i < c.length:=by simpa using hc2
  have hri:=hrow i hc2
  refine Run.R ?_
  refine Run.R ?_
  refine Run.keep [0,2,3,28,29,6,32,33] ?_;simp only [AK,Nat.reduceBEq]
  refine Run.loopI (X:=Nat) (fun j=>⟨78,[(0,true,.v (.sl false (.row false) c)),(2,true,.v (.bool false)),(3,true,.v (.int .i64 c.length)),(28,true,.v (.int .i64 c.length)),(29,true,.v (.int .i64 i)),(6,true,.v (.int .i64 i)),(32,true,.v (.int .i64 c.length)),(33,true,.v (.int .i64 j))],[]⟩) (fun j=>j<=c.length/\∀ q,q < j->¬badE c i q) (fun j=>c.length - j) 0 ⟨nz0 _,by omega⟩ ?_ ?_
  ·exact Le.sub (by simp only [AW7,simprocAttr]) (by simp only [AW7,simprocAttr];try simp)
  rintro j ⟨hj,hcj⟩ ihj
  refine Run.R ?_
  refine Run.c ?_ ?_
  ·intro hc3
   have hc3:j < c.length:=by simpa using hc3
   have hrj:=hrow j hc3
   refine Run.R ?_
   refine Run.R ?_
   refine Run.R ?_
   refine Run.keep [0,2,3,28,29,6,32,33,75] ?_;simp only [AK,Nat.reduceBEq]
   refine Run.c ?_ ?_
   ·intro hb
    have hb:=(badE_impl c i j).1 hb
    refine Run.R ?_
    refine Run.r [2] ?_
    refine⟨?_,rfl⟩
    rw [isC_false fun h=>h.2.2.2 i j hc2 hc3 hb]
   ·intro hb
    have hb:¬badE c i j:=fun h=>by
     have:=(badE_impl c i j).2 h
     rw [this]at hb
     cases hb
    refine Run.RW ?_
    refine Run.le ?_ (ihj (j+1) ⟨hc3,fun q hq=>?_⟩ om)
    ·exact Le.sub (by simp only [AW7,simprocAttr]) (by simp only [AW7,simprocAttr,Option.some.injEq,Prod.mk.injEq,Sl.v.injEq,AV.int.injEq,AV.own.injEq,AV.bool.injEq];try(repeat' apply And.intro);all_goals omega)
    ·rcases Nat.lt_succ_iff_lt_or_eq.1 hq with h | rfl
     ·exact hcj q h
     ·exact hb
  ·intro hc3
   have hc3:j=c.length:=by simp at hc3;omega
   subst hc3
   refine Run.x ?_
   refine Run.RW ?_
   refine Run.le ?_ (ih (i+1) ⟨hc2,fun k q hk hq=>?_⟩ om)
   ·exact Le.sub (by simp only [AW7,simprocAttr]) (by simp only [AW7,simprocAttr,Option.some.injEq,Prod.mk.injEq,Sl.v.injEq,AV.int.injEq,AV.own.injEq,AV.bool.injEq];try(repeat' apply And.intro);all_goals omega)
   ·rcases Nat.lt_succ_iff_lt_or_eq.1 hk with h | rfl
    ·exact hcel k q h hq
    ·exact hcj q hq
 ·intro hc2
  have hc2:i=c.length:=by simp at hc2;omega
  subst hc2
  refine Run.x ?_
  refine Run.R ?_
  refine Run.r [2] ?_
  refine⟨?_,rfl⟩
  rw [isC_true ⟨hn.1,hn.2,hrow,fun k q hk hq=>hcel k q hk hq⟩]
def inB (x lo hi:Int):Bool:=bif decide (x≥lo)then decide (x<=hi)else false
theorem inB_iff {x lo hi:Int}:inB x lo hi=true↔lo<=x/\x<=hi:=by
 unfold inB
 by_cases h:x≥lo<;>simp [h]<;>omega
theorem c_spec_l1In (x lo hi:Int):FunA B 110 [.int .i64 x,.int .i64 lo,.int .i64 hi] (fun rs o=>rs=[.bool (inB x lo hi)]/\o=[]):=by
 refine wk Tryz.call110 Tryz.func110 rfl Tryz.ntmps110 fun C hC hP hT hfn hpin hfin hX=>wW ?_
 refine Run.R ?_
 refine Run.R ?_
 refine Run.r [6] ?_
 exact⟨rfl,rfl⟩
theorem badE_spec (c:LL) (i j:Nat):(bif bif (i:Int) == (j:Int)then ent c i j != 2 else false then true
        else
         bif (i:Int) != (j:Int) then
          bif !inB (ent c i j) (-3) 0 then true
          else(ent c i j == 0) != (ent c j i == 0)
         else false)=true↔badE c i j:=by
 rw [<- badE_impl]
 have:(!inB (ent c i j) (-3) 0)=(bif decide (ent c i j < -3)then true else decide (0 < ent c i j)):=by
  generalize ent c i j=x
  unfold inB
  by_cases h1:x < -3
  ·have:¬x≥-3:=by omega
   simp [h1,this]
  ·have:x≥-3:=by omega
   by_cases h2:0 < x
   ·have h3:¬x<=0:=by omega
    simp [h1,this,h2,h3]
   ·have h3:x<=0:=by omega
    simp [h1,this,h2,h3]
 rw [this]
theorem c_spec_IsCartan (c:LL):FunA B 109 [.sl false (.row false) c] (fun rs o=>rs=[.bool (isC c)]/\o=[]):=by
 refine wk Tryz.call109 Tryz.func109 rfl Tryz.ntmps109 fun C hC hP hT hfn hpin hfin hX=>wW ?_
 refine Run.len 0 rfl fun hlen=>?_
 refine Run.R ?_
 refine Run.R ?_
 refine Run.loopI (X:=Nat) (fun i=>⟨83,[(0,true,.v (.sl false (.row false) c)),(2,true,.v (.bool false)),(3,true,.v (.int .i64 i))],[]⟩) (fun i=>i<=c.length/\∀ k,k < i->(c.getD k []).length=c.length) (fun i=>c.length - i) 0 ⟨nz0 _,by omega⟩ ?_ ?_
 ·exact Le.sub (by simp only [AW7,simprocAttr]) (by simp only [AW7,simprocAttr];try simp)
 rintro i ⟨hi,hrow⟩ ih
 refine Run.R ?_
 refine Run.c ?_ ?_
 ·intro hc2
  have hc2:i < c.length:=by simpa using hc2
  refine Run.R ?_
  refine Run.c ?_ ?_
  ·intro hne
   refine Run.R ?_
   refine Run.r [2] ?_
   refine⟨?_,rfl⟩
   rw [isC_false fun h=>?_]
   have:=h.2.2.1 i hc2
   have hne:¬(c.getD i []).length=c.length:=by simp [-List.getD_eq_getElem?_getD]at hne;omega
   exact hne this
  ·intro heq
   have heq:(c.getD i []).length=c.length:=by simp [-List.getD_eq_getElem?_getD]at heq;omega
   refine Run.RW ?_
   refine Run.le ?_ (ih (i+1) ⟨hc2,fun k hk=>?_⟩ om)
   ·exact Le.sub (by simp only [AW7,simprocAttr]) (by simp only [AW7,simprocAttr,Option.some.injEq,Prod.mk.injEq,Sl.v.injEq,AV.int.injEq,AV.own.injEq,AV.bool.injEq];try(repeat' apply And.intro);all_goals omega)
   ·rcases Nat.lt_succ_iff_lt_or_eq.1 hk with h | rfl
    ·exact hrow k h
    ·exact heq
 intro hc2
 have hc2:i=c.length:=by simp at hc2;omega
 subst hc2
 refine Run.x ?_
 refine Run.R ?_
 refine Run.keep [0,2,4] ?_;simp only [AK,Nat.reduceBEq]
 refine Run.loopI (X:=Nat) (fun i=>⟨83,[(0,true,.v (.sl false (.row false) c)),(2,true,.v (.bool false)),(4,true,.v (.int .i64 i))],[]⟩) (fun i=>i<=c.length/\∀ k j,k < i->j < c.length->¬badE c k j) (fun i=>c.length - i) 0 ⟨nz0 _,by omega⟩ ?_ ?_
 ·exact Le.sub (by simp only [AW7,simprocAttr]) (by simp only [AW7,simprocAttr];try simp)
 clear ih
 rintro i ⟨hi,hcel⟩ ih
 refine Run.R ?_
 refine Run.c ?_ ?_
 ·intro hc2
  have hc2:i < c.length:=by simpa using hc2
  have hri:=hrow i hc2
  refine Run.R ?_
  refine Run.keep [0,2,4,5] ?_;simp only [AK,Nat.reduceBEq]
  refine Run.loopI (X:=Nat) (fun j=>⟨83,[(0,true,.v (.sl false (.row false) c)),(2,true,.v (.bool false)),(4,true,.v (.int .i64 i)),(5,true,.v (.int .i64 j))],[]⟩) (fun j=>j<=c.length/\∀ q,q < j->¬badE c i q) (fun j=>c.length - j) 0 ⟨nz0 _,by omega⟩ ?_ ?_
  ·exact Le.sub (by simp only [AW7,simprocAttr]) (by simp only [AW7,simprocAttr];try simp)
  rintro j ⟨hj,hcj⟩ ihj
  refine Run.R ?_
  refine Run.c ?_ ?_
  ·intro hc3
   have hc3:j < c.length:=by simpa using hc3
   have hrj:=hrow j hc3
   refine Run.keep [0,2,4,5] ?_;simp only [AK,Nat.reduceBEq]
   refine Run.nq ?_
   refine Run.regionD hC true [0,1,2,3,4,5,6,7,8,9,10,11,12,13,14,15,16,17,18,19,20,21,22,23,24,25,26,27,28,29,30,31,32,33,34,35,36,37,38,39,40,41,42,43,44,45,46,47] (by kernel_rfl) (fun K hK=>?_)
   simp only [AW7,simprocAttr,hX]
   (repeat(with_reducible refine And.intro ?_ ?_);exact vc0)
   refine .inl (FunA.callG hP hT (c_spec_l1In (ent c i j) (-3) 0) (fun _=>rfl) (fun _=>by simp only [AW7,simprocAttr]) ?_)
   refine wW ?_
   refine hK _ ?_
   clear hK K
   refine Run.nq ?_
   refine Run.c ?_ ?_
   ·intro hb
    have hb:=(badE_spec c i j).1 hb
    refine Run.R ?_
    refine Run.r [2] ?_
    refine⟨?_,rfl⟩
    rw [isC_false fun h=>h.2.2.2 i j hc2 hc3 hb]
   ·intro hb
    have hb:¬badE c i j:=fun h=>by
     have:=(badE_spec c i j).2 h
     rw [this]at hb
     cases hb
    refine Run.keep [0,2,4,5] ?_;simp only [AK,Nat.reduceBEq]
    refine Run.RW ?_
    refine Run.le ?_ (ihj (j+1) ⟨hc3,fun q hq=>?_⟩ om)
    ·exact Le.sub (by simp only [AW7,simprocAttr]) (by simp only [AW7,simprocAttr,Option.some.injEq,Prod.mk.injEq,Sl.v.injEq,AV.int.injEq,AV.own.injEq,AV.bool.injEq];try(repeat' apply And.intro);all_goals omega)
    ·rcases Nat.lt_succ_iff_lt_or_eq.1 hq with h | rfl
     ·exact hcj q h
     ·exact hb
  ·intro hc3
   have hc3:j=c.length:=by simp at hc3;omega
   subst hc3
   refine Run.x ?_
   refine Run.RW ?_
   refine Run.le ?_ (ih (i+1) ⟨hc2,fun k q hk hq=>?_⟩ om)
   ·exact Le.sub (by simp only [AW7,simprocAttr]) (by simp only [AW7,simprocAttr,Option.some.injEq,Prod.mk.injEq,Sl.v.injEq,AV.int.injEq,AV.own.injEq,AV.bool.injEq];try(repeat' apply And.intro);all_goals omega)
   ·rcases Nat.lt_succ_iff_lt_or_eq.1 hk with h | rfl
    ·exact hcel k q h hq
    ·exact hcj q hq
 ·intro hc2
  have hc2:i=c.length:=by simp at hc2;omega
  subst hc2
  refine Run.x ?_
  refine Run.g fun K hK=>?_
  refine FunA.e hP hT (c_spec_l1In (c.length:Int) 1 4) ?_
  refine wE ?_;clear hK K
  refine Run.r [2] ?_
  refine⟨?_,rfl⟩
  have:isC c=inB c.length 1 4:=by
   rw [Bool.eq_iff_iff,isC_iff,inB_iff]
   constructor
   ·intro h;have h1:=h.1;have h2:=h.2.1;omega
   ·intro h;exact⟨by omega,by omega,hrow,fun k q hk hq=>hcel k q hk hq⟩
  rw [this]
open Go.Cox
abbrev matA (c:LL):Mat:=fun k i=>ent c k i
def vecL (v:LI):Vec:=fun k=>v.getD k 0
theorem matA_cartan {c:LL} (h:CartanP c):Cartan (matA c) c.length where
 diag:=fun i hi=>by
  have:=h.2.2.2 i i hi hi
  unfold badE at this
  exact Classical.byContradiction fun hn=>this (.inl ⟨rfl,hn⟩)
 nonpos:=fun i j hi hj hij=>by
  have:=h.2.2.2 i j hi hj
  unfold badE at this
  exact Classical.byContradiction fun hn=>this (.inr ⟨hij,.inr (.inl (by show ent c i j > 0;have:¬ent c i j<=0:=hn;omega))⟩)
 zero:=fun i j hi hj hz=>by
  by_cases hij:i=j
  ·subst hij;exact hz
  ·have:=h.2.2.2 i j hi hj
   unfold badE at this
   have h2:ent c i j=0↔ent c j i=0:=Classical.byContradiction fun hn=>this (.inr ⟨hij,.inr (.inr hn)⟩)
   exact h2.1 hz
theorem ent_le {c:LL} (h:CartanP c) (i j:Nat) (hi:i < c.length) (hj:j < c.length):-3<=ent c i j/\ent c i j<=2:=by
 have hA:=matA_cartan h
 by_cases hij:i=j
 ·subst hij
  have:ent c i i=2:=hA.diag i hi
  omega
 ·have h1:ent c i j<=0:=hA.nonpos i j hi hj hij
  have:=h.2.2.2 i j hi hj
  unfold badE at this
  have h2:¬ent c i j < -3:=fun hn=>this (.inr ⟨hij,.inl hn⟩)
  omega
def reflL (c:LL) (i:Int) (v:LI):List Int:=(List.range v.length).map fun k=>v.getD k 0 - v.getD i.toNat 0*ent c k i.toNat
theorem reflL_length (c:LL) (i:Int) (v:LI):(reflL c i v).length=v.length:=by simp [reflL]
theorem reflL_get (c:LL) (i:Int) (v:LI) (k:Nat) (hk:k < v.length):(reflL c i v).getD k 0=v.getD k 0 - v.getD i.toNat 0*ent c k i.toNat:=by
 simp [reflL,gdE,hk]
theorem vec_refl {c:LL} {v:LI} (hv:v.length=c.length) (i:Int):vecL (reflL c i v)=refl (matA c) i.toNat (vecL v):=by
 funext k
 show(reflL c i v).getD k 0=v.getD k 0 - v.getD i.toNat 0*ent c k i.toNat
 by_cases hk:k < v.length
 ·exact reflL_get c i v k hk
 ·have h1:(reflL c i v).getD k 0=0:=by
   rw [gdE,geN (by rw [reflL_length];omega)];rfl
  have h2:v.getD k 0=0:=by rw [gdE,geN om];rfl
  have h3:ent c k i.toNat=0:=by
   have:c.getD k []=[]:=by rw [gdE,geN om];rfl
   simp only [ent,this]
   simp
  rw [h1,h2,h3]
  simp
def actL (c:LL) (w:LI) (v:LI):List Int:=w.foldr (reflL c) v
theorem actL_length (c:LL) (v:LI):∀ w,(actL c w v).length=v.length
 | []=>rfl
 | i :: w=>by show(reflL c i (actL c w v)).length=_;rw [reflL_length,actL_length c v w]
def nat (w:LI):List Nat:=w.map Int.toNat
theorem vec_act {c:LL} {v:LI} (hv:v.length=c.length):∀ w,vecL (actL c w v)=act (matA c) (nat w) (vecL v)
 | []=>rfl
 | i :: w=>by
  show vecL (reflL c i (actL c w v))=refl (matA c) i.toNat (act (matA c) (nat w) (vecL v))
  rw [vec_refl (by rw [actL_length,hv]),vec_act hv w]
theorem actL_append (c:LL) (a b v:LI):actL c (a ++ b) v=actL c a (actL c b v):=by simp [actL,List.foldr_append]
def letters (n:Nat) (w:LI):Prop:=∀ i∈w,0<=i/\i < n
theorem letters_nat {n:Nat} {w:LI} (h:letters n w):∀ i∈nat w,i < n:=by
 intro i hi
 obtain⟨x,hx,rfl⟩:=List.mem_map.1 hi
 have:=h x hx
 omega
def ones (n:Nat):List Int:=List.replicate n 1
theorem ones_length (n:Nat):(ones n).length=n:=by simp [ones]
theorem vec_ones (n:Nat):∀ i,i < n->0 < vecL (ones n) i:=by
 intro i hi
 simp [vecL,ones,gdE,hi]
theorem vec_inj {a b:LI} (h:a.length=b.length) (hv:vecL a=vecL b):a=b:=by
 apply List.ext_getElem?
 intro i
 by_cases hi:i < a.length
 ·have:=congrFun hv i
  simp only [vecL,gdE,geE hi,geE (show i < b.length by omega),Option.getD_some]at this
  rw [geE hi,geE om,this]
 ·rw [geN om,geN om]
def imageL (c:LL) (w:LI):List Int:=actL c w (ones c.length)
theorem imageL_length (c:LL) (w:LI):(imageL c w).length=c.length:=by rw [imageL,actL_length,ones_length]
def Bd (M:Int) (v:LI):Prop:=∀ k,-M<=v.getD k 0/\v.getD k 0<=M
theorem Bd.refl {c:LL} (hc:CartanP c) {v:LI} (hv:v.length=c.length) {M:Int} (h:Bd M v) {i:Int} (hi:0<=i/\i < c.length):Bd (4*M) (reflL c i v):=by
 intro k
 have h0:=h k
 by_cases hk:k < v.length
 ·rw [reflL_get c i v k hk]
  have h1:=h i.toNat
  have h2:=ent_le hc k i.toNat om om
  generalize v.getD i.toNat 0=x at *
  generalize ent c k i.toNat=e at *
  have h3:-(3*M)<=x*e/\x*e<=3*M:=by
   have he:e = -3\/e = -2\/e = -1\/e=0\/e=1\/e=2:=by omega
   rcases he with rfl | rfl | rfl | rfl | rfl | rfl<;>omega
  omega
 ·rw [gdE,geN (by rw [reflL_length];omega)]
  simp only [Option.getD_none]
  omega
theorem Bd.ones (n:Nat):Bd 1 (ones n):=by
 intro k
 simp only [Go.Proofs.YtcinngodeoidnaaGreat.ones,gdE,List.getElem?_replicate]
 split<;>simp
theorem Bd.mono {M N:Int} (h:M<=N) {v:LI} (k:Bd M v):Bd N v:=fun i=>by have:=k i;omega
theorem Bd.image {c:LL} (hc:CartanP c):∀(w:LI),letters c.length w->Bd (4 ^ w.length) (imageL c w)
 | [],_=>by simpa [imageL,actL] using Bd.ones c.length
 | i :: w,h=>by
  have:=(Bd.image hc w (fun i hi=>h i (mcM _ hi))).refl hc (imageL_length c w) (h i (mcS ..))
  have e:(4:Int) ^ (i :: w).length=4*4 ^ w.length:=by rw [lenC,Int.pow_succ];omega
  rw [e]
  exact this
theorem pow4_le {a b:Nat} (h:a<=b):(4:Int) ^ a<=4 ^ b:=by
 induction b with
 | zero=>have:a=0:=by omega
         subst this;exact Int.le_refl _
 | succ b ih=>
  by_cases hab:a=b+1
  ·subst hab;exact Int.le_refl _
  ·have h1:=ih om
   have h2:(0:Int) < 4 ^ b:=Int.pow_pos (by decide)
   rw [Int.pow_succ]
   omega
def firstNeg (v:LI):Nat->Int
 | 0=>-1
 | n+1=>if firstNeg v n < 0 then(if v.getD n 0 < 0 then(n:Int)else -1)else firstNeg v n
theorem firstNeg_spec (v:LI):∀ n,(firstNeg v n = -1/\∀ k,k < n->0<=v.getD k 0)\/∃ i:Nat,firstNeg v n=i/\i < n/\v.getD i 0 < 0/\∀ k,k < i->0<=v.getD k 0
 | 0=>.inl ⟨rfl,by omega⟩
 | n+1=>by
  simp only [firstNeg]
  rcases firstNeg_spec v n with⟨h1,h2⟩ | ⟨i,h1,h2,h3,h4⟩
  ·rw [if_pos om]
   by_cases h:v.getD n 0 < 0
   ·rw [if_pos h];exact .inr ⟨n,rfl,by omega,h,h2⟩
   ·rw [if_neg h]
    refine .inl ⟨rfl,fun k hk=>?_⟩
    rcases Nat.lt_succ_iff_lt_or_eq.1 hk with hk | rfl
    ·exact h2 k hk
    ·omega
  ·rw [if_neg om]
   exact .inr ⟨i,h1,by omega,h3,h4⟩
def fstN (v:LI):Int:=firstNeg v v.length
def nfL (c:LL):Nat->List Int->List Int
 | 0,_=>[]
 | f+1,v=>if fstN v < 0 then []else fstN v :: nfL c f (reflL c (fstN v) v)
def Far (c:LL) (L:Nat) (v:LI):Prop:=v.length=c.length/\∃ t,Play (matA c) c.length (vecL v) t (vecL (ones c.length))/\t.length=L
theorem dom_ones (c:LL):∀ i,i < c.length->0<=vecL (ones c.length) i:=fun i hi=>Int.le_of_lt (vec_ones c.length i hi)
theorem Far.uniq {c:LL} (hc:CartanP c) {L M:Nat} {v:LI} (h:Far c L v) (k:Far c M v):L=M:=by
 obtain⟨_,s,hs,rfl⟩:=h
 obtain⟨_,t,ht,rfl⟩:=k
 obtain⟨r,hr,hb⟩:=conv (matA_cartan hc) _ rfl hs (dom_ones c) ht
 obtain⟨q,hq,hb2⟩:=conv (matA_cartan hc) _ rfl ht (dom_ones c) hs
 have h1:=hb.length
 have h2:=hb2.length
 simp at h1 h2
 omega
theorem Far.nz {c:LL} (hc:CartanP c) {L:Nat} {v:LI} (h:Far c L v):∀ i,i < c.length->v.getD i 0≠0:=by
 obtain⟨_,s,hs,rfl⟩:=h
 exact nonzero (matA_cartan hc) _ rfl hs (vec_ones c.length)
theorem Far.down {c:LL} (hc:CartanP c) {L:Nat} {v:LI} (h:Far c L v) {i:Int} (hi:0<=i/\i < c.length) (hv:v.getD i.toNat 0 < 0):∃ M,L=M+1/\Far c M (reflL c i v):=by
 obtain⟨hl,s,hs,rfl⟩:=h
 obtain⟨t,ht,hb⟩:=conv (matA_cartan hc) _ rfl hs (dom_ones c) (Play.cons (show i.toNat < c.length by omega) hv (.nil _))
 have:=hb.length
 simp at this
 refine⟨t.length,this,by rw [reflL_length,hl],t,?_,rfl⟩
 rw [vec_refl hl]
 exact ht
theorem Far.up {c:LL} (hc:CartanP c) {L:Nat} {v:LI} (h:Far c L v) {i:Int} (hi:0<=i/\i < c.length) (hv:0 < v.getD i.toNat 0):Far c (L+1) (reflL c i v):=by
 obtain⟨hl,s,hs,rfl⟩:=h
 have hd:=(matA_cartan hc).diag i.toNat om
 refine⟨by rw [reflL_length,hl],i.toNat :: s,.cons om ?_ ?_,by simp⟩
 ·rw [vec_refl hl,refl_self hd]
  show -(v.getD i.toNat 0) < 0
  omega
 ·rw [vec_refl hl,refl_refl hd]
  exact hs
theorem Far.image {c:LL} (hc:CartanP c) {w:LI} (h:letters c.length w):∃ L,L<=w.length/\L % 2=w.length % 2/\Far c L (imageL c w):=by
 obtain⟨t,ht,hl,hm,_⟩:=back (matA_cartan hc) (vec_ones c.length) (nat w) (letters_nat h)
 have e:(nat w).length=w.length:=by simp [nat]
 refine⟨t.length,by omega,by omega,imageL_length c w,t,?_,rfl⟩
 rw [imageL,vec_act (ones_length _)]
 exact ht
theorem Far.zero {c:LL} {v:LI} (h:Far c 0 v):v=ones c.length:=by
 obtain⟨hl,s,hs,h0⟩:=h
 have:s=[]:=nilZ h0
 subst this
 have e:vecL (Go.Proofs.YtcinngodeoidnaaGreat.ones c.length)=vecL v:=hs.run
 exact vec_inj (by rw [ones_length,hl]) e.symm
theorem play_inv {A:Mat} {n i:Nat} {v u:Vec} {w:List Nat} (h:Play A n v (i :: w) u):i < n/\v i < 0:=by
 cases h with
 | cons hi hv _=>exact⟨hi,hv⟩
theorem Far.ones (c:LL):Far c 0 (ones c.length):=⟨ones_length _,[],.nil _,rfl⟩
theorem fst_of_far {c:LL} (hc:CartanP c) {L:Nat} {v:LI} (h:Far c L v):(fstN v = -1/\L=0)\/(0<=fstN v/\fstN v < c.length/\v.getD (fstN v).toNat 0 < 0/\∃ M,L=M+1/\Far c M (reflL c (fstN v) v)):=by
 have hl:=h.1
 rcases firstNeg_spec v v.length with⟨h1,h2⟩ | ⟨i,h1,h2,h3,_⟩
 ·refine .inl ⟨h1,?_⟩
  obtain⟨_,s,hs,rfl⟩:=h
  cases s with
  | nil=>rfl
  | cons i s=>
   obtain⟨hi,hv⟩:=play_inv hs
   have:=h2 i om
   exact absurd hv (by show ¬v.getD i 0 < 0;omega)
 ·have e:fstN v=i:=h1
  rw [e]
  refine .inr ⟨by omega,by omega,by simpa using h3,?_⟩
  exact h.down hc om (by simpa using h3)
theorem nfL_far {c:LL} (hc:CartanP c):∀(f L:Nat) {v:LI},Far c L v->L<=f->(nfL c f v).length=L/\letters c.length (nfL c f v)/\imageL c (nfL c f v)=v
 | 0,L,v,h,hf=>by
  have:L=0:=by omega
  subst this
  exact⟨rfl,by simp [nfL,letters],h.zero.symm▸rfl⟩
 | f+1,L,v,h,hf=>by
  simp only [nfL]
  rcases fst_of_far hc h with⟨h1,h2⟩ | ⟨h1,h2,h3,M,h4,h5⟩
  ·rw [if_pos om]
   subst h2
   exact⟨rfl,by simp [letters],h.zero.symm▸rfl⟩
  ·rw [if_neg om]
   obtain⟨k1,k2,k3⟩:=nfL_far hc f M h5 om
   refine⟨by simp [k1,h4],fun i hi=>?_,?_⟩
   ·rcases List.mem_cons.1 hi with rfl | hi
    ·exact⟨h1,h2⟩
    ·exact k2 i hi
   ·show reflL c (fstN v) (imageL c (nfL c f (reflL c (fstN v) v)))=v
    rw [k3]
    apply vec_inj (by rw [reflL_length,reflL_length])
    rw [vec_refl (by rw [reflL_length,h.1]),vec_refl h.1,refl_refl ((matA_cartan hc).diag _ om)]
theorem same_elt {c:LL} (hc:CartanP c) {a b:LI} (ha:letters c.length a) (hb:letters c.length b) (h:imageL c a=imageL c b) {v:LI} (hv:v.length=c.length):actL c a v=actL c b v:=by
 apply vec_inj (by rw [actL_length,actL_length])
 rw [vec_act hv,vec_act hv]
 refine faithful (matA_cartan hc) (vec_ones c.length) (letters_nat ha) (letters_nat hb) ?_ _
 rw [<- vec_act (ones_length _),<- vec_act (ones_length _)]
 exact congrArg vecL h
end Go.Proofs.YtcinngodeoidnaaGreat
