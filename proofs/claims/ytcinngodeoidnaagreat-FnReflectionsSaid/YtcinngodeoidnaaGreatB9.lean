/- The tables of this program's types. -/
import Derived.Test.YtcinngodeoidnaaGreatAw8
import Derived.Test.YtcinngodeoidnaaGreatProg
import Derived.KernelRfl
import Derived.WalkKit
import Derived.Deep.QuietTactic
import Derived.BigQuiet
import Derived.Shelf.SlSortCmp.Whole1
set_option linter.unusedVariables false
set_option linter.unusedSimpArgs false
namespace Go.Proofs.YtcinngodeoidnaaGreat
open Go Go.Aw
def Btid:E->Nat
 | .int=>3
 | .byte=>5
 | .bool=>4
 | .str=>9
 | .row _=>25
 | .lrow=>25
 | .vec=>90
 | .pr=>92
def BG (t:Nat):Option E:=if t=25 then some .int else if t=24 then some .lrow else if t=100 then some .str else if t=22 then some .byte else if t=117 then some .bool else if t=88 then some .pr else none
def Bbt (t:Nat):Option BT:=if t=3 then some (.int .i64)else if t=4 then some .bool else if t=9 then some .str else if t=5 then some (.int .u8)else none
def BM (t:Nat):Option MT:=if t=89 then some ⟨true,false⟩else none
def BW (t:Nat):Option E:=if t=90 then some .vec else none
def Bpt (t:Nat):Bool:=t == 92
noncomputable def B:Ctx:=⟨Tryz.prog,default,(fun _ _=>True),default,(fun _=>False),Btid,BG,Bbt,BM,[],(fun _=>False),BW,true,Bpt⟩
instance:DrT B:=⟨rfl⟩
set_option maxRecDepth 100000 in
theorem B_ok:B.Ok:=by
 refine⟨fun t e h=>?_,fun t e h=>?_,fun t b h=>?_,fun f=>rfl,by kernel_rfl,fun t h=>?_,fun t m h=>?_,fun t e h=>?_,?_,fun t e h=>?_,fun t m h=>?_,fun t h=>?_⟩
 ·simp only [B,BG]at h
  (repeat' split at h)<;>first | (cases h;done) | (cases h;subst_vars;first | exact⟨Tryz.underlying25,_,rfl,rfl,rfl,rfl⟩ | exact⟨Tryz.underlying24,_,rfl,rfl,rfl,rfl⟩ | exact⟨Tryz.underlying100,_,rfl,rfl,rfl,rfl⟩ | exact⟨Tryz.underlying22,_,rfl,rfl,rfl,rfl⟩ | exact⟨Tryz.underlying117,_,rfl,rfl,rfl,rfl⟩ | exact⟨Tryz.underlying88,_,rfl,rfl,rfl,rfl⟩)
 ·simp only [B,BG]at h
  (repeat' split at h)<;>first | (cases h;done) | (cases h;subst_vars;exact⟨_,rfl,rfl⟩)
 ·simp only [B,Bbt]at h
  (repeat' split at h)<;>first | (cases h;done) | (cases h;subst_vars;first | exact⟨Tryz.underlying3,_,rfl,rfl⟩ | exact⟨Tryz.underlying4,_,rfl,rfl⟩ | exact⟨Tryz.underlying9,_,rfl,rfl⟩ | exact⟨Tryz.underlying5,_,rfl,rfl⟩)
 ·exact Tryz.underlying5
 ·simp only [B,BM]at h
  (repeat' split at h)<;>first | (cases h;done) | (cases h;subst_vars;first | exact⟨_,_,Tryz.underlying89,fun h=>(by cases h),fun _=>⟨_,Tryz.underlying90,Tryz.underlying3,_,rfl,rfl⟩,Tryz.zeroValue4⟩ | (cases h;done))
 ·simp only [B,BW]at h
  split at h
  ·cases h;subst_vars;exact⟨rfl,rfl,_,Tryz.underlying90,Tryz.underlying3,⟨_,rfl,rfl⟩,_,rfl,rfl,rfl⟩
  ·cases h
 ·exact⟨_,rfl,rfl,rfl⟩
 ·simp only [B,BG]at h
  (repeat' split at h)<;>first | (cases h;done) | (cases h;subst_vars;exact⟨_,rfl,rfl⟩)
 ·simp only [B,BM]at h
  (repeat' split at h)<;>first | (cases h;done) | (cases h;subst_vars;exact⟨_,_,rfl,rfl,rfl,rfl⟩)
 ·simp only [B,Bpt,beq_iff_eq]at h
  subst h;exact⟨rfl,_,_,Tryz.underlying92,rfl,rfl,⟨_,rfl,rfl⟩,⟨_,rfl,rfl⟩,_,rfl,rfl,rfl⟩
theorem BX:B.tid .lrow=25/\B.Γ 25=some .int/\B.Γ 24=some .lrow/\B.Γ 100=some .str/\B.Γ 22=some .byte/\B.Γ 117=some .bool/\B.Γ 88=some .pr/\B.bt 3=some (.int .i64)/\B.bt 4=some .bool/\B.bt 9=some .str/\B.bt 5=some (.int .u8)/\B.bt 25=none/\B.bt 24=none/\B.bt 100=none/\B.bt 22=none/\B.bt 117=none/\B.bt 88=none/\B.Γ 3=none/\B.Γ 4=none/\B.Γ 9=none/\B.Γ 5=none/\B.mt 0=none/\B.mt 89=some ⟨true,false⟩/\B.wt 25=none/\B.wt 24=none/\B.wt 100=none/\B.wt 22=none/\B.wt 117=none/\B.wt 88=none/\B.wt 3=none/\B.wt 4=none/\B.wt 9=none/\B.wt 5=none/\B.wt 0=none/\B.wt 90=some .vec/\B.Γ 90=none/\B.bt 90=none/\B.pt 25=false/\B.pt 24=false/\B.pt 100=false/\B.pt 22=false/\B.pt 117=false/\B.pt 88=false/\B.pt 3=false/\B.pt 4=false/\B.pt 9=false/\B.pt 5=false/\B.pt 89=false/\B.pt 0=false/\B.pt 90=false/\B.wt 89=none/\B.Γ 89=none/\B.bt 89=none/\B.mt 25=none/\B.mt 24=none/\B.mt 100=none/\B.mt 22=none/\B.mt 117=none/\B.mt 88=none/\B.mt 3=none/\B.mt 4=none/\B.mt 9=none/\B.mt 5=none/\B.pt 92=true:=⟨rfl,rfl,rfl,rfl,rfl,rfl,rfl,rfl,rfl,rfl,rfl,rfl,rfl,rfl,rfl,rfl,rfl,rfl,rfl,rfl,rfl,rfl,rfl,rfl,rfl,rfl,rfl,rfl,rfl,rfl,rfl,rfl,rfl,rfl,rfl,rfl,rfl,rfl,rfl,rfl,rfl,rfl,rfl,rfl,rfl,rfl,rfl,rfl,rfl,rfl,rfl,rfl,rfl,rfl,rfl,rfl,rfl,rfl,rfl,rfl,rfl,rfl,rfl,rfl⟩
theorem wk {f:FuncId} {args:List AV} {post:List AV->List O->Prop} {fn:Func} {c:Code} {m:Nat} (h1:∀(vs:Array Value) (w:World),(callFunc f vs).run B.P w=.ok (.enter f vs) w) (hf:B.P.funcs[f]? = some fn) (hb:fn.body=some c) (hm:fn.ntmps=m)
  (h:∀ C:Ctx,C.Ok->B.P=C.P->B.tid=C.tid->C.fn=fn->C.pin=[]->(∀ xs obs,xs.all freshAV=true->obs.all freshO=true->post xs obs->Fin C xs obs)->(C.tid .lrow=25/\C.Γ 25=some .int/\C.Γ 24=some .lrow/\C.Γ 100=some .str/\C.Γ 22=some .byte/\C.Γ 117=some .bool/\C.Γ 88=some .pr/\C.bt 3=some (.int .i64)/\C.bt 4=some .bool/\C.bt 9=some .str/\C.bt 5=some (.int .u8)/\C.bt 25=none/\C.bt 24=none/\C.bt 100=none/\C.bt 22=none/\C.bt 117=none/\C.bt 88=none/\C.Γ 3=none/\C.Γ 4=none/\C.Γ 9=none/\C.Γ 5=none/\C.mt 0=none/\C.mt 89=some ⟨true,false⟩/\C.wt 25=none/\C.wt 24=none/\C.wt 100=none/\C.wt 22=none/\C.wt 117=none/\C.wt 88=none/\C.wt 3=none/\C.wt 4=none/\C.wt 9=none/\C.wt 5=none/\C.wt 0=none/\C.wt 90=some .vec/\C.Γ 90=none/\C.bt 90=none/\C.pt 25=false/\C.pt 24=false/\C.pt 100=false/\C.pt 22=false/\C.pt 117=false/\C.pt 88=false/\C.pt 3=false/\C.pt 4=false/\C.pt 9=false/\C.pt 5=false/\C.pt 89=false/\C.pt 0=false/\C.pt 90=false/\C.wt 89=none/\C.Γ 89=none/\C.bt 89=none/\C.mt 25=none/\C.mt 24=none/\C.mt 100=none/\C.mt 22=none/\C.mt 117=none/\C.mt 88=none/\C.mt 3=none/\C.mt 4=none/\C.mt 9=none/\C.mt 5=none/\C.pt 92=true)->Run C [.code c] (entry args m)) (hn:args.length<=m:=by simp):FunA B f args post:=by
 subst hm
 refine FunA.walk B_ok h1 hf hb hn (fun C hC hP hT hΓ hbt hfn hpin hfin=>?_)
 have hX:=BX
 rw [<- hΓ,<- hbt.1,<- hbt.2.1,<- hbt.2.2.1,<- hbt.2.2.2.2]at hX
 rw [hT]at hX
 exact h C hC hP hT hfn hpin hfin hX
theorem and255 (n:Int):0<=bits .and .i64 n 255/\bits .and .i64 n 255 < 256:=by
 have h255:(BitVec.ofInt 64 255).toNat=2 ^ 8 - 1:=by decide
 have key:(BitVec.ofInt 64 n &&& BitVec.ofInt 64 255).toNat=(n % ((2 ^ 64:Nat):Int)).toNat % 2 ^ 8:=by
  rw [BitVec.toNat_and,BitVec.toNat_ofInt,h255,Nat.and_two_pow_sub_one_eq_mod]
 have e:bits .and .i64 n 255=IntKind.i64.wrap ((BitVec.ofInt 64 n &&& BitVec.ofInt 64 255).toNat:Nat):=rfl
 rw [e,key,IntKind.wrap_i64]
 omega
theorem drew2 (w:World) (a b:Nat):(w.drewN a).drewN b=w.drewN (a+b):=by simp [World.drewN,Nat.add_assoc]
set_option maxRecDepth 100000 in
theorem w_byte1 (b:Nat) (a:Addr) (len cap:Nat) (i h n:Int) (w:World) (g0:w.cell? ⟨b,0,none⟩=some (.slice (some a) len cap)) (g1:w.cell? ⟨b,1,none⟩=some (.int .i64 i)) (g2:w.cell? ⟨b,2,none⟩=some (.int .i64 h))
  (z1:w.frozen? ⟨b,1,none⟩=false) (z2:w.frozen? ⟨b,2,none⟩=false) (h0:0<=i) (h1:i < (len:Int)) (hl:len<=9223372036854775807) (hr:w.cell? (a.add i.toNat)=some (.int .u8 n)) (hne:a.block≠b) :
  Calls Tryz.prog 144 #[.pointer (some ⟨b,0,none⟩)] w fun e w'=>∃ x h':Int,e=.returned (.int .i64 x)/\0<=x/\x < 256/\-9223372036854775808<=h'/\h'<=9223372036854775807/\∃ k,w'=((w.setCell ⟨b,2,none⟩ (.int .i64 h')).drewN k).setCell ⟨b,1,none⟩ (.int .i64 (i+1)):=by
 go_enter Tryz.func144,Tryz.ntmps144
 go_wp2
 have hwr:=RowKit.wrap64_wf (RowKit.wrap64 (h*6364136223846793005)+1442695040888963407)
 generalize RowKit.wrap64 (RowKit.wrap64 (h*6364136223846793005)+1442695040888963407)=h' at *
 have e0:(w.setCell ⟨b,2,none⟩ (.int .i64 h')).cell? ⟨b,0,none⟩=some (.slice (some a) len cap):=by rw [World.cell?_setCell_other _ _ _ _ (by simp)];exact g0
 have e1:(w.setCell ⟨b,2,none⟩ (.int .i64 h')).cell? ⟨b,1,none⟩=some (.int .i64 i):=by rw [World.cell?_setCell_other _ _ _ _ (by simp)];exact g1
 have e2:(w.setCell ⟨b,2,none⟩ (.int .i64 h')).cell? ⟨b,2,none⟩=some (.int .i64 h'):=World.cell?_setCell_same w ⟨b,2,none⟩ _ g2
 have e3:(w.setCell ⟨b,2,none⟩ (.int .i64 h')).cell? (a.add i.toNat)=some (.int .u8 n):=by
  rw [World.cell?_setCell_other _ _ _ _ (fun e=>hne ((Go.Aw.add_block a i.toNat).symm.trans (congrArg Addr.block e).symm))];exact hr
 have e4:(w.setCell ⟨b,2,none⟩ (.int .i64 h')).frozen? ⟨b,1,none⟩=false:=by simpa using z1
 generalize hw2:w.setCell ⟨b,2,none⟩ (.int .i64 h')=w2 at *
 go_quiet (fail)
 go_wp2
 generalize bits BinOp.and IntKind.i64 (bits BinOp.xor IntKind.i64 (h' / 8589934592) (h' / 35184372088832)) 255=y
 go_quiet (fail)
 go_wp2
 go_quiet (fail)
 go_wp2
 go_ret
 obtain⟨k1,k2⟩:=and255 (RowKit.wrap64 (y+RowKit.wrap64 n))
 have hwr:-9223372036854775808<=h'/\h'<=9223372036854775807:=by
  have e:IntKind.i64.min = -9223372036854775808:=by decide
  simpa [Lit.wf,e] using hwr
 exact⟨_,h',rfl,k1,k2,hwr.1,hwr.2,_,(by rw [hw2]:World.setCell (w2.drewN _) _ _=_)⟩
set_option maxRecDepth 100000 in
theorem w_byte2 (b:Nat) (base:Option Addr) (len cap:Nat) (i h:Int) (w:World) (g0:w.cell? ⟨b,0,none⟩=some (.slice base len cap)) (g1:w.cell? ⟨b,1,none⟩=some (.int .i64 i)) (g2:w.cell? ⟨b,2,none⟩=some (.int .i64 h))
  (z1:w.frozen? ⟨b,1,none⟩=false) (z2:w.frozen? ⟨b,2,none⟩=false) (h1:¬i < (len:Int)) :
  Calls Tryz.prog 144 #[.pointer (some ⟨b,0,none⟩)] w fun e w'=>∃ x h':Int,e=.returned (.int .i64 x)/\0<=x/\x < 256/\-9223372036854775808<=h'/\h'<=9223372036854775807/\∃ k,w'=(w.setCell ⟨b,2,none⟩ (.int .i64 h')).drewN k:=by
 go_enter Tryz.func144,Tryz.ntmps144
 go_wp2
 have hwr:=RowKit.wrap64_wf (RowKit.wrap64 (h*6364136223846793005)+1442695040888963407)
 generalize RowKit.wrap64 (RowKit.wrap64 (h*6364136223846793005)+1442695040888963407)=h' at *
 have e0:(w.setCell ⟨b,2,none⟩ (.int .i64 h')).cell? ⟨b,0,none⟩=some (.slice base len cap):=by rw [World.cell?_setCell_other _ _ _ _ (by simp)];exact g0
 have e1:(w.setCell ⟨b,2,none⟩ (.int .i64 h')).cell? ⟨b,1,none⟩=some (.int .i64 i):=by rw [World.cell?_setCell_other _ _ _ _ (by simp)];exact g1
 have e2:(w.setCell ⟨b,2,none⟩ (.int .i64 h')).cell? ⟨b,2,none⟩=some (.int .i64 h'):=World.cell?_setCell_same w ⟨b,2,none⟩ _ g2
 generalize hw2:w.setCell ⟨b,2,none⟩ (.int .i64 h')=w2 at *
 have hd:decide (i < (len:Int))=false:=by simp;omega
 go_quiet (fail)
 go_wp2
 obtain⟨k1,k2⟩:=and255 (bits BinOp.xor IntKind.i64 (h' / 8589934592) (h' / 35184372088832))
 generalize bits BinOp.and IntKind.i64 (bits BinOp.xor IntKind.i64 (h' / 8589934592) (h' / 35184372088832)) 255=y at *
 go_quiet (fail)
 go_wp2
 go_ret
 have hwr:-9223372036854775808<=h'/\h'<=9223372036854775807:=by
  have e:IntKind.i64.min = -9223372036854775808:=by decide
  simpa [Lit.wf,e] using hwr
 exact⟨y,h',rfl,k1,k2,hwr.1,hwr.2,_,(drew2 _ _ _).trans (by rw [hw2])⟩
def CurTo (b:Nat) (s:Value) (len:Nat) (t:TypeId) (w:World) (e:Ending) (w':World):Prop:=
 (∃ x:Int,e=.returned (.int .i64 x)/\0<=x/\x < 256)/\(∃ i h:Int,w'.heap[b]? = some (.cells #[s,.int .i64 i,.int .i64 h] t (0,0))/\0<=i/\i<=len/\-9223372036854775808<=h/\h<=9223372036854775807) /\
  Go.Aw.Ext (fun c=>c=b) w w'
theorem heap_setCell (w:World) (b k:Nat) (v:Value) (c:Array Value) (t:TypeId) (f:Nat×Nat) (h:w.heap[b]? = some (.cells c t f)):(w.setCell ⟨b,k,none⟩ v).heap[b]? = some (.cells (c.setIfInBounds k v) t f):=by
 simp [World.setCell,Array.getElem?_modify,h]
theorem heap_setCell_ne (w:World) (b k c:Nat) (v:Value) (h:c≠b):(w.setCell ⟨b,k,none⟩ v).heap[c]? = w.heap[c]?:=by
 simp [World.setCell,Array.getElem?_modify,Ne.symm h]
theorem ext_setCell (w:World) (b k:Nat) (v:Value):Go.Aw.Ext (fun c=>c=b) w (w.setCell ⟨b,k,none⟩ v):=
 ⟨rfl,rfl,rfl,by simp [World.setCell],Nat.le_refl _,fun c _ hc=>heap_setCell_ne w b k c v hc⟩
theorem ext_drewN (w:World) (n:Nat):Go.Aw.Ext (fun _=>False) w (w.drewN n):=⟨rfl,rfl,rfl,Nat.le_refl _,Nat.le_add_right _ _,fun _ _ _=>rfl⟩
theorem byte_to (b:Nat) (t:TypeId) (base:Option Addr) (len cap:Nat) (i h:Int) (w:World) (hb:w.heap[b]? = some (.cells #[.slice base len cap,.int .i64 i,.int .i64 h] t (0,0))) (h0:0<=i) (h1:i<=len) (hl:len<=9223372036854775807)
  (hr:∀ k,k < len->∃ a n,base=some a/\a.block≠b/\w.cell? (a.add k)=some (.int .u8 n)) :
  Calls Tryz.prog 144 #[.pointer (some ⟨b,0,none⟩)] w (CurTo b (.slice base len cap) len t w):=by
 have g0:w.cell? ⟨b,0,none⟩=some (.slice base len cap):=by simp [World.cell?,hb]
 have g1:w.cell? ⟨b,1,none⟩=some (.int .i64 i):=by simp [World.cell?,hb]
 have g2:w.cell? ⟨b,2,none⟩=some (.int .i64 h):=by simp [World.cell?,hb]
 have z:∀ k,w.frozen? ⟨b,k,none⟩=false:=fun k=>by simp [World.frozen?,hb]
 by_cases hi:i < (len:Int)
 ·obtain⟨a,n,rfl,hne,hc⟩:=hr i.toNat om
  refine(w_byte1 b a len cap i h n w g0 g1 g2 (z 1) (z 2) h0 hi hl hc hne).mono ?_
  rintro e w' ⟨x,h',rfl,k1,k2,k3,k4,k,rfl⟩
  refine⟨⟨x,rfl,k1,k2⟩,⟨i+1,h',?_,by omega,by omega,k3,k4⟩,((ext_setCell w b 2 _).trans ((ext_drewN _ _).mono fun _ h=>h.elim)).trans (ext_setCell _ b 1 _)⟩
  have e1:=heap_setCell w b 2 (.int .i64 h') _ _ _ hb
  have e2:((w.setCell ⟨b,2,none⟩ (.int .i64 h')).drewN k).heap[b]? = _:=e1
  exact heap_setCell _ b 1 (.int .i64 (i+1)) _ _ _ e2
 ·refine(w_byte2 b base len cap i h w g0 g1 g2 (z 1) (z 2) hi).mono ?_
  rintro e w' ⟨x,h',rfl,k1,k2,k3,k4,k,rfl⟩
  refine⟨⟨x,rfl,k1,k2⟩,⟨i,h',heap_setCell w b 2 (.int .i64 h') _ _ _ hb,h0,h1,k3,k4⟩,(ext_setCell w b 2 _).trans ((ext_drewN _ _).mono fun _ h=>h.elim)⟩
open Go.RowKit
theorem and30 (n:Int):0<=bits .and .i64 n 1073741823/\bits .and .i64 n 1073741823 < 1073741824:=by
 have h255:(BitVec.ofInt 64 1073741823).toNat=2 ^ 30 - 1:=by decide
 have key:(BitVec.ofInt 64 n &&& BitVec.ofInt 64 1073741823).toNat=(n % ((2 ^ 64:Nat):Int)).toNat % 2 ^ 30:=by
  rw [BitVec.toNat_and,BitVec.toNat_ofInt,h255,Nat.and_two_pow_sub_one_eq_mod]
 have e:bits .and .i64 n 1073741823=IntKind.i64.wrap ((BitVec.ofInt 64 n &&& BitVec.ofInt 64 1073741823).toNat:Nat):=rfl
 rw [e,key,IntKind.wrap_i64]
 omega
set_option maxRecDepth 100000 in
theorem w_new (base:Option Addr) (len cap:Nat) (ns:Nat->Int) (w:World) (hl:len<=4611686018427387904) (hr:∀ k,k < len->∃ a,base=some a/\w.cell? (a.add k)=some (.int .u8 (ns k))) :
  Calls Tryz.prog 89 #[.slice base len cap] w fun e w'=>∃(h:Int) (t:TypeId),e=.returned (.pointer (some ⟨w.heap.size,0,none⟩))/\-9223372036854775808<=h/\h<=9223372036854775807/\w'=w.alloc (.cells #[.slice base len cap,.int .i64 0,.int .i64 h] t):=by
 go_enter Tryz.func89,Tryz.ntmps89
 go_wp2
 go_loop [3,4] (fun h i=>∃(k:Nat) (z:Int),k<=len/\i=.int .i64 k/\h=.int .i64 z/\-9223372036854775808<=z/\z<=9223372036854775807) (fun _ i=>len - (intOf i).toNat)
 case atStart=>exact⟨0,_,nz0 _,rfl,rfl,by omega,by omega⟩
 case round=>
  obtain⟨k,z,hk,rfl,rfl,z1,z2⟩:=hrel
  rcases Nat.lt_or_ge k len with hlt | hge
  ·obtain⟨a,rfl,hc⟩:=hr k hlt
   have hd:decide ((k:Int) < (len:Int))=true:=by simp;omega
   obtain⟨y1,y2⟩:=and30 (wrap64 (wrap64 (wrap64 (z*131)+wrap64 (ns k))+7))
   go_wp2
   ·exact⟨⟨k+1,_,by omega,by simp,rfl,by omega,by omega⟩,by simp [intOf];omega⟩
   ·go_ret
    exact⟨rfl,z,z1,z2,_,rfl⟩
  ·have:k=len:=by omega
   subst this
   have hd:decide ((k:Int) < (k:Int))=false:=by simp
   go_wp2
   go_ret
   exact⟨rfl,z,z1,z2,_,rfl⟩
theorem take_snoc {α:Type} (d:α) (p:List α) (i:Nat) (h:i < p.length):p.take i ++ [p.getD i d]=p.take (i+1):=by
 rw [List.take_add_one]
 simp [h]
end Go.Proofs.YtcinngodeoidnaaGreat
namespace Go.Aw
open Go
theorem Run.unmat {C:Ctx} {k:List Item} (hC:C.Ok) (id:Nat) {n:Nat} {fr:List (Nat×Bool×Sl)} {obs:List O} {g:Nat} {hs:List (Option Nat)} {rows:LL} {nn:Bool} (ho:oAt obs id=.mat hs rows g nn)
  (h:Run C k ⟨n,fr,oSet obs id (.arr (.row true) rows g nn)⟩):Run C k ⟨n,fr,obs⟩:=by
 intro a w ρ r
 have hid:id < obs.length:=by
  rcases Nat.lt_or_ge id obs.length with h | h
  ·exact h
  ·rw [oAt_eq,geN h]at ho;cases ho
 have ho':obs[id]? = some (.mat hs rows g nn):=by rw [oAt_get hid,ho]
 have hset:∀(j:Nat) (o:O),(obs.set id (.arr (.row true) rows g nn))[j]? = some o->(j=id/\o=.arr (.row true) rows g nn)\/(j≠id/\obs[j]? = some o):=fun j o hj=>by
  by_cases e:j=id
  ·subst e
   rw [List.getElem?_set_self hid]at hj
   exact .inl ⟨rfl,(Option.some.inj hj).symm⟩
  ·rw [List.getElem?_set_ne (Ne.symm e)]at hj
   exact .inr ⟨e,hj⟩
 have hgen:∀ j,genOf (obs.set id (.arr (.row true) rows g nn)) j=genOf obs j:=fun j=>by
  unfold genOf
  by_cases e:j=id
  ·subst e
   rw [List.getElem?_set_self hid,ho'];rfl
  ·rw [List.getElem?_set_ne (Ne.symm e)]
 have hOwn:∀ b',Own (obs.set id (.arr (.row true) rows g nn)) ρ b'->Own obs ρ b':=fun b'=>by
  rintro⟨j,o,hj,hb⟩
  rcases hset j o hj with⟨rfl,rfl⟩ | ⟨_,hj⟩
  ·exact⟨_,_,ho',.inl hb⟩
  ·exact⟨j,o,hj,hb⟩
 have hV:(C.V w obs ρ).le (C.V w (obs.set id (.arr (.row true) rows g nn)) ρ):=by
  refine⟨fun b o hb=>?_,fun _ hb=>hb,rfl⟩
  simp only [Ctx.V,mask]at hb ⊢
  split at hb
  ·cases hb
  ·rename_i hnn
   rw [if_neg (fun k=>hnn (hOwn b k))]
   exact hb
 have hav:∀(x:AV) (v:Value),AVRel (C.V w obs ρ) obs ρ x v->AVRel (C.V w (obs.set id (.arr (.row true) rows g nn)) ρ) (obs.set id (.arr (.row true) rows g nn)) ρ x v:=fun x v hx=>
  AVRel.carry hV (by simp) (fun i c' _ hc=>⟨c',by rw [<- hgen];exact hc,.inl ⟨rfl,rfl⟩⟩) hx
 refine h a w ρ ⟨r.defers,r.size,fun s ex x hl=>?_,?_,fun j v hj=>?_⟩
 ·rw [oSet_eq]
  obtain⟨k1,k2⟩:=r.fr s ex x hl
  refine⟨fun he=>?_,k2⟩
  have h2:=k1 he
  cases x with
  | v x=>exact hav x _ h2
  | t l=>
   obtain⟨vs,e1,e2,e3⟩:=h2
   exact⟨vs,e1,e2,fun i x v hx hv=>hav x v (e3 i x v hx hv)⟩
 ·rw [oSet_eq]
  refine⟨fun j o hj=>?_,fun i j o o' b' hi hj bi bj=>?_,fun b' hb=>r.w.own b' (hOwn b' hb),r.w.os0,r.w.tape,r.w.output,r.w.grow,r.w.drawn,r.w.kept,r.w.gl⟩
  ·rcases hset j o hj with⟨rfl,rfl⟩ | ⟨_,hj⟩
   ·have hmat:=r.w.os _ _ ho'
    obtain⟨cs,k1,k2,k3,k4,k5,k6,k7⟩:=hmat
    have hcl:cs.length=rows.length:=by have:=k1.1;omega
    have hrow:∀ i (hi:i < rows.length),RowRel (C.V w (obs.set j (.arr (.row true) rows g nn)) ρ) true rows[i] cs[i]:=by
     intro i hi
     have:=k3 i hs[i] rows[i] cs[i] (by simp) (by simp) (by simp)
     cases hh:hs[i] with
     | none=>
      rw [hh]at this
      obtain⟨h1,h2⟩:=this
      rw [h1,h2]
      exact⟨none,0,rfl,by simp,by simp,fun i hi=>by simp at hi⟩
     | some q=>
      rw [hh]at this
      obtain⟨h1,cur,hg,h2,h3,h4,h5⟩:=this
      have hq:some q∈hs:=by rw [<- hh];simp
      have hownq:fpo (ρ j) (.mat hs rows g nn) (hdB q):=.inr ⟨q,hq,rfl⟩
      have hnot:¬Own (obs.set j (.arr (.row true) rows g nn)) ρ (hdB q):=by
       rintro⟨i',o',hi',hb'⟩
       rcases hset i' o' hi' with⟨e1,rfl⟩ | ⟨hne,hi2⟩
       ·rw [e1]at hb'
        exact k5 q hq hb'
       ·exact hne (r.w.dis i' _ o' _ (hdB q) hi2 ho' hb' hownq)
      refine⟨some ⟨hdB q,0,none⟩,hdC q,h1,h2,h3,fun j hj=>⟨⟨hdB q,0,none⟩,rfl,fun _=>.inl (r.w.own _ ⟨_,_,ho',hownq⟩),?_⟩⟩
      have:(cur.toList.take rows[i].length)[j]? = (rows[i].map (Value.int .i64))[j]?:=by rw [h5]
      rw [List.getElem?_take,if_pos hj]at this
      rw [add_plain]
      simp only [Vw.cell,Ctx.V,mask,if_neg hnot,hg]
      simpa [hj] using this
    refine⟨cs,by rw [hC.same];exact k1,⟨by simp [E.size,hcl],fun i hi=>⟨cs[i],hrow i hi,fun j hj=>?_⟩⟩,k6,k7⟩
    have:j=0:=by simp [E.size]at hj;omega
    subst this
    rw [cells_oneCell (RowRel.oneCell (hrow i hi))]
    simp [E.size,hcl,hi]
   ·exact(r.w.os j o hj).kept hV (Ext.refl (fun _=>False) w) (fun _ _ k=>k)
  ·rcases hset i o hi with⟨e1,rfl⟩ | ⟨_,hi2⟩<;>rcases hset j o' hj with⟨e2,rfl⟩ | ⟨_,hj2⟩
   ·rw [e1,e2]
   ·rw [e1]at bi ⊢;exact r.w.dis _ _ _ _ b' ho' hj2 (.inl bi) bj
   ·rw [e2]at bj ⊢;exact r.w.dis _ _ _ _ b' hi2 ho' bi (.inl bj)
   ·exact r.w.dis i j o o' b' hi2 hj2 bi bj
 ·rw [oSet_eq]
  obtain⟨k1,k2⟩:=r.pin j v hj
  exact⟨by simpa using k1,fun hg=>k2 (by rw [<- hgen];exact hg)⟩
end Go.Aw
namespace Go.Proofs.YtcinngodeoidnaaGreat
open Go Go.Aw
theorem bytes_cells {V:Vw} {f:Bool} {xs:LI} {s:Value} (h:SlRel V f .byte xs s):∃ base cap,s=.slice base xs.length cap/\xs.length<=maxLen/\∀ k (hk:k < xs.length),∃ a,base=some a/\V.cell (a.add k)=some (.int .u8 xs[k]):=by
 obtain⟨base,cap,hv,h1,h2,hx⟩:=h
 refine⟨base,cap,hv,by omega,fun k hk=>?_⟩
 obtain⟨a,u,ha,_,hr,hc⟩:=hx k hk
 cases hr
 have h0:=hc 0 (by simp [E.size])
 simp [E.size,Value.cells]at h0
 exact⟨a,ha,h0⟩
theorem cell_of_V {C:Ctx} {obs:List O} {w:World} {ρ:Nat->Value} {a:Addr} {v:Value} (h:(C.V w obs ρ).cell a=some v):¬Own obs ρ a.block/\w.cell? a=some v:=by
 unfold Vw.cell at h
 cases hb:(C.V w obs ρ).H a.block with
 | none=>rw [hb]at h;cases h
 | some o=>
  obtain⟨h1,h2⟩:=H_vis hb
  refine⟨h1,?_⟩
  rw [hb]at h
  unfold World.cell?
  rw [h2]
  cases o<;>first | exact h | cases h
theorem ACall.new {C:Ctx} (hP:B.P=C.P) {obs:List O} {f:Bool} {xs:LI} (hm:xs.length<=4611686018427387904) {K:Sl->List O->Prop} (hk:∀ s,K (.v (.own obs.length 0)) (obs ++ [.cur s 0])) :
  ACall C obs 89 [.sl f .byte xs] fun x o=>Later (K x o):=by
 refine⟨fun vs w=>by rw [<- hP];exact Tryz.call89 vs w,fun w ρ vs rr hl hx=>?_⟩
 match vs,hl with
 | [s],_=>
 have hs:SlRel (C.V w obs ρ) f .byte xs s:=hx 0 _ s rfl rfl
 obtain⟨base,cap,hv,hlen,hc⟩:=bytes_cells hs
 rw [<- hP]
 subst hv
 refine(w_new base xs.length cap (fun k=>xs.getD k 0) w hm fun k hk=>?_).mono ?_
 ·obtain⟨a,ha,hc⟩:=hc k hk
  refine⟨a,ha,?_⟩
  rw [(cell_of_V hc).2]
  simp [gdE,hk]
 rintro e w' ⟨h,t,rfl,h1,h2,rfl⟩
 have hext:=Ext.alloc (fun _=>False) w (.cells #[.slice base xs.length cap,.int .i64 0,.int .i64 h] t)
 have hgr:(w.alloc (.cells #[.slice base xs.length cap,.int .i64 0,.int .i64 h] t)).heap[w.heap.size]? = some (.cells #[.slice base xs.length cap,.int .i64 0,.int .i64 h] t (0,0)):=by
  show(w.heap.push _)[_]? = _
  simp
 have hle:(C.V w obs ρ).le (C.V (w.alloc (.cells #[.slice base xs.length cap,.int .i64 0,.int .i64 h] t)) (obs ++ [.cur (.slice base xs.length cap) 0]) (fun i=>if i=obs.length then .pointer (some ⟨w.heap.size,0,none⟩)else ρ i)):=by
  refine⟨fun b o hb=>?_,fun _ hb=>hb,rfl⟩
  obtain⟨n1,n2⟩:=H_vis hb
  have hlt:b < w.heap.size:=(ageS.1 n2).1
  have hn:¬Own (obs ++ [.cur (.slice base xs.length cap) 0]) (fun i=>if i=obs.length then .pointer (some ⟨w.heap.size,0,none⟩)else ρ i) b:=by
   rintro⟨j,o',hj,hf⟩
   rw [List.getElem?_append]at hj
   split at hj
   ·rename_i hlj
    simp only [if_neg (show ¬j=obs.length by omega)]at hf
    exact n1 ⟨j,o',hj,hf⟩
   ·rename_i hlj
    have hj0:j=obs.length:=by
     rcases Nat.lt_or_ge obs.length j with k | k
     ·rw [geN (by simp;omega)]at hj;cases hj
     ·omega
    subst hj0
    simp at hj
    subst hj
    simp only [if_true]at hf
    have hf:Value.pointer (some ⟨w.heap.size,0,none⟩)=.pointer (some ⟨b,0,none⟩):=hf
    injection hf with hf
    injection hf with hf
    injection hf with hf _ _
    omega
  simp only [Ctx.V,mask,if_neg hn]
  rw [hext.block b hlt (fun k=>k)]
  exact n2
 have T:=Turn.new rr hext (.cur (.slice base xs.length cap) 0) (.pointer (some ⟨w.heap.size,0,none⟩))
  ⟨w.heap.size,t,0,h,rfl,hgr,by omega,⟨xs,(SlRel.weaken hs).mono hle,by omega⟩,h1,h2⟩
  (fun b hb=>by
   have hf:Value.pointer (some ⟨w.heap.size,0,none⟩)=.pointer (some ⟨b,0,none⟩):=hb
   injection hf with hf
   injection hf with hf
   injection hf with hf _ _
   omega)
 refine⟨_,rfl,.v (.own obs.length 0),_,_,T.step rr,?_,hk _⟩
 exact⟨by simp,fun c _=>⟨nz0 _,fun _=>by simp⟩⟩
theorem c_l1Byte (s:Value):FunO B 144 [.own 0 0] (.cur s 0) (fun rs o=>∃ x:Int,rs=[.int .i64 x]/\0<=x/\x < 256/\o=[.cur s 0]):=by
 refine⟨fun vs w=>Tryz.call144 vs w,fun w L v vs hw hl ha=>?_⟩
 match vs,hl with
 | [u],_=>
 have hu:u=v:=((ha 0 _ u rfl rfl).2 0 rfl).2 rfl
 subst hu
 obtain⟨b,t,i,h,hv,hb,hi0,⟨xs,hs,hi1⟩,h1,h2⟩:=hw.os 0 _ rfl
 obtain⟨base,cap,hsv,hlen,hc⟩:=bytes_cells hs
 subst hsv
 have hv:u=.pointer (some ⟨b,0,none⟩):=hv
 subst hv
 have hown:Own [.cur (.slice base xs.length cap) 0] (fun _=>Value.pointer (some ⟨b,0,none⟩)) b:=⟨0,_,rfl,rfl⟩
 refine(byte_to b t base xs.length cap i h w hb hi0 hi1 hlen fun k hk=>?_).mono ?_
 ·obtain⟨a,ha,hc⟩:=hc k hk
  obtain⟨n1,n2⟩:=cell_of_V hc
  exact⟨a,xs[k],ha,fun e=>n1 (by rw [add_block,e];exact hown),n2⟩
 rintro e w' ⟨⟨x,rfl,x1,x2⟩,⟨i',h',g1,g2,g3,g4,g5⟩,hext⟩
 have hOwn:∀ c,Own [.cur (.slice base xs.length cap) 0] (fun _=>Value.pointer (some ⟨b,0,none⟩)) c->c=b:=by
  rintro c ⟨j,o,hj,hf⟩
  cases j with
  | succ j=>simp at hj
  | zero=>
   simp at hj;subst hj
   have hf:Value.pointer (some ⟨b,0,none⟩)=.pointer (some ⟨c,0,none⟩):=hf
   injection hf with hf
   injection hf with hf
   injection hf with hf _ _
   exact hf.symm
 have hle:((B.lentB w L (.cur (.slice base xs.length cap) 0) (.pointer (some ⟨b,0,none⟩))).V w [.cur (.slice base xs.length cap) 0] (fun _=>.pointer (some ⟨b,0,none⟩))).le
   ((B.lentB w L (.cur (.slice base xs.length cap) 0) (.pointer (some ⟨b,0,none⟩))).V w' [.cur (.slice base xs.length cap) 0] (fun _=>.pointer (some ⟨b,0,none⟩))):=by
  refine⟨fun c o hc=>?_,fun _ hb=>hb,rfl⟩
  obtain⟨n1,n2⟩:=H_vis hc
  simp only [Ctx.V,mask,if_neg n1]
  rw [hext.block c (ageS.1 n2).1 (fun e=>n1 (e▸hown))]
  exact n2
 refine⟨[.int .i64 x],rfl,[.int .i64 x],.cur (.slice base xs.length cap) 0,[],fun _=>.pointer (some ⟨b,0,none⟩),⟨x,rfl,x1,x2,rfl⟩,rfl,fun i y u' hy hu'=>?_,?_,rfl,rfl,⟨rfl,rfl,rfl⟩⟩
 ·cases i with
  | succ i=>simp at hy
  | zero=>simp at hy hu';subst hy hu';rfl
 ·refine⟨fun id o ho=>?_,fun i j o o' c hi hj _ _=>?_,fun c hc=>hw.own c hc,hext.os.trans hw.os0,hext.tape.trans hw.tape,hext.output.trans hw.output,Nat.le_trans hw.grow hext.size,fun hd=>Nat.le_trans (hw.drawn hd) hext.drawn,fun c hc hM=>?_,hw.gl⟩
  ·cases id with
   | succ id=>simp at ho
   | zero=>
    simp at ho;subst ho
    exact⟨b,t,i',h',rfl,g1,g2,⟨xs,hs.mono hle,g3⟩,g4,g5⟩
  ·cases i with
   | succ i=>simp at hi
   | zero=>cases j with
    | zero=>rfl
    | succ j=>simp at hj
  ·rw [hext.block c (Nat.lt_of_lt_of_le hc hw.grow) (fun e=>hM (by rw [e];rfl))]
   exact hw.kept c hc hM
theorem c_l1Below (s:Value) (n:Int) (hn0:-1000<=n) (hn:n<=256):FunO B 106 [.own 0 0,.int .i64 n] (.cur s 0) (fun rs o=>∃ x:Int,rs=[.int .i64 x]/\0<=x/\(0 < n->x < n)/\o=[.cur s 0]):=by
 refine FunO.walk B_ok (fn:=Tryz.f106) (fun vs w=>Tryz.call106 vs w) Tryz.func106 rfl (by rw [Tryz.ntmps106];simp) (fun C hC hP hT hΓ hbt hfn hpin hfin=>?_);have hX:=BX;rw [<- hΓ,<- hbt.1,<- hbt.2.1,<- hbt.2.2.1,<- hbt.2.2.2.2]at hX;rw [hT]at hX;rw [Tryz.ntmps106];simp only [AW7,simprocAttr,hX]
 refine Run.R ?_
 refine Run.R ?_
 refine Run.c ?_ ?_
 ·intro h
  have h:n<=0:=by simpa using h
  refine Run.R ?_
  refine Run.rW [4] (hfin _ _ _ rfl rfl ⟨rfl,rfl⟩ ?_)
  exact⟨0,rfl,by omega,by omega,rfl⟩
 intro h
 have h:0 < n:=by
  have:¬n<=0:=by simpa using h
  omega
 refine Run.R ?_
 refine Run.c ?_ ?_
 rotate_left
 ·intro h2
  have h2:¬n<=256:=by simpa using h2
  exact absurd hn h2
 intro _
 refine Run.g fun K hK=>?_
 refine FunO.callCur hP hT (c_l1Byte s) 0 0 (by first | rfl | (simp only [AW7,simprocAttr];done) | (simp only [AW7,simprocAttr];rfl)) (by simp only [AW7,simprocAttr]) ?_
 rintro rs o' obs' ⟨x,rfl,x0,x1,ho⟩
 injection ho with ho1 ho2;subst ho1 ho2
 have hm:x.tmod n=x % n:=Int.tmod_eq_emod_of_nonneg x0
 have hm0:=Int.emod_nonneg x (by omega:n≠0)
 have hm1:=Int.emod_lt_of_pos x h
 refine wWW ?_
 refine wE ?_;clear hK K
 refine Run.rW [4] (hfin _ _ _ rfl rfl ⟨rfl,rfl⟩ ?_)
 exact⟨_,rfl,by omega,by omega,rfl⟩
theorem c_l1Once (s:Value) (n:Int) (hn0:-1000<=n) (hn:n<=256):FunO B 125 [.own 0 0,.int .i64 n] (.cur s 0) (fun rs o=>∃ x:Bool,rs=[.bool x]/\o=[.cur s 0]):=by
 refine FunO.walk B_ok (fn:=Tryz.f125) (fun vs w=>Tryz.call125 vs w) Tryz.func125 rfl (by rw [Tryz.ntmps125];simp) (fun C hC hP hT hΓ hbt hfn hpin hfin=>?_);have hX:=BX;rw [<- hΓ,<- hbt.1,<- hbt.2.1,<- hbt.2.2.1,<- hbt.2.2.2.2]at hX;rw [hT]at hX;rw [Tryz.ntmps125];simp only [AW7,simprocAttr,hX]
 refine Run.R ?_
 refine Run.g fun K hK=>?_
 refine FunO.callCur hP hT (c_l1Below s n hn0 hn) 0 0 (by first | rfl | (simp only [AW7,simprocAttr];done) | (simp only [AW7,simprocAttr];rfl)) (by simp only [AW7,simprocAttr]) ?_
 rintro rs o' obs' ⟨x,rfl,x0,x1,ho⟩
 injection ho with ho1 ho2;subst ho1 ho2
 refine wWW ?_
 refine wE ?_;clear hK K
 refine Run.rW [4] (hfin _ _ _ rfl rfl ⟨rfl,rfl⟩ ?_)
 exact⟨_,rfl,rfl⟩
theorem c_l1PickInt (s:Value) (l:LI) (h0:0 < l.length) (hl:l.length<=256):FunO B 143 [.own 0 0,.sl false .int l] (.cur s 0) (fun rs o=>∃ x:Int,rs=[.int .i64 x]/\x∈l/\o=[.cur s 0]):=by
 refine FunO.walk B_ok (fn:=Tryz.f143) (fun vs w=>Tryz.call143 vs w) Tryz.func143 rfl (by rw [Tryz.ntmps143];simp) (fun C hC hP hT hΓ hbt hfn hpin hfin=>?_);have hX:=BX;rw [<- hΓ,<- hbt.1,<- hbt.2.1,<- hbt.2.2.1,<- hbt.2.2.2.2]at hX;rw [hT]at hX;rw [Tryz.ntmps143];simp only [AW7,simprocAttr,hX]
 refine Run.R ?_
 refine Run.g fun K hK=>?_
 refine FunO.callCur hP hT (c_l1Below s l.length om om) 0 0 (by first | rfl | (simp only [AW7,simprocAttr];done) | (simp only [AW7,simprocAttr];rfl)) (by simp only [AW7,simprocAttr]) ?_
 rintro rs o' obs' ⟨x,rfl,x0,x1,ho⟩
 injection ho with ho1 ho2;subst ho1 ho2
 have x1:=x1 om
 refine wWW ?_
 refine wE ?_;clear hK K
 refine Run.rW [4] (hfin _ _ _ rfl rfl ⟨rfl,rfl⟩ ?_)
 refine⟨_,rfl,?_,rfl⟩
 rw [gdE,geE om]
 simp
end Go.Proofs.YtcinngodeoidnaaGreat
namespace Go.Aw
open Go
theorem Run.matfact {C:Ctx} {k:List Item} (id:Nat) {n:Nat} {fr:List (Nat×Bool×Sl)} {obs:List O} {g:Nat} {hs:List (Option Nat)} {rows:LL} {nn:Bool} (ho:oAt obs id=.mat hs rows g nn)
  (h:hs.length=rows.length->(∀(i j q:Nat),hs[i]? = some (some q)->hs[j]? = some (some q)->i=j)->(∀ i:Nat,hs[i]? = some none->rows.getD i []=[])->Run C k ⟨n,fr,obs⟩):Run C k ⟨n,fr,obs⟩:=by
 refine Run.fact (p:=hs.length=rows.length/\(∀(i j q:Nat),hs[i]? = some (some q)->hs[j]? = some (some q)->i=j)/\(∀ i:Nat,hs[i]? = some none->rows.getD i []=[])) (fun a w ρ r=>?_) fun hh=>h hh.1 hh.2.1 hh.2.2
 have hid:id < obs.length:=by
  rcases Nat.lt_or_ge id obs.length with h | h
  ·exact h
  ·rw [oAt_eq,geN h]at ho;cases ho
 have ho':obs[id]? = some (.mat hs rows g nn):=by rw [oAt_get hid,ho]
 obtain⟨cs,k1,k2,k3,k4,k5,k6,k7⟩:=r.w.os id _ ho'
 refine⟨k2,fun i j q h1 h2=>k4 i j q q h1 h2 rfl,fun i hi=>?_⟩
 have hcl:cs.length=rows.length:=by have:=k1.1;omega
 have hlt:i < hs.length:=(geS.1 hi).1
 have:=k3 i none rows[i] cs[i] hi (by simp) (by simp)
 rw [gdE,geE om]
 exact this.2
theorem mat_head {hs:List (Option Nat)} {rows:LL} (hl:hs.length=rows.length) (h1:∀(i j q:Nat),hs[i]? = some (some q)->hs[j]? = some (some q)->i=j) (h2:∀ i:Nat,hs[i]? = some none->rows.getD i []=[])
  {i:Nat} (hi:i < rows.length) (hr:0 < (rows.getD i []).length):∃ q,hs.getD i none=some q/\some q∈hs/\hs.idxOf (some q)=i:=by
 have hi':i < hs.length:=by omega
 have e:hs[i]? = some hs[i]:=geE hi'
 cases hq:hs[i] with
 | none=>
  rw [hq]at e
  rw [h2 i e]at hr
  simp at hr
 | some q=>
  rw [hq]at e
  have hm:some q∈hs:=List.mem_of_getElem? e
  refine⟨q,by rw [gdE,e];rfl,hm,?_⟩
  have hlt:=List.idxOf_lt_length_iff.2 hm
  have e2:hs[hs.idxOf (some q)]? = some (some q):=by rw [geE hlt];simp
  exact h1 _ _ q e2 e
end Go.Aw
namespace Go.Proofs.YtcinngodeoidnaaGreat
open Go Go.Aw
theorem c_slices_Equal (p q:LI) (hp:p.length<=4503599627370496):FunA B 132 [.sl false .int p,.sl false .int q] (fun rs o=>rs=[.bool (p == q)]/\o=[]):=by
 refine wk Tryz.call132 Tryz.func132 rfl Tryz.ntmps132 fun C hC hP hT hfn hpin hfin hX=>wW ?_
 refine Run.R ?_
 refine Run.R ?_
 refine Run.c ?_ ?_
 ·intro hc
  refine Run.R ?_
  refine Run.r [4] ?_
  have:p≠q:=fun h=>by simp [h]at hc
  simpa using this
 intro hc
 have hl:p.length=q.length:=by simp at hc;omega
 refine Run.R ?_
 refine Run.loopI (X:=Nat) (fun i=>⟨26,[(0,true,.v (.sl false .int p)),(1,true,.v (.sl false .int q)),(12,true,.v (.int .i64 p.length)),(13,true,.v (.int .i64 i)),(4,true,.v (.bool false))],[]⟩) (fun i=>i<=p.length/\p.take i=q.take i) (fun i=>p.length - i) 0 (by simp) ?_ ?_
 ·exact Le.sub (by simp only [AW7,simprocAttr]) (by simp only [AW7,simprocAttr];try simp)
 rintro i ⟨hi,ht⟩ ih
 refine Run.R ?_
 refine Run.c ?_ ?_
 ·intro hc2
  have hc2:i < p.length:=by simpa using hc2
  refine Run.R ?_
  refine Run.nq ?_;refine Run.regionD hC true [0,1,2,3,4,5,6,7,8] (by kernel_rfl) (fun K hK=>?_);simp only [AW7,simprocAttr,hX];(repeat(with_reducible refine And.intro ?_ ?_);exact vc0);refine wE ?_;clear hK K
  refine Run.c ?_ ?_
  ·intro hne
   refine Run.R ?_
   refine Run.r [4] ?_
   have:p≠q:=fun h=>by simp [h]at hne
   simpa using this
  ·intro he
   have he:p.getD i 0=q.getD i 0:=by simpa using he
   refine Run.RW ?_
   refine Run.le ?_ (ih (i+1) ⟨hc2,?_⟩ om)
   ·exact Le.sub (by simp only [AW7,simprocAttr]) (by simp only [AW7,simprocAttr,Option.some.injEq,Prod.mk.injEq,Sl.v.injEq,AV.int.injEq,AV.own.injEq,AV.bool.injEq];try(repeat' apply And.intro);all_goals omega)
   ·rw [<- take_snoc 0 p i hc2,<- take_snoc 0 q i om,ht,he]
 ·intro hc2
  have hc2:i=p.length:=by simp at hc2;omega
  refine Run.x ?_
  refine Run.R ?_
  refine Run.r [4] ?_
  have:p=q:=by rw [hc2,tkL,hl,tkL]at ht;exact ht
  simp [this]
def cmpN (p q:LI):Nat->Nat->Int
 | 0,_=>0
 | n+1,i=>if p.getD i 0 < q.getD i 0 then -1 else if p.getD i 0 > q.getD i 0 then 1 else cmpN p q n (i+1)
def cmpW (p q:LI):Int:=if p.length < q.length then -1 else if p.length > q.length then 1 else cmpN p q p.length 0
theorem cmpN_zero (p q:LI) (hl:p.length=q.length):∀ n i,i+n=p.length->p.take i=q.take i->(cmpN p q n i=0↔p=q)
 | 0,i,hi,ht=>by
  have:p=q:=by
   have h1:p.take i=p:=List.take_of_length_le om
   have h2:q.take i=q:=List.take_of_length_le om
   rw [<- h1,<- h2,ht]
  simp [cmpN,this]
 | n+1,i,hi,ht=>by
  simp only [cmpN]
  split
  ·rename_i h
   constructor
   ·intro k;cases k
   ·intro k;rw [k]at h;omega
  ·split
   ·rename_i h
    constructor
    ·intro k;cases k
    ·intro k;rw [k]at h;omega
   ·rename_i h1 h2
    have he:p.getD i 0=q.getD i 0:=by omega
    exact cmpN_zero p q hl n (i+1) om (by rw [<- take_snoc 0 p i om,<- take_snoc 0 q i om,ht,he])
theorem cmpW_zero (p q:LI):cmpW p q=0↔p=q:=by
 unfold cmpW
 split
 ·rename_i h
  constructor
  ·intro k;cases k
  ·intro k;rw [k]at h;omega
 ·split
  ·rename_i h
   constructor
   ·intro k;cases k
   ·intro k;rw [k]at h;omega
  ·exact cmpN_zero p q om p.length 0 om (by simp)
theorem c_spec_CompareWords (p q:LI) (hp:p.length<=4503599627370496):FunA B 130 [.sl false .int p,.sl false .int q] (fun rs o=>rs=[.int .i64 (cmpW p q)]/\o=[]):=by
 refine wk Tryz.call130 Tryz.func130 rfl Tryz.ntmps130 fun C hC hP hT hfn hpin hfin hX=>wW ?_
 refine Run.R ?_
 refine Run.R ?_
 refine Run.c ?_ ?_
 ·intro hc
  refine Run.R ?_
  refine Run.c ?_ ?_
  ·intro hl
   refine Run.R ?_
   refine Run.r [4] ?_
   have hl:p.length < q.length:=by simpa using hl
   simp [cmpW,hl]
  ·intro hl
   refine Run.R ?_
   refine Run.r [4] ?_
   have hl:¬p.length < q.length:=by simpa using hl
   have hc:¬(p.length:Int)=q.length:=by simpa using hc
   have:q.length < p.length:=by omega
   simp [cmpW,hl,this]
 intro hc
 have hl:p.length=q.length:=by simp at hc;omega
 refine Run.R ?_
 refine Run.loopI (X:=Nat) (fun i=>⟨40,[(0,true,.v (.sl false .int p)),(1,true,.v (.sl false .int q)),(5,true,.v (.int .i64 i)),(4,true,.v (.int .i64 0))],[]⟩) (fun i=>i<=p.length/\cmpN p q p.length 0=cmpN p q (p.length - i) i) (fun i=>p.length - i) 0 (by simp) ?_ ?_
 ·exact Le.sub (by simp only [AW7,simprocAttr]) (by simp only [AW7,simprocAttr];try simp)
 rintro i ⟨hi,ht⟩ ih
 have hw:cmpW p q=cmpN p q (p.length - i) i:=by simp [cmpW,<- hl,ht]
 refine Run.R ?_
 refine Run.c ?_ ?_
 ·intro hc2
  have hc2:i < p.length:=by simpa using hc2
  obtain⟨m,hm⟩:∃ m,p.length - i=m+1:=⟨p.length - i - 1,by omega⟩
  refine Run.nq ?_;refine Run.regionD hC true [0,1,2,3,4,5,6,7,8] (by kernel_rfl) (fun K hK=>?_);simp only [AW7,simprocAttr,hX];(repeat(with_reducible refine And.intro ?_ ?_);exact vc0);refine wE ?_;clear hK K
  refine Run.c ?_ ?_
  ·intro hlt
   have hlt:p.getD i 0 < q.getD i 0:=by simpa using hlt
   refine Run.R ?_
   refine Run.r [4] ?_
   rw [hw,hm]
   simp only [cmpN]
   rw [if_pos hlt]
   simp
  ·intro hlt
   have hlt:¬p.getD i 0 < q.getD i 0:=by simpa using hlt
   refine Run.nq ?_;refine Run.regionD hC true [0,1,2,3,4,5,6,7,8] (by kernel_rfl) (fun K hK=>?_);simp only [AW7,simprocAttr,hX];(repeat(with_reducible refine And.intro ?_ ?_);exact vc0);refine wE ?_;clear hK K
   refine Run.c ?_ ?_
   ·intro hgt
    have hgt:q.getD i 0 < p.getD i 0:=by simpa using hgt
    refine Run.R ?_
    refine Run.r [4] ?_
    rw [hw,hm]
    simp only [cmpN]
    rw [if_neg hlt,if_pos hgt]
    simp
   ·intro hgt
    have hgt:¬q.getD i 0 < p.getD i 0:=by simpa using hgt
    refine Run.RW ?_
    refine Run.le ?_ (ih (i+1) ⟨hc2,?_⟩ om)
    ·exact Le.sub (by simp only [AW7,simprocAttr]) (by simp only [AW7,simprocAttr,Option.some.injEq,Prod.mk.injEq,Sl.v.injEq,AV.int.injEq,AV.own.injEq,AV.bool.injEq];try(repeat' apply And.intro);all_goals omega)
    ·rw [ht,hm]
     simp only [cmpN]
     rw [if_neg hlt,if_neg hgt,show p.length - (i+1)=m from by omega]
 ·intro hc2
  have hc2:i=p.length:=by simp at hc2;omega
  refine Run.x ?_
  refine Run.R ?_
  refine Run.r [4] ?_
  rw [hw,hc2,Nat.sub_self]
  simp [cmpN]
theorem c_spec_EqualWords (p q:LI) (hp:p.length<=4503599627370496):FunA B 77 [.sl false .int p,.sl false .int q] (fun rs o=>rs=[.bool (p == q)]/\o=[]):=by
 refine wk Tryz.call77 Tryz.func77 rfl Tryz.ntmps77 fun C hC hP hT hfn hpin hfin hX=>wW ?_
 refine Run.R ?_
 refine Run.g fun K hK=>?_
 refine FunA.e hP hT (c_spec_CompareWords p q hp) ?_
 refine wE ?_;clear hK K
 refine Run.r [4] ?_
 have:=cmpW_zero p q
 refine⟨?_,rfl⟩
 rw [show(cmpW p q == 0)=(p == q)from by rw [Bool.eq_iff_iff,beq_iff_eq,beq_iff_eq];exact this]
theorem world_grow {w w':World} (h1:w'.os=w.os) (h2:w'.tape=w.tape) (h3:w'.output=w.output) (h4:w.drawn<=w'.drawn) (h5:w.heap.size<=w'.heap.size) (h6:∀ b,b < w.heap.size->w'.heap[b]? = w.heap[b]?) :
  w'=Go.Sort.grow (w.drewN (w'.drawn - w.drawn)) (w'.heap.extract w.heap.size w'.heap.size):=by
 have hh:w'.heap=w.heap ++ w'.heap.extract w.heap.size w'.heap.size:=by
  apply Array.ext_getElem?
  intro i
  rw [Array.getElem?_append]
  split
  ·rename_i hi;exact h6 i hi
  ·rename_i hi
   rw [Array.getElem?_extract]
   split
   ·congr 1;omega
   ·rename_i h;rw [Array.getElem?_eq_none];omega
 have hd:w.drawn+(w'.drawn - w.drawn)=w'.drawn:=by omega
 unfold Go.Sort.grow World.drewN
 obtain⟨H',t',d',o',u'⟩:=w'
 simp only at h1 h2 h3 hh hd ⊢
 subst h1 h2 h3
 rw [<- hh,hd]
theorem sw_heap {α:Type} [Inhabited α] (enc:α->Value) (w:World) (blk off m:Nat) (d:Array α) (os:Array Obj) (b:Nat) (hb:b < w.heap.size) :
  (sortWorld enc w blk off m d os).heap[b]? = if b=blk then(w.heap[b]?).map (Go.Sort.onCells (Go.Sort.putCells enc off d))else w.heap[b]?:=by
 show((w.heap.modify blk (Go.Sort.onCells (Go.Sort.putCells enc off d))) ++ os)[b]? = _
 rw [Array.getElem?_append,if_pos (by simpa using hb),Array.getElem?_modify]
 by_cases h:b=blk
 ·rw [if_pos h,if_pos h.symm]
 ·rw [if_neg h,if_neg (Ne.symm h)]
theorem sw_size {α:Type} [Inhabited α] (enc:α->Value) (w:World) (blk off m:Nat) (d:Array α) (os:Array Obj):w.heap.size<=(sortWorld enc w blk off m d os).heap.size:=by
 show _<=((w.heap.modify blk (Go.Sort.onCells (Go.Sort.putCells enc off d))) ++ os).size
 simp
theorem ACall.sort {B C:Ctx} [DrT B] (hP:B.P=C.P) (hT:B.tid=C.tid) {ρs:Go.Shelf.Ren} (L:SlLaysF.n6 B.P ρs) {f g:FuncId} (hf:ρs.f 6=f) {cf:List Int->List Int->Int} (hO:Go.Sort.SWO (ltOf cf)) {obs:List O} (id gg:Nat) {ys:List (Nat×List Int)}
  (ho:oAt obs id=.arr .lrow ys gg true) (hyb:ys.length<=1048576) (hcmp:∀ a b,(a=[]\/a∈ys.map (·.2))->(b=[]\/b∈ys.map (·.2))->FunA B g [.sl false .int a,.sl false .int b] (fun rs o=>rs=[.int .i64 (cf a b)]/\o=[])) {K:Sl->List O->Prop}
  (hk:∀ ys',ys'.Perm ys->ys'.Pairwise (fun p q=>¬cf q.2 p.2 < 0)->K (.t []) (oSet obs id (.arr .lrow ys' gg true))):ACall C obs f [.own id gg,.fn g] fun x o=>Later (K x o):=by
 refine⟨fun vs w=>by rw [<- hP,<- hf];exact L.f6.enters rfl vs w,fun w ρ vs rr hl hx=>?_⟩
 have hid:id < obs.length:=by
  rcases Nat.lt_or_ge id obs.length with h | h
  ·exact h
  ·rw [oAt_eq,geN h]at ho;cases ho
 have ho':obs[id]? = some (.arr .lrow ys gg true):=by rw [oAt_get hid,ho]
 match vs,hl with
 | [u1,u2],_=>
 have a1:=hx 0 _ u1 rfl rfl
 have a2:u2=.func (.func g) #[] #[]:=hx 1 _ u2 rfl rfl
 obtain⟨_,a1⟩:=(show AVRel (C.V w obs ρ) obs ρ (.own id gg) u1 from a1)
 have hu1:u1=ρ id:=(a1 gg (by unfold genOf;rw [ho'];rfl)).2 rfl
 obtain⟨cs,hown,henc,hnn,hml⟩:=rr.os id _ ho'
 have hcl:cs.length=ys.length:=by simpa [E.size] using henc.1
 rcases hown.2 with⟨hv,_⟩ | ⟨b,cap,cur,hv,_,hg,h1,h2,h3,h4⟩
 ·exact(hnn rfl hv).elim
 have hrow:∀ i (hi:i < ys.length),∃ u,cs[i]? = some u/\LRowRel (C.V w obs ρ) ys[i].1 ys[i].2 u:=by
  intro i hi
  obtain⟨u,hu,hc⟩:=henc.2 i hi
  have hu':LRowRel (C.V w obs ρ) ys[i].1 ys[i].2 u:=hu
  have hc0:=hc 0 (by simp [E.size])
  simp only [E.size,Nat.mul_one,Nat.add_zero]at hc0
  refine⟨u,?_,hu'⟩
  rw [hc0,cells_oneCell hu'.oneCell]
  rfl
 have hob:Own obs ρ b:=⟨id,_,ho',by simp [fpo,hv,Value.ownBlock]⟩
 let nil:Value:=.slice none 0 0
 let enc:Fin (ys.length+1)->Value:=fun i=>cs.getD i.1 nil
 let row:Fin (ys.length+1)->List Int:=fun i=>(ys.map (·.2)).getD i.1 []
 let cf':Fin (ys.length+1)->Fin (ys.length+1)->Int:=fun i j=>cf (row i) (row j)
 let d:Array (Fin (ys.length+1)):=Array.ofFn fun i:Fin ys.length=>i.castSucc
 have hds:d.size=ys.length:=Array.size_ofFn
 have hd:∀ j,j < ys.length->(d[j]!).1=j:=fun j hj=>by
  rw [getElem!_pos d j (by rw [hds];exact hj)]
  simp [d]
 have henc':∀ i:Fin (ys.length+1),(∃ h:i.1 < ys.length,cs[i.1]? = some (enc i)/\row i=ys[i.1].2/\LRowRel (C.V w obs ρ) ys[i.1].1 (row i) (enc i))\/(enc i=nil/\row i=[]):=by
  intro i
  by_cases hi:i.1 < ys.length
  ·obtain⟨u,hu,hr⟩:=hrow i.1 hi
   have e1:enc i=u:=by show cs.getD i.1 nil=u;simp [List.getD,hu]
   have e2:row i=ys[i.1].2:=by show(ys.map (·.2)).getD i.1 []=_;simp [List.getD,hi]
   exact .inl ⟨hi,by rw [e1];exact hu,e2,by rw [e1,e2];exact hr⟩
  ·right
   exact⟨by show cs.getD i.1 nil=nil;simp [List.getD,geN (by omega:cs.length<=i.1)],by show(ys.map (·.2)).getD i.1 []=[];simp [List.getD,geN (by simp;omega:(ys.map (·.2)).length<=i.1)]⟩
 have hone:OneCell enc:=fun i=>by
  rcases henc' i with⟨_,_,_,h⟩ | ⟨h,_⟩
  ·exact h.oneCell
  ·rw [h];rfl
 have hmem:∀ i,row i=[]\/row i∈ys.map (·.2):=fun i=>by
  rcases henc' i with⟨h,_,h2,_⟩ | ⟨_,h⟩
  ·right;rw [h2];exact List.mem_map.2 ⟨_,List.getElem_mem h,rfl⟩
  ·exact .inl h
 have hblk:b < w.heap.size:=(ageS.1 hg).1
 have hcc:∀ i,i < ys.length->cur[i]? = cs[i]?:=fun i hi=>by
  rw [<- h4]
  simp only [E.size,Nat.mul_one]
  rw [List.getElem?_take_of_lt hi]
  simp
 have hH:Go.Sort.Holds enc w b 0 d:=fun j hj=>by
  rw [hds]at hj
  refine⟨?_,?_⟩
  ·have hj':=hd j hj
   simp only [World.cell?,hg,Nat.zero_add]
   show cur[j]? = some (enc d[j]!)
   rw [hcc j hj]
   rcases henc' (d[j]!) with⟨_,h,_⟩ | ⟨h,_⟩
   ·rw [hj']at h;exact h
   ·have:enc d[j]! = cs.getD j nil:=by show cs.getD (d[j]!).1 nil=_;rw [hj']
    rw [this]
    simp [List.getD,geE (by omega:j < cs.length)]
  ·simp [World.frozen?,hg]
 have hvis:∀ l o,(C.V w obs ρ).H l=some o->l≠b/\w.heap[l]? = some o:=fun l o h=>by
  obtain⟨k1,k2⟩:=H_vis h
  exact⟨fun e=>k1 (e▸hob),k2⟩
 have hC:CmpLays1 B.P g #[] enc cf' b 0 d.size w:=by
  intro m os dk _ x y
  have hrel:∀ z,AVRel ((B.bareL (sortWorld enc w b 0 m dk os) (fun _=>False)).V (sortWorld enc w b 0 m dk os) [] (fun _=>undef)) [] (fun _=>undef) (.sl false .int (row z)) (enc z):=fun z=>by
   rcases henc' z with⟨_,_,_,cap,cur,hv,_,hH,hc⟩ | ⟨hz,hr⟩
   ·obtain⟨k1,k2⟩:=hvis _ _ hH
    have k3:=sw_heap enc w b 0 m dk os _ (ageS.1 k2).1
    rw [if_neg k1,k2]at k3
    have hl:LRowRel ((B.bareL (sortWorld enc w b 0 m dk os) (fun _=>True)).V (sortWorld enc w b 0 m dk os) [] (fun _=>undef)) _ (row z) (enc z):=
     ⟨cap,cur,hv,.inr trivial,by rw [H_bare,k3];show _=some (Obj.cells cur (B.tid .int) (0,0));rw [hT];rfl,hc⟩
    have hs:=hl.toRow.weaken.toSl
    obtain⟨base,cap',q1,q2,q3,q4⟩:=hs
    refine⟨base,cap',q1,q2,q3,fun i hi=>?_⟩
    obtain⟨a,u,r1,_,r3,r4⟩:=q4 i hi
    refine⟨a,u,r1,by simp,r3,fun j hj=>?_⟩
    have:=r4 j hj
    simpa [Vw.cell,H_bare] using this
   ·rw [hz,hr]
    exact⟨none,0,rfl,by simp,by simp,fun i hi=>by simp at hi⟩
  have key:=(hcmp (row x) (row y) (hmem x) (hmem y)).2 (sortWorld enc w b 0 m dk os) (fun _=>False) [enc x,enc y] (by rw [hP];exact rr.laid.up (fun c hc hno=>by rw [sw_heap enc w b 0 m dk os c hc,if_neg (fun e:c=b=>hno (e▸hob))]) (fun _ _ _ k=>k)) rfl (fun i a v hi hv=>by
   match i with
   | 0=>simp at hi hv;subst hi hv;exact hrel x
   | 1=>simp at hi hv;subst hi hv;exact hrel y
   | i+2=>simp at hi)
  refine key.mono fun e w' ⟨us,he,xs,obs',ρ',⟨hxs,hobs⟩,hul,hu,hw',_,_⟩=>?_
  subst hxs hobs
  match us,hul with
  | [v],_=>
  have hv:v=.int .i64 (cf (row x) (row y)):=hu 0 _ v rfl rfl
  refine⟨by rw [he,hv];rfl,_,_,world_grow hw'.os0 hw'.tape hw'.output (hw'.drawn (DrT.h (B:=B))) hw'.grow (fun b hb=>hw'.kept b hb (fun k=>k))⟩
 have hsz:d.size < 4611686018427387904:=by rw [hds];omega
 have hO':Go.Sort.SWO (ltOf cf'):=⟨fun x=>hO.irrefl _,fun x y z=>hO.trans _ _ _,fun x y z=>hO.ntrans _ _ _⟩
 have main:=Any.slices_SortFunc L enc hone cf' hO' g #[] b 0 cap d w (hcmp [] [] (.inl rfl) (.inl rfl)).1 hC hH hblk hsz
 rw [hf,hP,hds]at main
 subst a2 hu1
 rw [hv]
 refine main.mono fun e w' ⟨he,d',n,os,hperm,hsort,hw'⟩=>⟨.tuple #[],he,.t [],?_⟩
 obtain⟨hps,_,hpp⟩:=hperm
 rw [hds]at hps
 have hpl:d'.toList.Perm d.toList:=by
  have e1:d'.extract 0 ys.length=d':=(congrArg (fun k=>d'.extract 0 k) hps.symm).trans Array.extract_size
  have e2:d.extract 0 ys.length=d:=(congrArg (fun k=>d.extract 0 k) hds.symm).trans Array.extract_size
  rw [e1,e2]at hpp
  exact hpp
 have hdl:∀ x∈d'.toList,x.1 < ys.length:=fun x hx=>by
  have:=hpl.mem_iff.1 hx
  simp only [d,Array.toList_ofFn,List.mem_ofFn]at this
  obtain⟨i,rfl⟩:=this
  exact i.2
 let nth:Fin (ys.length+1)->Nat×List Int:=fun i=>ys.getD i.1 (0,[])
 have hnth:∀ i:Fin (ys.length+1),i.1 < ys.length->row i=(nth i).2:=fun i hi=>by
  show(ys.map (·.2)).getD i.1 []=(ys.getD i.1 (0,[])).2
  simp [List.getD,hi]
 let ys':=d'.toList.map nth
 have hyl:ys'.length=ys.length:=by simp [ys',hps]
 have hyp:ys'.Perm ys:=by
  have e:d.toList.map nth=ys:=by
   apply List.ext_getElem
   ·simp [hds]
   ·intro i q1 q2
    simp only [List.getElem_map,Array.getElem_toList]
    have:=hd i q2
    rw [getElem!_pos d i (by rw [hds];exact q2)]at this
    show ys.getD (d[i]'_).1 (0,[])=_
    rw [this]
    simp [List.getD,q2]
  rw [<- e]
  exact hpl.map _
 have hget:∀ i (hi:i < ys.length),d'[i]! = d'[i]'om:=fun i hi=>getElem!_pos d' i om
 have hys:ys'.Pairwise (fun p q=>¬cf q.2 p.2 < 0):=by
  refine List.pairwise_iff_getElem.2 fun i j hi hj hij=>?_
  rw [hyl]at hi hj
  have hso:=hsort i j (nz0 _) hij hj
  rw [hget i hi,hget j hj]at hso
  have hlt:¬cf (row (d'[j]'om)) (row (d'[i]'om)) < 0:=by
   have:decide (cf (row (d'[j]'om)) (row (d'[i]'om)) < 0)=false:=hso
   simpa using this
  have m1:=hdl (d'[i]'om) (by simp)
  have m2:=hdl (d'[j]'om) (by simp)
  rw [hnth _ m1,hnth _ m2]at hlt
  simpa [ys'] using hlt
 have hheap:=fun b' (hb:b' < w.heap.size)=>sw_heap enc w b 0 n d' os b' hb
 have hext:Ext (fun b'=>fpo (ρ id) (.arr .lrow ys gg true) b') w w':=by
  rw [hw']
  refine⟨rfl,rfl,rfl,sw_size ..,Nat.le_add_right _ _,fun b' hb' hS=>?_⟩
  rw [hheap b' hb',if_neg]
  intro e
  subst e
  exact hS (by simp [fpo,hv,Value.ownBlock])
 have hfb:∀ b',fpo (ρ id) (.arr .lrow ys' gg true) b'->fpo (ρ id) (.arr .lrow ys gg true) b'\/w.heap.size<=b':=fun b' hb'=>.inl hb'
 have hle:=le_one (C:=C) (o':=.arr .lrow ys' gg true) (v:=ρ id) ho' hext hfb
 have T:=Turn.one rr id (.arr .lrow ys gg true) (.arr .lrow ys' gg true) (ρ id) ho' hext (w':=w') ?_ hfb (fun c' hc=>⟨gg,rfl,.inl ⟨(by cases hc;rfl),rfl⟩⟩)
 ·have hst:=T.step rr
  refine⟨obs.set id (.arr .lrow ys' gg true),_,hst,⟨[],rfl,rfl,by simp⟩,?_⟩
  have:=hk ys' hyp hys
  rw [oSet_eq]at this
  exact this
 ·refine⟨d'.toList.map enc,⟨by simp [hps,hyl,E.size],.inr ⟨b,cap,Go.Sort.putCells enc 0 d' cur,by rw [hyl];exact hv,nz0 _,?_,by rw [hyl];exact h1,h2,by simpa [Go.Sort.putCells] using h3,?_⟩⟩,⟨by simp [hps,hyl,E.size],fun i hi=>?_⟩,fun _=>by rw [hv];simp,by rw [hyl];exact hml⟩
  ·rw [hw',hheap b hblk,if_pos rfl,hg]
   rfl
  ·rw [hyl]
   apply List.ext_getElem?
   intro i
   simp only [E.size,Nat.mul_one]
   by_cases hi:i < ys.length
   ·rw [List.getElem?_take_of_lt hi]
    have hic:i < cur.size:=by rw [h3];simp only [E.size,Nat.mul_one];omega
    have hput:(Go.Sort.putCells enc 0 d' cur)[i]? = some (enc (d'[i]'om)):=by
     unfold Go.Sort.putCells
     rw [Array.getElem?_mapIdx,Array.getElem?_eq_getElem hic]
     simp only [Option.map_some]
     rw [if_pos om,Nat.sub_zero,hget i hi]
    rw [Array.getElem?_toList,hput]
    simp [hps,hi]
   ·rw [geN (by simp;omega),geN (by simp [hps];omega)]
  ·rw [hyl]at hi
   have hm:=hdl (d'[i]'om) (by simp)
   have hyi:ys'[i]'om=nth (d'[i]'om):=by simp [ys']
   rcases henc' (d'[i]'om) with⟨q1,q2,q3,q4⟩ | ⟨q1,q2⟩
   ·refine⟨enc (d'[i]'om),?_,fun j hj=>?_⟩
    ·rw [hyi]
     show LRowRel _ (nth (d'[i]'om)).1 (nth (d'[i]'om)).2 _
     rw [<- hnth _ hm]
     have:(nth (d'[i]'om)).1=ys[(d'[i]'om).1].1:=by
      show(ys.getD _ (0,[])).1=_
      simp [List.getD,q1]
     rw [this]
     exact q4.mono hle
    ·have:j=0:=by simp [E.size]at hj;omega
     subst this
     rw [cells_oneCell (hone _)]
     simp [E.size,hps,hi]
   ·exfalso
    obtain⟨u,r1,r2⟩:=hrow (d'[i]'om).1 hm
    obtain⟨c1,c2,r3,_⟩:=r2
    have:enc (d'[i]'om)=u:=by show cs.getD _ nil=u;simp [List.getD,r1]
    rw [q1,r3]at this
    simp [nil]at this
end Go.Proofs.YtcinngodeoidnaaGreat
