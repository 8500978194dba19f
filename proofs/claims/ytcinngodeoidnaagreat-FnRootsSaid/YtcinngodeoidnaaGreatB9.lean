/- The tables of this program's types. -/
import Derived.Test.YtcinngodeoidnaaGreatAw8
import Derived.Test.YtcinngodeoidnaaGreatProg
import Derived.KernelRfl
import Derived.WalkKit
import Derived.Deep.QuietTactic
import Derived.BigQuiet
import Derived.Shelf.SlSortCmp.Whole1
set_option linter.unusedVariables false
set_option linter.unusedSimpArgs false
namespace Go.Proofs.YtcinngodeoidnaaGreat
open Go Go.Aw
def Btid:E->Nat
 | .int=>3
 | .byte=>5
 | .bool=>4
 | .str=>9
 | .row _=>25
 | .lrow=>25
 | .vec=>90
 | .pr=>92
def BG (t:Nat):Option E:=if t=25 then some .int else if t=24 then some .lrow else if t=100 then some .str else if t=22 then some .byte else if t=117 then some .bool else if t=88 then some .pr else none
def Bbt (t:Nat):Option BT:=if t=3 then some (.int .i64)else if t=4 then some .bool else if t=9 then some .str else if t=5 then some (.int .u8)else none
def BM (t:Nat):Option MT:=if t=89 then some ⟨true,false⟩else none
def BW (t:Nat):Option E:=if t=90 then some .vec else none
def Bpt (t:Nat):Bool:=t == 92
noncomputable def B:Ctx:=⟨Tryz.prog,default,(fun _ _=>True),default,(fun _=>False),Btid,BG,Bbt,BM,[],(fun _=>False),BW,true,Bpt⟩
instance:DrT B:=⟨rfl⟩
set_option maxRecDepth 100000 in
theorem B_ok:B.Ok:=by
 refine⟨fun t e h=>?_,fun t e h=>?_,fun t b h=>?_,fun f=>rfl,by kernel_rfl,fun t h=>?_,fun t m h=>?_,fun t e h=>?_,?_,fun t e h=>?_,fun t m h=>?_,fun t h=>?_⟩
 ·simp only [B,BG]at h
  (repeat' split at h)<;>first | (cases h;done) | (cases h;subst_vars;first | exact⟨Tryz.underlying25,_,rfl,rfl,rfl,rfl⟩ | exact⟨Tryz.underlying24,_,rfl,rfl,rfl,rfl⟩ | exact⟨Tryz.underlying100,_,rfl,rfl,rfl,rfl⟩ | exact⟨Tryz.underlying22,_,rfl,rfl,rfl,rfl⟩ | exact⟨Tryz.underlying117,_,rfl,rfl,rfl,rfl⟩ | exact⟨Tryz.underlying88,_,rfl,rfl,rfl,rfl⟩)
 ·simp only [B,BG]at h
  (repeat' split at h)<;>first | (cases h;done) | (cases h;subst_vars;exact⟨_,rfl,rfl⟩)
 ·simp only [B,Bbt]at h
  (repeat' split at h)<;>first | (cases h;done) | (cases h;subst_vars;first | exact⟨Tryz.underlying3,_,rfl,rfl⟩ | exact⟨Tryz.underlying4,_,rfl,rfl⟩ | exact⟨Tryz.underlying9,_,rfl,rfl⟩ | exact⟨Tryz.underlying5,_,rfl,rfl⟩)
 ·exact Tryz.underlying5
 ·simp only [B,BM]at h
  (repeat' split at h)<;>first | (cases h;done) | (cases h;subst_vars;first | exact⟨_,_,Tryz.underlying89,fun h=>(by cases h),fun _=>⟨_,Tryz.underlying90,Tryz.underlying3,_,rfl,rfl⟩,Tryz.zeroValue4⟩ | (cases h;done))
 ·simp only [B,BW]at h
  split at h
  ·cases h;subst_vars;exact⟨rfl,rfl,_,Tryz.underlying90,Tryz.underlying3,⟨_,rfl,rfl⟩,_,rfl,rfl,rfl⟩
  ·cases h
 ·exact⟨_,rfl,rfl,rfl⟩
 ·simp only [B,BG]at h
  (repeat' split at h)<;>first | (cases h;done) | (cases h;subst_vars;exact⟨_,rfl,rfl⟩)
 ·simp only [B,BM]at h
  (repeat' split at h)<;>first | (cases h;done) | (cases h;subst_vars;exact⟨_,_,rfl,rfl,rfl,rfl⟩)
 ·simp only [B,Bpt,beq_iff_eq]at h
  subst h;exact⟨rfl,_,_,Tryz.underlying92,rfl,rfl,⟨_,rfl,rfl⟩,⟨_,rfl,rfl⟩,_,rfl,rfl,rfl⟩
theorem BX:B.tid .lrow=25/\B.Γ 25=some .int/\B.Γ 24=some .lrow/\B.Γ 100=some .str/\B.Γ 22=some .byte/\B.Γ 117=some .bool/\B.Γ 88=some .pr/\B.bt 3=some (.int .i64)/\B.bt 4=some .bool/\B.bt 9=some .str/\B.bt 5=some (.int .u8)/\B.bt 25=none/\B.bt 24=none/\B.bt 100=none/\B.bt 22=none/\B.bt 117=none/\B.bt 88=none/\B.Γ 3=none/\B.Γ 4=none/\B.Γ 9=none/\B.Γ 5=none/\B.mt 0=none/\B.mt 89=some ⟨true,false⟩/\B.wt 25=none/\B.wt 24=none/\B.wt 100=none/\B.wt 22=none/\B.wt 117=none/\B.wt 88=none/\B.wt 3=none/\B.wt 4=none/\B.wt 9=none/\B.wt 5=none/\B.wt 0=none/\B.wt 90=some .vec/\B.Γ 90=none/\B.bt 90=none/\B.pt 25=false/\B.pt 24=false/\B.pt 100=false/\B.pt 22=false/\B.pt 117=false/\B.pt 88=false/\B.pt 3=false/\B.pt 4=false/\B.pt 9=false/\B.pt 5=false/\B.pt 89=false/\B.pt 0=false/\B.pt 90=false/\B.wt 89=none/\B.Γ 89=none/\B.bt 89=none/\B.mt 25=none/\B.mt 24=none/\B.mt 100=none/\B.mt 22=none/\B.mt 117=none/\B.mt 88=none/\B.mt 3=none/\B.mt 4=none/\B.mt 9=none/\B.mt 5=none/\B.pt 92=true:=⟨rfl,rfl,rfl,rfl,rfl,rfl,rfl,rfl,rfl,rfl,rfl,rfl,rfl,rfl,rfl,rfl,rfl,rfl,rfl,rfl,rfl,rfl,rfl,rfl,rfl,rfl,rfl,rfl,rfl,rfl,rfl,rfl,rfl,rfl,rfl,rfl,rfl,rfl,rfl,rfl,rfl,rfl,rfl,rfl,rfl,rfl,rfl,rfl,rfl,rfl,rfl,rfl,rfl,rfl,rfl,rfl,rfl,rfl,rfl,rfl,rfl,rfl,rfl,rfl⟩
theorem wk {f:FuncId} {args:List AV} {post:List AV->List O->Prop} {fn:Func} {c:Code} {m:Nat} (h1:∀(vs:Array Value) (w:World),(callFunc f vs).run B.P w=.ok (.enter f vs) w) (hf:B.P.funcs[f]? = some fn) (hb:fn.body=some c) (hm:fn.ntmps=m)
  (h:∀ C:Ctx,C.Ok->B.P=C.P->B.tid=C.tid->C.fn=fn->C.pin=[]->(∀ xs obs,xs.all freshAV=true->obs.all freshO=true->post xs obs->Fin C xs obs)->(C.tid .lrow=25/\C.Γ 25=some .int/\C.Γ 24=some .lrow/\C.Γ 100=some .str/\C.Γ 22=some .byte/\C.Γ 117=some .bool/\C.Γ 88=some .pr/\C.bt 3=some (.int .i64)/\C.bt 4=some .bool/\C.bt 9=some .str/\C.bt 5=some (.int .u8)/\C.bt 25=none/\C.bt 24=none/\C.bt 100=none/\C.bt 22=none/\C.bt 117=none/\C.bt 88=none/\C.Γ 3=none/\C.Γ 4=none/\C.Γ 9=none/\C.Γ 5=none/\C.mt 0=none/\C.mt 89=some ⟨true,false⟩/\C.wt 25=none/\C.wt 24=none/\C.wt 100=none/\C.wt 22=none/\C.wt 117=none/\C.wt 88=none/\C.wt 3=none/\C.wt 4=none/\C.wt 9=none/\C.wt 5=none/\C.wt 0=none/\C.wt 90=some .vec/\C.Γ 90=none/\C.bt 90=none/\C.pt 25=false/\C.pt 24=false/\C.pt 100=false/\C.pt 22=false/\C.pt 117=false/\C.pt 88=false/\C.pt 3=false/\C.pt 4=false/\C.pt 9=false/\C.pt 5=false/\C.pt 89=false/\C.pt 0=false/\C.pt 90=false/\C.wt 89=none/\C.Γ 89=none/\C.bt 89=none/\C.mt 25=none/\C.mt 24=none/\C.mt 100=none/\C.mt 22=none/\C.mt 117=none/\C.mt 88=none/\C.mt 3=none/\C.mt 4=none/\C.mt 9=none/\C.mt 5=none/\C.pt 92=true)->Run C [.code c] (entry args m)) (hn:args.length<=m:=by simp):FunA B f args post:=by
 subst hm
 refine FunA.walk B_ok h1 hf hb hn (fun C hC hP hT hΓ hbt hfn hpin hfin=>?_)
 have hX:=BX
 rw [<- hΓ,<- hbt.1,<- hbt.2.1,<- hbt.2.2.1,<- hbt.2.2.2.2]at hX
 rw [hT]at hX
 exact h C hC hP hT hfn hpin hfin hX
theorem and255 (n:Int):0<=bits .and .i64 n 255/\bits .and .i64 n 255 < 256:=by
 have h255:(BitVec.ofInt 64 255).toNat=2 ^ 8 - 1:=by decide
 have key:(BitVec.ofInt 64 n &&& BitVec.ofInt 64 255).toNat=(n % ((2 ^ 64:Nat):Int)).toNat % 2 ^ 8:=by
  rw [BitVec.toNat_and,BitVec.toNat_ofInt,h255,Nat.and_two_pow_sub_one_eq_mod]
 have e:bits .and .i64 n 255=IntKind.i64.wrap ((BitVec.ofInt 64 n &&& BitVec.ofInt 64 255).toNat:Nat):=rfl
 rw [e,key,IntKind.wrap_i64]
 omega
theorem drew2 (w:World) (a b:Nat):(w.drewN a).drewN b=w.drewN (a+b):=by simp [World.drewN,Nat.add_assoc]
set_option maxRecDepth 100000 in
theorem w_byte1 (b:Nat) (a:Addr) (len cap:Nat) (i h n:Int) (w:World) (g0:w.cell? ⟨b,0,none⟩=some (.slice (some a) len cap)) (g1:w.cell? ⟨b,1,none⟩=some (.int .i64 i)) (g2:w.cell? ⟨b,2,none⟩=some (.int .i64 h))
  (z1:w.frozen? ⟨b,1,none⟩=false) (z2:w.frozen? ⟨b,2,none⟩=false) (h0:0<=i) (h1:i < (len:Int)) (hl:len<=9223372036854775807) (hr:w.cell? (a.add i.toNat)=some (.int .u8 n)) (hne:a.block≠b) :
  Calls Tryz.prog 144 #[.pointer (some ⟨b,0,none⟩)] w fun e w'=>∃ x h':Int,e=.returned (.int .i64 x)/\0<=x/\x < 256/\-9223372036854775808<=h'/\h'<=9223372036854775807/\∃ k,w'=((w.setCell ⟨b,2,none⟩ (.int .i64 h')).drewN k).setCell ⟨b,1,none⟩ (.int .i64 (i+1)):=by
 go_enter Tryz.func144,Tryz.ntmps144
 go_wp2
 have hwr:=RowKit.wrap64_wf (RowKit.wrap64 (h*6364136223846793005)+1442695040888963407)
 generalize RowKit.wrap64 (RowKit.wrap64 (h*6364136223846793005)+1442695040888963407)=h' at *
 have e0:(w.setCell ⟨b,2,none⟩ (.int .i64 h')).cell? ⟨b,0,none⟩=some (.slice (some a) len cap):=by rw [World.cell?_setCell_other _ _ _ _ (by simp)];exact g0
 have e1:(w.setCell ⟨b,2,none⟩ (.int .i64 h')).cell? ⟨b,1,none⟩=some (.int .i64 i):=by rw [World.cell?_setCell_other _ _ _ _ (by simp)];exact g1
 have e2:(w.setCell ⟨b,2,none⟩ (.int .i64 h')).cell? ⟨b,2,none⟩=some (.int .i64 h'):=World.cell?_setCell_same w ⟨b,2,none⟩ _ g2
 have e3:(w.setCell ⟨b,2,none⟩ (.int .i64 h')).cell? (a.add i.toNat)=some (.int .u8 n):=by
  rw [World.cell?_setCell_other _ _ _ _ (fun e=>hne ((Go.Aw.add_block a i.toNat).symm.trans (congrArg Addr.block e).symm))];exact hr
 have e4:(w.setCell ⟨b,2,none⟩ (.int .i64 h')).frozen? ⟨b,1,none⟩=false:=by simpa using z1
 generalize hw2:w.setCell ⟨b,2,none⟩ (.int .i64 h')=w2 at *
 go_quiet (fail)
 go_wp2
 generalize bits BinOp.and IntKind.i64 (bits BinOp.xor IntKind.i64 (h' / 8589934592) (h' / 35184372088832)) 255=y
 go_quiet (fail)
 go_wp2
 go_quiet (fail)
 go_wp2
 go_ret
 obtain⟨k1,k2⟩:=and255 (RowKit.wrap64 (y+RowKit.wrap64 n))
 have hwr:-9223372036854775808<=h'/\h'<=9223372036854775807:=by
  have e:IntKind.i64.min = -9223372036854775808:=by decide
  simpa [Lit.wf,e] using hwr
 exact⟨_,h',rfl,k1,k2,hwr.1,hwr.2,_,(by rw [hw2]:World.setCell (w2.drewN _) _ _=_)⟩
set_option maxRecDepth 100000 in
theorem w_byte2 (b:Nat) (base:Option Addr) (len cap:Nat) (i h:Int) (w:World) (g0:w.cell? ⟨b,0,none⟩=some (.slice base len cap)) (g1:w.cell? ⟨b,1,none⟩=some (.int .i64 i)) (g2:w.cell? ⟨b,2,none⟩=some (.int .i64 h))
  (z1:w.frozen? ⟨b,1,none⟩=false) (z2:w.frozen? ⟨b,2,none⟩=false) (h1:¬i < (len:Int)) :
  Calls Tryz.prog 144 #[.pointer (some ⟨b,0,none⟩)] w fun e w'=>∃ x h':Int,e=.returned (.int .i64 x)/\0<=x/\x < 256/\-9223372036854775808<=h'/\h'<=9223372036854775807/\∃ k,w'=(w.setCell ⟨b,2,none⟩ (.int .i64 h')).drewN k:=by
 go_enter Tryz.func144,Tryz.ntmps144
 go_wp2
 have hwr:=RowKit.wrap64_wf (RowKit.wrap64 (h*6364136223846793005)+1442695040888963407)
 generalize RowKit.wrap64 (RowKit.wrap64 (h*6364136223846793005)+1442695040888963407)=h' at *
 have e0:(w.setCell ⟨b,2,none⟩ (.int .i64 h')).cell? ⟨b,0,none⟩=some (.slice base len cap):=by rw [World.cell?_setCell_other _ _ _ _ (by simp)];exact g0
 have e1:(w.setCell ⟨b,2,none⟩ (.int .i64 h')).cell? ⟨b,1,none⟩=some (.int .i64 i):=by rw [World.cell?_setCell_other _ _ _ _ (by simp)];exact g1
 have e2:(w.setCell ⟨b,2,none⟩ (.int .i64 h')).cell? ⟨b,2,none⟩=some (.int .i64 h'):=World.cell?_setCell_same w ⟨b,2,none⟩ _ g2
 generalize hw2:w.setCell ⟨b,2,none⟩ (.int .i64 h')=w2 at *
 have hd:decide (i < (len:Int))=false:=by simp;omega
 go_quiet (fail)
 go_wp2
 obtain⟨k1,k2⟩:=and255 (bits BinOp.xor IntKind.i64 (h' / 8589934592) (h' / 35184372088832))
 generalize bits BinOp.and IntKind.i64 (bits BinOp.xor IntKind.i64 (h' / 8589934592) (h' / 35184372088832)) 255=y at *
 go_quiet (fail)
 go_wp2
 go_ret
 have hwr:-9223372036854775808<=h'/\h'<=9223372036854775807:=by
  have e:IntKind.i64.min = -9223372036854775808:=by decide
  simpa [Lit.wf,e] using hwr
 exact⟨y,h',rfl,k1,k2,hwr.1,hwr.2,_,(drew2 _ _ _).trans (by rw [hw2])⟩
def CurTo (b:Nat) (s:Value) (len:Nat) (t:TypeId) (w:World) (e:Ending) (w':World):Prop:=
 (∃ x:Int,e=.returned (.int .i64 x)/\0<=x/\x < 256)/\(∃ i h:Int,w'.heap[b]? = some (.cells #[s,.int .i64 i,.int .i64 h] t (0,0))/\0<=i/\i<=len/\-9223372036854775808<=h/\h<=9223372036854775807) /\
  Go.Aw.Ext (fun c=>c=b) w w'
theorem heap_setCell (w:World) (b k:Nat) (v:Value) (c:Array Value) (t:TypeId) (f:Nat×Nat) (h:w.heap[b]? = some (.cells c t f)):(w.setCell ⟨b,k,none⟩ v).heap[b]? = some (.cells (c.setIfInBounds k v) t f):=by
 simp [World.setCell,Array.getElem?_modify,h]
theorem heap_setCell_ne (w:World) (b k c:Nat) (v:Value) (h:c≠b):(w.setCell ⟨b,k,none⟩ v).heap[c]? = w.heap[c]?:=by
 simp [World.setCell,Array.getElem?_modify,Ne.symm h]
theorem ext_setCell (w:World) (b k:Nat) (v:Value):Go.Aw.Ext (fun c=>c=b) w (w.setCell ⟨b,k,none⟩ v):=
 ⟨rfl,rfl,rfl,by simp [World.setCell],Nat.le_refl _,fun c _ hc=>heap_setCell_ne w b k c v hc⟩
theorem ext_drewN (w:World) (n:Nat):Go.Aw.Ext (fun _=>False) w (w.drewN n):=⟨rfl,rfl,rfl,Nat.le_refl _,Nat.le_add_right _ _,fun _ _ _=>rfl⟩
theorem byte_to (b:Nat) (t:TypeId) (base:Option Addr) (len cap:Nat) (i h:Int) (w:World) (hb:w.heap[b]? = some (.cells #[.slice base len cap,.int .i64 i,.int .i64 h] t (0,0))) (h0:0<=i) (h1:i<=len) (hl:len<=9223372036854775807)
  (hr:∀ k,k < len->∃ a n,base=some a/\a.block≠b/\w.cell? (a.add k)=some (.int .u8 n)) :
  Calls Tryz.prog 144 #[.pointer (some ⟨b,0,none⟩)] w (CurTo b (.slice base len cap) len t w):=by
 have g0:w.cell? ⟨b,0,none⟩=some (.slice base len cap):=by simp [World.cell?,hb]
 have g1:w.cell? ⟨b,1,none⟩=some (.int .i64 i):=by simp [World.cell?,hb]
 have g2:w.cell? ⟨b,2,none⟩=some (.int .i64 h):=by simp [World.cell?,hb]
 have z:∀ k,w.frozen? ⟨b,k,none⟩=false:=fun k=>by simp [World.frozen?,hb]
 by_cases hi:i < (len:Int)
 ·obtain⟨a,n,rfl,hne,hc⟩:=hr i.toNat om
  refine(w_byte1 b a len cap i h n w g0 g1 g2 (z 1) (z 2) h0 hi hl hc hne).mono ?_
  rintro e w' ⟨x,h',rfl,k1,k2,k3,k4,k,rfl⟩
  refine⟨⟨x,rfl,k1,k2⟩,⟨i+1,h',?_,by omega,by omega,k3,k4⟩,((ext_setCell w b 2 _).trans ((ext_drewN _ _).mono fun _ h=>h.elim)).trans (ext_setCell _ b 1 _)⟩
  have e1:=heap_setCell w b 2 (.int .i64 h') _ _ _ hb
  have e2:((w.setCell ⟨b,2,none⟩ (.int .i64 h')).drewN k).heap[b]? = _:=e1
  exact heap_setCell _ b 1 (.int .i64 (i+1)) _ _ _ e2
 ·refine(w_byte2 b base len cap i h w g0 g1 g2 (z 1) (z 2) hi).mono ?_
  rintro e w' ⟨x,h',rfl,k1,k2,k3,k4,k,rfl⟩
  refine⟨⟨x,rfl,k1,k2⟩,⟨i,h',heap_setCell w b 2 (.int .i64 h') _ _ _ hb,h0,h1,k3,k4⟩,(ext_setCell w b 2 _).trans ((ext_drewN _ _).mono fun _ h=>h.elim)⟩
open Go.RowKit
theorem and30 (n:Int):0<=bits .and .i64 n 1073741823/\bits .and .i64 n 1073741823 < 1073741824:=by
 have h255:(BitVec.ofInt 64 1073741823).toNat=2 ^ 30 - 1:=by decide
 have key:(BitVec.ofInt 64 n &&& BitVec.ofInt 64 1073741823).toNat=(n % ((2 ^ 64:Nat):Int)).toNat % 2 ^ 30:=by
  rw [BitVec.toNat_and,BitVec.toNat_ofInt,h255,Nat.and_two_pow_sub_one_eq_mod]
 have e:bits .and .i64 n 1073741823=IntKind.i64.wrap ((BitVec.ofInt 64 n &&& BitVec.ofInt 64 1073741823).toNat:Nat):=rfl
 rw [e,key,IntKind.wrap_i64]
 omega
set_option maxRecDepth 100000 in
theorem w_new (base:Option Addr) (len cap:Nat) (ns:Nat->Int) (w:World) (hl:len<=4611686018427387904) (hr:∀ k,k < len->∃ a,base=some a/\w.cell? (a.add k)=some (.int .u8 (ns k))) :
  Calls Tryz.prog 89 #[.slice base len cap] w fun e w'=>∃(h:Int) (t:TypeId),e=.returned (.pointer (some ⟨w.heap.size,0,none⟩))/\-9223372036854775808<=h/\h<=9223372036854775807/\w'=w.alloc (.cells #[.slice base len cap,.int .i64 0,.int .i64 h] t):=by
 go_enter Tryz.func89,Tryz.ntmps89
 go_wp2
 go_loop [3,4] (fun h i=>∃(k:Nat) (z:Int),k<=len/\i=.int .i64 k/\h=.int .i64 z/\-9223372036854775808<=z/\z<=9223372036854775807) (fun _ i=>len - (intOf i).toNat)
 case atStart=>exact⟨0,_,nz0 _,rfl,rfl,by omega,by omega⟩
 case round=>
  obtain⟨k,z,hk,rfl,rfl,z1,z2⟩:=hrel
  rcases Nat.lt_or_ge k len with hlt | hge
  ·obtain⟨a,rfl,hc⟩:=hr k hlt
   have hd:decide ((k:Int) < (len:Int))=true:=by simp;omega
   obtain⟨y1,y2⟩:=and30 (wrap64 (wrap64 (wrap64 (z*131)+wrap64 (ns k))+7))
   go_wp2
   ·exact⟨⟨k+1,_,by omega,by simp,rfl,by omega,by omega⟩,by simp [intOf];omega⟩
   ·go_ret
    exact⟨rfl,z,z1,z2,_,rfl⟩
  ·have:k=len:=by omega
   subst this
   have hd:decide ((k:Int) < (k:Int))=false:=by simp
   go_wp2
   go_ret
   exact⟨rfl,z,z1,z2,_,rfl⟩
theorem take_snoc {α:Type} (d:α) (p:List α) (i:Nat) (h:i < p.length):p.take i ++ [p.getD i d]=p.take (i+1):=by
 rw [List.take_add_one]
 simp [h]
end Go.Proofs.YtcinngodeoidnaaGreat
namespace Go.Aw
open Go
theorem Run.unmat {C:Ctx} {k:List Item} (hC:C.Ok) (id:Nat) {n:Nat} {fr:List (Nat×Bool×Sl)} {obs:List O} {g:Nat} {hs:List (Option Nat)} {rows:LL} {nn:Bool} (ho:oAt obs id=.mat hs rows g nn)
  (h:Run C k ⟨n,fr,oSet obs id (.arr (.row true) rows g nn)⟩):Run C k ⟨n,fr,obs⟩:=by
 intro a w ρ r
 have hid:id < obs.length:=by
  rcases Nat.lt_or_ge id obs.length with h | h
  ·exact h
  ·rw [oAt_eq,geN h]at ho;cases ho
 have ho':obs[id]? = some (.mat hs rows g nn):=by rw [oAt_get hid,ho]
 have hset:∀(j:Nat) (o:O),(obs.set id (.arr (.row true) rows g nn))[j]? = some o->(j=id/\o=.arr (.row true) rows g nn)\/(j≠id/\obs[j]? = some o):=fun j o hj=>by
  by_cases e:j=id
  ·subst e
   rw [List.getElem?_set_self hid]at hj
   exact .inl ⟨rfl,(Option.some.inj hj).symm⟩
  ·rw [List.getElem?_set_ne (Ne.symm e)]at hj
   exact .inr ⟨e,hj⟩
 have hgen:∀ j,genOf (obs.set id (.arr (.row true) rows g nn)) j=genOf obs j:=fun j=>by
  unfold genOf
  by_cases e:j=id
  ·subst e
   rw [List.getElem?_set_self hid,ho'];rfl
  ·rw [List.getElem?_set_ne (Ne.symm e)]
 have hOwn:∀ b',Own (obs.set id (.arr (.row true) rows g nn)) ρ b'->Own obs ρ b':=fun b'=>by
  rintro⟨j,o,hj,hb⟩
  rcases hset j o hj with⟨rfl,rfl⟩ | ⟨_,hj⟩
  ·exact⟨_,_,ho',.inl hb⟩
  ·exact⟨j,o,hj,hb⟩
 have hV:(C.V w obs ρ).le (C.V w (obs.set id (.arr (.row true) rows g nn)) ρ):=by
  refine⟨fun b o hb=>?_,fun _ hb=>hb,rfl⟩
  simp only [Ctx.V,mask]at hb ⊢
  split at hb
  ·cases hb
  ·rename_i hnn
   rw [if_neg (fun k=>hnn (hOwn b k))]
   exact hb
 have hav:∀(x:AV) (v:Value),AVRel (C.V w obs ρ) obs ρ x v->AVRel (C.V w (obs.set id (.arr (.row true) rows g nn)) ρ) (obs.set id (.arr (.row true) rows g nn)) ρ x v:=fun x v hx=>
  AVRel.carry hV (by simp) (fun i c' _ hc=>⟨c',by rw [<- hgen];exact hc,.inl ⟨rfl,rfl⟩⟩) hx
 refine h a w ρ ⟨r.defers,r.size,fun s ex x hl=>?_,?_,fun j v hj=>?_⟩
 ·rw [oSet_eq]
  obtain⟨k1,k2⟩:=r.fr s ex x hl
  refine⟨fun he=>?_,k2⟩
  have h2:=k1 he
  cases x with
  | v x=>exact hav x _ h2
  | t l=>
   obtain⟨vs,e1,e2,e3⟩:=h2
   exact⟨vs,e1,e2,fun i x v hx hv=>hav x v (e3 i x v hx hv)⟩
 ·rw [oSet_eq]
  refine⟨fun j o hj=>?_,fun i j o o' b' hi hj bi bj=>?_,fun b' hb=>r.w.own b' (hOwn b' hb),r.w.os0,r.w.tape,r.w.output,r.w.grow,r.w.drawn,r.w.kept,r.w.gl⟩
  ·rcases hset j o hj with⟨rfl,rfl⟩ | ⟨_,hj⟩
   ·have hmat:=r.w.os _ _ ho'
    obtain⟨cs,k1,k2,k3,k4,k5,k6,k7⟩:=hmat
    have hcl:cs.length=rows.length:=by have:=k1.1;omega
    have hrow:∀ i (hi:i < rows.length),RowRel (C.V w (obs.set j (.arr (.row true) rows g nn)) ρ) true rows[i] cs[i]:=by
     intro i hi
     have:=k3 i hs[i] rows[i] cs[i] (by simp) (by simp) (by simp)
     cases hh:hs[i] with
     | none=>
      rw [hh]at this
      obtain⟨h1,h2⟩:=this
      rw [h1,h2]
      exact⟨none,0,rfl,by simp,by simp,fun i hi=>by simp at hi⟩
     | some q=>
      rw [hh]at this
      obtain⟨h1,cur,hg,h2,h3,h4,h5⟩:=this
      have hq:some q∈hs:=by rw [<- hh];simp
      have hownq:fpo (ρ j) (.mat hs rows g nn) (hdB q):=.inr ⟨q,hq,rfl⟩
      have hnot:¬Own (obs.set j (.arr (.row true) rows g nn)) ρ (hdB q):=by
       rintro⟨i',o',hi',hb'⟩
       rcases hset i' o' hi' with⟨e1,rfl⟩ | ⟨hne,hi2⟩
       ·rw [e1]at hb'
        exact k5 q hq hb'
       ·exact hne (r.w.dis i' _ o' _ (hdB q) hi2 ho' hb' hownq)
      refine⟨some ⟨hdB q,0,none⟩,hdC q,h1,h2,h3,fun j hj=>⟨⟨hdB q,0,none⟩,rfl,fun _=>.inl (r.w.own _ ⟨_,_,ho',hownq⟩),?_⟩⟩
      have:(cur.toList.take rows[i].length)[j]? = (rows[i].map (Value.int .i64))[j]?:=by rw [h5]
      rw [List.getElem?_take,if_pos hj]at this
      rw [add_plain]
      simp only [Vw.cell,Ctx.V,mask,if_neg hnot,hg]
      simpa [hj] using this
    refine⟨cs,by rw [hC.same];exact k1,⟨by simp [E.size,hcl],fun i hi=>⟨cs[i],hrow i hi,fun j hj=>?_⟩⟩,k6,k7⟩
    have:j=0:=by simp [E.size]at hj;omega
    subst this
    rw [cells_oneCell (RowRel.oneCell (hrow i hi))]
    simp [E.size,hcl,hi]
   ·exact(r.w.os j o hj).kept hV (Ext.refl (fun _=>False) w) (fun _ _ k=>k)
  ·rcases hset i o hi with⟨e1,rfl⟩ | ⟨_,hi2⟩<;>rcases hset j o' hj with⟨e2,rfl⟩ | ⟨_,hj2⟩
   ·rw [e1,e2]
   ·rw [e1]at bi ⊢;exact r.w.dis _ _ _ _ b' ho' hj2 (.inl bi) bj
   ·rw [e2]at bj ⊢;exact r.w.dis _ _ _ _ b' hi2 ho' bi (.inl bj)
   ·exact r.w.dis i j o o' b' hi2 hj2 bi bj
 ·rw [oSet_eq]
  obtain⟨k1,k2⟩:=r.pin j v hj
  exact⟨by simpa using k1,fun hg=>k2 (by rw [<- hgen];exact hg)⟩
end Go.Aw
namespace Go.Proofs.YtcinngodeoidnaaGreat
open Go Go.Aw
theorem bytes_cells {V:Vw} {f:Bool} {xs:LI} {s:Value} (h:SlRel V f .byte xs s):∃ base cap,s=.slice base xs.length cap/\xs.length<=maxLen/\∀ k (hk:k < xs.length),∃ a,base=some a/\V.cell (a.add k)=some (.int .u8 xs[k]):=by
 obtain⟨base,cap,hv,h1,h2,hx⟩:=h
 refine⟨base,cap,hv,by omega,fun k hk=>?_⟩
 obtain⟨a,u,ha,_,hr,hc⟩:=hx k hk
 cases hr
 have h0:=hc 0 (by simp [E.size])
 simp [E.size,Value.cells]at h0
 exact⟨a,ha,h0⟩
theorem cell_of_V {C:Ctx} {obs:List O} {w:World} {ρ:Nat->Value} {a:Addr} {v:Value} (h:(C.V w obs ρ).cell a=some v):¬Own obs ρ a.block/\w.cell? a=some v:=by
 unfold Vw.cell at h
 cases hb:(C.V w obs ρ).H a.block with
 | none=>rw [hb]at h;cases h
 | some o=>
  obtain⟨h1,h2⟩:=H_vis hb
  refine⟨h1,?_⟩
  rw [hb]at h
  unfold World.cell?
  rw [h2]
  cases o<;>first | exact h | cases h
theorem ACall.new {C:Ctx} (hP:B.P=C.P) {obs:List O} {f:Bool} {xs:LI} (hm:xs.length<=4611686018427387904) {K:Sl->List O->Prop} (hk:∀ s,K (.v (.own obs.length 0)) (obs ++ [.cur s 0])) :
  ACall C obs 89 [.sl f .byte xs] fun x o=>Later (K x o):=by
 refine⟨fun vs w=>by rw [<- hP];exact Tryz.call89 vs w,fun w ρ vs rr hl hx=>?_⟩
 match vs,hl with
 | [s],_=>
 have hs:SlRel (C.V w obs ρ) f .byte xs s:=hx 0 _ s rfl rfl
 obtain⟨base,cap,hv,hlen,hc⟩:=bytes_cells hs
 rw [<- hP]
 subst hv
 refine(w_new base xs.length cap (fun k=>xs.getD k 0) w hm fun k hk=>?_).mono ?_
 ·obtain⟨a,ha,hc⟩:=hc k hk
  refine⟨a,ha,?_⟩
  rw [(cell_of_V hc).2]
  simp [gdE,hk]
 rintro e w' ⟨h,t,rfl,h1,h2,rfl⟩
 have hext:=Ext.alloc (fun _=>False) w (.cells #[.slice base xs.length cap,.int .i64 0,.int .i64 h] t)
 have hgr:(w.alloc (.cells #[.slice base xs.length cap,.int .i64 0,.int .i64 h] t)).heap[w.heap.size]? = some (.cells #[.slice base xs.length cap,.int .i64 0,.int .i64 h] t (0,0)):=by
  show(w.heap.push _)[_]? = _
  simp
 have hle:(C.V w obs ρ).le (C.V (w.alloc (.cells #[.slice base xs.length cap,.int .i64 0,.int .i64 h] t)) (obs ++ [.cur (.slice base xs.length cap) 0]) (fun i=>if i=obs.length then .pointer (some ⟨w.heap.size,0,none⟩)else ρ i)):=by
  refine⟨fun b o hb=>?_,fun _ hb=>hb,rfl⟩
  obtain⟨n1,n2⟩:=H_vis hb
  have hlt:b < w.heap.size:=(ageS.1 n2).1
  have hn:¬Own (obs ++ [.cur (.slice base xs.length cap) 0]) (fun i=>if i=obs.length then .pointer (some ⟨w.heap.size,0,none⟩)else ρ i) b:=by
   rintro⟨j,o',hj,hf⟩
   rw [List.getElem?_append]at hj
   split at hj
   ·rename_i hlj
    simp only [if_neg (show ¬j=obs.length by omega)]at hf
    exact n1 ⟨j,o',hj,hf⟩
   ·rename_i hlj
    have hj0:j=obs.length:=by
     rcases Nat.lt_or_ge obs.length j with k | k
     ·rw [geN (by simp;omega)]at hj;cases hj
     ·omega
    subst hj0
    simp at hj
    subst hj
    simp only [if_true]at hf
    have hf:Value.pointer (some ⟨w.heap.size,0,none⟩)=.pointer (some ⟨b,0,none⟩):=hf
    injection hf with hf
    injection hf with hf
    injection hf with hf _ _
    omega
  simp only [Ctx.V,mask,if_neg hn]
  rw [hext.block b hlt (fun k=>k)]
  exact n2
 have T:=Turn.new rr hext (.cur (.slice base xs.length cap) 0) (.pointer (some ⟨w.heap.size,0,none⟩))
  ⟨w.heap.size,t,0,h,rfl,hgr,by omega,⟨xs,(SlRel.weaken hs).mono hle,by omega⟩,h1,h2⟩
  (fun b hb=>by
   have hf:Value.pointer (some ⟨w.heap.size,0,none⟩)=.pointer (some ⟨b,0,none⟩):=hb
   injection hf with hf
   injection hf with hf
   injection hf with hf _ _
   omega)
 refine⟨_,rfl,.v (.own obs.length 0),_,_,T.step rr,?_,hk _⟩
 exact⟨by simp,fun c _=>⟨nz0 _,fun _=>by simp⟩⟩
theorem c_l1Byte (s:Value):FunO B 144 [.own 0 0] (.cur s 0) (fun rs o=>∃ x:Int,rs=[.int .i64 x]/\0<=x/\x < 256/\o=[.cur s 0]):=by
 refine⟨fun vs w=>Tryz.call144 vs w,fun w L v vs hw hl ha=>?_⟩
 match vs,hl with
 | [u],_=>
 have hu:u=v:=((ha 0 _ u rfl rfl).2 0 rfl).2 rfl
 subst hu
 obtain⟨b,t,i,h,hv,hb,hi0,⟨xs,hs,hi1⟩,h1,h2⟩:=hw.os 0 _ rfl
 obtain⟨base,cap,hsv,hlen,hc⟩:=bytes_cells hs
 subst hsv
 have hv:u=.pointer (some ⟨b,0,none⟩):=hv
 subst hv
 have hown:Own [.cur (.slice base xs.length cap) 0] (fun _=>Value.pointer (some ⟨b,0,none⟩)) b:=⟨0,_,rfl,rfl⟩
 refine(byte_to b t base xs.length cap i h w hb hi0 hi1 hlen fun k hk=>?_).mono ?_
 ·obtain⟨a,ha,hc⟩:=hc k hk
  obtain⟨n1,n2⟩:=cell_of_V hc
  exact⟨a,xs[k],ha,fun e=>n1 (by rw [add_block,e];exact hown),n2⟩
 rintro e w' ⟨⟨x,rfl,x1,x2⟩,⟨i',h',g1,g2,g3,g4,g5⟩,hext⟩
 have hOwn:∀ c,Own [.cur (.slice base xs.length cap) 0] (fun _=>Value.pointer (some ⟨b,0,none⟩)) c->c=b:=by
  rintro c ⟨j,o,hj,hf⟩
  cases j with
  | succ j=>simp at hj
  | zero=>
   simp at hj;subst hj
   have hf:Value.pointer (some ⟨b,0,none⟩)=.pointer (some ⟨c,0,none⟩):=hf
   injection hf with hf
   injection hf with hf
   injection hf with hf _ _
   exact hf.symm
 have hle:((B.lentB w L (.cur (.slice base xs.length cap) 0) (.pointer (some ⟨b,0,none⟩))).V w [.cur (.slice base xs.length cap) 0] (fun _=>.pointer (some ⟨b,0,none⟩))).le
   ((B.lentB w L (.cur (.slice base xs.length cap) 0) (.pointer (some ⟨b,0,none⟩))).V w' [.cur (.slice base xs.length cap) 0] (fun _=>.pointer (some ⟨b,0,none⟩))):=by
  refine⟨fun c o hc=>?_,fun _ hb=>hb,rfl⟩
  obtain⟨n1,n2⟩:=H_vis hc
  simp only [Ctx.V,mask,if_neg n1]
  rw [hext.block c (ageS.1 n2).1 (fun e=>n1 (e▸hown))]
  exact n2
 refine⟨[.int .i64 x],rfl,[.int .i64 x],.cur (.slice base xs.length cap) 0,[],fun _=>.pointer (some ⟨b,0,none⟩),⟨x,rfl,x1,x2,rfl⟩,rfl,fun i y u' hy hu'=>?_,?_,rfl,rfl,⟨rfl,rfl,rfl⟩⟩
 ·cases i with
  | succ i=>simp at hy
  | zero=>simp at hy hu';subst hy hu';rfl
 ·refine⟨fun id o ho=>?_,fun i j o o' c hi hj _ _=>?_,fun c hc=>hw.own c hc,hext.os.trans hw.os0,hext.tape.trans hw.tape,hext.output.trans hw.output,Nat.le_trans hw.grow hext.size,fun hd=>Nat.le_trans (hw.drawn hd) hext.drawn,fun c hc hM=>?_,hw.gl⟩
  ·cases id with
   | succ id=>simp at ho
   | zero=>
    simp at ho;subst ho
    exact⟨b,t,i',h',rfl,g1,g2,⟨xs,hs.mono hle,g3⟩,g4,g5⟩
  ·cases i with
   | succ i=>simp at hi
   | zero=>cases j with
    | zero=>rfl
    | succ j=>simp at hj
  ·rw [hext.block c (Nat.lt_of_lt_of_le hc hw.grow) (fun e=>hM (by rw [e];rfl))]
   exact hw.kept c hc hM
theorem c_l1Below (s:Value) (n:Int) (hn0:-1000<=n) (hn:n<=256):FunO B 106 [.own 0 0,.int .i64 n] (.cur s 0) (fun rs o=>∃ x:Int,rs=[.int .i64 x]/\0<=x/\(0 < n->x < n)/\o=[.cur s 0]):=by
 refine FunO.walk B_ok (fn:=Tryz.f106) (fun vs w=>Tryz.call106 vs w) Tryz.func106 rfl (by rw [Tryz.ntmps106];simp) (fun C hC hP hT hΓ hbt hfn hpin hfin=>?_);have hX:=BX;rw [<- hΓ,<- hbt.1,<- hbt.2.1,<- hbt.2.2.1,<- hbt.2.2.2.2]at hX;rw [hT]at hX;rw [Tryz.ntmps106];simp only [AW7,simprocAttr,hX]
 refine Run.R ?_
 refine Run.R ?_
 refine Run.c ?_ ?_
 ·intro h
  have h:n<=0:=by simpa using h
  refine Run.R ?_
  refine Run.rW [4] (hfin _ _ _ rfl rfl ⟨rfl,rfl⟩ ?_)
  exact⟨0,rfl,by omega,by omega,rfl⟩
 intro h
 have h:0 < n:=by
  have:¬n<=0:=by simpa using h
  omega
 refine Run.R ?_
 refine Run.c ?_ ?_
 rotate_left
 ·intro h2
  have h2:¬n<=256:=by simpa using h2
  exact absurd hn h2
 intro _
 refine Run.g fun K hK=>?_
 refine FunO.callCur hP hT (c_l1Byte s) 0 0 (by first | rfl | (simp only [AW7,simprocAttr];done) | (simp only [AW7,simprocAttr];rfl)) (by simp only [AW7,simprocAttr]) ?_
 rintro rs o' obs' ⟨x,rfl,x0,x1,ho⟩
 injection ho with ho1 ho2;subst ho1 ho2
 have hm:x.tmod n=x % n:=Int.tmod_eq_emod_of_nonneg x0
 have hm0:=Int.emod_nonneg x (by omega:n≠0)
 have hm1:=Int.emod_lt_of_pos x h
 refine wWW ?_
 refine wE ?_;clear hK K
 refine Run.rW [4] (hfin _ _ _ rfl rfl ⟨rfl,rfl⟩ ?_)
 exact⟨_,rfl,by omega,by omega,rfl⟩
theorem c_l1Once (s:Value) (n:Int) (hn0:-1000<=n) (hn:n<=256):FunO B 125 [.own 0 0,.int .i64 n] (.cur s 0) (fun rs o=>∃ x:Bool,rs=[.bool x]/\o=[.cur s 0]):=by
 refine FunO.walk B_ok (fn:=Tryz.f125) (fun vs w=>Tryz.call125 vs w) Tryz.func125 rfl (by rw [Tryz.ntmps125];simp) (fun C hC hP hT hΓ hbt hfn hpin hfin=>?_);have hX:=BX;rw [<- hΓ,<- hbt.1,<- hbt.2.1,<- hbt.2.2.1,<- hbt.2.2.2.2]at hX;rw [hT]at hX;rw [Tryz.ntmps125];simp only [AW7,simprocAttr,hX]
 refine Run.R ?_
 refine Run.g fun K hK=>?_
 refine FunO.callCur hP hT (c_l1Below s n hn0 hn) 0 0 (by first | rfl | (simp only [AW7,simprocAttr];done) | (simp only [AW7,simprocAttr];rfl)) (by simp only [AW7,simprocAttr]) ?_
 rintro rs o' obs' ⟨x,rfl,x0,x1,ho⟩
 injection ho with ho1 ho2;subst ho1 ho2
 refine wWW ?_
 refine wE ?_;clear hK K
 refine Run.rW [4] (hfin _ _ _ rfl rfl ⟨rfl,rfl⟩ ?_)
 exact⟨_,rfl,rfl⟩
theorem c_l1PickInt (s:Value) (l:LI) (h0:0 < l.length) (hl:l.length<=256):FunO B 143 [.own 0 0,.sl false .int l] (.cur s 0) (fun rs o=>∃ x:Int,rs=[.int .i64 x]/\x∈l/\o=[.cur s 0]):=by
 refine FunO.walk B_ok (fn:=Tryz.f143) (fun vs w=>Tryz.call143 vs w) Tryz.func143 rfl (by rw [Tryz.ntmps143];simp) (fun C hC hP hT hΓ hbt hfn hpin hfin=>?_);have hX:=BX;rw [<- hΓ,<- hbt.1,<- hbt.2.1,<- hbt.2.2.1,<- hbt.2.2.2.2]at hX;rw [hT]at hX;rw [Tryz.ntmps143];simp only [AW7,simprocAttr,hX]
 refine Run.R ?_
 refine Run.g fun K hK=>?_
 refine FunO.callCur hP hT (c_l1Below s l.length om om) 0 0 (by first | rfl | (simp only [AW7,simprocAttr];done) | (simp only [AW7,simprocAttr];rfl)) (by simp only [AW7,simprocAttr]) ?_
 rintro rs o' obs' ⟨x,rfl,x0,x1,ho⟩
 injection ho with ho1 ho2;subst ho1 ho2
 have x1:=x1 om
 refine wWW ?_
 refine wE ?_;clear hK K
 refine Run.rW [4] (hfin _ _ _ rfl rfl ⟨rfl,rfl⟩ ?_)
 refine⟨_,rfl,?_,rfl⟩
 rw [gdE,geE om]
 simp
end Go.Proofs.YtcinngodeoidnaaGreat
namespace Go.Aw
open Go
theorem Run.matfact {C:Ctx} {k:List Item} (id:Nat) {n:Nat} {fr:List (Nat×Bool×Sl)} {obs:List O} {g:Nat} {hs:List (Option Nat)} {rows:LL} {nn:Bool} (ho:oAt obs id=.mat hs rows g nn)
  (h:hs.length=rows.length->(∀(i j q:Nat),hs[i]? = some (some q)->hs[j]? = some (some q)->i=j)->(∀ i:Nat,hs[i]? = some none->rows.getD i []=[])->Run C k ⟨n,fr,obs⟩):Run C k ⟨n,fr,obs⟩:=by
 refine Run.fact (p:=hs.length=rows.length/\(∀(i j q:Nat),hs[i]? = some (some q)->hs[j]? = some (some q)->i=j)/\(∀ i:Nat,hs[i]? = some none->rows.getD i []=[])) (fun a w ρ r=>?_) fun hh=>h hh.1 hh.2.1 hh.2.2
 have hid:id < obs.length:=by
  rcases Nat.lt_or_ge id obs.length with h | h
  ·exact h
  ·rw [oAt_eq,geN h]at ho;cases ho
 have ho':obs[id]? = some (.mat hs rows g nn):=by rw [oAt_get hid,ho]
 obtain⟨cs,k1,k2,k3,k4,k5,k6,k7⟩:=r.w.os id _ ho'
 refine⟨k2,fun i j q h1 h2=>k4 i j q q h1 h2 rfl,fun i hi=>?_⟩
 have hcl:cs.length=rows.length:=by have:=k1.1;omega
 have hlt:i < hs.length:=(geS.1 hi).1
 have:=k3 i none rows[i] cs[i] hi (by simp) (by simp)
 rw [gdE,geE om]
 exact this.2
theorem mat_head {hs:List (Option Nat)} {rows:LL} (hl:hs.length=rows.length) (h1:∀(i j q:Nat),hs[i]? = some (some q)->hs[j]? = some (some q)->i=j) (h2:∀ i:Nat,hs[i]? = some none->rows.getD i []=[])
  {i:Nat} (hi:i < rows.length) (hr:0 < (rows.getD i []).length):∃ q,hs.getD i none=some q/\some q∈hs/\hs.idxOf (some q)=i:=by
 have hi':i < hs.length:=by omega
 have e:hs[i]? = some hs[i]:=geE hi'
 cases hq:hs[i] with
 | none=>
  rw [hq]at e
  rw [h2 i e]at hr
  simp at hr
 | some q=>
  rw [hq]at e
  have hm:some q∈hs:=List.mem_of_getElem? e
  refine⟨q,by rw [gdE,e];rfl,hm,?_⟩
  have hlt:=List.idxOf_lt_length_iff.2 hm
  have e2:hs[hs.idxOf (some q)]? = some (some q):=by rw [geE hlt];simp
  exact h1 _ _ q e2 e
end Go.Aw
namespace Go.Proofs.YtcinngodeoidnaaGreat
open Go Go.Aw
def cmpN (p q:LI):Nat->Nat->Int
 | 0,_=>0
 | n+1,i=>if p.getD i 0 < q.getD i 0 then -1 else if p.getD i 0 > q.getD i 0 then 1 else cmpN p q n (i+1)
def cmpW (p q:LI):Int:=if p.length < q.length then -1 else if p.length > q.length then 1 else cmpN p q p.length 0
theorem cmpN_zero (p q:LI) (hl:p.length=q.length):∀ n i,i+n=p.length->p.take i=q.take i->(cmpN p q n i=0↔p=q)
 | 0,i,hi,ht=>by
  have:p=q:=by
   have h1:p.take i=p:=List.take_of_length_le om
   have h2:q.take i=q:=List.take_of_length_le om
   rw [<- h1,<- h2,ht]
  simp [cmpN,this]
 | n+1,i,hi,ht=>by
  simp only [cmpN]
  split
  ·rename_i h
   constructor
   ·intro k;cases k
   ·intro k;rw [k]at h;omega
  ·split
   ·rename_i h
    constructor
    ·intro k;cases k
    ·intro k;rw [k]at h;omega
   ·rename_i h1 h2
    have he:p.getD i 0=q.getD i 0:=by omega
    exact cmpN_zero p q hl n (i+1) om (by rw [<- take_snoc 0 p i om,<- take_snoc 0 q i om,ht,he])
theorem cmpW_zero (p q:LI):cmpW p q=0↔p=q:=by
 unfold cmpW
 split
 ·rename_i h
  constructor
  ·intro k;cases k
  ·intro k;rw [k]at h;omega
 ·split
  ·rename_i h
   constructor
   ·intro k;cases k
   ·intro k;rw [k]at h;omega
  ·exact cmpN_zero p q om p.length 0 om (by simp)
theorem c_spec_CompareWords (p q:LI) (hp:p.length<=4503599627370496):FunA B 130 [.sl false .int p,.sl false .int q] (fun rs o=>rs=[.int .i64 (cmpW p q)]/\o=[]):=by
 refine wk Tryz.call130 Tryz.func130 rfl Tryz.ntmps130 fun C hC hP hT hfn hpin hfin hX=>wW ?_
 refine Run.R ?_
 refine Run.R ?_
 refine Run.c ?_ ?_
 ·intro hc
  refine Run.R ?_
  refine Run.c ?_ ?_
  ·intro hl
   refine Run.R ?_
   refine Run.r [4] ?_
   have hl:p.length < q.length:=by simpa using hl
   simp [cmpW,hl]
  ·intro hl
   refine Run.R ?_
   refine Run.r [4] ?_
   have hl:¬p.length < q.length:=by simpa using hl
   have hc:¬(p.length:Int)=q.length:=by simpa using hc
   have:q.length < p.length:=by omega
   simp [cmpW,hl,this]
 intro hc
 have hl:p.length=q.length:=by simp at hc;omega
 refine Run.R ?_
 refine Run.loopI (X:=Nat) (fun i=>⟨40,[(0,true,.v (.sl false .int p)),(1,true,.v (.sl false .int q)),(5,true,.v (.int .i64 i)),(4,true,.v (.int .i64 0))],[]⟩) (fun i=>i<=p.length/\cmpN p q p.length 0=cmpN p q (p.length - i) i) (fun i=>p.length - i) 0 (by simp) ?_ ?_
 ·exact Le.sub (by simp only [AW7,simprocAttr]) (by simp only [AW7,simprocAttr];try simp)
 rintro i ⟨hi,ht⟩ ih
 have hw:cmpW p q=cmpN p q (p.length - i) i:=by simp [cmpW,<- hl,ht]
 refine Run.R ?_
 refine Run.c ?_ ?_
 ·intro hc2
  have hc2:i < p.length:=by simpa using hc2
  obtain⟨m,hm⟩:∃ m,p.length - i=m+1:=⟨p.length - i - 1,by omega⟩
  refine Run.nq ?_;refine Run.regionD hC true [0,1,2,3,4,5,6,7,8] (by kernel_rfl) (fun K hK=>?_);simp only [AW7,simprocAttr,hX];(repeat(with_reducible refine And.intro ?_ ?_);exact vc0);refine wE ?_;clear hK K
  refine Run.c ?_ ?_
  ·intro hlt
   have hlt:p.getD i 0 < q.getD i 0:=by simpa using hlt
   refine Run.R ?_
   refine Run.r [4] ?_
   rw [hw,hm]
   simp only [cmpN]
   rw [if_pos hlt]
   simp
  ·intro hlt
   have hlt:¬p.getD i 0 < q.getD i 0:=by simpa using hlt
   refine Run.nq ?_;refine Run.regionD hC true [0,1,2,3,4,5,6,7,8] (by kernel_rfl) (fun K hK=>?_);simp only [AW7,simprocAttr,hX];(repeat(with_reducible refine And.intro ?_ ?_);exact vc0);refine wE ?_;clear hK K
   refine Run.c ?_ ?_
   ·intro hgt
    have hgt:q.getD i 0 < p.getD i 0:=by simpa using hgt
    refine Run.R ?_
    refine Run.r [4] ?_
    rw [hw,hm]
    simp only [cmpN]
    rw [if_neg hlt,if_pos hgt]
    simp
   ·intro hgt
    have hgt:¬q.getD i 0 < p.getD i 0:=by simpa using hgt
    refine Run.RW ?_
    refine Run.le ?_ (ih (i+1) ⟨hc2,?_⟩ om)
    ·exact Le.sub (by simp only [AW7,simprocAttr]) (by simp only [AW7,simprocAttr,Option.some.injEq,Prod.mk.injEq,Sl.v.injEq,AV.int.injEq,AV.own.injEq,AV.bool.injEq];try(repeat' apply And.intro);all_goals omega)
    ·rw [ht,hm]
     simp only [cmpN]
     rw [if_neg hlt,if_neg hgt,show p.length - (i+1)=m from by omega]
 ·intro hc2
  have hc2:i=p.length:=by simp at hc2;omega
  refine Run.x ?_
  refine Run.R ?_
  refine Run.r [4] ?_
  rw [hw,hc2,Nat.sub_self]
  simp [cmpN]
theorem c_spec_EqualWords (p q:LI) (hp:p.length<=4503599627370496):FunA B 77 [.sl false .int p,.sl false .int q] (fun rs o=>rs=[.bool (p == q)]/\o=[]):=by
 refine wk Tryz.call77 Tryz.func77 rfl Tryz.ntmps77 fun C hC hP hT hfn hpin hfin hX=>wW ?_
 refine Run.R ?_
 refine Run.g fun K hK=>?_
 refine FunA.e hP hT (c_spec_CompareWords p q hp) ?_
 refine wE ?_;clear hK K
 refine Run.r [4] ?_
 have:=cmpW_zero p q
 refine⟨?_,rfl⟩
 rw [show(cmpW p q == 0)=(p == q)from by rw [Bool.eq_iff_iff,beq_iff_eq,beq_iff_eq];exact this]
theorem world_grow {w w':World} (h1:w'.os=w.os) (h2:w'.tape=w.tape) (h3:w'.output=w.output) (h4:w.drawn<=w'.drawn) (h5:w.heap.size<=w'.heap.size) (h6:∀ b,b < w.heap.size->w'.heap[b]? = w.heap[b]?) :
  w'=Go.Sort.grow (w.drewN (w'.drawn - w.drawn)) (w'.heap.extract w.heap.size w'.heap.size):=by
 have hh:w'.heap=w.heap ++ w'.heap.extract w.heap.size w'.heap.size:=by
  apply Array.ext_getElem?
  intro i
  rw [Array.getElem?_append]
  split
  ·rename_i hi;exact h6 i hi
  ·rename_i hi
   rw [Array.getElem?_extract]
   split
   ·congr 1;omega
   ·rename_i h;rw [Array.getElem?_eq_none];omega
 have hd:w.drawn+(w'.drawn - w.drawn)=w'.drawn:=by omega
 unfold Go.Sort.grow World.drewN
 obtain⟨H',t',d',o',u'⟩:=w'
 simp only at h1 h2 h3 hh hd ⊢
 subst h1 h2 h3
 rw [<- hh,hd]
theorem sw_heap {α:Type} [Inhabited α] (enc:α->Value) (w:World) (blk off m:Nat) (d:Array α) (os:Array Obj) (b:Nat) (hb:b < w.heap.size) :
  (sortWorld enc w blk off m d os).heap[b]? = if b=blk then(w.heap[b]?).map (Go.Sort.onCells (Go.Sort.putCells enc off d))else w.heap[b]?:=by
 show((w.heap.modify blk (Go.Sort.onCells (Go.Sort.putCells enc off d))) ++ os)[b]? = _
 rw [Array.getElem?_append,if_pos (by simpa using hb),Array.getElem?_modify]
 by_cases h:b=blk
 ·rw [if_pos h,if_pos h.symm]
 ·rw [if_neg h,if_neg (Ne.symm h)]
theorem sw_size {α:Type} [Inhabited α] (enc:α->Value) (w:World) (blk off m:Nat) (d:Array α) (os:Array Obj):w.heap.size<=(sortWorld enc w blk off m d os).heap.size:=by
 show _<=((w.heap.modify blk (Go.Sort.onCells (Go.Sort.putCells enc off d))) ++ os).size
 simp
theorem cmpN_lt_trans (p q r:LI):∀ n i,cmpN p q n i < 0->cmpN q r n i < 0->cmpN p r n i < 0
 | 0,i,h,_=>by simp [cmpN]at h
 | n+1,i,h1,h2=>by
  have ih:=cmpN_lt_trans p q r n (i+1)
  simp only [cmpN]at h1 h2 ⊢
  split at h1<;>split at h2<;>(try split at h1)<;>(try split at h2)<;>(try split)<;>(try split)<;>first | omega | (exact ih h1 h2) | (exfalso;omega)
theorem cmpN_ge_trans (p q r:LI):∀ n i,0<=cmpN p q n i->0<=cmpN q r n i->0<=cmpN p r n i
 | 0,i,_,_=>by simp [cmpN]
 | n+1,i,h1,h2=>by
  have ih:=cmpN_ge_trans p q r n (i+1)
  simp only [cmpN]at h1 h2 ⊢
  split at h1<;>split at h2<;>(try split at h1)<;>(try split at h2)<;>(try split)<;>(try split)<;>first | omega | (exact ih h1 h2) | (exfalso;omega)
theorem cmpN_self (p:LI):∀ n i,cmpN p p n i=0
 | 0,i=>rfl
 | n+1,i=>by simp only [cmpN];rw [if_neg om,if_neg om];exact cmpN_self p n (i+1)
theorem cmpW_self (p:LI):cmpW p p=0:=by unfold cmpW;rw [if_neg om,if_neg om];exact cmpN_self p _ 0
theorem cmpW_lt_trans {p q r:LI} (h1:cmpW p q < 0) (h2:cmpW q r < 0):cmpW p r < 0:=by
 unfold cmpW at *
 have ih:=cmpN_lt_trans p q r p.length 0
 split at h1
 ·split at h2
  ·rw [if_pos om];omega
  ·split at h2
   ·omega
   ·rw [if_pos om];omega
 ·split at h1
  ·omega
  ·have e:p.length=q.length:=by omega
   split at h2
   ·rw [if_pos om];omega
   ·split at h2
    ·omega
    ·rw [if_neg om,if_neg om];rw [<- e]at h2;exact ih h1 h2
theorem cmpW_ge_trans {p q r:LI} (h1:0<=cmpW p q) (h2:0<=cmpW q r):0<=cmpW p r:=by
 unfold cmpW at *
 have ih:=cmpN_ge_trans p q r p.length 0
 split at h1
 ·omega
 ·split at h1
  ·split at h2
   ·omega
   ·split at h2
    ·rw [if_neg om,if_pos om];omega
    ·rw [if_neg om,if_pos om];omega
  ·have e:p.length=q.length:=by omega
   split at h2
   ·omega
   ·split at h2
    ·rw [if_neg om,if_pos om];omega
    ·rw [if_neg om,if_neg om];rw [<- e]at h2;exact ih h1 h2
def cmpI (a b:Int):Int:=if a < b then -1 else if a > b then 1 else 0
theorem c_isNaN (a:Int):FunA B 172 [.int .i64 a] (fun rs o=>rs=[.bool false]/\o=[]):=by
 refine wk Tryz.call172 Tryz.func172 rfl Tryz.ntmps172 fun C hC hP hT hfn hpin hfin hX=>wW ?_
 refine Run.R ?_
 refine Run.R ?_
 refine Run.r [2] ?_
 exact⟨by simp,rfl⟩
theorem c_cmpCompare (a b:Int):FunA B 137 [.int .i64 a,.int .i64 b] (fun rs o=>rs=[.int .i64 (cmpI a b)]/\o=[]):=by
 refine wk Tryz.call137 Tryz.func137 rfl Tryz.ntmps137 fun C hC hP hT hfn hpin hfin hX=>wW ?_
 refine Run.R ?_
 refine Run.g fun K hK=>?_
 refine FunA.e hP hT (c_isNaN a) ?_
 refine wE ?_;clear hK K
 refine Run.g fun K hK=>?_
 refine FunA.e hP hT (c_isNaN b) ?_
 refine wE ?_;clear hK K
 refine Run.R ?_
 refine Run.c ?_ ?_
 ·intro h;cases h
 intro _
 refine Run.R ?_
 refine Run.c ?_ ?_
 ·intro h;cases h
 intro _
 refine Run.R ?_
 refine Run.c ?_ ?_
 ·intro h
  rw [dtE]at h
  refine Run.R ?_
  refine Run.r [4] ?_
  unfold cmpI;rw [if_pos h];exact⟨rfl,rfl⟩
 intro h1
 rw [dfE]at h1
 refine Run.R ?_
 refine Run.c ?_ ?_
 ·intro h
  rw [dtE]at h
  refine Run.R ?_
  refine Run.r [4] ?_
  unfold cmpI;rw [if_neg h1,if_pos h];exact⟨rfl,rfl⟩
 intro h2
 rw [dfE]at h2
 refine Run.R ?_
 refine Run.r [4] ?_
 unfold cmpI;rw [if_neg h1,if_neg h2];exact⟨rfl,rfl⟩
theorem c_slicesCompare (p q:LI) (hp:p.length<=1048576):FunA B 138 [.sl false .int p,.sl false .int q] (fun rs o=>(∃ v,rs=[.int .i64 v]/\(p.length=q.length->v=cmpN p q p.length 0))/\o=[]):=by
 refine wk Tryz.call138 Tryz.func138 rfl Tryz.ntmps138 fun C hC hP hT hfn hpin hfin hX=>wW ?_
 refine Run.R ?_
 refine Run.R ?_
 refine Run.loopI (X:=Nat) (fun i=>⟨36,[(0,true,.v (.sl false .int p)),(1,true,.v (.sl false .int q)),(9,true,.v (.sl false .int p)),(10,true,.v (.int .i64 (p.length))),(11,true,.v (.int .i64 i))],[]⟩) (fun i=>i<=p.length/\cmpN p q (p.length - i) i=cmpN p q p.length 0) (fun i=>p.length - i) (0) (⟨by omega,rfl⟩) ?_ ?_
 ·exact Le.s
 rintro i ⟨hi,he⟩ ih
 try simp only []
 refine Run.R ?_
 refine Run.c ?_ ?_
 rotate_left
 ·intro h
  rw [dfE]at h
  refine Run.x ?_
  refine Run.R ?_
  rw [show p.length - i=0 by omega]at he
  refine Run.c ?_ ?_
  ·intro h2
   rw [dtE]at h2
   refine Run.R ?_
   refine Run.r [4] ?_
   exact⟨⟨_,rfl,fun e=>by omega⟩,rfl⟩
  intro h2
  refine Run.R ?_
  refine Run.r [4] ?_
  exact⟨⟨_,rfl,fun e=>he⟩,rfl⟩
 intro h
 rw [dtE]at h
 refine Run.R ?_
 refine Run.R ?_
 refine Run.c ?_ ?_
 ·intro h2
  rw [dtE]at h2
  refine Run.R ?_
  refine Run.r [4] ?_
  exact⟨⟨_,rfl,fun e=>by omega⟩,rfl⟩
 intro h2
 rw [dfE]at h2
 have hs:p.length - i=(p.length - (i+1))+1:=by omega
 rw [hs]at he
 simp only [cmpN]at he
 refine Run.R ?_
 refine Run.g fun K hK=>?_
 refine FunA.e hP hT (c_cmpCompare (p.getD i 0) (q.getD i 0)) ?_
 refine wE ?_;clear hK K
 refine Run.R ?_
 refine Run.c ?_ ?_
 ·intro h3
  have h3:cmpI (p.getD i 0) (q.getD i 0)≠0:=by simpa using h3
  have e2:cmpI (p.getD i 0) (q.getD i 0)=cmpN p q p.length 0:=by
   rw [<- he];unfold cmpI at *
   by_cases k1:p.getD i 0 < q.getD i 0
   ·rw [if_pos k1,if_pos k1]
   ·by_cases k2:p.getD i 0 > q.getD i 0
    ·rw [if_neg k1,if_pos k2,if_neg k1,if_pos k2]
    ·rw [if_neg k1,if_neg k2]at h3;omega
  refine Run.R ?_
  refine Run.r [4] ?_
  exact⟨⟨_,rfl,fun _=>e2⟩,rfl⟩
 intro h3
 have h3:cmpI (p.getD i 0) (q.getD i 0)=0:=by simpa using h3
 have e3:cmpN p q (p.length - (i+1)) (i+1)=cmpN p q p.length 0:=by
  rw [<- he];unfold cmpI at h3
  split at h3
  ·omega
  ·split at h3
   ·omega
   ·rename_i k1 k2;rw [if_neg k1,if_neg k2]
 refine Run.RW ?_
 exact Run.j (ih (i+1) (⟨by omega,e3⟩) mz)
def orL:List Int->Int
 | []=>0
 | x :: l=>if x=0 then orL l else x
theorem orL_drop (xs:LI) {i:Nat} (h:i < xs.length):orL (xs.drop i)=if xs.getD i 0=0 then orL (xs.drop (i+1))else xs.getD i 0:=by
 rw [List.drop_eq_getElem_cons h,getD_eq h];rfl
theorem c_cmpOr (xs:LI) (hl:xs.length<=1048576):FunA B 136 [.sl false .int xs] (fun rs o=>rs=[.int .i64 (orL xs)]/\o=[]):=by
 refine wk Tryz.call136 Tryz.func136 rfl Tryz.ntmps136 fun C hC hP hT hfn hpin hfin hX=>wW ?_
 refine Run.R ?_
 refine Run.R ?_
 refine Run.R ?_
 refine Run.loopI (X:=Nat) (fun i=>⟨18,[(0,true,.v (.sl false .int xs)),(3,true,.v (.int .i64 0)),(6,true,.v (.sl false .int xs)),(7,true,.v (.int .i64 (xs.length))),(8,true,.v (.int .i64 i))],[]⟩) (fun i=>i<=xs.length/\orL (xs.drop i)=orL xs) (fun i=>xs.length - i) (0) (⟨by omega,rfl⟩) ?_ ?_
 ·exact Le.s
 rintro i ⟨hi,he⟩ ih
 try simp only []
 refine Run.R ?_
 refine Run.c ?_ ?_
 rotate_left
 ·intro h
  rw [dfE]at h
  refine Run.x ?_
  refine Run.R ?_
  refine Run.r [2] ?_
  rw [List.drop_eq_nil_of_le om]at he
  exact⟨by rw [<- he];rfl,rfl⟩
 intro h
 rw [dtE]at h
 rw [orL_drop xs om]at he
 refine Run.R ?_
 refine Run.R ?_
 refine Run.c ?_ ?_
 ·intro h2
  have h2:xs.getD i 0≠0:=by simpa using h2
  rw [if_neg h2]at he
  refine Run.R ?_
  refine Run.r [2] ?_
  exact⟨by rw [he],rfl⟩
 intro h2
 have h2:xs.getD i 0=0:=by simpa using h2
 rw [if_pos h2]at he
 refine Run.RW ?_
 exact Run.j (ih (i+1) (⟨by omega,he⟩) mz)
def putS (w:LI):Bool->List (List Int)->List (List Int)
 | b,[]=>if b then []else [w]
 | b,x :: l=>if cmpW w x < 0/\b=false then w :: x :: putS w true l else x :: putS w (b || cmpW w x == 0) l
def rw2 (ys:List (Nat×List Int)):List (List Int):=ys.map (·.2)
def lb1 (ys:List (Nat×List Int)):List Nat:=ys.map (·.1)
theorem rw2_app (a b:List (Nat×List Int)):rw2 (a ++ b)=rw2 a ++ rw2 b:=by simp [rw2]
theorem lb1_app (a b:List (Nat×List Int)):lb1 (a ++ b)=lb1 a ++ lb1 b:=by simp [lb1]
theorem drop_cons' (ys:List (Nat×List Int)) {i:Nat} (h:i < ys.length):ys.drop i=ys.getD i (0,[]) :: ys.drop (i+1):=by
 rw [List.drop_eq_getElem_cons h,getD_eq h]
theorem lb_step {zs ys:List (Nat×List Int)} {i:Nat} (h:i < ys.length) (hn:(lb1 zs ++ lb1 (ys.drop i)).Nodup):(lb1 (zs ++ [((ys.getD i (0,[])).1,(ys.getD i (0,[])).2)]) ++ lb1 (ys.drop (i+1))).Nodup:=by
 rw [drop_cons' ys h]at hn
 have e:lb1 (ys.getD i (0,[]) :: ys.drop (i+1))=[(ys.getD i (0,[])).1] ++ lb1 (ys.drop (i+1)):=rfl
 rw [e,<- List.append_assoc]at hn
 rw [lb1_app]
 exact hn
theorem lb_ins {zs ys:List (Nat×List Int)} {i q:Nat} {w:LI} (hn:(lb1 zs ++ lb1 (ys.drop i)).Nodup) (h1:∀ p∈zs,p.1≠q) (h2:∀ p∈ys,p.1≠q):(lb1 (zs ++ [(q,w)]) ++ lb1 (ys.drop i)).Nodup:=by
 rw [lb1_app,List.append_assoc]
 rw [List.nodup_append]at hn ⊢
 obtain⟨n1,n2,n3⟩:=hn
 refine⟨n1,?_,fun a ha b hb=>?_⟩
 ·show(q :: lb1 (ys.drop i)).Nodup
  rw [List.nodup_cons]
  refine⟨fun hm=>?_,n2⟩
  obtain⟨p,hp,e⟩:=List.mem_map.1 hm
  exact h2 p (List.mem_of_mem_drop hp) e
 ·rcases List.mem_append.1 hb with hb | hb
  ·simp [lb1]at hb
   obtain⟨p,hp,rfl⟩:=List.mem_map.1 ha
   rw [hb];exact h1 p hp
  ·exact n3 a ha b hb
end Go.Proofs.YtcinngodeoidnaaGreat
