/- The walk's equations, gathered under one name: 'simp only [AX]' carries an abstract state through a region. -/
import Derived.Test.YtcinngodeoidnaaGreatAw4
set_option linter.unusedVariables false
set_option linter.unusedSimpArgs false
namespace Go.Aw
open Go
def oAt:List O->Nat->O
 | [],_=>.dead
 | o :: r,k=>bif k == 0 then o else oAt r (k - 1)
def oSet:List O->Nat->O->List O
 | [],_,_=>[]
 | o :: r,k,x=>bif k == 0 then x :: r else o :: oSet r (k - 1) x
theorem oAt_eq:∀(l:List O) (k:Nat),oAt l k=(l[k]?).getD .dead
 | [],k=>by simp [oAt]
 | o :: l,k=>by
  cases k with
  | zero=>simp [oAt]
  | succ k=>simp [oAt,oAt_eq l k]
theorem oSet_eq:∀(l:List O) (k:Nat) (x:O),oSet l k x=l.set k x
 | [],k,x=>by simp [oSet]
 | o :: l,k,x=>by
  cases k with
  | zero=>simp [oSet]
  | succ k=>simp [oSet,oSet_eq l k x]
def hasL (σ:St):List Operand->Prop
 | []=>True
 | x :: l=>σ.has x/\hasL σ l
theorem hasL_eq (σ:St):∀ l:List Operand,hasL σ l=∀ x∈l,σ.has x
 | []=>by simp [hasL]
 | x :: l=>by simp [hasL,hasL_eq σ l]
def hasO (σ:St):Option Operand->Prop
 | none=>True
 | some x=>σ.has x
theorem hasO_eq (σ:St) (x:Option Operand):hasO σ x=∀ y,x=some y->σ.has y:=by cases x<;>simp [hasO]
def evL (σ:St):List Operand->List AV
 | []=>[]
 | x :: l=>σ.ev x :: evL σ l
theorem evL_eq (σ:St):∀ l:List Operand,evL σ l=l.map σ.ev
 | []=>rfl
 | x :: l=>by simp [evL,evL_eq σ l]
def hasP (σ:St):List (Nat×Operand)->Prop
 | []=>True
 | p :: l=>σ.has p.2/\hasP σ l
theorem hasP_eq (σ:St):∀ l:List (Nat×Operand),hasP σ l=∀ x∈l,σ.has x.2
 | []=>by simp [hasP]
 | x :: l=>by simp [hasP,hasP_eq σ l]
def evP (σ:St):List (Nat×Operand)->List (Nat×AV)
 | []=>[]
 | p :: l=>(p.1,σ.ev p.2) :: evP σ l
theorem evP_eq (σ:St):∀ l:List (Nat×Operand),evP σ l=l.map fun p=>(p.1,σ.ev p.2)
 | []=>rfl
 | x :: l=>by simp [evP,evP_eq σ l]
def binQ (b:Option BT) (g:Option E) (op:BinOp) (x y:AV) (obs:List O):Res:=
 match x,b,g with
 | .bool _,some .bool,_=>binV op x y obs
 | .bool _,_,_=>.bad
 | .int _ _,_,_=>binV op x y obs
 | .str _,_,_=>binV op x y obs
 | _,_,some _=>binV op x y obs
 | _,_,none=>.bad
def lenQ (b:Option BT) (g:Option E) (x:AV) (obs:List O):Res:=
 match x,b,g with
 | .str _,some .str,_=>lenV x obs
 | .str _,_,_=>.bad
 | _,_,some _=>lenV x obs
 | _,_,none=>.bad
def sliceQ (b:Option BT) (g:Option E) (x:AV) (lo hi:Option AV) (obs:List O):Res:=
 match x,b,g with
 | .str _,some .str,_=>sliceV x lo hi obs
 | .sl _ e' _,_,some e=>if e'.size=e.size then sliceV x lo hi obs else .bad
 | .lr _ _,_,some e=>if e.size=1 then sliceV x lo hi obs else .bad
 | _,_,_=>.bad
def pickQ (ha hb:Prop) (c a b:AV) (obs:List O):Res:=
 match c,a,b with
 | .bool t,.bool x,.bool y=>.ok ((t=true->ha)/\(t=false->hb)) (.bool (bif t then x else y)) obs
 | _,_,_=>.bad
def exQ (x:Option (Bool×Sl)) (i:Nat) (obs:List O):Res:=
 match x with
 | some (true,.t l)=>match l[i]? with
  | some v=>.ok True v obs
  | none=>.bad
 | _=>.bad
def storeQ (sc:Bool) (x y:AV) (obs:List O):Res:=
 match y with
 | .str _=>.bad
 | _=>storeV sc x y obs
def lenO (g:Nat) (obs:List O):O->Res
 | .arr _ xs g' _=>bif g == g' then .ok True (.int .i64 xs.length) obs else .bad
 | .mat _ xs g' _=>bif g == g' then .ok True (.int .i64 xs.length) obs else .bad
 | .gm _ _ xs g' _=>bif g == g' then .ok True (.int .i64 xs.length) obs else .bad
 | .ap _ xs _ g' _=>bif g == g' then .ok True (.int .i64 xs.length) obs else .bad
 | .bag d g'=>bif g == g' && Nat.ble 2 d.ph then .ok True (.int .i64 d.xs.length) obs else .bad
 | _=>.bad
def idxO (e2:E) (id g:Nat) (n:Int) (obs:List O):O->Res
 | .arr e xs g' _=>bif g == g' && (e.size == e2.size)then .ok (0<=n/\n < xs.length) (.elt id g e.size n.toNat) obs else .bad
 | .mat _ xs g' _=>bif g == g' && (e2.size == 1)then .ok (0<=n/\n < xs.length) (.elt id g 1 n.toNat) obs else .bad
 | .gm _ _ xs g' _=>bif g == g' && (e2.size == 1)then .ok (0<=n/\n < xs.length) (.elt id g 1 n.toNat) obs else .bad
 | .bag d g'=>bif g == g' && Nat.ble 2 d.ph && (e2.size == 2)then .ok (0<=n/\n < d.xs.length) (.elt id g 2 n.toNat) obs else .bad
 | _=>.bad
def loadO (sc:Bool) (g s k:Nat) (obs:List O):O->Res
 | .arr e xs g' _=>bif g == g' && (s == e.size) && sc && (e.size == 1)then .ok True (ofE e (xs.getD k e.dflt)) obs else .bad
 | .mat hs xs g' _=>bif g == g' && (s == 1) && sc then .ok True (.hdr (hs.getD k none) (xs.getD k []).length) obs else .bad
 | .gm _ F xs g' _=>bif g == g' && (s == 1) && sc then .ok True (.hdr (some (xs.getD k 0)) (F (xs.getD k 0)).length) obs else .bad
 | _=>.bad
inductive OD (e:E) where
 | no
 | yes (d:e.D)
inductive OL (e:E) where
 | no
 | yes (l:List e.D)
def OD.of {e:E}:Option e.D->OD e
 | none=>.no
 | some d=>.yes d
def OL.of {e:E}:Option (List e.D)->OL e
 | none=>.no
 | some d=>.yes d
def toQ (e:E) (x:AV):OD e:=.of (toE e x)
def convQ (e' e:E) (ys:List e.D):OL e':=.of (convL e' e ys)
def srcQ (e':E) (x:AV) (obs:List O) (no:Option Nat):OL e':=.of (srcL e' x obs no)
def allEQ (e:E) (l:List AV):OL e:=.of (allE e l)
def stE (id k g:Nat) (nn:Bool) (e:E) (xs:List e.D) (obs:List O):OD e->Res
 | .yes d=>.skip True (oSet obs id (.arr e (xs.set k d) g nn))
 | .no=>.bad
def stM (id id2 g2 k:Nat) (hs:List (Option Nat)) (rows:List (List Int)) (g:Nat) (nn:Bool) (obs:List O):O->Res
 | .arr .int xs g' true=>bif g2 == g' then .all (fun _=>True) (fun _=>.junk) (fun h=>oSet (oSet obs id2 .dead) id (.mat (hs.set k (some h)) (rows.set k xs) g nn))else .bad
 | _=>.bad
def stR (id k:Nat) (hs:List (Option Nat)) (rows:List (List Int)) (g:Nat) (nn:Bool) (obs:List O):AV->Res
 | .own id2 g2=>stM id id2 g2 k hs rows g nn obs (oAt obs id2)
 | _=>.bad
def stH (id k:Nat) (D:List Nat) (F:Nat->List Int) (hs:List Nat) (g:Nat) (nn:Bool) (obs:List O):AV->Res
 | .hdr (some h) m=>.skip (h∈D/\m=(F h).length) (oSet obs id (.gm D F (hs.set k h) g nn))
 | _=>.bad
def storeO (sc:Bool) (id g s k:Nat) (y:AV) (obs:List O):O->Res
 | .arr e xs g' nn=>bif g == g' && (s == e.size) && sc && (e.size == 1)then stE id k g nn e xs obs (toQ e y)else .bad
 | .mat hs xs g' nn=>bif g == g' && (s == 1) && sc then stR id k hs xs g nn obs y else .bad
 | .gm D F hs g' nn=>bif g == g' && (s == 1) && sc then stH id k D F hs g nn obs y else .bad
 | _=>.bad
def apE (id g:Nat) (nn:Bool) (e e':E) (xs:List e'.D) (obs:List O):OL e'->Res
 | .yes ys=>.ok ((xs.length+ys.length)*e.bytes<=140737488355328) (.own id (g+1)) (oSet obs id (.arr e' (xs ++ ys) (g+1) (nn || !ys.isEmpty)))
 | .no=>.bad
def apA (id g:Nat) (nn:Bool) (q:Nat) (e:E) (ys:List (Nat×List Int)) (obs:List O):OL .lrow->Res
 | .yes zs=>.ok ((ys.length+zs.length)*e.bytes<=140737488355328) (.own id (g+1)) (oSet obs id (.ap q (ys ++ zs) false (g+1) (nn || !zs.isEmpty)))
 | .no=>.bad
def apB (id g:Nat) (d:BagD) (e:E) (obs:List O):OL .pr->Res
 | .yes ys=>.ok ((d.xs.length+ys.length)*e.bytes<=140737488355328) (.own id (g+1)) (oSet obs id (.bag { d with st:=false,xs:=d.xs ++ ys } (g+1)))
 | .no=>.bad
def apO (e:E) (id g:Nat) (x:AV) (obs:List O):O->Res
 | .arr e' xs g' nn=>bif g == g' && decide (e'.fam=e.fam)then apE id g nn e e' xs obs (srcQ e' x obs (some id))else .bad
 | .ap q ys _ g' nn=>bif g == g' && decide (E.lrow.fam=e.fam)then apA id g nn q e ys obs (srcQ .lrow x obs (some id))else .bad
 | .bag d g'=>bif g == g' && Nat.ble 2 d.ph && decide (E.pr.fam=e.fam)then apB id g d e obs (srcQ .pr x obs (some id))else .bad
 | _=>.bad
def apN (e:E) (obs:List O):OL e->Res
 | .yes ys=>.ok (ys.length*e.bytes<=140737488355328) (.own obs.length 0) (obs ++ [.arr e ys 0 (!ys.isEmpty)])
 | .no=>.bad
def srO (e':E) (g:Nat):O->OL e'
 | .arr e ys g' _=>bif g == g' then convQ e' e ys else .no
 | _=>.no
theorem at_arr {obs:List O} {id:Nat}:oAt obs id=match obs[id]? with | some o=>o | none=>.dead:=by
 rw [oAt_eq];cases obs[id]?<;>rfl
theorem lenV_own (id g:Nat) (obs:List O):lenV (.own id g) obs=lenO g obs (oAt obs id):=by
 rw [at_arr];simp only [lenV]
 cases h:obs[id]? with
 | none=>rfl
 | some o=>cases o with
  | dead=>rfl
  | arr e xs g' nn=>by_cases hg:g=g'<;>simp [lenO,hg,Bool.cond_eq_ite]
  | mat hs xs g' nn=>by_cases hg:g=g'<;>simp [lenO,hg,Bool.cond_eq_ite]
  | gm D F xs g' nn=>by_cases hg:g=g'<;>simp [lenO,hg,Bool.cond_eq_ite]
  | mp _ _ _=>rfl
  | ap q xs fr g' nn=>by_cases hg:g=g'<;>simp [lenO,hg,Bool.cond_eq_ite]
  | cur _ _=>rfl
  | bag d g'=>by_cases hg:g=g'<;>by_cases hp:2<=d.ph<;>simp [lenO,hg,hp,Bool.cond_eq_ite]
theorem idxV_own (e2:E) (id g:Nat) (k:IntKind) (n:Int) (obs:List O):idxV (some e2) (.own id g) (.int k n) obs=idxO e2 id g n obs (oAt obs id):=by
 rw [at_arr];simp only [idxV]
 cases h:obs[id]? with
 | none=>rfl
 | some o=>cases o with
  | dead=>rfl
  | arr e xs g' nn=>by_cases hg:g=g'<;>by_cases hs:e.size=e2.size<;>simp [idxO,hg,hs,Bool.cond_eq_ite]
  | mat hs xs g' nn=>by_cases hg:g=g'<;>by_cases hs:e2.size=1<;>simp [idxO,hg,hs,Bool.cond_eq_ite]
  | gm D F xs g' nn=>by_cases hg:g=g'<;>by_cases hs:e2.size=1<;>simp [idxO,hg,hs,Bool.cond_eq_ite]
  | mp _ _ _=>rfl
  | ap _ _ _ _ _=>rfl
  | cur _ _=>rfl
  | bag d g'=>by_cases hg:g=g'<;>by_cases hp:2<=d.ph<;>by_cases hs:e2.size=2<;>simp [idxO,hg,hp,hs,Bool.cond_eq_ite]
theorem loadV_elt (sc:Bool) (id g s k:Nat) (obs:List O):loadV sc (.elt id g s k) obs=loadO sc g s k obs (oAt obs id):=by
 rw [at_arr];simp only [loadV]
 cases h:obs[id]? with
 | none=>rfl
 | some o=>cases o with
  | dead=>rfl
  | arr e xs g' nn=>by_cases hg:g=g'<;>by_cases hs:s=e.size<;>by_cases hc:sc=true<;>by_cases h1:e.size=1<;>simp [loadO,hg,hs,hc,h1,Bool.cond_eq_ite]
  | mat hs xs g' nn=>by_cases hg:g=g'<;>by_cases hs:s=1<;>by_cases hc:sc=true<;>simp [loadO,hg,hs,hc,Bool.cond_eq_ite]
  | gm D F xs g' nn=>by_cases hg:g=g'<;>by_cases hs:s=1<;>by_cases hc:sc=true<;>simp [loadO,hg,hs,hc,Bool.cond_eq_ite]
  | mp _ _ _=>rfl
  | ap _ _ _ _ _=>rfl
  | cur _ _=>rfl
  | bag _ _=>rfl
theorem storeV_elt (sc:Bool) (id g s k:Nat) (y:AV) (obs:List O):storeV sc (.elt id g s k) y obs=storeO sc id g s k y obs (oAt obs id):=by
 rw [at_arr];simp only [storeV]
 cases h:obs[id]? with
 | none=>rfl
 | some o=>cases o with
  | dead=>rfl
  | arr e xs g' nn=>
   have hb:(g == g' && (s == e.size) && sc && (e.size == 1))=decide (g=g'/\s=e.size/\sc=true/\e.size=1):=by
    rw [Bool.eq_iff_iff];simp [and_assoc]
   simp only [storeO,hb]
   by_cases hP:g=g'/\s=e.size/\sc=true/\e.size=1
   ·simp only [hP,and_self,if_true,decide_true,cond_true]
    simp only [toQ]
    cases toE e y<;>simp [stE,oSet_eq,OD.of]
   ·rw [if_neg hP,decide_eq_false hP];rfl
  | mat hs xs g' nn=>
   have hb:(g == g' && (s == 1) && sc)=decide (g=g'/\s=1/\sc=true):=by
    rw [Bool.eq_iff_iff];simp [and_assoc]
   simp only [storeO,hb]
   by_cases hP:g=g'/\s=1/\sc=true
   ·rw [if_pos hP,decide_eq_true hP]
    cases y with
    | own id2 g2=>
     simp only [cond_true,stR,at_arr]
     cases h2:obs[id2]? with
     | none=>rfl
     | some o2=>cases o2 with
      | dead=>rfl
      | mat _ _ _ _=>rfl
      | gm _ _ _ _ _=>rfl
      | mp _ _ _=>rfl
      | ap _ _ _ _ _=>rfl
      | cur _ _=>rfl
      | bag _ _=>rfl
      | arr e2 ys gg nn2=>
       cases e2 with
       | int=>cases nn2 with
        | true=>by_cases hg:g2=gg<;>simp [stM,hg,oSet_eq,Bool.cond_eq_ite]
        | false=>rfl
       | _=>rfl
    | _=>rfl
   ·rw [if_neg hP,decide_eq_false hP];rfl
  | gm D F hs g' nn=>
   have hb:(g == g' && (s == 1) && sc)=decide (g=g'/\s=1/\sc=true):=by
    rw [Bool.eq_iff_iff];simp [and_assoc]
   simp only [storeO,hb]
   by_cases hP:g=g'/\s=1/\sc=true
   ·rw [if_pos hP,decide_eq_true hP]
    simp only [cond_true]
    cases y with
    | hdr q m=>cases q<;>simp [stH,oSet_eq]
    | _=>rfl
   ·rw [if_neg hP,decide_eq_false hP];rfl
  | mp _ _ _=>rfl
  | ap _ _ _ _ _=>rfl
  | cur _ _=>rfl
  | bag _ _=>rfl
def mlkO (m:MT) (g:Nat) (k:MK) (obs:List O):O->Res
 | .mp m' l g'=>bif g == g' && (m.kv == m'.kv) && (m.vi == m'.vi)then .ok True (bif m.vi then .int .i64 (mgetI l k)else .bool (mgetB l k)) obs else .bad
 | _=>.bad
def mupO (m:MT) (id g:Nat) (k:MK) (v:MV) (obs:List O):O->Res
 | .mp m' l g'=>bif g == g' && (m.kv == m'.kv) && (m.vi == m'.vi)then .skip True (oSet obs id (.mp m' (mput l k v) g))else .bad
 | _=>.bad
theorem cnd3 (g g':Nat) (m m':MT):(g == g' && (m.kv == m'.kv) && (m.vi == m'.vi))=decide (g=g'/\m.kv=m'.kv/\m.vi=m'.vi):=by
 rw [Bool.eq_iff_iff];simp [and_assoc]
theorem mlookV_own (vi:Bool) (id g:Nat) (s:List UInt8) (obs:List O):mlookV (some ⟨false,vi⟩) (.own id g) (.str s) obs=mlkO ⟨false,vi⟩ g (.str s) obs (oAt obs id):=by
 rw [at_arr];simp only [mlookV,keyV,if_true]
 cases h:obs[id]? with
 | none=>rfl
 | some o=>cases o with
  | mp m' l g'=>
   simp only [mlkO]
   rw [show(g == g' && (false == m'.kv) && (vi == m'.vi))=_ from cnd3 g g' ⟨false,vi⟩ m']
   by_cases hP:g=g'/\(⟨false,vi⟩:MT).kv=m'.kv/\(⟨false,vi⟩:MT).vi=m'.vi
   ·rw [if_pos hP,decide_eq_true hP];simp only [mgetV,cond_true];cases vi<;>rfl
   ·rw [if_neg hP,decide_eq_false hP];rfl
  | _=>rfl
theorem mupdV_bool (id g:Nat) (s:List UInt8) (b:Bool) (obs:List O):mupdV (some ⟨false,false⟩) (.own id g) (.str s) (.bool b) obs=mupO ⟨false,false⟩ id g (.str s) (.bool b) obs (oAt obs id):=by
 rw [at_arr];simp only [mupdV,keyV,valV,if_true]
 cases h:obs[id]? with
 | none=>rfl
 | some o=>cases o with
  | mp m' l g'=>
   simp only [mupO]
   rw [show(g == g' && (false == m'.kv) && (false == m'.vi))=_ from cnd3 g g' ⟨false,false⟩ m']
   by_cases hP:g=g'/\(⟨false,false⟩:MT).kv=m'.kv/\(⟨false,false⟩:MT).vi=m'.vi
   ·rw [if_pos hP,decide_eq_true hP,oSet_eq];rfl
   ·rw [if_neg hP,decide_eq_false hP];rfl
  | _=>rfl
theorem mupdV_int (id g:Nat) (s:List UInt8) (n:Int) (obs:List O):mupdV (some ⟨false,true⟩) (.own id g) (.str s) (.int .i64 n) obs=mupO ⟨false,true⟩ id g (.str s) (.int n) obs (oAt obs id):=by
 rw [at_arr];simp only [mupdV,keyV,valV,if_true]
 cases h:obs[id]? with
 | none=>rfl
 | some o=>cases o with
  | mp m' l g'=>
   simp only [mupO]
   rw [show(g == g' && (false == m'.kv) && (true == m'.vi))=_ from cnd3 g g' ⟨false,true⟩ m']
   by_cases hP:g=g'/\(⟨false,true⟩:MT).kv=m'.kv/\(⟨false,true⟩:MT).vi=m'.vi
   ·rw [if_pos hP,decide_eq_true hP,oSet_eq];rfl
   ·rw [if_neg hP,decide_eq_false hP];rfl
  | _=>rfl
theorem appendV_own (e:E) (id g:Nat) (x:AV) (obs:List O):appendV (some e) (.own id g) x obs=apO e id g x obs (oAt obs id):=by
 rw [at_arr];simp only [appendV]
 cases h:obs[id]? with
 | none=>rfl
 | some o=>cases o with
  | dead=>rfl
  | arr e' xs g' nn=>
   by_cases hg:g=g'<;>by_cases hs:e'.fam=e.fam<;>simp [apO,hg,hs,Bool.cond_eq_ite]
   simp only [srcQ]
   cases srcL e' x obs (some id)<;>simp [apE,oSet_eq,OL.of]
  | mat _ _ _ _=>rfl
  | gm _ _ _ _ _=>rfl
  | mp _ _ _=>rfl
  | ap q ys fr g' nn=>
   by_cases hg:g=g'<;>by_cases hs:E.lrow.fam=e.fam<;>simp [apO,hg,hs,Bool.cond_eq_ite]
   simp only [srcQ]
   cases srcL .lrow x obs (some id)<;>simp [apA,oSet_eq,OL.of]
  | cur _ _=>rfl
  | bag d g'=>
   by_cases hg:g=g'<;>by_cases hp:2<=d.ph<;>by_cases hs:E.pr.fam=e.fam<;>simp [apO,hg,hp,hs,Bool.cond_eq_ite]
   simp only [srcQ]
   cases srcL .pr x obs (some id)<;>simp [apB,oSet_eq,OL.of]
theorem appendV_nil (e:E) (x:AV) (obs:List O):appendV (some e) .nils x obs=apN e obs (srcQ e x obs none):=by
 simp only [appendV,srcQ]
 cases srcL e x obs none<;>rfl
theorem srcL_own (e':E) (id g:Nat) (obs:List O) (no:Option Nat):srcQ e' (.own id g) obs no=bif no == some id then .no else srO e' g (oAt obs id):=by
 rw [at_arr];simp only [srcQ,srcL]
 by_cases hn:no=some id
 ·simp [hn,OL.of]
 ·simp only [hn,if_false]
  have:(no == some id)=false:=by simpa using hn
  rw [this]
  cases h:obs[id]? with
  | none=>rfl
  | some o=>cases o with
   | dead=>rfl
   | arr e ys g' nn=>by_cases hg:g=g'<;>simp [srO,hg,Bool.cond_eq_ite,OL.of,convQ]
   | mat _ _ _ _=>rfl
   | gm _ _ _ _ _=>rfl
   | mp _ _ _=>rfl
   | ap _ _ _ _ _=>rfl
   | cur _ _=>rfl
   | bag _ _=>rfl
def cpE (id g:Nat) (nn:Bool) (xs:List Int) (obs:List O):OL .int->Res
 | .yes zs=>.ok True (.int .i64 (min zs.length xs.length:Nat)) (oSet obs id (.arr .int (zs.take xs.length ++ xs.drop zs.length) g nn))
 | .no=>.bad
def cpO (id g:Nat) (x:AV) (obs:List O):O->Res
 | .arr .int xs g' nn=>bif g == g' then cpE id g nn xs obs (srcQ .int x obs (some id))else .bad
 | _=>.bad
theorem copyV_own (id g:Nat) (x:AV) (obs:List O):copyV (some .int) (.own id g) x obs=cpO id g x obs (oAt obs id):=by
 rw [at_arr];simp only [copyV]
 cases h:obs[id]? with
 | none=>rfl
 | some o=>cases o with
  | dead=>rfl
  | mat _ _ _ _=>rfl
  | gm _ _ _ _ _=>rfl
  | mp _ _ _=>rfl
  | ap _ _ _ _ _=>rfl
  | cur _ _=>rfl
  | bag _ _=>rfl
  | arr e' xs g' nn=>
   cases e' with
   | int=>
    by_cases hg:g=g'
    ·subst hg
     simp only [cpO,beq_self_eq_true,cond_true,if_true,srcQ]
     cases srcL .int x obs (some id)<;>simp [cpE,oSet_eq,OL.of]
    ·simp [cpO,hg,Bool.cond_eq_ite]
   | _=>rfl
theorem astep_bin (C:Ctx) (σ:St) (op:BinOp) (t ty:TypeId) (x y:Operand):astep C σ (.binOp op t x y ty)=binQ (C.bt t) (C.Γ t) op (σ.ev x) (σ.ev y) σ.obs:=rfl
theorem astep_pick (C:Ctx) (σ:St) (c x y:Operand):astep C σ (.pick c x y)=pickQ (σ.has x) (σ.has y) (σ.ev c) (σ.ev x) (σ.ev y) σ.obs:=by
 first
 | (simp only [astep,pickV,pickQ];done)
 | (simp only [astep,pickV,pickQ];cases σ.ev c<;>cases σ.ev x<;>cases σ.ev y<;>rfl)
def storeT (wt:Option E) (r:Res) (x y:AV) (obs:List O):Res:=
 match wt with
 | none=>r
 | some _=>wstoreV x y obs
def selP (y:AV) (f:E.pr.D->Res) (r:Res):Res:=match y with
 | .prv d=>f d
 | _=>r
def selH (x:AV) (f:Nat->Nat->Res) (r:Res):Res:=match x with
 | .hp q k=>f q k
 | _=>r
def selE (x:AV) (f:Nat->Nat->Nat->Res) (r:Res):Res:=match x with
 | .elt id g s k=>bif s == 2 then f id g k else r
 | _=>r
def selM (x:AV) (f:Nat->Res) (r:Res):Res:=match x with
 | .mv b=>f b
 | _=>r
theorem loadX_sel (bt:Option BT) (gp:Option E) (mt:Option MT) (sc:Bool) (wt:Option E) (pt:Bool) (x:AV) (obs:List O):loadX bt gp mt sc wt pt x obs =
  selH x (fun q k=>orBag (loadS sc wt (.hp q k) obs) (bagLoad bt gp mt q k obs) (bagH obs)) (selE x (fun id g k=>bif pt then pairLoad id g k obs else .bad) (loadS sc wt x obs)):=by
 cases x with
 | elt id g s k=>
  by_cases h:s=2
  ·subst h;rfl
  ·have:(s == 2)=false:=by simpa using h
   simp only [selH,selE,this,cond_false]
   unfold loadX
   split
   ·rename_i h2;cases h2
   ·rename_i h2;cases h2;exact absurd rfl h
   ·rfl
 | _=>rfl
theorem storeX_sel (gp:Option E) (mt:Option MT) (sc:Bool) (wt:Option E) (pt:Bool) (x y:AV) (obs:List O):storeX gp mt sc wt pt x y obs =
  selP y (fun d=>bif pt then pairStore x d obs else .bad) (selH x (fun q k=>orBag (storeS sc wt (.hp q k) y obs) (bagStore gp mt q k y obs) (bagH obs)) (storeS sc wt x y obs)):=by
 cases y<;>cases x<;>rfl
theorem mlookX_sel (mt:Option MT) (x i:AV) (obs:List O):mlookX mt x i obs=selM x (fun b=>orBag .bad (bagLook mt b i obs) (bagH obs)) (mlookV mt x i obs):=by cases x<;>rfl
theorem mupdX_sel (mt:Option MT) (x i y:AV) (obs:List O):mupdX mt x i y obs=selM x (fun b=>orBag .bad (bagUpd mt b i y obs) (bagH obs)) (mupdV mt x i y obs):=by cases x<;>rfl
def storeQX (gp:Option E) (mt:Option MT) (sc:Bool) (wt:Option E) (pt:Bool) (x y:AV) (obs:List O):Res:=
 selP y (fun d=>bif pt then pairStore x d obs else .bad) (selH x (fun q k=>orBag (storeT wt (storeQ sc (.hp q k) y obs) (.hp q k) y obs) (bagStore gp mt q k y obs) (bagH obs)) (storeT wt (storeQ sc x y obs) x y obs))
theorem astep_store (C:Ctx) (σ:St) (t:TypeId) (x y:Operand):astep C σ (.store t x y)=storeQX (C.Γ t) (C.mt t) (C.sc t) (C.wt t) (C.pt t) (σ.ev x) (σ.ev y) σ.obs:=by
 simp only [astep,storeQX]
 cases σ.ev y with
 | str s=>
  cases σ.ev x with
  | hp q k=>cases C.wt t<;>cases bagH σ.obs<;>cases k<;>rfl
  | elt id g s2 k2=>
   cases C.wt t with
   | none=>rfl
   | some e=>
    show Res.bad=wstoreV _ _ _
    unfold wstoreV
    split<;>first | rfl | simp_all
  | _=>cases C.wt t<;>rfl
 | _=>
  simp only [storeX_sel,storeS,storeQ,selP]
  try(cases C.wt t<;>rfl)
theorem loadS_none (sc:Bool) (x:AV) (obs:List O):loadS sc none x obs=loadV sc x obs:=rfl
theorem loadS_some (sc:Bool) (e:E) (x:AV) (obs:List O):loadS sc (some e) x obs=wloadV x obs:=rfl
theorem storeT_none (r:Res) (x y:AV) (obs:List O):storeT none r x y obs=r:=rfl
theorem storeT_some (e:E) (r:Res) (x y:AV) (obs:List O):storeT (some e) r x y obs=wstoreV x y obs:=rfl
theorem idxS_none (g:Option E) (x i:AV) (obs:List O):idxS g none x i obs=idxV g x i obs:=rfl
theorem idxS_some (g:Option E) (e:E) (x i:AV) (obs:List O):idxS g (some e) x i obs=widxV x i obs:=rfl
theorem sliceT_none (r:Res) (x:AV) (lo hi:Option AV) (obs:List O):sliceT none r x lo hi obs=r:=rfl
theorem sliceT_some (e:E) (r:Res) (x:AV) (lo hi:Option AV) (obs:List O):sliceT (some e) r x lo hi obs=wsliceV x lo hi obs:=rfl
theorem allocV_some (q:Bool) (obs:List O):allocV (some .vec) q obs=.ok True (.elt obs.length 0 4 0) (obs ++ [.arr .vec [[0,0,0,0]] 0 true]):=rfl
theorem boxV_some (xs:List Int) (obs:List O):boxV (some .vec) (.vec xs) obs=.ok True (.relt true .vec xs) obs:=rfl
def wldO (g s k:Nat) (obs:List O):O->Res
 | .arr .vec xs g' _=>bif g == g' && s == 4 then .ok True (.vec (xs.getD k [0,0,0,0])) obs else .bad
 | _=>.bad
def wstO (id g s:Nat) (ys:List Int) (obs:List O):O->Res
 | .arr .vec [_] g' nn=>bif g == g' && s == 4 then .skip True (oSet obs id (.arr .vec [ys] g nn))else .bad
 | _=>.bad
theorem wload_relt (f:Bool) (d:List Int) (obs:List O):wloadV (.relt f .vec d) obs=.ok True (.vec d) obs:=rfl
theorem wload_elt (id g s k:Nat) (obs:List O):wloadV (.elt id g s k) obs=wldO g s k obs (oAt obs id):=by
 simp only [wloadV,oAt_eq]
 cases obs[id]? with
 | none=>rfl
 | some o=>
  cases o with
  | arr e xs g' nn=>cases e<;>simp [wldO,Bool.cond_eq_ite]
  | _=>rfl
theorem wld_arr (g s k g':Nat) (nn:Bool) (obs:List O) (xs:List (List Int)):wldO g s k obs (.arr .vec xs g' nn)=bif g == g' && s == 4 then .ok True (.vec (xs.getD k [0,0,0,0])) obs else .bad:=rfl
theorem wstore_elt (id g s:Nat) (ys:List Int) (obs:List O):wstoreV (.elt id g s 0) (.vec ys) obs=wstO id g s ys obs (oAt obs id):=by
 simp only [wstoreV,oAt_eq]
 cases obs[id]? with
 | none=>rfl
 | some o=>
  cases o with
  | arr e xs g' nn=>
   cases e with
   | vec=>
    match xs with
    | []=>rfl
    | [x]=>simp [wstO,oSet_eq,Bool.cond_eq_ite]
    | x :: y :: l=>rfl
   | _=>rfl
  | _=>rfl
theorem wst_arr (id g s g':Nat) (nn:Bool) (ys x:List Int) (obs:List O):wstO id g s ys obs (.arr .vec [x] g' nn)=bif g == g' && s == 4 then .skip True (oSet obs id (.arr .vec [ys] g nn))else .bad:=rfl
theorem widx_relt (f:Bool) (xs:List Int) (k:IntKind) (n:Int) (obs:List O):widxV (.relt f .vec xs) (.int k n) obs=.ok (0<=n/\n < 4) (.relt f .int (xs.getD n.toNat 0)) obs:=rfl
theorem wslice_relt (f:Bool) (xs:List Int) (k:IntKind) (n:Int) (obs:List O):wsliceV (.relt f .vec xs) none (some (.int k n)) obs=.ok (0<=n/\n<=4) (.sl f .int (xs.take n.toNat)) obs:=rfl
theorem AXW:type_of% @loadS_none/\type_of% @loadS_some/\type_of% @storeT_none/\type_of% @storeT_some/\type_of% @idxS_none/\type_of% @idxS_some/\type_of% @sliceT_none/\type_of% @sliceT_some/\type_of% @allocV_some/\type_of% @boxV_some/\type_of% @wload_relt/\type_of% @wload_elt/\type_of% @wld_arr/\type_of% @wstore_elt/\type_of% @wst_arr/\type_of% @widx_relt/\type_of% @wslice_relt:=
 ⟨loadS_none,loadS_some,storeT_none,storeT_some,idxS_none,idxS_some,sliceT_none,sliceT_some,allocV_some,boxV_some,wload_relt,wload_elt,wld_arr,wstore_elt,wst_arr,widx_relt,wslice_relt⟩
theorem astep_slice (C:Ctx) (σ:St) (t:TypeId) (x:Operand) (lo hi:Option Operand):astep C σ (.slice t x lo hi none)=sliceT (C.wt t) (sliceQ (C.bt t) (C.Γ t) (σ.ev x) (lo.map σ.ev) (hi.map σ.ev) σ.obs) (σ.ev x) (lo.map σ.ev) (hi.map σ.ev) σ.obs:=rfl
theorem astep_ex (C:Ctx) (n:Nat) (fr:List (Nat×Bool×Sl)) (obs:List O) (t i:Nat):astep C ⟨n,fr,obs⟩ (.extract (.tmp t) i)=exQ (look t fr) i obs:=by
 first
 | (simp only [astep,exV,exQ];done)
 | (simp only [astep,exV,exQ];(rcases look t fr with _ | ⟨_ | _,_ | l⟩<;>try rfl);all_goals (simp only [];cases l[i]?<;>rfl))
section
variable (C:Ctx) (ds:Rg) (rest:List Oper) (n:Nat) (fr:List (Nat×Bool×Sl)) (obs:List O) (K:St->Prop) (d:Nat) (ty:TypeId) (p:String) (af:Array Edge)
def aS (hs:Prop) (r:Res) (d:Option Nat):Prop:=inN n d/\hs/\aR C ds rest n fr d K r
theorem plain_eq {op:Op} (h:calleeOf ⟨n,fr,obs⟩ op=none) {hs:Prop} (h1:hasAll ⟨n,fr,obs⟩ op=hs) {r:Res} (h2:astep C ⟨n,fr,obs⟩ op=r) (d:Option Nat) (hm:∀ t,op≠.move (.tmp t):=by intro t h;cases h) :
  aexec C ds (⟨d,op,ty,p,af,none⟩ :: rest) ⟨n,fr,obs⟩ K=aS C ds rest n fr K hs r d:=by
 subst h1 h2
 exact aexec_plain C ds rest n fr obs K ty p af h hm d
def slS:Option (Bool×Sl)->Sl
 | some (_,x)=>x
 | none=>.v .junk
theorem X_move (t:Nat):aexec C ds (⟨some d,.move (.tmp t),ty,p,af,none⟩ :: rest) ⟨n,fr,obs⟩ K=(d < n/\St.has ⟨n,fr,obs⟩ (.tmp t)/\aexec C ds rest ⟨n,(d,true,slS (look t fr)) :: fr,obs⟩ K):=by
 simp only [aexec,aone,calleeOf,astep,mvS,hasAll,St.put,inN,true_and]
 rcases h:look t fr with _ | ⟨ex,x | l⟩
 ·simp only [slS,St.ev,h]
 ·simp only [slS,St.ev,h]
 ·simp only [slS]
theorem X_movec (v:Value):aexec C ds (⟨some d,.move (.const v),ty,p,af,none⟩ :: rest) ⟨n,fr,obs⟩ K=(d < n/\aexec C ds rest ⟨n,(d,true,.v (St.ev ⟨n,fr,obs⟩ (.const v))) :: fr,obs⟩ K):=by
 rw [plain_eq C ds rest n fr obs K ty p af (op:=.move (.const v)) rfl rfl rfl]
 simp only [aS,astep,aR,St.put,hasAll,true_and,inN,has_const]
theorem X_movef (f:Nat):aexec C ds (⟨some d,.move (.func f),ty,p,af,none⟩ :: rest) ⟨n,fr,obs⟩ K=(d < n/\aexec C ds rest ⟨n,(d,true,.v (St.ev ⟨n,fr,obs⟩ (.func f))) :: fr,obs⟩ K):=by
 rw [plain_eq C ds rest n fr obs K ty p af (op:=.move (.func f)) rfl rfl rfl]
 simp only [aS,astep,aR,St.put,hasAll,true_and,inN,has_func]
theorem X_assign (x:Operand):aexec C ds (⟨some d,.assign x,ty,p,af,none⟩ :: rest) ⟨n,fr,obs⟩ K=(d < n/\St.has ⟨n,fr,obs⟩ x/\aexec C ds rest ⟨n,(d,true,.v (St.ev ⟨n,fr,obs⟩ x)) :: fr,obs⟩ K):=by
 rw [plain_eq C ds rest n fr obs K ty p af (op:=.assign x) rfl rfl rfl]
 simp only [aS,astep,aR,St.put,hasAll,true_and,inN]
theorem X_bin (dd:Option Nat) (op:BinOp) (t t':TypeId) (x y:Operand):aexec C ds (⟨dd,.binOp op t x y t',ty,p,af,none⟩ :: rest) ⟨n,fr,obs⟩ K =
  aS C ds rest n fr K (St.has ⟨n,fr,obs⟩ x/\St.has ⟨n,fr,obs⟩ y) (binQ (C.bt t) (C.Γ t) op (St.ev ⟨n,fr,obs⟩ x) (St.ev ⟨n,fr,obs⟩ y) obs) dd:=plain_eq C ds rest n fr obs K ty p af rfl rfl rfl dd
theorem X_un (dd:Option Nat) (op:UnOp) (t:TypeId) (x:Operand):aexec C ds (⟨dd,.unOp op t x,ty,p,af,none⟩ :: rest) ⟨n,fr,obs⟩ K =
  aS C ds rest n fr K (St.has ⟨n,fr,obs⟩ x) (unV op (St.ev ⟨n,fr,obs⟩ x) obs) dd:=plain_eq C ds rest n fr obs K ty p af rfl rfl rfl dd
theorem X_pick (dd:Option Nat) (c x y:Operand):aexec C ds (⟨dd,.pick c x y,ty,p,af,none⟩ :: rest) ⟨n,fr,obs⟩ K =
  aS C ds rest n fr K (St.has ⟨n,fr,obs⟩ c) (pickQ (St.has ⟨n,fr,obs⟩ x) (St.has ⟨n,fr,obs⟩ y) (St.ev ⟨n,fr,obs⟩ c) (St.ev ⟨n,fr,obs⟩ x) (St.ev ⟨n,fr,obs⟩ y) obs) dd:=
 plain_eq C ds rest n fr obs K ty p af rfl rfl (astep_pick ..) dd
theorem X_load (dd:Option Nat) (t:TypeId) (x:Operand):aexec C ds (⟨dd,.load t x,ty,p,af,none⟩ :: rest) ⟨n,fr,obs⟩ K =
  aS C ds rest n fr K (St.has ⟨n,fr,obs⟩ x) (loadX (C.bt t) (C.Γ t) (C.mt t) (C.sc t) (C.wt t) (C.pt t) (St.ev ⟨n,fr,obs⟩ x) obs) dd:=plain_eq C ds rest n fr obs K ty p af rfl rfl rfl dd
theorem X_alloc (dd:Option Nat) (t:TypeId):aexec C ds (⟨dd,.alloc t,ty,p,af,none⟩ :: rest) ⟨n,fr,obs⟩ K =
  aS C ds rest n fr K True (allocX (C.Γ t) (C.mt t) (C.wt t) (t == C.tid .lrow) (C.pt t) obs) dd:=plain_eq C ds rest n fr obs K ty p af rfl rfl rfl dd
theorem X_box (dd:Option Nat) (t:TypeId) (x:Operand):aexec C ds (⟨dd,.box t x,ty,p,af,none⟩ :: rest) ⟨n,fr,obs⟩ K =
  aS C ds rest n fr K (St.has ⟨n,fr,obs⟩ x) (boxX (C.bt t) (C.wt t) (C.pt t) (St.ev ⟨n,fr,obs⟩ x) obs) dd:=plain_eq C ds rest n fr obs K ty p af rfl rfl rfl dd
theorem X_store (dd:Option Nat) (t:TypeId) (x y:Operand):aexec C ds (⟨dd,.store t x y,ty,p,af,none⟩ :: rest) ⟨n,fr,obs⟩ K =
  aS C ds rest n fr K (St.has ⟨n,fr,obs⟩ x/\St.has ⟨n,fr,obs⟩ y) (storeQX (C.Γ t) (C.mt t) (C.sc t) (C.wt t) (C.pt t) (St.ev ⟨n,fr,obs⟩ x) (St.ev ⟨n,fr,obs⟩ y) obs) dd:=plain_eq C ds rest n fr obs K ty p af rfl rfl (astep_store ..) dd
theorem X_bld (dd:Option Nat) (t:TypeId) (l:List (Nat×Operand)):aexec C ds (⟨dd,.build t l.toArray,ty,p,af,none⟩ :: rest) ⟨n,fr,obs⟩ K =
  aS C ds rest n fr K (hasP ⟨n,fr,obs⟩ l) (bldV (C.wt t) (C.pt t) (evP ⟨n,fr,obs⟩ l) obs) dd:=plain_eq C ds rest n fr obs K ty p af rfl (by simp only [hasAll,hasP_eq]) (by rw [evP_eq];rfl) dd
theorem X_fld (dd:Option Nat) (t:TypeId) (x:Operand) (k:Nat):aexec C ds (⟨dd,.fieldAddr t x k,ty,p,af,none⟩ :: rest) ⟨n,fr,obs⟩ K =
  aS C ds rest n fr K (St.has ⟨n,fr,obs⟩ x) (fldV (C.pt t) (St.ev ⟨n,fr,obs⟩ x) k obs) dd:=plain_eq C ds rest n fr obs K ty p af rfl rfl rfl dd
theorem X_idx (dd:Option Nat) (t:TypeId) (x y:Operand):aexec C ds (⟨dd,.indexAddr t x y,ty,p,af,none⟩ :: rest) ⟨n,fr,obs⟩ K =
  aS C ds rest n fr K (St.has ⟨n,fr,obs⟩ x/\St.has ⟨n,fr,obs⟩ y) (idxS (C.Γ t) (C.wt t) (St.ev ⟨n,fr,obs⟩ x) (St.ev ⟨n,fr,obs⟩ y) obs) dd:=plain_eq C ds rest n fr obs K ty p af rfl rfl rfl dd
theorem X_conv (dd:Option Nat) (s d:TypeId) (x:Operand):aexec C ds (⟨dd,.convert s d x,ty,p,af,none⟩ :: rest) ⟨n,fr,obs⟩ K =
  aS C ds rest n fr K (St.has ⟨n,fr,obs⟩ x) (cnvV (C.bt s) (C.bt d) (C.Γ s) (St.ev ⟨n,fr,obs⟩ x) obs) dd:=plain_eq C ds rest n fr obs K ty p af rfl rfl rfl dd
theorem X_six (dd:Option Nat) (t:TypeId) (x y:Operand):aexec C ds (⟨dd,.index t x y,ty,p,af,none⟩ :: rest) ⟨n,fr,obs⟩ K =
  aS C ds rest n fr K (St.has ⟨n,fr,obs⟩ x/\St.has ⟨n,fr,obs⟩ y) (sixV (C.bt t) (St.ev ⟨n,fr,obs⟩ x) (St.ev ⟨n,fr,obs⟩ y) obs) dd:=plain_eq C ds rest n fr obs K ty p af rfl rfl rfl dd
theorem X_lookup (dd:Option Nat) (t:TypeId) (x y:Operand):aexec C ds (⟨dd,.lookup t x y false,ty,p,af,none⟩ :: rest) ⟨n,fr,obs⟩ K =
  aS C ds rest n fr K (St.has ⟨n,fr,obs⟩ x/\St.has ⟨n,fr,obs⟩ y) (mlookX (C.mt t) (St.ev ⟨n,fr,obs⟩ x) (St.ev ⟨n,fr,obs⟩ y) obs) dd:=plain_eq C ds rest n fr obs K ty p af rfl rfl rfl dd
theorem X_mupd (dd:Option Nat) (t:TypeId) (x y z:Operand):aexec C ds (⟨dd,.mapUpdate t x y z,ty,p,af,none⟩ :: rest) ⟨n,fr,obs⟩ K =
  aS C ds rest n fr K (St.has ⟨n,fr,obs⟩ x/\St.has ⟨n,fr,obs⟩ y/\St.has ⟨n,fr,obs⟩ z) (mupdX (C.mt t) (St.ev ⟨n,fr,obs⟩ x) (St.ev ⟨n,fr,obs⟩ y) (St.ev ⟨n,fr,obs⟩ z) obs) dd:=plain_eq C ds rest n fr obs K ty p af rfl rfl rfl dd
theorem X_insert (dd:Option Nat) (t:TypeId) (x y z:Operand):aexec C ds (⟨dd,.insert t x y z,ty,p,af,none⟩ :: rest) ⟨n,fr,obs⟩ K =
  aS C ds rest n fr K (St.has ⟨n,fr,obs⟩ x/\St.has ⟨n,fr,obs⟩ y/\St.has ⟨n,fr,obs⟩ z) (mupdX (C.mt t) (St.ev ⟨n,fr,obs⟩ x) (St.ev ⟨n,fr,obs⟩ y) (St.ev ⟨n,fr,obs⟩ z) obs) dd:=plain_eq C ds rest n fr obs K ty p af rfl rfl rfl dd
theorem X_mmake (dd:Option Nat) (t:TypeId):aexec C ds (⟨dd,.makeMap t none,ty,p,af,none⟩ :: rest) ⟨n,fr,obs⟩ K =
  aS C ds rest n fr K True (mmakeV (C.mt t) obs) dd:=plain_eq C ds rest n fr obs K ty p af rfl rfl rfl dd
theorem X_make (dd:Option Nat) (t:TypeId) (x y:Operand):aexec C ds (⟨dd,.makeSlice t x y,ty,p,af,none⟩ :: rest) ⟨n,fr,obs⟩ K =
  aS C ds rest n fr K (St.has ⟨n,fr,obs⟩ x/\St.has ⟨n,fr,obs⟩ y) (makeV (C.Γ t) (St.ev ⟨n,fr,obs⟩ x) (St.ev ⟨n,fr,obs⟩ y) obs) dd:=plain_eq C ds rest n fr obs K ty p af rfl rfl rfl dd
theorem X_build (dd:Option Nat) (t:TypeId) (m:Nat) (l:List (Nat×Operand)):aexec C ds (⟨dd,.buildSlice t m l.toArray,ty,p,af,none⟩ :: rest) ⟨n,fr,obs⟩ K =
  aS C ds rest n fr K (hasP ⟨n,fr,obs⟩ l) (buildV (C.Γ t) m (evP ⟨n,fr,obs⟩ l) obs) dd:=plain_eq C ds rest n fr obs K ty p af rfl (by simp only [hasAll,hasP_eq]) (by rw [evP_eq];rfl) dd
theorem X_slice (dd:Option Nat) (t:TypeId) (x:Operand) (lo hi:Option Operand):aexec C ds (⟨dd,.slice t x lo hi none,ty,p,af,none⟩ :: rest) ⟨n,fr,obs⟩ K =
  aS C ds rest n fr K (St.has ⟨n,fr,obs⟩ x/\hasO ⟨n,fr,obs⟩ lo/\hasO ⟨n,fr,obs⟩ hi) (sliceT (C.wt t) (sliceQ (C.bt t) (C.Γ t) (St.ev ⟨n,fr,obs⟩ x) (lo.map (St.ev ⟨n,fr,obs⟩)) (hi.map (St.ev ⟨n,fr,obs⟩)) obs) (St.ev ⟨n,fr,obs⟩ x) (lo.map (St.ev ⟨n,fr,obs⟩)) (hi.map (St.ev ⟨n,fr,obs⟩)) obs) dd:=
 plain_eq C ds rest n fr obs K ty p af rfl (by simp only [hasAll,hasO_eq]) rfl dd
theorem X_ex (dd:Option Nat) (t i:Nat):aexec C ds (⟨dd,.extract (.tmp t) i,ty,p,af,none⟩ :: rest) ⟨n,fr,obs⟩ K =
  aS C ds rest n fr K True (exQ (look t fr) i obs) dd:=plain_eq C ds rest n fr obs K ty p af rfl rfl (astep_ex ..) dd
theorem X_len (dd:Option Nat) (x:Operand) (t:TypeId):aexec C ds (⟨dd,.call ⟨.builtin .len,List.toArray [x],List.toArray [t]⟩,ty,p,af,none⟩ :: rest) ⟨n,fr,obs⟩ K =
  aS C ds rest n fr K (hasL ⟨n,fr,obs⟩ [x]) (lenQ (C.bt t) (C.Γ t) (St.ev ⟨n,fr,obs⟩ x) obs) dd:=plain_eq C ds rest n fr obs K ty p af rfl (by simp only [hasAll,hasL_eq]) rfl dd
theorem X_max (dd:Option Nat) (x y:Operand) (ts:Array TypeId):aexec C ds (⟨dd,.call ⟨.builtin .max,List.toArray [x,y],ts⟩,ty,p,af,none⟩ :: rest) ⟨n,fr,obs⟩ K =
  aS C ds rest n fr K (hasL ⟨n,fr,obs⟩ [x,y]) (maxV true (St.ev ⟨n,fr,obs⟩ x) (St.ev ⟨n,fr,obs⟩ y) obs) dd:=plain_eq C ds rest n fr obs K ty p af rfl (by simp only [hasAll,hasL_eq]) rfl dd
theorem X_min (dd:Option Nat) (x y:Operand) (ts:Array TypeId):aexec C ds (⟨dd,.call ⟨.builtin .min,List.toArray [x,y],ts⟩,ty,p,af,none⟩ :: rest) ⟨n,fr,obs⟩ K =
  aS C ds rest n fr K (hasL ⟨n,fr,obs⟩ [x,y]) (maxV false (St.ev ⟨n,fr,obs⟩ x) (St.ev ⟨n,fr,obs⟩ y) obs) dd:=plain_eq C ds rest n fr obs K ty p af rfl (by simp only [hasAll,hasL_eq]) rfl dd
theorem X_copy (dd:Option Nat) (x y:Operand) (t t2:TypeId):aexec C ds (⟨dd,.call ⟨.builtin .copy,List.toArray [x,y],List.toArray [t,t2]⟩,ty,p,af,none⟩ :: rest) ⟨n,fr,obs⟩ K =
  aS C ds rest n fr K (hasL ⟨n,fr,obs⟩ [x,y]) (copyV (C.Γ t) (St.ev ⟨n,fr,obs⟩ x) (St.ev ⟨n,fr,obs⟩ y) obs) dd:=plain_eq C ds rest n fr obs K ty p af rfl (by simp only [hasAll,hasL_eq]) (by simp [astep]) dd
theorem X_append (dd:Option Nat) (x y:Operand) (t:TypeId):aexec C ds (⟨dd,.call ⟨.builtin .append,List.toArray [x,y],List.toArray [t,t]⟩,ty,p,af,none⟩ :: rest) ⟨n,fr,obs⟩ K =
  aS C ds rest n fr K (hasL ⟨n,fr,obs⟩ [x,y]) (appendV (C.Γ t) (St.ev ⟨n,fr,obs⟩ x) (St.ev ⟨n,fr,obs⟩ y) obs) dd:=plain_eq C ds rest n fr obs K ty p af rfl (by simp only [hasAll,hasL_eq]) (by simp [astep]) dd
theorem X_call (dd:Option Nat) (f:FuncId) (l:List Operand) (ts:Array TypeId):aexec C ds (⟨dd,.call ⟨.value (.func f),l.toArray,ts⟩,ty,p,af,none⟩ :: rest) ⟨n,fr,obs⟩ K =
  (inN n dd/\hasL ⟨n,fr,obs⟩ l/\ACall C obs f (evL ⟨n,fr,obs⟩ l) fun x obs'=>(ds.kp=true->Keeps obs obs')/\Later (aexec C ds rest (St.put ⟨n,fr,obs⟩ dd true x obs') K)):=by
 rw [hasL_eq,evL_eq];rfl
def aCT (dd:Option Nat) (hs:Prop) (xs:List AV):Option FuncId->Prop
 | none=>False
 | some f=>inN n dd/\hs/\ACall C obs f xs fun x obs'=>(ds.kp=true->Keeps obs obs')/\Later (aexec C ds rest (St.put ⟨n,fr,obs⟩ dd true x obs') K)
theorem X_callT (dd:Option Nat) (t:Nat) (l:List Operand) (ts:Array TypeId):aexec C ds (⟨dd,.call ⟨.value (.tmp t),l.toArray,ts⟩,ty,p,af,none⟩ :: rest) ⟨n,fr,obs⟩ K =
  aCT C ds rest n fr obs K dd (hasL ⟨n,fr,obs⟩ l) (apCap (evL ⟨n,fr,obs⟩ l) (capT (look t fr))) (fnOf (look t fr)):=by
 rw [hasL_eq,evL_eq]
 simp only [aexec,aone,calleeOf,capsOf]
 cases fnOf (look t fr) with
 | none=>simp [aCT,astep]
 | some f=>rfl
def aT (hs:Prop) (r:Res) (d:Option Nat):Option Bool->Prop
 | none=>False
 | some ex=>inN n d/\(ex=true->hs)/\aG C ds rest n fr obs d K ex r
theorem guard_iff {op:Op} (h:calleeOf ⟨n,fr,obs⟩ op=none) (hr:roOp op=true) {hs:Prop} {r:Res} (h1:hasAll ⟨n,fr,obs⟩ op=hs) (h2:astep C ⟨n,fr,obs⟩ op=r) (j:Nat) (b:Bool) (d:Option Nat) :
  aexec C ds (⟨d,op,ty,p,af,some (j,b)⟩ :: rest) ⟨n,fr,obs⟩ K=aT C ds rest n fr obs K hs r d (gexV b (lookO fr (slotOf ds.ds j))):=by
 simp only [aexec,aone,h,hr,if_true]
 rw [gex_eq]
 subst h1 h2
 cases hg:gexV b (lookO fr (slotOf ds.ds j)) with
 | none=>simp only [aT,and_false]
 | some ex=>
  simp only [aT]
  congr 1
  cases hs:astep C ⟨n,fr,obs⟩ op with
  | bad=>simp [aG]
  | ok vc x o=>simp only [aG,imp_and,and_assoc]
  | skip vc o=>simp [aG]
  | all q x o=>simp [aG]
theorem G_move (dd:Option Nat) (j:Nat) (b:Bool) (x:Operand):aexec C ds (⟨dd,.move x,ty,p,af,some (j,b)⟩ :: rest) ⟨n,fr,obs⟩ K =
  aT C ds rest n fr obs K (St.has ⟨n,fr,obs⟩ x) (.ok True (St.ev ⟨n,fr,obs⟩ x) obs) dd (gexV b (lookO fr (slotOf ds.ds j))):=by
 simp only [aexec,aone,calleeOf,roOp,if_true]
 rw [gex_eq]
 cases hg:gexV b (lookO fr (slotOf ds.ds j)) with
 | none=>simp only [aT,and_false]
 | some ex=>simp [aT,aG,astep,hasAll]
theorem G_bin (dd:Option Nat) (j:Nat) (b:Bool) (op:BinOp) (t t':TypeId) (x y:Operand):aexec C ds (⟨dd,.binOp op t x y t',ty,p,af,some (j,b)⟩ :: rest) ⟨n,fr,obs⟩ K =
  aT C ds rest n fr obs K (St.has ⟨n,fr,obs⟩ x/\St.has ⟨n,fr,obs⟩ y) (binQ (C.bt t) (C.Γ t) op (St.ev ⟨n,fr,obs⟩ x) (St.ev ⟨n,fr,obs⟩ y) obs) dd (gexV b (lookO fr (slotOf ds.ds j))):=guard_iff C ds rest n fr obs K ty p af rfl rfl rfl rfl j b dd
theorem G_un (dd:Option Nat) (j:Nat) (b:Bool) (op:UnOp) (t:TypeId) (x:Operand):aexec C ds (⟨dd,.unOp op t x,ty,p,af,some (j,b)⟩ :: rest) ⟨n,fr,obs⟩ K =
  aT C ds rest n fr obs K (St.has ⟨n,fr,obs⟩ x) (unV op (St.ev ⟨n,fr,obs⟩ x) obs) dd (gexV b (lookO fr (slotOf ds.ds j))):=guard_iff C ds rest n fr obs K ty p af rfl rfl rfl rfl j b dd
theorem G_pick (dd:Option Nat) (j:Nat) (b:Bool) (c x y:Operand):aexec C ds (⟨dd,.pick c x y,ty,p,af,some (j,b)⟩ :: rest) ⟨n,fr,obs⟩ K =
  aT C ds rest n fr obs K (St.has ⟨n,fr,obs⟩ c) (pickQ (St.has ⟨n,fr,obs⟩ x) (St.has ⟨n,fr,obs⟩ y) (St.ev ⟨n,fr,obs⟩ c) (St.ev ⟨n,fr,obs⟩ x) (St.ev ⟨n,fr,obs⟩ y) obs) dd (gexV b (lookO fr (slotOf ds.ds j))):=guard_iff C ds rest n fr obs K ty p af rfl rfl rfl (astep_pick ..) j b dd
theorem G_load (dd:Option Nat) (j:Nat) (b:Bool) (t:TypeId) (x:Operand):aexec C ds (⟨dd,.load t x,ty,p,af,some (j,b)⟩ :: rest) ⟨n,fr,obs⟩ K =
  aT C ds rest n fr obs K (St.has ⟨n,fr,obs⟩ x) (loadX (C.bt t) (C.Γ t) (C.mt t) (C.sc t) (C.wt t) (C.pt t) (St.ev ⟨n,fr,obs⟩ x) obs) dd (gexV b (lookO fr (slotOf ds.ds j))):=guard_iff C ds rest n fr obs K ty p af rfl rfl rfl rfl j b dd
theorem G_idx (dd:Option Nat) (j:Nat) (b:Bool) (t:TypeId) (x y:Operand):aexec C ds (⟨dd,.indexAddr t x y,ty,p,af,some (j,b)⟩ :: rest) ⟨n,fr,obs⟩ K =
  aT C ds rest n fr obs K (St.has ⟨n,fr,obs⟩ x/\St.has ⟨n,fr,obs⟩ y) (idxS (C.Γ t) (C.wt t) (St.ev ⟨n,fr,obs⟩ x) (St.ev ⟨n,fr,obs⟩ y) obs) dd (gexV b (lookO fr (slotOf ds.ds j))):=guard_iff C ds rest n fr obs K ty p af rfl rfl rfl rfl j b dd
theorem G_lookup (dd:Option Nat) (j:Nat) (b:Bool) (t:TypeId) (x y:Operand):aexec C ds (⟨dd,.lookup t x y false,ty,p,af,some (j,b)⟩ :: rest) ⟨n,fr,obs⟩ K =
  aT C ds rest n fr obs K (St.has ⟨n,fr,obs⟩ x/\St.has ⟨n,fr,obs⟩ y) (mlookX (C.mt t) (St.ev ⟨n,fr,obs⟩ x) (St.ev ⟨n,fr,obs⟩ y) obs) dd (gexV b (lookO fr (slotOf ds.ds j))):=guard_iff C ds rest n fr obs K ty p af rfl rfl rfl rfl j b dd
theorem G_conv (dd:Option Nat) (j:Nat) (b:Bool) (s d:TypeId) (x:Operand):aexec C ds (⟨dd,.convert s d x,ty,p,af,some (j,b)⟩ :: rest) ⟨n,fr,obs⟩ K =
  aT C ds rest n fr obs K (St.has ⟨n,fr,obs⟩ x) (cnvV (C.bt s) (C.bt d) (C.Γ s) (St.ev ⟨n,fr,obs⟩ x) obs) dd (gexV b (lookO fr (slotOf ds.ds j))):=guard_iff C ds rest n fr obs K ty p af rfl rfl rfl rfl j b dd
theorem G_six (dd:Option Nat) (j:Nat) (b:Bool) (t:TypeId) (x y:Operand):aexec C ds (⟨dd,.index t x y,ty,p,af,some (j,b)⟩ :: rest) ⟨n,fr,obs⟩ K =
  aT C ds rest n fr obs K (St.has ⟨n,fr,obs⟩ x/\St.has ⟨n,fr,obs⟩ y) (sixV (C.bt t) (St.ev ⟨n,fr,obs⟩ x) (St.ev ⟨n,fr,obs⟩ y) obs) dd (gexV b (lookO fr (slotOf ds.ds j))):=guard_iff C ds rest n fr obs K ty p af rfl rfl rfl rfl j b dd
theorem G_len (dd:Option Nat) (j:Nat) (b:Bool) (x:Operand) (t:TypeId):aexec C ds (⟨dd,.call ⟨.builtin .len,List.toArray [x],List.toArray [t]⟩,ty,p,af,some (j,b)⟩ :: rest) ⟨n,fr,obs⟩ K =
  aT C ds rest n fr obs K (hasL ⟨n,fr,obs⟩ [x]) (lenQ (C.bt t) (C.Γ t) (St.ev ⟨n,fr,obs⟩ x) obs) dd (gexV b (lookO fr (slotOf ds.ds j))):=guard_iff C ds rest n fr obs K ty p af rfl rfl (by simp only [hasAll,hasL_eq]) rfl j b dd
theorem G_slice (dd:Option Nat) (j:Nat) (b:Bool) (t:TypeId) (x:Operand) (lo hi:Option Operand):aexec C ds (⟨dd,.slice t x lo hi none,ty,p,af,some (j,b)⟩ :: rest) ⟨n,fr,obs⟩ K =
  aT C ds rest n fr obs K (St.has ⟨n,fr,obs⟩ x/\hasO ⟨n,fr,obs⟩ lo/\hasO ⟨n,fr,obs⟩ hi) (sliceT (C.wt t) (sliceQ (C.bt t) (C.Γ t) (St.ev ⟨n,fr,obs⟩ x) (lo.map (St.ev ⟨n,fr,obs⟩)) (hi.map (St.ev ⟨n,fr,obs⟩)) obs) (St.ev ⟨n,fr,obs⟩ x) (lo.map (St.ev ⟨n,fr,obs⟩)) (hi.map (St.ev ⟨n,fr,obs⟩)) obs) dd (gexV b (lookO fr (slotOf ds.ds j))):=
 guard_iff C ds rest n fr obs K ty p af rfl rfl (by simp only [hasAll,hasO_eq]) rfl j b dd
theorem G_ex (dd:Option Nat) (j:Nat) (b:Bool) (t i:Nat):aexec C ds (⟨dd,.extract (.tmp t) i,ty,p,af,some (j,b)⟩ :: rest) ⟨n,fr,obs⟩ K =
  aT C ds rest n fr obs K True (exQ (look t fr) i obs) dd (gexV b (lookO fr (slotOf ds.ds j))):=guard_iff C ds rest n fr obs K ty p af rfl rfl rfl (astep_ex ..) j b dd
def aU (dd:Option Nat) (f:FuncId) (hs:Prop) (xs:List AV):Option Bool->Prop
 | none=>False
 | some ex=>inN n dd/\(ex=true->hs)/\CallH C obs f xs ex (fun x=>Later (aexec C ds rest (St.put ⟨n,fr,obs⟩ dd ex (.v x) obs) K)) fun x obs'=>(ds.kp=true->Keeps obs obs')/\Later (aexec C ds rest (St.put ⟨n,fr,obs⟩ dd true x obs') K)
theorem G_call (dd:Option Nat) (j:Nat) (b:Bool) (f:FuncId) (l:List Operand) (ts:Array TypeId):aexec C ds (⟨dd,.call ⟨.value (.func f),l.toArray,ts⟩,ty,p,af,some (j,b)⟩ :: rest) ⟨n,fr,obs⟩ K =
  aU C ds rest n fr obs K dd f (hasL ⟨n,fr,obs⟩ l) (evL ⟨n,fr,obs⟩ l) (gexV b (lookO fr (slotOf ds.ds j))):=by
 rw [hasL_eq,evL_eq]
 simp only [aexec,aone,calleeOf]
 rw [gex_eq]
 cases hg:gexV b (lookO fr (slotOf ds.ds j)) with
 | none=>simp only [aU,and_false]
 | some ex=>rfl
end
theorem put_s (n:Nat) (fr:List (Nat×Bool×Sl)) (o obs:List O) (d:Nat) (ex:Bool) (x:Sl):St.put ⟨n,fr,o⟩ (some d) ex x obs=⟨n,(d,ex,x) :: fr,obs⟩:=rfl
theorem put_n (n:Nat) (fr:List (Nat×Bool×Sl)) (o obs:List O) (ex:Bool) (x:Sl):St.put ⟨n,fr,o⟩ none ex x obs=⟨n,fr,obs⟩:=rfl
theorem slS_some (ex:Bool) (x:Sl):slS (some (ex,x))=x:=rfl
theorem slS_none:slS none=.v .junk:=rfl
end Go.Aw
namespace Go.Aw
open Go
section
variable (b:Option BT) (gq:Option E) (k:IntKind) (x y:Int) (obs:List O)
theorem Q_add:binQ b gq .add (.int k x) (.int k y) obs=.ok True (.int k (k.wrap (x+y))) obs:=by simp [binQ,binV,binI,sameK]
theorem Q_sub:binQ b gq .sub (.int k x) (.int k y) obs=.ok True (.int k (k.wrap (x - y))) obs:=by simp [binQ,binV,binI,sameK]
theorem Q_mul:binQ b gq .mul (.int k x) (.int k y) obs=.ok True (.int k (k.wrap (x*y))) obs:=by simp [binQ,binV,binI,sameK]
theorem Q_quo:binQ b gq .quo (.int k x) (.int k y) obs=.ok (y≠0) (.int k (k.wrap (x.tdiv y))) obs:=by simp [binQ,binV,binI,sameK]
theorem Q_rem:binQ b gq .rem (.int k x) (.int k y) obs=.ok (y≠0) (.int k (x.tmod y)) obs:=by simp [binQ,binV,binI,sameK]
theorem Q_eql:binQ b gq .eql (.int k x) (.int k y) obs=.ok True (.bool (x == y)) obs:=by simp [binQ,binV,binI,sameK]
theorem Q_neq:binQ b gq .neq (.int k x) (.int k y) obs=.ok True (.bool (x != y)) obs:=by simp [binQ,binV,binI,sameK]
theorem Q_lss:binQ b gq .lss (.int k x) (.int k y) obs=.ok True (.bool (decide (x < y))) obs:=by simp [binQ,binV,binI,sameK]
theorem Q_leq:binQ b gq .leq (.int k x) (.int k y) obs=.ok True (.bool (decide (x<=y))) obs:=by simp [binQ,binV,binI,sameK]
theorem Q_gtr:binQ b gq .gtr (.int k x) (.int k y) obs=.ok True (.bool (decide (y < x))) obs:=by simp [binQ,binV,binI,sameK]
theorem Q_geq:binQ b gq .geq (.int k x) (.int k y) obs=.ok True (.bool (decide (y<=x))) obs:=by simp [binQ,binV,binI,sameK]
theorem Q_and:binQ b gq .and (.int k x) (.int k y) obs=.ok True (.int k (andI k x y)) obs:=by simp [binQ,binV,binI,sameK]
theorem Q_or:binQ b gq .or (.int k x) (.int k y) obs=.ok True (.int k (orI k x y)) obs:=by simp [binQ,binV,binI,sameK]
theorem Q_xor:binQ b gq .xor (.int k x) (.int k y) obs=.ok True (.int k (xorI k x y)) obs:=by simp [binQ,binV,binI,sameK]
theorem Q_shl (k':IntKind):binQ b gq .shl (.int k x) (.int k' y) obs=.ok (0<=y) (.int k (k.wrap (x*2 ^ min y.toNat k.bits))) obs:=by simp [binQ,binV,binI]
theorem Q_shr (k':IntKind):binQ b gq .shr (.int k x) (.int k' y) obs=.ok (0<=y) (.int k (x / 2 ^ min y.toNat k.bits)) obs:=by simp [binQ,binV,binI]
theorem Q_cnv_int (s:BT) (k':IntKind):cnvV (some s) (some (.int k')) gq (.int k x) obs=.ok True (.int k' (k'.wrap x)) obs:=rfl
theorem Q_cnv_sl (f:Bool) (xs:List Int):cnvV b (some .str) (some .byte) (.sl f .byte xs) obs=.ok True (.str (bytesOf xs)) obs:=rfl
def cnvO (g:Nat) (obs:List O):O->Res
 | .arr .byte xs g' _=>bif g == g' then .ok True (.str (bytesOf xs)) obs else .bad
 | _=>.bad
theorem Q_cnv_own (id g:Nat):cnvV b (some .str) (some .byte) (.own id g) obs=cnvO g obs (oAt obs id):=by
 rw [at_arr]
 unfold cnvV
 simp only
 cases obs[id]? with
 | none=>rfl
 | some o=>
  cases o with
  | arr e xs g' nn=>
   cases e<;>first | rfl | skip
   simp only [cnvO,and_true]
   by_cases h:g=g'
   ·subst h;simp
   ·rw [if_neg h,show(g == g')=false from by simpa using h];rfl
  | _=>rfl
theorem Q_cnvO (g g':Nat) (xs:List Int) (nn:Bool):cnvO g obs (.arr .byte xs g' nn)=bif g == g' then .ok True (.str (bytesOf xs)) obs else .bad:=rfl
theorem Q_six (s:List UInt8):sixV (some .str) (.str s) (.int k x) obs=.ok (0<=x/\x < s.length) (.int .u8 (s.getD x.toNat 0).toNat) obs:=rfl
theorem Q_beq (u v:Bool):binQ (some .bool) gq .eql (.bool u) (.bool v) obs=.ok True (.bool (u == v)) obs:=rfl
theorem Q_bne (u v:Bool):binQ (some .bool) gq .neq (.bool u) (.bool v) obs=.ok True (.bool (u != v)) obs:=rfl
theorem Q_seq (u v:List UInt8):binQ b gq .eql (.str u) (.str v) obs=.ok True (.bool (u == v)) obs:=rfl
theorem Q_sne (u v:List UInt8):binQ b gq .neq (.str u) (.str v) obs=.ok True (.bool (u != v)) obs:=rfl
theorem Q_sadd (u v:List UInt8):binQ b gq .add (.str u) (.str v) obs=.ok (u.length+v.length<=maxLen) (.str (u ++ v)) obs:=rfl
theorem Q_neg:unV .neg (.int k x) obs=.ok True (.int k (k.wrap (0 - x))) obs:=rfl
theorem Q_not (u:Bool):unV .not (.bool u) obs=.ok True (.bool !u) obs:=rfl
theorem Q_max (k':IntKind):maxV true (.int k x) (.int k' y) obs=.ok True (.int k (if y > x then y else x)) obs:=rfl
theorem Q_min (k':IntKind):maxV false (.int k x) (.int k' y) obs=.ok True (.int k (if y < x then y else x)) obs:=rfl
theorem Q_pick (p q:Prop) (t u v:Bool):pickQ p q (.bool t) (.bool u) (.bool v) obs=.ok ((t=true->p)/\(t=false->q)) (.bool (bif t then u else v)) obs:=rfl
end
section
variable (b:Option BT) (g:Option E) (e e2:E) (f:Bool) (obs:List O)
theorem Q_len_sl (xs:List e2.D):lenQ b (some e) (.sl f e2 xs) obs=.ok True (.int .i64 xs.length) obs:=by cases b<;>rfl
theorem Q_len_lr (l:Nat) (xs:List Int):lenQ b (some e) (.lr l xs) obs=.ok True (.int .i64 xs.length) obs:=by cases b<;>rfl
theorem Q_len_nil:lenQ b (some e) .nils obs=.ok True (.int .i64 0) obs:=by cases b<;>rfl
theorem Q_len_own (id gg:Nat):lenQ b (some e) (.own id gg) obs=lenO gg obs (oAt obs id):=by rw [<- lenV_own];cases b<;>rfl
theorem Q_len_str (s:List UInt8):lenQ (some .str) g (.str s) obs=.ok True (.int .i64 s.length) obs:=rfl
theorem Q_lenO (gg g':Nat) (nn:Bool) (xs:List e.D):lenO gg obs (.arr e xs g' nn)=bif gg == g' then .ok True (.int .i64 xs.length) obs else .bad:=rfl
theorem Q_idx_sl (k:IntKind) (n:Int) (xs:List e.D):idxV (some e2) (.sl f e xs) (.int k n) obs=bif e.size == e2.size then .ok (0<=n/\n < xs.length) (.relt f e (xs.getD n.toNat e.dflt)) obs else .bad:=by
 by_cases h:e.size=e2.size<;>simp [idxV,h,Bool.cond_eq_ite]
theorem Q_idx_lr (k:IntKind) (n:Int) (l:Nat) (xs:List Int):idxV (some e2) (.lr l xs) (.int k n) obs=bif e2.size == 1 then .ok (0<=n/\n < xs.length) (.relt true .int (xs.getD n.toNat 0)) obs else .bad:=by
 by_cases h:e2.size=1<;>simp [idxV,h,Bool.cond_eq_ite]
theorem Q_idxO (id gg g':Nat) (n:Int) (nn:Bool) (xs:List e.D):idxO e2 id gg n obs (.arr e xs g' nn)=bif gg == g' && (e.size == e2.size)then .ok (0<=n/\n < xs.length) (.elt id gg e.size n.toNat) obs else .bad:=rfl
theorem Q_load (d:e.D):loadV true (.relt f e d) obs=bif e.size == 1 then .ok True (ofE e d) obs else .bad:=by
 by_cases h:e.size=1<;>simp [loadV,h,Bool.cond_eq_ite]
theorem Q_loadO (sc:Bool) (gg g' s k:Nat) (nn:Bool) (xs:List e.D):loadO sc gg s k obs (.arr e xs g' nn)=bif gg == g' && (s == e.size) && sc && (e.size == 1)then .ok True (ofE e (xs.getD k e.dflt)) obs else .bad:=rfl
theorem Q_ofE_int (d:Int):ofE .int d=.int .i64 d:=rfl
theorem Q_ofE_byte (d:Int):ofE .byte d=.int .u8 d:=rfl
theorem Q_ofE_bool (d:Bool):ofE .bool d=.bool d:=rfl
theorem Q_ofE_str (d:List UInt8):ofE .str d=.str d:=rfl
theorem Q_ofE_row (d:List Int):ofE (.row f) d=.sl f .int d:=rfl
theorem Q_ofE_lrow (d:Nat×List Int):ofE .lrow d=.lr d.1 d.2:=rfl
theorem Q_ofE_vec (d:List Int):ofE .vec d=.vec d:=rfl
theorem Q_st_int (sc:Bool) (x:AV) (k:IntKind) (n:Int):storeQ sc x (.int k n) obs=storeV sc x (.int k n) obs:=rfl
theorem Q_st_bool (sc:Bool) (x:AV) (n:Bool):storeQ sc x (.bool n) obs=storeV sc x (.bool n) obs:=rfl
theorem Q_st_sl (sc:Bool) (x:AV) (xs:List e.D):storeQ sc x (.sl f e xs) obs=storeV sc x (.sl f e xs) obs:=rfl
theorem Q_st_lr (sc:Bool) (x:AV) (l:Nat) (xs:List Int):storeQ sc x (.lr l xs) obs=storeV sc x (.lr l xs) obs:=rfl
theorem Q_storeO (sc:Bool) (id gg g' s k:Nat) (nn:Bool) (xs:List e.D) (y:AV):storeO sc id gg s k y obs (.arr e xs g' nn)=bif gg == g' && (s == e.size) && sc && (e.size == 1)then stE id k gg nn e xs obs (toQ e y)else .bad:=rfl
theorem Q_stE (id k gg:Nat) (nn:Bool) (xs:List e.D) (d:e.D):stE id k gg nn e xs obs (.yes d)=.skip True (oSet obs id (.arr e (xs.set k d) gg nn)):=rfl
theorem Q_toE_int (n:Int):toQ .int (.int .i64 n)=.yes n:=rfl
theorem Q_toE_byte (n:Int):toQ .byte (.int .u8 n)=.yes n:=rfl
theorem Q_toE_bool (n:Bool):toQ .bool (.bool n)=.yes n:=rfl
theorem Q_toE_str (n:List UInt8):toQ .str (.str n)=.yes n:=rfl
theorem Q_toE_row1 (xs:List Int):toQ (.row true) (.sl true .int xs)=.yes xs:=rfl
theorem Q_toE_row2 (l:Nat) (xs:List Int):toQ (.row true) (.lr l xs)=.yes xs:=rfl
theorem Q_toE_row3 (xs:List Int):toQ (.row false) (.sl f .int xs)=.yes xs:=rfl
theorem Q_toE_row4 (l:Nat) (xs:List Int):toQ (.row false) (.lr l xs)=.yes xs:=rfl
theorem Q_toE_lrow (l:Nat) (xs:List Int):toQ .lrow (.lr l xs)=.yes (l,xs):=rfl
theorem Q_make_int (k k':IntKind) (n m:Int):makeV (some .int) (.int k n) (.int k' m) obs=.ok (n=m/\0<=n/\8*n<=281474976710656) (.own obs.length 0) (obs ++ [.arr .int (List.replicate n.toNat (0:Int)) 0 true]):=rfl
theorem Q_make_byte (k k':IntKind) (n m:Int):makeV (some .byte) (.int k n) (.int k' m) obs=.ok (n=m/\0<=n/\1*n<=281474976710656) (.own obs.length 0) (obs ++ [.arr .byte (List.replicate n.toNat (0:Int)) 0 true]):=rfl
theorem Q_make_bool (k k':IntKind) (n m:Int):makeV (some .bool) (.int k n) (.int k' m) obs=.ok (n=m/\0<=n/\1*n<=281474976710656) (.own obs.length 0) (obs ++ [.arr .bool (List.replicate n.toNat false) 0 true]):=rfl
theorem Q_make_str (k k':IntKind) (n m:Int):makeV (some .str) (.int k n) (.int k' m) obs=.ok (n=m/\0<=n/\16*n<=281474976710656) (.own obs.length 0) (obs ++ [.arr .str (List.replicate n.toNat ([]:List UInt8)) 0 true]):=rfl
theorem Q_make_row (k k':IntKind) (n m:Int):makeV (some .lrow) (.int k n) (.int k' m) obs=.ok (n=m/\0<=n/\24*n<=281474976710656) (.own obs.length 0) (obs ++ [.mat (List.replicate n.toNat none) (List.replicate n.toNat []) 0 true]):=rfl
theorem Q_lenM (gg g':Nat) (nn:Bool) (hs:List (Option Nat)) (rows:List (List Int)):lenO gg obs (.mat hs rows g' nn)=bif gg == g' then .ok True (.int .i64 rows.length) obs else .bad:=rfl
theorem Q_idxM (id gg g':Nat) (n:Int) (nn:Bool) (hs:List (Option Nat)) (rows:List (List Int)):idxO e2 id gg n obs (.mat hs rows g' nn)=bif gg == g' && (e2.size == 1)then .ok (0<=n/\n < rows.length) (.elt id gg 1 n.toNat) obs else .bad:=rfl
theorem Q_loadM (sc:Bool) (gg g' s k:Nat) (nn:Bool) (hs:List (Option Nat)) (rows:List (List Int)):loadO sc gg s k obs (.mat hs rows g' nn)=bif gg == g' && (s == 1) && sc then .ok True (.hdr (hs.getD k none) (rows.getD k []).length) obs else .bad:=rfl
theorem Q_st_own (sc:Bool) (x:AV) (l g:Nat):storeQ sc x (.own l g) obs=storeV sc x (.own l g) obs:=rfl
theorem Q_storeM (sc:Bool) (id gg g' s k:Nat) (nn:Bool) (hs:List (Option Nat)) (rows:List (List Int)) (y:AV):storeO sc id gg s k y obs (.mat hs rows g' nn)=bif gg == g' && (s == 1) && sc then stR id k hs rows gg nn obs y else .bad:=rfl
theorem Q_stR (id k id2 g2 gg:Nat) (nn:Bool) (hs:List (Option Nat)) (rows:List (List Int)):stR id k hs rows gg nn obs (.own id2 g2)=stM id id2 g2 k hs rows gg nn obs (oAt obs id2):=rfl
theorem Q_stM (id k id2 g2 gg g':Nat) (nn:Bool) (hs:List (Option Nat)) (rows:List (List Int)) (xs:List Int):stM id id2 g2 k hs rows gg nn obs (.arr .int xs g' true) =
  bif g2 == g' then .all (fun _=>True) (fun _=>.junk) (fun h=>oSet (oSet obs id2 .dead) id (.mat (hs.set k (some h)) (rows.set k xs) gg nn))else .bad:=rfl
theorem Q_lenG (D:List Nat) (F:Nat->List Int) (hs:List Nat) (gg g':Nat) (nn:Bool):lenO gg obs (.gm D F hs g' nn)=bif gg == g' then .ok True (.int .i64 hs.length) obs else .bad:=rfl
theorem Q_idxG (D:List Nat) (F:Nat->List Int) (hs:List Nat) (id gg g':Nat) (n:Int) (nn:Bool):idxO e2 id gg n obs (.gm D F hs g' nn)=bif gg == g' && (e2.size == 1)then .ok (0<=n/\n < hs.length) (.elt id gg 1 n.toNat) obs else .bad:=rfl
theorem Q_loadG (D:List Nat) (F:Nat->List Int) (hs:List Nat) (sc:Bool) (gg g' s k:Nat) (nn:Bool):loadO sc gg s k obs (.gm D F hs g' nn)=bif gg == g' && (s == 1) && sc then .ok True (.hdr (some (hs.getD k 0)) (F (hs.getD k 0)).length) obs else .bad:=rfl
theorem Q_storeG (D:List Nat) (F:Nat->List Int) (hs:List Nat) (sc:Bool) (id gg g' s k:Nat) (nn:Bool) (y:AV):storeO sc id gg s k y obs (.gm D F hs g' nn)=bif gg == g' && (s == 1) && sc then stH id k D F hs gg nn obs y else .bad:=rfl
theorem Q_stH (D:List Nat) (F:Nat->List Int) (hs:List Nat) (id k h m gg:Nat) (nn:Bool):stH id k D F hs gg nn obs (.hdr (some h) m)=.skip (h∈D/\m=(F h).length) (oSet obs id (.gm D F (hs.set k h) gg nn)):=rfl
theorem Q_st_hdr (sc:Bool) (x:AV) (h:Option Nat) (m:Nat):storeQ sc x (.hdr h m) obs=storeV sc x (.hdr h m) obs:=rfl
theorem Q_len_hdr (h m:Nat):lenQ b (some e) (.hdr (some h) m) obs=.ok True (.int .i64 m) obs:=by cases b<;>rfl
theorem Q_idx_hdr (k:IntKind) (n:Int) (h m:Nat):idxV (some e2) (.hdr (some h) m) (.int k n) obs=bif e2.size == 1 then .ok (0<=n/\n < m) (.hp h n.toNat) obs else .bad:=by
 by_cases h:e2.size=1<;>simp [idxV,h,Bool.cond_eq_ite]
theorem Q_load_hp (h k:Nat) (D:List Nat) (F:Nat->List Int) (hs:List Nat) (gg:Nat) (nn:Bool) (r:List O):loadV true (.hp h k) (.gm D F hs gg nn :: r)=.ok (h∈D/\k < (F h).length) (.int .i64 ((F h).getD k 0)) (.gm D F hs gg nn :: r):=rfl
theorem Q_store_hp (h k:Nat) (n:Int) (D:List Nat) (F:Nat->List Int) (hs:List Nat) (gg:Nat) (nn:Bool) (r:List O):storeV true (.hp h k) (.int .i64 n) (.gm D F hs gg nn :: r)=.skip (h∈D/\k < (F h).length) (.gm D (updF F h k n) hs gg nn :: r):=rfl
theorem Q_cpO (id gg g':Nat) (nn:Bool) (xs:List Int) (x:AV):cpO id gg x obs (.arr .int xs g' nn)=bif gg == g' then cpE id gg nn xs obs (srcQ .int x obs (some id))else .bad:=rfl
theorem Q_cpE (id gg:Nat) (nn:Bool) (xs zs:List Int):cpE id gg nn xs obs (.yes zs)=.ok True (.int .i64 (min zs.length xs.length:Nat)) (oSet obs id (.arr .int (zs.take xs.length ++ xs.drop zs.length) gg nn)):=rfl
theorem Q_nil_sl (b:Option BT) (e2:E) (f:Bool) (xs:List e.D):binQ b (some e2) .eql (.sl f e xs) .nils obs=.ok (xs≠[]) (.bool false) obs:=by cases b<;>rfl
theorem Q_nil_emp (b:Option BT) (e2:E) (t:Bool):binQ b (some e2) .eql (.emp t) .nils obs=.ok True (.bool t) obs:=by cases b<;>rfl
theorem Q_nil_nil (b:Option BT) (e2:E):binQ b (some e2) .eql .nils .nils obs=.ok True (.bool true) obs:=by cases b<;>rfl
theorem Q_len_emp (b:Option BT) (e2:E) (t:Bool):lenQ b (some e2) (.emp t) obs=.ok True (.int .i64 0) obs:=by cases b<;>rfl
theorem Q_len_lenv (b:Option BT) (e2:E) (n:Nat):lenQ b (some e2) (.lenv n) obs=.ok True (.int .i64 n) obs:=by cases b<;>rfl
theorem Q_src_emp (e2:E) (no:Option Nat) (t:Bool):srcQ e2 (.emp t) obs no=.yes []:=rfl
def seqF:Nat->List (Nat×AV)->Nat->Bool
 | i,[],n=>i == n
 | i,p :: l,n=>(p.1 == i) && seqF (i+1) l n
def partV:List (Nat×AV)->List AV
 | []=>[]
 | p :: l=>p.2 :: partV l
theorem partV_eq:∀ l:List (Nat×AV),partV l=l.map (·.2)
 | []=>rfl
 | p :: l=>by simp [partV,partV_eq l]
theorem seqF_eq:∀(l:List (Nat×AV)) (i n:Nat),seqF i l n=true↔l.map (·.1)=List.range' i (n - i)/\i<=n
 | [],i,n=>by
  simp only [seqF,beq_iff_eq,List.map_nil]
  constructor
  ·rintro rfl;simp
  ·rintro⟨h,h1⟩
   have:=congrArg List.length h
   simp at this
   omega
 | p :: l,i,n=>by
  simp only [seqF,bAnd,beq_iff_eq,seqF_eq l (i+1) n,List.map_cons]
  constructor
  ·rintro⟨h,h1,h2⟩
   have:n - i=(n - (i+1))+1:=by omega
   rw [this,List.range'_succ,h1,h]
   exact⟨rfl,by omega⟩
  ·rintro⟨h,h1⟩
   have hl:=congrArg List.length h
   simp at hl
   have:n - i=(n - (i+1))+1:=by omega
   rw [this,List.range'_succ]at h
   simp only [List.cons.injEq]at h
   exact⟨h.1,h.2,by omega⟩
def strOk:List AV->Prop
 | []=>True
 | .str s :: l=>s.length<=maxLen/\strOk l
 | _ :: l=>strOk l
theorem strOk_eq:∀ l:List AV,strOk l↔∀ s,AV.str s∈l->s.length<=maxLen
 | []=>by simp [strOk]
 | x :: l=>by
  cases x<;>simp [strOk,strOk_eq l,or_imp,forall_and]
def allQ (e:E) (obs:List O) (vc:Prop):OL e->Res
 | .yes l=>.ok vc (.own obs.length 0) (obs ++ [.arr e l 0 true])
 | .no=>.bad
def rowsQ:Option (List (List Int)×List O)->List O->Res
 | some (l,obs'),obs=>.ok True (.own obs.length 0) (obs' ++ [.arr (.row false) l 0 true])
 | none,_=>.bad
def ownRowQ (id gg:Nat) (obs:List O):O->Res
 | .arr .int xs g' true=>bif gg == g' then .all (FreshL obs) (fun _=>.own obs.length 0) (fun l=>oSet obs id .dead ++ [.arr .lrow [(l,xs)] 0 true])else .bad
 | _=>.bad
def buildR (obs:List O):List AV->Res
 | []=>.ok True (.own obs.length 0) (obs ++ [.arr .lrow [] 0 true])
 | [.lr l xs]=>.ok True (.own obs.length 0) (obs ++ [.arr .lrow [(l,xs)] 0 true])
 | [.sl true .int xs]=>.ok True (.own obs.length 0) (obs ++ [.arr (.row true) [xs] 0 true])
 | [.own id g]=>ownRowQ id g obs (oAt obs id)
 | l=>rowsQ (rowsOf l obs) obs
def buildQ (e:E) (n:Nat) (parts:List (Nat×AV)) (obs:List O):Res:=
 bif seqF 0 parts n && (Nat.ble n 1000) then
  match e with
  | .lrow=>buildR obs (partV parts)
  | e=>allQ e obs (strOk (partV parts)) (allEQ e (partV parts))
 else .bad
theorem buildV_eq (e:E) (n:Nat) (parts:List (Nat×AV)) (obs:List O):buildV (some e) n parts obs=buildQ e n parts obs:=by
 have hb:(seqF 0 parts n && (Nat.ble n 1000))=decide (parts.map (·.1)=List.range n/\n<=1000):=by
  rw [Bool.eq_iff_iff]
  simp [seqF_eq,List.range_eq_range',and_assoc]
 simp only [buildV,buildQ,hb]
 by_cases hP:parts.map (·.1)=List.range n/\n<=1000
 ·rw [if_pos hP,decide_eq_true hP,cond_true]
  by_cases he:e=.lrow
  ·subst he
   rw [if_pos rfl]
   simp only [partV_eq]
   have hrows:∀ l:List AV,(match rowsOf l obs with | some (l,obs')=>Res.ok True (.own obs.length 0) (obs' ++ [.arr (.row false) l 0 true]) | none=>.bad)=rowsQ (rowsOf l obs) obs:=fun l=>by
    rcases rowsOf l obs with _ | ⟨a,b⟩<;>rfl
   match parts with
   | []=>rfl
   | [(a,x)]=>
    have hx:=hrows [x]
    cases x with
    | sl f e xs=>cases e<;>cases f<;>first | rfl | exact hx
    | own id g=>
     simp only [List.map_cons,List.map_nil,buildR]
     rw [at_arr]
     cases h:obs[id]? with
     | none=>rfl
     | some o=>cases o with
      | dead=>rfl
      | mat _ _ _ _=>rfl
      | gm _ _ _ _ _=>rfl
      | mp _ _ _=>rfl
      | ap _ _ _ _ _=>rfl
      | cur _ _=>rfl
      | bag _ _=>rfl
      | arr e xs g' nn=>cases e<;>cases nn<;>first | rfl | (by_cases hg:g=g'<;>simp [ownRowQ,hg,oSet_eq,Bool.cond_eq_ite])
    | lr l xs=>rfl
    | _=>exact hx
   | (a,x) :: (b,y) :: l=>
    have hx:=hrows (x :: y :: l.map (·.2))
    cases x with
    | sl f e xs=>cases e<;>cases f<;>exact hx
    | _=>exact hx
  ·rw [if_neg he]
   have hall:∀ o:Option (List e.D),(match o with | some l=>Res.ok (∀ s,AV.str s∈parts.map (·.2)->s.length<=maxLen) (.own obs.length 0) (obs ++ [.arr e l 0 true]) | none=>.bad)=allQ e obs (strOk (partV parts)) (.of o):=fun o=>by
    have:(∀ s,AV.str s∈parts.map (·.2)->s.length<=maxLen)=strOk (partV parts):=by rw [strOk_eq,partV_eq]
    cases o with
    | none=>rfl
    | some l=>simp only [allQ,<- this,OL.of]
   have hx:=hall (allE e (parts.map (·.2)))
   rw [<- partV_eq]at hx ⊢
   cases e<;>first | exact absurd rfl he | exact hx
 ·rw [if_neg hP,decide_eq_false hP];rfl
end
end Go.Aw
namespace Go.Aw
open Go
section
variable (b:Option BT) (e e2:E) (f:Bool) (obs:List O)
theorem Q_apO (id gg g':Nat) (x:AV) (nn:Bool) (xs:List e2.D):apO e id gg x obs (.arr e2 xs g' nn)=bif gg == g' && decide (e2.fam=e.fam)then apE id gg nn e e2 xs obs (srcQ e2 x obs (some id))else .bad:=rfl
theorem Q_apE (id gg:Nat) (nn:Bool) (xs ys:List e2.D):apE id gg nn e e2 xs obs (.yes ys)=.ok ((xs.length+ys.length)*e.bytes<=140737488355328) (.own id (gg+1)) (oSet obs id (.arr e2 (xs ++ ys) (gg+1) (nn || !ys.isEmpty))):=rfl
theorem Q_apN (ys:List e.D):apN e obs (.yes ys)=.ok (ys.length*e.bytes<=140737488355328) (.own obs.length 0) (obs ++ [.arr e ys 0 (!ys.isEmpty)]):=rfl
theorem Q_src_sl (no:Option Nat) (xs:List e2.D):srcQ e (.sl f e2 xs) obs no=convQ e e2 xs:=rfl
theorem Q_src_lr (no:Option Nat) (l:Nat) (xs:List Int):srcQ e (.lr l xs) obs no=convQ e .int xs:=rfl
theorem Q_src_nil (no:Option Nat):srcQ e .nils obs no=.yes []:=rfl
theorem Q_srO (gg g':Nat) (nn:Bool) (xs:List e2.D):srO e gg (.arr e2 xs g' nn)=bif gg == g' then convQ e e2 xs else .no:=rfl
theorem Q_cv_int (ys:List Int):convQ .int .int ys=.yes ys:=rfl
theorem Q_cv_byte (ys:List Int):convQ .byte .byte ys=.yes ys:=rfl
theorem Q_cv_bool (ys:List Bool):convQ .bool .bool ys=.yes ys:=rfl
theorem Q_cv_str (ys:List (List UInt8)):convQ .str .str ys=.yes ys:=rfl
theorem Q_cv_row1 (ys:List (List Int)):convQ (.row true) (.row true) ys=.yes ys:=rfl
theorem Q_cv_row2 (ys:List (Nat×List Int)):convQ (.row true) .lrow ys=.yes (ys.map (·.2)):=rfl
theorem Q_cv_row3 (ys:List (List Int)):convQ (.row false) (.row f) ys=.yes ys:=rfl
theorem Q_cv_row4 (ys:List (Nat×List Int)):convQ (.row false) .lrow ys=.yes (ys.map (·.2)):=rfl
theorem Q_cv_lrow (ys:List (Nat×List Int)):convQ .lrow .lrow ys=.yes ys:=rfl
theorem Q_cv_vec (ys:List (List Int)):convQ .vec .vec ys=.yes ys:=rfl
theorem Q_slice_sl (lo hi:Option AV) (xs:List e2.D):sliceQ b (some e) (.sl f e2 xs) lo hi obs=bif e2.size == e.size then sliceV (.sl f e2 xs) lo hi obs else .bad:=by
 by_cases h:e2.size=e.size<;>cases b<;>simp [sliceQ,h,Bool.cond_eq_ite]
theorem Q_slice_lr (lo hi:Option AV) (l:Nat) (xs:List Int):sliceQ b (some e) (.lr l xs) lo hi obs=bif e.size == 1 then sliceV (.lr l xs) lo hi obs else .bad:=by
 by_cases h:e.size=1<;>cases b<;>simp [sliceQ,h,Bool.cond_eq_ite]
theorem Q_slice_str (g:Option E) (lo hi:Option AV) (s:List UInt8):sliceQ (some .str) g (.str s) lo hi obs=sliceV (.str s) lo hi obs:=rfl
def sQ (obs:List O) (len:Nat) (mk:Int->Int->AV):Option Int->Option Int->Res
 | some l,some h=>.ok (0<=l/\l<=h/\h<=len) (mk l h) obs
 | _,_=>.bad
theorem Q_sl_sl (lo hi:Option AV) (xs:List e2.D):sliceV (.sl f e2 xs) lo hi obs=sQ obs xs.length (fun l h=>.sl f e2 ((xs.drop l.toNat).take (h.toNat - l.toNat))) (bnd 0 lo) (bnd xs.length hi):=by
 simp only [sliceV];cases bnd 0 lo<;>cases bnd xs.length hi<;>rfl
theorem Q_sl_lr (lo hi:Option AV) (l:Nat) (xs:List Int):sliceV (.lr l xs) lo hi obs=sQ obs xs.length (fun l h=>.sl true .int ((xs.drop l.toNat).take (h.toNat - l.toNat))) (bnd 0 lo) (bnd xs.length hi):=by
 simp only [sliceV];cases bnd 0 lo<;>cases bnd xs.length hi<;>rfl
theorem Q_sl_str (lo hi:Option AV) (xs:List UInt8):sliceV (.str xs) lo hi obs=sQ obs xs.length (fun l h=>.str ((xs.drop l.toNat).take (h.toNat - l.toNat))) (bnd 0 lo) (bnd xs.length hi):=by
 simp only [sliceV];cases bnd 0 lo<;>cases bnd xs.length hi<;>rfl
theorem Q_sQ (len:Nat) (mk:Int->Int->AV) (l h:Int):sQ obs len mk (some l) (some h)=.ok (0<=l/\l<=h/\h<=len) (mk l h) obs:=rfl
theorem Q_bnd0 (d:Int):bnd d none=some d:=rfl
theorem Q_bnd1 (d n:Int) (k:IntKind):bnd d (some (.int k n))=some n:=rfl
theorem Q_omap0 (g:Operand->AV):(none:Option Operand).map g=none:=rfl
theorem Q_omap1 (g:Operand->AV) (x:Operand):(some x).map g=some (g x):=rfl
def exL (obs:List O):List AV->Nat->Res
 | [],_=>.bad
 | v :: l,i=>bif i == 0 then .ok True v obs else exL obs l (i - 1)
theorem exL_eq:∀(l:List AV) (i:Nat),exQ (some (true,.t l)) i obs=exL obs l i
 | [],i=>by simp [exL,exQ]
 | v :: l,i=>by
  cases i with
  | zero=>simp [exL,exQ]
  | succ i=>simpa [exL,exQ] using exL_eq l i
end
section
variable (C:Ctx) (ds:Rg) (rest:List Oper) (n:Nat) (fr:List (Nat×Bool×Sl)) (obs o:List O) (K:St->Prop) (d:Nat) (hs:Prop)
theorem S_ok (vc:Prop) (x:AV):aS C ds rest n fr K hs (.ok vc x obs) (some d)=(d < n/\hs/\vc/\aexec C ds rest ⟨n,(d,true,.v x) :: fr,obs⟩ K):=rfl
theorem S_ok0 (vc:Prop) (x:AV):aS C ds rest n fr K hs (.ok vc x obs) none=(hs/\vc/\aexec C ds rest ⟨n,fr,obs⟩ K):=by simp [aS,aR,inN,St.put]
theorem S_skip (vc:Prop):aS C ds rest n fr K hs (.skip vc obs) none=(hs/\vc/\aexec C ds rest ⟨n,fr,obs⟩ K):=by simp [aS,aR,inN]
theorem S_all (q:Nat->Prop) (x:Nat->AV) (os:Nat->List O):aS C ds rest n fr K hs (.all q x os) (some d)=(d < n/\hs/\∀ l,q l->aexec C ds rest ⟨n,(d,true,.v (x l)) :: fr,os l⟩ K):=rfl
theorem S_all0 (q:Nat->Prop) (x:Nat->AV) (os:Nat->List O):aS C ds rest n fr K hs (.all q x os) none=(hs/\∀ l,q l->aexec C ds rest ⟨n,fr,os l⟩ K):=by simp [aS,aR,inN,St.put]
theorem T_ok (vc:Prop) (x:AV) (ex:Bool):aT C ds rest n fr obs K hs (.ok vc x o) (some d) (some ex)=(d < n/\(ex=true->hs)/\(ex=true->vc)/\aexec C ds rest ⟨n,(d,ex,.v x) :: fr,obs⟩ K):=rfl
theorem U_ok (f:FuncId) (xs:List AV) (ex:Bool):aU C ds rest n fr obs K (some d) f hs xs (some ex)=(d < n/\(ex=true->hs)/\CallH C obs f xs ex (fun x=>Later (aexec C ds rest ⟨n,(d,ex,.v x) :: fr,obs⟩ K)) fun x obs'=>(ds.kp=true->Keeps obs obs')/\Later (aexec C ds rest ⟨n,(d,true,x) :: fr,obs'⟩ K)):=rfl
end
theorem hasL_nil (σ:St):hasL σ []=True:=rfl
theorem hasL_cons (σ:St) (x:Operand) (l:List Operand):hasL σ (x :: l)=(σ.has x/\hasL σ l):=rfl
theorem evL_nil (σ:St):evL σ []=[]:=rfl
theorem evL_cons (σ:St) (x:Operand) (l:List Operand):evL σ (x :: l)=σ.ev x :: evL σ l:=rfl
theorem hasP_nil (σ:St):hasP σ []=True:=rfl
theorem hasP_cons (σ:St) (x:Nat×Operand) (l:List (Nat×Operand)):hasP σ (x :: l)=(σ.has x.2/\hasP σ l):=rfl
theorem evP_nil (σ:St):evP σ []=[]:=rfl
theorem evP_cons (σ:St) (i:Nat) (x:Operand) (l:List (Nat×Operand)):evP σ ((i,x) :: l)=(i,σ.ev x) :: evP σ l:=rfl
theorem hasO_none (σ:St):hasO σ none=True:=rfl
theorem hasO_some (σ:St) (x:Operand):hasO σ (some x)=σ.has x:=rfl
theorem oAt_cons (o:O) (r:List O) (k:Nat):oAt (o :: r) k=bif k == 0 then o else oAt r (k - 1):=rfl
theorem oSet_cons (o:O) (r:List O) (k:Nat) (x:O):oSet (o :: r) k x=bif k == 0 then x :: r else o :: oSet r (k - 1) x:=rfl
theorem resSl_one (n:Nat) (x:AV):resSl n [x]=.v (shiftAV n x):=rfl
theorem resSl_two (n:Nat) (x y:AV):resSl n [x,y]=.t [shiftAV n x,shiftAV n y]:=rfl
theorem resSl_three (n:Nat) (x y z:AV):resSl n [x,y,z]=.t [shiftAV n x,shiftAV n y,shiftAV n z]:=rfl
theorem resSl_zero (n:Nat):resSl n []=.t []:=rfl
theorem shift_own (n id g:Nat):shiftAV n (.own id g)=.own (n+id) g:=rfl
theorem shift_int (n:Nat) (k:IntKind) (x:Int):shiftAV n (.int k x)=.int k x:=rfl
theorem shift_bool (n:Nat) (x:Bool):shiftAV n (.bool x)=.bool x:=rfl
theorem shift_str (n:Nat) (x:List UInt8):shiftAV n (.str x)=.str x:=rfl
theorem shift_sl (n:Nat) (f:Bool) (e:E) (x:List e.D):shiftAV n (.sl f e x)=.sl f e x:=rfl
theorem shift_lr (n l:Nat) (x:List Int):shiftAV n (.lr l x)=.lr l x:=rfl
theorem shift_nils (n:Nat):shiftAV n .nils=.nils:=rfl
theorem shift_vec (n:Nat) (x:List Int):shiftAV n (.vec x)=.vec x:=rfl
theorem shift_fn (n f:Nat):shiftAV n (.fn f)=.fn f:=rfl
theorem buildQ_row (n:Nat) (parts:List (Nat×AV)) (obs:List O):buildQ .lrow n parts obs=bif seqF 0 parts n && (Nat.ble n 1000)then buildR obs (partV parts)else .bad:=by
 simp [buildQ,E.size]
theorem buildQ_int (n:Nat) (parts:List (Nat×AV)) (obs:List O):buildQ .int n parts obs=bif seqF 0 parts n && (Nat.ble n 1000)then allQ .int obs (strOk (partV parts)) (allEQ .int (partV parts))else .bad:=by
 simp [buildQ,E.size]
theorem buildQ_byte (n:Nat) (parts:List (Nat×AV)) (obs:List O):buildQ .byte n parts obs=bif seqF 0 parts n && (Nat.ble n 1000)then allQ .byte obs (strOk (partV parts)) (allEQ .byte (partV parts))else .bad:=by
 simp [buildQ,E.size]
theorem buildQ_str (n:Nat) (parts:List (Nat×AV)) (obs:List O):buildQ .str n parts obs=bif seqF 0 parts n && (Nat.ble n 1000)then allQ .str obs (strOk (partV parts)) (allEQ .str (partV parts))else .bad:=by
 simp [buildQ,E.size]
theorem buildQ_bool (n:Nat) (parts:List (Nat×AV)) (obs:List O):buildQ .bool n parts obs=bif seqF 0 parts n && (Nat.ble n 1000)then allQ .bool obs (strOk (partV parts)) (allEQ .bool (partV parts))else .bad:=by
 simp [buildQ,E.size]
theorem seqF_nil (i n:Nat):seqF i [] n=(i == n):=rfl
theorem seqF_cons (i k:Nat) (x:AV) (l:List (Nat×AV)) (n:Nat):seqF i ((k,x) :: l) n=((k == i) && seqF (i+1) l n):=rfl
theorem partV_nil:partV []=[]:=rfl
theorem partV_cons (k:Nat) (x:AV) (l:List (Nat×AV)):partV ((k,x) :: l)=x :: partV l:=rfl
theorem strOk_nil:strOk []=True:=rfl
theorem strOk_int (k:IntKind) (x:Int) (l:List AV):strOk (.int k x :: l)=strOk l:=rfl
theorem strOk_bool (x:Bool) (l:List AV):strOk (.bool x :: l)=strOk l:=rfl
theorem strOk_str (x:List UInt8) (l:List AV):strOk (.str x :: l)=(x.length<=maxLen/\strOk l):=rfl
def allC (e:E):OD e->OL e->OL e
 | .yes d,.yes l=>.yes (d :: l)
 | _,_=>.no
theorem allE_nil (e:E):allEQ e []=.yes []:=rfl
theorem allE_cons (e:E) (x:AV) (r:List AV):allEQ e (x :: r)=allC e (toQ e x) (allEQ e r):=by
 simp only [allEQ,toQ,allE];cases toE e x<;>cases allE e r<;>rfl
theorem allC_some (e:E) (d:e.D) (l:List e.D):allC e (.yes d) (.yes l)=.yes (d :: l):=rfl
theorem allQ_some (e:E) (obs:List O) (vc:Prop) (l:List e.D):allQ e obs vc (.yes l)=.ok vc (.own obs.length 0) (obs ++ [.arr e l 0 true]):=rfl
theorem buildR_nil (obs:List O):buildR obs []=.ok True (.own obs.length 0) (obs ++ [.arr .lrow [] 0 true]):=rfl
theorem buildR_lr (obs:List O) (l:Nat) (xs:List Int):buildR obs [.lr l xs]=.ok True (.own obs.length 0) (obs ++ [.arr .lrow [(l,xs)] 0 true]):=rfl
theorem buildR_own (obs:List O) (id g:Nat):buildR obs [.own id g]=ownRowQ id g obs (oAt obs id):=rfl
theorem buildR_slt (obs:List O) (xs:List Int):buildR obs [.sl true .int xs]=.ok True (.own obs.length 0) (obs ++ [.arr (.row true) [xs] 0 true]):=rfl
theorem buildR_slf (obs:List O) (xs:List Int):buildR obs [.sl false .int xs]=rowsQ (rowsOf [.sl false .int xs] obs) obs:=rfl
theorem buildR_two (obs:List O) (x y:AV) (l:List AV):buildR obs (x :: y :: l)=rowsQ (rowsOf (x :: y :: l) obs) obs:=by
 cases x with
 | sl f e xs=>cases e<;>cases f<;>rfl
 | _=>rfl
theorem ownRow_arr (id g g':Nat) (obs:List O) (xs:List Int):ownRowQ id g obs (.arr .int xs g' true)=bif g == g' then .all (FreshL obs) (fun _=>.own obs.length 0) (fun l=>oSet obs id .dead ++ [.arr .lrow [(l,xs)] 0 true])else .bad:=rfl
theorem rowsQ_some (l:List (List Int)) (o obs:List O):rowsQ (some (l,o)) obs=.ok True (.own obs.length 0) (o ++ [.arr (.row false) l 0 true]):=rfl
def rowC (xs:List Int):Option (List (List Int)×List O)->Option (List (List Int)×List O)
 | some p=>some (xs :: p.1,p.2)
 | none=>none
def rowO (id g:Nat) (r:List AV) (obs:List O):O->Option (List (List Int)×List O)
 | .arr .int xs g' _=>bif g == g' then rowC xs (rowsOf r (oSet obs id .dead))else none
 | _=>none
theorem rowC_some (xs:List Int) (l:List (List Int)) (o:List O):rowC xs (some (l,o))=some (xs :: l,o):=rfl
theorem rowsOf_nil (obs:List O):rowsOf [] obs=some ([],obs):=rfl
theorem rowC_eq (xs:List Int) (o:Option (List (List Int)×List O)):o.map (fun p=>(xs :: p.1,p.2))=rowC xs o:=by cases o<;>rfl
theorem rowsOf_sl (f:Bool) (xs:List Int) (r:List AV) (obs:List O):rowsOf (.sl f .int xs :: r) obs=rowC xs (rowsOf r obs):=rowC_eq ..
theorem rowsOf_lr (l:Nat) (xs:List Int) (r:List AV) (obs:List O):rowsOf (.lr l xs :: r) obs=rowC xs (rowsOf r obs):=rowC_eq ..
theorem rowsOf_own (id g:Nat) (r:List AV) (obs:List O):rowsOf (.own id g :: r) obs=rowO id g r obs (oAt obs id):=by
 rw [at_arr];simp only [rowsOf]
 cases h:obs[id]? with
 | none=>rfl
 | some o=>cases o with
  | dead=>rfl
  | mat _ _ _ _=>rfl
  | gm _ _ _ _ _=>rfl
  | mp _ _ _=>rfl
  | ap _ _ _ _ _=>rfl
  | cur _ _=>rfl
  | bag _ _=>rfl
  | arr e xs g' nn=>
   cases e<;>try rfl
   by_cases hg:g=g'<;>simp [rowO,hg,oSet_eq,Bool.cond_eq_ite,rowC_eq]
theorem rowO_arr (id g g':Nat) (nn:Bool) (r:List AV) (obs:List O) (xs:List Int):rowO id g r obs (.arr .int xs g' nn)=bif g == g' then rowC xs (rowsOf r (oSet obs id .dead))else none:=rfl
theorem sz_int:E.size .int=1:=rfl
theorem sz_byte:E.size .byte=1:=rfl
theorem sz_bool:E.size .bool=1:=rfl
theorem sz_str:E.size .str=1:=rfl
theorem sz_row (f:Bool):E.size (.row f)=1:=rfl
theorem sz_lrow:E.size .lrow=1:=rfl
theorem sz_vec:E.size .vec=4:=rfl
theorem by_int:E.bytes .int=8:=rfl
theorem by_byte:E.bytes .byte=1:=rfl
theorem by_bool:E.bytes .bool=1:=rfl
theorem by_str:E.bytes .str=16:=rfl
theorem by_row (f:Bool):E.bytes (.row f)=24:=rfl
theorem by_lrow:E.bytes .lrow=24:=rfl
theorem by_vec:E.bytes .vec=32:=rfl
theorem fam_row (f:Bool):E.fam (.row f)=.lrow:=rfl
theorem fam_lrow:E.fam .lrow=.lrow:=rfl
theorem fam_int:E.fam .int=.int:=rfl
theorem fam_byte:E.fam .byte=.byte:=rfl
theorem fam_bool:E.fam .bool=.bool:=rfl
theorem fam_str:E.fam .str=.str:=rfl
theorem fam_vec:E.fam .vec=.vec:=rfl
theorem dec_self {α:Type} [DecidableEq α] (a:α):decide (a=a)=true:=by simp
theorem dfl_int:E.dflt .int=(0:Int):=rfl
theorem dfl_byte:E.dflt .byte=(0:Int):=rfl
theorem dfl_bool:E.dflt .bool=false:=rfl
theorem dfl_str:E.dflt .str=([]:List UInt8):=rfl
theorem dfl_row (f:Bool):E.dflt (.row f)=([]:List Int):=rfl
theorem dfl_lrow:E.dflt .lrow=((0,[]):Nat×List Int):=rfl
theorem sc_eq (C:Ctx) (t:TypeId):C.sc t=((C.bt t).isSome || (C.Γ t).isSome):=rfl
theorem some_beq (a b:Nat):((some a:Option Nat) == some b)=(a == b):=rfl
theorem none_beq (b:Nat):((none:Option Nat) == some b)=false:=rfl
theorem app_one (a o:O) (l:List O):(a :: l) ++ [o]=a :: (l ++ [o]):=rfl
theorem app_cons (a:O) (l r:List O):(a :: l) ++ r=a :: (l ++ r):=rfl
theorem app_nil (r:List O):[] ++ r=r:=rfl
theorem len_cons (o:O) (l:List O):(o :: l).length=l.length+1:=rfl
theorem len_nil:([]:List O).length=0:=rfl
theorem ble_eq (a b:Nat):Nat.ble a b=decide (a<=b):=by rw [Bool.eq_iff_iff];simp
theorem zadd (n:Nat):0+n=n:=Nat.zero_add n
theorem bT (b:Bool):(b == true)=b:=by cases b<;>rfl
theorem bF (b:Bool):(b == false) = !b:=by cases b<;>rfl
theorem exL_cons (obs:List O) (v:AV) (l:List AV) (i:Nat):exL obs (v :: l) i=bif i == 0 then .ok True v obs else exL obs l (i - 1):=rfl
theorem AX0:type_of% @Q_add /\
  type_of% @Q_sub /\
  type_of% @Q_mul /\
  type_of% @Q_quo /\
  type_of% @Q_rem /\
  type_of% @Q_eql /\
  type_of% @Q_neq /\
  type_of% @Q_lss /\
  type_of% @Q_leq /\
  type_of% @Q_gtr /\
  type_of% @Q_geq /\
  type_of% @Q_beq /\
  type_of% @Q_bne /\
  type_of% @Q_seq /\
  type_of% @Q_sne /\
  type_of% @Q_sadd /\
  type_of% @Q_neg /\
  type_of% @Q_not /\
  type_of% @Q_max /\
  type_of% @Q_min /\
  type_of% @Q_pick /\
  type_of% @Q_len_sl /\
  type_of% @Q_len_lr /\
  type_of% @Q_len_nil /\
  type_of% @Q_len_own /\
  type_of% @Q_len_str /\
  type_of% @Q_lenO /\
  type_of% @Q_idx_sl /\
  type_of% @Q_idx_lr /\
  type_of% @Q_idxO /\
  type_of% @Q_load /\
  type_of% @Q_loadO /\
  type_of% @Q_ofE_int /\
  type_of% @Q_ofE_byte /\
  type_of% @Q_ofE_bool /\
  type_of% @Q_ofE_str /\
  type_of% @Q_ofE_row /\
  type_of% @Q_ofE_lrow /\
  type_of% @Q_ofE_vec /\
  type_of% @Q_st_int /\
  type_of% @Q_st_bool /\
  type_of% @Q_st_sl /\
  type_of% @Q_st_lr /\
  type_of% @Q_storeO /\
  type_of% @Q_stE /\
  type_of% @Q_toE_int /\
  type_of% @Q_toE_byte /\
  type_of% @Q_toE_bool /\
  type_of% @Q_toE_str /\
  type_of% @Q_toE_row1 /\
  type_of% @Q_toE_row2 /\
  type_of% @Q_toE_row3 /\
  type_of% @Q_toE_row4 /\
  type_of% @Q_toE_lrow /\
  type_of% @Q_make_int /\
  type_of% @Q_make_byte /\
  type_of% @Q_make_bool /\
  type_of% @Q_make_str /\
  type_of% @Q_make_row /\
  type_of% @buildV_eq:=
 ⟨Q_add,Q_sub,Q_mul,Q_quo,Q_rem,Q_eql,Q_neq,Q_lss,Q_leq,Q_gtr,Q_geq,Q_beq,Q_bne,Q_seq,Q_sne,Q_sadd,Q_neg,Q_not,Q_max,Q_min,Q_pick,Q_len_sl,Q_len_lr,Q_len_nil,Q_len_own,Q_len_str,Q_lenO,Q_idx_sl,Q_idx_lr,Q_idxO,Q_load,Q_loadO,Q_ofE_int,Q_ofE_byte,Q_ofE_bool,Q_ofE_str,Q_ofE_row,Q_ofE_lrow,Q_ofE_vec,Q_st_int,Q_st_bool,Q_st_sl,Q_st_lr,Q_storeO,Q_stE,Q_toE_int,Q_toE_byte,Q_toE_bool,Q_toE_str,Q_toE_row1,Q_toE_row2,Q_toE_row3,Q_toE_row4,Q_toE_lrow,Q_make_int,Q_make_byte,Q_make_bool,Q_make_str,Q_make_row,buildV_eq⟩
theorem AX1:type_of% @Q_apO /\
  type_of% @Q_apE /\
  type_of% @Q_apN /\
  type_of% @Q_src_sl /\
  type_of% @Q_src_lr /\
  type_of% @Q_src_nil /\
  type_of% @Q_srO /\
  type_of% @Q_cv_int /\
  type_of% @Q_cv_byte /\
  type_of% @Q_cv_bool /\
  type_of% @Q_cv_str /\
  type_of% @Q_cv_row1 /\
  type_of% @Q_cv_row2 /\
  type_of% @Q_cv_row3 /\
  type_of% @Q_cv_row4 /\
  type_of% @Q_cv_lrow /\
  type_of% @Q_cv_vec /\
  type_of% @Q_slice_sl /\
  type_of% @Q_slice_lr /\
  type_of% @Q_slice_str /\
  type_of% @Q_sl_sl /\
  type_of% @Q_sl_lr /\
  type_of% @Q_sl_str /\
  type_of% @Q_sQ /\
  type_of% @Q_bnd0 /\
  type_of% @Q_bnd1 /\
  type_of% @Q_omap0 /\
  type_of% @Q_omap1 /\
  type_of% @exL_eq /\
  type_of% @S_ok /\
  type_of% @S_ok0 /\
  type_of% @S_skip /\
  type_of% @S_all /\
  type_of% @T_ok /\
  type_of% @U_ok /\
  type_of% @hasL_nil /\
  type_of% @hasL_cons /\
  type_of% @evL_nil /\
  type_of% @evL_cons /\
  type_of% @hasP_nil /\
  type_of% @hasP_cons /\
  type_of% @evP_nil /\
  type_of% @evP_cons /\
  type_of% @hasO_none /\
  type_of% @hasO_some /\
  type_of% @oAt_cons /\
  type_of% @oSet_cons /\
  type_of% @resSl_one /\
  type_of% @resSl_two /\
  type_of% @resSl_three /\
  type_of% @resSl_zero /\
  type_of% @shift_own /\
  type_of% @shift_int /\
  type_of% @shift_bool /\
  type_of% @shift_str /\
  type_of% @shift_sl /\
  type_of% @shift_lr /\
  type_of% @shift_nils /\
  type_of% @shift_vec /\
  type_of% @shift_fn:=
 ⟨Q_apO,Q_apE,Q_apN,Q_src_sl,Q_src_lr,Q_src_nil,Q_srO,Q_cv_int,Q_cv_byte,Q_cv_bool,Q_cv_str,Q_cv_row1,Q_cv_row2,Q_cv_row3,Q_cv_row4,Q_cv_lrow,Q_cv_vec,Q_slice_sl,Q_slice_lr,Q_slice_str,Q_sl_sl,Q_sl_lr,Q_sl_str,Q_sQ,Q_bnd0,Q_bnd1,Q_omap0,Q_omap1,exL_eq,S_ok,S_ok0,S_skip,S_all,T_ok,U_ok,hasL_nil,hasL_cons,evL_nil,evL_cons,hasP_nil,hasP_cons,evP_nil,evP_cons,hasO_none,hasO_some,oAt_cons,oSet_cons,resSl_one,resSl_two,resSl_three,resSl_zero,shift_own,shift_int,shift_bool,shift_str,shift_sl,shift_lr,shift_nils,shift_vec,shift_fn⟩
theorem AX2:type_of% @buildQ_row /\
  type_of% @buildQ_int /\
  type_of% @buildQ_byte /\
  type_of% @buildQ_str /\
  type_of% @buildQ_bool /\
  type_of% @seqF_nil /\
  type_of% @seqF_cons /\
  type_of% @partV_nil /\
  type_of% @partV_cons /\
  type_of% @strOk_nil /\
  type_of% @strOk_int /\
  type_of% @strOk_bool /\
  type_of% @strOk_str /\
  type_of% @allE_nil /\
  type_of% @allE_cons /\
  type_of% @allC_some /\
  type_of% @allQ_some /\
  type_of% @buildR_nil /\
  type_of% @buildR_lr /\
  type_of% @buildR_own /\
  type_of% @buildR_slt /\
  type_of% @buildR_slf /\
  type_of% @buildR_two /\
  type_of% @ownRow_arr /\
  type_of% @rowsQ_some /\
  type_of% @rowC_some /\
  type_of% @rowsOf_nil /\
  type_of% @rowsOf_sl /\
  type_of% @rowsOf_lr /\
  type_of% @rowsOf_own /\
  type_of% @rowO_arr /\
  type_of% @sz_int /\
  type_of% @sz_byte /\
  type_of% @sz_bool /\
  type_of% @sz_str /\
  type_of% @sz_row /\
  type_of% @sz_lrow /\
  type_of% @sz_vec /\
  type_of% @by_int /\
  type_of% @by_byte /\
  type_of% @by_bool /\
  type_of% @by_str /\
  type_of% @by_row /\
  type_of% @by_lrow /\
  type_of% @by_vec /\
  type_of% @fam_row /\
  type_of% @fam_lrow /\
  type_of% @fam_int /\
  type_of% @fam_byte /\
  type_of% @fam_bool /\
  type_of% @fam_str /\
  type_of% @fam_vec /\
  type_of% @dec_self /\
  type_of% @dfl_int /\
  type_of% @dfl_byte /\
  type_of% @dfl_bool /\
  type_of% @dfl_str /\
  type_of% @dfl_row /\
  type_of% @dfl_lrow /\
  type_of% @sc_eq:=
 ⟨buildQ_row,buildQ_int,buildQ_byte,buildQ_str,buildQ_bool,seqF_nil,seqF_cons,partV_nil,partV_cons,strOk_nil,strOk_int,strOk_bool,strOk_str,allE_nil,allE_cons,allC_some,allQ_some,buildR_nil,buildR_lr,buildR_own,buildR_slt,buildR_slf,buildR_two,ownRow_arr,rowsQ_some,rowC_some,rowsOf_nil,rowsOf_sl,rowsOf_lr,rowsOf_own,rowO_arr,sz_int,sz_byte,sz_bool,sz_str,sz_row,sz_lrow,sz_vec,by_int,by_byte,by_bool,by_str,by_row,by_lrow,by_vec,fam_row,fam_lrow,fam_int,fam_byte,fam_bool,fam_str,fam_vec,dec_self,dfl_int,dfl_byte,dfl_bool,dfl_str,dfl_row,dfl_lrow,sc_eq⟩
theorem AX3:type_of% @some_beq /\
  type_of% @none_beq /\
  type_of% @app_one /\
  type_of% @app_cons /\
  type_of% @app_nil /\
  type_of% @len_cons /\
  type_of% @len_nil /\
  type_of% @ble_eq /\
  type_of% @zadd /\
  type_of% @bT /\
  type_of% @bF /\
  type_of% @lenV_own /\
  type_of% @idxV_own /\
  type_of% @loadV_elt /\
  type_of% @storeV_elt /\
  type_of% @appendV_own /\
  type_of% @appendV_nil /\
  type_of% @srcL_own /\
  type_of% @put_s /\
  type_of% @put_n /\
  type_of% @X_move/\type_of% @X_movec/\type_of% @X_movef/\type_of% @slS_some/\type_of% @slS_none /\
  type_of% @X_assign /\
  type_of% @X_bin /\
  type_of% @X_un /\
  type_of% @X_pick /\
  type_of% @X_load /\
  type_of% @X_store /\
  type_of% @X_idx /\
  type_of% @X_make /\
  type_of% @X_build /\
  type_of% @X_slice /\
  type_of% @X_ex /\
  type_of% @X_len /\
  type_of% @X_max /\
  type_of% @X_min /\
  type_of% @X_append /\
  type_of% @X_call /\
  type_of% @G_move /\
  type_of% @G_bin /\
  type_of% @G_un /\
  type_of% @G_pick /\
  type_of% @G_load /\
  type_of% @G_idx /\
  type_of% @G_len /\
  type_of% @G_slice /\
  type_of% @G_ex /\
  type_of% @G_call /\
  type_of% @aexec_nil /\
  type_of% @ev_tmp /\
  type_of% @ev_int /\
  type_of% @ev_bool /\
  type_of% @ev_str /\
  type_of% @ev_nil /\
  type_of% @ev_func /\
  type_of% @has_tmp /\
  type_of% @has_const /\
  type_of% @has_func /\
  type_of% @slV_v /\
  type_of% @slV_t /\
  type_of% @slV_none:=
 ⟨some_beq,none_beq,app_one,app_cons,app_nil,len_cons,len_nil,ble_eq,zadd,bT,bF,lenV_own,idxV_own,loadV_elt,storeV_elt,appendV_own,appendV_nil,srcL_own,put_s,put_n,X_move,X_movec,X_movef,slS_some,slS_none,X_assign,X_bin,X_un,X_pick,X_load,X_store,X_idx,X_make,X_build,X_slice,X_ex,X_len,X_max,X_min,X_append,X_call,G_move,G_bin,G_un,G_pick,G_load,G_idx,G_len,G_slice,G_ex,G_call,aexec_nil,ev_tmp,ev_int,ev_bool,ev_str,ev_nil,ev_func,has_tmp,has_const,has_func,slV_v,slV_t,slV_none⟩
theorem AX4:type_of% @slH_some /\
  type_of% @slH_none /\
  type_of% @look_nil /\
  type_of% @look_cons /\
  type_of% @slotOf_cons /\
  type_of% @lookO_some /\
  type_of% @gexV_b /\
  type_of% @exL_cons:=
 ⟨slH_some,slH_none,look_nil,look_cons,slotOf_cons,lookO_some,gexV_b,exL_cons⟩
theorem AX:type_of% @AX0/\type_of% @AX1/\type_of% @AX2/\type_of% @AX3/\type_of% @AX4:=⟨AX0,AX1,AX2,AX3,AX4⟩
end Go.Aw
namespace Go.Aw
open Go
theorem FunA.walk {B:Ctx} (hB:B.Ok) {f:FuncId} {fn:Func} {c:Code} {args:List AV} {post:List AV->List O->Prop} (hcall:∀(vs:Array Value) (w:World),(callFunc f vs).run B.P w=.ok (.enter f vs) w)
  (hf:B.P.funcs[f]? = some fn) (hb:fn.body=some c) (hn:args.length<=fn.ntmps)
  (h:∀ C:Ctx,C.Ok->B.P=C.P->B.tid=C.tid->C.Γ=B.Γ->(C.bt=B.bt/\C.mt=B.mt/\C.wt=B.wt/\C.dr=B.dr/\C.pt=B.pt)->C.fn=fn->C.pin=[]->(∀ xs obs,xs.all freshAV=true->obs.all freshO=true->post xs obs->Fin C xs obs)->Run C [.code c] (entry args fn.ntmps)):FunA B f args post:=
 FunA.enter hcall hf hb hn fun w L=>h _ (hB.enterL fn _ w _ L) rfl rfl rfl ⟨rfl,rfl,rfl,rfl,rfl⟩ rfl rfl fun _ _ h1 h2 hp=>FunA.fin hp h1 h2
def subF (fr:List (Nat×Bool×Sl)):List (Nat×Bool×Sl)->Prop
 | []=>True
 | (s,x) :: r=>look s fr=some x/\subF fr r
theorem subF_look {fr:List (Nat×Bool×Sl)}:∀ {fr':List (Nat×Bool×Sl)},subF fr fr'->∀ {s:Nat} {x:Bool×Sl},look s fr'=some x->look s fr=some x
 | [],_,s,x,h=>by simp [look]at h
 | (t,y) :: r,hs,s,x,h=>by
  simp only [look]at h
  split at h
  ·rename_i ht
   cases h
   have:s=t:=by simpa using ht
   subst this
   exact hs.1
  ·exact subF_look hs.2 h
theorem Le.sub {C:Ctx} {n:Nat} {fr fr':List (Nat×Bool×Sl)} {obs obs':List O} (ho:obs=obs') (h:subF fr fr'):Le C ⟨n,fr,obs⟩ ⟨n,fr',obs'⟩:=by
 subst ho
 exact fun a w ρ r=>⟨ρ,r.defers,r.size,fun s ex x hl=>r.fr s ex x (subF_look h hl),r.w,r.pin⟩
def leO:O->O->Prop
 | _,.dead=>True
 | .arr e xs _ nn,.arr e' xs' _ nn'=>(nn'=true->nn=true)/\∃ h:e=e',h▸xs=xs'
 | .mat hs rows _ nn,.mat hs' rows' _ nn'=>(nn'=true->nn=true)/\hs=hs'/\rows=rows'
 | .gm D F hs _ nn,.gm D' F' hs' _ nn'=>(nn'=true->nn=true)/\D=D'/\F=F'/\hs=hs'
 | .mp m l _,.mp m' l' _=>m=m'/\l=l'
 | .ap q ys fr _ nn,.ap q' ys' fr' _ nn'=>(nn'=true->nn=true)/\q=q'/\ys=ys'/\(fr'=true->fr=true)
 | .ap _ ys _ _ nn,.arr .lrow ys' _ nn'=>(nn'=true->nn=true)/\ys=ys'
 | .cur s _,.cur s' _=>s=s'
 | .bag d _,.bag d' _=>d=d'
 | _,_=>False
theorem leO_ap (q q':Nat) (ys ys':List (Nat×List Int)) (fr fr':Bool) (g g':Nat) (nn nn':Bool):leO (.ap q ys fr g nn) (.ap q' ys' fr' g' nn')=((nn'=true->nn=true)/\q=q'/\ys=ys'/\(fr'=true->fr=true)):=rfl
theorem leO_apa (q:Nat) (ys ys':List (Nat×List Int)) (fr:Bool) (g g':Nat) (nn nn':Bool):leO (.ap q ys fr g nn) (.arr .lrow ys' g' nn')=((nn'=true->nn=true)/\ys=ys'):=rfl
theorem leO_bag (d d':BagD) (g g':Nat):leO (.bag d g) (.bag d' g')=(d=d'):=rfl
theorem leO_cur (s s':Value) (g g':Nat):leO (.cur s g) (.cur s' g')=(s=s'):=rfl
theorem leO_arr (e:E) (xs xs':List e.D) (g g':Nat) (nn nn':Bool):leO (.arr e xs g nn) (.arr e xs' g' nn')=((nn'=true->nn=true)/\xs=xs'):=by simp [leO]
theorem leO_gm (D D':List Nat) (F F':Nat->List Int) (hs hs':List Nat) (g g':Nat) (nn nn':Bool):leO (.gm D F hs g nn) (.gm D' F' hs' g' nn')=((nn'=true->nn=true)/\D=D'/\F=F'/\hs=hs'):=rfl
theorem leO_mp (m m':MT) (l l':List (MK×MV)) (g g':Nat):leO (.mp m l g) (.mp m' l' g')=(m=m'/\l=l'):=rfl
def leOs (obs:List O):List Nat->List O->Prop
 | [],[]=>True
 | i :: π,o :: l=>i < obs.length/\leO (oAt obs i) o/\leOs obs π l
 | _,_=>False
def nodupB:List Nat->Bool
 | []=>true
 | i :: π=>!(π.elem i) && nodupB π
def genO:O->Nat->Prop
 | .arr _ _ g' _,g=>g=g'
 | .mat _ _ g' _,g=>g=g'
 | .gm _ _ _ g' _,g=>g=g'
 | .mp _ _ g',g=>g=g'
 | .ap _ _ _ g' _,g=>g=g'
 | .cur _ g',g=>g=g'
 | .bag _ g',g=>g=g'
 | .dead,_=>False
def leAV (π:List Nat) (obs obs':List O):AV->AV->Prop
 | _,.junk=>True
 | a,.own j g'=>match a with
  | .own i g=>j < π.length/\π[j]? = some i/\genO (oAt obs i) g/\genO (oAt obs' j) g'
  | _=>False
 | _,.elt _ _ _ _=>False
 | _,.asl _ _=>False
 | .lr l xs,.sl f e ys=>.sl f e ys=(AV.sl f .int xs)
 | .nils,.sl f e ys=>.sl f e ys=(AV.sl f e [])
 | a,a'=>a=a'
def leFr (π:List Nat) (obs obs':List O) (fr:List (Nat×Bool×Sl)):List (Nat×Bool×AV)->Prop
 | []=>True
 | (s,ex,x) :: r=>(∃ y,look s fr=some (ex,.v y)/\leAV π obs obs' y x)/\leFr π obs obs' fr r
def frV (l:List (Nat×Bool×AV)):List (Nat×Bool×Sl):=l.map fun p=>(p.1,p.2.1,.v p.2.2)
theorem leOs_at {obs:List O}:∀ {π:List Nat} {l:List O},leOs obs π l->∀ {j:Nat} {o:O},l[j]? = some o->∃ i,π[j]? = some i/\i < obs.length/\leO (oAt obs i) o
 | [],[],_,j,o,h=>by simp at h
 | i :: π,o' :: _,hs,j,o,h=>by
  cases j with
  | zero=>simp at h;subst h;exact⟨i,by simp,hs.1,hs.2.1⟩
  | succ j=>simpa using leOs_at hs.2.2 (j:=j) (by simpa using h)
theorem leOs_len {obs:List O}:∀ {π:List Nat} {l:List O},leOs obs π l->π.length=l.length
 | [],[],_=>rfl
 | _ :: _,_ :: _,h=>by simp [leOs_len h.2.2]
theorem leFr_look {π:List Nat} {obs obs':List O} {fr:List (Nat×Bool×Sl)}:∀ {l:List (Nat×Bool×AV)},leFr π obs obs' fr l->∀ {s:Nat} {ex:Bool} {x:Sl},look s (frV l)=some (ex,x) ->
  ∃ y z,x=.v z/\look s fr=some (ex,.v y)/\leAV π obs obs' y z
 | [],_,s,ex,x,h=>by simp [look,frV]at h
 | (t,ey,y) :: r,hs,s,ex,x,h=>by
  simp only [look,frV,List.map_cons]at h
  split at h
  ·rename_i ht
   cases h
   have:s=t:=by simpa using ht
   subst this
   obtain⟨z,h1,h2⟩:=hs.1
   exact⟨z,y,rfl,h1,h2⟩
  ·exact leFr_look hs.2 h
theorem nodupB_inj:∀ {π:List Nat},nodupB π=true->∀ {i j k:Nat},π[i]? = some k->π[j]? = some k->i=j
 | [],_,i,j,k,h,_=>by simp at h
 | p :: π,hn,i,j,k,h1,h2=>by
  simp only [nodupB,bAnd,Bool.not_eq_true',List.elem_eq_mem,dfE]at hn
  cases i with
  | zero=>
   cases j with
   | zero=>rfl
   | succ j=>
    simp at h1 h2
    subst h1
    exact absurd (List.mem_of_getElem? h2) hn.1
  | succ i=>
   cases j with
   | zero=>
    simp at h1 h2
    subst h2
    exact absurd (List.mem_of_getElem? h1) hn.1
   | succ j=>
    simp at h1 h2
    exact congrArg _ (nodupB_inj hn.2 h1 h2)
theorem oAt_get {obs:List O} {i:Nat} (h:i < obs.length):obs[i]? = some (oAt obs i):=by
 rw [oAt_eq,geE h];rfl
theorem Le.reP {C:Ctx} {n:Nat} {fr:List (Nat×Bool×Sl)} {obs obs':List O} (π:List Nat) (l:List (Nat×Bool×AV)) (hp:∀ j,j < C.pin.length->π[j]? = some j/\genOf obs' j=genOf obs j) (hn:nodupB π=true) (ho:leOs obs π obs') (hf:leFr π obs obs' fr l) :
  Le C ⟨n,fr,obs⟩ ⟨n,frV l,obs'⟩:=by
 intro a w ρ r
 have rw0:=r.w
 have hlen:∀ j o,obs'[j]? = some o->∃ i o0,π[j]? = some i/\obs[i]? = some o0/\leO o0 o:=fun j o h=>by
  obtain⟨i,h1,h2,h3⟩:=leOs_at ho h
  exact⟨i,_,h1,oAt_get h2,h3⟩
 have hfp:∀ {j i:Nat} {o o0:O} {b:Nat},π[j]? = some i->leO o0 o->fpo (ρ ((π[j]?).getD 0)) o b->fpo (ρ i) o0 b:=by
  intro j i o o0 b hj hle hb
  rw [hj]at hb
  cases o with
  | dead=>simp [fpo]at hb
  | arr e xs g nn=>
   cases o0 with
   | dead=>simp [leO]at hle
   | arr e' xs' g' nn'=>exact hb
   | mat _ _ _ _=>exact hle.elim
   | gm _ _ _ _ _=>exact hle.elim
   | mp _ _ _=>exact hle.elim
   | ap q ys fr g' nn'=>cases e<;>first | exact hle.elim | exact Or.inl hb
   | cur _ _=>exact hle.elim
   | bag _ _=>exact hle.elim
  | mat hs rows g nn=>
   cases o0 with
   | dead=>exact hle.elim
   | arr e' xs' g' nn'=>exact hle.elim
   | mat hs' rows' _ _=>obtain⟨_,h1,_⟩:=hle;subst h1;exact hb
   | gm _ _ _ _ _=>exact hle.elim
   | mp _ _ _=>exact hle.elim
   | ap _ _ _ _ _=>exact hle.elim
   | cur _ _=>exact hle.elim
   | bag _ _=>exact hle.elim
  | gm D F hs g nn=>
   cases o0 with
   | dead=>exact hle.elim
   | arr e' xs' g' nn'=>exact hle.elim
   | mat _ _ _ _=>exact hle.elim
   | gm D' F' hs' _ _=>obtain⟨_,h1,_⟩:=hle;subst h1;exact hb
   | mp _ _ _=>exact hle.elim
   | ap _ _ _ _ _=>exact hle.elim
   | cur _ _=>exact hle.elim
   | bag _ _=>exact hle.elim
  | mp m l g=>
   cases o0 with
   | dead=>exact hle.elim
   | arr e' xs' g' nn'=>exact hle.elim
   | mat _ _ _ _=>exact hle.elim
   | gm _ _ _ _ _=>exact hle.elim
   | mp _ _ _=>exact hb
   | ap _ _ _ _ _=>exact hle.elim
   | cur _ _=>exact hle.elim
   | bag _ _=>exact hle.elim
  | ap q ys fr g nn=>
   cases o0 with
   | ap q' ys' fr' g' nn'=>obtain⟨_,h1,_⟩:=hle;subst h1;exact hb
   | _=>exact hle.elim
  | cur s g=>
   cases o0 with
   | cur s' g'=>exact hb
   | _=>exact hle.elim
  | bag d g=>
   cases o0 with
   | bag d' g'=>obtain rfl:d'=d:=hle;exact hb
   | _=>exact hle.elim
 have hown:∀ b,Own obs' (fun j=>ρ ((π[j]?).getD 0)) b->Own obs ρ b:=by
  rintro b ⟨j,o,hj,hb⟩
  obtain⟨i,o0,h1,h2,h3⟩:=hlen j o hj
  exact⟨i,o0,h2,hfp h1 h3 hb⟩
 have hle:(C.V w obs ρ).le (C.V w obs' (fun j=>ρ ((π[j]?).getD 0))):=by
  refine⟨fun b o hb=>?_,fun _ hb=>hb,rfl⟩
  simp only [Ctx.V,mask]at hb ⊢
  split at hb
  ·cases hb
  ·rename_i hnn
   rw [if_neg (fun k=>hnn (hown b k))]
   exact hb
 have hw:WRel C obs' w (fun j=>ρ ((π[j]?).getD 0)):=by
  refine⟨fun id o hid=>?_,fun i j o o' b hi hj bi bj=>?_,fun b hb=>rw0.own b (hown b hb),rw0.os0,rw0.tape,rw0.output,rw0.grow,rw0.drawn,rw0.kept,rw0.gl⟩
  ·obtain⟨i,o0,h1,h2,h3⟩:=hlen id o hid
   have h4:=(rw0.os i o0 h2).kept hle (Ext.refl (fun _=>False) w) (fun _ _ k=>k)
   simp only [h1,Option.getD_some]
   cases o with
   | dead=>trivial
   | arr e xs g nn=>
    cases o0 with
    | dead=>simp [leO]at h3
    | arr e' xs' g' nn'=>
     obtain⟨k1,k2,k3⟩:=h3
     subst k2
     subst k3
     obtain⟨cs,m1,m2,m3,m4⟩:=h4
     exact⟨cs,m1,m2,fun k=>m3 (k1 k),m4⟩
    | mat _ _ _ _=>exact h3.elim
    | gm _ _ _ _ _=>exact h3.elim
    | mp _ _ _=>exact h3.elim
    | ap q ys fr g' nn'=>
     cases e<;>first | exact h3.elim | skip
     obtain⟨k1,k2⟩:=h3
     subst k2
     obtain⟨cs,m1,m2,m3,m4,_⟩:=h4
     exact⟨cs,m1,m2,fun k=>m3 (k1 k),m4⟩
    | cur _ _=>exact h3.elim
    | bag _ _=>exact h3.elim
   | gm D F hs g nn=>
    cases o0 with
    | dead=>exact h3.elim
    | arr _ _ _ _=>exact h3.elim
    | mat _ _ _ _=>exact h3.elim
    | gm D' F' hs' g' nn'=>
     obtain⟨k1,k2,k3,k4⟩:=h3
     subst k2
     subst k3
     subst k4
     obtain⟨cs,m1,m2,m3,m4,m5,m6,m7⟩:=h4
     exact⟨cs,m1,m2,m3,m4,m5,fun k=>m6 (k1 k),m7⟩
    | mp _ _ _=>exact h3.elim
    | ap _ _ _ _ _=>exact h3.elim
    | cur _ _=>exact h3.elim
    | bag _ _=>exact h3.elim
   | ap q ys fr g nn=>
    cases o0 with
    | ap q' ys' fr' g' nn'=>
     obtain⟨k1,k2,k3,k4⟩:=h3
     subst k2
     subst k3
     obtain⟨cs,m1,m2,m3,m4,m5,m6,m7⟩:=h4
     exact⟨cs,m1,m2,fun k=>m3 (k1 k),m4,m5,m6,fun k=>m7 (k4 k)⟩
    | _=>exact h3.elim
   | cur s g=>
    cases o0 with
    | cur s' g'=>
     obtain rfl:s'=s:=h3
     exact h4
    | _=>exact h3.elim
   | bag d g=>
    cases o0 with
    | bag d' g'=>
     obtain rfl:d'=d:=h3
     exact h4
    | _=>exact h3.elim
   | mp m l g=>
    cases o0 with
    | dead=>exact h3.elim
    | arr _ _ _ _=>exact h3.elim
    | mat _ _ _ _=>exact h3.elim
    | gm _ _ _ _ _=>exact h3.elim
    | mp m' l' g'=>
     obtain⟨k2,k3⟩:m'=m/\l'=l:=h3
     subst k2
     subst k3
     exact h4
    | ap _ _ _ _ _=>exact h3.elim
    | cur _ _=>exact h3.elim
    | bag _ _=>exact h3.elim
   | mat hs rows g nn=>
    cases o0 with
    | dead=>exact h3.elim
    | gm _ _ _ _ _=>exact h3.elim
    | mp _ _ _=>exact h3.elim
    | ap _ _ _ _ _=>exact h3.elim
    | cur _ _=>exact h3.elim
    | bag _ _=>exact h3.elim
    | arr _ _ _ _=>exact h3.elim
    | mat hs' rows' g' nn'=>
     obtain⟨k1,k2,k3⟩:=h3
     subst k2
     subst k3
     obtain⟨cs,m1,m2,m3,m4,m5,m6,m7⟩:=h4
     exact⟨cs,m1,m2,m3,m4,m5,fun k=>m6 (k1 k),m7⟩
  ·obtain⟨i',o0,h1,h2,h3⟩:=hlen i o hi
   obtain⟨j',o1,k1,k2,k3⟩:=hlen j o' hj
   have:=rw0.dis i' j' o0 o1 b h2 k2 (hfp h1 h3 bi) (hfp k1 k3 bj)
   subst this
   exact nodupB_inj hn h1 k1
 refine⟨fun j=>ρ ((π[j]?).getD 0),r.defers,r.size,fun s ex x hl=>?_,hw,fun j v hj=>?_⟩
 case refine_2=>
  have hlt:=(geS.1 hj).1
  obtain⟨h1,h2⟩:=hp j hlt
  obtain⟨h3,h4⟩:=r.pin j v hj
  refine⟨?_,fun hg=>?_⟩
  ·have hπ:π.length=obs'.length:=leOs_len ho
   rw [<- hπ]
   exact(geS.1 h1).1
  ·simp only [h1,Option.getD_some]
   exact h4 (by rw [<- h2];exact hg)
 obtain⟨y,z,rfl,h1,h2⟩:=leFr_look hf hl
 obtain⟨k1,k2⟩:=r.fr s ex _ h1
 refine⟨fun he=>?_,k2⟩
 have hy:AVRel (C.V w obs ρ) obs ρ y _:=k1 he
 show AVRel (C.V w obs' (fun j=>ρ ((π[j]?).getD 0))) obs' (fun j=>ρ ((π[j]?).getD 0)) z _
 have same:y=z->(∀ i g,z≠.own i g)->(∀ i g s k,z≠.elt i g s k)->(∀ i g,z≠.asl i g)->AVRel (C.V w obs' (fun j=>ρ ((π[j]?).getD 0))) obs' (fun j=>ρ ((π[j]?).getD 0)) z (a.tmps.getD s undef):=by
  rintro rfl n1 n2 n3
  cases y with
  | junk=>trivial
  | int k n=>exact hy
  | bool b=>exact hy
  | str s=>exact hy
  | sl f e xs=>exact SlRel.mono hle hy
  | lr l xs=>exact LRowRel.mono hle hy
  | vec xs=>exact hy
  | nils=>exact hy
  | own id g=>exact absurd rfl (n1 id g)
  | elt id g s k=>exact absurd rfl (n2 id g s k)
  | asl id g=>exact absurd rfl (n3 id g)
  | relt f e d=>
   obtain⟨a,u,hv,hf,hr,hc⟩:=hy
   refine⟨a,u,hv,fun k=>hle.Fr _ (hf k),hr.mono hle,fun j hj=>?_⟩
   have hsz:=hr.cells.1
   have h3:=hc j hj
   rw [Array.getElem?_eq_getElem om]at h3 ⊢
   exact hle.cell h3
  | hdr h n=>exact hy
  | emp b=>exact hy
  | fn f=>exact hy
  | hp q k=>exact hy
  | lenv n=>exact hy
  | mv b=>exact hy
  | prv d=>exact(show ElRel _ .pr d _ from hy).mono hle
  | clo3 f a b c=>exact hy
  | clo f e d=>
   obtain⟨a,u,hv,hf,hr,hc⟩:=hy
   refine⟨a,u,hv,hle.Fr _ hf,hr.mono hle,fun j hj=>?_⟩
   have hsz:=hr.cells.1
   have h3:=hc j hj
   rw [Array.getElem?_eq_getElem om]at h3 ⊢
   exact hle.cell h3
 cases z with
 | junk=>trivial
 | own j g'=>
  cases y with
  | own i g=>
   obtain⟨m0,m1,m2,m3⟩:=h2
   obtain⟨p1,p2⟩:=hy
   have hj:j < obs'.length:=by
    rcases Nat.lt_or_ge j obs'.length with h | h
    ·exact h
    ·rw [oAt_eq,geN h]at m3;exact m3.elim
   refine⟨hj,fun c hc=>?_⟩
   have hg:genOf obs i=some g:=by
    unfold genOf
    rw [oAt_get p1]
    revert m2
    cases oAt obs i with
    | dead=>intro k;exact k.elim
    | arr e xs g0 nn=>intro k;exact congrArg some (Eq.symm k)
    | mat _ _ g0 nn=>intro k;exact congrArg some (Eq.symm k)
    | gm _ _ _ g0 nn=>intro k;exact congrArg some (Eq.symm k)
    | mp _ _ g0=>intro k;exact congrArg some (Eq.symm k)
    | ap _ _ _ g0 _=>intro k;exact congrArg some (Eq.symm k)
    | cur _ g0=>intro k;exact congrArg some (Eq.symm k)
    | bag _ g0=>intro k;exact congrArg some (Eq.symm k)
   have hg':g'=c:=by
    unfold genOf at hc
    rw [oAt_get hj]at hc
    revert m3 hc
    cases oAt obs' j with
    | dead=>intro k;exact k.elim
    | arr e xs g0 nn=>intro k hc;simp [O.gen]at hc;exact(show g'=g0 from k).trans hc
    | mat _ _ g0 nn=>intro k hc;simp [O.gen]at hc;exact(show g'=g0 from k).trans hc
    | gm _ _ _ g0 nn=>intro k hc;simp [O.gen]at hc;exact(show g'=g0 from k).trans hc
    | mp _ _ g0=>intro k hc;simp [O.gen]at hc;exact(show g'=g0 from k).trans hc
    | ap _ _ _ g0 _=>intro k hc;simp [O.gen]at hc;exact(show g'=g0 from k).trans hc
    | cur _ g0=>intro k hc;simp [O.gen]at hc;exact(show g'=g0 from k).trans hc
    | bag _ g0=>intro k hc;simp [O.gen]at hc;exact(show g'=g0 from k).trans hc
   refine⟨by omega,fun _=>?_⟩
   simp only [m1,Option.getD_some]
   exact(p2 g hg).2 rfl
  | _=>exact h2.elim
 | elt i g s k=>simp [leAV]at h2
 | asl i g=>simp [leAV]at h2
 | sl f e xs=>
  cases y with
  | lr l ys=>
   simp only [leAV]at h2
   cases h2
   exact(show SlRel (C.V w obs' _) f .int ys _ from by
    have:=LRowRel.toRow (LRowRel.mono hle hy)
    cases f
    ·exact(RowRel.weaken this).toSl
    ·exact this.toSl)
  | nils=>
   simp only [leAV]at h2
   cases h2
   simp only [AVRel]at hy
   rw [hy]
   exact⟨none,0,rfl,by simp,by simp,fun i hi=>by simp at hi⟩
  | sl f' e' ys=>exact same h2 (by simp) (by simp) (by simp)
  | _=>exact absurd h2 (by simp [leAV])
 | int k n=>cases y<;>first | exact same h2 (by simp) (by simp) (by simp) | exact absurd h2 (by simp [leAV])
 | bool b=>cases y<;>first | exact same h2 (by simp) (by simp) (by simp) | exact absurd h2 (by simp [leAV])
 | str b=>cases y<;>first | exact same h2 (by simp) (by simp) (by simp) | exact absurd h2 (by simp [leAV])
 | lr l b=>cases y<;>first | exact same h2 (by simp) (by simp) (by simp) | exact absurd h2 (by simp [leAV])
 | vec b=>cases y<;>first | exact same h2 (by simp) (by simp) (by simp) | exact absurd h2 (by simp [leAV])
 | nils=>cases y<;>first | exact same h2 (by simp) (by simp) (by simp) | exact absurd h2 (by simp [leAV])
 | relt f e b=>cases y<;>first | exact same h2 (by simp) (by simp) (by simp) | exact absurd h2 (by simp [leAV])
 | fn b=>cases y<;>first | exact same h2 (by simp) (by simp) (by simp) | exact absurd h2 (by simp [leAV])
 | lenv n=>cases y<;>first | exact same h2 (by simp) (by simp) (by simp) | exact absurd h2 (by simp [leAV])
 | clo f e d=>cases y<;>first | exact same h2 (by simp) (by simp) (by simp) | exact absurd h2 (by simp [leAV])
 | mv b=>cases y<;>first | exact same h2 (by simp) (by simp) (by simp) | exact absurd h2 (by simp [leAV])
 | prv d=>cases y<;>first | exact same h2 (by simp) (by simp) (by simp) | exact absurd h2 (by simp [leAV])
 | clo3 f a b c=>cases y<;>first | exact same h2 (by simp) (by simp) (by simp) | exact absurd h2 (by simp [leAV])
 | hp q k=>cases y<;>first | exact same h2 (by simp) (by simp) (by simp) | exact absurd h2 (by simp [leAV])
 | hdr h n=>cases y<;>first | exact same h2 (by simp) (by simp) (by simp) | exact absurd h2 (by simp [leAV])
 | emp b=>cases y<;>first | exact same h2 (by simp) (by simp) (by simp) | exact absurd h2 (by simp [leAV])
theorem Le.re {C:Ctx} (hC:C.pin=[]) {n:Nat} {fr:List (Nat×Bool×Sl)} {obs obs':List O} (π:List Nat) (l:List (Nat×Bool×AV)) (hn:nodupB π=true) (ho:leOs obs π obs') (hf:leFr π obs obs' fr l) :
  Le C ⟨n,fr,obs⟩ ⟨n,frV l,obs'⟩:=Le.reP π l (fun j hj=>by rw [hC]at hj;simp at hj) hn ho hf
theorem letgo_sl {C:Ctx} {obs:List O} {w:World} {ρ:Nat->Value} (rr:WRel C obs w ρ) {id g:Nat} {e:E} {xs:List e.D} {nn:Bool} (ho:obs[id]? = some (.arr e xs g nn)) :
  Step C w w obs (obs.set id .dead) ρ (fun i=>if i=id then ρ id else ρ i)/\SlRel (C.V w (obs.set id .dead) (fun i=>if i=id then ρ id else ρ i)) true e xs (ρ id):=by
 have T:=Turn.letgo rr ho
 have hst:=T.step rr
 obtain⟨cs,hown,henc,hnn,hml⟩:=rr.os id _ ho
 refine⟨hst,?_⟩
 have henc':=henc.mono hst.le
 have hown0:=hown
 rcases hown.2 with⟨hv,hz⟩ | ⟨b,cap,cur,hv,_,hg,h1,h2,h3,h4⟩
 ·exact⟨none,0,by rw [hv,hz],by omega,by omega,fun i hi=>by omega⟩
 ·have hfp:fpo (ρ id) (.arr e xs g nn) b:=by simp [fpo,hv,Value.ownBlock]
  have hnot:¬Own (obs.set id .dead) (fun i=>if i=id then ρ id else ρ i) b:=by
   rintro⟨j,oj,hj,hf⟩
   by_cases hji:id=j
   ·subst hji
    rw [List.getElem?_set_self (geS.1 ho).1]at hj
    cases hj
    simp [fpo]at hf
   ·rw [List.getElem?_set_ne hji]at hj
    simp only [if_neg (Ne.symm hji)]at hf
    exact hji (rr.dis id j _ oj b ho hj hfp hf)
  refine⟨some ⟨b,0,none⟩,cap,hv,by omega,h2,fun i hi=>?_⟩
  obtain⟨u,hu,hcell⟩:=henc'.2 i om
  refine⟨⟨b,0,none⟩,u,rfl,fun _=>.inl (rr.own b ⟨id,_,ho,hfp⟩),hu,fun j hj=>?_⟩
  have hsz:=hu.cells.1
  have h5:=hcell j om
  rw [Array.getElem?_eq_getElem om]at h5 ⊢
  have h6:=hown0.cells (g:=b) (by rw [hv];rfl) _ _ h5
  have hH:(C.V w (obs.set id .dead) (fun i=>if i=id then ρ id else ρ i)).H b=w.heap[b]?:=by
   simp only [Ctx.V,mask,if_neg hnot]
  simp only [add_plain,Vw.cell,hH]
  simp only [World.cell?,add_plain]at h6
  revert h6
  cases w.heap[b]? with
  | none=>intro h;cases h
  | some o=>cases o<;>first | (intro h;cases h) | exact fun h=>h
def slF (id g:Nat) (x':AV) (obs:List O) (fr:List (Nat×Bool×Sl)):List (Nat×Bool×AV)->Prop
 | []=>True
 | (s,ex,x) :: r=>((look s fr=some (ex,.v x))\/(look s fr=some (ex,.v (.own id g))/\x=x'))/\slF id g x' obs fr r
theorem slF_look {id g:Nat} {x':AV} {obs:List O} {fr:List (Nat×Bool×Sl)}:∀ {l:List (Nat×Bool×AV)},slF id g x' obs fr l->∀ {s:Nat} {ex:Bool} {x:Sl},look s (frV l)=some (ex,x) ->
  ∃ z,x=.v z/\(look s fr=some (ex,.v z)\/(look s fr=some (ex,.v (.own id g))/\z=x'))
 | [],_,s,ex,x,h=>by simp [look,frV]at h
 | (t,ey,y) :: r,hs,s,ex,x,h=>by
  simp only [look,frV,List.map_cons]at h
  split at h
  ·rename_i ht
   cases h
   have:s=t:=by simpa using ht
   subst this
   exact⟨y,rfl,hs.1⟩
  ·exact slF_look hs.2 h
theorem Le.letgo {C:Ctx} {n:Nat} {fr:List (Nat×Bool×Sl)} {obs:List O} (id:Nat) {g:Nat} {e:E} {xs:List e.D} {nn:Bool} (l:List (Nat×Bool×AV)) (ho:oAt obs id=.arr e xs g nn) (hf:slF id g (.sl true e xs) obs fr l) :
  Le C ⟨n,fr,obs⟩ ⟨n,frV l,oSet obs id .dead⟩:=by
 intro a w ρ r
 have hid:id < obs.length:=by
  rcases Nat.lt_or_ge id obs.length with h | h
  ·exact h
  ·rw [oAt_eq,geN h]at ho;cases ho
 have ho':obs[id]? = some (.arr e xs g nn):=by rw [oAt_get hid,ho]
 rw [oSet_eq]
 obtain⟨hst,hsl⟩:=letgo_sl r.w ho'
 refine⟨_,r.defers,r.size,fun s ex x hl=>?_,hst.wr,(hst.rel r).pin⟩
 obtain⟨z,rfl,h1 | ⟨h1,h2⟩⟩:=slF_look hf hl
 ·obtain⟨k1,k2⟩:=r.fr s ex _ h1
  exact⟨fun he=>hst.slot (k1 he),k2⟩
 ·obtain⟨k1,k2⟩:=r.fr s ex _ h1
  refine⟨fun he=>?_,k2⟩
  subst h2
  obtain⟨_,hk⟩:=(show AVRel (C.V w obs ρ) obs ρ (.own id g) _ from k1 he)
  have:a.tmps.getD s undef=ρ id:=(hk g (by unfold genOf;rw [ho'];rfl)).2 rfl
  show SlRel _ _ _ _ _
  rw [this]
  exact hsl
end Go.Aw
namespace Go.Aw
open Go
section
variable {C:Ctx} {k:List Item}
def evT (σ:St):List Nat->List AV
 | []=>[]
 | t :: l=>σ.ev (.tmp t) :: evT σ l
def hasT (σ:St):List Nat->Prop
 | []=>True
 | t :: l=>σ.has (.tmp t)/\hasT σ l
theorem evT_nil (σ:St):evT σ []=[]:=rfl
theorem evT_cons (σ:St) (t:Nat) (l:List Nat):evT σ (t :: l)=σ.ev (.tmp t) :: evT σ l:=rfl
theorem hasT_nil (σ:St):hasT σ []=True:=rfl
theorem hasT_cons (σ:St) (t:Nat) (l:List Nat):hasT σ (t :: l)=(σ.has (.tmp t)/\hasT σ l):=rfl
theorem evT_eq (σ:St):∀ l:List Nat,evT σ l=l.map fun t=>σ.ev (.tmp t)
 | []=>rfl
 | t :: l=>by simp [evT,evT_eq σ l]
theorem hasT_eq (σ:St):∀ l:List Nat,hasT σ l->∀ t∈l,σ.has (.tmp t)
 | [],_=>by simp
 | t :: l,h=>by
  intro u hu
  cases hu with
  | head=>exact h.1
  | tail _ hu=>exact hasT_eq σ l h.2 u hu
theorem Run.retW {σ:St} (ts:List Nat) {xs:List AV} (hl:ts.length<=4) (hres:C.fn.results=(ts.map ResultVar.tmp).toArray) (hx:evT σ ts=xs) (hh:hasT σ ts) (h:Fin C xs σ.obs):Run C (.code .ret :: k) σ:=
 Run.ret hl hres (by rw [<- hx,evT_eq]) (hasT_eq σ ts hh) h
theorem Run.doneW {σ:St} (ts:List Nat) {xs:List AV} (hl:ts.length<=4) (hres:C.fn.results=(ts.map ResultVar.tmp).toArray) (hx:evT σ ts=xs) (hh:hasT σ ts) (h:Fin C xs σ.obs):Run C [] σ:=
 Run.done hl hres (by rw [<- hx,evT_eq]) (hasT_eq σ ts hh) h
def dstL:List Oper->List (Option Nat)
 | []=>[]
 | o :: r=>o.dst :: dstL r
theorem dstL_nil:dstL []=[]:=rfl
theorem dstL_cons (d:Option Nat) (op:Op) (ty:TypeId) (p:String) (af:Array Edge) (g:Option (Nat×Bool)) (r:List Oper):dstL (⟨d,op,ty,p,af,g⟩ :: r)=d :: dstL r:=rfl
theorem dstL_eq:∀ l:List Oper,dstL l=l.map (·.dst)
 | []=>rfl
 | o :: r=>by simp [dstL,dstL_eq r]
theorem Run.regionW (hC:C.Ok) {σ:St} {id:Nat} {l:List Oper} (h:∀ K:St->Prop,(∀ σ',Run C k σ'->K σ')->aexec C ⟨dstL l,false⟩ l σ K):Run C (.code (.region id l.toArray false) :: k) σ:=
 Run.region hC (by simpa only [dstL_eq] using h)
theorem Run.len {n:Nat} {fr:List (Nat×Bool×Sl)} {obs:List O} (s:Nat) {f:Bool} {e:E} {xs:List e.D} (h:look s fr=some (true,.v (.sl f e xs))) (hk:xs.length<=9223372036854775807->Run C k ⟨n,fr,obs⟩):Run C k ⟨n,fr,obs⟩:=by
 refine Run.fact (fun a w ρ r=>?_) hk
 obtain⟨_,_,_,h1,h2,_⟩:=(show SlRel _ _ _ _ _ from(r.fr s true _ h).1 rfl)
 exact Nat.le_trans h1 h2
end
def entF (i:Nat):List AV->List (Nat×Bool×Sl)
 | []=>[]
 | x :: l=>(i,true,.v x) :: entF (i+1) l
theorem entry_eq (args:List AV) (n:Nat):entry args n=⟨n,entF 0 args,[]⟩:=by
 simp only [entry]
 congr 1
 suffices h:∀(l:List AV) (i:Nat),(l.zipIdx i).map (fun p=>(p.2,true,Sl.v p.1))=entF i l from h args 0
 intro l
 induction l with
 | nil=>intro i;rfl
 | cons x l ih=>intro i;simp [entF,ih]
theorem ent_nil (i:Nat):entF i []=[]:=rfl
theorem ent_cons (i:Nat) (x:AV) (l:List AV):entF i (x :: l)=(i,true,.v x) :: entF (i+1) l:=rfl
theorem wrap_id {n:Int} (h:-9223372036854775808<=n/\n<=9223372036854775807):IntKind.i64.wrap n=n:=by rw [IntKind.wrap_i64];omega
theorem frV_nil:frV []=[]:=rfl
theorem frV_cons (s:Nat) (ex:Bool) (x:AV) (l:List (Nat×Bool×AV)):frV ((s,ex,x) :: l)=(s,ex,.v x) :: frV l:=rfl
theorem subF_nil (fr:List (Nat×Bool×Sl)):subF fr []=True:=rfl
theorem subF_cons (fr:List (Nat×Bool×Sl)) (s:Nat) (x:Bool×Sl) (r:List (Nat×Bool×Sl)):subF fr ((s,x) :: r)=(look s fr=some x/\subF fr r):=rfl
theorem AY:type_of% @AX/\(∀ p:Prop,(True/\p)=p)/\(∀ p:Prop,(p/\True)=p)/\(∀ b:Bool,(true && b)=b)/\(∀ b:Bool,(b && true)=b)/\(∀ b:Bool,(false && b)=false)/\(∀ b:Bool,(b && false)=false) /\
  (∀ b:Bool,(true || b)=true)/\(∀ b:Bool,(b || true)=true)/\(∀ b:Bool,(false || b)=b)/\(∀ b:Bool,(b || false)=b) /\
  (∀(α:Type) (a b:α),(bif true then a else b)=a)/\(∀(α:Type) (a b:α),(bif false then a else b)=b) /\
  (!false)=true/\(!true)=false/\(∀(α:Type) (a:α),(some a).isSome=true)/\(∀(α:Type),(none:Option α).isSome=false)/\decide True=true/\decide False=false /\
  (∀ p:Prop,(p->p)=True)/\(∀ α:Sort 1,(α->True)=True)/\(∀ p:Prop,(p->True)=True)/\(∀ p:Prop,(True->p)=p)/\(∀(α:Type) (a:α),(a=a)=True) /\
  (∀(α:Type) (a:α) (l:List α),(a :: l).isEmpty=false)/\(∀(α:Type),([]:List α).isEmpty=true)/\(∀(α:Type) (l:List α),[] ++ l=l)/\(∀(α:Type) (l:List α),l ++ []=l) /\
  type_of% @evT_nil/\type_of% @evT_cons/\type_of% @hasT_nil/\type_of% @hasT_cons/\type_of% @entry_eq/\type_of% @ent_nil/\type_of% @ent_cons/\type_of% @frV_nil/\type_of% @frV_cons/\type_of% @subF_nil/\type_of% @subF_cons/\type_of% @dstL_nil/\type_of% @dstL_cons:=by
 refine⟨AX,?_,?_,?_,?_,?_,?_,?_,?_,?_,?_,?_,?_,rfl,rfl,?_,?_,?_,?_,?_,?_,?_,?_,?_,?_,?_,?_,?_,evT_nil,evT_cons,hasT_nil,hasT_cons,entry_eq,ent_nil,ent_cons,frV_nil,frV_cons,subF_nil,subF_cons,dstL_nil,dstL_cons⟩<;>simp
end Go.Aw
