/- The walk's equations, gathered under one name: 'simp only [AX]' carries an abstract state through a region. -/
import Derived.Test.YtbeeblhmgpgkjaaAw11
set_option linter.unusedVariables false
set_option linter.unusedSimpArgs false
namespace Go.Aw
open Go

def oAt : List O → Nat → O
  | [], _ => .dead
  | o :: r, k => bif k == 0 then o else oAt r (k - 1)
def oSet : List O → Nat → O → List O
  | [], _, _ => []
  | o :: r, k, x => bif k == 0 then x :: r else o :: oSet r (k - 1) x

theorem oAt_eq : ∀ (l : List O) (k : Nat), oAt l k = (l[k]?).getD .dead
  | [], k => by simp [oAt]
  | o :: l, k => by
    cases k with
    | zero => simp [oAt]
    | succ k => simp [oAt, oAt_eq l k]
theorem oSet_eq : ∀ (l : List O) (k : Nat) (x : O), oSet l k x = l.set k x
  | [], k, x => by simp [oSet]
  | o :: l, k, x => by
    cases k with
    | zero => simp [oSet]
    | succ k => simp [oSet, oSet_eq l k x]

def hasL (σ : St) : List Operand → Prop
  | [] => True
  | x :: l => σ.has x ∧ hasL σ l
theorem hasL_eq (σ : St) : ∀ l : List Operand, hasL σ l = ∀ x ∈ l, σ.has x
  | [] => by simp [hasL]
  | x :: l => by simp [hasL, hasL_eq σ l]
def hasO (σ : St) : Option Operand → Prop
  | none => True
  | some x => σ.has x
theorem hasO_eq (σ : St) (x : Option Operand) : hasO σ x = ∀ y, x = some y → σ.has y := by cases x <;> simp [hasO]
def evL (σ : St) : List Operand → List AV
  | [] => []
  | x :: l => σ.ev x :: evL σ l
theorem evL_eq (σ : St) : ∀ l : List Operand, evL σ l = l.map σ.ev
  | [] => rfl
  | x :: l => by simp [evL, evL_eq σ l]
def hasP (σ : St) : List (Nat × Operand) → Prop
  | [] => True
  | p :: l => σ.has p.2 ∧ hasP σ l
theorem hasP_eq (σ : St) : ∀ l : List (Nat × Operand), hasP σ l = ∀ x ∈ l, σ.has x.2
  | [] => by simp [hasP]
  | x :: l => by simp [hasP, hasP_eq σ l]
def evP (σ : St) : List (Nat × Operand) → List (Nat × AV)
  | [] => []
  | p :: l => (p.1, σ.ev p.2) :: evP σ l
theorem evP_eq (σ : St) : ∀ l : List (Nat × Operand), evP σ l = l.map fun p => (p.1, σ.ev p.2)
  | [] => rfl
  | x :: l => by simp [evP, evP_eq σ l]

/-! ### The operations on values, by shape -/

def binQ (b : Option BT) (g : Option E) (op : BinOp) (x y : AV) (obs : List O) : Res :=
  match x, b, g with
  | .bool _, some .bool, _ => binV op x y obs
  | .bool _, _, _ => .bad
  | .int _ _, _, _ => binV op x y obs
  | .str _, _, _ => binV op x y obs
  | _, _, some _ => binV op x y obs
  | _, _, none => .bad
def lenQ (b : Option BT) (g : Option E) (x : AV) (obs : List O) : Res :=
  match x, b, g with
  | .str _, some .str, _ => lenV x obs
  | .str _, _, _ => .bad
  | _, _, some _ => lenV x obs
  | _, _, none => .bad
def sliceQ (b : Option BT) (g : Option E) (x : AV) (lo hi : Option AV) (obs : List O) : Res :=
  match x, b, g with
  | .str _, some .str, _ => sliceV x lo hi obs
  | .sl _ e' _, _, some e => if e'.size = e.size then sliceV x lo hi obs else .bad
  | .lr _ _, _, some e => if e.size = 1 then sliceV x lo hi obs else .bad
  | _, _, _ => .bad
def pickQ (ha hb : Prop) (c a b : AV) (obs : List O) : Res :=
  match c, a, b with
  | .bool t, .bool x, .bool y => .ok ((t = true → ha) ∧ (t = false → hb)) (.bool (bif t then x else y)) obs
  | _, _, _ => .bad
def exQ (x : Option (Bool × Sl)) (i : Nat) (obs : List O) : Res :=
  match x with
  | some (true, .t l) => match l[i]? with
    | some v => .ok True v obs
    | none => .bad
  | _ => .bad
def storeQ (sc : Bool) (x y : AV) (obs : List O) : Res :=
  match y with
  | .str _ => .bad
  | _ => storeV sc x y obs
/-- Objects, by their shape. -/
def lenO (g : Nat) (obs : List O) : O → Res
  | .arr _ xs g' _ => bif g == g' then .ok True (.int .i64 xs.length) obs else .bad
  | .mat _ xs g' _ => bif g == g' then .ok True (.int .i64 xs.length) obs else .bad
  | _ => .bad
def idxO (e2 : E) (id g : Nat) (n : Int) (obs : List O) : O → Res
  | .arr e xs g' _ => bif g == g' && (e.size == e2.size) then .ok (0 ≤ n ∧ n < xs.length) (.elt id g e.size n.toNat) obs else .bad
  | .mat _ xs g' _ => bif g == g' && (e2.size == 1) then .ok (0 ≤ n ∧ n < xs.length) (.elt id g 1 n.toNat) obs else .bad
  | _ => .bad
def loadO (sc : Bool) (g s k : Nat) (obs : List O) : O → Res
  | .arr e xs g' _ => bif g == g' && (s == e.size) && sc && (e.size == 1) then .ok True (ofE e (xs.getD k e.dflt)) obs else .bad
  | .mat hs xs g' _ => bif g == g' && (s == 1) && sc then .ok True (.hdr (hs.getD k none) (xs.getD k []).length) obs else .bad
  | _ => .bad
/-- An element, or a list of them, or none. -/
inductive OD (e : E) where
  | no
  | yes (d : e.D)
inductive OL (e : E) where
  | no
  | yes (l : List e.D)
def OD.of {e : E} : Option e.D → OD e
  | none => .no
  | some d => .yes d
def OL.of {e : E} : Option (List e.D) → OL e
  | none => .no
  | some d => .yes d
def toQ (e : E) (x : AV) : OD e := .of (toE e x)
def convQ (e' e : E) (ys : List e.D) : OL e' := .of (convL e' e ys)
def srcQ (e' : E) (x : AV) (obs : List O) (no : Option Nat) : OL e' := .of (srcL e' x obs no)
def allEQ (e : E) (l : List AV) : OL e := .of (allE e l)
def stE (id k g : Nat) (nn : Bool) (e : E) (xs : List e.D) (obs : List O) : OD e → Res
  | .yes d => .skip True (oSet obs id (.arr e (xs.set k d) g nn))
  | .no => .bad
def stM (id id2 g2 k : Nat) (hs : List (Option Nat)) (rows : List (List Int)) (g : Nat) (nn : Bool) (obs : List O) : O → Res
  | .arr .int xs g' true => bif g2 == g' then .all (fun _ => True) .junk (fun h => oSet (oSet obs id2 .dead) id (.mat (hs.set k (some h)) (rows.set k xs) g nn)) else .bad
  | _ => .bad
def stR (id k : Nat) (hs : List (Option Nat)) (rows : List (List Int)) (g : Nat) (nn : Bool) (obs : List O) : AV → Res
  | .own id2 g2 => stM id id2 g2 k hs rows g nn obs (oAt obs id2)
  | _ => .bad
def storeO (sc : Bool) (id g s k : Nat) (y : AV) (obs : List O) : O → Res
  | .arr e xs g' nn => bif g == g' && (s == e.size) && sc && (e.size == 1) then stE id k g nn e xs obs (toQ e y) else .bad
  | .mat hs xs g' nn => bif g == g' && (s == 1) && sc then stR id k hs xs g nn obs y else .bad
  | _ => .bad
def apE (id g : Nat) (nn : Bool) (e e' : E) (xs : List e'.D) (obs : List O) : OL e' → Res
  | .yes ys => .ok ((xs.length + ys.length) * e.bytes ≤ 140737488355328) (.own id (g + 1)) (oSet obs id (.arr e' (xs ++ ys) (g + 1) (nn || !ys.isEmpty)))
  | .no => .bad
def apO (e : E) (id g : Nat) (x : AV) (obs : List O) : O → Res
  | .arr e' xs g' nn => bif g == g' && decide (e'.fam = e.fam) then apE id g nn e e' xs obs (srcQ e' x obs (some id)) else .bad
  | _ => .bad
def apN (e : E) (obs : List O) : OL e → Res
  | .yes ys => .ok (ys.length * e.bytes ≤ 140737488355328) (.own obs.length 0) (obs ++ [.arr e ys 0 (!ys.isEmpty)])
  | .no => .bad
def srO (e' : E) (g : Nat) : O → OL e'
  | .arr e ys g' _ => bif g == g' then convQ e' e ys else .no
  | _ => .no

theorem at_arr {obs : List O} {id : Nat} : oAt obs id = match obs[id]? with | some o => o | none => .dead := by
  rw [oAt_eq]; cases obs[id]? <;> rfl

theorem lenV_own (id g : Nat) (obs : List O) : lenV (.own id g) obs = lenO g obs (oAt obs id) := by
  rw [at_arr]; simp only [lenV]
  cases h : obs[id]? with
  | none => rfl
  | some o => cases o with
    | dead => rfl
    | arr e xs g' nn => by_cases hg : g = g' <;> simp [lenO, hg, Bool.cond_eq_ite]
    | mat hs xs g' nn => by_cases hg : g = g' <;> simp [lenO, hg, Bool.cond_eq_ite]
theorem idxV_own (e2 : E) (id g : Nat) (k : IntKind) (n : Int) (obs : List O) : idxV (some e2) (.own id g) (.int k n) obs = idxO e2 id g n obs (oAt obs id) := by
  rw [at_arr]; simp only [idxV]
  cases h : obs[id]? with
  | none => rfl
  | some o => cases o with
    | dead => rfl
    | arr e xs g' nn => by_cases hg : g = g' <;> by_cases hs : e.size = e2.size <;> simp [idxO, hg, hs, Bool.cond_eq_ite]
    | mat hs xs g' nn => by_cases hg : g = g' <;> by_cases hs : e2.size = 1 <;> simp [idxO, hg, hs, Bool.cond_eq_ite]
theorem loadV_elt (sc : Bool) (id g s k : Nat) (obs : List O) : loadV sc (.elt id g s k) obs = loadO sc g s k obs (oAt obs id) := by
  rw [at_arr]; simp only [loadV]
  cases h : obs[id]? with
  | none => rfl
  | some o => cases o with
    | dead => rfl
    | arr e xs g' nn => by_cases hg : g = g' <;> by_cases hs : s = e.size <;> by_cases hc : sc = true <;> by_cases h1 : e.size = 1 <;> simp [loadO, hg, hs, hc, h1, Bool.cond_eq_ite]
    | mat hs xs g' nn => by_cases hg : g = g' <;> by_cases hs : s = 1 <;> by_cases hc : sc = true <;> simp [loadO, hg, hs, hc, Bool.cond_eq_ite]
theorem storeV_elt (sc : Bool) (id g s k : Nat) (y : AV) (obs : List O) : storeV sc (.elt id g s k) y obs = storeO sc id g s k y obs (oAt obs id) := by
  rw [at_arr]; simp only [storeV]
  cases h : obs[id]? with
  | none => rfl
  | some o => cases o with
    | dead => rfl
    | arr e xs g' nn =>
      have hb : (g == g' && (s == e.size) && sc && (e.size == 1)) = decide (g = g' ∧ s = e.size ∧ sc = true ∧ e.size = 1) := by
        rw [Bool.eq_iff_iff]; simp [and_assoc]
      simp only [storeO, hb]
      by_cases hP : g = g' ∧ s = e.size ∧ sc = true ∧ e.size = 1
      · simp only [hP, and_self, if_true, decide_true, cond_true]
        simp only [toQ]
        cases toE e y <;> simp [stE, oSet_eq, OD.of]
      · rw [if_neg hP, decide_eq_false hP]; rfl
    | mat hs xs g' nn =>
      have hb : (g == g' && (s == 1) && sc) = decide (g = g' ∧ s = 1 ∧ sc = true) := by
        rw [Bool.eq_iff_iff]; simp [and_assoc]
      simp only [storeO, hb]
      by_cases hP : g = g' ∧ s = 1 ∧ sc = true
      · rw [if_pos hP, decide_eq_true hP]
        cases y with
        | own id2 g2 =>
          simp only [cond_true, stR, at_arr]
          cases h2 : obs[id2]? with
          | none => rfl
          | some o2 => cases o2 with
            | dead => rfl
            | mat _ _ _ _ => rfl
            | arr e2 ys gg nn2 =>
              cases e2 with
              | int => cases nn2 with
                | true => by_cases hg : g2 = gg <;> simp [stM, hg, oSet_eq, Bool.cond_eq_ite]
                | false => rfl
              | _ => rfl
        | _ => rfl
      · rw [if_neg hP, decide_eq_false hP]; rfl
theorem appendV_own (e : E) (id g : Nat) (x : AV) (obs : List O) : appendV (some e) (.own id g) x obs = apO e id g x obs (oAt obs id) := by
  rw [at_arr]; simp only [appendV]
  cases h : obs[id]? with
  | none => rfl
  | some o => cases o with
    | dead => rfl
    | arr e' xs g' nn =>
      by_cases hg : g = g' <;> by_cases hs : e'.fam = e.fam <;> simp [apO, hg, hs, Bool.cond_eq_ite]
      simp only [srcQ]
      cases srcL e' x obs (some id) <;> simp [apE, oSet_eq, OL.of]
    | mat _ _ _ _ => rfl
theorem appendV_nil (e : E) (x : AV) (obs : List O) : appendV (some e) .nils x obs = apN e obs (srcQ e x obs none) := by
  simp only [appendV, srcQ]
  cases srcL e x obs none <;> rfl
theorem srcL_own (e' : E) (id g : Nat) (obs : List O) (no : Option Nat) : srcQ e' (.own id g) obs no = bif no == some id then .no else srO e' g (oAt obs id) := by
  rw [at_arr]; simp only [srcQ, srcL]
  by_cases hn : no = some id
  · simp [hn, OL.of]
  · simp only [hn, if_false]
    have : (no == some id) = false := by simpa using hn
    rw [this]
    cases h : obs[id]? with
    | none => rfl
    | some o => cases o with
      | dead => rfl
      | arr e ys g' nn => by_cases hg : g = g' <;> simp [srO, hg, Bool.cond_eq_ite, OL.of, convQ]
      | mat _ _ _ _ => rfl

def cpE (id g : Nat) (nn : Bool) (xs : List Int) (obs : List O) : OL .int → Res
  | .yes zs => .ok True (.int .i64 (min zs.length xs.length : Nat)) (oSet obs id (.arr .int (zs.take xs.length ++ xs.drop zs.length) g nn))
  | .no => .bad
def cpO (id g : Nat) (x : AV) (obs : List O) : O → Res
  | .arr .int xs g' nn => bif g == g' then cpE id g nn xs obs (srcQ .int x obs (some id)) else .bad
  | _ => .bad
theorem copyV_own (id g : Nat) (x : AV) (obs : List O) : copyV (some .int) (.own id g) x obs = cpO id g x obs (oAt obs id) := by
  rw [at_arr]; simp only [copyV]
  cases h : obs[id]? with
  | none => rfl
  | some o => cases o with
    | dead => rfl
    | mat _ _ _ _ => rfl
    | arr e' xs g' nn =>
      cases e' with
      | int =>
        by_cases hg : g = g'
        · subst hg
          simp only [cpO, beq_self_eq_true, cond_true, if_true, srcQ]
          cases srcL .int x obs (some id) <;> simp [cpE, oSet_eq, OL.of]
        · simp [cpO, hg, Bool.cond_eq_ite]
      | _ => rfl

theorem astep_bin (C : Ctx) (σ : St) (op : BinOp) (t ty : TypeId) (x y : Operand) : astep C σ (.binOp op t x y ty) = binQ (C.bt t) (C.Γ t) op (σ.ev x) (σ.ev y) σ.obs := rfl
theorem astep_pick (C : Ctx) (σ : St) (c x y : Operand) : astep C σ (.pick c x y) = pickQ (σ.has x) (σ.has y) (σ.ev c) (σ.ev x) (σ.ev y) σ.obs := by
  simp only [astep, pickV, pickQ]
  cases σ.ev c <;> cases σ.ev x <;> cases σ.ev y <;> rfl
theorem astep_store (C : Ctx) (σ : St) (t : TypeId) (x y : Operand) : astep C σ (.store t x y) = storeQ (C.sc t) (σ.ev x) (σ.ev y) σ.obs := by
  simp only [astep, storeQ]
  cases σ.ev y <;> rfl
theorem astep_len (C : Ctx) (σ : St) (x : Operand) (t : TypeId) : astep C σ (.call ⟨.builtin .len, List.toArray [x], List.toArray [t]⟩) = lenQ (C.bt t) (C.Γ t) (σ.ev x) σ.obs := rfl
theorem astep_slice (C : Ctx) (σ : St) (t : TypeId) (x : Operand) (lo hi : Option Operand) : astep C σ (.slice t x lo hi none) = sliceQ (C.bt t) (C.Γ t) (σ.ev x) (lo.map σ.ev) (hi.map σ.ev) σ.obs := rfl
theorem astep_ex (C : Ctx) (n : Nat) (fr : List (Nat × Bool × Sl)) (obs : List O) (t i : Nat) : astep C ⟨n, fr, obs⟩ (.extract (.tmp t) i) = exQ (look t fr) i obs := by
  simp only [astep, exV, exQ]
  rcases look t fr with _ | ⟨_ | _, _ | l⟩ <;> try rfl
  all_goals (simp only []; cases l[i]? <;> rfl)

/-! ### The equations -/

section
variable (C : Ctx) (ds : Rg) (rest : List Oper) (n : Nat) (fr : List (Nat × Bool × Sl)) (obs : List O) (K : St → Prop) (d : Nat) (ty : TypeId) (p : String) (af : Array Edge)

/-- Walk on, by an operation of known outcome. -/
def aS (hs : Prop) (r : Res) (d : Option Nat) : Prop := inN n d ∧ hs ∧ aR C ds rest n fr d K r

theorem plain_eq {op : Op} (h : calleeOf op = none) {hs : Prop} (h1 : hasAll ⟨n, fr, obs⟩ op = hs) {r : Res} (h2 : astep C ⟨n, fr, obs⟩ op = r) (d : Option Nat) (hm : ∀ t, op ≠ .move (.tmp t) := by intro t h; cases h) :
    aexec C ds (⟨d, op, ty, p, af, none⟩ :: rest) ⟨n, fr, obs⟩ K = aS C ds rest n fr K hs r d := by
  subst h1 h2
  exact aexec_plain C ds rest n fr obs K ty p af h hm d

/-- What a slot holds. -/
def slS : Option (Bool × Sl) → Sl
  | some (_, x) => x
  | none => .v .junk
theorem X_move (t : Nat) : aexec C ds (⟨some d, .move (.tmp t), ty, p, af, none⟩ :: rest) ⟨n, fr, obs⟩ K = (d < n ∧ St.has ⟨n, fr, obs⟩ (.tmp t) ∧ aexec C ds rest ⟨n, (d, true, slS (look t fr)) :: fr, obs⟩ K) := by
  simp only [aexec, aone, calleeOf, astep, mvS, hasAll, St.put, inN, true_and]
  rcases h : look t fr with _ | ⟨ex, x | l⟩
  · simp only [slS, St.ev, h]
  · simp only [slS, St.ev, h]
  · simp only [slS]
theorem X_movec (v : Value) : aexec C ds (⟨some d, .move (.const v), ty, p, af, none⟩ :: rest) ⟨n, fr, obs⟩ K = (d < n ∧ aexec C ds rest ⟨n, (d, true, .v (St.ev ⟨n, fr, obs⟩ (.const v))) :: fr, obs⟩ K) := by
  rw [plain_eq C ds rest n fr obs K ty p af (op := .move (.const v)) rfl rfl rfl]
  simp only [aS, astep, aR, St.put, hasAll, true_and, inN, has_const]
theorem X_movef (f : Nat) : aexec C ds (⟨some d, .move (.func f), ty, p, af, none⟩ :: rest) ⟨n, fr, obs⟩ K = (d < n ∧ aexec C ds rest ⟨n, (d, true, .v (St.ev ⟨n, fr, obs⟩ (.func f))) :: fr, obs⟩ K) := by
  rw [plain_eq C ds rest n fr obs K ty p af (op := .move (.func f)) rfl rfl rfl]
  simp only [aS, astep, aR, St.put, hasAll, true_and, inN, has_func]
theorem X_assign (x : Operand) : aexec C ds (⟨some d, .assign x, ty, p, af, none⟩ :: rest) ⟨n, fr, obs⟩ K = (d < n ∧ St.has ⟨n, fr, obs⟩ x ∧ aexec C ds rest ⟨n, (d, true, .v (St.ev ⟨n, fr, obs⟩ x)) :: fr, obs⟩ K) := by
  rw [plain_eq C ds rest n fr obs K ty p af (op := .assign x) rfl rfl rfl]
  simp only [aS, astep, aR, St.put, hasAll, true_and, inN]
theorem X_bin (dd : Option Nat) (op : BinOp) (t t' : TypeId) (x y : Operand) : aexec C ds (⟨dd, .binOp op t x y t', ty, p, af, none⟩ :: rest) ⟨n, fr, obs⟩ K =
    aS C ds rest n fr K (St.has ⟨n, fr, obs⟩ x ∧ St.has ⟨n, fr, obs⟩ y) (binQ (C.bt t) (C.Γ t) op (St.ev ⟨n, fr, obs⟩ x) (St.ev ⟨n, fr, obs⟩ y) obs) dd := plain_eq C ds rest n fr obs K ty p af rfl rfl rfl dd
theorem X_un (dd : Option Nat) (op : UnOp) (t : TypeId) (x : Operand) : aexec C ds (⟨dd, .unOp op t x, ty, p, af, none⟩ :: rest) ⟨n, fr, obs⟩ K =
    aS C ds rest n fr K (St.has ⟨n, fr, obs⟩ x) (unV op (St.ev ⟨n, fr, obs⟩ x) obs) dd := plain_eq C ds rest n fr obs K ty p af rfl rfl rfl dd
theorem X_pick (dd : Option Nat) (c x y : Operand) : aexec C ds (⟨dd, .pick c x y, ty, p, af, none⟩ :: rest) ⟨n, fr, obs⟩ K =
    aS C ds rest n fr K (St.has ⟨n, fr, obs⟩ c) (pickQ (St.has ⟨n, fr, obs⟩ x) (St.has ⟨n, fr, obs⟩ y) (St.ev ⟨n, fr, obs⟩ c) (St.ev ⟨n, fr, obs⟩ x) (St.ev ⟨n, fr, obs⟩ y) obs) dd :=
  plain_eq C ds rest n fr obs K ty p af rfl rfl (astep_pick ..) dd
theorem X_load (dd : Option Nat) (t : TypeId) (x : Operand) : aexec C ds (⟨dd, .load t x, ty, p, af, none⟩ :: rest) ⟨n, fr, obs⟩ K =
    aS C ds rest n fr K (St.has ⟨n, fr, obs⟩ x) (loadV (C.sc t) (St.ev ⟨n, fr, obs⟩ x) obs) dd := plain_eq C ds rest n fr obs K ty p af rfl rfl rfl dd
theorem X_store (dd : Option Nat) (t : TypeId) (x y : Operand) : aexec C ds (⟨dd, .store t x y, ty, p, af, none⟩ :: rest) ⟨n, fr, obs⟩ K =
    aS C ds rest n fr K (St.has ⟨n, fr, obs⟩ x ∧ St.has ⟨n, fr, obs⟩ y) (storeQ (C.sc t) (St.ev ⟨n, fr, obs⟩ x) (St.ev ⟨n, fr, obs⟩ y) obs) dd := plain_eq C ds rest n fr obs K ty p af rfl rfl (astep_store ..) dd
theorem X_idx (dd : Option Nat) (t : TypeId) (x y : Operand) : aexec C ds (⟨dd, .indexAddr t x y, ty, p, af, none⟩ :: rest) ⟨n, fr, obs⟩ K =
    aS C ds rest n fr K (St.has ⟨n, fr, obs⟩ x ∧ St.has ⟨n, fr, obs⟩ y) (idxV (C.Γ t) (St.ev ⟨n, fr, obs⟩ x) (St.ev ⟨n, fr, obs⟩ y) obs) dd := plain_eq C ds rest n fr obs K ty p af rfl rfl rfl dd
theorem X_make (dd : Option Nat) (t : TypeId) (x y : Operand) : aexec C ds (⟨dd, .makeSlice t x y, ty, p, af, none⟩ :: rest) ⟨n, fr, obs⟩ K =
    aS C ds rest n fr K (St.has ⟨n, fr, obs⟩ x ∧ St.has ⟨n, fr, obs⟩ y) (makeV (C.Γ t) (St.ev ⟨n, fr, obs⟩ x) (St.ev ⟨n, fr, obs⟩ y) obs) dd := plain_eq C ds rest n fr obs K ty p af rfl rfl rfl dd
theorem X_build (dd : Option Nat) (t : TypeId) (m : Nat) (l : List (Nat × Operand)) : aexec C ds (⟨dd, .buildSlice t m l.toArray, ty, p, af, none⟩ :: rest) ⟨n, fr, obs⟩ K =
    aS C ds rest n fr K (hasP ⟨n, fr, obs⟩ l) (buildV (C.Γ t) m (evP ⟨n, fr, obs⟩ l) obs) dd := plain_eq C ds rest n fr obs K ty p af rfl (by simp only [hasAll, hasP_eq]) (by rw [evP_eq]; rfl) dd
theorem X_slice (dd : Option Nat) (t : TypeId) (x : Operand) (lo hi : Option Operand) : aexec C ds (⟨dd, .slice t x lo hi none, ty, p, af, none⟩ :: rest) ⟨n, fr, obs⟩ K =
    aS C ds rest n fr K (St.has ⟨n, fr, obs⟩ x ∧ hasO ⟨n, fr, obs⟩ lo ∧ hasO ⟨n, fr, obs⟩ hi) (sliceQ (C.bt t) (C.Γ t) (St.ev ⟨n, fr, obs⟩ x) (lo.map (St.ev ⟨n, fr, obs⟩)) (hi.map (St.ev ⟨n, fr, obs⟩)) obs) dd :=
  plain_eq C ds rest n fr obs K ty p af rfl (by simp only [hasAll, hasO_eq]) rfl dd
theorem X_ex (dd : Option Nat) (t i : Nat) : aexec C ds (⟨dd, .extract (.tmp t) i, ty, p, af, none⟩ :: rest) ⟨n, fr, obs⟩ K =
    aS C ds rest n fr K True (exQ (look t fr) i obs) dd := plain_eq C ds rest n fr obs K ty p af rfl rfl (astep_ex ..) dd
theorem X_len (dd : Option Nat) (x : Operand) (t : TypeId) : aexec C ds (⟨dd, .call ⟨.builtin .len, List.toArray [x], List.toArray [t]⟩, ty, p, af, none⟩ :: rest) ⟨n, fr, obs⟩ K =
    aS C ds rest n fr K (hasL ⟨n, fr, obs⟩ [x]) (lenQ (C.bt t) (C.Γ t) (St.ev ⟨n, fr, obs⟩ x) obs) dd := plain_eq C ds rest n fr obs K ty p af rfl (by simp only [hasAll, hasL_eq]) rfl dd
theorem X_max (dd : Option Nat) (x y : Operand) (ts : Array TypeId) : aexec C ds (⟨dd, .call ⟨.builtin .max, List.toArray [x, y], ts⟩, ty, p, af, none⟩ :: rest) ⟨n, fr, obs⟩ K =
    aS C ds rest n fr K (hasL ⟨n, fr, obs⟩ [x, y]) (maxV true (St.ev ⟨n, fr, obs⟩ x) (St.ev ⟨n, fr, obs⟩ y) obs) dd := plain_eq C ds rest n fr obs K ty p af rfl (by simp only [hasAll, hasL_eq]) rfl dd
theorem X_min (dd : Option Nat) (x y : Operand) (ts : Array TypeId) : aexec C ds (⟨dd, .call ⟨.builtin .min, List.toArray [x, y], ts⟩, ty, p, af, none⟩ :: rest) ⟨n, fr, obs⟩ K =
    aS C ds rest n fr K (hasL ⟨n, fr, obs⟩ [x, y]) (maxV false (St.ev ⟨n, fr, obs⟩ x) (St.ev ⟨n, fr, obs⟩ y) obs) dd := plain_eq C ds rest n fr obs K ty p af rfl (by simp only [hasAll, hasL_eq]) rfl dd
theorem X_copy (dd : Option Nat) (x y : Operand) (t t2 : TypeId) : aexec C ds (⟨dd, .call ⟨.builtin .copy, List.toArray [x, y], List.toArray [t, t2]⟩, ty, p, af, none⟩ :: rest) ⟨n, fr, obs⟩ K =
    aS C ds rest n fr K (hasL ⟨n, fr, obs⟩ [x, y]) (copyV (C.Γ t) (St.ev ⟨n, fr, obs⟩ x) (St.ev ⟨n, fr, obs⟩ y) obs) dd := plain_eq C ds rest n fr obs K ty p af rfl (by simp only [hasAll, hasL_eq]) (by simp [astep]) dd
theorem X_append (dd : Option Nat) (x y : Operand) (t : TypeId) : aexec C ds (⟨dd, .call ⟨.builtin .append, List.toArray [x, y], List.toArray [t, t]⟩, ty, p, af, none⟩ :: rest) ⟨n, fr, obs⟩ K =
    aS C ds rest n fr K (hasL ⟨n, fr, obs⟩ [x, y]) (appendV (C.Γ t) (St.ev ⟨n, fr, obs⟩ x) (St.ev ⟨n, fr, obs⟩ y) obs) dd := plain_eq C ds rest n fr obs K ty p af rfl (by simp only [hasAll, hasL_eq]) (by simp [astep]) dd
theorem X_call (dd : Option Nat) (f : FuncId) (l : List Operand) (ts : Array TypeId) : aexec C ds (⟨dd, .call ⟨.value (.func f), l.toArray, ts⟩, ty, p, af, none⟩ :: rest) ⟨n, fr, obs⟩ K =
    (inN n dd ∧ hasL ⟨n, fr, obs⟩ l ∧ ACall C obs f (evL ⟨n, fr, obs⟩ l) fun x obs' => (ds.kp = true → Keeps obs obs') ∧ Later (aexec C ds rest (St.put ⟨n, fr, obs⟩ dd true x obs') K)) := by
  rw [hasL_eq, evL_eq]; rfl

/-! Under a guard. -/

theorem guard_eq {op : Op} (h : calleeOf op = none) (hr : roOp op = true) {hs : Prop} {r : Res} (h1 : hs → hasAll ⟨n, fr, obs⟩ op) (h2 : astep C ⟨n, fr, obs⟩ op = r) {ex : Bool} (j : Nat) (b : Bool) (hg : gexV b (lookO fr (slotOf ds.ds j)) = some ex) (d : Option Nat) (hd : inN n d)
    (hh : ex = true → hs) (ha : aG C ds rest n fr obs d K ex r) : aexec C ds (⟨d, op, ty, p, af, some (j, b)⟩ :: rest) ⟨n, fr, obs⟩ K := by
  simp only [aexec, aone, h, hr, if_true]
  rw [gex_eq, hg]
  refine ⟨hd, ?_⟩
  simp only [h2]
  cases r with
  | bad => exact ha
  | ok vc x o => exact ⟨fun he => ⟨h1 (hh he), ha.1 he⟩, ha.2⟩
  | skip vc o => exact ha
  | all q x o => exact ha

/-- Walk on, by an operation under a guard. -/
def aT (hs : Prop) (r : Res) (d : Option Nat) : Option Bool → Prop
  | none => False
  | some ex => inN n d ∧ (ex = true → hs) ∧ aG C ds rest n fr obs d K ex r

theorem guard_iff {op : Op} (h : calleeOf op = none) (hr : roOp op = true) {hs : Prop} {r : Res} (h1 : hasAll ⟨n, fr, obs⟩ op = hs) (h2 : astep C ⟨n, fr, obs⟩ op = r) (j : Nat) (b : Bool) (d : Option Nat) :
    aexec C ds (⟨d, op, ty, p, af, some (j, b)⟩ :: rest) ⟨n, fr, obs⟩ K = aT C ds rest n fr obs K hs r d (gexV b (lookO fr (slotOf ds.ds j))) := by
  simp only [aexec, aone, h, hr, if_true]
  rw [gex_eq]
  subst h1 h2
  cases hg : gexV b (lookO fr (slotOf ds.ds j)) with
  | none => simp only [aT, and_false]
  | some ex =>
    simp only [aT]
    congr 1
    cases hs : astep C ⟨n, fr, obs⟩ op with
    | bad => simp [aG]
    | ok vc x o => simp only [aG, imp_and, and_assoc]
    | skip vc o => simp [aG]
    | all q x o => simp [aG]

theorem G_move (dd : Option Nat) (j : Nat) (b : Bool) (x : Operand) : aexec C ds (⟨dd, .move x, ty, p, af, some (j, b)⟩ :: rest) ⟨n, fr, obs⟩ K =
    aT C ds rest n fr obs K (St.has ⟨n, fr, obs⟩ x) (.ok True (St.ev ⟨n, fr, obs⟩ x) obs) dd (gexV b (lookO fr (slotOf ds.ds j))) := by
  simp only [aexec, aone, calleeOf, roOp, if_true]
  rw [gex_eq]
  cases hg : gexV b (lookO fr (slotOf ds.ds j)) with
  | none => simp only [aT, and_false]
  | some ex => simp [aT, aG, astep, hasAll]
theorem G_bin (dd : Option Nat) (j : Nat) (b : Bool) (op : BinOp) (t t' : TypeId) (x y : Operand) : aexec C ds (⟨dd, .binOp op t x y t', ty, p, af, some (j, b)⟩ :: rest) ⟨n, fr, obs⟩ K =
    aT C ds rest n fr obs K (St.has ⟨n, fr, obs⟩ x ∧ St.has ⟨n, fr, obs⟩ y) (binQ (C.bt t) (C.Γ t) op (St.ev ⟨n, fr, obs⟩ x) (St.ev ⟨n, fr, obs⟩ y) obs) dd (gexV b (lookO fr (slotOf ds.ds j))) := guard_iff C ds rest n fr obs K ty p af rfl rfl rfl rfl j b dd
theorem G_un (dd : Option Nat) (j : Nat) (b : Bool) (op : UnOp) (t : TypeId) (x : Operand) : aexec C ds (⟨dd, .unOp op t x, ty, p, af, some (j, b)⟩ :: rest) ⟨n, fr, obs⟩ K =
    aT C ds rest n fr obs K (St.has ⟨n, fr, obs⟩ x) (unV op (St.ev ⟨n, fr, obs⟩ x) obs) dd (gexV b (lookO fr (slotOf ds.ds j))) := guard_iff C ds rest n fr obs K ty p af rfl rfl rfl rfl j b dd
theorem G_pick (dd : Option Nat) (j : Nat) (b : Bool) (c x y : Operand) : aexec C ds (⟨dd, .pick c x y, ty, p, af, some (j, b)⟩ :: rest) ⟨n, fr, obs⟩ K =
    aT C ds rest n fr obs K (St.has ⟨n, fr, obs⟩ c) (pickQ (St.has ⟨n, fr, obs⟩ x) (St.has ⟨n, fr, obs⟩ y) (St.ev ⟨n, fr, obs⟩ c) (St.ev ⟨n, fr, obs⟩ x) (St.ev ⟨n, fr, obs⟩ y) obs) dd (gexV b (lookO fr (slotOf ds.ds j))) := guard_iff C ds rest n fr obs K ty p af rfl rfl rfl (astep_pick ..) j b dd
theorem G_load (dd : Option Nat) (j : Nat) (b : Bool) (t : TypeId) (x : Operand) : aexec C ds (⟨dd, .load t x, ty, p, af, some (j, b)⟩ :: rest) ⟨n, fr, obs⟩ K =
    aT C ds rest n fr obs K (St.has ⟨n, fr, obs⟩ x) (loadV (C.sc t) (St.ev ⟨n, fr, obs⟩ x) obs) dd (gexV b (lookO fr (slotOf ds.ds j))) := guard_iff C ds rest n fr obs K ty p af rfl rfl rfl rfl j b dd
theorem G_idx (dd : Option Nat) (j : Nat) (b : Bool) (t : TypeId) (x y : Operand) : aexec C ds (⟨dd, .indexAddr t x y, ty, p, af, some (j, b)⟩ :: rest) ⟨n, fr, obs⟩ K =
    aT C ds rest n fr obs K (St.has ⟨n, fr, obs⟩ x ∧ St.has ⟨n, fr, obs⟩ y) (idxV (C.Γ t) (St.ev ⟨n, fr, obs⟩ x) (St.ev ⟨n, fr, obs⟩ y) obs) dd (gexV b (lookO fr (slotOf ds.ds j))) := guard_iff C ds rest n fr obs K ty p af rfl rfl rfl rfl j b dd
theorem G_len (dd : Option Nat) (j : Nat) (b : Bool) (x : Operand) (t : TypeId) : aexec C ds (⟨dd, .call ⟨.builtin .len, List.toArray [x], List.toArray [t]⟩, ty, p, af, some (j, b)⟩ :: rest) ⟨n, fr, obs⟩ K =
    aT C ds rest n fr obs K (hasL ⟨n, fr, obs⟩ [x]) (lenQ (C.bt t) (C.Γ t) (St.ev ⟨n, fr, obs⟩ x) obs) dd (gexV b (lookO fr (slotOf ds.ds j))) := guard_iff C ds rest n fr obs K ty p af rfl rfl (by simp only [hasAll, hasL_eq]) rfl j b dd
theorem G_slice (dd : Option Nat) (j : Nat) (b : Bool) (t : TypeId) (x : Operand) (lo hi : Option Operand) : aexec C ds (⟨dd, .slice t x lo hi none, ty, p, af, some (j, b)⟩ :: rest) ⟨n, fr, obs⟩ K =
    aT C ds rest n fr obs K (St.has ⟨n, fr, obs⟩ x ∧ hasO ⟨n, fr, obs⟩ lo ∧ hasO ⟨n, fr, obs⟩ hi) (sliceQ (C.bt t) (C.Γ t) (St.ev ⟨n, fr, obs⟩ x) (lo.map (St.ev ⟨n, fr, obs⟩)) (hi.map (St.ev ⟨n, fr, obs⟩)) obs) dd (gexV b (lookO fr (slotOf ds.ds j))) :=
  guard_iff C ds rest n fr obs K ty p af rfl rfl (by simp only [hasAll, hasO_eq]) rfl j b dd
theorem G_ex (dd : Option Nat) (j : Nat) (b : Bool) (t i : Nat) : aexec C ds (⟨dd, .extract (.tmp t) i, ty, p, af, some (j, b)⟩ :: rest) ⟨n, fr, obs⟩ K =
    aT C ds rest n fr obs K True (exQ (look t fr) i obs) dd (gexV b (lookO fr (slotOf ds.ds j))) := guard_iff C ds rest n fr obs K ty p af rfl rfl rfl (astep_ex ..) j b dd
/-- A call under a guard. -/
def aU (dd : Option Nat) (f : FuncId) (hs : Prop) (xs : List AV) : Option Bool → Prop
  | none => False
  | some ex => inN n dd ∧ (ex = true → hs) ∧ CallH C obs f xs ex (fun x => Later (aexec C ds rest (St.put ⟨n, fr, obs⟩ dd ex (.v x) obs) K)) fun x obs' => (ds.kp = true → Keeps obs obs') ∧ Later (aexec C ds rest (St.put ⟨n, fr, obs⟩ dd true x obs') K)
theorem G_call (dd : Option Nat) (j : Nat) (b : Bool) (f : FuncId) (l : List Operand) (ts : Array TypeId) : aexec C ds (⟨dd, .call ⟨.value (.func f), l.toArray, ts⟩, ty, p, af, some (j, b)⟩ :: rest) ⟨n, fr, obs⟩ K =
    aU C ds rest n fr obs K dd f (hasL ⟨n, fr, obs⟩ l) (evL ⟨n, fr, obs⟩ l) (gexV b (lookO fr (slotOf ds.ds j))) := by
  rw [hasL_eq, evL_eq]
  simp only [aexec, aone, calleeOf]
  rw [gex_eq]
  cases hg : gexV b (lookO fr (slotOf ds.ds j)) with
  | none => simp only [aU, and_false]
  | some ex => rfl

end

theorem put_s (n : Nat) (fr : List (Nat × Bool × Sl)) (o obs : List O) (d : Nat) (ex : Bool) (x : Sl) : St.put ⟨n, fr, o⟩ (some d) ex x obs = ⟨n, (d, ex, x) :: fr, obs⟩ := rfl
theorem put_n (n : Nat) (fr : List (Nat × Bool × Sl)) (o obs : List O) (ex : Bool) (x : Sl) : St.put ⟨n, fr, o⟩ none ex x obs = ⟨n, fr, obs⟩ := rfl

theorem bt_arr (xs ys : List Nat) : (List.toArray xs = List.toArray ys) = (xs = ys) := by simp

theorem slS_some (ex : Bool) (x : Sl) : slS (some (ex, x)) = x := rfl
theorem slS_none : slS none = .v .junk := rfl

/-- Operations: the head of a region. -/
theorem AXo : type_of% @X_move ∧ type_of% @X_assign ∧ type_of% @X_bin ∧ type_of% @X_un ∧ type_of% @X_pick ∧ type_of% @X_load ∧ type_of% @X_store ∧ type_of% @X_idx ∧ type_of% @X_make ∧ type_of% @X_build ∧ type_of% @X_slice ∧ type_of% @X_ex ∧ type_of% @X_len ∧ type_of% @X_max ∧ type_of% @X_min ∧ type_of% @X_append ∧ type_of% @X_call ∧
    type_of% @G_move ∧ type_of% @G_bin ∧ type_of% @G_un ∧ type_of% @G_pick ∧ type_of% @G_load ∧ type_of% @G_idx ∧ type_of% @G_len ∧ type_of% @G_slice ∧ type_of% @G_ex ∧ type_of% @G_call ∧ type_of% @aexec_nil :=
  ⟨X_move, X_assign, X_bin, X_un, X_pick, X_load, X_store, X_idx, X_make, X_build, X_slice, X_ex, X_len, X_max, X_min, X_append, X_call, G_move, G_bin, G_un, G_pick, G_load, G_idx, G_len, G_slice, G_ex, G_call, aexec_nil⟩
end Go.Aw
