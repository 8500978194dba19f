/- A region, walked in the order of its text; calls. -/
import Derived.Test.YtbeeblhmgpgkjaaAw8
import Derived.Orders
set_option linter.unusedVariables false
set_option linter.unusedSimpArgs false
namespace Go.Aw
open Go

/-- What stands behind a call: the walk does not look into it before its time. -/
def Later (p : Prop) : Prop := p
@[congr] theorem Later.congr (p : Prop) : Later p = Later p := rfl

/-- A call of a function, on abstract values: whatever it may come to, K holds of it. -/
def ACall (C : Ctx) (obs : List O) (f : FuncId) (args : List AV) (K : Sl → List O → Prop) : Prop :=
  (∀ (vs : Array Value) (w : World), (callFunc f vs).run C.P w = .ok (.enter f vs) w) ∧
  ∀ w ρ (vs : List Value), WRel C obs w ρ → vs.length = args.length → (∀ (i : Nat) (x : AV) (v : Value), args[i]? = some x → vs[i]? = some v → AVRel (C.V w obs ρ) obs ρ x v) →
    Calls C.P f vs.toArray w fun e w' => ∃ v, e = .returned v ∧ ∃ x obs' ρ', Step C w w' obs obs' ρ ρ' ∧ SlotRel (C.V w' obs' ρ') obs' ρ' x v ∧ K x obs'

theorem ACall.mono {C : Ctx} {obs : List O} {f : FuncId} {args : List AV} {K K' : Sl → List O → Prop} (h : ACall C obs f args K) (hk : ∀ x o, K x o → K' x o) : ACall C obs f args K' :=
  ⟨h.1, fun w ρ vs r hl ha => (h.2 w ρ vs r hl ha).mono fun _ _ ⟨v, he, x, o, ρ', h1, h2, h3⟩ => ⟨v, he, x, o, ρ', h1, h2, hk _ _ h3⟩⟩

/-- A call under '&&' or '||': carried out where ex is true. -/
def CallG (C : Ctx) (obs : List O) (f : FuncId) (args : List AV) (ex : Bool) (K : AV → Prop) : Prop :=
  ∃ x, (ex = true → ACall C obs f args fun y o => y = .v x ∧ o = obs) ∧ K x

/-- The same, or a call whose guard is known to hold. -/
def CallH (C : Ctx) (obs : List O) (f : FuncId) (args : List AV) (ex : Bool) (K : AV → Prop) (K2 : Sl → List O → Prop) : Prop :=
  CallG C obs f args ex K ∨ (ex = true ∧ ACall C obs f args K2)
theorem CallH.mono {C : Ctx} {obs : List O} {f : FuncId} {args : List AV} {ex : Bool} {K K' : AV → Prop} {K2 K2' : Sl → List O → Prop} (h : CallH C obs f args ex K K2) (hk : ∀ x, K x → K' x) (hk2 : ∀ x o, K2 x o → K2' x o) : CallH C obs f args ex K' K2' := by
  rcases h with ⟨x, h1, h2⟩ | ⟨h1, h2⟩
  · exact .inl ⟨x, h1, hk x h2⟩
  · exact .inr ⟨h1, h2.mono hk2⟩

/-- The slot that operation number j writes. -/
def slotOf : List (Option Nat) → Nat → Option Nat
  | [], _ => none
  | d :: r, j => bif j == 0 then d else slotOf r (j - 1)

theorem slotOf_eq : ∀ (ops : List Oper) (j : Nat), slotOf (ops.map (·.dst)) j = (ops[j]?).bind (·.dst)
  | [], j => by simp [slotOf]
  | o :: l, j => by
    cases j with
    | zero => simp [slotOf]
    | succ j => simp [slotOf, slotOf_eq l j]

def gex (ds : List (Option Nat)) (σ : St) : Option (Nat × Bool) → Option Bool
  | none => some true
  | some (j, want) => match slotOf ds j with
    | none => none
    | some d => match look d σ.fr with
      | some (ex, .v (.bool b)) => some (ex && (b == want))
      | _ => none

/-- Operations that turn nothing: they may stand under a guard. -/
def roOp : Op → Bool
  | .move _ | .assign _ | .pick .. | .binOp .. | .unOp .. | .load .. | .indexAddr .. | .slice .. | .extract .. => true
  | .call ⟨.builtin .len, _, _⟩ => true
  | .call ⟨.builtin .max, _, _⟩ => true
  | .call ⟨.builtin .min, _, _⟩ => true
  | _ => false

def St.put (σ : St) (d : Option Nat) (ex : Bool) (x : Sl) (obs : List O) : St :=
  match d with
  | some d => ⟨σ.n, (d, ex, x) :: σ.fr, obs⟩
  | none => ⟨σ.n, σ.fr, obs⟩

def inN (n : Nat) : Option Nat → Prop
  | none => True
  | some d => d < n

def calleeOf : Op → Option (FuncId × List Operand)
  | .call ⟨.value (.func f), args, _⟩ => some (f, args.toList)
  | _ => none

/-- A region: the slots that its operations write; whether its calls must leave the objects that there are as they are. -/
structure Rg where
  ds : List (Option Nat)
  kp : Bool

def Keeps (obs obs' : List O) : Prop := ∀ (id : Nat) (o : O), obs[id]? = some o → obs'[id]? = some o

/-- What a move hands on: the several results of a call, too. -/
def mvS (σ : St) (op : Op) (x : AV) : Sl :=
  match op with
  | .move (.tmp t) => match look t σ.fr with
    | some (_, .t l) => .t l
    | _ => .v x
  | _ => .v x

/-- One operation, and what is asked behind it. -/
def aone (C : Ctx) (rg : Rg) (o : Oper) (σ : St) (K : St → Prop) : Prop :=
  inN σ.n o.dst ∧
  match o.guard with
  | none => match calleeOf o.op with
    | some (f, args) => (∀ x ∈ args, σ.has x) ∧ ACall C σ.obs f (args.map σ.ev) fun x obs' => (rg.kp = true → Keeps σ.obs obs') ∧ Later (K (σ.put o.dst true x obs'))
    | none => match astep C σ o.op with
      | .bad => False
      | .ok vc x obs' => hasAll σ o.op ∧ vc ∧ K (σ.put o.dst true (mvS σ o.op x) obs')
      | .skip vc obs' => hasAll σ o.op ∧ vc ∧ o.dst = none ∧ K (σ.put none true (.v .junk) obs')
      | .all p x obs' => hasAll σ o.op ∧ ∀ l, p l → K (σ.put o.dst true (.v x) (obs' l))
  | some g => match gex rg.ds σ (some g) with
    | none => False
    | some ex => match calleeOf o.op with
      | some (f, args) => (ex = true → ∀ x ∈ args, σ.has x) ∧ CallH C σ.obs f (args.map σ.ev) ex (fun x => Later (K (σ.put o.dst ex (.v x) σ.obs))) fun x obs' => (rg.kp = true → Keeps σ.obs obs') ∧ Later (K (σ.put o.dst true x obs'))
      | none => if roOp o.op = true then match astep C σ o.op with
          | .ok vc x _ => (ex = true → hasAll σ o.op ∧ vc) ∧ K (σ.put o.dst ex (.v x) σ.obs)
          | _ => False
        else False

def aexec (C : Ctx) (rg : Rg) : List Oper → St → (St → Prop) → Prop
  | [], σ, K => K σ
  | o :: rest, σ, K => aone C rg o σ fun σ' => aexec C rg rest σ' K

section sound
variable {C : Ctx}

theorem put_rel {σ : St} {a : Act} {w : World} {ρ : Nat → Value} (r : Rel C σ a w ρ) {d : Option Nat} (hd : inN σ.n d) {ex : Bool} {x : Sl} {v : Value} (h1 : ex = true → SlotRel (C.V w σ.obs ρ) σ.obs ρ x v) (h2 : ex = false → v = undef) :
    Rel C (σ.put d ex x σ.obs) (a.put d v) w ρ := by
  cases d with
  | none => exact ⟨r.defers, r.size, r.fr, r.w, r.pin⟩
  | some d => exact r.put hd h1 h2

theorem put_obs {σ : St} {d : Option Nat} {ex : Bool} {x : Sl} {obs' : List O} : σ.put d ex x obs' = ({ σ with obs := obs' } : St).put d ex x obs' := by
  cases d <;> rfl

theorem step_put {σ : St} {a : Act} {w w' : World} {ρ ρ' : Nat → Value} {obs' : List O} (r : Rel C σ a w ρ) (h : Step C w w' σ.obs obs' ρ ρ') {d : Option Nat} (hd : inN σ.n d) {x : Sl} {v : Value} (h1 : SlotRel (C.V w' obs' ρ') obs' ρ' x v) :
    Rel C (σ.put d true x obs') (a.put d v) w' ρ' := by
  rw [put_obs]
  exact put_rel (σ := { σ with obs := obs' }) (h.rel r) hd (fun _ => h1) (by simp)

theorem wanted_gex {ops : List Oper} {σ : St} {a : Act} {w : World} {ρ : Nat → Value} (r : Rel C σ a w ρ) {o : Oper} {ex : Bool} (h : gex (ops.map (·.dst)) σ o.guard = some ex) : Region.wanted o (yielded ops.toArray a.tmps) = ex := by
  unfold gex at h
  unfold Region.wanted
  cases hg : o.guard with
  | none => rw [hg] at h; simp at h; simp [h]
  | some g =>
    obtain ⟨j, want⟩ := g
    rw [hg] at h
    simp only at h ⊢
    rw [slotOf_eq] at h
    cases hj : (ops[j]?).bind (·.dst) with
    | none => rw [hj] at h; simp at h
    | some d =>
      rw [hj] at h
      simp only at h
      split at h
      · rename_i ex' b hl
        cases h
        have hf := r.fr d ex' _ hl
        have hy : yielded ops.toArray a.tmps j = (match a.tmps[d]? with | some (.bool b) => some b | _ => none) := by
          unfold yielded
          simp only [List.getElem?_toArray]
          rw [hj]
          rfl
        rw [hy]
        cases ex' with
        | true =>
          have hv := hf.1 rfl
          simp only [SlotRel, AVRel] at hv
          have : a.tmps[d]? = some (.bool b) := by
            rw [Array.getD_eq_getD_getElem?] at hv
            cases hx : a.tmps[d]? with
            | none => rw [hx] at hv; simp [undef] at hv
            | some u => rw [hx] at hv; simpa using hv
          rw [this]
          cases b <;> cases want <;> rfl
        | false =>
          have hv := hf.2 rfl
          rw [Array.getD_eq_getD_getElem?] at hv
          cases hx : a.tmps[d]? with
          | none => simp
          | some u => rw [hx] at hv; simp [undef] at hv; subst hv; simp
      · cases h

theorem roOp_obs {σ : St} {op : Op} (h : roOp op = true) {vc : Prop} {x : AV} {obs' : List O} (hs : astep C σ op = .ok vc x obs') : obs' = σ.obs := by
  have binv : ∀ b u v, binV b u v σ.obs = .ok vc x obs' → obs' = σ.obs := by
    intro b u v hb
    unfold binV at hb
    (repeat' split at hb) <;> cases hb <;> rfl
  have lenv : ∀ u, lenV u σ.obs = .ok vc x obs' → obs' = σ.obs := by
    intro u hb
    unfold lenV at hb
    (repeat' split at hb) <;> cases hb <;> rfl
  have slv : ∀ u lo hi, sliceV u lo hi σ.obs = .ok vc x obs' → obs' = σ.obs := by
    intro u lo hi hb
    unfold sliceV at hb
    (repeat' split at hb) <;> cases hb <;> rfl
  unfold roOp at h
  split at h <;> first | (simp at h; done) | skip
  · simp only [astep] at hs; cases hs; rfl
  · simp only [astep] at hs; cases hs; rfl
  · simp only [astep, pickV] at hs; split at hs <;> cases hs; rfl
  · simp only [astep] at hs
    rename_i op t x' y t'
    rcases binS_bin (C := C) (σ := σ) (op := op) (t := t) (x := x') (y := y) with k | k <;> rw [k] at hs
    · cases hs
    · exact binv _ _ _ hs
  · simp only [astep, unV] at hs; (repeat' split at hs) <;> cases hs <;> rfl
  · simp only [astep, loadV] at hs; (repeat' split at hs) <;> cases hs <;> rfl
  · simp only [astep, idxV] at hs; (repeat' split at hs) <;> cases hs <;> rfl
  · rename_i t x' lo hi mx
    cases mx with
    | some m => simp [astep] at hs
    | none =>
      simp only [astep] at hs
      rcases sliceS_v (C := C) (σ := σ) (t := t) (x := x') (lo := lo) (hi := hi) with k | ⟨k, _⟩ <;> rw [k] at hs
      · cases hs
      · exact slv _ _ _ hs
  · simp only [astep, exV] at hs; (repeat' split at hs) <;> cases hs <;> rfl
  · simp only [astep] at hs
    split at hs
    · rename_i x' t _ _ _
      rcases lenS_v (C := C) (σ := σ) (t := t) (x := x') with k | ⟨k, _⟩ <;> rw [k] at hs
      · cases hs
      · exact lenv _ hs
    all_goals first | (cases hs; done) | (simp at *; done)
  · simp only [astep] at hs
    split at hs
    all_goals first | (unfold maxV at hs; split at hs <;> cases hs <;> rfl) | (cases hs; done) | (simp at *; done)
  · simp only [astep] at hs
    split at hs
    all_goals first | (unfold maxV at hs; split at hs <;> cases hs <;> rfl) | (cases hs; done) | (simp at *; done)

theorem calleeOf_op {op : Op} {f : FuncId} {args : List Operand} (h : calleeOf op = some (f, args)) : ∃ ts, op = .call ⟨.value (.func f), args.toArray, ts⟩ := by
  unfold calleeOf at h
  split at h
  · cases h; exact ⟨_, rfl⟩
  · cases h

theorem run_call {a : Act} {o : Oper} {f : FuncId} {args : List Operand} {ts : Array TypeId} (ho : o.op = .call ⟨.value (.func f), args.toArray, ts⟩)
    (hf : ∀ (vs : Array Value) (w : World), (callFunc f vs).run C.P w = .ok (.enter f vs) w) (w : World) : (execOp a.eval o).run C.P w = .ok (.enter f (args.map a.eval).toArray) w := by
  unfold execOp
  simp only [ho, resolve, Act.eval, Deferred.ofValue, Sem.run_bind, Sem.run_pure, Result.andThen_ok, invoke]
  have e : (#[] ++ Array.map a.eval args.toArray ++ #[] : Array Value) = (args.map a.eval).toArray := by simp
  rw [e]
  exact hf _ _

theorem mvS_rel {σ : St} {a : Act} {w w' : World} {ρ ρ' : Nat → Value} {o : Oper} {x : AV} {z : Value} {obs' : List O} (r : Rel C σ a w ρ) (hst : Step C w w' σ.obs obs' ρ ρ') (hm : ∀ t, o.op = .move (.tmp t) → σ.has (.tmp t)) (hrun : (execOp a.eval o).run C.P w = .ok (.value z) w')
    (hx : AVRel (C.V w' obs' ρ') obs' ρ' x z) : SlotRel (C.V w' obs' ρ') obs' ρ' (mvS σ o.op x) z := by
  obtain ⟨d, op, ty, p, af, g⟩ := o
  unfold mvS
  split
  · rename_i t hop
    simp only at hop
    subst hop
    split
    · rename_i ex l hl
      have he : ex = true := by
        have : St.has σ (.tmp t) := hm t rfl
        simp only [St.has, hl] at this
        exact this
      have h1 := hst.slot ((r.fr t ex _ hl).1 he)
      have h2 : (execOp a.eval ⟨d, .move (.tmp t), ty, p, af, g⟩).run C.P w = .ok (.value (a.tmps.getD t undef)) w := rfl
      rw [h2] at hrun
      injection hrun with h3 h4
      injection h3 with h5
      rw [← h5]
      exact h1
    · exact hx
  · exact hx

/-- One operation of a region. -/
theorem aone_wp (hC : C.Ok) {ops : List Oper} {kp : Bool} {K : St → Prop} {Q : Exit → Act → World → Prop} {K2 : Act → World → Prop} (ih : ∀ σ' a' w' ρ', K σ' → Rel C σ' a' w' ρ' → K2 a' w')
    {i : Nat} {o : Oper} {σ : St} {a : Act} {w : World} {ρ : Nat → Value} (he : ops[i]? = some o) (h : aone C ⟨ops.map (·.dst), kp⟩ o σ K) (r : Rel C σ a w ρ) : wpOp C.P ops.toArray Q i K2 a w := by
    have he2 : ops.toArray[i]? = some o := by rw [List.getElem?_toArray]; exact he
    simp only [aone] at h
    obtain ⟨hd, h⟩ := h
    simp only [wpOp, he2]
    split at h
    · -- no guard
      rename_i hg
      have hw : Region.wanted o (yielded ops.toArray a.tmps) = true := by unfold Region.wanted; rw [hg]
      simp only [hw, if_true]
      refine .inl ?_
      split at h
      · rename_i f args hc
        obtain ⟨ts, hop⟩ := calleeOf_op hc
        obtain ⟨hh, hf, hcall⟩ := h
        unfold Oper.wp
        rw [run_call hop hf w]
        simp only [Oper.upon]
        have hcl := hcall w ρ (args.map a.eval) r.w (by simp) (by
          intro i x v hx hv
          simp only [List.getElem?_map, Option.map_eq_some_iff] at hx hv
          obtain ⟨y, hy, rfl⟩ := hx
          obtain ⟨y', hy', rfl⟩ := hv
          rw [hy] at hy'
          cases hy'
          exact r.ev (hh y (List.mem_of_getElem? hy)))
        refine hcl.mono fun e w' ⟨v, hev, x, obs', ρ', hst, hx, hk⟩ => ?_
        subst hev
        exact ih _ _ _ _ hk.2 (step_put r hst hd hx)
      · have hok := astep_ok (ty := o.type) hC r o.op
        split at h
        · exact h.elim
        · rename_i vc x obs' hs
          obtain ⟨hh, hv, hk⟩ := h
          obtain ⟨z, w', hrun, ρ', hst, hx⟩ := hok.1 vc x obs' hs hh hv
          have hrun' : (execOp a.eval o).run C.P w = .ok (.value z) w' := hrun o.dst o.pos o.after o.guard
          unfold Oper.wp
          rw [hrun']
          simp only [Oper.upon]
          exact ih _ _ _ _ hk (step_put (x := mvS σ o.op x) r hst hd (mvS_rel r hst (fun t ht => by rw [ht] at hs; simp only [astep] at hs; injection hs with e1 _ _; rw [e1]; exact hv) hrun' hx))
        · rename_i vc obs' hs
          obtain ⟨hh, hv, hdn, hk⟩ := h
          obtain ⟨w', hrun, hst⟩ := hok.2.1 vc obs' hs hh hv
          have hrun' : (execOp a.eval o).run C.P w = .ok .skip w' := hrun o.dst o.pos o.after o.guard
          unfold Oper.wp
          rw [hrun']
          simp only [Oper.upon]
          rw [hdn]
          exact ih _ _ _ _ hk (step_put (d := none) (x := .v .junk) (v := undef) r hst trivial trivial)
        · rename_i p x obs' hs
          obtain ⟨hh, hk⟩ := h
          obtain ⟨z, w', l, hl, ⟨hrun, ρ', hst, hx⟩ | ⟨hrun, rfl, hst⟩⟩ := hok.2.2 p x obs' hs hh
          · have hrun' : (execOp a.eval o).run C.P w = .ok (.value z) w' := hrun o.dst o.pos o.after o.guard
            unfold Oper.wp
            rw [hrun']
            simp only [Oper.upon]
            exact ih _ _ _ _ (hk l hl) (step_put (x := .v x) r hst hd hx)
          · have hrun' : (execOp a.eval o).run C.P w = .ok .skip w' := hrun o.dst o.pos o.after o.guard
            unfold Oper.wp
            rw [hrun']
            simp only [Oper.upon]
            exact ih _ _ _ _ (hk l hl) (step_put (x := .v .junk) (v := undef) r hst hd trivial)
    · -- a guard
      rename_i g hg
      split at h
      · exact h.elim
      · rename_i ex hgx
        have hw : Region.wanted o (yielded ops.toArray a.tmps) = ex := wanted_gex r (by rw [hg]; exact hgx)
        rw [hw]
        split at h
        · rename_i f args hc
          obtain ⟨ts, hop⟩ := calleeOf_op hc
          obtain ⟨hh, ⟨x, hcall, hk⟩ | ⟨hex, hcall⟩⟩ := h
          case inr =>
            subst hex
            simp only [if_true]
            refine .inl ?_
            have hh := hh rfl
            obtain ⟨hf, hcall⟩ := hcall
            unfold Oper.wp
            rw [run_call hop hf w]
            simp only [Oper.upon]
            have hcl := hcall w ρ (args.map a.eval) r.w (by simp) (by
              intro i x v hx hv
              simp only [List.getElem?_map, Option.map_eq_some_iff] at hx hv
              obtain ⟨y, hy, rfl⟩ := hx
              obtain ⟨y', hy', rfl⟩ := hv
              rw [hy] at hy'
              cases hy'
              exact r.ev (hh y (List.mem_of_getElem? hy)))
            refine hcl.mono fun e w' ⟨v, hev, x, obs', ρ', hst, hx, hk⟩ => ?_
            subst hev
            exact ih _ _ _ _ hk.2 (step_put r hst hd hx)
          cases ex with
          | true =>
            simp only [if_true]
            refine .inl ?_
            have hh := hh rfl
            obtain ⟨hf, hcall⟩ := hcall rfl
            unfold Oper.wp
            rw [run_call hop hf w]
            simp only [Oper.upon]
            have hcl := hcall w ρ (args.map a.eval) r.w (by simp) (by
              intro i x v hx hv
              simp only [List.getElem?_map, Option.map_eq_some_iff] at hx hv
              obtain ⟨y, hy, rfl⟩ := hx
              obtain ⟨y', hy', rfl⟩ := hv
              rw [hy] at hy'
              cases hy'
              exact r.ev (hh y (List.mem_of_getElem? hy)))
            refine hcl.mono fun e w' ⟨v, hev, y, obs', ρ', hst, hx, hy, ho⟩ => ?_
            subst hev hy ho
            exact ih _ _ _ _ hk (step_put r hst hd hx)
          | false =>
            simp only [Bool.false_eq_true, if_false]
            exact ih _ _ _ _ hk (put_rel r hd (by simp) (fun _ => rfl))
        · split at h
          case isFalse => exact h.elim
          rename_i hro
          split at h
          case h_2 => exact h.elim
          rename_i vc x obs' hs
          obtain ⟨hh, hk⟩ := h
          cases ex with
          | true =>
            simp only [if_true]
            refine .inl ?_
            obtain ⟨h1, h2⟩ := hh rfl
            obtain ⟨z, w', hrun, ρ', hst, hx⟩ := (astep_ok (ty := o.type) hC r o.op).1 vc x obs' hs h1 h2
            have hob := roOp_obs hro hs
            subst hob
            have hrun' : (execOp a.eval o).run C.P w = .ok (.value z) w' := hrun o.dst o.pos o.after o.guard
            unfold Oper.wp
            rw [hrun']
            simp only [Oper.upon]
            exact ih _ _ _ _ hk (step_put (x := .v x) r hst hd hx)
          | false =>
            simp only [Bool.false_eq_true, if_false]
            exact ih _ _ _ _ hk (put_rel r hd (by simp) (fun _ => rfl))

/-- The region's operations in this order. -/
theorem aexec_wp (hC : C.Ok) {ops : List Oper} {kp : Bool} {K : St → Prop} {Q : Exit → Act → World → Prop} (hQ : ∀ σ' a' w' ρ', K σ' → Rel C σ' a' w' ρ' → Q .normal a' w') :
    ∀ (idxs : List Nat) (σ : St) (a : Act) (w : World) (ρ : Nat → Value), (∀ i ∈ idxs, i < ops.length) → aexec C ⟨ops.map (·.dst), kp⟩ (idxs.filterMap (ops[·]?)) σ K → Rel C σ a w ρ → wpOps C.P ops.toArray Q idxs a w
  | [], σ, a, w, ρ, _, h, r => hQ σ a w ρ h r
  | i :: rest, σ, a, w, ρ, hi, h, r => by
    have hlt : i < ops.length := hi i List.mem_cons_self
    have he : ops[i]? = some ops[i] := List.getElem?_eq_getElem hlt
    rw [List.filterMap_cons, he] at h
    rw [wpOps_cons]
    exact aone_wp hC (fun σ' a' w' ρ' h' r' => aexec_wp hC hQ rest σ' a' w' ρ' (fun j hj => hi j (List.mem_cons_of_mem _ hj)) h' r') he h r

theorem filterMap_from (ops : List Oper) : ∀ (l pre : List Oper), ops = pre ++ l → (List.range' pre.length l.length).filterMap (ops[·]?) = l
  | [], _, _ => rfl
  | o :: l, pre, h => by
    have h1 : ops[pre.length]? = some o := by rw [h]; simp
    have ih := filterMap_from ops l (pre ++ [o]) (by rw [h]; simp)
    simp only [List.length_append, List.length_cons, List.length_nil, Nat.zero_add] at ih
    simp only [List.length_cons, List.range'_succ, List.filterMap_cons, h1, ih]

theorem filterMap_range (ops : List Oper) : (List.range ops.length).filterMap (ops[·]?) = ops := by
  rw [List.range_eq_range']
  exact filterMap_from ops ops [] rfl

/-- A region in the order of its text. -/
theorem Run.region (hC : C.Ok) {σ : St} {k : List Item} {id : Nat} {l : List Oper} (h : ∀ K : St → Prop, (∀ σ', Run C k σ' → K σ') → aexec C ⟨l.map (·.dst), false⟩ l σ K) : Run C (.code (.region id l.toArray false) :: k) σ := by
  intro a w ρ r b cs
  have h1 := h (fun σ' => Run C k σ') (fun _ hr => hr)
  have hw : (Code.region id l.toArray false).wp C.P (fun e a' w' => e = .normal ∧ ∃ σ' ρ', Run C k σ' ∧ Rel C σ' a' w' ρ') a w := by
    refine wp_region ?_
    refine aexec_wp hC (kp := false) (K := fun σ' => Run C k σ') (fun σ' a' w' ρ' hk hr => ⟨rfl, σ', ρ', hk, hr⟩) _ σ a w ρ (by simp) ?_ r
    simp only [List.size_toArray]
    rw [filterMap_range]
    exact h1
  obtain ⟨e, a', w', ⟨rfl, σ', ρ', hk, hr⟩, harr⟩ := hw b k cs
  obtain ⟨e2, a2, w2, hp, harr2⟩ := hk a' w' ρ' hr b cs
  exact ⟨e2, a2, w2, hp, .of_steps harr harr2⟩

end sound
end Go.Aw
