/- A region that draws its order: the walk of one order serves every order, if what may change places is apart and one of the two only reads. -/
import Derived.Test.YtbeeblhmgpgkjaaAw16
import Derived.Orders
set_option linter.unusedVariables false
set_option linter.unusedSimpArgs false
namespace Go.Aw
open Go

/-! ### What an operation reads -/

def opnd : Operand → List Nat
  | .tmp t => [t]
  | _ => []
def opndO : Option Operand → List Nat
  | some x => opnd x
  | none => []
def opndL : List Operand → List Nat
  | [] => []
  | x :: l => opnd x ++ opndL l
def opndP : List (Nat × Operand) → List Nat
  | [] => []
  | x :: l => opnd x.2 ++ opndP l

def opReads : Op → List Nat
  | .move x => opnd x
  | .assign x => opnd x
  | .pick c a b => opnd c ++ opnd a ++ opnd b
  | .binOp _ _ x y _ => opnd x ++ opnd y
  | .unOp _ _ x => opnd x
  | .load _ x => opnd x
  | .store _ x y => opnd x ++ opnd y
  | .indexAddr _ x y => opnd x ++ opnd y
  | .makeSlice _ x y => opnd x ++ opnd y
  | .buildSlice _ _ parts => opndP parts.toList
  | .slice _ x lo hi _ => opnd x ++ opndO lo ++ opndO hi
  | .extract x _ => opnd x
  | .call c => opndL c.args.toList
  | _ => []

def gReads (ds : List (Option Nat)) : Option (Nat × Bool) → List Nat
  | some (j, _) => (slotOf ds j).toList
  | none => []
def reads (ds : List (Option Nat)) (o : Oper) : List Nat := opReads o.op ++ gReads ds o.guard

def Agree (L : List Nat) (σ σ' : St) : Prop := ∀ s ∈ L, look s σ.fr = look s σ'.fr

section
variable {σ σ' : St}

theorem ev_agree {x : Operand} (h : Agree (opnd x) σ σ') : σ.ev x = σ'.ev x := by
  cases x with
  | tmp t => simp only [St.ev, h t (by simp [opnd])]
  | _ => rfl
theorem has_agree {x : Operand} (h : Agree (opnd x) σ σ') : σ.has x = σ'.has x := by
  cases x with
  | tmp t => simp only [St.has, h t (by simp [opnd])]
  | _ => rfl
theorem Agree.left {L M : List Nat} (h : Agree (L ++ M) σ σ') : Agree L σ σ' := fun s hs => h s (List.mem_append_left _ hs)
theorem Agree.right {L M : List Nat} (h : Agree (L ++ M) σ σ') : Agree M σ σ' := fun s hs => h s (List.mem_append_right _ hs)
theorem evL_agree : ∀ {l : List Operand}, Agree (opndL l) σ σ' → evL σ l = evL σ' l
  | [], _ => rfl
  | x :: l, h => by simp only [evL, ev_agree (Agree.left h), evL_agree (Agree.right h)]
theorem hasL_agree : ∀ {l : List Operand}, Agree (opndL l) σ σ' → hasL σ l = hasL σ' l
  | [], _ => rfl
  | x :: l, h => by simp only [hasL, has_agree (Agree.left h), hasL_agree (Agree.right h)]
theorem evP_agree : ∀ {l : List (Nat × Operand)}, Agree (opndP l) σ σ' → evP σ l = evP σ' l
  | [], _ => rfl
  | x :: l, h => by simp only [evP, ev_agree (Agree.left h), evP_agree (Agree.right h)]
theorem hasP_agree : ∀ {l : List (Nat × Operand)}, Agree (opndP l) σ σ' → hasP σ l = hasP σ' l
  | [], _ => rfl
  | x :: l, h => by simp only [hasP, has_agree (Agree.left h), hasP_agree (Agree.right h)]
theorem omap_agree {x : Option Operand} (h : Agree (opndO x) σ σ') : x.map σ.ev = x.map σ'.ev := by
  cases x with
  | none => rfl
  | some x => simp only [Option.map_some, ev_agree (x := x) h]
theorem hasO_agree {x : Option Operand} (h : Agree (opndO x) σ σ') : hasO σ x = hasO σ' x := by
  cases x with
  | none => rfl
  | some x => exact has_agree (x := x) h

theorem hasAll_agree {op : Op} (h : Agree (opReads op) σ σ') : hasAll σ op = hasAll σ' op := by
  cases op <;> simp only [opReads] at h <;> try rfl
  case binOp => simp only [hasAll, has_agree h.left, has_agree h.right]
  case unOp => exact has_agree h
  case load => exact has_agree h
  case store => simp only [hasAll, has_agree h.left, has_agree h.right]
  case indexAddr => simp only [hasAll, has_agree h.left, has_agree h.right]
  case makeSlice => simp only [hasAll, has_agree h.left, has_agree h.right]
  case buildSlice => simp only [hasAll, ← hasP_eq, hasP_agree h]
  case slice => simp only [hasAll, ← hasO_eq, has_agree h.left.left, hasO_agree h.left.right, hasO_agree h.right]
  case pick => exact has_agree h.left.left
  case call => simp only [hasAll, ← hasL_eq, hasL_agree h]

/-- An outcome, over other objects. -/
def Res.on (obs : List O) : Res → Res
  | .ok vc x _ => .ok vc x obs
  | r => r

variable {C : Ctx}

theorem astep_agree {op : Op} (h : Agree (opReads op) σ σ') (ho : σ.obs = σ'.obs) : astep C σ op = astep C σ' op := by
  obtain ⟨n, fr, obs⟩ := σ
  obtain ⟨n', fr', obs'⟩ := σ'
  simp only at ho
  subst ho
  cases op <;> simp only [opReads] at h <;> try rfl
  case move => simp only [astep, ev_agree h, has_agree h]
  case assign => simp only [astep, ev_agree h, has_agree h]
  case pick => simp only [astep_pick, ev_agree h.left.left, ev_agree h.left.right, ev_agree h.right, has_agree h.left.right, has_agree h.right]
  case binOp => simp only [astep_bin, ev_agree h.left, ev_agree h.right]
  case unOp => simp only [astep, ev_agree h]
  case load => simp only [astep, ev_agree h]
  case store => simp only [astep_store, ev_agree h.left, ev_agree h.right]
  case indexAddr => simp only [astep, ev_agree h.left, ev_agree h.right]
  case makeSlice => simp only [astep, ev_agree h.left, ev_agree h.right]
  case buildSlice t m parts => simp only [astep, ← evP_eq, evP_agree h]
  case slice t x lo hi mx =>
    cases mx with
    | none => simp only [astep_slice, ev_agree h.left.left, omap_agree h.left.right, omap_agree h.right]
    | some _ => rfl
  case extract x i =>
    cases x with
    | tmp t => simp only [astep_ex, h t (by simp [opnd])]
    | _ => rfl
  case call c =>
    obtain ⟨cal, args, ts⟩ := c
    cases cal with
    | builtin b =>
      obtain ⟨l⟩ := args
      obtain ⟨tl⟩ := ts
      cases b <;> try rfl
      case len =>
        match l, tl with
        | [x], [t] => exact congrArg (fun y => lenQ (C.bt t) (C.Γ t) y obs) (ev_agree (x := x) h.left)
        | [], _ => rfl
        | [_], [] => rfl
        | [_], _ :: _ :: _ => rfl
        | _ :: _ :: _, _ => rfl
      case append =>
        match l, tl with
        | [x, y], [t, t'] => simp only [astep, ev_agree (x := x) h.left, ev_agree (x := y) h.right.left]
        | [], _ => rfl
        | [_], _ => rfl
        | [_, _], [] => rfl
        | [_, _], [_] => rfl
        | [_, _], _ :: _ :: _ :: _ => rfl
        | _ :: _ :: _ :: _, _ => rfl
      case copy =>
        match l, tl with
        | [x, y], [t, t'] => simp only [astep, ev_agree (x := x) h.left, ev_agree (x := y) h.right.left]
        | [], _ => rfl
        | [_], _ => rfl
        | [_, _], [] => rfl
        | [_, _], [_] => rfl
        | [_, _], _ :: _ :: _ :: _ => rfl
        | _ :: _ :: _ :: _, _ => rfl
      case max =>
        match l with
        | [x, y] => simp only [astep, ev_agree (x := x) h.left, ev_agree (x := y) h.right.left]
        | [] => rfl
        | [_] => rfl
        | _ :: _ :: _ :: _ => rfl
      case min =>
        match l with
        | [x, y] => simp only [astep, ev_agree (x := x) h.left, ev_agree (x := y) h.right.left]
        | [] => rfl
        | [_] => rfl
        | _ :: _ :: _ :: _ => rfl
    | _ => rfl

/-- Operations that look at slots alone. -/
def pureOp : Op → Bool
  | .move _ | .assign _ | .pick .. | .binOp .. | .unOp .. | .extract .. => true
  | _ => false

theorem pure_ro {op : Op} (h : pureOp op = true) : roOp op = true := by cases op <;> first | rfl | exact absurd h (by simp [pureOp])

theorem binV_on (op : BinOp) (x y : AV) (obs obs' : List O) : binV op x y obs' = (binV op x y obs).on obs' := by
  unfold binV
  repeat' split
  all_goals first | rfl | (repeat' split) 
  all_goals rfl

theorem binQ_on (b : Option BT) (gq : Option E) (op : BinOp) (x y : AV) (obs obs' : List O) : binQ b gq op x y obs' = (binQ b gq op x y obs).on obs' := by
  unfold binQ
  split <;> first | exact binV_on .. | rfl

theorem astep_pure {op : Op} (hp : pureOp op = true) (n : Nat) (fr : List (Nat × Bool × Sl)) (obs obs' : List O) : astep C ⟨n, fr, obs'⟩ op = (astep C ⟨n, fr, obs⟩ op).on obs' := by
  cases op <;> simp only [pureOp] at hp <;> first | (cases hp; done) | skip
  case move => rfl
  case assign => rfl
  case pick c x y =>
    simp only [astep_pick, pickQ]
    rw [show St.ev ⟨n, fr, obs'⟩ c = St.ev ⟨n, fr, obs⟩ c from rfl, show St.ev ⟨n, fr, obs'⟩ x = St.ev ⟨n, fr, obs⟩ x from rfl, show St.ev ⟨n, fr, obs'⟩ y = St.ev ⟨n, fr, obs⟩ y from rfl]
    cases St.ev ⟨n, fr, obs⟩ c <;> cases St.ev ⟨n, fr, obs⟩ x <;> cases St.ev ⟨n, fr, obs⟩ y <;> rfl
  case binOp op t x y t' => exact binQ_on ..
  case unOp op t x =>
    simp only [astep, unV]
    rw [show St.ev ⟨n, fr, obs'⟩ x = St.ev ⟨n, fr, obs⟩ x from rfl]
    split <;> rfl
  case extract x i =>
    cases x with
    | tmp t =>
      simp only [astep_ex, exQ]
      rcases look t fr with _ | ⟨_ | _, _ | l⟩ <;> try rfl
      simp only []
      cases l[i]? <;> rfl
    | _ => rfl

theorem keeps_arr {obs obs' : List O} (hk : Keeps obs obs') {id : Nat} {o : O} (h : obs[id]? = some o) : obs'[id]? = some o := hk id o h

theorem astep_keeps {op : Op} (hr : roOp op = true) {n : Nat} {fr : List (Nat × Bool × Sl)} {obs obs' : List O} (hk : Keeps obs obs') {vc : Prop} {x : AV} {o : List O} (h : astep C ⟨n, fr, obs⟩ op = .ok vc x o) :
    astep C ⟨n, fr, obs'⟩ op = .ok vc x obs' := by
  by_cases hp : pureOp op = true
  · rw [astep_pure hp n fr obs obs', h]; rfl
  · cases op <;> simp only [roOp] at hr <;> first | (cases hr; done) | (exact absurd rfl hp) | skip
    case load t y =>
      simp only [astep] at h ⊢
      rw [show St.ev ⟨n, fr, obs'⟩ y = St.ev ⟨n, fr, obs⟩ y from rfl]
      revert h
      cases St.ev ⟨n, fr, obs⟩ y <;> simp only [loadV] <;> intro h <;> try (cases h; done)
      case elt id g s k =>
        cases ho : obs[id]? with
        | none => rw [ho] at h; cases h
        | some ob =>
          rw [ho] at h
          rw [hk id ob ho]
          cases ob with
          | dead => cases h
          | arr e xs g' nn =>
            simp only at h ⊢
            split at h
            · rename_i hc; rw [if_pos hc]; cases h; rfl
            · cases h
          | mat hs xs g' nn =>
            simp only at h ⊢
            split at h
            · rename_i hc; rw [if_pos hc]; cases h; rfl
            · cases h
      case relt f e d =>
        split at h
        · rename_i hc; rw [if_pos hc]; cases h; rfl
        · cases h
    case indexAddr t y z =>
      simp only [astep] at h ⊢
      rw [show St.ev ⟨n, fr, obs'⟩ y = St.ev ⟨n, fr, obs⟩ y from rfl, show St.ev ⟨n, fr, obs'⟩ z = St.ev ⟨n, fr, obs⟩ z from rfl]
      revert h
      cases C.Γ t with
      | none => intro h; simp [idxV] at h
      | some e2 =>
        cases St.ev ⟨n, fr, obs⟩ y <;> cases St.ev ⟨n, fr, obs⟩ z <;> simp only [idxV] <;> intro h <;> try (cases h; done)
        case sl.int =>
          split at h
          · rename_i hc; rw [if_pos hc]; cases h; rfl
          · cases h
        case lr.int =>
          split at h
          · rename_i hc; rw [if_pos hc]; cases h; rfl
          · cases h
        case own.int id g k i =>
          cases ho : obs[id]? with
          | none => rw [ho] at h; cases h
          | some ob =>
            rw [ho] at h
            rw [hk id ob ho]
            cases ob with
            | dead => cases h
            | arr e xs g' nn =>
              simp only at h ⊢
              split at h
              · rename_i hc; rw [if_pos hc]; cases h; rfl
              · cases h
            | mat hs xs g' nn =>
              simp only at h ⊢
              split at h
              · rename_i hc; rw [if_pos hc]; cases h; rfl
              · cases h
    case slice t y lo hi mx =>
      cases mx with
      | some _ => simp [astep] at h
      | none =>
        simp only [astep_slice] at h ⊢
        rw [show St.ev ⟨n, fr, obs'⟩ y = St.ev ⟨n, fr, obs⟩ y from rfl, show (lo.map fun z => St.ev ⟨n, fr, obs'⟩ z) = (lo.map fun z => St.ev ⟨n, fr, obs⟩ z) from rfl, show (hi.map fun z => St.ev ⟨n, fr, obs'⟩ z) = (hi.map fun z => St.ev ⟨n, fr, obs⟩ z) from rfl]
        have key : ∀ {v : AV} {l h' : Option AV} {o' : List O}, sliceV v l h' obs = .ok vc x o' → sliceV v l h' obs' = .ok vc x obs' := by
          intro v l h' o' hh
          unfold sliceV at hh ⊢
          split at hh <;> first | (split at hh <;> first | (cases hh; rename_i h1 h2; simp only [h1, h2]; done) | (cases hh; done)) | (cases hh; done)
        revert h
        generalize St.ev ⟨n, fr, obs⟩ y = v
        generalize (lo.map fun z => St.ev ⟨n, fr, obs⟩ z) = l
        generalize (hi.map fun z => St.ev ⟨n, fr, obs⟩ z) = h'
        intro h
        unfold sliceQ at h ⊢
        split at h
        · exact key h
        · split at h
          · rename_i hc; simp only [hc, if_true]; exact key h
          · cases h
        · split at h
          · rename_i hc; simp only [hc, if_true]; exact key h
          · cases h
        · cases h
    case call c =>
      obtain ⟨cal, ⟨l⟩, ⟨tl⟩⟩ := c
      cases cal with
      | builtin b =>
        cases b <;> simp only [roOp] at hr <;> first | (cases hr; done) | skip
        case len =>
          match l, tl with
          | [y], [t] =>
            have h' : lenQ (C.bt t) (C.Γ t) (St.ev ⟨n, fr, obs⟩ y) obs = .ok vc x o := h
            show lenQ (C.bt t) (C.Γ t) (St.ev ⟨n, fr, obs⟩ y) obs' = .ok vc x obs'
            revert h'
            generalize St.ev ⟨n, fr, obs⟩ y = v
            intro h'
            have key : lenV v obs = .ok vc x o → lenV v obs' = .ok vc x obs' := by
              intro hh
              cases v <;> simp only [lenV] at hh ⊢ <;> try (cases hh; done)
              case sl => cases hh; rfl
              case lr => cases hh; rfl
              case nils => cases hh; rfl
              case emp => cases hh; rfl
              case str => cases hh; rfl
              case own id g =>
                cases ho : obs[id]? with
                | none => rw [ho] at hh; cases hh
                | some ob =>
                  rw [ho] at hh
                  rw [hk id ob ho]
                  cases ob with
                  | dead => cases hh
                  | arr e xs g' nn =>
                    simp only at hh ⊢
                    split at hh
                    · rename_i hc; rw [if_pos hc]; cases hh; rfl
                    · cases hh
                  | mat hs xs g' nn =>
                    simp only at hh ⊢
                    split at hh
                    · rename_i hc; rw [if_pos hc]; cases hh; rfl
                    · cases hh
            unfold lenQ at h' ⊢
            split at h'
            · exact key h'
            · cases h'
            · rename_i g e _ _; exact key h'
            · cases h'
          | [], _ => cases h
          | [_], [] => cases h
          | [_], _ :: _ :: _ => cases h
          | _ :: _ :: _, _ => cases h
        case max =>
          match l with
          | [y, z] =>
            have h' : maxV true (St.ev ⟨n, fr, obs⟩ y) (St.ev ⟨n, fr, obs⟩ z) obs = .ok vc x o := h
            show maxV true (St.ev ⟨n, fr, obs⟩ y) (St.ev ⟨n, fr, obs⟩ z) obs' = .ok vc x obs'
            revert h'
            cases St.ev ⟨n, fr, obs⟩ y <;> cases St.ev ⟨n, fr, obs⟩ z <;> intro h' <;> first | (cases h'; rfl) | cases h'
          | [] => cases h
          | [_] => cases h
          | _ :: _ :: _ :: _ => cases h
        case min =>
          match l with
          | [y, z] =>
            have h' : maxV false (St.ev ⟨n, fr, obs⟩ y) (St.ev ⟨n, fr, obs⟩ z) obs = .ok vc x o := h
            show maxV false (St.ev ⟨n, fr, obs⟩ y) (St.ev ⟨n, fr, obs⟩ z) obs' = .ok vc x obs'
            revert h'
            cases St.ev ⟨n, fr, obs⟩ y <;> cases St.ev ⟨n, fr, obs⟩ z <;> intro h' <;> first | (cases h'; rfl) | cases h'
          | [] => cases h
          | [_] => cases h
          | _ :: _ :: _ :: _ => cases h
      | _ => cases hr

end
end Go.Aw
