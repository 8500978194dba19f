/- Handy forms for walks: results, lengths. -/
import Derived.Test.YtbeeblhmgpgkjaaAw15
set_option linter.unusedVariables false
set_option linter.unusedSimpArgs false
namespace Go.Aw
open Go

section
variable {C : Ctx} {k : List Item}

def evT (σ : St) : List Nat → List AV
  | [] => []
  | t :: l => σ.ev (.tmp t) :: evT σ l
def hasT (σ : St) : List Nat → Prop
  | [] => True
  | t :: l => σ.has (.tmp t) ∧ hasT σ l
theorem evT_nil (σ : St) : evT σ [] = [] := rfl
theorem evT_cons (σ : St) (t : Nat) (l : List Nat) : evT σ (t :: l) = σ.ev (.tmp t) :: evT σ l := rfl
theorem hasT_nil (σ : St) : hasT σ [] = True := rfl
theorem hasT_cons (σ : St) (t : Nat) (l : List Nat) : hasT σ (t :: l) = (σ.has (.tmp t) ∧ hasT σ l) := rfl
theorem evT_eq (σ : St) : ∀ l : List Nat, evT σ l = l.map fun t => σ.ev (.tmp t)
  | [] => rfl
  | t :: l => by simp [evT, evT_eq σ l]
theorem hasT_eq (σ : St) : ∀ l : List Nat, hasT σ l → ∀ t ∈ l, σ.has (.tmp t)
  | [], _ => by simp
  | t :: l, h => by
    intro u hu
    cases hu with
    | head => exact h.1
    | tail _ hu => exact hasT_eq σ l h.2 u hu

theorem Run.retW {σ : St} (ts : List Nat) {xs : List AV} (hl : ts.length ≤ 4) (hres : C.fn.results = (ts.map ResultVar.tmp).toArray) (hx : evT σ ts = xs) (hh : hasT σ ts) (h : Fin C xs σ.obs) : Run C (.code .ret :: k) σ :=
  Run.ret hl hres (by rw [← hx, evT_eq]) (hasT_eq σ ts hh) h
theorem Run.doneW {σ : St} (ts : List Nat) {xs : List AV} (hl : ts.length ≤ 4) (hres : C.fn.results = (ts.map ResultVar.tmp).toArray) (hx : evT σ ts = xs) (hh : hasT σ ts) (h : Fin C xs σ.obs) : Run C [] σ :=
  Run.done hl hres (by rw [← hx, evT_eq]) (hasT_eq σ ts hh) h

theorem Run.condW {σ : St} {c : Operand} {x y : Code} {t : Bool} (hc : σ.ev c = .bool t) (hh : σ.has c) (ht : t = true → Run C (.code x :: k) σ) (hf : t = false → Run C (.code y :: k) σ) : Run C (.code (.cond c x y) :: k) σ := Run.cond hc hh ht hf

def dstL : List Oper → List (Option Nat)
  | [] => []
  | o :: r => o.dst :: dstL r
theorem dstL_nil : dstL [] = [] := rfl
theorem dstL_cons (d : Option Nat) (op : Op) (ty : TypeId) (p : String) (af : Array Edge) (g : Option (Nat × Bool)) (r : List Oper) : dstL (⟨d, op, ty, p, af, g⟩ :: r) = d :: dstL r := rfl
theorem dstL_eq : ∀ l : List Oper, dstL l = l.map (·.dst)
  | [] => rfl
  | o :: r => by simp [dstL, dstL_eq r]
theorem Run.regionW (hC : C.Ok) {σ : St} {id : Nat} {l : List Oper} (h : ∀ K : St → Prop, (∀ σ', Run C k σ' → K σ') → aexec C ⟨dstL l, false⟩ l σ K) : Run C (.code (.region id l.toArray false) :: k) σ :=
  Run.region hC (by simpa only [dstL_eq] using h)

/-- A slice that is read is no longer than the model's longest. -/
theorem Run.len {n : Nat} {fr : List (Nat × Bool × Sl)} {obs : List O} (s : Nat) {f : Bool} {e : E} {xs : List e.D} (h : look s fr = some (true, .v (.sl f e xs))) (hk : xs.length ≤ 9223372036854775807 → Run C k ⟨n, fr, obs⟩) : Run C k ⟨n, fr, obs⟩ := by
  refine Run.fact (fun a w ρ r => ?_) hk
  obtain ⟨_, _, _, h1, h2, _⟩ := (show SlRel _ _ _ _ _ from (r.fr s true _ h).1 rfl)
  exact Nat.le_trans h1 h2
theorem Run.lenr {n : Nat} {fr : List (Nat × Bool × Sl)} {obs : List O} (s : Nat) {l : Nat} {xs : List Int} (h : look s fr = some (true, .v (.lr l xs))) (hk : xs.length ≤ 9223372036854775807 → Run C k ⟨n, fr, obs⟩) : Run C k ⟨n, fr, obs⟩ := by
  refine Run.fact (fun a w ρ r => ?_) hk
  obtain ⟨_, _, _, h1, h2, _⟩ := (LRowRel.toRow (show LRowRel _ _ _ _ from (r.fr s true _ h).1 rfl)).toSl
  exact Nat.le_trans h1 h2
theorem Run.leno {n : Nat} {fr : List (Nat × Bool × Sl)} {obs : List O} (id : Nat) {e : E} {xs : List e.D} {g : Nat} {nn : Bool} (h : oAt obs id = .arr e xs g nn) (hk : xs.length ≤ 9223372036854775807 → Run C k ⟨n, fr, obs⟩) : Run C k ⟨n, fr, obs⟩ := by
  refine Run.fact (fun a w ρ r => ?_) hk
  have hid : id < obs.length := by
    rcases Nat.lt_or_ge id obs.length with h' | h'
    · exact h'
    · rw [oAt_eq, List.getElem?_eq_none h'] at h; cases h
  obtain ⟨_, _, _, _, h2⟩ := r.w.os id _ (by rw [oAt_get hid, h])
  exact h2
end
def entF (i : Nat) : List AV → List (Nat × Bool × Sl)
  | [] => []
  | x :: l => (i, true, .v x) :: entF (i + 1) l
theorem entry_eq (args : List AV) (n : Nat) : entry args n = ⟨n, entF 0 args, []⟩ := by
  simp only [entry]
  congr 1
  suffices h : ∀ (l : List AV) (i : Nat), (l.zipIdx i).map (fun p => (p.2, true, Sl.v p.1)) = entF i l from h args 0
  intro l
  induction l with
  | nil => intro i; rfl
  | cons x l ih => intro i; simp [entF, ih]
theorem ent_nil (i : Nat) : entF i [] = [] := rfl
theorem ent_cons (i : Nat) (x : AV) (l : List AV) : entF i (x :: l) = (i, true, .v x) :: entF (i + 1) l := rfl
theorem wrap_id {n : Int} (h : -9223372036854775808 ≤ n ∧ n ≤ 9223372036854775807) : IntKind.i64.wrap n = n := by rw [IntKind.wrap_i64]; omega
theorem frV_nil : frV [] = [] := rfl
theorem frV_cons (s : Nat) (ex : Bool) (x : AV) (l : List (Nat × Bool × AV)) : frV ((s, ex, x) :: l) = (s, ex, .v x) :: frV l := rfl
theorem subF_nil (fr : List (Nat × Bool × Sl)) : subF fr [] = True := rfl
theorem subF_cons (fr : List (Nat × Bool × Sl)) (s : Nat) (x : Bool × Sl) (r : List (Nat × Bool × Sl)) : subF fr ((s, x) :: r) = (look s fr = some x ∧ subF fr r) := rfl
theorem fresh_int (k : IntKind) (n : Int) (l : List AV) : (AV.int k n :: l).all freshAV = l.all freshAV := rfl
theorem fresh_bool (n : Bool) (l : List AV) : (AV.bool n :: l).all freshAV = l.all freshAV := rfl
theorem fresh_own (i g : Nat) (l : List AV) : (AV.own i g :: l).all freshAV = l.all freshAV := rfl
theorem fresh_nils (l : List AV) : (AV.nils :: l).all freshAV = l.all freshAV := rfl
theorem fresh_str (s : List UInt8) (l : List AV) : (AV.str s :: l).all freshAV = l.all freshAV := rfl
theorem fresh_nil : ([] : List AV).all freshAV = true := rfl
theorem eqT (p : Prop) : (p = True) = p := by simp
/-- All equations, with the logic that they lean on. -/
theorem AY : type_of% @AX ∧ (∀ p : Prop, (True ∧ p) = p) ∧ (∀ p : Prop, (p ∧ True) = p) ∧ (∀ b : Bool, (true && b) = b) ∧ (∀ b : Bool, (b && true) = b) ∧ (∀ b : Bool, (false && b) = false) ∧ (∀ b : Bool, (b && false) = false) ∧
    (∀ b : Bool, (true || b) = true) ∧ (∀ b : Bool, (b || true) = true) ∧ (∀ b : Bool, (false || b) = b) ∧ (∀ b : Bool, (b || false) = b) ∧
    (∀ (α : Type) (a b : α), (bif true then a else b) = a) ∧ (∀ (α : Type) (a b : α), (bif false then a else b) = b) ∧
    (!false) = true ∧ (!true) = false ∧ (∀ (α : Type) (a : α), (some a).isSome = true) ∧ (∀ (α : Type), (none : Option α).isSome = false) ∧ decide True = true ∧ decide False = false ∧
    (∀ p : Prop, (p → p) = True) ∧ (∀ α : Sort 1, (α → True) = True) ∧ (∀ p : Prop, (p → True) = True) ∧ (∀ p : Prop, (True → p) = p) ∧ (∀ (α : Type) (a : α), (a = a) = True) ∧
    (∀ (α : Type) (a : α) (l : List α), (a :: l).isEmpty = false) ∧ (∀ (α : Type), ([] : List α).isEmpty = true) ∧ (∀ (α : Type) (l : List α), [] ++ l = l) ∧ (∀ (α : Type) (l : List α), l ++ [] = l) ∧
    type_of% @evT_nil ∧ type_of% @evT_cons ∧ type_of% @hasT_nil ∧ type_of% @hasT_cons ∧ type_of% @entry_eq ∧ type_of% @ent_nil ∧ type_of% @ent_cons ∧ type_of% @frV_nil ∧ type_of% @frV_cons ∧ type_of% @subF_nil ∧ type_of% @subF_cons ∧ type_of% @dstL_nil ∧ type_of% @dstL_cons := by
  refine ⟨AX, ?_, ?_, ?_, ?_, ?_, ?_, ?_, ?_, ?_, ?_, ?_, ?_, rfl, rfl, ?_, ?_, ?_, ?_, ?_, ?_, ?_, ?_, ?_, ?_, ?_, ?_, ?_, evT_nil, evT_cons, hasT_nil, hasT_cons, entry_eq, ent_nil, ent_cons, frV_nil, frV_cons, subF_nil, subF_cons, dstL_nil, dstL_cons⟩ <;> simp
end Go.Aw
