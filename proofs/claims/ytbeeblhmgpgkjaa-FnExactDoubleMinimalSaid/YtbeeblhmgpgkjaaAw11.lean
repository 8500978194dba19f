/- The walk's equations, gathered under one name, AX: 'simp only [AX]' carries an abstract state through a region. -/
import Derived.Test.YtbeeblhmgpgkjaaAw10
set_option linter.unusedVariables false
set_option linter.unusedSimpArgs false
namespace Go.Aw
open Go

def slV : Option (Bool × Sl) → AV
  | some (_, .v x) => x
  | _ => .junk
def slH : Option (Bool × Sl) → Prop
  | some (ex, _) => ex = true
  | none => True

theorem ev_tmp (n : Nat) (fr : List (Nat × Bool × Sl)) (obs : List O) (t : Nat) : St.ev ⟨n, fr, obs⟩ (.tmp t) = slV (look t fr) := by
  simp only [St.ev, slV]
  split <;> simp_all
theorem ev_int (σ : St) (k : IntKind) (n : Int) : σ.ev (.const (.int k n)) = .int k n := rfl
theorem ev_bool (σ : St) (b : Bool) : σ.ev (.const (.bool b)) = .bool b := rfl
theorem ev_str (σ : St) (s : ByteArray) : σ.ev (.const (.string s)) = .str s.data.toList := rfl
theorem ev_nil (σ : St) : σ.ev (.const (.slice none 0 0)) = .nils := rfl
theorem ev_func (σ : St) (f : Nat) : σ.ev (.func f) = .fn f := rfl
theorem has_tmp (n : Nat) (fr : List (Nat × Bool × Sl)) (obs : List O) (t : Nat) : St.has ⟨n, fr, obs⟩ (.tmp t) = slH (look t fr) := by
  simp only [St.has, slH]
  split <;> simp_all
theorem has_const (σ : St) (v : Value) : σ.has (.const v) = True := rfl
theorem has_func (σ : St) (f : Nat) : σ.has (.func f) = True := rfl
theorem slV_v (ex : Bool) (x : AV) : slV (some (ex, .v x)) = x := rfl
theorem slV_t (ex : Bool) (l : List AV) : slV (some (ex, .t l)) = .junk := rfl
theorem slV_none : slV none = .junk := rfl
theorem slH_some (ex : Bool) (x : Sl) : slH (some (ex, x)) = (ex = true) := rfl
theorem slH_none : slH none = True := rfl
theorem look_nil (s : Nat) : look s [] = none := rfl
theorem look_cons (s k : Nat) (x : Bool × Sl) (r : List (Nat × Bool × Sl)) : look s ((k, x) :: r) = bif s == k then some x else look s r := by
  simp only [look]; cases s == k <;> rfl
theorem slotOf_cons (d : Option Nat) (r : List (Option Nat)) (j : Nat) : slotOf (d :: r) j = bif j == 0 then d else slotOf r (j - 1) := rfl

/-- The rest of a region behind one operation's outcome. -/
def aR (C : Ctx) (ds : Rg) (rest : List Oper) (n : Nat) (fr : List (Nat × Bool × Sl)) (d : Option Nat) (K : St → Prop) : Res → Prop
  | .bad => False
  | .ok vc x obs => vc ∧ aexec C ds rest (St.put ⟨n, fr, obs⟩ d true (.v x) obs) K
  | .skip vc obs => vc ∧ d = none ∧ aexec C ds rest ⟨n, fr, obs⟩ K
  | .all p x obs => ∀ l, p l → aexec C ds rest (St.put ⟨n, fr, obs l⟩ d true (.v x) (obs l)) K

theorem aexec_nil (C : Ctx) (ds : Rg) (σ : St) (K : St → Prop) : aexec C ds [] σ K = K σ := rfl

section
variable (C : Ctx) (ds : Rg) (rest : List Oper) (n : Nat) (fr : List (Nat × Bool × Sl)) (obs : List O) (K : St → Prop) (d : Nat) (ty : TypeId) (p : String) (af : Array Edge)

theorem mvS_v {op : Op} (hm : ∀ t, op ≠ .move (.tmp t)) (σ : St) (x : AV) : mvS σ op x = .v x := by
  unfold mvS
  split
  · rename_i t; exact absurd rfl (hm t)
  · rfl
theorem aexec_plain {op : Op} (h : calleeOf op = none) (hm : ∀ t, op ≠ .move (.tmp t)) (d : Option Nat) : aexec C ds (⟨d, op, ty, p, af, none⟩ :: rest) ⟨n, fr, obs⟩ K = (inN n d ∧ hasAll ⟨n, fr, obs⟩ op ∧ aR C ds rest n fr d K (astep C ⟨n, fr, obs⟩ op)) := by
  simp only [aexec, aone, h, mvS_v hm]
  congr 1
  cases astep C ⟨n, fr, obs⟩ op with
  | bad => simp [aR]
  | ok vc x o => cases d <;> rfl
  | skip vc o => cases d <;> rfl
  | all q x o => cases d <;> rfl

theorem aR_bad (d : Option Nat) : aR C ds rest n fr d K .bad = False := rfl
theorem aR_ok (vc : Prop) (x : AV) : aR C ds rest n fr (some d) K (.ok vc x obs) = (vc ∧ aexec C ds rest ⟨n, (d, true, .v x) :: fr, obs⟩ K) := rfl
theorem aR_ok0 (vc : Prop) (x : AV) : aR C ds rest n fr none K (.ok vc x obs) = (vc ∧ aexec C ds rest ⟨n, fr, obs⟩ K) := rfl
theorem aR_skip (vc : Prop) : aR C ds rest n fr none K (.skip vc obs) = (vc ∧ aexec C ds rest ⟨n, fr, obs⟩ K) := by simp [aR]
theorem aR_all (q : Nat → Prop) (x : AV) (o : Nat → List O) : aR C ds rest n fr (some d) K (.all q x o) = ∀ l, q l → aexec C ds rest ⟨n, (d, true, .v x) :: fr, o l⟩ K := rfl
theorem inN_some (d : Nat) : inN n (some d) = (d < n) := rfl
theorem inN_none : inN n none = True := rfl

def gexV (b : Bool) : Option (Bool × Sl) → Option Bool
  | some (ex, .v (.bool c)) => some (ex && (c == b))
  | _ => none
def lookO (fr : List (Nat × Bool × Sl)) : Option Nat → Option (Bool × Sl)
  | some d => look d fr
  | none => none
theorem lookO_some (d : Nat) : lookO fr (some d) = look d fr := rfl
theorem gexV_b (b ex c : Bool) : gexV b (some (ex, .v (.bool c))) = some (ex && (c == b)) := rfl

theorem gex_eq (j : Nat) (b : Bool) : gex ds.ds ⟨n, fr, obs⟩ (some (j, b)) = gexV b (lookO fr (slotOf ds.ds j)) := by
  simp only [gex, gexV, lookO]
  cases slotOf ds.ds j with
  | none => rfl
  | some d => cases look d fr with
    | none => rfl
    | some q => obtain ⟨ex, x⟩ := q; cases x with
      | v x => cases x <;> rfl
      | t l => rfl

/-- The slots that an operation reads have been written, under a guard. -/
def hG (σ : St) (ex : Bool) : Op → Prop
  | .pick c _ _ => ex = true → σ.has c
  | .extract _ _ => True
  | .binOp _ _ x y _ => (ex = true → σ.has x) ∧ (ex = true → σ.has y)
  | .unOp _ _ x => ex = true → σ.has x
  | .load _ x => ex = true → σ.has x
  | .indexAddr _ x y => (ex = true → σ.has x) ∧ (ex = true → σ.has y)
  | .slice _ x lo hi _ => (ex = true → σ.has x) ∧ (∀ y, lo = some y → ex = true → σ.has y) ∧ (∀ y, hi = some y → ex = true → σ.has y)
  | .call c => ∀ x ∈ c.args.toList, ex = true → σ.has x
  | .move _ => True
  | .assign _ => True
  | _ => False

theorem hG_ok {σ : St} {ex : Bool} {op : Op} (h : hG σ ex op) (he : ex = true) : hasAll σ op := by
  subst he
  cases op <;> simp_all [hG, hasAll]

def aG (C : Ctx) (ds : Rg) (rest : List Oper) (n : Nat) (fr : List (Nat × Bool × Sl)) (obs : List O) (d : Option Nat) (K : St → Prop) (ex : Bool) : Res → Prop
  | .ok vc x _ => (ex = true → vc) ∧ aexec C ds rest (St.put ⟨n, fr, obs⟩ d ex (.v x) obs) K
  | _ => False

def aG1 (C : Ctx) (ds : Rg) (rest : List Oper) (n : Nat) (fr : List (Nat × Bool × Sl)) (obs : List O) (d : Option Nat) (K : St → Prop) (op : Op) : Option Bool → Prop
  | none => False
  | some ex => hG ⟨n, fr, obs⟩ ex op ∧ aG C ds rest n fr obs d K ex (astep C ⟨n, fr, obs⟩ op)

theorem aexec_guard {op : Op} (h : calleeOf op = none) (hr : roOp op = true) (j : Nat) (b : Bool) (d : Option Nat) : (inN n d ∧ aG1 C ds rest n fr obs d K op (gexV b (lookO fr (slotOf ds.ds j)))) → aexec C ds (⟨d, op, ty, p, af, some (j, b)⟩ :: rest) ⟨n, fr, obs⟩ K := by
  simp only [aexec, aone, h, hr, if_true]
  rw [gex_eq]
  rintro ⟨hd, hk⟩
  refine ⟨hd, ?_⟩
  cases hg : gexV b (lookO fr (slotOf ds.ds j)) with
  | none => rw [hg] at hk; exact hk
  | some ex =>
    rw [hg] at hk
    obtain ⟨h1, h2⟩ := hk
    simp only
    cases hs : astep C ⟨n, fr, obs⟩ op with
    | bad => rw [hs] at h2; exact h2
    | ok vc x o => rw [hs] at h2; exact ⟨fun he => ⟨hG_ok h1 he, h2.1 he⟩, h2.2⟩
    | skip vc o => rw [hs] at h2; exact h2
    | all q x o => rw [hs] at h2; exact h2

end
end Go.Aw
