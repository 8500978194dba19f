/- The walk's equations under one name, AX; the opening of a walk. -/
import Derived.Test.YtbeeblhmgpgkjaaAw2
import Derived.Orders
set_option linter.unusedVariables false
set_option linter.unusedSimpArgs false
namespace Go.Aw
open Go

section
variable (b : Option BT) (e e2 : E) (f : Bool) (obs : List O)
theorem Q_apO (id gg g' : Nat) (x : AV) (nn : Bool) (xs : List e2.D) : apO e id gg x obs (.arr e2 xs g' nn) = bif gg == g' && decide (e2.fam = e.fam) then apE id gg nn e e2 xs obs (srcQ e2 x obs (some id)) else .bad := rfl
theorem Q_apE (id gg : Nat) (nn : Bool) (xs ys : List e2.D) : apE id gg nn e e2 xs obs (.yes ys) = .ok ((xs.length + ys.length) * e.bytes ≤ 140737488355328) (.own id (gg + 1)) (oSet obs id (.arr e2 (xs ++ ys) (gg + 1) (nn || !ys.isEmpty))) := rfl
theorem Q_apN (ys : List e.D) : apN e obs (.yes ys) = .ok (ys.length * e.bytes ≤ 140737488355328) (.own obs.length 0) (obs ++ [.arr e ys 0 (!ys.isEmpty)]) := rfl
theorem Q_src_sl (no : Option Nat) (xs : List e2.D) : srcQ e (.sl f e2 xs) obs no = convQ e e2 xs := rfl
theorem Q_src_lr (no : Option Nat) (l : Nat) (xs : List Int) : srcQ e (.lr l xs) obs no = convQ e .int xs := rfl
theorem Q_src_nil (no : Option Nat) : srcQ e .nils obs no = .yes [] := rfl
theorem Q_srO (gg g' : Nat) (nn : Bool) (xs : List e2.D) : srO e gg (.arr e2 xs g' nn) = bif gg == g' then convQ e e2 xs else .no := rfl
theorem Q_cv_int (ys : List Int) : convQ .int .int ys = .yes ys := rfl
theorem Q_cv_byte (ys : List Int) : convQ .byte .byte ys = .yes ys := rfl
theorem Q_cv_bool (ys : List Bool) : convQ .bool .bool ys = .yes ys := rfl
theorem Q_cv_str (ys : List (List UInt8)) : convQ .str .str ys = .yes ys := rfl
theorem Q_cv_row1 (ys : List (List Int)) : convQ (.row true) (.row true) ys = .yes ys := rfl
theorem Q_cv_row2 (ys : List (Nat × List Int)) : convQ (.row true) .lrow ys = .yes (ys.map (·.2)) := rfl
theorem Q_cv_row3 (ys : List (List Int)) : convQ (.row false) (.row f) ys = .yes ys := rfl
theorem Q_cv_row4 (ys : List (Nat × List Int)) : convQ (.row false) .lrow ys = .yes (ys.map (·.2)) := rfl
theorem Q_cv_lrow (ys : List (Nat × List Int)) : convQ .lrow .lrow ys = .yes ys := rfl
theorem Q_cv_vec (ys : List (List Int)) : convQ .vec .vec ys = .yes ys := rfl
theorem Q_slice_sl (lo hi : Option AV) (xs : List e2.D) : sliceQ b (some e) (.sl f e2 xs) lo hi obs = bif e2.size == e.size then sliceV (.sl f e2 xs) lo hi obs else .bad := by
  by_cases h : e2.size = e.size <;> cases b <;> simp [sliceQ, h, Bool.cond_eq_ite]
theorem Q_slice_lr (lo hi : Option AV) (l : Nat) (xs : List Int) : sliceQ b (some e) (.lr l xs) lo hi obs = bif e.size == 1 then sliceV (.lr l xs) lo hi obs else .bad := by
  by_cases h : e.size = 1 <;> cases b <;> simp [sliceQ, h, Bool.cond_eq_ite]
theorem Q_slice_str (g : Option E) (lo hi : Option AV) (s : List UInt8) : sliceQ (some .str) g (.str s) lo hi obs = sliceV (.str s) lo hi obs := rfl
def sQ (obs : List O) (len : Nat) (mk : Int → Int → AV) : Option Int → Option Int → Res
  | some l, some h => .ok (0 ≤ l ∧ l ≤ h ∧ h ≤ len) (mk l h) obs
  | _, _ => .bad
theorem Q_sl_sl (lo hi : Option AV) (xs : List e2.D) : sliceV (.sl f e2 xs) lo hi obs = sQ obs xs.length (fun l h => .sl f e2 ((xs.drop l.toNat).take (h.toNat - l.toNat))) (bnd 0 lo) (bnd xs.length hi) := by
  simp only [sliceV]; cases bnd 0 lo <;> cases bnd xs.length hi <;> rfl
theorem Q_sl_lr (lo hi : Option AV) (l : Nat) (xs : List Int) : sliceV (.lr l xs) lo hi obs = sQ obs xs.length (fun l h => .sl true .int ((xs.drop l.toNat).take (h.toNat - l.toNat))) (bnd 0 lo) (bnd xs.length hi) := by
  simp only [sliceV]; cases bnd 0 lo <;> cases bnd xs.length hi <;> rfl
theorem Q_sl_str (lo hi : Option AV) (xs : List UInt8) : sliceV (.str xs) lo hi obs = sQ obs xs.length (fun l h => .str ((xs.drop l.toNat).take (h.toNat - l.toNat))) (bnd 0 lo) (bnd xs.length hi) := by
  simp only [sliceV]; cases bnd 0 lo <;> cases bnd xs.length hi <;> rfl
theorem Q_sQ (len : Nat) (mk : Int → Int → AV) (l h : Int) : sQ obs len mk (some l) (some h) = .ok (0 ≤ l ∧ l ≤ h ∧ h ≤ len) (mk l h) obs := rfl
theorem Q_bnd0 (d : Int) : bnd d none = some d := rfl
theorem Q_bnd1 (d n : Int) (k : IntKind) : bnd d (some (.int k n)) = some n := rfl
theorem Q_omap0 (g : Operand → AV) : (none : Option Operand).map g = none := rfl
theorem Q_omap1 (g : Operand → AV) (x : Operand) : (some x).map g = some (g x) := rfl
theorem Q_ex (l : List AV) (i : Nat) : exQ (some (true, .t l)) i obs = match l[i]? with
    | some v => .ok True v obs
    | none => .bad := rfl
theorem Q_exv (l : List AV) (i : Nat) (v : AV) (h : l[i]? = some v) : exQ (some (true, .t l)) i obs = .ok True v obs := by rw [Q_ex, h]
def exL (obs : List O) : List AV → Nat → Res
  | [], _ => .bad
  | v :: l, i => bif i == 0 then .ok True v obs else exL obs l (i - 1)
theorem exL_eq : ∀ (l : List AV) (i : Nat), exQ (some (true, .t l)) i obs = exL obs l i
  | [], i => by simp [exL, exQ]
  | v :: l, i => by
    cases i with
    | zero => simp [exL, exQ]
    | succ i => simpa [exL, exQ] using exL_eq l i
end

section
variable (C : Ctx) (ds : Rg) (rest : List Oper) (n : Nat) (fr : List (Nat × Bool × Sl)) (obs o : List O) (K : St → Prop) (d : Nat) (hs : Prop)
theorem S_ok (vc : Prop) (x : AV) : aS C ds rest n fr K hs (.ok vc x obs) (some d) = (d < n ∧ hs ∧ vc ∧ aexec C ds rest ⟨n, (d, true, .v x) :: fr, obs⟩ K) := rfl
theorem S_ok0 (vc : Prop) (x : AV) : aS C ds rest n fr K hs (.ok vc x obs) none = (hs ∧ vc ∧ aexec C ds rest ⟨n, fr, obs⟩ K) := by simp [aS, aR, inN, St.put]
theorem S_skip (vc : Prop) : aS C ds rest n fr K hs (.skip vc obs) none = (hs ∧ vc ∧ aexec C ds rest ⟨n, fr, obs⟩ K) := by simp [aS, aR, inN]
theorem S_all (q : Nat → Prop) (x : AV) (os : Nat → List O) : aS C ds rest n fr K hs (.all q x os) (some d) = (d < n ∧ hs ∧ ∀ l, q l → aexec C ds rest ⟨n, (d, true, .v x) :: fr, os l⟩ K) := rfl
theorem S_all0 (q : Nat → Prop) (x : AV) (os : Nat → List O) : aS C ds rest n fr K hs (.all q x os) none = (hs ∧ ∀ l, q l → aexec C ds rest ⟨n, fr, os l⟩ K) := by simp [aS, aR, inN, St.put]
theorem T_ok (vc : Prop) (x : AV) (ex : Bool) : aT C ds rest n fr obs K hs (.ok vc x o) (some d) (some ex) = (d < n ∧ (ex = true → hs) ∧ (ex = true → vc) ∧ aexec C ds rest ⟨n, (d, ex, .v x) :: fr, obs⟩ K) := rfl
theorem U_ok (f : FuncId) (xs : List AV) (ex : Bool) : aU C ds rest n fr obs K (some d) f hs xs (some ex) = (d < n ∧ (ex = true → hs) ∧ CallH C obs f xs ex (fun x => Later (aexec C ds rest ⟨n, (d, ex, .v x) :: fr, obs⟩ K)) fun x obs' => (ds.kp = true → Keeps obs obs') ∧ Later (aexec C ds rest ⟨n, (d, true, x) :: fr, obs'⟩ K)) := rfl
end

theorem hasL_nil (σ : St) : hasL σ [] = True := rfl
theorem hasL_cons (σ : St) (x : Operand) (l : List Operand) : hasL σ (x :: l) = (σ.has x ∧ hasL σ l) := rfl
theorem evL_nil (σ : St) : evL σ [] = [] := rfl
theorem evL_cons (σ : St) (x : Operand) (l : List Operand) : evL σ (x :: l) = σ.ev x :: evL σ l := rfl
theorem hasP_nil (σ : St) : hasP σ [] = True := rfl
theorem hasP_cons (σ : St) (x : Nat × Operand) (l : List (Nat × Operand)) : hasP σ (x :: l) = (σ.has x.2 ∧ hasP σ l) := rfl
theorem evP_nil (σ : St) : evP σ [] = [] := rfl
theorem evP_cons (σ : St) (i : Nat) (x : Operand) (l : List (Nat × Operand)) : evP σ ((i, x) :: l) = (i, σ.ev x) :: evP σ l := rfl
theorem hasO_none (σ : St) : hasO σ none = True := rfl
theorem hasO_some (σ : St) (x : Operand) : hasO σ (some x) = σ.has x := rfl
theorem oAt_cons (o : O) (r : List O) (k : Nat) : oAt (o :: r) k = bif k == 0 then o else oAt r (k - 1) := rfl
theorem oSet_cons (o : O) (r : List O) (k : Nat) (x : O) : oSet (o :: r) k x = bif k == 0 then x :: r else o :: oSet r (k - 1) x := rfl
theorem resSl_one (n : Nat) (x : AV) : resSl n [x] = .v (shiftAV n x) := rfl
theorem resSl_two (n : Nat) (x y : AV) : resSl n [x, y] = .t [shiftAV n x, shiftAV n y] := rfl
theorem resSl_three (n : Nat) (x y z : AV) : resSl n [x, y, z] = .t [shiftAV n x, shiftAV n y, shiftAV n z] := rfl
theorem resSl_zero (n : Nat) : resSl n [] = .t [] := rfl
theorem shift_own (n id g : Nat) : shiftAV n (.own id g) = .own (n + id) g := rfl
theorem shift_int (n : Nat) (k : IntKind) (x : Int) : shiftAV n (.int k x) = .int k x := rfl
theorem shift_bool (n : Nat) (x : Bool) : shiftAV n (.bool x) = .bool x := rfl
theorem shift_str (n : Nat) (x : List UInt8) : shiftAV n (.str x) = .str x := rfl
theorem shift_sl (n : Nat) (f : Bool) (e : E) (x : List e.D) : shiftAV n (.sl f e x) = .sl f e x := rfl
theorem shift_lr (n l : Nat) (x : List Int) : shiftAV n (.lr l x) = .lr l x := rfl
theorem shift_nils (n : Nat) : shiftAV n .nils = .nils := rfl
theorem shift_vec (n : Nat) (x : List Int) : shiftAV n (.vec x) = .vec x := rfl
theorem shift_fn (n f : Nat) : shiftAV n (.fn f) = .fn f := rfl
theorem buildQ_row (n : Nat) (parts : List (Nat × AV)) (obs : List O) : buildQ .lrow n parts obs = bif seqF 0 parts n && (Nat.ble n 1000) then buildR obs (partV parts) else .bad := by
  simp [buildQ, E.size]
theorem buildQ_int (n : Nat) (parts : List (Nat × AV)) (obs : List O) : buildQ .int n parts obs = bif seqF 0 parts n && (Nat.ble n 1000) then allQ .int obs (strOk (partV parts)) (allEQ .int (partV parts)) else .bad := by
  simp [buildQ, E.size]
theorem buildQ_byte (n : Nat) (parts : List (Nat × AV)) (obs : List O) : buildQ .byte n parts obs = bif seqF 0 parts n && (Nat.ble n 1000) then allQ .byte obs (strOk (partV parts)) (allEQ .byte (partV parts)) else .bad := by
  simp [buildQ, E.size]
theorem buildQ_str (n : Nat) (parts : List (Nat × AV)) (obs : List O) : buildQ .str n parts obs = bif seqF 0 parts n && (Nat.ble n 1000) then allQ .str obs (strOk (partV parts)) (allEQ .str (partV parts)) else .bad := by
  simp [buildQ, E.size]
theorem buildQ_bool (n : Nat) (parts : List (Nat × AV)) (obs : List O) : buildQ .bool n parts obs = bif seqF 0 parts n && (Nat.ble n 1000) then allQ .bool obs (strOk (partV parts)) (allEQ .bool (partV parts)) else .bad := by
  simp [buildQ, E.size]
theorem seqF_nil (i n : Nat) : seqF i [] n = (i == n) := rfl
theorem seqF_cons (i k : Nat) (x : AV) (l : List (Nat × AV)) (n : Nat) : seqF i ((k, x) :: l) n = ((k == i) && seqF (i + 1) l n) := rfl
theorem partV_nil : partV [] = [] := rfl
theorem partV_cons (k : Nat) (x : AV) (l : List (Nat × AV)) : partV ((k, x) :: l) = x :: partV l := rfl
theorem strOk_nil : strOk [] = True := rfl
theorem strOk_int (k : IntKind) (x : Int) (l : List AV) : strOk (.int k x :: l) = strOk l := rfl
theorem strOk_bool (x : Bool) (l : List AV) : strOk (.bool x :: l) = strOk l := rfl
theorem strOk_str (x : List UInt8) (l : List AV) : strOk (.str x :: l) = (x.length ≤ maxLen ∧ strOk l) := rfl
def allC (e : E) : OD e → OL e → OL e
  | .yes d, .yes l => .yes (d :: l)
  | _, _ => .no
theorem allE_nil (e : E) : allEQ e [] = .yes [] := rfl
theorem allE_cons (e : E) (x : AV) (r : List AV) : allEQ e (x :: r) = allC e (toQ e x) (allEQ e r) := by
  simp only [allEQ, toQ, allE]; cases toE e x <;> cases allE e r <;> rfl
theorem allC_some (e : E) (d : e.D) (l : List e.D) : allC e (.yes d) (.yes l) = .yes (d :: l) := rfl
theorem allQ_some (e : E) (obs : List O) (vc : Prop) (l : List e.D) : allQ e obs vc (.yes l) = .ok vc (.own obs.length 0) (obs ++ [.arr e l 0 true]) := rfl
theorem buildR_nil (obs : List O) : buildR obs [] = .ok True (.own obs.length 0) (obs ++ [.arr .lrow [] 0 true]) := rfl
theorem buildR_lr (obs : List O) (l : Nat) (xs : List Int) : buildR obs [.lr l xs] = .ok True (.own obs.length 0) (obs ++ [.arr .lrow [(l, xs)] 0 true]) := rfl
theorem buildR_own (obs : List O) (id g : Nat) : buildR obs [.own id g] = ownRowQ id g obs (oAt obs id) := rfl
theorem buildR_slt (obs : List O) (xs : List Int) : buildR obs [.sl true .int xs] = .ok True (.own obs.length 0) (obs ++ [.arr (.row true) [xs] 0 true]) := rfl
theorem buildR_slf (obs : List O) (xs : List Int) : buildR obs [.sl false .int xs] = rowsQ (rowsOf [.sl false .int xs] obs) obs := rfl
theorem buildR_two (obs : List O) (x y : AV) (l : List AV) : buildR obs (x :: y :: l) = rowsQ (rowsOf (x :: y :: l) obs) obs := by
  cases x with
  | sl f e xs => cases e <;> cases f <;> rfl
  | _ => rfl
theorem ownRow_arr (id g g' : Nat) (obs : List O) (xs : List Int) : ownRowQ id g obs (.arr .int xs g' true) = bif g == g' then .all (FreshL obs) (.own obs.length 0) (fun l => oSet obs id .dead ++ [.arr .lrow [(l, xs)] 0 true]) else .bad := rfl
theorem rowsQ_some (l : List (List Int)) (o obs : List O) : rowsQ (some (l, o)) obs = .ok True (.own obs.length 0) (o ++ [.arr (.row false) l 0 true]) := rfl
def rowC (xs : List Int) : Option (List (List Int) × List O) → Option (List (List Int) × List O)
  | some p => some (xs :: p.1, p.2)
  | none => none
def rowO (id g : Nat) (r : List AV) (obs : List O) : O → Option (List (List Int) × List O)
  | .arr .int xs g' _ => bif g == g' then rowC xs (rowsOf r (oSet obs id .dead)) else none
  | _ => none
theorem rowC_some (xs : List Int) (l : List (List Int)) (o : List O) : rowC xs (some (l, o)) = some (xs :: l, o) := rfl
theorem rowsOf_nil (obs : List O) : rowsOf [] obs = some ([], obs) := rfl
theorem rowC_eq (xs : List Int) (o : Option (List (List Int) × List O)) : o.map (fun p => (xs :: p.1, p.2)) = rowC xs o := by cases o <;> rfl
theorem rowsOf_sl (f : Bool) (xs : List Int) (r : List AV) (obs : List O) : rowsOf (.sl f .int xs :: r) obs = rowC xs (rowsOf r obs) := rowC_eq ..
theorem rowsOf_lr (l : Nat) (xs : List Int) (r : List AV) (obs : List O) : rowsOf (.lr l xs :: r) obs = rowC xs (rowsOf r obs) := rowC_eq ..
theorem rowsOf_own (id g : Nat) (r : List AV) (obs : List O) : rowsOf (.own id g :: r) obs = rowO id g r obs (oAt obs id) := by
  rw [at_arr]; simp only [rowsOf]
  cases h : obs[id]? with
  | none => rfl
  | some o => cases o with
    | dead => rfl
    | mat _ _ _ _ => rfl
    | arr e xs g' nn =>
      cases e <;> try rfl
      by_cases hg : g = g' <;> simp [rowO, hg, oSet_eq, Bool.cond_eq_ite, rowC_eq]
theorem rowO_arr (id g g' : Nat) (nn : Bool) (r : List AV) (obs : List O) (xs : List Int) : rowO id g r obs (.arr .int xs g' nn) = bif g == g' then rowC xs (rowsOf r (oSet obs id .dead)) else none := rfl
theorem sz_int : E.size .int = 1 := rfl
theorem sz_byte : E.size .byte = 1 := rfl
theorem sz_bool : E.size .bool = 1 := rfl
theorem sz_str : E.size .str = 1 := rfl
theorem sz_row (f : Bool) : E.size (.row f) = 1 := rfl
theorem sz_lrow : E.size .lrow = 1 := rfl
theorem sz_vec : E.size .vec = 4 := rfl
theorem by_int : E.bytes .int = 8 := rfl
theorem by_byte : E.bytes .byte = 1 := rfl
theorem by_bool : E.bytes .bool = 1 := rfl
theorem by_str : E.bytes .str = 16 := rfl
theorem by_row (f : Bool) : E.bytes (.row f) = 24 := rfl
theorem by_lrow : E.bytes .lrow = 24 := rfl
theorem by_vec : E.bytes .vec = 32 := rfl
theorem fam_row (f : Bool) : E.fam (.row f) = .lrow := rfl
theorem fam_lrow : E.fam .lrow = .lrow := rfl
theorem fam_int : E.fam .int = .int := rfl
theorem fam_byte : E.fam .byte = .byte := rfl
theorem fam_bool : E.fam .bool = .bool := rfl
theorem fam_str : E.fam .str = .str := rfl
theorem fam_vec : E.fam .vec = .vec := rfl
theorem dec_self {α : Type} [DecidableEq α] (a : α) : decide (a = a) = true := by simp
theorem dfl_int : E.dflt .int = (0 : Int) := rfl
theorem dfl_byte : E.dflt .byte = (0 : Int) := rfl
theorem dfl_bool : E.dflt .bool = false := rfl
theorem dfl_str : E.dflt .str = ([] : List UInt8) := rfl
theorem dfl_row (f : Bool) : E.dflt (.row f) = ([] : List Int) := rfl
theorem dfl_lrow : E.dflt .lrow = ((0, []) : Nat × List Int) := rfl
theorem sc_eq (C : Ctx) (t : TypeId) : C.sc t = ((C.bt t).isSome || (C.Γ t).isSome) := rfl
theorem some_beq (a b : Nat) : ((some a : Option Nat) == some b) = (a == b) := rfl
theorem none_beq (b : Nat) : ((none : Option Nat) == some b) = false := rfl
theorem lift_Later (p : Prop) : Later p = p := rfl
theorem app_one (a o : O) (l : List O) : (a :: l) ++ [o] = a :: (l ++ [o]) := rfl
theorem app_cons (a : O) (l r : List O) : (a :: l) ++ r = a :: (l ++ r) := rfl
theorem app_nil (r : List O) : [] ++ r = r := rfl
theorem len_cons (o : O) (l : List O) : (o :: l).length = l.length + 1 := rfl
theorem len_nil : ([] : List O).length = 0 := rfl
theorem ble_eq (a b : Nat) : Nat.ble a b = decide (a ≤ b) := by rw [Bool.eq_iff_iff]; simp
theorem zadd (n : Nat) : 0 + n = n := Nat.zero_add n
theorem bT (b : Bool) : (b == true) = b := by cases b <;> rfl
theorem bF (b : Bool) : (b == false) = !b := by cases b <;> rfl
theorem exL_cons (obs : List O) (v : AV) (l : List AV) (i : Nat) : exL obs (v :: l) i = bif i == 0 then .ok True v obs else exL obs l (i - 1) := rfl
theorem AX0 : type_of% @Q_add ∧
    type_of% @Q_sub ∧
    type_of% @Q_mul ∧
    type_of% @Q_quo ∧
    type_of% @Q_rem ∧
    type_of% @Q_eql ∧
    type_of% @Q_neq ∧
    type_of% @Q_lss ∧
    type_of% @Q_leq ∧
    type_of% @Q_gtr ∧
    type_of% @Q_geq ∧
    type_of% @Q_beq ∧
    type_of% @Q_bne ∧
    type_of% @Q_seq ∧
    type_of% @Q_sne ∧
    type_of% @Q_sadd ∧
    type_of% @Q_neg ∧
    type_of% @Q_not ∧
    type_of% @Q_max ∧
    type_of% @Q_min ∧
    type_of% @Q_pick ∧
    type_of% @Q_len_sl ∧
    type_of% @Q_len_lr ∧
    type_of% @Q_len_nil ∧
    type_of% @Q_len_own ∧
    type_of% @Q_len_str ∧
    type_of% @Q_lenO ∧
    type_of% @Q_idx_sl ∧
    type_of% @Q_idx_lr ∧
    type_of% @Q_idxO ∧
    type_of% @Q_load ∧
    type_of% @Q_loadO ∧
    type_of% @Q_ofE_int ∧
    type_of% @Q_ofE_byte ∧
    type_of% @Q_ofE_bool ∧
    type_of% @Q_ofE_str ∧
    type_of% @Q_ofE_row ∧
    type_of% @Q_ofE_lrow ∧
    type_of% @Q_ofE_vec ∧
    type_of% @Q_st_int ∧
    type_of% @Q_st_bool ∧
    type_of% @Q_st_sl ∧
    type_of% @Q_st_lr ∧
    type_of% @Q_storeO ∧
    type_of% @Q_stE ∧
    type_of% @Q_toE_int ∧
    type_of% @Q_toE_byte ∧
    type_of% @Q_toE_bool ∧
    type_of% @Q_toE_str ∧
    type_of% @Q_toE_row1 ∧
    type_of% @Q_toE_row2 ∧
    type_of% @Q_toE_row3 ∧
    type_of% @Q_toE_row4 ∧
    type_of% @Q_toE_lrow ∧
    type_of% @Q_make_int ∧
    type_of% @Q_make_byte ∧
    type_of% @Q_make_bool ∧
    type_of% @Q_make_str ∧
    type_of% @Q_make_row ∧
    type_of% @buildV_eq :=
  ⟨Q_add, Q_sub, Q_mul, Q_quo, Q_rem, Q_eql, Q_neq, Q_lss, Q_leq, Q_gtr, Q_geq, Q_beq, Q_bne, Q_seq, Q_sne, Q_sadd, Q_neg, Q_not, Q_max, Q_min, Q_pick, Q_len_sl, Q_len_lr, Q_len_nil, Q_len_own, Q_len_str, Q_lenO, Q_idx_sl, Q_idx_lr, Q_idxO, Q_load, Q_loadO, Q_ofE_int, Q_ofE_byte, Q_ofE_bool, Q_ofE_str, Q_ofE_row, Q_ofE_lrow, Q_ofE_vec, Q_st_int, Q_st_bool, Q_st_sl, Q_st_lr, Q_storeO, Q_stE, Q_toE_int, Q_toE_byte, Q_toE_bool, Q_toE_str, Q_toE_row1, Q_toE_row2, Q_toE_row3, Q_toE_row4, Q_toE_lrow, Q_make_int, Q_make_byte, Q_make_bool, Q_make_str, Q_make_row, buildV_eq⟩
theorem AX1 : type_of% @Q_apO ∧
    type_of% @Q_apE ∧
    type_of% @Q_apN ∧
    type_of% @Q_src_sl ∧
    type_of% @Q_src_lr ∧
    type_of% @Q_src_nil ∧
    type_of% @Q_srO ∧
    type_of% @Q_cv_int ∧
    type_of% @Q_cv_byte ∧
    type_of% @Q_cv_bool ∧
    type_of% @Q_cv_str ∧
    type_of% @Q_cv_row1 ∧
    type_of% @Q_cv_row2 ∧
    type_of% @Q_cv_row3 ∧
    type_of% @Q_cv_row4 ∧
    type_of% @Q_cv_lrow ∧
    type_of% @Q_cv_vec ∧
    type_of% @Q_slice_sl ∧
    type_of% @Q_slice_lr ∧
    type_of% @Q_slice_str ∧
    type_of% @Q_sl_sl ∧
    type_of% @Q_sl_lr ∧
    type_of% @Q_sl_str ∧
    type_of% @Q_sQ ∧
    type_of% @Q_bnd0 ∧
    type_of% @Q_bnd1 ∧
    type_of% @Q_omap0 ∧
    type_of% @Q_omap1 ∧
    type_of% @exL_eq ∧
    type_of% @S_ok ∧
    type_of% @S_ok0 ∧
    type_of% @S_skip ∧
    type_of% @S_all ∧
    type_of% @T_ok ∧
    type_of% @U_ok ∧
    type_of% @hasL_nil ∧
    type_of% @hasL_cons ∧
    type_of% @evL_nil ∧
    type_of% @evL_cons ∧
    type_of% @hasP_nil ∧
    type_of% @hasP_cons ∧
    type_of% @evP_nil ∧
    type_of% @evP_cons ∧
    type_of% @hasO_none ∧
    type_of% @hasO_some ∧
    type_of% @oAt_cons ∧
    type_of% @oSet_cons ∧
    type_of% @resSl_one ∧
    type_of% @resSl_two ∧
    type_of% @resSl_three ∧
    type_of% @resSl_zero ∧
    type_of% @shift_own ∧
    type_of% @shift_int ∧
    type_of% @shift_bool ∧
    type_of% @shift_str ∧
    type_of% @shift_sl ∧
    type_of% @shift_lr ∧
    type_of% @shift_nils ∧
    type_of% @shift_vec ∧
    type_of% @shift_fn :=
  ⟨Q_apO, Q_apE, Q_apN, Q_src_sl, Q_src_lr, Q_src_nil, Q_srO, Q_cv_int, Q_cv_byte, Q_cv_bool, Q_cv_str, Q_cv_row1, Q_cv_row2, Q_cv_row3, Q_cv_row4, Q_cv_lrow, Q_cv_vec, Q_slice_sl, Q_slice_lr, Q_slice_str, Q_sl_sl, Q_sl_lr, Q_sl_str, Q_sQ, Q_bnd0, Q_bnd1, Q_omap0, Q_omap1, exL_eq, S_ok, S_ok0, S_skip, S_all, T_ok, U_ok, hasL_nil, hasL_cons, evL_nil, evL_cons, hasP_nil, hasP_cons, evP_nil, evP_cons, hasO_none, hasO_some, oAt_cons, oSet_cons, resSl_one, resSl_two, resSl_three, resSl_zero, shift_own, shift_int, shift_bool, shift_str, shift_sl, shift_lr, shift_nils, shift_vec, shift_fn⟩
theorem AX2 : type_of% @buildQ_row ∧
    type_of% @buildQ_int ∧
    type_of% @buildQ_byte ∧
    type_of% @buildQ_str ∧
    type_of% @buildQ_bool ∧
    type_of% @seqF_nil ∧
    type_of% @seqF_cons ∧
    type_of% @partV_nil ∧
    type_of% @partV_cons ∧
    type_of% @strOk_nil ∧
    type_of% @strOk_int ∧
    type_of% @strOk_bool ∧
    type_of% @strOk_str ∧
    type_of% @allE_nil ∧
    type_of% @allE_cons ∧
    type_of% @allC_some ∧
    type_of% @allQ_some ∧
    type_of% @buildR_nil ∧
    type_of% @buildR_lr ∧
    type_of% @buildR_own ∧
    type_of% @buildR_slt ∧
    type_of% @buildR_slf ∧
    type_of% @buildR_two ∧
    type_of% @ownRow_arr ∧
    type_of% @rowsQ_some ∧
    type_of% @rowC_some ∧
    type_of% @rowsOf_nil ∧
    type_of% @rowsOf_sl ∧
    type_of% @rowsOf_lr ∧
    type_of% @rowsOf_own ∧
    type_of% @rowO_arr ∧
    type_of% @sz_int ∧
    type_of% @sz_byte ∧
    type_of% @sz_bool ∧
    type_of% @sz_str ∧
    type_of% @sz_row ∧
    type_of% @sz_lrow ∧
    type_of% @sz_vec ∧
    type_of% @by_int ∧
    type_of% @by_byte ∧
    type_of% @by_bool ∧
    type_of% @by_str ∧
    type_of% @by_row ∧
    type_of% @by_lrow ∧
    type_of% @by_vec ∧
    type_of% @fam_row ∧
    type_of% @fam_lrow ∧
    type_of% @fam_int ∧
    type_of% @fam_byte ∧
    type_of% @fam_bool ∧
    type_of% @fam_str ∧
    type_of% @fam_vec ∧
    type_of% @dec_self ∧
    type_of% @dfl_int ∧
    type_of% @dfl_byte ∧
    type_of% @dfl_bool ∧
    type_of% @dfl_str ∧
    type_of% @dfl_row ∧
    type_of% @dfl_lrow ∧
    type_of% @sc_eq :=
  ⟨buildQ_row, buildQ_int, buildQ_byte, buildQ_str, buildQ_bool, seqF_nil, seqF_cons, partV_nil, partV_cons, strOk_nil, strOk_int, strOk_bool, strOk_str, allE_nil, allE_cons, allC_some, allQ_some, buildR_nil, buildR_lr, buildR_own, buildR_slt, buildR_slf, buildR_two, ownRow_arr, rowsQ_some, rowC_some, rowsOf_nil, rowsOf_sl, rowsOf_lr, rowsOf_own, rowO_arr, sz_int, sz_byte, sz_bool, sz_str, sz_row, sz_lrow, sz_vec, by_int, by_byte, by_bool, by_str, by_row, by_lrow, by_vec, fam_row, fam_lrow, fam_int, fam_byte, fam_bool, fam_str, fam_vec, dec_self, dfl_int, dfl_byte, dfl_bool, dfl_str, dfl_row, dfl_lrow, sc_eq⟩
theorem AX3 : type_of% @some_beq ∧
    type_of% @none_beq ∧
    type_of% @app_one ∧
    type_of% @app_cons ∧
    type_of% @app_nil ∧
    type_of% @len_cons ∧
    type_of% @len_nil ∧
    type_of% @ble_eq ∧
    type_of% @zadd ∧
    type_of% @bT ∧
    type_of% @bF ∧
    type_of% @lenV_own ∧
    type_of% @idxV_own ∧
    type_of% @loadV_elt ∧
    type_of% @storeV_elt ∧
    type_of% @appendV_own ∧
    type_of% @appendV_nil ∧
    type_of% @srcL_own ∧
    type_of% @put_s ∧
    type_of% @put_n ∧
    type_of% @X_move ∧ type_of% @X_movec ∧ type_of% @X_movef ∧ type_of% @slS_some ∧ type_of% @slS_none ∧
    type_of% @X_assign ∧
    type_of% @X_bin ∧
    type_of% @X_un ∧
    type_of% @X_pick ∧
    type_of% @X_load ∧
    type_of% @X_store ∧
    type_of% @X_idx ∧
    type_of% @X_make ∧
    type_of% @X_build ∧
    type_of% @X_slice ∧
    type_of% @X_ex ∧
    type_of% @X_len ∧
    type_of% @X_max ∧
    type_of% @X_min ∧
    type_of% @X_append ∧
    type_of% @X_call ∧
    type_of% @G_move ∧
    type_of% @G_bin ∧
    type_of% @G_un ∧
    type_of% @G_pick ∧
    type_of% @G_load ∧
    type_of% @G_idx ∧
    type_of% @G_len ∧
    type_of% @G_slice ∧
    type_of% @G_ex ∧
    type_of% @G_call ∧
    type_of% @aexec_nil ∧
    type_of% @ev_tmp ∧
    type_of% @ev_int ∧
    type_of% @ev_bool ∧
    type_of% @ev_str ∧
    type_of% @ev_nil ∧
    type_of% @ev_func ∧
    type_of% @has_tmp ∧
    type_of% @has_const ∧
    type_of% @has_func ∧
    type_of% @slV_v ∧
    type_of% @slV_t ∧
    type_of% @slV_none :=
  ⟨some_beq, none_beq, app_one, app_cons, app_nil, len_cons, len_nil, ble_eq, zadd, bT, bF, lenV_own, idxV_own, loadV_elt, storeV_elt, appendV_own, appendV_nil, srcL_own, put_s, put_n, X_move, X_movec, X_movef, slS_some, slS_none, X_assign, X_bin, X_un, X_pick, X_load, X_store, X_idx, X_make, X_build, X_slice, X_ex, X_len, X_max, X_min, X_append, X_call, G_move, G_bin, G_un, G_pick, G_load, G_idx, G_len, G_slice, G_ex, G_call, aexec_nil, ev_tmp, ev_int, ev_bool, ev_str, ev_nil, ev_func, has_tmp, has_const, has_func, slV_v, slV_t, slV_none⟩
theorem AX4 : type_of% @slH_some ∧
    type_of% @slH_none ∧
    type_of% @look_nil ∧
    type_of% @look_cons ∧
    type_of% @slotOf_cons ∧
    type_of% @lookO_some ∧
    type_of% @gexV_b ∧
    type_of% @exL_cons :=
  ⟨slH_some, slH_none, look_nil, look_cons, slotOf_cons, lookO_some, gexV_b, exL_cons⟩
theorem AX : type_of% @AX0 ∧ type_of% @AX1 ∧ type_of% @AX2 ∧ type_of% @AX3 ∧ type_of% @AX4 := ⟨AX0, AX1, AX2, AX3, AX4⟩
end Go.Aw

/- The opening of a walk; states that say less; letting an owned object go. -/
namespace Go.Aw
open Go

/-- The opening of a walk: the context is any one that has the program's tables. -/
theorem FunA.walk {B : Ctx} (hB : B.Ok) {f : FuncId} {fn : Func} {c : Code} {args : List AV} {post : List AV → List O → Prop} (hcall : ∀ (vs : Array Value) (w : World), (callFunc f vs).run B.P w = .ok (.enter f vs) w)
    (hf : B.P.funcs[f]? = some fn) (hb : fn.body = some c) (hn : args.length ≤ fn.ntmps)
    (h : ∀ C : Ctx, C.Ok → B.P = C.P → B.tid = C.tid → C.Γ = B.Γ → C.bt = B.bt → C.fn = fn → C.pin = [] → (∀ xs obs, xs.all freshAV = true → obs.all freshO = true → post xs obs → Fin C xs obs) → Run C [.code c] (entry args fn.ntmps)) : FunA B f args post :=
  FunA.enter hcall hf hb hn fun w L => h _ (hB.enterL fn _ w _ L) rfl rfl rfl rfl rfl rfl fun _ _ h1 h2 hp => FunA.fin hp h1 h2

/-- Slots that are kept. -/
def subF (fr : List (Nat × Bool × Sl)) : List (Nat × Bool × Sl) → Prop
  | [] => True
  | (s, x) :: r => look s fr = some x ∧ subF fr r

theorem subF_look {fr : List (Nat × Bool × Sl)} : ∀ {fr' : List (Nat × Bool × Sl)}, subF fr fr' → ∀ {s : Nat} {x : Bool × Sl}, look s fr' = some x → look s fr = some x
  | [], _, s, x, h => by simp [look] at h
  | (t, y) :: r, hs, s, x, h => by
    simp only [look] at h
    split at h
    · rename_i ht
      cases h
      have : s = t := by simpa using ht
      subst this
      exact hs.1
    · exact subF_look hs.2 h

theorem Le.sub {C : Ctx} {n : Nat} {fr fr' : List (Nat × Bool × Sl)} {obs obs' : List O} (ho : obs = obs') (h : subF fr fr') : Le C ⟨n, fr, obs⟩ ⟨n, fr', obs'⟩ := by
  subst ho
  exact fun a w ρ r => ⟨ρ, r.defers, r.size, fun s ex x hl => r.fr s ex x (subF_look h hl), r.w, r.pin⟩

theorem Le.refl' {C : Ctx} {σ : St} : Le C σ σ := fun _ _ ρ r => ⟨ρ, r⟩
theorem Le.trans' {C : Ctx} {σ σ' σ'' : St} (h : Le C σ σ') (k : Le C σ' σ'') : Le C σ σ'' := fun a w ρ r => by
  obtain ⟨ρ', r'⟩ := h a w ρ r
  exact k a w ρ' r'

/-! ### Objects renumbered -/

/-- An object that says less. -/
def leO : O → O → Prop
  | _, .dead => True
  | .arr e xs _ nn, .arr e' xs' _ nn' => (nn' = true → nn = true) ∧ ∃ h : e = e', h ▸ xs = xs'
  | .mat hs rows _ nn, .mat hs' rows' _ nn' => (nn' = true → nn = true) ∧ hs = hs' ∧ rows = rows'
  | _, _ => False

theorem leO_arr (e : E) (xs xs' : List e.D) (g g' : Nat) (nn nn' : Bool) : leO (.arr e xs g nn) (.arr e xs' g' nn') = ((nn' = true → nn = true) ∧ xs = xs') := by simp [leO]
theorem leO_mat (hs hs' : List (Option Nat)) (rows rows' : List (List Int)) (g g' : Nat) (nn nn' : Bool) : leO (.mat hs rows g nn) (.mat hs' rows' g' nn') = ((nn' = true → nn = true) ∧ hs = hs' ∧ rows = rows') := rfl
theorem leO_dead (o : O) : leO o .dead = True := by cases o <;> rfl

/-- The objects of the new state: each by its number in the old one. -/
def leOs (obs : List O) : List Nat → List O → Prop
  | [], [] => True
  | i :: π, o :: l => i < obs.length ∧ leO (oAt obs i) o ∧ leOs obs π l
  | _, _ => False

def nodupB : List Nat → Bool
  | [] => true
  | i :: π => !(π.elem i) && nodupB π

def genO : O → Nat → Prop
  | .arr _ _ g' _, g => g = g'
  | .mat _ _ g' _, g => g = g'
  | .dead, _ => False

/-- A value of the new state, and what stood there in the old one. -/
def leAV (π : List Nat) (obs obs' : List O) : AV → AV → Prop
  | _, .junk => True
  | a, .own j g' => match a with
    | .own i g => j < π.length ∧ π[j]? = some i ∧ genO (oAt obs i) g ∧ genO (oAt obs' j) g'
    | _ => False
  | _, .elt _ _ _ _ => False
  | .lr l xs, .sl f e ys => .sl f e ys = (AV.sl f .int xs)
  | .nils, .sl f e ys => .sl f e ys = (AV.sl f e [])
  | a, a' => a = a'

def leFr (π : List Nat) (obs obs' : List O) (fr : List (Nat × Bool × Sl)) : List (Nat × Bool × AV) → Prop
  | [] => True
  | (s, ex, x) :: r => (∃ y, look s fr = some (ex, .v y) ∧ leAV π obs obs' y x) ∧ leFr π obs obs' fr r

def frV (l : List (Nat × Bool × AV)) : List (Nat × Bool × Sl) := l.map fun p => (p.1, p.2.1, .v p.2.2)

theorem leOs_at {obs : List O} : ∀ {π : List Nat} {l : List O}, leOs obs π l → ∀ {j : Nat} {o : O}, l[j]? = some o → ∃ i, π[j]? = some i ∧ i < obs.length ∧ leO (oAt obs i) o
  | [], [], _, j, o, h => by simp at h
  | i :: π, o' :: _, hs, j, o, h => by
    cases j with
    | zero => simp at h; subst h; exact ⟨i, by simp, hs.1, hs.2.1⟩
    | succ j => simpa using leOs_at hs.2.2 (j := j) (by simpa using h)

theorem leOs_len {obs : List O} : ∀ {π : List Nat} {l : List O}, leOs obs π l → π.length = l.length
  | [], [], _ => rfl
  | _ :: _, _ :: _, h => by simp [leOs_len h.2.2]

theorem leFr_look {π : List Nat} {obs obs' : List O} {fr : List (Nat × Bool × Sl)} : ∀ {l : List (Nat × Bool × AV)}, leFr π obs obs' fr l → ∀ {s : Nat} {ex : Bool} {x : Sl}, look s (frV l) = some (ex, x) →
    ∃ y z, x = .v z ∧ look s fr = some (ex, .v y) ∧ leAV π obs obs' y z
  | [], _, s, ex, x, h => by simp [look, frV] at h
  | (t, ey, y) :: r, hs, s, ex, x, h => by
    simp only [look, frV, List.map_cons] at h
    split at h
    · rename_i ht
      cases h
      have : s = t := by simpa using ht
      subst this
      obtain ⟨z, h1, h2⟩ := hs.1
      exact ⟨z, y, rfl, h1, h2⟩
    · exact leFr_look hs.2 h

theorem nodupB_inj : ∀ {π : List Nat}, nodupB π = true → ∀ {i j k : Nat}, π[i]? = some k → π[j]? = some k → i = j
  | [], _, i, j, k, h, _ => by simp at h
  | p :: π, hn, i, j, k, h1, h2 => by
    simp only [nodupB, Bool.and_eq_true, Bool.not_eq_true', List.elem_eq_mem, decide_eq_false_iff_not] at hn
    cases i with
    | zero =>
      cases j with
      | zero => rfl
      | succ j =>
        simp at h1 h2
        subst h1
        exact absurd (List.mem_of_getElem? h2) hn.1
    | succ i =>
      cases j with
      | zero =>
        simp at h1 h2
        subst h2
        exact absurd (List.mem_of_getElem? h1) hn.1
      | succ j =>
        simp at h1 h2
        exact congrArg _ (nodupB_inj hn.2 h1 h2)

theorem oAt_get {obs : List O} {i : Nat} (h : i < obs.length) : obs[i]? = some (oAt obs i) := by
  rw [oAt_eq, List.getElem?_eq_getElem h]; rfl

theorem RowRel.nilrow {V : Vw} {f : Bool} : RowRel V f [] (.slice none 0 0) := ⟨none, 0, rfl, by simp, by simp, fun i hi => by simp at hi⟩

theorem Le.reP {C : Ctx} {n : Nat} {fr : List (Nat × Bool × Sl)} {obs obs' : List O} (π : List Nat) (l : List (Nat × Bool × AV)) (hp : ∀ j, j < C.pin.length → π[j]? = some j ∧ genOf obs' j = genOf obs j) (hn : nodupB π = true) (ho : leOs obs π obs') (hf : leFr π obs obs' fr l) :
    Le C ⟨n, fr, obs⟩ ⟨n, frV l, obs'⟩ := by
  intro a w ρ r
  have rw0 := r.w
  have hlen : ∀ j o, obs'[j]? = some o → ∃ i o0, π[j]? = some i ∧ obs[i]? = some o0 ∧ leO o0 o := fun j o h => by
    obtain ⟨i, h1, h2, h3⟩ := leOs_at ho h
    exact ⟨i, _, h1, oAt_get h2, h3⟩
  have hfp : ∀ {j i : Nat} {o o0 : O} {b : Nat}, π[j]? = some i → leO o0 o → fpo (ρ ((π[j]?).getD 0)) o b → fpo (ρ i) o0 b := by
    intro j i o o0 b hj hle hb
    rw [hj] at hb
    cases o with
    | dead => simp [fpo] at hb
    | arr e xs g nn =>
      cases o0 with
      | dead => simp [leO] at hle
      | arr e' xs' g' nn' => exact hb
      | mat _ _ _ _ => exact hle.elim
    | mat hs rows g nn =>
      cases o0 with
      | dead => exact hle.elim
      | arr e' xs' g' nn' => exact hle.elim
      | mat hs' rows' _ _ => obtain ⟨_, h1, _⟩ := hle; subst h1; exact hb
  have hown : ∀ b, Own obs' (fun j => ρ ((π[j]?).getD 0)) b → Own obs ρ b := by
    rintro b ⟨j, o, hj, hb⟩
    obtain ⟨i, o0, h1, h2, h3⟩ := hlen j o hj
    exact ⟨i, o0, h2, hfp h1 h3 hb⟩
  have hle : (C.V w obs ρ).le (C.V w obs' (fun j => ρ ((π[j]?).getD 0))) := by
    refine ⟨fun b o hb => ?_, fun _ hb => hb, rfl⟩
    simp only [Ctx.V, mask] at hb ⊢
    split at hb
    · cases hb
    · rename_i hnn
      rw [if_neg (fun k => hnn (hown b k))]
      exact hb
  have hw : WRel C obs' w (fun j => ρ ((π[j]?).getD 0)) := by
    refine ⟨fun id o hid => ?_, fun i j o o' b hi hj bi bj => ?_, fun b hb => rw0.own b (hown b hb), rw0.os0, rw0.tape, rw0.output, rw0.grow, rw0.kept⟩
    · obtain ⟨i, o0, h1, h2, h3⟩ := hlen id o hid
      have h4 := (rw0.os i o0 h2).kept hle (Ext.refl (fun _ => False) w) (fun _ _ k => k)
      simp only [h1, Option.getD_some]
      cases o with
      | dead => trivial
      | arr e xs g nn =>
        cases o0 with
        | dead => simp [leO] at h3
        | arr e' xs' g' nn' =>
          obtain ⟨k1, k2, k3⟩ := h3
          subst k2
          subst k3
          obtain ⟨cs, m1, m2, m3, m4⟩ := h4
          exact ⟨cs, m1, m2, fun k => m3 (k1 k), m4⟩
        | mat _ _ _ _ => exact h3.elim
      | mat hs rows g nn =>
        cases o0 with
        | dead => exact h3.elim
        | arr _ _ _ _ => exact h3.elim
        | mat hs' rows' g' nn' =>
          obtain ⟨k1, k2, k3⟩ := h3
          subst k2
          subst k3
          obtain ⟨cs, m1, m2, m3, m4, m5, m6, m7⟩ := h4
          exact ⟨cs, m1, m2, m3, m4, m5, fun k => m6 (k1 k), m7⟩
    · obtain ⟨i', o0, h1, h2, h3⟩ := hlen i o hi
      obtain ⟨j', o1, k1, k2, k3⟩ := hlen j o' hj
      have := rw0.dis i' j' o0 o1 b h2 k2 (hfp h1 h3 bi) (hfp k1 k3 bj)
      subst this
      exact nodupB_inj hn h1 k1
  refine ⟨fun j => ρ ((π[j]?).getD 0), r.defers, r.size, fun s ex x hl => ?_, hw, fun j v hj => ?_⟩
  case refine_2 =>
    have hlt := (List.getElem?_eq_some_iff.1 hj).1
    obtain ⟨h1, h2⟩ := hp j hlt
    obtain ⟨h3, h4⟩ := r.pin j v hj
    refine ⟨?_, fun hg => ?_⟩
    · have hπ : π.length = obs'.length := leOs_len ho
      rw [← hπ]
      exact (List.getElem?_eq_some_iff.1 h1).1
    · simp only [h1, Option.getD_some]
      exact h4 (by rw [← h2]; exact hg)
  obtain ⟨y, z, rfl, h1, h2⟩ := leFr_look hf hl
  obtain ⟨k1, k2⟩ := r.fr s ex _ h1
  refine ⟨fun he => ?_, k2⟩
  have hy : AVRel (C.V w obs ρ) obs ρ y _ := k1 he
  show AVRel (C.V w obs' (fun j => ρ ((π[j]?).getD 0))) obs' (fun j => ρ ((π[j]?).getD 0)) z _
  have same : y = z → (∀ i g, z ≠ .own i g) → (∀ i g s k, z ≠ .elt i g s k) → AVRel (C.V w obs' (fun j => ρ ((π[j]?).getD 0))) obs' (fun j => ρ ((π[j]?).getD 0)) z (a.tmps.getD s undef) := by
    rintro rfl n1 n2
    cases y with
    | junk => trivial
    | int k n => exact hy
    | bool b => exact hy
    | str s => exact hy
    | sl f e xs => exact SlRel.mono hle hy
    | lr l xs => exact LRowRel.mono hle hy
    | vec xs => exact hy
    | nils => exact hy
    | own id g => exact absurd rfl (n1 id g)
    | elt id g s k => exact absurd rfl (n2 id g s k)
    | relt f e d =>
      obtain ⟨a, u, hv, hf, hr, hc⟩ := hy
      refine ⟨a, u, hv, fun k => hle.Fr _ (hf k), hr.mono hle, fun j hj => ?_⟩
      have hsz := hr.cells.1
      have h3 := hc j hj
      rw [Array.getElem?_eq_getElem (by omega)] at h3 ⊢
      exact hle.cell h3
    | hdr h n => exact hy
    | emp b => exact hy
    | fn f => exact hy
  cases z with
  | junk => trivial
  | own j g' =>
    cases y with
    | own i g =>
      obtain ⟨m0, m1, m2, m3⟩ := h2
      obtain ⟨p1, p2⟩ := hy
      have hj : j < obs'.length := by
        rcases Nat.lt_or_ge j obs'.length with h | h
        · exact h
        · rw [oAt_eq, List.getElem?_eq_none h] at m3; exact m3.elim
      refine ⟨hj, fun c hc => ?_⟩
      have hg : genOf obs i = some g := by
        unfold genOf
        rw [oAt_get p1]
        revert m2
        cases oAt obs i with
        | dead => intro k; exact k.elim
        | arr e xs g0 nn => intro k; exact congrArg some (Eq.symm k)
        | mat _ _ g0 nn => intro k; exact congrArg some (Eq.symm k)
      have hg' : g' = c := by
        unfold genOf at hc
        rw [oAt_get hj] at hc
        revert m3 hc
        cases oAt obs' j with
        | dead => intro k; exact k.elim
        | arr e xs g0 nn => intro k hc; simp [O.gen] at hc; exact (show g' = g0 from k).trans hc
        | mat _ _ g0 nn => intro k hc; simp [O.gen] at hc; exact (show g' = g0 from k).trans hc
      refine ⟨by omega, fun _ => ?_⟩
      simp only [m1, Option.getD_some]
      exact (p2 g hg).2 rfl
    | _ => exact h2.elim
  | elt i g s k => simp [leAV] at h2
  | sl f e xs =>
    cases y with
    | lr l ys =>
      simp only [leAV] at h2
      cases h2
      exact (show SlRel (C.V w obs' _) f .int ys _ from by
        have := LRowRel.toRow (LRowRel.mono hle hy)
        cases f
        · exact (RowRel.weaken this).toSl
        · exact this.toSl)
    | nils =>
      simp only [leAV] at h2
      cases h2
      simp only [AVRel] at hy
      rw [hy]
      exact ⟨none, 0, rfl, by simp, by simp, fun i hi => by simp at hi⟩
    | sl f' e' ys => exact same h2 (by simp) (by simp)
    | _ => exact absurd h2 (by simp [leAV])
  | int k n => cases y <;> first | exact same h2 (by simp) (by simp) | exact absurd h2 (by simp [leAV])
  | bool b => cases y <;> first | exact same h2 (by simp) (by simp) | exact absurd h2 (by simp [leAV])
  | str b => cases y <;> first | exact same h2 (by simp) (by simp) | exact absurd h2 (by simp [leAV])
  | lr l b => cases y <;> first | exact same h2 (by simp) (by simp) | exact absurd h2 (by simp [leAV])
  | vec b => cases y <;> first | exact same h2 (by simp) (by simp) | exact absurd h2 (by simp [leAV])
  | nils => cases y <;> first | exact same h2 (by simp) (by simp) | exact absurd h2 (by simp [leAV])
  | relt f e b => cases y <;> first | exact same h2 (by simp) (by simp) | exact absurd h2 (by simp [leAV])
  | fn b => cases y <;> first | exact same h2 (by simp) (by simp) | exact absurd h2 (by simp [leAV])
  | hdr h n => cases y <;> first | exact same h2 (by simp) (by simp) | exact absurd h2 (by simp [leAV])
  | emp b => cases y <;> first | exact same h2 (by simp) (by simp) | exact absurd h2 (by simp [leAV])

theorem Le.re {C : Ctx} (hC : C.pin = []) {n : Nat} {fr : List (Nat × Bool × Sl)} {obs obs' : List O} (π : List Nat) (l : List (Nat × Bool × AV)) (hn : nodupB π = true) (ho : leOs obs π obs') (hf : leFr π obs obs' fr l) :
    Le C ⟨n, fr, obs⟩ ⟨n, frV l, obs'⟩ := Le.reP π l (fun j hj => by rw [hC] at hj; simp at hj) hn ho hf

/-! ### Letting an object go -/

theorem letgo_sl {C : Ctx} {obs : List O} {w : World} {ρ : Nat → Value} (rr : WRel C obs w ρ) {id g : Nat} {e : E} {xs : List e.D} {nn : Bool} (ho : obs[id]? = some (.arr e xs g nn)) :
    Step C w w obs (obs.set id .dead) ρ (fun i => if i = id then ρ id else ρ i) ∧ SlRel (C.V w (obs.set id .dead) (fun i => if i = id then ρ id else ρ i)) true e xs (ρ id) := by
  have T := Turn.letgo rr ho
  have hst := T.step rr
  obtain ⟨cs, hown, henc, hnn, hml⟩ := rr.os id _ ho
  refine ⟨hst, ?_⟩
  have henc' := henc.mono hst.le
  have hown0 := hown
  rcases hown.2 with ⟨hv, hz⟩ | ⟨b, cap, cur, hv, _, hg, h1, h2, h3, h4⟩
  · exact ⟨none, 0, by rw [hv, hz], by omega, by omega, fun i hi => by omega⟩
  · have hfp : fpo (ρ id) (.arr e xs g nn) b := by simp [fpo, hv, Value.ownBlock]
    have hnot : ¬ Own (obs.set id .dead) (fun i => if i = id then ρ id else ρ i) b := by
      rintro ⟨j, oj, hj, hf⟩
      by_cases hji : id = j
      · subst hji
        rw [List.getElem?_set_self (List.getElem?_eq_some_iff.1 ho).1] at hj
        cases hj
        simp [fpo] at hf
      · rw [List.getElem?_set_ne hji] at hj
        simp only [if_neg (Ne.symm hji)] at hf
        exact hji (rr.dis id j _ oj b ho hj hfp hf)
    refine ⟨some ⟨b, 0, none⟩, cap, hv, by omega, h2, fun i hi => ?_⟩
    obtain ⟨u, hu, hcell⟩ := henc'.2 i (by omega)
    refine ⟨⟨b, 0, none⟩, u, rfl, fun _ => .inl (rr.own b ⟨id, _, ho, hfp⟩), hu, fun j hj => ?_⟩
    have hsz := hu.cells.1
    have h5 := hcell j (by omega)
    rw [Array.getElem?_eq_getElem (by omega)] at h5 ⊢
    have h6 := hown0.cells (g := b) (by rw [hv]; rfl) _ _ h5
    have hH : (C.V w (obs.set id .dead) (fun i => if i = id then ρ id else ρ i)).H b = w.heap[b]? := by
      simp only [Ctx.V, mask, if_neg hnot]
    simp only [add_plain, Vw.cell, hH]
    simp only [World.cell?, add_plain] at h6
    revert h6
    cases w.heap[b]? with
    | none => intro h; cases h
    | some o => cases o <;> first | (intro h; cases h) | exact fun h => h

/-- The slots as they stand once object id, of generation g, is let go. -/
def slF (id g : Nat) (x' : AV) (obs : List O) (fr : List (Nat × Bool × Sl)) : List (Nat × Bool × AV) → Prop
  | [] => True
  | (s, ex, x) :: r => ((look s fr = some (ex, .v x)) ∨ (look s fr = some (ex, .v (.own id g)) ∧ x = x')) ∧ slF id g x' obs fr r

theorem slF_look {id g : Nat} {x' : AV} {obs : List O} {fr : List (Nat × Bool × Sl)} : ∀ {l : List (Nat × Bool × AV)}, slF id g x' obs fr l → ∀ {s : Nat} {ex : Bool} {x : Sl}, look s (frV l) = some (ex, x) →
    ∃ z, x = .v z ∧ (look s fr = some (ex, .v z) ∨ (look s fr = some (ex, .v (.own id g)) ∧ z = x'))
  | [], _, s, ex, x, h => by simp [look, frV] at h
  | (t, ey, y) :: r, hs, s, ex, x, h => by
    simp only [look, frV, List.map_cons] at h
    split at h
    · rename_i ht
      cases h
      have : s = t := by simpa using ht
      subst this
      exact ⟨y, rfl, hs.1⟩
    · exact slF_look hs.2 h

theorem Le.letgo {C : Ctx} {n : Nat} {fr : List (Nat × Bool × Sl)} {obs : List O} (id : Nat) {g : Nat} {e : E} {xs : List e.D} {nn : Bool} (l : List (Nat × Bool × AV)) (ho : oAt obs id = .arr e xs g nn) (hf : slF id g (.sl true e xs) obs fr l) :
    Le C ⟨n, fr, obs⟩ ⟨n, frV l, oSet obs id .dead⟩ := by
  intro a w ρ r
  have hid : id < obs.length := by
    rcases Nat.lt_or_ge id obs.length with h | h
    · exact h
    · rw [oAt_eq, List.getElem?_eq_none h] at ho; cases ho
  have ho' : obs[id]? = some (.arr e xs g nn) := by rw [oAt_get hid, ho]
  rw [oSet_eq]
  obtain ⟨hst, hsl⟩ := letgo_sl r.w ho'
  refine ⟨_, r.defers, r.size, fun s ex x hl => ?_, hst.wr, (hst.rel r).pin⟩
  obtain ⟨z, rfl, h1 | ⟨h1, h2⟩⟩ := slF_look hf hl
  · obtain ⟨k1, k2⟩ := r.fr s ex _ h1
    exact ⟨fun he => hst.slot (k1 he), k2⟩
  · obtain ⟨k1, k2⟩ := r.fr s ex _ h1
    refine ⟨fun he => ?_, k2⟩
    subst h2
    obtain ⟨_, hk⟩ := (show AVRel (C.V w obs ρ) obs ρ (.own id g) _ from k1 he)
    have : a.tmps.getD s undef = ρ id := (hk g (by unfold genOf; rw [ho']; rfl)).2 rfl
    show SlRel _ _ _ _ _
    rw [this]
    exact hsl

end Go.Aw

/- Handy forms for walks: results, lengths. -/
namespace Go.Aw
open Go

section
variable {C : Ctx} {k : List Item}

def evT (σ : St) : List Nat → List AV
  | [] => []
  | t :: l => σ.ev (.tmp t) :: evT σ l
def hasT (σ : St) : List Nat → Prop
  | [] => True
  | t :: l => σ.has (.tmp t) ∧ hasT σ l
theorem evT_nil (σ : St) : evT σ [] = [] := rfl
theorem evT_cons (σ : St) (t : Nat) (l : List Nat) : evT σ (t :: l) = σ.ev (.tmp t) :: evT σ l := rfl
theorem hasT_nil (σ : St) : hasT σ [] = True := rfl
theorem hasT_cons (σ : St) (t : Nat) (l : List Nat) : hasT σ (t :: l) = (σ.has (.tmp t) ∧ hasT σ l) := rfl
theorem evT_eq (σ : St) : ∀ l : List Nat, evT σ l = l.map fun t => σ.ev (.tmp t)
  | [] => rfl
  | t :: l => by simp [evT, evT_eq σ l]
theorem hasT_eq (σ : St) : ∀ l : List Nat, hasT σ l → ∀ t ∈ l, σ.has (.tmp t)
  | [], _ => by simp
  | t :: l, h => by
    intro u hu
    cases hu with
    | head => exact h.1
    | tail _ hu => exact hasT_eq σ l h.2 u hu

theorem Run.retW {σ : St} (ts : List Nat) {xs : List AV} (hl : ts.length ≤ 4) (hres : C.fn.results = (ts.map ResultVar.tmp).toArray) (hx : evT σ ts = xs) (hh : hasT σ ts) (h : Fin C xs σ.obs) : Run C (.code .ret :: k) σ :=
  Run.ret hl hres (by rw [← hx, evT_eq]) (hasT_eq σ ts hh) h
theorem Run.doneW {σ : St} (ts : List Nat) {xs : List AV} (hl : ts.length ≤ 4) (hres : C.fn.results = (ts.map ResultVar.tmp).toArray) (hx : evT σ ts = xs) (hh : hasT σ ts) (h : Fin C xs σ.obs) : Run C [] σ :=
  Run.done hl hres (by rw [← hx, evT_eq]) (hasT_eq σ ts hh) h

theorem Run.condW {σ : St} {c : Operand} {x y : Code} {t : Bool} (hc : σ.ev c = .bool t) (hh : σ.has c) (ht : t = true → Run C (.code x :: k) σ) (hf : t = false → Run C (.code y :: k) σ) : Run C (.code (.cond c x y) :: k) σ := Run.cond hc hh ht hf

def dstL : List Oper → List (Option Nat)
  | [] => []
  | o :: r => o.dst :: dstL r
theorem dstL_nil : dstL [] = [] := rfl
theorem dstL_cons (d : Option Nat) (op : Op) (ty : TypeId) (p : String) (af : Array Edge) (g : Option (Nat × Bool)) (r : List Oper) : dstL (⟨d, op, ty, p, af, g⟩ :: r) = d :: dstL r := rfl
theorem dstL_eq : ∀ l : List Oper, dstL l = l.map (·.dst)
  | [] => rfl
  | o :: r => by simp [dstL, dstL_eq r]
theorem Run.regionW (hC : C.Ok) {σ : St} {id : Nat} {l : List Oper} (h : ∀ K : St → Prop, (∀ σ', Run C k σ' → K σ') → aexec C ⟨dstL l, false⟩ l σ K) : Run C (.code (.region id l.toArray false) :: k) σ :=
  Run.region hC (by simpa only [dstL_eq] using h)

/-- A slice that is read is no longer than the model's longest. -/
theorem Run.len {n : Nat} {fr : List (Nat × Bool × Sl)} {obs : List O} (s : Nat) {f : Bool} {e : E} {xs : List e.D} (h : look s fr = some (true, .v (.sl f e xs))) (hk : xs.length ≤ 9223372036854775807 → Run C k ⟨n, fr, obs⟩) : Run C k ⟨n, fr, obs⟩ := by
  refine Run.fact (fun a w ρ r => ?_) hk
  obtain ⟨_, _, _, h1, h2, _⟩ := (show SlRel _ _ _ _ _ from (r.fr s true _ h).1 rfl)
  exact Nat.le_trans h1 h2
theorem Run.lenr {n : Nat} {fr : List (Nat × Bool × Sl)} {obs : List O} (s : Nat) {l : Nat} {xs : List Int} (h : look s fr = some (true, .v (.lr l xs))) (hk : xs.length ≤ 9223372036854775807 → Run C k ⟨n, fr, obs⟩) : Run C k ⟨n, fr, obs⟩ := by
  refine Run.fact (fun a w ρ r => ?_) hk
  obtain ⟨_, _, _, h1, h2, _⟩ := (LRowRel.toRow (show LRowRel _ _ _ _ from (r.fr s true _ h).1 rfl)).toSl
  exact Nat.le_trans h1 h2
theorem Run.leno {n : Nat} {fr : List (Nat × Bool × Sl)} {obs : List O} (id : Nat) {e : E} {xs : List e.D} {g : Nat} {nn : Bool} (h : oAt obs id = .arr e xs g nn) (hk : xs.length ≤ 9223372036854775807 → Run C k ⟨n, fr, obs⟩) : Run C k ⟨n, fr, obs⟩ := by
  refine Run.fact (fun a w ρ r => ?_) hk
  have hid : id < obs.length := by
    rcases Nat.lt_or_ge id obs.length with h' | h'
    · exact h'
    · rw [oAt_eq, List.getElem?_eq_none h'] at h; cases h
  obtain ⟨_, _, _, _, h2⟩ := r.w.os id _ (by rw [oAt_get hid, h])
  exact h2
end
def entF (i : Nat) : List AV → List (Nat × Bool × Sl)
  | [] => []
  | x :: l => (i, true, .v x) :: entF (i + 1) l
theorem entry_eq (args : List AV) (n : Nat) : entry args n = ⟨n, entF 0 args, []⟩ := by
  simp only [entry]
  congr 1
  suffices h : ∀ (l : List AV) (i : Nat), (l.zipIdx i).map (fun p => (p.2, true, Sl.v p.1)) = entF i l from h args 0
  intro l
  induction l with
  | nil => intro i; rfl
  | cons x l ih => intro i; simp [entF, ih]
theorem ent_nil (i : Nat) : entF i [] = [] := rfl
theorem ent_cons (i : Nat) (x : AV) (l : List AV) : entF i (x :: l) = (i, true, .v x) :: entF (i + 1) l := rfl
theorem wrap_id {n : Int} (h : -9223372036854775808 ≤ n ∧ n ≤ 9223372036854775807) : IntKind.i64.wrap n = n := by rw [IntKind.wrap_i64]; omega
theorem frV_nil : frV [] = [] := rfl
theorem frV_cons (s : Nat) (ex : Bool) (x : AV) (l : List (Nat × Bool × AV)) : frV ((s, ex, x) :: l) = (s, ex, .v x) :: frV l := rfl
theorem subF_nil (fr : List (Nat × Bool × Sl)) : subF fr [] = True := rfl
theorem subF_cons (fr : List (Nat × Bool × Sl)) (s : Nat) (x : Bool × Sl) (r : List (Nat × Bool × Sl)) : subF fr ((s, x) :: r) = (look s fr = some x ∧ subF fr r) := rfl
theorem fresh_int (k : IntKind) (n : Int) (l : List AV) : (AV.int k n :: l).all freshAV = l.all freshAV := rfl
theorem fresh_bool (n : Bool) (l : List AV) : (AV.bool n :: l).all freshAV = l.all freshAV := rfl
theorem fresh_own (i g : Nat) (l : List AV) : (AV.own i g :: l).all freshAV = l.all freshAV := rfl
theorem fresh_nils (l : List AV) : (AV.nils :: l).all freshAV = l.all freshAV := rfl
theorem fresh_str (s : List UInt8) (l : List AV) : (AV.str s :: l).all freshAV = l.all freshAV := rfl
theorem fresh_nil : ([] : List AV).all freshAV = true := rfl
theorem eqT (p : Prop) : (p = True) = p := by simp
/-- All equations, with the logic that they lean on. -/
theorem AY : type_of% @AX ∧ (∀ p : Prop, (True ∧ p) = p) ∧ (∀ p : Prop, (p ∧ True) = p) ∧ (∀ b : Bool, (true && b) = b) ∧ (∀ b : Bool, (b && true) = b) ∧ (∀ b : Bool, (false && b) = false) ∧ (∀ b : Bool, (b && false) = false) ∧
    (∀ b : Bool, (true || b) = true) ∧ (∀ b : Bool, (b || true) = true) ∧ (∀ b : Bool, (false || b) = b) ∧ (∀ b : Bool, (b || false) = b) ∧
    (∀ (α : Type) (a b : α), (bif true then a else b) = a) ∧ (∀ (α : Type) (a b : α), (bif false then a else b) = b) ∧
    (!false) = true ∧ (!true) = false ∧ (∀ (α : Type) (a : α), (some a).isSome = true) ∧ (∀ (α : Type), (none : Option α).isSome = false) ∧ decide True = true ∧ decide False = false ∧
    (∀ p : Prop, (p → p) = True) ∧ (∀ α : Sort 1, (α → True) = True) ∧ (∀ p : Prop, (p → True) = True) ∧ (∀ p : Prop, (True → p) = p) ∧ (∀ (α : Type) (a : α), (a = a) = True) ∧
    (∀ (α : Type) (a : α) (l : List α), (a :: l).isEmpty = false) ∧ (∀ (α : Type), ([] : List α).isEmpty = true) ∧ (∀ (α : Type) (l : List α), [] ++ l = l) ∧ (∀ (α : Type) (l : List α), l ++ [] = l) ∧
    type_of% @evT_nil ∧ type_of% @evT_cons ∧ type_of% @hasT_nil ∧ type_of% @hasT_cons ∧ type_of% @entry_eq ∧ type_of% @ent_nil ∧ type_of% @ent_cons ∧ type_of% @frV_nil ∧ type_of% @frV_cons ∧ type_of% @subF_nil ∧ type_of% @subF_cons ∧ type_of% @dstL_nil ∧ type_of% @dstL_cons := by
  refine ⟨AX, ?_, ?_, ?_, ?_, ?_, ?_, ?_, ?_, ?_, ?_, ?_, ?_, rfl, rfl, ?_, ?_, ?_, ?_, ?_, ?_, ?_, ?_, ?_, ?_, ?_, ?_, ?_, evT_nil, evT_cons, hasT_nil, hasT_cons, entry_eq, ent_nil, ent_cons, frV_nil, frV_cons, subF_nil, subF_cons, dstL_nil, dstL_cons⟩ <;> simp
end Go.Aw

/- A region that draws its order: the walk of one order serves every order, if what may change places is apart and one of the two only reads. -/
namespace Go.Aw
open Go

/-! ### What an operation reads -/

def opnd : Operand → List Nat
  | .tmp t => [t]
  | _ => []
def opndO : Option Operand → List Nat
  | some x => opnd x
  | none => []
def opndL : List Operand → List Nat
  | [] => []
  | x :: l => opnd x ++ opndL l
def opndP : List (Nat × Operand) → List Nat
  | [] => []
  | x :: l => opnd x.2 ++ opndP l

def opReads : Op → List Nat
  | .move x => opnd x
  | .assign x => opnd x
  | .pick c a b => opnd c ++ opnd a ++ opnd b
  | .binOp _ _ x y _ => opnd x ++ opnd y
  | .unOp _ _ x => opnd x
  | .load _ x => opnd x
  | .store _ x y => opnd x ++ opnd y
  | .indexAddr _ x y => opnd x ++ opnd y
  | .convert _ _ x => opnd x
  | .index _ x y => opnd x ++ opnd y
  | .makeSlice _ x y => opnd x ++ opnd y
  | .buildSlice _ _ parts => opndP parts.toList
  | .slice _ x lo hi _ => opnd x ++ opndO lo ++ opndO hi
  | .extract x _ => opnd x
  | .call c => opndL c.args.toList
  | _ => []

def gReads (ds : List (Option Nat)) : Option (Nat × Bool) → List Nat
  | some (j, _) => (slotOf ds j).toList
  | none => []
def reads (ds : List (Option Nat)) (o : Oper) : List Nat := opReads o.op ++ gReads ds o.guard

def Agree (L : List Nat) (σ σ' : St) : Prop := ∀ s ∈ L, look s σ.fr = look s σ'.fr

section
variable {σ σ' : St}

theorem ev_agree {x : Operand} (h : Agree (opnd x) σ σ') : σ.ev x = σ'.ev x := by
  cases x with
  | tmp t => simp only [St.ev, h t (by simp [opnd])]
  | _ => rfl
theorem has_agree {x : Operand} (h : Agree (opnd x) σ σ') : σ.has x = σ'.has x := by
  cases x with
  | tmp t => simp only [St.has, h t (by simp [opnd])]
  | _ => rfl
theorem Agree.left {L M : List Nat} (h : Agree (L ++ M) σ σ') : Agree L σ σ' := fun s hs => h s (List.mem_append_left _ hs)
theorem Agree.right {L M : List Nat} (h : Agree (L ++ M) σ σ') : Agree M σ σ' := fun s hs => h s (List.mem_append_right _ hs)
theorem evL_agree : ∀ {l : List Operand}, Agree (opndL l) σ σ' → evL σ l = evL σ' l
  | [], _ => rfl
  | x :: l, h => by simp only [evL, ev_agree (Agree.left h), evL_agree (Agree.right h)]
theorem hasL_agree : ∀ {l : List Operand}, Agree (opndL l) σ σ' → hasL σ l = hasL σ' l
  | [], _ => rfl
  | x :: l, h => by simp only [hasL, has_agree (Agree.left h), hasL_agree (Agree.right h)]
theorem evP_agree : ∀ {l : List (Nat × Operand)}, Agree (opndP l) σ σ' → evP σ l = evP σ' l
  | [], _ => rfl
  | x :: l, h => by simp only [evP, ev_agree (Agree.left h), evP_agree (Agree.right h)]
theorem hasP_agree : ∀ {l : List (Nat × Operand)}, Agree (opndP l) σ σ' → hasP σ l = hasP σ' l
  | [], _ => rfl
  | x :: l, h => by simp only [hasP, has_agree (Agree.left h), hasP_agree (Agree.right h)]
theorem omap_agree {x : Option Operand} (h : Agree (opndO x) σ σ') : x.map σ.ev = x.map σ'.ev := by
  cases x with
  | none => rfl
  | some x => simp only [Option.map_some, ev_agree (x := x) h]
theorem hasO_agree {x : Option Operand} (h : Agree (opndO x) σ σ') : hasO σ x = hasO σ' x := by
  cases x with
  | none => rfl
  | some x => exact has_agree (x := x) h

theorem hasAll_agree {op : Op} (h : Agree (opReads op) σ σ') : hasAll σ op = hasAll σ' op := by
  cases op <;> simp only [opReads] at h <;> try rfl
  case binOp => simp only [hasAll, has_agree h.left, has_agree h.right]
  case unOp => exact has_agree h
  case load => exact has_agree h
  case store => simp only [hasAll, has_agree h.left, has_agree h.right]
  case indexAddr => simp only [hasAll, has_agree h.left, has_agree h.right]
  case convert => simp only [hasAll, has_agree h]
  case index => simp only [hasAll, has_agree h.left, has_agree h.right]
  case makeSlice => simp only [hasAll, has_agree h.left, has_agree h.right]
  case buildSlice => simp only [hasAll, ← hasP_eq, hasP_agree h]
  case slice => simp only [hasAll, ← hasO_eq, has_agree h.left.left, hasO_agree h.left.right, hasO_agree h.right]
  case pick => exact has_agree h.left.left
  case call => simp only [hasAll, ← hasL_eq, hasL_agree h]

/-- An outcome, over other objects. -/
def Res.on (obs : List O) : Res → Res
  | .ok vc x _ => .ok vc x obs
  | r => r

variable {C : Ctx}

theorem astep_agree {op : Op} (h : Agree (opReads op) σ σ') (ho : σ.obs = σ'.obs) : astep C σ op = astep C σ' op := by
  obtain ⟨n, fr, obs⟩ := σ
  obtain ⟨n', fr', obs'⟩ := σ'
  simp only at ho
  subst ho
  cases op <;> simp only [opReads] at h <;> try rfl
  case move => simp only [astep, ev_agree h, has_agree h]
  case assign => simp only [astep, ev_agree h, has_agree h]
  case pick => simp only [astep_pick, ev_agree h.left.left, ev_agree h.left.right, ev_agree h.right, has_agree h.left.right, has_agree h.right]
  case binOp => simp only [astep_bin, ev_agree h.left, ev_agree h.right]
  case unOp => simp only [astep, ev_agree h]
  case load => simp only [astep, ev_agree h]
  case store => simp only [astep_store, ev_agree h.left, ev_agree h.right]
  case indexAddr => simp only [astep, ev_agree h.left, ev_agree h.right]
  case convert => simp only [astep, ev_agree h]
  case index => simp only [astep, ev_agree h.left, ev_agree h.right]
  case makeSlice => simp only [astep, ev_agree h.left, ev_agree h.right]
  case buildSlice t m parts => simp only [astep, ← evP_eq, evP_agree h]
  case slice t x lo hi mx =>
    cases mx with
    | none => simp only [astep_slice, ev_agree h.left.left, omap_agree h.left.right, omap_agree h.right]
    | some _ => rfl
  case extract x i =>
    cases x with
    | tmp t => simp only [astep_ex, h t (by simp [opnd])]
    | _ => rfl
  case call c =>
    obtain ⟨cal, args, ts⟩ := c
    cases cal with
    | builtin b =>
      obtain ⟨l⟩ := args
      obtain ⟨tl⟩ := ts
      cases b <;> try rfl
      case len =>
        match l, tl with
        | [x], [t] => exact congrArg (fun y => lenQ (C.bt t) (C.Γ t) y obs) (ev_agree (x := x) h.left)
        | [], _ => rfl
        | [_], [] => rfl
        | [_], _ :: _ :: _ => rfl
        | _ :: _ :: _, _ => rfl
      case append =>
        match l, tl with
        | [x, y], [t, t'] => simp only [astep, ev_agree (x := x) h.left, ev_agree (x := y) h.right.left]
        | [], _ => rfl
        | [_], _ => rfl
        | [_, _], [] => rfl
        | [_, _], [_] => rfl
        | [_, _], _ :: _ :: _ :: _ => rfl
        | _ :: _ :: _ :: _, _ => rfl
      case copy =>
        match l, tl with
        | [x, y], [t, t'] => simp only [astep, ev_agree (x := x) h.left, ev_agree (x := y) h.right.left]
        | [], _ => rfl
        | [_], _ => rfl
        | [_, _], [] => rfl
        | [_, _], [_] => rfl
        | [_, _], _ :: _ :: _ :: _ => rfl
        | _ :: _ :: _ :: _, _ => rfl
      case max =>
        match l with
        | [x, y] => simp only [astep, ev_agree (x := x) h.left, ev_agree (x := y) h.right.left]
        | [] => rfl
        | [_] => rfl
        | _ :: _ :: _ :: _ => rfl
      case min =>
        match l with
        | [x, y] => simp only [astep, ev_agree (x := x) h.left, ev_agree (x := y) h.right.left]
        | [] => rfl
        | [_] => rfl
        | _ :: _ :: _ :: _ => rfl
    | _ => rfl

/-- Operations that look at slots alone. -/
def pureOp : Op → Bool
  | .move _ | .assign _ | .pick .. | .binOp .. | .unOp .. | .extract .. | .slice .. | .index .. => true
  | _ => false

theorem pure_ro {op : Op} (h : pureOp op = true) : roOp op = true := by cases op <;> first | rfl | exact absurd h (by simp [pureOp])

theorem binV_on (op : BinOp) (x y : AV) (obs obs' : List O) : binV op x y obs' = (binV op x y obs).on obs' := by
  unfold binV
  split
  · unfold binI sameK
    repeat' split
    all_goals rfl
  all_goals ((repeat' split) <;> rfl)

theorem binQ_on (b : Option BT) (gq : Option E) (op : BinOp) (x y : AV) (obs obs' : List O) : binQ b gq op x y obs' = (binQ b gq op x y obs).on obs' := by
  unfold binQ
  split <;> first | exact binV_on .. | rfl

theorem astep_pure {op : Op} (hp : pureOp op = true) (n : Nat) (fr : List (Nat × Bool × Sl)) (obs obs' : List O) : astep C ⟨n, fr, obs'⟩ op = (astep C ⟨n, fr, obs⟩ op).on obs' := by
  cases op <;> simp only [pureOp] at hp <;> first | (cases hp; done) | skip
  case move => rfl
  case assign => rfl
  case pick c x y =>
    simp only [astep_pick, pickQ]
    rw [show St.ev ⟨n, fr, obs'⟩ c = St.ev ⟨n, fr, obs⟩ c from rfl, show St.ev ⟨n, fr, obs'⟩ x = St.ev ⟨n, fr, obs⟩ x from rfl, show St.ev ⟨n, fr, obs'⟩ y = St.ev ⟨n, fr, obs⟩ y from rfl]
    cases St.ev ⟨n, fr, obs⟩ c <;> cases St.ev ⟨n, fr, obs⟩ x <;> cases St.ev ⟨n, fr, obs⟩ y <;> rfl
  case binOp op t x y t' => exact binQ_on ..
  case unOp op t x =>
    simp only [astep, unV]
    rw [show St.ev ⟨n, fr, obs'⟩ x = St.ev ⟨n, fr, obs⟩ x from rfl]
    split <;> rfl
  case slice t x lo hi mx =>
    cases mx with
    | some m => rfl
    | none =>
      simp only [astep_slice]
      rw [show St.ev ⟨n, fr, obs'⟩ x = St.ev ⟨n, fr, obs⟩ x from rfl, show (lo.map fun z => St.ev ⟨n, fr, obs'⟩ z) = (lo.map fun z => St.ev ⟨n, fr, obs⟩ z) from rfl, show (hi.map fun z => St.ev ⟨n, fr, obs'⟩ z) = (hi.map fun z => St.ev ⟨n, fr, obs⟩ z) from rfl]
      have key : ∀ (v : AV) (l h : Option AV), sliceV v l h obs' = (sliceV v l h obs).on obs' := by
        intro v l h
        unfold sliceV
        split <;> first | rfl | (split <;> rfl)
      unfold sliceQ
      split
      · exact key ..
      · split
        · exact key ..
        · rfl
      · split
        · exact key ..
        · rfl
      · rfl
  case index t x i =>
    simp only [astep, sixV]
    rw [show St.ev ⟨n, fr, obs'⟩ x = St.ev ⟨n, fr, obs⟩ x from rfl, show St.ev ⟨n, fr, obs'⟩ i = St.ev ⟨n, fr, obs⟩ i from rfl]
    split <;> rfl
  case extract x i =>
    cases x with
    | tmp t =>
      simp only [astep_ex, exQ]
      rcases look t fr with _ | ⟨_ | _, _ | l⟩ <;> try rfl
      simp only []
      cases l[i]? <;> rfl
    | _ => rfl

theorem keeps_arr {obs obs' : List O} (hk : Keeps obs obs') {id : Nat} {o : O} (h : obs[id]? = some o) : obs'[id]? = some o := hk id o h

theorem astep_keeps {op : Op} (hr : roOp op = true) {n : Nat} {fr : List (Nat × Bool × Sl)} {obs obs' : List O} (hk : Keeps obs obs') {vc : Prop} {x : AV} {o : List O} (h : astep C ⟨n, fr, obs⟩ op = .ok vc x o) :
    astep C ⟨n, fr, obs'⟩ op = .ok vc x obs' := by
  by_cases hp : pureOp op = true
  · rw [astep_pure hp n fr obs obs', h]; rfl
  · cases op <;> simp only [roOp] at hr <;> first | (cases hr; done) | (exact absurd rfl hp) | skip
    case load t y =>
      simp only [astep] at h ⊢
      rw [show St.ev ⟨n, fr, obs'⟩ y = St.ev ⟨n, fr, obs⟩ y from rfl]
      revert h
      cases St.ev ⟨n, fr, obs⟩ y <;> simp only [loadV] <;> intro h <;> try (cases h; done)
      case elt id g s k =>
        cases ho : obs[id]? with
        | none => rw [ho] at h; cases h
        | some ob =>
          rw [ho] at h
          rw [hk id ob ho]
          cases ob with
          | dead => cases h
          | arr e xs g' nn =>
            simp only at h ⊢
            split at h
            · rename_i hc; rw [if_pos hc]; cases h; rfl
            · cases h
          | mat hs xs g' nn =>
            simp only at h ⊢
            split at h
            · rename_i hc; rw [if_pos hc]; cases h; rfl
            · cases h
      case relt f e d =>
        split at h
        · rename_i hc; rw [if_pos hc]; cases h; rfl
        · cases h
    case indexAddr t y z =>
      simp only [astep] at h ⊢
      rw [show St.ev ⟨n, fr, obs'⟩ y = St.ev ⟨n, fr, obs⟩ y from rfl, show St.ev ⟨n, fr, obs'⟩ z = St.ev ⟨n, fr, obs⟩ z from rfl]
      revert h
      cases C.Γ t with
      | none => intro h; simp [idxV] at h
      | some e2 =>
        cases St.ev ⟨n, fr, obs⟩ y <;> cases St.ev ⟨n, fr, obs⟩ z <;> simp only [idxV] <;> intro h <;> try (cases h; done)
        case sl.int =>
          split at h
          · rename_i hc; rw [if_pos hc]; cases h; rfl
          · cases h
        case lr.int =>
          split at h
          · rename_i hc; rw [if_pos hc]; cases h; rfl
          · cases h
        case own.int id g k i =>
          cases ho : obs[id]? with
          | none => rw [ho] at h; cases h
          | some ob =>
            rw [ho] at h
            rw [hk id ob ho]
            cases ob with
            | dead => cases h
            | arr e xs g' nn =>
              simp only at h ⊢
              split at h
              · rename_i hc; rw [if_pos hc]; cases h; rfl
              · cases h
            | mat hs xs g' nn =>
              simp only at h ⊢
              split at h
              · rename_i hc; rw [if_pos hc]; cases h; rfl
              · cases h
    case convert s d y =>
      simp only [astep] at h ⊢
      rw [show St.ev ⟨n, fr, obs'⟩ y = St.ev ⟨n, fr, obs⟩ y from rfl]
      revert h
      generalize St.ev ⟨n, fr, obs⟩ y = v
      intro h
      unfold cnvV at h ⊢
      split at h
      · split at h
        · rename_i hc; simp only [hc, if_true]; cases h; rfl
        · cases h
      · split at h
        · rename_i hc; simp only [hc, if_true]; cases h; rfl
        · cases h
      · rename_i id g hd
        cases ho : obs[id]? with
        | none => rw [ho] at h; cases h
        | some ob =>
          rw [ho] at h
          simp only [hk id ob ho]
          split at h
          · rename_i heq
            cases heq
            split at h
            · rename_i hc; simp only [hc, and_self, if_true]; cases h; rfl
            · cases h
          · cases h
      · cases h
    case call c =>
      obtain ⟨cal, ⟨l⟩, ⟨tl⟩⟩ := c
      cases cal with
      | builtin b =>
        cases b <;> simp only [roOp] at hr <;> first | (cases hr; done) | skip
        case len =>
          match l, tl with
          | [y], [t] =>
            have h' : lenQ (C.bt t) (C.Γ t) (St.ev ⟨n, fr, obs⟩ y) obs = .ok vc x o := h
            show lenQ (C.bt t) (C.Γ t) (St.ev ⟨n, fr, obs⟩ y) obs' = .ok vc x obs'
            revert h'
            generalize St.ev ⟨n, fr, obs⟩ y = v
            intro h'
            have key : lenV v obs = .ok vc x o → lenV v obs' = .ok vc x obs' := by
              intro hh
              cases v <;> simp only [lenV] at hh ⊢ <;> try (cases hh; done)
              case sl => cases hh; rfl
              case lr => cases hh; rfl
              case nils => cases hh; rfl
              case emp => cases hh; rfl
              case str => cases hh; rfl
              case own id g =>
                cases ho : obs[id]? with
                | none => rw [ho] at hh; cases hh
                | some ob =>
                  rw [ho] at hh
                  rw [hk id ob ho]
                  cases ob with
                  | dead => cases hh
                  | arr e xs g' nn =>
                    simp only at hh ⊢
                    split at hh
                    · rename_i hc; rw [if_pos hc]; cases hh; rfl
                    · cases hh
                  | mat hs xs g' nn =>
                    simp only at hh ⊢
                    split at hh
                    · rename_i hc; rw [if_pos hc]; cases hh; rfl
                    · cases hh
            unfold lenQ at h' ⊢
            split at h'
            · exact key h'
            · cases h'
            · rename_i g e _ _; exact key h'
            · cases h'
          | [], _ => cases h
          | [_], [] => cases h
          | [_], _ :: _ :: _ => cases h
          | _ :: _ :: _, _ => cases h
        case max =>
          match l with
          | [y, z] =>
            have h' : maxV true (St.ev ⟨n, fr, obs⟩ y) (St.ev ⟨n, fr, obs⟩ z) obs = .ok vc x o := h
            show maxV true (St.ev ⟨n, fr, obs⟩ y) (St.ev ⟨n, fr, obs⟩ z) obs' = .ok vc x obs'
            revert h'
            cases St.ev ⟨n, fr, obs⟩ y <;> cases St.ev ⟨n, fr, obs⟩ z <;> intro h' <;> first | (cases h'; rfl) | cases h'
          | [] => cases h
          | [_] => cases h
          | _ :: _ :: _ :: _ => cases h
        case min =>
          match l with
          | [y, z] =>
            have h' : maxV false (St.ev ⟨n, fr, obs⟩ y) (St.ev ⟨n, fr, obs⟩ z) obs = .ok vc x o := h
            show maxV false (St.ev ⟨n, fr, obs⟩ y) (St.ev ⟨n, fr, obs⟩ z) obs' = .ok vc x obs'
            revert h'
            cases St.ev ⟨n, fr, obs⟩ y <;> cases St.ev ⟨n, fr, obs⟩ z <;> intro h' <;> first | (cases h'; rfl) | cases h'
          | [] => cases h
          | [_] => cases h
          | _ :: _ :: _ :: _ => cases h
      | _ => cases hr

end
end Go.Aw

/- A region that draws its order: every order gives what one order gives. -/
namespace Go.Aw
open Go

def Res.plain : Res → Prop
  | .bad => True
  | .ok _ _ _ => True
  | _ => False

section
variable {C : Ctx} {rg : Rg} {σ σ' : St}

theorem binV_plain (op : BinOp) (x y : AV) (obs : List O) : (binV op x y obs).plain := by
  have := binV_shape op x y obs
  cases h : binV op x y obs <;> first | trivial | exact absurd h (this.1 _ _) | exact absurd h (this.2 _ _ _)
theorem lenV_plain (x : AV) (obs : List O) : (lenV x obs).plain := by
  have := lenV_shape x obs
  cases h : lenV x obs <;> first | trivial | exact absurd h (this.1 _ _) | exact absurd h (this.2 _ _ _)
theorem idxV_plain (e : Option E) (x i : AV) (obs : List O) : (idxV e x i obs).plain := by
  have := idxV_shape e x i obs
  cases h : idxV e x i obs <;> first | trivial | exact absurd h (this.1 _ _) | exact absurd h (this.2 _ _ _)
theorem loadV_plain (b : Bool) (x : AV) (obs : List O) : (loadV b x obs).plain := by
  have := loadV_shape b x obs
  cases h : loadV b x obs <;> first | trivial | exact absurd h (this.1 _ _) | exact absurd h (this.2 _ _ _)
theorem sliceV_plain (x : AV) (lo hi : Option AV) (obs : List O) : (sliceV x lo hi obs).plain := by
  have := sliceV_shape x lo hi obs
  cases h : sliceV x lo hi obs <;> first | trivial | exact absurd h (this.1 _ _) | exact absurd h (this.2 _ _ _)
theorem maxV_plain (b : Bool) (x y : AV) (obs : List O) : (maxV b x y obs).plain := by
  unfold maxV; split <;> trivial

theorem ro_plain {op : Op} (h : roOp op = true) : (astep C σ op).plain := by
  cases op <;> simp only [roOp] at h <;> first | (cases h; done) | skip
  case move => trivial
  case assign => trivial
  case pick => rw [astep_pick]; unfold pickQ; split <;> trivial
  case binOp =>
    rw [astep_bin]; unfold binQ
    split <;> first | exact binV_plain .. | trivial
  case unOp => simp only [astep, unV]; split <;> trivial
  case load => exact loadV_plain ..
  case indexAddr => exact idxV_plain ..
  case convert => simp only [astep, cnvV]; (repeat' split) <;> trivial
  case index => simp only [astep, sixV]; (repeat' split) <;> trivial
  case slice t x lo hi mx =>
    cases mx with
    | some _ => trivial
    | none =>
      rw [astep_slice]; unfold sliceQ
      split
      · exact sliceV_plain ..
      · split
        · exact sliceV_plain ..
        · trivial
      · split
        · exact sliceV_plain ..
        · trivial
      · trivial
  case extract x i =>
    simp only [astep, exV]
    split
    · split
      · split <;> trivial
      · trivial
    · trivial
  case call c =>
    obtain ⟨cal, ⟨l⟩, ⟨tl⟩⟩ := c
    cases cal with
    | builtin b =>
      cases b <;> simp only [] at h <;> first | (cases h; done) | skip
      case len =>
        match l, tl with
        | [y], [t] =>
          show (lenQ (C.bt t) (C.Γ t) (σ.ev y) σ.obs).plain
          unfold lenQ
          split
          · exact lenV_plain ..
          · trivial
          · exact lenV_plain ..
          · trivial
        | [], _ => trivial
        | [_], [] => trivial
        | [_], _ :: _ :: _ => trivial
        | _ :: _ :: _, _ => trivial
      case max =>
        match l with
        | [y, z] => exact maxV_plain ..
        | [] => trivial
        | [_] => trivial
        | _ :: _ :: _ :: _ => trivial
      case min =>
        match l with
        | [y, z] => exact maxV_plain ..
        | [] => trivial
        | [_] => trivial
        | _ :: _ :: _ :: _ => trivial
    | _ => cases h

theorem ro_callee {op : Op} (h : roOp op = true) : calleeOf op = none := by
  unfold roOp at h
  split at h <;> first | rfl | cases h

/-- An operation that only reads, and what it hands back. -/
def roS (σ : St) (o : Oper) (x : AV) : Sl := match o.guard with
  | none => mvS σ o.op x
  | some _ => .v x
def RO (C : Ctx) (rg : Rg) (o : Oper) (σ : St) (ex : Bool) (s : Sl) : Prop :=
  inN σ.n o.dst ∧ gex rg.ds σ o.guard = some ex ∧ ∃ vc ob x, astep C σ o.op = .ok vc x ob ∧ (ex = true → hasAll σ o.op ∧ vc) ∧ s = roS σ o x
theorem mvS_agree {op : Op} (h : Agree (opReads op) σ σ') (x : AV) : mvS σ op x = mvS σ' op x := by
  unfold mvS
  split
  · rename_i t
    rw [h t (by simp [opReads, opnd])]
  · rfl
theorem roS_agree {o : Oper} (h : Agree (opReads o.op) σ σ') (x : AV) : roS σ o x = roS σ' o x := by
  unfold roS
  split
  · exact mvS_agree h x
  · rfl

theorem ro_of_aone {o : Oper} (hr : roOp o.op = true) {K : St → Prop} (h : aone C rg o σ K) : ∃ ex x, RO C rg o σ ex x ∧ K (σ.put o.dst ex x σ.obs) := by
  unfold aone at h
  obtain ⟨hd, h⟩ := h
  rw [ro_callee hr] at h
  have hp := ro_plain (C := C) (σ := σ) hr
  cases hg : o.guard with
  | none =>
    rw [hg] at h
    simp only at h
    cases hs : astep C σ o.op with
    | bad => rw [hs] at h; exact h.elim
    | ok vc x ob =>
      rw [hs] at h
      have := roOp_obs hr hs
      subst this
      exact ⟨true, mvS σ o.op x, ⟨hd, by rw [hg]; rfl, vc, _, x, hs, fun _ => ⟨h.1, h.2.1⟩, by simp only [roS, hg]⟩, h.2.2⟩
    | skip vc ob => rw [hs] at hp; exact hp.elim
    | all p x ob => rw [hs] at hp; exact hp.elim
  | some g =>
    rw [hg] at h
    simp only at h
    cases hgx : gex rg.ds σ (some g) with
    | none => rw [hgx] at h; exact h.elim
    | some ex =>
      rw [hgx] at h
      simp only [hr, if_true] at h
      cases hs : astep C σ o.op with
      | bad => rw [hs] at h; exact h.elim
      | ok vc x ob => rw [hs] at h; exact ⟨ex, .v x, ⟨hd, by rw [hg]; exact hgx, vc, ob, x, hs, h.1, by simp only [roS, hg]⟩, h.2⟩
      | skip vc ob => rw [hs] at hp; exact hp.elim
      | all p x ob => rw [hs] at hp; exact hp.elim

theorem aone_of_ro {o : Oper} (hr : roOp o.op = true) {K : St → Prop} {ex : Bool} {s : Sl} (h : RO C rg o σ ex s) (hk : K (σ.put o.dst ex s σ.obs)) : aone C rg o σ K := by
  obtain ⟨hd, hg, vc, ob, x, hs, hh, rfl⟩ := h
  unfold aone
  refine ⟨hd, ?_⟩
  rw [ro_callee hr]
  cases hgg : o.guard with
  | none =>
    rw [hgg] at hg
    cases hg
    simp only [roS, hgg] at hk
    simp only [hs]
    have := roOp_obs hr hs
    subst this
    exact ⟨(hh rfl).1, (hh rfl).2, hk⟩
  | some g =>
    rw [hgg] at hg
    simp only [roS, hgg] at hk
    simp only [hg, hr, if_true, hs]
    exact ⟨hh, hk⟩

/-! ### States alike -/

def Eqv (σ σ' : St) : Prop := σ.n = σ'.n ∧ σ.obs = σ'.obs ∧ ∀ s, look s σ.fr = look s σ'.fr
def Resp (K : St → Prop) : Prop := ∀ σ σ', Eqv σ σ' → K σ → K σ'

theorem Eqv.refl (σ : St) : Eqv σ σ := ⟨rfl, rfl, fun _ => rfl⟩
theorem Eqv.agree (h : Eqv σ σ') (L : List Nat) : Agree L σ σ' := fun s _ => h.2.2 s
theorem look_put (σ : St) (d : Nat) (ex : Bool) (x : Sl) (obs : List O) (s : Nat) : look s (σ.put (some d) ex x obs).fr = if s = d then some (ex, x) else look s σ.fr := by
  simp only [St.put, look, beq_iff_eq]
theorem put_n' (σ : St) (d : Option Nat) (ex : Bool) (x : Sl) (obs : List O) : (σ.put d ex x obs).n = σ.n := by cases d <;> rfl
theorem put_obs' (σ : St) (d : Option Nat) (ex : Bool) (x : Sl) (obs : List O) : (σ.put d ex x obs).obs = obs := by cases d <;> rfl
theorem look_put_ne {σ : St} {d : Option Nat} {ex : Bool} {x : Sl} {obs : List O} {s : Nat} (h : d ≠ some s) : look s (σ.put d ex x obs).fr = look s σ.fr := by
  cases d with
  | none => rfl
  | some d => rw [look_put, if_neg (fun e => h (by rw [e]))]
theorem Eqv.put (h : Eqv σ σ') (d : Option Nat) (ex : Bool) (x : Sl) (obs : List O) : Eqv (σ.put d ex x obs) (σ'.put d ex x obs) := by
  refine ⟨by rw [put_n', put_n', h.1], by rw [put_obs', put_obs'], fun s => ?_⟩
  cases d with
  | none => exact h.2.2 s
  | some d => rw [look_put, look_put, h.2.2 s]
theorem put_swap {d d' : Option Nat} (hd : d = none ∨ d ≠ d') (ex ex' : Bool) (x x' : Sl) (o1 obs : List O) :
    Eqv ((σ.put d ex x o1).put d' ex' x' obs) ((σ.put d' ex' x' obs).put d ex x obs) := by
  refine ⟨by simp [put_n'], by simp [put_obs'], fun s => ?_⟩
  cases d with
  | none => cases d' <;> rfl
  | some d =>
    cases d' with
    | none => rfl
    | some d' =>
      rw [look_put, look_put, look_put, look_put]
      have hne : d ≠ d' := by
        rcases hd with h | h
        · cases h
        · exact fun e => h (by rw [e])
      by_cases h1 : s = d'
      · subst h1
        rw [if_pos rfl, if_neg (Ne.symm hne), if_pos rfl]
      · rw [if_neg h1, if_neg h1]

theorem gex_agree {ds : List (Option Nat)} {g : Option (Nat × Bool)} (h : Agree (gReads ds g) σ σ') : gex ds σ g = gex ds σ' g := by
  cases g with
  | none => rfl
  | some q =>
    obtain ⟨j, b⟩ := q
    simp only [gex]
    cases hs : slotOf ds j with
    | none => rfl
    | some d => simp only [h d (by simp [gReads, hs])]

theorem callee_reads {op : Op} {f : FuncId} {args : List Operand} (h : calleeOf op = some (f, args)) : opReads op = opndL args := by
  obtain ⟨ts, rfl⟩ := calleeOf_op h
  simp [opReads]

theorem aone_mono {o : Oper} {K K' : St → Prop} (hk : ∀ σ, K σ → K' σ) (h : aone C rg o σ K) : aone C rg o σ K' := by
  unfold aone at *
  refine ⟨h.1, ?_⟩
  have h := h.2
  split
  · rename_i hg
    rw [hg] at h
    simp only at h
    split
    · rename_i f args hc
      rw [hc] at h
      exact ⟨h.1, h.2.mono fun x o hh => ⟨hh.1, hk _ hh.2⟩⟩
    · rename_i hc
      rw [hc] at h
      simp only at h
      split <;> rename_i hs <;> rw [hs] at h
      · exact h
      · exact ⟨h.1, h.2.1, hk _ h.2.2⟩
      · exact ⟨h.1, h.2.1, h.2.2.1, hk _ h.2.2.2⟩
      · exact ⟨h.1, fun l hl => hk _ (h.2 l hl)⟩
  · rename_i g hg
    rw [hg] at h
    simp only at h
    split
    · rename_i hx; rw [hx] at h; exact h
    · rename_i ex hx
      rw [hx] at h
      simp only at h
      split
      · rename_i f args hc
        rw [hc] at h
        exact ⟨h.1, h.2.mono (fun x hx => hk _ hx) (fun x o hx => ⟨hx.1, hk _ hx.2⟩)⟩
      · rename_i hc
        rw [hc] at h
        simp only at h
        split
        · rename_i hr
          rw [if_pos hr] at h
          split <;> rename_i hs
          · rw [hs] at h; exact ⟨h.1, hk _ h.2⟩
          · split at h <;> first | exact h | (rename_i h2; exact absurd h2 (hs _ _ _))
        · rename_i hr; rw [if_neg hr] at h; exact h

def keepOp (op : Op) : Bool :=
  (calleeOf op).isSome || match op with
    | .makeSlice _ _ _ => true
    | _ => false

/-- What an operation leaves as it was. -/
structure Left (rg : Rg) (σ σ2 : St) (o : Oper) : Prop where
  n : σ2.n = σ.n
  fr : ∀ s, o.dst ≠ some s → look s σ2.fr = look s σ.fr
  ro : roOp o.op = true → σ2.obs = σ.obs
  keep : rg.kp = true → keepOp o.op = true → Keeps σ.obs σ2.obs

theorem Left.put {o : Oper} {ex : Bool} {x : Sl} {obs : List O} (h1 : roOp o.op = true → obs = σ.obs) (h2 : rg.kp = true → keepOp o.op = true → Keeps σ.obs obs) : Left rg σ (σ.put o.dst ex x obs) o :=
  ⟨put_n' .., fun _ hs => look_put_ne hs, fun h => by rw [put_obs']; exact h1 h, fun h k => by rw [put_obs']; exact h2 h k⟩

theorem ro_not_call {op : Op} {f : FuncId} {args : List Operand} (hc : calleeOf op = some (f, args)) : ¬ roOp op = true := fun h => by rw [ro_callee h] at hc; cases hc

theorem Keeps.refl (obs : List O) : Keeps obs obs := fun _ _ h => h
theorem Keeps.app (obs l : List O) : Keeps obs (obs ++ l) := fun id o h => by
  rw [List.getElem?_append_left (List.getElem?_eq_some_iff.1 h).1]; exact h

theorem keep_make {op : Op} (hk : keepOp op = true) (hc : calleeOf op = none) {vc : Prop} {x : AV} {ob : List O} (hs : astep C σ op = .ok vc x ob) : Keeps σ.obs ob := by
  simp only [keepOp, hc, Option.isSome_none, Bool.false_or] at hk
  cases op <;> first | (cases hk; done) | skip
  simp only [astep] at hs
  unfold makeV at hs
  split at hs
  · cases hs; exact Keeps.app _ _
  · split at hs
    · cases hs; exact Keeps.app _ _
    · cases hs
  · cases hs
theorem keep_not_skip {op : Op} (hk : keepOp op = true) (hc : calleeOf op = none) {vc : Prop} {ob : List O} (hs : astep C σ op = .skip vc ob) : False := by
  simp only [keepOp, hc, Option.isSome_none, Bool.false_or] at hk
  cases op <;> first | (cases hk; done) | skip
  exact (makeV_shape _ _ _ _).1 _ _ hs
theorem keep_not_all {op : Op} (hk : keepOp op = true) (hc : calleeOf op = none) {p : Nat → Prop} {x : AV} {ob : Nat → List O} (hs : astep C σ op = .all p x ob) : False := by
  simp only [keepOp, hc, Option.isSome_none, Bool.false_or] at hk
  cases op <;> first | (cases hk; done) | skip
  exact (makeV_shape _ _ _ _).2 _ _ _ hs

/-- The frame rule of one operation. -/
theorem aone_frame {o : Oper} {d : Option Nat} {ex : Bool} {x : Sl} (h1 : ∀ s ∈ reads rg.ds o, d ≠ some s) (h2 : d = none ∨ d ≠ o.dst) {K : St → Prop} (hK : Resp K) (h : aone C rg o (σ.put d ex x σ.obs) K) :
    aone C rg o σ fun σ2 => Left rg σ σ2 o ∧ K (σ2.put d ex x σ2.obs) := by
  have hag : Agree (reads rg.ds o) (σ.put d ex x σ.obs) σ := fun s hs => look_put_ne (h1 s hs)
  have hob : (σ.put d ex x σ.obs).obs = σ.obs := put_obs' ..
  have hgx := gex_agree (ds := rg.ds) hag.right
  have has := hasAll_agree (op := o.op) hag.left
  have hst := astep_agree (C := C) (op := o.op) hag.left hob
  have swap : ∀ (ex' : Bool) (x' : Sl) (obs : List O), K ((σ.put d ex x σ.obs).put o.dst ex' x' obs) → K ((σ.put o.dst ex' x' obs).put d ex x (σ.put o.dst ex' x' obs).obs) := fun ex' x' obs hk => by
    rw [put_obs']
    exact hK _ _ (put_swap h2 ..) hk
  unfold aone at *
  refine ⟨by rw [← put_n' σ d ex x σ.obs]; exact h.1, ?_⟩
  have h := h.2
  rw [hob] at h
  split
  · rename_i hg
    rw [hg] at h
    simp only at h
    split
    · rename_i f args hc
      rw [hc] at h
      simp only at h
      have hr := callee_reads hc
      have he : args.map (σ.put d ex x σ.obs).ev = args.map σ.ev := by
        rw [← evL_eq, ← evL_eq]
        exact evL_agree (by rw [← hr]; exact hag.left)
      have hh : (∀ y ∈ args, (σ.put d ex x σ.obs).has y) = ∀ y ∈ args, σ.has y := by
        rw [← hasL_eq, ← hasL_eq]
        exact hasL_agree (by rw [← hr]; exact hag.left)
      rw [he, hh] at h
      exact ⟨h.1, h.2.mono fun y ob hy => ⟨hy.1, Left.put (fun k => absurd k (ro_not_call hc)) (fun k _ => hy.1 k), swap _ _ _ hy.2⟩⟩
    · rename_i hc
      rw [hc] at h
      simp only at h
      rw [hst, has] at h
      simp only [mvS_agree hag.left] at h
      split <;> rename_i hs <;> rw [hs] at h
      · exact h
      · exact ⟨h.1, h.2.1, Left.put (fun k => roOp_obs k hs) (fun _ k => keep_make k hc hs), swap _ _ _ h.2.2⟩
      · rename_i vc ob
        obtain ⟨a1, a2, a3, a4⟩ := h
        refine ⟨a1, a2, a3, ?_, ?_⟩
        · have := Left.put (rg := rg) (σ := σ) (o := o) (ex := true) (x := .v .junk) (obs := ob) (fun k => by have := ro_plain (C := C) (σ := σ) k; rw [hs] at this; exact this.elim) (fun _ k => (keep_not_skip k hc hs).elim)
          rw [a3] at this
          exact this
        · have := swap true (.v .junk) ob (by rw [a3]; exact a4)
          rw [a3] at this
          exact this
      · exact ⟨h.1, fun l hl => ⟨Left.put (fun k => by have := ro_plain (C := C) (σ := σ) k; rw [hs] at this; exact this.elim) (fun _ k => (keep_not_all k hc hs).elim), swap _ _ _ (h.2 l hl)⟩⟩
  · rename_i g hg
    rw [hg] at h hgx
    simp only at h
    rw [hgx] at h
    split
    · rename_i hx; rw [hx] at h; exact h
    · rename_i ex' hx
      rw [hx] at h
      simp only at h
      split
      · rename_i f args hc
        rw [hc] at h
        simp only at h
        have hr := callee_reads hc
        have he : args.map (σ.put d ex x σ.obs).ev = args.map σ.ev := by
          rw [← evL_eq, ← evL_eq]
          exact evL_agree (by rw [← hr]; exact hag.left)
        have hh : (∀ y ∈ args, (σ.put d ex x σ.obs).has y) = ∀ y ∈ args, σ.has y := by
          rw [← hasL_eq, ← hasL_eq]
          exact hasL_agree (by rw [← hr]; exact hag.left)
        rw [he, hh] at h
        exact ⟨h.1, h.2.mono (fun y hy => ⟨Left.put (fun _ => rfl) (fun _ _ => Keeps.refl _), swap _ _ _ hy⟩) (fun y ob hy => ⟨hy.1, Left.put (fun k => absurd k (ro_not_call hc)) (fun k _ => hy.1 k), swap _ _ _ hy.2⟩)⟩
      · rename_i hc
        rw [hc] at h
        simp only at h
        split
        · rename_i hr
          rw [if_pos hr, hst, has] at h
          split <;> rename_i hs
          · rw [hs] at h; exact ⟨h.1, Left.put (fun _ => rfl) (fun _ _ => Keeps.refl _), swap _ _ _ h.2⟩
          · split at h <;> first | exact h | (rename_i h2; exact absurd h2 (hs _ _ _))
        · rename_i hr; rw [if_neg hr] at h; exact h

theorem RO.move {o : Oper} {ex : Bool} {x : Sl} (h : RO C rg o σ ex x) (hr : roOp o.op = true) (hn : σ'.n = σ.n) (ha : Agree (reads rg.ds o) σ σ') (hc : pureOp o.op = true ∨ Keeps σ.obs σ'.obs) : RO C rg o σ' ex x := by
  obtain ⟨h1, h2, vc, ob, y, h3, h4, h5⟩ := h
  refine ⟨by rw [hn]; exact h1, by rw [← gex_agree ha.right]; exact h2, vc, σ'.obs, y, ?_, by rw [← hasAll_agree ha.left]; exact h4, by rw [h5]; exact roS_agree ha.left y⟩
  have e : astep C σ o.op = astep C ⟨σ'.n, σ'.fr, σ.obs⟩ o.op := astep_agree (σ := σ) (σ' := ⟨σ'.n, σ'.fr, σ.obs⟩) (fun s hs => ha.left s hs) rfl
  rw [e] at h3
  rcases hc with hp | hk
  · have := astep_pure (C := C) hp σ'.n σ'.fr σ.obs σ'.obs
    rw [h3] at this
    exact this
  · exact astep_keeps hr hk h3

/-- Two operations that may change places: the first of the two only reads. -/
structure MaySwap (rg : Rg) (i j : Oper) : Prop where
  ro : roOp i.op = true
  a1 : ∀ s ∈ reads rg.ds j, i.dst ≠ some s
  a2 : ∀ s ∈ reads rg.ds i, j.dst ≠ some s
  a3 : i.dst = none ∨ i.dst ≠ j.dst
  c : roOp j.op = true ∨ pureOp i.op = true ∨ (rg.kp = true ∧ keepOp j.op = true)

theorem aone_swap {i j : Oper} (m : MaySwap rg i j) {K : St → Prop} (hK : Resp K) (h : aone C rg i σ fun σ1 => aone C rg j σ1 K) : aone C rg j σ fun σ2 => aone C rg i σ2 K := by
  obtain ⟨ex, x, hro, hk⟩ := ro_of_aone m.ro h
  refine aone_mono (fun σ2 h2 => ?_) (aone_frame m.a1 m.a3 hK hk)
  obtain ⟨hl, hk2⟩ := h2
  refine aone_of_ro m.ro (hro.move m.ro hl.n (fun s hs => (hl.fr s (m.a2 s hs)).symm) ?_) hk2
  rcases m.c with c | c | c
  · right; rw [hl.ro c]; exact Keeps.refl _
  · exact .inl c
  · exact .inr (hl.keep c.1 c.2)

theorem aone_resp {o : Oper} {K : St → Prop} (hK : Resp K) : Resp (fun σ => aone C rg o σ K) := by
  intro σ σ' he h
  have hag : Agree (reads rg.ds o) σ σ' := he.agree _
  have hgx := gex_agree (ds := rg.ds) hag.right
  have has := hasAll_agree (op := o.op) hag.left
  have hst := astep_agree (C := C) (op := o.op) hag.left he.2.1
  have swap : ∀ (d : Option Nat) (ex' : Bool) (x' : Sl) (obs : List O), K (σ.put d ex' x' obs) → K (σ'.put d ex' x' obs) := fun d ex' x' obs hk => hK _ _ (he.put ..) hk
  simp only [aone] at *
  rw [← he.1]
  refine ⟨h.1, ?_⟩
  have h := h.2
  rw [← he.2.1]
  split
  · rename_i hg
    rw [hg] at h
    simp only at h
    split
    · rename_i f args hc
      rw [hc] at h
      simp only at h
      have hr := callee_reads hc
      have hev : args.map σ.ev = args.map σ'.ev := by
        rw [← evL_eq, ← evL_eq]
        exact evL_agree (by rw [← hr]; exact hag.left)
      have hh : (∀ y ∈ args, σ.has y) = ∀ y ∈ args, σ'.has y := by
        rw [← hasL_eq, ← hasL_eq]
        exact hasL_agree (by rw [← hr]; exact hag.left)
      rw [hev, hh] at h
      exact ⟨h.1, h.2.mono fun y ob hy => ⟨hy.1, swap _ _ _ _ hy.2⟩⟩
    · rename_i hc
      rw [hc] at h
      simp only at h
      rw [hst, has] at h
      simp only [mvS_agree hag.left] at h
      split <;> rename_i hs <;> rw [hs] at h
      · exact h
      · exact ⟨h.1, h.2.1, swap _ _ _ _ h.2.2⟩
      · exact ⟨h.1, h.2.1, h.2.2.1, swap _ _ _ _ h.2.2.2⟩
      · exact ⟨h.1, fun l hl => swap _ _ _ _ (h.2 l hl)⟩
  · rename_i g hg
    rw [hg] at h hgx
    simp only at h
    rw [hgx] at h
    split
    · rename_i hx; rw [hx] at h; exact h
    · rename_i ex' hx
      rw [hx] at h
      simp only at h
      split
      · rename_i f args hc
        rw [hc] at h
        simp only at h
        have hr := callee_reads hc
        have hev : args.map σ.ev = args.map σ'.ev := by
          rw [← evL_eq, ← evL_eq]
          exact evL_agree (by rw [← hr]; exact hag.left)
        have hh : (∀ y ∈ args, σ.has y) = ∀ y ∈ args, σ'.has y := by
          rw [← hasL_eq, ← hasL_eq]
          exact hasL_agree (by rw [← hr]; exact hag.left)
        rw [hev, hh] at h
        exact ⟨h.1, h.2.mono (fun y hy => swap _ _ _ _ hy) (fun y ob hy => ⟨hy.1, swap _ _ _ _ hy.2⟩)⟩
      · rename_i hc
        rw [hc] at h
        simp only at h
        split
        · rename_i hr
          rw [if_pos hr, hst, has] at h
          split <;> rename_i hs
          · rw [hs] at h; exact ⟨h.1, swap _ _ _ _ h.2⟩
          · split at h <;> first | exact h | (rename_i h2; exact absurd h2 (hs _ _ _))
        · rename_i hr; rw [if_neg hr] at h; exact h

theorem aexec_resp {K : St → Prop} (hK : Resp K) : ∀ l : List Oper, Resp (fun σ => aexec C rg l σ K)
  | [] => hK
  | o :: l => aone_resp (aexec_resp hK l)

/-- An operation is taken to the front. -/
theorem aexec_front {K : St → Prop} (hK : Resp K) {o : Oper} {c2 : List Oper} : ∀ {c1 : List Oper}, (∀ x ∈ c1, MaySwap rg x o) → ∀ {σ : St}, aexec C rg (c1 ++ o :: c2) σ K → aexec C rg (o :: (c1 ++ c2)) σ K
  | [], _, _, h => h
  | x :: c1, hm, σ, h => by
    have h1 : aone C rg x σ fun σ1 => aexec C rg (o :: (c1 ++ c2)) σ1 K := aone_mono (fun σ1 h1 => aexec_front hK (fun y hy => hm y (List.mem_cons_of_mem _ hy)) h1) h
    exact aone_swap (hm x List.mem_cons_self) (aexec_resp hK (c1 ++ c2)) h1

end
end Go.Aw

/- A region that draws its order: the rule of the walk. -/
namespace Go.Aw
open Go

def edgesOf (o : Oper) : List Nat := (o.after.toList.filter (Region.binds .any)).map (·.on)
def edgesAt (l : List Oper) (i : Nat) : List Nat := match l[i]? with
  | some o => edgesOf o
  | none => []

/-- x comes before i by the edges. -/
def pathB (l : List Oper) : Nat → Nat → Nat → Bool
  | 0, _, _ => false
  | f + 1, x, i => (edgesAt l i).any fun y => y == x || pathB l f x y

def disj (d : Option Nat) (L : List Nat) : Bool := match d with
  | some d => !L.contains d
  | none => true
def maySwapB (rg : Rg) (i j : Oper) : Bool :=
  roOp i.op && disj i.dst (reads rg.ds j) && disj j.dst (reads rg.ds i) && (i.dst == none || i.dst != j.dst) && (roOp j.op || pureOp i.op || (rg.kp && keepOp j.op))
def swapAt (rg : Rg) (l : List Oper) (x i : Nat) : Bool := match l[x]?, l[i]? with
  | some a, some b => maySwapB rg a b
  | _, _ => false
def pwB (f : Nat → Nat → Bool) : List Nat → Bool
  | [] => true
  | x :: r => r.all (f x) && pwB f r
def pairB (kp : Bool) (l : List Oper) (x i : Nat) : Bool := (pathB l l.length x i || swapAt ⟨l.map (·.dst), kp⟩ l x i) && (!(edgesAt l x).contains i) && (x != i)
/-- What is checked of a region and of an order of its operations. -/
def ordOK (kp : Bool) (l : List Oper) (c : List Nat) : Bool :=
  pwB (pairB kp l) c && c.all (fun x => decide (x < l.length) && (edgesAt l x).all fun y => decide (y < l.length) && y != x) && (List.range l.length).all fun i => c.contains i

theorem pwB_pw {f : Nat → Nat → Bool} : ∀ {l : List Nat}, pwB f l = true → l.Pairwise fun x y => f x y = true
  | [], _ => .nil
  | x :: r, h => by
    simp only [pwB, Bool.and_eq_true, List.all_eq_true] at h
    exact .cons h.1 (pwB_pw h.2)

theorem disj_spec {d : Option Nat} {L : List Nat} (h : disj d L = true) : ∀ s ∈ L, d ≠ some s := by
  intro s hs e
  subst e
  simp [disj, hs] at h

theorem maySwapB_spec {rg : Rg} {i j : Oper} (h : maySwapB rg i j = true) : MaySwap rg i j := by
  simp only [maySwapB, Bool.and_eq_true, Bool.or_eq_true, beq_iff_eq, bne_iff_ne] at h
  obtain ⟨⟨⟨⟨h1, h2⟩, h3⟩, h4⟩, h5⟩ := h
  refine ⟨h1, disj_spec h2, disj_spec h3, ?_, ?_⟩
  · exact h4
  · rcases h5 with (h | h) | h
    · exact .inl h
    · exact .inr (.inl h)
    · exact .inr (.inr h)

def nthO : List Oper → Nat → Oper
  | [], _ => ⟨none, .move (.func 0), 0, "", #[], none⟩
  | o :: r, i => bif i == 0 then o else nthO r (i - 1)
def pickO (l : List Oper) : List Nat → List Oper
  | [] => []
  | i :: c => nthO l i :: pickO l c
theorem nthO_eq : ∀ {l : List Oper} {i : Nat} {o : Oper}, l[i]? = some o → nthO l i = o
  | [], _, _, h => by simp at h
  | o :: r, i, p, h => by
    cases i with
    | zero => simpa [nthO] using h
    | succ i => simpa [nthO] using nthO_eq (l := r) (i := i) (by simpa using h)
theorem nthO_cons (o : Oper) (r : List Oper) (i : Nat) : nthO (o :: r) i = bif i == 0 then o else nthO r (i - 1) := rfl
theorem pickO_nil (l : List Oper) : pickO l [] = [] := rfl
theorem pickO_cons (l : List Oper) (i : Nat) (c : List Nat) : pickO l (i :: c) = nthO l i :: pickO l c := rfl

section
variable {C : Ctx} {l : List Oper} {kp : Bool}

/-- What is known of the order that is left: c. -/
structure LeftOk (kp : Bool) (l : List Oper) (c : List Nat) (listed : Array Bool) : Prop where
  pw : c.Pairwise fun x y => pairB kp l x y = true
  lt : ∀ x ∈ c, x < l.length
  ed : ∀ x ∈ c, ∀ y ∈ edgesAt l x, y < l.length ∧ y ≠ x
  size : listed.size = l.length
  un : ∀ i, listed.getD i true = false ↔ i ∈ c
  closed : ∀ i, listed.getD i false = true → ∀ y ∈ edgesAt l i, listed.getD y false = true

theorem listed_not {listed : Array Bool} {i : Nat} (h1 : listed.getD i false = true) (h2 : listed.getD i true = false) : False := by
  rcases Nat.lt_or_ge i listed.size with h | h
  · simp [h] at h1 h2; rw [h1] at h2; cases h2
  · simp [Array.getElem?_eq_none h] at h1

theorem path_listed {listed : Array Bool} (hc : ∀ i, listed.getD i false = true → ∀ y ∈ edgesAt l i, listed.getD y false = true) : ∀ (f x i : Nat), pathB l f x i = true → (∀ y ∈ edgesAt l i, listed.getD y false = true) → listed.getD x false = true
  | 0, _, _, h, _ => by simp [pathB] at h
  | f + 1, x, i, h, hi => by
    simp only [pathB, List.any_eq_true, Bool.or_eq_true, beq_iff_eq] at h
    obtain ⟨y, hy, h⟩ := h
    rcases h with rfl | h
    · exact hi _ hy
    · exact path_listed hc f x y h (hc y (hi y hy))

theorem ready_edges {listed : Array Bool} {i : Nat} (h : i ∈ Region.ready .any l.toArray listed) : listed.getD i true = false ∧ ∀ y ∈ edgesAt l i, listed.getD y false = true := by
  obtain ⟨h1, o, ho, hall⟩ := mem_ready.1 h
  refine ⟨h1, fun y hy => ?_⟩
  rw [List.getElem?_toArray] at ho
  simp only [edgesAt, ho, edgesOf, List.mem_map, List.mem_filter] at hy
  obtain ⟨e, ⟨he, hb⟩, rfl⟩ := hy
  exact hall e (by simpa using he) hb

theorem edges_ready {listed : Array Bool} {i : Nat} (hi : i < l.length) (h1 : listed.getD i true = false) (h2 : ∀ y ∈ edgesAt l i, listed.getD y false = true) : i ∈ Region.ready .any l.toArray listed := by
  refine mem_ready.2 ⟨h1, l[i], by rw [List.getElem?_toArray]; exact List.getElem?_eq_getElem hi, fun e he hb => h2 e.on ?_⟩
  simp only [edgesAt, List.getElem?_eq_getElem hi, edgesOf, List.mem_map, List.mem_filter]
  exact ⟨e, ⟨by simpa using he, hb⟩, rfl⟩

theorem any_of_aexec (hC : C.Ok) {K : St → Prop} (hK : Resp K) {Q : Exit → Act → World → Prop} (hQ : ∀ σ' a' w' ρ', K σ' → Rel C σ' a' w' ρ' → Q .normal a' w') :
    ∀ (m : Nat) (c : List Nat) (listed : Array Bool) (σ : St) (a : Act) (w : World) (ρ : Nat → Value), c.length = m → LeftOk kp l c listed →
      aexec C ⟨l.map (·.dst), kp⟩ (pickO l c) σ K → Rel C σ a w ρ → wpAny C.P .any l.toArray Q m listed a w
  | 0, c, listed, σ, a, w, ρ, hm, hl, h, r => by
    have hc : c = [] := List.eq_nil_of_length_eq_zero hm
    subst hc
    refine ⟨?_, hQ σ a w ρ h r⟩
    apply List.eq_nil_iff_forall_not_mem.2
    intro i hi
    have := (hl.un i).1 (ready_edges hi).1
    simp at this
  | m + 1, c, listed, σ, a, w, ρ, hm, hl, h, r => by
    refine ⟨fun hr => ?_, fun i hi => ?_⟩
    · exfalso
      match c, hm with
      | x :: c', _ =>
        have hx : x ∈ Region.ready .any l.toArray listed := by
          refine edges_ready (hl.lt x List.mem_cons_self) ((hl.un x).2 List.mem_cons_self) fun y hy => ?_
          obtain ⟨h1, h2⟩ := hl.ed x List.mem_cons_self y hy
          have hnc : y ∉ x :: c' := by
            intro hm
            rcases List.mem_cons.1 hm with e | hm
            · exact h2 e
            · have := (List.pairwise_cons.1 hl.pw).1 y hm
              simp [pairB] at this
              exact this.1.2 hy
          have h3 : ¬ listed.getD y true = false := fun e => hnc ((hl.un y).1 e)
          have hlt : y < listed.size := by rw [hl.size]; exact h1
          simp [hlt] at h3 ⊢
          exact h3
        rw [hr] at hx
        cases hx
    · obtain ⟨hi1, hi2⟩ := ready_edges hi
      have hic := (hl.un i).1 hi1
      obtain ⟨c1, c2, rfl⟩ := List.append_of_mem hic
      have hlt := hl.lt i hic
      have hget : l[i]? = some l[i] := List.getElem?_eq_getElem hlt
      have hsub : (c1 ++ c2).Sublist (c1 ++ i :: c2) := List.Sublist.append_left (List.sublist_cons_self i c2) c1
      have hpw := hl.pw
      rw [List.pairwise_append] at hpw
      obtain ⟨p1, p2, p3⟩ := hpw
      have hpick : ∀ c1 : List Nat, pickO l (c1 ++ i :: c2) = pickO l c1 ++ l[i] :: pickO l c2 := by
        intro c1
        induction c1 with
        | nil => simp only [List.nil_append, pickO, nthO_eq hget]
        | cons x c1 ih => simp only [List.cons_append, pickO, ih]
      have hpick2 : ∀ c1 : List Nat, pickO l c1 ++ pickO l c2 = pickO l (c1 ++ c2) := by
        intro c1
        induction c1 with
        | nil => rfl
        | cons x c1 ih => simp only [List.cons_append, pickO, ih]
      rw [hpick] at h
      have hmem : ∀ o ∈ pickO l c1, ∃ x ∈ c1, l[x]? = some o := by
        have : ∀ c : List Nat, (∀ x ∈ c, x < l.length) → ∀ o ∈ pickO l c, ∃ x ∈ c, l[x]? = some o := by
          intro c
          induction c with
          | nil => intro _ o ho; simp [pickO] at ho
          | cons x c ih =>
            intro hx o ho
            simp only [pickO, List.mem_cons] at ho
            rcases ho with e | ho
            · refine ⟨x, List.mem_cons_self, ?_⟩
              have := List.getElem?_eq_getElem (hx x List.mem_cons_self)
              rw [e, nthO_eq this]; exact this
            · obtain ⟨y, hy, h'⟩ := ih (fun z hz => hx z (List.mem_cons_of_mem _ hz)) o ho
              exact ⟨y, List.mem_cons_of_mem _ hy, h'⟩
        exact this c1 fun x hx => hl.lt x (List.mem_append_left _ hx)
      have hsw : ∀ o ∈ pickO l c1, MaySwap ⟨l.map (·.dst), kp⟩ o l[i] := by
        intro o ho
        obtain ⟨x, hx, hxo⟩ := hmem o ho
        have hp := p3 x hx i List.mem_cons_self
        simp only [pairB, Bool.and_eq_true, Bool.or_eq_true] at hp
        rcases hp.1.1 with hp | hp
        · exact (listed_not (path_listed hl.closed _ x i hp hi2) ((hl.un x).2 (List.mem_append_left _ hx))).elim
        · simp only [swapAt, hxo, hget] at hp
          exact maySwapB_spec hp
      have h2 := aexec_front hK hsw h
      refine aone_wp hC (K2 := wpAny C.P .any l.toArray Q m (listed.setIfInBounds i true)) (fun σ' a' w' ρ' h' r' => ?_) hget h2 r
      rw [hpick2] at h'
      have hil : i < listed.size := by rw [hl.size]; exact hlt
      refine any_of_aexec hC hK hQ m (c1 ++ c2) (listed.setIfInBounds i true) σ' a' w' ρ' ?_ ⟨hl.pw.sublist hsub, fun x hx => hl.lt x (hsub.subset hx), fun x hx => hl.ed x (hsub.subset hx), by rw [Array.size_setIfInBounds]; exact hl.size, fun j => ?_, fun j hj y hy => ?_⟩ h' r'
      · simp at hm ⊢; omega
      · by_cases hij : i = j
        · subst hij
          have hno : i ∉ c1 ++ c2 := by
            intro hmm
            rcases List.mem_append.1 hmm with k | k
            · have := p3 i k i List.mem_cons_self
              simp [pairB] at this
            · have := (List.pairwise_cons.1 p2).1 i k
              simp [pairB] at this
          simp [hil, hno]
        · rw [getD_set_ne true hij, hl.un j]
          simp only [List.mem_append, List.mem_cons]
          constructor
          · rintro (h | h | h)
            · exact .inl h
            · exact absurd h.symm hij
            · exact .inr h
          · rintro (h | h)
            · exact .inl h
            · exact .inr (.inr h)
      · by_cases hij : i = j
        · subst hij
          exact getD_set_true (hi2 y hy)
        · rw [getD_set_ne false hij] at hj
          exact getD_set_true (hl.closed j hj y hy)

theorem Run.resp {k : List Item} : Resp (Run C k) := by
  intro σ σ' he h a w ρ r b cs
  exact h a w ρ ⟨r.defers, r.size.trans he.1.symm, fun s ex x hs => by
    rw [he.2.2 s] at hs
    rw [he.2.1]
    exact r.fr s ex x hs, by rw [he.2.1]; exact r.w, by rw [he.2.1]; exact r.pin⟩ b cs

theorem Run.regionD (hC : C.Ok) (kp : Bool) (c : List Nat) {k : List Item} {σ : St} {id : Nat} {l : List Oper} (hB : ordOK kp l c = true)
    (h : ∀ K : St → Prop, (∀ σ', Run C k σ' → K σ') → aexec C ⟨dstL l, kp⟩ (pickO l c) σ K) : Run C (.code (.region id l.toArray true) :: k) σ := by
  intro a w ρ r b cs
  have h1 := h (fun σ' => Run C k σ') (fun _ hr => hr)
  rw [dstL_eq] at h1
  simp only [ordOK, Bool.and_eq_true, List.all_eq_true, List.mem_range] at hB
  obtain ⟨⟨hp, ha⟩, hr⟩ := hB
  have hcl : c.length = l.length := by
    have hpw := pwB_pw hp
    have hnd : c.Nodup := hpw.imp (fun {x y} h => by simp [pairB] at h; exact h.2)
    have hperm : c.Perm (List.range l.length) := by
      refine (List.perm_ext_iff_of_nodup hnd List.nodup_range).2 fun i => ?_
      rw [List.mem_range]
      constructor
      · intro hi
        have := ha i hi
        simp at this
        exact this.1
      · intro hi
        simpa using hr i hi
    simpa using hperm.length_eq
  have hst : Step C w { w with drawn := w.drawn + 1 } σ.obs σ.obs ρ ρ := (Turn.none r.w (Ext.drew _ w)).step r.w
  have hrel : Rel C σ a { w with drawn := w.drawn + 1 } ρ := hst.rel r
  have hw : (Code.region id l.toArray true).wp C.P (fun e a' w' => e = .normal ∧ ∃ σ' ρ', Run C k σ' ∧ Rel C σ' a' w' ρ') a w := by
    refine wp_region_any hC.mixed ?_
    simp only [List.size_toArray]
    refine any_of_aexec (kp := kp) hC Run.resp (fun σ' a' w' ρ' hk hr => ⟨rfl, σ', ρ', hk, hr⟩) l.length c (Array.replicate l.length false) σ a _ ρ hcl ⟨pwB_pw hp, fun x hx => ?_, fun x hx y hy => ?_, by simp, fun i => ?_, fun i hi => ?_⟩ h1 hrel
    · have := ha x hx; simp at this; exact this.1
    · have := ha x hx; simp at this; exact this.2 y hy
    · rcases Nat.lt_or_ge i l.length with hi | hi
      · have := hr i hi
        simp at this
        simp [hi, this]
      · simp [hi]
        intro hic
        have := ha i hic
        simp at this
        omega
    · rcases Nat.lt_or_ge i l.length with hh | hh
      · simp [hh] at hi
      · simp [hh] at hi
  obtain ⟨e, a', w', ⟨rfl, σ', ρ', hk, hr⟩, harr⟩ := hw b k cs
  obtain ⟨e2, a2, w2, hp, harr2⟩ := hk a' w' ρ' hr b cs
  exact ⟨e2, a2, w2, hp, .of_steps harr harr2⟩

end

/-- Contracts, used at a call: behind it the walk goes on. -/
theorem FunA.callW {B C : Ctx} (hP : B.P = C.P) (hT : B.tid = C.tid) {f : FuncId} {args0 : List AV} {post : List AV → List O → Prop} (h : FunA B f args0 post) {obs : List O} {args : List AV} (ha : argsOk obs args args0)
    {K : Sl → List O → Prop} (hk : ∀ xs obs', post xs obs' → K (resSl obs.length xs) (obs ++ obs')) : ACall C obs f args fun x o => Later (K x o) := FunA.call hP hT h ha hk
theorem FunA.callD {B C : Ctx} (hP : B.P = C.P) (hT : B.tid = C.tid) {f : FuncId} {args0 : List AV} {post : List AV → List O → Prop} (h : FunA B f args0 post) {obs : List O} {args : List AV} (ha : argsOk obs args args0)
    {K : Sl → List O → Prop} (hk : ∀ xs obs', post xs obs' → K (resSl obs.length xs) (obs ++ obs')) : ACall C obs f args fun x o => Keeps obs o ∧ Later (K x o) := FunA.call hP hT h ha fun xs obs' hp => ⟨Keeps.app _ _, hk xs obs' hp⟩
theorem argsOk_nil (obs : List O) : argsOk obs [] [] = True := rfl
theorem argsOk_cons (obs : List O) (x y : AV) (l r : List AV) : argsOk obs (x :: l) (y :: r) = (argOk obs x y ∧ argsOk obs l r) := rfl
theorem argOk_int (obs : List O) (x : AV) (k : IntKind) (n : Int) : argOk obs x (.int k n) = (x = .int k n) := by cases x <;> rfl
theorem argOk_bool (obs : List O) (x : AV) (n : Bool) : argOk obs x (.bool n) = (x = .bool n) := by cases x <;> rfl
theorem argOk_str (obs : List O) (x : AV) (n : List UInt8) : argOk obs x (.str n) = (x = .str n) := by cases x <;> rfl
theorem argOk_fn (obs : List O) (x : AV) (n : Nat) : argOk obs x (.fn n) = (x = .fn n) := by cases x <;> rfl
theorem argOk_vec (obs : List O) (x : AV) (n : List Int) : argOk obs x (.vec n) = (x = .vec n) := by cases x <;> rfl
theorem argOk_nil (obs : List O) (x : AV) : argOk obs x .nils = (x = .nils) := by cases x <;> rfl
theorem argOk_sl (obs : List O) (f : Bool) (e e' : E) (xs : List e.D) (ys : List e'.D) : argOk obs (.sl f e' ys) (.sl false e xs) = convV e e' ys xs := rfl
theorem argOk_lr (obs : List O) (e : E) (xs : List e.D) (l : Nat) (ys : List Int) : argOk obs (.lr l ys) (.sl false e xs) = convV e .int ys xs := rfl
theorem argOk_nils (obs : List O) (e : E) (xs : List e.D) : argOk obs .nils (.sl false e xs) = (xs = []) := rfl
def argO (g : Nat) (e : E) (xs : List e.D) : O → Prop
  | .arr e' ys g' _ => g = g' ∧ convV e e' ys xs
  | .mat _ rows g' _ => g = g' ∧ e = .row false ∧ convV e (.row false) rows xs
  | .dead => False
theorem argOk_own (obs : List O) (e : E) (xs : List e.D) (id g : Nat) : argOk obs (.own id g) (.sl false e xs) = argO g e xs (oAt obs id) := by
  rw [at_arr]
  simp only [argOk]
  cases h : obs[id]? with
  | none => simp [argO]
  | some o => cases o <;> rfl
theorem argO_arr (g g' : Nat) (e e' : E) (xs : List e.D) (ys : List e'.D) (nn : Bool) : argO g e xs (.arr e' ys g' nn) = (g = g' ∧ convV e e' ys xs) := rfl
theorem argO_mat (g g' : Nat) (e : E) (xs : List e.D) (hs : List (Option Nat)) (rows : List (List Int)) (nn : Bool) : argO g e xs (.mat hs rows g' nn) = (g = g' ∧ e = .row false ∧ convV e (.row false) rows xs) := rfl
theorem cvV_int (ys zs : List Int) : convV .int .int ys zs = (zs = ys) := rfl
theorem cvV_byte (ys zs : List Int) : convV .byte .byte ys zs = (zs = ys) := rfl
theorem cvV_bool (ys zs : List Bool) : convV .bool .bool ys zs = (zs = ys) := rfl
theorem cvV_str (ys zs : List (List UInt8)) : convV .str .str ys zs = (zs = ys) := rfl
theorem cvV_row (f : Bool) (ys zs : List (List Int)) : convV (.row false) (.row f) ys zs = (zs = ys) := rfl
theorem cvV_lrow (ys : List (Nat × List Int)) (zs : List (List Int)) : convV (.row false) .lrow ys zs = (zs = ys.map (·.2)) := rfl
theorem AZ : type_of% @AY ∧ type_of% @nthO_cons ∧ type_of% @pickO_nil ∧ type_of% @pickO_cons ∧ (∀ p : Prop, (false = true → p) = True) ∧ (∀ p : Prop, (true = true → p) = p) ∧ type_of% @argsOk_nil ∧ type_of% @argsOk_cons ∧ type_of% @argOk_int ∧ type_of% @argOk_bool ∧ type_of% @argOk_str ∧ type_of% @argOk_fn ∧ type_of% @argOk_vec ∧ type_of% @argOk_nil ∧
    type_of% @argOk_sl ∧ type_of% @argOk_lr ∧ type_of% @argOk_nils ∧ type_of% @argOk_own ∧ type_of% @argO_arr ∧ type_of% @cvV_int ∧ type_of% @cvV_byte ∧ type_of% @cvV_bool ∧ type_of% @cvV_str ∧ type_of% @cvV_row ∧ type_of% @cvV_lrow ∧ (∀ k n, St.n ⟨k, n, ([] : List O)⟩ = k) := by
  refine ⟨AY, nthO_cons, pickO_nil, pickO_cons, ?_, ?_, argsOk_nil, argsOk_cons, argOk_int, argOk_bool, argOk_str, argOk_fn, argOk_vec, argOk_nil, argOk_sl, argOk_lr, argOk_nils, argOk_own, argO_arr, cvV_int, cvV_byte, cvV_bool, cvV_str, cvV_row, cvV_lrow, fun _ _ => rfl⟩ <;> simp
end Go.Aw

/- Contracts of functions that write to one slice of their caller's. -/
namespace Go.Aw
open Go

def flatE : E → Bool
  | .int => true
  | .byte => true
  | .bool => true
  | .str => true
  | .vec => true
  | _ => false

theorem ElRel.flat {V V' : Vw} {e : E} (he : flatE e = true) {d : e.D} {u : Value} (h : ElRel V e d u) : ElRel V' e d u := by
  cases e <;> first | exact h | (simp [flatE] at he)
theorem Enc.flat {V V' : Vw} {e : E} (he : flatE e = true) {xs : List e.D} {cs : List Value} (h : Enc V e xs cs) : Enc V' e xs cs :=
  ⟨h.1, fun i hi => let ⟨u, h1, h2⟩ := h.2 i hi; ⟨u, h1.flat he, h2⟩⟩

/-- The callee's view: one object of the caller's is its own meanwhile. -/
def Ctx.lent (B : Ctx) (fn : Func) (R : Ending → World → Prop) (w : World) (L : Nat → Prop) (o : O) (v : Value) : Ctx := { B.enterL fn R w (fun b => fpo v o b) L with pin := [v] }
def Ctx.lentB (B : Ctx) (w : World) (L : Nat → Prop) (o : O) (v : Value) : Ctx := B.lent default (fun _ _ => True) w L o v

theorem Ctx.Ok.lent {B : Ctx} (h : B.Ok) (fn : Func) (R : Ending → World → Prop) (w : World) (L : Nat → Prop) (o : O) (v : Value) : (B.lent fn R w L o v).Ok := ⟨h.sl, h.slc, h.bt, h.same, h.mixed, h.u8⟩

/-- What has become of the object: let go, or still where it was. -/
def backO (o0 : O) (v v' : Value) : O → Prop
  | .dead => True
  | .arr e _ g _ => freshE e = true ∧ (g = 0 → v' = v)
  | .mat hs _ g _ => g = 0 ∧ v' = v ∧ ∃ rows nn, o0 = .mat hs rows 0 nn

/-- A contract of a function that is lent one object of its caller's. -/
def FunO (B : Ctx) (f : FuncId) (args : List AV) (o0 : O) (post : List AV → List O → Prop) : Prop :=
  (∀ (vs : Array Value) (w : World), (callFunc f vs).run B.P w = .ok (.enter f vs) w) ∧
  ∀ w (L : Nat → Prop) (v : Value) (vs : List Value), WRel (B.lentB w L o0 v) [o0] w (fun _ => v) → vs.length = args.length →
    (∀ (i : Nat) (x : AV) (u : Value), args[i]? = some x → vs[i]? = some u → AVRel ((B.lentB w L o0 v).V w [o0] (fun _ => v)) [o0] (fun _ => v) x u) →
    Calls B.P f vs.toArray w fun en w' => ∃ us : List Value, en = .returned (pack us) ∧ ∃ rs o' obs' ρ', post rs (o' :: obs') ∧ us.length = rs.length ∧
      (∀ (i : Nat) (x : AV) (u : Value), rs[i]? = some x → us[i]? = some u → AVRel ((B.lentB w L o0 v).V w' (o' :: obs') ρ') (o' :: obs') ρ' x u) ∧
      WRel (B.lentB w L o0 v) (o' :: obs') w' ρ' ∧ rs.all freshAV = true ∧ obs'.all freshO = true ∧ backO o0 v (ρ' 0) o'

def FunM (B : Ctx) (f : FuncId) (args : List AV) (e : E) (xs : List e.D) (nn : Bool) (post : List AV → List O → Prop) : Prop := FunO B f args (.arr e xs 0 nn) post

/-- What the walk of such a function has to come to. -/
def RM (B : Ctx) (w : World) (L : Nat → Prop) (o : O) (v : Value) (post : List AV → List O → Prop) : Ending → World → Prop := fun en w' => ∃ us : List Value, en = .returned (pack us) ∧ ∃ rs o' obs' ρ', post rs (o' :: obs') ∧ us.length = rs.length ∧
      (∀ (i : Nat) (x : AV) (u : Value), rs[i]? = some x → us[i]? = some u → AVRel ((B.lentB w L o v).V w' (o' :: obs') ρ') (o' :: obs') ρ' x u) ∧
      WRel (B.lentB w L o v) (o' :: obs') w' ρ' ∧ rs.all freshAV = true ∧ obs'.all freshO = true ∧ backO o v (ρ' 0) o'

def backB : O → Bool
  | .dead => true
  | .arr e _ _ _ => freshE e
  | .mat .. => false
/-- The object at the end, by the object at the start. -/
def backP (o0 : O) : O → Prop
  | .dead => True
  | .arr e _ _ _ => freshE e = true ∧ ∃ e' xs g' nn, o0 = .arr e' xs g' nn
  | .mat hs _ g _ => g = 0 ∧ ∃ rows nn, o0 = .mat hs rows 0 nn

theorem FunO.fin {B : Ctx} {fn : Func} {w : World} {L : Nat → Prop} {o : O} {v : Value} {post : List AV → List O → Prop} {rs : List AV} {o' : O} {obs' : List O} (hp : post rs (o' :: obs')) (h1 : rs.all freshAV = true) (h2 : obs'.all freshO = true) (h3 : backP o o') :
    Fin (B.lent fn (RM B w L o v post) w L o v) rs (o' :: obs') := by
  intro w' ρ vs hr hpin hl ha
  refine ⟨vs, rfl, rs, o', obs', ρ, hp, hl, ha, ⟨hr.os, hr.dis, hr.own, hr.os0, hr.tape, hr.output, hr.grow, hr.kept⟩, h1, h2, ?_⟩
  cases o' with
  | dead => trivial
  | arr e xs g nn =>
    obtain ⟨h3, e', xs', g', nn', rfl⟩ := h3
    obtain ⟨_, hk⟩ := hpin 0 v rfl
    exact ⟨h3, fun h4 => hk (by rw [h4]; rfl)⟩
  | mat hs rows g nn =>
    obtain ⟨h3, h4⟩ := h3
    obtain ⟨_, hk⟩ := hpin 0 v rfl
    exact ⟨h3, hk (by rw [h3]; rfl), h4⟩

theorem FunO.walk {B : Ctx} (hB : B.Ok) {f : FuncId} {fn : Func} {c : Code} {args : List AV} {o0 : O} {post : List AV → List O → Prop} (hcall : ∀ (vs : Array Value) (w : World), (callFunc f vs).run B.P w = .ok (.enter f vs) w)
    (hf : B.P.funcs[f]? = some fn) (hb : fn.body = some c) (hn : args.length ≤ fn.ntmps)
    (h : ∀ C : Ctx, C.Ok → B.P = C.P → B.tid = C.tid → C.Γ = B.Γ → C.bt = B.bt → C.fn = fn → C.pin.length = 1 → (∀ rs o' obs', rs.all freshAV = true → obs'.all freshO = true → backP o0 o' → post rs (o' :: obs') → Fin C rs (o' :: obs')) →
      Run C [.code c] ⟨fn.ntmps, entF 0 args, [o0]⟩) : FunO B f args o0 post := by
  refine ⟨hcall, fun w L v vs hw hl ha => ?_⟩
  refine calls_of_run (C := B.lent fn (RM B w L o0 v post) w L o0 v) (ρ := fun _ => v) hf hb
    (h _ (hB.lent fn _ w L _ v) rfl rfl rfl rfl rfl rfl fun _ _ _ h1 h2 h3 hp => FunO.fin hp h1 h2 h3) ⟨rfl, ?_, ?_, ⟨hw.os, hw.dis, hw.own, hw.os0, hw.tape, hw.output, hw.grow, hw.kept⟩, fun j u hj => ?_⟩
  · simp [Ctx.lent, Ctx.enterL]
    omega
  · intro s ex x hx
    have hent := entry_eq args fn.ntmps
    have hz : look s ((args.zipIdx 0).map (fun p => (p.2, true, Sl.v p.1))) = some (ex, x) := by
      have := congrArg St.fr hent
      simp only [entry] at this
      rw [this]; exact hx
    obtain ⟨k, y, h1, h2, rfl, rfl⟩ := look_zip args s 0 ex x hz
    refine ⟨fun _ => ?_, by simp⟩
    have hk : k < args.length := (List.getElem?_eq_some_iff.1 h2).1
    have hkv : k < vs.length := by omega
    have hs : s = k := by omega
    subst hs
    have hg : ((vs.toArray ++ Array.replicate ((B.lent fn (RM B w L o0 v post) w L o0 v).fn.ntmps - vs.toArray.size) undef).getD s undef) = vs[s] := by
      simp [Array.getD_eq_getD_getElem?, Array.getElem?_append, hkv]
    rw [hg]
    exact ha s y vs[s] h2 (by simp)
  · match j, hj with
    | 0, hj =>
      simp [Ctx.lent] at hj
      exact ⟨by simp, fun _ => hj⟩
    | j + 1, hj => simp [Ctx.lent] at hj

theorem backB_P {e : E} {xs : List e.D} {g : Nat} {nn : Bool} {o' : O} (h : backB o' = true) : backP (.arr e xs g nn) o' := by
  cases o' with
  | dead => trivial
  | arr e2 ys g2 n2 => exact ⟨h, _, _, _, _, rfl⟩
  | mat _ _ _ _ => cases h
theorem FunM.walk {B : Ctx} (hB : B.Ok) {f : FuncId} {fn : Func} {c : Code} {args : List AV} {e : E} {xs : List e.D} {nn : Bool} {post : List AV → List O → Prop} (hcall : ∀ (vs : Array Value) (w : World), (callFunc f vs).run B.P w = .ok (.enter f vs) w)
    (hf : B.P.funcs[f]? = some fn) (hb : fn.body = some c) (hn : args.length ≤ fn.ntmps)
    (h : ∀ C : Ctx, C.Ok → B.P = C.P → B.tid = C.tid → C.Γ = B.Γ → C.bt = B.bt → C.fn = fn → C.pin.length = 1 → (∀ rs o' obs', rs.all freshAV = true → obs'.all freshO = true → backB o' = true → post rs (o' :: obs') → Fin C rs (o' :: obs')) →
      Run C [.code c] ⟨fn.ntmps, entF 0 args, [.arr e xs 0 nn]⟩) : FunM B f args e xs nn post :=
  FunO.walk hB hcall hf hb hn fun C h1 h2 h3 h4 h5 h6 h7 hfin => h C h1 h2 h3 h4 h5 h6 h7 fun rs o' obs' k1 k2 k3 k4 => hfin rs o' obs' k1 k2 (backB_P k3) k4

/-! ### Such a contract, used -/

def regO (g : Nat) : O → O
  | .dead => .dead
  | .arr e xs g' nn => .arr e xs (g + g') nn
  | .mat hs rows g' nn => .mat hs rows (g + g') nn
def shiftM (i0 g0 n : Nat) : AV → AV
  | .own 0 g => .own i0 (g0 + g)
  | .own (k + 1) g => .own (n + k) g
  | x => x

theorem joinM {B C : Ctx} (hP : B.tid = C.tid) {obs obs' : List O} {w w' : World} {ρ ρ' : Nat → Value} {L : Nat → Prop} (hL : ∀ b, L b → C.seen obs ρ b) (rr : WRel C obs w ρ) {i0 g : Nat} {o o0 : O} (hi : obs[i0]? = some o) (hog : o.gen = some g) (hfo : ∀ b, fpo (ρ i0) o0 b ↔ fpo (ρ i0) o b) {o' : O}
    (r' : WRel (B.lentB w L o0 (ρ i0)) (o' :: obs') w' ρ') (hf : obs'.all freshO = true) (hb : backO o0 (ρ i0) (ρ' 0) o') :
    ∃ ρ2, Step C w w' obs (obs.set i0 (regO g o') ++ obs') ρ ρ2 ∧ ∀ (x : AV) (v : Value), freshAV x = true → AVRel ((B.lentB w L o0 (ρ i0)).V w' (o' :: obs') ρ') (o' :: obs') ρ' x v →
      AVRel (C.V w' (obs.set i0 (regO g o') ++ obs') ρ2) (obs.set i0 (regO g o') ++ obs') ρ2 (shiftM i0 g obs.length x) v := by
  let ρ2 : Nat → Value := fun i => if i < obs.length then (if i = i0 then ρ' 0 else ρ i) else ρ' (i - obs.length + 1)
  have hi0 : i0 < obs.length := (List.getElem?_eq_some_iff.1 hi).1
  have hset : (obs.set i0 (regO g o')).length = obs.length := by simp
  have hM : ∀ b, (B.lentB w L o0 (ρ i0)).M b ↔ fpo (ρ i0) o b := fun b => hfo b
  have hMown : ∀ b, fpo (ρ i0) o b → Own obs ρ b := fun b h => ⟨i0, _, hi, h⟩
  have hext : Ext (fun b => fpo (ρ i0) o b) w w' := ⟨r'.os0, r'.tape, r'.output, r'.grow, fun b hb hS => r'.kept b hb fun k => hS ((hM b).1 k)⟩
  have ho' : ∀ b, Own (o' :: obs') ρ' b → w.heap.size ≤ b ∨ fpo (ρ i0) o b := fun b hb => (r'.own b hb).imp id (hM b).1
  have hreg : ∀ b, fpo (ρ' 0) (regO g o') b → fpo (ρ' 0) o' b := fun b h => by cases o' <;> exact h
  have hreg' : ∀ b, fpo (ρ' 0) (regO g o') b → w.heap.size ≤ b ∨ fpo (ρ i0) o b := fun b h => ho' b ⟨0, o', rfl, hreg b h⟩
  have get2 : ∀ (id : Nat) (o : O), (obs.set i0 (regO g o') ++ obs')[id]? = some o →
      (id = i0 ∧ o = regO g o' ∧ ρ2 id = ρ' 0) ∨ (id ≠ i0 ∧ id < obs.length ∧ obs[id]? = some o ∧ ρ2 id = ρ id) ∨ (obs.length ≤ id ∧ obs'[id - obs.length]? = some o ∧ ρ2 id = ρ' (id - obs.length + 1)) := by
    intro id o ho
    rw [List.getElem?_append] at ho
    split at ho
    · rename_i hlt
      rw [hset] at hlt
      by_cases hii : i0 = id
      · subst hii
        rw [List.getElem?_set_self hi0] at ho
        cases ho
        exact .inl ⟨rfl, rfl, by simp [ρ2, hi0]⟩
      · rw [List.getElem?_set_ne hii] at ho
        exact .inr (.inl ⟨Ne.symm hii, hlt, ho, by simp [ρ2, hlt, Ne.symm hii]⟩)
    · rename_i hlt
      rw [hset] at hlt ho
      exact .inr (.inr ⟨by omega, ho, by simp [ρ2, hlt]⟩)
  have split : ∀ b, Own (obs.set i0 (regO g o') ++ obs') ρ2 b → (∃ id o, id ≠ i0 ∧ obs[id]? = some o ∧ fpo (ρ id) o b) ∨ (fpo (ρ' 0) (regO g o') b) ∨ (∃ k o, obs'[k]? = some o ∧ fpo (ρ' (k + 1)) o b) := by
    rintro b ⟨id, o, ho, hfp⟩
    rcases get2 id o ho with ⟨rfl, rfl, h3⟩ | ⟨h1, h2, h3, h4⟩ | ⟨h1, h2, h3⟩
    · rw [h3] at hfp; exact .inr (.inl hfp)
    · rw [h4] at hfp; exact .inl ⟨id, o, h1, h3, hfp⟩
    · rw [h3] at hfp; exact .inr (.inr ⟨_, o, h2, hfp⟩)
  have hV : (C.V w obs ρ).le (C.V w' (obs.set i0 (regO g o') ++ obs') ρ2) := by
    refine ⟨fun b x hx => ?_, fun _ h => h, rfl⟩
    simp only [Ctx.V, mask] at hx ⊢
    split at hx
    · cases hx
    · rename_i hn
      have hlt := (Array.getElem?_eq_some_iff.1 hx).1
      have hn' : ¬ Own (obs.set i0 (regO g o') ++ obs') ρ2 b := fun k => by
        rcases split b k with ⟨id, o, _, h2, h3⟩ | h | ⟨k, o, h1, h2⟩
        · exact hn ⟨id, o, h2, h3⟩
        · rcases hreg' b h with h | h
          · omega
          · exact hn (hMown b h)
        · rcases ho' b ⟨k + 1, o, by simpa using h1, h2⟩ with h | h
          · omega
          · exact hn (hMown b h)
      rw [if_neg hn', hext.block b hlt (fun k => hn (hMown b k))]
      exact hx
  have hH : ∀ b o, ((B.lentB w L o0 (ρ i0)).V w' (o' :: obs') ρ').Fr b → ((B.lentB w L o0 (ρ i0)).V w' (o' :: obs') ρ').H b = some o → (C.V w' (obs.set i0 (regO g o') ++ obs') ρ2).H b = some o := by
    intro b o hfr hx
    simp only [Ctx.V, mask] at hx ⊢
    split at hx
    · cases hx
    · rename_i hn
      have hn' : ¬ Own (obs.set i0 (regO g o') ++ obs') ρ2 b := fun k => by
        rcases split b k with ⟨id, o2, h1, h2, h3⟩ | h | ⟨k, o2, h1, h2⟩
        · have hlt := (rr.os id o2 h2).lt h3
          rcases hfr with (hge | hm) | hl
          · exact absurd hlt (Nat.not_lt.2 hge)
          · exact h1 (rr.dis id i0 o2 _ b h2 hi h3 ((hM b).1 hm))
          · exact (hL b hl).2 ⟨id, o2, h2, h3⟩
        · exact hn ⟨0, o', rfl, hreg b h⟩
        · exact hn ⟨k + 1, o2, by simpa using h1, h2⟩
      rw [if_neg hn']
      exact hx
  have hF : ∀ b, ((B.lentB w L o0 (ρ i0)).V w' (o' :: obs') ρ').Fr b → (C.V w' (obs.set i0 (regO g o') ++ obs') ρ2).Fr b := fun b hfr => by
    rcases hfr with (h | h) | h
    · exact .inl (.inl (Nat.le_trans rr.grow h))
    · exact .inl (rr.own b (hMown b ((hM b).1 h)))
    · exact (hL b h).1
  have ht : (C.V w' (obs.set i0 (regO g o') ++ obs') ρ2).ti = ((B.lentB w L o0 (ρ i0)).V w' (o' :: obs') ρ').ti := by show C.tid .int = B.tid .int; rw [hP]
  have hwr : WRel C (obs.set i0 (regO g o') ++ obs') w' ρ2 := by
    refine ⟨fun id o ho => ?_, fun i j o o2 b hi' hj' bi bj => ?_, fun b hb' => ?_, hext.os.trans rr.os0, hext.tape.trans rr.tape, hext.output.trans rr.output, Nat.le_trans rr.grow hext.size, fun b hb' hM' => ?_⟩
    · rcases get2 id o ho with ⟨rfl, rfl, h3⟩ | ⟨h1, h2, h3, h4⟩ | ⟨h1, h2, h3⟩
      · rw [h3]
        have k := r'.os 0 o' rfl
        cases o' with
        | dead => trivial
        | arr e2 ys g2 n2 =>
          obtain ⟨cs, k1, k2, k3⟩ := k
          exact ⟨cs, by have : B.tid e2 = C.tid e2 := congrFun hP e2; rw [← this]; exact k1, k2.fresh hH hF ht hb.1, k3⟩
        | mat hs2 rows2 g2 n2 => exact ORel.mat_tid (tid := B.tid) (congrFun hP .lrow) (congrFun hP .int) k
      · rw [h4]
        exact (rr.os id o h3).kept hV hext (fun b hfp hS => h1 (rr.dis id i0 o _ b h3 hi hfp hS))
      · rw [h3]
        have k := r'.os (id - obs.length + 1) o (by simpa using h2)
        cases o with
        | dead => trivial
        | arr e2 ys g2 n2 =>
          obtain ⟨cs, k1, k2, k3⟩ := k
          have hfo : freshE e2 = true := by
            have := List.all_eq_true.1 hf _ (List.mem_of_getElem? h2)
            simpa [freshO] using this
          exact ⟨cs, by have : B.tid e2 = C.tid e2 := congrFun hP e2; rw [← this]; exact k1, k2.fresh hH hF ht hfo, k3⟩
        | mat hs2 rows2 g2 n2 => exact ORel.mat_tid (tid := B.tid) (congrFun hP .lrow) (congrFun hP .int) k
    · have low : ∀ k o3, obs'[k]? = some o3 → fpo (ρ' (k + 1)) o3 b → ∀ id o4, obs[id]? = some o4 → fpo (ρ id) o4 b → id ≠ i0 → False := by
        intro k o3 h1 h2 id o4 h3 h4 h5
        rcases ho' b ⟨k + 1, o3, by simpa using h1, h2⟩ with h | h
        · have := (rr.os id o4 h3).lt h4; omega
        · exact h5 (rr.dis id i0 o4 _ b h3 hi h4 h)
      rcases get2 i o hi' with ⟨rfl, rfl, h3⟩ | ⟨h1, h2, h3, h4⟩ | ⟨h1, h2, h3⟩ <;> rcases get2 j o2 hj' with ⟨rfl, rfl, k3⟩ | ⟨k1, k2, k3, k4⟩ | ⟨k1, k2, k3⟩
      · rfl
      · rw [h3] at bi; rw [k4] at bj
        rcases hreg' b bi with h | h
        · have := (rr.os j o2 k3).lt bj; omega
        · exact absurd (rr.dis j i o2 _ b k3 hi bj h) k1
      · rw [h3] at bi; rw [k3] at bj
        have := r'.dis 0 (j - obs.length + 1) o' o2 b rfl (by simpa using k2) (hreg b bi) bj
        omega
      · rw [h4] at bi; rw [k3] at bj
        rcases hreg' b bj with h | h
        · have := (rr.os i o h3).lt bi; omega
        · exact absurd (rr.dis i j o _ b h3 hi bi h) h1
      · rw [h4] at bi; rw [k4] at bj
        exact rr.dis i j o o2 b h3 k3 bi bj
      · rw [h4] at bi; rw [k3] at bj
        exact (low _ o2 k2 bj i o h3 bi h1).elim
      · rw [h3] at bi; rw [k3] at bj
        have := r'.dis (i - obs.length + 1) 0 o o' b (by simpa using h2) rfl bi (hreg b bj)
        omega
      · rw [h3] at bi; rw [k4] at bj
        exact (low _ o h2 bi j o2 k3 bj k1).elim
      · rw [h3] at bi; rw [k3] at bj
        have := r'.dis (i - obs.length + 1) (j - obs.length + 1) o o2 b (by simpa using h2) (by simpa using k2) bi bj
        omega
    · rcases split b hb' with ⟨id, o, h1, h2, h3⟩ | h | ⟨k, o, h1, h2⟩
      · exact rr.own b ⟨id, o, h2, h3⟩
      · exact (hreg' b h).elim (fun h => .inl (Nat.le_trans rr.grow h)) (fun h => rr.own b (hMown b h))
      · exact (ho' b ⟨k + 1, o, by simpa using h1, h2⟩).elim (fun h => .inl (Nat.le_trans rr.grow h)) (fun h => rr.own b (hMown b h))
    · have hnS : ¬ fpo (ρ i0) o b := fun k => by
        rcases rr.own b (hMown b k) with h | h
        · omega
        · exact hM' h
      rw [hext.block b (Nat.lt_of_lt_of_le hb' rr.grow) hnS]
      exact rr.kept b hb' hM'
  have hgen0 : genOf (obs.set i0 (regO g o') ++ obs') i0 = (regO g o').gen := by
    unfold genOf
    rw [List.getElem?_append_left (by rw [hset]; exact hi0), List.getElem?_set_self hi0]; rfl
  refine ⟨ρ2, ⟨hwr, hV, by simp, fun id c' hid hc => ?_⟩, fun x v hfx hx => ?_⟩
  · by_cases hii : id = i0
    · subst hii
      rw [hgen0] at hc
      cases o' with
      | dead => simp [regO, O.gen] at hc
      | arr e2 ys g2 n2 =>
        simp [regO, O.gen] at hc
        subst hc
        refine ⟨g, by unfold genOf; rw [hi]; exact hog, ?_⟩
        by_cases hg2 : g2 = 0
        · refine .inl ⟨by omega, ?_⟩
          show ρ2 id = ρ id
          simp only [ρ2, hi0, if_true]
          exact hb.2 hg2
        · exact .inr (by omega)
      | mat hs2 rows2 g2 n2 =>
        simp [regO, O.gen] at hc
        subst hc
        have hg2 : g2 = 0 := hb.1
        refine ⟨g, by unfold genOf; rw [hi]; exact hog, .inl ⟨by omega, ?_⟩⟩
        show ρ2 id = ρ id
        simp only [ρ2, hi0, if_true]
        exact hb.2.1
    · unfold genOf at hc
      rw [List.getElem?_append_left (by rw [hset]; exact hid), List.getElem?_set_ne (Ne.symm hii)] at hc
      exact ⟨c', hc, .inl ⟨rfl, by simp [ρ2, hid, hii]⟩⟩
  · cases x with
    | junk => trivial
    | int k n => exact hx
    | bool b => exact hx
    | str s => exact hx
    | sl f e xs =>
      simp [freshAV] at hfx
      obtain ⟨rfl, hfe⟩ := hfx
      exact SlRel.fresh hH hF ht hfe hx
    | lr l xs => exact LRowRel.fresh hH hF ht hx
    | vec xs => exact hx
    | nils => exact hx
    | own id g1 =>
      match id with
      | 0 =>
        refine ⟨by simp; omega, fun c hc => ?_⟩
        rw [hgen0] at hc
        have e0 : ρ2 i0 = ρ' 0 := by simp only [ρ2, hi0, if_true]
        cases o' with
        | dead => simp [regO, O.gen] at hc
        | arr e2 ys g2 n2 =>
          simp [regO, O.gen] at hc
          have h3 := hx.2 g2 rfl
          refine ⟨by omega, fun hh => ?_⟩
          rw [e0]
          exact h3.2 (by omega)
        | mat hs2 rows2 g2 n2 =>
          simp [regO, O.gen] at hc
          have h3 := hx.2 g2 rfl
          refine ⟨by omega, fun hh => ?_⟩
          rw [e0]
          exact h3.2 (by omega)
      | k + 1 =>
        refine ⟨by have := hx.1; simp at this ⊢; omega, fun c hc => ?_⟩
        have e1 : genOf (obs.set i0 (regO g o') ++ obs') (obs.length + k) = genOf (o' :: obs') (k + 1) := by
          unfold genOf; rw [List.getElem?_append_right (by rw [hset]; omega), hset]; simp
        rw [e1] at hc
        have h3 := hx.2 c hc
        have e2 : ρ2 (obs.length + k) = ρ' (k + 1) := by
          show (if obs.length + k < obs.length then (if obs.length + k = i0 then ρ' 0 else ρ (obs.length + k)) else ρ' (obs.length + k - obs.length + 1)) = ρ' (k + 1)
          rw [if_neg (by omega), Nat.add_sub_cancel_left]
        rw [e2]
        exact h3
    | elt id g s k => simp [freshAV] at hfx
    | relt f e d => simp [freshAV] at hfx
    | hdr h n => simp [freshAV] at hfx
    | emp b => simp [freshAV] at hfx
    | fn f => exact hx

end Go.Aw

/- A contract of a function that writes to one slice of its caller's, used at a call. -/
namespace Go.Aw
open Go

def argOkM (obs : List O) (i0 g : Nat) : (actual formal : AV) → Prop
  | x, .own 0 0 => x = .own i0 g
  | .own id g', .sl false e xs => id ≠ i0 ∧ argOk obs (.own id g') (.sl false e xs)
  | x, y => argOk obs x y
def argsOkM (obs : List O) (i0 g : Nat) : List AV → List AV → Prop
  | [], [] => True
  | x :: l, y :: r => argOkM obs i0 g x y ∧ argsOkM obs i0 g l r
  | _, _ => False

section
variable {B C : Ctx} {obs : List O} {w : World} {ρ : Nat → Value} {L : Nat → Prop} {i0 g : Nat} {o o0 : O}

theorem lent_vis {b : Nat} (h : ¬ fpo (ρ i0) o0 b) : ((B.lentB w L o0 (ρ i0)).V w [o0] (fun _ => ρ i0)).H b = w.heap[b]? := by
  have hn : ¬ Own [o0] (fun _ => ρ i0) b := by
    rintro ⟨id, o, ho, hf⟩
    cases id with
    | zero => simp at ho; subst ho; exact h hf
    | succ id => simp at ho
  simp only [Ctx.V, mask, if_neg hn]

theorem cell_of_heap {V : Vw} {a : Addr} {v : Value} (hH : V.H a.block = w.heap[a.block]?) (h : w.cell? a = some v) : V.cell a = some v := by
  simp only [Vw.cell, hH]
  unfold World.cell? at h
  cases hb : w.heap[a.block]? with
  | none => rw [hb] at h; simp at h
  | some o => rw [hb] at h; cases o <;> simp at h ⊢; exact h

theorem lent_sub (hT : B.tid = C.tid) (hi : obs[i0]? = some o) (hfo : ∀ b, fpo (ρ i0) o0 b → fpo (ρ i0) o b) (hL : L = C.seen obs ρ) : (C.V w obs ρ).sub ((B.lentB w L o0 (ρ i0)).V w [o0] (fun _ => ρ i0)) where
  H := fun b x h => by
    obtain ⟨hn, hx⟩ := H_vis h
    rw [lent_vis fun hb => hn ⟨i0, _, hi, hfo _ hb⟩]
    exact hx
  Fr := fun b x h hf => .inr (by rw [hL]; exact ⟨hf, (H_vis h).1⟩)
  ti := by show B.tid .int = C.tid .int; rw [hT]

/-- An owned matrix, read, where only some blocks are seen. -/
theorem mat_to {V V' : Vw} {tid : E → TypeId} {e' : E} {rows : List (List Int)} {zs : List e'.D} {v : Value} {hs : List (Option Nat)} {g' : Nat} {nn : Bool} (he : e' = .row false) (hc : convV e' (.row false) rows zs)
    (hV : ∀ b, fpo v (.mat hs rows g' nn) b → ∀ a x, a.block = b → w.cell? a = some x → V'.cell a = some x) (k : ORel tid w V v (.mat hs rows g' nn)) : SlRel V' false e' zs v := by
  have k0 := mat_rows (V' := ⟨fun b => w.heap[b]?, fun _ => True, V'.ti⟩) (fun a x h => by
    unfold World.cell? at h
    simp only [Vw.cell]
    cases hb : w.heap[a.block]? with
    | none => rw [hb] at h; simp at h
    | some o => rw [hb] at h; cases o <;> simp at h ⊢; exact h) k
  subst he
  have hz : zs = rows := hc
  subst hz
  have toW : ∀ {a : Addr} {x : Value}, (⟨fun b => w.heap[b]?, fun _ => True, V'.ti⟩ : Vw).cell a = some x → w.cell? a = some x := by
    intro a x h
    simp only [Vw.cell] at h
    unfold World.cell?
    cases hb : w.heap[a.block]? with
    | none => rw [hb] at h; simp at h
    | some o => rw [hb] at h; cases o <;> simp at h ⊢; exact h
  obtain ⟨base, cap, hv, h1, h2, hx⟩ := k0
  obtain ⟨cs, k1, k2, k3, _⟩ := k
  have hcl : cs.length = zs.length := by have := k1.1; omega
  refine ⟨base, cap, hv, h1, h2, fun i hi => ?_⟩
  obtain ⟨a, u, ha, _, hr, hcell⟩ := hx i hi
  have hob : fpo v (.mat hs zs g' nn) a.block := .inl (by rw [hv, ha]; rfl)
  have hca : ∀ j, j < 1 → V'.cell (a.add (i * 1 + j)) = u.cells[j]? := by
    intro j hj
    have h3 := hcell j hj
    have hone := RowRel.oneCell hr
    rw [cells_oneCell hone] at h3 ⊢
    have : j = 0 := by omega
    subst this
    exact hV _ hob _ _ (add_block _ _) (toW h3)
  refine ⟨a, u, ha, by simp, ?_, hca⟩
  -- the row itself
  have hu : u = cs[i] := by
    have h3 := hcell 0 (by simp [E.size])
    rw [cells_oneCell (RowRel.oneCell hr)] at h3
    have h4 := toW h3
    rcases k1.2 with ⟨hv2, hz2⟩ | ⟨b, cap2, cur, hv2, _⟩
    · omega
    · rw [hv2] at hv
      have hab : a = ⟨b, 0, none⟩ := by
        have := congrArg (fun x => match x with | Value.slice p _ _ => p | _ => none) hv
        simp at this
        rw [ha] at this
        exact (Option.some.inj this).symm
      have h5 := k1.cells (g := b) (by rw [hv2]; rfl) i cs[i] (by simp)
      rw [hab] at h4
      simp only [E.size, Nat.mul_one, Nat.add_zero] at h4
      rw [h5] at h4
      simpa using h4.symm
  have hm := k3 i hs[i] zs[i] cs[i] (by simp) (by simp) (by simp)
  obtain ⟨rb, rc, rv, r1, r2, rx⟩ := hr
  refine ⟨rb, rc, rv, r1, r2, fun q hq => ?_⟩
  obtain ⟨ra, hra, _, hrc⟩ := rx q hq
  refine ⟨ra, hra, by simp, ?_⟩
  cases hh : hs[i] with
  | none =>
    rw [hh] at hm
    rw [hm.2] at hq
    simp at hq
  | some h =>
    rw [hh, ← hu] at hm
    obtain ⟨h6, _⟩ := hm
    rw [rv] at h6
    have hblk : ra.block = hdB h := by
      have := congrArg (fun x => match x with | Value.slice p _ _ => p | _ => none) h6
      simp at this
      rw [hra] at this
      exact congrArg Addr.block (Option.some.inj this)
    refine hV (hdB h) (.inr ⟨h, by rw [← hh]; simp, rfl⟩) _ _ (by rw [add_block]; exact hblk) (toW hrc)

theorem argOkM_sound (hT : B.tid = C.tid) (rr : WRel C obs w ρ) (hi : obs[i0]? = some o) (hog : o.gen = some g) (hog0 : o0.gen = some 0) (hfo : ∀ b, fpo (ρ i0) o0 b → fpo (ρ i0) o b) (hL : L = C.seen obs ρ) {x y : AV} {v : Value} (h : argOkM obs i0 g x y) (hx : AVRel (C.V w obs ρ) obs ρ x v) :
    AVRel ((B.lentB w L o0 (ρ i0)).V w [o0] (fun _ => ρ i0)) [o0] (fun _ => ρ i0) y v := by
  have hs := lent_sub (w := w) hT hi hfo hL
  have plain : argOk obs x y → (∀ id g' e xs, x = .own id g' → y ≠ .sl false e xs) → AVRel ((B.lentB w L o0 (ρ i0)).V w [o0] (fun _ => ρ i0)) [o0] (fun _ => ρ i0) y v := by
    intro h hne
    unfold argOk at h
    split at h
    · subst h; exact hx
    · subst h; exact hx
    · subst h; exact hx
    · subst h; exact hx
    · subst h; exact hx
    · subst h; exact hx
    · split at h
      · exact (SlRel.conv h (SlRel.sub hs hx)).weaken
      · exact (SlRel.conv h (LRowRel.toRow (LRowRel.sub hs hx)).toSl).weaken
      · subst h
        exact ⟨none, 0, hx, by simp, by simp, fun i hi => by simp at hi⟩
      · subst h
        obtain ⟨a, c, hv, hc, _⟩ := hx
        exact emp_rel hv hc
      · exact absurd rfl (hne _ _ _ _ rfl)
      · exact h.elim
    · split at h
      · exact SlRel.conv h (SlRel.sub hs hx)
      · exact SlRel.conv h (LRowRel.toRow (LRowRel.sub hs hx)).toSl
      · subst h
        exact ⟨none, 0, hx, by simp, by simp, fun i hi => by simp at hi⟩
      · exact h.elim
    · subst h; exact LRowRel.sub hs hx
    · exact h.elim
  unfold argOkM at h
  split at h
  · subst h
    refine ⟨by simp, fun c hc => ⟨Nat.zero_le _, fun _ => ?_⟩⟩
    exact (hx.2 g (by unfold genOf; rw [hi]; exact hog)).2 rfl
  · rename_i id g' e2 ys
    obtain ⟨hne, h⟩ := h
    simp only [argOk] at h
    split at h
    · rename_i ho
      obtain ⟨hg, hc⟩ := h
      subst hg
      obtain ⟨hv, cs, hown, henc, _, _⟩ := own_arr rr ho hx
      refine own_sl (fun b hb a x hab hax => cell_of_heap (lent_vis fun k => hne ?_) hax) hc hown (henc.sub hs)
      rw [hab] at k
      exact rr.dis _ _ _ _ b ho hi (by rw [← hv]; exact hb) (hfo _ k)
    · rename_i ho
      obtain ⟨hg, he, hc⟩ := h
      subst hg
      obtain ⟨hv, hor⟩ := own_mat rr ho hx
      refine mat_to he hc (fun b hb a x hab hax => cell_of_heap (lent_vis fun k => hne ?_) hax) hor
      rw [hab] at k
      exact rr.dis _ _ _ _ b ho hi (by rw [← hv]; exact hb) (hfo _ k)
    · exact h.elim
  · rename_i h1 h2
    exact plain h fun id g' e xs hx' hy => h2 id g' e xs hx' hy

theorem argsOkM_sound (hT : B.tid = C.tid) (rr : WRel C obs w ρ) (hi : obs[i0]? = some o) (hog : o.gen = some g) (hog0 : o0.gen = some 0) (hfo : ∀ b, fpo (ρ i0) o0 b → fpo (ρ i0) o b) (hL : L = C.seen obs ρ) : ∀ {l r : List AV} {vs : List Value}, argsOkM obs i0 g l r → vs.length = l.length →
    (∀ (i : Nat) (x : AV) (v : Value), l[i]? = some x → vs[i]? = some v → AVRel (C.V w obs ρ) obs ρ x v) →
    vs.length = r.length ∧ ∀ (i : Nat) (x : AV) (v : Value), r[i]? = some x → vs[i]? = some v → AVRel ((B.lentB w L o0 (ρ i0)).V w [o0] (fun _ => ρ i0)) [o0] (fun _ => ρ i0) x v
  | [], [], vs, _, hl, _ => ⟨hl, fun i x v h => by simp at h⟩
  | x :: l, y :: r, vs, h, hl, ha => by
    cases vs with
    | nil => simp at hl
    | cons v vs =>
      obtain ⟨h1, h2⟩ := argsOkM_sound (vs := vs) hT rr hi hog hog0 hfo hL h.2 (by simpa using hl) (fun i x v hx hv => ha (i + 1) x v (by simpa using hx) (by simpa using hv))
      refine ⟨by simp [h1], fun i x' v' hx' hv' => ?_⟩
      cases i with
      | zero => simp at hx' hv'; subst hx' hv'; exact argOkM_sound hT rr hi hog hog0 hfo hL h.1 (ha 0 x v rfl rfl)
      | succ i => exact h2 i x' v' (by simpa using hx') (by simpa using hv')
  | [], _ :: _, _, h, _, _ => h.elim
  | _ :: _, [], _, h, _, _ => h.elim

end

def resM (i0 g n : Nat) : List AV → Sl
  | [x] => .v (shiftM i0 g n x)
  | l => .t (l.map (shiftM i0 g n))

theorem oAt_lt {obs : List O} {i : Nat} {o : O} {g : Nat} (ho : oAt obs i = o) (hg : o.gen = some g) : obs[i]? = some o := by
  have hid : i < obs.length := by
    rcases Nat.lt_or_ge i obs.length with h | h
    · exact h
    · rw [oAt_eq, List.getElem?_eq_none h] at ho; subst ho; simp [O.gen] at hg
  rw [oAt_get hid, ho]

theorem FunO.callX {B C : Ctx} (hP : B.P = C.P) (hT : B.tid = C.tid) {f : FuncId} {args0 : List AV} {o0 : O} {post : List AV → List O → Prop} (h : FunO B f args0 o0 post) {obs : List O} {args : List AV} (i0 g : Nat) {o : O}
    (ho : oAt obs i0 = o) (hog : o.gen = some g) (hog0 : o0.gen = some 0) (hfo : ∀ v b, fpo v o0 b ↔ fpo v o b) (hor : ∀ w V V' v, V.sub V' → ORel C.tid w V v o → ORel B.tid w V' v o0) (ha : argsOkM obs i0 g args args0)
    {K : Sl → List O → Prop} (hk : ∀ rs o' obs', post rs (o' :: obs') → K (resM i0 g obs.length rs) (oSet obs i0 (regO g o') ++ obs')) : ACall C obs f args fun x o => Later (K x o) := by
  have hi : obs[i0]? = some o := oAt_lt ho hog
  refine ⟨fun vs w => by rw [← hP]; exact h.1 vs w, fun w ρ vs rr hl hx => ?_⟩
  obtain ⟨h1, h2⟩ := argsOkM_sound (B := B) (o0 := o0) hT rr hi hog hog0 (fun b => (hfo _ b).1) rfl ha hl hx
  have hstart : WRel (B.lentB w (C.seen obs ρ) o0 (ρ i0)) [o0] w (fun _ => ρ i0) := by
    refine ⟨fun id o hh => ?_, fun i j o o' b hi' hj' _ _ => ?_, fun b ⟨id, o, hh, hf⟩ => ?_, rfl, rfl, rfl, Nat.le_refl _, fun _ _ _ => rfl⟩
    · cases id with
      | zero =>
        simp at hh; subst hh
        exact hor _ _ _ _ (lent_sub hT hi (fun b => (hfo _ b).1) rfl) (rr.os i0 _ hi)
      | succ id => simp at hh
    · cases i with
      | zero =>
        cases j with
        | zero => rfl
        | succ j => simp at hj'
      | succ i => simp at hi'
    · cases id with
      | zero => simp at hh; subst hh; exact .inr hf
      | succ id => simp at hh
  rw [← hP]
  refine (h.2 w (C.seen obs ρ) (ρ i0) vs hstart h1 h2).mono fun en w' ⟨us, hen, rs, o', obs', ρ', hp, hul, hu, hw', hf1, hf2, hb⟩ => ?_
  obtain ⟨ρ2, hst, hav⟩ := joinM hT (fun _ h => h) rr hi hog (hfo _) hw' hf2 hb
  rw [← oSet_eq] at hst hav
  refine ⟨pack us, hen, resM i0 g obs.length rs, oSet obs i0 (regO g o') ++ obs', ρ2, hst, ?_, hk rs o' obs' hp⟩
  have each : ∀ (i : Nat) (x : AV) (v : Value), rs[i]? = some x → us[i]? = some v → AVRel (C.V w' (oSet obs i0 (regO g o') ++ obs') ρ2) (oSet obs i0 (regO g o') ++ obs') ρ2 (shiftM i0 g obs.length x) v := fun i x v hx hv =>
    hav x v (List.all_eq_true.1 hf1 _ (List.mem_of_getElem? hx)) (hu i x v hx hv)
  match rs, us, hul with
  | [], [], _ => exact ⟨[], rfl, rfl, by simp⟩
  | [x], [u], _ => exact each 0 x u rfl rfl
  | x :: y :: l, u :: u2 :: us, hul =>
    refine ⟨u :: u2 :: us, by simp [pack], by simpa using hul, fun i a b ha hb => ?_⟩
    rw [List.getElem?_map, Option.map_eq_some_iff] at ha
    obtain ⟨z, hz, rfl⟩ := ha
    exact each i z b hz hb

theorem FunM.call {B C : Ctx} (hP : B.P = C.P) (hT : B.tid = C.tid) {f : FuncId} {args0 : List AV} {e : E} {xs : List e.D} {nn : Bool} {post : List AV → List O → Prop} (h : FunM B f args0 e xs nn post) {obs : List O} {args : List AV} (i0 g : Nat) {nn' : Bool}
    (ho : oAt obs i0 = .arr e xs g nn') (hnn : nn = true → nn' = true) (he : freshE e = true) (ha : argsOkM obs i0 g args args0)
    {K : Sl → List O → Prop} (hk : ∀ rs o' obs', post rs (o' :: obs') → K (resM i0 g obs.length rs) (oSet obs i0 (regO g o') ++ obs')) : ACall C obs f args fun x o => Later (K x o) :=
  FunO.callX hP hT h i0 g ho rfl rfl (fun _ _ => Iff.rfl) (fun w V V' v hs ⟨cs, k1, k2, k3, k4⟩ => ⟨cs, by have : B.tid e = C.tid e := congrFun hT e; rw [this]; exact k1, k2.sub hs, fun k => k3 (hnn k), k4⟩) ha hk

/-- A matrix of one's own, lent. -/
theorem FunO.callMat {B C : Ctx} (hP : B.P = C.P) (hT : B.tid = C.tid) {f : FuncId} {args0 : List AV} {hs : List (Option Nat)} {rows : List (List Int)} {nn : Bool} {post : List AV → List O → Prop} (h : FunO B f args0 (.mat hs rows 0 nn) post) {obs : List O} {args : List AV} (i0 g : Nat) {nn' : Bool}
    (ho : oAt obs i0 = .mat hs rows g nn') (hnn : nn = true → nn' = true) (ha : argsOkM obs i0 g args args0)
    {K : Sl → List O → Prop} (hk : ∀ rs o' obs', post rs (o' :: obs') → K (resM i0 g obs.length rs) (oSet obs i0 (regO g o') ++ obs')) : ACall C obs f args fun x o => Later (K x o) :=
  FunO.callX hP hT h i0 g ho rfl rfl (fun _ _ => Iff.rfl) (fun w V V' v _ k => by
    have h1 : ORel B.tid w V' v (.mat hs rows 0 nn') := ORel.mat_tid (congrFun hT .lrow).symm (congrFun hT .int).symm k
    obtain ⟨cs, k1, k2, k3, k4, k5, k6, k7⟩ := h1
    exact ⟨cs, k1, k2, k3, k4, k5, fun k => k6 (hnn k), k7⟩) ha hk

theorem argsOkM_nil (obs : List O) (i0 g : Nat) : argsOkM obs i0 g [] [] = True := rfl
theorem argsOkM_cons (obs : List O) (i0 g : Nat) (x y : AV) (l r : List AV) : argsOkM obs i0 g (x :: l) (y :: r) = (argOkM obs i0 g x y ∧ argsOkM obs i0 g l r) := rfl
theorem argOkM_own (obs : List O) (i0 g : Nat) (x : AV) : argOkM obs i0 g x (.own 0 0) = (x = .own i0 g) := by cases x <;> rfl
theorem argOkM_int (obs : List O) (i0 g : Nat) (x : AV) (k : IntKind) (n : Int) : argOkM obs i0 g x (.int k n) = (x = .int k n) := by cases x <;> rfl
theorem argOkM_bool (obs : List O) (i0 g : Nat) (x : AV) (n : Bool) : argOkM obs i0 g x (.bool n) = (x = .bool n) := by cases x <;> rfl
theorem argOkM_sl (obs : List O) (i0 g : Nat) (f : Bool) (e e' : E) (xs : List e.D) (ys : List e'.D) : argOkM obs i0 g (.sl f e' ys) (.sl false e xs) = convV e e' ys xs := rfl
theorem argOkM_lr (obs : List O) (i0 g : Nat) (e : E) (xs : List e.D) (l : Nat) (ys : List Int) : argOkM obs i0 g (.lr l ys) (.sl false e xs) = convV e .int ys xs := rfl
theorem argOkM_osl (obs : List O) (i0 g id g' : Nat) (e : E) (xs : List e.D) : argOkM obs i0 g (.own id g') (.sl false e xs) = (id ≠ i0 ∧ argO g' e xs (oAt obs id)) := by rw [← argOk_own]; rfl
theorem regO_arr (g g' : Nat) (e : E) (xs : List e.D) (nn : Bool) : regO g (.arr e xs g' nn) = .arr e xs (g + g') nn := rfl
theorem regO_mat (g g' : Nat) (hs : List (Option Nat)) (rows : List (List Int)) (nn : Bool) : regO g (.mat hs rows g' nn) = .mat hs rows (g + g') nn := rfl
theorem regO_dead (g : Nat) : regO g .dead = .dead := rfl
theorem resM_one (i0 g n : Nat) (x : AV) : resM i0 g n [x] = .v (shiftM i0 g n x) := rfl
theorem resM_zero (i0 g n : Nat) : resM i0 g n [] = .t [] := rfl
theorem resM_two (i0 g n : Nat) (x y : AV) : resM i0 g n [x, y] = .t [shiftM i0 g n x, shiftM i0 g n y] := rfl
theorem shiftM_own (i0 g n g1 : Nat) : shiftM i0 g n (.own 0 g1) = .own i0 (g + g1) := rfl
theorem shiftM_own1 (i0 g n g1 : Nat) : shiftM i0 g n (.own 1 g1) = .own (n + 0) g1 := rfl
theorem shiftM_int (i0 g n : Nat) (k : IntKind) (x : Int) : shiftM i0 g n (.int k x) = .int k x := rfl
theorem shiftM_bool (i0 g n : Nat) (x : Bool) : shiftM i0 g n (.bool x) = .bool x := rfl
theorem shiftM_str (i0 g n : Nat) (x : List UInt8) : shiftM i0 g n (.str x) = .str x := rfl
theorem shiftM_nils (i0 g n : Nat) : shiftM i0 g n .nils = .nils := rfl

theorem AW0 : type_of% @AZ ∧ type_of% @argsOkM_nil ∧ type_of% @argsOkM_cons ∧ type_of% @argOkM_own ∧ type_of% @argOkM_int ∧ type_of% @argOkM_bool ∧ type_of% @argOkM_sl ∧ type_of% @argOkM_lr ∧ type_of% @argOkM_osl ∧ type_of% @regO_arr ∧ type_of% @regO_dead ∧
    type_of% @resM_one ∧ type_of% @resM_zero ∧ type_of% @resM_two ∧ type_of% @shiftM_own ∧ type_of% @shiftM_own1 ∧ type_of% @shiftM_int ∧ type_of% @shiftM_bool ∧ type_of% @shiftM_str ∧ type_of% @shiftM_nils ∧ (∀ n : Nat, n + 0 = n) ∧ type_of% @inN_some ∧ type_of% @inN_none ∧ (∀ p : Prop, (False → p) = True) := by
  refine ⟨AZ, argsOkM_nil, argsOkM_cons, argOkM_own, argOkM_int, argOkM_bool, argOkM_sl, argOkM_lr, argOkM_osl, regO_arr, regO_dead, resM_one, resM_zero, resM_two, shiftM_own, shiftM_own1, shiftM_int, shiftM_bool, shiftM_str, shiftM_nils, fun _ => rfl, inN_some, inN_none, fun _ => by simp⟩
theorem AW : type_of% @AW0 ∧ type_of% @X_copy ∧ type_of% @copyV_own ∧ type_of% @Q_cpO ∧ type_of% @Q_cpE ∧ type_of% @Q_lenM ∧ type_of% @Q_idxM ∧ type_of% @Q_loadM ∧ type_of% @Q_st_own ∧ type_of% @Q_storeM ∧ type_of% @Q_stR ∧ type_of% @Q_stM ∧ type_of% @S_all0 ∧ type_of% @argO_mat ∧ type_of% @regO_mat :=
  ⟨AW0, X_copy, copyV_own, Q_cpO, Q_cpE, Q_lenM, Q_idxM, Q_loadM, Q_st_own, Q_storeM, Q_stR, Q_stM, S_all0, argO_mat, regO_mat⟩
end Go.Aw
