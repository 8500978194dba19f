/- The walk's equations under one name, AX; the opening of a walk. -/
import Derived.Test.YtbeeblhmgpgkjaaAw13
set_option linter.unusedVariables false
set_option linter.unusedSimpArgs false
namespace Go.Aw
open Go

section
variable (b : Option BT) (e e2 : E) (f : Bool) (obs : List O)
theorem Q_apO (id gg g' : Nat) (x : AV) (nn : Bool) (xs : List e2.D) : apO e id gg x obs (.arr e2 xs g' nn) = bif gg == g' && decide (e2.fam = e.fam) then apE id gg nn e e2 xs obs (srcQ e2 x obs (some id)) else .bad := rfl
theorem Q_apE (id gg : Nat) (nn : Bool) (xs ys : List e2.D) : apE id gg nn e e2 xs obs (.yes ys) = .ok ((xs.length + ys.length) * e.bytes ≤ 140737488355328) (.own id (gg + 1)) (oSet obs id (.arr e2 (xs ++ ys) (gg + 1) (nn || !ys.isEmpty))) := rfl
theorem Q_apN (ys : List e.D) : apN e obs (.yes ys) = .ok (ys.length * e.bytes ≤ 140737488355328) (.own obs.length 0) (obs ++ [.arr e ys 0 (!ys.isEmpty)]) := rfl
theorem Q_src_sl (no : Option Nat) (xs : List e2.D) : srcQ e (.sl f e2 xs) obs no = convQ e e2 xs := rfl
theorem Q_src_lr (no : Option Nat) (l : Nat) (xs : List Int) : srcQ e (.lr l xs) obs no = convQ e .int xs := rfl
theorem Q_src_nil (no : Option Nat) : srcQ e .nils obs no = .yes [] := rfl
theorem Q_srO (gg g' : Nat) (nn : Bool) (xs : List e2.D) : srO e gg (.arr e2 xs g' nn) = bif gg == g' then convQ e e2 xs else .no := rfl
theorem Q_cv_int (ys : List Int) : convQ .int .int ys = .yes ys := rfl
theorem Q_cv_byte (ys : List Int) : convQ .byte .byte ys = .yes ys := rfl
theorem Q_cv_bool (ys : List Bool) : convQ .bool .bool ys = .yes ys := rfl
theorem Q_cv_str (ys : List (List UInt8)) : convQ .str .str ys = .yes ys := rfl
theorem Q_cv_row1 (ys : List (List Int)) : convQ (.row true) (.row true) ys = .yes ys := rfl
theorem Q_cv_row2 (ys : List (Nat × List Int)) : convQ (.row true) .lrow ys = .yes (ys.map (·.2)) := rfl
theorem Q_cv_row3 (ys : List (List Int)) : convQ (.row false) (.row f) ys = .yes ys := rfl
theorem Q_cv_row4 (ys : List (Nat × List Int)) : convQ (.row false) .lrow ys = .yes (ys.map (·.2)) := rfl
theorem Q_cv_lrow (ys : List (Nat × List Int)) : convQ .lrow .lrow ys = .yes ys := rfl
theorem Q_cv_vec (ys : List (List Int)) : convQ .vec .vec ys = .yes ys := rfl
theorem Q_slice_sl (lo hi : Option AV) (xs : List e2.D) : sliceQ b (some e) (.sl f e2 xs) lo hi obs = bif e2.size == e.size then sliceV (.sl f e2 xs) lo hi obs else .bad := by
  by_cases h : e2.size = e.size <;> cases b <;> simp [sliceQ, h, Bool.cond_eq_ite]
theorem Q_slice_lr (lo hi : Option AV) (l : Nat) (xs : List Int) : sliceQ b (some e) (.lr l xs) lo hi obs = bif e.size == 1 then sliceV (.lr l xs) lo hi obs else .bad := by
  by_cases h : e.size = 1 <;> cases b <;> simp [sliceQ, h, Bool.cond_eq_ite]
theorem Q_slice_str (g : Option E) (lo hi : Option AV) (s : List UInt8) : sliceQ (some .str) g (.str s) lo hi obs = sliceV (.str s) lo hi obs := rfl
def sQ (obs : List O) (len : Nat) (mk : Int → Int → AV) : Option Int → Option Int → Res
  | some l, some h => .ok (0 ≤ l ∧ l ≤ h ∧ h ≤ len) (mk l h) obs
  | _, _ => .bad
theorem Q_sl_sl (lo hi : Option AV) (xs : List e2.D) : sliceV (.sl f e2 xs) lo hi obs = sQ obs xs.length (fun l h => .sl f e2 ((xs.drop l.toNat).take (h.toNat - l.toNat))) (bnd 0 lo) (bnd xs.length hi) := by
  simp only [sliceV]; cases bnd 0 lo <;> cases bnd xs.length hi <;> rfl
theorem Q_sl_lr (lo hi : Option AV) (l : Nat) (xs : List Int) : sliceV (.lr l xs) lo hi obs = sQ obs xs.length (fun l h => .sl true .int ((xs.drop l.toNat).take (h.toNat - l.toNat))) (bnd 0 lo) (bnd xs.length hi) := by
  simp only [sliceV]; cases bnd 0 lo <;> cases bnd xs.length hi <;> rfl
theorem Q_sl_str (lo hi : Option AV) (xs : List UInt8) : sliceV (.str xs) lo hi obs = sQ obs xs.length (fun l h => .str ((xs.drop l.toNat).take (h.toNat - l.toNat))) (bnd 0 lo) (bnd xs.length hi) := by
  simp only [sliceV]; cases bnd 0 lo <;> cases bnd xs.length hi <;> rfl
theorem Q_sQ (len : Nat) (mk : Int → Int → AV) (l h : Int) : sQ obs len mk (some l) (some h) = .ok (0 ≤ l ∧ l ≤ h ∧ h ≤ len) (mk l h) obs := rfl
theorem Q_bnd0 (d : Int) : bnd d none = some d := rfl
theorem Q_bnd1 (d n : Int) (k : IntKind) : bnd d (some (.int k n)) = some n := rfl
theorem Q_omap0 (g : Operand → AV) : (none : Option Operand).map g = none := rfl
theorem Q_omap1 (g : Operand → AV) (x : Operand) : (some x).map g = some (g x) := rfl
theorem Q_ex (l : List AV) (i : Nat) : exQ (some (true, .t l)) i obs = match l[i]? with
    | some v => .ok True v obs
    | none => .bad := rfl
theorem Q_exv (l : List AV) (i : Nat) (v : AV) (h : l[i]? = some v) : exQ (some (true, .t l)) i obs = .ok True v obs := by rw [Q_ex, h]
def exL (obs : List O) : List AV → Nat → Res
  | [], _ => .bad
  | v :: l, i => bif i == 0 then .ok True v obs else exL obs l (i - 1)
theorem exL_eq : ∀ (l : List AV) (i : Nat), exQ (some (true, .t l)) i obs = exL obs l i
  | [], i => by simp [exL, exQ]
  | v :: l, i => by
    cases i with
    | zero => simp [exL, exQ]
    | succ i => simpa [exL, exQ] using exL_eq l i
end

section
variable (C : Ctx) (ds : Rg) (rest : List Oper) (n : Nat) (fr : List (Nat × Bool × Sl)) (obs o : List O) (K : St → Prop) (d : Nat) (hs : Prop)
theorem S_ok (vc : Prop) (x : AV) : aS C ds rest n fr K hs (.ok vc x obs) (some d) = (d < n ∧ hs ∧ vc ∧ aexec C ds rest ⟨n, (d, true, .v x) :: fr, obs⟩ K) := rfl
theorem S_ok0 (vc : Prop) (x : AV) : aS C ds rest n fr K hs (.ok vc x obs) none = (hs ∧ vc ∧ aexec C ds rest ⟨n, fr, obs⟩ K) := by simp [aS, aR, inN, St.put]
theorem S_skip (vc : Prop) : aS C ds rest n fr K hs (.skip vc obs) none = (hs ∧ vc ∧ aexec C ds rest ⟨n, fr, obs⟩ K) := by simp [aS, aR, inN]
theorem S_all (q : Nat → Prop) (x : AV) (os : Nat → List O) : aS C ds rest n fr K hs (.all q x os) (some d) = (d < n ∧ hs ∧ ∀ l, q l → aexec C ds rest ⟨n, (d, true, .v x) :: fr, os l⟩ K) := rfl
theorem S_all0 (q : Nat → Prop) (x : AV) (os : Nat → List O) : aS C ds rest n fr K hs (.all q x os) none = (hs ∧ ∀ l, q l → aexec C ds rest ⟨n, fr, os l⟩ K) := by simp [aS, aR, inN, St.put]
theorem T_ok (vc : Prop) (x : AV) (ex : Bool) : aT C ds rest n fr obs K hs (.ok vc x o) (some d) (some ex) = (d < n ∧ (ex = true → hs) ∧ (ex = true → vc) ∧ aexec C ds rest ⟨n, (d, ex, .v x) :: fr, obs⟩ K) := rfl
theorem U_ok (f : FuncId) (xs : List AV) (ex : Bool) : aU C ds rest n fr obs K (some d) f hs xs (some ex) = (d < n ∧ (ex = true → hs) ∧ CallH C obs f xs ex (fun x => Later (aexec C ds rest ⟨n, (d, ex, .v x) :: fr, obs⟩ K)) fun x obs' => (ds.kp = true → Keeps obs obs') ∧ Later (aexec C ds rest ⟨n, (d, true, x) :: fr, obs'⟩ K)) := rfl
end

theorem hasL_nil (σ : St) : hasL σ [] = True := rfl
theorem hasL_cons (σ : St) (x : Operand) (l : List Operand) : hasL σ (x :: l) = (σ.has x ∧ hasL σ l) := rfl
theorem evL_nil (σ : St) : evL σ [] = [] := rfl
theorem evL_cons (σ : St) (x : Operand) (l : List Operand) : evL σ (x :: l) = σ.ev x :: evL σ l := rfl
theorem hasP_nil (σ : St) : hasP σ [] = True := rfl
theorem hasP_cons (σ : St) (x : Nat × Operand) (l : List (Nat × Operand)) : hasP σ (x :: l) = (σ.has x.2 ∧ hasP σ l) := rfl
theorem evP_nil (σ : St) : evP σ [] = [] := rfl
theorem evP_cons (σ : St) (i : Nat) (x : Operand) (l : List (Nat × Operand)) : evP σ ((i, x) :: l) = (i, σ.ev x) :: evP σ l := rfl
theorem hasO_none (σ : St) : hasO σ none = True := rfl
theorem hasO_some (σ : St) (x : Operand) : hasO σ (some x) = σ.has x := rfl
theorem oAt_cons (o : O) (r : List O) (k : Nat) : oAt (o :: r) k = bif k == 0 then o else oAt r (k - 1) := rfl
theorem oSet_cons (o : O) (r : List O) (k : Nat) (x : O) : oSet (o :: r) k x = bif k == 0 then x :: r else o :: oSet r (k - 1) x := rfl
theorem resSl_one (n : Nat) (x : AV) : resSl n [x] = .v (shiftAV n x) := rfl
theorem resSl_two (n : Nat) (x y : AV) : resSl n [x, y] = .t [shiftAV n x, shiftAV n y] := rfl
theorem resSl_three (n : Nat) (x y z : AV) : resSl n [x, y, z] = .t [shiftAV n x, shiftAV n y, shiftAV n z] := rfl
theorem resSl_zero (n : Nat) : resSl n [] = .t [] := rfl
theorem shift_own (n id g : Nat) : shiftAV n (.own id g) = .own (n + id) g := rfl
theorem shift_int (n : Nat) (k : IntKind) (x : Int) : shiftAV n (.int k x) = .int k x := rfl
theorem shift_bool (n : Nat) (x : Bool) : shiftAV n (.bool x) = .bool x := rfl
theorem shift_str (n : Nat) (x : List UInt8) : shiftAV n (.str x) = .str x := rfl
theorem shift_sl (n : Nat) (f : Bool) (e : E) (x : List e.D) : shiftAV n (.sl f e x) = .sl f e x := rfl
theorem shift_lr (n l : Nat) (x : List Int) : shiftAV n (.lr l x) = .lr l x := rfl
theorem shift_nils (n : Nat) : shiftAV n .nils = .nils := rfl
theorem shift_vec (n : Nat) (x : List Int) : shiftAV n (.vec x) = .vec x := rfl
theorem shift_fn (n f : Nat) : shiftAV n (.fn f) = .fn f := rfl
theorem buildQ_row (n : Nat) (parts : List (Nat × AV)) (obs : List O) : buildQ .lrow n parts obs = bif seqF 0 parts n && (Nat.ble n 1000) then buildR obs (partV parts) else .bad := by
  simp [buildQ, E.size]
theorem buildQ_int (n : Nat) (parts : List (Nat × AV)) (obs : List O) : buildQ .int n parts obs = bif seqF 0 parts n && (Nat.ble n 1000) then allQ .int obs (strOk (partV parts)) (allEQ .int (partV parts)) else .bad := by
  simp [buildQ, E.size]
theorem buildQ_byte (n : Nat) (parts : List (Nat × AV)) (obs : List O) : buildQ .byte n parts obs = bif seqF 0 parts n && (Nat.ble n 1000) then allQ .byte obs (strOk (partV parts)) (allEQ .byte (partV parts)) else .bad := by
  simp [buildQ, E.size]
theorem buildQ_str (n : Nat) (parts : List (Nat × AV)) (obs : List O) : buildQ .str n parts obs = bif seqF 0 parts n && (Nat.ble n 1000) then allQ .str obs (strOk (partV parts)) (allEQ .str (partV parts)) else .bad := by
  simp [buildQ, E.size]
theorem buildQ_bool (n : Nat) (parts : List (Nat × AV)) (obs : List O) : buildQ .bool n parts obs = bif seqF 0 parts n && (Nat.ble n 1000) then allQ .bool obs (strOk (partV parts)) (allEQ .bool (partV parts)) else .bad := by
  simp [buildQ, E.size]
theorem seqF_nil (i n : Nat) : seqF i [] n = (i == n) := rfl
theorem seqF_cons (i k : Nat) (x : AV) (l : List (Nat × AV)) (n : Nat) : seqF i ((k, x) :: l) n = ((k == i) && seqF (i + 1) l n) := rfl
theorem partV_nil : partV [] = [] := rfl
theorem partV_cons (k : Nat) (x : AV) (l : List (Nat × AV)) : partV ((k, x) :: l) = x :: partV l := rfl
theorem strOk_nil : strOk [] = True := rfl
theorem strOk_int (k : IntKind) (x : Int) (l : List AV) : strOk (.int k x :: l) = strOk l := rfl
theorem strOk_bool (x : Bool) (l : List AV) : strOk (.bool x :: l) = strOk l := rfl
theorem strOk_str (x : List UInt8) (l : List AV) : strOk (.str x :: l) = (x.length ≤ maxLen ∧ strOk l) := rfl
def allC (e : E) : OD e → OL e → OL e
  | .yes d, .yes l => .yes (d :: l)
  | _, _ => .no
theorem allE_nil (e : E) : allEQ e [] = .yes [] := rfl
theorem allE_cons (e : E) (x : AV) (r : List AV) : allEQ e (x :: r) = allC e (toQ e x) (allEQ e r) := by
  simp only [allEQ, toQ, allE]; cases toE e x <;> cases allE e r <;> rfl
theorem allC_some (e : E) (d : e.D) (l : List e.D) : allC e (.yes d) (.yes l) = .yes (d :: l) := rfl
theorem allQ_some (e : E) (obs : List O) (vc : Prop) (l : List e.D) : allQ e obs vc (.yes l) = .ok vc (.own obs.length 0) (obs ++ [.arr e l 0 true]) := rfl
theorem buildR_nil (obs : List O) : buildR obs [] = .ok True (.own obs.length 0) (obs ++ [.arr .lrow [] 0 true]) := rfl
theorem buildR_lr (obs : List O) (l : Nat) (xs : List Int) : buildR obs [.lr l xs] = .ok True (.own obs.length 0) (obs ++ [.arr .lrow [(l, xs)] 0 true]) := rfl
theorem buildR_own (obs : List O) (id g : Nat) : buildR obs [.own id g] = ownRowQ id g obs (oAt obs id) := rfl
theorem buildR_slt (obs : List O) (xs : List Int) : buildR obs [.sl true .int xs] = .ok True (.own obs.length 0) (obs ++ [.arr (.row true) [xs] 0 true]) := rfl
theorem buildR_slf (obs : List O) (xs : List Int) : buildR obs [.sl false .int xs] = rowsQ (rowsOf [.sl false .int xs] obs) obs := rfl
theorem buildR_two (obs : List O) (x y : AV) (l : List AV) : buildR obs (x :: y :: l) = rowsQ (rowsOf (x :: y :: l) obs) obs := by
  cases x with
  | sl f e xs => cases e <;> cases f <;> rfl
  | _ => rfl
theorem ownRow_arr (id g g' : Nat) (obs : List O) (xs : List Int) : ownRowQ id g obs (.arr .int xs g' true) = bif g == g' then .all (FreshL obs) (.own obs.length 0) (fun l => oSet obs id .dead ++ [.arr .lrow [(l, xs)] 0 true]) else .bad := rfl
theorem rowsQ_some (l : List (List Int)) (o obs : List O) : rowsQ (some (l, o)) obs = .ok True (.own obs.length 0) (o ++ [.arr (.row false) l 0 true]) := rfl
def rowC (xs : List Int) : Option (List (List Int) × List O) → Option (List (List Int) × List O)
  | some p => some (xs :: p.1, p.2)
  | none => none
def rowO (id g : Nat) (r : List AV) (obs : List O) : O → Option (List (List Int) × List O)
  | .arr .int xs g' _ => bif g == g' then rowC xs (rowsOf r (oSet obs id .dead)) else none
  | _ => none
theorem rowC_some (xs : List Int) (l : List (List Int)) (o : List O) : rowC xs (some (l, o)) = some (xs :: l, o) := rfl
theorem rowsOf_nil (obs : List O) : rowsOf [] obs = some ([], obs) := rfl
theorem rowC_eq (xs : List Int) (o : Option (List (List Int) × List O)) : o.map (fun p => (xs :: p.1, p.2)) = rowC xs o := by cases o <;> rfl
theorem rowsOf_sl (f : Bool) (xs : List Int) (r : List AV) (obs : List O) : rowsOf (.sl f .int xs :: r) obs = rowC xs (rowsOf r obs) := rowC_eq ..
theorem rowsOf_lr (l : Nat) (xs : List Int) (r : List AV) (obs : List O) : rowsOf (.lr l xs :: r) obs = rowC xs (rowsOf r obs) := rowC_eq ..
theorem rowsOf_own (id g : Nat) (r : List AV) (obs : List O) : rowsOf (.own id g :: r) obs = rowO id g r obs (oAt obs id) := by
  rw [at_arr]; simp only [rowsOf]
  cases h : obs[id]? with
  | none => rfl
  | some o => cases o with
    | dead => rfl
    | mat _ _ _ _ => rfl
    | arr e xs g' nn =>
      cases e <;> try rfl
      by_cases hg : g = g' <;> simp [rowO, hg, oSet_eq, Bool.cond_eq_ite, rowC_eq]
theorem rowO_arr (id g g' : Nat) (nn : Bool) (r : List AV) (obs : List O) (xs : List Int) : rowO id g r obs (.arr .int xs g' nn) = bif g == g' then rowC xs (rowsOf r (oSet obs id .dead)) else none := rfl
theorem sz_int : E.size .int = 1 := rfl
theorem sz_byte : E.size .byte = 1 := rfl
theorem sz_bool : E.size .bool = 1 := rfl
theorem sz_str : E.size .str = 1 := rfl
theorem sz_row (f : Bool) : E.size (.row f) = 1 := rfl
theorem sz_lrow : E.size .lrow = 1 := rfl
theorem sz_vec : E.size .vec = 4 := rfl
theorem by_int : E.bytes .int = 8 := rfl
theorem by_byte : E.bytes .byte = 1 := rfl
theorem by_bool : E.bytes .bool = 1 := rfl
theorem by_str : E.bytes .str = 16 := rfl
theorem by_row (f : Bool) : E.bytes (.row f) = 24 := rfl
theorem by_lrow : E.bytes .lrow = 24 := rfl
theorem by_vec : E.bytes .vec = 32 := rfl
theorem fam_row (f : Bool) : E.fam (.row f) = .lrow := rfl
theorem fam_lrow : E.fam .lrow = .lrow := rfl
theorem fam_int : E.fam .int = .int := rfl
theorem fam_byte : E.fam .byte = .byte := rfl
theorem fam_bool : E.fam .bool = .bool := rfl
theorem fam_str : E.fam .str = .str := rfl
theorem fam_vec : E.fam .vec = .vec := rfl
theorem dec_self {α : Type} [DecidableEq α] (a : α) : decide (a = a) = true := by simp
theorem dfl_int : E.dflt .int = (0 : Int) := rfl
theorem dfl_byte : E.dflt .byte = (0 : Int) := rfl
theorem dfl_bool : E.dflt .bool = false := rfl
theorem dfl_str : E.dflt .str = ([] : List UInt8) := rfl
theorem dfl_row (f : Bool) : E.dflt (.row f) = ([] : List Int) := rfl
theorem dfl_lrow : E.dflt .lrow = ((0, []) : Nat × List Int) := rfl
theorem sc_eq (C : Ctx) (t : TypeId) : C.sc t = ((C.bt t).isSome || (C.Γ t).isSome) := rfl
theorem some_beq (a b : Nat) : ((some a : Option Nat) == some b) = (a == b) := rfl
theorem none_beq (b : Nat) : ((none : Option Nat) == some b) = false := rfl
theorem lift_Later (p : Prop) : Later p = p := rfl
theorem app_one (a o : O) (l : List O) : (a :: l) ++ [o] = a :: (l ++ [o]) := rfl
theorem app_cons (a : O) (l r : List O) : (a :: l) ++ r = a :: (l ++ r) := rfl
theorem app_nil (r : List O) : [] ++ r = r := rfl
theorem len_cons (o : O) (l : List O) : (o :: l).length = l.length + 1 := rfl
theorem len_nil : ([] : List O).length = 0 := rfl
theorem ble_eq (a b : Nat) : Nat.ble a b = decide (a ≤ b) := by rw [Bool.eq_iff_iff]; simp
theorem zadd (n : Nat) : 0 + n = n := Nat.zero_add n
theorem bT (b : Bool) : (b == true) = b := by cases b <;> rfl
theorem bF (b : Bool) : (b == false) = !b := by cases b <;> rfl
theorem exL_cons (obs : List O) (v : AV) (l : List AV) (i : Nat) : exL obs (v :: l) i = bif i == 0 then .ok True v obs else exL obs l (i - 1) := rfl
theorem AX0 : type_of% @Q_add ∧
    type_of% @Q_sub ∧
    type_of% @Q_mul ∧
    type_of% @Q_quo ∧
    type_of% @Q_rem ∧
    type_of% @Q_eql ∧
    type_of% @Q_neq ∧
    type_of% @Q_lss ∧
    type_of% @Q_leq ∧
    type_of% @Q_gtr ∧
    type_of% @Q_geq ∧
    type_of% @Q_beq ∧
    type_of% @Q_bne ∧
    type_of% @Q_seq ∧
    type_of% @Q_sne ∧
    type_of% @Q_sadd ∧
    type_of% @Q_neg ∧
    type_of% @Q_not ∧
    type_of% @Q_max ∧
    type_of% @Q_min ∧
    type_of% @Q_pick ∧
    type_of% @Q_len_sl ∧
    type_of% @Q_len_lr ∧
    type_of% @Q_len_nil ∧
    type_of% @Q_len_own ∧
    type_of% @Q_len_str ∧
    type_of% @Q_lenO ∧
    type_of% @Q_idx_sl ∧
    type_of% @Q_idx_lr ∧
    type_of% @Q_idxO ∧
    type_of% @Q_load ∧
    type_of% @Q_loadO ∧
    type_of% @Q_ofE_int ∧
    type_of% @Q_ofE_byte ∧
    type_of% @Q_ofE_bool ∧
    type_of% @Q_ofE_str ∧
    type_of% @Q_ofE_row ∧
    type_of% @Q_ofE_lrow ∧
    type_of% @Q_ofE_vec ∧
    type_of% @Q_st_int ∧
    type_of% @Q_st_bool ∧
    type_of% @Q_st_sl ∧
    type_of% @Q_st_lr ∧
    type_of% @Q_storeO ∧
    type_of% @Q_stE ∧
    type_of% @Q_toE_int ∧
    type_of% @Q_toE_byte ∧
    type_of% @Q_toE_bool ∧
    type_of% @Q_toE_str ∧
    type_of% @Q_toE_row1 ∧
    type_of% @Q_toE_row2 ∧
    type_of% @Q_toE_row3 ∧
    type_of% @Q_toE_row4 ∧
    type_of% @Q_toE_lrow ∧
    type_of% @Q_make_int ∧
    type_of% @Q_make_byte ∧
    type_of% @Q_make_bool ∧
    type_of% @Q_make_str ∧
    type_of% @Q_make_row ∧
    type_of% @buildV_eq :=
  ⟨Q_add, Q_sub, Q_mul, Q_quo, Q_rem, Q_eql, Q_neq, Q_lss, Q_leq, Q_gtr, Q_geq, Q_beq, Q_bne, Q_seq, Q_sne, Q_sadd, Q_neg, Q_not, Q_max, Q_min, Q_pick, Q_len_sl, Q_len_lr, Q_len_nil, Q_len_own, Q_len_str, Q_lenO, Q_idx_sl, Q_idx_lr, Q_idxO, Q_load, Q_loadO, Q_ofE_int, Q_ofE_byte, Q_ofE_bool, Q_ofE_str, Q_ofE_row, Q_ofE_lrow, Q_ofE_vec, Q_st_int, Q_st_bool, Q_st_sl, Q_st_lr, Q_storeO, Q_stE, Q_toE_int, Q_toE_byte, Q_toE_bool, Q_toE_str, Q_toE_row1, Q_toE_row2, Q_toE_row3, Q_toE_row4, Q_toE_lrow, Q_make_int, Q_make_byte, Q_make_bool, Q_make_str, Q_make_row, buildV_eq⟩
theorem AX1 : type_of% @Q_apO ∧
    type_of% @Q_apE ∧
    type_of% @Q_apN ∧
    type_of% @Q_src_sl ∧
    type_of% @Q_src_lr ∧
    type_of% @Q_src_nil ∧
    type_of% @Q_srO ∧
    type_of% @Q_cv_int ∧
    type_of% @Q_cv_byte ∧
    type_of% @Q_cv_bool ∧
    type_of% @Q_cv_str ∧
    type_of% @Q_cv_row1 ∧
    type_of% @Q_cv_row2 ∧
    type_of% @Q_cv_row3 ∧
    type_of% @Q_cv_row4 ∧
    type_of% @Q_cv_lrow ∧
    type_of% @Q_cv_vec ∧
    type_of% @Q_slice_sl ∧
    type_of% @Q_slice_lr ∧
    type_of% @Q_slice_str ∧
    type_of% @Q_sl_sl ∧
    type_of% @Q_sl_lr ∧
    type_of% @Q_sl_str ∧
    type_of% @Q_sQ ∧
    type_of% @Q_bnd0 ∧
    type_of% @Q_bnd1 ∧
    type_of% @Q_omap0 ∧
    type_of% @Q_omap1 ∧
    type_of% @exL_eq ∧
    type_of% @S_ok ∧
    type_of% @S_ok0 ∧
    type_of% @S_skip ∧
    type_of% @S_all ∧
    type_of% @T_ok ∧
    type_of% @U_ok ∧
    type_of% @hasL_nil ∧
    type_of% @hasL_cons ∧
    type_of% @evL_nil ∧
    type_of% @evL_cons ∧
    type_of% @hasP_nil ∧
    type_of% @hasP_cons ∧
    type_of% @evP_nil ∧
    type_of% @evP_cons ∧
    type_of% @hasO_none ∧
    type_of% @hasO_some ∧
    type_of% @oAt_cons ∧
    type_of% @oSet_cons ∧
    type_of% @resSl_one ∧
    type_of% @resSl_two ∧
    type_of% @resSl_three ∧
    type_of% @resSl_zero ∧
    type_of% @shift_own ∧
    type_of% @shift_int ∧
    type_of% @shift_bool ∧
    type_of% @shift_str ∧
    type_of% @shift_sl ∧
    type_of% @shift_lr ∧
    type_of% @shift_nils ∧
    type_of% @shift_vec ∧
    type_of% @shift_fn :=
  ⟨Q_apO, Q_apE, Q_apN, Q_src_sl, Q_src_lr, Q_src_nil, Q_srO, Q_cv_int, Q_cv_byte, Q_cv_bool, Q_cv_str, Q_cv_row1, Q_cv_row2, Q_cv_row3, Q_cv_row4, Q_cv_lrow, Q_cv_vec, Q_slice_sl, Q_slice_lr, Q_slice_str, Q_sl_sl, Q_sl_lr, Q_sl_str, Q_sQ, Q_bnd0, Q_bnd1, Q_omap0, Q_omap1, exL_eq, S_ok, S_ok0, S_skip, S_all, T_ok, U_ok, hasL_nil, hasL_cons, evL_nil, evL_cons, hasP_nil, hasP_cons, evP_nil, evP_cons, hasO_none, hasO_some, oAt_cons, oSet_cons, resSl_one, resSl_two, resSl_three, resSl_zero, shift_own, shift_int, shift_bool, shift_str, shift_sl, shift_lr, shift_nils, shift_vec, shift_fn⟩
theorem AX2 : type_of% @buildQ_row ∧
    type_of% @buildQ_int ∧
    type_of% @buildQ_byte ∧
    type_of% @buildQ_str ∧
    type_of% @buildQ_bool ∧
    type_of% @seqF_nil ∧
    type_of% @seqF_cons ∧
    type_of% @partV_nil ∧
    type_of% @partV_cons ∧
    type_of% @strOk_nil ∧
    type_of% @strOk_int ∧
    type_of% @strOk_bool ∧
    type_of% @strOk_str ∧
    type_of% @allE_nil ∧
    type_of% @allE_cons ∧
    type_of% @allC_some ∧
    type_of% @allQ_some ∧
    type_of% @buildR_nil ∧
    type_of% @buildR_lr ∧
    type_of% @buildR_own ∧
    type_of% @buildR_slt ∧
    type_of% @buildR_slf ∧
    type_of% @buildR_two ∧
    type_of% @ownRow_arr ∧
    type_of% @rowsQ_some ∧
    type_of% @rowC_some ∧
    type_of% @rowsOf_nil ∧
    type_of% @rowsOf_sl ∧
    type_of% @rowsOf_lr ∧
    type_of% @rowsOf_own ∧
    type_of% @rowO_arr ∧
    type_of% @sz_int ∧
    type_of% @sz_byte ∧
    type_of% @sz_bool ∧
    type_of% @sz_str ∧
    type_of% @sz_row ∧
    type_of% @sz_lrow ∧
    type_of% @sz_vec ∧
    type_of% @by_int ∧
    type_of% @by_byte ∧
    type_of% @by_bool ∧
    type_of% @by_str ∧
    type_of% @by_row ∧
    type_of% @by_lrow ∧
    type_of% @by_vec ∧
    type_of% @fam_row ∧
    type_of% @fam_lrow ∧
    type_of% @fam_int ∧
    type_of% @fam_byte ∧
    type_of% @fam_bool ∧
    type_of% @fam_str ∧
    type_of% @fam_vec ∧
    type_of% @dec_self ∧
    type_of% @dfl_int ∧
    type_of% @dfl_byte ∧
    type_of% @dfl_bool ∧
    type_of% @dfl_str ∧
    type_of% @dfl_row ∧
    type_of% @dfl_lrow ∧
    type_of% @sc_eq :=
  ⟨buildQ_row, buildQ_int, buildQ_byte, buildQ_str, buildQ_bool, seqF_nil, seqF_cons, partV_nil, partV_cons, strOk_nil, strOk_int, strOk_bool, strOk_str, allE_nil, allE_cons, allC_some, allQ_some, buildR_nil, buildR_lr, buildR_own, buildR_slt, buildR_slf, buildR_two, ownRow_arr, rowsQ_some, rowC_some, rowsOf_nil, rowsOf_sl, rowsOf_lr, rowsOf_own, rowO_arr, sz_int, sz_byte, sz_bool, sz_str, sz_row, sz_lrow, sz_vec, by_int, by_byte, by_bool, by_str, by_row, by_lrow, by_vec, fam_row, fam_lrow, fam_int, fam_byte, fam_bool, fam_str, fam_vec, dec_self, dfl_int, dfl_byte, dfl_bool, dfl_str, dfl_row, dfl_lrow, sc_eq⟩
theorem AX3 : type_of% @some_beq ∧
    type_of% @none_beq ∧
    type_of% @app_one ∧
    type_of% @app_cons ∧
    type_of% @app_nil ∧
    type_of% @len_cons ∧
    type_of% @len_nil ∧
    type_of% @ble_eq ∧
    type_of% @zadd ∧
    type_of% @bT ∧
    type_of% @bF ∧
    type_of% @lenV_own ∧
    type_of% @idxV_own ∧
    type_of% @loadV_elt ∧
    type_of% @storeV_elt ∧
    type_of% @appendV_own ∧
    type_of% @appendV_nil ∧
    type_of% @srcL_own ∧
    type_of% @put_s ∧
    type_of% @put_n ∧
    type_of% @X_move ∧ type_of% @X_movec ∧ type_of% @X_movef ∧ type_of% @slS_some ∧ type_of% @slS_none ∧
    type_of% @X_assign ∧
    type_of% @X_bin ∧
    type_of% @X_un ∧
    type_of% @X_pick ∧
    type_of% @X_load ∧
    type_of% @X_store ∧
    type_of% @X_idx ∧
    type_of% @X_make ∧
    type_of% @X_build ∧
    type_of% @X_slice ∧
    type_of% @X_ex ∧
    type_of% @X_len ∧
    type_of% @X_max ∧
    type_of% @X_min ∧
    type_of% @X_append ∧
    type_of% @X_call ∧
    type_of% @G_move ∧
    type_of% @G_bin ∧
    type_of% @G_un ∧
    type_of% @G_pick ∧
    type_of% @G_load ∧
    type_of% @G_idx ∧
    type_of% @G_len ∧
    type_of% @G_slice ∧
    type_of% @G_ex ∧
    type_of% @G_call ∧
    type_of% @aexec_nil ∧
    type_of% @ev_tmp ∧
    type_of% @ev_int ∧
    type_of% @ev_bool ∧
    type_of% @ev_str ∧
    type_of% @ev_nil ∧
    type_of% @ev_func ∧
    type_of% @has_tmp ∧
    type_of% @has_const ∧
    type_of% @has_func ∧
    type_of% @slV_v ∧
    type_of% @slV_t ∧
    type_of% @slV_none :=
  ⟨some_beq, none_beq, app_one, app_cons, app_nil, len_cons, len_nil, ble_eq, zadd, bT, bF, lenV_own, idxV_own, loadV_elt, storeV_elt, appendV_own, appendV_nil, srcL_own, put_s, put_n, X_move, X_movec, X_movef, slS_some, slS_none, X_assign, X_bin, X_un, X_pick, X_load, X_store, X_idx, X_make, X_build, X_slice, X_ex, X_len, X_max, X_min, X_append, X_call, G_move, G_bin, G_un, G_pick, G_load, G_idx, G_len, G_slice, G_ex, G_call, aexec_nil, ev_tmp, ev_int, ev_bool, ev_str, ev_nil, ev_func, has_tmp, has_const, has_func, slV_v, slV_t, slV_none⟩
theorem AX4 : type_of% @slH_some ∧
    type_of% @slH_none ∧
    type_of% @look_nil ∧
    type_of% @look_cons ∧
    type_of% @slotOf_cons ∧
    type_of% @lookO_some ∧
    type_of% @gexV_b ∧
    type_of% @exL_cons :=
  ⟨slH_some, slH_none, look_nil, look_cons, slotOf_cons, lookO_some, gexV_b, exL_cons⟩
theorem AX : type_of% @AX0 ∧ type_of% @AX1 ∧ type_of% @AX2 ∧ type_of% @AX3 ∧ type_of% @AX4 := ⟨AX0, AX1, AX2, AX3, AX4⟩
end Go.Aw
