/- The walk's equations on values; all of them under one name, AX. -/
import Derived.Test.YtbeeblhmgpgkjaaAw12
set_option linter.unusedVariables false
set_option linter.unusedSimpArgs false
namespace Go.Aw
open Go

/-! ### int, bool, str -/
section
variable (b : Option BT) (gq : Option E) (k : IntKind) (x y : Int) (obs : List O)
theorem Q_add : binQ b gq .add (.int k x) (.int k y) obs = .ok True (.int k (k.wrap (x + y))) obs := by simp [binQ, binV, arith]
theorem Q_sub : binQ b gq .sub (.int k x) (.int k y) obs = .ok True (.int k (k.wrap (x - y))) obs := by simp [binQ, binV, arith]
theorem Q_mul : binQ b gq .mul (.int k x) (.int k y) obs = .ok True (.int k (k.wrap (x * y))) obs := by simp [binQ, binV, arith]
theorem Q_quo : binQ b gq .quo (.int k x) (.int k y) obs = .ok (y ≠ 0) (.int k (k.wrap (x.tdiv y))) obs := by simp [binQ, binV, arith, cmpi]
theorem Q_rem : binQ b gq .rem (.int k x) (.int k y) obs = .ok (y ≠ 0) (.int k (x.tmod y)) obs := by simp [binQ, binV, arith, cmpi]
theorem Q_eql : binQ b gq .eql (.int k x) (.int k y) obs = .ok True (.bool (x == y)) obs := by simp [binQ, binV, arith, cmpi]
theorem Q_neq : binQ b gq .neq (.int k x) (.int k y) obs = .ok True (.bool (x != y)) obs := by simp [binQ, binV, arith, cmpi]
theorem Q_lss : binQ b gq .lss (.int k x) (.int k y) obs = .ok True (.bool (decide (x < y))) obs := by simp [binQ, binV, arith, cmpi]
theorem Q_leq : binQ b gq .leq (.int k x) (.int k y) obs = .ok True (.bool (decide (x ≤ y))) obs := by simp [binQ, binV, arith, cmpi]
theorem Q_gtr : binQ b gq .gtr (.int k x) (.int k y) obs = .ok True (.bool (decide (y < x))) obs := by simp [binQ, binV, arith, cmpi]
theorem Q_geq : binQ b gq .geq (.int k x) (.int k y) obs = .ok True (.bool (decide (y ≤ x))) obs := by simp [binQ, binV, arith, cmpi]
theorem Q_beq (u v : Bool) : binQ (some .bool) gq .eql (.bool u) (.bool v) obs = .ok True (.bool (u == v)) obs := rfl
theorem Q_bne (u v : Bool) : binQ (some .bool) gq .neq (.bool u) (.bool v) obs = .ok True (.bool (u != v)) obs := rfl
theorem Q_seq (u v : List UInt8) : binQ b gq .eql (.str u) (.str v) obs = .ok True (.bool (u == v)) obs := rfl
theorem Q_sne (u v : List UInt8) : binQ b gq .neq (.str u) (.str v) obs = .ok True (.bool (u != v)) obs := rfl
theorem Q_sadd (u v : List UInt8) : binQ b gq .add (.str u) (.str v) obs = .ok (u.length + v.length ≤ maxLen) (.str (u ++ v)) obs := rfl
theorem Q_neg : unV .neg (.int k x) obs = .ok True (.int k (k.wrap (0 - x))) obs := rfl
theorem Q_not (u : Bool) : unV .not (.bool u) obs = .ok True (.bool !u) obs := rfl
theorem Q_max (k' : IntKind) : maxV true (.int k x) (.int k' y) obs = .ok True (.int k (if y > x then y else x)) obs := rfl
theorem Q_min (k' : IntKind) : maxV false (.int k x) (.int k' y) obs = .ok True (.int k (if y < x then y else x)) obs := rfl
theorem Q_pick (p q : Prop) (t u v : Bool) : pickQ p q (.bool t) (.bool u) (.bool v) obs = .ok ((t = true → p) ∧ (t = false → q)) (.bool (bif t then u else v)) obs := rfl
end

/-! ### slices -/
section
variable (b : Option BT) (g : Option E) (e e2 : E) (f : Bool) (obs : List O)
theorem Q_len_sl (xs : List e2.D) : lenQ b (some e) (.sl f e2 xs) obs = .ok True (.int .i64 xs.length) obs := by cases b <;> rfl
theorem Q_len_lr (l : Nat) (xs : List Int) : lenQ b (some e) (.lr l xs) obs = .ok True (.int .i64 xs.length) obs := by cases b <;> rfl
theorem Q_len_nil : lenQ b (some e) .nils obs = .ok True (.int .i64 0) obs := by cases b <;> rfl
theorem Q_len_own (id gg : Nat) : lenQ b (some e) (.own id gg) obs = lenO gg obs (oAt obs id) := by rw [← lenV_own]; cases b <;> rfl
theorem Q_len_str (s : List UInt8) : lenQ (some .str) g (.str s) obs = .ok True (.int .i64 s.length) obs := rfl
theorem Q_lenO (gg g' : Nat) (nn : Bool) (xs : List e.D) : lenO gg obs (.arr e xs g' nn) = bif gg == g' then .ok True (.int .i64 xs.length) obs else .bad := rfl
theorem Q_idx_sl (k : IntKind) (n : Int) (xs : List e.D) : idxV (some e2) (.sl f e xs) (.int k n) obs = bif e.size == e2.size then .ok (0 ≤ n ∧ n < xs.length) (.relt f e (xs.getD n.toNat e.dflt)) obs else .bad := by
  by_cases h : e.size = e2.size <;> simp [idxV, h, Bool.cond_eq_ite]
theorem Q_idx_lr (k : IntKind) (n : Int) (l : Nat) (xs : List Int) : idxV (some e2) (.lr l xs) (.int k n) obs = bif e2.size == 1 then .ok (0 ≤ n ∧ n < xs.length) (.relt true .int (xs.getD n.toNat 0)) obs else .bad := by
  by_cases h : e2.size = 1 <;> simp [idxV, h, Bool.cond_eq_ite]
theorem Q_idxO (id gg g' : Nat) (n : Int) (nn : Bool) (xs : List e.D) : idxO e2 id gg n obs (.arr e xs g' nn) = bif gg == g' && (e.size == e2.size) then .ok (0 ≤ n ∧ n < xs.length) (.elt id gg e.size n.toNat) obs else .bad := rfl
theorem Q_load (d : e.D) : loadV true (.relt f e d) obs = bif e.size == 1 then .ok True (ofE e d) obs else .bad := by
  by_cases h : e.size = 1 <;> simp [loadV, h, Bool.cond_eq_ite]
theorem Q_loadO (sc : Bool) (gg g' s k : Nat) (nn : Bool) (xs : List e.D) : loadO sc gg s k obs (.arr e xs g' nn) = bif gg == g' && (s == e.size) && sc && (e.size == 1) then .ok True (ofE e (xs.getD k e.dflt)) obs else .bad := rfl
theorem Q_ofE_int (d : Int) : ofE .int d = .int .i64 d := rfl
theorem Q_ofE_byte (d : Int) : ofE .byte d = .int .u8 d := rfl
theorem Q_ofE_bool (d : Bool) : ofE .bool d = .bool d := rfl
theorem Q_ofE_str (d : List UInt8) : ofE .str d = .str d := rfl
theorem Q_ofE_row (d : List Int) : ofE (.row f) d = .sl f .int d := rfl
theorem Q_ofE_lrow (d : Nat × List Int) : ofE .lrow d = .lr d.1 d.2 := rfl
theorem Q_ofE_vec (d : List Int) : ofE .vec d = .vec d := rfl
theorem Q_st_int (sc : Bool) (x : AV) (k : IntKind) (n : Int) : storeQ sc x (.int k n) obs = storeV sc x (.int k n) obs := rfl
theorem Q_st_bool (sc : Bool) (x : AV) (n : Bool) : storeQ sc x (.bool n) obs = storeV sc x (.bool n) obs := rfl
theorem Q_st_sl (sc : Bool) (x : AV) (xs : List e.D) : storeQ sc x (.sl f e xs) obs = storeV sc x (.sl f e xs) obs := rfl
theorem Q_st_lr (sc : Bool) (x : AV) (l : Nat) (xs : List Int) : storeQ sc x (.lr l xs) obs = storeV sc x (.lr l xs) obs := rfl
theorem Q_storeO (sc : Bool) (id gg g' s k : Nat) (nn : Bool) (xs : List e.D) (y : AV) : storeO sc id gg s k y obs (.arr e xs g' nn) = bif gg == g' && (s == e.size) && sc && (e.size == 1) then stE id k gg nn e xs obs (toQ e y) else .bad := rfl
theorem Q_stE (id k gg : Nat) (nn : Bool) (xs : List e.D) (d : e.D) : stE id k gg nn e xs obs (.yes d) = .skip True (oSet obs id (.arr e (xs.set k d) gg nn)) := rfl
theorem Q_toE_int (n : Int) : toQ .int (.int .i64 n) = .yes n := rfl
theorem Q_toE_byte (n : Int) : toQ .byte (.int .u8 n) = .yes n := rfl
theorem Q_toE_bool (n : Bool) : toQ .bool (.bool n) = .yes n := rfl
theorem Q_toE_str (n : List UInt8) : toQ .str (.str n) = .yes n := rfl
theorem Q_toE_row1 (xs : List Int) : toQ (.row true) (.sl true .int xs) = .yes xs := rfl
theorem Q_toE_row2 (l : Nat) (xs : List Int) : toQ (.row true) (.lr l xs) = .yes xs := rfl
theorem Q_toE_row3 (xs : List Int) : toQ (.row false) (.sl f .int xs) = .yes xs := rfl
theorem Q_toE_row4 (l : Nat) (xs : List Int) : toQ (.row false) (.lr l xs) = .yes xs := rfl
theorem Q_toE_lrow (l : Nat) (xs : List Int) : toQ .lrow (.lr l xs) = .yes (l, xs) := rfl
def zrep : Option e.D → Int → Int → Res
  | some z, n, m => .ok (n = m ∧ 0 ≤ n ∧ e.bytes * n ≤ 281474976710656) (.own obs.length 0) (obs ++ [.arr e (List.replicate n.toNat z) 0 true])
  | none, _, _ => .bad
theorem Q_make_int (k k' : IntKind) (n m : Int) : makeV (some .int) (.int k n) (.int k' m) obs = .ok (n = m ∧ 0 ≤ n ∧ 8 * n ≤ 281474976710656) (.own obs.length 0) (obs ++ [.arr .int (List.replicate n.toNat (0 : Int)) 0 true]) := rfl
theorem Q_make_byte (k k' : IntKind) (n m : Int) : makeV (some .byte) (.int k n) (.int k' m) obs = .ok (n = m ∧ 0 ≤ n ∧ 1 * n ≤ 281474976710656) (.own obs.length 0) (obs ++ [.arr .byte (List.replicate n.toNat (0 : Int)) 0 true]) := rfl
theorem Q_make_bool (k k' : IntKind) (n m : Int) : makeV (some .bool) (.int k n) (.int k' m) obs = .ok (n = m ∧ 0 ≤ n ∧ 1 * n ≤ 281474976710656) (.own obs.length 0) (obs ++ [.arr .bool (List.replicate n.toNat false) 0 true]) := rfl
theorem Q_make_str (k k' : IntKind) (n m : Int) : makeV (some .str) (.int k n) (.int k' m) obs = .ok (n = m ∧ 0 ≤ n ∧ 16 * n ≤ 281474976710656) (.own obs.length 0) (obs ++ [.arr .str (List.replicate n.toNat ([] : List UInt8)) 0 true]) := rfl
theorem Q_make_row (k k' : IntKind) (n m : Int) : makeV (some .lrow) (.int k n) (.int k' m) obs = .ok (n = m ∧ 0 ≤ n ∧ 24 * n ≤ 281474976710656) (.own obs.length 0) (obs ++ [.mat (List.replicate n.toNat none) (List.replicate n.toNat []) 0 true]) := rfl
theorem Q_lenM (gg g' : Nat) (nn : Bool) (hs : List (Option Nat)) (rows : List (List Int)) : lenO gg obs (.mat hs rows g' nn) = bif gg == g' then .ok True (.int .i64 rows.length) obs else .bad := rfl
theorem Q_idxM (id gg g' : Nat) (n : Int) (nn : Bool) (hs : List (Option Nat)) (rows : List (List Int)) : idxO e2 id gg n obs (.mat hs rows g' nn) = bif gg == g' && (e2.size == 1) then .ok (0 ≤ n ∧ n < rows.length) (.elt id gg 1 n.toNat) obs else .bad := rfl
theorem Q_loadM (sc : Bool) (gg g' s k : Nat) (nn : Bool) (hs : List (Option Nat)) (rows : List (List Int)) : loadO sc gg s k obs (.mat hs rows g' nn) = bif gg == g' && (s == 1) && sc then .ok True (.hdr (hs.getD k none) (rows.getD k []).length) obs else .bad := rfl
theorem Q_st_own (sc : Bool) (x : AV) (l g : Nat) : storeQ sc x (.own l g) obs = storeV sc x (.own l g) obs := rfl
theorem Q_storeM (sc : Bool) (id gg g' s k : Nat) (nn : Bool) (hs : List (Option Nat)) (rows : List (List Int)) (y : AV) : storeO sc id gg s k y obs (.mat hs rows g' nn) = bif gg == g' && (s == 1) && sc then stR id k hs rows gg nn obs y else .bad := rfl
theorem Q_stR (id k id2 g2 gg : Nat) (nn : Bool) (hs : List (Option Nat)) (rows : List (List Int)) : stR id k hs rows gg nn obs (.own id2 g2) = stM id id2 g2 k hs rows gg nn obs (oAt obs id2) := rfl
theorem Q_stM (id k id2 g2 gg g' : Nat) (nn : Bool) (hs : List (Option Nat)) (rows : List (List Int)) (xs : List Int) : stM id id2 g2 k hs rows gg nn obs (.arr .int xs g' true) =
    bif g2 == g' then .all (fun _ => True) .junk (fun h => oSet (oSet obs id2 .dead) id (.mat (hs.set k (some h)) (rows.set k xs) gg nn)) else .bad := rfl
theorem Q_cpO (id gg g' : Nat) (nn : Bool) (xs : List Int) (x : AV) : cpO id gg x obs (.arr .int xs g' nn) = bif gg == g' then cpE id gg nn xs obs (srcQ .int x obs (some id)) else .bad := rfl
theorem Q_cpE (id gg : Nat) (nn : Bool) (xs zs : List Int) : cpE id gg nn xs obs (.yes zs) = .ok True (.int .i64 (min zs.length xs.length : Nat)) (oSet obs id (.arr .int (zs.take xs.length ++ xs.drop zs.length) gg nn)) := rfl
theorem Q_nil_sl (b : Option BT) (e2 : E) (f : Bool) (xs : List e.D) : binQ b (some e2) .eql (.sl f e xs) .nils obs = .ok (xs ≠ []) (.bool false) obs := by cases b <;> rfl
theorem Q_nil_emp (b : Option BT) (e2 : E) (t : Bool) : binQ b (some e2) .eql (.emp t) .nils obs = .ok True (.bool t) obs := by cases b <;> rfl
theorem Q_nil_nil (b : Option BT) (e2 : E) : binQ b (some e2) .eql .nils .nils obs = .ok True (.bool true) obs := by cases b <;> rfl
theorem Q_len_emp (b : Option BT) (e2 : E) (t : Bool) : lenQ b (some e2) (.emp t) obs = .ok True (.int .i64 0) obs := by cases b <;> rfl
theorem Q_src_emp (e2 : E) (no : Option Nat) (t : Bool) : srcQ e2 (.emp t) obs no = .yes [] := rfl
/-- The parts of a literal slice are numbered in order. -/
def seqF : Nat → List (Nat × AV) → Nat → Bool
  | i, [], n => i == n
  | i, p :: l, n => (p.1 == i) && seqF (i + 1) l n
def partV : List (Nat × AV) → List AV
  | [] => []
  | p :: l => p.2 :: partV l
theorem partV_eq : ∀ l : List (Nat × AV), partV l = l.map (·.2)
  | [] => rfl
  | p :: l => by simp [partV, partV_eq l]
theorem seqF_eq : ∀ (l : List (Nat × AV)) (i n : Nat), seqF i l n = true ↔ l.map (·.1) = List.range' i (n - i) ∧ i ≤ n
  | [], i, n => by
    simp only [seqF, beq_iff_eq, List.map_nil]
    constructor
    · rintro rfl; simp
    · rintro ⟨h, h1⟩
      have := congrArg List.length h
      simp at this
      omega
  | p :: l, i, n => by
    simp only [seqF, Bool.and_eq_true, beq_iff_eq, seqF_eq l (i + 1) n, List.map_cons]
    constructor
    · rintro ⟨h, h1, h2⟩
      have : n - i = (n - (i + 1)) + 1 := by omega
      rw [this, List.range'_succ, h1, h]
      exact ⟨rfl, by omega⟩
    · rintro ⟨h, h1⟩
      have hl := congrArg List.length h
      simp at hl
      have : n - i = (n - (i + 1)) + 1 := by omega
      rw [this, List.range'_succ] at h
      simp only [List.cons.injEq] at h
      exact ⟨h.1, h.2, by omega⟩
def strOk : List AV → Prop
  | [] => True
  | .str s :: l => s.length ≤ maxLen ∧ strOk l
  | _ :: l => strOk l
theorem strOk_eq : ∀ l : List AV, strOk l ↔ ∀ s, AV.str s ∈ l → s.length ≤ maxLen
  | [] => by simp [strOk]
  | x :: l => by
    cases x <;> simp [strOk, strOk_eq l, or_imp, forall_and]
def allQ (e : E) (obs : List O) (vc : Prop) : OL e → Res
  | .yes l => .ok vc (.own obs.length 0) (obs ++ [.arr e l 0 true])
  | .no => .bad
def rowsQ : Option (List (List Int) × List O) → List O → Res
  | some (l, obs'), obs => .ok True (.own obs.length 0) (obs' ++ [.arr (.row false) l 0 true])
  | none, _ => .bad
def ownRowQ (id gg : Nat) (obs : List O) : O → Res
  | .arr .int xs g' true => bif gg == g' then .all (FreshL obs) (.own obs.length 0) (fun l => oSet obs id .dead ++ [.arr .lrow [(l, xs)] 0 true]) else .bad
  | _ => .bad
/-- A slice written out, by shape. -/
def buildR (obs : List O) : List AV → Res
  | [] => .ok True (.own obs.length 0) (obs ++ [.arr .lrow [] 0 true])
  | [.lr l xs] => .ok True (.own obs.length 0) (obs ++ [.arr .lrow [(l, xs)] 0 true])
  | [.sl true .int xs] => .ok True (.own obs.length 0) (obs ++ [.arr (.row true) [xs] 0 true])
  | [.own id g] => ownRowQ id g obs (oAt obs id)
  | l => rowsQ (rowsOf l obs) obs
def buildQ (e : E) (n : Nat) (parts : List (Nat × AV)) (obs : List O) : Res :=
  bif seqF 0 parts n && (Nat.ble n 1000) && (e.size == 1) then
    match e with
    | .lrow => buildR obs (partV parts)
    | e => allQ e obs (strOk (partV parts)) (allEQ e (partV parts))
  else .bad
theorem buildV_eq (e : E) (n : Nat) (parts : List (Nat × AV)) (obs : List O) : buildV (some e) n parts obs = buildQ e n parts obs := by
  have hb : (seqF 0 parts n && (Nat.ble n 1000) && (e.size == 1)) = decide (parts.map (·.1) = List.range n ∧ n ≤ 1000 ∧ e.size = 1) := by
    rw [Bool.eq_iff_iff]
    simp [seqF_eq, List.range_eq_range', and_assoc]
  simp only [buildV, buildQ, hb]
  by_cases hP : parts.map (·.1) = List.range n ∧ n ≤ 1000 ∧ e.size = 1
  · rw [if_pos hP, decide_eq_true hP, cond_true]
    by_cases he : e = .lrow
    · subst he
      rw [if_pos rfl]
      simp only [partV_eq]
      have hrows : ∀ l : List AV, (match rowsOf l obs with | some (l, obs') => Res.ok True (.own obs.length 0) (obs' ++ [.arr (.row false) l 0 true]) | none => .bad) = rowsQ (rowsOf l obs) obs := fun l => by
        rcases rowsOf l obs with _ | ⟨a, b⟩ <;> rfl
      match parts with
      | [] => rfl
      | [(a, x)] =>
        have hx := hrows [x]
        cases x with
        | sl f e xs => cases e <;> cases f <;> first | rfl | exact hx
        | own id g =>
          simp only [List.map_cons, List.map_nil, buildR]
          rw [at_arr]
          cases h : obs[id]? with
          | none => rfl
          | some o => cases o with
            | dead => rfl
            | mat _ _ _ _ => rfl
            | arr e xs g' nn => cases e <;> cases nn <;> first | rfl | (by_cases hg : g = g' <;> simp [ownRowQ, hg, oSet_eq, Bool.cond_eq_ite])
        | lr l xs => rfl
        | _ => exact hx
      | (a, x) :: (b, y) :: l =>
        have hx := hrows (x :: y :: l.map (·.2))
        cases x with
        | sl f e xs => cases e <;> cases f <;> exact hx
        | _ => exact hx
    · rw [if_neg he]
      have hall : ∀ o : Option (List e.D), (match o with | some l => Res.ok (∀ s, AV.str s ∈ parts.map (·.2) → s.length ≤ maxLen) (.own obs.length 0) (obs ++ [.arr e l 0 true]) | none => .bad) = allQ e obs (strOk (partV parts)) (.of o) := fun o => by
        have : (∀ s, AV.str s ∈ parts.map (·.2) → s.length ≤ maxLen) = strOk (partV parts) := by rw [strOk_eq, partV_eq]
        cases o with
        | none => rfl
        | some l => simp only [allQ, ← this, OL.of]
      have hx := hall (allE e (parts.map (·.2)))
      rw [← partV_eq] at hx ⊢
      cases e <;> first | exact absurd rfl he | exact hx
  · rw [if_neg hP, decide_eq_false hP]; rfl
end
end Go.Aw
