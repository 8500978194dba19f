/- The walk's equations on values; all of them under one name, AX. -/
import Derived.Test.YtaghdbbcadhjdaaGreatDoorAw3
import Derived.Orders
set_option linter.unusedVariables false
set_option linter.unusedSimpArgs false
namespace Go.Aw
open Go
section
variable (b : Option BT) (gq : Option E) (k : IntKind) (x y : Int) (obs : List O)
theorem Q_add : binQ b gq .add (.int k x) (.int k y) obs = .ok True (.int k (k.wrap (x + y))) obs := by simp [binQ, binV, binI, sameK]
theorem Q_sub : binQ b gq .sub (.int k x) (.int k y) obs = .ok True (.int k (k.wrap (x - y))) obs := by simp [binQ, binV, binI, sameK]
theorem Q_mul : binQ b gq .mul (.int k x) (.int k y) obs = .ok True (.int k (k.wrap (x * y))) obs := by simp [binQ, binV, binI, sameK]
theorem Q_quo : binQ b gq .quo (.int k x) (.int k y) obs = .ok (y ≠ 0) (.int k (k.wrap (x.tdiv y))) obs := by simp [binQ, binV, binI, sameK]
theorem Q_rem : binQ b gq .rem (.int k x) (.int k y) obs = .ok (y ≠ 0) (.int k (x.tmod y)) obs := by simp [binQ, binV, binI, sameK]
theorem Q_eql : binQ b gq .eql (.int k x) (.int k y) obs = .ok True (.bool (x == y)) obs := by simp [binQ, binV, binI, sameK]
theorem Q_neq : binQ b gq .neq (.int k x) (.int k y) obs = .ok True (.bool (x != y)) obs := by simp [binQ, binV, binI, sameK]
theorem Q_lss : binQ b gq .lss (.int k x) (.int k y) obs = .ok True (.bool (decide (x < y))) obs := by simp [binQ, binV, binI, sameK]
theorem Q_leq : binQ b gq .leq (.int k x) (.int k y) obs = .ok True (.bool (decide (x ≤ y))) obs := by simp [binQ, binV, binI, sameK]
theorem Q_gtr : binQ b gq .gtr (.int k x) (.int k y) obs = .ok True (.bool (decide (y < x))) obs := by simp [binQ, binV, binI, sameK]
theorem Q_geq : binQ b gq .geq (.int k x) (.int k y) obs = .ok True (.bool (decide (y ≤ x))) obs := by simp [binQ, binV, binI, sameK]
theorem Q_and : binQ b gq .and (.int k x) (.int k y) obs = .ok True (.int k (andI k x y)) obs := by simp [binQ, binV, binI, sameK]
theorem Q_or : binQ b gq .or (.int k x) (.int k y) obs = .ok True (.int k (orI k x y)) obs := by simp [binQ, binV, binI, sameK]
theorem Q_xor : binQ b gq .xor (.int k x) (.int k y) obs = .ok True (.int k (xorI k x y)) obs := by simp [binQ, binV, binI, sameK]
theorem Q_shl (k' : IntKind) : binQ b gq .shl (.int k x) (.int k' y) obs = .ok (0 ≤ y) (.int k (k.wrap (x * 2 ^ min y.toNat k.bits))) obs := by simp [binQ, binV, binI]
theorem Q_shr (k' : IntKind) : binQ b gq .shr (.int k x) (.int k' y) obs = .ok (0 ≤ y) (.int k (x / 2 ^ min y.toNat k.bits)) obs := by simp [binQ, binV, binI]
theorem Q_cnv_int (s : BT) (k' : IntKind) : cnvV (some s) (some (.int k')) gq (.int k x) obs = .ok True (.int k' (k'.wrap x)) obs := rfl
theorem Q_cnv_sl (f : Bool) (xs : List Int) : cnvV b (some .str) (some .byte) (.sl f .byte xs) obs = .ok True (.str (bytesOf xs)) obs := rfl
def cnvO (g : Nat) (obs : List O) : O → Res
  | .arr .byte xs g' _ => bif g == g' then .ok True (.str (bytesOf xs)) obs else .bad
  | _ => .bad
theorem Q_cnv_own (id g : Nat) : cnvV b (some .str) (some .byte) (.own id g) obs = cnvO g obs (oAt obs id) := by
  rw [at_arr]
  unfold cnvV
  simp only
  cases obs[id]? with
  | none => rfl
  | some o =>
    cases o with
    | arr e xs g' nn =>
      cases e <;> first | rfl | skip
      simp only [cnvO, and_true]
      by_cases h : g = g'
      · subst h; simp
      · rw [if_neg h, show (g == g') = false from by simpa using h]; rfl
    | _ => rfl
theorem Q_cnvO (g g' : Nat) (xs : List Int) (nn : Bool) : cnvO g obs (.arr .byte xs g' nn) = bif g == g' then .ok True (.str (bytesOf xs)) obs else .bad := rfl
theorem Q_six (s : List UInt8) : sixV (some .str) (.str s) (.int k x) obs = .ok (0 ≤ x ∧ x < s.length) (.int .u8 (s.getD x.toNat 0).toNat) obs := rfl
theorem Q_beq (u v : Bool) : binQ (some .bool) gq .eql (.bool u) (.bool v) obs = .ok True (.bool (u == v)) obs := rfl
theorem Q_bne (u v : Bool) : binQ (some .bool) gq .neq (.bool u) (.bool v) obs = .ok True (.bool (u != v)) obs := rfl
theorem Q_seq (u v : List UInt8) : binQ b gq .eql (.str u) (.str v) obs = .ok True (.bool (u == v)) obs := rfl
theorem Q_sne (u v : List UInt8) : binQ b gq .neq (.str u) (.str v) obs = .ok True (.bool (u != v)) obs := rfl
theorem Q_sadd (u v : List UInt8) : binQ b gq .add (.str u) (.str v) obs = .ok (u.length + v.length ≤ maxLen) (.str (u ++ v)) obs := rfl
theorem Q_neg : unV .neg (.int k x) obs = .ok True (.int k (k.wrap (0 - x))) obs := rfl
theorem Q_not (u : Bool) : unV .not (.bool u) obs = .ok True (.bool !u) obs := rfl
theorem Q_max (k' : IntKind) : maxV true (.int k x) (.int k' y) obs = .ok True (.int k (if y > x then y else x)) obs := rfl
theorem Q_min (k' : IntKind) : maxV false (.int k x) (.int k' y) obs = .ok True (.int k (if y < x then y else x)) obs := rfl
theorem Q_pick (p q : Prop) (t u v : Bool) : pickQ p q (.bool t) (.bool u) (.bool v) obs = .ok ((t = true → p) ∧ (t = false → q)) (.bool (bif t then u else v)) obs := rfl
end
section
variable (b : Option BT) (g : Option E) (e e2 : E) (f : Bool) (obs : List O)
theorem Q_len_sl (xs : List e2.D) : lenQ b (some e) (.sl f e2 xs) obs = .ok True (.int .i64 xs.length) obs := by cases b <;> rfl
theorem Q_len_lr (l : Nat) (xs : List Int) : lenQ b (some e) (.lr l xs) obs = .ok True (.int .i64 xs.length) obs := by cases b <;> rfl
theorem Q_len_nil : lenQ b (some e) .nils obs = .ok True (.int .i64 0) obs := by cases b <;> rfl
theorem Q_len_own (id gg : Nat) : lenQ b (some e) (.own id gg) obs = lenO gg obs (oAt obs id) := by rw [← lenV_own]; cases b <;> rfl
theorem Q_len_str (s : List UInt8) : lenQ (some .str) g (.str s) obs = .ok True (.int .i64 s.length) obs := rfl
theorem Q_lenO (gg g' : Nat) (nn : Bool) (xs : List e.D) : lenO gg obs (.arr e xs g' nn) = bif gg == g' then .ok True (.int .i64 xs.length) obs else .bad := rfl
theorem Q_idx_sl (k : IntKind) (n : Int) (xs : List e.D) : idxV (some e2) (.sl f e xs) (.int k n) obs = bif e.size == e2.size then .ok (0 ≤ n ∧ n < xs.length) (.relt f e (xs.getD n.toNat e.dflt)) obs else .bad := by
  by_cases h : e.size = e2.size <;> simp [idxV, h, Bool.cond_eq_ite]
theorem Q_idx_lr (k : IntKind) (n : Int) (l : Nat) (xs : List Int) : idxV (some e2) (.lr l xs) (.int k n) obs = bif e2.size == 1 then .ok (0 ≤ n ∧ n < xs.length) (.relt true .int (xs.getD n.toNat 0)) obs else .bad := by
  by_cases h : e2.size = 1 <;> simp [idxV, h, Bool.cond_eq_ite]
theorem Q_idxO (id gg g' : Nat) (n : Int) (nn : Bool) (xs : List e.D) : idxO e2 id gg n obs (.arr e xs g' nn) = bif gg == g' && (e.size == e2.size) then .ok (0 ≤ n ∧ n < xs.length) (.elt id gg e.size n.toNat) obs else .bad := rfl
theorem Q_load (d : e.D) : loadV true (.relt f e d) obs = bif e.size == 1 then .ok True (ofE e d) obs else .bad := by
  by_cases h : e.size = 1 <;> simp [loadV, h, Bool.cond_eq_ite]
theorem Q_loadO (sc : Bool) (gg g' s k : Nat) (nn : Bool) (xs : List e.D) : loadO sc gg s k obs (.arr e xs g' nn) = bif gg == g' && (s == e.size) && sc && (e.size == 1) then .ok True (ofE e (xs.getD k e.dflt)) obs else .bad := rfl
theorem Q_ofE_int (d : Int) : ofE .int d = .int .i64 d := rfl
theorem Q_ofE_byte (d : Int) : ofE .byte d = .int .u8 d := rfl
theorem Q_ofE_bool (d : Bool) : ofE .bool d = .bool d := rfl
theorem Q_ofE_str (d : List UInt8) : ofE .str d = .str d := rfl
theorem Q_ofE_row (d : List Int) : ofE (.row f) d = .sl f .int d := rfl
theorem Q_ofE_lrow (d : Nat × List Int) : ofE .lrow d = .lr d.1 d.2 := rfl
theorem Q_ofE_vec (d : List Int) : ofE .vec d = .vec d := rfl
theorem Q_st_int (sc : Bool) (x : AV) (k : IntKind) (n : Int) : storeQ sc x (.int k n) obs = storeV sc x (.int k n) obs := rfl
theorem Q_st_bool (sc : Bool) (x : AV) (n : Bool) : storeQ sc x (.bool n) obs = storeV sc x (.bool n) obs := rfl
theorem Q_st_sl (sc : Bool) (x : AV) (xs : List e.D) : storeQ sc x (.sl f e xs) obs = storeV sc x (.sl f e xs) obs := rfl
theorem Q_st_lr (sc : Bool) (x : AV) (l : Nat) (xs : List Int) : storeQ sc x (.lr l xs) obs = storeV sc x (.lr l xs) obs := rfl
theorem Q_storeO (sc : Bool) (id gg g' s k : Nat) (nn : Bool) (xs : List e.D) (y : AV) : storeO sc id gg s k y obs (.arr e xs g' nn) = bif gg == g' && (s == e.size) && sc && (e.size == 1) then stE id k gg nn e xs obs (toQ e y) else .bad := rfl
theorem Q_stE (id k gg : Nat) (nn : Bool) (xs : List e.D) (d : e.D) : stE id k gg nn e xs obs (.yes d) = .skip True (oSet obs id (.arr e (xs.set k d) gg nn)) := rfl
theorem Q_toE_int (n : Int) : toQ .int (.int .i64 n) = .yes n := rfl
theorem Q_toE_byte (n : Int) : toQ .byte (.int .u8 n) = .yes n := rfl
theorem Q_toE_bool (n : Bool) : toQ .bool (.bool n) = .yes n := rfl
theorem Q_toE_str (n : List UInt8) : toQ .str (.str n) = .yes n := rfl
theorem Q_toE_row1 (xs : List Int) : toQ (.row true) (.sl true .int xs) = .yes xs := rfl
theorem Q_toE_row2 (l : Nat) (xs : List Int) : toQ (.row true) (.lr l xs) = .yes xs := rfl
theorem Q_toE_row3 (xs : List Int) : toQ (.row false) (.sl f .int xs) = .yes xs := rfl
theorem Q_toE_row4 (l : Nat) (xs : List Int) : toQ (.row false) (.lr l xs) = .yes xs := rfl
theorem Q_toE_lrow (l : Nat) (xs : List Int) : toQ .lrow (.lr l xs) = .yes (l, xs) := rfl
theorem Q_make_int (k k' : IntKind) (n m : Int) : makeV (some .int) (.int k n) (.int k' m) obs = .ok (n = m ∧ 0 ≤ n ∧ 8 * n ≤ 281474976710656) (.own obs.length 0) (obs ++ [.arr .int (List.replicate n.toNat (0 : Int)) 0 true]) := rfl
theorem Q_make_byte (k k' : IntKind) (n m : Int) : makeV (some .byte) (.int k n) (.int k' m) obs = .ok (n = m ∧ 0 ≤ n ∧ 1 * n ≤ 281474976710656) (.own obs.length 0) (obs ++ [.arr .byte (List.replicate n.toNat (0 : Int)) 0 true]) := rfl
theorem Q_make_bool (k k' : IntKind) (n m : Int) : makeV (some .bool) (.int k n) (.int k' m) obs = .ok (n = m ∧ 0 ≤ n ∧ 1 * n ≤ 281474976710656) (.own obs.length 0) (obs ++ [.arr .bool (List.replicate n.toNat false) 0 true]) := rfl
theorem Q_make_str (k k' : IntKind) (n m : Int) : makeV (some .str) (.int k n) (.int k' m) obs = .ok (n = m ∧ 0 ≤ n ∧ 16 * n ≤ 281474976710656) (.own obs.length 0) (obs ++ [.arr .str (List.replicate n.toNat ([] : List UInt8)) 0 true]) := rfl
theorem Q_make_row (k k' : IntKind) (n m : Int) : makeV (some .lrow) (.int k n) (.int k' m) obs = .ok (n = m ∧ 0 ≤ n ∧ 24 * n ≤ 281474976710656) (.own obs.length 0) (obs ++ [.mat (List.replicate n.toNat none) (List.replicate n.toNat []) 0 true]) := rfl
theorem Q_lenM (gg g' : Nat) (nn : Bool) (hs : List (Option Nat)) (rows : List (List Int)) : lenO gg obs (.mat hs rows g' nn) = bif gg == g' then .ok True (.int .i64 rows.length) obs else .bad := rfl
theorem Q_idxM (id gg g' : Nat) (n : Int) (nn : Bool) (hs : List (Option Nat)) (rows : List (List Int)) : idxO e2 id gg n obs (.mat hs rows g' nn) = bif gg == g' && (e2.size == 1) then .ok (0 ≤ n ∧ n < rows.length) (.elt id gg 1 n.toNat) obs else .bad := rfl
theorem Q_loadM (sc : Bool) (gg g' s k : Nat) (nn : Bool) (hs : List (Option Nat)) (rows : List (List Int)) : loadO sc gg s k obs (.mat hs rows g' nn) = bif gg == g' && (s == 1) && sc then .ok True (.hdr (hs.getD k none) (rows.getD k []).length) obs else .bad := rfl
theorem Q_st_own (sc : Bool) (x : AV) (l g : Nat) : storeQ sc x (.own l g) obs = storeV sc x (.own l g) obs := rfl
theorem Q_storeM (sc : Bool) (id gg g' s k : Nat) (nn : Bool) (hs : List (Option Nat)) (rows : List (List Int)) (y : AV) : storeO sc id gg s k y obs (.mat hs rows g' nn) = bif gg == g' && (s == 1) && sc then stR id k hs rows gg nn obs y else .bad := rfl
theorem Q_stR (id k id2 g2 gg : Nat) (nn : Bool) (hs : List (Option Nat)) (rows : List (List Int)) : stR id k hs rows gg nn obs (.own id2 g2) = stM id id2 g2 k hs rows gg nn obs (oAt obs id2) := rfl
theorem Q_stM (id k id2 g2 gg g' : Nat) (nn : Bool) (hs : List (Option Nat)) (rows : List (List Int)) (xs : List Int) : stM id id2 g2 k hs rows gg nn obs (.arr .int xs g' true) =
    bif g2 == g' then .all (fun _ => True) .junk (fun h => oSet (oSet obs id2 .dead) id (.mat (hs.set k (some h)) (rows.set k xs) gg nn)) else .bad := rfl
theorem Q_lenG (D : List Nat) (F : Nat → List Int) (hs : List Nat) (gg g' : Nat) (nn : Bool) : lenO gg obs (.gm D F hs g' nn) = bif gg == g' then .ok True (.int .i64 hs.length) obs else .bad := rfl
theorem Q_idxG (D : List Nat) (F : Nat → List Int) (hs : List Nat) (id gg g' : Nat) (n : Int) (nn : Bool) : idxO e2 id gg n obs (.gm D F hs g' nn) = bif gg == g' && (e2.size == 1) then .ok (0 ≤ n ∧ n < hs.length) (.elt id gg 1 n.toNat) obs else .bad := rfl
theorem Q_loadG (D : List Nat) (F : Nat → List Int) (hs : List Nat) (sc : Bool) (gg g' s k : Nat) (nn : Bool) : loadO sc gg s k obs (.gm D F hs g' nn) = bif gg == g' && (s == 1) && sc then .ok True (.hdr (some (hs.getD k 0)) (F (hs.getD k 0)).length) obs else .bad := rfl
theorem Q_storeG (D : List Nat) (F : Nat → List Int) (hs : List Nat) (sc : Bool) (id gg g' s k : Nat) (nn : Bool) (y : AV) : storeO sc id gg s k y obs (.gm D F hs g' nn) = bif gg == g' && (s == 1) && sc then stH id k D F hs gg nn obs y else .bad := rfl
theorem Q_stH (D : List Nat) (F : Nat → List Int) (hs : List Nat) (id k h m gg : Nat) (nn : Bool) : stH id k D F hs gg nn obs (.hdr (some h) m) = .skip (h ∈ D ∧ m = (F h).length) (oSet obs id (.gm D F (hs.set k h) gg nn)) := rfl
theorem Q_st_hdr (sc : Bool) (x : AV) (h : Option Nat) (m : Nat) : storeQ sc x (.hdr h m) obs = storeV sc x (.hdr h m) obs := rfl
theorem Q_len_hdr (h m : Nat) : lenQ b (some e) (.hdr (some h) m) obs = .ok True (.int .i64 m) obs := by cases b <;> rfl
theorem Q_idx_hdr (k : IntKind) (n : Int) (h m : Nat) : idxV (some e2) (.hdr (some h) m) (.int k n) obs = bif e2.size == 1 then .ok (0 ≤ n ∧ n < m) (.hp h n.toNat) obs else .bad := by
  by_cases h : e2.size = 1 <;> simp [idxV, h, Bool.cond_eq_ite]
theorem Q_load_hp (h k : Nat) (D : List Nat) (F : Nat → List Int) (hs : List Nat) (gg : Nat) (nn : Bool) (r : List O) : loadV true (.hp h k) (.gm D F hs gg nn :: r) = .ok (h ∈ D ∧ k < (F h).length) (.int .i64 ((F h).getD k 0)) (.gm D F hs gg nn :: r) := rfl
theorem Q_store_hp (h k : Nat) (n : Int) (D : List Nat) (F : Nat → List Int) (hs : List Nat) (gg : Nat) (nn : Bool) (r : List O) : storeV true (.hp h k) (.int .i64 n) (.gm D F hs gg nn :: r) = .skip (h ∈ D ∧ k < (F h).length) (.gm D (updF F h k n) hs gg nn :: r) := rfl
theorem Q_cpO (id gg g' : Nat) (nn : Bool) (xs : List Int) (x : AV) : cpO id gg x obs (.arr .int xs g' nn) = bif gg == g' then cpE id gg nn xs obs (srcQ .int x obs (some id)) else .bad := rfl
theorem Q_cpE (id gg : Nat) (nn : Bool) (xs zs : List Int) : cpE id gg nn xs obs (.yes zs) = .ok True (.int .i64 (min zs.length xs.length : Nat)) (oSet obs id (.arr .int (zs.take xs.length ++ xs.drop zs.length) gg nn)) := rfl
theorem Q_nil_sl (b : Option BT) (e2 : E) (f : Bool) (xs : List e.D) : binQ b (some e2) .eql (.sl f e xs) .nils obs = .ok (xs ≠ []) (.bool false) obs := by cases b <;> rfl
theorem Q_nil_emp (b : Option BT) (e2 : E) (t : Bool) : binQ b (some e2) .eql (.emp t) .nils obs = .ok True (.bool t) obs := by cases b <;> rfl
theorem Q_nil_nil (b : Option BT) (e2 : E) : binQ b (some e2) .eql .nils .nils obs = .ok True (.bool true) obs := by cases b <;> rfl
theorem Q_len_emp (b : Option BT) (e2 : E) (t : Bool) : lenQ b (some e2) (.emp t) obs = .ok True (.int .i64 0) obs := by cases b <;> rfl
theorem Q_len_lenv (b : Option BT) (e2 : E) (n : Nat) : lenQ b (some e2) (.lenv n) obs = .ok True (.int .i64 n) obs := by cases b <;> rfl
theorem Q_src_emp (e2 : E) (no : Option Nat) (t : Bool) : srcQ e2 (.emp t) obs no = .yes [] := rfl
def seqF : Nat → List (Nat × AV) → Nat → Bool
  | i, [], n => i == n
  | i, p :: l, n => (p.1 == i) && seqF (i + 1) l n
def partV : List (Nat × AV) → List AV
  | [] => []
  | p :: l => p.2 :: partV l
theorem partV_eq : ∀ l : List (Nat × AV), partV l = l.map (·.2)
  | [] => rfl
  | p :: l => by simp [partV, partV_eq l]
theorem seqF_eq : ∀ (l : List (Nat × AV)) (i n : Nat), seqF i l n = true ↔ l.map (·.1) = List.range' i (n - i) ∧ i ≤ n
  | [], i, n => by
    simp only [seqF, beq_iff_eq, List.map_nil]
    constructor
    · rintro rfl; simp
    · rintro ⟨h, h1⟩
      have := congrArg List.length h
      simp at this
      omega
  | p :: l, i, n => by
    simp only [seqF, Bool.and_eq_true, beq_iff_eq, seqF_eq l (i + 1) n, List.map_cons]
    constructor
    · rintro ⟨h, h1, h2⟩
      have : n - i = (n - (i + 1)) + 1 := by omega
      rw [this, List.range'_succ, h1, h]
      exact ⟨rfl, by omega⟩
    · rintro ⟨h, h1⟩
      have hl := congrArg List.length h
      simp at hl
      have : n - i = (n - (i + 1)) + 1 := by omega
      rw [this, List.range'_succ] at h
      simp only [List.cons.injEq] at h
      exact ⟨h.1, h.2, by omega⟩
def strOk : List AV → Prop
  | [] => True
  | .str s :: l => s.length ≤ maxLen ∧ strOk l
  | _ :: l => strOk l
theorem strOk_eq : ∀ l : List AV, strOk l ↔ ∀ s, AV.str s ∈ l → s.length ≤ maxLen
  | [] => by simp [strOk]
  | x :: l => by
    cases x <;> simp [strOk, strOk_eq l, or_imp, forall_and]
def allQ (e : E) (obs : List O) (vc : Prop) : OL e → Res
  | .yes l => .ok vc (.own obs.length 0) (obs ++ [.arr e l 0 true])
  | .no => .bad
def rowsQ : Option (List (List Int) × List O) → List O → Res
  | some (l, obs'), obs => .ok True (.own obs.length 0) (obs' ++ [.arr (.row false) l 0 true])
  | none, _ => .bad
def ownRowQ (id gg : Nat) (obs : List O) : O → Res
  | .arr .int xs g' true => bif gg == g' then .all (FreshL obs) (.own obs.length 0) (fun l => oSet obs id .dead ++ [.arr .lrow [(l, xs)] 0 true]) else .bad
  | _ => .bad
def buildR (obs : List O) : List AV → Res
  | [] => .ok True (.own obs.length 0) (obs ++ [.arr .lrow [] 0 true])
  | [.lr l xs] => .ok True (.own obs.length 0) (obs ++ [.arr .lrow [(l, xs)] 0 true])
  | [.sl true .int xs] => .ok True (.own obs.length 0) (obs ++ [.arr (.row true) [xs] 0 true])
  | [.own id g] => ownRowQ id g obs (oAt obs id)
  | l => rowsQ (rowsOf l obs) obs
def buildQ (e : E) (n : Nat) (parts : List (Nat × AV)) (obs : List O) : Res :=
  bif seqF 0 parts n && (Nat.ble n 1000) then
    match e with
    | .lrow => buildR obs (partV parts)
    | e => allQ e obs (strOk (partV parts)) (allEQ e (partV parts))
  else .bad
theorem buildV_eq (e : E) (n : Nat) (parts : List (Nat × AV)) (obs : List O) : buildV (some e) n parts obs = buildQ e n parts obs := by
  have hb : (seqF 0 parts n && (Nat.ble n 1000)) = decide (parts.map (·.1) = List.range n ∧ n ≤ 1000) := by
    rw [Bool.eq_iff_iff]
    simp [seqF_eq, List.range_eq_range', and_assoc]
  simp only [buildV, buildQ, hb]
  by_cases hP : parts.map (·.1) = List.range n ∧ n ≤ 1000
  · rw [if_pos hP, decide_eq_true hP, cond_true]
    by_cases he : e = .lrow
    · subst he
      rw [if_pos rfl]
      simp only [partV_eq]
      have hrows : ∀ l : List AV, (match rowsOf l obs with | some (l, obs') => Res.ok True (.own obs.length 0) (obs' ++ [.arr (.row false) l 0 true]) | none => .bad) = rowsQ (rowsOf l obs) obs := fun l => by
        rcases rowsOf l obs with _ | ⟨a, b⟩ <;> rfl
      match parts with
      | [] => rfl
      | [(a, x)] =>
        have hx := hrows [x]
        cases x with
        | sl f e xs => cases e <;> cases f <;> first | rfl | exact hx
        | own id g =>
          simp only [List.map_cons, List.map_nil, buildR]
          rw [at_arr]
          cases h : obs[id]? with
          | none => rfl
          | some o => cases o with
            | dead => rfl
            | mat _ _ _ _ => rfl
            | gm _ _ _ _ _ => rfl
            | mp _ _ _ => rfl
            | ap _ _ _ _ _ => rfl
            | cur _ _ => rfl
            | arr e xs g' nn => cases e <;> cases nn <;> first | rfl | (by_cases hg : g = g' <;> simp [ownRowQ, hg, oSet_eq, Bool.cond_eq_ite])
        | lr l xs => rfl
        | _ => exact hx
      | (a, x) :: (b, y) :: l =>
        have hx := hrows (x :: y :: l.map (·.2))
        cases x with
        | sl f e xs => cases e <;> cases f <;> exact hx
        | _ => exact hx
    · rw [if_neg he]
      have hall : ∀ o : Option (List e.D), (match o with | some l => Res.ok (∀ s, AV.str s ∈ parts.map (·.2) → s.length ≤ maxLen) (.own obs.length 0) (obs ++ [.arr e l 0 true]) | none => .bad) = allQ e obs (strOk (partV parts)) (.of o) := fun o => by
        have : (∀ s, AV.str s ∈ parts.map (·.2) → s.length ≤ maxLen) = strOk (partV parts) := by rw [strOk_eq, partV_eq]
        cases o with
        | none => rfl
        | some l => simp only [allQ, ← this, OL.of]
      have hx := hall (allE e (parts.map (·.2)))
      rw [← partV_eq] at hx ⊢
      cases e <;> first | exact absurd rfl he | exact hx
  · rw [if_neg hP, decide_eq_false hP]; rfl
end
end Go.Aw
namespace Go.Aw
open Go
section
variable (b : Option BT) (e e2 : E) (f : Bool) (obs : List O)
theorem Q_apO (id gg g' : Nat) (x : AV) (nn : Bool) (xs : List e2.D) : apO e id gg x obs (.arr e2 xs g' nn) = bif gg == g' && decide (e2.fam = e.fam) then apE id gg nn e e2 xs obs (srcQ e2 x obs (some id)) else .bad := rfl
theorem Q_apE (id gg : Nat) (nn : Bool) (xs ys : List e2.D) : apE id gg nn e e2 xs obs (.yes ys) = .ok ((xs.length + ys.length) * e.bytes ≤ 140737488355328) (.own id (gg + 1)) (oSet obs id (.arr e2 (xs ++ ys) (gg + 1) (nn || !ys.isEmpty))) := rfl
theorem Q_apN (ys : List e.D) : apN e obs (.yes ys) = .ok (ys.length * e.bytes ≤ 140737488355328) (.own obs.length 0) (obs ++ [.arr e ys 0 (!ys.isEmpty)]) := rfl
theorem Q_src_sl (no : Option Nat) (xs : List e2.D) : srcQ e (.sl f e2 xs) obs no = convQ e e2 xs := rfl
theorem Q_src_lr (no : Option Nat) (l : Nat) (xs : List Int) : srcQ e (.lr l xs) obs no = convQ e .int xs := rfl
theorem Q_src_nil (no : Option Nat) : srcQ e .nils obs no = .yes [] := rfl
theorem Q_srO (gg g' : Nat) (nn : Bool) (xs : List e2.D) : srO e gg (.arr e2 xs g' nn) = bif gg == g' then convQ e e2 xs else .no := rfl
theorem Q_cv_int (ys : List Int) : convQ .int .int ys = .yes ys := rfl
theorem Q_cv_byte (ys : List Int) : convQ .byte .byte ys = .yes ys := rfl
theorem Q_cv_bool (ys : List Bool) : convQ .bool .bool ys = .yes ys := rfl
theorem Q_cv_str (ys : List (List UInt8)) : convQ .str .str ys = .yes ys := rfl
theorem Q_cv_row1 (ys : List (List Int)) : convQ (.row true) (.row true) ys = .yes ys := rfl
theorem Q_cv_row2 (ys : List (Nat × List Int)) : convQ (.row true) .lrow ys = .yes (ys.map (·.2)) := rfl
theorem Q_cv_row3 (ys : List (List Int)) : convQ (.row false) (.row f) ys = .yes ys := rfl
theorem Q_cv_row4 (ys : List (Nat × List Int)) : convQ (.row false) .lrow ys = .yes (ys.map (·.2)) := rfl
theorem Q_cv_lrow (ys : List (Nat × List Int)) : convQ .lrow .lrow ys = .yes ys := rfl
theorem Q_cv_vec (ys : List (List Int)) : convQ .vec .vec ys = .yes ys := rfl
theorem Q_slice_sl (lo hi : Option AV) (xs : List e2.D) : sliceQ b (some e) (.sl f e2 xs) lo hi obs = bif e2.size == e.size then sliceV (.sl f e2 xs) lo hi obs else .bad := by
  by_cases h : e2.size = e.size <;> cases b <;> simp [sliceQ, h, Bool.cond_eq_ite]
theorem Q_slice_lr (lo hi : Option AV) (l : Nat) (xs : List Int) : sliceQ b (some e) (.lr l xs) lo hi obs = bif e.size == 1 then sliceV (.lr l xs) lo hi obs else .bad := by
  by_cases h : e.size = 1 <;> cases b <;> simp [sliceQ, h, Bool.cond_eq_ite]
theorem Q_slice_str (g : Option E) (lo hi : Option AV) (s : List UInt8) : sliceQ (some .str) g (.str s) lo hi obs = sliceV (.str s) lo hi obs := rfl
def sQ (obs : List O) (len : Nat) (mk : Int → Int → AV) : Option Int → Option Int → Res
  | some l, some h => .ok (0 ≤ l ∧ l ≤ h ∧ h ≤ len) (mk l h) obs
  | _, _ => .bad
theorem Q_sl_sl (lo hi : Option AV) (xs : List e2.D) : sliceV (.sl f e2 xs) lo hi obs = sQ obs xs.length (fun l h => .sl f e2 ((xs.drop l.toNat).take (h.toNat - l.toNat))) (bnd 0 lo) (bnd xs.length hi) := by
  simp only [sliceV]; cases bnd 0 lo <;> cases bnd xs.length hi <;> rfl
theorem Q_sl_lr (lo hi : Option AV) (l : Nat) (xs : List Int) : sliceV (.lr l xs) lo hi obs = sQ obs xs.length (fun l h => .sl true .int ((xs.drop l.toNat).take (h.toNat - l.toNat))) (bnd 0 lo) (bnd xs.length hi) := by
  simp only [sliceV]; cases bnd 0 lo <;> cases bnd xs.length hi <;> rfl
theorem Q_sl_str (lo hi : Option AV) (xs : List UInt8) : sliceV (.str xs) lo hi obs = sQ obs xs.length (fun l h => .str ((xs.drop l.toNat).take (h.toNat - l.toNat))) (bnd 0 lo) (bnd xs.length hi) := by
  simp only [sliceV]; cases bnd 0 lo <;> cases bnd xs.length hi <;> rfl
theorem Q_sQ (len : Nat) (mk : Int → Int → AV) (l h : Int) : sQ obs len mk (some l) (some h) = .ok (0 ≤ l ∧ l ≤ h ∧ h ≤ len) (mk l h) obs := rfl
theorem Q_bnd0 (d : Int) : bnd d none = some d := rfl
theorem Q_bnd1 (d n : Int) (k : IntKind) : bnd d (some (.int k n)) = some n := rfl
theorem Q_omap0 (g : Operand → AV) : (none : Option Operand).map g = none := rfl
theorem Q_omap1 (g : Operand → AV) (x : Operand) : (some x).map g = some (g x) := rfl
def exL (obs : List O) : List AV → Nat → Res
  | [], _ => .bad
  | v :: l, i => bif i == 0 then .ok True v obs else exL obs l (i - 1)
theorem exL_eq : ∀ (l : List AV) (i : Nat), exQ (some (true, .t l)) i obs = exL obs l i
  | [], i => by simp [exL, exQ]
  | v :: l, i => by
    cases i with
    | zero => simp [exL, exQ]
    | succ i => simpa [exL, exQ] using exL_eq l i
end
section
variable (C : Ctx) (ds : Rg) (rest : List Oper) (n : Nat) (fr : List (Nat × Bool × Sl)) (obs o : List O) (K : St → Prop) (d : Nat) (hs : Prop)
theorem S_ok (vc : Prop) (x : AV) : aS C ds rest n fr K hs (.ok vc x obs) (some d) = (d < n ∧ hs ∧ vc ∧ aexec C ds rest ⟨n, (d, true, .v x) :: fr, obs⟩ K) := rfl
theorem S_ok0 (vc : Prop) (x : AV) : aS C ds rest n fr K hs (.ok vc x obs) none = (hs ∧ vc ∧ aexec C ds rest ⟨n, fr, obs⟩ K) := by simp [aS, aR, inN, St.put]
theorem S_skip (vc : Prop) : aS C ds rest n fr K hs (.skip vc obs) none = (hs ∧ vc ∧ aexec C ds rest ⟨n, fr, obs⟩ K) := by simp [aS, aR, inN]
theorem S_all (q : Nat → Prop) (x : AV) (os : Nat → List O) : aS C ds rest n fr K hs (.all q x os) (some d) = (d < n ∧ hs ∧ ∀ l, q l → aexec C ds rest ⟨n, (d, true, .v x) :: fr, os l⟩ K) := rfl
theorem S_all0 (q : Nat → Prop) (x : AV) (os : Nat → List O) : aS C ds rest n fr K hs (.all q x os) none = (hs ∧ ∀ l, q l → aexec C ds rest ⟨n, fr, os l⟩ K) := by simp [aS, aR, inN, St.put]
theorem T_ok (vc : Prop) (x : AV) (ex : Bool) : aT C ds rest n fr obs K hs (.ok vc x o) (some d) (some ex) = (d < n ∧ (ex = true → hs) ∧ (ex = true → vc) ∧ aexec C ds rest ⟨n, (d, ex, .v x) :: fr, obs⟩ K) := rfl
theorem U_ok (f : FuncId) (xs : List AV) (ex : Bool) : aU C ds rest n fr obs K (some d) f hs xs (some ex) = (d < n ∧ (ex = true → hs) ∧ CallH C obs f xs ex (fun x => Later (aexec C ds rest ⟨n, (d, ex, .v x) :: fr, obs⟩ K)) fun x obs' => (ds.kp = true → Keeps obs obs') ∧ Later (aexec C ds rest ⟨n, (d, true, x) :: fr, obs'⟩ K)) := rfl
end
theorem hasL_nil (σ : St) : hasL σ [] = True := rfl
theorem hasL_cons (σ : St) (x : Operand) (l : List Operand) : hasL σ (x :: l) = (σ.has x ∧ hasL σ l) := rfl
theorem evL_nil (σ : St) : evL σ [] = [] := rfl
theorem evL_cons (σ : St) (x : Operand) (l : List Operand) : evL σ (x :: l) = σ.ev x :: evL σ l := rfl
theorem hasP_nil (σ : St) : hasP σ [] = True := rfl
theorem hasP_cons (σ : St) (x : Nat × Operand) (l : List (Nat × Operand)) : hasP σ (x :: l) = (σ.has x.2 ∧ hasP σ l) := rfl
theorem evP_nil (σ : St) : evP σ [] = [] := rfl
theorem evP_cons (σ : St) (i : Nat) (x : Operand) (l : List (Nat × Operand)) : evP σ ((i, x) :: l) = (i, σ.ev x) :: evP σ l := rfl
theorem hasO_none (σ : St) : hasO σ none = True := rfl
theorem hasO_some (σ : St) (x : Operand) : hasO σ (some x) = σ.has x := rfl
theorem oAt_cons (o : O) (r : List O) (k : Nat) : oAt (o :: r) k = bif k == 0 then o else oAt r (k - 1) := rfl
theorem oSet_cons (o : O) (r : List O) (k : Nat) (x : O) : oSet (o :: r) k x = bif k == 0 then x :: r else o :: oSet r (k - 1) x := rfl
theorem resSl_one (n : Nat) (x : AV) : resSl n [x] = .v (shiftAV n x) := rfl
theorem resSl_two (n : Nat) (x y : AV) : resSl n [x, y] = .t [shiftAV n x, shiftAV n y] := rfl
theorem resSl_three (n : Nat) (x y z : AV) : resSl n [x, y, z] = .t [shiftAV n x, shiftAV n y, shiftAV n z] := rfl
theorem resSl_zero (n : Nat) : resSl n [] = .t [] := rfl
theorem shift_own (n id g : Nat) : shiftAV n (.own id g) = .own (n + id) g := rfl
theorem shift_int (n : Nat) (k : IntKind) (x : Int) : shiftAV n (.int k x) = .int k x := rfl
theorem shift_bool (n : Nat) (x : Bool) : shiftAV n (.bool x) = .bool x := rfl
theorem shift_str (n : Nat) (x : List UInt8) : shiftAV n (.str x) = .str x := rfl
theorem shift_sl (n : Nat) (f : Bool) (e : E) (x : List e.D) : shiftAV n (.sl f e x) = .sl f e x := rfl
theorem shift_lr (n l : Nat) (x : List Int) : shiftAV n (.lr l x) = .lr l x := rfl
theorem shift_nils (n : Nat) : shiftAV n .nils = .nils := rfl
theorem shift_vec (n : Nat) (x : List Int) : shiftAV n (.vec x) = .vec x := rfl
theorem shift_fn (n f : Nat) : shiftAV n (.fn f) = .fn f := rfl
theorem buildQ_row (n : Nat) (parts : List (Nat × AV)) (obs : List O) : buildQ .lrow n parts obs = bif seqF 0 parts n && (Nat.ble n 1000) then buildR obs (partV parts) else .bad := by
  simp [buildQ, E.size]
theorem buildQ_int (n : Nat) (parts : List (Nat × AV)) (obs : List O) : buildQ .int n parts obs = bif seqF 0 parts n && (Nat.ble n 1000) then allQ .int obs (strOk (partV parts)) (allEQ .int (partV parts)) else .bad := by
  simp [buildQ, E.size]
theorem buildQ_byte (n : Nat) (parts : List (Nat × AV)) (obs : List O) : buildQ .byte n parts obs = bif seqF 0 parts n && (Nat.ble n 1000) then allQ .byte obs (strOk (partV parts)) (allEQ .byte (partV parts)) else .bad := by
  simp [buildQ, E.size]
theorem buildQ_str (n : Nat) (parts : List (Nat × AV)) (obs : List O) : buildQ .str n parts obs = bif seqF 0 parts n && (Nat.ble n 1000) then allQ .str obs (strOk (partV parts)) (allEQ .str (partV parts)) else .bad := by
  simp [buildQ, E.size]
theorem buildQ_bool (n : Nat) (parts : List (Nat × AV)) (obs : List O) : buildQ .bool n parts obs = bif seqF 0 parts n && (Nat.ble n 1000) then allQ .bool obs (strOk (partV parts)) (allEQ .bool (partV parts)) else .bad := by
  simp [buildQ, E.size]
theorem seqF_nil (i n : Nat) : seqF i [] n = (i == n) := rfl
theorem seqF_cons (i k : Nat) (x : AV) (l : List (Nat × AV)) (n : Nat) : seqF i ((k, x) :: l) n = ((k == i) && seqF (i + 1) l n) := rfl
theorem partV_nil : partV [] = [] := rfl
theorem partV_cons (k : Nat) (x : AV) (l : List (Nat × AV)) : partV ((k, x) :: l) = x :: partV l := rfl
theorem strOk_nil : strOk [] = True := rfl
theorem strOk_int (k : IntKind) (x : Int) (l : List AV) : strOk (.int k x :: l) = strOk l := rfl
theorem strOk_bool (x : Bool) (l : List AV) : strOk (.bool x :: l) = strOk l := rfl
theorem strOk_str (x : List UInt8) (l : List AV) : strOk (.str x :: l) = (x.length ≤ maxLen ∧ strOk l) := rfl
def allC (e : E) : OD e → OL e → OL e
  | .yes d, .yes l => .yes (d :: l)
  | _, _ => .no
theorem allE_nil (e : E) : allEQ e [] = .yes [] := rfl
theorem allE_cons (e : E) (x : AV) (r : List AV) : allEQ e (x :: r) = allC e (toQ e x) (allEQ e r) := by
  simp only [allEQ, toQ, allE]; cases toE e x <;> cases allE e r <;> rfl
theorem allC_some (e : E) (d : e.D) (l : List e.D) : allC e (.yes d) (.yes l) = .yes (d :: l) := rfl
theorem allQ_some (e : E) (obs : List O) (vc : Prop) (l : List e.D) : allQ e obs vc (.yes l) = .ok vc (.own obs.length 0) (obs ++ [.arr e l 0 true]) := rfl
theorem buildR_nil (obs : List O) : buildR obs [] = .ok True (.own obs.length 0) (obs ++ [.arr .lrow [] 0 true]) := rfl
theorem buildR_lr (obs : List O) (l : Nat) (xs : List Int) : buildR obs [.lr l xs] = .ok True (.own obs.length 0) (obs ++ [.arr .lrow [(l, xs)] 0 true]) := rfl
theorem buildR_own (obs : List O) (id g : Nat) : buildR obs [.own id g] = ownRowQ id g obs (oAt obs id) := rfl
theorem buildR_slt (obs : List O) (xs : List Int) : buildR obs [.sl true .int xs] = .ok True (.own obs.length 0) (obs ++ [.arr (.row true) [xs] 0 true]) := rfl
theorem buildR_slf (obs : List O) (xs : List Int) : buildR obs [.sl false .int xs] = rowsQ (rowsOf [.sl false .int xs] obs) obs := rfl
theorem buildR_two (obs : List O) (x y : AV) (l : List AV) : buildR obs (x :: y :: l) = rowsQ (rowsOf (x :: y :: l) obs) obs := by
  cases x with
  | sl f e xs => cases e <;> cases f <;> rfl
  | _ => rfl
theorem ownRow_arr (id g g' : Nat) (obs : List O) (xs : List Int) : ownRowQ id g obs (.arr .int xs g' true) = bif g == g' then .all (FreshL obs) (.own obs.length 0) (fun l => oSet obs id .dead ++ [.arr .lrow [(l, xs)] 0 true]) else .bad := rfl
theorem rowsQ_some (l : List (List Int)) (o obs : List O) : rowsQ (some (l, o)) obs = .ok True (.own obs.length 0) (o ++ [.arr (.row false) l 0 true]) := rfl
def rowC (xs : List Int) : Option (List (List Int) × List O) → Option (List (List Int) × List O)
  | some p => some (xs :: p.1, p.2)
  | none => none
def rowO (id g : Nat) (r : List AV) (obs : List O) : O → Option (List (List Int) × List O)
  | .arr .int xs g' _ => bif g == g' then rowC xs (rowsOf r (oSet obs id .dead)) else none
  | _ => none
theorem rowC_some (xs : List Int) (l : List (List Int)) (o : List O) : rowC xs (some (l, o)) = some (xs :: l, o) := rfl
theorem rowsOf_nil (obs : List O) : rowsOf [] obs = some ([], obs) := rfl
theorem rowC_eq (xs : List Int) (o : Option (List (List Int) × List O)) : o.map (fun p => (xs :: p.1, p.2)) = rowC xs o := by cases o <;> rfl
theorem rowsOf_sl (f : Bool) (xs : List Int) (r : List AV) (obs : List O) : rowsOf (.sl f .int xs :: r) obs = rowC xs (rowsOf r obs) := rowC_eq ..
theorem rowsOf_lr (l : Nat) (xs : List Int) (r : List AV) (obs : List O) : rowsOf (.lr l xs :: r) obs = rowC xs (rowsOf r obs) := rowC_eq ..
theorem rowsOf_own (id g : Nat) (r : List AV) (obs : List O) : rowsOf (.own id g :: r) obs = rowO id g r obs (oAt obs id) := by
  rw [at_arr]; simp only [rowsOf]
  cases h : obs[id]? with
  | none => rfl
  | some o => cases o with
    | dead => rfl
    | mat _ _ _ _ => rfl
    | gm _ _ _ _ _ => rfl
    | mp _ _ _ => rfl
    | ap _ _ _ _ _ => rfl
    | cur _ _ => rfl
    | arr e xs g' nn =>
      cases e <;> try rfl
      by_cases hg : g = g' <;> simp [rowO, hg, oSet_eq, Bool.cond_eq_ite, rowC_eq]
theorem rowO_arr (id g g' : Nat) (nn : Bool) (r : List AV) (obs : List O) (xs : List Int) : rowO id g r obs (.arr .int xs g' nn) = bif g == g' then rowC xs (rowsOf r (oSet obs id .dead)) else none := rfl
theorem sz_int : E.size .int = 1 := rfl
theorem sz_byte : E.size .byte = 1 := rfl
theorem sz_bool : E.size .bool = 1 := rfl
theorem sz_str : E.size .str = 1 := rfl
theorem sz_row (f : Bool) : E.size (.row f) = 1 := rfl
theorem sz_lrow : E.size .lrow = 1 := rfl
theorem sz_vec : E.size .vec = 4 := rfl
theorem by_int : E.bytes .int = 8 := rfl
theorem by_byte : E.bytes .byte = 1 := rfl
theorem by_bool : E.bytes .bool = 1 := rfl
theorem by_str : E.bytes .str = 16 := rfl
theorem by_row (f : Bool) : E.bytes (.row f) = 24 := rfl
theorem by_lrow : E.bytes .lrow = 24 := rfl
theorem by_vec : E.bytes .vec = 32 := rfl
theorem fam_row (f : Bool) : E.fam (.row f) = .lrow := rfl
theorem fam_lrow : E.fam .lrow = .lrow := rfl
theorem fam_int : E.fam .int = .int := rfl
theorem fam_byte : E.fam .byte = .byte := rfl
theorem fam_bool : E.fam .bool = .bool := rfl
theorem fam_str : E.fam .str = .str := rfl
theorem fam_vec : E.fam .vec = .vec := rfl
theorem dec_self {α : Type} [DecidableEq α] (a : α) : decide (a = a) = true := by simp
theorem dfl_int : E.dflt .int = (0 : Int) := rfl
theorem dfl_byte : E.dflt .byte = (0 : Int) := rfl
theorem dfl_bool : E.dflt .bool = false := rfl
theorem dfl_str : E.dflt .str = ([] : List UInt8) := rfl
theorem dfl_row (f : Bool) : E.dflt (.row f) = ([] : List Int) := rfl
theorem dfl_lrow : E.dflt .lrow = ((0, []) : Nat × List Int) := rfl
theorem sc_eq (C : Ctx) (t : TypeId) : C.sc t = ((C.bt t).isSome || (C.Γ t).isSome) := rfl
theorem some_beq (a b : Nat) : ((some a : Option Nat) == some b) = (a == b) := rfl
theorem none_beq (b : Nat) : ((none : Option Nat) == some b) = false := rfl
theorem app_one (a o : O) (l : List O) : (a :: l) ++ [o] = a :: (l ++ [o]) := rfl
theorem app_cons (a : O) (l r : List O) : (a :: l) ++ r = a :: (l ++ r) := rfl
theorem app_nil (r : List O) : [] ++ r = r := rfl
theorem len_cons (o : O) (l : List O) : (o :: l).length = l.length + 1 := rfl
theorem len_nil : ([] : List O).length = 0 := rfl
theorem ble_eq (a b : Nat) : Nat.ble a b = decide (a ≤ b) := by rw [Bool.eq_iff_iff]; simp
theorem zadd (n : Nat) : 0 + n = n := Nat.zero_add n
theorem bT (b : Bool) : (b == true) = b := by cases b <;> rfl
theorem bF (b : Bool) : (b == false) = !b := by cases b <;> rfl
theorem exL_cons (obs : List O) (v : AV) (l : List AV) (i : Nat) : exL obs (v :: l) i = bif i == 0 then .ok True v obs else exL obs l (i - 1) := rfl
theorem AX0 : type_of% @Q_add ∧
    type_of% @Q_sub ∧
    type_of% @Q_mul ∧
    type_of% @Q_quo ∧
    type_of% @Q_rem ∧
    type_of% @Q_eql ∧
    type_of% @Q_neq ∧
    type_of% @Q_lss ∧
    type_of% @Q_leq ∧
    type_of% @Q_gtr ∧
    type_of% @Q_geq ∧
    type_of% @Q_beq ∧
    type_of% @Q_bne ∧
    type_of% @Q_seq ∧
    type_of% @Q_sne ∧
    type_of% @Q_sadd ∧
    type_of% @Q_neg ∧
    type_of% @Q_not ∧
    type_of% @Q_max ∧
    type_of% @Q_min ∧
    type_of% @Q_pick ∧
    type_of% @Q_len_sl ∧
    type_of% @Q_len_lr ∧
    type_of% @Q_len_nil ∧
    type_of% @Q_len_own ∧
    type_of% @Q_len_str ∧
    type_of% @Q_lenO ∧
    type_of% @Q_idx_sl ∧
    type_of% @Q_idx_lr ∧
    type_of% @Q_idxO ∧
    type_of% @Q_load ∧
    type_of% @Q_loadO ∧
    type_of% @Q_ofE_int ∧
    type_of% @Q_ofE_byte ∧
    type_of% @Q_ofE_bool ∧
    type_of% @Q_ofE_str ∧
    type_of% @Q_ofE_row ∧
    type_of% @Q_ofE_lrow ∧
    type_of% @Q_ofE_vec ∧
    type_of% @Q_st_int ∧
    type_of% @Q_st_bool ∧
    type_of% @Q_st_sl ∧
    type_of% @Q_st_lr ∧
    type_of% @Q_storeO ∧
    type_of% @Q_stE ∧
    type_of% @Q_toE_int ∧
    type_of% @Q_toE_byte ∧
    type_of% @Q_toE_bool ∧
    type_of% @Q_toE_str ∧
    type_of% @Q_toE_row1 ∧
    type_of% @Q_toE_row2 ∧
    type_of% @Q_toE_row3 ∧
    type_of% @Q_toE_row4 ∧
    type_of% @Q_toE_lrow ∧
    type_of% @Q_make_int ∧
    type_of% @Q_make_byte ∧
    type_of% @Q_make_bool ∧
    type_of% @Q_make_str ∧
    type_of% @Q_make_row ∧
    type_of% @buildV_eq :=
  ⟨Q_add, Q_sub, Q_mul, Q_quo, Q_rem, Q_eql, Q_neq, Q_lss, Q_leq, Q_gtr, Q_geq, Q_beq, Q_bne, Q_seq, Q_sne, Q_sadd, Q_neg, Q_not, Q_max, Q_min, Q_pick, Q_len_sl, Q_len_lr, Q_len_nil, Q_len_own, Q_len_str, Q_lenO, Q_idx_sl, Q_idx_lr, Q_idxO, Q_load, Q_loadO, Q_ofE_int, Q_ofE_byte, Q_ofE_bool, Q_ofE_str, Q_ofE_row, Q_ofE_lrow, Q_ofE_vec, Q_st_int, Q_st_bool, Q_st_sl, Q_st_lr, Q_storeO, Q_stE, Q_toE_int, Q_toE_byte, Q_toE_bool, Q_toE_str, Q_toE_row1, Q_toE_row2, Q_toE_row3, Q_toE_row4, Q_toE_lrow, Q_make_int, Q_make_byte, Q_make_bool, Q_make_str, Q_make_row, buildV_eq⟩
theorem AX1 : type_of% @Q_apO ∧
    type_of% @Q_apE ∧
    type_of% @Q_apN ∧
    type_of% @Q_src_sl ∧
    type_of% @Q_src_lr ∧
    type_of% @Q_src_nil ∧
    type_of% @Q_srO ∧
    type_of% @Q_cv_int ∧
    type_of% @Q_cv_byte ∧
    type_of% @Q_cv_bool ∧
    type_of% @Q_cv_str ∧
    type_of% @Q_cv_row1 ∧
    type_of% @Q_cv_row2 ∧
    type_of% @Q_cv_row3 ∧
    type_of% @Q_cv_row4 ∧
    type_of% @Q_cv_lrow ∧
    type_of% @Q_cv_vec ∧
    type_of% @Q_slice_sl ∧
    type_of% @Q_slice_lr ∧
    type_of% @Q_slice_str ∧
    type_of% @Q_sl_sl ∧
    type_of% @Q_sl_lr ∧
    type_of% @Q_sl_str ∧
    type_of% @Q_sQ ∧
    type_of% @Q_bnd0 ∧
    type_of% @Q_bnd1 ∧
    type_of% @Q_omap0 ∧
    type_of% @Q_omap1 ∧
    type_of% @exL_eq ∧
    type_of% @S_ok ∧
    type_of% @S_ok0 ∧
    type_of% @S_skip ∧
    type_of% @S_all ∧
    type_of% @T_ok ∧
    type_of% @U_ok ∧
    type_of% @hasL_nil ∧
    type_of% @hasL_cons ∧
    type_of% @evL_nil ∧
    type_of% @evL_cons ∧
    type_of% @hasP_nil ∧
    type_of% @hasP_cons ∧
    type_of% @evP_nil ∧
    type_of% @evP_cons ∧
    type_of% @hasO_none ∧
    type_of% @hasO_some ∧
    type_of% @oAt_cons ∧
    type_of% @oSet_cons ∧
    type_of% @resSl_one ∧
    type_of% @resSl_two ∧
    type_of% @resSl_three ∧
    type_of% @resSl_zero ∧
    type_of% @shift_own ∧
    type_of% @shift_int ∧
    type_of% @shift_bool ∧
    type_of% @shift_str ∧
    type_of% @shift_sl ∧
    type_of% @shift_lr ∧
    type_of% @shift_nils ∧
    type_of% @shift_vec ∧
    type_of% @shift_fn :=
  ⟨Q_apO, Q_apE, Q_apN, Q_src_sl, Q_src_lr, Q_src_nil, Q_srO, Q_cv_int, Q_cv_byte, Q_cv_bool, Q_cv_str, Q_cv_row1, Q_cv_row2, Q_cv_row3, Q_cv_row4, Q_cv_lrow, Q_cv_vec, Q_slice_sl, Q_slice_lr, Q_slice_str, Q_sl_sl, Q_sl_lr, Q_sl_str, Q_sQ, Q_bnd0, Q_bnd1, Q_omap0, Q_omap1, exL_eq, S_ok, S_ok0, S_skip, S_all, T_ok, U_ok, hasL_nil, hasL_cons, evL_nil, evL_cons, hasP_nil, hasP_cons, evP_nil, evP_cons, hasO_none, hasO_some, oAt_cons, oSet_cons, resSl_one, resSl_two, resSl_three, resSl_zero, shift_own, shift_int, shift_bool, shift_str, shift_sl, shift_lr, shift_nils, shift_vec, shift_fn⟩
theorem AX2 : type_of% @buildQ_row ∧
    type_of% @buildQ_int ∧
    type_of% @buildQ_byte ∧
    type_of% @buildQ_str ∧
    type_of% @buildQ_bool ∧
    type_of% @seqF_nil ∧
    type_of% @seqF_cons ∧
    type_of% @partV_nil ∧
    type_of% @partV_cons ∧
    type_of% @strOk_nil ∧
    type_of% @strOk_int ∧
    type_of% @strOk_bool ∧
    type_of% @strOk_str ∧
    type_of% @allE_nil ∧
    type_of% @allE_cons ∧
    type_of% @allC_some ∧
    type_of% @allQ_some ∧
    type_of% @buildR_nil ∧
    type_of% @buildR_lr ∧
    type_of% @buildR_own ∧
    type_of% @buildR_slt ∧
    type_of% @buildR_slf ∧
    type_of% @buildR_two ∧
    type_of% @ownRow_arr ∧
    type_of% @rowsQ_some ∧
    type_of% @rowC_some ∧
    type_of% @rowsOf_nil ∧
    type_of% @rowsOf_sl ∧
    type_of% @rowsOf_lr ∧
    type_of% @rowsOf_own ∧
    type_of% @rowO_arr ∧
    type_of% @sz_int ∧
    type_of% @sz_byte ∧
    type_of% @sz_bool ∧
    type_of% @sz_str ∧
    type_of% @sz_row ∧
    type_of% @sz_lrow ∧
    type_of% @sz_vec ∧
    type_of% @by_int ∧
    type_of% @by_byte ∧
    type_of% @by_bool ∧
    type_of% @by_str ∧
    type_of% @by_row ∧
    type_of% @by_lrow ∧
    type_of% @by_vec ∧
    type_of% @fam_row ∧
    type_of% @fam_lrow ∧
    type_of% @fam_int ∧
    type_of% @fam_byte ∧
    type_of% @fam_bool ∧
    type_of% @fam_str ∧
    type_of% @fam_vec ∧
    type_of% @dec_self ∧
    type_of% @dfl_int ∧
    type_of% @dfl_byte ∧
    type_of% @dfl_bool ∧
    type_of% @dfl_str ∧
    type_of% @dfl_row ∧
    type_of% @dfl_lrow ∧
    type_of% @sc_eq :=
  ⟨buildQ_row, buildQ_int, buildQ_byte, buildQ_str, buildQ_bool, seqF_nil, seqF_cons, partV_nil, partV_cons, strOk_nil, strOk_int, strOk_bool, strOk_str, allE_nil, allE_cons, allC_some, allQ_some, buildR_nil, buildR_lr, buildR_own, buildR_slt, buildR_slf, buildR_two, ownRow_arr, rowsQ_some, rowC_some, rowsOf_nil, rowsOf_sl, rowsOf_lr, rowsOf_own, rowO_arr, sz_int, sz_byte, sz_bool, sz_str, sz_row, sz_lrow, sz_vec, by_int, by_byte, by_bool, by_str, by_row, by_lrow, by_vec, fam_row, fam_lrow, fam_int, fam_byte, fam_bool, fam_str, fam_vec, dec_self, dfl_int, dfl_byte, dfl_bool, dfl_str, dfl_row, dfl_lrow, sc_eq⟩
theorem AX3 : type_of% @some_beq ∧
    type_of% @none_beq ∧
    type_of% @app_one ∧
    type_of% @app_cons ∧
    type_of% @app_nil ∧
    type_of% @len_cons ∧
    type_of% @len_nil ∧
    type_of% @ble_eq ∧
    type_of% @zadd ∧
    type_of% @bT ∧
    type_of% @bF ∧
    type_of% @lenV_own ∧
    type_of% @idxV_own ∧
    type_of% @loadV_elt ∧
    type_of% @storeV_elt ∧
    type_of% @appendV_own ∧
    type_of% @appendV_nil ∧
    type_of% @srcL_own ∧
    type_of% @put_s ∧
    type_of% @put_n ∧
    type_of% @X_move ∧ type_of% @X_movec ∧ type_of% @X_movef ∧ type_of% @slS_some ∧ type_of% @slS_none ∧
    type_of% @X_assign ∧
    type_of% @X_bin ∧
    type_of% @X_un ∧
    type_of% @X_pick ∧
    type_of% @X_load ∧
    type_of% @X_store ∧
    type_of% @X_idx ∧
    type_of% @X_make ∧
    type_of% @X_build ∧
    type_of% @X_slice ∧
    type_of% @X_ex ∧
    type_of% @X_len ∧
    type_of% @X_max ∧
    type_of% @X_min ∧
    type_of% @X_append ∧
    type_of% @X_call ∧
    type_of% @G_move ∧
    type_of% @G_bin ∧
    type_of% @G_un ∧
    type_of% @G_pick ∧
    type_of% @G_load ∧
    type_of% @G_idx ∧
    type_of% @G_len ∧
    type_of% @G_slice ∧
    type_of% @G_ex ∧
    type_of% @G_call ∧
    type_of% @aexec_nil ∧
    type_of% @ev_tmp ∧
    type_of% @ev_int ∧
    type_of% @ev_bool ∧
    type_of% @ev_str ∧
    type_of% @ev_nil ∧
    type_of% @ev_func ∧
    type_of% @has_tmp ∧
    type_of% @has_const ∧
    type_of% @has_func ∧
    type_of% @slV_v ∧
    type_of% @slV_t ∧
    type_of% @slV_none :=
  ⟨some_beq, none_beq, app_one, app_cons, app_nil, len_cons, len_nil, ble_eq, zadd, bT, bF, lenV_own, idxV_own, loadV_elt, storeV_elt, appendV_own, appendV_nil, srcL_own, put_s, put_n, X_move, X_movec, X_movef, slS_some, slS_none, X_assign, X_bin, X_un, X_pick, X_load, X_store, X_idx, X_make, X_build, X_slice, X_ex, X_len, X_max, X_min, X_append, X_call, G_move, G_bin, G_un, G_pick, G_load, G_idx, G_len, G_slice, G_ex, G_call, aexec_nil, ev_tmp, ev_int, ev_bool, ev_str, ev_nil, ev_func, has_tmp, has_const, has_func, slV_v, slV_t, slV_none⟩
theorem AX4 : type_of% @slH_some ∧
    type_of% @slH_none ∧
    type_of% @look_nil ∧
    type_of% @look_cons ∧
    type_of% @slotOf_cons ∧
    type_of% @lookO_some ∧
    type_of% @gexV_b ∧
    type_of% @exL_cons :=
  ⟨slH_some, slH_none, look_nil, look_cons, slotOf_cons, lookO_some, gexV_b, exL_cons⟩
theorem AX : type_of% @AX0 ∧ type_of% @AX1 ∧ type_of% @AX2 ∧ type_of% @AX3 ∧ type_of% @AX4 := ⟨AX0, AX1, AX2, AX3, AX4⟩
end Go.Aw
namespace Go.Aw
open Go
theorem FunA.walk {B : Ctx} (hB : B.Ok) {f : FuncId} {fn : Func} {c : Code} {args : List AV} {post : List AV → List O → Prop} (hcall : ∀ (vs : Array Value) (w : World), (callFunc f vs).run B.P w = .ok (.enter f vs) w)
    (hf : B.P.funcs[f]? = some fn) (hb : fn.body = some c) (hn : args.length ≤ fn.ntmps)
    (h : ∀ C : Ctx, C.Ok → B.P = C.P → B.tid = C.tid → C.Γ = B.Γ → (C.bt = B.bt ∧ C.mt = B.mt ∧ C.wt = B.wt ∧ C.dr = B.dr) → C.fn = fn → C.pin = [] → (∀ xs obs, xs.all freshAV = true → obs.all freshO = true → post xs obs → Fin C xs obs) → Run C [.code c] (entry args fn.ntmps)) : FunA B f args post :=
  FunA.enter hcall hf hb hn fun w L => h _ (hB.enterL fn _ w _ L) rfl rfl rfl ⟨rfl, rfl, rfl, rfl⟩ rfl rfl fun _ _ h1 h2 hp => FunA.fin hp h1 h2
def subF (fr : List (Nat × Bool × Sl)) : List (Nat × Bool × Sl) → Prop
  | [] => True
  | (s, x) :: r => look s fr = some x ∧ subF fr r
theorem subF_look {fr : List (Nat × Bool × Sl)} : ∀ {fr' : List (Nat × Bool × Sl)}, subF fr fr' → ∀ {s : Nat} {x : Bool × Sl}, look s fr' = some x → look s fr = some x
  | [], _, s, x, h => by simp [look] at h
  | (t, y) :: r, hs, s, x, h => by
    simp only [look] at h
    split at h
    · rename_i ht
      cases h
      have : s = t := by simpa using ht
      subst this
      exact hs.1
    · exact subF_look hs.2 h
theorem Le.sub {C : Ctx} {n : Nat} {fr fr' : List (Nat × Bool × Sl)} {obs obs' : List O} (ho : obs = obs') (h : subF fr fr') : Le C ⟨n, fr, obs⟩ ⟨n, fr', obs'⟩ := by
  subst ho
  exact fun a w ρ r => ⟨ρ, r.defers, r.size, fun s ex x hl => r.fr s ex x (subF_look h hl), r.w, r.pin⟩
def leO : O → O → Prop
  | _, .dead => True
  | .arr e xs _ nn, .arr e' xs' _ nn' => (nn' = true → nn = true) ∧ ∃ h : e = e', h ▸ xs = xs'
  | .mat hs rows _ nn, .mat hs' rows' _ nn' => (nn' = true → nn = true) ∧ hs = hs' ∧ rows = rows'
  | .gm D F hs _ nn, .gm D' F' hs' _ nn' => (nn' = true → nn = true) ∧ D = D' ∧ F = F' ∧ hs = hs'
  | .mp m l _, .mp m' l' _ => m = m' ∧ l = l'
  | .ap q ys fr _ nn, .ap q' ys' fr' _ nn' => (nn' = true → nn = true) ∧ q = q' ∧ ys = ys' ∧ (fr' = true → fr = true)
  | .ap _ ys _ _ nn, .arr .lrow ys' _ nn' => (nn' = true → nn = true) ∧ ys = ys'
  | .cur s _, .cur s' _ => s = s'
  | _, _ => False
theorem leO_ap (q q' : Nat) (ys ys' : List (Nat × List Int)) (fr fr' : Bool) (g g' : Nat) (nn nn' : Bool) : leO (.ap q ys fr g nn) (.ap q' ys' fr' g' nn') = ((nn' = true → nn = true) ∧ q = q' ∧ ys = ys' ∧ (fr' = true → fr = true)) := rfl
theorem leO_apa (q : Nat) (ys ys' : List (Nat × List Int)) (fr : Bool) (g g' : Nat) (nn nn' : Bool) : leO (.ap q ys fr g nn) (.arr .lrow ys' g' nn') = ((nn' = true → nn = true) ∧ ys = ys') := rfl
theorem leO_cur (s s' : Value) (g g' : Nat) : leO (.cur s g) (.cur s' g') = (s = s') := rfl
theorem leO_arr (e : E) (xs xs' : List e.D) (g g' : Nat) (nn nn' : Bool) : leO (.arr e xs g nn) (.arr e xs' g' nn') = ((nn' = true → nn = true) ∧ xs = xs') := by simp [leO]
theorem leO_gm (D D' : List Nat) (F F' : Nat → List Int) (hs hs' : List Nat) (g g' : Nat) (nn nn' : Bool) : leO (.gm D F hs g nn) (.gm D' F' hs' g' nn') = ((nn' = true → nn = true) ∧ D = D' ∧ F = F' ∧ hs = hs') := rfl
theorem leO_mp (m m' : MT) (l l' : List (MK × MV)) (g g' : Nat) : leO (.mp m l g) (.mp m' l' g') = (m = m' ∧ l = l') := rfl
def leOs (obs : List O) : List Nat → List O → Prop
  | [], [] => True
  | i :: π, o :: l => i < obs.length ∧ leO (oAt obs i) o ∧ leOs obs π l
  | _, _ => False
def nodupB : List Nat → Bool
  | [] => true
  | i :: π => !(π.elem i) && nodupB π
def genO : O → Nat → Prop
  | .arr _ _ g' _, g => g = g'
  | .mat _ _ g' _, g => g = g'
  | .gm _ _ _ g' _, g => g = g'
  | .mp _ _ g', g => g = g'
  | .ap _ _ _ g' _, g => g = g'
  | .cur _ g', g => g = g'
  | .dead, _ => False
def leAV (π : List Nat) (obs obs' : List O) : AV → AV → Prop
  | _, .junk => True
  | a, .own j g' => match a with
    | .own i g => j < π.length ∧ π[j]? = some i ∧ genO (oAt obs i) g ∧ genO (oAt obs' j) g'
    | _ => False
  | _, .elt _ _ _ _ => False
  | .lr l xs, .sl f e ys => .sl f e ys = (AV.sl f .int xs)
  | .nils, .sl f e ys => .sl f e ys = (AV.sl f e [])
  | a, a' => a = a'
def leFr (π : List Nat) (obs obs' : List O) (fr : List (Nat × Bool × Sl)) : List (Nat × Bool × AV) → Prop
  | [] => True
  | (s, ex, x) :: r => (∃ y, look s fr = some (ex, .v y) ∧ leAV π obs obs' y x) ∧ leFr π obs obs' fr r
def frV (l : List (Nat × Bool × AV)) : List (Nat × Bool × Sl) := l.map fun p => (p.1, p.2.1, .v p.2.2)
theorem leOs_at {obs : List O} : ∀ {π : List Nat} {l : List O}, leOs obs π l → ∀ {j : Nat} {o : O}, l[j]? = some o → ∃ i, π[j]? = some i ∧ i < obs.length ∧ leO (oAt obs i) o
  | [], [], _, j, o, h => by simp at h
  | i :: π, o' :: _, hs, j, o, h => by
    cases j with
    | zero => simp at h; subst h; exact ⟨i, by simp, hs.1, hs.2.1⟩
    | succ j => simpa using leOs_at hs.2.2 (j := j) (by simpa using h)
theorem leOs_len {obs : List O} : ∀ {π : List Nat} {l : List O}, leOs obs π l → π.length = l.length
  | [], [], _ => rfl
  | _ :: _, _ :: _, h => by simp [leOs_len h.2.2]
theorem leFr_look {π : List Nat} {obs obs' : List O} {fr : List (Nat × Bool × Sl)} : ∀ {l : List (Nat × Bool × AV)}, leFr π obs obs' fr l → ∀ {s : Nat} {ex : Bool} {x : Sl}, look s (frV l) = some (ex, x) →
    ∃ y z, x = .v z ∧ look s fr = some (ex, .v y) ∧ leAV π obs obs' y z
  | [], _, s, ex, x, h => by simp [look, frV] at h
  | (t, ey, y) :: r, hs, s, ex, x, h => by
    simp only [look, frV, List.map_cons] at h
    split at h
    · rename_i ht
      cases h
      have : s = t := by simpa using ht
      subst this
      obtain ⟨z, h1, h2⟩ := hs.1
      exact ⟨z, y, rfl, h1, h2⟩
    · exact leFr_look hs.2 h
theorem nodupB_inj : ∀ {π : List Nat}, nodupB π = true → ∀ {i j k : Nat}, π[i]? = some k → π[j]? = some k → i = j
  | [], _, i, j, k, h, _ => by simp at h
  | p :: π, hn, i, j, k, h1, h2 => by
    simp only [nodupB, Bool.and_eq_true, Bool.not_eq_true', List.elem_eq_mem, decide_eq_false_iff_not] at hn
    cases i with
    | zero =>
      cases j with
      | zero => rfl
      | succ j =>
        simp at h1 h2
        subst h1
        exact absurd (List.mem_of_getElem? h2) hn.1
    | succ i =>
      cases j with
      | zero =>
        simp at h1 h2
        subst h2
        exact absurd (List.mem_of_getElem? h1) hn.1
      | succ j =>
        simp at h1 h2
        exact congrArg _ (nodupB_inj hn.2 h1 h2)
theorem oAt_get {obs : List O} {i : Nat} (h : i < obs.length) : obs[i]? = some (oAt obs i) := by
  rw [oAt_eq, List.getElem?_eq_getElem h]; rfl
theorem Le.reP {C : Ctx} {n : Nat} {fr : List (Nat × Bool × Sl)} {obs obs' : List O} (π : List Nat) (l : List (Nat × Bool × AV)) (hp : ∀ j, j < C.pin.length → π[j]? = some j ∧ genOf obs' j = genOf obs j) (hn : nodupB π = true) (ho : leOs obs π obs') (hf : leFr π obs obs' fr l) :
    Le C ⟨n, fr, obs⟩ ⟨n, frV l, obs'⟩ := by
  intro a w ρ r
  have rw0 := r.w
  have hlen : ∀ j o, obs'[j]? = some o → ∃ i o0, π[j]? = some i ∧ obs[i]? = some o0 ∧ leO o0 o := fun j o h => by
    obtain ⟨i, h1, h2, h3⟩ := leOs_at ho h
    exact ⟨i, _, h1, oAt_get h2, h3⟩
  have hfp : ∀ {j i : Nat} {o o0 : O} {b : Nat}, π[j]? = some i → leO o0 o → fpo (ρ ((π[j]?).getD 0)) o b → fpo (ρ i) o0 b := by
    intro j i o o0 b hj hle hb
    rw [hj] at hb
    cases o with
    | dead => simp [fpo] at hb
    | arr e xs g nn =>
      cases o0 with
      | dead => simp [leO] at hle
      | arr e' xs' g' nn' => exact hb
      | mat _ _ _ _ => exact hle.elim
      | gm _ _ _ _ _ => exact hle.elim
      | mp _ _ _ => exact hle.elim
      | ap q ys fr g' nn' => cases e <;> first | exact hle.elim | exact Or.inl hb
      | cur _ _ => exact hle.elim
    | mat hs rows g nn =>
      cases o0 with
      | dead => exact hle.elim
      | arr e' xs' g' nn' => exact hle.elim
      | mat hs' rows' _ _ => obtain ⟨_, h1, _⟩ := hle; subst h1; exact hb
      | gm _ _ _ _ _ => exact hle.elim
      | mp _ _ _ => exact hle.elim
      | ap _ _ _ _ _ => exact hle.elim
      | cur _ _ => exact hle.elim
    | gm D F hs g nn =>
      cases o0 with
      | dead => exact hle.elim
      | arr e' xs' g' nn' => exact hle.elim
      | mat _ _ _ _ => exact hle.elim
      | gm D' F' hs' _ _ => obtain ⟨_, h1, _⟩ := hle; subst h1; exact hb
      | mp _ _ _ => exact hle.elim
      | ap _ _ _ _ _ => exact hle.elim
      | cur _ _ => exact hle.elim
    | mp m l g =>
      cases o0 with
      | dead => exact hle.elim
      | arr e' xs' g' nn' => exact hle.elim
      | mat _ _ _ _ => exact hle.elim
      | gm _ _ _ _ _ => exact hle.elim
      | mp _ _ _ => exact hb
      | ap _ _ _ _ _ => exact hle.elim
      | cur _ _ => exact hle.elim
    | ap q ys fr g nn =>
      cases o0 with
      | ap q' ys' fr' g' nn' => obtain ⟨_, h1, _⟩ := hle; subst h1; exact hb
      | _ => exact hle.elim
    | cur s g =>
      cases o0 with
      | cur s' g' => exact hb
      | _ => exact hle.elim
  have hown : ∀ b, Own obs' (fun j => ρ ((π[j]?).getD 0)) b → Own obs ρ b := by
    rintro b ⟨j, o, hj, hb⟩
    obtain ⟨i, o0, h1, h2, h3⟩ := hlen j o hj
    exact ⟨i, o0, h2, hfp h1 h3 hb⟩
  have hle : (C.V w obs ρ).le (C.V w obs' (fun j => ρ ((π[j]?).getD 0))) := by
    refine ⟨fun b o hb => ?_, fun _ hb => hb, rfl⟩
    simp only [Ctx.V, mask] at hb ⊢
    split at hb
    · cases hb
    · rename_i hnn
      rw [if_neg (fun k => hnn (hown b k))]
      exact hb
  have hw : WRel C obs' w (fun j => ρ ((π[j]?).getD 0)) := by
    refine ⟨fun id o hid => ?_, fun i j o o' b hi hj bi bj => ?_, fun b hb => rw0.own b (hown b hb), rw0.os0, rw0.tape, rw0.output, rw0.grow, rw0.drawn, rw0.kept, rw0.gl⟩
    · obtain ⟨i, o0, h1, h2, h3⟩ := hlen id o hid
      have h4 := (rw0.os i o0 h2).kept hle (Ext.refl (fun _ => False) w) (fun _ _ k => k)
      simp only [h1, Option.getD_some]
      cases o with
      | dead => trivial
      | arr e xs g nn =>
        cases o0 with
        | dead => simp [leO] at h3
        | arr e' xs' g' nn' =>
          obtain ⟨k1, k2, k3⟩ := h3
          subst k2
          subst k3
          obtain ⟨cs, m1, m2, m3, m4⟩ := h4
          exact ⟨cs, m1, m2, fun k => m3 (k1 k), m4⟩
        | mat _ _ _ _ => exact h3.elim
        | gm _ _ _ _ _ => exact h3.elim
        | mp _ _ _ => exact h3.elim
        | ap q ys fr g' nn' =>
          cases e <;> first | exact h3.elim | skip
          obtain ⟨k1, k2⟩ := h3
          subst k2
          obtain ⟨cs, m1, m2, m3, m4, _⟩ := h4
          exact ⟨cs, m1, m2, fun k => m3 (k1 k), m4⟩
        | cur _ _ => exact h3.elim
      | gm D F hs g nn =>
        cases o0 with
        | dead => exact h3.elim
        | arr _ _ _ _ => exact h3.elim
        | mat _ _ _ _ => exact h3.elim
        | gm D' F' hs' g' nn' =>
          obtain ⟨k1, k2, k3, k4⟩ := h3
          subst k2
          subst k3
          subst k4
          obtain ⟨cs, m1, m2, m3, m4, m5, m6, m7⟩ := h4
          exact ⟨cs, m1, m2, m3, m4, m5, fun k => m6 (k1 k), m7⟩
        | mp _ _ _ => exact h3.elim
        | ap _ _ _ _ _ => exact h3.elim
        | cur _ _ => exact h3.elim
      | ap q ys fr g nn =>
        cases o0 with
        | ap q' ys' fr' g' nn' =>
          obtain ⟨k1, k2, k3, k4⟩ := h3
          subst k2
          subst k3
          obtain ⟨cs, m1, m2, m3, m4, m5, m6, m7⟩ := h4
          exact ⟨cs, m1, m2, fun k => m3 (k1 k), m4, m5, m6, fun k => m7 (k4 k)⟩
        | _ => exact h3.elim
      | cur s g =>
        cases o0 with
        | cur s' g' =>
          obtain rfl : s' = s := h3
          exact h4
        | _ => exact h3.elim
      | mp m l g =>
        cases o0 with
        | dead => exact h3.elim
        | arr _ _ _ _ => exact h3.elim
        | mat _ _ _ _ => exact h3.elim
        | gm _ _ _ _ _ => exact h3.elim
        | mp m' l' g' =>
          obtain ⟨k2, k3⟩ : m' = m ∧ l' = l := h3
          subst k2
          subst k3
          exact h4
        | ap _ _ _ _ _ => exact h3.elim
        | cur _ _ => exact h3.elim
      | mat hs rows g nn =>
        cases o0 with
        | dead => exact h3.elim
        | gm _ _ _ _ _ => exact h3.elim
        | mp _ _ _ => exact h3.elim
        | ap _ _ _ _ _ => exact h3.elim
        | cur _ _ => exact h3.elim
        | arr _ _ _ _ => exact h3.elim
        | mat hs' rows' g' nn' =>
          obtain ⟨k1, k2, k3⟩ := h3
          subst k2
          subst k3
          obtain ⟨cs, m1, m2, m3, m4, m5, m6, m7⟩ := h4
          exact ⟨cs, m1, m2, m3, m4, m5, fun k => m6 (k1 k), m7⟩
    · obtain ⟨i', o0, h1, h2, h3⟩ := hlen i o hi
      obtain ⟨j', o1, k1, k2, k3⟩ := hlen j o' hj
      have := rw0.dis i' j' o0 o1 b h2 k2 (hfp h1 h3 bi) (hfp k1 k3 bj)
      subst this
      exact nodupB_inj hn h1 k1
  refine ⟨fun j => ρ ((π[j]?).getD 0), r.defers, r.size, fun s ex x hl => ?_, hw, fun j v hj => ?_⟩
  case refine_2 =>
    have hlt := (List.getElem?_eq_some_iff.1 hj).1
    obtain ⟨h1, h2⟩ := hp j hlt
    obtain ⟨h3, h4⟩ := r.pin j v hj
    refine ⟨?_, fun hg => ?_⟩
    · have hπ : π.length = obs'.length := leOs_len ho
      rw [← hπ]
      exact (List.getElem?_eq_some_iff.1 h1).1
    · simp only [h1, Option.getD_some]
      exact h4 (by rw [← h2]; exact hg)
  obtain ⟨y, z, rfl, h1, h2⟩ := leFr_look hf hl
  obtain ⟨k1, k2⟩ := r.fr s ex _ h1
  refine ⟨fun he => ?_, k2⟩
  have hy : AVRel (C.V w obs ρ) obs ρ y _ := k1 he
  show AVRel (C.V w obs' (fun j => ρ ((π[j]?).getD 0))) obs' (fun j => ρ ((π[j]?).getD 0)) z _
  have same : y = z → (∀ i g, z ≠ .own i g) → (∀ i g s k, z ≠ .elt i g s k) → AVRel (C.V w obs' (fun j => ρ ((π[j]?).getD 0))) obs' (fun j => ρ ((π[j]?).getD 0)) z (a.tmps.getD s undef) := by
    rintro rfl n1 n2
    cases y with
    | junk => trivial
    | int k n => exact hy
    | bool b => exact hy
    | str s => exact hy
    | sl f e xs => exact SlRel.mono hle hy
    | lr l xs => exact LRowRel.mono hle hy
    | vec xs => exact hy
    | nils => exact hy
    | own id g => exact absurd rfl (n1 id g)
    | elt id g s k => exact absurd rfl (n2 id g s k)
    | relt f e d =>
      obtain ⟨a, u, hv, hf, hr, hc⟩ := hy
      refine ⟨a, u, hv, fun k => hle.Fr _ (hf k), hr.mono hle, fun j hj => ?_⟩
      have hsz := hr.cells.1
      have h3 := hc j hj
      rw [Array.getElem?_eq_getElem (by omega)] at h3 ⊢
      exact hle.cell h3
    | hdr h n => exact hy
    | emp b => exact hy
    | fn f => exact hy
    | hp q k => exact hy
    | lenv n => exact hy
    | clo f e d =>
      obtain ⟨a, u, hv, hf, hr, hc⟩ := hy
      refine ⟨a, u, hv, hle.Fr _ hf, hr.mono hle, fun j hj => ?_⟩
      have hsz := hr.cells.1
      have h3 := hc j hj
      rw [Array.getElem?_eq_getElem (by omega)] at h3 ⊢
      exact hle.cell h3
  cases z with
  | junk => trivial
  | own j g' =>
    cases y with
    | own i g =>
      obtain ⟨m0, m1, m2, m3⟩ := h2
      obtain ⟨p1, p2⟩ := hy
      have hj : j < obs'.length := by
        rcases Nat.lt_or_ge j obs'.length with h | h
        · exact h
        · rw [oAt_eq, List.getElem?_eq_none h] at m3; exact m3.elim
      refine ⟨hj, fun c hc => ?_⟩
      have hg : genOf obs i = some g := by
        unfold genOf
        rw [oAt_get p1]
        revert m2
        cases oAt obs i with
        | dead => intro k; exact k.elim
        | arr e xs g0 nn => intro k; exact congrArg some (Eq.symm k)
        | mat _ _ g0 nn => intro k; exact congrArg some (Eq.symm k)
        | gm _ _ _ g0 nn => intro k; exact congrArg some (Eq.symm k)
        | mp _ _ g0 => intro k; exact congrArg some (Eq.symm k)
        | ap _ _ _ g0 _ => intro k; exact congrArg some (Eq.symm k)
        | cur _ g0 => intro k; exact congrArg some (Eq.symm k)
      have hg' : g' = c := by
        unfold genOf at hc
        rw [oAt_get hj] at hc
        revert m3 hc
        cases oAt obs' j with
        | dead => intro k; exact k.elim
        | arr e xs g0 nn => intro k hc; simp [O.gen] at hc; exact (show g' = g0 from k).trans hc
        | mat _ _ g0 nn => intro k hc; simp [O.gen] at hc; exact (show g' = g0 from k).trans hc
        | gm _ _ _ g0 nn => intro k hc; simp [O.gen] at hc; exact (show g' = g0 from k).trans hc
        | mp _ _ g0 => intro k hc; simp [O.gen] at hc; exact (show g' = g0 from k).trans hc
        | ap _ _ _ g0 _ => intro k hc; simp [O.gen] at hc; exact (show g' = g0 from k).trans hc
        | cur _ g0 => intro k hc; simp [O.gen] at hc; exact (show g' = g0 from k).trans hc
      refine ⟨by omega, fun _ => ?_⟩
      simp only [m1, Option.getD_some]
      exact (p2 g hg).2 rfl
    | _ => exact h2.elim
  | elt i g s k => simp [leAV] at h2
  | sl f e xs =>
    cases y with
    | lr l ys =>
      simp only [leAV] at h2
      cases h2
      exact (show SlRel (C.V w obs' _) f .int ys _ from by
        have := LRowRel.toRow (LRowRel.mono hle hy)
        cases f
        · exact (RowRel.weaken this).toSl
        · exact this.toSl)
    | nils =>
      simp only [leAV] at h2
      cases h2
      simp only [AVRel] at hy
      rw [hy]
      exact ⟨none, 0, rfl, by simp, by simp, fun i hi => by simp at hi⟩
    | sl f' e' ys => exact same h2 (by simp) (by simp)
    | _ => exact absurd h2 (by simp [leAV])
  | int k n => cases y <;> first | exact same h2 (by simp) (by simp) | exact absurd h2 (by simp [leAV])
  | bool b => cases y <;> first | exact same h2 (by simp) (by simp) | exact absurd h2 (by simp [leAV])
  | str b => cases y <;> first | exact same h2 (by simp) (by simp) | exact absurd h2 (by simp [leAV])
  | lr l b => cases y <;> first | exact same h2 (by simp) (by simp) | exact absurd h2 (by simp [leAV])
  | vec b => cases y <;> first | exact same h2 (by simp) (by simp) | exact absurd h2 (by simp [leAV])
  | nils => cases y <;> first | exact same h2 (by simp) (by simp) | exact absurd h2 (by simp [leAV])
  | relt f e b => cases y <;> first | exact same h2 (by simp) (by simp) | exact absurd h2 (by simp [leAV])
  | fn b => cases y <;> first | exact same h2 (by simp) (by simp) | exact absurd h2 (by simp [leAV])
  | lenv n => cases y <;> first | exact same h2 (by simp) (by simp) | exact absurd h2 (by simp [leAV])
  | clo f e d => cases y <;> first | exact same h2 (by simp) (by simp) | exact absurd h2 (by simp [leAV])
  | hp q k => cases y <;> first | exact same h2 (by simp) (by simp) | exact absurd h2 (by simp [leAV])
  | hdr h n => cases y <;> first | exact same h2 (by simp) (by simp) | exact absurd h2 (by simp [leAV])
  | emp b => cases y <;> first | exact same h2 (by simp) (by simp) | exact absurd h2 (by simp [leAV])
theorem Le.re {C : Ctx} (hC : C.pin = []) {n : Nat} {fr : List (Nat × Bool × Sl)} {obs obs' : List O} (π : List Nat) (l : List (Nat × Bool × AV)) (hn : nodupB π = true) (ho : leOs obs π obs') (hf : leFr π obs obs' fr l) :
    Le C ⟨n, fr, obs⟩ ⟨n, frV l, obs'⟩ := Le.reP π l (fun j hj => by rw [hC] at hj; simp at hj) hn ho hf
theorem letgo_sl {C : Ctx} {obs : List O} {w : World} {ρ : Nat → Value} (rr : WRel C obs w ρ) {id g : Nat} {e : E} {xs : List e.D} {nn : Bool} (ho : obs[id]? = some (.arr e xs g nn)) :
    Step C w w obs (obs.set id .dead) ρ (fun i => if i = id then ρ id else ρ i) ∧ SlRel (C.V w (obs.set id .dead) (fun i => if i = id then ρ id else ρ i)) true e xs (ρ id) := by
  have T := Turn.letgo rr ho
  have hst := T.step rr
  obtain ⟨cs, hown, henc, hnn, hml⟩ := rr.os id _ ho
  refine ⟨hst, ?_⟩
  have henc' := henc.mono hst.le
  have hown0 := hown
  rcases hown.2 with ⟨hv, hz⟩ | ⟨b, cap, cur, hv, _, hg, h1, h2, h3, h4⟩
  · exact ⟨none, 0, by rw [hv, hz], by omega, by omega, fun i hi => by omega⟩
  · have hfp : fpo (ρ id) (.arr e xs g nn) b := by simp [fpo, hv, Value.ownBlock]
    have hnot : ¬ Own (obs.set id .dead) (fun i => if i = id then ρ id else ρ i) b := by
      rintro ⟨j, oj, hj, hf⟩
      by_cases hji : id = j
      · subst hji
        rw [List.getElem?_set_self (List.getElem?_eq_some_iff.1 ho).1] at hj
        cases hj
        simp [fpo] at hf
      · rw [List.getElem?_set_ne hji] at hj
        simp only [if_neg (Ne.symm hji)] at hf
        exact hji (rr.dis id j _ oj b ho hj hfp hf)
    refine ⟨some ⟨b, 0, none⟩, cap, hv, by omega, h2, fun i hi => ?_⟩
    obtain ⟨u, hu, hcell⟩ := henc'.2 i (by omega)
    refine ⟨⟨b, 0, none⟩, u, rfl, fun _ => .inl (rr.own b ⟨id, _, ho, hfp⟩), hu, fun j hj => ?_⟩
    have hsz := hu.cells.1
    have h5 := hcell j (by omega)
    rw [Array.getElem?_eq_getElem (by omega)] at h5 ⊢
    have h6 := hown0.cells (g := b) (by rw [hv]; rfl) _ _ h5
    have hH : (C.V w (obs.set id .dead) (fun i => if i = id then ρ id else ρ i)).H b = w.heap[b]? := by
      simp only [Ctx.V, mask, if_neg hnot]
    simp only [add_plain, Vw.cell, hH]
    simp only [World.cell?, add_plain] at h6
    revert h6
    cases w.heap[b]? with
    | none => intro h; cases h
    | some o => cases o <;> first | (intro h; cases h) | exact fun h => h
def slF (id g : Nat) (x' : AV) (obs : List O) (fr : List (Nat × Bool × Sl)) : List (Nat × Bool × AV) → Prop
  | [] => True
  | (s, ex, x) :: r => ((look s fr = some (ex, .v x)) ∨ (look s fr = some (ex, .v (.own id g)) ∧ x = x')) ∧ slF id g x' obs fr r
theorem slF_look {id g : Nat} {x' : AV} {obs : List O} {fr : List (Nat × Bool × Sl)} : ∀ {l : List (Nat × Bool × AV)}, slF id g x' obs fr l → ∀ {s : Nat} {ex : Bool} {x : Sl}, look s (frV l) = some (ex, x) →
    ∃ z, x = .v z ∧ (look s fr = some (ex, .v z) ∨ (look s fr = some (ex, .v (.own id g)) ∧ z = x'))
  | [], _, s, ex, x, h => by simp [look, frV] at h
  | (t, ey, y) :: r, hs, s, ex, x, h => by
    simp only [look, frV, List.map_cons] at h
    split at h
    · rename_i ht
      cases h
      have : s = t := by simpa using ht
      subst this
      exact ⟨y, rfl, hs.1⟩
    · exact slF_look hs.2 h
theorem Le.letgo {C : Ctx} {n : Nat} {fr : List (Nat × Bool × Sl)} {obs : List O} (id : Nat) {g : Nat} {e : E} {xs : List e.D} {nn : Bool} (l : List (Nat × Bool × AV)) (ho : oAt obs id = .arr e xs g nn) (hf : slF id g (.sl true e xs) obs fr l) :
    Le C ⟨n, fr, obs⟩ ⟨n, frV l, oSet obs id .dead⟩ := by
  intro a w ρ r
  have hid : id < obs.length := by
    rcases Nat.lt_or_ge id obs.length with h | h
    · exact h
    · rw [oAt_eq, List.getElem?_eq_none h] at ho; cases ho
  have ho' : obs[id]? = some (.arr e xs g nn) := by rw [oAt_get hid, ho]
  rw [oSet_eq]
  obtain ⟨hst, hsl⟩ := letgo_sl r.w ho'
  refine ⟨_, r.defers, r.size, fun s ex x hl => ?_, hst.wr, (hst.rel r).pin⟩
  obtain ⟨z, rfl, h1 | ⟨h1, h2⟩⟩ := slF_look hf hl
  · obtain ⟨k1, k2⟩ := r.fr s ex _ h1
    exact ⟨fun he => hst.slot (k1 he), k2⟩
  · obtain ⟨k1, k2⟩ := r.fr s ex _ h1
    refine ⟨fun he => ?_, k2⟩
    subst h2
    obtain ⟨_, hk⟩ := (show AVRel (C.V w obs ρ) obs ρ (.own id g) _ from k1 he)
    have : a.tmps.getD s undef = ρ id := (hk g (by unfold genOf; rw [ho']; rfl)).2 rfl
    show SlRel _ _ _ _ _
    rw [this]
    exact hsl
end Go.Aw
namespace Go.Aw
open Go
section
variable {C : Ctx} {k : List Item}
def evT (σ : St) : List Nat → List AV
  | [] => []
  | t :: l => σ.ev (.tmp t) :: evT σ l
def hasT (σ : St) : List Nat → Prop
  | [] => True
  | t :: l => σ.has (.tmp t) ∧ hasT σ l
theorem evT_nil (σ : St) : evT σ [] = [] := rfl
theorem evT_cons (σ : St) (t : Nat) (l : List Nat) : evT σ (t :: l) = σ.ev (.tmp t) :: evT σ l := rfl
theorem hasT_nil (σ : St) : hasT σ [] = True := rfl
theorem hasT_cons (σ : St) (t : Nat) (l : List Nat) : hasT σ (t :: l) = (σ.has (.tmp t) ∧ hasT σ l) := rfl
theorem evT_eq (σ : St) : ∀ l : List Nat, evT σ l = l.map fun t => σ.ev (.tmp t)
  | [] => rfl
  | t :: l => by simp [evT, evT_eq σ l]
theorem hasT_eq (σ : St) : ∀ l : List Nat, hasT σ l → ∀ t ∈ l, σ.has (.tmp t)
  | [], _ => by simp
  | t :: l, h => by
    intro u hu
    cases hu with
    | head => exact h.1
    | tail _ hu => exact hasT_eq σ l h.2 u hu
theorem Run.retW {σ : St} (ts : List Nat) {xs : List AV} (hl : ts.length ≤ 4) (hres : C.fn.results = (ts.map ResultVar.tmp).toArray) (hx : evT σ ts = xs) (hh : hasT σ ts) (h : Fin C xs σ.obs) : Run C (.code .ret :: k) σ :=
  Run.ret hl hres (by rw [← hx, evT_eq]) (hasT_eq σ ts hh) h
theorem Run.doneW {σ : St} (ts : List Nat) {xs : List AV} (hl : ts.length ≤ 4) (hres : C.fn.results = (ts.map ResultVar.tmp).toArray) (hx : evT σ ts = xs) (hh : hasT σ ts) (h : Fin C xs σ.obs) : Run C [] σ :=
  Run.done hl hres (by rw [← hx, evT_eq]) (hasT_eq σ ts hh) h
def dstL : List Oper → List (Option Nat)
  | [] => []
  | o :: r => o.dst :: dstL r
theorem dstL_nil : dstL [] = [] := rfl
theorem dstL_cons (d : Option Nat) (op : Op) (ty : TypeId) (p : String) (af : Array Edge) (g : Option (Nat × Bool)) (r : List Oper) : dstL (⟨d, op, ty, p, af, g⟩ :: r) = d :: dstL r := rfl
theorem dstL_eq : ∀ l : List Oper, dstL l = l.map (·.dst)
  | [] => rfl
  | o :: r => by simp [dstL, dstL_eq r]
theorem Run.regionW (hC : C.Ok) {σ : St} {id : Nat} {l : List Oper} (h : ∀ K : St → Prop, (∀ σ', Run C k σ' → K σ') → aexec C ⟨dstL l, false⟩ l σ K) : Run C (.code (.region id l.toArray false) :: k) σ :=
  Run.region hC (by simpa only [dstL_eq] using h)
theorem Run.len {n : Nat} {fr : List (Nat × Bool × Sl)} {obs : List O} (s : Nat) {f : Bool} {e : E} {xs : List e.D} (h : look s fr = some (true, .v (.sl f e xs))) (hk : xs.length ≤ 9223372036854775807 → Run C k ⟨n, fr, obs⟩) : Run C k ⟨n, fr, obs⟩ := by
  refine Run.fact (fun a w ρ r => ?_) hk
  obtain ⟨_, _, _, h1, h2, _⟩ := (show SlRel _ _ _ _ _ from (r.fr s true _ h).1 rfl)
  exact Nat.le_trans h1 h2
end
def entF (i : Nat) : List AV → List (Nat × Bool × Sl)
  | [] => []
  | x :: l => (i, true, .v x) :: entF (i + 1) l
theorem entry_eq (args : List AV) (n : Nat) : entry args n = ⟨n, entF 0 args, []⟩ := by
  simp only [entry]
  congr 1
  suffices h : ∀ (l : List AV) (i : Nat), (l.zipIdx i).map (fun p => (p.2, true, Sl.v p.1)) = entF i l from h args 0
  intro l
  induction l with
  | nil => intro i; rfl
  | cons x l ih => intro i; simp [entF, ih]
theorem ent_nil (i : Nat) : entF i [] = [] := rfl
theorem ent_cons (i : Nat) (x : AV) (l : List AV) : entF i (x :: l) = (i, true, .v x) :: entF (i + 1) l := rfl
theorem wrap_id {n : Int} (h : -9223372036854775808 ≤ n ∧ n ≤ 9223372036854775807) : IntKind.i64.wrap n = n := by rw [IntKind.wrap_i64]; omega
theorem frV_nil : frV [] = [] := rfl
theorem frV_cons (s : Nat) (ex : Bool) (x : AV) (l : List (Nat × Bool × AV)) : frV ((s, ex, x) :: l) = (s, ex, .v x) :: frV l := rfl
theorem subF_nil (fr : List (Nat × Bool × Sl)) : subF fr [] = True := rfl
theorem subF_cons (fr : List (Nat × Bool × Sl)) (s : Nat) (x : Bool × Sl) (r : List (Nat × Bool × Sl)) : subF fr ((s, x) :: r) = (look s fr = some x ∧ subF fr r) := rfl
theorem AY : type_of% @AX ∧ (∀ p : Prop, (True ∧ p) = p) ∧ (∀ p : Prop, (p ∧ True) = p) ∧ (∀ b : Bool, (true && b) = b) ∧ (∀ b : Bool, (b && true) = b) ∧ (∀ b : Bool, (false && b) = false) ∧ (∀ b : Bool, (b && false) = false) ∧
    (∀ b : Bool, (true || b) = true) ∧ (∀ b : Bool, (b || true) = true) ∧ (∀ b : Bool, (false || b) = b) ∧ (∀ b : Bool, (b || false) = b) ∧
    (∀ (α : Type) (a b : α), (bif true then a else b) = a) ∧ (∀ (α : Type) (a b : α), (bif false then a else b) = b) ∧
    (!false) = true ∧ (!true) = false ∧ (∀ (α : Type) (a : α), (some a).isSome = true) ∧ (∀ (α : Type), (none : Option α).isSome = false) ∧ decide True = true ∧ decide False = false ∧
    (∀ p : Prop, (p → p) = True) ∧ (∀ α : Sort 1, (α → True) = True) ∧ (∀ p : Prop, (p → True) = True) ∧ (∀ p : Prop, (True → p) = p) ∧ (∀ (α : Type) (a : α), (a = a) = True) ∧
    (∀ (α : Type) (a : α) (l : List α), (a :: l).isEmpty = false) ∧ (∀ (α : Type), ([] : List α).isEmpty = true) ∧ (∀ (α : Type) (l : List α), [] ++ l = l) ∧ (∀ (α : Type) (l : List α), l ++ [] = l) ∧
    type_of% @evT_nil ∧ type_of% @evT_cons ∧ type_of% @hasT_nil ∧ type_of% @hasT_cons ∧ type_of% @entry_eq ∧ type_of% @ent_nil ∧ type_of% @ent_cons ∧ type_of% @frV_nil ∧ type_of% @frV_cons ∧ type_of% @subF_nil ∧ type_of% @subF_cons ∧ type_of% @dstL_nil ∧ type_of% @dstL_cons := by
  refine ⟨AX, ?_, ?_, ?_, ?_, ?_, ?_, ?_, ?_, ?_, ?_, ?_, ?_, rfl, rfl, ?_, ?_, ?_, ?_, ?_, ?_, ?_, ?_, ?_, ?_, ?_, ?_, ?_, evT_nil, evT_cons, hasT_nil, hasT_cons, entry_eq, ent_nil, ent_cons, frV_nil, frV_cons, subF_nil, subF_cons, dstL_nil, dstL_cons⟩ <;> simp
end Go.Aw
namespace Go.Aw
open Go
def opnd : Operand → List Nat
  | .tmp t => [t]
  | _ => []
def opndO : Option Operand → List Nat
  | some x => opnd x
  | none => []
def opndL : List Operand → List Nat
  | [] => []
  | x :: l => opnd x ++ opndL l
def opndP : List (Nat × Operand) → List Nat
  | [] => []
  | x :: l => opnd x.2 ++ opndP l
def opndC : Callee → List Nat
  | .value x => opnd x
  | _ => []
def opReads : Op → List Nat
  | .move x => opnd x
  | .assign x => opnd x
  | .pick c a b => opnd c ++ opnd a ++ opnd b
  | .binOp _ _ x y _ => opnd x ++ opnd y
  | .unOp _ _ x => opnd x
  | .load _ x => opnd x
  | .box _ x => opnd x
  | .store _ x y => opnd x ++ opnd y
  | .indexAddr _ x y => opnd x ++ opnd y
  | .convert _ _ x => opnd x
  | .index _ x y => opnd x ++ opnd y
  | .lookup _ x y _ => opnd x ++ opnd y
  | .mapUpdate _ x y z => opnd x ++ opnd y ++ opnd z
  | .insert _ x y z => opnd x ++ opnd y ++ opnd z
  | .makeSlice _ x y => opnd x ++ opnd y
  | .buildSlice _ _ parts => opndP parts.toList
  | .slice _ x lo hi mx => opnd x ++ opndO lo ++ opndO hi ++ opndO mx
  | .extract x _ => opnd x
  | .call c => opndC c.callee ++ opndL c.args.toList
  | _ => []
def gReads (ds : List (Option Nat)) : Option (Nat × Bool) → List Nat
  | some (j, _) => (slotOf ds j).toList
  | none => []
def reads (ds : List (Option Nat)) (o : Oper) : List Nat := opReads o.op ++ gReads ds o.guard
def Agree (L : List Nat) (σ σ' : St) : Prop := ∀ s ∈ L, look s σ.fr = look s σ'.fr
section
variable {σ σ' : St}
theorem ev_agree {x : Operand} (h : Agree (opnd x) σ σ') : σ.ev x = σ'.ev x := by
  cases x with
  | tmp t => simp only [St.ev, h t (by simp [opnd])]
  | _ => rfl
theorem has_agree {x : Operand} (h : Agree (opnd x) σ σ') : σ.has x = σ'.has x := by
  cases x with
  | tmp t => simp only [St.has, h t (by simp [opnd])]
  | _ => rfl
theorem Agree.left {L M : List Nat} (h : Agree (L ++ M) σ σ') : Agree L σ σ' := fun s hs => h s (List.mem_append_left _ hs)
theorem Agree.right {L M : List Nat} (h : Agree (L ++ M) σ σ') : Agree M σ σ' := fun s hs => h s (List.mem_append_right _ hs)
theorem evL_agree : ∀ {l : List Operand}, Agree (opndL l) σ σ' → evL σ l = evL σ' l
  | [], _ => rfl
  | x :: l, h => by simp only [evL, ev_agree (Agree.left h), evL_agree (Agree.right h)]
theorem hasL_agree : ∀ {l : List Operand}, Agree (opndL l) σ σ' → hasL σ l = hasL σ' l
  | [], _ => rfl
  | x :: l, h => by simp only [hasL, has_agree (Agree.left h), hasL_agree (Agree.right h)]
theorem evP_agree : ∀ {l : List (Nat × Operand)}, Agree (opndP l) σ σ' → evP σ l = evP σ' l
  | [], _ => rfl
  | x :: l, h => by simp only [evP, ev_agree (Agree.left h), evP_agree (Agree.right h)]
theorem hasP_agree : ∀ {l : List (Nat × Operand)}, Agree (opndP l) σ σ' → hasP σ l = hasP σ' l
  | [], _ => rfl
  | x :: l, h => by simp only [hasP, has_agree (Agree.left h), hasP_agree (Agree.right h)]
theorem omap_agree {x : Option Operand} (h : Agree (opndO x) σ σ') : x.map σ.ev = x.map σ'.ev := by
  cases x with
  | none => rfl
  | some x => simp only [Option.map_some, ev_agree (x := x) h]
theorem hasO_agree {x : Option Operand} (h : Agree (opndO x) σ σ') : hasO σ x = hasO σ' x := by
  cases x with
  | none => rfl
  | some x => exact has_agree (x := x) h
theorem hasAll_agree {op : Op} (h : Agree (opReads op) σ σ') : hasAll σ op = hasAll σ' op := by
  cases op <;> simp only [opReads] at h <;> try rfl
  case binOp => simp only [hasAll, has_agree h.left, has_agree h.right]
  case unOp => exact has_agree h
  case load => exact has_agree h
  case box => exact has_agree h
  case store => simp only [hasAll, has_agree h.left, has_agree h.right]
  case indexAddr => simp only [hasAll, has_agree h.left, has_agree h.right]
  case convert => simp only [hasAll, has_agree h]
  case index => simp only [hasAll, has_agree h.left, has_agree h.right]
  case lookup => simp only [hasAll, has_agree h.left, has_agree h.right]
  case mapUpdate => simp only [hasAll, has_agree h.left.left, has_agree h.left.right, has_agree h.right]
  case insert => simp only [hasAll, has_agree h.left.left, has_agree h.left.right, has_agree h.right]
  case makeSlice => simp only [hasAll, has_agree h.left, has_agree h.right]
  case buildSlice => simp only [hasAll, ← hasP_eq, hasP_agree h]
  case slice t x lo hi mx =>
    cases mx with
    | none => simp only [hasAll, ← hasO_eq, has_agree h.left.left.left, hasO_agree h.left.left.right, hasO_agree h.left.right]
    | some m => simp only [hasAll, ← hasO_eq, has_agree h.left.left.left, hasO_agree h.left.left.right, hasO_agree h.left.right, has_agree (x := m) h.right]
  case pick => exact has_agree h.left.left
  case call => simp only [hasAll, ← hasL_eq, hasL_agree h.right]
def Res.on (obs : List O) : Res → Res
  | .ok vc x _ => .ok vc x obs
  | r => r
variable {C : Ctx}
theorem astep_agree {op : Op} (h : Agree (opReads op) σ σ') (ho : σ.obs = σ'.obs) : astep C σ op = astep C σ' op := by
  obtain ⟨n, fr, obs⟩ := σ
  obtain ⟨n', fr', obs'⟩ := σ'
  simp only at ho
  subst ho
  cases op <;> simp only [opReads] at h <;> try rfl
  case move => simp only [astep, ev_agree h, has_agree h]
  case assign => simp only [astep, ev_agree h, has_agree h]
  case pick => simp only [astep_pick, ev_agree h.left.left, ev_agree h.left.right, ev_agree h.right, has_agree h.left.right, has_agree h.right]
  case binOp => simp only [astep_bin, ev_agree h.left, ev_agree h.right]
  case unOp => simp only [astep, ev_agree h]
  case load => simp only [astep, ev_agree h]
  case box => simp only [astep, ev_agree h]
  case store => simp only [astep_store, ev_agree h.left, ev_agree h.right]
  case indexAddr => simp only [astep, ev_agree h.left, ev_agree h.right]
  case convert => simp only [astep, ev_agree h]
  case index => simp only [astep, ev_agree h.left, ev_agree h.right]
  case lookup t x y b =>
    cases b with
    | true => rfl
    | false => simp only [astep, ev_agree h.left, ev_agree h.right]
  case mapUpdate => simp only [astep, ev_agree h.left.left, ev_agree h.left.right, ev_agree h.right]
  case insert => simp only [astep, ev_agree h.left.left, ev_agree h.left.right, ev_agree h.right]
  case makeMap t x => cases x <;> rfl
  case makeSlice => simp only [astep, ev_agree h.left, ev_agree h.right]
  case buildSlice t m parts => simp only [astep, ← evP_eq, evP_agree h]
  case slice t x lo hi mx =>
    cases mx with
    | none => simp only [astep_slice, ev_agree h.left.left.left, omap_agree h.left.left.right, omap_agree h.left.right]
    | some m => simp only [astep, ev_agree h.left.left.left, omap_agree h.left.left.right, omap_agree h.left.right, ev_agree (x := m) h.right]
  case extract x i =>
    cases x with
    | tmp t => simp only [astep_ex, h t (by simp [opnd])]
    | _ => rfl
  case call c =>
    obtain ⟨cal, args, ts⟩ := c
    cases cal with
    | builtin b =>
      obtain ⟨l⟩ := args
      obtain ⟨tl⟩ := ts
      replace h : Agree (opndL l) _ _ := h.right
      cases b <;> try rfl
      case len =>
        match l, tl with
        | [x], [t] => exact congrArg (fun y => lenQ (C.bt t) (C.Γ t) y obs) (ev_agree (x := x) h.left)
        | [], _ => rfl
        | [_], [] => rfl
        | [_], _ :: _ :: _ => rfl
        | _ :: _ :: _, _ => rfl
      case append =>
        match l, tl with
        | [x, y], [t, t'] => simp only [astep, ev_agree (x := x) h.left, ev_agree (x := y) h.right.left]
        | [], _ => rfl
        | [_], _ => rfl
        | [_, _], [] => rfl
        | [_, _], [_] => rfl
        | [_, _], _ :: _ :: _ :: _ => rfl
        | _ :: _ :: _ :: _, _ => rfl
      case copy =>
        match l, tl with
        | [x, y], [t, t'] => simp only [astep, ev_agree (x := x) h.left, ev_agree (x := y) h.right.left]
        | [], _ => rfl
        | [_], _ => rfl
        | [_, _], [] => rfl
        | [_, _], [_] => rfl
        | [_, _], _ :: _ :: _ :: _ => rfl
        | _ :: _ :: _ :: _, _ => rfl
      case max =>
        match l with
        | [x, y] => simp only [astep, ev_agree (x := x) h.left, ev_agree (x := y) h.right.left]
        | [] => rfl
        | [_] => rfl
        | _ :: _ :: _ :: _ => rfl
      case min =>
        match l with
        | [x, y] => simp only [astep, ev_agree (x := x) h.left, ev_agree (x := y) h.right.left]
        | [] => rfl
        | [_] => rfl
        | _ :: _ :: _ :: _ => rfl
    | _ => rfl
def pureOp : Op → Bool
  | .move _ | .assign _ | .pick .. | .binOp .. | .unOp .. | .extract .. | .slice _ _ _ _ none | .index .. => true
  | _ => false
theorem binV_on (op : BinOp) (x y : AV) (obs obs' : List O) : binV op x y obs' = (binV op x y obs).on obs' := by
  unfold binV
  split
  · unfold binI sameK
    repeat' split
    all_goals rfl
  all_goals ((repeat' split) <;> rfl)
theorem binQ_on (b : Option BT) (gq : Option E) (op : BinOp) (x y : AV) (obs obs' : List O) : binQ b gq op x y obs' = (binQ b gq op x y obs).on obs' := by
  unfold binQ
  split <;> first | exact binV_on .. | rfl
theorem astep_pure {op : Op} (hp : pureOp op = true) (n : Nat) (fr : List (Nat × Bool × Sl)) (obs obs' : List O) : astep C ⟨n, fr, obs'⟩ op = (astep C ⟨n, fr, obs⟩ op).on obs' := by
  cases op <;> simp only [pureOp] at hp <;> first | (cases hp; done) | skip
  case move => rfl
  case assign => rfl
  case pick c x y =>
    simp only [astep_pick, pickQ]
    rw [show St.ev ⟨n, fr, obs'⟩ c = St.ev ⟨n, fr, obs⟩ c from rfl, show St.ev ⟨n, fr, obs'⟩ x = St.ev ⟨n, fr, obs⟩ x from rfl, show St.ev ⟨n, fr, obs'⟩ y = St.ev ⟨n, fr, obs⟩ y from rfl]
    cases St.ev ⟨n, fr, obs⟩ c <;> cases St.ev ⟨n, fr, obs⟩ x <;> cases St.ev ⟨n, fr, obs⟩ y <;> rfl
  case binOp op t x y t' => exact binQ_on ..
  case unOp op t x =>
    simp only [astep, unV]
    rw [show St.ev ⟨n, fr, obs'⟩ x = St.ev ⟨n, fr, obs⟩ x from rfl]
    split <;> rfl
  case slice t x lo hi mx =>
    cases mx with
    | some m => simp [pureOp] at hp
    | none =>
      simp only [astep_slice]
      rw [show St.ev ⟨n, fr, obs'⟩ x = St.ev ⟨n, fr, obs⟩ x from rfl, show (lo.map fun z => St.ev ⟨n, fr, obs'⟩ z) = (lo.map fun z => St.ev ⟨n, fr, obs⟩ z) from rfl, show (hi.map fun z => St.ev ⟨n, fr, obs'⟩ z) = (hi.map fun z => St.ev ⟨n, fr, obs⟩ z) from rfl]
      have key : ∀ (v : AV) (l h : Option AV), sliceV v l h obs' = (sliceV v l h obs).on obs' := by
        intro v l h
        unfold sliceV
        split <;> first | rfl | (split <;> rfl)
      cases C.wt t with
      | some e =>
        simp only [sliceT_some]
        have keyw : ∀ (v : AV) (l h : Option AV), wsliceV v l h obs' = (wsliceV v l h obs).on obs' := by
          intro v l h
          unfold wsliceV
          split <;> rfl
        exact keyw ..
      | none =>
      simp only [sliceT_none]
      unfold sliceQ
      split
      · exact key ..
      · split
        · exact key ..
        · rfl
      · split
        · exact key ..
        · rfl
      · rfl
  case index t x i =>
    simp only [astep, sixV]
    rw [show St.ev ⟨n, fr, obs'⟩ x = St.ev ⟨n, fr, obs⟩ x from rfl, show St.ev ⟨n, fr, obs'⟩ i = St.ev ⟨n, fr, obs⟩ i from rfl]
    split <;> rfl
  case extract x i =>
    cases x with
    | tmp t =>
      simp only [astep_ex, exQ]
      rcases look t fr with _ | ⟨_ | _, _ | l⟩ <;> try rfl
      simp only []
      cases l[i]? <;> rfl
    | _ => rfl
theorem astep_keeps {op : Op} (hr : roOp op = true) {n : Nat} {fr : List (Nat × Bool × Sl)} {obs obs' : List O} (hk : Keeps obs obs') {vc : Prop} {x : AV} {o : List O} (h : astep C ⟨n, fr, obs⟩ op = .ok vc x o) :
    astep C ⟨n, fr, obs'⟩ op = .ok vc x obs' := by
  by_cases hp : pureOp op = true
  · rw [astep_pure hp n fr obs obs', h]; rfl
  · cases op <;> simp only [roOp] at hr <;> first | (cases hr; done) | (exact absurd rfl hp) | skip
    case slice t y lo hi mx =>
      cases mx with
      | none => exact absurd rfl hp
      | some m =>
        simp only [astep] at h ⊢
        rw [show St.ev ⟨n, fr, obs'⟩ y = St.ev ⟨n, fr, obs⟩ y from rfl, show (lo.map fun z => St.ev ⟨n, fr, obs'⟩ z) = (lo.map fun z => St.ev ⟨n, fr, obs⟩ z) from rfl, show (hi.map fun z => St.ev ⟨n, fr, obs'⟩ z) = (hi.map fun z => St.ev ⟨n, fr, obs⟩ z) from rfl, show St.ev ⟨n, fr, obs'⟩ m = St.ev ⟨n, fr, obs⟩ m from rfl]
        unfold slice3V at h ⊢
        split at h
        case h_2 => cases h
        rename_i q0 k0 n0 id g k' m' e1 e2 e3 e4 e5
        have e2' : (lo.map fun z => St.ev ⟨n, fr, obs⟩ z) = none := e2
        have e3' : (hi.map fun z => St.ev ⟨n, fr, obs⟩ z) = some (AV.int k0 n0) := e3
        rw [e1, e2', e3', e4, e5]
        dsimp only
        cases ho : obs[id]? with
        | none => rw [ho] at h; cases h
        | some ob =>
          rw [ho] at h
          rw [hk id ob ho]
          cases ob with
          | ap q ys fr2 g' nn =>
            cases fr2 with
            | false => cases h
            | true =>
              simp only at h ⊢
              split at h
              · rename_i hc; rw [if_pos hc]; cases h; rfl
              · cases h
          | _ => cases h
    case load t y =>
      simp only [astep] at h ⊢
      rw [show St.ev ⟨n, fr, obs'⟩ y = St.ev ⟨n, fr, obs⟩ y from rfl]
      revert h
      cases C.wt t with
      | some e =>
        simp only [loadS_some]
        cases St.ev ⟨n, fr, obs⟩ y <;> simp only [wloadV] <;> intro h <;> try (cases h; done)
        case elt id g s k =>
          cases ho : obs[id]? with
          | none => rw [ho] at h; cases h
          | some ob =>
            rw [ho] at h
            rw [hk id ob ho]
            cases ob with
            | arr e xs g' nn =>
              cases e with
              | vec =>
                simp only at h ⊢
                split at h
                · rename_i hc; rw [if_pos hc]; cases h; rfl
                · cases h
              | _ => cases h
            | _ => cases h
        case relt f e d =>
          cases e <;> simp only at h ⊢ <;> first | (cases h; done) | (cases h; rfl)
      | none =>
      simp only [loadS_none]
      cases St.ev ⟨n, fr, obs⟩ y <;> simp only [loadV] <;> intro h <;> try (cases h; done)
      case elt id g s k =>
        cases ho : obs[id]? with
        | none => rw [ho] at h; cases h
        | some ob =>
          rw [ho] at h
          rw [hk id ob ho]
          cases ob with
          | dead => cases h
          | arr e xs g' nn =>
            simp only at h ⊢
            split at h
            · rename_i hc; rw [if_pos hc]; cases h; rfl
            · cases h
          | mat hs xs g' nn =>
            simp only at h ⊢
            split at h
            · rename_i hc; rw [if_pos hc]; cases h; rfl
            · cases h
          | gm D F xs g' nn =>
            simp only at h ⊢
            split at h
            · rename_i hc; rw [if_pos hc]; cases h; rfl
            · cases h
          | mp _ _ _ => cases h
          | ap _ _ _ _ _ => cases h
          | cur _ _ => cases h
      case relt f e d =>
        split at h
        · rename_i hc; rw [if_pos hc]; cases h; rfl
        · cases h
      case hp q k =>
        cases obs with
        | nil => cases h
        | cons o1 r1 =>
          have h0 := hk 0 o1 rfl
          cases obs' with
          | nil => simp at h0
          | cons o2 r2 =>
            have h0 : o2 = o1 := by simpa using h0
            subst h0
            cases o2 <;> simp only at h ⊢ <;> try (cases h; done)
            all_goals
              split at h
              · rename_i hc; rw [if_pos hc]; cases h; rfl
              · cases h
    case indexAddr t y z =>
      simp only [astep] at h ⊢
      rw [show St.ev ⟨n, fr, obs'⟩ y = St.ev ⟨n, fr, obs⟩ y from rfl, show St.ev ⟨n, fr, obs'⟩ z = St.ev ⟨n, fr, obs⟩ z from rfl]
      revert h
      cases C.wt t with
      | some e =>
        simp only [idxS_some]
        cases St.ev ⟨n, fr, obs⟩ y <;> cases St.ev ⟨n, fr, obs⟩ z <;> simp only [widxV] <;> intro h <;> try (cases h; done)
        case relt.int f e d k i =>
          cases e <;> simp only at h ⊢ <;> first | (cases h; done) | (cases h; rfl)
      | none =>
      simp only [idxS_none]
      cases C.Γ t with
      | none => intro h; simp [idxV] at h
      | some e2 =>
        cases St.ev ⟨n, fr, obs⟩ y <;> cases St.ev ⟨n, fr, obs⟩ z <;> simp only [idxV] <;> intro h <;> try (cases h; done)
        case sl.int =>
          split at h
          · rename_i hc; rw [if_pos hc]; cases h; rfl
          · cases h
        case lr.int =>
          split at h
          · rename_i hc; rw [if_pos hc]; cases h; rfl
          · cases h
        case hdr.int q m k i =>
          cases q with
          | none => cases h
          | some q =>
            simp only at h ⊢
            split at h
            · rename_i hc; rw [if_pos hc]; cases h; rfl
            · cases h
        case own.int id g k i =>
          cases ho : obs[id]? with
          | none => rw [ho] at h; cases h
          | some ob =>
            rw [ho] at h
            rw [hk id ob ho]
            cases ob with
            | dead => cases h
            | arr e xs g' nn =>
              simp only at h ⊢
              split at h
              · rename_i hc; rw [if_pos hc]; cases h; rfl
              · cases h
            | mat hs xs g' nn =>
              simp only at h ⊢
              split at h
              · rename_i hc; rw [if_pos hc]; cases h; rfl
              · cases h
            | gm D F xs g' nn =>
              simp only at h ⊢
              split at h
              · rename_i hc; rw [if_pos hc]; cases h; rfl
              · cases h
            | mp _ _ _ => cases h
            | ap _ _ _ _ _ => cases h
            | cur _ _ => cases h
    case lookup t y z b =>
      cases b with
      | true => simp [astep] at h
      | false =>
        simp only [astep] at h ⊢
        rw [show St.ev ⟨n, fr, obs'⟩ y = St.ev ⟨n, fr, obs⟩ y from rfl, show St.ev ⟨n, fr, obs'⟩ z = St.ev ⟨n, fr, obs⟩ z from rfl]
        revert h
        generalize St.ev ⟨n, fr, obs⟩ y = v
        generalize St.ev ⟨n, fr, obs⟩ z = u
        intro h
        unfold mlookV at h ⊢
        split at h
        · rename_i m id g hmt
          cases ho : obs[id]? with
          | none => rw [ho] at h; cases h
          | some ob =>
            rw [ho] at h
            simp only [hk id ob ho]
            split at h
            · rename_i heq hkv
              cases heq
              split at h
              · rename_i hc; rw [if_pos hc]; cases h; rfl
              · cases h
            · cases h
        · cases h
    case convert s d y =>
      simp only [astep] at h ⊢
      rw [show St.ev ⟨n, fr, obs'⟩ y = St.ev ⟨n, fr, obs⟩ y from rfl]
      revert h
      generalize St.ev ⟨n, fr, obs⟩ y = v
      intro h
      unfold cnvV at h ⊢
      split at h
      · split at h
        · rename_i hc; simp only [hc, if_true]; cases h; rfl
        · cases h
      · split at h
        · rename_i hc; simp only [hc, if_true]; cases h; rfl
        · cases h
      · rename_i id g hd
        cases ho : obs[id]? with
        | none => rw [ho] at h; cases h
        | some ob =>
          rw [ho] at h
          simp only [hk id ob ho]
          split at h
          · rename_i heq
            cases heq
            split at h
            · rename_i hc; simp only [hc, and_self, if_true]; cases h; rfl
            · cases h
          · cases h
      · cases h
    case call c =>
      obtain ⟨cal, ⟨l⟩, ⟨tl⟩⟩ := c
      cases cal with
      | builtin b =>
        cases b <;> simp only [roOp] at hr <;> first | (cases hr; done) | skip
        case len =>
          match l, tl with
          | [y], [t] =>
            have h' : lenQ (C.bt t) (C.Γ t) (St.ev ⟨n, fr, obs⟩ y) obs = .ok vc x o := h
            show lenQ (C.bt t) (C.Γ t) (St.ev ⟨n, fr, obs⟩ y) obs' = .ok vc x obs'
            revert h'
            generalize St.ev ⟨n, fr, obs⟩ y = v
            intro h'
            have key : lenV v obs = .ok vc x o → lenV v obs' = .ok vc x obs' := by
              intro hh
              cases v <;> simp only [lenV] at hh ⊢ <;> try (cases hh; done)
              case sl => cases hh; rfl
              case lr => cases hh; rfl
              case nils => cases hh; rfl
              case emp => cases hh; rfl
              case str => cases hh; rfl
              case lenv => cases hh; rfl
              case hdr q m => cases q <;> first | (cases hh; done) | (cases hh; rfl)
              case own id g =>
                cases ho : obs[id]? with
                | none => rw [ho] at hh; cases hh
                | some ob =>
                  rw [ho] at hh
                  rw [hk id ob ho]
                  cases ob with
                  | dead => cases hh
                  | arr e xs g' nn =>
                    simp only at hh ⊢
                    split at hh
                    · rename_i hc; rw [if_pos hc]; cases hh; rfl
                    · cases hh
                  | mat hs xs g' nn =>
                    simp only at hh ⊢
                    split at hh
                    · rename_i hc; rw [if_pos hc]; cases hh; rfl
                    · cases hh
                  | gm D F xs g' nn =>
                    simp only at hh ⊢
                    split at hh
                    · rename_i hc; rw [if_pos hc]; cases hh; rfl
                    · cases hh
                  | mp _ _ _ => cases hh
                  | ap q xs fr2 g' nn =>
                    simp only at hh ⊢
                    split at hh
                    · rename_i hc; rw [if_pos hc]; cases hh; rfl
                    · cases hh
                  | cur _ _ => cases hh
            unfold lenQ at h' ⊢
            split at h'
            · exact key h'
            · cases h'
            · rename_i g e _ _; exact key h'
            · cases h'
          | [], _ => cases h
          | [_], [] => cases h
          | [_], _ :: _ :: _ => cases h
          | _ :: _ :: _, _ => cases h
        case max =>
          match l with
          | [y, z] =>
            have h' : maxV true (St.ev ⟨n, fr, obs⟩ y) (St.ev ⟨n, fr, obs⟩ z) obs = .ok vc x o := h
            show maxV true (St.ev ⟨n, fr, obs⟩ y) (St.ev ⟨n, fr, obs⟩ z) obs' = .ok vc x obs'
            revert h'
            cases St.ev ⟨n, fr, obs⟩ y <;> cases St.ev ⟨n, fr, obs⟩ z <;> intro h' <;> first | (cases h'; rfl) | cases h'
          | [] => cases h
          | [_] => cases h
          | _ :: _ :: _ :: _ => cases h
        case min =>
          match l with
          | [y, z] =>
            have h' : maxV false (St.ev ⟨n, fr, obs⟩ y) (St.ev ⟨n, fr, obs⟩ z) obs = .ok vc x o := h
            show maxV false (St.ev ⟨n, fr, obs⟩ y) (St.ev ⟨n, fr, obs⟩ z) obs' = .ok vc x obs'
            revert h'
            cases St.ev ⟨n, fr, obs⟩ y <;> cases St.ev ⟨n, fr, obs⟩ z <;> intro h' <;> first | (cases h'; rfl) | cases h'
          | [] => cases h
          | [_] => cases h
          | _ :: _ :: _ :: _ => cases h
      | _ => cases hr
end
end Go.Aw
namespace Go.Aw
open Go
def Res.plain : Res → Prop
  | .bad => True
  | .ok _ _ _ => True
  | _ => False
section
variable {C : Ctx} {rg : Rg} {σ σ' : St}
theorem binV_plain (op : BinOp) (x y : AV) (obs : List O) : (binV op x y obs).plain := by
  have := binV_shape op x y obs
  cases h : binV op x y obs <;> first | trivial | exact absurd h (this.1 _ _) | exact absurd h (this.2 _ _ _)
theorem lenV_plain (x : AV) (obs : List O) : (lenV x obs).plain := by
  have := lenV_shape x obs
  cases h : lenV x obs <;> first | trivial | exact absurd h (this.1 _ _) | exact absurd h (this.2 _ _ _)
theorem idxV_plain (e w : Option E) (x i : AV) (obs : List O) : (idxS e w x i obs).plain := by
  have := idxS_shape e w x i obs
  cases h : idxS e w x i obs <;> first | trivial | exact absurd h (this.1 _ _) | exact absurd h (this.2 _ _ _)
theorem loadV_plain (b : Bool) (w : Option E) (x : AV) (obs : List O) : (loadS b w x obs).plain := by
  have := loadS_shape b w x obs
  cases h : loadS b w x obs <;> first | trivial | exact absurd h (this.1 _ _) | exact absurd h (this.2 _ _ _)
theorem sliceV_plain (x : AV) (lo hi : Option AV) (obs : List O) : (sliceV x lo hi obs).plain := by
  have := sliceV_shape x lo hi obs
  cases h : sliceV x lo hi obs <;> first | trivial | exact absurd h (this.1 _ _) | exact absurd h (this.2 _ _ _)
theorem maxV_plain (b : Bool) (x y : AV) (obs : List O) : (maxV b x y obs).plain := by
  unfold maxV; split <;> trivial
theorem ro_plain {op : Op} (h : roOp op = true) : (astep C σ op).plain := by
  cases op <;> simp only [roOp] at h <;> first | (cases h; done) | skip
  case move => trivial
  case assign => trivial
  case pick => rw [astep_pick]; unfold pickQ; split <;> trivial
  case binOp =>
    rw [astep_bin]; unfold binQ
    split <;> first | exact binV_plain .. | trivial
  case unOp => simp only [astep, unV]; split <;> trivial
  case load => exact loadV_plain ..
  case indexAddr => exact idxV_plain ..
  case convert => simp only [astep, cnvV]; (repeat' split) <;> trivial
  case index => simp only [astep, sixV]; (repeat' split) <;> trivial
  case lookup t x y b =>
    cases b with
    | true => trivial
    | false => simp only [astep, mlookV]; (repeat' split) <;> trivial
  case slice t x lo hi mx =>
    cases mx with
    | some _ => simp only [astep, slice3V]; (repeat' split) <;> trivial
    | none =>
      rw [astep_slice]
      cases C.wt t with
      | some e =>
        rw [sliceT_some]
        have hs := wsliceV_shape (σ.ev x) (lo.map σ.ev) (hi.map σ.ev) σ.obs
        cases h : wsliceV (σ.ev x) (lo.map σ.ev) (hi.map σ.ev) σ.obs <;> first | trivial | exact absurd h (hs.1 _ _) | exact absurd h (hs.2 _ _ _)
      | none =>
      rw [sliceT_none]; unfold sliceQ
      split
      · exact sliceV_plain ..
      · split
        · exact sliceV_plain ..
        · trivial
      · split
        · exact sliceV_plain ..
        · trivial
      · trivial
  case extract x i =>
    simp only [astep, exV]
    split
    · split
      · split <;> trivial
      · trivial
    · trivial
  case call c =>
    obtain ⟨cal, ⟨l⟩, ⟨tl⟩⟩ := c
    cases cal with
    | builtin b =>
      cases b <;> simp only [] at h <;> first | (cases h; done) | skip
      case len =>
        match l, tl with
        | [y], [t] =>
          show (lenQ (C.bt t) (C.Γ t) (σ.ev y) σ.obs).plain
          unfold lenQ
          split
          · exact lenV_plain ..
          · trivial
          · exact lenV_plain ..
          · trivial
        | [], _ => trivial
        | [_], [] => trivial
        | [_], _ :: _ :: _ => trivial
        | _ :: _ :: _, _ => trivial
      case max =>
        match l with
        | [y, z] => exact maxV_plain ..
        | [] => trivial
        | [_] => trivial
        | _ :: _ :: _ :: _ => trivial
      case min =>
        match l with
        | [y, z] => exact maxV_plain ..
        | [] => trivial
        | [_] => trivial
        | _ :: _ :: _ :: _ => trivial
    | _ => cases h
theorem ro_callee {op : Op} (h : roOp op = true) (σ : St) : calleeOf σ op = none := by
  unfold roOp at h
  split at h <;> first | rfl | cases h
def roS (σ : St) (o : Oper) (x : AV) : Sl := match o.guard with
  | none => mvS σ o.op x
  | some _ => .v x
def RO (C : Ctx) (rg : Rg) (o : Oper) (σ : St) (ex : Bool) (s : Sl) : Prop :=
  inN σ.n o.dst ∧ gex rg.ds σ o.guard = some ex ∧ ∃ vc ob x, astep C σ o.op = .ok vc x ob ∧ (ex = true → hasAll σ o.op ∧ vc) ∧ s = roS σ o x
theorem mvS_agree {op : Op} (h : Agree (opReads op) σ σ') (x : AV) : mvS σ op x = mvS σ' op x := by
  unfold mvS
  split
  · rename_i t
    rw [h t (by simp [opReads, opnd])]
  · rfl
theorem roS_agree {o : Oper} (h : Agree (opReads o.op) σ σ') (x : AV) : roS σ o x = roS σ' o x := by
  unfold roS
  split
  · exact mvS_agree h x
  · rfl
theorem ro_of_aone {o : Oper} (hr : roOp o.op = true) {K : St → Prop} (h : aone C rg o σ K) : ∃ ex x, RO C rg o σ ex x ∧ K (σ.put o.dst ex x σ.obs) := by
  unfold aone at h
  obtain ⟨hd, h⟩ := h
  rw [ro_callee hr σ] at h
  have hp := ro_plain (C := C) (σ := σ) hr
  cases hg : o.guard with
  | none =>
    rw [hg] at h
    simp only at h
    cases hs : astep C σ o.op with
    | bad => rw [hs] at h; exact h.elim
    | ok vc x ob =>
      rw [hs] at h
      have := roOp_obs hr hs
      subst this
      exact ⟨true, mvS σ o.op x, ⟨hd, by rw [hg]; rfl, vc, _, x, hs, fun _ => ⟨h.1, h.2.1⟩, by simp only [roS, hg]⟩, h.2.2⟩
    | skip vc ob => rw [hs] at hp; exact hp.elim
    | all p x ob => rw [hs] at hp; exact hp.elim
  | some g =>
    rw [hg] at h
    simp only at h
    cases hgx : gex rg.ds σ (some g) with
    | none => rw [hgx] at h; exact h.elim
    | some ex =>
      rw [hgx] at h
      simp only [hr, if_true] at h
      cases hs : astep C σ o.op with
      | bad => rw [hs] at h; exact h.elim
      | ok vc x ob => rw [hs] at h; exact ⟨ex, .v x, ⟨hd, by rw [hg]; exact hgx, vc, ob, x, hs, h.1, by simp only [roS, hg]⟩, h.2⟩
      | skip vc ob => rw [hs] at hp; exact hp.elim
      | all p x ob => rw [hs] at hp; exact hp.elim
theorem aone_of_ro {o : Oper} (hr : roOp o.op = true) {K : St → Prop} {ex : Bool} {s : Sl} (h : RO C rg o σ ex s) (hk : K (σ.put o.dst ex s σ.obs)) : aone C rg o σ K := by
  obtain ⟨hd, hg, vc, ob, x, hs, hh, rfl⟩ := h
  unfold aone
  refine ⟨hd, ?_⟩
  rw [ro_callee hr σ]
  cases hgg : o.guard with
  | none =>
    rw [hgg] at hg
    cases hg
    simp only [roS, hgg] at hk
    simp only [hs]
    have := roOp_obs hr hs
    subst this
    exact ⟨(hh rfl).1, (hh rfl).2, hk⟩
  | some g =>
    rw [hgg] at hg
    simp only [roS, hgg] at hk
    simp only [hg, hr, if_true, hs]
    exact ⟨hh, hk⟩
def Eqv (σ σ' : St) : Prop := σ.n = σ'.n ∧ σ.obs = σ'.obs ∧ ∀ s, look s σ.fr = look s σ'.fr
def Resp (K : St → Prop) : Prop := ∀ σ σ', Eqv σ σ' → K σ → K σ'
theorem Eqv.refl (σ : St) : Eqv σ σ := ⟨rfl, rfl, fun _ => rfl⟩
theorem Eqv.agree (h : Eqv σ σ') (L : List Nat) : Agree L σ σ' := fun s _ => h.2.2 s
theorem look_put (σ : St) (d : Nat) (ex : Bool) (x : Sl) (obs : List O) (s : Nat) : look s (σ.put (some d) ex x obs).fr = if s = d then some (ex, x) else look s σ.fr := by
  simp only [St.put, look, beq_iff_eq]
theorem put_n' (σ : St) (d : Option Nat) (ex : Bool) (x : Sl) (obs : List O) : (σ.put d ex x obs).n = σ.n := by cases d <;> rfl
theorem put_obs' (σ : St) (d : Option Nat) (ex : Bool) (x : Sl) (obs : List O) : (σ.put d ex x obs).obs = obs := by cases d <;> rfl
theorem look_put_ne {σ : St} {d : Option Nat} {ex : Bool} {x : Sl} {obs : List O} {s : Nat} (h : d ≠ some s) : look s (σ.put d ex x obs).fr = look s σ.fr := by
  cases d with
  | none => rfl
  | some d => rw [look_put, if_neg (fun e => h (by rw [e]))]
theorem Eqv.put (h : Eqv σ σ') (d : Option Nat) (ex : Bool) (x : Sl) (obs : List O) : Eqv (σ.put d ex x obs) (σ'.put d ex x obs) := by
  refine ⟨by rw [put_n', put_n', h.1], by rw [put_obs', put_obs'], fun s => ?_⟩
  cases d with
  | none => exact h.2.2 s
  | some d => rw [look_put, look_put, h.2.2 s]
theorem put_swap {d d' : Option Nat} (hd : d = none ∨ d ≠ d') (ex ex' : Bool) (x x' : Sl) (o1 obs : List O) :
    Eqv ((σ.put d ex x o1).put d' ex' x' obs) ((σ.put d' ex' x' obs).put d ex x obs) := by
  refine ⟨by simp [put_n'], by simp [put_obs'], fun s => ?_⟩
  cases d with
  | none => cases d' <;> rfl
  | some d =>
    cases d' with
    | none => rfl
    | some d' =>
      rw [look_put, look_put, look_put, look_put]
      have hne : d ≠ d' := by
        rcases hd with h | h
        · cases h
        · exact fun e => h (by rw [e])
      by_cases h1 : s = d'
      · subst h1
        rw [if_pos rfl, if_neg (Ne.symm hne), if_pos rfl]
      · rw [if_neg h1, if_neg h1]
theorem gex_agree {ds : List (Option Nat)} {g : Option (Nat × Bool)} (h : Agree (gReads ds g) σ σ') : gex ds σ g = gex ds σ' g := by
  cases g with
  | none => rfl
  | some q =>
    obtain ⟨j, b⟩ := q
    simp only [gex]
    cases hs : slotOf ds j with
    | none => rfl
    | some d => simp only [h d (by simp [gReads, hs])]
theorem callee_reads {op : Op} {f : FuncId} {args : List Operand} {σ0 : St} (h : calleeOf σ0 op = some (f, args)) {σ σ' : St} (ha : Agree (opReads op) σ σ') : Agree (opndL args) σ σ' := by
  obtain ⟨x, ts, rfl, _⟩ := calleeOf_op h
  simpa using ha.right
theorem callee_agree {op : Op} {σ σ' : St} (h : Agree (opReads op) σ σ') : calleeOf σ op = calleeOf σ' op := by
  cases op <;> try rfl
  case call c =>
    obtain ⟨cal, args, ts⟩ := c
    cases cal <;> try rfl
    case value x =>
      cases x <;> try rfl
      case tmp t =>
        simp only [calleeOf]
        rw [h t (by simp [opReads, opndC, opnd])]
theorem aone_mono {o : Oper} {K K' : St → Prop} (hk : ∀ σ, K σ → K' σ) (h : aone C rg o σ K) : aone C rg o σ K' := by
  unfold aone at *
  refine ⟨h.1, ?_⟩
  have h := h.2
  split
  · rename_i hg
    rw [hg] at h
    simp only at h
    split
    · rename_i f args hc
      rw [hc] at h
      exact ⟨h.1, h.2.mono fun x o hh => ⟨hh.1, hk _ hh.2⟩⟩
    · rename_i hc
      rw [hc] at h
      simp only at h
      split <;> rename_i hs <;> rw [hs] at h
      · exact h
      · exact ⟨h.1, h.2.1, hk _ h.2.2⟩
      · exact ⟨h.1, h.2.1, h.2.2.1, hk _ h.2.2.2⟩
      · exact ⟨h.1, fun l hl => hk _ (h.2 l hl)⟩
  · rename_i g hg
    rw [hg] at h
    simp only at h
    split
    · rename_i hx; rw [hx] at h; exact h
    · rename_i ex hx
      rw [hx] at h
      simp only at h
      split
      · rename_i f args hc
        rw [hc] at h
        exact ⟨h.1, h.2.mono (fun x hx => hk _ hx) (fun x o hx => ⟨hx.1, hk _ hx.2⟩)⟩
      · rename_i hc
        rw [hc] at h
        simp only at h
        split
        · rename_i hr
          rw [if_pos hr] at h
          split <;> rename_i hs
          · rw [hs] at h; exact ⟨h.1, hk _ h.2⟩
          · split at h <;> first | exact h | (rename_i h2; exact absurd h2 (hs _ _ _))
        · rename_i hr; rw [if_neg hr] at h; exact h
def intParts (l : List (Nat × Operand)) : Bool := l.all fun p => match p.2 with
  | .const (.int _ _) => true
  | _ => false
def keepOp (op : Op) : Bool :=
  match op with
    | .buildSlice _ _ parts => intParts parts.toList
    | .call ⟨.value _, _, _⟩ => true
    | .makeSlice _ _ _ => true
    | _ => false
structure Left (rg : Rg) (σ σ2 : St) (o : Oper) : Prop where
  n : σ2.n = σ.n
  fr : ∀ s, o.dst ≠ some s → look s σ2.fr = look s σ.fr
  ro : roOp o.op = true → σ2.obs = σ.obs
  keep : rg.kp = true → keepOp o.op = true → Keeps σ.obs σ2.obs
theorem Left.put {o : Oper} {ex : Bool} {x : Sl} {obs : List O} (h1 : roOp o.op = true → obs = σ.obs) (h2 : rg.kp = true → keepOp o.op = true → Keeps σ.obs obs) : Left rg σ (σ.put o.dst ex x obs) o :=
  ⟨put_n' .., fun _ hs => look_put_ne hs, fun h => by rw [put_obs']; exact h1 h, fun h k => by rw [put_obs']; exact h2 h k⟩
theorem ro_not_call {op : Op} {f : FuncId} {args : List Operand} {σ : St} (hc : calleeOf σ op = some (f, args)) : ¬ roOp op = true := fun h => by rw [ro_callee h σ] at hc; cases hc
theorem Keeps.refl (obs : List O) : Keeps obs obs := fun _ _ h => h
theorem Keeps.app (obs l : List O) : Keeps obs (obs ++ l) := fun id o h => by
  rw [List.getElem?_append_left (List.getElem?_eq_some_iff.1 h).1]; exact h
theorem intParts_ev {l : List (Nat × Operand)} (h : intParts l = true) {σ : St} : ∀ p ∈ l.map (fun p => (p.1, σ.ev p.2)), ∃ k n, p.2 = .int k n := by
  intro p hp
  obtain ⟨q, hq, rfl⟩ := List.mem_map.1 hp
  have h1 := List.all_eq_true.1 h q hq
  obtain ⟨a, o⟩ := q
  cases o with
  | const v => cases v <;> first | exact ⟨_, _, rfl⟩ | (simp at h1; done)
  | _ => simp at h1
theorem buildV_int {e? : Option E} {n : Nat} {parts : List (Nat × AV)} {obs : List O} (hp : ∀ p ∈ parts, ∃ k n, p.2 = .int k n) :
    buildV e? n parts obs = .bad ∨ ∃ vc x o, buildV e? n parts obs = .ok vc x (obs ++ [o]) := by
  unfold buildV
  split
  · split
    · split
      · split
        · exact .inr ⟨_, _, _, rfl⟩
        · obtain ⟨k, m, h⟩ := hp _ (List.mem_cons_self ..); cases h
        · obtain ⟨k, m, h⟩ := hp _ (List.mem_cons_self ..); cases h
        · obtain ⟨k, m, h⟩ := hp _ (List.mem_cons_self ..); cases h
        · rename_i h0 _ _ _
          cases parts with
          | nil => exact (h0 rfl).elim
          | cons p r =>
            obtain ⟨k, m, h⟩ := hp p (List.mem_cons_self ..)
            obtain ⟨a, b⟩ := p
            simp only at h
            subst h
            exact .inl (by simp [rowsOf])
      · split
        · exact .inr ⟨_, _, _, rfl⟩
        · exact .inl rfl
    · exact .inl rfl
  · exact .inl rfl
theorem keep_op {op : Op} (hk : keepOp op = true) : (∃ t x y, op = .makeSlice t x y) ∨ (∃ x args ts, op = .call ⟨.value x, args, ts⟩) ∨ ∃ t n parts, op = .buildSlice t n parts ∧ intParts parts.toList = true := by
  unfold keepOp at hk
  split at hk
  · exact .inr (.inr ⟨_, _, _, rfl, hk⟩)
  · exact .inr (.inl ⟨_, _, _, rfl⟩)
  · exact .inl ⟨_, _, _, rfl⟩
  · cases hk
theorem keep_make {op : Op} (hk : keepOp op = true) {vc : Prop} {x : AV} {ob : List O} (hs : astep C σ op = .ok vc x ob) : Keeps σ.obs ob := by
  rcases keep_op hk with ⟨t, y, z, rfl⟩ | ⟨y, args, ts, rfl⟩ | ⟨t, m, parts, rfl, hi⟩
  · simp only [astep] at hs
    unfold makeV at hs
    split at hs
    · cases hs; exact Keeps.app _ _
    · split at hs
      · cases hs; exact Keeps.app _ _
      · cases hs
    · cases hs
  · cases hs
  · rcases buildV_int (e? := C.Γ t) (n := m) (obs := σ.obs) (intParts_ev (σ := σ) hi) with h | ⟨vc', x', o, h⟩
    · have h1 : buildV (C.Γ t) m (parts.toList.map fun p => (p.1, σ.ev p.2)) σ.obs = .ok vc x ob := hs
      rw [h] at h1; cases h1
    · have h1 : buildV (C.Γ t) m (parts.toList.map fun p => (p.1, σ.ev p.2)) σ.obs = .ok vc x ob := hs
      rw [h] at h1; cases h1; exact Keeps.app _ _
theorem keep_not_skip {op : Op} (hk : keepOp op = true) {vc : Prop} {ob : List O} (hs : astep C σ op = .skip vc ob) : False := by
  rcases keep_op hk with ⟨t, y, z, rfl⟩ | ⟨y, args, ts, rfl⟩ | ⟨t, m, parts, rfl, hi⟩
  · exact (makeV_shape _ _ _ _).1 _ _ hs
  · cases hs
  · have h1 : buildV (C.Γ t) m (parts.toList.map fun p => (p.1, σ.ev p.2)) σ.obs = .skip vc ob := hs
    rcases buildV_int (e? := C.Γ t) (n := m) (obs := σ.obs) (intParts_ev (σ := σ) hi) with h | ⟨vc', x', o, h⟩ <;> rw [h] at h1 <;> cases h1
theorem keep_not_all {op : Op} (hk : keepOp op = true) {p : Nat → Prop} {x : AV} {ob : Nat → List O} (hs : astep C σ op = .all p x ob) : False := by
  rcases keep_op hk with ⟨t, y, z, rfl⟩ | ⟨y, args, ts, rfl⟩ | ⟨t, m, parts, rfl, hi⟩
  · exact (makeV_shape _ _ _ _).2 _ _ _ hs
  · cases hs
  · have h1 : buildV (C.Γ t) m (parts.toList.map fun p => (p.1, σ.ev p.2)) σ.obs = .all p x ob := hs
    rcases buildV_int (e? := C.Γ t) (n := m) (obs := σ.obs) (intParts_ev (σ := σ) hi) with h | ⟨vc', x', o, h⟩ <;> rw [h] at h1 <;> cases h1
theorem aone_frame {o : Oper} {d : Option Nat} {ex : Bool} {x : Sl} (h1 : ∀ s ∈ reads rg.ds o, d ≠ some s) (h2 : d = none ∨ d ≠ o.dst) {K : St → Prop} (hK : Resp K) (h : aone C rg o (σ.put d ex x σ.obs) K) :
    aone C rg o σ fun σ2 => Left rg σ σ2 o ∧ K (σ2.put d ex x σ2.obs) := by
  have hag : Agree (reads rg.ds o) (σ.put d ex x σ.obs) σ := fun s hs => look_put_ne (h1 s hs)
  have hob : (σ.put d ex x σ.obs).obs = σ.obs := put_obs' ..
  have hgx := gex_agree (ds := rg.ds) hag.right
  have has := hasAll_agree (op := o.op) hag.left
  have hst := astep_agree (C := C) (op := o.op) hag.left hob
  have swap : ∀ (ex' : Bool) (x' : Sl) (obs : List O), K ((σ.put d ex x σ.obs).put o.dst ex' x' obs) → K ((σ.put o.dst ex' x' obs).put d ex x (σ.put o.dst ex' x' obs).obs) := fun ex' x' obs hk => by
    rw [put_obs']
    exact hK _ _ (put_swap h2 ..) hk
  unfold aone at *
  refine ⟨by rw [← put_n' σ d ex x σ.obs]; exact h.1, ?_⟩
  have h := h.2
  rw [hob, callee_agree hag.left] at h
  split
  · rename_i hg
    rw [hg] at h
    simp only at h
    split
    · rename_i f args hc
      rw [hc] at h
      simp only at h
      have he : args.map (σ.put d ex x σ.obs).ev = args.map σ.ev := by
        rw [← evL_eq, ← evL_eq]
        exact evL_agree (callee_reads hc hag.left)
      have hh : (∀ y ∈ args, (σ.put d ex x σ.obs).has y) = ∀ y ∈ args, σ.has y := by
        rw [← hasL_eq, ← hasL_eq]
        exact hasL_agree (callee_reads hc hag.left)
      rw [he, hh] at h
      exact ⟨h.1, h.2.mono fun y ob hy => ⟨hy.1, Left.put (fun k => absurd k (ro_not_call hc)) (fun k _ => hy.1 k), swap _ _ _ hy.2⟩⟩
    · rename_i hc
      rw [hc] at h
      simp only at h
      rw [hst, has] at h
      simp only [mvS_agree hag.left] at h
      split <;> rename_i hs <;> rw [hs] at h
      · exact h
      · exact ⟨h.1, h.2.1, Left.put (fun k => roOp_obs k hs) (fun _ k => keep_make k hs), swap _ _ _ h.2.2⟩
      · rename_i vc ob
        obtain ⟨a1, a2, a3, a4⟩ := h
        refine ⟨a1, a2, a3, ?_, ?_⟩
        · have := Left.put (rg := rg) (σ := σ) (o := o) (ex := true) (x := .v .junk) (obs := ob) (fun k => by have := ro_plain (C := C) (σ := σ) k; rw [hs] at this; exact this.elim) (fun _ k => (keep_not_skip k hs).elim)
          rw [a3] at this
          exact this
        · have := swap true (.v .junk) ob (by rw [a3]; exact a4)
          rw [a3] at this
          exact this
      · exact ⟨h.1, fun l hl => ⟨Left.put (fun k => by have := ro_plain (C := C) (σ := σ) k; rw [hs] at this; exact this.elim) (fun _ k => (keep_not_all k hs).elim), swap _ _ _ (h.2 l hl)⟩⟩
  · rename_i g hg
    rw [hg] at h hgx
    simp only at h
    rw [hgx] at h
    split
    · rename_i hx; rw [hx] at h; exact h
    · rename_i ex' hx
      rw [hx] at h
      simp only at h
      split
      · rename_i f args hc
        rw [hc] at h
        simp only at h
        have he : args.map (σ.put d ex x σ.obs).ev = args.map σ.ev := by
          rw [← evL_eq, ← evL_eq]
          exact evL_agree (callee_reads hc hag.left)
        have hh : (∀ y ∈ args, (σ.put d ex x σ.obs).has y) = ∀ y ∈ args, σ.has y := by
          rw [← hasL_eq, ← hasL_eq]
          exact hasL_agree (callee_reads hc hag.left)
        rw [he, hh] at h
        exact ⟨h.1, h.2.mono (fun y hy => ⟨Left.put (fun _ => rfl) (fun _ _ => Keeps.refl _), swap _ _ _ hy⟩) (fun y ob hy => ⟨hy.1, Left.put (fun k => absurd k (ro_not_call hc)) (fun k _ => hy.1 k), swap _ _ _ hy.2⟩)⟩
      · rename_i hc
        rw [hc] at h
        simp only at h
        split
        · rename_i hr
          rw [if_pos hr, hst, has] at h
          split <;> rename_i hs
          · rw [hs] at h; exact ⟨h.1, Left.put (fun _ => rfl) (fun _ _ => Keeps.refl _), swap _ _ _ h.2⟩
          · split at h <;> first | exact h | (rename_i h2; exact absurd h2 (hs _ _ _))
        · rename_i hr; rw [if_neg hr] at h; exact h
theorem RO.move {o : Oper} {ex : Bool} {x : Sl} (h : RO C rg o σ ex x) (hr : roOp o.op = true) (hn : σ'.n = σ.n) (ha : Agree (reads rg.ds o) σ σ') (hc : pureOp o.op = true ∨ Keeps σ.obs σ'.obs) : RO C rg o σ' ex x := by
  obtain ⟨h1, h2, vc, ob, y, h3, h4, h5⟩ := h
  refine ⟨by rw [hn]; exact h1, by rw [← gex_agree ha.right]; exact h2, vc, σ'.obs, y, ?_, by rw [← hasAll_agree ha.left]; exact h4, by rw [h5]; exact roS_agree ha.left y⟩
  have e : astep C σ o.op = astep C ⟨σ'.n, σ'.fr, σ.obs⟩ o.op := astep_agree (σ := σ) (σ' := ⟨σ'.n, σ'.fr, σ.obs⟩) (fun s hs => ha.left s hs) rfl
  rw [e] at h3
  rcases hc with hp | hk
  · have := astep_pure (C := C) hp σ'.n σ'.fr σ.obs σ'.obs
    rw [h3] at this
    exact this
  · exact astep_keeps hr hk h3
structure MaySwap (rg : Rg) (i j : Oper) : Prop where
  ro : roOp i.op = true
  a1 : ∀ s ∈ reads rg.ds j, i.dst ≠ some s
  a2 : ∀ s ∈ reads rg.ds i, j.dst ≠ some s
  a3 : i.dst = none ∨ i.dst ≠ j.dst
  c : roOp j.op = true ∨ pureOp i.op = true ∨ (rg.kp = true ∧ keepOp j.op = true)
theorem aone_swap {i j : Oper} (m : MaySwap rg i j) {K : St → Prop} (hK : Resp K) (h : aone C rg i σ fun σ1 => aone C rg j σ1 K) : aone C rg j σ fun σ2 => aone C rg i σ2 K := by
  obtain ⟨ex, x, hro, hk⟩ := ro_of_aone m.ro h
  refine aone_mono (fun σ2 h2 => ?_) (aone_frame m.a1 m.a3 hK hk)
  obtain ⟨hl, hk2⟩ := h2
  refine aone_of_ro m.ro (hro.move m.ro hl.n (fun s hs => (hl.fr s (m.a2 s hs)).symm) ?_) hk2
  rcases m.c with c | c | c
  · right; rw [hl.ro c]; exact Keeps.refl _
  · exact .inl c
  · exact .inr (hl.keep c.1 c.2)
theorem aone_resp {o : Oper} {K : St → Prop} (hK : Resp K) : Resp (fun σ => aone C rg o σ K) := by
  intro σ σ' he h
  have hag : Agree (reads rg.ds o) σ σ' := he.agree _
  have hgx := gex_agree (ds := rg.ds) hag.right
  have has := hasAll_agree (op := o.op) hag.left
  have hst := astep_agree (C := C) (op := o.op) hag.left he.2.1
  have swap : ∀ (d : Option Nat) (ex' : Bool) (x' : Sl) (obs : List O), K (σ.put d ex' x' obs) → K (σ'.put d ex' x' obs) := fun d ex' x' obs hk => hK _ _ (he.put ..) hk
  simp only [aone] at *
  rw [← he.1]
  refine ⟨h.1, ?_⟩
  have h := h.2
  rw [callee_agree hag.left] at h
  rw [← he.2.1]
  split
  · rename_i hg
    rw [hg] at h
    simp only at h
    split
    · rename_i f args hc
      rw [hc] at h
      simp only at h
      have hev : args.map σ.ev = args.map σ'.ev := by
        rw [← evL_eq, ← evL_eq]
        exact evL_agree (callee_reads hc hag.left)
      have hh : (∀ y ∈ args, σ.has y) = ∀ y ∈ args, σ'.has y := by
        rw [← hasL_eq, ← hasL_eq]
        exact hasL_agree (callee_reads hc hag.left)
      rw [hev, hh] at h
      exact ⟨h.1, h.2.mono fun y ob hy => ⟨hy.1, swap _ _ _ _ hy.2⟩⟩
    · rename_i hc
      rw [hc] at h
      simp only at h
      rw [hst, has] at h
      simp only [mvS_agree hag.left] at h
      split <;> rename_i hs <;> rw [hs] at h
      · exact h
      · exact ⟨h.1, h.2.1, swap _ _ _ _ h.2.2⟩
      · exact ⟨h.1, h.2.1, h.2.2.1, swap _ _ _ _ h.2.2.2⟩
      · exact ⟨h.1, fun l hl => swap _ _ _ _ (h.2 l hl)⟩
  · rename_i g hg
    rw [hg] at h hgx
    simp only at h
    rw [hgx] at h
    split
    · rename_i hx; rw [hx] at h; exact h
    · rename_i ex' hx
      rw [hx] at h
      simp only at h
      split
      · rename_i f args hc
        rw [hc] at h
        simp only at h
        have hev : args.map σ.ev = args.map σ'.ev := by
          rw [← evL_eq, ← evL_eq]
          exact evL_agree (callee_reads hc hag.left)
        have hh : (∀ y ∈ args, σ.has y) = ∀ y ∈ args, σ'.has y := by
          rw [← hasL_eq, ← hasL_eq]
          exact hasL_agree (callee_reads hc hag.left)
        rw [hev, hh] at h
        exact ⟨h.1, h.2.mono (fun y hy => swap _ _ _ _ hy) (fun y ob hy => ⟨hy.1, swap _ _ _ _ hy.2⟩)⟩
      · rename_i hc
        rw [hc] at h
        simp only at h
        split
        · rename_i hr
          rw [if_pos hr, hst, has] at h
          split <;> rename_i hs
          · rw [hs] at h; exact ⟨h.1, swap _ _ _ _ h.2⟩
          · split at h <;> first | exact h | (rename_i h2; exact absurd h2 (hs _ _ _))
        · rename_i hr; rw [if_neg hr] at h; exact h
theorem aexec_resp {K : St → Prop} (hK : Resp K) : ∀ l : List Oper, Resp (fun σ => aexec C rg l σ K)
  | [] => hK
  | o :: l => aone_resp (aexec_resp hK l)
theorem aexec_front {K : St → Prop} (hK : Resp K) {o : Oper} {c2 : List Oper} : ∀ {c1 : List Oper}, (∀ x ∈ c1, MaySwap rg x o) → ∀ {σ : St}, aexec C rg (c1 ++ o :: c2) σ K → aexec C rg (o :: (c1 ++ c2)) σ K
  | [], _, _, h => h
  | x :: c1, hm, σ, h => by
    have h1 : aone C rg x σ fun σ1 => aexec C rg (o :: (c1 ++ c2)) σ1 K := aone_mono (fun σ1 h1 => aexec_front hK (fun y hy => hm y (List.mem_cons_of_mem _ hy)) h1) h
    exact aone_swap (hm x List.mem_cons_self) (aexec_resp hK (c1 ++ c2)) h1
end
end Go.Aw
namespace Go.Aw
open Go
def edgesOf (o : Oper) : List Nat := (o.after.toList.filter (Region.binds .any)).map (·.on)
def edgesAt (l : List Oper) (i : Nat) : List Nat := match l[i]? with
  | some o => edgesOf o
  | none => []
def pathB (l : List Oper) : Nat → Nat → Nat → Bool
  | 0, _, _ => false
  | f + 1, x, i => (edgesAt l i).any fun y => y == x || pathB l f x y
def disj (d : Option Nat) (L : List Nat) : Bool := match d with
  | some d => !L.contains d
  | none => true
def maySwapB (rg : Rg) (i j : Oper) : Bool :=
  roOp i.op && disj i.dst (reads rg.ds j) && disj j.dst (reads rg.ds i) && (i.dst == none || i.dst != j.dst) && (roOp j.op || pureOp i.op || (rg.kp && keepOp j.op))
def swapAt (rg : Rg) (l : List Oper) (x i : Nat) : Bool := match l[x]?, l[i]? with
  | some a, some b => maySwapB rg a b
  | _, _ => false
def pwB (f : Nat → Nat → Bool) : List Nat → Bool
  | [] => true
  | x :: r => r.all (f x) && pwB f r
def pairB (kp : Bool) (l : List Oper) (x i : Nat) : Bool := (pathB l l.length x i || swapAt ⟨l.map (·.dst), kp⟩ l x i) && (!(edgesAt l x).contains i) && (x != i)
def ordOK (kp : Bool) (l : List Oper) (c : List Nat) : Bool :=
  pwB (pairB kp l) c && c.all (fun x => decide (x < l.length) && (edgesAt l x).all fun y => decide (y < l.length) && y != x) && (List.range l.length).all fun i => c.contains i
theorem pwB_pw {f : Nat → Nat → Bool} : ∀ {l : List Nat}, pwB f l = true → l.Pairwise fun x y => f x y = true
  | [], _ => .nil
  | x :: r, h => by
    simp only [pwB, Bool.and_eq_true, List.all_eq_true] at h
    exact .cons h.1 (pwB_pw h.2)
theorem disj_spec {d : Option Nat} {L : List Nat} (h : disj d L = true) : ∀ s ∈ L, d ≠ some s := by
  intro s hs e
  subst e
  simp [disj, hs] at h
theorem maySwapB_spec {rg : Rg} {i j : Oper} (h : maySwapB rg i j = true) : MaySwap rg i j := by
  simp only [maySwapB, Bool.and_eq_true, Bool.or_eq_true, beq_iff_eq, bne_iff_ne] at h
  obtain ⟨⟨⟨⟨h1, h2⟩, h3⟩, h4⟩, h5⟩ := h
  refine ⟨h1, disj_spec h2, disj_spec h3, ?_, ?_⟩
  · exact h4
  · rcases h5 with (h | h) | h
    · exact .inl h
    · exact .inr (.inl h)
    · exact .inr (.inr h)
def nthO : List Oper → Nat → Oper
  | [], _ => ⟨none, .move (.func 0), 0, "", #[], none⟩
  | o :: r, i => bif i == 0 then o else nthO r (i - 1)
def pickO (l : List Oper) : List Nat → List Oper
  | [] => []
  | i :: c => nthO l i :: pickO l c
theorem nthO_eq : ∀ {l : List Oper} {i : Nat} {o : Oper}, l[i]? = some o → nthO l i = o
  | [], _, _, h => by simp at h
  | o :: r, i, p, h => by
    cases i with
    | zero => simpa [nthO] using h
    | succ i => simpa [nthO] using nthO_eq (l := r) (i := i) (by simpa using h)
theorem nthO_cons (o : Oper) (r : List Oper) (i : Nat) : nthO (o :: r) i = bif i == 0 then o else nthO r (i - 1) := rfl
theorem pickO_nil (l : List Oper) : pickO l [] = [] := rfl
theorem pickO_cons (l : List Oper) (i : Nat) (c : List Nat) : pickO l (i :: c) = nthO l i :: pickO l c := rfl
section
variable {C : Ctx} {l : List Oper} {kp : Bool}
structure LeftOk (kp : Bool) (l : List Oper) (c : List Nat) (listed : Array Bool) : Prop where
  pw : c.Pairwise fun x y => pairB kp l x y = true
  lt : ∀ x ∈ c, x < l.length
  ed : ∀ x ∈ c, ∀ y ∈ edgesAt l x, y < l.length ∧ y ≠ x
  size : listed.size = l.length
  un : ∀ i, listed.getD i true = false ↔ i ∈ c
  closed : ∀ i, listed.getD i false = true → ∀ y ∈ edgesAt l i, listed.getD y false = true
theorem listed_not {listed : Array Bool} {i : Nat} (h1 : listed.getD i false = true) (h2 : listed.getD i true = false) : False := by
  rcases Nat.lt_or_ge i listed.size with h | h
  · simp [h] at h1 h2; rw [h1] at h2; cases h2
  · simp [Array.getElem?_eq_none h] at h1
theorem path_listed {listed : Array Bool} (hc : ∀ i, listed.getD i false = true → ∀ y ∈ edgesAt l i, listed.getD y false = true) : ∀ (f x i : Nat), pathB l f x i = true → (∀ y ∈ edgesAt l i, listed.getD y false = true) → listed.getD x false = true
  | 0, _, _, h, _ => by simp [pathB] at h
  | f + 1, x, i, h, hi => by
    simp only [pathB, List.any_eq_true, Bool.or_eq_true, beq_iff_eq] at h
    obtain ⟨y, hy, h⟩ := h
    rcases h with rfl | h
    · exact hi _ hy
    · exact path_listed hc f x y h (hc y (hi y hy))
theorem ready_edges {listed : Array Bool} {i : Nat} (h : i ∈ Region.ready .any l.toArray listed) : listed.getD i true = false ∧ ∀ y ∈ edgesAt l i, listed.getD y false = true := by
  obtain ⟨h1, o, ho, hall⟩ := mem_ready.1 h
  refine ⟨h1, fun y hy => ?_⟩
  rw [List.getElem?_toArray] at ho
  simp only [edgesAt, ho, edgesOf, List.mem_map, List.mem_filter] at hy
  obtain ⟨e, ⟨he, hb⟩, rfl⟩ := hy
  exact hall e (by simpa using he) hb
theorem edges_ready {listed : Array Bool} {i : Nat} (hi : i < l.length) (h1 : listed.getD i true = false) (h2 : ∀ y ∈ edgesAt l i, listed.getD y false = true) : i ∈ Region.ready .any l.toArray listed := by
  refine mem_ready.2 ⟨h1, l[i], by rw [List.getElem?_toArray]; exact List.getElem?_eq_getElem hi, fun e he hb => h2 e.on ?_⟩
  simp only [edgesAt, List.getElem?_eq_getElem hi, edgesOf, List.mem_map, List.mem_filter]
  exact ⟨e, ⟨by simpa using he, hb⟩, rfl⟩
theorem any_of_aexec (hC : C.Ok) {K : St → Prop} (hK : Resp K) {Q : Exit → Act → World → Prop} (hQ : ∀ σ' a' w' ρ', K σ' → Rel C σ' a' w' ρ' → Q .normal a' w') :
    ∀ (m : Nat) (c : List Nat) (listed : Array Bool) (σ : St) (a : Act) (w : World) (ρ : Nat → Value), c.length = m → LeftOk kp l c listed →
      aexec C ⟨l.map (·.dst), kp⟩ (pickO l c) σ K → Rel C σ a w ρ → wpAny C.P .any l.toArray Q m listed a w
  | 0, c, listed, σ, a, w, ρ, hm, hl, h, r => by
    have hc : c = [] := List.eq_nil_of_length_eq_zero hm
    subst hc
    refine ⟨?_, hQ σ a w ρ h r⟩
    apply List.eq_nil_iff_forall_not_mem.2
    intro i hi
    have := (hl.un i).1 (ready_edges hi).1
    simp at this
  | m + 1, c, listed, σ, a, w, ρ, hm, hl, h, r => by
    refine ⟨fun hr => ?_, fun i hi => ?_⟩
    · exfalso
      match c, hm with
      | x :: c', _ =>
        have hx : x ∈ Region.ready .any l.toArray listed := by
          refine edges_ready (hl.lt x List.mem_cons_self) ((hl.un x).2 List.mem_cons_self) fun y hy => ?_
          obtain ⟨h1, h2⟩ := hl.ed x List.mem_cons_self y hy
          have hnc : y ∉ x :: c' := by
            intro hm
            rcases List.mem_cons.1 hm with e | hm
            · exact h2 e
            · have := (List.pairwise_cons.1 hl.pw).1 y hm
              simp [pairB] at this
              exact this.1.2 hy
          have h3 : ¬ listed.getD y true = false := fun e => hnc ((hl.un y).1 e)
          have hlt : y < listed.size := by rw [hl.size]; exact h1
          simp [hlt] at h3 ⊢
          exact h3
        rw [hr] at hx
        cases hx
    · obtain ⟨hi1, hi2⟩ := ready_edges hi
      have hic := (hl.un i).1 hi1
      obtain ⟨c1, c2, rfl⟩ := List.append_of_mem hic
      have hlt := hl.lt i hic
      have hget : l[i]? = some l[i] := List.getElem?_eq_getElem hlt
      have hsub : (c1 ++ c2).Sublist (c1 ++ i :: c2) := List.Sublist.append_left (List.sublist_cons_self i c2) c1
      have hpw := hl.pw
      rw [List.pairwise_append] at hpw
      obtain ⟨p1, p2, p3⟩ := hpw
      have hpick : ∀ c1 : List Nat, pickO l (c1 ++ i :: c2) = pickO l c1 ++ l[i] :: pickO l c2 := by
        intro c1
        induction c1 with
        | nil => simp only [List.nil_append, pickO, nthO_eq hget]
        | cons x c1 ih => simp only [List.cons_append, pickO, ih]
      have hpick2 : ∀ c1 : List Nat, pickO l c1 ++ pickO l c2 = pickO l (c1 ++ c2) := by
        intro c1
        induction c1 with
        | nil => rfl
        | cons x c1 ih => simp only [List.cons_append, pickO, ih]
      rw [hpick] at h
      have hmem : ∀ o ∈ pickO l c1, ∃ x ∈ c1, l[x]? = some o := by
        have : ∀ c : List Nat, (∀ x ∈ c, x < l.length) → ∀ o ∈ pickO l c, ∃ x ∈ c, l[x]? = some o := by
          intro c
          induction c with
          | nil => intro _ o ho; simp [pickO] at ho
          | cons x c ih =>
            intro hx o ho
            simp only [pickO, List.mem_cons] at ho
            rcases ho with e | ho
            · refine ⟨x, List.mem_cons_self, ?_⟩
              have := List.getElem?_eq_getElem (hx x List.mem_cons_self)
              rw [e, nthO_eq this]; exact this
            · obtain ⟨y, hy, h'⟩ := ih (fun z hz => hx z (List.mem_cons_of_mem _ hz)) o ho
              exact ⟨y, List.mem_cons_of_mem _ hy, h'⟩
        exact this c1 fun x hx => hl.lt x (List.mem_append_left _ hx)
      have hsw : ∀ o ∈ pickO l c1, MaySwap ⟨l.map (·.dst), kp⟩ o l[i] := by
        intro o ho
        obtain ⟨x, hx, hxo⟩ := hmem o ho
        have hp := p3 x hx i List.mem_cons_self
        simp only [pairB, Bool.and_eq_true, Bool.or_eq_true] at hp
        rcases hp.1.1 with hp | hp
        · exact (listed_not (path_listed hl.closed _ x i hp hi2) ((hl.un x).2 (List.mem_append_left _ hx))).elim
        · simp only [swapAt, hxo, hget] at hp
          exact maySwapB_spec hp
      have h2 := aexec_front hK hsw h
      refine aone_wp hC (K2 := wpAny C.P .any l.toArray Q m (listed.setIfInBounds i true)) (fun σ' a' w' ρ' h' r' => ?_) hget h2 r
      rw [hpick2] at h'
      have hil : i < listed.size := by rw [hl.size]; exact hlt
      refine any_of_aexec hC hK hQ m (c1 ++ c2) (listed.setIfInBounds i true) σ' a' w' ρ' ?_ ⟨hl.pw.sublist hsub, fun x hx => hl.lt x (hsub.subset hx), fun x hx => hl.ed x (hsub.subset hx), by rw [Array.size_setIfInBounds]; exact hl.size, fun j => ?_, fun j hj y hy => ?_⟩ h' r'
      · simp at hm ⊢; omega
      · by_cases hij : i = j
        · subst hij
          have hno : i ∉ c1 ++ c2 := by
            intro hmm
            rcases List.mem_append.1 hmm with k | k
            · have := p3 i k i List.mem_cons_self
              simp [pairB] at this
            · have := (List.pairwise_cons.1 p2).1 i k
              simp [pairB] at this
          simp [hil, hno]
        · rw [getD_set_ne true hij, hl.un j]
          simp only [List.mem_append, List.mem_cons]
          constructor
          · rintro (h | h | h)
            · exact .inl h
            · exact absurd h.symm hij
            · exact .inr h
          · rintro (h | h)
            · exact .inl h
            · exact .inr (.inr h)
      · by_cases hij : i = j
        · subst hij
          exact getD_set_true (hi2 y hy)
        · rw [getD_set_ne false hij] at hj
          exact getD_set_true (hl.closed j hj y hy)
theorem Run.resp {k : List Item} : Resp (Run C k) := by
  intro σ σ' he h a w ρ r b cs
  exact h a w ρ ⟨r.defers, r.size.trans he.1.symm, fun s ex x hs => by
    rw [he.2.2 s] at hs
    rw [he.2.1]
    exact r.fr s ex x hs, by rw [he.2.1]; exact r.w, by rw [he.2.1]; exact r.pin⟩ b cs
theorem Run.regionD (hC : C.Ok) (kp : Bool) (c : List Nat) {k : List Item} {σ : St} {id : Nat} {l : List Oper} (hB : ordOK kp l c = true)
    (h : ∀ K : St → Prop, (∀ σ', Run C k σ' → K σ') → aexec C ⟨dstL l, kp⟩ (pickO l c) σ K) : Run C (.code (.region id l.toArray true) :: k) σ := by
  intro a w ρ r b cs
  have h1 := h (fun σ' => Run C k σ') (fun _ hr => hr)
  rw [dstL_eq] at h1
  simp only [ordOK, Bool.and_eq_true, List.all_eq_true, List.mem_range] at hB
  obtain ⟨⟨hp, ha⟩, hr⟩ := hB
  have hcl : c.length = l.length := by
    have hpw := pwB_pw hp
    have hnd : c.Nodup := hpw.imp (fun {x y} h => by simp [pairB] at h; exact h.2)
    have hperm : c.Perm (List.range l.length) := by
      refine (List.perm_ext_iff_of_nodup hnd List.nodup_range).2 fun i => ?_
      rw [List.mem_range]
      constructor
      · intro hi
        have := ha i hi
        simp at this
        exact this.1
      · intro hi
        simpa using hr i hi
    simpa using hperm.length_eq
  have hst : Step C w { w with drawn := w.drawn + 1 } σ.obs σ.obs ρ ρ := (Turn.none r.w (Ext.drew _ w)).step r.w
  have hrel : Rel C σ a { w with drawn := w.drawn + 1 } ρ := hst.rel r
  have hw : (Code.region id l.toArray true).wp C.P (fun e a' w' => e = .normal ∧ ∃ σ' ρ', Run C k σ' ∧ Rel C σ' a' w' ρ') a w := by
    refine wp_region_any hC.mixed ?_
    simp only [List.size_toArray]
    refine any_of_aexec (kp := kp) hC Run.resp (fun σ' a' w' ρ' hk hr => ⟨rfl, σ', ρ', hk, hr⟩) l.length c (Array.replicate l.length false) σ a _ ρ hcl ⟨pwB_pw hp, fun x hx => ?_, fun x hx y hy => ?_, by simp, fun i => ?_, fun i hi => ?_⟩ h1 hrel
    · have := ha x hx; simp at this; exact this.1
    · have := ha x hx; simp at this; exact this.2 y hy
    · rcases Nat.lt_or_ge i l.length with hi | hi
      · have := hr i hi
        simp at this
        simp [hi, this]
      · simp [hi]
        intro hic
        have := ha i hic
        simp at this
        omega
    · rcases Nat.lt_or_ge i l.length with hh | hh
      · simp [hh] at hi
      · simp [hh] at hi
  obtain ⟨e, a', w', ⟨rfl, σ', ρ', hk, hr⟩, harr⟩ := hw b k cs
  obtain ⟨e2, a2, w2, hp, harr2⟩ := hk a' w' ρ' hr b cs
  exact ⟨e2, a2, w2, hp, .of_steps harr harr2⟩
end
theorem FunA.callW {B C : Ctx} [DrLe B C] (hP : B.P = C.P) (hT : B.tid = C.tid) {f : FuncId} {args0 : List AV} {post : List AV → List O → Prop} (h : FunA B f args0 post) {obs : List O} {args : List AV} (ha : argsOk obs args args0)
    {K : Sl → List O → Prop} (hk : ∀ xs obs', post xs obs' → K (resSl obs.length xs) (obs ++ obs')) : ACall C obs f args fun x o => Later (K x o) := FunA.call hP hT h ha hk
theorem FunA.callD {B C : Ctx} [DrLe B C] (hP : B.P = C.P) (hT : B.tid = C.tid) {f : FuncId} {args0 : List AV} {post : List AV → List O → Prop} (h : FunA B f args0 post) {obs : List O} {args : List AV} (ha : argsOk obs args args0)
    {K : Sl → List O → Prop} (hk : ∀ xs obs', post xs obs' → K (resSl obs.length xs) (obs ++ obs')) : ACall C obs f args fun x o => Keeps obs o ∧ Later (K x o) := FunA.call hP hT h ha fun xs obs' hp => ⟨Keeps.app _ _, hk xs obs' hp⟩
theorem argsOk_nil (obs : List O) : argsOk obs [] [] = True := rfl
theorem argsOk_cons (obs : List O) (x y : AV) (l r : List AV) : argsOk obs (x :: l) (y :: r) = (argOk obs x y ∧ argsOk obs l r) := rfl
theorem argOk_int (obs : List O) (x : AV) (k : IntKind) (n : Int) : argOk obs x (.int k n) = (x = .int k n) := by cases x <;> rfl
theorem argOk_bool (obs : List O) (x : AV) (n : Bool) : argOk obs x (.bool n) = (x = .bool n) := by cases x <;> rfl
theorem argOk_str (obs : List O) (x : AV) (n : List UInt8) : argOk obs x (.str n) = (x = .str n) := by cases x <;> rfl
theorem argOk_fn (obs : List O) (x : AV) (n : Nat) : argOk obs x (.fn n) = (x = .fn n) := by cases x <;> rfl
theorem argOk_vec (obs : List O) (x : AV) (n : List Int) : argOk obs x (.vec n) = (x = .vec n) := by cases x <;> rfl
theorem argOk_nil (obs : List O) (x : AV) : argOk obs x .nils = (x = .nils) := by cases x <;> rfl
theorem argOk_sl (obs : List O) (f : Bool) (e e' : E) (xs : List e.D) (ys : List e'.D) : argOk obs (.sl f e' ys) (.sl false e xs) = convV e e' ys xs := rfl
theorem argOk_lr (obs : List O) (e : E) (xs : List e.D) (l : Nat) (ys : List Int) : argOk obs (.lr l ys) (.sl false e xs) = convV e .int ys xs := rfl
theorem argOk_nils (obs : List O) (e : E) (xs : List e.D) : argOk obs .nils (.sl false e xs) = (xs = []) := rfl
def argO (g : Nat) (e : E) (xs : List e.D) : O → Prop
  | .arr e' ys g' _ => g = g' ∧ convV e e' ys xs
  | .mat _ rows g' _ => g = g' ∧ e = .row false ∧ convV e (.row false) rows xs
  | _ => False
theorem argOk_own (obs : List O) (e : E) (xs : List e.D) (id g : Nat) : argOk obs (.own id g) (.sl false e xs) = argO g e xs (oAt obs id) := by
  rw [at_arr]
  simp only [argOk]
  cases h : obs[id]? with
  | none => simp [argO]
  | some o => cases o <;> rfl
theorem argO_arr (g g' : Nat) (e e' : E) (xs : List e.D) (ys : List e'.D) (nn : Bool) : argO g e xs (.arr e' ys g' nn) = (g = g' ∧ convV e e' ys xs) := rfl
theorem argO_mat (g g' : Nat) (e : E) (xs : List e.D) (hs : List (Option Nat)) (rows : List (List Int)) (nn : Bool) : argO g e xs (.mat hs rows g' nn) = (g = g' ∧ e = .row false ∧ convV e (.row false) rows xs) := rfl
theorem cvV_int (ys zs : List Int) : convV .int .int ys zs = (zs = ys) := rfl
theorem cvV_byte (ys zs : List Int) : convV .byte .byte ys zs = (zs = ys) := rfl
theorem cvV_bool (ys zs : List Bool) : convV .bool .bool ys zs = (zs = ys) := rfl
theorem cvV_str (ys zs : List (List UInt8)) : convV .str .str ys zs = (zs = ys) := rfl
theorem cvV_row (f : Bool) (ys zs : List (List Int)) : convV (.row false) (.row f) ys zs = (zs = ys) := rfl
theorem cvV_lrow (ys : List (Nat × List Int)) (zs : List (List Int)) : convV (.row false) .lrow ys zs = (zs = ys.map (·.2)) := rfl
theorem AZ : type_of% @AY ∧ type_of% @nthO_cons ∧ type_of% @pickO_nil ∧ type_of% @pickO_cons ∧ (∀ p : Prop, (false = true → p) = True) ∧ (∀ p : Prop, (true = true → p) = p) ∧ type_of% @argsOk_nil ∧ type_of% @argsOk_cons ∧ type_of% @argOk_int ∧ type_of% @argOk_bool ∧ type_of% @argOk_str ∧ type_of% @argOk_fn ∧ type_of% @argOk_vec ∧ type_of% @argOk_nil ∧
    type_of% @argOk_sl ∧ type_of% @argOk_lr ∧ type_of% @argOk_nils ∧ type_of% @argOk_own ∧ type_of% @argO_arr ∧ type_of% @cvV_int ∧ type_of% @cvV_byte ∧ type_of% @cvV_bool ∧ type_of% @cvV_str ∧ type_of% @cvV_row ∧ type_of% @cvV_lrow ∧ (∀ k n, St.n ⟨k, n, ([] : List O)⟩ = k) := by
  refine ⟨AY, nthO_cons, pickO_nil, pickO_cons, ?_, ?_, argsOk_nil, argsOk_cons, argOk_int, argOk_bool, argOk_str, argOk_fn, argOk_vec, argOk_nil, argOk_sl, argOk_lr, argOk_nils, argOk_own, argO_arr, cvV_int, cvV_byte, cvV_bool, cvV_str, cvV_row, cvV_lrow, fun _ _ => rfl⟩ <;> simp
end Go.Aw
