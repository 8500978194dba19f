/- Matrices with positive minors, four points at most: one finite check in whole numbers. -/
import Derived.KernelRfl
import Derived.Test.YtaghdbbcadhjdaaGreatDoorB7
set_option linter.unusedVariables false
set_option linter.unusedSimpArgs false
namespace Go.Proofs.YtaghdbbcadhjdaaGreatDoor
def inL : Nat → List (List Nat) → List Nat
  | _, [] => []
  | 0, r :: _ => r
  | n + 1, _ :: l => inL n l
def inN : Nat → List Nat → Nat
  | _, [] => 0
  | 0, x :: _ => x
  | n + 1, _ :: l => inN n l
def inP : Nat → List (Nat × Nat) → Nat × Nat
  | _, [] => (0, 0)
  | 0, x :: _ => x
  | n + 1, _ :: l => inP n l
def rpV (a : Nat × Nat) (i : Nat) : Nat → List (Nat × Nat) → List Nat → List (Nat × Nat)
  | k, x :: v, b :: col => (bif Nat.beq k i then (x.2, x.1) else (Nat.add x.1 (Nat.mul a.1 b), Nat.add x.2 (Nat.mul a.2 b))) :: rpV a i (k + 1) v col
  | _, _, _ => []
def rfV (cols : List (List Nat)) (i : Nat) (v : List (Nat × Nat)) : List (Nat × Nat) := rpV (inP i v) i 0 v (inL i cols)
def fnV : List (Nat × Nat) → Nat → Option Nat
  | [], _ => none
  | x :: l, k => bif Nat.ble x.2 x.1 then fnV l (k + 1) else some k
def onV : List (Nat × Nat) → Bool
  | [] => true
  | x :: l => Nat.beq x.1 (Nat.add x.2 1) && onV l
def plV (cols : List (List Nat)) : Nat → List (Nat × Nat) → Bool
  | 0, v => onV v
  | f + 1, v => match fnV v 0 with
    | none => onV v
    | some i => plV cols f (rfV cols i v)
def cxV (cols : List (List Nat)) : Nat → List (Nat × Nat) → List (Nat × Nat)
  | 0, v => v
  | n + 1, v => cxV cols n (rfV cols n v)
def orV (cols : List (List Nat)) (n : Nat) : Nat → List (Nat × Nat) → Bool
  | 0, _ => false
  | f + 1, v => onV (cxV cols n v) || orV cols n f (cxV cols n v)
def eqR : List Nat → List Nat → Bool
  | [], [] => true
  | x :: a, y :: b => Nat.beq x y && eqR a b
  | _, _ => false
def hasR (r : List Nat) : List (List Nat) → Bool
  | [] => false
  | s :: l => eqR r s || hasR r l
def dtR : List Nat → List Nat → Nat
  | x :: a, y :: b => Nat.add (Nat.mul x y) (dtR a b)
  | _, _ => 0
def stR : Nat → Nat → List Nat → List Nat
  | _, _, [] => []
  | 0, y, _ :: l => y :: l
  | n + 1, y, x :: l => x :: stR n y l
def unR (n i : Nat) : List Nat := stR i 1 (List.replicate n 0)
def upR (r : List Nat) (q : List (List Nat)) : Nat → List (List Nat) → List (List Nat)
  | _, [] => []
  | i, row :: rows => bif Nat.ble (dtR row r) (Nat.mul 2 (inN i r)) then upR r q (i + 1) rows else
      bif hasR (stR i (Nat.sub (dtR row r) (inN i r)) r) q then upR r q (i + 1) rows else stR i (Nat.sub (dtR row r) (inN i r)) r :: upR r q (i + 1) rows
def grR (rows : List (List Nat)) : Nat → List (List Nat) → List (List Nat) → List (List Nat)
  | 0, _, d => d
  | _ + 1, [], d => d
  | f + 1, r :: q, d => grR rows f (q ++ upR r q 0 rows) (r :: d)
def okR (P : List (List Nat)) (n : Nat) (r : List Nat) : Nat → List (List Nat) → Bool
  | _, [] => true
  | i, row :: rows => (eqR r (unR n i) || (Nat.ble (inN i r) (dtR row r) && hasR (stR i (Nat.sub (dtR row r) (inN i r)) r) P)) && okR P n r (i + 1) rows
def smR : List Nat → Bool
  | [] => true
  | x :: l => Nat.ble x 6 && smR l
def unsR (n : Nat) : Nat → List (List Nat)
  | 0 => []
  | k + 1 => unR n k :: unsR n k
def clR (rows : List (List Nat)) (n : Nat) (P : List (List Nat)) : Bool :=
  (unsR n n).all (fun r => hasR r P) && P.all fun r => Nat.beq r.length n && smR r && okR P n r 0 rows
def godC (cols rows : List (List Nat)) (n : Nat) : Bool :=
  plV cols 24 (List.replicate n (0, 1)) && orV cols n 12 (List.replicate n (1, 0)) && clR rows n (grR rows 30 (unsR n n) [])
def prN : List (Nat × Nat) := [(0, 0), (1, 1), (1, 2), (2, 1), (1, 3), (3, 1)]
def d3 (p q r : Nat × Nat) : Bool := Nat.ble (Nat.add (Nat.add (Nat.mul 2 (Nat.add (Nat.add (Nat.mul p.1 p.2) (Nat.mul q.1 q.2)) (Nat.mul r.1 r.2))) (Nat.add (Nat.mul (Nat.mul p.1 r.1) q.2) (Nat.mul (Nat.mul q.1 r.2) p.2))) 1) 8
def col4 (p q r s t u : Nat × Nat) : List (List Nat) := [[0, p.2, q.2, s.2], [p.1, 0, r.2, t.2], [q.1, r.1, 0, u.2], [s.1, t.1, u.1, 0]]
def row4 (p q r s t u : Nat × Nat) : List (List Nat) := [[0, p.1, q.1, s.1], [p.2, 0, r.1, t.1], [q.2, r.2, 0, u.1], [s.2, t.2, u.2, 0]]
def col3 (p q r : Nat × Nat) : List (List Nat) := [[0, p.2, q.2], [p.1, 0, r.2], [q.1, r.1, 0]]
def row3 (p q r : Nat × Nat) : List (List Nat) := [[0, p.1, q.1], [p.2, 0, r.1], [q.2, r.2, 0]]
def d4 (p q r s t u : Nat × Nat) : Bool :=
  Nat.ble (4 * (p.1 * p.2 + q.1 * q.2 + r.1 * r.2 + s.1 * s.2 + t.1 * t.2 + u.1 * u.2) + 2 * (p.1 * r.1 * q.2 + q.1 * r.2 * p.2 + p.1 * t.1 * s.2 + s.1 * t.2 * p.2 + q.1 * u.1 * s.2 + s.1 * u.2 * q.2 + r.1 * u.1 * t.2 + t.1 * u.2 * r.2) +
    (p.1 * r.1 * u.1 * s.2 + s.1 * u.2 * r.2 * p.2 + p.1 * t.1 * u.2 * q.2 + q.1 * u.1 * t.2 * p.2 + q.1 * r.2 * t.1 * s.2 + s.1 * t.2 * r.1 * q.2) + 1) (16 + (p.1 * p.2 * (u.1 * u.2) + q.1 * q.2 * (t.1 * t.2) + s.1 * s.2 * (r.1 * r.2)))
def ck4 (p : Nat × Nat) : Bool := prN.all fun q => prN.all fun r => !d3 p q r || prN.all fun s => prN.all fun t => !d3 p s t || prN.all fun u => !d3 q s u || !d3 r t u || !d4 p q r s t u || godC (col4 p q r s t u) (row4 p q r s t u) 4
def ck3 : Bool := prN.all fun p => prN.all fun q => prN.all fun r => !d3 p q r || godC (col3 p q r) (row3 p q r) 3
def ck2 : Bool := prN.all fun p => godC [[0, p.2], [p.1, 0]] [[0, p.1], [p.2, 0]] 2
theorem ck1_true : godC [[0]] [[0]] 1 = true := by decide +kernel
theorem ck2_true : ck2 = true := by decide +kernel
theorem ck3_true : ck3 = true := by decide +kernel
theorem ck4_0 : ck4 (0, 0) = true := by decide +kernel
theorem ck4_1 : ck4 (1, 1) = true := by decide +kernel
theorem ck4_2 : ck4 (1, 2) = true := by decide +kernel
theorem ck4_3 : ck4 (2, 1) = true := by decide +kernel
theorem ck4_4 : ck4 (1, 3) = true := by decide +kernel
theorem ck4_5 : ck4 (3, 1) = true := by decide +kernel
end Go.Proofs.YtaghdbbcadhjdaaGreatDoor
namespace Go.Proofs.YtaghdbbcadhjdaaGreatDoor
open Go Go.Aw Go.Cox
def minorL (m : List (List Int)) (j : Nat) : List (List Int) := (m.drop 1).map fun r => r.take j ++ r.drop (j + 1)
def detN : Nat → List (List Int) → Int
  | 0, _ => 1
  | n + 1, m => (List.range (n + 1)).foldl (fun s j => s + (if j % 2 = 1 then -1 else 1) * (m.getD 0 []).getD j 0 * detN n (minorL m j)) 0
def pick (c : List (List Int)) (s : List Int) : List (List Int) := s.map fun i => s.map fun j => ent c i.toNat j.toNat
def setL (k : Nat) : List Int := ((List.range 4).filter fun i => k.testBit i).map Int.ofNat
def mn (c : List (List Int)) (k : Nat) : Int := detN (setL k).length (pick c (setL k))
def FinP (c : List (List Int)) : Prop := CartanP c ∧ ∀ k, 1 ≤ k → k < 2 ^ c.length → 0 < mn c k
def coxW (n : Nat) : List Int := (List.range n).map Int.ofNat
def itW (c : List (List Int)) (w : List Int) : Nat → List Int → List Int
  | 0, v => v
  | n + 1, v => itW c w n (actL c w v)
def negs (n : Nat) : List Int := List.replicate n (-1)
def dotL : List Int → List Int → Int
  | x :: a, y :: b => x * y + dotL a b
  | _, _ => 0
def mirL (c : List (List Int)) (i : Int) (r : List Int) : List Int := r.set i.toNat (r.getD i.toNat 0 - dotL (c.getD i.toNat []) r)
def simL (n : Nat) (i : Nat) : List Int := (List.replicate n 0).set i 1
theorem inN_eq : ∀ (n : Nat) (l : List Nat), inN n l = l.getD n 0
  | _, [] => by simp [inN]
  | 0, _ :: _ => rfl
  | n + 1, _ :: l => by simp only [inN, List.getD_cons_succ]; exact inN_eq n l
theorem inL_eq : ∀ (n : Nat) (l : List (List Nat)), inL n l = l.getD n []
  | _, [] => by simp [inL]
  | 0, _ :: _ => rfl
  | n + 1, _ :: l => by simp only [inL, List.getD_cons_succ]; exact inL_eq n l
theorem inP_eq : ∀ (n : Nat) (l : List (Nat × Nat)), inP n l = l.getD n (0, 0)
  | _, [] => by simp [inP]
  | 0, _ :: _ => rfl
  | n + 1, _ :: l => by simp only [inP, List.getD_cons_succ]; exact inP_eq n l
def dec (v : List (Nat × Nat)) : List Int := v.map fun x => (x.1 : Int) - x.2
theorem dec_length (v : List (Nat × Nat)) : (dec v).length = v.length := by simp [dec]
theorem dec_get (v : List (Nat × Nat)) (k : Nat) : (dec v).getD k 0 = ((v.getD k (0, 0)).1 : Int) - (v.getD k (0, 0)).2 := by
  simp only [dec, List.getD_eq_getElem?_getD, List.getElem?_map]
  cases v[k]? <;> simp
structure Fits (c : List (List Int)) (cols rows : List (List Nat)) : Prop where
  cl : cols.length = c.length
  rl : rows.length = c.length
  cr : ∀ i, i < c.length → (cols.getD i []).length = c.length ∧ (rows.getD i []).length = c.length ∧ (rows.getD i []).getD i 0 = 0
  ce : ∀ i k, i < c.length → k < c.length → k ≠ i → ent c k i = -((cols.getD i []).getD k 0 : Nat) ∧ ent c i k = -((rows.getD i []).getD k 0 : Nat)
theorem rpV_len (a : Nat × Nat) (i : Nat) : ∀ (v : List (Nat × Nat)) (k : Nat) (col : List Nat), v.length ≤ col.length → (rpV a i k v col).length = v.length
  | [], k, col, _ => by cases col <;> rfl
  | x :: v, k, [], h => by simp at h
  | x :: v, k, b :: col, h => by simp only [rpV, List.length_cons]; rw [rpV_len a i v (k + 1) col (by simpa using h)]
theorem rpV_get (a : Nat × Nat) (i : Nat) : ∀ (v : List (Nat × Nat)) (k : Nat) (col : List Nat), v.length ≤ col.length → ∀ j, j < v.length →
    (dec (rpV a i k v col)).getD j 0 = if k + j = i then -(dec v).getD j 0 else (dec v).getD j 0 + ((a.1 : Int) - a.2) * (col.getD j 0 : Nat)
  | [], k, col, _, j, hj => by simp at hj
  | x :: v, k, [], h, _, _ => by simp at h
  | x :: v, k, b :: col, h, 0, _ => by
    simp only [rpV, dec, List.map_cons, List.getD_cons_zero, Nat.add_zero]
    by_cases hk : k = i
    · subst hk
      simp
      omega
    · have : Nat.beq k i = false := by
        cases hb : Nat.beq k i with
        | false => rfl
        | true => exact absurd (Nat.eq_of_beq_eq_true hb) hk
      rw [this, if_neg hk]
      simp only [cond_false, Nat.add_eq, Nat.mul_eq]
      push_cast
      grind
  | x :: v, k, b :: col, h, j + 1, hj => by
    have ih := rpV_get a i v (k + 1) col (by simpa using h) j (by simpa using hj)
    simp only [rpV, dec, List.map_cons, List.getD_cons_succ] at ih ⊢
    rw [ih]
    have : (k + 1 + j = i) = (k + (j + 1) = i) := by apply propext; omega
    simp only [this]
section
variable {c : List (List Int)} {cols rows : List (List Nat)} (hc : CartanP c) (hf : Fits c cols rows)
include hc hf
theorem rf_dec {i : Nat} (hi : i < c.length) {v : List (Nat × Nat)} (hv : v.length = c.length) : dec (rfV cols i v) = reflL c i (dec v) ∧ (rfV cols i v).length = c.length := by
  have hcl := (hf.cr i hi).1
  have hl : (rfV cols i v).length = c.length := by
    unfold rfV
    rw [rpV_len _ _ _ _ _ (by rw [inL_eq, hcl, hv]; exact Nat.le_refl _), hv]
  refine ⟨?_, hl⟩
  apply List.ext_getElem?
  intro k
  by_cases hk : k < c.length
  · have h1 := rpV_get (inP i v) i v 0 (inL i cols) (by rw [inL_eq, hcl, hv]; exact Nat.le_refl _) k (by omega)
    have h2 := reflL_get c i (dec v) k (by rw [dec_length, hv]; exact hk)
    have h3 : (dec (rfV cols i v)).getD k 0 = (reflL c i (dec v)).getD k 0 := by
      rw [h2]
      show (dec (rpV (inP i v) i 0 v (inL i cols))).getD k 0 = _
      rw [h1, inL_eq, inP_eq, ← dec_get]
      rw [Int.toNat_natCast]
      by_cases hki : k = i
      · subst hki
        have h2 : ent c k k = 2 := (matA_cartan hc).diag k hk
        rw [if_pos (by omega), h2]
        omega
      · rw [if_neg (by omega), (hf.ce i k hi hk hki).1]
        grind
    rw [List.getD_eq_getElem?_getD, List.getD_eq_getElem?_getD, List.getElem?_eq_getElem (by rw [dec_length, hl]; exact hk), List.getElem?_eq_getElem (by rw [reflL_length, dec_length, hv]; exact hk)] at h3
    rw [List.getElem?_eq_getElem (by rw [dec_length, hl]; exact hk), List.getElem?_eq_getElem (by rw [reflL_length, dec_length, hv]; exact hk)]
    simpa using h3
  · rw [List.getElem?_eq_none (by rw [dec_length, hl]; omega), List.getElem?_eq_none (by rw [reflL_length, dec_length, hv]; omega)]
omit hc hf in
theorem fnV_lt : ∀ (v : List (Nat × Nat)) (k i : Nat), fnV v k = some i → i < k + v.length
  | [], k, i, h => by simp [fnV] at h
  | x :: v, k, i, h => by
    simp only [fnV] at h
    cases hb : Nat.ble x.2 x.1 with
    | true =>
      rw [hb] at h
      have := fnV_lt v (k + 1) i h
      simp only [List.length_cons]
      omega
    | false =>
      rw [hb] at h
      simp at h
      simp only [List.length_cons]
      omega
omit hc hf in
theorem onV_dec : ∀ (v : List (Nat × Nat)), onV v = true → dec v = ones v.length
  | [], _ => rfl
  | x :: v, h => by
    simp only [onV, Bool.and_eq_true] at h
    have h1 := Nat.eq_of_beq_eq_true h.1
    have h2 := onV_dec v h.2
    simp only [dec, List.map_cons, List.length_cons, ones, List.replicate_succ] at h2 ⊢
    rw [h2]
    congr 1
    simp only [Nat.add_eq] at h1
    omega
theorem plV_spec : ∀ (f : Nat) (v : List (Nat × Nat)), v.length = c.length → plV cols f v = true → ∃ w : List Int, letters c.length w ∧ w.length ≤ f ∧ imageL c w = dec v
  | 0, v, hv, h => ⟨[], letters_nil _, Nat.le_refl _, by rw [onV_dec v h, hv]; rfl⟩
  | f + 1, v, hv, h => by
    simp only [plV] at h
    cases hfn : fnV v 0 with
    | none =>
      rw [hfn] at h
      exact ⟨[], letters_nil _, by simp, by rw [onV_dec v h, hv]; rfl⟩
    | some i =>
      rw [hfn] at h
      have hi : i < c.length := by have := fnV_lt v 0 i hfn; omega
      obtain ⟨r1, r2⟩ := rf_dec hc hf hi hv
      obtain ⟨w, w1, w2, w3⟩ := plV_spec f _ r2 h
      refine ⟨(i : Int) :: w, letters_cons.2 ⟨⟨by omega, by omega⟩, w1⟩, by simpa using w2, ?_⟩
      rw [image_cons, w3, r1]
      exact refl2 hc ⟨by omega, by omega⟩ (by rw [dec_length, hv])
omit hc hf in
theorem coxW_succ (n : Nat) : coxW (n + 1) = coxW n ++ [(n : Int)] := by simp [coxW, List.range_succ]
theorem cxV_spec : ∀ (m : Nat), m ≤ c.length → ∀ (v : List (Nat × Nat)), v.length = c.length → dec (cxV cols m v) = actL c (coxW m) (dec v) ∧ (cxV cols m v).length = c.length
  | 0, _, v, hv => ⟨rfl, hv⟩
  | m + 1, hm, v, hv => by
    obtain ⟨r1, r2⟩ := rf_dec hc hf (i := m) (by omega) hv
    obtain ⟨s1, s2⟩ := cxV_spec m (by omega) _ r2
    refine ⟨?_, s2⟩
    rw [coxW_succ, actL_append]
    show dec (cxV cols m (rfV cols m v)) = _
    rw [s1, r1]
    rfl
theorem orV_spec : ∀ (f : Nat) (v : List (Nat × Nat)), v.length = c.length → orV cols c.length f v = true → ∃ k, 1 ≤ k ∧ k ≤ f ∧ itW c (coxW c.length) k (dec v) = ones c.length
  | 0, v, hv, h => by simp [orV] at h
  | f + 1, v, hv, h => by
    obtain ⟨s1, s2⟩ := cxV_spec hc hf c.length (Nat.le_refl _) v hv
    simp only [orV, Bool.or_eq_true] at h
    rcases h with h | h
    · refine ⟨1, Nat.le_refl _, by omega, ?_⟩
      show actL c (coxW c.length) (dec v) = _
      rw [← s1, onV_dec _ h, s2]
    · obtain ⟨k, k1, k2, k3⟩ := orV_spec f _ s2 h
      refine ⟨k + 1, by omega, by omega, ?_⟩
      show itW c (coxW c.length) k (actL c (coxW c.length) (dec v)) = _
      rw [← s1]; exact k3
omit hc hf in
theorem eqR_iff : ∀ (a b : List Nat), eqR a b = true ↔ a = b
  | [], [] => by simp [eqR]
  | [], _ :: _ => by simp [eqR]
  | _ :: _, [] => by simp [eqR]
  | x :: a, y :: b => by
    simp only [eqR, Bool.and_eq_true, List.cons.injEq, eqR_iff a b]
    constructor
    · rintro ⟨h1, h2⟩; exact ⟨Nat.eq_of_beq_eq_true h1, h2⟩
    · rintro ⟨rfl, h2⟩; exact ⟨Nat.beq_refl x, h2⟩
omit hc hf in
theorem hasR_mem (r : List Nat) : ∀ (l : List (List Nat)), hasR r l = true → r ∈ l
  | [], h => by simp [hasR] at h
  | s :: l, h => by
    simp only [hasR, Bool.or_eq_true] at h
    rcases h with h | h
    · rw [(eqR_iff r s).1 h]; exact List.mem_cons_self ..
    · exact List.mem_cons_of_mem _ (hasR_mem r l h)
omit hc hf in
theorem stR_eq : ∀ (n y : Nat) (l : List Nat), stR n y l = l.set n y
  | _, _, [] => by simp [stR]
  | 0, _, _ :: _ => rfl
  | n + 1, y, x :: l => by simp only [stR, List.set_cons_succ]; rw [stR_eq n y l]
def rZ (r : List Nat) : List Int := r.map Int.ofNat
def negL (r : List Int) : List Int := r.map (- ·)
omit hc hf in
theorem rZ_unR (n i : Nat) : rZ (unR n i) = simL n i := by
  simp [rZ, unR, stR_eq, simL, List.map_set]
omit hc hf in
theorem rZ_get (r : List Nat) (i : Nat) : (rZ r).getD i 0 = (r.getD i 0 : Nat) := by
  simp only [rZ, List.getD_eq_getElem?_getD, List.getElem?_map]
  cases r[i]? <;> simp
omit hc hf in
theorem okR_get (P : List (List Nat)) (n : Nat) (r : List Nat) : ∀ (i : Nat) (rows : List (List Nat)), okR P n r i rows = true → ∀ j, j < rows.length →
    r = unR n (i + j) ∨ (r.getD (i + j) 0 ≤ dtR (rows.getD j []) r ∧ (r.set (i + j) (dtR (rows.getD j []) r - r.getD (i + j) 0)) ∈ P)
  | _, [], _, j, hj => by simp at hj
  | i, row :: rows, h, j, hj => by
    simp only [okR, Bool.and_eq_true, Bool.or_eq_true] at h
    cases j with
    | zero =>
      rcases h.1 with h1 | ⟨h1, h2⟩
      · exact .inl ((eqR_iff _ _).1 h1)
      · refine .inr ⟨?_, ?_⟩
        · rw [← inN_eq]; exact Nat.le_of_ble_eq_true h1
        · have := hasR_mem _ _ h2
          rw [stR_eq, inN_eq] at this
          exact this
    | succ j =>
      have := okR_get P n r (i + 1) rows h.2 j (by simpa using hj)
      rw [show i + 1 + j = i + (j + 1) by omega] at this
      exact this
omit hc hf in
theorem dot_row : ∀ (a : List Int) (row r : List Nat) (i : Nat), a.length = row.length → row.length = r.length → row.getD i 0 = 0 → i < r.length → (∀ k, k < r.length → k ≠ i → a.getD k 0 = -(row.getD k 0 : Nat)) →
    dotL a (rZ r) = a.getD i 0 * (r.getD i 0 : Nat) - (dtR row r : Nat)
  | [], [], [], i, _, _, _, hi, _ => by simp at hi
  | x :: a, y :: row, z :: r, 0, h1, h2, h3, _, h5 => by
    simp only [List.getD_cons_zero] at h3
    have hall : ∀ (a : List Int) (row r : List Nat), a.length = row.length → row.length = r.length → (∀ k, k < r.length → a.getD k 0 = -(row.getD k 0 : Nat)) → dotL a (rZ r) = -(dtR row r : Nat) := by
      intro a
      induction a with
      | nil =>
        intro row r q1 q2 _
        have : row = [] := List.eq_nil_of_length_eq_zero (by simpa using q1.symm)
        subst this
        simp [dotL, dtR]
      | cons x a ih =>
        intro row r q1 q2 q3
        match row, r, q1, q2 with
        | y :: row, z :: r, q1, q2 =>
          have e := q3 0 (by simp)
          simp only [List.getD_cons_zero] at e
          have ih := ih row r (by simpa using q1) (by simpa using q2) (fun k hk => by have := q3 (k + 1) (by simpa using hk); simpa only [List.getD_cons_succ] using this)
          simp only [rZ, List.map_cons, dotL, dtR, Nat.add_eq, Nat.mul_eq] at ih ⊢
          rw [ih, e]
          push_cast
          simp only [Int.ofNat_eq_natCast]
          grind
    have h6 := hall a row r (by simpa using h1) (by simpa using h2) (fun k hk => by have := h5 (k + 1) (by simpa using hk) (by omega); simpa only [List.getD_cons_succ] using this)
    simp only [rZ, List.map_cons, dotL, dtR, List.getD_cons_zero, Nat.add_eq, Nat.mul_eq] at h6 ⊢
    rw [h6, h3]
    push_cast
    simp only [Int.ofNat_eq_natCast]
    grind
  | x :: a, y :: row, z :: r, i + 1, h1, h2, h3, h4, h5 => by
    have ih := dot_row a row r i (by simpa using h1) (by simpa using h2) (by simpa using h3) (by simpa using h4) (fun k hk hki => by have := h5 (k + 1) (by simpa using hk) (by omega); simpa only [List.getD_cons_succ] using this)
    have e := h5 0 (by simp) (by omega)
    simp only [List.getD_cons_zero] at e
    simp only [rZ, List.map_cons, dotL, dtR, List.getD_cons_succ, Nat.add_eq, Nat.mul_eq] at ih ⊢
    rw [ih, e]
    push_cast
    simp only [Int.ofNat_eq_natCast]
    grind
omit hc hf in
theorem dot_neg : ∀ (a r : List Int), dotL a (negL r) = -dotL a r
  | [], _ => by simp [dotL]
  | _ :: _, [] => by simp [dotL, negL]
  | x :: a, y :: r => by
    have := dot_neg a r
    simp only [negL, List.map_cons, dotL] at this ⊢
    rw [this]; grind
omit hc hf in
theorem negL_get (r : List Int) (i : Nat) : (negL r).getD i 0 = -(r.getD i 0) := by
  simp only [negL, List.getD_eq_getElem?_getD, List.getElem?_map]
  cases r[i]? <;> simp
omit hc hf in
theorem mir_neg (c : List (List Int)) (i : Int) (r : List Int) : mirL c i (negL r) = negL (mirL c i r) := by
  unfold mirL
  rw [dot_neg, negL_get]
  simp only [negL, List.map_set]
  congr 1
  omega
omit hc hf in
theorem negL_negL (r : List Int) : negL (negL r) = r := by simp [negL, Function.comp_def]
theorem mir_root {P : List (List Nat)} (hP : clR rows c.length P = true) {r : List Nat} (hr : r ∈ P) {i : Nat} (hi : i < c.length) :
    (mirL c i (rZ r) = negL (rZ r)) ∨ ∃ s ∈ P, mirL c i (rZ r) = rZ s := by
  simp only [clR, Bool.and_eq_true, List.all_eq_true] at hP
  obtain ⟨⟨hl, _⟩, hok⟩ := hP.2 r hr
  have hl : r.length = c.length := Nat.eq_of_beq_eq_true hl
  obtain ⟨_, e2, e3⟩ := hf.cr i hi
  have hd := dot_row (c.getD i []) (rows.getD i []) r i (by rw [e2]; exact hc.2.2.1 i hi) (by rw [e2, hl]) e3 (by omega) (fun k hk hki => (hf.ce i k hi (by omega) hki).2)
  have hdi : (c.getD i []).getD i 0 = 2 := (matA_cartan hc).diag i hi
  rw [hdi] at hd
  have hm : mirL c i (rZ r) = (rZ r).set i ((dtR (rows.getD i []) r : Nat) - (r.getD i 0 : Nat)) := by
    unfold mirL
    rw [Int.toNat_natCast, hd, rZ_get]
    congr 1
    omega
  rcases okR_get P c.length r 0 rows hok i (by rw [hf.rl]; exact hi) with h | ⟨h1, h2⟩
  · left
    rw [Nat.zero_add] at h
    have hd0 : dtR (rows.getD i []) r = 0 := by
      rw [h]
      have key : ∀ (row : List Nat) (n j : Nat), row.getD j 0 = 0 → dtR row (unR n j) = 0 := by
        intro row
        induction row with
        | nil => intro n j _; cases hh : unR n j <;> simp [dtR]
        | cons y row ih =>
          intro n j hj
          cases n with
          | zero => simp [unR, stR_eq, dtR]
          | succ n =>
            cases j with
            | zero =>
              simp only [List.getD_cons_zero] at hj
              subst hj
              have z : ∀ (row : List Nat) (m : Nat), dtR row (List.replicate m 0) = 0 := by
                intro row
                induction row with
                | nil => intro m; cases m <;> simp [dtR, List.replicate_succ]
                | cons y row ih2 => intro m; cases m with
                  | zero => simp [dtR]
                  | succ m => simp [dtR, List.replicate_succ, ih2 m]
              simp [unR, stR_eq, List.replicate_succ, dtR, z]
            | succ j =>
              simp only [List.getD_cons_succ] at hj
              have := ih n j hj
              simp only [unR, stR_eq] at this ⊢
              simp [List.replicate_succ, dtR, this]
      exact key _ _ _ e3
    rw [hm, hd0, h]
    apply List.ext_getElem?
    intro k
    have hli : (unR c.length i).length = c.length := by simp [unR, stR_eq]
    by_cases hk : k = i
    · subst hk
      rw [List.getElem?_set_self (by simp [rZ, hli, hi])]
      simp [negL, rZ, unR, stR_eq, hi]
    · rw [List.getElem?_set_ne (by omega)]
      simp only [negL, rZ, unR, stR_eq, List.map_set, List.getElem?_set_ne (show i ≠ k by omega), List.map_replicate]
      simp
  · right
    rw [Nat.zero_add] at h1 h2
    refine ⟨_, h2, ?_⟩
    rw [hm]
    simp only [rZ, List.map_set]
    congr 1
    simp only [Int.ofNat_eq_natCast]
    omega
theorem root_bound {P : List (List Nat)} (hP : clR rows c.length P = true) : ∀ (w : List Int) {i : Nat}, letters c.length w → i < c.length → ∃ s ∈ P, w.foldr (mirL c) (simL c.length i) = rZ s ∨ w.foldr (mirL c) (simL c.length i) = negL (rZ s)
  | [], i, _, hi => by
    have h := hP
    simp only [clR, Bool.and_eq_true, List.all_eq_true] at h
    have hm : ∀ (k : Nat), i < k → unR c.length i ∈ unsR c.length k := by
      intro k
      induction k with
      | zero => intro h; omega
      | succ k ih =>
        intro h
        simp only [unsR]
        by_cases hk : i = k
        · rw [hk]; exact List.mem_cons_self ..
        · exact List.mem_cons_of_mem _ (ih (by omega))
    exact ⟨_, hasR_mem _ _ (h.1 _ (hm c.length hi)), .inl (rZ_unR _ _).symm⟩
  | j :: w, i, hw, hi => by
    obtain ⟨hj, hw⟩ := letters_cons.1 hw
    obtain ⟨s, hs, h⟩ := root_bound hP w hw hi
    have hj2 : ((j.toNat : Nat) : Int) = j := by omega
    simp only [List.foldr_cons]
    have hm := mir_root hc hf hP hs (i := j.toNat) (by omega)
    rw [hj2] at hm
    rcases h with h | h
    · rw [h]
      rcases hm with hm | ⟨t, ht, hm⟩
      · exact ⟨s, hs, .inr hm⟩
      · exact ⟨t, ht, .inl hm⟩
    · rw [h, mir_neg]
      rcases hm with hm | ⟨t, ht, hm⟩
      · exact ⟨s, hs, .inl (by rw [hm, negL_negL])⟩
      · exact ⟨t, ht, .inr (by rw [hm])⟩
end
theorem mn2 (c : List (List Int)) (i j : Int) : detN 2 (pick c [i, j]) = ent c i.toNat i.toNat * ent c j.toNat j.toNat - ent c i.toNat j.toNat * ent c j.toNat i.toNat := by
  simp [pick, detN, minorL, List.range_succ]
  grind
def e3 (a : Nat → Nat → Int) (i j k : Nat) : Int := a i i * a j j * a k k - a i i * (a j k * a k j) - a j j * (a i k * a k i) - a k k * (a i j * a j i) + a i j * a j k * a k i + a i k * a k j * a j i
theorem mn3 (c : List (List Int)) (i j k : Int) : detN 3 (pick c [i, j, k]) = e3 (ent c) i.toNat j.toNat k.toNat := by
  simp [pick, detN, minorL, List.range_succ, e3]
  grind
theorem mn4 (c : List (List Int)) : detN 4 (pick c [0, 1, 2, 3]) =
    ent c 0 0 * e3 (ent c) 1 2 3 - ent c 0 1 * (ent c 1 0 * (ent c 2 2 * ent c 3 3 - ent c 2 3 * ent c 3 2) - ent c 1 2 * (ent c 2 0 * ent c 3 3 - ent c 2 3 * ent c 3 0) + ent c 1 3 * (ent c 2 0 * ent c 3 2 - ent c 2 2 * ent c 3 0))
    + ent c 0 2 * (ent c 1 0 * (ent c 2 1 * ent c 3 3 - ent c 2 3 * ent c 3 1) - ent c 1 1 * (ent c 2 0 * ent c 3 3 - ent c 2 3 * ent c 3 0) + ent c 1 3 * (ent c 2 0 * ent c 3 1 - ent c 2 1 * ent c 3 0))
    - ent c 0 3 * (ent c 1 0 * (ent c 2 1 * ent c 3 2 - ent c 2 2 * ent c 3 1) - ent c 1 1 * (ent c 2 0 * ent c 3 2 - ent c 2 2 * ent c 3 0) + ent c 1 2 * (ent c 2 0 * ent c 3 1 - ent c 2 1 * ent c 3 0)) := by
  simp [pick, detN, minorL, List.range_succ, e3]
  grind
theorem pr_mem : ∀ a, a < 4 → ∀ b, b < 4 → (a = 0 ↔ b = 0) → a * b < 4 → (a, b) ∈ prN := by
  intro a ha b hb hz h
  rcases (show a = 0 ∨ a = 1 ∨ a = 2 ∨ a = 3 by omega) with rfl | rfl | rfl | rfl <;> rcases (show b = 0 ∨ b = 1 ∨ b = 2 ∨ b = 3 by omega) with rfl | rfl | rfl | rfl <;> first | (exfalso; omega) | simp [prN]
theorem pair_of {c : List (List Int)} (hc : CartanP c) {i j : Nat} (hi : i < c.length) (hj : j < c.length) (hij : i ≠ j) (h : 0 < ent c i i * ent c j j - ent c i j * ent c j i) :
    ∃ p ∈ prN, ent c i j = -(p.1 : Nat) ∧ ent c j i = -(p.2 : Nat) := by
  have hA := matA_cartan hc
  have h1 : ent c i j ≤ 0 := hA.nonpos i j hi hj hij
  have h2 : ent c j i ≤ 0 := hA.nonpos j i hj hi (Ne.symm hij)
  have h3 := (ent_le hc i j hi hj).1
  have h4 := (ent_le hc j i hj hi).1
  have d1 : ent c i i = 2 := hA.diag i hi
  have d2 : ent c j j = 2 := hA.diag j hj
  have z1 := hA.zero i j hi hj
  have z2 := hA.zero j i hj hi
  obtain ⟨a, ha⟩ : ∃ a : Nat, ent c i j = -(a : Int) := ⟨(-ent c i j).toNat, by omega⟩
  obtain ⟨b, hb⟩ : ∃ b : Nat, ent c j i = -(b : Int) := ⟨(-ent c j i).toNat, by omega⟩
  refine ⟨(a, b), pr_mem a (by omega) b (by omega) ?_ ?_, ha, hb⟩
  · constructor
    · intro h0
      have : ent c j i = 0 := z1 (show ent c i j = 0 by omega)
      omega
    · intro h0
      have : ent c i j = 0 := z2 (show ent c j i = 0 by omega)
      omega
  · rw [d1, d2, ha, hb] at h
    have : ((a * b : Nat) : Int) < 4 := by push_cast; grind
    omega
theorem d3_of {a : Nat → Nat → Int} {i j k : Nat} {p q r : Nat × Nat} (di : a i i = 2) (dj : a j j = 2) (dk : a k k = 2) (p1 : a i j = -(p.1 : Nat)) (p2 : a j i = -(p.2 : Nat)) (q1 : a i k = -(q.1 : Nat)) (q2 : a k i = -(q.2 : Nat)) (r1 : a j k = -(r.1 : Nat)) (r2 : a k j = -(r.2 : Nat))
    (h : 0 < e3 a i j k) : d3 p q r = true := by
  unfold e3 at h
  rw [di, dj, dk, p1, p2, q1, q2, r1, r2] at h
  have h2 : (2 * ((p.1 : Int) * p.2 + q.1 * q.2 + r.1 * r.2) + (p.1 * r.1 * q.2 + q.1 * r.2 * p.2) + 1 : Int) ≤ 8 := by grind
  apply Nat.ble_eq_true_of_le
  show 2 * (p.1 * p.2 + q.1 * q.2 + r.1 * r.2) + (p.1 * r.1 * q.2 + q.1 * r.2 * p.2) + 1 ≤ 8
  exact Int.ofNat_le.1 (by push_cast; exact h2)
theorem ck4_all : ∀ p ∈ prN, ck4 p = true := by
  intro p hp
  simp only [prN, List.mem_cons, List.not_mem_nil, or_false] at hp
  rcases hp with rfl | rfl | rfl | rfl | rfl | rfl
  · exact ck4_0
  · exact ck4_1
  · exact ck4_2
  · exact ck4_3
  · exact ck4_4
  · exact ck4_5
theorem fin_good {c : List (List Int)} (hF : FinP c) : ∃ cols rows, Fits c cols rows ∧ godC cols rows c.length = true := by
  obtain ⟨hc, hm⟩ := hF
  have hA := matA_cartan hc
  have dg : ∀ i, i < c.length → ent c i i = 2 := fun i hi => hA.diag i hi
  have hn1 := hc.1
  have hn4 := hc.2.1
  have h1 : c.length = 1 ∨ c.length = 2 ∨ c.length = 3 ∨ c.length = 4 := by omega
  rcases h1 with hn | hn | hn | hn
  · refine ⟨[[0]], [[0]], ⟨by rw [hn]; rfl, by rw [hn]; rfl, fun i hi => ?_, fun i k hi hk hki => by omega⟩, by rw [hn]; exact ck1_true⟩
    have : i = 0 := by omega
    subst this
    rw [hn]; exact ⟨rfl, rfl, rfl⟩
  · obtain ⟨p, hp, p1, p2⟩ := pair_of hc (i := 0) (j := 1) (by omega) (by omega) (by decide) (by have := hm 3 (by omega) (by rw [hn]; decide); rw [show mn c 3 = detN 2 (pick c [0, 1]) from rfl, mn2] at this; exact this)
    refine ⟨[[0, p.2], [p.1, 0]], [[0, p.1], [p.2, 0]], ⟨by rw [hn]; rfl, by rw [hn]; rfl, fun i hi => ?_, fun i k hi hk hki => ?_⟩, by rw [hn]; exact List.all_eq_true.1 ck2_true p hp⟩
    · rw [hn] at hi ⊢
      rcases (show i = 0 ∨ i = 1 by omega) with rfl | rfl <;> exact ⟨rfl, rfl, rfl⟩
    · rw [hn] at hi hk
      rcases (show i = 0 ∨ i = 1 by omega) with rfl | rfl <;> rcases (show k = 0 ∨ k = 1 by omega) with rfl | rfl <;> first | (exact absurd rfl hki) | exact ⟨p2, p1⟩ | exact ⟨p1, p2⟩
  · obtain ⟨p, hp, p1, p2⟩ := pair_of hc (i := 0) (j := 1) (by omega) (by omega) (by decide) (by have := hm 3 (by omega) (by rw [hn]; decide); rw [show mn c 3 = detN 2 (pick c [0, 1]) from rfl, mn2] at this; exact this)
    obtain ⟨q, hq, q1, q2⟩ := pair_of hc (i := 0) (j := 2) (by omega) (by omega) (by decide) (by have := hm 5 (by omega) (by rw [hn]; decide); rw [show mn c 5 = detN 2 (pick c [0, 2]) from rfl, mn2] at this; exact this)
    obtain ⟨r, hr, r1, r2⟩ := pair_of hc (i := 1) (j := 2) (by omega) (by omega) (by decide) (by have := hm 6 (by omega) (by rw [hn]; decide); rw [show mn c 6 = detN 2 (pick c [1, 2]) from rfl, mn2] at this; exact this)
    have hd : d3 p q r = true := d3_of (a := ent c) (dg 0 (by omega)) (dg 1 (by omega)) (dg 2 (by omega)) p1 p2 q1 q2 r1 r2 (by have := hm 7 (by omega) (by rw [hn]; decide); rw [show mn c 7 = detN 3 (pick c [0, 1, 2]) from rfl, mn3] at this; exact this)
    refine ⟨col3 p q r, row3 p q r, ⟨by rw [hn]; rfl, by rw [hn]; rfl, fun i hi => ?_, fun i k hi hk hki => ?_⟩, ?_⟩
    · rw [hn] at hi ⊢
      rcases (show i = 0 ∨ i = 1 ∨ i = 2 by omega) with rfl | rfl | rfl <;> exact ⟨rfl, rfl, rfl⟩
    · rw [hn] at hi hk
      rcases (show i = 0 ∨ i = 1 ∨ i = 2 by omega) with rfl | rfl | rfl <;> rcases (show k = 0 ∨ k = 1 ∨ k = 2 by omega) with rfl | rfl | rfl <;>
        first | (exact absurd rfl hki) | exact ⟨p2, p1⟩ | exact ⟨p1, p2⟩ | exact ⟨q2, q1⟩ | exact ⟨q1, q2⟩ | exact ⟨r2, r1⟩ | exact ⟨r1, r2⟩
    · rw [hn]
      have := List.all_eq_true.1 (List.all_eq_true.1 (List.all_eq_true.1 ck3_true p hp) q hq) r hr
      rw [hd] at this
      simpa using this
  · obtain ⟨p, hp, p1, p2⟩ := pair_of hc (i := 0) (j := 1) (by omega) (by omega) (by decide) (by have := hm 3 (by omega) (by rw [hn]; decide); rw [show mn c 3 = detN 2 (pick c [0, 1]) from rfl, mn2] at this; exact this)
    obtain ⟨q, hq, q1, q2⟩ := pair_of hc (i := 0) (j := 2) (by omega) (by omega) (by decide) (by have := hm 5 (by omega) (by rw [hn]; decide); rw [show mn c 5 = detN 2 (pick c [0, 2]) from rfl, mn2] at this; exact this)
    obtain ⟨r, hr, r1, r2⟩ := pair_of hc (i := 1) (j := 2) (by omega) (by omega) (by decide) (by have := hm 6 (by omega) (by rw [hn]; decide); rw [show mn c 6 = detN 2 (pick c [1, 2]) from rfl, mn2] at this; exact this)
    obtain ⟨s, hs, s1, s2⟩ := pair_of hc (i := 0) (j := 3) (by omega) (by omega) (by decide) (by have := hm 9 (by omega) (by rw [hn]; decide); rw [show mn c 9 = detN 2 (pick c [0, 3]) from rfl, mn2] at this; exact this)
    obtain ⟨t, ht, t1, t2⟩ := pair_of hc (i := 1) (j := 3) (by omega) (by omega) (by decide) (by have := hm 10 (by omega) (by rw [hn]; decide); rw [show mn c 10 = detN 2 (pick c [1, 3]) from rfl, mn2] at this; exact this)
    obtain ⟨u, hu, u1, u2⟩ := pair_of hc (i := 2) (j := 3) (by omega) (by omega) (by decide) (by have := hm 12 (by omega) (by rw [hn]; decide); rw [show mn c 12 = detN 2 (pick c [2, 3]) from rfl, mn2] at this; exact this)
    have g0 := dg 0 (by omega)
    have g1 := dg 1 (by omega)
    have g2 := dg 2 (by omega)
    have g3 := dg 3 (by omega)
    have ha : d3 p q r = true := d3_of (a := ent c) g0 g1 g2 p1 p2 q1 q2 r1 r2 (by have := hm 7 (by omega) (by rw [hn]; decide); rw [show mn c 7 = detN 3 (pick c [0, 1, 2]) from rfl, mn3] at this; exact this)
    have hb : d3 p s t = true := d3_of (a := ent c) g0 g1 g3 p1 p2 s1 s2 t1 t2 (by have := hm 11 (by omega) (by rw [hn]; decide); rw [show mn c 11 = detN 3 (pick c [0, 1, 3]) from rfl, mn3] at this; exact this)
    have hcc : d3 q s u = true := d3_of (a := ent c) g0 g2 g3 q1 q2 s1 s2 u1 u2 (by have := hm 13 (by omega) (by rw [hn]; decide); rw [show mn c 13 = detN 3 (pick c [0, 2, 3]) from rfl, mn3] at this; exact this)
    have hd : d3 r t u = true := d3_of (a := ent c) g1 g2 g3 r1 r2 t1 t2 u1 u2 (by have := hm 14 (by omega) (by rw [hn]; decide); rw [show mn c 14 = detN 3 (pick c [1, 2, 3]) from rfl, mn3] at this; exact this)
    have he : d4 p q r s t u = true := by
      have := hm 15 (by omega) (by rw [hn]; decide)
      rw [show mn c 15 = detN 4 (pick c [0, 1, 2, 3]) from rfl, mn4] at this
      unfold e3 at this
      rw [g0, g1, g2, g3, p1, p2, q1, q2, r1, r2, s1, s2, t1, t2, u1, u2] at this
      apply Nat.ble_eq_true_of_le
      refine Int.ofNat_le.1 ?_
      push_cast
      grind
    refine ⟨col4 p q r s t u, row4 p q r s t u, ⟨by rw [hn]; rfl, by rw [hn]; rfl, fun i hi => ?_, fun i k hi hk hki => ?_⟩, ?_⟩
    · rw [hn] at hi ⊢
      rcases (show i = 0 ∨ i = 1 ∨ i = 2 ∨ i = 3 by omega) with rfl | rfl | rfl | rfl <;> exact ⟨rfl, rfl, rfl⟩
    · rw [hn] at hi hk
      rcases (show i = 0 ∨ i = 1 ∨ i = 2 ∨ i = 3 by omega) with rfl | rfl | rfl | rfl <;> rcases (show k = 0 ∨ k = 1 ∨ k = 2 ∨ k = 3 by omega) with rfl | rfl | rfl | rfl <;>
        first | (exact absurd rfl hki) | exact ⟨p2, p1⟩ | exact ⟨p1, p2⟩ | exact ⟨q2, q1⟩ | exact ⟨q1, q2⟩ | exact ⟨r2, r1⟩ | exact ⟨r1, r2⟩ | exact ⟨s2, s1⟩ | exact ⟨s1, s2⟩ | exact ⟨t2, t1⟩ | exact ⟨t1, t2⟩ | exact ⟨u2, u1⟩ | exact ⟨u1, u2⟩
    · rw [hn]
      have := List.all_eq_true.1 (List.all_eq_true.1 (ck4_all p hp) q hq) r hr
      rw [ha] at this
      simp only [Bool.not_true, Bool.false_or] at this
      have := List.all_eq_true.1 (List.all_eq_true.1 this s hs) t ht
      rw [hb] at this
      simp only [Bool.not_true, Bool.false_or] at this
      have := List.all_eq_true.1 this u hu
      rw [hcc, hd, he] at this
      simpa using this
theorem fin_all {c : List (List Int)} (hF : FinP c) :
    (∃ L, L ≤ 24 ∧ Far c L (negs c.length)) ∧ (∃ k, 1 ≤ k ∧ k ≤ 12 ∧ itW c (coxW c.length) k (ones c.length) = ones c.length) ∧
    ∀ w i, letters c.length w → i < c.length → ∀ x ∈ w.foldr (mirL c) (simL c.length i), -6 ≤ x ∧ x ≤ 6 := by
  have hc := hF.1
  obtain ⟨cols, rows, hf, hg⟩ := fin_good hF
  simp only [godC, Bool.and_eq_true] at hg
  obtain ⟨⟨h1, h2⟩, h3⟩ := hg
  refine ⟨?_, ?_, ?_⟩
  · obtain ⟨w, w1, w2, w3⟩ := plV_spec hc hf 24 _ (by simp) h1
    obtain ⟨L, l1, _, l3⟩ := Far.image hc w1
    have e : dec (List.replicate c.length (0, 1)) = negs c.length := by simp [dec, negs]
    rw [w3, e] at l3
    exact ⟨L, by omega, l3⟩
  · have e : dec (List.replicate c.length (1, 0)) = ones c.length := by simp [dec, ones]
    have := orV_spec hc hf 12 _ (by simp) h2
    rwa [e] at this
  · intro w i hw hi x hx
    obtain ⟨s, hs, h⟩ := root_bound hc hf h3 w hw hi
    simp only [clR, Bool.and_eq_true, List.all_eq_true] at h3
    have hsm := (h3.2 s hs).1.2
    have key : ∀ s : List Nat, smR s = true → ∀ y ∈ s, y ≤ 6 := by
      intro s
      induction s with
      | nil => intro _ y hy; simp at hy
      | cons z s ih =>
        intro h y hy
        simp only [smR, Bool.and_eq_true] at h
        rcases List.mem_cons.1 hy with rfl | hy
        · exact Nat.le_of_ble_eq_true h.1
        · exact ih h.2 y hy
    rcases h with h | h
    · rw [h] at hx
      simp only [rZ, List.mem_map] at hx
      obtain ⟨y, hy, rfl⟩ := hx
      have := key s hsm y hy
      simp only [Int.ofNat_eq_natCast]
      omega
    · rw [h] at hx
      simp only [negL, rZ, List.mem_map] at hx
      obtain ⟨_, ⟨y, hy, rfl⟩, rfl⟩ := hx
      have := key s hsm y hy
      simp only [Int.ofNat_eq_natCast]
      omega
theorem fin_len {c : List (List Int)} (hF : FinP c) : ∀ (M : Nat) {v : List Int}, Far c M v → M ≤ 24 := by
  have hc := hF.1
  obtain ⟨⟨L, hL, hF0⟩, _⟩ := fin_all hF
  have key : ∀ (M : Nat) {v : List Int}, Far c M v → M ≤ L ∧ Far c (L - M) (negL v) := by
    intro M
    induction M with
    | zero =>
      intro v h
      have : v = ones c.length := h.zero
      subst this
      refine ⟨Nat.zero_le _, ?_⟩
      have e : negL (ones c.length) = negs c.length := by simp [negL, ones, negs]
      rw [e]; exact hF0
    | succ M ih =>
      intro v h
      rcases fst_of_far hc h with ⟨_, h2⟩ | ⟨h1, h2, h3, K, h4, h5⟩
      · omega
      · have : K = M := by omega
        subst this
        obtain ⟨i1, i2⟩ := ih h5
        have hvl : v.length = c.length := h.1
        have hg : (reflL c (fstN v) v).getD (fstN v).toNat 0 = -(v.getD (fstN v).toNat 0) := by
          rw [reflL_get c (fstN v) v (fstN v).toNat (by omega), show ent c (fstN v).toNat (fstN v).toNat = 2 from (matA_cartan hc).diag _ (by omega)]
          omega
        have hneg : (negL (reflL c (fstN v) v)).getD (fstN v).toNat 0 < 0 := by rw [negL_get, hg]; omega
        obtain ⟨N, n1, n2⟩ := i2.down hc ⟨h1, h2⟩ hneg
        have hcomm : reflL c (fstN v) (negL (reflL c (fstN v) v)) = negL v := by
          have h7 : ∀ x : List Int, reflL c (fstN v) (negL x) = negL (reflL c (fstN v) x) := by
            intro x
            apply List.ext_getElem?
            intro k
            by_cases hk : k < x.length
            · have e1 := reflL_get c (fstN v) (negL x) k (by simpa [negL] using hk)
              have e2 := negL_get (reflL c (fstN v) x) k
              rw [reflL_get c (fstN v) x k hk] at e2
              rw [negL_get, negL_get] at e1
              have e4 : (reflL c (fstN v) (negL x)).getD k 0 = (negL (reflL c (fstN v) x)).getD k 0 := by rw [e1, e2]; grind
              have l1 : k < (reflL c (fstN v) (negL x)).length := by rw [reflL_length]; simpa [negL] using hk
              have l2 : k < (negL (reflL c (fstN v) x)).length := by simp only [negL, List.length_map, reflL_length]; exact hk
              rw [List.getElem?_eq_getElem l1, List.getElem?_eq_getElem l2]
              simpa [List.getD_eq_getElem?_getD, l1, l2] using e4
            · rw [List.getElem?_eq_none (by rw [reflL_length]; simp [negL]; omega), List.getElem?_eq_none (by simp only [negL, List.length_map, reflL_length]; omega)]
          rw [h7, refl2 hc ⟨h1, h2⟩ hvl]
        rw [hcomm] at n2
        refine ⟨by omega, ?_⟩
        rw [show L - (K + 1) = N by omega]
        exact n2
  intro M v h
  have := (key M h).1
  omega
end Go.Proofs.YtaghdbbcadhjdaaGreatDoor
namespace Go.Proofs.YtaghdbbcadhjdaaGreatDoor
open Go Go.Aw Go.Cox
def cI (rows : List (List Nat)) : List (List Int) := rows.zipIdx.map fun r => r.1.zipIdx.map fun x => if x.2 = r.2 then 2 else -(x.1 : Int)
def finCR : Nat → List (List (List Nat) × List (List Nat))
  | 1 => [([[0]], [[0]])]
  | 2 => prN.map fun p => ([[0, p.2], [p.1, 0]], [[0, p.1], [p.2, 0]])
  | 3 => prN.flatMap fun p => prN.flatMap fun q => (prN.filter fun r => d3 p q r).map fun r => (col3 p q r, row3 p q r)
  | 4 => prN.flatMap fun p => prN.flatMap fun q => (prN.filter fun r => d3 p q r).flatMap fun r => prN.flatMap fun s => (prN.filter fun t => d3 p s t).flatMap fun t => (prN.filter fun u => d3 q s u && d3 r t u && d4 p q r s t u).map fun u => (col4 p q r s t u, row4 p q r s t u)
  | _ => []
def finM (n : Nat) : List (List (List Int)) := (finCR n).map fun x => cI x.2
theorem fits_eq {c : List (List Int)} (hc : CartanP c) {cols rows : List (List Nat)} (h : Fits c cols rows) : c = cI rows := by
  have hA := matA_cartan hc
  have hrow := hc.2.2.1
  apply List.ext_getElem (by simp [cI, h.rl])
  intro i h1 h2
  have hr := (h.cr i h1).2.1
  have hrl : i < rows.length := by rw [h.rl]; exact h1
  have hr' : rows[i].length = c.length := by rw [← hr, List.getD_eq_getElem?_getD, List.getElem?_eq_getElem hrl]; rfl
  have hci : c[i].length = c.length := by have := hrow i h1; rwa [List.getD_eq_getElem?_getD, List.getElem?_eq_getElem h1] at this
  apply List.ext_getElem (by simp [cI, hr', hci])
  intro k k1 k2
  have hk : k < c.length := by omega
  have e1 : c[i][k] = ent c i k := by simp [ent, List.getD_eq_getElem?_getD, h1, k1]
  rw [e1]
  have e2 : (cI rows)[i][k] = if k = i then 2 else -((rows[i]'hrl)[k]'(by omega) : Int) := by simp [cI]
  rw [e2]
  by_cases hki : k = i
  · subst hki; rw [if_pos rfl]; exact hA.diag k hk
  · rw [if_neg hki, (h.ce i k h1 hk hki).2]
    simp [List.getD_eq_getElem?_getD, hrl, show k < rows[i].length by omega]
theorem fin_rows {c : List (List Int)} (hF : FinP c) : ∃ cols rows, Fits c cols rows ∧ (cols, rows) ∈ finCR c.length := by
  obtain ⟨hc, hm⟩ := hF
  have hA := matA_cartan hc
  have dg : ∀ i, i < c.length → ent c i i = 2 := fun i hi => hA.diag i hi
  have hn1 := hc.1
  have hn4 := hc.2.1
  have h1 : c.length = 1 ∨ c.length = 2 ∨ c.length = 3 ∨ c.length = 4 := by omega
  rcases h1 with hn | hn | hn | hn
  · refine ⟨[[0]], [[0]], ⟨by rw [hn]; rfl, by rw [hn]; rfl, fun i hi => ?_, fun i k hi hk hki => by omega⟩, by rw [hn]; exact List.mem_cons_self ..⟩
    have : i = 0 := by omega
    subst this
    rw [hn]; exact ⟨rfl, rfl, rfl⟩
  · obtain ⟨p, hp, p1, p2⟩ := pair_of hc (i := 0) (j := 1) (by omega) (by omega) (by decide) (by have := hm 3 (by omega) (by rw [hn]; decide); rw [show mn c 3 = detN 2 (pick c [0, 1]) from rfl, mn2] at this; exact this)
    refine ⟨[[0, p.2], [p.1, 0]], [[0, p.1], [p.2, 0]], ⟨by rw [hn]; rfl, by rw [hn]; rfl, fun i hi => ?_, fun i k hi hk hki => ?_⟩, by rw [hn]; exact List.mem_map.2 ⟨p, hp, rfl⟩⟩
    · rw [hn] at hi ⊢
      rcases (show i = 0 ∨ i = 1 by omega) with rfl | rfl <;> exact ⟨rfl, rfl, rfl⟩
    · rw [hn] at hi hk
      rcases (show i = 0 ∨ i = 1 by omega) with rfl | rfl <;> rcases (show k = 0 ∨ k = 1 by omega) with rfl | rfl <;> first | (exact absurd rfl hki) | exact ⟨p2, p1⟩ | exact ⟨p1, p2⟩
  · obtain ⟨p, hp, p1, p2⟩ := pair_of hc (i := 0) (j := 1) (by omega) (by omega) (by decide) (by have := hm 3 (by omega) (by rw [hn]; decide); rw [show mn c 3 = detN 2 (pick c [0, 1]) from rfl, mn2] at this; exact this)
    obtain ⟨q, hq, q1, q2⟩ := pair_of hc (i := 0) (j := 2) (by omega) (by omega) (by decide) (by have := hm 5 (by omega) (by rw [hn]; decide); rw [show mn c 5 = detN 2 (pick c [0, 2]) from rfl, mn2] at this; exact this)
    obtain ⟨r, hr, r1, r2⟩ := pair_of hc (i := 1) (j := 2) (by omega) (by omega) (by decide) (by have := hm 6 (by omega) (by rw [hn]; decide); rw [show mn c 6 = detN 2 (pick c [1, 2]) from rfl, mn2] at this; exact this)
    have hd : d3 p q r = true := d3_of (a := ent c) (dg 0 (by omega)) (dg 1 (by omega)) (dg 2 (by omega)) p1 p2 q1 q2 r1 r2 (by have := hm 7 (by omega) (by rw [hn]; decide); rw [show mn c 7 = detN 3 (pick c [0, 1, 2]) from rfl, mn3] at this; exact this)
    refine ⟨col3 p q r, row3 p q r, ⟨by rw [hn]; rfl, by rw [hn]; rfl, fun i hi => ?_, fun i k hi hk hki => ?_⟩, ?_⟩
    · rw [hn] at hi ⊢
      rcases (show i = 0 ∨ i = 1 ∨ i = 2 by omega) with rfl | rfl | rfl <;> exact ⟨rfl, rfl, rfl⟩
    · rw [hn] at hi hk
      rcases (show i = 0 ∨ i = 1 ∨ i = 2 by omega) with rfl | rfl | rfl <;> rcases (show k = 0 ∨ k = 1 ∨ k = 2 by omega) with rfl | rfl | rfl <;>
        first | (exact absurd rfl hki) | exact ⟨p2, p1⟩ | exact ⟨p1, p2⟩ | exact ⟨q2, q1⟩ | exact ⟨q1, q2⟩ | exact ⟨r2, r1⟩ | exact ⟨r1, r2⟩
    · rw [hn]
      exact List.mem_flatMap.2 ⟨p, hp, List.mem_flatMap.2 ⟨q, hq, List.mem_map.2 ⟨r, List.mem_filter.2 ⟨hr, hd⟩, rfl⟩⟩⟩
  · obtain ⟨p, hp, p1, p2⟩ := pair_of hc (i := 0) (j := 1) (by omega) (by omega) (by decide) (by have := hm 3 (by omega) (by rw [hn]; decide); rw [show mn c 3 = detN 2 (pick c [0, 1]) from rfl, mn2] at this; exact this)
    obtain ⟨q, hq, q1, q2⟩ := pair_of hc (i := 0) (j := 2) (by omega) (by omega) (by decide) (by have := hm 5 (by omega) (by rw [hn]; decide); rw [show mn c 5 = detN 2 (pick c [0, 2]) from rfl, mn2] at this; exact this)
    obtain ⟨r, hr, r1, r2⟩ := pair_of hc (i := 1) (j := 2) (by omega) (by omega) (by decide) (by have := hm 6 (by omega) (by rw [hn]; decide); rw [show mn c 6 = detN 2 (pick c [1, 2]) from rfl, mn2] at this; exact this)
    obtain ⟨s, hs, s1, s2⟩ := pair_of hc (i := 0) (j := 3) (by omega) (by omega) (by decide) (by have := hm 9 (by omega) (by rw [hn]; decide); rw [show mn c 9 = detN 2 (pick c [0, 3]) from rfl, mn2] at this; exact this)
    obtain ⟨t, ht, t1, t2⟩ := pair_of hc (i := 1) (j := 3) (by omega) (by omega) (by decide) (by have := hm 10 (by omega) (by rw [hn]; decide); rw [show mn c 10 = detN 2 (pick c [1, 3]) from rfl, mn2] at this; exact this)
    obtain ⟨u, hu, u1, u2⟩ := pair_of hc (i := 2) (j := 3) (by omega) (by omega) (by decide) (by have := hm 12 (by omega) (by rw [hn]; decide); rw [show mn c 12 = detN 2 (pick c [2, 3]) from rfl, mn2] at this; exact this)
    have g0 := dg 0 (by omega)
    have g1 := dg 1 (by omega)
    have g2 := dg 2 (by omega)
    have g3 := dg 3 (by omega)
    have ha : d3 p q r = true := d3_of (a := ent c) g0 g1 g2 p1 p2 q1 q2 r1 r2 (by have := hm 7 (by omega) (by rw [hn]; decide); rw [show mn c 7 = detN 3 (pick c [0, 1, 2]) from rfl, mn3] at this; exact this)
    have hb : d3 p s t = true := d3_of (a := ent c) g0 g1 g3 p1 p2 s1 s2 t1 t2 (by have := hm 11 (by omega) (by rw [hn]; decide); rw [show mn c 11 = detN 3 (pick c [0, 1, 3]) from rfl, mn3] at this; exact this)
    have hcc : d3 q s u = true := d3_of (a := ent c) g0 g2 g3 q1 q2 s1 s2 u1 u2 (by have := hm 13 (by omega) (by rw [hn]; decide); rw [show mn c 13 = detN 3 (pick c [0, 2, 3]) from rfl, mn3] at this; exact this)
    have hd : d3 r t u = true := d3_of (a := ent c) g1 g2 g3 r1 r2 t1 t2 u1 u2 (by have := hm 14 (by omega) (by rw [hn]; decide); rw [show mn c 14 = detN 3 (pick c [1, 2, 3]) from rfl, mn3] at this; exact this)
    have he : d4 p q r s t u = true := by
      have := hm 15 (by omega) (by rw [hn]; decide)
      rw [show mn c 15 = detN 4 (pick c [0, 1, 2, 3]) from rfl, mn4] at this
      unfold e3 at this
      rw [g0, g1, g2, g3, p1, p2, q1, q2, r1, r2, s1, s2, t1, t2, u1, u2] at this
      apply Nat.ble_eq_true_of_le
      refine Int.ofNat_le.1 ?_
      push_cast
      grind
    refine ⟨col4 p q r s t u, row4 p q r s t u, ⟨by rw [hn]; rfl, by rw [hn]; rfl, fun i hi => ?_, fun i k hi hk hki => ?_⟩, ?_⟩
    · rw [hn] at hi ⊢
      rcases (show i = 0 ∨ i = 1 ∨ i = 2 ∨ i = 3 by omega) with rfl | rfl | rfl | rfl <;> exact ⟨rfl, rfl, rfl⟩
    · rw [hn] at hi hk
      rcases (show i = 0 ∨ i = 1 ∨ i = 2 ∨ i = 3 by omega) with rfl | rfl | rfl | rfl <;> rcases (show k = 0 ∨ k = 1 ∨ k = 2 ∨ k = 3 by omega) with rfl | rfl | rfl | rfl <;>
        first | (exact absurd rfl hki) | exact ⟨p2, p1⟩ | exact ⟨p1, p2⟩ | exact ⟨q2, q1⟩ | exact ⟨q1, q2⟩ | exact ⟨r2, r1⟩ | exact ⟨r1, r2⟩ | exact ⟨s2, s1⟩ | exact ⟨s1, s2⟩ | exact ⟨t2, t1⟩ | exact ⟨t1, t2⟩ | exact ⟨u2, u1⟩ | exact ⟨u1, u2⟩
    · rw [hn]
      exact List.mem_flatMap.2 ⟨p, hp, List.mem_flatMap.2 ⟨q, hq, List.mem_flatMap.2 ⟨r, List.mem_filter.2 ⟨hr, ha⟩, List.mem_flatMap.2 ⟨s, hs, List.mem_flatMap.2 ⟨t, List.mem_filter.2 ⟨ht, hb⟩, List.mem_map.2 ⟨u, List.mem_filter.2 ⟨hu, by rw [hcc, hd, he]; rfl⟩, rfl⟩⟩⟩⟩⟩⟩
theorem fin_mem {c : List (List Int)} (hF : FinP c) : c ∈ finM c.length := by
  obtain ⟨cols, rows, h1, h2⟩ := fin_rows hF
  exact List.mem_map.2 ⟨(cols, rows), h2, (fits_eq hF.1 h1).symm⟩
theorem fin_chk {c : List (List Int)} (hF : FinP c) {chk : List (List Int) → Bool} (h1 : (finM 1).all chk = true) (h2 : (finM 2).all chk = true) (h3 : (finM 3).all chk = true) (h4 : (finM 4).all chk = true) : chk c = true := by
  have hm := fin_mem hF
  have hn1 := hF.1.1
  have hn4 := hF.1.2.1
  rcases (show c.length = 1 ∨ c.length = 2 ∨ c.length = 3 ∨ c.length = 4 by omega) with hn | hn | hn | hn <;> rw [hn] at hm
  · exact List.all_eq_true.1 h1 c hm
  · exact List.all_eq_true.1 h2 c hm
  · exact List.all_eq_true.1 h3 c hm
  · exact List.all_eq_true.1 h4 c hm
end Go.Proofs.YtaghdbbcadhjdaaGreatDoor
namespace Go.Proofs.YtaghdbbcadhjdaaGreatDoor
open Go Go.Aw
def cmpN (p q : List Int) : Nat → Nat → Int
  | 0, _ => 0
  | n + 1, i => if p.getD i 0 < q.getD i 0 then -1 else if p.getD i 0 > q.getD i 0 then 1 else cmpN p q n (i + 1)
def cmpW (p q : List Int) : Int := if p.length < q.length then -1 else if p.length > q.length then 1 else cmpN p q p.length 0
theorem cmpN_zero (p q : List Int) (hl : p.length = q.length) : ∀ n i, i + n = p.length → p.take i = q.take i → (cmpN p q n i = 0 ↔ p = q)
  | 0, i, hi, ht => by
    have : p = q := by
      have h1 : p.take i = p := List.take_of_length_le (by omega)
      have h2 : q.take i = q := List.take_of_length_le (by omega)
      rw [← h1, ← h2, ht]
    simp [cmpN, this]
  | n + 1, i, hi, ht => by
    simp only [cmpN]
    split
    · rename_i h
      constructor
      · intro k; cases k
      · intro k; rw [k] at h; omega
    · split
      · rename_i h
        constructor
        · intro k; cases k
        · intro k; rw [k] at h; omega
      · rename_i h1 h2
        have he : p.getD i 0 = q.getD i 0 := by omega
        exact cmpN_zero p q hl n (i + 1) (by omega) (by rw [← take_snoc 0 p i (by omega), ← take_snoc 0 q i (by omega), ht, he])
theorem cmpW_zero (p q : List Int) : cmpW p q = 0 ↔ p = q := by
  unfold cmpW
  split
  · rename_i h
    constructor
    · intro k; cases k
    · intro k; rw [k] at h; omega
  · split
    · rename_i h
      constructor
      · intro k; cases k
      · intro k; rw [k] at h; omega
    · exact cmpN_zero p q (by omega) p.length 0 (by omega) (by simp)
theorem c_spec_CompareWords (p q : List Int) (hp : p.length ≤ 4503599627370496) : FunA B 73 [.sl false .int p, .sl false .int q] (fun rs o => rs = [.int .i64 (cmpW p q)] ∧ o = []) := by
  refine FunA.walk B_ok (fn := Tryz.f73) (fun vs w => Tryz.call73 vs w) Tryz.func73 rfl (by rw [Tryz.ntmps73]; simp) (fun C hC hP hT hΓ hbt hfn hpin hfin => ?_); have hX := BX; rw [← hΓ, ← hbt.1, ← hbt.2.1, ← hbt.2.2.1] at hX; rw [hT] at hX; rw [Tryz.ntmps73]; simp only [AW7, simprocAttr, hX]
  refine Run.R ?_
  refine Run.R ?_
  refine Run.nq ?_; refine Run.cW ?_ ?_
  · intro hc
    refine Run.R ?_
    refine Run.nq ?_; refine Run.cW ?_ ?_
    · intro hl
      refine Run.R ?_
      refine Run.rW [4] (hfin _ _ rfl rfl ?_)
      have hl : p.length < q.length := by simpa using hl
      simp [cmpW, hl]
    · intro hl
      refine Run.R ?_
      refine Run.rW [4] (hfin _ _ rfl rfl ?_)
      have hl : ¬ p.length < q.length := by simpa using hl
      have hc : ¬ (p.length : Int) = q.length := by simpa using hc
      have : q.length < p.length := by omega
      simp [cmpW, hl, this]
  intro hc
  have hl : p.length = q.length := by simp at hc; omega
  refine Run.R ?_
  refine Run.loopI (X := Nat) (fun i => ⟨40, [(0, true, .v (.sl false .int p)), (1, true, .v (.sl false .int q)), (5, true, .v (.int .i64 i)), (4, true, .v (.int .i64 0))], []⟩) (fun i => i ≤ p.length ∧ cmpN p q p.length 0 = cmpN p q (p.length - i) i) (fun i => p.length - i) 0 (by simp) ?_ ?_
  · exact Le.sub (by simp only [AW7, simprocAttr]) (by simp only [AW7, simprocAttr]; try simp)
  rintro i ⟨hi, ht⟩ ih
  have hw : cmpW p q = cmpN p q (p.length - i) i := by simp [cmpW, ← hl, ht]
  refine Run.R ?_
  refine Run.nq ?_; refine Run.cW ?_ ?_
  · intro hc2
    have hc2 : i < p.length := by simpa using hc2
    obtain ⟨m, hm⟩ : ∃ m, p.length - i = m + 1 := ⟨p.length - i - 1, by omega⟩
    refine Run.nq ?_; refine Run.regionD hC true [0,1,2,3,4,5,6,7,8] (by kernel_rfl) (fun K hK => ?_); simp only [AW7, simprocAttr, hX]; (repeat (with_reducible refine And.intro ?_ ?_); exact vc0); refine wE ?_; clear hK K
    refine Run.nq ?_; refine Run.cW ?_ ?_
    · intro hlt
      have hlt : p.getD i 0 < q.getD i 0 := by simpa using hlt
      refine Run.R ?_
      refine Run.rW [4] (hfin _ _ rfl rfl ?_)
      rw [hw, hm]
      simp only [cmpN]
      rw [if_pos hlt]
      simp
    · intro hlt
      have hlt : ¬ p.getD i 0 < q.getD i 0 := by simpa using hlt
      refine Run.nq ?_; refine Run.regionD hC true [0,1,2,3,4,5,6,7,8] (by kernel_rfl) (fun K hK => ?_); simp only [AW7, simprocAttr, hX]; (repeat (with_reducible refine And.intro ?_ ?_); exact vc0); refine wE ?_; clear hK K
      refine Run.nq ?_; refine Run.cW ?_ ?_
      · intro hgt
        have hgt : q.getD i 0 < p.getD i 0 := by simpa using hgt
        refine Run.R ?_
        refine Run.rW [4] (hfin _ _ rfl rfl ?_)
        rw [hw, hm]
        simp only [cmpN]
        rw [if_neg hlt, if_pos hgt]
        simp
      · intro hgt
        have hgt : ¬ q.getD i 0 < p.getD i 0 := by simpa using hgt
        refine Run.RW ?_
        refine Run.le ?_ (ih (i + 1) ⟨hc2, ?_⟩ (by omega))
        · exact Le.sub (by simp only [AW7, simprocAttr]) (by simp only [AW7, simprocAttr, Option.some.injEq, Prod.mk.injEq, Sl.v.injEq, AV.int.injEq, AV.own.injEq, AV.bool.injEq]; try (repeat' apply And.intro); all_goals omega)
        · rw [ht, hm]
          simp only [cmpN]
          rw [if_neg hlt, if_neg hgt, show p.length - (i + 1) = m from by omega]
  · intro hc2
    have hc2 : i = p.length := by simp at hc2; omega
    refine Run.exit rfl ?_; refine Run.nq ?_
    refine Run.R ?_
    refine Run.rW [4] (hfin _ _ rfl rfl ?_)
    rw [hw, hc2, Nat.sub_self]
    simp [cmpN]
theorem c_spec_EqualWords (p q : List Int) (hp : p.length ≤ 4503599627370496) : FunA B 41 [.sl false .int p, .sl false .int q] (fun rs o => rs = [.bool (p == q)] ∧ o = []) := by
  refine FunA.walk B_ok (fn := Tryz.f41) (fun vs w => Tryz.call41 vs w) Tryz.func41 rfl (by rw [Tryz.ntmps41]; simp) (fun C hC hP hT hΓ hbt hfn hpin hfin => ?_); have hX := BX; rw [← hΓ, ← hbt.1, ← hbt.2.1, ← hbt.2.2.1] at hX; rw [hT] at hX; rw [Tryz.ntmps41]; simp only [AW7, simprocAttr, hX]
  refine Run.R ?_
  refine Run.nq ?_; refine Run.regionW hC (fun K hK => ?_); refine wW ?_
  refine FunA.cW hP hT (c_spec_CompareWords p q hp) ?_
  rintro rs o ⟨rfl, rfl⟩
  refine wW ?_
  refine wE ?_; clear hK K
  refine Run.rW [4] (hfin _ _ rfl rfl ?_)
  have := cmpW_zero p q
  refine ⟨?_, rfl⟩
  rw [show (cmpW p q == 0) = (p == q) from by rw [Bool.eq_iff_iff, beq_iff_eq, beq_iff_eq]; exact this]
end Go.Proofs.YtaghdbbcadhjdaaGreatDoor
