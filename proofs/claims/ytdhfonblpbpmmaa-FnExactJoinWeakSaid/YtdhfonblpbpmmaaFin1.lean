/- Matrices with positive minors, four points at most: one finite check in whole numbers. -/
import Derived.KernelRfl
set_option linter.unusedVariables false
set_option linter.unusedSimpArgs false
namespace Go.Proofs.Ytdhfonblpbpmmaa

def inL : Nat → List (List Nat) → List Nat
  | _, [] => []
  | 0, r :: _ => r
  | n + 1, _ :: l => inL n l
def inN : Nat → List Nat → Nat
  | _, [] => 0
  | 0, x :: _ => x
  | n + 1, _ :: l => inN n l
def inP : Nat → List (Nat × Nat) → Nat × Nat
  | _, [] => (0, 0)
  | 0, x :: _ => x
  | n + 1, _ :: l => inP n l
/-- A vector of differences, reflected. -/
def rpV (a : Nat × Nat) (i : Nat) : Nat → List (Nat × Nat) → List Nat → List (Nat × Nat)
  | k, x :: v, b :: col => (bif Nat.beq k i then (x.2, x.1) else (Nat.add x.1 (Nat.mul a.1 b), Nat.add x.2 (Nat.mul a.2 b))) :: rpV a i (k + 1) v col
  | _, _, _ => []
def rfV (cols : List (List Nat)) (i : Nat) (v : List (Nat × Nat)) : List (Nat × Nat) := rpV (inP i v) i 0 v (inL i cols)
def fnV : List (Nat × Nat) → Nat → Option Nat
  | [], _ => none
  | x :: l, k => bif Nat.ble x.2 x.1 then fnV l (k + 1) else some k
def onV : List (Nat × Nat) → Bool
  | [] => true
  | x :: l => Nat.beq x.1 (Nat.add x.2 1) && onV l
/-- The game comes to the vector of ones. -/
def plV (cols : List (List Nat)) : Nat → List (Nat × Nat) → Bool
  | 0, v => onV v
  | f + 1, v => match fnV v 0 with
    | none => onV v
    | some i => plV cols f (rfV cols i v)
def cxV (cols : List (List Nat)) : Nat → List (Nat × Nat) → List (Nat × Nat)
  | 0, v => v
  | n + 1, v => cxV cols n (rfV cols n v)
/-- Some power of the product of all letters is one. -/
def orV (cols : List (List Nat)) (n : Nat) : Nat → List (Nat × Nat) → Bool
  | 0, _ => false
  | f + 1, v => onV (cxV cols n v) || orV cols n f (cxV cols n v)

def eqR : List Nat → List Nat → Bool
  | [], [] => true
  | x :: a, y :: b => Nat.beq x y && eqR a b
  | _, _ => false
def hasR (r : List Nat) : List (List Nat) → Bool
  | [] => false
  | s :: l => eqR r s || hasR r l
def dtR : List Nat → List Nat → Nat
  | x :: a, y :: b => Nat.add (Nat.mul x y) (dtR a b)
  | _, _ => 0
def stR : Nat → Nat → List Nat → List Nat
  | _, _, [] => []
  | 0, y, _ :: l => y :: l
  | n + 1, y, x :: l => x :: stR n y l
def unR (n i : Nat) : List Nat := stR i 1 (List.replicate n 0)
/-- Roots that rise from one. -/
def upR (r : List Nat) (q : List (List Nat)) : Nat → List (List Nat) → List (List Nat)
  | _, [] => []
  | i, row :: rows => bif Nat.ble (dtR row r) (Nat.mul 2 (inN i r)) then upR r q (i + 1) rows else
      bif hasR (stR i (Nat.sub (dtR row r) (inN i r)) r) q then upR r q (i + 1) rows else stR i (Nat.sub (dtR row r) (inN i r)) r :: upR r q (i + 1) rows
def grR (rows : List (List Nat)) : Nat → List (List Nat) → List (List Nat) → List (List Nat)
  | 0, _, d => d
  | _ + 1, [], d => d
  | f + 1, r :: q, d => grR rows f (q ++ upR r q 0 rows) (r :: d)
/-- A list of roots that is closed: each reflection keeps it, but for a simple root, and its entries are small. -/
def okR (P : List (List Nat)) (n : Nat) (r : List Nat) : Nat → List (List Nat) → Bool
  | _, [] => true
  | i, row :: rows => (eqR r (unR n i) || (Nat.ble (inN i r) (dtR row r) && hasR (stR i (Nat.sub (dtR row r) (inN i r)) r) P)) && okR P n r (i + 1) rows
def smR : List Nat → Bool
  | [] => true
  | x :: l => Nat.ble x 6 && smR l
def unsR (n : Nat) : Nat → List (List Nat)
  | 0 => []
  | k + 1 => unR n k :: unsR n k
def clR (rows : List (List Nat)) (n : Nat) (P : List (List Nat)) : Bool :=
  (unsR n n).all (fun r => hasR r P) && P.all fun r => Nat.beq r.length n && smR r && okR P n r 0 rows
def godC (cols rows : List (List Nat)) (n : Nat) : Bool :=
  plV cols 24 (List.replicate n (0, 1)) && orV cols n 12 (List.replicate n (1, 0)) && clR rows n (grR rows 30 (unsR n n) [])

/-- Twice the diagonal: positive minors of three and of four points. -/
def prN : List (Nat × Nat) := [(0, 0), (1, 1), (1, 2), (2, 1), (1, 3), (3, 1)]
/-- 8 - 2 (pp' + qq' + rr') - (p r q' + q r' p'), greater than nothing. -/
def d3 (p q r : Nat × Nat) : Bool := Nat.ble (Nat.add (Nat.add (Nat.mul 2 (Nat.add (Nat.add (Nat.mul p.1 p.2) (Nat.mul q.1 q.2)) (Nat.mul r.1 r.2))) (Nat.add (Nat.mul (Nat.mul p.1 r.1) q.2) (Nat.mul (Nat.mul q.1 r.2) p.2))) 1) 8
def col4 (p q r s t u : Nat × Nat) : List (List Nat) := [[0, p.2, q.2, s.2], [p.1, 0, r.2, t.2], [q.1, r.1, 0, u.2], [s.1, t.1, u.1, 0]]
def row4 (p q r s t u : Nat × Nat) : List (List Nat) := [[0, p.1, q.1, s.1], [p.2, 0, r.1, t.1], [q.2, r.2, 0, u.1], [s.2, t.2, u.2, 0]]
def col3 (p q r : Nat × Nat) : List (List Nat) := [[0, p.2, q.2], [p.1, 0, r.2], [q.1, r.1, 0]]
def row3 (p q r : Nat × Nat) : List (List Nat) := [[0, p.1, q.1], [p.2, 0, r.1], [q.2, r.2, 0]]
def d4 (p q r s t u : Nat × Nat) : Bool :=
  Nat.ble (4 * (p.1 * p.2 + q.1 * q.2 + r.1 * r.2 + s.1 * s.2 + t.1 * t.2 + u.1 * u.2) + 2 * (p.1 * r.1 * q.2 + q.1 * r.2 * p.2 + p.1 * t.1 * s.2 + s.1 * t.2 * p.2 + q.1 * u.1 * s.2 + s.1 * u.2 * q.2 + r.1 * u.1 * t.2 + t.1 * u.2 * r.2) +
    (p.1 * r.1 * u.1 * s.2 + s.1 * u.2 * r.2 * p.2 + p.1 * t.1 * u.2 * q.2 + q.1 * u.1 * t.2 * p.2 + q.1 * r.2 * t.1 * s.2 + s.1 * t.2 * r.1 * q.2) + 1) (16 + (p.1 * p.2 * (u.1 * u.2) + q.1 * q.2 * (t.1 * t.2) + s.1 * s.2 * (r.1 * r.2)))
def ck4 (p : Nat × Nat) : Bool := prN.all fun q => prN.all fun r => !d3 p q r || prN.all fun s => prN.all fun t => !d3 p s t || prN.all fun u => !d3 q s u || !d3 r t u || !d4 p q r s t u || godC (col4 p q r s t u) (row4 p q r s t u) 4
def ck3 : Bool := prN.all fun p => prN.all fun q => prN.all fun r => !d3 p q r || godC (col3 p q r) (row3 p q r) 3
def ck2 : Bool := prN.all fun p => godC [[0, p.2], [p.1, 0]] [[0, p.1], [p.2, 0]] 2
theorem ck1_true : godC [[0]] [[0]] 1 = true := by decide +kernel
theorem ck2_true : ck2 = true := by decide +kernel
theorem ck3_true : ck3 = true := by decide +kernel
theorem ck4_0 : ck4 (0, 0) = true := by decide +kernel
theorem ck4_1 : ck4 (1, 1) = true := by decide +kernel
theorem ck4_2 : ck4 (1, 2) = true := by decide +kernel
theorem ck4_3 : ck4 (2, 1) = true := by decide +kernel
theorem ck4_4 : ck4 (1, 3) = true := by decide +kernel
theorem ck4_5 : ck4 (3, 1) = true := by decide +kernel
end Go.Proofs.Ytdhfonblpbpmmaa
