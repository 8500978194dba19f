/- The table of left products. -/
import Derived.Test.YtaghdbbcadhjdaaGreatDoorB18
import Derived.Test.YtaghdbbcadhjdaaGreatDoorB11
import Derived.Test.YtaghdbbcadhjdaaGreatDoorB8
import Derived.Test.YtaghdbbcadhjdaaGreatDoorB13
import Derived.Test.YtaghdbbcadhjdaaGreatDoorB14
import Derived.Test.YtaghdbbcadhjdaaGreatDoorB7
import Derived.Test.YtaghdbbcadhjdaaGreatDoorB10
set_option linter.unusedVariables false
set_option linter.unusedSimpArgs false
namespace Go.Proofs.YtaghdbbcadhjdaaGreatDoor
open Go Go.Aw Go.Cox
def ixL (l : List (List Int)) (w : List Int) : Int := if w ∈ l then (l.idxOf w : Int) else -1
end Go.Proofs.YtaghdbbcadhjdaaGreatDoor
namespace Go.Proofs.YtaghdbbcadhjdaaGreatDoor
open Go Go.Aw Go.Cox
def Plc (l : List (List Int)) (k : Nat) (m : List (MK × MV)) : Prop := ∀ j, j < k → mgetI m (.str (fmtW (l.getD j []))) = j
theorem Plc.put {l : List (List Int)} (hl : ∀ r ∈ l, letters 4 r) (hn : l.Nodup) {k : Nat} (hk : k < l.length) {m : List (MK × MV)} (h : Plc l k m) : Plc l (k + 1) (mput m (.str (fmtW (l.getD k []))) (.int k)) := by
  intro j hj
  rw [mgetI_put]
  by_cases e : j = k
  · rw [e, if_pos rfl]
  · have h1 : l.getD j [] = l[j] := by simp [List.getD_eq_getElem?_getD, show j < l.length by omega]
    have h2 : l.getD k [] = l[k] := by simp [List.getD_eq_getElem?_getD, hk]
    rw [if_neg, h j (by omega)]
    intro e2
    injection e2 with e2
    rw [h1, h2] at e2
    have e3 := fmtW_inj (hl _ (List.getElem_mem (show j < l.length by omega))) (hl _ (List.getElem_mem hk)) e2
    have hp := List.nodup_iff_pairwise_ne.1 hn
    rw [List.pairwise_iff_getElem] at hp
    exact hp j k (by omega) hk (by omega) e3
theorem Plc.at {l : List (List Int)} {m : List (MK × MV)} (hn : l.Nodup) (h : Plc l l.length m) {w : List Int} (hw : w ∈ l) : mgetI m (.str (fmtW w)) = ixL l w := by
  have hlt := List.idxOf_lt_length_of_mem hw
  have hg : l[l.idxOf w] = w := List.getElem_idxOf hlt
  have := h _ hlt
  rw [List.getD_eq_getElem?_getD, List.getElem?_eq_getElem hlt, Option.getD_some, hg] at this
  rw [this]
  unfold ixL
  rw [if_pos hw]
end Go.Proofs.YtaghdbbcadhjdaaGreatDoor
namespace Go.Proofs.YtaghdbbcadhjdaaGreatDoor
open Go Go.Aw Go.Cox
end Go.Proofs.YtaghdbbcadhjdaaGreatDoor
namespace Go.Proofs.YtaghdbbcadhjdaaGreatDoor
open Go Go.Aw Go.Cox
def hgt : List Int → Int
  | [] => 0
  | x :: r => x + hgt r
def Bnd (M : Int) (r : List Int) : Prop := ∀ x ∈ r, -M ≤ x ∧ x ≤ M
theorem hgt_bnd {M : Int} : ∀ {r : List Int}, Bnd M r → -(M * r.length) ≤ hgt r ∧ hgt r ≤ M * r.length
  | [], _ => by simp [hgt]
  | x :: r, h => by
    have h1 := h x (List.mem_cons_self ..)
    have h2 := hgt_bnd (r := r) (fun y hy => h y (List.mem_cons_of_mem _ hy))
    simp only [hgt, List.length_cons]
    have e : M * ((r.length + 1 : Nat) : Int) = M * r.length + M := by push_cast; grind
    rw [e]; omega
theorem Bnd.take {M : Int} {r : List Int} (h : Bnd M r) (k : Nat) : Bnd M (r.take k) := fun x hx => h x (List.mem_of_mem_take hx)
theorem Bnd.get {M : Int} {r : List Int} (h : Bnd M r) {k : Nat} (hk : k < r.length) : -M ≤ r.getD k 0 ∧ r.getD k 0 ≤ M := h _ (getD_mem hk)
def posA (r : List Int) : Bool := r.any fun x => decide (0 < x)
def negA (r : List Int) : Bool := r.any fun x => decide (x < 0)
def sgnR (r : List Int) : Int := bif posA r && !negA r then 1 else bif negA r && !posA r then -1 else 0
theorem sgnR_one {r : List Int} : sgnR r = 1 ↔ posA r = true ∧ negA r = false := by
  unfold sgnR; cases posA r <;> cases negA r <;> simp
end Go.Proofs.YtaghdbbcadhjdaaGreatDoor
namespace Go.Proofs.YtaghdbbcadhjdaaGreatDoor
open Go Go.Aw Go.Cox
theorem mir_len (c : List (List Int)) (i : Int) (r : List Int) : (mirL c i r).length = r.length := by simp [mirL]
end Go.Proofs.YtaghdbbcadhjdaaGreatDoor
namespace Go.Proofs.YtaghdbbcadhjdaaGreatDoor
open Go Go.Aw Go.Cox
def wgtP (c : List (List Int)) (v : List Int) : Prop := v.length = c.length ∧ ∀ k, k < v.length → -1000 ≤ v.getD k 0 ∧ v.getD k 0 ≤ 1000
theorem sgn_nonneg {r : List Int} (h : sgnR r = 1) : ∀ x ∈ r, 0 ≤ x := by
  intro x hx
  have h1 := (sgnR_one.1 h).2
  unfold negA at h1
  rw [List.any_eq_false] at h1
  have := h1 x hx
  simp at this
  exact this
theorem hgt_nonneg : ∀ {r : List Int}, (∀ x ∈ r, 0 ≤ x) → 0 ≤ hgt r ∧ ∀ x ∈ r, x ≤ hgt r
  | [], _ => by simp [hgt]
  | y :: r, h => by
    obtain ⟨h1, h2⟩ := hgt_nonneg (r := r) fun x hx => h x (List.mem_cons_of_mem _ hx)
    have h0 := h y (by simp)
    refine ⟨by simp only [hgt]; omega, fun x hx => ?_⟩
    simp only [hgt]
    rcases List.mem_cons.1 hx with rfl | hx
    · omega
    · have := h2 x hx; omega
theorem hgt_zero : ∀ {r : List Int}, (∀ x ∈ r, 0 ≤ x) → hgt r = 0 → r = List.replicate r.length 0
  | [], _, _ => rfl
  | y :: r, h, h0 => by
    have h1 := h y (by simp)
    obtain ⟨h2, _⟩ := hgt_nonneg (r := r) fun x hx => h x (List.mem_cons_of_mem _ hx)
    simp only [hgt] at h0
    have := hgt_zero (r := r) (fun x hx => h x (List.mem_cons_of_mem _ hx)) (by omega)
    rw [List.length_cons, List.replicate_succ, ← this]
    congr 1
    omega
theorem hgt_one : ∀ {r : List Int}, (∀ x ∈ r, 0 ≤ x) → hgt r = 1 → ∃ i, i < r.length ∧ r = simL r.length i
  | [], _, h => by simp [hgt] at h
  | y :: r, h, h0 => by
    have h1 := h y (by simp)
    obtain ⟨h2, _⟩ := hgt_nonneg (r := r) fun x hx => h x (List.mem_cons_of_mem _ hx)
    simp only [hgt] at h0
    by_cases hy : y = 1
    · refine ⟨0, by simp, ?_⟩
      have := hgt_zero (r := r) (fun x hx => h x (List.mem_cons_of_mem _ hx)) (by omega)
      simp only [simL, List.length_cons, List.replicate_succ, List.set_cons_zero]
      rw [← this, hy]
    · obtain ⟨i, hi, hr⟩ := hgt_one (r := r) (fun x hx => h x (List.mem_cons_of_mem _ hx)) (by omega)
      refine ⟨i + 1, by simp; omega, ?_⟩
      simp only [simL, List.length_cons, List.replicate_succ, List.set_cons_succ]
      simp only [simL] at hr
      rw [← hr]
      congr 1
      omega
theorem simL_get (n i k : Nat) (hi : i < n) : (simL n i).getD k 0 = if k = i then 1 else 0 := by
  unfold simL
  by_cases hk : k < n
  · rw [List.getD_eq_getElem?_getD, List.getElem?_set]
    by_cases h : i = k
    · subst h; simp [hi]
    · simp [h, Ne.symm h, hk]
  · rw [List.getD_eq_getElem?_getD, List.getElem?_eq_none (by simp; omega), if_neg (by omega)]; rfl
theorem simL_inj {n i j : Nat} (hi : i < n) (hj : j < n) (h : simL n i = simL n j) : i = j := by
  have h1 := simL_get n i i hi
  have h2 := simL_get n j i hj
  rw [h] at h1
  rw [h1, if_pos rfl] at h2
  by_cases hij : i = j
  · exact hij
  · rw [if_neg hij] at h2; cases h2
def lowI (c : List (List Int)) (r : List Int) : Option Nat := (List.range c.length).find? fun i => decide (hgt (mirL c i r) < hgt r)
def simI (c : List (List Int)) (r : List Int) : Option Nat := (List.range c.length).find? fun i => r == simL c.length i
theorem find_some {n : Nat} {p : Nat → Bool} {i : Nat} (hi : i < n) (h : p i = true) (hj : ∀ j, j < i → p j = false) : (List.range n).find? p = some i := by
  rw [List.find?_range_eq_some]
  exact ⟨h, by simpa using hi, fun j hj' => by simp [hj j hj']⟩
theorem find_some' {n : Nat} {p : Nat → Bool} {i : Nat} (h : (List.range n).find? p = some i) : i < n ∧ p i = true ∧ ∀ j, j < i → p j = false := by
  rw [List.find?_range_eq_some] at h
  obtain ⟨h1, h2, h3⟩ := h
  exact ⟨by simpa using h2, h1, fun j hj => by simpa using h3 j hj⟩
structure Dn (c : List (List Int)) (r : List Int) : Prop where
  len : r.length = c.length
  sgn : sgnR r = 1
  hgt : hgt r ≤ 4000
theorem Dn.bnd {c : List (List Int)} {r : List Int} (h : Dn c r) : Bnd 4000 r := fun x hx => by
  have h1 := sgn_nonneg h.sgn
  have := h1 x hx
  have := (hgt_nonneg h1).2 x hx
  have := h.hgt
  omega
theorem Dn.next {c : List (List Int)} {r : List Int} (h : Dn c r) {i : Nat} (hi : lowI c r = some i) (hs : sgnR (mirL c i r) = 1) : Dn c (mirL c i r) := by
  have h1 := (find_some' hi).2.1
  have := h.hgt
  have h2 : Go.Proofs.YtaghdbbcadhjdaaGreatDoor.hgt (mirL c i r) < Go.Proofs.YtaghdbbcadhjdaaGreatDoor.hgt r := by simpa using h1
  exact ⟨by rw [mir_len]; exact h.len, hs, by omega⟩
theorem Dn.start {c : List (List Int)} {r : List Int} (hc : CartanP c) (hw : wgtP c r) (hs : sgnR r = 1) : Dn c r := by
  refine ⟨hw.1, hs, ?_⟩
  have hb : Bnd 1000 r := by
    intro x hx
    obtain ⟨k, hk, rfl⟩ := List.getElem_of_mem hx
    have := hw.2 k hk
    rwa [show r.getD k 0 = r[k] from by simp [hk]] at this
  have h1 := (hgt_bnd hb).2
  have := hw.1
  have := hc.2.1
  omega
theorem Dn.one {c : List (List Int)} {r : List Int} (h : Dn c r) (h1 : Go.Proofs.YtaghdbbcadhjdaaGreatDoor.hgt r = 1) : ∃ i, i < c.length ∧ r = simL c.length i ∧ simI c r = some i := by
  obtain ⟨i, hi, hr⟩ := hgt_one (sgn_nonneg h.sgn) h1
  rw [h.len] at hi hr
  refine ⟨i, hi, hr, find_some hi (by simpa using hr) fun j hj => ?_⟩
  cases hq : (r == simL c.length j) with
  | false => rfl
  | true =>
    have hq : r = simL c.length j := by simpa using hq
    have := simL_inj hi (Nat.lt_trans hj hi) (hr.symm.trans hq)
    omega
end Go.Proofs.YtaghdbbcadhjdaaGreatDoor
namespace Go.Proofs.YtaghdbbcadhjdaaGreatDoor
open Go Go.Aw Go.Cox
end Go.Proofs.YtaghdbbcadhjdaaGreatDoor
namespace Go.Proofs.YtaghdbbcadhjdaaGreatDoor
open Go Go.Aw Go.Cox
end Go.Proofs.YtaghdbbcadhjdaaGreatDoor
namespace Go.Proofs.YtaghdbbcadhjdaaGreatDoor
open Go Go.Aw Go.Cox
end Go.Proofs.YtaghdbbcadhjdaaGreatDoor
namespace Go.Proofs.YtaghdbbcadhjdaaGreatDoor
open Go Go.Aw Go.Cox
def lin (a : Int) (x : List Int) (b : Int) (y : List Int) : List Int := List.zipWith (fun p q => a * p - b * q) x y
def rowS (M : List (List Int)) (r c k : Nat) : List Int := lin ((M.getD r []).getD c 0) (M.getD k []) ((M.getD k []).getD c 0) (M.getD r [])
def rowI (M : List (List Int)) (r c k : Nat) : List Int := if (M.getD k []).getD c 0 = 0 then M.getD k [] else rowS M r c k
def elim (g : List (List Int) → Nat → List Int) : Nat → Nat → List (List Int) → List (List Int)
  | 0, _, M => M
  | f + 1, k, M => elim g f (k + 1) (M.set k (g M k))
theorem lin_len (a : Int) (x : List Int) (b : Int) (y : List Int) : (lin a x b y).length = min x.length y.length := by simp [lin]
theorem lin_get (a : Int) (x : List Int) (b : Int) (y : List Int) {j : Nat} (h : j < x.length) (h2 : j < y.length) : (lin a x b y).getD j 0 = a * x.getD j 0 - b * y.getD j 0 := by
  simp [lin, List.getD, List.getElem?_zipWith, List.getElem?_eq_getElem h, List.getElem?_eq_getElem h2]
theorem getD_out {x : List Int} {j : Nat} (h : x.length ≤ j) : x.getD j 0 = 0 := by simp [List.getD, List.getElem?_eq_none h]
theorem mul_bnd {b p q : Int} (hp : -b ≤ p ∧ p ≤ b) (hq : -b ≤ q ∧ q ≤ b) : -(b * b) ≤ p * q ∧ p * q ≤ b * b := by
  have h : (p * q).natAbs ≤ (b * b).natAbs := by
    rw [Int.natAbs_mul, Int.natAbs_mul]
    exact Nat.mul_le_mul (by omega) (by omega)
  have h0 : 0 ≤ b * b := Int.mul_nonneg (by omega) (by omega)
  omega
theorem lin_bnd {b m : Int} {x y : List Int} {p q : Int} (hm : 2 * (b * b) ≤ m) (hb : 0 ≤ b) (hx : Bnd b x) (hy : Bnd b y) (hp : -b ≤ p ∧ p ≤ b) (hq : -b ≤ q ∧ q ≤ b) : Bnd m (lin p x q y) := by
  intro z hz
  unfold lin at hz
  rw [List.mem_iff_getElem] at hz
  obtain ⟨i, hi, rfl⟩ := hz
  rw [List.getElem_zipWith]
  simp only [List.length_zipWith] at hi
  have h1 := hx _ (List.getElem_mem (l := x) (n := i) (by omega))
  have h2 := hy _ (List.getElem_mem (l := y) (n := i) (by omega))
  have e1 := mul_bnd hp h1
  have e2 := mul_bnd hq h2
  omega
def OKM (n : Nat) (b : Int) (M : List (List Int)) : Prop := M.length = n ∧ ∀ k, k < n → (M.getD k []).length = n ∧ Bnd b (M.getD k [])
def beta : Nat → Int
  | 0 => 8
  | 1 => 128
  | 2 => 32768
  | _ => 2147483648
theorem beta_pos (r : Nat) : 8 ≤ beta r ∧ beta r ≤ 2147483648 := by
  match r with
  | 0 => decide
  | 1 => decide
  | 2 => decide
  | n + 3 => simp [beta]
theorem beta_up (r : Nat) : beta r ≤ beta (r + 1) := by
  match r with
  | 0 => decide
  | 1 => decide
  | 2 => decide
  | n + 3 => simp [beta]
theorem beta_sq {r : Nat} (h : r ≤ 2) : 2 * (beta r * beta r) ≤ beta (r + 1) := by
  match r, h with
  | 0, _ => decide
  | 1, _ => decide
  | 2, _ => decide
theorem Bnd.mono {a b : Int} (h : a ≤ b) {x : List Int} (hx : Bnd a x) : Bnd b x := fun y hy => by have := hx y hy; omega
theorem Bnd.at' {b : Int} (hb : 0 ≤ b) {x : List Int} (hx : Bnd b x) (j : Nat) : -b ≤ x.getD j 0 ∧ x.getD j 0 ≤ b := by
  by_cases h : j < x.length
  · rw [getD_eq h]; exact hx _ (List.getElem_mem h)
  · rw [getD_out (by omega)]; omega
def Mid (n r k : Nat) (M : List (List Int)) : Prop := OKM n (beta (r + 1)) M ∧ ∀ j, j < n → (j ≤ r ∨ k ≤ j) → Bnd (beta r) (M.getD j [])
theorem Mid.start {n r : Nat} {M : List (List Int)} (h : OKM n (beta r) M) (k : Nat) : Mid n r k M :=
  ⟨⟨h.1, fun k hk => ⟨(h.2 k hk).1, (h.2 k hk).2.mono (beta_up r)⟩⟩, fun j hj _ => (h.2 j hj).2⟩
theorem set_get (M : List (List Int)) (k j : Nat) (x : List Int) (hk : k < M.length) : (M.set k x).getD j [] = if j = k then x else M.getD j [] := by
  simp only [List.getD, List.getElem?_set]
  by_cases h : k = j
  · subst h; simp [hk]
  · rw [if_neg h, if_neg (Ne.symm h)]
theorem Mid.row {n r k c : Nat} {M : List (List Int)} (h : Mid n r k M) (hk : k < n) (hr : r < k) (hn : n ≤ 4) : (rowS M r c k).length = n ∧ Bnd (beta (r + 1)) (rowS M r c k) := by
  obtain ⟨⟨h1, h2⟩, h3⟩ := h
  refine ⟨by unfold rowS; rw [lin_len, (h2 k hk).1, (h2 r (by omega)).1]; omega, ?_⟩
  have b0 := beta_pos r
  have b1 := h3 k hk (.inr (Nat.le_refl _))
  have b2 := h3 r (by omega) (.inl (Nat.le_refl _))
  exact lin_bnd (beta_sq (by omega)) (by omega) b1 b2 (b2.at' (by omega) c) (b1.at' (by omega) c)
theorem Mid.put {n r k : Nat} {M : List (List Int)} {x : List Int} (h : Mid n r k M) (hk : k < n) (hr : r < k) (hx : x.length = n ∧ Bnd (beta (r + 1)) x) : Mid n r (k + 1) (M.set k x) := by
  obtain ⟨⟨h1, h2⟩, h3⟩ := h
  refine ⟨⟨by simp [h1], fun j hj => ?_⟩, fun j hj hjk => ?_⟩
  · rw [set_get _ _ _ _ (by omega)]
    split
    · exact hx
    · exact h2 j hj
  · rw [set_get _ _ _ _ (by omega), if_neg (by omega)]
    exact h3 j hj (by omega)
def MulM (n : Nat) (M N : List (List Int)) : Prop := N.length = M.length ∧ ∀ k, k < M.length → (M.getD k []).length = n ∧ (N.getD k []).length = n ∧ ∃ l : Int, l ≠ 0 ∧ ∀ j, (N.getD k []).getD j 0 = l * (M.getD k []).getD j 0
theorem MulM.zero {n : Nat} {M N : List (List Int)} (h : MulM n M N) {k : Nat} (hk : k < M.length) (c : Nat) : (N.getD k []).getD c 0 = 0 ↔ (M.getD k []).getD c 0 = 0 := by
  obtain ⟨_, _, l, hl, h2⟩ := h.2 k hk
  rw [h2 c, Int.mul_eq_zero]
  simp [hl]
theorem MulM.put {n : Nat} {M N : List (List Int)} (h : MulM n M N) {r c k : Nat} (hr : r < k) (hk : k < M.length) (hp : (M.getD r []).getD c 0 ≠ 0) : MulM n (M.set k (rowI M r c k)) (N.set k (rowS N r c k)) := by
  have hl := h.1
  obtain ⟨a1, a2, l, hl0, a3⟩ := h.2 k hk
  obtain ⟨b1, b2, m, hm0, b3⟩ := h.2 r (by omega)
  refine ⟨by simp [hl], fun j hj => ?_⟩
  simp only [List.length_set] at hj
  rw [set_get _ _ _ _ hk, set_get _ _ _ _ (by omega)]
  by_cases hjk : j = k
  · rw [if_pos hjk, if_pos hjk]
    have hS : (rowS N r c k).length = n := by unfold rowS; rw [lin_len, a2, b2]; omega
    have gS : ∀ j, j < n → (rowS N r c k).getD j 0 = (N.getD r []).getD c 0 * (N.getD k []).getD j 0 - (N.getD k []).getD c 0 * (N.getD r []).getD j 0 := fun j hj => by
      unfold rowS; rw [lin_get _ _ _ _ (by omega) (by omega)]
    unfold rowI
    by_cases h0 : (M.getD k []).getD c 0 = 0
    · rw [if_pos h0]
      refine ⟨a1, hS, m * (M.getD r []).getD c 0 * l, ?_, fun j => ?_⟩
      · exact Int.mul_ne_zero (Int.mul_ne_zero hm0 hp) hl0
      · by_cases hj : j < n
        · rw [gS j hj, a3 c, h0, a3 j, b3 c, Int.mul_zero, Int.zero_mul, Int.sub_zero]; simp only [Int.mul_assoc]
        · rw [getD_out (x := rowS N r c k) (by omega), getD_out (x := M.getD k []) (by omega), Int.mul_zero]
    · rw [if_neg h0]
      have hM : (rowS M r c k).length = n := by unfold rowS; rw [lin_len, a1, b1]; omega
      refine ⟨hM, hS, m * l, Int.mul_ne_zero hm0 hl0, fun j => ?_⟩
      by_cases hj : j < n
      · rw [gS j hj, a3 c, a3 j, b3 c, b3 j]
        unfold rowS
        rw [lin_get _ _ _ _ (by omega) (by omega), Int.mul_sub]
        congr 1
        · rw [Int.mul_assoc, Int.mul_left_comm ((M.getD r []).getD c 0), Int.mul_assoc]
        · rw [Int.mul_comm m l, Int.mul_assoc l m, Int.mul_assoc l, Int.mul_left_comm m]
      · rw [getD_out (x := rowS N r c k) (by omega), getD_out (x := rowS M r c k) (by omega), Int.mul_zero]
  · rw [if_neg hjk, if_neg hjk]; exact h.2 j hj
theorem MulM.elim {n r c : Nat} : ∀ (f k : Nat) {M N : List (List Int)}, MulM n M N → r < k → k + f ≤ M.length → (M.getD r []).getD c 0 ≠ 0 → MulM n (elim (fun N k => rowI N r c k) f k M) (elim (fun N k => rowS N r c k) f k N)
  | 0, k, M, N, h, _, _, _ => h
  | f + 1, k, M, N, h, hr, hk, hp => by
    simp only [Go.Proofs.YtaghdbbcadhjdaaGreatDoor.elim]
    refine MulM.elim f (k + 1) (h.put hr (by omega) hp) (by omega) (by simp; omega) ?_
    rw [set_get _ _ _ _ (by omega), if_neg (by omega)]
    exact hp
theorem MulM.refl {n : Nat} {b : Int} {M : List (List Int)} (h : OKM n b M) : MulM n M M :=
  ⟨rfl, fun k hk => ⟨(h.2 k (by rw [← h.1]; exact hk)).1, (h.2 k (by rw [← h.1]; exact hk)).1, 1, by decide, fun j => by rw [Int.one_mul]⟩⟩
end Go.Proofs.YtaghdbbcadhjdaaGreatDoor
namespace Go.Proofs.YtaghdbbcadhjdaaGreatDoor
open Go Go.Aw Go.Cox
theorem Mid.skip {n r k : Nat} {M : List (List Int)} (h : Mid n r k M) (_ : k < n) : Mid n r (k + 1) M :=
  ⟨h.1, fun j hj hjk => h.2 j hj (by omega)⟩
end Go.Proofs.YtaghdbbcadhjdaaGreatDoor
namespace Go.Proofs.YtaghdbbcadhjdaaGreatDoor
open Go Go.Aw Go.Cox
end Go.Proofs.YtaghdbbcadhjdaaGreatDoor
namespace Go.Proofs.YtaghdbbcadhjdaaGreatDoor
open Go Go.Aw Go.Cox
end Go.Proofs.YtaghdbbcadhjdaaGreatDoor
namespace Go.Proofs.YtaghdbbcadhjdaaGreatDoor
open Go Go.Aw Go.Cox
end Go.Proofs.YtaghdbbcadhjdaaGreatDoor
namespace Go.Proofs.YtaghdbbcadhjdaaGreatDoor
open Go Go.Aw
end Go.Proofs.YtaghdbbcadhjdaaGreatDoor
namespace Go.Proofs.YtaghdbbcadhjdaaGreatDoor
open Go Go.Aw Go.Cox
end Go.Proofs.YtaghdbbcadhjdaaGreatDoor
namespace Go.Proofs.YtaghdbbcadhjdaaGreatDoor
open Go Go.Aw
end Go.Proofs.YtaghdbbcadhjdaaGreatDoor
namespace Go.Proofs.YtaghdbbcadhjdaaGreatDoor
open Go Go.Aw
end Go.Proofs.YtaghdbbcadhjdaaGreatDoor
namespace Go.Proofs.YtaghdbbcadhjdaaGreatDoor
open Go Go.Aw Go.Cox
end Go.Proofs.YtaghdbbcadhjdaaGreatDoor
namespace Go.Proofs.YtaghdbbcadhjdaaGreatDoor
open Go Go.Aw Go.Cox
end Go.Proofs.YtaghdbbcadhjdaaGreatDoor
namespace Go.Proofs.YtaghdbbcadhjdaaGreatDoor
open Go Go.Aw Go.Cox
theorem filt_step {α : Type} (p : α → Bool) (d : α) (zs : List α) (k : Nat) (h : k < zs.length) : (zs.take (k + 1)).filter p = (zs.take k).filter p ++ (if p (zs.getD k d) then [zs.getD k d] else []) := by
  have e : zs.take (k + 1) = zs.take k ++ [zs.getD k d] := by
    rw [List.take_add_one, List.getD_eq_getElem?_getD, List.getElem?_eq_getElem h]; rfl
  rw [e, List.filter_append]
  generalize zs.getD k d = y
  by_cases hp : p y = true
  · simp [hp]
  · simp [hp]
theorem filt_nodup (p : Nat × List Int → Bool) {zs : List (Nat × List Int)} (h : (lb1 zs).Nodup) (k : Nat) : (lb1 ((zs.take k).filter p)).Nodup :=
  h.sublist (((List.filter_sublist).trans (List.take_sublist k zs)).map _)
theorem filt_rows (q : List Int → Bool) (zs : List (Nat × List Int)) : rw2 (zs.filter fun p => q p.2) = (rw2 zs).filter q := by
  unfold rw2
  rw [List.filter_map]
  rfl
theorem filt_len {α : Type} (p : α → Bool) (zs : List α) (k : Nat) : ((zs.take k).filter p).length ≤ k :=
  Nat.le_trans (List.length_filter_le _ _) (by rw [List.length_take]; omega)
end Go.Proofs.YtaghdbbcadhjdaaGreatDoor
namespace Go.Proofs.YtaghdbbcadhjdaaGreatDoor
open Go Go.Aw Go.Cox
theorem c_impl_CosetLeaders1 (v : List Int) (i : Int) (hi : 0 ≤ i ∧ i < v.length) : FunA B 46 [.int .i64 i, .relt true (.row true) v] (fun rs o => rs = [.bool (decide (v.getD i.toNat 0 < 0))] ∧ o = []) := by
  refine FunA.walk B_ok (fn := Tryz.f46) (fun vs w => Tryz.call46 vs w) Tryz.func46 rfl (by rw [Tryz.ntmps46]; simp) (fun C hC hP hT hΓ hbt hfn hpin hfin => ?_); have hX := BX; rw [← hΓ, ← hbt.1, ← hbt.2.1, ← hbt.2.2.1] at hX; rw [hT] at hX; rw [Tryz.ntmps46]; simp only [AW7, simprocAttr, hX]
  refine Run.R ?_
  refine Run.R ?_
  refine Run.rW [3] (hfin _ _ rfl rfl ?_)
  exact ⟨rfl, rfl⟩
def ixF (p : Int → Bool) (s : List Int) : Int := if s.any p then (s.findIdx p : Int) else -1
theorem ixF_hit {p : Int → Bool} {s : List Int} {k : Nat} (h : k < s.length) (hp : p (s.getD k 0) = true) (hpre : ∀ j, j < k → p (s.getD j 0) = false) : ixF p s = k := by
  have hg : s[k] = s.getD k 0 := by simp [List.getD_eq_getElem?_getD, h]
  unfold ixF
  rw [if_pos (List.any_eq_true.2 ⟨s[k], List.getElem_mem h, by rw [hg]; exact hp⟩)]
  congr 1
  refine (List.findIdx_eq h).2 ⟨by rw [hg]; exact hp, fun j hj => ?_⟩
  have := hpre j hj
  rwa [List.getD_eq_getElem?_getD, List.getElem?_eq_getElem (by omega), Option.getD_some] at this
theorem any_noneF {p : Int → Bool} {s : List Int} (hpre : ∀ j, j < s.length → p (s.getD j 0) = false) : s.any p = false := by
  rw [List.any_eq_false]
  intro x hx
  obtain ⟨j, hj, rfl⟩ := List.getElem_of_mem hx
  have := hpre j hj
  rw [List.getD_eq_getElem?_getD, List.getElem?_eq_getElem hj, Option.getD_some] at this
  simpa using this
theorem c_IndexFunc_lead (v s : List Int) (hs : ∀ i ∈ s, 0 ≤ i ∧ i < v.length) (hl : s.length ≤ 9223372036854775807) : FunA B 78 [.sl false .int s, .clo 46 (.row true) v] (fun rs o => rs = [.int .i64 (ixF (fun i => decide (v.getD i.toNat 0 < 0)) s)] ∧ o = []) := by
  refine FunA.walk B_ok (fn := Tryz.f78) (fun vs w => Tryz.call78 vs w) Tryz.func78 rfl (by rw [Tryz.ntmps78]; simp) (fun C hC hP hT hΓ hbt hfn hpin hfin => ?_); have hX := BX; rw [← hΓ, ← hbt.1, ← hbt.2.1, ← hbt.2.2.1] at hX; rw [hT] at hX; rw [Tryz.ntmps78]; simp only [AW7, simprocAttr, hX]
  refine Run.R ?_
  refine Run.R ?_
  refine Run.reK hpin [0, 1, 7, 8] [] (by decide) (by simp) ?_; simp only [AR, AW7, simprocAttr]
  refine Run.loopI (X := Nat) (fun k => ⟨19, [(0, true, .v (.sl false .int (s))), (1, true, .v (.clo 46 (.row true) v)), (7, true, .v (.int .i64 ((s.length : Nat)))), (8, true, .v (.int .i64 (k)))], []⟩) (fun k => k ≤ s.length ∧ ∀ j, j < k → (fun i : Int => decide (v.getD i.toNat 0 < 0)) (s.getD j 0) = false) (fun k => s.length - k) (0) (⟨Nat.zero_le _, fun j hj => by omega⟩) ?_ ?_
  · exact Le.sub (by first | rfl | simp) (by simp only [AW7, simprocAttr, hX]; try simp <;> try (first | rfl | exact ⟨rfl, rfl⟩ | exact ⟨rfl, rfl, rfl⟩))
  rintro k ⟨hk, hpre⟩ ih
  try simp only []
  refine Run.R ?_
  refine Run.nq ?_; refine Run.cW ?_ ?_
  rotate_left
  · intro h
    have h : k = s.length := by rw [decide_eq_false_iff_not] at h; omega
    subst h
    refine Run.exit rfl ?_; refine Run.nq ?_
    refine Run.R ?_
    refine Run.rW [4] (hfin _ _ rfl rfl ?_)
    refine ⟨?_, rfl⟩
    unfold ixF
    rw [any_noneF hpre]; rfl
  intro h
  have h : k < s.length := by rw [decide_eq_true_eq] at h; omega
  have hm : s.getD k 0 ∈ s := by rw [List.getD_eq_getElem?_getD, List.getElem?_eq_getElem h]; exact List.getElem_mem _
  have hx := hs _ hm
  have hhit := ixF_hit (p := fun i : Int => decide (v.getD i.toNat 0 < 0)) h
  refine Run.R ?_
  refine Run.nq ?_; refine Run.regionW hC (fun K hK => ?_); simp only [AW7, simprocAttr, hX]
  refine ⟨⟨by omega, by omega⟩, ?_⟩
  refine (show Go.Aw.inN 19 (some 16) ∧ True ∧ ACall _ _ 46 _ _ from ⟨?_, trivial, ?_⟩)
  · simp only [AW7, simprocAttr, hX]
  refine FunA.cW hP hT (c_impl_CosetLeaders1 v (s.getD k 0) hx) ?_
  rintro rs o ⟨rfl, rfl⟩
  refine wW ?_
  refine wE ?_; clear hK K
  refine Run.nq ?_; refine Run.cW ?_ ?_
  · intro h2
    refine Run.R ?_
    refine Run.rW [4] (hfin _ _ rfl rfl ?_)
    exact ⟨by rw [hhit h2 hpre], rfl⟩
  · intro h2
    refine Run.RW ?_
    refine Run.reK hpin [0, 1, 7, 8] [] (by decide) (by simp) ?_; simp only [AR, AW7, simprocAttr]
    refine Run.le ?_ (ih (k + 1) (⟨h, fun j hj => (by
      by_cases e : j = k
      · subst e; exact h2
      · exact hpre j (by omega))⟩) (by (try simp only [List.length_append, List.length_cons, List.length_nil]); omega))
    exact Le.sub (by rfl) (by simp only [AW7, simprocAttr]; try simp)
theorem c_ContainsFunc_lead (v s : List Int) (hs : ∀ i ∈ s, 0 ≤ i ∧ i < v.length) (hl : s.length ≤ 9223372036854775807) : FunA B 45 [.sl false .int s, .clo 46 (.row true) v] (fun rs o => rs = [.bool (s.any fun i => decide (v.getD i.toNat 0 < 0))] ∧ o = []) := by
  refine FunA.walk B_ok (fn := Tryz.f45) (fun vs w => Tryz.call45 vs w) Tryz.func45 rfl (by rw [Tryz.ntmps45]; simp) (fun C hC hP hT hΓ hbt hfn hpin hfin => ?_); have hX := BX; rw [← hΓ, ← hbt.1, ← hbt.2.1, ← hbt.2.2.1] at hX; rw [hT] at hX; rw [Tryz.ntmps45]; simp only [AW7, simprocAttr, hX]
  refine Run.R ?_
  refine Run.nq ?_; refine Run.regionW hC (fun K hK => ?_); refine wW ?_
  refine FunA.cW hP hT (c_IndexFunc_lead v s hs hl) ?_
  rintro rs o ⟨rfl, rfl⟩
  refine wW ?_
  refine wE ?_; clear hK K
  refine Run.rW [4] (hfin _ _ rfl rfl ?_)
  refine ⟨?_, rfl⟩
  unfold ixF
  cases s.any fun i => decide (v.getD i.toNat 0 < 0)
  · rfl
  · rw [if_pos rfl, decide_eq_true (by omega)]
theorem c_imageF (c : List (List Int)) (w : List Int) (hc : CartanP c) (hw : letters c.length w) (hl : w.length ≤ 31) : FunA B 44 [.sl false (.row false) c, .sl false .int w] (fun rs o => ∃ xs, xs = imageL c w ∧ rs = [.sl true .int xs] ∧ o = []) :=
  FunA.frozenX (e := .int) (P := fun xs : List Int => xs = imageL c w) rfl ((c_impl_image c w hc hw hl).mono fun rs o ⟨h1, h2⟩ => ⟨h1, _, rfl, h2⟩)
set_option maxHeartbeats 1000000 in
theorem c_impl_CosetLeadersR (c : List (List Int)) (s : List Int) (hcl : c.length ≤ 1048576) : FunA BJ 18 [.sl false (.row false) c, .sl false .int s] (fun rs o => ∃ ys g nn rest, (rw2 ys = clX c s ∧ nn = true ∧ rest = [.bool (clB c s)]) ∧ (lb1 ys).Nodup ∧ rest.all flatAV = true ∧ rs = .own 0 g :: rest ∧ o = [.arr .lrow ys g nn]) := by
  refine FunA.walk BJ_ok (fn := Tryz.f18) (fun vs w => Tryz.call18 vs w) Tryz.func18 rfl (by rw [Tryz.ntmps18]; simp) (fun C hC hP hT hΓ hbt hfn hpin hfin => ?_); haveI hDJ : DrLe BJ C := ⟨fun h => by rw [hbt.2.2.2] at h; cases h⟩; have hPJ := hP; have hTJ := hT; replace hP : B.P = C.P := hP; replace hT : B.tid = C.tid := hT; have hX := BXJ; rw [← hΓ, ← hbt.1, ← hbt.2.1, ← hbt.2.2.1] at hX; rw [hTJ] at hX; rw [Tryz.ntmps18]; simp only [AW7, simprocAttr, hX]
  refine Run.len 1 rfl fun hlens => ?_
  refine Run.R ?_
  cases he : elsB c 200 with
  | false =>
    have hb : clB c s = false := by unfold clB; rw [he]; rfl
    refine Run.nq ?_; refine Run.regionW hC (fun K hK => ?_); refine wW ?_
    refine FunA.cW hPJ hTJ (c_impl_ElementsOf0 c he) ?_
    rintro rs o ⟨rfl, rfl⟩
    refine wW ?_
    refine wE ?_; clear hK K
    refine Run.nq ?_; refine Run.regionW hC (fun K hK => ?_); refine wW ?_
    refine .inl (CallG.off (.bool false) ?_)
    refine wW ?_
    refine wE ?_; clear hK K
    refine Run.nq ?_; refine Run.cW ?_ ?_
    rotate_left
    · intro h; cases h
    intro _
    refine Run.R ?_
    refine Run.reK hpin [4, 5] [1] (by decide) (by simp) ?_; simp only [AR, AW7, simprocAttr]
    refine Run.rW [4, 5] (hfin _ _ rfl rfl ?_)
    exact ⟨[], 0, true, [.bool (clB c s)], ⟨by unfold clX; rw [hb]; rfl, rfl, rfl⟩, by simp [lb1], rfl, by rw [hb], rfl⟩
  | true =>
    obtain ⟨hF, _, hl200, _⟩ := elsB_fin he (by omega)
    have hc := hF.1
    have hn := hc.2.1
    have hall := allL_spec hF
    have hsz := els_sizeI he
    refine Run.nq ?_; refine Run.regionW hC (fun K hK => ?_); refine wW ?_
    refine FunA.cW hPJ hTJ (c_impl_ElementsOf1 c he) ?_
    rintro rs o ⟨zs, ⟨hz, hzn⟩, rfl, rfl⟩
    have hzl : zs.length = (allL c).length := by rw [← hz, rwl]
    refine wW ?_
    refine wE ?_; clear hK K
    refine Run.nq ?_; refine Run.regionW hC (fun K hK => ?_); refine wW ?_
    refine .inl (FunA.callG hP hT (c_impl_IsSet c s hcl) (fun _ => rfl) (fun _ => by simp only [AW7, simprocAttr]) ?_)
    refine wW ?_
    refine wE ?_; clear hK K
    refine Run.nq ?_; refine Run.cW ?_ ?_
    · intro h
      have hi : isSetB c s = false := by simpa using h
      have hb : clB c s = false := by unfold clB; rw [hi, Bool.and_false]
      refine Run.R ?_
      refine Run.reK hpin [4, 5] [0] (by decide) (by simp) ?_; simp only [AR, AW7, simprocAttr]
      refine Run.rW [4, 5] (hfin _ _ rfl rfl ?_)
      exact ⟨[], 0, true, [.bool (clB c s)], ⟨by unfold clX; rw [hb]; rfl, rfl, rfl⟩, by simp [lb1], rfl, by rw [hb], rfl⟩
    intro h
    have hi : isSetB c s = true := by simpa using h
    have hb : clB c s = true := by unfold clB; rw [he, hi]; rfl
    have hsl := isSet_letters hi
    refine Run.R ?_
    refine Run.R ?_
    refine Run.reK hpin [0, 1, 8, 27, 28, 29] [0] (by decide) (by simp) ?_; simp only [AR, AW7, simprocAttr]
    refine Run.loopI (X := Nat) (fun k => ⟨46, [(0, true, .v (.sl false (.row false) (c))), (1, true, .v (.sl false .int (s))), (8, true, .v (.own 0 0)), (27, true, .v (.sl true .lrow (zs))), (28, true, .v (.int .i64 ((zs.length : Nat)))), (29, true, .v (.int .i64 (k)))], [.arr .lrow (((zs.take k).filter fun p => noLd c s p.2)) 0 true]⟩) (fun k => k ≤ zs.length) (fun k => zs.length - k) (0) (Nat.zero_le _) ?_ ?_
    · exact Le.sub (by first | rfl | simp) (by simp only [AW7, simprocAttr, hX]; try simp <;> try (first | rfl | exact ⟨rfl, rfl⟩ | exact ⟨rfl, rfl, rfl⟩))
    rintro k hk ih
    try simp only []
    refine Run.R ?_
    refine Run.nq ?_; refine Run.cW ?_ ?_
    rotate_left
    · intro h
      have h : k = zs.length := by rw [decide_eq_false_iff_not] at h; omega
      refine Run.exit rfl ?_; refine Run.nq ?_
      refine Run.R ?_
      refine Run.reK hpin [4, 5] [0] (by decide) (by simp) ?_; simp only [AR, AW7, simprocAttr]
      refine Run.rW [4, 5] (hfin _ _ rfl rfl ?_)
      refine ⟨_, 0, true, [.bool (clB c s)], ⟨?_, rfl, rfl⟩, filt_nodup _ hzn _, rfl, by rw [hb], rfl⟩
      rw [h, List.take_length, filt_rows, hz]
      unfold clX; rw [hb]; rfl
    intro h
    have h : k < zs.length := by rw [decide_eq_true_eq] at h; omega
    have hst := filt_step (fun p : Nat × List Int => noLd c s p.2) (0, []) zs k h
    have hfl := filt_len (fun p : Nat × List Int => noLd c s p.2) zs k
    generalize (zs.take k).filter (fun p : Nat × List Int => noLd c s p.2) = out at hst hfl ⊢
    have hob : (out.length + 1) * 24 ≤ 140737488355328 := by omega
    have hgw := rwg zs k
    have hwm : (rw2 zs).getD k [] ∈ allL c := by rw [← hz]; exact mem_rwk.2 ⟨k, h, rfl⟩
    have hnf := (hall.2 _).1 hwm
    rw [hgw] at hst
    refine Run.R ?_
    try simp only [hgw]
    generalize (rw2 zs).getD k [] = w at *
    have hvl : (imageL c w).length = c.length := imageL_length c w
    refine Run.nq ?_; refine Run.regionW hC (fun K hK => ?_); refine wW ?_
    refine FunA.cW hP hT (c_imageF c w hc hnf.1 (by have := hnf.2.2; omega)) ?_
    rintro rs o ⟨v, rfl, rfl, rfl⟩
    refine wW ?_
    refine wE ?_; clear hK K
    refine Run.letgoR 1 11 rfl rfl ?_
    refine Run.nq ?_; refine Run.regionW hC (fun K hK => ?_); refine wW ?_
    refine FunA.cW hP hT (c_ContainsFunc_lead (imageL c w) s (fun i hi => by have := hsl i hi; omega) (by omega)) ?_
    rintro rs o ⟨rfl, rfl⟩
    refine wW ?_
    refine wE ?_; clear hK K
    have hnl : (!s.any fun i => decide ((imageL c w).getD i.toNat 0 < 0)) = noLd c s w := rfl
    rw [hnl]
    refine Run.nq ?_; refine Run.cW ?_ ?_
    · intro h3
      rw [h3, if_pos rfl, show zs.getD k (0, []) = ((zs.getD k (0, [])).1, w) from Prod.ext rfl hgw] at hst
      refine Run.R ?_
      refine Run.RW ?_
      refine Run.reK hpin [0, 1, 8, 27, 28, 29] [0] (by decide) (by simp) ?_; simp only [AR, AW7, simprocAttr]
      refine Run.le ?_ (ih (k + 1) (h) (by (try simp only [List.length_append, List.length_cons, List.length_nil]); omega))
      exact Le.sub (by first | rfl | (simp only [hst]; done) | (rw [hst]; rfl)) (by simp only [AW7, simprocAttr]; try simp)
    · intro h3
      rw [h3, if_neg (by decide), List.append_nil] at hst
      refine Run.RW ?_
      refine Run.reK hpin [0, 1, 8, 27, 28, 29] [0] (by decide) (by simp) ?_; simp only [AR, AW7, simprocAttr]
      refine Run.le ?_ (ih (k + 1) (h) (by (try simp only [List.length_append, List.length_cons, List.length_nil]); omega))
      exact Le.sub (by first | rfl | (simp only [hst]; done) | (rw [hst]; rfl)) (by simp only [AW7, simprocAttr]; try simp)
set_option maxHeartbeats 1000000 in
theorem c_spec_CosetLeadersR (c : List (List Int)) (s : List Int) (hcl : c.length ≤ 1048576) : FunA B 16 [.sl false (.row false) c, .sl false .int s] (fun rs o => ∃ ys g nn rest, (rw2 ys = clX c s ∧ nn = true ∧ rest = [.bool (clB c s)]) ∧ (lb1 ys).Nodup ∧ rest.all flatAV = true ∧ rs = .own 0 g :: rest ∧ o = [.arr .lrow ys g nn]) := by
  refine FunA.walk B_ok (fn := Tryz.f16) (fun vs w => Tryz.call16 vs w) Tryz.func16 rfl (by rw [Tryz.ntmps16]; simp) (fun C hC hP hT hΓ hbt hfn hpin hfin => ?_); have hX := BX; rw [← hΓ, ← hbt.1, ← hbt.2.1, ← hbt.2.2.1] at hX; rw [hT] at hX; rw [Tryz.ntmps16]; simp only [AW7, simprocAttr, hX]
  refine Run.R ?_
  refine Run.R ?_
  refine Run.nq ?_; refine Run.regionW hC (fun K hK => ?_); refine wW ?_
  refine FunA.cW hP hT (c_spec_ElementsOf c) ?_
  rintro rs o ⟨rfl, zs, ⟨hz, hzn⟩, rfl⟩
  refine wW ?_
  refine wE ?_; clear hK K
  cases he : elsB c 200 with
  | false =>
    have hb : clB c s = false := by unfold clB; rw [he]; rfl
    refine Run.nq ?_; refine Run.regionW hC (fun K hK => ?_); refine wW ?_
    refine .inl (CallG.off (.bool false) ?_)
    refine wW ?_
    refine wE ?_; clear hK K
    refine Run.nq ?_; refine Run.cW ?_ ?_
    rotate_left
    · intro h; cases h
    intro _
    refine Run.R ?_
    refine Run.reK hpin [4, 5] [0] (by decide) (by simp) ?_; simp only [AR, AW7, simprocAttr]
    refine Run.rW [4, 5] (hfin _ _ rfl rfl ?_)
    exact ⟨[], 0, true, [.bool (clB c s)], ⟨by unfold clX; rw [hb]; rfl, rfl, rfl⟩, by simp [lb1], rfl, by rw [hb], rfl⟩
  | true =>
    rw [he, if_pos rfl] at hz
    obtain ⟨hF, _, hl200, _⟩ := elsB_fin he (by omega)
    have hc := hF.1
    have hn := hc.2.1
    have hall := allL_spec hF
    have hsz := els_sizeI he
    have hzl : zs.length = (allL c).length := by rw [← hz, rwl]
    refine Run.nq ?_; refine Run.regionW hC (fun K hK => ?_); refine wW ?_
    refine .inl (FunA.callG hP hT (c_spec_l3Set c s hcl) (fun _ => rfl) (fun _ => by simp only [AW7, simprocAttr]) ?_)
    refine wW ?_
    refine wE ?_; clear hK K
    refine Run.nq ?_; refine Run.cW ?_ ?_
    · intro h
      have hi : isSetB c s = false := by simpa using h
      have hb : clB c s = false := by unfold clB; rw [hi, Bool.and_false]
      refine Run.R ?_
      refine Run.reK hpin [4, 5] [0] (by decide) (by simp) ?_; simp only [AR, AW7, simprocAttr]
      refine Run.rW [4, 5] (hfin _ _ rfl rfl ?_)
      exact ⟨[], 0, true, [.bool (clB c s)], ⟨by unfold clX; rw [hb]; rfl, rfl, rfl⟩, by simp [lb1], rfl, by rw [hb], rfl⟩
    intro h
    have hi : isSetB c s = true := by simpa using h
    have hb : clB c s = true := by unfold clB; rw [he, hi]; rfl
    refine Run.R ?_
    refine Run.reK hpin [0, 1, 6, 7, 9] [0, 1] (by decide) (by simp) ?_; simp only [AR, AW7, simprocAttr]
    refine Run.loopI (X := Nat) (fun k => ⟨59, [(0, true, .v (.sl false (.row false) (c))), (1, true, .v (.sl false .int (s))), (6, true, .v (.own 0 0)), (7, true, .v (.own 1 0)), (9, true, .v (.int .i64 (k)))], [.arr .lrow (((zs.take k).filter fun p => noLd c s p.2)) 0 true, .arr .lrow (zs) 0 true]⟩) (fun k => k ≤ zs.length) (fun k => zs.length - k) (0) (Nat.zero_le _) ?_ ?_
    · exact Le.sub (by first | rfl | simp) (by simp only [AW7, simprocAttr, hX]; try simp <;> try (first | rfl | exact ⟨rfl, rfl⟩ | exact ⟨rfl, rfl, rfl⟩))
    rintro k hk ih
    try simp only []
    refine Run.R ?_
    refine Run.nq ?_; refine Run.cW ?_ ?_
    rotate_left
    · intro h
      have h : k = zs.length := by rw [decide_eq_false_iff_not] at h; omega
      refine Run.exit rfl ?_; refine Run.nq ?_
      refine Run.R ?_
      refine Run.reK hpin [4, 5] [0] (by decide) (by simp) ?_; simp only [AR, AW7, simprocAttr]
      refine Run.rW [4, 5] (hfin _ _ rfl rfl ?_)
      refine ⟨_, 0, true, [.bool (clB c s)], ⟨?_, rfl, rfl⟩, filt_nodup _ hzn _, rfl, by rw [hb], rfl⟩
      rw [h, List.take_length, filt_rows, hz]
      unfold clX; rw [hb]; rfl
    intro h
    have h : k < zs.length := by rw [decide_eq_true_eq] at h; omega
    have hst := filt_step (fun p : Nat × List Int => noLd c s p.2) (0, []) zs k h
    have hfl := filt_len (fun p : Nat × List Int => noLd c s p.2) zs k
    generalize (zs.take k).filter (fun p : Nat × List Int => noLd c s p.2) = out at hst hfl ⊢
    have hob : (out.length + 1) * 24 ≤ 140737488355328 := by omega
    have hgw := rwg zs k
    have hwm : (rw2 zs).getD k [] ∈ allL c := by rw [← hz]; exact mem_rwk.2 ⟨k, h, rfl⟩
    have hld := leader_iff hF hi hwm (short_all hF hsz hwm)
    rw [hgw] at hst
    have hyl := leftY_le c s ((rw2 zs).getD k [])
    generalize (rw2 zs).getD k [] = w at *
    refine Run.nq ?_; refine Run.regionW hC (fun K hK => ?_); refine wW ?_
    try simp only [hgw]
    refine FunA.cW hP hT (c_spec_LeftParts c s w hcl) ?_
    rintro rs o ⟨rfl, rfl⟩
    refine wW ?_
    refine wE ?_; clear hK K
    refine Run.nq ?_; refine Run.regionW hC (fun K hK => ?_); refine wW ?_
    try simp only [hgw]
    refine FunA.cW hP hT (c_spec_EqualWords (leftY c s w) w (by omega)) ?_
    rintro rs o ⟨rfl, rfl⟩
    rw [hld]
    refine wW ?_
    refine wE ?_; clear hK K
    refine Run.nq ?_; refine Run.cW ?_ ?_
    · intro h3
      rw [h3, if_pos rfl, show zs.getD k (0, []) = ((zs.getD k (0, [])).1, w) from Prod.ext rfl hgw] at hst
      refine Run.nq ?_; refine Run.regionW hC (fun K hK => ?_); refine wW ?_
      try simp only [hgw]
      refine wW ?_
      refine wE ?_; clear hK K
      refine Run.RW ?_
      refine Run.reK hpin [0, 1, 6, 7, 9] [0, 1] (by decide) (by simp) ?_; simp only [AR, AW7, simprocAttr]
      refine Run.le ?_ (ih (k + 1) (h) (by (try simp only [List.length_append, List.length_cons, List.length_nil]); omega))
      exact Le.sub (by first | rfl | (simp only [hst]; done) | (rw [hst]; rfl)) (by simp only [AW7, simprocAttr]; try simp)
    · intro h3
      rw [h3, if_neg (by decide), List.append_nil] at hst
      refine Run.RW ?_
      refine Run.reK hpin [0, 1, 6, 7, 9] [0, 1] (by decide) (by simp) ?_; simp only [AR, AW7, simprocAttr]
      refine Run.le ?_ (ih (k + 1) (h) (by (try simp only [List.length_append, List.length_cons, List.length_nil]); omega))
      exact Le.sub (by first | rfl | (simp only [hst]; done) | (rw [hst]; rfl)) (by simp only [AW7, simprocAttr]; try simp)
theorem c_impl_CosetLeaders (c : List (List Int)) (s : List Int) (hcl : c.length ≤ 1048576) : FunA BJ 18 [.sl false (.row false) c, .sl false .int s] (fun rs o => rs = [.own 0 0, .bool (clB c s)] ∧ ∃ hs, hs.length = (clX c s).length ∧ o = [.mat hs (clX c s) 0 true]) :=
  (FunA.mat (by rfl) (post := fun rows nn rest => rows = clX c s ∧ nn = true ∧ rest = [.bool (clB c s)]) (c_impl_CosetLeadersR c s hcl)).mono fun rs o ⟨hs, rows, nn, rest, ⟨h1, h2, h3⟩, h4, h5, h6⟩ => by subst h1 h2 h3; exact ⟨h5, hs, h4, h6⟩
theorem c_spec_CosetLeaders (c : List (List Int)) (s : List Int) (hcl : c.length ≤ 1048576) : FunA B 16 [.sl false (.row false) c, .sl false .int s] (fun rs o => rs = [.own 0 0, .bool (clB c s)] ∧ ∃ hs, hs.length = (clX c s).length ∧ o = [.mat hs (clX c s) 0 true]) :=
  (FunA.mat (by rfl) (post := fun rows nn rest => rows = clX c s ∧ nn = true ∧ rest = [.bool (clB c s)]) (c_spec_CosetLeadersR c s hcl)).mono fun rs o ⟨hs, rows, nn, rest, ⟨h1, h2, h3⟩, h4, h5, h6⟩ => by subst h1 h2 h3; exact ⟨h5, hs, h4, h6⟩
end Go.Proofs.YtaghdbbcadhjdaaGreatDoor
namespace Go.Proofs.YtaghdbbcadhjdaaGreatDoor
open Go Go.Aw
theorem sumL_le {rows : List (List Int)} {n m : Nat} (h : rows.length ≤ n) (hr : ∀ r ∈ rows, r.length ≤ m) : sumL rows ≤ n * m := by
  have key : ∀ l : List (List Int), (∀ r ∈ l, r.length ≤ m) → sumL l ≤ l.length * m := by
    intro l
    induction l with
    | nil => intro _; simp [sumL]
    | cons r l ih =>
      intro hl
      have h1 := hl r (by simp)
      have h2 := ih fun x hx => hl x (List.mem_cons_of_mem _ hx)
      simp only [sumL, List.length_cons, Nat.add_mul]
      omega
  exact Nat.le_trans (key rows hr) (Nat.mul_le_mul_right m h)
theorem c_heldIotaR (k : Int) (rows : List (List Int)) (hr : rows.length ≤ 4503599627370496) (hrr : ∀ r ∈ rows, r.length ≤ 4503599627370496) (hk : 0 ≤ k ∧ k + sumL rows ≤ 4503599627370496) :
    FunA B 15 [.sl false (.row false) (iotaR k rows), .int .i64 k] (fun rs o => rs = [.int .i64 (k + sumL rows)] ∧ o = []) := by
  have hlen := iotaR_length k rows
  refine FunA.walk B_ok (fn := Tryz.f15) (fun vs w => Tryz.call15 vs w) Tryz.func15 rfl (by rw [Tryz.ntmps15]; simp) (fun C hC hP hT hΓ hbt hfn hpin hfin => ?_); have hX := BX; rw [← hΓ, ← hbt.1, ← hbt.2.1, ← hbt.2.2.1] at hX; rw [hT] at hX; rw [Tryz.ntmps15]; simp only [AW7, simprocAttr, hX]
  refine Run.R ?_
  refine Run.R ?_
  refine Run.loopI (X := Nat) (fun i => ⟨21, [(0, true, .v (.sl false (.row false) (iotaR k rows))), (1, true, .v (.int .i64 (k + sumL (rows.take i)))), (4, true, .v (.int .i64 0)), (5, true, .v (.int .i64 i))], []⟩) (fun i => i ≤ rows.length) (fun i => rows.length - i) 0 (Nat.zero_le _) ?_ ?_
  · refine Le.sub rfl ?_
    simp only [AW7, simprocAttr, hX]; try simp [sumL]
  rintro i hi ih
  have hst := sumL_take rows i
  refine Run.R ?_
  rw [hlen]
  refine Run.nq ?_; refine Run.cW ?_ ?_
  · intro hc
    have hc : i < rows.length := by simpa using hc
    have hsn := sumL_snoc rows i hc
    have hst2 := sumL_take rows (i + 1)
    have hget : (iotaR k rows).getD i [] = iota (k + sumL (rows.take i)) (rows.getD i []).length := by
      have h1 : iotaR k rows = iotaR k (rows.take (i + 1)) ++ iotaR (k + sumL (rows.take (i + 1))) (rows.drop (i + 1)) := by rw [← iotaR_append, List.take_append_drop]
      rw [h1, iotaR_snoc k rows i hc, List.append_assoc, List.getD_eq_getElem?_getD, List.getElem?_append_right (by rw [iotaR_length]; simp; omega)]
      rw [iotaR_length]
      simp [show min i rows.length = i by omega]
    have hrl := hrr (rows.getD i []) (by rw [List.getD_eq_getElem?_getD]; simp [hc])
    refine Run.nq ?_; refine Run.regionW hC (fun K hK => ?_); refine wW ?_
    rw [hget]
    refine FunA.cW hP hT (c_heldIota (k + sumL (rows.take i)) (rows.getD i []).length hrl (by omega)) ?_
    rintro rs o ⟨rfl, rfl⟩
    refine wW ?_
    refine wE ?_; clear hK K
    refine Run.R ?_
    refine Run.nq ?_; refine Run.cW ?_ ?_
    · intro h2; simp at h2; omega
    intro h2
    refine Run.RW ?_
    rw [show k + (sumL (rows.take i) : Int) + ((rows.getD i []).length : Nat) = k + (sumL (rows.take (i + 1)) : Nat) by rw [hsn]; omega]
    refine Run.le ?_ (ih (i + 1) (by omega) (by (try simp only [List.length_append, List.length_cons, List.length_nil]); omega))
    exact Le.sub (by rfl) (by simp only [AW7, simprocAttr]; try simp)
  · intro hc
    have hc : i = rows.length := by simp at hc; omega
    subst hc
    rw [List.take_length]
    refine Run.exit rfl ?_; refine Run.nq ?_
    refine Run.R ?_
    refine Run.rW [4] (hfin _ _ rfl rfl ?_)
    exact ⟨rfl, rfl⟩
end Go.Proofs.YtaghdbbcadhjdaaGreatDoor
namespace Go.Proofs.YtaghdbbcadhjdaaGreatDoor
open Go Go.Aw
theorem c_FnExactCosetLeaders (c : List (List Int)) (s : List Int) (_ : ∀ r ∈ c, ∀ n ∈ r, (Lit.int .i64 n).wf = true) (_ : ∀ n ∈ s, (Lit.int .i64 n).wf = true) : FunA BJ 4 [.sl false (.row false) c, .sl false .int s] (fun rs _ => rs = [.bool true]) := by
  refine FunA.walk BJ_ok (fn := Tryz.f4) (fun vs w => Tryz.call4 vs w) Tryz.func4 rfl (by rw [Tryz.ntmps4]; simp) (fun C hC hP hT hΓ hbt hfn hpin hfin => ?_); haveI hDJ : DrLe BJ C := ⟨fun h => by rw [hbt.2.2.2] at h; cases h⟩; have hPJ := hP; have hTJ := hT; replace hP : B.P = C.P := hP; replace hT : B.tid = C.tid := hT; have hX := BXJ; rw [← hΓ, ← hbt.1, ← hbt.2.1, ← hbt.2.2.1] at hX; rw [hTJ] at hX; rw [Tryz.ntmps4]; simp only [AW7, simprocAttr, hX]
  refine Run.R ?_
  refine Run.keep [0, 1, 4] ?_; simp only [AK, Nat.reduceBEq]
  refine Run.R ?_
  refine Run.keep [0, 1, 4, 19] ?_; simp only [AK, Nat.reduceBEq]
  refine Run.nq ?_; refine Run.cW ?_ ?_
  · intro hc
    refine Run.R ?_
    refine Run.rW [4] (hfin _ _ rfl rfl ?_)
    rfl
  intro hc
  have hs : s.length ≤ 1048576 := by simp at hc; omega
  clear hc
  refine Run.R ?_
  refine Run.keep [0, 1, 4, 5] ?_; simp only [AK, Nat.reduceBEq]
  refine Run.nq ?_; refine Run.regionW hC (fun K hK => ?_); refine wW ?_
  refine FunA.cW hP hT (c_szIntSS c (1048576) ⟨by omega, by omega⟩) ?_
  rintro rs o ⟨rfl, rfl⟩
  refine wW ?_
  refine wE ?_; clear hK K
  refine Run.keep [0, 1, 4, 5] ?_; simp only [AK, Nat.reduceBEq]
  refine Run.R ?_
  refine Run.keep [0, 1, 4, 5, 24] ?_; simp only [AK, Nat.reduceBEq]
  refine Run.nq ?_; refine Run.cW ?_ ?_
  · intro hc
    refine Run.R ?_
    refine Run.rW [4] (hfin _ _ rfl rfl ?_)
    rfl
  intro hc
  have hzc : 0 ≤ szII c (1048576) := by simp at hc; omega
  clear hc
  have hbc := szII_all c (1048576) ⟨by omega, by omega⟩ hzc
  obtain ⟨hcn, hcr, hcs, hcl⟩ := hbc
  refine Run.nq ?_; refine Run.regionW hC (fun K hK => ?_); refine wW ?_
  refine FunA.cW hP hT (c_toIntSS c hcn hcr) ?_
  rintro rs o ⟨rfl, hs1, hs1l, rfl⟩
  refine wW ?_
  refine FunA.cW hP hT (c_toIntS s hs) ?_
  rintro rs o ⟨rfl, rfl⟩
  refine wW ?_
  refine FunA.cW hP hT (c_spec_CosetLeaders c s hcn) ?_
  rintro rs o ⟨rfl, hs2, hs2l, rfl⟩
  refine wW ?_
  refine wE ?_; clear hK K
  refine Run.keep [0, 1, 4, 5, 6, 7] ?_; simp only [AK, Nat.reduceBEq]
  refine Run.nq ?_; refine Run.regionW hC (fun K hK => ?_); refine wW ?_
  refine FunA.cW hP hT (c_toIntSS c hcn hcr) ?_
  rintro rs o ⟨rfl, hs3, hs3l, rfl⟩
  refine wW ?_
  refine wE ?_; clear hK K
  refine Run.keep [0, 1, 4, 5, 6, 7, 8] ?_; simp only [AK, Nat.reduceBEq]
  refine Run.nq ?_; refine Run.regionW hC (fun K hK => ?_); refine wW ?_
  refine FunA.cW hP hT (c_toIntS s hs) ?_
  rintro rs o ⟨rfl, rfl⟩
  refine wW ?_
  refine wE ?_; clear hK K
  refine Run.keep [0, 1, 4, 5, 6, 7, 8, 9] ?_; simp only [AK, Nat.reduceBEq]
  refine Run.nq ?_; refine Run.regionW hC (fun K hK => ?_); refine wW ?_
  refine FunA.cW hPJ hTJ (c_impl_CosetLeaders c s hcn) ?_
  rintro rs o ⟨rfl, hs4, hs4l, rfl⟩
  refine wW ?_
  refine wE ?_; clear hK K
  refine Run.keep [0, 1, 4, 5, 6, 7, 8, 9, 10, 11] ?_; simp only [AK, Nat.reduceBEq]
  refine Run.nq ?_; refine Run.regionW hC (fun K hK => ?_); refine wW ?_
  refine FunA.cW hP hT (c_eqIntSS (clX c s) (clX c s) (by have := clX_len c s; omega) (fun r hr => by have := clX_rows c s r hr; omega)) ?_
  rintro rs o ⟨rfl, rfl⟩
  refine wW ?_
  refine wE ?_; clear hK K
  refine Run.keep [0, 1, 4, 5, 6, 7, 8, 9, 10, 11, 51] ?_; simp only [AK, Nat.reduceBEq]
  refine Run.nq ?_; refine Run.cW ?_ ?_
  · intro hc
    exfalso
    simp [iota_length, sumL_iotaR] at hc <;> omega
  intro hc0; clear hc0
  refine Run.nq ?_; refine Run.regionW hC (fun K hK => ?_); refine wW ?_
  refine FunA.cW hP hT (c_toIntSS c hcn hcr) ?_
  rintro rs o ⟨rfl, hs5, hs5l, rfl⟩
  refine wW ?_
  refine FunA.cW hP hT (c_eqIntSS (c) (c) (by omega) (fun r hr => by have := hcr r hr; omega)) ?_
  rintro rs o ⟨rfl, rfl⟩
  refine wW ?_
  refine wE ?_; clear hK K
  refine Run.keep [0, 1, 4, 5, 6, 7, 8, 9, 10, 11, 56] ?_; simp only [AK, Nat.reduceBEq]
  refine Run.nq ?_; refine Run.cW ?_ ?_
  · intro hc
    exfalso
    simp [iota_length, sumL_iotaR] at hc <;> omega
  intro hc0; clear hc0
  refine Run.nq ?_; refine Run.regionW hC (fun K hK => ?_); refine wW ?_
  refine FunA.cW hP hT (c_toIntS s hs) ?_
  rintro rs o ⟨rfl, rfl⟩
  refine wW ?_
  refine FunA.cW hP hT (c_eqIntS (s) (s) (by omega)) ?_
  rintro rs o ⟨rfl, rfl⟩
  refine wW ?_
  refine wE ?_; clear hK K
  refine Run.keep [0, 1, 4, 5, 6, 7, 8, 9, 10, 11, 61] ?_; simp only [AK, Nat.reduceBEq]
  refine Run.nq ?_; refine Run.cW ?_ ?_
  · intro hc
    exfalso
    simp [iota_length, sumL_iotaR] at hc <;> omega
  intro hc0; clear hc0
  refine Run.R ?_
  refine Run.keep [0, 1, 4, 5, 6, 7, 8, 9, 10, 11, 12] ?_; simp only [AK, Nat.reduceBEq]
  refine Run.nq ?_; refine Run.regionW hC (fun K hK => ?_); refine wW ?_
  refine FunO.callMat hP hT (c_markIntSS hs3 (c) 1 (by omega) (by omega) true) 3 0 (by simp only [AW7, simprocAttr]; rfl) (by simp) (by simp only [AW7, simprocAttr]) ?_
  rintro rs o o2 ⟨rfl, h⟩; obtain ⟨rfl, rfl⟩ := List.cons.inj h
  refine wW ?_
  refine wE ?_; clear hK K
  refine Run.keep [0, 1, 4, 5, 6, 7, 8, 9, 10, 11, 12] ?_; simp only [AK, Nat.reduceBEq]
  refine Run.nq ?_; refine Run.regionW hC (fun K hK => ?_); refine wW ?_
  refine FunM.call hP hT (c_markIntS (s) (1 + (sumL (c) : Int)) (by omega) (by omega) true) 4 0 (by simp only [AW7, simprocAttr]; rfl) (by simp) rfl (by simp only [AW7, simprocAttr]; try simp) ?_
  rintro rs o o2 ⟨rfl, h⟩; obtain ⟨rfl, rfl⟩ := List.cons.inj h
  refine wW ?_
  refine wE ?_; clear hK K
  refine Run.keep [0, 1, 4, 5, 6, 7, 8, 9, 10, 11, 12] ?_; simp only [AK, Nat.reduceBEq]
  refine Run.nq ?_; refine Run.regionW hC (fun K hK => ?_); refine wW ?_
  refine .inl (FunA.callG hP hT (c_eqIntSS (clX c s) (clX c s) (by have := clX_len c s; omega) (fun r hr => by have := clX_rows c s r hr; omega)) (fun _ => rfl) (fun _ => by simp only [AW7, simprocAttr]) ?_)
  refine wW ?_
  refine wE ?_; clear hK K
  refine Run.keep [0, 1, 4, 5, 6, 7, 8, 9, 10, 11, 12, 80] ?_; simp only [AK, Nat.reduceBEq]
  refine Run.nq ?_; refine Run.cW ?_ ?_
  · intro hc
    exfalso
    simp [iota_length, sumL_iotaR] at hc <;> omega
  intro hc0; clear hc0
  refine Run.R ?_
  refine Run.keep [0, 1, 4, 5, 6, 7, 8, 9, 10, 11, 12, 13] ?_; simp only [AK, Nat.reduceBEq]
  refine Run.nq ?_; refine Run.regionW hC (fun K hK => ?_); refine wW ?_
  refine FunO.callMat hP hT (c_markIntSS hs4 (clX c s) 1 (by have := clX_len c s; omega) (by have := sumL_le (clX_len c s) (clX_rows c s); omega) true) 5 0 (by simp only [AW7, simprocAttr]; rfl) (by simp) (by simp only [AW7, simprocAttr]) ?_
  rintro rs o o2 ⟨rfl, h⟩; obtain ⟨rfl, rfl⟩ := List.cons.inj h
  refine wW ?_
  refine wE ?_; clear hK K
  refine Run.keep [0, 1, 4, 5, 6, 7, 8, 9, 10, 11, 12, 13] ?_; simp only [AK, Nat.reduceBEq]
  refine Run.R ?_
  refine Run.keep [0, 1, 4, 5, 6, 7, 8, 9, 10, 11, 12, 13, 14] ?_; simp only [AK, Nat.reduceBEq]
  refine Run.nq ?_; refine Run.regionW hC (fun K hK => ?_); refine wW ?_
  refine FunA.cW hP hT (c_heldIotaR 1 (clX c s) (by have := clX_len c s; omega) (fun r hr => by have := clX_rows c s r hr; omega) (by have := sumL_le (clX_len c s) (clX_rows c s); omega)) ?_
  rintro rs o ⟨rfl, rfl⟩
  refine wW ?_
  refine wE ?_; clear hK K
  refine Run.keep [0, 1, 4, 5, 6, 7, 8, 9, 10, 11, 12, 13, 14] ?_; simp only [AK, Nat.reduceBEq]
  refine Run.R ?_
  refine Run.keep [0, 1, 4, 5, 6, 7, 8, 9, 10, 11, 12, 13, 14, 88] ?_; simp only [AK, Nat.reduceBEq]
  refine Run.nq ?_; refine Run.cW ?_ ?_
  · intro hc
    exfalso
    simp [iota_length, sumL_iotaR] at hc <;> omega
  intro hc0; clear hc0
  refine Run.R ?_
  refine Run.keep [0, 1, 4, 5, 6, 7, 8, 9, 10, 11, 12, 13, 14, 91] ?_; simp only [AK, Nat.reduceBEq]
  refine Run.nq ?_; refine Run.cW ?_ ?_
  · intro hc
    exfalso
    simp [iota_length, sumL_iotaR] at hc <;> omega
  intro hc0; clear hc0
  refine Run.nq ?_; refine Run.regionW hC (fun K hK => ?_); refine wW ?_
  refine FunA.cW hP hT (c_toIntSS c hcn hcr) ?_
  rintro rs o ⟨rfl, hs6, hs6l, rfl⟩
  refine wW ?_
  refine FunA.cW hP hT (c_toIntS s hs) ?_
  rintro rs o ⟨rfl, rfl⟩
  refine wW ?_
  refine FunA.cW hPJ hTJ (c_impl_CosetLeaders c s hcn) ?_
  rintro rs o ⟨rfl, hs7, hs7l, rfl⟩
  refine wW ?_
  refine wE ?_; clear hK K
  refine Run.keep [0, 1, 4, 5, 6, 7, 8, 9, 10, 11, 12, 13, 14, 15, 16] ?_; simp only [AK, Nat.reduceBEq]
  refine Run.nq ?_; refine Run.regionW hC (fun K hK => ?_); refine wW ?_
  refine FunA.cW hP hT (c_eqIntSS (clX c s) (clX c s) (by have := clX_len c s; omega) (fun r hr => by have := clX_rows c s r hr; omega)) ?_
  rintro rs o ⟨rfl, rfl⟩
  refine wW ?_
  refine wE ?_; clear hK K
  refine Run.keep [0, 1, 4, 5, 6, 7, 8, 9, 10, 11, 12, 13, 14, 15, 16, 108] ?_; simp only [AK, Nat.reduceBEq]
  refine Run.nq ?_; refine Run.cW ?_ ?_
  · intro hc
    exfalso
    simp [iota_length, sumL_iotaR] at hc <;> omega
  intro hc0; clear hc0
  refine Run.R ?_
  refine Run.keep [0, 1, 4, 5, 6, 7, 8, 9, 10, 11, 12, 13, 14, 15, 16] ?_; simp only [AK, Nat.reduceBEq]
  refine Run.nq ?_; refine Run.regionW hC (fun K hK => ?_); refine wW ?_
  refine FunA.cW hP hT (c_heldIotaR 1 (clX c s) (by have := clX_len c s; omega) (fun r hr => by have := clX_rows c s r hr; omega) (by have := sumL_le (clX_len c s) (clX_rows c s); omega)) ?_
  rintro rs o ⟨rfl, rfl⟩
  refine wW ?_
  refine wE ?_; clear hK K
  refine Run.keep [0, 1, 4, 5, 6, 7, 8, 9, 10, 11, 12, 13, 14, 15, 16] ?_; simp only [AK, Nat.reduceBEq]
  refine Run.R ?_
  refine Run.keep [0, 1, 4, 5, 6, 7, 8, 9, 10, 11, 12, 13, 14, 15, 16, 113] ?_; simp only [AK, Nat.reduceBEq]
  refine Run.nq ?_; refine Run.cW ?_ ?_
  · intro hc
    exfalso
    simp [iota_length, sumL_iotaR] at hc <;> omega
  intro hc0; clear hc0
  refine Run.R ?_
  refine Run.keep [0, 1, 4, 5, 6, 7, 8, 9, 10, 11, 12, 13, 14, 15, 16, 116] ?_; simp only [AK, Nat.reduceBEq]
  refine Run.nq ?_; refine Run.cW ?_ ?_
  · intro hc
    exfalso
    simp [iota_length, sumL_iotaR] at hc <;> omega
  intro hc0; clear hc0
  refine Run.R ?_
  refine Run.keep [0, 1, 4, 5, 6, 7, 8, 9, 10, 11, 12, 13, 14, 15, 16] ?_; simp only [AK, Nat.reduceBEq]
  refine Run.rW [4] (hfin _ _ rfl rfl ?_)
  rfl
end Go.Proofs.YtaghdbbcadhjdaaGreatDoor
