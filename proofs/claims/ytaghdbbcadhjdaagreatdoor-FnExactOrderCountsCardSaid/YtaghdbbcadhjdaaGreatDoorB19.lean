/- Weights, and reflections with positive roots: what the functions of both sides do. -/
import Derived.Test.YtaghdbbcadhjdaaGreatDoorB18
import Derived.Test.YtaghdbbcadhjdaaGreatDoorB11
import Derived.Test.YtaghdbbcadhjdaaGreatDoorB14
import Derived.Test.YtaghdbbcadhjdaaGreatDoorB7
import Derived.Test.YtaghdbbcadhjdaaGreatDoorB10
import Derived.Test.YtaghdbbcadhjdaaGreatDoorB16
import Derived.HandedShaped
import Derived.Handed
import Derived.Shelf.Vars
set_option linter.unusedVariables false
set_option linter.unusedSimpArgs false
namespace Go.Proofs.YtaghdbbcadhjdaaGreatDoor
open Go Go.Aw Go.Cox
theorem sgn_nonneg {r : List Int} (h : sgnR r = 1) : ∀ x ∈ r, 0 ≤ x := by
  intro x hx
  have h1 := (sgnR_one.1 h).2
  unfold negA at h1
  rw [List.any_eq_false] at h1
  have := h1 x hx
  simp at this
  exact this
theorem hgt_nonneg : ∀ {r : List Int}, (∀ x ∈ r, 0 ≤ x) → 0 ≤ hgt r ∧ ∀ x ∈ r, x ≤ hgt r
  | [], _ => by simp [hgt]
  | y :: r, h => by
    obtain ⟨h1, h2⟩ := hgt_nonneg (r := r) fun x hx => h x (List.mem_cons_of_mem _ hx)
    have h0 := h y (by simp)
    refine ⟨by simp only [hgt]; omega, fun x hx => ?_⟩
    simp only [hgt]
    rcases List.mem_cons.1 hx with rfl | hx
    · omega
    · have := h2 x hx; omega
theorem hgt_zero : ∀ {r : List Int}, (∀ x ∈ r, 0 ≤ x) → hgt r = 0 → r = List.replicate r.length 0
  | [], _, _ => rfl
  | y :: r, h, h0 => by
    have h1 := h y (by simp)
    obtain ⟨h2, _⟩ := hgt_nonneg (r := r) fun x hx => h x (List.mem_cons_of_mem _ hx)
    simp only [hgt] at h0
    have := hgt_zero (r := r) (fun x hx => h x (List.mem_cons_of_mem _ hx)) (by omega)
    rw [List.length_cons, List.replicate_succ, ← this]
    congr 1
    omega
theorem hgt_one : ∀ {r : List Int}, (∀ x ∈ r, 0 ≤ x) → hgt r = 1 → ∃ i, i < r.length ∧ r = simL r.length i
  | [], _, h => by simp [hgt] at h
  | y :: r, h, h0 => by
    have h1 := h y (by simp)
    obtain ⟨h2, _⟩ := hgt_nonneg (r := r) fun x hx => h x (List.mem_cons_of_mem _ hx)
    simp only [hgt] at h0
    by_cases hy : y = 1
    · refine ⟨0, by simp, ?_⟩
      have := hgt_zero (r := r) (fun x hx => h x (List.mem_cons_of_mem _ hx)) (by omega)
      simp only [simL, List.length_cons, List.replicate_succ, List.set_cons_zero]
      rw [← this, hy]
    · obtain ⟨i, hi, hr⟩ := hgt_one (r := r) (fun x hx => h x (List.mem_cons_of_mem _ hx)) (by omega)
      refine ⟨i + 1, by simp; omega, ?_⟩
      simp only [simL, List.length_cons, List.replicate_succ, List.set_cons_succ]
      simp only [simL] at hr
      rw [← hr]
      congr 1
      omega
theorem simL_get (n i k : Nat) (hi : i < n) : (simL n i).getD k 0 = if k = i then 1 else 0 := by
  unfold simL
  by_cases hk : k < n
  · rw [List.getD_eq_getElem?_getD, List.getElem?_set]
    by_cases h : i = k
    · subst h; simp [hi]
    · simp [h, Ne.symm h, hk]
  · rw [List.getD_eq_getElem?_getD, List.getElem?_eq_none (by simp; omega), if_neg (by omega)]; rfl
theorem simL_inj {n i j : Nat} (hi : i < n) (hj : j < n) (h : simL n i = simL n j) : i = j := by
  have h1 := simL_get n i i hi
  have h2 := simL_get n j i hj
  rw [h] at h1
  rw [h1, if_pos rfl] at h2
  by_cases hij : i = j
  · exact hij
  · rw [if_neg hij] at h2; cases h2
def lowI (c : List (List Int)) (r : List Int) : Option Nat := (List.range c.length).find? fun i => decide (hgt (mirL c i r) < hgt r)
def simI (c : List (List Int)) (r : List Int) : Option Nat := (List.range c.length).find? fun i => r == simL c.length i
theorem find_some {n : Nat} {p : Nat → Bool} {i : Nat} (hi : i < n) (h : p i = true) (hj : ∀ j, j < i → p j = false) : (List.range n).find? p = some i := by
  rw [List.find?_range_eq_some]
  exact ⟨h, by simpa using hi, fun j hj' => by simp [hj j hj']⟩
theorem find_some' {n : Nat} {p : Nat → Bool} {i : Nat} (h : (List.range n).find? p = some i) : i < n ∧ p i = true ∧ ∀ j, j < i → p j = false := by
  rw [List.find?_range_eq_some] at h
  obtain ⟨h1, h2, h3⟩ := h
  exact ⟨by simpa using h2, h1, fun j hj => by simpa using h3 j hj⟩
structure Dn (c : List (List Int)) (r : List Int) : Prop where
  len : r.length = c.length
  sgn : sgnR r = 1
  hgt : hgt r ≤ 4000
theorem Dn.bnd {c : List (List Int)} {r : List Int} (h : Dn c r) : Bnd 4000 r := fun x hx => by
  have h1 := sgn_nonneg h.sgn
  have := h1 x hx
  have := (hgt_nonneg h1).2 x hx
  have := h.hgt
  omega
theorem Dn.next {c : List (List Int)} {r : List Int} (h : Dn c r) {i : Nat} (hi : lowI c r = some i) (hs : sgnR (mirL c i r) = 1) : Dn c (mirL c i r) := by
  have h1 := (find_some' hi).2.1
  have := h.hgt
  have h2 : Go.Proofs.YtaghdbbcadhjdaaGreatDoor.hgt (mirL c i r) < Go.Proofs.YtaghdbbcadhjdaaGreatDoor.hgt r := by simpa using h1
  exact ⟨by rw [mir_len]; exact h.len, hs, by omega⟩
theorem Dn.one {c : List (List Int)} {r : List Int} (h : Dn c r) (h1 : Go.Proofs.YtaghdbbcadhjdaaGreatDoor.hgt r = 1) : ∃ i, i < c.length ∧ r = simL c.length i ∧ simI c r = some i := by
  obtain ⟨i, hi, hr⟩ := hgt_one (sgn_nonneg h.sgn) h1
  rw [h.len] at hi hr
  refine ⟨i, hi, hr, find_some hi (by simpa using hr) fun j hj => ?_⟩
  cases hq : (r == simL c.length j) with
  | false => rfl
  | true =>
    have hq : r = simL c.length j := by simpa using hq
    have := simL_inj hi (Nat.lt_trans hj hi) (hr.symm.trans hq)
    omega
end Go.Proofs.YtaghdbbcadhjdaaGreatDoor
namespace Go.Proofs.YtaghdbbcadhjdaaGreatDoor
open Go Go.Aw Go.Cox
end Go.Proofs.YtaghdbbcadhjdaaGreatDoor
namespace Go.Proofs.YtaghdbbcadhjdaaGreatDoor
open Go Go.Aw Go.Cox
end Go.Proofs.YtaghdbbcadhjdaaGreatDoor
namespace Go.Proofs.YtaghdbbcadhjdaaGreatDoor
open Go Go.Aw Go.Cox
end Go.Proofs.YtaghdbbcadhjdaaGreatDoor
namespace Go.Proofs.YtaghdbbcadhjdaaGreatDoor
open Go Go.Aw Go.Cox
def lin (a : Int) (x : List Int) (b : Int) (y : List Int) : List Int := List.zipWith (fun p q => a * p - b * q) x y
def rowS (M : List (List Int)) (r c k : Nat) : List Int := lin ((M.getD r []).getD c 0) (M.getD k []) ((M.getD k []).getD c 0) (M.getD r [])
def rowI (M : List (List Int)) (r c k : Nat) : List Int := if (M.getD k []).getD c 0 = 0 then M.getD k [] else rowS M r c k
def elim (g : List (List Int) → Nat → List Int) : Nat → Nat → List (List Int) → List (List Int)
  | 0, _, M => M
  | f + 1, k, M => elim g f (k + 1) (M.set k (g M k))
theorem lin_len (a : Int) (x : List Int) (b : Int) (y : List Int) : (lin a x b y).length = min x.length y.length := by simp [lin]
theorem lin_get (a : Int) (x : List Int) (b : Int) (y : List Int) {j : Nat} (h : j < x.length) (h2 : j < y.length) : (lin a x b y).getD j 0 = a * x.getD j 0 - b * y.getD j 0 := by
  simp [lin, List.getD, List.getElem?_zipWith, List.getElem?_eq_getElem h, List.getElem?_eq_getElem h2]
theorem getD_out {x : List Int} {j : Nat} (h : x.length ≤ j) : x.getD j 0 = 0 := by simp [List.getD, List.getElem?_eq_none h]
theorem mul_bnd {b p q : Int} (hp : -b ≤ p ∧ p ≤ b) (hq : -b ≤ q ∧ q ≤ b) : -(b * b) ≤ p * q ∧ p * q ≤ b * b := by
  have h : (p * q).natAbs ≤ (b * b).natAbs := by
    rw [Int.natAbs_mul, Int.natAbs_mul]
    exact Nat.mul_le_mul (by omega) (by omega)
  have h0 : 0 ≤ b * b := Int.mul_nonneg (by omega) (by omega)
  omega
theorem lin_bnd {b m : Int} {x y : List Int} {p q : Int} (hm : 2 * (b * b) ≤ m) (hb : 0 ≤ b) (hx : Bnd b x) (hy : Bnd b y) (hp : -b ≤ p ∧ p ≤ b) (hq : -b ≤ q ∧ q ≤ b) : Bnd m (lin p x q y) := by
  intro z hz
  unfold lin at hz
  rw [List.mem_iff_getElem] at hz
  obtain ⟨i, hi, rfl⟩ := hz
  rw [List.getElem_zipWith]
  simp only [List.length_zipWith] at hi
  have h1 := hx _ (List.getElem_mem (l := x) (n := i) (by omega))
  have h2 := hy _ (List.getElem_mem (l := y) (n := i) (by omega))
  have e1 := mul_bnd hp h1
  have e2 := mul_bnd hq h2
  omega
def OKM (n : Nat) (b : Int) (M : List (List Int)) : Prop := M.length = n ∧ ∀ k, k < n → (M.getD k []).length = n ∧ Bnd b (M.getD k [])
def beta : Nat → Int
  | 0 => 8
  | 1 => 128
  | 2 => 32768
  | _ => 2147483648
theorem beta_pos (r : Nat) : 8 ≤ beta r ∧ beta r ≤ 2147483648 := by
  match r with
  | 0 => decide
  | 1 => decide
  | 2 => decide
  | n + 3 => simp [beta]
theorem beta_sq {r : Nat} (h : r ≤ 2) : 2 * (beta r * beta r) ≤ beta (r + 1) := by
  match r, h with
  | 0, _ => decide
  | 1, _ => decide
  | 2, _ => decide
theorem Bnd.mono {a b : Int} (h : a ≤ b) {x : List Int} (hx : Bnd a x) : Bnd b x := fun y hy => by have := hx y hy; omega
theorem Bnd.at' {b : Int} (hb : 0 ≤ b) {x : List Int} (hx : Bnd b x) (j : Nat) : -b ≤ x.getD j 0 ∧ x.getD j 0 ≤ b := by
  by_cases h : j < x.length
  · rw [getD_eq h]; exact hx _ (List.getElem_mem h)
  · rw [getD_out (by omega)]; omega
def Mid (n r k : Nat) (M : List (List Int)) : Prop := OKM n (beta (r + 1)) M ∧ ∀ j, j < n → (j ≤ r ∨ k ≤ j) → Bnd (beta r) (M.getD j [])
theorem set_get (M : List (List Int)) (k j : Nat) (x : List Int) (hk : k < M.length) : (M.set k x).getD j [] = if j = k then x else M.getD j [] := by
  simp only [List.getD, List.getElem?_set]
  by_cases h : k = j
  · subst h; simp [hk]
  · rw [if_neg h, if_neg (Ne.symm h)]
theorem Mid.row {n r k c : Nat} {M : List (List Int)} (h : Mid n r k M) (hk : k < n) (hr : r < k) (hn : n ≤ 4) : (rowS M r c k).length = n ∧ Bnd (beta (r + 1)) (rowS M r c k) := by
  obtain ⟨⟨h1, h2⟩, h3⟩ := h
  refine ⟨by unfold rowS; rw [lin_len, (h2 k hk).1, (h2 r (by omega)).1]; omega, ?_⟩
  have b0 := beta_pos r
  have b1 := h3 k hk (.inr (Nat.le_refl _))
  have b2 := h3 r (by omega) (.inl (Nat.le_refl _))
  exact lin_bnd (beta_sq (by omega)) (by omega) b1 b2 (b2.at' (by omega) c) (b1.at' (by omega) c)
theorem Mid.put {n r k : Nat} {M : List (List Int)} {x : List Int} (h : Mid n r k M) (hk : k < n) (hr : r < k) (hx : x.length = n ∧ Bnd (beta (r + 1)) x) : Mid n r (k + 1) (M.set k x) := by
  obtain ⟨⟨h1, h2⟩, h3⟩ := h
  refine ⟨⟨by simp [h1], fun j hj => ?_⟩, fun j hj hjk => ?_⟩
  · rw [set_get _ _ _ _ (by omega)]
    split
    · exact hx
    · exact h2 j hj
  · rw [set_get _ _ _ _ (by omega), if_neg (by omega)]
    exact h3 j hj (by omega)
def MulM (n : Nat) (M N : List (List Int)) : Prop := N.length = M.length ∧ ∀ k, k < M.length → (M.getD k []).length = n ∧ (N.getD k []).length = n ∧ ∃ l : Int, l ≠ 0 ∧ ∀ j, (N.getD k []).getD j 0 = l * (M.getD k []).getD j 0
theorem MulM.zero {n : Nat} {M N : List (List Int)} (h : MulM n M N) {k : Nat} (hk : k < M.length) (c : Nat) : (N.getD k []).getD c 0 = 0 ↔ (M.getD k []).getD c 0 = 0 := by
  obtain ⟨_, _, l, hl, h2⟩ := h.2 k hk
  rw [h2 c, Int.mul_eq_zero]
  simp [hl]
theorem MulM.put {n : Nat} {M N : List (List Int)} (h : MulM n M N) {r c k : Nat} (hr : r < k) (hk : k < M.length) (hp : (M.getD r []).getD c 0 ≠ 0) : MulM n (M.set k (rowI M r c k)) (N.set k (rowS N r c k)) := by
  have hl := h.1
  obtain ⟨a1, a2, l, hl0, a3⟩ := h.2 k hk
  obtain ⟨b1, b2, m, hm0, b3⟩ := h.2 r (by omega)
  refine ⟨by simp [hl], fun j hj => ?_⟩
  simp only [List.length_set] at hj
  rw [set_get _ _ _ _ hk, set_get _ _ _ _ (by omega)]
  by_cases hjk : j = k
  · rw [if_pos hjk, if_pos hjk]
    have hS : (rowS N r c k).length = n := by unfold rowS; rw [lin_len, a2, b2]; omega
    have gS : ∀ j, j < n → (rowS N r c k).getD j 0 = (N.getD r []).getD c 0 * (N.getD k []).getD j 0 - (N.getD k []).getD c 0 * (N.getD r []).getD j 0 := fun j hj => by
      unfold rowS; rw [lin_get _ _ _ _ (by omega) (by omega)]
    unfold rowI
    by_cases h0 : (M.getD k []).getD c 0 = 0
    · rw [if_pos h0]
      refine ⟨a1, hS, m * (M.getD r []).getD c 0 * l, ?_, fun j => ?_⟩
      · exact Int.mul_ne_zero (Int.mul_ne_zero hm0 hp) hl0
      · by_cases hj : j < n
        · rw [gS j hj, a3 c, h0, a3 j, b3 c, Int.mul_zero, Int.zero_mul, Int.sub_zero]; simp only [Int.mul_assoc]
        · rw [getD_out (x := rowS N r c k) (by omega), getD_out (x := M.getD k []) (by omega), Int.mul_zero]
    · rw [if_neg h0]
      have hM : (rowS M r c k).length = n := by unfold rowS; rw [lin_len, a1, b1]; omega
      refine ⟨hM, hS, m * l, Int.mul_ne_zero hm0 hl0, fun j => ?_⟩
      by_cases hj : j < n
      · rw [gS j hj, a3 c, a3 j, b3 c, b3 j]
        unfold rowS
        rw [lin_get _ _ _ _ (by omega) (by omega), Int.mul_sub]
        congr 1
        · rw [Int.mul_assoc, Int.mul_left_comm ((M.getD r []).getD c 0), Int.mul_assoc]
        · rw [Int.mul_comm m l, Int.mul_assoc l m, Int.mul_assoc l, Int.mul_left_comm m]
      · rw [getD_out (x := rowS N r c k) (by omega), getD_out (x := rowS M r c k) (by omega), Int.mul_zero]
  · rw [if_neg hjk, if_neg hjk]; exact h.2 j hj
theorem MulM.elim {n r c : Nat} : ∀ (f k : Nat) {M N : List (List Int)}, MulM n M N → r < k → k + f ≤ M.length → (M.getD r []).getD c 0 ≠ 0 → MulM n (elim (fun N k => rowI N r c k) f k M) (elim (fun N k => rowS N r c k) f k N)
  | 0, k, M, N, h, _, _, _ => h
  | f + 1, k, M, N, h, hr, hk, hp => by
    simp only [Go.Proofs.YtaghdbbcadhjdaaGreatDoor.elim]
    refine MulM.elim f (k + 1) (h.put hr (by omega) hp) (by omega) (by simp; omega) ?_
    rw [set_get _ _ _ _ (by omega), if_neg (by omega)]
    exact hp
theorem MulM.refl {n : Nat} {b : Int} {M : List (List Int)} (h : OKM n b M) : MulM n M M :=
  ⟨rfl, fun k hk => ⟨(h.2 k (by rw [← h.1]; exact hk)).1, (h.2 k (by rw [← h.1]; exact hk)).1, 1, by decide, fun j => by rw [Int.one_mul]⟩⟩
end Go.Proofs.YtaghdbbcadhjdaaGreatDoor
namespace Go.Proofs.YtaghdbbcadhjdaaGreatDoor
open Go Go.Aw Go.Cox
theorem Mid.skip {n r k : Nat} {M : List (List Int)} (h : Mid n r k M) (_ : k < n) : Mid n r (k + 1) M :=
  ⟨h.1, fun j hj hjk => h.2 j hj (by omega)⟩
end Go.Proofs.YtaghdbbcadhjdaaGreatDoor
namespace Go.Proofs.YtaghdbbcadhjdaaGreatDoor
open Go Go.Aw Go.Cox
end Go.Proofs.YtaghdbbcadhjdaaGreatDoor
namespace Go.Proofs.YtaghdbbcadhjdaaGreatDoor
open Go Go.Aw Go.Cox
end Go.Proofs.YtaghdbbcadhjdaaGreatDoor
namespace Go.Proofs.YtaghdbbcadhjdaaGreatDoor
open Go Go.Aw Go.Cox
end Go.Proofs.YtaghdbbcadhjdaaGreatDoor
namespace Go.Proofs.YtaghdbbcadhjdaaGreatDoor
open Go Go.Aw
end Go.Proofs.YtaghdbbcadhjdaaGreatDoor
namespace Go.Proofs.YtaghdbbcadhjdaaGreatDoor
open Go Go.Aw Go.Cox
end Go.Proofs.YtaghdbbcadhjdaaGreatDoor
namespace Go.Proofs.YtaghdbbcadhjdaaGreatDoor
open Go Go.Aw
end Go.Proofs.YtaghdbbcadhjdaaGreatDoor
namespace Go.Proofs.YtaghdbbcadhjdaaGreatDoor
open Go Go.Aw
end Go.Proofs.YtaghdbbcadhjdaaGreatDoor
namespace Go.Proofs.YtaghdbbcadhjdaaGreatDoor
open Go Go.Aw Go.Cox
end Go.Proofs.YtaghdbbcadhjdaaGreatDoor
namespace Go.Proofs.YtaghdbbcadhjdaaGreatDoor
open Go Go.Aw Go.Cox
def pwL (c : List (List Int)) (w : List Int) : Nat → List Int → Int → Int
  | 0, _, _ => 0
  | f + 1, p, k => if (redL c (p ++ w)).length = 0 then k else if 15 < (redL c (p ++ w)).length then 0 else pwL c w f (redL c (p ++ w)) (k + 1)
noncomputable def ordE (c : List (List Int)) (w : List Int) : Int := if wordB c w && (isF c || decide ((redL c w).length ≤ 7)) then pwL c w 60 [] 1 else 0
theorem pwL_le (c : List (List Int)) (w : List Int) : ∀ (f : Nat) (p : List Int) (k : Int), 0 ≤ k → 0 ≤ pwL c w f p k ∧ pwL c w f p k ≤ k + f
  | 0, _, _, h => by unfold pwL; omega
  | f + 1, p, k, h => by
    have := pwL_le c w f (redL c (p ++ w)) (k + 1) (by omega)
    unfold pwL
    repeat' split
    all_goals omega
theorem ordE_le (c : List (List Int)) (w : List Int) : 0 ≤ ordE c w ∧ ordE c w ≤ 61 := by
  unfold ordE
  split
  · have := pwL_le c w 60 [] 1 (by omega); omega
  · omega
set_option maxHeartbeats 1000000 in
theorem c_impl_OrderOfElement (c : List (List Int)) (w : List Int) : FunA B 52 [.sl false (.row false) c, .sl false .int w] (fun rs o => rs = [.int .i64 (ordE c w)] ∧ o = []) := by
  refine FunA.walk B_ok (fn := Tryz.f52) (fun vs w => Tryz.call52 vs w) Tryz.func52 rfl (by rw [Tryz.ntmps52]; simp) (fun C hC hP hT hΓ hbt hfn hpin hfin => ?_); have hX := BX; rw [← hΓ, ← hbt.1, ← hbt.2.1, ← hbt.2.2.1] at hX; rw [Tryz.ntmps52]; simp only [AW7, simprocAttr, hX]
  refine Run.R ?_
  refine Run.nq ?_; refine Run.regionW hC (fun K hK => ?_); refine wW ?_
  refine FunA.cW hP hT (c_impl_IsWord c w) ?_
  rintro rs o ⟨rfl, rfl⟩
  cases hw : wordB c w with
  | false =>
    refine wW ?_
    refine .inl (CallG.off (.bool false) ?_)
    refine wW ?_
    refine .inl (CallG.off (.int .i64 0) ?_)
    refine wW ?_
    refine wE ?_; clear hK K
    refine Run.nq ?_; refine Run.cW ?_ ?_
    rotate_left
    · intro h; cases h
    intro _
    refine Run.R ?_
    refine Run.rW [4] (hfin _ _ rfl rfl ?_)
    simp [ordE, hw]
  | true =>
    obtain ⟨hc, h1, h2⟩ := wordB_iff.1 hw
    obtain ⟨a1, a2, a3, a4, a5⟩ := red_spec hc h2 (by omega)
    refine wW ?_
    refine .inl (FunA.callG hP hT (c_impl_IsFinite c) (fun _ => rfl) (fun _ => by simp only [AW7, simprocAttr]) ?_)
    refine wW ?_
    refine .inl (FunA.callG hP hT (c_impl_lengthOf c w hc h2 (by omega)) (fun _ => rfl) (fun _ => by simp only [AW7, simprocAttr]) ?_)
    refine wW ?_
    refine wE ?_; clear hK K
    refine Run.nq ?_; refine Run.cW ?_ ?_
    · intro h
      have e : ordE c w = 0 := by
        unfold ordE
        rw [hw, if_neg]
        intro h3
        revert h h3
        cases isF c
        · simp; omega
        · simp
      refine Run.R ?_
      refine Run.rW [4] (hfin _ _ rfl rfl ?_)
      rw [e]; exact ⟨rfl, rfl⟩
    intro h
    have e : ordE c w = pwL c w 60 [] 1 := by
      unfold ordE
      rw [hw, if_pos]
      revert h
      cases isF c
      · simp; omega
      · simp
    refine Run.R ?_
    refine Run.R ?_
    refine Run.reK hpin [0, 1, 5, 6] [0] (by decide) (by simp) ?_; simp only [AR, AW7, simprocAttr]
    refine Run.loopI (X := Nat × List Int) (fun x => ⟨39, [(0, true, .v (.sl false (.row false) (c))), (1, true, .v (.sl false .int (w))), (5, true, .v (.own 0 0)), (6, true, .v (.int .i64 (((x.1 : Nat) : Int))))], [.arr .int (x.2) 0 true]⟩) (fun x => (1 ≤ x.1 ∧ x.1 ≤ 61) ∧ letters c.length x.2 ∧ x.2.length ≤ 15 ∧ ordE c w = pwL c w (61 - x.1) x.2 x.1) (fun x => 61 - x.1) ((1, [])) (⟨⟨by decide, by decide⟩, letters_nil _, by simp, e⟩) ?_ ?_
    · exact Le.sub (by first | rfl | simp) (by simp only [AW7, simprocAttr, hX]; try simp <;> try (first | rfl | exact ⟨rfl, rfl⟩ | exact ⟨rfl, rfl, rfl⟩))
    rintro ⟨k, p⟩ ⟨⟨hk, hk2⟩, hp, hp2, hpe⟩ ihO
    try simp only []
    simp only [] at hk hk2 hp hp2 hpe
    clear e
    refine Run.R ?_
    refine Run.nq ?_; refine Run.cW ?_ ?_
    rotate_left
    · intro h3
      have h3 : k = 61 := by rw [decide_eq_false_iff_not] at h3; omega
      subst h3
      refine Run.exit rfl ?_; refine Run.nq ?_
      refine Run.R ?_
      refine Run.reK hpin [4] [] (by decide) (by simp) ?_; simp only [AR, AW7, simprocAttr]
      refine Run.rW [4] (hfin _ _ rfl rfl ?_)
      rw [hpe]; exact ⟨rfl, rfl⟩
    intro h3
    have h3 : k ≤ 60 := by rw [decide_eq_true_eq] at h3; omega
    have hlw : letters c.length (p ++ w) := letters_append.2 ⟨hp, h2⟩
    have hcr := c_impl_reduced c (p ++ w) hc hlw (by simp; omega)
    obtain ⟨b1, _⟩ := red_spec hc hlw (by simp; omega)
    rw [show 61 - k = (61 - (k + 1)) + 1 by omega] at hpe
    unfold pwL at hpe
    generalize redL c (p ++ w) = p' at hcr b1 hpe
    refine Run.nq ?_; refine Run.regionW hC (fun K hK => ?_); refine wW ?_
    refine FunA.cW hP hT (c_impl_ConcatWords p w (by omega) (by omega)) ?_
    rintro rs o ⟨n1, rfl, rfl⟩
    refine wW ?_
    refine FunA.cW hP hT (hcr) ?_
    rintro rs o ⟨rfl, rfl⟩
    refine wW ?_
    refine wE ?_; clear hK K
    refine Run.R ?_
    refine Run.nq ?_; refine Run.cW ?_ ?_
    · intro h4
      have h4 : p'.length = 0 := by simpa using h4
      rw [if_pos h4] at hpe
      refine Run.R ?_
      refine Run.reK hpin [4] [] (by decide) (by simp) ?_; simp only [AR, AW7, simprocAttr]
      refine Run.rW [4] (hfin _ _ rfl rfl ?_)
      rw [hpe]; exact ⟨rfl, rfl⟩
    intro h4
    have h4 : ¬ p'.length = 0 := by simpa using h4
    rw [if_neg h4] at hpe
    refine Run.R ?_
    refine Run.nq ?_; refine Run.cW ?_ ?_
    · intro h5
      have h5 : 15 < p'.length := by rw [decide_eq_true_eq] at h5; omega
      rw [if_pos h5] at hpe
      refine Run.R ?_
      refine Run.reK hpin [4] [] (by decide) (by simp) ?_; simp only [AR, AW7, simprocAttr]
      refine Run.rW [4] (hfin _ _ rfl rfl ?_)
      rw [hpe]; exact ⟨rfl, rfl⟩
    intro h5
    have h5 : ¬ 15 < p'.length := by rw [decide_eq_false_iff_not] at h5; omega
    rw [if_neg h5] at hpe
    refine Run.reK hpin [0, 1, 5, 6] [2] (by decide) (by simp) ?_; simp only [AR, AW7, simprocAttr]
    refine Run.RW ?_
    refine Run.le ?_ (ihO ((k + 1, p')) (⟨⟨by omega, by omega⟩, b1, by simp only []; omega, by simpa using hpe⟩) (by (try simp only [List.length_append, List.length_cons, List.length_nil]); omega))
    exact Le.sub (by rfl) (by simp only [AW7, simprocAttr]; try simp)
theorem pwL_red {c : List (List Int)} {w x : List Int} (h : imageL c x = imageL c w) : ∀ (f : Nat) (p : List Int) (k : Int), pwL c x f p k = pwL c w f p k
  | 0, _, _ => rfl
  | f + 1, p, k => by
    have e : redL c (p ++ x) = redL c (p ++ w) := red_eq (by rw [image_append, image_append, h])
    unfold pwL
    rw [e, pwL_red h f]
set_option maxHeartbeats 1000000 in
theorem c_spec_OrderOfElement (c : List (List Int)) (w : List Int) (hcl : c.length ≤ 1048576) : FunA B 51 [.sl false (.row false) c, .sl false .int w] (fun rs o => rs = [.int .i64 (ordE c w)] ∧ o = []) := by
  refine FunA.walk B_ok (fn := Tryz.f51) (fun vs w => Tryz.call51 vs w) Tryz.func51 rfl (by rw [Tryz.ntmps51]; simp) (fun C hC hP hT hΓ hbt hfn hpin hfin => ?_); have hX := BX; rw [← hΓ, ← hbt.1, ← hbt.2.1, ← hbt.2.2.1] at hX; rw [Tryz.ntmps51]; simp only [AW7, simprocAttr, hX]
  refine Run.R ?_
  refine Run.nq ?_; refine Run.regionW hC (fun K hK => ?_); refine wW ?_
  refine FunA.cW hP hT (c_spec_NormalForm c w hcl) ?_
  rintro rs o ⟨rfl, rfl⟩
  refine wW ?_
  refine wE ?_; clear hK K
  cases hw : wordB c w with
  | false =>
    refine Run.nq ?_; refine Run.regionW hC (fun K hK => ?_); refine wW ?_
    refine .inl (CallG.off (.bool false) ?_)
    refine wW ?_
    refine wE ?_; clear hK K
    refine Run.nq ?_; refine Run.cW ?_ ?_
    rotate_left
    · intro h; cases h
    intro _
    refine Run.R ?_
    refine Run.reK hpin [4] [] (by decide) (by simp) ?_; simp only [AR, AW7, simprocAttr]
    refine Run.rW [4] (hfin _ _ rfl rfl ?_)
    simp [ordE, hw]
  | true =>
    obtain ⟨hc, h1, h2⟩ := wordB_iff.1 hw
    obtain ⟨a1, a2, a3, a4, a5⟩ := red_spec hc h2 (by omega)
    have en : nfW c w = redL c w := by unfold nfW; rw [if_pos hw]
    rw [en]
    refine Run.nq ?_; refine Run.regionW hC (fun K hK => ?_); refine wW ?_
    refine .inl (FunA.callG hP hT (c_spec_IsFinite c) (fun _ => rfl) (fun _ => by simp only [AW7, simprocAttr]) ?_)
    refine wW ?_
    refine wE ?_; clear hK K
    refine Run.nq ?_; refine Run.cW ?_ ?_
    · intro h
      have e : ordE c w = 0 := by
        unfold ordE
        rw [hw, if_neg]
        intro h3
        revert h h3
        cases isF c
        · simp; omega
        · simp
      refine Run.R ?_
      refine Run.reK hpin [4] [] (by decide) (by simp) ?_; simp only [AR, AW7, simprocAttr]
      refine Run.rW [4] (hfin _ _ rfl rfl ?_)
      rw [e]; exact ⟨rfl, rfl⟩
    intro h
    have e : ordE c w = pwL c (redL c w) 60 [] 1 := by
      rw [pwL_red a4]
      unfold ordE
      rw [hw, if_pos]
      revert h
      cases isF c
      · simp; omega
      · simp
    unfold pwL at e
    have hx15 : (redL c w).length ≤ 15 := by omega
    have e0 : redL c ([] ++ redL c w) = redL c w := red_eq (by simpa using a4)
    rw [e0, if_neg (show ¬ 15 < (redL c w).length by omega)] at e
    generalize redL c w = x at e a1 hx15
    have hx16 : x.length ≤ 140737488355328 := by omega
    refine Run.R ?_
    refine Run.R ?_
    refine Run.reK hpin [0, 5, 7, 8] [0, 1] (by decide) (by simp) ?_; simp only [AR, AW7, simprocAttr]
    refine Run.loopI (X := Nat × List Int) (fun y => ⟨46, [(0, true, .v (.sl false (.row false) (c))), (5, true, .v (.own 0 0)), (7, true, .v (.own 1 0)), (8, true, .v (.int .i64 (((y.1 : Nat) : Int))))], [.arr .int (x) 0 true, .arr .int (y.2) 0 true]⟩) (fun y => (1 ≤ y.1 ∧ y.1 ≤ 61) ∧ letters c.length y.2 ∧ y.2.length ≤ 15 ∧ ((y.1 ≤ 60 ∧ ordE c w = if y.2.length = 0 then (y.1 : Int) else pwL c x (60 - y.1) y.2 (y.1 + 1)) ∨ (y.1 = 61 ∧ ordE c w = 0))) (fun y => 61 - y.1) ((1, x)) (⟨⟨by simp only []; omega, by simp only []; omega⟩, a1, hx15, .inl ⟨by simp only []; omega, e⟩⟩) ?_ ?_
    · exact Le.sub (by first | rfl | simp) (by simp only [AW7, simprocAttr, hX]; try simp <;> try (first | rfl | exact ⟨rfl, rfl⟩ | exact ⟨rfl, rfl, rfl⟩))
    rintro ⟨k, p⟩ ⟨⟨hk, hk2⟩, hp, hp2, hpe⟩ ihO
    try simp only []
    simp only [] at hk hk2 hp hp2 hpe
    clear e
    refine Run.R ?_
    refine Run.nq ?_; refine Run.cW ?_ ?_
    rotate_left
    · intro h3
      have h3 : k = 61 := by rw [decide_eq_false_iff_not] at h3; omega
      have hpe : ordE c w = 0 := by rcases hpe with ⟨h, _⟩ | ⟨_, h⟩ <;> first | omega | exact h
      refine Run.exit rfl ?_; refine Run.nq ?_
      refine Run.R ?_
      refine Run.reK hpin [4] [] (by decide) (by simp) ?_; simp only [AR, AW7, simprocAttr]
      refine Run.rW [4] (hfin _ _ rfl rfl ?_)
      rw [hpe]; exact ⟨rfl, rfl⟩
    intro h3
    have h3 : k ≤ 60 := by rw [decide_eq_true_eq] at h3; omega
    have hpe : ordE c w = if p.length = 0 then (k : Int) else pwL c x (60 - k) p (k + 1) := by rcases hpe with ⟨_, h⟩ | ⟨h, _⟩ <;> first | exact h | omega
    refine Run.R ?_
    refine Run.nq ?_; refine Run.cW ?_ ?_
    · intro h4
      have h4 : p.length = 0 := by simpa using h4
      rw [if_pos h4] at hpe
      refine Run.R ?_
      refine Run.reK hpin [4] [] (by decide) (by simp) ?_; simp only [AR, AW7, simprocAttr]
      refine Run.rW [4] (hfin _ _ rfl rfl ?_)
      rw [hpe]; exact ⟨rfl, rfl⟩
    intro h4
    have h4 : ¬ p.length = 0 := by simpa using h4
    rw [if_neg h4] at hpe
    have hlw : letters c.length (p ++ x) := letters_append.2 ⟨hp, a1⟩
    have hcr := c_spec_l8Normal c (p ++ x) hc hlw (by simp; omega)
    obtain ⟨b1, _⟩ := red_spec hc hlw (by simp; omega)
    have hst : 15 < (redL c (p ++ x)).length → ordE c w = 0 := fun h => by
      rw [hpe]
      cases hf : 60 - k with
      | zero => rfl
      | succ f => unfold pwL; rw [if_neg (by omega), if_pos h]
    have hst2 : ¬ 15 < (redL c (p ++ x)).length → ((k + 1 ≤ 60 ∧ ordE c w = if (redL c (p ++ x)).length = 0 then ((k + 1 : Nat) : Int) else pwL c x (60 - (k + 1)) (redL c (p ++ x)) (((k + 1 : Nat) : Int) + 1)) ∨ (k + 1 = 61 ∧ ordE c w = 0)) := fun h => by
      by_cases hk60 : k = 60
      · right; exact ⟨by omega, by rw [hpe, hk60]; rfl⟩
      · left
        refine ⟨by omega, ?_⟩
        rw [hpe, show 60 - k = (60 - (k + 1)) + 1 by omega]
        conv => lhs; unfold pwL
        rw [if_neg h]
        simp
    clear hpe
    generalize redL c (p ++ x) = p' at hcr b1 hst hst2
    refine Run.nq ?_; refine Run.regionW hC (fun K hK => ?_); refine wW ?_
    refine FunA.cW hP hT (c_spec_ConcatWords p x (by omega) (by omega)) ?_
    rintro rs o ⟨rfl, rfl⟩
    refine wW ?_
    refine FunA.cW hP hT (hcr) ?_
    rintro rs o ⟨rfl, rfl⟩
    refine wW ?_
    refine wE ?_; clear hK K
    refine Run.R ?_
    refine Run.nq ?_; refine Run.cW ?_ ?_
    · intro h5
      have h5 : 15 < p'.length := by rw [decide_eq_true_eq] at h5; omega
      refine Run.R ?_
      refine Run.reK hpin [4] [] (by decide) (by simp) ?_; simp only [AR, AW7, simprocAttr]
      refine Run.rW [4] (hfin _ _ rfl rfl ?_)
      rw [hst h5]; exact ⟨rfl, rfl⟩
    intro h5
    have h5 : ¬ 15 < p'.length := by rw [decide_eq_false_iff_not] at h5; omega
    refine Run.reK hpin [0, 5, 7, 8] [0, 3] (by decide) (by simp) ?_; simp only [AR, AW7, simprocAttr]
    refine Run.RW ?_
    refine Run.le ?_ (ihO ((k + 1, p')) (⟨⟨by omega, by omega⟩, b1, by simp only []; omega, hst2 h5⟩) (by (try simp only [List.length_append, List.length_cons, List.length_nil]); omega))
    exact Le.sub (by rfl) (by simp only [AW7, simprocAttr]; try simp)
end Go.Proofs.YtaghdbbcadhjdaaGreatDoor
namespace Go.Proofs.YtaghdbbcadhjdaaGreatDoor
open Go Go.Aw Go.Cox
def padN (out : List Int) (n : Nat) : List Int := out ++ List.replicate (n + 1 - out.length) 0
def bmpN (out : List Int) (n : Nat) : List Int := (padN out n).set n ((padN out n).getD n 0 + 1)
noncomputable def ocL (c : List (List Int)) (l : List (List Int)) : List Int := l.foldl (fun out w => bmpN out (ordE c w).toNat) []
noncomputable def ocX (c : List (List Int)) : List Int := ocL c (if elsB c 48 then allL c else [])
theorem ocL_snoc (c : List (List Int)) (l : List (List Int)) (k : Nat) (h : k < l.length) : ocL c (l.take (k + 1)) = bmpN (ocL c (l.take k)) (ordE c (l.getD k [])).toNat := by
  have e : l.take (k + 1) = l.take k ++ [l.getD k []] := by
    rw [List.take_add_one, List.getD_eq_getElem?_getD, List.getElem?_eq_getElem h]; rfl
  rw [e]
  simp [ocL, List.foldl_append]
theorem padN_len (out : List Int) (n : Nat) : n < (padN out n).length ∧ (padN out n).length ≤ max out.length (n + 1) := by
  simp only [padN, List.length_append, List.length_replicate]; omega
theorem ocL_bnd (c : List (List Int)) (l : List (List Int)) : ∀ k, k ≤ l.length → (ocL c (l.take k)).length ≤ 62 ∧ ∀ x ∈ ocL c (l.take k), 0 ≤ x ∧ x ≤ k
  | 0, _ => by simp [ocL]
  | k + 1, h => by
    obtain ⟨h1, h2⟩ := ocL_bnd c l k (by omega)
    rw [ocL_snoc c l k (by omega)]
    have ho := ordE_le c (l.getD k [])
    generalize ordE c (l.getD k []) = n at ho ⊢
    generalize ocL c (l.take k) = out at h1 h2 ⊢
    have hl := padN_len out n.toNat
    have hp : ∀ x ∈ padN out n.toNat, 0 ≤ x ∧ x ≤ k := fun x hx => by
      rcases List.mem_append.1 hx with hx | hx
      · exact h2 x hx
      · rw [(List.mem_replicate.1 hx).2]; omega
    refine ⟨by unfold bmpN; rw [List.length_set]; omega, fun x hx => ?_⟩
    rcases List.mem_or_eq_of_mem_set hx with hx | rfl
    · have := hp x hx; omega
    · have := hp ((padN out n.toNat).getD n.toNat 0) (by rw [getD_eq hl.1]; exact List.getElem_mem hl.1)
      omega
theorem rep_snoc (out : List Int) (j : Nat) : out ++ List.replicate j 0 ++ [(0 : Int)] = out ++ List.replicate (j + 1) 0 := by
  rw [List.append_assoc, List.replicate_succ']
set_option maxHeartbeats 1000000 in
theorem c_impl_OrderCounts0 (c : List (List Int)) (he : elsB c 48 = false) : FunA BJ 24 [.sl false (.row false) c] (fun rs o => rs = [.own 0 0] ∧ o = [.arr .int (ocX c) 0 true]) := by
  refine FunA.walk BJ_ok (fn := Tryz.f24) (fun vs w => Tryz.call24 vs w) Tryz.func24 rfl (by rw [Tryz.ntmps24]; simp) (fun C hC hP hT hΓ hbt hfn hpin hfin => ?_); haveI hDJ : DrLe BJ C := ⟨fun h => by rw [hbt.2.2.2] at h; cases h⟩; have hPJ := hP; have hTJ := hT; replace hP : B.P = C.P := hP; replace hT : B.tid = C.tid := hT; have hX := BXJ; rw [← hΓ, ← hbt.1, ← hbt.2.1, ← hbt.2.2.1] at hX; rw [Tryz.ntmps24]; simp only [AW7, simprocAttr, hX]
  refine Run.R ?_
  refine Run.nq ?_; refine Run.regionW hC (fun K hK => ?_); refine wW ?_
  refine FunA.cW hPJ hTJ (c_impl_few0 c he) ?_
  rintro rs o ⟨rfl, rfl⟩
  refine wW ?_
  refine wE ?_; clear hK K
  refine Run.R ?_
  refine Run.R ?_
  refine Run.reK hpin [0, 5, 15, 16, 17] [0] (by decide) (by simp) ?_; simp only [AR, AW7, simprocAttr]
  refine Run.loopI (X := Nat) (fun k => ⟨39, [(0, true, .v (.sl false (.row false) (c))), (5, true, .v (.own 0 0)), (15, true, .v (.nils)), (16, true, .v (.int .i64 (0))), (17, true, .v (.int .i64 (0)))], [.arr .int ([]) 0 true]⟩) (fun k => k ≤ 0) (fun k => 0) (0) (Nat.le_refl _) ?_ ?_
  · exact Le.sub (by first | rfl | simp) (by simp only [AW7, simprocAttr, hX]; try simp <;> try (first | rfl | exact ⟨rfl, rfl⟩ | exact ⟨rfl, rfl, rfl⟩))
  rintro k hk ih
  try simp only []
  refine Run.R ?_
  refine Run.nq ?_; refine Run.cW ?_ ?_
  · intro h; simp at h
  intro _
  refine Run.exit rfl ?_; refine Run.nq ?_
  refine Run.R ?_
  refine Run.reK hpin [2] [0] (by decide) (by simp) ?_; simp only [AR, AW7, simprocAttr]
  refine Run.rW [2] (hfin _ _ rfl rfl ?_)
  exact ⟨rfl, by unfold ocX; rw [he]; rfl⟩
set_option maxHeartbeats 1000000 in
theorem c_impl_OrderCounts1 (c : List (List Int)) (he : elsB c 48 = true) : FunA BJ 24 [.sl false (.row false) c] (fun rs o => rs = [.own 0 0] ∧ o = [.arr .int (ocX c) 0 true]) := by
  obtain ⟨hF, _, hl200, _⟩ := elsB_fin he (by omega)
  refine FunA.walk BJ_ok (fn := Tryz.f24) (fun vs w => Tryz.call24 vs w) Tryz.func24 rfl (by rw [Tryz.ntmps24]; simp) (fun C hC hP hT hΓ hbt hfn hpin hfin => ?_); haveI hDJ : DrLe BJ C := ⟨fun h => by rw [hbt.2.2.2] at h; cases h⟩; have hPJ := hP; have hTJ := hT; replace hP : B.P = C.P := hP; replace hT : B.tid = C.tid := hT; have hX := BXJ; rw [← hΓ, ← hbt.1, ← hbt.2.1, ← hbt.2.2.1] at hX; rw [Tryz.ntmps24]; simp only [AW7, simprocAttr, hX]
  refine Run.R ?_
  refine Run.nq ?_; refine Run.regionW hC (fun K hK => ?_); refine wW ?_
  refine FunA.cW hPJ hTJ (c_impl_few1 c he) ?_
  rintro rs o ⟨zs, ⟨hz, _⟩, rfl, rfl⟩
  have hzl : zs.length = (allL c).length := by rw [← hz, rwl]
  refine wW ?_
  refine wE ?_; clear hK K
  refine Run.R ?_
  refine Run.R ?_
  refine Run.reK hpin [0, 5, 15, 16, 17] [0] (by decide) (by simp) ?_; simp only [AR, AW7, simprocAttr]
  refine Run.loopI (X := Nat) (fun k => ⟨39, [(0, true, .v (.sl false (.row false) (c))), (5, true, .v (.own 0 0)), (15, true, .v (.sl true .lrow (zs))), (16, true, .v (.int .i64 ((zs.length : Nat)))), (17, true, .v (.int .i64 (k)))], [.arr .int ((ocL c ((allL c).take k))) 0 true]⟩) (fun k => k ≤ zs.length) (fun k => zs.length - k) (0) (Nat.zero_le _) ?_ ?_
  · exact Le.sub (by first | rfl | simp) (by simp only [AW7, simprocAttr, hX]; try simp <;> try (first | rfl | exact ⟨rfl, rfl⟩ | exact ⟨rfl, rfl, rfl⟩))
  rintro k hk ih
  try simp only []
  refine Run.R ?_
  refine Run.nq ?_; refine Run.cW ?_ ?_
  rotate_left
  · intro h
    have h : k = zs.length := by rw [decide_eq_false_iff_not] at h; omega
    refine Run.exit rfl ?_; refine Run.nq ?_
    refine Run.R ?_
    refine Run.reK hpin [2] [0] (by decide) (by simp) ?_; simp only [AR, AW7, simprocAttr]
    refine Run.rW [2] (hfin _ _ rfl rfl ?_)
    refine ⟨rfl, ?_⟩
    rw [h, hzl, List.take_length]
    unfold ocX; rw [he]; rfl
  intro h
  have h : k < zs.length := by rw [decide_eq_true_eq] at h; omega
  have hst := ocL_snoc c (allL c) k (by omega)
  obtain ⟨hb1, hb2⟩ := ocL_bnd c (allL c) k (by omega)
  have hgw := rwg zs k
  rw [hz] at hgw
  have hod := ordE_le c ((allL c).getD k [])
  have hco := c_impl_OrderOfElement c ((allL c).getD k [])
  generalize (allL c).getD k [] = w at *
  generalize ordE c w = od at *
  obtain ⟨n, rfl⟩ : ∃ n : Nat, od = n := ⟨od.toNat, by omega⟩
  rw [Int.toNat_natCast] at hst
  generalize ocL c ((allL c).take k) = out at hst hb1 hb2 ⊢
  have hpl := padN_len out n
  have hpb : 0 ≤ (padN out n).getD n 0 ∧ (padN out n).getD n 0 ≤ k := by
    have hm : (padN out n).getD n 0 ∈ padN out n := by rw [getD_eq hpl.1]; exact List.getElem_mem hpl.1
    rcases List.mem_append.1 hm with hx | hx
    · exact hb2 _ hx
    · rw [(List.mem_replicate.1 hx).2]; omega
  refine Run.R ?_
  try simp only [hgw]
  refine Run.nq ?_; refine Run.regionW hC (fun K hK => ?_); refine wW ?_
  refine FunA.cW hP hT (hco) ?_
  rintro rs o ⟨rfl, rfl⟩
  refine wW ?_
  refine wE ?_; clear hK K
  refine Run.reK hpin [0, 5, 15, 16, 17, 8] [0] (by decide) (by simp) ?_; simp only [AR, AW7, simprocAttr]
  refine Run.loopI (X := Nat) (fun j => ⟨39, [(0, true, .v (.sl false (.row false) (c))), (5, true, .v (.own 0 0)), (15, true, .v (.sl true .lrow (zs))), (16, true, .v (.int .i64 ((zs.length : Nat)))), (17, true, .v (.int .i64 (k))), (8, true, .v (.int .i64 ((n : Nat))))], [.arr .int ((out ++ List.replicate j 0)) 0 true]⟩) (fun j => j ≤ n + 1 - out.length) (fun j => n + 1 - out.length - j) (0) (Nat.zero_le _) ?_ ?_
  · exact Le.sub (by first | rfl | simp) (by simp only [AW7, simprocAttr, hX]; try simp <;> try (first | rfl | exact ⟨rfl, rfl⟩ | exact ⟨rfl, rfl, rfl⟩))
  rintro j hj ihK
  try simp only []
  have hol : (out ++ List.replicate j (0 : Int)).length = out.length + j := by simp
  refine Run.R ?_
  refine Run.nq ?_; refine Run.cW ?_ ?_
  · intro h2
    have h2 : out.length + j ≤ n := by rw [decide_eq_true_eq, hol] at h2; omega
    have hzb : ((out ++ List.replicate j (0 : Int)).length + [(0 : Int)].length) * 8 ≤ 140737488355328 := by rw [hol]; simp only [List.length_cons, List.length_nil]; omega
    have hsn := rep_snoc out j
    refine Run.R ?_
    refine Run.reK hpin [0, 5, 15, 16, 17, 8] [0] (by decide) (by simp) ?_; simp only [AR, AW7, simprocAttr]
    refine Run.le ?_ (ihK (j + 1) (by omega) (by (try simp only [List.length_append, List.length_cons, List.length_nil]); omega))
    exact Le.sub (by first | rfl | (simp only [hsn]; done) | (rw [hsn]; rfl)) (by simp only [AW7, simprocAttr]; try simp)
  intro h2
  have h2 : n < out.length + j := by rw [decide_eq_false_iff_not, hol] at h2; omega
  have e : out ++ List.replicate j 0 = padN out n := by unfold padN; rw [show j = n + 1 - out.length by omega]
  rw [e]
  refine Run.exit rfl ?_; refine Run.nq ?_
  refine Run.RW ?_
  refine Run.RW ?_
  refine Run.reK hpin [0, 5, 15, 16, 17] [0] (by decide) (by simp) ?_; simp only [AR, AW7, simprocAttr]
  unfold bmpN at hst
  refine Run.le ?_ (ih (k + 1) h (by omega))
  exact Le.sub (by simp only [hst]) (by simp only [AW7, simprocAttr]; try simp)
set_option maxHeartbeats 1000000 in
theorem c_spec_OrderCounts (c : List (List Int)) : FunA B 23 [.sl false (.row false) c] (fun rs o => rs = [.own 0 0] ∧ o = [.arr .int (ocX c) 0 true]) := by
  refine FunA.walk B_ok (fn := Tryz.f23) (fun vs w => Tryz.call23 vs w) Tryz.func23 rfl (by rw [Tryz.ntmps23]; simp) (fun C hC hP hT hΓ hbt hfn hpin hfin => ?_); have hX := BX; rw [← hΓ, ← hbt.1, ← hbt.2.1, ← hbt.2.2.1] at hX; rw [Tryz.ntmps23]; simp only [AW7, simprocAttr, hX]
  refine Run.R ?_
  refine Run.R ?_
  refine Run.nq ?_; refine Run.regionW hC (fun K hK => ?_); refine wW ?_
  refine FunA.cW hP hT (c_spec_l18Small c) ?_
  rintro rs o ⟨rfl, zs, ⟨hz, _⟩, rfl⟩
  have hzl : zs.length = (if elsB c 48 then allL c else []).length := by rw [← hz, rwl]
  have hz200 : zs.length ≤ 200 := by
    rw [hzl]
    split
    · rename_i h; exact (elsB_fin h (by omega)).2.2.1
    · simp
  have hcl : 0 < zs.length → c.length ≤ 4 := fun h => by
    cases he : elsB c 48 with
    | true => exact (elsB_fin he (by omega)).1.1.2.1
    | false => rw [he] at hzl; have : zs.length = 0 := hzl; omega
  refine wW ?_
  refine wE ?_; clear hK K
  have hocx : ocX c = ocL c (rw2 zs) := by rw [hz]; rfl
  refine Run.R ?_
  refine Run.reK hpin [0, 3, 4, 6] [0, 1] (by decide) (by simp) ?_; simp only [AR, AW7, simprocAttr]
  refine Run.loopI (X := Nat) (fun k => ⟨42, [(0, true, .v (.sl false (.row false) (c))), (3, true, .v (.own 0 0)), (4, true, .v (.own 1 0)), (6, true, .v (.int .i64 (k)))], [.arr .int ((ocL c ((rw2 zs).take k))) 0 true, .arr .lrow (zs) 0 true]⟩) (fun k => k ≤ zs.length) (fun k => zs.length - k) (0) (Nat.zero_le _) ?_ ?_
  · exact Le.sub (by first | rfl | simp) (by simp only [AW7, simprocAttr, hX]; try simp <;> try (first | rfl | exact ⟨rfl, rfl⟩ | exact ⟨rfl, rfl, rfl⟩))
  rintro k hk ih
  try simp only []
  refine Run.R ?_
  refine Run.nq ?_; refine Run.cW ?_ ?_
  rotate_left
  · intro h
    have h : k = zs.length := by rw [decide_eq_false_iff_not] at h; omega
    refine Run.exit rfl ?_; refine Run.nq ?_
    refine Run.R ?_
    refine Run.reK hpin [2] [0] (by decide) (by simp) ?_; simp only [AR, AW7, simprocAttr]
    refine Run.rW [2] (hfin _ _ rfl rfl ?_)
    refine ⟨rfl, ?_⟩
    rw [h, ← rwl zs, List.take_length, hocx]
  intro h
  have h : k < zs.length := by rw [decide_eq_true_eq] at h; omega
  have hn := hcl (by omega)
  have hst := ocL_snoc c (rw2 zs) k (by rw [rwl]; omega)
  obtain ⟨hb1, hb2⟩ := ocL_bnd c (rw2 zs) k (by rw [rwl]; omega)
  have hgw := rwg zs k
  have hod := ordE_le c ((rw2 zs).getD k [])
  have hco := c_spec_OrderOfElement c ((rw2 zs).getD k []) (by omega)
  generalize (rw2 zs).getD k [] = w at *
  generalize ordE c w = od at *
  obtain ⟨n, rfl⟩ : ∃ n : Nat, od = n := ⟨od.toNat, by omega⟩
  rw [Int.toNat_natCast] at hst
  generalize ocL c ((rw2 zs).take k) = out at hst hb1 hb2 ⊢
  have hpl := padN_len out n
  have hpb : 0 ≤ (padN out n).getD n 0 ∧ (padN out n).getD n 0 ≤ k := by
    have hm : (padN out n).getD n 0 ∈ padN out n := by rw [getD_eq hpl.1]; exact List.getElem_mem hpl.1
    rcases List.mem_append.1 hm with hx | hx
    · exact hb2 _ hx
    · rw [(List.mem_replicate.1 hx).2]; omega
  refine Run.nq ?_; refine Run.regionW hC (fun K hK => ?_); refine wW ?_
  try simp only [hgw]
  refine FunA.cW hP hT (hco) ?_
  rintro rs o ⟨rfl, rfl⟩
  refine wW ?_
  refine wE ?_; clear hK K
  refine Run.reK hpin [0, 3, 4, 6, 7] [0, 1] (by decide) (by simp) ?_; simp only [AR, AW7, simprocAttr]
  refine Run.loopI (X := Nat) (fun j => ⟨42, [(0, true, .v (.sl false (.row false) (c))), (3, true, .v (.own 0 0)), (4, true, .v (.own 1 0)), (6, true, .v (.int .i64 (k))), (7, true, .v (.int .i64 ((n : Nat))))], [.arr .int ((out ++ List.replicate j 0)) 0 true, .arr .lrow (zs) 0 true]⟩) (fun j => j ≤ n + 1 - out.length) (fun j => n + 1 - out.length - j) (0) (Nat.zero_le _) ?_ ?_
  · exact Le.sub (by first | rfl | simp) (by simp only [AW7, simprocAttr, hX]; try simp <;> try (first | rfl | exact ⟨rfl, rfl⟩ | exact ⟨rfl, rfl, rfl⟩))
  rintro j hj ihK
  try simp only []
  have hol : (out ++ List.replicate j (0 : Int)).length = out.length + j := by simp
  refine Run.R ?_
  refine Run.nq ?_; refine Run.cW ?_ ?_
  · intro h2
    have h2 : out.length + j ≤ n := by rw [decide_eq_true_eq, hol] at h2; omega
    have hzb : ((out ++ List.replicate j (0 : Int)).length + [(0 : Int)].length) * 8 ≤ 140737488355328 := by rw [hol]; simp only [List.length_cons, List.length_nil]; omega
    have hsn := rep_snoc out j
    refine Run.R ?_
    refine Run.reK hpin [0, 3, 4, 6, 7] [0, 1] (by decide) (by simp) ?_; simp only [AR, AW7, simprocAttr]
    refine Run.le ?_ (ihK (j + 1) (by omega) (by (try simp only [List.length_append, List.length_cons, List.length_nil]); omega))
    exact Le.sub (by first | rfl | (simp only [hsn]; done) | (rw [hsn]; rfl)) (by simp only [AW7, simprocAttr]; try simp)
  intro h2
  have h2 : n < out.length + j := by rw [decide_eq_false_iff_not, hol] at h2; omega
  have e : out ++ List.replicate j 0 = padN out n := by unfold padN; rw [show j = n + 1 - out.length by omega]
  rw [e]
  refine Run.exit rfl ?_; refine Run.nq ?_
  refine Run.RW ?_
  refine Run.RW ?_
  refine Run.reK hpin [0, 3, 4, 6] [0, 1] (by decide) (by simp) ?_; simp only [AR, AW7, simprocAttr]
  unfold bmpN at hst
  refine Run.le ?_ (ih (k + 1) h (by omega))
  exact Le.sub (by simp only [hst]) (by simp only [AW7, simprocAttr]; try simp)
theorem ocX_le (c : List (List Int)) : (ocX c).length ≤ 62 := by
  have := ocL_bnd c (if elsB c 48 then allL c else []) _ (Nat.le_refl _)
  rw [List.take_length] at this
  exact this.1
theorem c_impl_OrderCounts (c : List (List Int)) : FunA BJ 24 [.sl false (.row false) c] (fun rs o => rs = [.own 0 0] ∧ o = [.arr .int (ocX c) 0 true]) := by
  cases he : elsB c 48
  · exact c_impl_OrderCounts0 c he
  · exact c_impl_OrderCounts1 c he
end Go.Proofs.YtaghdbbcadhjdaaGreatDoor
namespace Go.Proofs.YtaghdbbcadhjdaaGreatDoor
open Go Go.Aw
end Go.Proofs.YtaghdbbcadhjdaaGreatDoor
namespace Go.Proofs.YtaghdbbcadhjdaaGreatDoor
open Go Go.Aw
theorem c_FnExactOrderCounts (c : List (List Int)) (_ : ∀ r ∈ c, ∀ n ∈ r, (Lit.int .i64 n).wf = true) : FunA BJ 6 [.sl false (.row false) c] (fun rs _ => rs = [.bool true]) := by
  refine FunA.walk BJ_ok (fn := Tryz.f6) (fun vs w => Tryz.call6 vs w) Tryz.func6 rfl (by rw [Tryz.ntmps6]; simp) (fun C hC hP hT hΓ hbt hfn hpin hfin => ?_); haveI hDJ : DrLe BJ C := ⟨fun h => by rw [hbt.2.2.2] at h; cases h⟩; have hPJ := hP; have hTJ := hT; replace hP : B.P = C.P := hP; replace hT : B.tid = C.tid := hT; have hX := BXJ; rw [← hΓ, ← hbt.1, ← hbt.2.1, ← hbt.2.2.1] at hX; rw [Tryz.ntmps6]; simp only [AW7, simprocAttr, hX]
  refine Run.R ?_
  refine Run.keep [0, 2] ?_; simp only [AK, Nat.reduceBEq]
  refine Run.R ?_
  refine Run.keep [0, 2, 3] ?_; simp only [AK, Nat.reduceBEq]
  refine Run.nq ?_; refine Run.regionW hC (fun K hK => ?_); refine wW ?_
  refine FunA.cW hP hT (c_szIntSS c (1048576) ⟨by omega, by omega⟩) ?_
  rintro rs o ⟨rfl, rfl⟩
  refine wW ?_
  refine wE ?_; clear hK K
  refine Run.keep [0, 2, 3] ?_; simp only [AK, Nat.reduceBEq]
  refine Run.R ?_
  refine Run.keep [0, 2, 3, 15] ?_; simp only [AK, Nat.reduceBEq]
  refine Run.nq ?_; refine Run.cW ?_ ?_
  · intro hc
    refine Run.R ?_
    refine Run.rW [2] (hfin _ _ rfl rfl ?_)
    rfl
  intro hc
  have hzc : 0 ≤ szII c (1048576) := by simp at hc; omega
  clear hc
  have hbc := szII_all c (1048576) ⟨by omega, by omega⟩ hzc
  obtain ⟨hcn, hcr, hcs, hcl⟩ := hbc
  refine Run.nq ?_; refine Run.regionW hC (fun K hK => ?_); refine wW ?_
  refine FunA.cW hP hT (c_toIntSS c hcn hcr) ?_
  rintro rs o ⟨rfl, hs1, hs1l, rfl⟩
  refine wW ?_
  refine FunA.cW hP hT (c_spec_OrderCounts c) ?_
  rintro rs o ⟨rfl, rfl⟩
  refine wW ?_
  refine wE ?_; clear hK K
  refine Run.keep [0, 2, 3, 4] ?_; simp only [AK, Nat.reduceBEq]
  refine Run.nq ?_; refine Run.regionW hC (fun K hK => ?_); refine wW ?_
  refine FunA.cW hP hT (c_toIntSS c hcn hcr) ?_
  rintro rs o ⟨rfl, hs2, hs2l, rfl⟩
  refine wW ?_
  refine wE ?_; clear hK K
  refine Run.keep [0, 2, 3, 4, 5] ?_; simp only [AK, Nat.reduceBEq]
  refine Run.nq ?_; refine Run.regionW hC (fun K hK => ?_); refine wW ?_
  refine FunA.cW hPJ hTJ (c_impl_OrderCounts c) ?_
  rintro rs o ⟨rfl, rfl⟩
  refine wW ?_
  refine wE ?_; clear hK K
  refine Run.keep [0, 2, 3, 4, 5, 6] ?_; simp only [AK, Nat.reduceBEq]
  refine Run.nq ?_; refine Run.regionW hC (fun K hK => ?_); refine wW ?_
  refine FunA.cW hP hT (c_eqIntS (ocX c) (ocX c) (by have := ocX_le c; omega)) ?_
  rintro rs o ⟨rfl, rfl⟩
  refine wW ?_
  refine wE ?_; clear hK K
  refine Run.keep [0, 2, 3, 4, 5, 6, 26] ?_; simp only [AK, Nat.reduceBEq]
  refine Run.nq ?_; refine Run.cW ?_ ?_
  · intro hc
    exfalso
    simp [iota_length, sumL_iotaR] at hc <;> omega
  intro hc0; clear hc0
  refine Run.nq ?_; refine Run.regionW hC (fun K hK => ?_); refine wW ?_
  refine FunA.cW hP hT (c_toIntSS c hcn hcr) ?_
  rintro rs o ⟨rfl, hs3, hs3l, rfl⟩
  refine wW ?_
  refine FunA.cW hP hT (c_eqIntSS (c) (c) (by omega) (fun r hr => by have := hcr r hr; omega)) ?_
  rintro rs o ⟨rfl, rfl⟩
  refine wW ?_
  refine wE ?_; clear hK K
  refine Run.keep [0, 2, 3, 4, 5, 6, 31] ?_; simp only [AK, Nat.reduceBEq]
  refine Run.nq ?_; refine Run.cW ?_ ?_
  · intro hc
    exfalso
    simp [iota_length, sumL_iotaR] at hc <;> omega
  intro hc0; clear hc0
  refine Run.R ?_
  refine Run.keep [0, 2, 3, 4, 5, 6, 7] ?_; simp only [AK, Nat.reduceBEq]
  refine Run.nq ?_; refine Run.regionW hC (fun K hK => ?_); refine wW ?_
  refine FunO.callMat hP hT (c_markIntSS hs2 (c) 1 (by omega) (by omega) true) 2 0 (by simp only [AW7, simprocAttr]; rfl) (by simp) (by simp only [AW7, simprocAttr]) ?_
  rintro rs o o2 ⟨rfl, h⟩; obtain ⟨rfl, rfl⟩ := List.cons.inj h
  refine wW ?_
  refine wE ?_; clear hK K
  refine Run.keep [0, 2, 3, 4, 5, 6, 7] ?_; simp only [AK, Nat.reduceBEq]
  refine Run.nq ?_; refine Run.regionW hC (fun K hK => ?_); refine wW ?_
  refine .inl (FunA.callG hP hT (c_eqIntS (ocX c) (ocX c) (by have := ocX_le c; omega)) (fun _ => rfl) (fun _ => by simp only [AW7, simprocAttr]) ?_)
  refine wW ?_
  refine wE ?_; clear hK K
  refine Run.keep [0, 2, 3, 4, 5, 6, 7, 42] ?_; simp only [AK, Nat.reduceBEq]
  refine Run.nq ?_; refine Run.cW ?_ ?_
  · intro hc
    exfalso
    simp [iota_length, sumL_iotaR] at hc <;> omega
  intro hc0; clear hc0
  refine Run.R ?_
  refine Run.keep [0, 2, 3, 4, 5, 6, 7, 8] ?_; simp only [AK, Nat.reduceBEq]
  refine Run.nq ?_; refine Run.regionW hC (fun K hK => ?_); refine wW ?_
  refine FunM.call hP hT (c_markIntS (ocX c) 1 (by have := ocX_le c; omega) (by have := ocX_le c; omega) true) 3 0 (by simp only [AW7, simprocAttr]; rfl) (by simp) rfl (by simp only [AW7, simprocAttr]; try simp) ?_
  rintro rs o o2 ⟨rfl, h⟩; obtain ⟨rfl, rfl⟩ := List.cons.inj h
  refine wW ?_
  refine wE ?_; clear hK K
  refine Run.keep [0, 2, 3, 4, 5, 6, 7, 8] ?_; simp only [AK, Nat.reduceBEq]
  refine Run.R ?_
  refine Run.keep [0, 2, 3, 4, 5, 6, 7, 8, 9] ?_; simp only [AK, Nat.reduceBEq]
  refine Run.nq ?_; refine Run.regionW hC (fun K hK => ?_); refine wW ?_
  refine FunA.cW hP hT (c_heldIota 1 (ocX c).length (by have := ocX_le c; omega) (by have := ocX_le c; omega)) ?_
  rintro rs o ⟨rfl, rfl⟩
  refine wW ?_
  refine wE ?_; clear hK K
  refine Run.keep [0, 2, 3, 4, 5, 6, 7, 8, 9] ?_; simp only [AK, Nat.reduceBEq]
  refine Run.R ?_
  refine Run.keep [0, 2, 3, 4, 5, 6, 7, 8, 9, 50] ?_; simp only [AK, Nat.reduceBEq]
  refine Run.nq ?_; refine Run.cW ?_ ?_
  · intro hc
    exfalso
    simp [iota_length, sumL_iotaR] at hc <;> omega
  intro hc0; clear hc0
  refine Run.R ?_
  refine Run.keep [0, 2, 3, 4, 5, 6, 7, 8, 9, 53] ?_; simp only [AK, Nat.reduceBEq]
  refine Run.nq ?_; refine Run.cW ?_ ?_
  · intro hc
    exfalso
    simp [iota_length, sumL_iotaR] at hc <;> omega
  intro hc0; clear hc0
  refine Run.nq ?_; refine Run.regionW hC (fun K hK => ?_); refine wW ?_
  refine FunA.cW hP hT (c_toIntSS c hcn hcr) ?_
  rintro rs o ⟨rfl, hs4, hs4l, rfl⟩
  refine wW ?_
  refine FunA.cW hPJ hTJ (c_impl_OrderCounts c) ?_
  rintro rs o ⟨rfl, rfl⟩
  refine wW ?_
  refine wE ?_; clear hK K
  refine Run.keep [0, 2, 3, 4, 5, 6, 7, 8, 9, 10] ?_; simp only [AK, Nat.reduceBEq]
  refine Run.nq ?_; refine Run.regionW hC (fun K hK => ?_); refine wW ?_
  refine FunA.cW hP hT (c_eqIntS (ocX c) (ocX c) (by have := ocX_le c; omega)) ?_
  rintro rs o ⟨rfl, rfl⟩
  refine wW ?_
  refine wE ?_; clear hK K
  refine Run.keep [0, 2, 3, 4, 5, 6, 7, 8, 9, 10, 60] ?_; simp only [AK, Nat.reduceBEq]
  refine Run.nq ?_; refine Run.cW ?_ ?_
  · intro hc
    exfalso
    simp [iota_length, sumL_iotaR] at hc <;> omega
  intro hc0; clear hc0
  refine Run.R ?_
  refine Run.keep [0, 2, 3, 4, 5, 6, 7, 8, 9, 10] ?_; simp only [AK, Nat.reduceBEq]
  refine Run.nq ?_; refine Run.regionW hC (fun K hK => ?_); refine wW ?_
  refine FunA.cW hP hT (c_heldIota 1 (ocX c).length (by have := ocX_le c; omega) (by have := ocX_le c; omega)) ?_
  rintro rs o ⟨rfl, rfl⟩
  refine wW ?_
  refine wE ?_; clear hK K
  refine Run.keep [0, 2, 3, 4, 5, 6, 7, 8, 9, 10] ?_; simp only [AK, Nat.reduceBEq]
  refine Run.R ?_
  refine Run.keep [0, 2, 3, 4, 5, 6, 7, 8, 9, 10, 65] ?_; simp only [AK, Nat.reduceBEq]
  refine Run.nq ?_; refine Run.cW ?_ ?_
  · intro hc
    exfalso
    simp [iota_length, sumL_iotaR] at hc <;> omega
  intro hc0; clear hc0
  refine Run.R ?_
  refine Run.keep [0, 2, 3, 4, 5, 6, 7, 8, 9, 10, 68] ?_; simp only [AK, Nat.reduceBEq]
  refine Run.nq ?_; refine Run.cW ?_ ?_
  · intro hc
    exfalso
    simp [iota_length, sumL_iotaR] at hc <;> omega
  intro hc0; clear hc0
  refine Run.R ?_
  refine Run.keep [0, 2, 3, 4, 5, 6, 7, 8, 9, 10] ?_; simp only [AK, Nat.reduceBEq]
  refine Run.rW [2] (hfin _ _ rfl rfl ?_)
  rfl
end Go.Proofs.YtaghdbbcadhjdaaGreatDoor
namespace Go.Proofs.YtaghdbbcadhjdaaGreatDoor
open Go Go.Aw
theorem maxGl : Tryz.prog.globalNamed maxN = some (spltL_ren.g 1) := by kernel_rfl
theorem laidS {W : World} (hS : W.ShapedOpen Tryz.prog) : Laid Tryz.prog W (fun _ => False) :=
  ⟨fun g hg => (nomatch ((show Tryz.prog.globalNamed tabN = none by kernel_rfl).symm.trans hg)), fun g hg => ⟨fun k => k, by
    rw [← Option.some.inj (maxGl.symm.trans hg)]
    exact cell_of_shapedOpen_int (zero := #[.int .i64 0]) (t := 3) hS (of_decide_eq_true (by kernel_rfl)) (by kernel_rfl) (by kernel_rfl) (by kernel_rfl) (by kernel_rfl) Tryz.underlying3⟩⟩
end Go.Proofs.YtaghdbbcadhjdaaGreatDoor
namespace Go
variable {H : Type} {enc : TypeId × Value → H}
theorem handed_and_shaped {a : Assume} {C : Checked} {os : Os} {f : FuncId} {fn : Func} {s : ChangeSpec} {conds : List PathCond} {apart fresh handsOn again : Bool} {X : World → Array Value → Prop}
    (hX : ∀ (w w' : World) (args : Array Value), w.heap = w'.heap → X w args → X w' args)
    (own : ownKnob C.prog.godebug = none) (started : os.Started) (noInit : C.prog.inits.idxOf? f = none) (hfn : C.prog.funcs[f]? = some fn)
    (witness : ∃ (w : World) (tape : Tape) (i : Input), w.os = os ∧ (w.forCall tape i).Shaped C.prog ∧ i.vars = [] ∧ Input.okWide C.prog (w.forCall tape i) .any w.heap.size f i ∧
      ((s.pre enc C.prog fn conds apart (w.forCall tape i).memory i.args ∧ X (w.forCall tape i).memory i.args) ∧ sizedMet enc C.prog fn (OpenSpec.ofChange s) apart (w.forCall tape i).memory i.args) ∧ a.holds C.prog (lone (Frame.enter C.prog f i.args .normal) [] (w.forCall tape i)))
    (contract : ∀ (W : World) (base : Nat) (args : Array Value) (ds gs : List (DataW H)) (before : List MemPlace),
      (∀ (j : Nat) t v, fn.params[j]? = some t → args[j]? = some v → Value.okWide C.prog W .any base t v) →
      DataW.Whole enc C.prog fn.params.toList s.vars apart W args.toList ds gs before →
      conds.all (PathCond.test C.prog ⟨fn.params.toList, ds, s.plain.varTypes C.prog, gs⟩) = true →
      (DataW.weightsEach C.prog (fn.params.toList ++ s.plain.varTypes C.prog) (ds ++ gs)).all (· ≤ reachBytes) = true → X W args → W.ShapedOpen C.prog →
      a.holds C.prog (lone (Frame.enter C.prog f args .normal) [] W) →
      Calls C.prog f args W fun e W' => ∃ v, e = .returned v ∧ s.post enc C.prog fn apart fresh handsOn again W args v W') :
    ReturnsInHanded a C os f .any (fun w args => (s.pre enc C.prog fn conds apart w args ∧ X w args) ∧ sizedMet enc C.prog fn (OpenSpec.ofChange s) apart w args) (s.post enc C.prog fn apart fresh handsOn again) := by
  refine returnsInHanded_of_calls own started noInit witness ?_
  intro w tape i _ hsh _ hok hpre hholds
  obtain ⟨_, _, _, fn', hfn', _, _, _, _, hval⟩ := hok
  have e : fn' = fn := Option.some.inj (hfn'.symm.trans hfn)
  subst e
  obtain ⟨⟨⟨ds, gs, before, hw, hc⟩, hx⟩, hz⟩ := hpre
  have hw' := DataW.Whole.of_heap (w' := w.forCall tape i) (by rfl) hw
  refine (contract (w.forCall tape i) w.heap.size i.args ds gs before hval hw' hc (hz.weights hw) (hX _ _ _ (by rfl) hx) hsh hholds).mono fun e W' ⟨v, he, hp⟩ => ?_
  subst he
  exact ChangeSpec.post_blind hp
end Go
