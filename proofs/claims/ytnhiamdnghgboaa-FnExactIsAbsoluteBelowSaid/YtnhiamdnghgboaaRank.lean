/- The rank of a small matrix, by elimination, with and without a jump over zeros. -/
import Derived.Test.YtnhiamdnghgboaaRor
set_option linter.unusedVariables false
set_option linter.unusedSimpArgs false
namespace Go.Proofs.Ytnhiamdnghgboaa
open Go Go.Aw Go.Cox

def lin (a : Int) (x : List Int) (b : Int) (y : List Int) : List Int := List.zipWith (fun p q => a * p - b * q) x y
def rowS (M : List (List Int)) (r c k : Nat) : List Int := lin ((M.getD r []).getD c 0) (M.getD k []) ((M.getD k []).getD c 0) (M.getD r [])
def rowI (M : List (List Int)) (r c k : Nat) : List Int := if (M.getD k []).getD c 0 = 0 then M.getD k [] else rowS M r c k
def elim (g : List (List Int) → Nat → List Int) : Nat → Nat → List (List Int) → List (List Int)
  | 0, _, M => M
  | f + 1, k, M => elim g f (k + 1) (M.set k (g M k))
def pvt (M : List (List Int)) (c : Nat) : Nat → Nat → Nat
  | 0, k => k
  | f + 1, k => if (M.getD k []).getD c 0 = 0 then pvt M c f (k + 1) else k
def swp (M : List (List Int)) (r a : Nat) : List (List Int) := (M.set r (M.getD a [])).set a (M.getD r [])
def rkG (g : List (List Int) → Nat → Nat → Nat → List Int) : Nat → List (List Int) → Nat → Nat → Nat
  | 0, _, r, _ => r
  | f + 1, M, r, c => if pvt M c (M.length - r) r = M.length then rkG g f M r (c + 1) else
      rkG g f (elim (fun N k => g N r c k) (M.length - (r + 1)) (r + 1) (swp M r (pvt M c (M.length - r) r))) (r + 1) (c + 1)

theorem lin_len (a : Int) (x : List Int) (b : Int) (y : List Int) : (lin a x b y).length = min x.length y.length := by simp [lin]
theorem lin_get (a : Int) (x : List Int) (b : Int) (y : List Int) {j : Nat} (h : j < x.length) (h2 : j < y.length) : (lin a x b y).getD j 0 = a * x.getD j 0 - b * y.getD j 0 := by
  simp [lin, List.getD, List.getElem?_zipWith, List.getElem?_eq_getElem h, List.getElem?_eq_getElem h2]
theorem getD_out {x : List Int} {j : Nat} (h : x.length ≤ j) : x.getD j 0 = 0 := by simp [List.getD, List.getElem?_eq_none h]
theorem mul_bnd {b p q : Int} (hp : -b ≤ p ∧ p ≤ b) (hq : -b ≤ q ∧ q ≤ b) : -(b * b) ≤ p * q ∧ p * q ≤ b * b := by
  have h : (p * q).natAbs ≤ (b * b).natAbs := by
    rw [Int.natAbs_mul, Int.natAbs_mul]
    exact Nat.mul_le_mul (by omega) (by omega)
  have h0 : 0 ≤ b * b := Int.mul_nonneg (by omega) (by omega)
  omega
theorem lin_bnd {b m : Int} {x y : List Int} {p q : Int} (hm : 2 * (b * b) ≤ m) (hb : 0 ≤ b) (hx : Bnd b x) (hy : Bnd b y) (hp : -b ≤ p ∧ p ≤ b) (hq : -b ≤ q ∧ q ≤ b) : Bnd m (lin p x q y) := by
  intro z hz
  unfold lin at hz
  rw [List.mem_iff_getElem] at hz
  obtain ⟨i, hi, rfl⟩ := hz
  rw [List.getElem_zipWith]
  simp only [List.length_zipWith] at hi
  have h1 := hx _ (List.getElem_mem (l := x) (n := i) (by omega))
  have h2 := hy _ (List.getElem_mem (l := y) (n := i) (by omega))
  have e1 := mul_bnd hp h1
  have e2 := mul_bnd hq h2
  omega

theorem pvt_ge (M : List (List Int)) (c : Nat) : ∀ f k, k ≤ pvt M c f k ∧ pvt M c f k ≤ k + f
  | 0, k => by simp [pvt]
  | f + 1, k => by
    simp only [pvt]
    split
    · have := pvt_ge M c f (k + 1); omega
    · omega
theorem pvt_ne (M : List (List Int)) (c : Nat) : ∀ f k, pvt M c f k < k + f → (M.getD (pvt M c f k) []).getD c 0 ≠ 0
  | 0, k, h => by simp [pvt] at h
  | f + 1, k, h => by
    simp only [pvt] at h ⊢
    split at h
    · rename_i h0; rw [if_pos h0]; exact pvt_ne M c f (k + 1) (by omega)
    · rename_i h0; rw [if_neg h0]; exact h0
theorem swp_len (M : List (List Int)) (r a : Nat) : (swp M r a).length = M.length := by simp [swp]
theorem swp_get (M : List (List Int)) {r a : Nat} (hr : r < M.length) (ha : a < M.length) (k : Nat) : (swp M r a).getD k [] = if k = a then M.getD r [] else if k = r then M.getD a [] else M.getD k [] := by
  simp only [swp, List.getD, List.getElem?_set, List.length_set]
  by_cases h1 : a = k
  · subst h1; simp [ha]
  · rw [if_neg h1, if_neg (Ne.symm h1)]
    by_cases h2 : r = k
    · subst h2; simp [hr]
    · rw [if_neg h2, if_neg (Ne.symm h2)]
theorem swp_comm (M : List (List Int)) {r a : Nat} (hr : r < M.length) (ha : a < M.length) : (M.set a (M.getD r [])).set r (M.getD a []) = swp M r a := by
  by_cases h : r = a
  · subst h; rfl
  · unfold swp; rw [List.set_comm _ _ (Ne.symm h)]

/-- Rows of n integers, none beyond a bound. -/
def OKM (n : Nat) (b : Int) (M : List (List Int)) : Prop := M.length = n ∧ ∀ k, k < n → (M.getD k []).length = n ∧ Bnd b (M.getD k [])
def beta : Nat → Int
  | 0 => 8
  | 1 => 128
  | 2 => 32768
  | _ => 2147483648
theorem beta_pos (r : Nat) : 8 ≤ beta r ∧ beta r ≤ 2147483648 := by
  match r with
  | 0 => decide
  | 1 => decide
  | 2 => decide
  | n + 3 => simp [beta]
theorem beta_up (r : Nat) : beta r ≤ beta (r + 1) := by
  match r with
  | 0 => decide
  | 1 => decide
  | 2 => decide
  | n + 3 => simp [beta]
theorem beta_sq {r : Nat} (h : r ≤ 2) : 2 * (beta r * beta r) ≤ beta (r + 1) := by
  match r, h with
  | 0, _ => decide
  | 1, _ => decide
  | 2, _ => decide
theorem Bnd.mono {a b : Int} (h : a ≤ b) {x : List Int} (hx : Bnd a x) : Bnd b x := fun y hy => by have := hx y hy; omega
theorem Bnd.at' {b : Int} (hb : 0 ≤ b) {x : List Int} (hx : Bnd b x) (j : Nat) : -b ≤ x.getD j 0 ∧ x.getD j 0 ≤ b := by
  by_cases h : j < x.length
  · rw [getD_eq h]; exact hx _ (List.getElem_mem h)
  · rw [getD_out (by omega)]; omega

/-- The state of one elimination: the rows from k on, and row r, are as they were. -/
def Mid (n r k : Nat) (M : List (List Int)) : Prop := OKM n (beta (r + 1)) M ∧ ∀ j, j < n → (j ≤ r ∨ k ≤ j) → Bnd (beta r) (M.getD j [])
theorem Mid.start {n r : Nat} {M : List (List Int)} (h : OKM n (beta r) M) (k : Nat) : Mid n r k M :=
  ⟨⟨h.1, fun k hk => ⟨(h.2 k hk).1, (h.2 k hk).2.mono (beta_up r)⟩⟩, fun j hj _ => (h.2 j hj).2⟩
theorem set_get (M : List (List Int)) (k j : Nat) (x : List Int) (hk : k < M.length) : (M.set k x).getD j [] = if j = k then x else M.getD j [] := by
  simp only [List.getD, List.getElem?_set]
  by_cases h : k = j
  · subst h; simp [hk]
  · rw [if_neg h, if_neg (Ne.symm h)]
theorem Mid.row {n r k c : Nat} {M : List (List Int)} (h : Mid n r k M) (hk : k < n) (hr : r < k) (hn : n ≤ 4) : (rowS M r c k).length = n ∧ Bnd (beta (r + 1)) (rowS M r c k) := by
  obtain ⟨⟨h1, h2⟩, h3⟩ := h
  refine ⟨by unfold rowS; rw [lin_len, (h2 k hk).1, (h2 r (by omega)).1]; omega, ?_⟩
  have b0 := beta_pos r
  have b1 := h3 k hk (.inr (Nat.le_refl _))
  have b2 := h3 r (by omega) (.inl (Nat.le_refl _))
  exact lin_bnd (beta_sq (by omega)) (by omega) b1 b2 (b2.at' (by omega) c) (b1.at' (by omega) c)
theorem Mid.put {n r k : Nat} {M : List (List Int)} {x : List Int} (h : Mid n r k M) (hk : k < n) (hr : r < k) (hx : x.length = n ∧ Bnd (beta (r + 1)) x) : Mid n r (k + 1) (M.set k x) := by
  obtain ⟨⟨h1, h2⟩, h3⟩ := h
  refine ⟨⟨by simp [h1], fun j hj => ?_⟩, fun j hj hjk => ?_⟩
  · rw [set_get _ _ _ _ (by omega)]
    split
    · exact hx
    · exact h2 j hj
  · rw [set_get _ _ _ _ (by omega), if_neg (by omega)]
    exact h3 j hj (by omega)
theorem OKM.swp {n r a : Nat} {b : Int} {M : List (List Int)} (h : OKM n b M) (hr : r < n) (ha : a < n) : OKM n b (swp M r a) := by
  obtain ⟨h1, h2⟩ := h
  refine ⟨by rw [swp_len, h1], fun k hk => ?_⟩
  rw [swp_get M (by omega) (by omega)]
  split
  · exact h2 r hr
  · split
    · exact h2 a ha
    · exact h2 k hk

/-! ### With the jump over zeros or without it: the same rank -/

def MulM (n : Nat) (M N : List (List Int)) : Prop := N.length = M.length ∧ ∀ k, k < M.length → (M.getD k []).length = n ∧ (N.getD k []).length = n ∧ ∃ l : Int, l ≠ 0 ∧ ∀ j, (N.getD k []).getD j 0 = l * (M.getD k []).getD j 0

theorem MulM.zero {n : Nat} {M N : List (List Int)} (h : MulM n M N) {k : Nat} (hk : k < M.length) (c : Nat) : (N.getD k []).getD c 0 = 0 ↔ (M.getD k []).getD c 0 = 0 := by
  obtain ⟨_, _, l, hl, h2⟩ := h.2 k hk
  rw [h2 c, Int.mul_eq_zero]
  simp [hl]
theorem MulM.pvt {n : Nat} {M N : List (List Int)} (h : MulM n M N) (c : Nat) : ∀ f k, k + f ≤ M.length → pvt N c f k = pvt M c f k
  | 0, k, _ => rfl
  | f + 1, k, hk => by
    have := h.zero (k := k) (by omega) c
    simp only [Go.Proofs.Ytnhiamdnghgboaa.pvt]
    by_cases h0 : (M.getD k []).getD c 0 = 0
    · rw [if_pos h0, if_pos (this.2 h0)]; exact h.pvt c f (k + 1) (by omega)
    · rw [if_neg h0, if_neg (fun q => h0 (this.1 q))]
theorem MulM.swp {n : Nat} {M N : List (List Int)} (h : MulM n M N) {r a : Nat} (hr : r < M.length) (ha : a < M.length) : MulM n (swp M r a) (swp N r a) := by
  have hl := h.1
  refine ⟨by rw [swp_len, swp_len, hl], fun k hk => ?_⟩
  rw [swp_len] at hk
  rw [swp_get M hr ha, swp_get N (by omega) (by omega)]
  split
  · exact h.2 r hr
  · split
    · exact h.2 a ha
    · exact h.2 k hk
theorem MulM.put {n : Nat} {M N : List (List Int)} (h : MulM n M N) {r c k : Nat} (hr : r < k) (hk : k < M.length) (hp : (M.getD r []).getD c 0 ≠ 0) : MulM n (M.set k (rowI M r c k)) (N.set k (rowS N r c k)) := by
  have hl := h.1
  obtain ⟨a1, a2, l, hl0, a3⟩ := h.2 k hk
  obtain ⟨b1, b2, m, hm0, b3⟩ := h.2 r (by omega)
  refine ⟨by simp [hl], fun j hj => ?_⟩
  simp only [List.length_set] at hj
  rw [set_get _ _ _ _ hk, set_get _ _ _ _ (by omega)]
  by_cases hjk : j = k
  · rw [if_pos hjk, if_pos hjk]
    have hS : (rowS N r c k).length = n := by unfold rowS; rw [lin_len, a2, b2]; omega
    have gS : ∀ j, j < n → (rowS N r c k).getD j 0 = (N.getD r []).getD c 0 * (N.getD k []).getD j 0 - (N.getD k []).getD c 0 * (N.getD r []).getD j 0 := fun j hj => by
      unfold rowS; rw [lin_get _ _ _ _ (by omega) (by omega)]
    unfold rowI
    by_cases h0 : (M.getD k []).getD c 0 = 0
    · rw [if_pos h0]
      refine ⟨a1, hS, m * (M.getD r []).getD c 0 * l, ?_, fun j => ?_⟩
      · exact Int.mul_ne_zero (Int.mul_ne_zero hm0 hp) hl0
      · by_cases hj : j < n
        · rw [gS j hj, a3 c, h0, a3 j, b3 c, Int.mul_zero, Int.zero_mul, Int.sub_zero]; simp only [Int.mul_assoc]
        · rw [getD_out (x := rowS N r c k) (by omega), getD_out (x := M.getD k []) (by omega), Int.mul_zero]
    · rw [if_neg h0]
      have hM : (rowS M r c k).length = n := by unfold rowS; rw [lin_len, a1, b1]; omega
      refine ⟨hM, hS, m * l, Int.mul_ne_zero hm0 hl0, fun j => ?_⟩
      by_cases hj : j < n
      · rw [gS j hj, a3 c, a3 j, b3 c, b3 j]
        unfold rowS
        rw [lin_get _ _ _ _ (by omega) (by omega), Int.mul_sub]
        congr 1
        · rw [Int.mul_assoc, Int.mul_left_comm ((M.getD r []).getD c 0), Int.mul_assoc]
        · rw [Int.mul_comm m l, Int.mul_assoc l m, Int.mul_assoc l, Int.mul_left_comm m]
      · rw [getD_out (x := rowS N r c k) (by omega), getD_out (x := rowS M r c k) (by omega), Int.mul_zero]
  · rw [if_neg hjk, if_neg hjk]; exact h.2 j hj
theorem MulM.elim {n r c : Nat} : ∀ (f k : Nat) {M N : List (List Int)}, MulM n M N → r < k → k + f ≤ M.length → (M.getD r []).getD c 0 ≠ 0 → MulM n (elim (fun N k => rowI N r c k) f k M) (elim (fun N k => rowS N r c k) f k N)
  | 0, k, M, N, h, _, _, _ => h
  | f + 1, k, M, N, h, hr, hk, hp => by
    simp only [Go.Proofs.Ytnhiamdnghgboaa.elim]
    refine MulM.elim f (k + 1) (h.put hr (by omega) hp) (by omega) (by simp; omega) ?_
    rw [set_get _ _ _ _ (by omega), if_neg (by omega)]
    exact hp
theorem elim_len (g : List (List Int) → Nat → List Int) : ∀ (f k : Nat) (M : List (List Int)), (elim g f k M).length = M.length
  | 0, k, M => rfl
  | f + 1, k, M => by simp only [elim]; rw [elim_len g f]; simp
theorem rk_same {n : Nat} : ∀ (f : Nat) {M N : List (List Int)} {r c : Nat}, MulM n M N → r ≤ M.length → rkG rowS f N r c = rkG rowI f M r c
  | 0, M, N, r, c, h, _ => rfl
  | f + 1, M, N, r, c, h, hr => by
    have hl := h.1
    simp only [rkG]
    have hp := h.pvt c (M.length - r) r (by omega)
    rw [hl, hp]
    have hg := pvt_ge M c (M.length - r) r
    by_cases h0 : pvt M c (M.length - r) r = M.length
    · rw [if_pos h0, if_pos h0]; exact rk_same f h hr
    · rw [if_neg h0, if_neg h0]
      have hlt : pvt M c (M.length - r) r < M.length := by omega
      have hsw := h.swp (r := r) (a := pvt M c (M.length - r) r) (by omega) hlt
      refine rk_same f (MulM.elim _ _ hsw (by omega) (by rw [swp_len]; omega) ?_) (by rw [elim_len, swp_len]; omega)
      rw [swp_get M (by omega) hlt]
      have hne := pvt_ne M c (M.length - r) r (by omega)
      split
      · rename_i e; rw [← e] at hne; exact hne
      · rw [if_pos rfl]; exact hne
theorem MulM.refl {n : Nat} {b : Int} {M : List (List Int)} (h : OKM n b M) : MulM n M M :=
  ⟨rfl, fun k hk => ⟨(h.2 k (by rw [← h.1]; exact hk)).1, (h.2 k (by rw [← h.1]; exact hk)).1, 1, by decide, fun j => by rw [Int.one_mul]⟩⟩
theorem rkG_top (g : List (List Int) → Nat → Nat → Nat → List Int) : ∀ (f : Nat) (M : List (List Int)) (c : Nat), rkG g f M M.length c = M.length
  | 0, _, _ => rfl
  | f + 1, M, c => by
    simp only [rkG]
    have := pvt_ge M c (M.length - M.length) M.length
    rw [if_pos (by omega)]
    exact rkG_top g f M (c + 1)
end Go.Proofs.Ytnhiamdnghgboaa
