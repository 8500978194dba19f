/- Weights, and reflections with positive roots: what the functions of both sides do. -/
import Derived.Test.YtaghdbbcadhjdaaGreatDoorB18
import Derived.Test.YtaghdbbcadhjdaaGreatDoorB11
import Derived.Test.YtaghdbbcadhjdaaGreatDoorB14
import Derived.Test.YtaghdbbcadhjdaaGreatDoorB7
import Derived.Test.YtaghdbbcadhjdaaGreatDoorB10
import Derived.Test.YtaghdbbcadhjdaaGreatDoorB16
import Derived.HandedShaped
import Derived.Handed
import Derived.Shelf.Vars
set_option linter.unusedVariables false
set_option linter.unusedSimpArgs false
namespace Go.Proofs.YtaghdbbcadhjdaaGreatDoor
open Go Go.Aw Go.Cox
theorem sgn_nonneg {r : List Int} (h : sgnR r = 1) : ∀ x ∈ r, 0 ≤ x := by
  intro x hx
  have h1 := (sgnR_one.1 h).2
  unfold negA at h1
  rw [List.any_eq_false] at h1
  have := h1 x hx
  simp at this
  exact this
theorem hgt_nonneg : ∀ {r : List Int}, (∀ x ∈ r, 0 ≤ x) → 0 ≤ hgt r ∧ ∀ x ∈ r, x ≤ hgt r
  | [], _ => by simp [hgt]
  | y :: r, h => by
    obtain ⟨h1, h2⟩ := hgt_nonneg (r := r) fun x hx => h x (List.mem_cons_of_mem _ hx)
    have h0 := h y (by simp)
    refine ⟨by simp only [hgt]; omega, fun x hx => ?_⟩
    simp only [hgt]
    rcases List.mem_cons.1 hx with rfl | hx
    · omega
    · have := h2 x hx; omega
theorem hgt_zero : ∀ {r : List Int}, (∀ x ∈ r, 0 ≤ x) → hgt r = 0 → r = List.replicate r.length 0
  | [], _, _ => rfl
  | y :: r, h, h0 => by
    have h1 := h y (by simp)
    obtain ⟨h2, _⟩ := hgt_nonneg (r := r) fun x hx => h x (List.mem_cons_of_mem _ hx)
    simp only [hgt] at h0
    have := hgt_zero (r := r) (fun x hx => h x (List.mem_cons_of_mem _ hx)) (by omega)
    rw [List.length_cons, List.replicate_succ, ← this]
    congr 1
    omega
theorem hgt_one : ∀ {r : List Int}, (∀ x ∈ r, 0 ≤ x) → hgt r = 1 → ∃ i, i < r.length ∧ r = simL r.length i
  | [], _, h => by simp [hgt] at h
  | y :: r, h, h0 => by
    have h1 := h y (by simp)
    obtain ⟨h2, _⟩ := hgt_nonneg (r := r) fun x hx => h x (List.mem_cons_of_mem _ hx)
    simp only [hgt] at h0
    by_cases hy : y = 1
    · refine ⟨0, by simp, ?_⟩
      have := hgt_zero (r := r) (fun x hx => h x (List.mem_cons_of_mem _ hx)) (by omega)
      simp only [simL, List.length_cons, List.replicate_succ, List.set_cons_zero]
      rw [← this, hy]
    · obtain ⟨i, hi, hr⟩ := hgt_one (r := r) (fun x hx => h x (List.mem_cons_of_mem _ hx)) (by omega)
      refine ⟨i + 1, by simp; omega, ?_⟩
      simp only [simL, List.length_cons, List.replicate_succ, List.set_cons_succ]
      simp only [simL] at hr
      rw [← hr]
      congr 1
      omega
theorem simL_get (n i k : Nat) (hi : i < n) : (simL n i).getD k 0 = if k = i then 1 else 0 := by
  unfold simL
  by_cases hk : k < n
  · rw [List.getD_eq_getElem?_getD, List.getElem?_set]
    by_cases h : i = k
    · subst h; simp [hi]
    · simp [h, Ne.symm h, hk]
  · rw [List.getD_eq_getElem?_getD, List.getElem?_eq_none (by simp; omega), if_neg (by omega)]; rfl
theorem simL_inj {n i j : Nat} (hi : i < n) (hj : j < n) (h : simL n i = simL n j) : i = j := by
  have h1 := simL_get n i i hi
  have h2 := simL_get n j i hj
  rw [h] at h1
  rw [h1, if_pos rfl] at h2
  by_cases hij : i = j
  · exact hij
  · rw [if_neg hij] at h2; cases h2
def lowI (c : List (List Int)) (r : List Int) : Option Nat := (List.range c.length).find? fun i => decide (hgt (mirL c i r) < hgt r)
def simI (c : List (List Int)) (r : List Int) : Option Nat := (List.range c.length).find? fun i => r == simL c.length i
theorem find_some {n : Nat} {p : Nat → Bool} {i : Nat} (hi : i < n) (h : p i = true) (hj : ∀ j, j < i → p j = false) : (List.range n).find? p = some i := by
  rw [List.find?_range_eq_some]
  exact ⟨h, by simpa using hi, fun j hj' => by simp [hj j hj']⟩
theorem find_some' {n : Nat} {p : Nat → Bool} {i : Nat} (h : (List.range n).find? p = some i) : i < n ∧ p i = true ∧ ∀ j, j < i → p j = false := by
  rw [List.find?_range_eq_some] at h
  obtain ⟨h1, h2, h3⟩ := h
  exact ⟨by simpa using h2, h1, fun j hj => by simpa using h3 j hj⟩
structure Dn (c : List (List Int)) (r : List Int) : Prop where
  len : r.length = c.length
  sgn : sgnR r = 1
  hgt : hgt r ≤ 4000
theorem Dn.bnd {c : List (List Int)} {r : List Int} (h : Dn c r) : Bnd 4000 r := fun x hx => by
  have h1 := sgn_nonneg h.sgn
  have := h1 x hx
  have := (hgt_nonneg h1).2 x hx
  have := h.hgt
  omega
theorem Dn.next {c : List (List Int)} {r : List Int} (h : Dn c r) {i : Nat} (hi : lowI c r = some i) (hs : sgnR (mirL c i r) = 1) : Dn c (mirL c i r) := by
  have h1 := (find_some' hi).2.1
  have := h.hgt
  have h2 : Go.Proofs.YtaghdbbcadhjdaaGreatDoor.hgt (mirL c i r) < Go.Proofs.YtaghdbbcadhjdaaGreatDoor.hgt r := by simpa using h1
  exact ⟨by rw [mir_len]; exact h.len, hs, by omega⟩
theorem Dn.one {c : List (List Int)} {r : List Int} (h : Dn c r) (h1 : Go.Proofs.YtaghdbbcadhjdaaGreatDoor.hgt r = 1) : ∃ i, i < c.length ∧ r = simL c.length i ∧ simI c r = some i := by
  obtain ⟨i, hi, hr⟩ := hgt_one (sgn_nonneg h.sgn) h1
  rw [h.len] at hi hr
  refine ⟨i, hi, hr, find_some hi (by simpa using hr) fun j hj => ?_⟩
  cases hq : (r == simL c.length j) with
  | false => rfl
  | true =>
    have hq : r = simL c.length j := by simpa using hq
    have := simL_inj hi (Nat.lt_trans hj hi) (hr.symm.trans hq)
    omega
end Go.Proofs.YtaghdbbcadhjdaaGreatDoor
namespace Go.Proofs.YtaghdbbcadhjdaaGreatDoor
open Go Go.Aw Go.Cox
end Go.Proofs.YtaghdbbcadhjdaaGreatDoor
namespace Go.Proofs.YtaghdbbcadhjdaaGreatDoor
open Go Go.Aw Go.Cox
end Go.Proofs.YtaghdbbcadhjdaaGreatDoor
namespace Go.Proofs.YtaghdbbcadhjdaaGreatDoor
open Go Go.Aw Go.Cox
end Go.Proofs.YtaghdbbcadhjdaaGreatDoor
namespace Go.Proofs.YtaghdbbcadhjdaaGreatDoor
open Go Go.Aw Go.Cox
def lin (a : Int) (x : List Int) (b : Int) (y : List Int) : List Int := List.zipWith (fun p q => a * p - b * q) x y
def rowS (M : List (List Int)) (r c k : Nat) : List Int := lin ((M.getD r []).getD c 0) (M.getD k []) ((M.getD k []).getD c 0) (M.getD r [])
def rowI (M : List (List Int)) (r c k : Nat) : List Int := if (M.getD k []).getD c 0 = 0 then M.getD k [] else rowS M r c k
def elim (g : List (List Int) → Nat → List Int) : Nat → Nat → List (List Int) → List (List Int)
  | 0, _, M => M
  | f + 1, k, M => elim g f (k + 1) (M.set k (g M k))
theorem lin_len (a : Int) (x : List Int) (b : Int) (y : List Int) : (lin a x b y).length = min x.length y.length := by simp [lin]
theorem lin_get (a : Int) (x : List Int) (b : Int) (y : List Int) {j : Nat} (h : j < x.length) (h2 : j < y.length) : (lin a x b y).getD j 0 = a * x.getD j 0 - b * y.getD j 0 := by
  simp [lin, List.getD, List.getElem?_zipWith, List.getElem?_eq_getElem h, List.getElem?_eq_getElem h2]
theorem getD_out {x : List Int} {j : Nat} (h : x.length ≤ j) : x.getD j 0 = 0 := by simp [List.getD, List.getElem?_eq_none h]
theorem mul_bnd {b p q : Int} (hp : -b ≤ p ∧ p ≤ b) (hq : -b ≤ q ∧ q ≤ b) : -(b * b) ≤ p * q ∧ p * q ≤ b * b := by
  have h : (p * q).natAbs ≤ (b * b).natAbs := by
    rw [Int.natAbs_mul, Int.natAbs_mul]
    exact Nat.mul_le_mul (by omega) (by omega)
  have h0 : 0 ≤ b * b := Int.mul_nonneg (by omega) (by omega)
  omega
theorem lin_bnd {b m : Int} {x y : List Int} {p q : Int} (hm : 2 * (b * b) ≤ m) (hb : 0 ≤ b) (hx : Bnd b x) (hy : Bnd b y) (hp : -b ≤ p ∧ p ≤ b) (hq : -b ≤ q ∧ q ≤ b) : Bnd m (lin p x q y) := by
  intro z hz
  unfold lin at hz
  rw [List.mem_iff_getElem] at hz
  obtain ⟨i, hi, rfl⟩ := hz
  rw [List.getElem_zipWith]
  simp only [List.length_zipWith] at hi
  have h1 := hx _ (List.getElem_mem (l := x) (n := i) (by omega))
  have h2 := hy _ (List.getElem_mem (l := y) (n := i) (by omega))
  have e1 := mul_bnd hp h1
  have e2 := mul_bnd hq h2
  omega
def OKM (n : Nat) (b : Int) (M : List (List Int)) : Prop := M.length = n ∧ ∀ k, k < n → (M.getD k []).length = n ∧ Bnd b (M.getD k [])
def beta : Nat → Int
  | 0 => 8
  | 1 => 128
  | 2 => 32768
  | _ => 2147483648
theorem beta_pos (r : Nat) : 8 ≤ beta r ∧ beta r ≤ 2147483648 := by
  match r with
  | 0 => decide
  | 1 => decide
  | 2 => decide
  | n + 3 => simp [beta]
theorem beta_sq {r : Nat} (h : r ≤ 2) : 2 * (beta r * beta r) ≤ beta (r + 1) := by
  match r, h with
  | 0, _ => decide
  | 1, _ => decide
  | 2, _ => decide
theorem Bnd.mono {a b : Int} (h : a ≤ b) {x : List Int} (hx : Bnd a x) : Bnd b x := fun y hy => by have := hx y hy; omega
theorem Bnd.at' {b : Int} (hb : 0 ≤ b) {x : List Int} (hx : Bnd b x) (j : Nat) : -b ≤ x.getD j 0 ∧ x.getD j 0 ≤ b := by
  by_cases h : j < x.length
  · rw [getD_eq h]; exact hx _ (List.getElem_mem h)
  · rw [getD_out (by omega)]; omega
def Mid (n r k : Nat) (M : List (List Int)) : Prop := OKM n (beta (r + 1)) M ∧ ∀ j, j < n → (j ≤ r ∨ k ≤ j) → Bnd (beta r) (M.getD j [])
theorem set_get (M : List (List Int)) (k j : Nat) (x : List Int) (hk : k < M.length) : (M.set k x).getD j [] = if j = k then x else M.getD j [] := by
  simp only [List.getD, List.getElem?_set]
  by_cases h : k = j
  · subst h; simp [hk]
  · rw [if_neg h, if_neg (Ne.symm h)]
theorem Mid.row {n r k c : Nat} {M : List (List Int)} (h : Mid n r k M) (hk : k < n) (hr : r < k) (hn : n ≤ 4) : (rowS M r c k).length = n ∧ Bnd (beta (r + 1)) (rowS M r c k) := by
  obtain ⟨⟨h1, h2⟩, h3⟩ := h
  refine ⟨by unfold rowS; rw [lin_len, (h2 k hk).1, (h2 r (by omega)).1]; omega, ?_⟩
  have b0 := beta_pos r
  have b1 := h3 k hk (.inr (Nat.le_refl _))
  have b2 := h3 r (by omega) (.inl (Nat.le_refl _))
  exact lin_bnd (beta_sq (by omega)) (by omega) b1 b2 (b2.at' (by omega) c) (b1.at' (by omega) c)
theorem Mid.put {n r k : Nat} {M : List (List Int)} {x : List Int} (h : Mid n r k M) (hk : k < n) (hr : r < k) (hx : x.length = n ∧ Bnd (beta (r + 1)) x) : Mid n r (k + 1) (M.set k x) := by
  obtain ⟨⟨h1, h2⟩, h3⟩ := h
  refine ⟨⟨by simp [h1], fun j hj => ?_⟩, fun j hj hjk => ?_⟩
  · rw [set_get _ _ _ _ (by omega)]
    split
    · exact hx
    · exact h2 j hj
  · rw [set_get _ _ _ _ (by omega), if_neg (by omega)]
    exact h3 j hj (by omega)
def MulM (n : Nat) (M N : List (List Int)) : Prop := N.length = M.length ∧ ∀ k, k < M.length → (M.getD k []).length = n ∧ (N.getD k []).length = n ∧ ∃ l : Int, l ≠ 0 ∧ ∀ j, (N.getD k []).getD j 0 = l * (M.getD k []).getD j 0
theorem MulM.zero {n : Nat} {M N : List (List Int)} (h : MulM n M N) {k : Nat} (hk : k < M.length) (c : Nat) : (N.getD k []).getD c 0 = 0 ↔ (M.getD k []).getD c 0 = 0 := by
  obtain ⟨_, _, l, hl, h2⟩ := h.2 k hk
  rw [h2 c, Int.mul_eq_zero]
  simp [hl]
theorem MulM.put {n : Nat} {M N : List (List Int)} (h : MulM n M N) {r c k : Nat} (hr : r < k) (hk : k < M.length) (hp : (M.getD r []).getD c 0 ≠ 0) : MulM n (M.set k (rowI M r c k)) (N.set k (rowS N r c k)) := by
  have hl := h.1
  obtain ⟨a1, a2, l, hl0, a3⟩ := h.2 k hk
  obtain ⟨b1, b2, m, hm0, b3⟩ := h.2 r (by omega)
  refine ⟨by simp [hl], fun j hj => ?_⟩
  simp only [List.length_set] at hj
  rw [set_get _ _ _ _ hk, set_get _ _ _ _ (by omega)]
  by_cases hjk : j = k
  · rw [if_pos hjk, if_pos hjk]
    have hS : (rowS N r c k).length = n := by unfold rowS; rw [lin_len, a2, b2]; omega
    have gS : ∀ j, j < n → (rowS N r c k).getD j 0 = (N.getD r []).getD c 0 * (N.getD k []).getD j 0 - (N.getD k []).getD c 0 * (N.getD r []).getD j 0 := fun j hj => by
      unfold rowS; rw [lin_get _ _ _ _ (by omega) (by omega)]
    unfold rowI
    by_cases h0 : (M.getD k []).getD c 0 = 0
    · rw [if_pos h0]
      refine ⟨a1, hS, m * (M.getD r []).getD c 0 * l, ?_, fun j => ?_⟩
      · exact Int.mul_ne_zero (Int.mul_ne_zero hm0 hp) hl0
      · by_cases hj : j < n
        · rw [gS j hj, a3 c, h0, a3 j, b3 c, Int.mul_zero, Int.zero_mul, Int.sub_zero]; simp only [Int.mul_assoc]
        · rw [getD_out (x := rowS N r c k) (by omega), getD_out (x := M.getD k []) (by omega), Int.mul_zero]
    · rw [if_neg h0]
      have hM : (rowS M r c k).length = n := by unfold rowS; rw [lin_len, a1, b1]; omega
      refine ⟨hM, hS, m * l, Int.mul_ne_zero hm0 hl0, fun j => ?_⟩
      by_cases hj : j < n
      · rw [gS j hj, a3 c, a3 j, b3 c, b3 j]
        unfold rowS
        rw [lin_get _ _ _ _ (by omega) (by omega), Int.mul_sub]
        congr 1
        · rw [Int.mul_assoc, Int.mul_left_comm ((M.getD r []).getD c 0), Int.mul_assoc]
        · rw [Int.mul_comm m l, Int.mul_assoc l m, Int.mul_assoc l, Int.mul_left_comm m]
      · rw [getD_out (x := rowS N r c k) (by omega), getD_out (x := rowS M r c k) (by omega), Int.mul_zero]
  · rw [if_neg hjk, if_neg hjk]; exact h.2 j hj
theorem MulM.elim {n r c : Nat} : ∀ (f k : Nat) {M N : List (List Int)}, MulM n M N → r < k → k + f ≤ M.length → (M.getD r []).getD c 0 ≠ 0 → MulM n (elim (fun N k => rowI N r c k) f k M) (elim (fun N k => rowS N r c k) f k N)
  | 0, k, M, N, h, _, _, _ => h
  | f + 1, k, M, N, h, hr, hk, hp => by
    simp only [Go.Proofs.YtaghdbbcadhjdaaGreatDoor.elim]
    refine MulM.elim f (k + 1) (h.put hr (by omega) hp) (by omega) (by simp; omega) ?_
    rw [set_get _ _ _ _ (by omega), if_neg (by omega)]
    exact hp
theorem MulM.refl {n : Nat} {b : Int} {M : List (List Int)} (h : OKM n b M) : MulM n M M :=
  ⟨rfl, fun k hk => ⟨(h.2 k (by rw [← h.1]; exact hk)).1, (h.2 k (by rw [← h.1]; exact hk)).1, 1, by decide, fun j => by rw [Int.one_mul]⟩⟩
end Go.Proofs.YtaghdbbcadhjdaaGreatDoor
namespace Go.Proofs.YtaghdbbcadhjdaaGreatDoor
open Go Go.Aw Go.Cox
theorem Mid.skip {n r k : Nat} {M : List (List Int)} (h : Mid n r k M) (_ : k < n) : Mid n r (k + 1) M :=
  ⟨h.1, fun j hj hjk => h.2 j hj (by omega)⟩
end Go.Proofs.YtaghdbbcadhjdaaGreatDoor
namespace Go.Proofs.YtaghdbbcadhjdaaGreatDoor
open Go Go.Aw Go.Cox
end Go.Proofs.YtaghdbbcadhjdaaGreatDoor
namespace Go.Proofs.YtaghdbbcadhjdaaGreatDoor
open Go Go.Aw Go.Cox
end Go.Proofs.YtaghdbbcadhjdaaGreatDoor
namespace Go.Proofs.YtaghdbbcadhjdaaGreatDoor
open Go Go.Aw Go.Cox
end Go.Proofs.YtaghdbbcadhjdaaGreatDoor
namespace Go.Proofs.YtaghdbbcadhjdaaGreatDoor
open Go Go.Aw
end Go.Proofs.YtaghdbbcadhjdaaGreatDoor
namespace Go.Proofs.YtaghdbbcadhjdaaGreatDoor
open Go Go.Aw Go.Cox
end Go.Proofs.YtaghdbbcadhjdaaGreatDoor
namespace Go.Proofs.YtaghdbbcadhjdaaGreatDoor
open Go Go.Aw
theorem c_impl_same (c : List (List Int)) (u v : List Int) (hc : CartanP c) (hu : letters c.length u) (hv : letters c.length v) (hul : u.length ≤ 31) (hvl : v.length ≤ 31) :
    FunA B 79 [.sl false (.row false) c, .sl false .int u, .sl false .int v] (fun rs o => rs = [.bool (imageL c u == imageL c v)] ∧ o = []) := by
  have hn := hc.2.1
  refine FunA.walk B_ok (fn := Tryz.f79) (fun vs w => Tryz.call79 vs w) Tryz.func79 rfl (by rw [Tryz.ntmps79]; simp) (fun C hC hP hT hΓ hbt hfn hpin hfin => ?_); have hX := BX; rw [← hΓ, ← hbt.1, ← hbt.2.1, ← hbt.2.2.1] at hX; rw [Tryz.ntmps79]; simp only [AW7, simprocAttr, hX]
  refine Run.R ?_
  refine Run.nq ?_; refine Run.regionW hC (fun K hK => ?_); refine wW ?_
  refine FunA.cW hP hT (c_impl_image c u hc hu hul) ?_
  rintro rs o ⟨rfl, rfl⟩
  refine wW ?_
  refine FunA.cW hP hT (c_impl_image c v hc hv hvl) ?_
  rintro rs o ⟨rfl, rfl⟩
  refine wW ?_
  refine FunA.callW hP hT (c_slices_Equal (imageL c u) (imageL c v) (by rw [imageL_length]; omega)) (by simp only [AW7, simprocAttr]; first | done | decide | exact ⟨rfl, rfl⟩) ?_
  rintro rs o ⟨rfl, rfl⟩
  refine wW ?_
  refine wE ?_; clear hK K
  refine Run.reK hpin [6] [] (by decide) (by simp) ?_; simp only [AR, AW7, simprocAttr]
  refine Run.rW [6] (hfin _ _ rfl rfl ?_)
  exact ⟨rfl, rfl⟩
end Go.Proofs.YtaghdbbcadhjdaaGreatDoor
namespace Go.Proofs.YtaghdbbcadhjdaaGreatDoor
open Go Go.Aw
end Go.Proofs.YtaghdbbcadhjdaaGreatDoor
namespace Go.Proofs.YtaghdbbcadhjdaaGreatDoor
open Go Go.Aw Go.Cox
noncomputable def commB (c : List (List Int)) (a b : List Int) : Bool := wordB c a && wordB c b && (imageL c (a ++ b) == imageL c (b ++ a))
theorem c_impl_DoCommute (c : List (List Int)) (a b : List Int) : FunA B 50 [.sl false (.row false) c, .sl false .int a, .sl false .int b] (fun rs o => rs = [.bool (commB c a b)] ∧ o = []) := by
  refine FunA.walk B_ok (fn := Tryz.f50) (fun vs w => Tryz.call50 vs w) Tryz.func50 rfl (by rw [Tryz.ntmps50]; simp) (fun C hC hP hT hΓ hbt hfn hpin hfin => ?_); have hX := BX; rw [← hΓ, ← hbt.1, ← hbt.2.1, ← hbt.2.2.1] at hX; rw [Tryz.ntmps50]; simp only [AW7, simprocAttr, hX]
  refine Run.R ?_
  refine Run.nq ?_; refine Run.regionW hC (fun K hK => ?_); refine wW ?_
  refine FunA.cW hP hT (c_impl_IsWord c a) ?_
  rintro rs o ⟨rfl, rfl⟩
  cases ha : wordB c a with
  | false =>
    refine wW ?_
    refine .inl (CallG.off (.bool false) ?_)
    refine wW ?_
    refine .inl (CallG.off (.sl false .int []) ?_)
    refine wW ?_
    refine .inl (CallG.off (.sl false .int []) ?_)
    refine wW ?_
    refine .inl (CallG.off (.bool false) ?_)
    refine wW ?_
    refine wE ?_; clear hK K
    refine Run.rW [6] (hfin _ _ rfl rfl ?_)
    simp [commB, ha]
  | true =>
    refine wW ?_
    refine .inl (FunA.callG hP hT (c_impl_IsWord c b) (fun _ => rfl) (fun _ => by simp only [AW7, simprocAttr]) ?_)
    cases hb : wordB c b with
    | false =>
      refine wW ?_
      refine .inl (CallG.off (.sl false .int []) ?_)
      refine wW ?_
      refine .inl (CallG.off (.sl false .int []) ?_)
      refine wW ?_
      refine .inl (CallG.off (.bool false) ?_)
      refine wW ?_
      refine wE ?_; clear hK K
      refine Run.rW [6] (hfin _ _ rfl rfl ?_)
      simp [commB, ha, hb]
    | true =>
      obtain ⟨hc, h1, h2⟩ := wordB_iff.1 ha
      obtain ⟨_, h3, h4⟩ := wordB_iff.1 hb
      refine wW ?_
      refine .inr ⟨rfl, ?_⟩
      refine FunA.cW hP hT (c_impl_ConcatWords a b (by omega) (by omega)) ?_
      rintro rs o ⟨n1, rfl, rfl⟩
      refine wW ?_
      refine .inr ⟨rfl, ?_⟩
      refine FunA.cW hP hT (c_impl_ConcatWords b a (by omega) (by omega)) ?_
      rintro rs o ⟨n2, rfl, rfl⟩
      refine wW ?_
      refine .inr ⟨rfl, ?_⟩
      refine FunA.callW hP hT (c_impl_same c (a ++ b) (b ++ a) hc (letters_append.2 ⟨h2, h4⟩) (letters_append.2 ⟨h4, h2⟩) (by simp; omega) (by simp; omega)) (by simp only [AW7, simprocAttr]; first | done | decide | exact ⟨rfl, rfl⟩) ?_
      rintro rs o ⟨rfl, rfl⟩
      refine wW ?_
      refine wE ?_; clear hK K
      refine Run.reK hpin [6] [] (by decide) (by simp) ?_; simp only [AR, AW7, simprocAttr]
      refine Run.rW [6] (hfin _ _ rfl rfl ?_)
      simp [commB, ha, hb]
theorem c_spec_DoCommute (c : List (List Int)) (a b : List Int) (hcl : c.length ≤ 1048576) : FunA B 48 [.sl false (.row false) c, .sl false .int a, .sl false .int b] (fun rs o => rs = [.bool (commB c a b)] ∧ o = []) := by
  refine FunA.walk B_ok (fn := Tryz.f48) (fun vs w => Tryz.call48 vs w) Tryz.func48 rfl (by rw [Tryz.ntmps48]; simp) (fun C hC hP hT hΓ hbt hfn hpin hfin => ?_); have hX := BX; rw [← hΓ, ← hbt.1, ← hbt.2.1, ← hbt.2.2.1] at hX; rw [Tryz.ntmps48]; simp only [AW7, simprocAttr, hX]
  refine Run.R ?_
  refine Run.nq ?_; refine Run.regionW hC (fun K hK => ?_); refine wW ?_
  refine FunA.cW hP hT (c_spec_IsWord c a hcl) ?_
  rintro rs o ⟨rfl, rfl⟩
  cases ha : wordB c a with
  | false =>
    refine wW ?_
    refine .inl (CallG.off (.bool false) ?_)
    refine wW ?_
    refine .inl (CallG.off (.sl false .int []) ?_)
    refine wW ?_
    refine .inl (CallG.off (.sl false .int []) ?_)
    refine wW ?_
    refine .inl (CallG.off (.sl false .int []) ?_)
    refine wW ?_
    refine .inl (CallG.off (.sl false .int []) ?_)
    refine wW ?_
    refine .inl (CallG.off (.bool false) ?_)
    refine wW ?_
    refine wE ?_; clear hK K
    refine Run.rW [6] (hfin _ _ rfl rfl ?_)
    simp [commB, ha]
  | true =>
    refine wW ?_
    refine .inl (FunA.callG hP hT (c_spec_IsWord c b hcl) (fun _ => rfl) (fun _ => by simp only [AW7, simprocAttr]) ?_)
    cases hb : wordB c b with
    | false =>
      refine wW ?_
      refine .inl (CallG.off (.sl false .int []) ?_)
      refine wW ?_
      refine .inl (CallG.off (.sl false .int []) ?_)
      refine wW ?_
      refine .inl (CallG.off (.sl false .int []) ?_)
      refine wW ?_
      refine .inl (CallG.off (.sl false .int []) ?_)
      refine wW ?_
      refine .inl (CallG.off (.bool false) ?_)
      refine wW ?_
      refine wE ?_; clear hK K
      refine Run.rW [6] (hfin _ _ rfl rfl ?_)
      simp [commB, ha, hb]
    | true =>
      obtain ⟨hc, h1, h2⟩ := wordB_iff.1 ha
      obtain ⟨_, h3, h4⟩ := wordB_iff.1 hb
      have hn := hc.2.1
      refine wW ?_
      refine .inr ⟨rfl, ?_⟩
      refine FunA.cW hP hT (c_spec_ConcatWords a b (by omega) (by omega)) ?_
      rintro rs o ⟨rfl, rfl⟩
      refine wW ?_
      refine .inr ⟨rfl, ?_⟩
      refine FunA.cW hP hT (c_spec_l8Image c (a ++ b) hc (letters_append.2 ⟨h2, h4⟩) (by simp; omega)) ?_
      rintro rs o ⟨rfl, rfl⟩
      refine wW ?_
      refine .inr ⟨rfl, ?_⟩
      refine FunA.cW hP hT (c_spec_ConcatWords b a (by omega) (by omega)) ?_
      rintro rs o ⟨rfl, rfl⟩
      refine wW ?_
      refine .inr ⟨rfl, ?_⟩
      refine FunA.cW hP hT (c_spec_l8Image c (b ++ a) hc (letters_append.2 ⟨h4, h2⟩) (by simp; omega)) ?_
      rintro rs o ⟨rfl, rfl⟩
      refine wW ?_
      refine .inr ⟨rfl, ?_⟩
      refine FunA.callW hP hT (c_spec_EqualWords (imageL c (a ++ b)) (imageL c (b ++ a)) (by rw [imageL_length]; omega)) (by simp only [AW7, simprocAttr]; first | done | decide | exact ⟨rfl, rfl⟩) ?_
      rintro rs o ⟨rfl, rfl⟩
      refine wW ?_
      refine wE ?_; clear hK K
      refine Run.reK hpin [6] [] (by decide) (by simp) ?_; simp only [AR, AW7, simprocAttr]
      refine Run.rW [6] (hfin _ _ rfl rfl ?_)
      simp [commB, ha, hb]
end Go.Proofs.YtaghdbbcadhjdaaGreatDoor
namespace Go.Proofs.YtaghdbbcadhjdaaGreatDoor
open Go Go.Aw Go.Cox
end Go.Proofs.YtaghdbbcadhjdaaGreatDoor
namespace Go.Proofs.YtaghdbbcadhjdaaGreatDoor
open Go Go.Aw Go.Cox
theorem filt_step {α : Type} (p : α → Bool) (d : α) (zs : List α) (k : Nat) (h : k < zs.length) : (zs.take (k + 1)).filter p = (zs.take k).filter p ++ (if p (zs.getD k d) then [zs.getD k d] else []) := by
  have e : zs.take (k + 1) = zs.take k ++ [zs.getD k d] := by
    rw [List.take_add_one, List.getD_eq_getElem?_getD, List.getElem?_eq_getElem h]; rfl
  rw [e, List.filter_append]
  generalize zs.getD k d = y
  by_cases hp : p y = true
  · simp [hp]
  · simp [hp]
theorem filt_nodup (p : Nat × List Int → Bool) {zs : List (Nat × List Int)} (h : (lb1 zs).Nodup) (k : Nat) : (lb1 ((zs.take k).filter p)).Nodup :=
  h.sublist (((List.filter_sublist).trans (List.take_sublist k zs)).map _)
theorem filt_rows (q : List Int → Bool) (zs : List (Nat × List Int)) : rw2 (zs.filter fun p => q p.2) = (rw2 zs).filter q := by
  unfold rw2
  rw [List.filter_map]
  rfl
theorem filt_len {α : Type} (p : α → Bool) (zs : List α) (k : Nat) : ((zs.take k).filter p).length ≤ k :=
  Nat.le_trans (List.length_filter_le _ _) (by rw [List.length_take]; omega)
theorem all_succ (f : Nat → Bool) (i : Nat) : (List.range (i + 1)).all f = ((List.range i).all f && f i) := by rw [List.range_succ]; simp
noncomputable def cenE (c : List (List Int)) (w : List Int) : Bool := (List.range c.length).all fun (i : Nat) => commB c w [(i : Int)]
noncomputable def cenX (c : List (List Int)) : List (List Int) := if elsB c 48 then (allL c).filter (cenE c) else []
set_option maxHeartbeats 1000000 in
theorem c_impl_CentralElementsR (c : List (List Int)) : FunA BJ 22 [.sl false (.row false) c] (fun rs o => ∃ ys g nn rest, (rw2 ys = cenX c ∧ nn = true ∧ rest = [.bool (elsB c 48)]) ∧ (lb1 ys).Nodup ∧ rest.all flatAV = true ∧ rs = .own 0 g :: rest ∧ o = [.arr .lrow ys g nn]) := by
  refine FunA.walk BJ_ok (fn := Tryz.f22) (fun vs w => Tryz.call22 vs w) Tryz.func22 rfl (by rw [Tryz.ntmps22]; simp) (fun C hC hP hT hΓ hbt hfn hpin hfin => ?_); haveI hDJ : DrLe BJ C := ⟨fun h => by rw [hbt.2.2.2] at h; cases h⟩; have hPJ := hP; have hTJ := hT; replace hP : B.P = C.P := hP; replace hT : B.tid = C.tid := hT; have hX := BXJ; rw [← hΓ, ← hbt.1, ← hbt.2.1, ← hbt.2.2.1] at hX; rw [Tryz.ntmps22]; simp only [AW7, simprocAttr, hX]
  refine Run.R ?_
  cases he : elsB c 48 with
  | false =>
    refine Run.nq ?_; refine Run.regionW hC (fun K hK => ?_); refine wW ?_
    refine FunA.cW hPJ hTJ (c_impl_few0 c he) ?_
    rintro rs o ⟨rfl, rfl⟩
    refine wW ?_
    refine wE ?_; clear hK K
    refine Run.R ?_
    refine Run.nq ?_; refine Run.cW ?_ ?_
    rotate_left
    · intro h; cases h
    intro _
    refine Run.R ?_
    refine Run.reK hpin [2, 3] [0] (by decide) (by simp) ?_; simp only [AR, AW7, simprocAttr]
    refine Run.rW [2, 3] (hfin _ _ rfl rfl ?_)
    exact ⟨[], 0, true, [.bool (elsB c 48)], ⟨by unfold cenX; rw [he]; rfl, rfl, rfl⟩, by simp [lb1], rfl, by rw [he], rfl⟩
  | true =>
    obtain ⟨hF, _, hl200, _⟩ := elsB_fin he (by omega)
    have hn := hF.1.2.1
    refine Run.nq ?_; refine Run.regionW hC (fun K hK => ?_); refine wW ?_
    refine FunA.cW hPJ hTJ (c_impl_few1 c he) ?_
    rintro rs o ⟨zs, ⟨hz, hzn⟩, rfl, rfl⟩
    have hzl : zs.length = (allL c).length := by rw [← hz, rwl]
    refine wW ?_
    refine wE ?_; clear hK K
    refine Run.R ?_
    refine Run.nq ?_; refine Run.cW ?_ ?_
    · intro h; cases h
    intro _
    refine Run.R ?_
    refine Run.R ?_
    refine Run.reK hpin [0, 6, 20, 21, 22] [0] (by decide) (by simp) ?_; simp only [AR, AW7, simprocAttr]
    refine Run.loopI (X := Nat) (fun k => ⟨47, [(0, true, .v (.sl false (.row false) (c))), (6, true, .v (.own 0 0)), (20, true, .v (.sl true .lrow (zs))), (21, true, .v (.int .i64 ((zs.length : Nat)))), (22, true, .v (.int .i64 (k)))], [.arr .lrow (((zs.take k).filter fun p => cenE c p.2)) 0 true]⟩) (fun k => k ≤ zs.length) (fun k => zs.length - k) (0) (Nat.zero_le _) ?_ ?_
    · exact Le.sub (by first | rfl | simp) (by simp only [AW7, simprocAttr, hX]; try simp <;> try (first | rfl | exact ⟨rfl, rfl⟩ | exact ⟨rfl, rfl, rfl⟩))
    rintro k hk ih
    try simp only []
    refine Run.R ?_
    refine Run.nq ?_; refine Run.cW ?_ ?_
    rotate_left
    · intro h
      have h : k = zs.length := by rw [decide_eq_false_iff_not] at h; omega
      refine Run.exit rfl ?_; refine Run.nq ?_
      refine Run.R ?_
      refine Run.reK hpin [2, 3] [0] (by decide) (by simp) ?_; simp only [AR, AW7, simprocAttr]
      refine Run.rW [2, 3] (hfin _ _ rfl rfl ?_)
      refine ⟨_, 0, true, [.bool (elsB c 48)], ⟨?_, rfl, rfl⟩, filt_nodup _ hzn _, rfl, by rw [he], rfl⟩
      rw [h, List.take_length, filt_rows, hz]
      unfold cenX; rw [he]; rfl
    intro h
    have h : k < zs.length := by rw [decide_eq_true_eq] at h; omega
    have hst := filt_step (fun p : Nat × List Int => cenE c p.2) (0, []) zs k h
    have hfl := filt_len (fun p : Nat × List Int => cenE c p.2) zs k
    generalize (zs.take k).filter (fun p : Nat × List Int => cenE c p.2) = out at hst hfl ⊢
    have hob : (out.length + 1) * 24 ≤ 140737488355328 := by omega
    refine Run.R ?_
    refine Run.R ?_
    refine Run.R ?_
    refine Run.reK hpin [0, 6, 20, 21, 22, 8, 9, 27, 28] [0] (by decide) (by simp) ?_; simp only [AR, AW7, simprocAttr]
    generalize hw : zs.getD k (0, []) = lw at *
    obtain ⟨l, w⟩ := lw
    simp only [] at hst ⊢
    refine Run.loopI (X := Nat) (fun i => ⟨47, [(0, true, .v (.sl false (.row false) (c))), (6, true, .v (.own 0 0)), (20, true, .v (.sl true .lrow (zs))), (21, true, .v (.int .i64 ((zs.length : Nat)))), (22, true, .v (.int .i64 (k))), (8, true, .v (.lr l w)), (9, true, .v (.bool (((List.range i).all fun (i : Nat) => commB c w [(i : Int)])))), (27, true, .v (.int .i64 ((c.length : Nat)))), (28, true, .v (.int .i64 (i)))], [.arr .lrow (out) 0 true]⟩) (fun i => i ≤ c.length) (fun i => c.length - i) (0) (Nat.zero_le _) ?_ ?_
    · exact Le.sub (by first | rfl | simp) (by simp only [AW7, simprocAttr, hX]; try simp <;> try (first | rfl | exact ⟨rfl, rfl⟩ | exact ⟨rfl, rfl, rfl⟩))
    rintro i hi ihK
    try simp only []
    refine Run.R ?_
    refine Run.nq ?_; refine Run.cW ?_ ?_
    rotate_left
    · intro h2
      have h2 : i = c.length := by rw [decide_eq_false_iff_not] at h2; omega
      subst h2
      have hce : ((List.range c.length).all fun (i : Nat) => commB c w [(i : Int)]) = cenE c w := rfl
      rw [hce]
      refine Run.exit rfl ?_; refine Run.nq ?_
      refine Run.R ?_
      refine Run.nq ?_; refine Run.cW ?_ ?_
      · intro h3
        rw [h3, if_pos rfl] at hst
        refine Run.R ?_
        refine Run.RW ?_
        refine Run.reK hpin [0, 6, 20, 21, 22] [0] (by decide) (by simp) ?_; simp only [AR, AW7, simprocAttr]
        refine Run.le ?_ (ih (k + 1) (h) (by (try simp only [List.length_append, List.length_cons, List.length_nil]); omega))
        exact Le.sub (by first | rfl | (simp only [hst]; done) | (rw [hst]; rfl)) (by simp only [AW7, simprocAttr]; try simp)
      · intro h3
        rw [h3, if_neg (by decide), List.append_nil] at hst
        refine Run.RW ?_
        refine Run.reK hpin [0, 6, 20, 21, 22] [0] (by decide) (by simp) ?_; simp only [AR, AW7, simprocAttr]
        refine Run.le ?_ (ih (k + 1) (h) (by (try simp only [List.length_append, List.length_cons, List.length_nil]); omega))
        exact Le.sub (by first | rfl | (simp only [hst]; done) | (rw [hst]; rfl)) (by simp only [AW7, simprocAttr]; try simp)
    intro h2
    have h2 : i < c.length := by rw [decide_eq_true_eq] at h2; omega
    have hall := all_succ (fun (i : Nat) => commB c w [(i : Int)]) i
    refine Run.R ?_
    cases hb : (List.range i).all fun (i : Nat) => commB c w [(i : Int)] with
    | false =>
      rw [hb, Bool.false_and] at hall
      refine Run.nq ?_; refine Run.regionW hC (fun K hK => ?_); refine wW ?_
      refine .inl (CallG.off (.bool false) ?_)
      refine wW ?_
      refine wE ?_; clear hK K
      refine Run.RW ?_
      refine Run.reK hpin [0, 6, 20, 21, 22, 8, 9, 27, 28] [0] (by decide) (by simp) ?_; simp only [AR, AW7, simprocAttr]
      refine Run.le ?_ (ihK (i + 1) (by omega) (by omega))
      exact Le.sub (by rfl) (by simp only [hall, AW7, simprocAttr]; try simp)
    | true =>
      rw [hb, Bool.true_and] at hall
      refine Run.nq ?_; refine Run.regionW hC (fun K hK => ?_); refine wW ?_
      refine .inr ⟨rfl, ?_⟩
      refine FunA.cW hP hT (c_impl_DoCommute c w [(i : Int)]) ?_
      rintro rs o ⟨rfl, rfl⟩
      refine wW ?_
      refine wE ?_; clear hK K
      refine Run.RW ?_
      refine Run.reK hpin [0, 6, 20, 21, 22, 8, 9, 27, 28] [0] (by decide) (by simp) ?_; simp only [AR, AW7, simprocAttr]
      refine Run.le ?_ (ihK (i + 1) (by omega) (by omega))
      exact Le.sub (by rfl) (by simp only [hall, AW7, simprocAttr]; try simp)
set_option maxHeartbeats 1000000 in
theorem c_spec_CentralElementsR (c : List (List Int)) : FunA B 21 [.sl false (.row false) c] (fun rs o => ∃ ys g nn rest, (rw2 ys = cenX c ∧ nn = true ∧ rest = [.bool (elsB c 48)]) ∧ (lb1 ys).Nodup ∧ rest.all flatAV = true ∧ rs = .own 0 g :: rest ∧ o = [.arr .lrow ys g nn]) := by
  refine FunA.walk B_ok (fn := Tryz.f21) (fun vs w => Tryz.call21 vs w) Tryz.func21 rfl (by rw [Tryz.ntmps21]; simp) (fun C hC hP hT hΓ hbt hfn hpin hfin => ?_); have hX := BX; rw [← hΓ, ← hbt.1, ← hbt.2.1, ← hbt.2.2.1] at hX; rw [Tryz.ntmps21]; simp only [AW7, simprocAttr, hX]
  refine Run.R ?_
  refine Run.R ?_
  refine Run.nq ?_; refine Run.regionW hC (fun K hK => ?_); refine wW ?_
  refine FunA.cW hP hT (c_spec_l18Small c) ?_
  rintro rs o ⟨rfl, zs, ⟨hz, hzn⟩, rfl⟩
  have hzl : zs.length = (if elsB c 48 then allL c else []).length := by rw [← hz]; simp [rw2]
  have hz200 : zs.length ≤ 200 := by
    rw [hzl]
    split
    · rename_i h; exact (elsB_fin h (by omega)).2.2.1
    · simp
  have hcl : 0 < zs.length → c.length ≤ 4 := fun h => by
    cases he : elsB c 48 with
    | true => exact (elsB_fin he (by omega)).1.1.2.1
    | false => rw [he] at hzl; have : zs.length = 0 := hzl; omega
  refine wW ?_
  refine wE ?_; clear hK K
  refine Run.R ?_
  refine Run.reK hpin [0, 4, 5, 6, 7] [0, 1] (by decide) (by simp) ?_; simp only [AR, AW7, simprocAttr]
  refine Run.loopI (X := Nat) (fun k => ⟨49, [(0, true, .v (.sl false (.row false) (c))), (4, true, .v (.own 0 0)), (5, true, .v (.own 1 0)), (6, true, .v (.bool ((elsB c 48)))), (7, true, .v (.int .i64 (k)))], [.arr .lrow (((zs.take k).filter fun p => cenE c p.2)) 0 true, .arr .lrow (zs) 0 true]⟩) (fun k => k ≤ zs.length) (fun k => zs.length - k) (0) (Nat.zero_le _) ?_ ?_
  · exact Le.sub (by first | rfl | simp) (by simp only [AW7, simprocAttr, hX]; try simp <;> try (first | rfl | exact ⟨rfl, rfl⟩ | exact ⟨rfl, rfl, rfl⟩))
  rintro k hk ih
  try simp only []
  refine Run.R ?_
  refine Run.nq ?_; refine Run.cW ?_ ?_
  rotate_left
  · intro h
    have h : k = zs.length := by rw [decide_eq_false_iff_not] at h; omega
    refine Run.exit rfl ?_; refine Run.nq ?_
    refine Run.R ?_
    refine Run.reK hpin [2, 3] [0] (by decide) (by simp) ?_; simp only [AR, AW7, simprocAttr]
    refine Run.rW [2, 3] (hfin _ _ rfl rfl ?_)
    refine ⟨_, 0, true, [.bool (elsB c 48)], ⟨?_, rfl, rfl⟩, filt_nodup _ hzn _, rfl, rfl, rfl⟩
    rw [h, List.take_length, filt_rows, hz]
    unfold cenX
    cases elsB c 48 <;> rfl
  intro h
  have h : k < zs.length := by rw [decide_eq_true_eq] at h; omega
  have hn := hcl (by omega)
  have hst := filt_step (fun p : Nat × List Int => cenE c p.2) (0, []) zs k h
  have hfl := filt_len (fun p : Nat × List Int => cenE c p.2) zs k
  generalize (zs.take k).filter (fun p : Nat × List Int => cenE c p.2) = out at hst hfl ⊢
  have hob : (out.length + 1) * 24 ≤ 140737488355328 := by omega
  refine Run.R ?_
  refine Run.R ?_
  refine Run.reK hpin [0, 4, 5, 6, 7, 8, 9] [0, 1] (by decide) (by simp) ?_; simp only [AR, AW7, simprocAttr]
  generalize hw : zs.getD k (0, []) = lw at hst
  obtain ⟨l, w⟩ := lw
  simp only [] at hst
  refine Run.loopI (X := Nat) (fun i => ⟨49, [(0, true, .v (.sl false (.row false) (c))), (4, true, .v (.own 0 0)), (5, true, .v (.own 1 0)), (6, true, .v (.bool ((elsB c 48)))), (7, true, .v (.int .i64 (k))), (8, true, .v (.bool (((List.range i).all fun (i : Nat) => commB c w [(i : Int)])))), (9, true, .v (.int .i64 (i)))], [.arr .lrow (out) 0 true, .arr .lrow (zs) 0 true]⟩) (fun i => i ≤ c.length) (fun i => c.length - i) (0) (Nat.zero_le _) ?_ ?_
  · exact Le.sub (by first | rfl | simp) (by simp only [AW7, simprocAttr, hX]; try simp <;> try (first | rfl | exact ⟨rfl, rfl⟩ | exact ⟨rfl, rfl, rfl⟩))
  rintro i hi ihK
  try simp only []
  refine Run.R ?_
  refine Run.nq ?_; refine Run.cW ?_ ?_
  rotate_left
  · intro h2
    have h2 : i = c.length := by rw [decide_eq_false_iff_not] at h2; omega
    subst h2
    have hce : ((List.range c.length).all fun (i : Nat) => commB c w [(i : Int)]) = cenE c w := rfl
    rw [hce]
    refine Run.exit rfl ?_; refine Run.nq ?_
    refine Run.R ?_
    refine Run.nq ?_; refine Run.cW ?_ ?_
    · intro h3
      rw [h3, if_pos rfl] at hst
      refine Run.nq ?_; refine Run.regionW hC (fun K hK => ?_); refine wW ?_
      try simp only [hw]
      refine wW ?_
      refine wE ?_; clear hK K
      refine Run.RW ?_
      refine Run.reK hpin [0, 4, 5, 6, 7] [0, 1] (by decide) (by simp) ?_; simp only [AR, AW7, simprocAttr]
      refine Run.le ?_ (ih (k + 1) (h) (by (try simp only [List.length_append, List.length_cons, List.length_nil]); omega))
      exact Le.sub (by first | rfl | (simp only [hst]; done) | (rw [hst]; rfl)) (by simp only [AW7, simprocAttr]; try simp)
    · intro h3
      rw [h3, if_neg (by decide), List.append_nil] at hst
      refine Run.RW ?_
      refine Run.reK hpin [0, 4, 5, 6, 7] [0, 1] (by decide) (by simp) ?_; simp only [AR, AW7, simprocAttr]
      refine Run.le ?_ (ih (k + 1) (h) (by (try simp only [List.length_append, List.length_cons, List.length_nil]); omega))
      exact Le.sub (by first | rfl | (simp only [hst]; done) | (rw [hst]; rfl)) (by simp only [AW7, simprocAttr]; try simp)
  intro h2
  have h2 : i < c.length := by rw [decide_eq_true_eq] at h2; omega
  have hall := all_succ (fun (i : Nat) => commB c w [(i : Int)]) i
  cases hb : (List.range i).all fun (i : Nat) => commB c w [(i : Int)] with
  | false =>
    rw [hb, Bool.false_and] at hall
    refine Run.nq ?_; refine Run.regionW hC (fun K hK => ?_); refine wW ?_
    refine .inl (CallG.off (.bool false) ?_)
    refine wW ?_
    refine wE ?_; clear hK K
    refine Run.RW ?_
    refine Run.reK hpin [0, 4, 5, 6, 7, 8, 9] [0, 1] (by decide) (by simp) ?_; simp only [AR, AW7, simprocAttr]
    refine Run.le ?_ (ihK (i + 1) (by omega) (by omega))
    exact Le.sub (by rfl) (by simp only [hall, AW7, simprocAttr]; try simp)
  | true =>
    rw [hb, Bool.true_and] at hall
    refine Run.nq ?_; refine Run.regionW hC (fun K hK => ?_); refine wW ?_
    try simp only [hw]
    refine wW ?_
    refine .inr ⟨rfl, ?_⟩
    refine FunA.cW hP hT (c_spec_DoCommute c w [(i : Int)] (by omega)) ?_
    rintro rs o ⟨rfl, rfl⟩
    refine wW ?_
    refine wE ?_; clear hK K
    refine Run.RW ?_
    refine Run.reK hpin [0, 4, 5, 6, 7, 8, 9] [0, 1] (by decide) (by simp) ?_; simp only [AR, AW7, simprocAttr]
    refine Run.le ?_ (ihK (i + 1) (by omega) (by omega))
    exact Le.sub (by rfl) (by simp only [hall, AW7, simprocAttr]; try simp)
theorem cenX_len (c : List (List Int)) : (cenX c).length ≤ 200 := by
  unfold cenX
  split
  · rename_i h
    have := (elsB_fin h (by omega)).2.2.1
    have := List.length_filter_le (cenE c) (allL c)
    omega
  · simp
theorem cenX_rows (c : List (List Int)) : ∀ r ∈ cenX c, r.length ≤ 30 := by
  intro r hr
  unfold cenX at hr
  split at hr
  · rename_i h
    exact (((allL_spec (elsB_fin h (by omega)).1).2 r).1 (List.mem_filter.1 hr).1).2.2
  · cases hr
theorem c_impl_CentralElements (c : List (List Int)) : FunA BJ 22 [.sl false (.row false) c] (fun rs o => rs = [.own 0 0, .bool (elsB c 48)] ∧ ∃ hs, hs.length = (cenX c).length ∧ o = [.mat hs (cenX c) 0 true]) :=
  (FunA.mat (by rfl) (post := fun rows nn rest => rows = cenX c ∧ nn = true ∧ rest = [.bool (elsB c 48)]) (c_impl_CentralElementsR c)).mono fun rs o ⟨hs, rows, nn, rest, ⟨h1, h2, h3⟩, h4, h5, h6⟩ => by subst h1 h2 h3; exact ⟨h5, hs, h4, h6⟩
theorem c_spec_CentralElements (c : List (List Int)) : FunA B 21 [.sl false (.row false) c] (fun rs o => rs = [.own 0 0, .bool (elsB c 48)] ∧ ∃ hs, hs.length = (cenX c).length ∧ o = [.mat hs (cenX c) 0 true]) :=
  (FunA.mat (by rfl) (post := fun rows nn rest => rows = cenX c ∧ nn = true ∧ rest = [.bool (elsB c 48)]) (c_spec_CentralElementsR c)).mono fun rs o ⟨hs, rows, nn, rest, ⟨h1, h2, h3⟩, h4, h5, h6⟩ => by subst h1 h2 h3; exact ⟨h5, hs, h4, h6⟩
end Go.Proofs.YtaghdbbcadhjdaaGreatDoor
namespace Go.Proofs.YtaghdbbcadhjdaaGreatDoor
open Go Go.Aw
theorem sumL_le {rows : List (List Int)} {n m : Nat} (h : rows.length ≤ n) (hr : ∀ r ∈ rows, r.length ≤ m) : sumL rows ≤ n * m := by
  have key : ∀ l : List (List Int), (∀ r ∈ l, r.length ≤ m) → sumL l ≤ l.length * m := by
    intro l
    induction l with
    | nil => intro _; simp [sumL]
    | cons r l ih =>
      intro hl
      have h1 := hl r (by simp)
      have h2 := ih fun x hx => hl x (List.mem_cons_of_mem _ hx)
      simp only [sumL, List.length_cons, Nat.add_mul]
      omega
  exact Nat.le_trans (key rows hr) (Nat.mul_le_mul_right m h)
theorem c_heldIotaR (k : Int) (rows : List (List Int)) (hr : rows.length ≤ 4503599627370496) (hrr : ∀ r ∈ rows, r.length ≤ 4503599627370496) (hk : 0 ≤ k ∧ k + sumL rows ≤ 4503599627370496) :
    FunA B 15 [.sl false (.row false) (iotaR k rows), .int .i64 k] (fun rs o => rs = [.int .i64 (k + sumL rows)] ∧ o = []) := by
  have hlen := iotaR_length k rows
  refine FunA.walk B_ok (fn := Tryz.f15) (fun vs w => Tryz.call15 vs w) Tryz.func15 rfl (by rw [Tryz.ntmps15]; simp) (fun C hC hP hT hΓ hbt hfn hpin hfin => ?_); have hX := BX; rw [← hΓ, ← hbt.1, ← hbt.2.1, ← hbt.2.2.1] at hX; rw [Tryz.ntmps15]; simp only [AW7, simprocAttr, hX]
  refine Run.R ?_
  refine Run.R ?_
  refine Run.loopI (X := Nat) (fun i => ⟨21, [(0, true, .v (.sl false (.row false) (iotaR k rows))), (1, true, .v (.int .i64 (k + sumL (rows.take i)))), (4, true, .v (.int .i64 0)), (5, true, .v (.int .i64 i))], []⟩) (fun i => i ≤ rows.length) (fun i => rows.length - i) 0 (Nat.zero_le _) ?_ ?_
  · refine Le.sub rfl ?_
    simp only [AW7, simprocAttr, hX]; try simp [sumL]
  rintro i hi ih
  have hst := sumL_take rows i
  refine Run.R ?_
  rw [hlen]
  refine Run.nq ?_; refine Run.cW ?_ ?_
  · intro hc
    have hc : i < rows.length := by simpa using hc
    have hsn := sumL_snoc rows i hc
    have hst2 := sumL_take rows (i + 1)
    have hget : (iotaR k rows).getD i [] = iota (k + sumL (rows.take i)) (rows.getD i []).length := by
      have h1 : iotaR k rows = iotaR k (rows.take (i + 1)) ++ iotaR (k + sumL (rows.take (i + 1))) (rows.drop (i + 1)) := by rw [← iotaR_append, List.take_append_drop]
      rw [h1, iotaR_snoc k rows i hc, List.append_assoc, List.getD_eq_getElem?_getD, List.getElem?_append_right (by rw [iotaR_length]; simp; omega)]
      rw [iotaR_length]
      simp [show min i rows.length = i by omega]
    have hrl := hrr (rows.getD i []) (by rw [List.getD_eq_getElem?_getD]; simp [hc])
    refine Run.nq ?_; refine Run.regionW hC (fun K hK => ?_); refine wW ?_
    rw [hget]
    refine FunA.cW hP hT (c_heldIota (k + sumL (rows.take i)) (rows.getD i []).length hrl (by omega)) ?_
    rintro rs o ⟨rfl, rfl⟩
    refine wW ?_
    refine wE ?_; clear hK K
    refine Run.R ?_
    refine Run.nq ?_; refine Run.cW ?_ ?_
    · intro h2; simp at h2; omega
    intro h2
    refine Run.RW ?_
    rw [show k + (sumL (rows.take i) : Int) + ((rows.getD i []).length : Nat) = k + (sumL (rows.take (i + 1)) : Nat) by rw [hsn]; omega]
    refine Run.le ?_ (ih (i + 1) (by omega) (by (try simp only [List.length_append, List.length_cons, List.length_nil]); omega))
    exact Le.sub (by rfl) (by simp only [AW7, simprocAttr]; try simp)
  · intro hc
    have hc : i = rows.length := by simp at hc; omega
    subst hc
    rw [List.take_length]
    refine Run.exit rfl ?_; refine Run.nq ?_
    refine Run.R ?_
    refine Run.rW [4] (hfin _ _ rfl rfl ?_)
    exact ⟨rfl, rfl⟩
end Go.Proofs.YtaghdbbcadhjdaaGreatDoor
namespace Go.Proofs.YtaghdbbcadhjdaaGreatDoor
open Go Go.Aw
theorem c_FnExactCentralElements (c : List (List Int)) (_ : ∀ r ∈ c, ∀ n ∈ r, (Lit.int .i64 n).wf = true) : FunA BJ 5 [.sl false (.row false) c] (fun rs _ => rs = [.bool true]) := by
  refine FunA.walk BJ_ok (fn := Tryz.f5) (fun vs w => Tryz.call5 vs w) Tryz.func5 rfl (by rw [Tryz.ntmps5]; simp) (fun C hC hP hT hΓ hbt hfn hpin hfin => ?_); haveI hDJ : DrLe BJ C := ⟨fun h => by rw [hbt.2.2.2] at h; cases h⟩; have hPJ := hP; have hTJ := hT; replace hP : B.P = C.P := hP; replace hT : B.tid = C.tid := hT; have hX := BXJ; rw [← hΓ, ← hbt.1, ← hbt.2.1, ← hbt.2.2.1] at hX; rw [Tryz.ntmps5]; simp only [AW7, simprocAttr, hX]
  refine Run.R ?_
  refine Run.keep [0, 2] ?_; simp only [AK, Nat.reduceBEq]
  refine Run.R ?_
  refine Run.keep [0, 2, 3] ?_; simp only [AK, Nat.reduceBEq]
  refine Run.nq ?_; refine Run.regionW hC (fun K hK => ?_); refine wW ?_
  refine FunA.cW hP hT (c_szIntSS c (1048576) ⟨by omega, by omega⟩) ?_
  rintro rs o ⟨rfl, rfl⟩
  refine wW ?_
  refine wE ?_; clear hK K
  refine Run.keep [0, 2, 3] ?_; simp only [AK, Nat.reduceBEq]
  refine Run.R ?_
  refine Run.keep [0, 2, 3, 18] ?_; simp only [AK, Nat.reduceBEq]
  refine Run.nq ?_; refine Run.cW ?_ ?_
  · intro hc
    refine Run.R ?_
    refine Run.rW [2] (hfin _ _ rfl rfl ?_)
    rfl
  intro hc
  have hzc : 0 ≤ szII c (1048576) := by simp at hc; omega
  clear hc
  have hbc := szII_all c (1048576) ⟨by omega, by omega⟩ hzc
  obtain ⟨hcn, hcr, hcs, hcl⟩ := hbc
  refine Run.nq ?_; refine Run.regionW hC (fun K hK => ?_); refine wW ?_
  refine FunA.cW hP hT (c_toIntSS c hcn hcr) ?_
  rintro rs o ⟨rfl, hs1, hs1l, rfl⟩
  refine wW ?_
  refine FunA.cW hP hT (c_spec_CentralElements c) ?_
  rintro rs o ⟨rfl, hs2, hs2l, rfl⟩
  refine wW ?_
  refine wE ?_; clear hK K
  refine Run.keep [0, 2, 3, 4, 5] ?_; simp only [AK, Nat.reduceBEq]
  refine Run.nq ?_; refine Run.regionW hC (fun K hK => ?_); refine wW ?_
  refine FunA.cW hP hT (c_toIntSS c hcn hcr) ?_
  rintro rs o ⟨rfl, hs3, hs3l, rfl⟩
  refine wW ?_
  refine wE ?_; clear hK K
  refine Run.keep [0, 2, 3, 4, 5, 6] ?_; simp only [AK, Nat.reduceBEq]
  refine Run.nq ?_; refine Run.regionW hC (fun K hK => ?_); refine wW ?_
  refine FunA.cW hPJ hTJ (c_impl_CentralElements c) ?_
  rintro rs o ⟨rfl, hs4, hs4l, rfl⟩
  refine wW ?_
  refine wE ?_; clear hK K
  refine Run.keep [0, 2, 3, 4, 5, 6, 7, 8] ?_; simp only [AK, Nat.reduceBEq]
  refine Run.nq ?_; refine Run.regionW hC (fun K hK => ?_); refine wW ?_
  refine FunA.cW hP hT (c_eqIntSS (cenX c) (cenX c) (by have := cenX_len c; omega) (fun r hr => by have := cenX_rows c r hr; omega)) ?_
  rintro rs o ⟨rfl, rfl⟩
  refine wW ?_
  refine wE ?_; clear hK K
  refine Run.keep [0, 2, 3, 4, 5, 6, 7, 8, 40] ?_; simp only [AK, Nat.reduceBEq]
  refine Run.nq ?_; refine Run.cW ?_ ?_
  · intro hc
    exfalso
    simp [iota_length, sumL_iotaR] at hc <;> omega
  intro hc0; clear hc0
  refine Run.nq ?_; refine Run.regionW hC (fun K hK => ?_); refine wW ?_
  refine FunA.cW hP hT (c_toIntSS c hcn hcr) ?_
  rintro rs o ⟨rfl, hs5, hs5l, rfl⟩
  refine wW ?_
  refine FunA.cW hP hT (c_eqIntSS (c) (c) (by omega) (fun r hr => by have := hcr r hr; omega)) ?_
  rintro rs o ⟨rfl, rfl⟩
  refine wW ?_
  refine wE ?_; clear hK K
  refine Run.keep [0, 2, 3, 4, 5, 6, 7, 8, 45] ?_; simp only [AK, Nat.reduceBEq]
  refine Run.nq ?_; refine Run.cW ?_ ?_
  · intro hc
    exfalso
    simp [iota_length, sumL_iotaR] at hc <;> omega
  intro hc0; clear hc0
  refine Run.R ?_
  refine Run.keep [0, 2, 3, 4, 5, 6, 7, 8, 9] ?_; simp only [AK, Nat.reduceBEq]
  refine Run.nq ?_; refine Run.regionW hC (fun K hK => ?_); refine wW ?_
  refine FunO.callMat hP hT (c_markIntSS hs3 (c) 1 (by omega) (by omega) true) 2 0 (by simp only [AW7, simprocAttr]; rfl) (by simp) (by simp only [AW7, simprocAttr]) ?_
  rintro rs o o2 ⟨rfl, h⟩; obtain ⟨rfl, rfl⟩ := List.cons.inj h
  refine wW ?_
  refine wE ?_; clear hK K
  refine Run.keep [0, 2, 3, 4, 5, 6, 7, 8, 9] ?_; simp only [AK, Nat.reduceBEq]
  refine Run.nq ?_; refine Run.regionW hC (fun K hK => ?_); refine wW ?_
  refine .inl (FunA.callG hP hT (c_eqIntSS (cenX c) (cenX c) (by have := cenX_len c; omega) (fun r hr => by have := cenX_rows c r hr; omega)) (fun _ => rfl) (fun _ => by simp only [AW7, simprocAttr]) ?_)
  refine wW ?_
  refine wE ?_; clear hK K
  refine Run.keep [0, 2, 3, 4, 5, 6, 7, 8, 9, 61] ?_; simp only [AK, Nat.reduceBEq]
  refine Run.nq ?_; refine Run.cW ?_ ?_
  · intro hc
    exfalso
    simp [iota_length, sumL_iotaR] at hc <;> omega
  intro hc0; clear hc0
  refine Run.R ?_
  refine Run.keep [0, 2, 3, 4, 5, 6, 7, 8, 9, 10] ?_; simp only [AK, Nat.reduceBEq]
  refine Run.nq ?_; refine Run.regionW hC (fun K hK => ?_); refine wW ?_
  refine FunO.callMat hP hT (c_markIntSS hs4 (cenX c) 1 (by have := cenX_len c; omega) (by have := sumL_le (cenX_len c) (cenX_rows c); omega) true) 3 0 (by simp only [AW7, simprocAttr]; rfl) (by simp) (by simp only [AW7, simprocAttr]) ?_
  rintro rs o o2 ⟨rfl, h⟩; obtain ⟨rfl, rfl⟩ := List.cons.inj h
  refine wW ?_
  refine wE ?_; clear hK K
  refine Run.keep [0, 2, 3, 4, 5, 6, 7, 8, 9, 10] ?_; simp only [AK, Nat.reduceBEq]
  refine Run.R ?_
  refine Run.keep [0, 2, 3, 4, 5, 6, 7, 8, 9, 10, 11] ?_; simp only [AK, Nat.reduceBEq]
  refine Run.nq ?_; refine Run.regionW hC (fun K hK => ?_); refine wW ?_
  refine FunA.cW hP hT (c_heldIotaR 1 (cenX c) (by have := cenX_len c; omega) (fun r hr => by have := cenX_rows c r hr; omega) (by have := sumL_le (cenX_len c) (cenX_rows c); omega)) ?_
  rintro rs o ⟨rfl, rfl⟩
  refine wW ?_
  refine wE ?_; clear hK K
  refine Run.keep [0, 2, 3, 4, 5, 6, 7, 8, 9, 10, 11] ?_; simp only [AK, Nat.reduceBEq]
  refine Run.R ?_
  refine Run.keep [0, 2, 3, 4, 5, 6, 7, 8, 9, 10, 11, 69] ?_; simp only [AK, Nat.reduceBEq]
  refine Run.nq ?_; refine Run.cW ?_ ?_
  · intro hc
    exfalso
    simp [iota_length, sumL_iotaR] at hc <;> omega
  intro hc0; clear hc0
  refine Run.R ?_
  refine Run.keep [0, 2, 3, 4, 5, 6, 7, 8, 9, 10, 11, 72] ?_; simp only [AK, Nat.reduceBEq]
  refine Run.nq ?_; refine Run.cW ?_ ?_
  · intro hc
    exfalso
    simp [iota_length, sumL_iotaR] at hc <;> omega
  intro hc0; clear hc0
  refine Run.nq ?_; refine Run.regionW hC (fun K hK => ?_); refine wW ?_
  refine FunA.cW hP hT (c_toIntSS c hcn hcr) ?_
  rintro rs o ⟨rfl, hs6, hs6l, rfl⟩
  refine wW ?_
  refine FunA.cW hPJ hTJ (c_impl_CentralElements c) ?_
  rintro rs o ⟨rfl, hs7, hs7l, rfl⟩
  refine wW ?_
  refine wE ?_; clear hK K
  refine Run.keep [0, 2, 3, 4, 5, 6, 7, 8, 9, 10, 11, 12, 13] ?_; simp only [AK, Nat.reduceBEq]
  refine Run.nq ?_; refine Run.regionW hC (fun K hK => ?_); refine wW ?_
  refine FunA.cW hP hT (c_eqIntSS (cenX c) (cenX c) (by have := cenX_len c; omega) (fun r hr => by have := cenX_rows c r hr; omega)) ?_
  rintro rs o ⟨rfl, rfl⟩
  refine wW ?_
  refine wE ?_; clear hK K
  refine Run.keep [0, 2, 3, 4, 5, 6, 7, 8, 9, 10, 11, 12, 13, 87] ?_; simp only [AK, Nat.reduceBEq]
  refine Run.nq ?_; refine Run.cW ?_ ?_
  · intro hc
    exfalso
    simp [iota_length, sumL_iotaR] at hc <;> omega
  intro hc0; clear hc0
  refine Run.R ?_
  refine Run.keep [0, 2, 3, 4, 5, 6, 7, 8, 9, 10, 11, 12, 13] ?_; simp only [AK, Nat.reduceBEq]
  refine Run.nq ?_; refine Run.regionW hC (fun K hK => ?_); refine wW ?_
  refine FunA.cW hP hT (c_heldIotaR 1 (cenX c) (by have := cenX_len c; omega) (fun r hr => by have := cenX_rows c r hr; omega) (by have := sumL_le (cenX_len c) (cenX_rows c); omega)) ?_
  rintro rs o ⟨rfl, rfl⟩
  refine wW ?_
  refine wE ?_; clear hK K
  refine Run.keep [0, 2, 3, 4, 5, 6, 7, 8, 9, 10, 11, 12, 13] ?_; simp only [AK, Nat.reduceBEq]
  refine Run.R ?_
  refine Run.keep [0, 2, 3, 4, 5, 6, 7, 8, 9, 10, 11, 12, 13, 92] ?_; simp only [AK, Nat.reduceBEq]
  refine Run.nq ?_; refine Run.cW ?_ ?_
  · intro hc
    exfalso
    simp [iota_length, sumL_iotaR] at hc <;> omega
  intro hc0; clear hc0
  refine Run.R ?_
  refine Run.keep [0, 2, 3, 4, 5, 6, 7, 8, 9, 10, 11, 12, 13, 95] ?_; simp only [AK, Nat.reduceBEq]
  refine Run.nq ?_; refine Run.cW ?_ ?_
  · intro hc
    exfalso
    simp [iota_length, sumL_iotaR] at hc <;> omega
  intro hc0; clear hc0
  refine Run.R ?_
  refine Run.keep [0, 2, 3, 4, 5, 6, 7, 8, 9, 10, 11, 12, 13] ?_; simp only [AK, Nat.reduceBEq]
  refine Run.rW [2] (hfin _ _ rfl rfl ?_)
  rfl
end Go.Proofs.YtaghdbbcadhjdaaGreatDoor
namespace Go.Proofs.YtaghdbbcadhjdaaGreatDoor
open Go Go.Aw
theorem maxGl : Tryz.prog.globalNamed maxN = some (spltL_ren.g 1) := by kernel_rfl
theorem laidS {W : World} (hS : W.ShapedOpen Tryz.prog) : Laid Tryz.prog W (fun _ => False) :=
  ⟨fun g hg => (nomatch ((show Tryz.prog.globalNamed tabN = none by kernel_rfl).symm.trans hg)), fun g hg => ⟨fun k => k, by
    rw [← Option.some.inj (maxGl.symm.trans hg)]
    exact cell_of_shapedOpen_int (zero := #[.int .i64 0]) (t := 3) hS (of_decide_eq_true (by kernel_rfl)) (by kernel_rfl) (by kernel_rfl) (by kernel_rfl) (by kernel_rfl) Tryz.underlying3⟩⟩
end Go.Proofs.YtaghdbbcadhjdaaGreatDoor
namespace Go
variable {H : Type} {enc : TypeId × Value → H}
theorem handed_and_shaped {a : Assume} {C : Checked} {os : Os} {f : FuncId} {fn : Func} {s : ChangeSpec} {conds : List PathCond} {apart fresh handsOn again : Bool} {X : World → Array Value → Prop}
    (hX : ∀ (w w' : World) (args : Array Value), w.heap = w'.heap → X w args → X w' args)
    (own : ownKnob C.prog.godebug = none) (started : os.Started) (noInit : C.prog.inits.idxOf? f = none) (hfn : C.prog.funcs[f]? = some fn)
    (witness : ∃ (w : World) (tape : Tape) (i : Input), w.os = os ∧ (w.forCall tape i).Shaped C.prog ∧ i.vars = [] ∧ Input.okWide C.prog (w.forCall tape i) .any w.heap.size f i ∧
      ((s.pre enc C.prog fn conds apart (w.forCall tape i).memory i.args ∧ X (w.forCall tape i).memory i.args) ∧ sizedMet enc C.prog fn (OpenSpec.ofChange s) apart (w.forCall tape i).memory i.args) ∧ a.holds C.prog (lone (Frame.enter C.prog f i.args .normal) [] (w.forCall tape i)))
    (contract : ∀ (W : World) (base : Nat) (args : Array Value) (ds gs : List (DataW H)) (before : List MemPlace),
      (∀ (j : Nat) t v, fn.params[j]? = some t → args[j]? = some v → Value.okWide C.prog W .any base t v) →
      DataW.Whole enc C.prog fn.params.toList s.vars apart W args.toList ds gs before →
      conds.all (PathCond.test C.prog ⟨fn.params.toList, ds, s.plain.varTypes C.prog, gs⟩) = true →
      (DataW.weightsEach C.prog (fn.params.toList ++ s.plain.varTypes C.prog) (ds ++ gs)).all (· ≤ reachBytes) = true → X W args → W.ShapedOpen C.prog →
      a.holds C.prog (lone (Frame.enter C.prog f args .normal) [] W) →
      Calls C.prog f args W fun e W' => ∃ v, e = .returned v ∧ s.post enc C.prog fn apart fresh handsOn again W args v W') :
    ReturnsInHanded a C os f .any (fun w args => (s.pre enc C.prog fn conds apart w args ∧ X w args) ∧ sizedMet enc C.prog fn (OpenSpec.ofChange s) apart w args) (s.post enc C.prog fn apart fresh handsOn again) := by
  refine returnsInHanded_of_calls own started noInit witness ?_
  intro w tape i _ hsh _ hok hpre hholds
  obtain ⟨_, _, _, fn', hfn', _, _, _, _, hval⟩ := hok
  have e : fn' = fn := Option.some.inj (hfn'.symm.trans hfn)
  subst e
  obtain ⟨⟨⟨ds, gs, before, hw, hc⟩, hx⟩, hz⟩ := hpre
  have hw' := DataW.Whole.of_heap (w' := w.forCall tape i) (by rfl) hw
  refine (contract (w.forCall tape i) w.heap.size i.args ds gs before hval hw' hc (hz.weights hw) (hX _ _ _ (by rfl) hx) hsh hholds).mono fun e W' ⟨v, he, hp⟩ => ?_
  subst he
  exact ChangeSpec.post_blind hp
end Go
