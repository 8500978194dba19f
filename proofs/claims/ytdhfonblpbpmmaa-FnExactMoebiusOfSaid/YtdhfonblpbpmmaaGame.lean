/- The images of the vector of ones, as lists; the play back to it. -/
import Derived.Test.YtdhfonblpbpmmaaCartan
set_option linter.unusedVariables false
set_option linter.unusedSimpArgs false
namespace Go.Proofs.Ytdhfonblpbpmmaa
open Go Go.Aw Go.Cox

abbrev matA (c : List (List Int)) : Mat := fun k i => ent c k i
def vecL (v : List Int) : Vec := fun k => v.getD k 0

theorem matA_cartan {c : List (List Int)} (h : CartanP c) : Cartan (matA c) c.length where
  diag := fun i hi => by
    have := h.2.2.2 i i hi hi
    unfold badE at this
    exact Classical.byContradiction fun hn => this (.inl ⟨rfl, hn⟩)
  nonpos := fun i j hi hj hij => by
    have := h.2.2.2 i j hi hj
    unfold badE at this
    exact Classical.byContradiction fun hn => this (.inr ⟨hij, .inr (.inl (by show ent c i j > 0; have : ¬ ent c i j ≤ 0 := hn; omega))⟩)
  zero := fun i j hi hj hz => by
    by_cases hij : i = j
    · subst hij; exact hz
    · have := h.2.2.2 i j hi hj
      unfold badE at this
      have h2 : ent c i j = 0 ↔ ent c j i = 0 := Classical.byContradiction fun hn => this (.inr ⟨hij, .inr (.inr hn)⟩)
      exact h2.1 hz

theorem ent_le {c : List (List Int)} (h : CartanP c) (i j : Nat) (hi : i < c.length) (hj : j < c.length) : -3 ≤ ent c i j ∧ ent c i j ≤ 2 := by
  have hA := matA_cartan h
  by_cases hij : i = j
  · subst hij
    have : ent c i i = 2 := hA.diag i hi
    omega
  · have h1 : ent c i j ≤ 0 := hA.nonpos i j hi hj hij
    have := h.2.2.2 i j hi hj
    unfold badE at this
    have h2 : ¬ ent c i j < -3 := fun hn => this (.inr ⟨hij, .inl hn⟩)
    omega

/-- A vector reflected, as the program has it. -/
def reflL (c : List (List Int)) (i : Int) (v : List Int) : List Int := (List.range v.length).map fun k => v.getD k 0 - v.getD i.toNat 0 * ent c k i.toNat
theorem reflL_length (c : List (List Int)) (i : Int) (v : List Int) : (reflL c i v).length = v.length := by simp [reflL]
theorem reflL_get (c : List (List Int)) (i : Int) (v : List Int) (k : Nat) (hk : k < v.length) : (reflL c i v).getD k 0 = v.getD k 0 - v.getD i.toNat 0 * ent c k i.toNat := by
  simp [reflL, List.getD_eq_getElem?_getD, hk]

theorem vec_refl {c : List (List Int)} {v : List Int} (hv : v.length = c.length) (i : Int) : vecL (reflL c i v) = refl (matA c) i.toNat (vecL v) := by
  funext k
  show (reflL c i v).getD k 0 = v.getD k 0 - v.getD i.toNat 0 * ent c k i.toNat
  by_cases hk : k < v.length
  · exact reflL_get c i v k hk
  · have h1 : (reflL c i v).getD k 0 = 0 := by
      rw [List.getD_eq_getElem?_getD, List.getElem?_eq_none (by rw [reflL_length]; omega)]; rfl
    have h2 : v.getD k 0 = 0 := by rw [List.getD_eq_getElem?_getD, List.getElem?_eq_none (by omega)]; rfl
    have h3 : ent c k i.toNat = 0 := by
      have : c.getD k [] = [] := by rw [List.getD_eq_getElem?_getD, List.getElem?_eq_none (by omega)]; rfl
      simp only [ent, this]
      simp
    rw [h1, h2, h3]
    simp

def actL (c : List (List Int)) (w : List Int) (v : List Int) : List Int := w.foldr (reflL c) v
theorem actL_length (c : List (List Int)) (v : List Int) : ∀ w, (actL c w v).length = v.length
  | [] => rfl
  | i :: w => by show (reflL c i (actL c w v)).length = _; rw [reflL_length, actL_length c v w]
def nat (w : List Int) : List Nat := w.map Int.toNat
theorem vec_act {c : List (List Int)} {v : List Int} (hv : v.length = c.length) : ∀ w, vecL (actL c w v) = act (matA c) (nat w) (vecL v)
  | [] => rfl
  | i :: w => by
    show vecL (reflL c i (actL c w v)) = refl (matA c) i.toNat (act (matA c) (nat w) (vecL v))
    rw [vec_refl (by rw [actL_length, hv]), vec_act hv w]
theorem actL_append (c : List (List Int)) (a b v : List Int) : actL c (a ++ b) v = actL c a (actL c b v) := by simp [actL, List.foldr_append]

/-- All letters are points. -/
def letters (n : Nat) (w : List Int) : Prop := ∀ i ∈ w, 0 ≤ i ∧ i < n
theorem letters_nat {n : Nat} {w : List Int} (h : letters n w) : ∀ i ∈ nat w, i < n := by
  intro i hi
  obtain ⟨x, hx, rfl⟩ := List.mem_map.1 hi
  have := h x hx
  omega
theorem nat_inj {n : Nat} {a b : List Int} (ha : letters n a) (hb : letters n b) (h : nat a = nat b) : a = b := by
  induction a generalizing b with
  | nil => cases b with
    | nil => rfl
    | cons y b => simp [nat] at h
  | cons x a ih => cases b with
    | nil => simp [nat] at h
    | cons y b =>
      simp only [nat, List.map_cons, List.cons.injEq] at h
      have h1 := ha x (List.mem_cons_self ..)
      have h2 := hb y (List.mem_cons_self ..)
      rw [ih (fun i hi => ha i (List.mem_cons_of_mem _ hi)) (fun i hi => hb i (List.mem_cons_of_mem _ hi)) h.2, show x = y from by omega]

def ones (n : Nat) : List Int := List.replicate n 1
theorem ones_length (n : Nat) : (ones n).length = n := by simp [ones]
theorem vec_ones (n : Nat) : ∀ i, i < n → 0 < vecL (ones n) i := by
  intro i hi
  simp [vecL, ones, List.getD_eq_getElem?_getD, hi]
theorem vec_inj {a b : List Int} (h : a.length = b.length) (hv : vecL a = vecL b) : a = b := by
  apply List.ext_getElem?
  intro i
  by_cases hi : i < a.length
  · have := congrFun hv i
    simp only [vecL, List.getD_eq_getElem?_getD, List.getElem?_eq_getElem hi, List.getElem?_eq_getElem (show i < b.length by omega), Option.getD_some] at this
    rw [List.getElem?_eq_getElem hi, List.getElem?_eq_getElem (by omega), this]
  · rw [List.getElem?_eq_none (by omega), List.getElem?_eq_none (by omega)]

/-- The image of the vector of ones. -/
def imageL (c : List (List Int)) (w : List Int) : List Int := actL c w (ones c.length)
theorem imageL_length (c : List (List Int)) (w : List Int) : (imageL c w).length = c.length := by rw [imageL, actL_length, ones_length]

/-- How large the numbers are. -/
def Bd (M : Int) (v : List Int) : Prop := ∀ k, -M ≤ v.getD k 0 ∧ v.getD k 0 ≤ M
theorem Bd.refl {c : List (List Int)} (hc : CartanP c) {v : List Int} (hv : v.length = c.length) {M : Int} (h : Bd M v) {i : Int} (hi : 0 ≤ i ∧ i < c.length) : Bd (4 * M) (reflL c i v) := by
  intro k
  have h0 := h k
  by_cases hk : k < v.length
  · rw [reflL_get c i v k hk]
    have h1 := h i.toNat
    have h2 := ent_le hc k i.toNat (by omega) (by omega)
    generalize v.getD i.toNat 0 = x at *
    generalize ent c k i.toNat = e at *
    have h3 : -(3 * M) ≤ x * e ∧ x * e ≤ 3 * M := by
      have he : e = -3 ∨ e = -2 ∨ e = -1 ∨ e = 0 ∨ e = 1 ∨ e = 2 := by omega
      rcases he with rfl | rfl | rfl | rfl | rfl | rfl <;> omega
    omega
  · rw [List.getD_eq_getElem?_getD, List.getElem?_eq_none (by rw [reflL_length]; omega)]
    simp only [Option.getD_none]
    omega
theorem Bd.ones (n : Nat) : Bd 1 (ones n) := by
  intro k
  simp only [Go.Proofs.Ytdhfonblpbpmmaa.ones, List.getD_eq_getElem?_getD, List.getElem?_replicate]
  split <;> simp
theorem Bd.mono {M N : Int} (h : M ≤ N) {v : List Int} (k : Bd M v) : Bd N v := fun i => by have := k i; omega
theorem Bd.image {c : List (List Int)} (hc : CartanP c) : ∀ (w : List Int), letters c.length w → Bd (4 ^ w.length) (imageL c w)
  | [], _ => by simpa [imageL, actL] using Bd.ones c.length
  | i :: w, h => by
    have := (Bd.image hc w (fun i hi => h i (List.mem_cons_of_mem _ hi))).refl hc (imageL_length c w) (h i (List.mem_cons_self ..))
    have e : (4 : Int) ^ (i :: w).length = 4 * 4 ^ w.length := by rw [List.length_cons, Int.pow_succ]; omega
    rw [e]
    exact this
theorem pow4_le {a b : Nat} (h : a ≤ b) : (4 : Int) ^ a ≤ 4 ^ b := by
  induction b with
  | zero => have : a = 0 := by omega
            subst this; exact Int.le_refl _
  | succ b ih =>
    by_cases hab : a = b + 1
    · subst hab; exact Int.le_refl _
    · have h1 := ih (by omega)
      have h2 : (0 : Int) < 4 ^ b := Int.pow_pos (by decide)
      rw [Int.pow_succ]
      omega

/-- The first letter by which a reduced word can begin. -/
def firstNeg (v : List Int) : Nat → Int
  | 0 => -1
  | n + 1 => if firstNeg v n < 0 then (if v.getD n 0 < 0 then (n : Int) else -1) else firstNeg v n
theorem firstNeg_spec (v : List Int) : ∀ n, (firstNeg v n = -1 ∧ ∀ k, k < n → 0 ≤ v.getD k 0) ∨ ∃ i : Nat, firstNeg v n = i ∧ i < n ∧ v.getD i 0 < 0 ∧ ∀ k, k < i → 0 ≤ v.getD k 0
  | 0 => .inl ⟨rfl, by omega⟩
  | n + 1 => by
    simp only [firstNeg]
    rcases firstNeg_spec v n with ⟨h1, h2⟩ | ⟨i, h1, h2, h3, h4⟩
    · rw [if_pos (by omega)]
      by_cases h : v.getD n 0 < 0
      · rw [if_pos h]; exact .inr ⟨n, rfl, by omega, h, h2⟩
      · rw [if_neg h]
        refine .inl ⟨rfl, fun k hk => ?_⟩
        rcases Nat.lt_succ_iff_lt_or_eq.1 hk with hk | rfl
        · exact h2 k hk
        · omega
    · rw [if_neg (by omega)]
      exact .inr ⟨i, h1, by omega, h3, h4⟩
def fstN (v : List Int) : Int := firstNeg v v.length

/-- The normal form, told by the image; at most so many letters. -/
def nfL (c : List (List Int)) : Nat → List Int → List Int
  | 0, _ => []
  | f + 1, v => if fstN v < 0 then [] else fstN v :: nfL c f (reflL c (fstN v) v)

/-- From v one plays back to the ones in L steps. -/
def Far (c : List (List Int)) (L : Nat) (v : List Int) : Prop := v.length = c.length ∧ ∃ t, Play (matA c) c.length (vecL v) t (vecL (ones c.length)) ∧ t.length = L

theorem dom_ones (c : List (List Int)) : ∀ i, i < c.length → 0 ≤ vecL (ones c.length) i := fun i hi => Int.le_of_lt (vec_ones c.length i hi)

theorem Far.uniq {c : List (List Int)} (hc : CartanP c) {L M : Nat} {v : List Int} (h : Far c L v) (k : Far c M v) : L = M := by
  obtain ⟨_, s, hs, rfl⟩ := h
  obtain ⟨_, t, ht, rfl⟩ := k
  obtain ⟨r, hr, hb⟩ := conv (matA_cartan hc) _ rfl hs (dom_ones c) ht
  obtain ⟨q, hq, hb2⟩ := conv (matA_cartan hc) _ rfl ht (dom_ones c) hs
  have h1 := hb.length
  have h2 := hb2.length
  simp at h1 h2
  omega

theorem Far.nz {c : List (List Int)} (hc : CartanP c) {L : Nat} {v : List Int} (h : Far c L v) : ∀ i, i < c.length → v.getD i 0 ≠ 0 := by
  obtain ⟨_, s, hs, rfl⟩ := h
  exact nonzero (matA_cartan hc) _ rfl hs (vec_ones c.length)

theorem Far.down {c : List (List Int)} (hc : CartanP c) {L : Nat} {v : List Int} (h : Far c L v) {i : Int} (hi : 0 ≤ i ∧ i < c.length) (hv : v.getD i.toNat 0 < 0) : ∃ M, L = M + 1 ∧ Far c M (reflL c i v) := by
  obtain ⟨hl, s, hs, rfl⟩ := h
  obtain ⟨t, ht, hb⟩ := conv (matA_cartan hc) _ rfl hs (dom_ones c) (Play.cons (show i.toNat < c.length by omega) hv (.nil _))
  have := hb.length
  simp at this
  refine ⟨t.length, this, by rw [reflL_length, hl], t, ?_, rfl⟩
  rw [vec_refl hl]
  exact ht

theorem Far.up {c : List (List Int)} (hc : CartanP c) {L : Nat} {v : List Int} (h : Far c L v) {i : Int} (hi : 0 ≤ i ∧ i < c.length) (hv : 0 < v.getD i.toNat 0) : Far c (L + 1) (reflL c i v) := by
  obtain ⟨hl, s, hs, rfl⟩ := h
  have hd := (matA_cartan hc).diag i.toNat (by omega)
  refine ⟨by rw [reflL_length, hl], i.toNat :: s, .cons (by omega) ?_ ?_, by simp⟩
  · rw [vec_refl hl, refl_self hd]
    show -(v.getD i.toNat 0) < 0
    omega
  · rw [vec_refl hl, refl_refl hd]
    exact hs

theorem Far.image {c : List (List Int)} (hc : CartanP c) {w : List Int} (h : letters c.length w) : ∃ L, L ≤ w.length ∧ L % 2 = w.length % 2 ∧ Far c L (imageL c w) := by
  obtain ⟨t, ht, hl, hm, _⟩ := back (matA_cartan hc) (vec_ones c.length) (nat w) (letters_nat h)
  have e : (nat w).length = w.length := by simp [nat]
  refine ⟨t.length, by omega, by omega, imageL_length c w, t, ?_, rfl⟩
  rw [imageL, vec_act (ones_length _)]
  exact ht

theorem Far.zero {c : List (List Int)} {v : List Int} (h : Far c 0 v) : v = ones c.length := by
  obtain ⟨hl, s, hs, h0⟩ := h
  have : s = [] := List.eq_nil_of_length_eq_zero h0
  subst this
  have e : vecL (Go.Proofs.Ytdhfonblpbpmmaa.ones c.length) = vecL v := hs.run
  exact vec_inj (by rw [ones_length, hl]) e.symm

theorem play_inv {A : Mat} {n i : Nat} {v u : Vec} {w : List Nat} (h : Play A n v (i :: w) u) : i < n ∧ v i < 0 := by
  cases h with
  | cons hi hv _ => exact ⟨hi, hv⟩

theorem Far.ones (c : List (List Int)) : Far c 0 (ones c.length) := ⟨ones_length _, [], .nil _, rfl⟩

theorem fst_of_far {c : List (List Int)} (hc : CartanP c) {L : Nat} {v : List Int} (h : Far c L v) : (fstN v = -1 ∧ L = 0) ∨ (0 ≤ fstN v ∧ fstN v < c.length ∧ v.getD (fstN v).toNat 0 < 0 ∧ ∃ M, L = M + 1 ∧ Far c M (reflL c (fstN v) v)) := by
  have hl := h.1
  rcases firstNeg_spec v v.length with ⟨h1, h2⟩ | ⟨i, h1, h2, h3, _⟩
  · refine .inl ⟨h1, ?_⟩
    obtain ⟨_, s, hs, rfl⟩ := h
    cases s with
    | nil => rfl
    | cons i s =>
      obtain ⟨hi, hv⟩ := play_inv hs
      have := h2 i (by omega)
      exact absurd hv (by show ¬ v.getD i 0 < 0; omega)
  · have e : fstN v = i := h1
    rw [e]
    refine .inr ⟨by omega, by omega, by simpa using h3, ?_⟩
    exact h.down hc (by omega) (by simpa using h3)

/-- The normal form does not depend on the bound, and has as many letters as there are steps. -/
theorem nfL_far {c : List (List Int)} (hc : CartanP c) : ∀ (f L : Nat) {v : List Int}, Far c L v → L ≤ f → (nfL c f v).length = L ∧ letters c.length (nfL c f v) ∧ imageL c (nfL c f v) = v
  | 0, L, v, h, hf => by
    have : L = 0 := by omega
    subst this
    exact ⟨rfl, by simp [nfL, letters], h.zero.symm ▸ rfl⟩
  | f + 1, L, v, h, hf => by
    simp only [nfL]
    rcases fst_of_far hc h with ⟨h1, h2⟩ | ⟨h1, h2, h3, M, h4, h5⟩
    · rw [if_pos (by omega)]
      subst h2
      exact ⟨rfl, by simp [letters], h.zero.symm ▸ rfl⟩
    · rw [if_neg (by omega)]
      obtain ⟨k1, k2, k3⟩ := nfL_far hc f M h5 (by omega)
      refine ⟨by simp [k1, h4], fun i hi => ?_, ?_⟩
      · rcases List.mem_cons.1 hi with rfl | hi
        · exact ⟨h1, h2⟩
        · exact k2 i hi
      · show reflL c (fstN v) (imageL c (nfL c f (reflL c (fstN v) v))) = v
        rw [k3]
        apply vec_inj (by rw [reflL_length, reflL_length])
        rw [vec_refl (by rw [reflL_length, h.1]), vec_refl h.1, refl_refl ((matA_cartan hc).diag _ (by omega))]
theorem nfL_more {c : List (List Int)} (hc : CartanP c) : ∀ (f g L : Nat) {v : List Int}, Far c L v → L ≤ f → L ≤ g → nfL c f v = nfL c g v
  | 0, 0, _, _, _, _, _ => rfl
  | 0, g + 1, L, v, h, hf, _ => by
    have : L = 0 := by omega
    subst this
    rcases fst_of_far hc h with ⟨h1, _⟩ | ⟨_, _, _, M, h4, _⟩
    · simp only [nfL]; rw [if_pos (by omega)]
    · omega
  | f + 1, 0, L, v, h, _, hg => by
    have : L = 0 := by omega
    subst this
    rcases fst_of_far hc h with ⟨h1, _⟩ | ⟨_, _, _, M, h4, _⟩
    · simp only [nfL]; rw [if_pos (by omega)]
    · omega
  | f + 1, g + 1, L, v, h, hf, hg => by
    simp only [nfL]
    rcases fst_of_far hc h with ⟨h1, _⟩ | ⟨h1, _, _, M, h4, h5⟩
    · rw [if_pos (by omega), if_pos (by omega)]
    · rw [if_neg (by omega), if_neg (by omega), nfL_more hc f g M h5 (by omega) (by omega)]

/-- Words with one image are one element. -/
theorem same_elt {c : List (List Int)} (hc : CartanP c) {a b : List Int} (ha : letters c.length a) (hb : letters c.length b) (h : imageL c a = imageL c b) {v : List Int} (hv : v.length = c.length) : actL c a v = actL c b v := by
  apply vec_inj (by rw [actL_length, actL_length])
  rw [vec_act hv, vec_act hv]
  refine faithful (matA_cartan hc) (vec_ones c.length) (letters_nat ha) (letters_nat hb) ?_ _
  rw [← vec_act (ones_length _), ← vec_act (ones_length _)]
  exact congrArg vecL h

end Go.Proofs.Ytdhfonblpbpmmaa
