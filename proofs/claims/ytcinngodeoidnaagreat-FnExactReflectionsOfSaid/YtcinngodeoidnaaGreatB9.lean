/- The images of the vector of ones, as lists; the play back to it. -/
import Derived.Test.YtcinngodeoidnaaGreatB8
set_option linter.unusedVariables false
set_option linter.unusedSimpArgs false
namespace Go.Proofs.YtcinngodeoidnaaGreat
open Go Go.Aw Go.Cox
abbrev matA (c : List (List Int)) : Mat := fun k i => ent c k i
def vecL (v : List Int) : Vec := fun k => v.getD k 0
theorem matA_cartan {c : List (List Int)} (h : CartanP c) : Cartan (matA c) c.length where
  diag := fun i hi => by
    have := h.2.2.2 i i hi hi
    unfold badE at this
    exact Classical.byContradiction fun hn => this (.inl ⟨rfl, hn⟩)
  nonpos := fun i j hi hj hij => by
    have := h.2.2.2 i j hi hj
    unfold badE at this
    exact Classical.byContradiction fun hn => this (.inr ⟨hij, .inr (.inl (by show ent c i j > 0; have : ¬ ent c i j ≤ 0 := hn; omega))⟩)
  zero := fun i j hi hj hz => by
    by_cases hij : i = j
    · subst hij; exact hz
    · have := h.2.2.2 i j hi hj
      unfold badE at this
      have h2 : ent c i j = 0 ↔ ent c j i = 0 := Classical.byContradiction fun hn => this (.inr ⟨hij, .inr (.inr hn)⟩)
      exact h2.1 hz
theorem ent_le {c : List (List Int)} (h : CartanP c) (i j : Nat) (hi : i < c.length) (hj : j < c.length) : -3 ≤ ent c i j ∧ ent c i j ≤ 2 := by
  have hA := matA_cartan h
  by_cases hij : i = j
  · subst hij
    have : ent c i i = 2 := hA.diag i hi
    omega
  · have h1 : ent c i j ≤ 0 := hA.nonpos i j hi hj hij
    have := h.2.2.2 i j hi hj
    unfold badE at this
    have h2 : ¬ ent c i j < -3 := fun hn => this (.inr ⟨hij, .inl hn⟩)
    omega
def reflL (c : List (List Int)) (i : Int) (v : List Int) : List Int := (List.range v.length).map fun k => v.getD k 0 - v.getD i.toNat 0 * ent c k i.toNat
theorem reflL_length (c : List (List Int)) (i : Int) (v : List Int) : (reflL c i v).length = v.length := by simp [reflL]
theorem reflL_get (c : List (List Int)) (i : Int) (v : List Int) (k : Nat) (hk : k < v.length) : (reflL c i v).getD k 0 = v.getD k 0 - v.getD i.toNat 0 * ent c k i.toNat := by
  simp [reflL, List.getD_eq_getElem?_getD, hk]
theorem vec_refl {c : List (List Int)} {v : List Int} (hv : v.length = c.length) (i : Int) : vecL (reflL c i v) = refl (matA c) i.toNat (vecL v) := by
  funext k
  show (reflL c i v).getD k 0 = v.getD k 0 - v.getD i.toNat 0 * ent c k i.toNat
  by_cases hk : k < v.length
  · exact reflL_get c i v k hk
  · have h1 : (reflL c i v).getD k 0 = 0 := by
      rw [List.getD_eq_getElem?_getD, List.getElem?_eq_none (by rw [reflL_length]; omega)]; rfl
    have h2 : v.getD k 0 = 0 := by rw [List.getD_eq_getElem?_getD, List.getElem?_eq_none (by omega)]; rfl
    have h3 : ent c k i.toNat = 0 := by
      have : c.getD k [] = [] := by rw [List.getD_eq_getElem?_getD, List.getElem?_eq_none (by omega)]; rfl
      simp only [ent, this]
      simp
    rw [h1, h2, h3]
    simp
def actL (c : List (List Int)) (w : List Int) (v : List Int) : List Int := w.foldr (reflL c) v
theorem actL_length (c : List (List Int)) (v : List Int) : ∀ w, (actL c w v).length = v.length
  | [] => rfl
  | i :: w => by show (reflL c i (actL c w v)).length = _; rw [reflL_length, actL_length c v w]
def nat (w : List Int) : List Nat := w.map Int.toNat
theorem vec_act {c : List (List Int)} {v : List Int} (hv : v.length = c.length) : ∀ w, vecL (actL c w v) = act (matA c) (nat w) (vecL v)
  | [] => rfl
  | i :: w => by
    show vecL (reflL c i (actL c w v)) = refl (matA c) i.toNat (act (matA c) (nat w) (vecL v))
    rw [vec_refl (by rw [actL_length, hv]), vec_act hv w]
theorem actL_append (c : List (List Int)) (a b v : List Int) : actL c (a ++ b) v = actL c a (actL c b v) := by simp [actL, List.foldr_append]
def letters (n : Nat) (w : List Int) : Prop := ∀ i ∈ w, 0 ≤ i ∧ i < n
theorem letters_nat {n : Nat} {w : List Int} (h : letters n w) : ∀ i ∈ nat w, i < n := by
  intro i hi
  obtain ⟨x, hx, rfl⟩ := List.mem_map.1 hi
  have := h x hx
  omega
def ones (n : Nat) : List Int := List.replicate n 1
theorem ones_length (n : Nat) : (ones n).length = n := by simp [ones]
theorem vec_ones (n : Nat) : ∀ i, i < n → 0 < vecL (ones n) i := by
  intro i hi
  simp [vecL, ones, List.getD_eq_getElem?_getD, hi]
theorem vec_inj {a b : List Int} (h : a.length = b.length) (hv : vecL a = vecL b) : a = b := by
  apply List.ext_getElem?
  intro i
  by_cases hi : i < a.length
  · have := congrFun hv i
    simp only [vecL, List.getD_eq_getElem?_getD, List.getElem?_eq_getElem hi, List.getElem?_eq_getElem (show i < b.length by omega), Option.getD_some] at this
    rw [List.getElem?_eq_getElem hi, List.getElem?_eq_getElem (by omega), this]
  · rw [List.getElem?_eq_none (by omega), List.getElem?_eq_none (by omega)]
def imageL (c : List (List Int)) (w : List Int) : List Int := actL c w (ones c.length)
theorem imageL_length (c : List (List Int)) (w : List Int) : (imageL c w).length = c.length := by rw [imageL, actL_length, ones_length]
def Bd (M : Int) (v : List Int) : Prop := ∀ k, -M ≤ v.getD k 0 ∧ v.getD k 0 ≤ M
theorem Bd.refl {c : List (List Int)} (hc : CartanP c) {v : List Int} (hv : v.length = c.length) {M : Int} (h : Bd M v) {i : Int} (hi : 0 ≤ i ∧ i < c.length) : Bd (4 * M) (reflL c i v) := by
  intro k
  have h0 := h k
  by_cases hk : k < v.length
  · rw [reflL_get c i v k hk]
    have h1 := h i.toNat
    have h2 := ent_le hc k i.toNat (by omega) (by omega)
    generalize v.getD i.toNat 0 = x at *
    generalize ent c k i.toNat = e at *
    have h3 : -(3 * M) ≤ x * e ∧ x * e ≤ 3 * M := by
      have he : e = -3 ∨ e = -2 ∨ e = -1 ∨ e = 0 ∨ e = 1 ∨ e = 2 := by omega
      rcases he with rfl | rfl | rfl | rfl | rfl | rfl <;> omega
    omega
  · rw [List.getD_eq_getElem?_getD, List.getElem?_eq_none (by rw [reflL_length]; omega)]
    simp only [Option.getD_none]
    omega
theorem Bd.ones (n : Nat) : Bd 1 (ones n) := by
  intro k
  simp only [Go.Proofs.YtcinngodeoidnaaGreat.ones, List.getD_eq_getElem?_getD, List.getElem?_replicate]
  split <;> simp
theorem Bd.mono {M N : Int} (h : M ≤ N) {v : List Int} (k : Bd M v) : Bd N v := fun i => by have := k i; omega
theorem Bd.image {c : List (List Int)} (hc : CartanP c) : ∀ (w : List Int), letters c.length w → Bd (4 ^ w.length) (imageL c w)
  | [], _ => by simpa [imageL, actL] using Bd.ones c.length
  | i :: w, h => by
    have := (Bd.image hc w (fun i hi => h i (List.mem_cons_of_mem _ hi))).refl hc (imageL_length c w) (h i (List.mem_cons_self ..))
    have e : (4 : Int) ^ (i :: w).length = 4 * 4 ^ w.length := by rw [List.length_cons, Int.pow_succ]; omega
    rw [e]
    exact this
theorem pow4_le {a b : Nat} (h : a ≤ b) : (4 : Int) ^ a ≤ 4 ^ b := by
  induction b with
  | zero => have : a = 0 := by omega
            subst this; exact Int.le_refl _
  | succ b ih =>
    by_cases hab : a = b + 1
    · subst hab; exact Int.le_refl _
    · have h1 := ih (by omega)
      have h2 : (0 : Int) < 4 ^ b := Int.pow_pos (by decide)
      rw [Int.pow_succ]
      omega
def firstNeg (v : List Int) : Nat → Int
  | 0 => -1
  | n + 1 => if firstNeg v n < 0 then (if v.getD n 0 < 0 then (n : Int) else -1) else firstNeg v n
theorem firstNeg_spec (v : List Int) : ∀ n, (firstNeg v n = -1 ∧ ∀ k, k < n → 0 ≤ v.getD k 0) ∨ ∃ i : Nat, firstNeg v n = i ∧ i < n ∧ v.getD i 0 < 0 ∧ ∀ k, k < i → 0 ≤ v.getD k 0
  | 0 => .inl ⟨rfl, by omega⟩
  | n + 1 => by
    simp only [firstNeg]
    rcases firstNeg_spec v n with ⟨h1, h2⟩ | ⟨i, h1, h2, h3, h4⟩
    · rw [if_pos (by omega)]
      by_cases h : v.getD n 0 < 0
      · rw [if_pos h]; exact .inr ⟨n, rfl, by omega, h, h2⟩
      · rw [if_neg h]
        refine .inl ⟨rfl, fun k hk => ?_⟩
        rcases Nat.lt_succ_iff_lt_or_eq.1 hk with hk | rfl
        · exact h2 k hk
        · omega
    · rw [if_neg (by omega)]
      exact .inr ⟨i, h1, by omega, h3, h4⟩
def fstN (v : List Int) : Int := firstNeg v v.length
def nfL (c : List (List Int)) : Nat → List Int → List Int
  | 0, _ => []
  | f + 1, v => if fstN v < 0 then [] else fstN v :: nfL c f (reflL c (fstN v) v)
def Far (c : List (List Int)) (L : Nat) (v : List Int) : Prop := v.length = c.length ∧ ∃ t, Play (matA c) c.length (vecL v) t (vecL (ones c.length)) ∧ t.length = L
theorem dom_ones (c : List (List Int)) : ∀ i, i < c.length → 0 ≤ vecL (ones c.length) i := fun i hi => Int.le_of_lt (vec_ones c.length i hi)
theorem Far.uniq {c : List (List Int)} (hc : CartanP c) {L M : Nat} {v : List Int} (h : Far c L v) (k : Far c M v) : L = M := by
  obtain ⟨_, s, hs, rfl⟩ := h
  obtain ⟨_, t, ht, rfl⟩ := k
  obtain ⟨r, hr, hb⟩ := conv (matA_cartan hc) _ rfl hs (dom_ones c) ht
  obtain ⟨q, hq, hb2⟩ := conv (matA_cartan hc) _ rfl ht (dom_ones c) hs
  have h1 := hb.length
  have h2 := hb2.length
  simp at h1 h2
  omega
theorem Far.nz {c : List (List Int)} (hc : CartanP c) {L : Nat} {v : List Int} (h : Far c L v) : ∀ i, i < c.length → v.getD i 0 ≠ 0 := by
  obtain ⟨_, s, hs, rfl⟩ := h
  exact nonzero (matA_cartan hc) _ rfl hs (vec_ones c.length)
theorem Far.down {c : List (List Int)} (hc : CartanP c) {L : Nat} {v : List Int} (h : Far c L v) {i : Int} (hi : 0 ≤ i ∧ i < c.length) (hv : v.getD i.toNat 0 < 0) : ∃ M, L = M + 1 ∧ Far c M (reflL c i v) := by
  obtain ⟨hl, s, hs, rfl⟩ := h
  obtain ⟨t, ht, hb⟩ := conv (matA_cartan hc) _ rfl hs (dom_ones c) (Play.cons (show i.toNat < c.length by omega) hv (.nil _))
  have := hb.length
  simp at this
  refine ⟨t.length, this, by rw [reflL_length, hl], t, ?_, rfl⟩
  rw [vec_refl hl]
  exact ht
theorem Far.up {c : List (List Int)} (hc : CartanP c) {L : Nat} {v : List Int} (h : Far c L v) {i : Int} (hi : 0 ≤ i ∧ i < c.length) (hv : 0 < v.getD i.toNat 0) : Far c (L + 1) (reflL c i v) := by
  obtain ⟨hl, s, hs, rfl⟩ := h
  have hd := (matA_cartan hc).diag i.toNat (by omega)
  refine ⟨by rw [reflL_length, hl], i.toNat :: s, .cons (by omega) ?_ ?_, by simp⟩
  · rw [vec_refl hl, refl_self hd]
    show -(v.getD i.toNat 0) < 0
    omega
  · rw [vec_refl hl, refl_refl hd]
    exact hs
theorem Far.image {c : List (List Int)} (hc : CartanP c) {w : List Int} (h : letters c.length w) : ∃ L, L ≤ w.length ∧ L % 2 = w.length % 2 ∧ Far c L (imageL c w) := by
  obtain ⟨t, ht, hl, hm, _⟩ := back (matA_cartan hc) (vec_ones c.length) (nat w) (letters_nat h)
  have e : (nat w).length = w.length := by simp [nat]
  refine ⟨t.length, by omega, by omega, imageL_length c w, t, ?_, rfl⟩
  rw [imageL, vec_act (ones_length _)]
  exact ht
theorem Far.zero {c : List (List Int)} {v : List Int} (h : Far c 0 v) : v = ones c.length := by
  obtain ⟨hl, s, hs, h0⟩ := h
  have : s = [] := List.eq_nil_of_length_eq_zero h0
  subst this
  have e : vecL (Go.Proofs.YtcinngodeoidnaaGreat.ones c.length) = vecL v := hs.run
  exact vec_inj (by rw [ones_length, hl]) e.symm
theorem play_inv {A : Mat} {n i : Nat} {v u : Vec} {w : List Nat} (h : Play A n v (i :: w) u) : i < n ∧ v i < 0 := by
  cases h with
  | cons hi hv _ => exact ⟨hi, hv⟩
theorem Far.ones (c : List (List Int)) : Far c 0 (ones c.length) := ⟨ones_length _, [], .nil _, rfl⟩
theorem fst_of_far {c : List (List Int)} (hc : CartanP c) {L : Nat} {v : List Int} (h : Far c L v) : (fstN v = -1 ∧ L = 0) ∨ (0 ≤ fstN v ∧ fstN v < c.length ∧ v.getD (fstN v).toNat 0 < 0 ∧ ∃ M, L = M + 1 ∧ Far c M (reflL c (fstN v) v)) := by
  have hl := h.1
  rcases firstNeg_spec v v.length with ⟨h1, h2⟩ | ⟨i, h1, h2, h3, _⟩
  · refine .inl ⟨h1, ?_⟩
    obtain ⟨_, s, hs, rfl⟩ := h
    cases s with
    | nil => rfl
    | cons i s =>
      obtain ⟨hi, hv⟩ := play_inv hs
      have := h2 i (by omega)
      exact absurd hv (by show ¬ v.getD i 0 < 0; omega)
  · have e : fstN v = i := h1
    rw [e]
    refine .inr ⟨by omega, by omega, by simpa using h3, ?_⟩
    exact h.down hc (by omega) (by simpa using h3)
theorem nfL_far {c : List (List Int)} (hc : CartanP c) : ∀ (f L : Nat) {v : List Int}, Far c L v → L ≤ f → (nfL c f v).length = L ∧ letters c.length (nfL c f v) ∧ imageL c (nfL c f v) = v
  | 0, L, v, h, hf => by
    have : L = 0 := by omega
    subst this
    exact ⟨rfl, by simp [nfL, letters], h.zero.symm ▸ rfl⟩
  | f + 1, L, v, h, hf => by
    simp only [nfL]
    rcases fst_of_far hc h with ⟨h1, h2⟩ | ⟨h1, h2, h3, M, h4, h5⟩
    · rw [if_pos (by omega)]
      subst h2
      exact ⟨rfl, by simp [letters], h.zero.symm ▸ rfl⟩
    · rw [if_neg (by omega)]
      obtain ⟨k1, k2, k3⟩ := nfL_far hc f M h5 (by omega)
      refine ⟨by simp [k1, h4], fun i hi => ?_, ?_⟩
      · rcases List.mem_cons.1 hi with rfl | hi
        · exact ⟨h1, h2⟩
        · exact k2 i hi
      · show reflL c (fstN v) (imageL c (nfL c f (reflL c (fstN v) v))) = v
        rw [k3]
        apply vec_inj (by rw [reflL_length, reflL_length])
        rw [vec_refl (by rw [reflL_length, h.1]), vec_refl h.1, refl_refl ((matA_cartan hc).diag _ (by omega))]
theorem same_elt {c : List (List Int)} (hc : CartanP c) {a b : List Int} (ha : letters c.length a) (hb : letters c.length b) (h : imageL c a = imageL c b) {v : List Int} (hv : v.length = c.length) : actL c a v = actL c b v := by
  apply vec_inj (by rw [actL_length, actL_length])
  rw [vec_act hv, vec_act hv]
  refine faithful (matA_cartan hc) (vec_ones c.length) (letters_nat ha) (letters_nat hb) ?_ _
  rw [← vec_act (ones_length _), ← vec_act (ones_length _)]
  exact congrArg vecL h
end Go.Proofs.YtcinngodeoidnaaGreat
namespace Go.Proofs.YtcinngodeoidnaaGreat
open Go Go.Aw Go.Cox
def redL (c : List (List Int)) (w : List Int) : List Int := nfL c 31 (imageL c w)
theorem letters_nil (n : Nat) : letters n [] := by simp [letters]
theorem letters_cons {n : Nat} {i : Int} {w : List Int} : letters n (i :: w) ↔ (0 ≤ i ∧ i < n) ∧ letters n w := by simp [letters]
theorem letters_append {n : Nat} {a b : List Int} : letters n (a ++ b) ↔ letters n a ∧ letters n b := by
  simp only [letters, List.mem_append]
  constructor
  · intro h; exact ⟨fun i hi => h i (.inl hi), fun i hi => h i (.inr hi)⟩
  · rintro ⟨h1, h2⟩ i (hi | hi)
    · exact h1 i hi
    · exact h2 i hi
theorem letters_reverse {n : Nat} {a : List Int} (h : letters n a) : letters n a.reverse := fun i hi => h i (by simpa using hi)
theorem red_spec {c : List (List Int)} (hc : CartanP c) {w : List Int} (hw : letters c.length w) (hl : w.length ≤ 31) :
    letters c.length (redL c w) ∧ (redL c w).length ≤ w.length ∧ (redL c w).length % 2 = w.length % 2 ∧ imageL c (redL c w) = imageL c w ∧ Far c (redL c w).length (imageL c w) := by
  obtain ⟨L, h1, h2, h3⟩ := Far.image hc hw
  obtain ⟨k1, k2, k3⟩ := nfL_far hc 31 L h3 (by omega)
  have e : (redL c w).length = L := k1
  exact ⟨k2, by omega, by omega, k3, by rw [e]; exact h3⟩
theorem red_eq {c : List (List Int)} {a b : List Int} (h : imageL c a = imageL c b) : redL c a = redL c b := by unfold redL; rw [h]
def Red (c : List (List Int)) (w : List Int) : Prop := letters c.length w ∧ Far c w.length (imageL c w)
theorem red_Red {c : List (List Int)} (hc : CartanP c) {w : List Int} (hw : letters c.length w) (hl : w.length ≤ 31) : Red c (redL c w) := by
  obtain ⟨h1, _, _, h4, h5⟩ := red_spec hc hw hl
  exact ⟨h1, by rw [h4]; exact h5⟩
theorem Red.nil (c : List (List Int)) : Red c [] := ⟨letters_nil _, Far.ones c⟩
theorem image_cons (c : List (List Int)) (i : Int) (w : List Int) : imageL c (i :: w) = reflL c i (imageL c w) := rfl
theorem image_append (c : List (List Int)) (a b : List Int) : imageL c (a ++ b) = actL c a (imageL c b) := actL_append c a b _
theorem refl2 {c : List (List Int)} (hc : CartanP c) {i : Int} (hi : 0 ≤ i ∧ i < c.length) {v : List Int} (hv : v.length = c.length) : reflL c i (reflL c i v) = v := by
  apply vec_inj (by rw [reflL_length, reflL_length])
  rw [vec_refl (by rw [reflL_length, hv]), vec_refl hv, refl_refl ((matA_cartan hc).diag _ (by omega))]
theorem act_rev {c : List (List Int)} (hc : CartanP c) : ∀ (w : List Int), letters c.length w → ∀ {v : List Int}, v.length = c.length → actL c w.reverse (actL c w v) = v
  | [], _, _, _ => rfl
  | i :: w, h, v, hv => by
    rw [List.reverse_cons, actL_append]
    show actL c w.reverse (reflL c i (reflL c i (actL c w v))) = v
    rw [refl2 hc (h i (List.mem_cons_self ..)) (by rw [actL_length, hv])]
    exact act_rev hc w (fun j hj => h j (List.mem_cons_of_mem _ hj)) hv
theorem rev_same {c : List (List Int)} (hc : CartanP c) {a b : List Int} (ha : letters c.length a) (hb : letters c.length b) (h : imageL c a = imageL c b) {v : List Int} (hv : v.length = c.length) :
    actL c a.reverse v = actL c b.reverse v := by
  have h1 := act_rev hc b.reverse (letters_reverse hb) hv
  rw [List.reverse_reverse] at h1
  have h2 : actL c a (actL c b.reverse v) = v := by
    rw [same_elt hc ha hb h (by rw [actL_length, hv])]; exact h1
  have h3 := act_rev hc a ha (v := actL c b.reverse v) (by rw [actL_length, hv])
  rw [h2] at h3
  exact h3
theorem weak_same {c : List (List Int)} (hc : CartanP c) {u v x y : List Int} (hu : letters c.length u) (hx : letters c.length x) (h1 : imageL c u = imageL c x) (h2 : imageL c v = imageL c y) :
    redL c (u.reverse ++ v) = redL c (x.reverse ++ y) := by
  apply red_eq
  rw [image_append, image_append, h2]
  exact rev_same hc hu hx h1 (imageL_length c y)
theorem fst_zero {c : List (List Int)} (hc : CartanP c) {L : Nat} {v : List Int} (h : Far c L v) : fstN v < 0 ↔ L = 0 := by
  rcases fst_of_far hc h with ⟨h1, h2⟩ | ⟨h1, _, _, M, h4, _⟩
  · constructor
    · intro _; exact h2
    · intro _; omega
  · constructor
    · intro h; omega
    · intro h; omega
def firstIn (v : List Int) : List Int → Int
  | [] => -1
  | i :: s => if v.getD i.toNat 0 < 0 then i else firstIn v s
def lpL (c : List (List Int)) (s : List Int) : Nat → List Int → List Int × List Int
  | 0, v => ([], v)
  | f + 1, v => if firstIn v s < 0 then ([], v) else ((firstIn v s) :: (lpL c s f (reflL c (firstIn v s) v)).1, (lpL c s f (reflL c (firstIn v s) v)).2)
end Go.Proofs.YtcinngodeoidnaaGreat
namespace Go.Proofs.YtcinngodeoidnaaGreat
open Go Go.Aw Go.Cox
def WordP (c : List (List Int)) (w : List Int) : Prop := CartanP c ∧ w.length ≤ 15 ∧ letters c.length w
open Classical in
noncomputable def wordB (c : List (List Int)) (w : List Int) : Bool := decide (WordP c w)
theorem wordB_iff {c : List (List Int)} {w : List Int} : wordB c w = true ↔ WordP c w := by simp [wordB]
theorem getD_mem {w : List Int} {i : Nat} (h : i < w.length) : w.getD i 0 ∈ w := by
  rw [show w.getD i 0 = w[i] from by simp [h]]; exact List.getElem_mem h
theorem letters_getD {n : Nat} {w : List Int} : letters n w ↔ ∀ i, i < w.length → 0 ≤ w.getD i 0 ∧ w.getD i 0 < n := by
  constructor
  · intro h i hi; exact h _ (getD_mem hi)
  · intro h x hx
    obtain ⟨i, hi, rfl⟩ := List.getElem_of_mem hx
    have := h i hi
    rwa [show w.getD i 0 = w[i] from by simp [hi]] at this
theorem ones_succ (n : Nat) : ones n ++ [(1 : Int)] = ones (n + 1) := by simp [ones, List.replicate_succ']
theorem c_impl_ones (n : Nat) (hn : n ≤ 1048576) : FunA B 158 [.int .i64 n] (fun rs o => rs = [.own 0 0] ∧ o = [.arr .int (ones n) 0 true]) := by
  refine FunA.walk B_ok (fn := Tryz.f158) (fun vs w => Tryz.call158 vs w) Tryz.func158 rfl (by rw [Tryz.ntmps158]; simp) (fun C hC hP hT hΓ hbt hfn hpin hfin => ?_); have hX := BX; rw [← hΓ, ← hbt.1, ← hbt.2.1, ← hbt.2.2.1, ← hbt.2.2.2.2] at hX; rw [hT] at hX; rw [Tryz.ntmps158]; simp only [AW7, simprocAttr, hX]
  refine Run.R ?_
  refine Run.R ?_
  refine Run.R ?_
  refine Run.loopI (X := Nat) (fun i => ⟨13, [(2, true, .v .nils), (3, true, .v (.own 0 i)), (5, true, .v (.int .i64 n)), (6, true, .v (.int .i64 i))], [.arr .int (ones i) i true]⟩) (fun i => i ≤ n) (fun i => n - i) 0 (Nat.zero_le _) ?_ ?_
  · exact Le.sub (by rfl) (by simp only [AW7, simprocAttr, hX]; try simp)
  rintro i hi ih
  have hll := ones_length i
  refine Run.R ?_
  refine Run.nq ?_; refine Run.cW ?_ ?_
  · intro hc
    have hc : i < n := by simpa using hc
    refine Run.R ?_
    refine Run.RW ?_
    refine Run.le ?_ (ih (i + 1) hc (by omega))
    refine Le.cut0 hpin [_] (by rw [← ones_succ]; rfl) ?_ rfl
    simp only [AW7, simprocAttr]; try simp
  · intro hc
    have hc : i = n := by simp at hc; omega
    subst hc
    refine Run.exit rfl ?_; refine Run.nq ?_
    refine Run.R ?_
    refine Run.le (Le.re (obs' := [.arr .int (ones i) 0 true]) hpin [0] [(2, true, .own 0 0)] rfl (by simp [leOs, leO_arr, oAt]) (by refine ⟨⟨_, rfl, ?_⟩, trivial⟩; simp [leAV, oAt, genO])) ?_
    simp only [frV_cons, frV_nil]
    refine Run.rW [2] (hfin _ _ rfl rfl ?_)
    exact ⟨rfl, rfl⟩
theorem c_spec_RhoOf (c : List (List Int)) (hc : CartanP c) : FunA B 173 [.sl false (.row false) c] (fun rs o => rs = [.own 0 0] ∧ o = [.arr .int (ones c.length) 0 true]) := by
  have hcb := isC_true hc
  have hn := hc.2.1
  refine FunA.walk B_ok (fn := Tryz.f173) (fun vs w => Tryz.call173 vs w) Tryz.func173 rfl (by rw [Tryz.ntmps173]; simp) (fun C hC hP hT hΓ hbt hfn hpin hfin => ?_); have hX := BX; rw [← hΓ, ← hbt.1, ← hbt.2.1, ← hbt.2.2.1, ← hbt.2.2.2.2] at hX; rw [hT] at hX; rw [Tryz.ntmps173]; simp only [AW7, simprocAttr, hX]
  refine Run.R ?_
  refine Run.R ?_
  refine Run.R ?_
  refine Run.loopI (X := Nat) (fun i => ⟨20, [(0, true, .v (.sl false (.row false) c)), (2, true, .v .nils), (3, true, .v (.own 0 i)), (4, true, .v (.int .i64 i))], [.arr .int (ones i) i true]⟩) (fun i => i ≤ c.length) (fun i => c.length - i) 0 (Nat.zero_le _) ?_ ?_
  · exact Le.sub (by rfl) (by simp only [AW7, simprocAttr, hX]; try simp)
  rintro i hi ih
  have hll := ones_length i
  refine Run.nq ?_; refine Run.regionW hC (fun K hK => ?_); refine wW ?_
  refine .inl (FunA.callG hP hT (c_spec_IsCartan c) (fun _ => rfl) (fun _ => by simp only [AW7, simprocAttr]) ?_)
  refine wW ?_
  refine wE ?_; clear hK K
  refine Run.keep [0, 2, 3, 4, 13] ?_; simp only [AK, Nat.reduceBEq]
  rw [hcb]
  refine Run.nq ?_; refine Run.cW ?_ ?_
  · intro hc
    have hc : i < c.length := by
      by_cases h : (i : Int) < c.length
      · omega
      · simp [h] at hc
    refine Run.R ?_
    refine Run.RW ?_
    refine Run.le ?_ (ih (i + 1) hc (by omega))
    refine Le.cut0 hpin [_] (by rw [← ones_succ]; rfl) ?_ rfl
    simp only [AW7, simprocAttr]; try simp
  · intro hc
    have hc : i = c.length := by
      by_cases h : (i : Int) < c.length
      · simp [h] at hc
      · omega
    subst hc
    refine Run.exit rfl ?_; refine Run.nq ?_
    refine Run.R ?_
    refine Run.le (Le.re (obs' := [.arr .int (ones c.length) 0 true]) hpin [0] [(2, true, .own 0 0)] rfl (by simp [leOs, leO_arr, oAt]) (by refine ⟨⟨_, rfl, ?_⟩, trivial⟩; simp [leAV, oAt, genO])) ?_
    simp only [frV_cons, frV_nil]
    refine Run.rW [2] (hfin _ _ rfl rfl ?_)
    exact ⟨rfl, rfl⟩
theorem wrap_sub_wrap (a b : Int) : IntKind.i64.wrap (a - IntKind.i64.wrap b) = IntKind.i64.wrap (a - b) := by
  unfold IntKind.wrap
  simp [IntKind.bits, IntKind.signed]
  omega
def reflM (c : List (List Int)) (i : Int) (v : List Int) (m : Nat) : List Int := (List.range v.length).map fun k => if k < m then v.getD k 0 - v.getD i.toNat 0 * ent c k i.toNat else v.getD k 0
theorem reflM_length (c : List (List Int)) (i : Int) (v : List Int) (m : Nat) : (reflM c i v m).length = v.length := by simp [reflM]
theorem reflM_zero (c : List (List Int)) (i : Int) (v : List Int) : reflM c i v 0 = v := by
  apply List.ext_getElem?
  intro k
  by_cases hk : k < v.length
  · simp [reflM, hk]
  · rw [List.getElem?_eq_none (by rw [reflM_length]; omega), List.getElem?_eq_none (by omega)]
theorem reflM_end (c : List (List Int)) (i : Int) (v : List Int) : reflM c i v v.length = reflL c i v := by
  simp only [reflM, reflL]
  apply List.map_congr_left
  intro k hk
  rw [if_pos (List.mem_range.1 hk)]
theorem reflM_get (c : List (List Int)) (i : Int) (v : List Int) (m : Nat) (h : m < v.length) : (reflM c i v m).getD m 0 = v.getD m 0 := by
  simp [reflM, List.getD_eq_getElem?_getD, h]
theorem reflM_set (c : List (List Int)) (i : Int) (v : List Int) (m : Nat) (h : m < v.length) : (reflM c i v m).set m (v.getD m 0 - v.getD i.toNat 0 * ent c m i.toNat) = reflM c i v (m + 1) := by
  apply List.ext_getElem?
  intro k
  rw [List.getElem?_set]
  simp only [reflM, List.length_map, List.length_range]
  by_cases hk : m = k
  · subst hk
    simp [h]
  · rw [if_neg hk]
    by_cases h1 : k < v.length
    · simp only [List.getElem?_map, List.getElem?_range h1, Option.map_some]
      have : (k < m) = (k < m + 1) := by simp only [eq_iff_iff]; omega
      simp [this]
    · rw [List.getElem?_eq_none (by simpa using h1), List.getElem?_eq_none (by simpa using h1)]
theorem c_impl_reflected (c : List (List Int)) (i : Int) (v : List Int) (hc : CartanP c) (hv : v.length = c.length) (hi : 0 ≤ i ∧ i < c.length) (hB : Bd 9223372036854775807 (reflL c i v)) :
    FunM B 156 [.sl false (.row false) c, .int .i64 i, .own 0 0] .int v true (fun rs o => rs = [] ∧ o = [.arr .int (reflL c i v) 0 true]) := by
  have hn := hc.2.1
  have hrow := hc.2.2.1
  refine FunM.walk B_ok (fn := Tryz.f156) (fun vs w => Tryz.call156 vs w) Tryz.func156 rfl (by rw [Tryz.ntmps156]; simp) (fun C hC hP hT hΓ hbt hfn hpin hfin => ?_); have hX := BX; rw [← hΓ, ← hbt.1, ← hbt.2.1, ← hbt.2.2.1, ← hbt.2.2.2.2] at hX; rw [hT] at hX; rw [Tryz.ntmps156]; simp only [AW7, simprocAttr, hX]
  refine Run.R ?_
  refine Run.R ?_
  refine Run.keep [0, 1, 2, 6, 13, 14] ?_; simp only [AK, Nat.reduceBEq]
  refine Run.loopI (X := Nat) (fun m => ⟨33, [(0, true, .v (.sl false (.row false) c)), (1, true, .v (.int .i64 i)), (2, true, .v (.own 0 0)), (6, true, .v (.int .i64 (v.getD i.toNat 0))), (13, true, .v (.int .i64 v.length)), (14, true, .v (.int .i64 m))], [.arr .int (reflM c i v m) 0 true]⟩) (fun m => m ≤ v.length) (fun m => v.length - m) 0 (Nat.zero_le _) ?_ ?_
  · exact Le.sub (by rw [reflM_zero]) (by simp only [AW7, simprocAttr, hX]; try simp)
  rintro m hm ih
  have hml := reflM_length c i v m
  refine Run.R ?_
  refine Run.nq ?_; refine Run.cW ?_ ?_
  · intro h
    have h : m < v.length := by simpa using h
    have hrm := hrow m (by omega)
    refine Run.R ?_
    refine Run.nq ?_; refine Run.regionD hC true [0,1,2,3,4,5,6,7,8,9,10,11,12,13,14,15] (by kernel_rfl) (fun K hK => ?_); simp only [AW7, simprocAttr, hX]; (repeat (with_reducible refine And.intro ?_ ?_); exact vc0); refine wE ?_; clear hK K
    have e1 : IntKind.i64.wrap ((reflM c i v m).getD m 0 - IntKind.i64.wrap (v.getD i.toNat 0 * ent c m i.toNat)) = v.getD m 0 - v.getD i.toNat 0 * ent c m i.toNat := by
      rw [reflM_get c i v m h, wrap_sub_wrap]
      have := hB m
      rw [reflL_get c i v m h] at this
      exact wrap_id (by omega)
    simp only [e1]
    refine Run.RW ?_
    refine Run.le ?_ (ih (m + 1) h (by omega))
    refine Le.sub (by rw [reflM_set c i v m h]) ?_
    simp only [AW7, simprocAttr]; try simp
  · intro h
    have h : m = v.length := by simp at h; omega
    subst h
    refine Run.exit rfl ?_; refine Run.nq ?_
    rw [reflM_end]
    refine Run.doneW (xs := []) [] (by decide) (by rw [hfn]; rfl) rfl trivial (hfin _ _ _ rfl rfl rfl ?_)
    exact ⟨rfl, rfl⟩
end Go.Proofs.YtcinngodeoidnaaGreat
namespace Go.Proofs.YtcinngodeoidnaaGreat
open Go Go.Aw Go.Cox
theorem reflL_snoc (c : List (List Int)) (i : Int) (v : List Int) (m : Nat) (h : m < v.length) : (reflL c i v).take m ++ [v.getD m 0 - v.getD i.toNat 0 * ent c m i.toNat] = (reflL c i v).take (m + 1) := by
  rw [← take_snoc 0 _ m (by rw [reflL_length]; exact h), reflL_get c i v m h]
theorem c_spec_l6Reflect (c : List (List Int)) (i : Int) (v : List Int) (hc : CartanP c) (hv : v.length = c.length) (hi : 0 ≤ i ∧ i < c.length) (hB : Bd 9223372036854775807 (reflL c i v)) :
    FunA B 151 [.sl false (.row false) c, .int .i64 i, .sl false .int v] (fun rs o => rs = [.own 0 0] ∧ o = [.arr .int (reflL c i v) 0 true]) := by
  have hn := hc.2.1
  have hrow := hc.2.2.1
  have hrl := reflL_length c i v
  refine FunA.walk B_ok (fn := Tryz.f151) (fun vs w => Tryz.call151 vs w) Tryz.func151 rfl (by rw [Tryz.ntmps151]; simp) (fun C hC hP hT hΓ hbt hfn hpin hfin => ?_); have hX := BX; rw [← hΓ, ← hbt.1, ← hbt.2.1, ← hbt.2.2.1, ← hbt.2.2.2.2] at hX; rw [hT] at hX; rw [Tryz.ntmps151]; simp only [AW7, simprocAttr, hX]
  refine Run.R ?_
  refine Run.R ?_
  refine Run.R ?_
  refine Run.loopI (X := Nat) (fun m => ⟨37, [(0, true, .v (.sl false (.row false) c)), (1, true, .v (.int .i64 i)), (2, true, .v (.sl false .int v)), (6, true, .v .nils), (7, true, .v (.own 0 m)), (8, true, .v (.int .i64 m))], [.arr .int ((reflL c i v).take m) m true]⟩) (fun m => m ≤ v.length) (fun m => v.length - m) 0 (Nat.zero_le _) ?_ ?_
  · exact Le.sub (by rfl) (by simp only [AW7, simprocAttr, hX]; try simp)
  rintro m hm ih
  have hll : ((reflL c i v).take m).length = m := by simp; omega
  refine Run.R ?_
  refine Run.nq ?_; refine Run.cW ?_ ?_
  · intro h
    have h : m < v.length := by simpa using h
    have hrm := hrow m (by omega)
    refine Run.keep [0, 1, 2, 6, 7, 8] ?_; simp only [AK, Nat.reduceBEq]
    refine Run.nq ?_
    refine Run.regionD hC true [0,1,2,3,4,5,6,7,8,9,10,11,12,13,14,15,16,17,18,19,20] (by kernel_rfl) (fun K hK => ?_)
    simp only [AW7, simprocAttr, hX]
    (repeat (with_reducible refine And.intro ?_ ?_); exact vc0)
    refine wE ?_; clear hK K
    have e1 : IntKind.i64.wrap (v.getD m 0 - IntKind.i64.wrap (v.getD i.toNat 0 * ent c m i.toNat)) = v.getD m 0 - v.getD i.toNat 0 * ent c m i.toNat := by
      rw [wrap_sub_wrap]
      have := hB m
      rw [reflL_get c i v m h] at this
      exact wrap_id (by omega)
    simp only [e1]
    refine Run.RW ?_
    refine Run.le ?_ (ih (m + 1) h (by omega))
    refine Le.cut0 hpin [_] (by rw [← reflL_snoc c i v m h]; rfl) ?_ rfl
    simp only [AW7, simprocAttr]; try simp
  · intro h
    have h : m = v.length := by simp at h; omega
    subst h
    refine Run.exit rfl ?_; refine Run.nq ?_
    refine Run.R ?_
    refine Run.le (Le.re (obs' := [.arr .int (reflL c i v) 0 true]) hpin [0] [(6, true, .own 0 0)] rfl (by simp [leOs, leO_arr, oAt, ← hrl]) (by refine ⟨⟨_, rfl, ?_⟩, trivial⟩; simp [leAV, oAt, genO])) ?_
    simp only [frV_cons, frV_nil]
    refine Run.rW [6] (hfin _ _ rfl rfl ?_)
    exact ⟨rfl, rfl⟩
theorem actL_drop (c : List (List Int)) (w v : List Int) (j : Nat) (h : j < w.length) : actL c (w.drop j) v = reflL c (w.getD j 0) (actL c (w.drop (j + 1)) v) := by
  rw [List.drop_eq_getElem_cons h, show w.getD j 0 = w[j] from by simp [h]]
  rfl
theorem c_impl_acted (c : List (List Int)) (w v : List Int) (hc : CartanP c) (hw : letters c.length w) (hv : v.length = c.length) (hB : ∀ j, Bd 9223372036854775807 (actL c (w.drop j) v)) (hl : w.length ≤ 1048576) :
    FunA B 157 [.sl false (.row false) c, .sl false .int w, .sl false .int v] (fun rs o => rs = [.own 0 0] ∧ o = [.arr .int (actL c w v) 0 true]) := by
  have hn := hc.2.1
  refine FunA.walk B_ok (fn := Tryz.f157) (fun vs w => Tryz.call157 vs w) Tryz.func157 rfl (by rw [Tryz.ntmps157]; simp) (fun C hC hP hT hΓ hbt hfn hpin hfin => ?_); have hX := BX; rw [← hΓ, ← hbt.1, ← hbt.2.1, ← hbt.2.2.1, ← hbt.2.2.2.2] at hX; rw [hT] at hX; rw [Tryz.ntmps157]; simp only [AW7, simprocAttr, hX]
  refine Run.R ?_
  refine Run.R ?_
  refine Run.le (Le.re (obs' := [.arr .int v 0 true]) hpin [0] [(0, true, .sl false (.row false) c), (1, true, .sl false .int w), (6, true, .nils), (7, true, .own 0 0)] rfl (by simp [leOs, leO_arr, oAt]) (by refine ⟨⟨_, rfl, ?_⟩, ⟨_, rfl, ?_⟩, ⟨_, rfl, ?_⟩, ⟨_, rfl, ?_⟩, trivial⟩ <;> simp [leAV, oAt, genO])) ?_
  simp only [frV_cons, frV_nil]
  refine Run.RW ?_
  refine Run.loopI (X := Nat) (fun m => ⟨27, [(0, true, .v (.sl false (.row false) c)), (1, true, .v (.sl false .int w)), (6, true, .v .nils), (7, true, .v (.own 0 0)), (8, true, .v (.int .i64 ((w.length : Int) - 1 - m)))], [.arr .int (actL c (w.drop (w.length - m)) v) 0 true]⟩) (fun m => m ≤ w.length) (fun m => w.length - m) 0 (Nat.zero_le _) ?_ ?_
  · exact Le.sub (by simp [actL]) (by simp only [AW7, simprocAttr, hX]; try simp)
  rintro m hm ih
  refine Run.R ?_
  refine Run.nq ?_; refine Run.cW ?_ ?_
  · intro h
    have h : m < w.length := by simp at h; omega
    have e1 : ((w.length : Int) - 1 - m).toNat = w.length - (m + 1) := by omega
    have e2 : w.length - (m + 1) + 1 = w.length - m := by omega
    have hd := actL_drop c w v (w.length - (m + 1)) (by omega)
    rw [e2] at hd
    have hlet := letters_getD.1 hw (w.length - (m + 1)) (by omega)
    have hB' := hB (w.length - (m + 1))
    rw [hd] at hB'
    refine Run.nq ?_; refine Run.regionW hC (fun K hK => ?_); refine wW ?_
    simp only [e1]
    refine FunM.call hP hT (c_impl_reflected c (w.getD (w.length - (m + 1)) 0) (actL c (w.drop (w.length - m)) v) hc (by rw [actL_length, hv]) hlet hB') 0 0 (by simp only [AW7, simprocAttr]; rfl) (by simp) rfl (by simp only [AW7, simprocAttr]; try simp) ?_
    rintro rs o' obs' ⟨rfl, h⟩
    obtain ⟨rfl, rfl⟩ := List.cons.inj h
    refine wW ?_
    refine wE ?_; clear hK K
    refine Run.RW ?_
    refine Run.le ?_ (ih (m + 1) (by omega) (by omega))
    refine Le.sub (by rw [hd]) ?_
    simp only [AW7, simprocAttr]; try simp; omega
  · intro h
    have h : m = w.length := by simp at h; omega
    subst h
    rw [show w.length - w.length = 0 from by omega, List.drop_zero]
    refine Run.exit rfl ?_; refine Run.nq ?_
    refine Run.R ?_
    refine Run.keep [6] ?_; simp only [AK, Nat.reduceBEq]
    refine Run.rW [6] (hfin _ _ rfl rfl ?_)
    exact ⟨rfl, rfl⟩
theorem image_bd {c : List (List Int)} (hc : CartanP c) {w : List Int} (hw : letters c.length w) (hl : w.length ≤ 31) : Bd 4611686018427387904 (imageL c w) := by
  refine (Bd.image hc w hw).mono ?_
  have h : ((4 : Int) ^ w.length) ≤ 4 ^ 31 := pow4_le hl
  have e : ((4 : Int) ^ 31) = 4611686018427387904 := by decide
  rw [e] at h
  exact h
theorem letters_drop {n : Nat} {w : List Int} (h : letters n w) (j : Nat) : letters n (w.drop j) := fun i hi => h i (List.mem_of_mem_drop hi)
theorem c_impl_image (c : List (List Int)) (w : List Int) (hc : CartanP c) (hw : letters c.length w) (hl : w.length ≤ 31) :
    FunA B 129 [.sl false (.row false) c, .sl false .int w] (fun rs o => rs = [.own 0 0] ∧ o = [.arr .int (imageL c w) 0 true]) := by
  have hn := hc.2.1
  refine FunA.walk B_ok (fn := Tryz.f129) (fun vs w => Tryz.call129 vs w) Tryz.func129 rfl (by rw [Tryz.ntmps129]; simp) (fun C hC hP hT hΓ hbt hfn hpin hfin => ?_); have hX := BX; rw [← hΓ, ← hbt.1, ← hbt.2.1, ← hbt.2.2.1, ← hbt.2.2.2.2] at hX; rw [hT] at hX; rw [Tryz.ntmps129]; simp only [AW7, simprocAttr, hX]
  refine Run.R ?_
  refine Run.nq ?_; refine Run.regionW hC (fun K hK => ?_); refine wW ?_
  refine FunA.cW hP hT (c_impl_ones c.length (by omega)) ?_
  rintro rs o ⟨rfl, rfl⟩
  refine wW ?_
  refine FunA.cW hP hT (c_impl_acted c w (ones c.length) hc hw (ones_length _) (fun j => (image_bd hc (letters_drop hw j) (by simp; omega)).mono (by decide)) (by omega)) ?_
  rintro rs o ⟨rfl, rfl⟩
  refine wW ?_
  refine wE ?_; clear hK K
  refine Run.le (Le.re (obs' := [.arr .int (imageL c w) 0 true]) hpin [1] [(4, true, .own 0 0)] rfl (by simp [leOs, leO_arr, oAt, imageL]) (by refine ⟨⟨_, rfl, ?_⟩, trivial⟩; simp [leAV, oAt, genO])) ?_
  simp only [frV_cons, frV_nil]
  refine Run.rW [4] (hfin _ _ rfl rfl ?_)
  exact ⟨rfl, rfl⟩
theorem c_spec_l8Image (c : List (List Int)) (w : List Int) (hc : CartanP c) (hw : letters c.length w) (hl : w.length ≤ 31) :
    FunA B 139 [.sl false (.row false) c, .sl false .int w] (fun rs o => rs = [.own 0 0] ∧ o = [.arr .int (imageL c w) 0 true]) := by
  have hn := hc.2.1
  refine FunA.walk B_ok (fn := Tryz.f139) (fun vs w => Tryz.call139 vs w) Tryz.func139 rfl (by rw [Tryz.ntmps139]; simp) (fun C hC hP hT hΓ hbt hfn hpin hfin => ?_); have hX := BX; rw [← hΓ, ← hbt.1, ← hbt.2.1, ← hbt.2.2.1, ← hbt.2.2.2.2] at hX; rw [hT] at hX; rw [Tryz.ntmps139]; simp only [AW7, simprocAttr, hX]
  refine Run.R ?_
  refine Run.nq ?_; refine Run.regionW hC (fun K hK => ?_); refine wW ?_
  refine FunA.cW hP hT (c_spec_RhoOf c hc) ?_
  rintro rs o ⟨rfl, rfl⟩
  refine wW ?_
  refine wE ?_; clear hK K
  refine Run.RW ?_
  refine Run.loopI (X := Nat) (fun m => ⟨24, [(0, true, .v (.sl false (.row false) c)), (1, true, .v (.sl false .int w)), (4, true, .v .nils), (5, true, .v (.own 0 0)), (6, true, .v (.int .i64 ((w.length : Int) - 1 - m)))], [.arr .int (imageL c (w.drop (w.length - m))) 0 true]⟩) (fun m => m ≤ w.length) (fun m => w.length - m) 0 (Nat.zero_le _) ?_ ?_
  · exact Le.sub (by simp [imageL, actL]) (by simp only [AW7, simprocAttr, hX]; try simp)
  rintro m hm ih
  refine Run.R ?_
  refine Run.nq ?_; refine Run.cW ?_ ?_
  · intro h
    have h : m < w.length := by simp at h; omega
    have e1 : ((w.length : Int) - 1 - m).toNat = w.length - (m + 1) := by omega
    have e2 : w.length - (m + 1) + 1 = w.length - m := by omega
    have hd := actL_drop c w (ones c.length) (w.length - (m + 1)) (by omega)
    rw [e2] at hd
    have hlet := letters_getD.1 hw (w.length - (m + 1)) (by omega)
    have hB' : Bd 9223372036854775807 (imageL c (w.drop (w.length - (m + 1)))) := (image_bd hc (letters_drop hw _) (by simp; omega)).mono (by decide)
    have hd' : imageL c (w.drop (w.length - (m + 1))) = reflL c (w.getD (w.length - (m + 1)) 0) (imageL c (w.drop (w.length - m))) := hd
    rw [hd'] at hB'
    refine Run.nq ?_; refine Run.regionW hC (fun K hK => ?_); refine wW ?_
    simp only [e1]
    refine FunA.cW hP hT (c_spec_l6Reflect c (w.getD (w.length - (m + 1)) 0) (imageL c (w.drop (w.length - m))) hc (imageL_length ..) hlet hB') ?_
    rintro rs o ⟨rfl, rfl⟩
    refine wW ?_
    refine wE ?_; clear hK K
    refine Run.RW ?_
    refine Run.le ?_ (ih (m + 1) (by omega) (by omega))
    refine Le.re (obs' := [.arr .int (imageL c (w.drop (w.length - (m + 1)))) 0 true]) hpin [1] [(0, true, .sl false (.row false) c), (1, true, .sl false .int w), (4, true, .nils), (5, true, .own 0 0), (6, true, .int .i64 ((w.length : Int) - 1 - ((m + 1 : Nat) : Int)))] rfl (by simp [leOs, leO_arr, oAt, hd']) ?_
    refine ⟨⟨_, rfl, ?_⟩, ⟨_, rfl, ?_⟩, ⟨_, rfl, ?_⟩, ⟨_, rfl, ?_⟩, ⟨_, rfl, ?_⟩, trivial⟩ <;> simp [leAV, oAt, genO]
    omega
  · intro h
    have h : m = w.length := by simp at h; omega
    subst h
    rw [show w.length - w.length = 0 from by omega, List.drop_zero]
    refine Run.exit rfl ?_; refine Run.nq ?_
    refine Run.R ?_
    refine Run.keep [4] ?_; simp only [AK, Nat.reduceBEq]
    refine Run.rW [4] (hfin _ _ rfl rfl ?_)
    exact ⟨rfl, rfl⟩
end Go.Proofs.YtcinngodeoidnaaGreat
namespace Go.Proofs.YtcinngodeoidnaaGreat
open Go Go.Aw Go.Cox
theorem firstNeg_more (v : List Int) : ∀ n m, n ≤ m → 0 ≤ firstNeg v n → firstNeg v m = firstNeg v n := by
  intro n m h h0
  induction m with
  | zero => have : n = 0 := by omega
            subst this; rfl
  | succ m ih =>
    by_cases hn : n = m + 1
    · subst hn; rfl
    · have := ih (by omega)
      simp only [firstNeg]
      rw [if_neg (by omega), this]
theorem c_impl_firstDescent (v : List Int) (hl : v.length ≤ 1048576) : FunA B 155 [.sl false .int v] (fun rs o => rs = [.int .i64 (fstN v)] ∧ o = []) := by
  refine FunA.walk B_ok (fn := Tryz.f155) (fun vs w => Tryz.call155 vs w) Tryz.func155 rfl (by rw [Tryz.ntmps155]; simp) (fun C hC hP hT hΓ hbt hfn hpin hfin => ?_); have hX := BX; rw [← hΓ, ← hbt.1, ← hbt.2.1, ← hbt.2.2.1, ← hbt.2.2.2.2] at hX; rw [hT] at hX; rw [Tryz.ntmps155]; simp only [AW7, simprocAttr, hX]
  refine Run.R ?_
  refine Run.R ?_
  refine Run.loopI (X := Nat) (fun i => ⟨16, [(2, true, .v (.int .i64 0)), (5, true, .v (.sl false .int v)), (6, true, .v (.int .i64 v.length)), (7, true, .v (.int .i64 i))], []⟩) (fun i => i ≤ v.length ∧ firstNeg v i < 0) (fun i => v.length - i) 0 ⟨Nat.zero_le _, by simp [firstNeg]⟩ ?_ ?_
  · exact Le.sub (by simp only [AW7, simprocAttr]) (by simp only [AW7, simprocAttr]; try simp)
  rintro i ⟨hi, hf⟩ ih
  refine Run.R ?_
  refine Run.nq ?_; refine Run.cW ?_ ?_
  · intro h
    have h : i < v.length := by simpa using h
    refine Run.R ?_
    refine Run.R ?_
    have hs : firstNeg v (i + 1) = if v.getD i 0 < 0 then (i : Int) else -1 := by simp only [firstNeg]; rw [if_pos hf]
    refine Run.nq ?_; refine Run.cW ?_ ?_
    · intro hx
      have hx : v.getD i 0 < 0 := by simpa using hx
      refine Run.R ?_
      refine Run.rW [2] (hfin _ _ rfl rfl ?_)
      refine ⟨?_, rfl⟩
      rw [if_pos hx] at hs
      unfold fstN
      rw [firstNeg_more v (i + 1) v.length h (by omega), hs]
    · intro hx
      have hx : ¬ v.getD i 0 < 0 := by simpa using hx
      refine Run.RW ?_
      refine Run.le ?_ (ih (i + 1) ⟨h, by rw [hs, if_neg hx]; decide⟩ (by omega))
      exact Le.sub (by simp only [AW7, simprocAttr]) (by simp only [AW7, simprocAttr, Option.some.injEq, Prod.mk.injEq, Sl.v.injEq, AV.int.injEq, AV.own.injEq, AV.bool.injEq]; try (repeat' apply And.intro); all_goals omega)
  · intro h
    have h : i = v.length := by simp at h; omega
    subst h
    refine Run.exit rfl ?_; refine Run.nq ?_
    refine Run.R ?_
    refine Run.rW [2] (hfin _ _ rfl rfl ?_)
    refine ⟨?_, rfl⟩
    have : fstN v = -1 := by
      unfold fstN
      rcases firstNeg_spec v v.length with ⟨h1, _⟩ | ⟨i, h1, _⟩
      · exact h1
      · rw [h1] at hf; omega
    rw [this]
theorem nf_letters {c : List (List Int)} (hc : CartanP c) : ∀ (f L : Nat) {v : List Int}, Far c L v → L ≤ f → ∀ j, j < L → fstN (imageL c ((nfL c f v).drop j)) = (nfL c f v).getD j 0
  | 0, L, v, h, hf, j, hj => by omega
  | f + 1, L, v, h, hf, j, hj => by
    obtain ⟨k1, k2, k3⟩ := nfL_far hc (f + 1) L h hf
    rcases fst_of_far hc h with ⟨h1, h2⟩ | ⟨h1, h2, h3, M, h4, h5⟩
    · omega
    · have e : nfL c (f + 1) v = fstN v :: nfL c f (reflL c (fstN v) v) := by simp only [nfL]; rw [if_neg (by omega)]
      cases j with
      | zero => rw [List.drop_zero, k3, e]; rfl
      | succ j =>
        rw [e, List.drop_succ_cons]
        have := nf_letters hc f M h5 (by omega) j (by omega)
        rw [this]
        simp
theorem nf_steps {c : List (List Int)} (hc : CartanP c) {L : Nat} {v : List Int} (h : Far c L v) (hL : L ≤ 31) :
    (nfL c 31 v).length = L ∧ letters c.length (nfL c 31 v) ∧ imageL c (nfL c 31 v) = v ∧
    (∀ j, j < L → fstN (imageL c ((nfL c 31 v).drop j)) = (nfL c 31 v).getD j 0 ∧ reflL c ((nfL c 31 v).getD j 0) (imageL c ((nfL c 31 v).drop j)) = imageL c ((nfL c 31 v).drop (j + 1))) ∧
    fstN (imageL c ((nfL c 31 v).drop L)) < 0 ∧ ∀ j, Far c (L - j) (imageL c ((nfL c 31 v).drop j)) := by
  obtain ⟨k1, k2, k3⟩ := nfL_far hc 31 L h hL
  have hfar : ∀ j, Far c (L - j) (imageL c ((nfL c 31 v).drop j)) := by
    intro j
    induction j with
    | zero => rw [List.drop_zero, k3]; exact h
    | succ j ih =>
      by_cases hj : j < L
      · have hlet := nf_letters hc 31 L h hL j hj
        have hd := actL_drop c (nfL c 31 v) (ones c.length) j (by omega)
        have hg := letters_getD.1 k2 j (by omega)
        rcases fst_of_far hc ih with ⟨_, h2⟩ | ⟨_, _, _, M, h4, h5⟩
        · omega
        · rw [hlet] at h5
          have e : reflL c ((nfL c 31 v).getD j 0) (imageL c ((nfL c 31 v).drop j)) = imageL c ((nfL c 31 v).drop (j + 1)) := by
            show reflL c _ (actL c _ _) = actL c _ _
            rw [hd]
            exact refl2 hc hg (imageL_length c _)
          rw [e] at h5
          rw [show L - (j + 1) = M from by omega]
          exact h5
      · rw [List.drop_eq_nil_of_le (by omega), show L - (j + 1) = 0 from by omega]
        exact Far.ones c
  refine ⟨k1, k2, k3, fun j hj => ⟨nf_letters hc 31 L h hL j hj, ?_⟩, ?_, hfar⟩
  · have hd := actL_drop c (nfL c 31 v) (ones c.length) j (by omega)
    show reflL c _ (actL c _ _) = actL c _ _
    rw [hd]
    exact refl2 hc (letters_getD.1 k2 j (by omega)) (imageL_length c _)
  · have := hfar L
    rw [Nat.sub_self] at this
    exact (fst_zero hc this).2 rfl
theorem c_impl_normal (c : List (List Int)) (v : List Int) (L : Nat) (hc : CartanP c) (hF : Far c L v) (hL : L ≤ 31) :
    FunA B 128 [.sl false (.row false) c, .sl false .int v] (fun rs o => rs = [.own 0 0] ∧ o = [.arr .int (nfL c 31 v) 0 true]) := by
  have hn := hc.2.1
  have hvl : v.length = c.length := hF.1
  obtain ⟨s1, s2, s3, s4, s5, s6⟩ := nf_steps hc hF hL
  obtain ⟨r, hr⟩ : ∃ r, r = nfL c 31 v := ⟨_, rfl⟩
  rw [← hr] at s1 s2 s3 s4 s5 s6 ⊢
  have hbd : ∀ j, Bd 9223372036854775807 (imageL c (r.drop j)) := fun j => (image_bd hc (letters_drop s2 j) (by simp; omega)).mono (by decide)
  refine FunA.walk B_ok (fn := Tryz.f128) (fun vs w => Tryz.call128 vs w) Tryz.func128 rfl (by rw [Tryz.ntmps128]; simp) (fun C hC hP hT hΓ hbt hfn hpin hfin => ?_); have hX := BX; rw [← hΓ, ← hbt.1, ← hbt.2.1, ← hbt.2.2.1, ← hbt.2.2.2.2] at hX; rw [hT] at hX; rw [Tryz.ntmps128]; simp only [AW7, simprocAttr, hX]
  refine Run.R ?_
  refine Run.R ?_
  refine Run.le (Le.re (obs' := [.arr .int v 0 true]) hpin [0] [(0, true, .sl false (.row false) c), (1, true, .own 0 0), (4, true, .nils)] rfl (by simp [leOs, leO_arr, oAt]) (by refine ⟨⟨_, rfl, ?_⟩, ⟨_, rfl, ?_⟩, ⟨_, rfl, ?_⟩, trivial⟩ <;> simp [leAV, oAt, genO])) ?_
  simp only [frV_cons, frV_nil]
  refine Run.R ?_
  refine Run.loopI (X := Nat) (fun j => ⟨24, [(0, true, .v (.sl false (.row false) c)), (1, true, .v (.own 0 0)), (4, true, .v .nils), (5, true, .v (.own 1 j))], [.arr .int (imageL c (r.drop j)) 0 true, .arr .int (r.take j) j true]⟩) (fun j => j ≤ L) (fun j => L - j) 0 (Nat.zero_le _) ?_ ?_
  · exact Le.sub (by rw [List.drop_zero, s3]; rfl) (by simp only [AW7, simprocAttr, hX]; try simp)
  rintro j hj ih
  have hil := imageL_length c (r.drop j)
  have htl : (r.take j).length = j := by simp; omega
  refine Run.nq ?_; refine Run.regionW hC (fun K hK => ?_); refine wW ?_
  refine FunA.cW hP hT (c_impl_firstDescent (imageL c (r.drop j)) (by omega)) ?_
  rintro rs o ⟨rfl, rfl⟩
  refine wW ?_
  refine wE ?_; clear hK K
  refine Run.R ?_
  refine Run.nq ?_; refine Run.cW ?_ ?_
  · intro h
    have h : fstN (imageL c (r.drop j)) < 0 := by simpa using h
    have hjL : j = L := by
      have := (fst_zero hc (s6 j)).1 h
      omega
    subst hjL
    refine Run.R ?_
    refine Run.le (Le.re (obs' := [.arr .int r 0 true]) hpin [1] [(4, true, .own 0 0)] rfl (by simp [leOs, leO_arr, oAt, ← s1]) (by refine ⟨⟨_, rfl, ?_⟩, trivial⟩; simp [leAV, oAt, genO])) ?_
    simp only [frV_cons, frV_nil]
    refine Run.rW [4] (hfin _ _ rfl rfl ?_)
    exact ⟨rfl, rfl⟩
  · intro h
    have h : ¬ fstN (imageL c (r.drop j)) < 0 := by simpa using h
    have hjL : j < L := by
      refine Classical.byContradiction fun hn => h ?_
      rw [show j = L from by omega]; exact s5
    obtain ⟨q1, q2⟩ := s4 j hjL
    rw [q1]
    have hB' := hbd (j + 1)
    rw [← q2] at hB'
    refine Run.R ?_
    refine Run.le (Le.cut0 hpin [_] (fr' := [(0, true, .v (.sl false (.row false) c)), (1, true, .v (.own 0 0)), (4, true, .v .nils), (5, true, .v (.own 1 (j + 1))), (6, true, .v (.int .i64 (r.getD j 0)))]) (obs' := [.arr .int (imageL c (r.drop j)) 0 true, .arr .int (r.take j ++ [r.getD j 0]) (j + 1) true]) rfl (by simp only [AW7, simprocAttr]; try simp) rfl) ?_
    rw [take_snoc 0 r j (by omega)]
    refine Run.nq ?_; refine Run.regionW hC (fun K hK => ?_); refine wW ?_
    refine FunM.call hP hT (c_impl_reflected c (r.getD j 0) (imageL c (r.drop j)) hc hil (letters_getD.1 s2 j (by omega)) hB') 0 0 (by simp only [AW7, simprocAttr]; rfl) (by simp) rfl (by simp only [AW7, simprocAttr]; try simp) ?_
    rintro rs o' obs' ⟨rfl, h⟩
    obtain ⟨rfl, rfl⟩ := List.cons.inj h
    refine wW ?_
    refine wE ?_; clear hK K
    refine Run.le ?_ (ih (j + 1) hjL (by omega))
    exact Le.sub (by rw [q2]) (by simp only [AW7, simprocAttr]; try simp)
theorem fst_pos {c : List (List Int)} (hc : CartanP c) {M : Nat} {v : List Int} (h : Far c M v) {k : Nat} (hk : k < c.length) (hpre : ∀ q, q < k → 0 < v.getD q 0) (hv : ¬ 0 < v.getD k 0) : fstN v = k := by
  have hz := h.nz hc k hk
  rcases firstNeg_spec v v.length with ⟨_, h2⟩ | ⟨i, h1, h2, h3, h4⟩
  · have := h2 k (by rw [h.1]; exact hk); omega
  · have e : fstN v = i := h1
    rw [e]
    by_cases hik : i < k
    · have := hpre i hik; omega
    · by_cases hki : k < i
      · have := h4 k hki; omega
      · omega
theorem fst_none {c : List (List Int)} (hc : CartanP c) {M : Nat} {v : List Int} (h : Far c M v) (hpre : ∀ q, q < c.length → 0 < v.getD q 0) : M = 0 := by
  rcases fst_of_far hc h with ⟨_, h2⟩ | ⟨h1, h2, h3, _⟩
  · exact h2
  · have := hpre (fstN v).toNat (by omega); omega
theorem c_spec_l8Form (c : List (List Int)) (v : List Int) (L : Nat) (hc : CartanP c) (hF : Far c L v) (hL : L ≤ 31) :
    FunA B 114 [.sl false (.row false) c, .sl false .int v] (fun rs o => rs = [.own 0 0] ∧ o = [.arr .int (nfL c 31 v) 0 true]) := by
  have hn := hc.2.1
  have hvl : v.length = c.length := hF.1
  obtain ⟨s1, s2, s3, s4, s5, s6⟩ := nf_steps hc hF hL
  obtain ⟨r, hr⟩ : ∃ r, r = nfL c 31 v := ⟨_, rfl⟩
  rw [← hr] at s1 s2 s3 s4 s5 s6 ⊢
  have hbd : ∀ j, Bd 9223372036854775807 (imageL c (r.drop j)) := fun j => (image_bd hc (letters_drop s2 j) (by simp; omega)).mono (by decide)
  refine FunA.walk B_ok (fn := Tryz.f114) (fun vs w => Tryz.call114 vs w) Tryz.func114 rfl (by rw [Tryz.ntmps114]; simp) (fun C hC hP hT hΓ hbt hfn hpin hfin => ?_); have hX := BX; rw [← hΓ, ← hbt.1, ← hbt.2.1, ← hbt.2.2.1, ← hbt.2.2.2.2] at hX; rw [hT] at hX; rw [Tryz.ntmps114]; simp only [AW7, simprocAttr, hX]
  refine Run.R ?_
  refine Run.R ?_
  refine Run.R ?_
  refine Run.keep [0, 1, 4, 5, 6] ?_; simp only [AK, Nat.reduceBEq]
  have fin : ∀ j, j = L → r.take j = r := fun j hj => by rw [hj, ← s1, List.take_length]
  refine Run.loopI (X := Nat × Bool) (fun x => ⟨40, [(0, true, .v (.sl false (.row false) c)), (1, true, .v (.sl x.2 .int (imageL c (r.drop x.1)))), (4, true, .v .nils), (5, true, .v (.own 0 x.1)), (6, true, .v (.int .i64 x.1))], [.arr .int (r.take x.1) x.1 true]⟩) (fun x => x.1 ≤ L) (fun x => 32 - x.1) (0, false) (by simp) ?_ ?_
  · exact Le.sub (by rfl) (by simp only [AW7, simprocAttr, hX]; try simp [s3])
  rintro ⟨j, fl⟩ hj ih
  simp only [] at hj ⊢
  have hil := imageL_length c (r.drop j)
  have htl : (r.take j).length = j := by simp; omega
  refine Run.R ?_
  refine Run.keep [0, 1, 4, 5, 6, 10] ?_; simp only [AK, Nat.reduceBEq]
  refine Run.nq ?_; refine Run.cW ?_ ?_
  · intro h
    refine Run.R ?_
    refine Run.keep [0, 1, 4, 5, 6, 7] ?_; simp only [AK, Nat.reduceBEq]
    refine Run.loopI (X := Nat) (fun k => ⟨40, [(0, true, .v (.sl false (.row false) c)), (1, true, .v (.sl fl .int (imageL c (r.drop j)))), (4, true, .v .nils), (5, true, .v (.own 0 j)), (6, true, .v (.int .i64 j)), (7, true, .v (.int .i64 k))], [.arr .int (r.take j) j true]⟩) (fun k => k ≤ c.length ∧ ∀ q, q < k → 0 < (imageL c (r.drop j)).getD q 0) (fun k => c.length - k) 0 ⟨Nat.zero_le _, by omega⟩ ?_ ?_
    · exact Le.sub (by rfl) (by simp only [AW7, simprocAttr, hX]; try simp)
    rintro k ⟨hk, hpre⟩ ihk
    refine Run.R ?_
    refine Run.keep [0, 1, 4, 5, 6, 7, 23] ?_; simp only [AK, Nat.reduceBEq]
    refine Run.nq ?_; refine Run.cW ?_ ?_
    · intro h2
      have h2 : k < c.length ∧ 0 < (imageL c (r.drop j)).getD k 0 := by
        rw [hil] at h2
        by_cases hq : k < c.length
        · have hq' : (k : Int) < c.length := by omega
          simp only [hq', decide_true, cond_true, decide_eq_true_eq] at h2
          exact ⟨hq, h2⟩
        · have hq' : ¬ (k : Int) < c.length := by omega
          simp [hq'] at h2
      refine Run.RW ?_
      refine Run.le ?_ (ihk (k + 1) ⟨h2.1, fun q hq => ?_⟩ (by omega))
      · exact Le.sub (by simp only [AW7, simprocAttr]) (by simp only [AW7, simprocAttr, Option.some.injEq, Prod.mk.injEq, Sl.v.injEq, AV.int.injEq, AV.own.injEq, AV.bool.injEq]; try (repeat' apply And.intro); all_goals omega)
      · rcases Nat.lt_succ_iff_lt_or_eq.1 hq with h | rfl
        · exact hpre q h
        · exact h2.2
    · intro h2
      refine Run.exit rfl ?_; refine Run.nq ?_
      refine Run.R ?_
      refine Run.keep [0, 1, 4, 5, 6, 7, 29] ?_; simp only [AK, Nat.reduceBEq]
      refine Run.nq ?_; refine Run.cW ?_ ?_
      · intro h3
        have h3 : k = c.length := by rw [hil] at h3; simp at h3; omega
        subst h3
        have hz := fst_none hc (s6 j) hpre
        refine Run.R ?_
        refine Run.le (Le.re (obs' := [.arr .int r 0 true]) hpin [0] [(4, true, .own 0 0)] rfl (by rw [fin j (by omega)]; simp [leOs, leO_arr, oAt]) (by refine ⟨⟨_, rfl, ?_⟩, trivial⟩; simp [leAV, oAt, genO])) ?_
        simp only [frV_cons, frV_nil]
        refine Run.rW [4] (hfin _ _ rfl rfl ?_)
        exact ⟨rfl, rfl⟩
      · intro h3
        have h3 : k < c.length := by
          have : ¬ k = c.length := by rw [hil] at h3; intro hk; subst hk; simp at h3
          omega
        have hnp : ¬ 0 < (imageL c (r.drop j)).getD k 0 := by
          intro hp
          rw [hil] at h2
          have hq' : (k : Int) < c.length := by omega
          simp only [hq', decide_true, cond_true, decide_eq_false_iff_not] at h2
          exact h2 hp
        have hfk := fst_pos hc (s6 j) h3 hpre hnp
        have hjL : j < L := by
          refine Classical.byContradiction fun hn2 => ?_
          have : j = L := by omega
          rw [this] at hfk
          omega
        obtain ⟨q1, q2⟩ := s4 j hjL
        rw [hfk] at q1
        have hB' := hbd (j + 1)
        rw [← q2] at hB'
        have hlet := letters_getD.1 s2 j (by omega)
        rw [q1]
        refine Run.R ?_
        refine Run.le (Le.cut0 hpin [_] (fr' := [(0, true, .v (.sl false (.row false) c)), (1, true, .v (.sl fl .int (imageL c (r.drop j)))), (4, true, .v .nils), (5, true, .v (.own 0 (j + 1))), (6, true, .v (.int .i64 j)), (7, true, .v (.int .i64 (r.getD j 0)))]) (obs' := [.arr .int (r.take j ++ [r.getD j 0]) (j + 1) true]) rfl (by simp only [AW7, simprocAttr]; try simp) rfl) ?_
        rw [take_snoc 0 r j (by omega)]
        refine Run.nq ?_; refine Run.regionW hC (fun K hK => ?_); refine wW ?_
        refine FunA.cW hP hT (c_spec_l6Reflect c (r.getD j 0) (imageL c (r.drop j)) hc hil hlet hB') ?_
        rintro rs o ⟨rfl, rfl⟩
        refine wW ?_
        refine wE ?_; clear hK K
        refine Run.RW ?_
        refine Run.le (Le.letgo 1 [(0, true, .sl false (.row false) c), (1, true, .sl true .int (reflL c (r.getD j 0) (imageL c (r.drop j)))), (4, true, .nils), (5, true, .own 0 (j + 1)), (6, true, .int .i64 ((j : Int) + 1))] rfl ?_) ?_
        · exact ⟨.inl rfl, .inr ⟨rfl, rfl⟩, .inl rfl, .inl rfl, .inl rfl, trivial⟩
        simp only [frV_cons, frV_nil, q2]
        refine Run.le ?_ (ih (j + 1, true) hjL (by simp only []; omega))
        exact Le.cut0 hpin [.dead] (by rfl) (by simp only [AW7, simprocAttr]; try simp) rfl
  · intro h
    have h : ¬ (j : Int) ≤ 30 := by simpa using h
    refine Run.exit rfl ?_; refine Run.nq ?_
    refine Run.R ?_
    refine Run.le (Le.re (obs' := [.arr .int r 0 true]) hpin [0] [(4, true, .own 0 0)] rfl (by rw [fin j (by omega)]; simp [leOs, leO_arr, oAt]) (by refine ⟨⟨_, rfl, ?_⟩, trivial⟩; simp [leAV, oAt, genO])) ?_
    simp only [frV_cons, frV_nil]
    refine Run.rW [4] (hfin _ _ rfl rfl ?_)
    exact ⟨rfl, rfl⟩
end Go.Proofs.YtcinngodeoidnaaGreat
