/- Meets in the weak order: plain laws. -/
import Derived.Test.YtdhfonblpbpmmaaPref3
set_option linter.unusedVariables false
set_option linter.unusedSimpArgs false
namespace Go.Proofs.Ytdhfonblpbpmmaa
open Go Go.Aw Go.Cox

/-- A letter that may be taken off in front. -/
def Fst (c : List (List Int)) (x : List Int) (i : Nat) : Prop := (imageL c x).getD i 0 < 0
theorem front {c : List (List Int)} (hc : CartanP c) {x : List Int} (hx : Nf c x) {i : Nat} (hi : i < c.length) (h : Fst c x i) : Nf c (redL c ((i : Int) :: x)) ∧ (redL c ((i : Int) :: x)).length + 1 = x.length ∧ imageL c (redL c ((i : Int) :: x)) = reflL c i (imageL c x) := by
  have hlet : letters c.length ((i : Int) :: x) := letters_cons.2 ⟨by omega, hx.1⟩
  have hlen : ((i : Int) :: x).length ≤ 31 := by have := hx.2.2; simp; omega
  obtain ⟨a1, a2, a3, a4, a5⟩ := red_spec hc hlet hlen
  obtain ⟨M, hM, hF⟩ := (hx.far hc).down hc (i := (i : Int)) (by omega) h
  have hL : (redL c ((i : Int) :: x)).length = M := by
    rw [image_cons] at a5
    exact a5.uniq hc hF
  exact ⟨nf_red hc hlet hlen (by have := hx.2.2; omega), by omega, by rw [a4, image_cons]⟩

theorem refl_at {c : List (List Int)} (hc : CartanP c) {i : Nat} (hi : i < c.length) {v : List Int} (hv : v.length = c.length) : (reflL c i v).getD i 0 = - v.getD i 0 := by
  have d : ent c i i = 2 := (matA_cartan hc).diag i hi
  have g := reflL_get c (i : Int) v i (by omega)
  rw [Int.toNat_natCast, d] at g
  omega
theorem fst_or {c : List (List Int)} (hc : CartanP c) {x : List Int} (hx : Nf c x) {i : Nat} (hi : i < c.length) : Fst c x i ∨ Far c (x.length + 1) (reflL c i (imageL c x)) := by
  have hz := (hx.far hc).nz hc i hi
  by_cases h : (imageL c x).getD i 0 < 0
  · exact .inl h
  · exact .inr ((hx.far hc).up hc (i := (i : Int)) (by omega) (by simp only [Int.toNat_natCast]; omega))
theorem front_down {c : List (List Int)} (hc : CartanP c) {x z : List Int} (hx : Nf c x) (hz : Pre c x z) {i : Nat} (hi : i < c.length) (h : Fst c z i) : Fst c x i ∧ Pre c (redL c ((i : Int) :: x)) (redL c ((i : Int) :: z)) := by
  have hnz := hz.nf hx
  obtain ⟨n1, n2, n3⟩ := front hc hnz hi h
  obtain ⟨h1, h2, v, h3, h4, h5⟩ := hz
  have him : imageL c (redL c ((i : Int) :: z) ++ v) = reflL c i (imageL c x) := by
    rw [image_same_app hc n1.1 (letters_cons.2 ⟨by omega, h1⟩ : letters c.length ((i : Int) :: z)) (by rw [n3, image_cons]) v]
    show reflL c i (imageL c (z ++ v)) = _
    rw [h4]
  have hlv : letters c.length (redL c ((i : Int) :: z) ++ v) := letters_append.2 ⟨n1.1, h3⟩
  have hfx : Fst c x i := by
    rcases fst_or hc hx hi with h6 | h6
    · exact h6
    · obtain ⟨L, k1, _, k3⟩ := Far.image hc hlv
      rw [him] at k3
      have := h6.uniq hc k3
      simp at k1
      omega
  obtain ⟨m1, m2, m3⟩ := front hc hx hi hfx
  exact ⟨hfx, n1.1, n1.2.1, v, h3, by rw [him, m3], by omega⟩
theorem front_up {c : List (List Int)} (hc : CartanP c) {x z : List Int} (hx : Nf c x) {i : Nat} (hi : i < c.length) (h : Fst c x i) (hz : Pre c (redL c ((i : Int) :: x)) z) :
    Pre c x (redL c ((i : Int) :: z)) ∧ (redL c ((i : Int) :: z)).length = z.length + 1 ∧ Fst c (redL c ((i : Int) :: z)) i ∧ redL c ((i : Int) :: redL c ((i : Int) :: z)) = z := by
  obtain ⟨m1, m2, m3⟩ := front hc hx hi h
  have hnz := hz.nf m1
  obtain ⟨h1, h2, v, h3, h4, h5⟩ := hz
  have hlet : letters c.length ((i : Int) :: z) := letters_cons.2 ⟨by omega, h1⟩
  have hzl : ((i : Int) :: z).length ≤ 31 := by have := hnz.2.2; simp; omega
  obtain ⟨a1, a2, a3, a4, a5⟩ := red_spec hc hlet hzl
  have him : imageL c (redL c ((i : Int) :: z) ++ v) = imageL c x := by
    rw [image_same_app hc a1 hlet a4 v]
    show reflL c i (imageL c (z ++ v)) = _
    rw [h4, m3, refl2 hc (i := (i : Int)) (by omega) (imageL_length c _)]
  have hs := hx.short hc (letters_append.2 ⟨a1, h3⟩) him
  simp at hs a2
  have hlen : (redL c ((i : Int) :: z)).length = z.length + 1 := by omega
  have hback : imageL c ((i : Int) :: redL c ((i : Int) :: z)) = imageL c z := by
    rw [image_cons, a4, image_cons, refl2 hc (i := (i : Int)) (by omega) (imageL_length c _)]
  refine ⟨⟨a1, nf_idem hc hlet hzl, v, h3, him, by omega⟩, hlen, ?_, by rw [red_eq hback]; exact h2⟩
  show (imageL c (redL c ((i : Int) :: z))).getD i 0 < 0
  rw [a4, image_cons, refl_at hc hi (imageL_length c _)]
  rcases fst_or hc hnz hi with h6 | h6
  · obtain ⟨_, q2, q3⟩ := front hc hnz hi h6
    omega
  · have hp := (hnz.far hc).nz hc i hi
    by_cases h7 : (imageL c z).getD i 0 < 0
    · obtain ⟨_, q2, q3⟩ := front hc hnz hi h7
      omega
    · omega

/-- An element that begins with two letters, and lies below all that do. -/
def Two (c : List (List Int)) (i t : Nat) (q : List Int) : Prop := Fst c q i ∧ Fst c q t ∧ ∀ x, Nf c x → Fst c x i → Fst c x t → Pre c x q
theorem first_of {c : List (List Int)} (hc : CartanP c) {x : List Int} (hx : Nf c x) (hne : x ≠ []) : ∃ i, i < c.length ∧ Fst c x i := by
  cases x with
  | nil => exact (hne rfl).elim
  | cons a x =>
    obtain ⟨h1, h2⟩ := letters_cons.1 hx.1
    have ha : ((a.toNat : Nat) : Int) = a := by omega
    refine ⟨a.toNat, by omega, ?_⟩
    rcases fst_or hc hx (i := a.toNat) (by omega) with h | h
    · exact h
    · exfalso
      have e : reflL c (a.toNat : Nat) (imageL c (a :: x)) = imageL c x := by
        rw [ha, image_cons]; exact refl2 hc h1 (imageL_length c _)
      rw [e] at h
      obtain ⟨L, k1, _, k3⟩ := Far.image hc h2
      have := h.uniq hc k3
      simp at this
      omega
/-- The longest of the common lower bounds lies above them all. -/
theorem meet_le {c : List (List Int)} (hc : CartanP c) (h2 : ∀ i t, i < c.length → t < c.length → i ≠ t → (∃ x, Nf c x ∧ Fst c x i ∧ Fst c x t) → ∃ q, Two c i t q) :
    ∀ (n : Nat) (x y z w : List Int), x.length = n → Nf c x → Nf c y → Pre c x z → Pre c y z → Pre c x w → Pre c y w → (∀ u, Pre c x u → Pre c y u → u.length ≤ z.length) → Pre c z w := by
  intro n
  induction n with
  | zero =>
    intro x y z w hn hx hy hz _ hw _ _
    obtain ⟨_, _, v, _, _, h5⟩ := hw
    have : w = [] := List.eq_nil_of_length_eq_zero (by omega)
    rw [this]; exact Pre.nil hc (hz.nf hx)
  | succ n ih =>
    intro x y z w hn hx hy hxz hyz hxw hyw hmax
    have hnz := hxz.nf hx
    -- both begin with one letter
    have same : ∀ (i : Nat) (w : List Int), i < c.length → Pre c x w → Pre c y w → Fst c z i → Fst c w i → Pre c z w := by
      intro i w hi hxw hyw hzi hwi
      have hnw := hxw.nf hx
      obtain ⟨f1, g1⟩ := front_down hc hx hxz hi hzi
      obtain ⟨_, g2⟩ := front_down hc hy hyz hi hzi
      obtain ⟨_, g3⟩ := front_down hc hx hxw hi hwi
      obtain ⟨f2, g4⟩ := front_down hc hy hyw hi hwi
      obtain ⟨m1, m2, _⟩ := front hc hx hi f1
      obtain ⟨m3, m4, _⟩ := front hc hy hi f2
      obtain ⟨m5, m6, m7⟩ := front hc hnz hi hzi
      obtain ⟨m8, m9, m10⟩ := front hc hnw hi hwi
      have key := ih _ _ _ _ (by omega) m1 m3 g1 g2 g3 g4 (fun u hu1 hu2 => by
        obtain ⟨p1, p2, _⟩ := front_up hc hx hi f1 hu1
        obtain ⟨p3, _⟩ := front_up hc hy hi f2 hu2
        have := hmax _ p1 p3
        omega)
      obtain ⟨p1, _⟩ := front_up hc hnz hi hzi key
      have e : redL c ((i : Int) :: redL c ((i : Int) :: w)) = w := by
        have : imageL c ((i : Int) :: redL c ((i : Int) :: w)) = imageL c w := by
          rw [image_cons, m10, refl2 hc (i := (i : Int)) (by omega) (imageL_length c _)]
        rw [red_eq this]; exact hnw.2.1
      rwa [e] at p1
    by_cases hw0 : w = []
    · rw [hw0]; exact Pre.nil hc hnz
    have hnw := hxw.nf hx
    obtain ⟨i, hi, hwi⟩ := first_of hc hnw hw0
    rcases fst_or hc hnz hi with hzi | hzi
    · exact same i w hi hxw hyw hzi hwi
    by_cases hzi2 : Fst c z i
    · exact same i w hi hxw hyw hzi2 hwi
    exfalso
    have hz0 : z ≠ [] := fun e => by
      have := hmax w hxw hyw
      rw [e] at this
      exact hw0 (List.eq_nil_of_length_eq_zero (by simpa using this))
    obtain ⟨t, ht, hzt⟩ := first_of hc hnz hz0
    have hit : i ≠ t := fun e => hzi2 (e ▸ hzt)
    have x1 := (front_down hc hx hxw hi hwi).1
    have x2 := (front_down hc hx hxz ht hzt).1
    have y1 := (front_down hc hy hyw hi hwi).1
    have y2 := (front_down hc hy hyz ht hzt).1
    obtain ⟨q, q1, q2, q3⟩ := h2 i t hi ht hit ⟨x, hx, x1, x2⟩
    have hzq := same t q ht (q3 x hx x1 x2) (q3 y hy y1 y2) hzt q2
    exact hzi2 (front_down hc hnz hzq hi q1).1
end Go.Proofs.Ytdhfonblpbpmmaa
