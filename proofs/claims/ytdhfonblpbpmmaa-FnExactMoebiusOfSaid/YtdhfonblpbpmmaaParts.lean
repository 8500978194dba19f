/- Parts at the front and at the end of an element. -/
import Derived.Test.YtdhfonblpbpmmaaWeak
set_option linter.unusedVariables false
set_option linter.unusedSimpArgs false
namespace Go.Proofs.Ytdhfonblpbpmmaa
open Go Go.Aw Go.Cox

theorem Run.join {C : Ctx} {i j : Item} {k : List Item} {σ : St} (σ' : St) (h1 : Run C k σ') (h2 : Run C k σ' → Run C (i :: j :: k) σ) : Run C (i :: j :: k) σ := h2 h1

theorem firstIn_at (v : List Int) : ∀ (s : List Int) (i : Nat), i < s.length → (∀ j, j < i → 0 ≤ v.getD (s.getD j 0).toNat 0) → v.getD (s.getD i 0).toNat 0 < 0 → firstIn v s = s.getD i 0
  | [], i, h, _, _ => by simp at h
  | x :: s, 0, _, _, h => by
    simp only [List.getD_cons_zero] at h
    simp only [firstIn, List.getD_cons_zero]
    rw [if_pos h]
  | x :: s, i + 1, hi, hp, h => by
    have h0 := hp 0 (by omega)
    simp only [List.getD_cons_zero] at h0
    simp only [List.getD_cons_succ] at h ⊢
    simp only [firstIn]
    rw [if_neg (by omega)]
    exact firstIn_at v s i (by simpa using hi) (fun j hj => by have := hp (j + 1) (by omega); simpa only [List.getD_cons_succ] using this) h
theorem firstIn_none (v : List Int) : ∀ (s : List Int), (∀ j, j < s.length → 0 ≤ v.getD (s.getD j 0).toNat 0) → firstIn v s = -1
  | [], _ => rfl
  | x :: s, hp => by
    have h0 := hp 0 (by simp)
    simp only [List.getD_cons_zero] at h0
    simp only [firstIn]
    rw [if_neg (by omega)]
    exact firstIn_none v s (fun j hj => by have := hp (j + 1) (by simpa using hj); simpa only [List.getD_cons_succ] using this)

theorem lp_stop {c : List (List Int)} {s v : List Int} (h : firstIn v s < 0) (f : Nat) : lpL c s f v = ([], v) := by
  cases f with
  | zero => rfl
  | succ f => simp only [lpL]; rw [if_pos h]
theorem lp_step {c : List (List Int)} {s v : List Int} (h : ¬ firstIn v s < 0) (f : Nat) : lpL c s (f + 1) v = (firstIn v s :: (lpL c s f (reflL c (firstIn v s) v)).1, (lpL c s f (reflL c (firstIn v s) v)).2) := by
  simp only [lpL]; rw [if_neg h]

/-- The letters that have been taken off, and what is left. -/
structure LP (c : List (List Int)) (s v0 : List Int) (L : Nat) (a v : List Int) : Prop where
  far : Far c (L - a.length) v
  le : a.length ≤ L
  let_ : letters c.length a
  eq : lpL c s 31 v0 = (a ++ (lpL c s (31 - a.length) v).1, (lpL c s (31 - a.length) v).2)
theorem LP.start {c : List (List Int)} {s v0 : List Int} {L : Nat} (h : Far c L v0) : LP c s v0 L [] v0 := ⟨h, Nat.zero_le _, letters_nil _, rfl⟩
theorem LP.stop {c : List (List Int)} {s v0 a v : List Int} {L : Nat} (h : LP c s v0 L a v) (k : firstIn v s < 0) : lpL c s 31 v0 = (a, v) := by
  rw [h.eq, lp_stop k]; simp
theorem LP.step {c : List (List Int)} (hc : CartanP c) {s v0 a v : List Int} {L : Nat} (hs : letters c.length s) (hL : L ≤ 31) (h : LP c s v0 L a v) (k : ¬ firstIn v s < 0) :
    LP c s v0 L (a ++ [firstIn v s]) (reflL c (firstIn v s) v) ∧ a.length < L ∧ (0 ≤ firstIn v s ∧ firstIn v s < c.length) := by
  rcases firstIn_spec v s hs with ⟨h1, _⟩ | ⟨h1, h2, _, h4⟩
  · omega
  · obtain ⟨M, m1, m2⟩ := h.far.down hc ⟨h1, h2⟩ h4
    have hle := h.le
    refine ⟨⟨?_, by simp; omega, letters_append.2 ⟨h.let_, letters_cons.2 ⟨⟨h1, h2⟩, letters_nil _⟩⟩, ?_⟩, by omega, h1, h2⟩
    · rw [show L - (a ++ [firstIn v s]).length = M by simp; omega]; exact m2
    · rw [h.eq, show 31 - a.length = (31 - (a ++ [firstIn v s]).length) + 1 by simp; omega, lp_step k]
      simp
theorem far_bd {c : List (List Int)} (hc : CartanP c) {M : Nat} {v : List Int} (h : Far c M v) (hM : M ≤ 31) : Bd 9223372036854775807 v := by
  obtain ⟨k1, k2, k3⟩ := nfL_far hc 31 M h hM
  rw [← k3]
  exact (image_bd hc k2 (by omega)).mono (by decide)

noncomputable def leftB (c : List (List Int)) (s w : List Int) : Bool := wordB c w && isSetB c s
noncomputable def leftX (c : List (List Int)) (s w : List Int) : List Int := if leftB c s w then redL c (lpL c s 31 (imageL c w)).1 else []
noncomputable def leftY (c : List (List Int)) (s w : List Int) : List Int := if leftB c s w then nfL c 31 (lpL c s 31 (imageL c w)).2 else []

/-- What the parts at the front come to. -/
theorem lp_word {c : List (List Int)} (hc : CartanP c) {s w : List Int} (hs : setP c.length s) (hw : letters c.length w) (hl : w.length ≤ 31) :
    letters c.length (lpL c s 31 (imageL c w)).1 ∧ (lpL c s 31 (imageL c w)).1.length + (nfL c 31 (lpL c s 31 (imageL c w)).2).length ≤ w.length ∧
    Red c (nfL c 31 (lpL c s 31 (imageL c w)).2) ∧ imageL c (nfL c 31 (lpL c s 31 (imageL c w)).2) = (lpL c s 31 (imageL c w)).2 := by
  obtain ⟨L, h1, h2, h3⟩ := Far.image hc hw
  obtain ⟨k1, k2, M, k3, k4, k5⟩ := lpL_far hc (set_letters hs) 31 L h3 (by omega)
  obtain ⟨m1, m2, m3⟩ := nfL_far hc 31 M k4 (by omega)
  exact ⟨k1, by omega, ⟨m2, by rw [m1, m3]; exact k4⟩, m3⟩
theorem leftX_le (c : List (List Int)) (s w : List Int) : (leftX c s w).length ≤ 15 := by
  unfold leftX
  split
  · rename_i h
    simp only [leftB, Bool.and_eq_true] at h
    obtain ⟨hc, h2, h3⟩ := wordB_iff.1 h.1
    have hs : setP c.length s := by have := h.2; unfold isSetB at this; simp only [Bool.and_eq_true] at this; exact setB_iff.1 this.2
    obtain ⟨k1, k2, _⟩ := lp_word hc hs h3 (by omega)
    have := (red_spec hc k1 (by omega)).2.1
    omega
  · simp
theorem leftY_le (c : List (List Int)) (s w : List Int) : (leftY c s w).length ≤ 15 := by
  unfold leftY
  split
  · rename_i h
    simp only [leftB, Bool.and_eq_true] at h
    obtain ⟨hc, h2, h3⟩ := wordB_iff.1 h.1
    have hs : setP c.length s := by have := h.2; unfold isSetB at this; simp only [Bool.and_eq_true] at this; exact setB_iff.1 this.2
    obtain ⟨k1, k2, _⟩ := lp_word hc hs h3 (by omega)
    omega
  · simp

theorem nf_next {c : List (List Int)} (hc : CartanP c) {i : Int} {v : List Int} {M : Nat} (hv : Far c M v) (hM : M ≤ 31) (hi : 0 ≤ i ∧ i < c.length) :
    redL c (i :: nfL c 31 v) = nfL c 31 (reflL c i v) ∧ letters c.length (i :: nfL c 31 v) ∧ (i :: nfL c 31 v).length = M + 1 := by
  obtain ⟨k1, k2, k3⟩ := nfL_far hc 31 M hv hM
  refine ⟨?_, letters_cons.2 ⟨hi, k2⟩, by simp [k1]⟩
  show nfL c 31 (reflL c i (imageL c (nfL c 31 v))) = _
  rw [k3]

end Go.Proofs.Ytdhfonblpbpmmaa
