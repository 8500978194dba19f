/- Elements: normal forms, inverses, the Bruhat order by subwords, star products: plain laws. -/
import Derived.Test.YtdhfonblpbpmmaaGame
set_option linter.unusedVariables false
set_option linter.unusedSimpArgs false
namespace Go.Proofs.Ytdhfonblpbpmmaa
open Go Go.Aw Go.Cox

def redL (c : List (List Int)) (w : List Int) : List Int := nfL c 31 (imageL c w)

theorem letters_nil (n : Nat) : letters n [] := by simp [letters]
theorem letters_cons {n : Nat} {i : Int} {w : List Int} : letters n (i :: w) ↔ (0 ≤ i ∧ i < n) ∧ letters n w := by simp [letters]
theorem letters_append {n : Nat} {a b : List Int} : letters n (a ++ b) ↔ letters n a ∧ letters n b := by
  simp only [letters, List.mem_append]
  constructor
  · intro h; exact ⟨fun i hi => h i (.inl hi), fun i hi => h i (.inr hi)⟩
  · rintro ⟨h1, h2⟩ i (hi | hi)
    · exact h1 i hi
    · exact h2 i hi
theorem letters_reverse {n : Nat} {a : List Int} (h : letters n a) : letters n a.reverse := fun i hi => h i (by simpa using hi)

theorem red_spec {c : List (List Int)} (hc : CartanP c) {w : List Int} (hw : letters c.length w) (hl : w.length ≤ 31) :
    letters c.length (redL c w) ∧ (redL c w).length ≤ w.length ∧ (redL c w).length % 2 = w.length % 2 ∧ imageL c (redL c w) = imageL c w ∧ Far c (redL c w).length (imageL c w) := by
  obtain ⟨L, h1, h2, h3⟩ := Far.image hc hw
  obtain ⟨k1, k2, k3⟩ := nfL_far hc 31 L h3 (by omega)
  have e : (redL c w).length = L := k1
  exact ⟨k2, by omega, by omega, k3, by rw [e]; exact h3⟩
theorem red_far {c : List (List Int)} (hc : CartanP c) {w : List Int} {L : Nat} (h : Far c L (imageL c w)) (hl : L ≤ 31) : (redL c w).length = L ∧ letters c.length (redL c w) ∧ imageL c (redL c w) = imageL c w := nfL_far hc 31 L h hl
theorem red_eq {c : List (List Int)} {a b : List Int} (h : imageL c a = imageL c b) : redL c a = redL c b := by unfold redL; rw [h]

/-- A reduced word. -/
def Red (c : List (List Int)) (w : List Int) : Prop := letters c.length w ∧ Far c w.length (imageL c w)
theorem red_Red {c : List (List Int)} (hc : CartanP c) {w : List Int} (hw : letters c.length w) (hl : w.length ≤ 31) : Red c (redL c w) := by
  obtain ⟨h1, _, _, h4, h5⟩ := red_spec hc hw hl
  exact ⟨h1, by rw [h4]; exact h5⟩
theorem Red.nil (c : List (List Int)) : Red c [] := ⟨letters_nil _, Far.ones c⟩

theorem image_cons (c : List (List Int)) (i : Int) (w : List Int) : imageL c (i :: w) = reflL c i (imageL c w) := rfl
theorem image_append (c : List (List Int)) (a b : List Int) : imageL c (a ++ b) = actL c a (imageL c b) := actL_append c a b _

theorem refl2 {c : List (List Int)} (hc : CartanP c) {i : Int} (hi : 0 ≤ i ∧ i < c.length) {v : List Int} (hv : v.length = c.length) : reflL c i (reflL c i v) = v := by
  apply vec_inj (by rw [reflL_length, reflL_length])
  rw [vec_refl (by rw [reflL_length, hv]), vec_refl hv, refl_refl ((matA_cartan hc).diag _ (by omega))]

/-- A word and its reverse undo each other. -/
theorem act_rev {c : List (List Int)} (hc : CartanP c) : ∀ (w : List Int), letters c.length w → ∀ {v : List Int}, v.length = c.length → actL c w.reverse (actL c w v) = v
  | [], _, _, _ => rfl
  | i :: w, h, v, hv => by
    rw [List.reverse_cons, actL_append]
    show actL c w.reverse (reflL c i (reflL c i (actL c w v))) = v
    rw [refl2 hc (h i (List.mem_cons_self ..)) (by rw [actL_length, hv])]
    exact act_rev hc w (fun j hj => h j (List.mem_cons_of_mem _ hj)) hv

theorem rev_same {c : List (List Int)} (hc : CartanP c) {a b : List Int} (ha : letters c.length a) (hb : letters c.length b) (h : imageL c a = imageL c b) {v : List Int} (hv : v.length = c.length) :
    actL c a.reverse v = actL c b.reverse v := by
  have h1 := act_rev hc b.reverse (letters_reverse hb) hv
  rw [List.reverse_reverse] at h1
  have h2 : actL c a (actL c b.reverse v) = v := by
    rw [same_elt hc ha hb h (by rw [actL_length, hv])]; exact h1
  have h3 := act_rev hc a ha (v := actL c b.reverse v) (by rw [actL_length, hv])
  rw [h2] at h3
  exact h3

theorem weak_same {c : List (List Int)} (hc : CartanP c) {u v x y : List Int} (hu : letters c.length u) (hx : letters c.length x) (h1 : imageL c u = imageL c x) (h2 : imageL c v = imageL c y) :
    redL c (u.reverse ++ v) = redL c (x.reverse ++ y) := by
  apply red_eq
  rw [image_append, image_append, h2]
  exact rev_same hc hu hx h1 (imageL_length c y)

/-! ### The Bruhat order -/

def belV (c : List (List Int)) : List Int → List Int → List Int
  | x, [] => x
  | x, i :: r => if x.getD i.toNat 0 < 0 then belV c (reflL c i x) r else belV c x r
def belB (c : List (List Int)) (x w : List Int) : Bool := decide (fstN (belV c x w) < 0)

theorem far_bel {c : List (List Int)} (hc : CartanP c) : ∀ (w : List Int) {x : List Int} {L : Nat}, letters c.length w → Far c L x → ∃ M, Far c M (belV c x w) ∧ L ≤ M + w.length
  | [], x, L, _, h => ⟨L, h, by simp⟩
  | i :: r, x, L, hw, h => by
    obtain ⟨hi, hr⟩ := letters_cons.1 hw
    simp only [belV]
    split
    · rename_i hx
      obtain ⟨M, h1, h2⟩ := h.down hc hi hx
      obtain ⟨N, h3, h4⟩ := far_bel hc r hr h2
      exact ⟨N, h3, by simp; omega⟩
    · obtain ⟨N, h3, h4⟩ := far_bel hc r hr h
      exact ⟨N, h3, by simp; omega⟩

theorem fst_zero {c : List (List Int)} (hc : CartanP c) {L : Nat} {v : List Int} (h : Far c L v) : fstN v < 0 ↔ L = 0 := by
  rcases fst_of_far hc h with ⟨h1, h2⟩ | ⟨h1, _, _, M, h4, _⟩
  · constructor
    · intro _; exact h2
    · intro _; omega
  · constructor
    · intro h; omega
    · intro h; omega

/-- The reference's recursion. -/
def l15 (c : List (List Int)) : List Int → List Int → Bool
  | u, [] => decide (u.length = 0)
  | u, i :: r => if r.length + 1 < u.length then decide (u.length = 0) else if (imageL c u).getD i.toNat 0 < 0 then l15 c (redL c (i :: u)) r else l15 c u r

theorem l15_bel {c : List (List Int)} (hc : CartanP c) : ∀ (w : List Int) {u : List Int}, letters c.length w → Red c u → u.length ≤ 30 → l15 c u w = belB c (imageL c u) w
  | [], u, _, hu, _ => by
    show decide (u.length = 0) = decide (fstN (imageL c u) < 0)
    rw [Bool.eq_iff_iff, decide_eq_true_iff, decide_eq_true_iff]
    exact (fst_zero hc hu.2).symm
  | i :: r, u, hw, hu, hl => by
    obtain ⟨hi, hr⟩ := letters_cons.1 hw
    simp only [l15]
    split
    · rename_i hlt
      obtain ⟨M, h1, h2⟩ := far_bel hc (i :: r) hw hu.2
      have h3 := fst_zero hc h1
      simp only [List.length_cons] at h2
      have h4 : ¬ u.length = 0 := by omega
      have h5 : ¬ fstN (belV c (imageL c u) (i :: r)) < 0 := by rw [h3]; omega
      simp [belB, h4, h5]
    · split
      · rename_i _ hx
        obtain ⟨M, h1, h2⟩ := hu.2.down hc hi hx
        obtain ⟨k1, k2, k3⟩ := red_far hc (w := i :: u) (L := M) h2 (by omega)
        have k4 : Red c (redL c (i :: u)) := ⟨k2, by rw [k1, k3]; exact h2⟩
        rw [l15_bel hc r hr k4 (by omega), k3]
        simp only [belB, belV, if_pos hx]
        rfl
      · rename_i _ hx
        rw [l15_bel hc r hr hu hl]
        simp only [belB, belV, if_neg hx]

/-- The places of the letters that are used. -/
def subL (c : List (List Int)) : List Int → List Int → Int → List Int
  | _, [], _ => []
  | x, i :: r, k => if x.getD i.toNat 0 < 0 then k :: subL c (reflL c i x) r (k + 1) else subL c x r (k + 1)

/-! ### Star products -/

def starL (c : List (List Int)) (out : List Int) (i : Int) : List Int := if (redL c (out ++ [i])).length < out.length then out else redL c (out ++ [i])
def starS (c : List (List Int)) (out : List Int) (i : Int) : List Int := if out.length < (redL c (out ++ [i])).length then redL c (out ++ [i]) else out
def starW (c : List (List Int)) (out w : List Int) : List Int := w.foldl (starL c) out

theorem star_snoc {c : List (List Int)} (hc : CartanP c) {out : List Int} (ho : Red c out) (hl : out.length ≤ 30) {i : Int} (hi : 0 ≤ i ∧ i < c.length) :
    (redL c (out ++ [i])).length ≠ out.length ∧ (redL c (out ++ [i])).length ≤ out.length + 1 ∧ Red c (redL c (out ++ [i])) := by
  have hw : letters c.length (out ++ [i]) := letters_append.2 ⟨ho.1, by simpa [letters] using hi⟩
  obtain ⟨h1, h2, h3, h4, h5⟩ := red_spec hc hw (by simp; omega)
  simp at h2 h3
  exact ⟨by omega, h2, red_Red hc hw (by simp; omega)⟩
theorem starS_eq {c : List (List Int)} (hc : CartanP c) {out : List Int} (ho : Red c out) (hl : out.length ≤ 30) {i : Int} (hi : 0 ≤ i ∧ i < c.length) : starS c out i = starL c out i := by
  obtain ⟨h1, _⟩ := star_snoc hc ho hl hi
  unfold starS starL
  split <;> split <;> first | rfl | omega
theorem starL_Red {c : List (List Int)} (hc : CartanP c) {out : List Int} (ho : Red c out) (hl : out.length ≤ 30) {i : Int} (hi : 0 ≤ i ∧ i < c.length) : Red c (starL c out i) ∧ (starL c out i).length ≤ out.length + 1 ∧ out.length ≤ (starL c out i).length := by
  obtain ⟨_, h2, h3⟩ := star_snoc hc ho hl hi
  unfold starL
  split
  · exact ⟨ho, by omega, Nat.le_refl _⟩
  · exact ⟨h3, h2, by omega⟩
theorem starW_snoc (c : List (List Int)) (out w : List Int) (i : Int) : starW c out (w ++ [i]) = starL c (starW c out w) i := by simp [starW]
theorem starW_Red {c : List (List Int)} (hc : CartanP c) : ∀ (w : List Int) {out : List Int}, letters c.length w → Red c out → out.length + w.length ≤ 31 → Red c (starW c out w) ∧ (starW c out w).length ≤ out.length + w.length ∧ out.length ≤ (starW c out w).length
  | [], out, _, ho, _ => ⟨ho, by simp [starW], by simp [starW]⟩
  | i :: w, out, hw, ho, hl => by
    obtain ⟨hi, hr⟩ := letters_cons.1 hw
    simp at hl
    obtain ⟨h1, h2, h3⟩ := starL_Red hc ho (by omega) hi
    obtain ⟨k1, k2, k3⟩ := starW_Red hc w hr h1 (by omega)
    refine ⟨k1, ?_, ?_⟩
    · show (starW c (starL c out i) w).length ≤ _
      simp; omega
    · show _ ≤ (starW c (starL c out i) w).length
      omega

/-! ### Parts at the front -/

/-- The first letter of a list at which a vector is negative, or -1. -/
def firstIn (v : List Int) : List Int → Int
  | [] => -1
  | i :: s => if v.getD i.toNat 0 < 0 then i else firstIn v s
theorem firstIn_spec {n : Nat} (v : List Int) : ∀ (s : List Int), letters n s → (firstIn v s = -1 ∧ ∀ i ∈ s, 0 ≤ v.getD i.toNat 0) ∨ (0 ≤ firstIn v s ∧ firstIn v s < n ∧ firstIn v s ∈ s ∧ v.getD (firstIn v s).toNat 0 < 0)
  | [], _ => .inl ⟨rfl, by simp⟩
  | i :: s, h => by
    obtain ⟨hi, hs⟩ := letters_cons.1 h
    simp only [firstIn]
    split
    · rename_i hx
      exact .inr ⟨hi.1, hi.2, List.mem_cons_self .., hx⟩
    · rename_i hx
      rcases firstIn_spec v s hs with ⟨h1, h2⟩ | ⟨h1, h2, h3, h4⟩
      · exact .inl ⟨h1, fun j hj => by rcases List.mem_cons.1 hj with rfl | hj; omega; exact h2 j hj⟩
      · exact .inr ⟨h1, h2, List.mem_cons_of_mem _ h3, h4⟩

/-- Letters of a set are taken off the front: the letters, and what is left. -/
def lpL (c : List (List Int)) (s : List Int) : Nat → List Int → List Int × List Int
  | 0, v => ([], v)
  | f + 1, v => if firstIn v s < 0 then ([], v) else ((firstIn v s) :: (lpL c s f (reflL c (firstIn v s) v)).1, (lpL c s f (reflL c (firstIn v s) v)).2)

theorem lpL_far {c : List (List Int)} (hc : CartanP c) {s : List Int} (hs : letters c.length s) : ∀ (f L : Nat) {v : List Int}, Far c L v → L ≤ f → letters c.length (lpL c s f v).1 ∧ firstIn (lpL c s f v).2 s < 0 ∧ ∃ M, L = M + (lpL c s f v).1.length ∧ Far c M (lpL c s f v).2 ∧ actL c (lpL c s f v).1 (lpL c s f v).2 = v
  | 0, L, v, h, hf => by
    have h0 : L = 0 := by omega
    subst h0
    refine ⟨letters_nil _, ?_, 0, rfl, h, rfl⟩
    rcases firstIn_spec v s hs with ⟨h1, _⟩ | ⟨h1, h2, _, h4⟩
    · show firstIn v s < 0; omega
    · obtain ⟨M, h5, _⟩ := h.down hc ⟨h1, h2⟩ h4
      omega
  | f + 1, L, v, h, hf => by
    simp only [lpL]
    rcases firstIn_spec v s hs with ⟨h1, _⟩ | ⟨h1, h2, _, h4⟩
    · rw [if_pos (by omega)]
      exact ⟨letters_nil _, by show firstIn v s < 0; omega, L, rfl, h, rfl⟩
    · rw [if_neg (by omega)]
      obtain ⟨M, h5, h6⟩ := h.down hc ⟨h1, h2⟩ h4
      obtain ⟨k1, k2, N, k3, k4, k5⟩ := lpL_far hc hs f M h6 (by omega)
      refine ⟨letters_cons.2 ⟨⟨h1, h2⟩, k1⟩, k2, N, by simp; omega, k4, ?_⟩
      show reflL c (firstIn v s) (actL c _ _) = v
      rw [k5, refl2 hc ⟨h1, h2⟩ h.1]
theorem lpL_more {c : List (List Int)} (hc : CartanP c) {s : List Int} (hs : letters c.length s) : ∀ (f g L : Nat) {v : List Int}, Far c L v → L ≤ f → L ≤ g → lpL c s f v = lpL c s g v := by
  intro f
  induction f with
  | zero =>
    intro g L v h hf hg
    cases g with
    | zero => rfl
    | succ g =>
      simp only [lpL]
      rcases firstIn_spec v s hs with ⟨h1, _⟩ | ⟨h1, h2, _, h4⟩
      · rw [if_pos (by omega)]
      · obtain ⟨M, h5, _⟩ := h.down hc ⟨h1, h2⟩ h4; omega
  | succ f ih =>
    intro g L v h hf hg
    rcases firstIn_spec v s hs with ⟨h1, _⟩ | ⟨h1, h2, _, h4⟩
    · cases g with
      | zero => simp only [lpL]; rw [if_pos (by omega)]
      | succ g => simp only [lpL]; rw [if_pos (by omega), if_pos (by omega)]
    · obtain ⟨M, h5, h6⟩ := h.down hc ⟨h1, h2⟩ h4
      cases g with
      | zero => omega
      | succ g => simp only [lpL]; rw [if_neg (by omega), if_neg (by omega), ih g M h6 (by omega) (by omega)]

end Go.Proofs.Ytdhfonblpbpmmaa
