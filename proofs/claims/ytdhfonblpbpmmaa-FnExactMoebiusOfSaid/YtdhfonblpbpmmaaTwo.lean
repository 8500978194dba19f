/- Two letters in front of an element: rank two. -/
import Derived.Test.YtdhfonblpbpmmaaMeet
set_option linter.unusedVariables false
set_option linter.unusedSimpArgs false
namespace Go.Proofs.Ytdhfonblpbpmmaa
open Go Go.Aw Go.Cox

/-- Letters fired one after the other. -/
def fireL (c : List (List Int)) : List Nat → List Int → List Int
  | [], v => v
  | i :: l, v => fireL c l (reflL c i v)
theorem fireL_length (c : List (List Int)) : ∀ (l : List Nat) (v : List Int), (fireL c l v).length = v.length
  | [], _ => rfl
  | i :: l, v => by show (fireL c l (reflL c i v)).length = _; rw [fireL_length, reflL_length]
theorem vec_fire {c : List (List Int)} : ∀ (l : List Nat) {v : List Int}, v.length = c.length → vecL (fireL c l v) = run (matA c) l (vecL v)
  | [], _, _ => rfl
  | i :: l, v, hv => by
    show vecL (fireL c l (reflL c i v)) = run (matA c) l (refl (matA c) i (vecL v))
    rw [vec_fire l (by rw [reflL_length, hv]), vec_refl hv, Int.toNat_natCast]
theorem act_fire {c : List (List Int)} (hc : CartanP c) : ∀ (l : List Nat) {v : List Int}, (∀ i ∈ l, i < c.length) → v.length = c.length → actL c (l.map Int.ofNat) (fireL c l v) = v
  | [], _, _, _ => rfl
  | i :: l, v, hl, hv => by
    show reflL c (i : Int) (actL c (l.map Int.ofNat) (fireL c l (reflL c i v))) = v
    have hi := hl i (List.mem_cons_self ..)
    rw [act_fire hc l (fun j hj => hl j (List.mem_cons_of_mem _ hj)) (by rw [reflL_length, hv]), refl2 hc (i := (i : Int)) (by omega) hv]

theorem bond_le (A : Mat) (i j : Nat) : bond A i j ≤ 6 := by
  unfold bond; repeat' split
  all_goals omega

/-- Where two letters are negative, they play their polygon. -/
theorem far_poly {c : List (List Int)} (hc : CartanP c) {i t : Nat} (hi : i < c.length) (ht : t < c.length) (hit : i ≠ t) {L : Nat} {v : List Int} (h : Far c L v) (h1 : v.getD i 0 < 0) (h2 : v.getD t 0 < 0) :
    0 < bond (matA c) i t ∧ ∃ M, L = M + bond (matA c) i t ∧ Far c M (fireL c (alt i t (bond (matA c) i t)) v) := by
  have hA := matA_cartan hc
  obtain ⟨hl, s, hs, rfl⟩ := h
  have hb : bond (matA c) i t ≠ 0 := by
    intro hb
    have h3 : matA c i t < 0 ∧ matA c t i < 0 ∧ 4 ≤ matA c i t * matA c t i := by
      rcases bonds hA hi ht hit with ⟨h1, h2⟩ | ⟨h1, h2⟩ | ⟨h1, h2⟩ | ⟨h1, h2⟩ | ⟨h1, h2⟩ | ⟨h1, h2⟩ | h
      · rw [bond, h1, h2] at hb; simp at hb
      · rw [bond, h1, h2] at hb; simp at hb
      · rw [bond, h1, h2] at hb; simp at hb
      · rw [bond, h1, h2] at hb; simp at hb
      · rw [bond, h1, h2] at hb; simp at hb
      · rw [bond, h1, h2] at hb; simp at hb
      · exact h
    have hpos : 0 < vecL v i * matA c t i := Int.mul_pos_of_neg_of_neg h1 h3.2.1
    have hcc : -(matA c t i) * vecL v i = -(vecL v i * matA c t i) := by grind
    have h2' : vecL v t < 0 := h2
    obtain ⟨x, hx⟩ := endless hA (s.length + 1) hi ht hit h3.1 h3.2.1 h3.2.2 (vecL v) h1 (by rw [hcc]; omega)
    obtain ⟨r, _, hbr⟩ := conv hA _ rfl hs (dom_ones c) hx
    have := hbr.length
    simp [alt_length] at this
    omega
  obtain ⟨r, hr, hbr⟩ := conv hA _ rfl hs (dom_ones c) (polygon hA hi ht hit hb (vecL v) h1 h2)
  have hlen := hbr.length
  simp [alt_length] at hlen
  refine ⟨by omega, r.length, by omega, by rw [fireL_length, hl], r, ?_, rfl⟩
  rw [vec_fire _ hl]
  exact hr

theorem alt_letters {c : List (List Int)} {i t : Nat} (hi : i < c.length) (ht : t < c.length) (m : Nat) : letters c.length ((alt i t m).map Int.ofNat) := by
  intro a ha
  obtain ⟨j, hj, rfl⟩ := List.mem_map.1 ha
  have hj' : j < c.length := by rcases alt_mem hj with rfl | rfl <;> assumption
  show (0 : Int) ≤ (j : Int) ∧ (j : Int) < c.length
  omega

theorem nat_map (l : List Nat) : nat (l.map Int.ofNat) = l := by
  induction l with
  | nil => rfl
  | cons i l ih => show (Int.toNat (Int.ofNat i)) :: nat (l.map Int.ofNat) = _; rw [ih]; rfl

theorem fst_alt {c : List (List Int)} (hc : CartanP c) {i t : Nat} (hi : i < c.length) (ht : t < c.length) {m : Nat} (hm : m ≤ 31) (hm0 : 0 < m) (h : (redL c ((alt i t m).map Int.ofNat)).length = m) : Fst c (redL c ((alt i t m).map Int.ofNat)) i := by
  obtain ⟨k, rfl⟩ : ∃ k, m = k + 1 := ⟨m - 1, by omega⟩
  have hlet := alt_letters hi ht (k + 1)
  have hlen : ((alt i t (k + 1)).map Int.ofNat).length ≤ 31 := by simp [alt_length]; omega
  obtain ⟨a1, a2, a3, a4, a5⟩ := red_spec hc hlet hlen
  show (imageL c _).getD i 0 < 0
  rw [a4]
  have hnz := a5.nz hc i hi
  refine Classical.byContradiction fun hn => ?_
  have h5 := a5.up hc (i := (i : Int)) (by omega) (by simp only [Int.toNat_natCast]; omega)
  have e : reflL c (i : Int) (imageL c ((alt i t (k + 1)).map Int.ofNat)) = imageL c ((alt t i k).map Int.ofNat) :=
    refl2 hc (i := (i : Int)) (by omega) (imageL_length c _)
  rw [e] at h5
  obtain ⟨L, k1, _, k3⟩ := Far.image hc (alt_letters ht hi k)
  have := h5.uniq hc k3
  simp [alt_length] at k1
  omega

theorem two_all {c : List (List Int)} (hc : CartanP c) (i t : Nat) (hi : i < c.length) (ht : t < c.length) (hit : i ≠ t) (hx : ∃ x, Nf c x ∧ Fst c x i ∧ Fst c x t) : ∃ q, Two c i t q := by
  obtain ⟨x, hx, hxi, hxt⟩ := hx
  have hA := matA_cartan hc
  have hb6 := bond_le (matA c) i t
  obtain ⟨hb0, M, hM, hF⟩ := far_poly hc hi ht hit (hx.far hc) hxi hxt
  have hmem : ∀ j ∈ alt i t (bond (matA c) i t), j < c.length := fun j hj => by rcases alt_mem hj with rfl | rfl <;> assumption
  have hlet := alt_letters (c := c) hi ht (bond (matA c) i t)
  have hlen : ((alt i t (bond (matA c) i t)).map Int.ofNat).length ≤ 31 := by simp [alt_length]; omega
  obtain ⟨a1, a2, a3, a4, a5⟩ := red_spec hc hlet hlen
  have key : ∀ y, Nf c y → Fst c y i → Fst c y t → Pre c y (redL c ((alt i t (bond (matA c) i t)).map Int.ofNat)) ∧ (redL c ((alt i t (bond (matA c) i t)).map Int.ofNat)).length = bond (matA c) i t := by
    intro y hy hyi hyt
    obtain ⟨_, M, k1, k2⟩ := far_poly hc hi ht hit (hy.far hc) hyi hyt
    have hM : M ≤ 31 := by have := hy.2.2; omega
    obtain ⟨r1, r2, r3⟩ := nfL_far hc 31 M k2 hM
    have him : imageL c (redL c ((alt i t (bond (matA c) i t)).map Int.ofNat) ++ nfL c 31 (fireL c (alt i t (bond (matA c) i t)) (imageL c y))) = imageL c y := by
      rw [image_same_app hc a1 hlet a4, image_append, r3, act_fire hc _ hmem (imageL_length c y)]
    have hs := hy.short hc (letters_append.2 ⟨a1, r2⟩) him
    simp at hs
    simp [alt_length] at a2
    exact ⟨⟨a1, nf_idem hc hlet hlen, _, r2, him, by omega⟩, by omega⟩
  have hfull := (key x hx hxi hxt).2
  refine ⟨_, fst_alt hc hi ht (by omega) hb0 hfull, ?_, fun y h1 h2 h3 => (key y h1 h2 h3).1⟩
  have e : imageL c ((alt i t (bond (matA c) i t)).map Int.ofNat) = imageL c ((alt t i (bond (matA c) i t)).map Int.ofNat) := by
    apply vec_inj (by rw [imageL_length, imageL_length])
    rw [imageL, imageL, vec_act (ones_length _), vec_act (ones_length _), nat_map, nat_map]
    have := act_br hA (a := alt i t (bond (matA c) i t)) (b := alt t i (bond (matA c) i t)) (by simpa using Br.braid (A := matA c) (n := c.length) i t [] hi ht hit (by omega)) hmem
    exact this _
  rw [red_eq e]
  rw [red_eq e] at hfull
  exact fst_alt hc ht hi (by omega) hb0 hfull

/-- The longest of the common lower bounds lies above them all. -/
theorem meet_top {c : List (List Int)} (hc : CartanP c) {x y z w : List Int} (hx : Nf c x) (hy : Nf c y) (h1 : Pre c x z) (h2 : Pre c y z) (h3 : Pre c x w) (h4 : Pre c y w) (h5 : ∀ u, Pre c x u → Pre c y u → u.length ≤ z.length) : Pre c z w :=
  meet_le hc (two_all hc) _ x y z w rfl hx hy h1 h2 h3 h4 h5
end Go.Proofs.Ytdhfonblpbpmmaa
