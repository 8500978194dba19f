/- The elements below an element in the weak order: plain laws. -/
import Derived.Test.YtdhfonblpbpmmaaCov
import Derived.Test.YtdhfonblpbpmmaaWeak
set_option linter.unusedVariables false
set_option linter.unusedSimpArgs false
namespace Go.Proofs.Ytdhfonblpbpmmaa
open Go Go.Aw Go.Cox

/-- z is a normal form that begins a shortest word of x. -/
def Pre (c : List (List Int)) (x z : List Int) : Prop := letters c.length z ∧ redL c z = z ∧ ∃ v, letters c.length v ∧ imageL c (z ++ v) = imageL c x ∧ z.length + v.length = x.length
/-- A normal form of at most 30 letters. -/
def Nf (c : List (List Int)) (x : List Int) : Prop := letters c.length x ∧ redL c x = x ∧ x.length ≤ 30

theorem nf_idem {c : List (List Int)} (hc : CartanP c) {w : List Int} (hw : letters c.length w) (hl : w.length ≤ 31) : redL c (redL c w) = redL c w := red_eq (red_spec hc hw hl).2.2.2.1
theorem Nf.red {c : List (List Int)} (hc : CartanP c) {x : List Int} (h : Nf c x) : Red c x := by
  have := red_Red hc h.1 (by have := h.2.2; omega)
  rwa [h.2.1] at this
theorem Nf.far {c : List (List Int)} (hc : CartanP c) {x : List Int} (h : Nf c x) : Far c x.length (imageL c x) := (h.red hc).2
/-- No word of an element is shorter. -/
theorem Nf.short {c : List (List Int)} (hc : CartanP c) {x : List Int} (h : Nf c x) {u : List Int} (hu : letters c.length u) (he : imageL c u = imageL c x) : x.length ≤ u.length := by
  obtain ⟨L, h1, _, h3⟩ := Far.image hc hu
  rw [he] at h3
  have := (h.far hc).uniq hc h3
  omega
theorem Pre.nf {c : List (List Int)} {x z : List Int} (hx : Nf c x) (h : Pre c x z) : Nf c z := by
  obtain ⟨h1, h2, v, h3, h4, h5⟩ := h
  exact ⟨h1, h2, by have := hx.2.2; omega⟩
theorem Pre.refl {c : List (List Int)} {x : List Int} (hx : Nf c x) : Pre c x x := ⟨hx.1, hx.2.1, [], letters_nil _, by rw [List.append_nil], by simp⟩
theorem nf_red {c : List (List Int)} (hc : CartanP c) {u : List Int} (hu : letters c.length u) (hl : u.length ≤ 31) (hr : (redL c u).length ≤ 30) : Nf c (redL c u) :=
  ⟨(red_spec hc hu hl).1, nf_idem hc hu hl, hr⟩
theorem letter1 {n : Nat} {i : Nat} (h : i < n) : letters n [(i : Int)] := letters_cons.2 ⟨by omega, letters_nil _⟩
theorem image_same_app {c : List (List Int)} (hc : CartanP c) {a b : List Int} (ha : letters c.length a) (hb : letters c.length b) (h : imageL c a = imageL c b) (t : List Int) : imageL c (a ++ t) = imageL c (b ++ t) := by
  rw [image_append, image_append]; exact same_elt hc ha hb h (imageL_length c _)
theorem image_two {c : List (List Int)} (hc : CartanP c) (y : List Int) {i : Nat} (hi : i < c.length) (t : List Int) : imageL c (y ++ [(i : Int)] ++ ((i : Int) :: t)) = imageL c (y ++ t) := by
  rw [List.append_assoc, image_append, image_append]
  show actL c y (reflL c i (reflL c i (imageL c t))) = _
  rw [refl2 hc (i := (i : Int)) (by omega) (imageL_length c _)]
  exact (image_append c y t).symm
/-- One letter down. -/
theorem Pre.down {c : List (List Int)} (hc : CartanP c) {x y : List Int} (hx : Nf c x) (hy : Pre c x y) {i : Nat} (hi : i < c.length) (hlt : (redL c (y ++ [(i : Int)])).length < y.length) : Pre c x (redL c (y ++ [(i : Int)])) := by
  have hny := hy.nf hx
  obtain ⟨h1, h2, v, h3, h4, h5⟩ := hy
  have hl : letters c.length (y ++ [(i : Int)]) := letters_append.2 ⟨h1, letter1 hi⟩
  have hlen : (y ++ [(i : Int)]).length ≤ 31 := by have := hny.2.2; simp; omega
  obtain ⟨a1, a2, a3, a4, a5⟩ := red_spec hc hl hlen
  have hvi : letters c.length ((i : Int) :: v) := letters_cons.2 ⟨by omega, h3⟩
  have him : imageL c (redL c (y ++ [(i : Int)]) ++ ((i : Int) :: v)) = imageL c x := by
    rw [image_same_app hc a1 hl a4, image_two hc y hi, h4]
  have hs := hx.short hc (letters_append.2 ⟨a1, hvi⟩) him
  simp at hs a3
  refine ⟨a1, nf_idem hc hl hlen, (i : Int) :: v, hvi, him, ?_⟩
  simp
  omega
/-- All that lie below are found from above. -/
theorem Pre.all_down {c : List (List Int)} (hc : CartanP c) {x : List Int} (hx : Nf c x) {L : List (List Int)} (hL : ∀ y ∈ L, Pre c x y) (hc2 : ∀ y ∈ L, ∀ i, i < c.length → (redL c (y ++ [(i : Int)])).length < y.length → redL c (y ++ [(i : Int)]) ∈ L) :
    ∀ (n : Nat) (y z v : List Int), y ∈ L → letters c.length z → redL c z = z → letters c.length v → imageL c (z ++ v) = imageL c y → z.length + v.length = y.length → v.length = n → z ∈ L := by
  intro n
  induction n with
  | zero =>
    intro y z v hy h1 h2 h3 h4 h5 h6
    have hv : v = [] := List.eq_nil_of_length_eq_zero h6
    subst hv
    rw [List.append_nil] at h4
    have e : redL c z = redL c y := red_eq h4
    rw [h2, ((hL y hy).nf hx).2.1] at e
    rw [e]; exact hy
  | succ n ih =>
    intro y z v hy h1 h2 h3 h4 h5 h6
    have hny := (hL y hy).nf hx
    obtain ⟨v', b, rfl⟩ : ∃ v' b, v = v' ++ [b] := ⟨v.dropLast, v.getLast (by intro e; rw [e] at h6; simp at h6), (List.dropLast_concat_getLast _).symm⟩
    obtain ⟨l1, l2⟩ := letters_append.1 h3
    obtain ⟨hb, _⟩ := letters_cons.1 l2
    have hbn : ((b.toNat : Nat) : Int) = b := by omega
    have hbl : b.toNat < c.length := by omega
    have hl : letters c.length (y ++ [b]) := letters_append.2 ⟨hny.1, l2⟩
    have hlen : (y ++ [b]).length ≤ 31 := by have := hny.2.2; simp; omega
    obtain ⟨a1, a2, a3, a4, a5⟩ := red_spec hc hl hlen
    have hzv : letters c.length (z ++ v') := letters_append.2 ⟨h1, l1⟩
    have him : imageL c (y ++ [b]) = imageL c (z ++ v') := by
      rw [← image_same_app hc (letters_append.2 ⟨h1, h3⟩) hny.1 h4 [b]]
      have := image_two hc (z ++ v') hbl []
      rw [hbn, List.append_nil] at this
      rw [← this]
      simp
    have hshort : (redL c (y ++ [b])).length ≤ (z ++ v').length := by
      obtain ⟨L2, k1, _, k3⟩ := Far.image hc hzv
      rw [← him] at k3
      have := a5.uniq hc k3
      omega
    simp at h5 h6 hshort
    have hin : redL c (y ++ [b]) ∈ L := by
      have := hc2 y hy b.toNat hbl
      rw [hbn] at this
      exact this (by omega)
    have hs := hny.short hc (letters_append.2 ⟨a1, l2⟩) (by
      rw [image_same_app hc a1 hl a4 [b]]
      have := image_two hc y hbl []
      rw [hbn, List.append_nil] at this
      exact this)
    simp at hs
    exact ih _ z v' hin h1 h2 l1 (by rw [a4, him]) (by omega) (by omega)
theorem Pre.mem_down {c : List (List Int)} (hc : CartanP c) {x : List Int} (hx : Nf c x) {L : List (List Int)} (hL : ∀ y ∈ L, Pre c x y) (hxL : x ∈ L) (hc2 : ∀ y ∈ L, ∀ i, i < c.length → (redL c (y ++ [(i : Int)])).length < y.length → redL c (y ++ [(i : Int)]) ∈ L) (z : List Int) : z ∈ L ↔ Pre c x z := by
  refine ⟨hL z, fun ⟨h1, h2, v, h3, h4, h5⟩ => ?_⟩
  exact Pre.all_down hc hx hL hc2 _ x z v hxL h1 h2 h3 h4 h5 rfl

theorem red_of_nil {c : List (List Int)} (hc : CartanP c) : redL c [] = [] := by
  have := (red_spec hc (letters_nil c.length) (by simp)).2.1
  exact List.eq_nil_of_length_eq_zero (by simpa using this)
theorem Pre.nil {c : List (List Int)} (hc : CartanP c) {x : List Int} (hx : Nf c x) : Pre c x [] := ⟨letters_nil _, red_of_nil hc, x, hx.1, rfl, by simp⟩
/-- What the reference tells, of normal forms. -/
theorem wkB_pre {c : List (List Int)} (hc : CartanP c) {x l : List Int} (hx : Nf c x) (hx15 : x.length ≤ 15) (hl : Nf c l) (hl15 : l.length ≤ 15) : wkB c l x = true ↔ Pre c x l := by
  have hW1 : wordB c l = true := wordB_iff.2 ⟨hc, hl15, hl.1⟩
  have hW2 : wordB c x = true := wordB_iff.2 ⟨hc, hx15, hx.1⟩
  have hrl := letters_reverse hl.1
  have hlx : letters c.length (l.reverse ++ x) := letters_append.2 ⟨hrl, hx.1⟩
  have hlen : (l.reverse ++ x).length ≤ 31 := by simp; omega
  obtain ⟨a1, a2, a3, a4, a5⟩ := red_spec hc hlx hlen
  have hback : imageL c (l ++ redL c (l.reverse ++ x)) = imageL c x := by
    rw [image_append, a4, image_append]
    have := act_rev hc l.reverse hrl (v := imageL c x) (imageL_length c _)
    rw [List.reverse_reverse] at this
    exact this
  unfold wkB
  rw [hW1, hW2, hl.2.1, hx.2.1]
  simp only [Bool.true_and, decide_eq_true_eq]
  constructor
  · intro h
    exact ⟨hl.1, hl.2.1, _, a1, hback, h⟩
  · rintro ⟨h1, h2, v, h3, h4, h5⟩
    have hs := hx.short hc (letters_append.2 ⟨hl.1, a1⟩) hback
    have hv : imageL c (l.reverse ++ x) = imageL c v := by
      rw [image_append, ← h4, image_append]
      exact act_rev hc l hl.1 (imageL_length c _)
    obtain ⟨L, k1, _, k3⟩ := Far.image hc h3
    rw [← hv] at k3
    have := a5.uniq hc k3
    simp at hs
    omega
/-- All that lie below are found from below. -/
theorem Pre.all_up {c : List (List Int)} (hc : CartanP c) {x : List Int} (hx : Nf c x) {L : List (List Int)} (h0 : [] ∈ L) (hc2 : ∀ y ∈ L, ∀ i, i < c.length → y.length < (redL c (y ++ [(i : Int)])).length → Pre c x (redL c (y ++ [(i : Int)])) → redL c (y ++ [(i : Int)]) ∈ L) :
    ∀ (n : Nat) (z : List Int), Pre c x z → z.length = n → z ∈ L := by
  intro n
  induction n with
  | zero =>
    intro z _ hz
    rw [List.eq_nil_of_length_eq_zero hz]; exact h0
  | succ n ih =>
    intro z hz hn
    have hnz := hz.nf hx
    have hz0 := hz
    obtain ⟨h1, h2, v, h3, h4, h5⟩ := hz
    obtain ⟨z', b, rfl⟩ : ∃ z' b, z = z' ++ [b] := ⟨z.dropLast, z.getLast (by intro e; rw [e] at hn; simp at hn), (List.dropLast_concat_getLast _).symm⟩
    obtain ⟨l1, l2⟩ := letters_append.1 h1
    obtain ⟨hb, _⟩ := letters_cons.1 l2
    have hbn : ((b.toNat : Nat) : Int) = b := by omega
    have hbl : b.toNat < c.length := by omega
    have hlen : z'.length ≤ 31 := by have := hnz.2.2; simp at this; omega
    obtain ⟨a1, a2, a3, a4, a5⟩ := red_spec hc l1 hlen
    have hbk : imageL c (redL c z' ++ [b]) = imageL c (z' ++ [b]) := image_same_app hc a1 l1 a4 [b]
    have hs := hnz.short hc (letters_append.2 ⟨a1, l2⟩) hbk
    have hrr : redL c (redL c z' ++ [b]) = z' ++ [b] := by rw [red_eq hbk]; exact h2
    simp at hs hn h5
    have hpy : Pre c x (redL c z') := by
      refine ⟨a1, nf_idem hc l1 hlen, b :: v, letters_cons.2 ⟨hb, h3⟩, ?_, by simp; omega⟩
      rw [image_same_app hc a1 l1 a4 (b :: v), ← h4]; simp
    have hin := ih _ hpy (by omega)
    have := hc2 _ hin b.toNat hbl
    rw [hbn, hrr] at this
    exact this (by simp; omega) hz0

theorem Pre.mem_up {c : List (List Int)} (hc : CartanP c) {x : List Int} (hx : Nf c x) {L : List (List Int)} (hL : ∀ y ∈ L, Pre c x y) (h0 : [] ∈ L) (hc2 : ∀ y ∈ L, ∀ i, i < c.length → y.length < (redL c (y ++ [(i : Int)])).length → Pre c x (redL c (y ++ [(i : Int)])) → redL c (y ++ [(i : Int)]) ∈ L) (z : List Int) : z ∈ L ↔ Pre c x z :=
  ⟨hL z, fun hz => Pre.all_up hc hx h0 hc2 _ z hz rfl⟩

/-! ### A set told by a property, if it is not too large -/

theorem nodup_le {α : Type} [DecidableEq α] : ∀ {a b : List α}, a.Nodup → (∀ x ∈ a, x ∈ b) → a.length ≤ b.length
  | [], b, _, _ => Nat.zero_le _
  | x :: a, b, hn, h => by
    obtain ⟨h1, h2⟩ := List.nodup_cons.1 hn
    have hx := h x (List.mem_cons_self ..)
    have := nodup_le (a := a) (b := b.erase x) h2 (fun y hy => by
      have hne : y ≠ x := fun e => h1 (e ▸ hy)
      exact (List.mem_erase_of_ne hne).2 (h y (List.mem_cons_of_mem _ hy)))
    rw [List.length_erase_of_mem hx] at this
    have hp : 0 < b.length := List.length_pos_of_mem hx
    simp only [List.length_cons]
    omega
def FewP (R : List Int → Prop) : Prop := ∃ L : List (List Int), L.Nodup ∧ (∀ z, z ∈ L ↔ R z) ∧ L.length ≤ 200
open Classical in
noncomputable def fewB (R : List Int → Prop) : Bool := decide (FewP R)
open Classical in
noncomputable def fewL (R : List Int → Prop) : List (List Int) := if h : FewP R then srt h.choose else []
theorem few_on {R : List Int → Prop} {L : List (List Int)} (hn : L.Nodup) (hL : ∀ z, z ∈ L ↔ R z) (hl : L.length ≤ 200) : fewB R = true ∧ fewL R = srt L := by
  have h : FewP R := ⟨L, hn, hL, hl⟩
  refine ⟨by simp [fewB, h], ?_⟩
  unfold fewL
  rw [dif_pos h]
  obtain ⟨_, h2, _⟩ := h.choose_spec
  exact strict_ext (srt_spec _).1 (srt_spec _).1 fun z => by rw [(srt_spec _).2, (srt_spec _).2, h2, hL]
theorem few_off {R : List Int → Prop} {L : List (List Int)} (hn : L.Nodup) (hL : ∀ z ∈ L, R z) (hl : 200 < L.length) : fewB R = false ∧ fewL R = [] := by
  have h : ¬ FewP R := by
    rintro ⟨L', _, h2, h3⟩
    have := nodup_le hn (fun z hz => (h2 z).2 (hL z hz))
    omega
  exact ⟨by simp [fewB, h], by unfold fewL; rw [dif_neg h]⟩
theorem fewL_len (R : List Int → Prop) : (fewL R).length ≤ 200 := by
  unfold fewL
  split
  · rename_i h
    have := srt_len h.choose
    have := h.choose_spec.2.2
    omega
  · simp
theorem fewL_mem {R : List Int → Prop} {z : List Int} (h : z ∈ fewL R) : R z := by
  unfold fewL at h
  split at h
  · rename_i hf
    rw [(srt_spec _).2] at h
    exact (hf.choose_spec.2.1 z).1 h
  · simp at h
end Go.Proofs.Ytdhfonblpbpmmaa
