/- Ordered lists of words. -/
import Derived.Test.YtdhfonblpbpmmaaPut
set_option linter.unusedVariables false
set_option linter.unusedSimpArgs false
namespace Go.Proofs.Ytdhfonblpbpmmaa
open Go Go.Aw

theorem cmpN_neg (p q : List Int) : ∀ n i, cmpN q p n i = - cmpN p q n i
  | 0, i => rfl
  | n + 1, i => by
    have ih := cmpN_neg p q n (i + 1)
    simp only [cmpN]
    by_cases h1 : p.getD i 0 < q.getD i 0
    · rw [if_pos h1, if_neg (by omega), if_pos (by omega)]; rfl
    · by_cases h2 : p.getD i 0 > q.getD i 0
      · have h3 : q.getD i 0 < p.getD i 0 := h2
        simp only [h1, h2, h3, if_true, if_false]
      · rw [if_neg h1, if_neg h2, if_neg (by omega), if_neg (by omega)]; exact ih
theorem cmpW_neg (p q : List Int) : cmpW q p = - cmpW p q := by
  unfold cmpW
  by_cases h1 : p.length < q.length
  · rw [if_pos h1, if_neg (by omega), if_pos (by omega)]; rfl
  · by_cases h2 : p.length > q.length
    · have h3 : q.length < p.length := h2
      simp only [h1, h2, h3, if_true, if_false]
    · rw [if_neg h1, if_neg h2, if_neg (by omega), if_neg (by omega), show q.length = p.length by omega]; exact cmpN_neg p q _ 0

def StrictW (l : List (List Int)) : Prop := l.Pairwise fun p q => cmpW p q < 0
theorem StrictW.nil : StrictW [] := List.Pairwise.nil
theorem strict_ext : ∀ {a b : List (List Int)}, StrictW a → StrictW b → (∀ x, x ∈ a ↔ x ∈ b) → a = b
  | [], [], _, _, _ => rfl
  | [], y :: b, _, _, h => by have := (h y).2 (List.mem_cons_self ..); simp at this
  | x :: a, [], _, _, h => by have := (h x).1 (List.mem_cons_self ..); simp at this
  | x :: a, y :: b, ha, hb, h => by
    obtain ⟨ha1, ha2⟩ := List.pairwise_cons.1 ha
    obtain ⟨hb1, hb2⟩ := List.pairwise_cons.1 hb
    have hxy : x = y := by
      rcases List.mem_cons.1 ((h x).1 (List.mem_cons_self ..)) with e | e
      · exact e
      · rcases List.mem_cons.1 ((h y).2 (List.mem_cons_self ..)) with e2 | e2
        · exact e2.symm
        · have h1 := hb1 x e
          have h2 := ha1 y e2
          have := cmpW_neg x y
          omega
    subst hxy
    have nx : ∀ {l : List (List Int)}, (∀ z ∈ l, cmpW x z < 0) → x ∉ l := fun {l} hl hx => by
      have := hl x hx
      rw [cmpW_self] at this
      omega
    rw [strict_ext ha2 hb2 fun z => ⟨fun hz => ?_, fun hz => ?_⟩]
    · rcases List.mem_cons.1 ((h z).1 (List.mem_cons_of_mem _ hz)) with e | e
      · rw [e] at hz; exact (nx ha1 hz).elim
      · exact e
    · rcases List.mem_cons.1 ((h z).2 (List.mem_cons_of_mem _ hz)) with e | e
      · rw [e] at hz; exact (nx hb1 hz).elim
      · exact e
theorem putS_true (w : List Int) : ∀ l, putS w true l = l
  | [] => rfl
  | x :: l => by simp only [putS]; rw [if_neg (by simp), Bool.true_or, putS_true w l]
theorem putS_mem (w : List Int) : ∀ (l : List (List Int)) (z : List Int), z ∈ putS w false l ↔ z = w ∨ z ∈ l
  | [], z => by simp [putS]
  | x :: l, z => by
    simp only [putS]
    by_cases h : cmpW w x < 0
    · rw [if_pos ⟨h, trivial⟩, putS_true]; simp
    · rw [if_neg (by simp [h])]
      by_cases h0 : cmpW w x = 0
      · have e := (cmpW_zero w x).1 h0
        rw [show (false || cmpW w x == 0) = true by simp [h0], putS_true, e]; simp
      · rw [show (false || cmpW w x == 0) = false by simp [h0]]
        simp only [List.mem_cons, putS_mem w l z]
        constructor
        · rintro (h | h | h) <;> simp [h]
        · rintro (h | h | h) <;> simp [h]
theorem putS_strict (w : List Int) : ∀ {l : List (List Int)}, StrictW l → StrictW (putS w false l)
  | [], _ => by unfold StrictW; simp [putS]
  | x :: l, hl => by
    obtain ⟨h1, h2⟩ := List.pairwise_cons.1 hl
    simp only [putS]
    by_cases h : cmpW w x < 0
    · rw [if_pos ⟨h, trivial⟩, putS_true]
      refine List.pairwise_cons.2 ⟨fun z hz => ?_, hl⟩
      rcases List.mem_cons.1 hz with rfl | hz
      · exact h
      · exact cmpW_lt_trans h (h1 z hz)
    · rw [if_neg (by simp [h])]
      by_cases h0 : cmpW w x = 0
      · rw [show (false || cmpW w x == 0) = true by simp [h0], putS_true]; exact hl
      · rw [show (false || cmpW w x == 0) = false by simp [h0]]
        refine List.pairwise_cons.2 ⟨fun z hz => ?_, putS_strict w h2⟩
        rcases (putS_mem w l z).1 hz with rfl | hz
        · have := cmpW_neg z x; omega
        · exact h1 z hz
/-- Words put one by one. -/
def srtL' (l0 L : List (List Int)) : List (List Int) := L.foldl (fun l w => putS w false l) l0
def srt (L : List (List Int)) : List (List Int) := srtL' [] L
theorem srt_snoc (L : List (List Int)) (w : List Int) : srt (L ++ [w]) = putS w false (srt L) := by simp [srt, srtL']
theorem srt_spec (L : List (List Int)) : StrictW (srt L) ∧ ∀ z, z ∈ srt L ↔ z ∈ L := by
  have key : ∀ (L l0 : List (List Int)), StrictW l0 → StrictW (srtL' l0 L) ∧ ∀ z, z ∈ srtL' l0 L ↔ z ∈ l0 ∨ z ∈ L := by
    intro L
    induction L with
    | nil => intro l0 h; exact ⟨h, fun z => by simp [srtL']⟩
    | cons w L ih =>
      intro l0 h
      obtain ⟨h1, h2⟩ := ih (putS w false l0) (putS_strict w h)
      refine ⟨h1, fun z => ?_⟩
      show z ∈ srtL' (putS w false l0) L ↔ _
      rw [h2 z, putS_mem]
      simp only [List.mem_cons]
      constructor
      · rintro ((h | h) | h) <;> simp [h]
      · rintro (h | h | h) <;> simp [h]
  obtain ⟨h1, h2⟩ := key L [] StrictW.nil
  exact ⟨h1, fun z => by rw [show srt L = srtL' [] L from rfl, h2 z]; simp⟩
/-- What a sort leaves of a list without repetitions. -/
theorem sorted_srt {L : List (List Int)} (hn : L.Nodup) {a : List (List Int)} (hp : a.Perm L) (hs : a.Pairwise fun p q => ¬ cmpW q p < 0) : a = srt L := by
  obtain ⟨h1, h2⟩ := srt_spec L
  refine strict_ext ?_ h1 fun z => (hp.mem_iff).trans (h2 z).symm
  have hna : a.Nodup := hp.nodup_iff.2 hn
  refine List.Pairwise.imp₂ ?_ hs hna
  intro p q h1 h2
  have h3 := cmpW_neg p q
  have h4 := cmpW_zero p q
  rcases Int.lt_trichotomy (cmpW p q) 0 with h | h | h
  · exact h
  · exact absurd (h4.1 h) h2
  · omega
theorem srt_id {L : List (List Int)} (h : StrictW L) : srt L = L := strict_ext (srt_spec L).1 h (srt_spec L).2
theorem srt_nil : srt [] = [] := rfl
theorem srt_len (L : List (List Int)) : (srt L).length ≤ L.length := by
  have key : ∀ (L l0 : List (List Int)), (srtL' l0 L).length ≤ l0.length + L.length := by
    intro L
    induction L with
    | nil => intro l0; simp [srtL']
    | cons w L ih =>
      intro l0
      have := ih (putS w false l0)
      have h2 : ∀ (b : Bool) (l : List (List Int)), (putS w b l).length ≤ l.length + 1 := by
        intro b l
        induction l generalizing b with
        | nil => cases b <;> simp [putS]
        | cons x l ih =>
          simp only [putS]
          split
          · rw [putS_true]; simp
          · have := ih (b || cmpW w x == 0); simp; omega
      have := h2 false l0
      show (srtL' (putS w false l0) L).length ≤ _
      simp only [List.length_cons]
      omega
  have := key L []
  simpa [srt] using this
end Go.Proofs.Ytdhfonblpbpmmaa
