/- The elements below an element in the weak order: what the reference does. -/
import Derived.Test.YtnhiamdnghgboaaPref2
import Derived.Test.YtnhiamdnghgboaaIn
set_option linter.unusedVariables false
set_option linter.unusedSimpArgs false
namespace Go.Proofs.Ytnhiamdnghgboaa
open Go Go.Aw Go.Cox

theorem rwg (ys : List (Nat × List Int)) (k : Nat) : (ys.getD k (0, [])).2 = (rw2 ys).getD k [] := by
  unfold rw2
  simp only [List.getD, List.getElem?_map]
  cases ys[k]? <;> rfl
theorem rwl (ys : List (Nat × List Int)) : (rw2 ys).length = ys.length := by simp [rw2]
theorem putS_len (w : List Int) : ∀ (b : Bool) (l : List (List Int)), (putS w b l).length ≤ l.length + 1
  | b, [] => by cases b <;> simp [putS]
  | b, x :: l => by
    simp only [putS]
    split
    · rw [putS_true]; simp
    · have := putS_len w (b || cmpW w x == 0) l; simp; omega
theorem putS_keep (w : List Int) : ∀ (l : List (List Int)) (k : Nat), (∀ j, j ≤ k → j < l.length ∧ 0 < cmpW w (l.getD j [])) → ∀ j, j ≤ k → j < (putS w false l).length ∧ (putS w false l).getD j [] = l.getD j []
  | [], k, h, j, hj => by have := (h 0 (Nat.zero_le _)).1; simp at this
  | x :: l, k, h, j, hj => by
    have h0 : 0 < cmpW w x := (h 0 (Nat.zero_le _)).2
    simp only [putS]
    rw [if_neg (by omega), show (false || cmpW w x == 0) = false by simp; omega]
    cases j with
    | zero => exact ⟨by simp, rfl⟩
    | succ j =>
      cases k with
      | zero => omega
      | succ k =>
        have ih := putS_keep w l k (fun j hj => by
          have := h (j + 1) (by omega)
          exact ⟨by simpa using this.1, by simpa using this.2⟩) j (by omega)
        exact ⟨by simp; omega, by simpa using ih.2⟩
theorem cmp_long {a b : List Int} (h : a.length < b.length) : 0 < cmpW b a := by
  unfold cmpW
  rw [if_neg (by omega), if_pos (by omega)]; omega
theorem putS_keepk {w : List Int} {l : List (List Int)} (hs : StrictW l) {k : Nat} (hk : k < l.length) (hlt : (l.getD k []).length < w.length) : ∀ j, j ≤ k → j < (putS w false l).length ∧ (putS w false l).getD j [] = l.getD j [] :=
  putS_keep w l k fun j hj => by
    refine ⟨by omega, ?_⟩
    by_cases e : j = k
    · rw [e]; exact cmp_long hlt
    · have h1 := List.pairwise_iff_getElem.1 hs j k (by omega) hk (by omega)
      have h2 : cmpW (l.getD k []) w < 0 := by have := cmpW_neg w (l.getD k []); have := cmp_long hlt; omega
      rw [getD_eq hk] at h2
      have h3 := cmpW_lt_trans h1 h2
      rw [getD_eq (by omega : j < l.length)]
      have := cmpW_neg w l[j]
      omega
theorem wcv_nf {c : List (List Int)} {y z : List Int} (hW : wordB c y = true) (h : z ∈ wcv c y) : Nf c z ∧ z.length ≤ 15 ∧ (redL c y).length < z.length := by
  obtain ⟨hc, h2, h3⟩ := wordB_iff.1 hW
  unfold wcv at h
  rw [hW, if_pos rfl, (srt_spec _).2] at h
  unfold wkT at h
  obtain ⟨i, hi, hf⟩ := List.mem_filterMap.1 h
  obtain ⟨rfl, q1, q2⟩ := wkF_some hf
  have hi : i < c.length := by simpa using hi
  exact ⟨nf_red hc (letters_append.2 ⟨h3, letter1 hi⟩) (by simp; omega) (by have : (covL c y i).length ≤ 15 := q2; unfold covL at this; omega), q2, q1⟩
theorem wcv_has {c : List (List Int)} {y : List Int} (hW : wordB c y = true) {a : Nat} (ha : a < c.length) (h1 : (redL c y).length < (redL c (y ++ [(a : Int)])).length) (h2 : (redL c (y ++ [(a : Int)])).length ≤ 15) : redL c (y ++ [(a : Int)]) ∈ wcv c y := by
  unfold wcv
  rw [hW, if_pos rfl, (srt_spec _).2]
  unfold wkT
  exact List.mem_filterMap.2 ⟨a, by simpa using ha, by unfold wkF covL; rw [if_pos ⟨h1, h2⟩]⟩

/-- The rows ahead of row k are worked off. -/
def DoneU (c : List (List Int)) (x : List Int) (L : List (List Int)) (k : Nat) : Prop := ∀ j, j < L.length → j < k → ∀ a, a < c.length → (L.getD j []).length < (redL c (L.getD j [] ++ [(a : Int)])).length → Pre c x (redL c (L.getD j [] ++ [(a : Int)])) → redL c (L.getD j [] ++ [(a : Int)]) ∈ L

end Go.Proofs.Ytnhiamdnghgboaa
