/- The elements below an element in the weak order: what the program does. -/
import Derived.Test.YtnhiamdnghgboaaPref
import Derived.Test.YtnhiamdnghgboaaFmt
set_option linter.unusedVariables false
set_option linter.unusedSimpArgs false
namespace Go.Proofs.Ytnhiamdnghgboaa
open Go Go.Aw Go.Cox

/-- What the search knows: rows, and the map of what it has seen. -/
def Seen (n : Nat) (ys : List (Nat × List Int)) (l : List (MK × MV)) : Prop :=
  (lb1 ys).Nodup ∧ (rw2 ys).Nodup ∧ (∀ z ∈ rw2 ys, letters n z) ∧ ∀ z, letters n z → (mgetB l (.str (fmtW z)) = true ↔ z ∈ rw2 ys)
theorem Seen.start {n : Nat} (hn : n ≤ 4) {x : List Int} (hx : letters n x) (q : Nat) : Seen n [(q, x)] (mput [] (.str (fmtW x)) (.bool true)) := by
  have up : ∀ z, letters n z → letters 4 z := fun z hz i hi => by have := hz i hi; omega
  refine ⟨by simp [lb1], by simp [rw2], fun z hz => by simp [rw2] at hz; rw [hz]; exact hx, fun z hz => ?_⟩
  rw [mgetB_put]
  by_cases h : z = x
  · rw [h, if_pos rfl]; simp [rw2]
  · rw [if_neg (fun e => h (fmtW_inj (up z hz) (up x hx) (MK.str.inj e))), mgetB_nil]; simp [rw2, h]
theorem Seen.add {n : Nat} (hn : n ≤ 4) {ys : List (Nat × List Int)} {l : List (MK × MV)} (h : Seen n ys l) {x : List Int} (hx : letters n x) {q : Nat} (hq : ∀ p ∈ ys, p.1 ≠ q) (hnew : mgetB l (.str (fmtW x)) = false) : Seen n (ys ++ [(q, x)]) (mput l (.str (fmtW x)) (.bool true)) := by
  have up : ∀ z, letters n z → letters 4 z := fun z hz i hi => by have := hz i hi; omega
  obtain ⟨h1, h2, h3, h4⟩ := h
  have hnot : x ∉ rw2 ys := fun hm => by rw [(h4 x hx).2 hm] at hnew; cases hnew
  refine ⟨?_, ?_, fun z hz => ?_, fun z hz => ?_⟩
  · rw [lb1_app, List.nodup_append]
    refine ⟨h1, by simp [lb1], fun a ha b hb => ?_⟩
    simp [lb1] at hb
    obtain ⟨p, hp, rfl⟩ := List.mem_map.1 ha
    rw [hb]; exact hq p hp
  · rw [rw2_app, List.nodup_append]
    refine ⟨h2, by simp [rw2], fun a ha b hb => ?_⟩
    simp [rw2] at hb
    rw [hb]; intro e; exact hnot (e ▸ ha)
  · rw [rw2_app] at hz
    rcases List.mem_append.1 hz with hz | hz
    · exact h3 z hz
    · simp [rw2] at hz; rw [hz]; exact hx
  · rw [mgetB_put, rw2_app, List.mem_append]
    by_cases e : z = x
    · rw [e, if_pos rfl]; simp [rw2]
    · rw [if_neg (fun e2 => e (fmtW_inj (up z hz) (up x hx) (MK.str.inj e2))), h4 z hz]; simp [rw2, e]

/-- Row k and those ahead of it are worked off; of row k itself the letters below i. -/
def Done (c : List (List Int)) (ys : List (Nat × List Int)) (k i : Nat) : Prop := ∀ j, j < ys.length → ∀ a, a < c.length → (j < k ∨ (j = k ∧ a < i)) → (redL c ((ys.getD j (0, [])).2 ++ [(a : Int)])).length < (ys.getD j (0, [])).2.length → redL c ((ys.getD j (0, [])).2 ++ [(a : Int)]) ∈ rw2 ys

theorem getD_app {ys : List (Nat × List Int)} {j : Nat} (h : j < ys.length) (t : List (Nat × List Int)) : (ys ++ t).getD j (0, []) = ys.getD j (0, []) := by
  simp only [List.getD]; rw [List.getElem?_append_left h]
theorem mem_rw2 {ys : List (Nat × List Int)} {j : Nat} (h : j < ys.length) : (ys.getD j (0, [])).2 ∈ rw2 ys := by
  rw [getD_eq h]; exact List.mem_map.2 ⟨_, List.getElem_mem h, rfl⟩
theorem mem_rw2_iff {ys : List (Nat × List Int)} {z : List Int} : z ∈ rw2 ys ↔ ∃ j, j < ys.length ∧ (ys.getD j (0, [])).2 = z := by
  constructor
  · intro h
    obtain ⟨p, hp, rfl⟩ := List.mem_map.1 h
    obtain ⟨j, hj, rfl⟩ := List.getElem_of_mem hp
    exact ⟨j, hj, by rw [getD_eq hj]⟩
  · rintro ⟨j, hj, rfl⟩; exact mem_rw2 hj

/-- What both sides tell of the elements below an element. -/
noncomputable def preB (c : List (List Int)) (w : List Int) : Bool := wordB c w && fewB (Pre c (redL c w))
noncomputable def preX (c : List (List Int)) (w : List Int) : List (List Int) := if wordB c w then fewL (Pre c (redL c w)) else []
theorem preX_len (c : List (List Int)) (w : List Int) : (preX c w).length ≤ 200 := by
  unfold preX
  split
  · exact fewL_len _
  · simp
theorem word_nf {c : List (List Int)} {w : List Int} (h : wordB c w = true) : Nf c (redL c w) ∧ (redL c w).length ≤ 15 := by
  obtain ⟨hc, h2, h3⟩ := wordB_iff.1 h
  have := (red_spec hc h3 (by omega)).2.1
  exact ⟨nf_red hc h3 (by omega) (by omega), by omega⟩
theorem preX_pre {c : List (List Int)} {w z : List Int} (h : z ∈ preX c w) : wordB c w = true ∧ Pre c (redL c w) z := by
  unfold preX at h
  cases hw : wordB c w with
  | false => rw [hw] at h; simp at h
  | true => rw [hw, if_pos rfl] at h; exact ⟨rfl, fewL_mem h⟩
theorem preX_rows (c : List (List Int)) (w : List Int) : ∀ r ∈ preX c w, r.length ≤ 15 := by
  intro r hr
  obtain ⟨hw, _, _, v, _, _, h5⟩ := preX_pre hr
  have := (word_nf hw).2
  omega

end Go.Proofs.Ytnhiamdnghgboaa
