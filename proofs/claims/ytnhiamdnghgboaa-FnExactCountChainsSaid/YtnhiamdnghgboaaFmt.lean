/- Words as strings. -/
import Derived.Test.YtnhiamdnghgboaaWords4
set_option linter.unusedVariables false
set_option linter.unusedSimpArgs false
namespace Go.Proofs.Ytnhiamdnghgboaa
open Go Go.Aw

def fmtD (w : List Int) : List UInt8 := w.map fun i => UInt8.ofNat (49 + i.toNat)
def fmtW (w : List Int) : List UInt8 := if w = [] then [101] else fmtD w
theorem fmtW_inj {a b : List Int} (ha : letters 4 a) (hb : letters 4 b) (h : fmtW a = fmtW b) : a = b := by
  have key : ∀ (a b : List Int), letters 4 a → letters 4 b → fmtD a = fmtD b → a = b := by
    intro a
    induction a with
    | nil => intro b _ _ h; cases b with
      | nil => rfl
      | cons y b => simp [fmtD] at h
    | cons x a ih => intro b ha hb h; cases b with
      | nil => simp [fmtD] at h
      | cons y b =>
        simp only [fmtD, List.map_cons, List.cons.injEq] at h
        obtain ⟨hx, ha⟩ := letters_cons.1 ha
        obtain ⟨hy, hb⟩ := letters_cons.1 hb
        have e : x = y := by
          have := congrArg UInt8.toNat h.1
          simp at this
          omega
        rw [e, ih b ha hb h.2]
  have he : ∀ c : List Int, letters 4 c → c ≠ [] → fmtD c ≠ [101] := by
    intro c hc hne h
    cases c with
    | nil => exact hne rfl
    | cons x c =>
      simp only [fmtD, List.map_cons, List.cons.injEq] at h
      obtain ⟨hx, _⟩ := letters_cons.1 hc
      have := congrArg UInt8.toNat h.1
      simp at this
      omega
  unfold fmtW at h
  by_cases h1 : a = []
  · rw [if_pos h1] at h
    by_cases h2 : b = []
    · rw [h1, h2]
    · rw [if_neg h2] at h; exact (he b hb h2 h.symm).elim
  · rw [if_neg h1] at h
    by_cases h2 : b = []
    · rw [if_pos h2] at h; exact (he a ha h1 h).elim
    · rw [if_neg h2] at h; exact key a b ha hb h

end Go.Proofs.Ytnhiamdnghgboaa
