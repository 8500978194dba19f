/- The weak order on both sides. -/
import Derived.Test.YtnhiamdnghgboaaWords4
import Derived.Test.YtnhiamdnghgboaaGrow2
import Derived.Test.YtnhiamdnghgboaaSets
set_option linter.unusedVariables false
set_option linter.unusedSimpArgs false
namespace Go.Proofs.Ytnhiamdnghgboaa
open Go Go.Aw Go.Cox

open Classical in
noncomputable def wkB (c : List (List Int)) (u v : List Int) : Bool := wordB c u && wordB c v && decide ((redL c u).length + (redL c (u.reverse ++ v)).length = (redL c v).length)

/-- A word of a parabolic subgroup. -/
noncomputable def parB (c : List (List Int)) (s w : List Int) : Bool := wordB c w && isSetB c s && (redL c w).all (fun x => decide (x ∈ s))

theorem all_snoc (p : Int → Bool) (w : List Int) (i : Nat) (h : i < w.length) : (w.take (i + 1)).all p = ((w.take i).all p && p (w.getD i 0)) := by
  rw [← take_snoc 0 w i h]; simp
theorem all_false (p : Int → Bool) (w : List Int) (i : Nat) (h : i < w.length) (hp : p (w.getD i 0) = false) : w.all p = false := by
  cases hh : w.all p with
  | false => rfl
  | true =>
    rw [List.all_eq_true] at hh
    have := hh _ (getD_mem h)
    rw [hp] at this
    exact this.symm

theorem set_len {c : List (List Int)} {s : List Int} (h : setP c.length s) : s.length ≤ c.length := by
  have key : ∀ i, i < s.length → (i : Int) ≤ s.getD i 0 := by
    intro i
    induction i with
    | zero => intro h0; exact (h 0 h0).1
    | succ i ih =>
      intro h1
      have := ih (by omega)
      have := (h (i + 1) h1).2.2 (by omega)
      rw [Nat.add_sub_cancel] at this
      omega
  by_cases h0 : s.length = 0
  · omega
  · have := key (s.length - 1) (by omega)
    have := (h (s.length - 1) (by omega)).2.1
    omega
theorem set_letters {n : Nat} {s : List Int} (h : setP n s) : letters n s := letters_getD.2 fun i hi => ⟨(h i hi).1, (h i hi).2.1⟩

end Go.Proofs.Ytnhiamdnghgboaa
