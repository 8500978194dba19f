/- Room for a word: what the library's function does for a nil slice. -/
import Derived.Test.YtdhfonblpbpmmaaWords4
import Derived.WalkKit
import Derived.Lib.Walk
import Derived.Lib.SliceRun
import Derived.Lib.AppendZeros
set_option linter.unusedVariables false
set_option linter.unusedSimpArgs false
namespace Go.Proofs.Ytdhfonblpbpmmaa
open Go Go.Aw Go.Cox Go.RowKit

set_option linter.unusedVariables false
set_option linter.unusedSimpArgs false

theorem grow_zero (w : World) : Calls Try.prog 90 #[.slice none 0 0, .int .i64 0] w fun e w' => e = .returned (.slice none 0 0) ∧ w' = w := by
  go_enter Try.func90, Try.ntmps90
  go_wp2
  go_ret
  exact ⟨rfl, rfl⟩

theorem grow_some (n : Nat) (h0 : 0 < n) (hn : n ≤ 2097152) (w : World) : ∃ G i, n ≤ G ∧ G ≤ 9223372036854775807 ∧ Try.prog.info? 3 = some i ∧ i.size = 1 ∧ Calls Try.prog 90 #[.slice none 0 0, .int .i64 n] w fun e w' =>
    e = .returned (.slice (some ⟨w.heap.size, 0, none⟩) 0 G) ∧ w' = w.drew.alloc (.cells (Builtin.zeroCells (Value.int .i64 0).cells n ++ Builtin.zeroCells (Value.int .i64 0).cells (G - n)) 3) := by
  obtain ⟨i, hi, hz, hs, hb⟩ : ∃ i, Try.prog.info? 3 = some i ∧ i.zero = some (.int .i64 0) ∧ i.size = 1 ∧ i.bytes = 8 := ⟨_, rfl, rfl, rfl, rfl⟩
  refine ⟨grownCap w n 0 3, i, grownCap_ge w _ _ _, ?_, hi, hs, ?_⟩
  · have := grownCap_le_maxLen w n 0 3 (by unfold maxLen; omega)
    unfold maxLen at this
    omega
  have hG : n ≤ grownCap w n 0 3 := grownCap_ge w _ _ _
  have hG63 : grownCap w n 0 3 ≤ 9223372036854775807 := by
    have := grownCap_le_maxLen w n 0 3 (by unfold maxLen; omega)
    unfold maxLen at this
    omega
  have hrz : ∀ ty, (Builtin.append_ #[23, 3] ty #[.slice none 0 0, .int .i64 (n : Int)]).run Try.prog w =
      .ok (.slice (some ⟨w.heap.size, 0, none⟩) n (grownCap w n 0 3)) (w.drew.alloc (.cells (Builtin.zeroCells (Value.int .i64 0).cells n ++ Builtin.zeroCells (Value.int .i64 0).cells (grownCap w n 0 3 - n)) 3)) := fun ty =>
    Lib.run_append_nil_zeros w 23 3 ty 3 i (.int .i64 0) .i64 .i64 Try.underlying23 Try.underlying3 hi hz n h0 (by omega) (by omega) (by rw [hb]; omega)
  generalize grownCap w n 0 3 = G at hrz hG hG63 ⊢
  have h1 : ¬ ((n : Int) < 0) := by omega
  have h3 : wrap64 ((n : Int)) = (n : Int) := by unfold wrap64; omega
  have h4 : (n : Int) > 0 := by omega
  go_enter Try.func90, Try.ntmps90
  go_wp2_with (at_builtin; refine Lib.wpList_append_run _ rfl _ _ _ _ rfl _ _ rfl rfl _ _ (hrz _) ?_)
  all_goals (go_ret; exact ⟨rfl, rfl⟩)
end Go.Proofs.Ytdhfonblpbpmmaa
