/- The tables of this program's types. -/
import Derived.Test.YtdhfonblpbpmmaaAw5
import Derived.Test.YtdhfonblpbpmmaaProg
import Derived.KernelRfl
set_option linter.unusedVariables false
set_option linter.unusedSimpArgs false
namespace Go.Proofs.Ytdhfonblpbpmmaa
open Go Go.Aw
def Btid : E → Nat
  | .int => 3
  | .byte => 5
  | .bool => 4
  | .str => 9
  | .row _ => 23
  | .lrow => 23
  | .vec => 0
  | .pr => 0
def BG (t : Nat) : Option E := if t = 23 then some .int else if t = 22 then some .lrow else if t = 56 then some .byte else none
def Bbt (t : Nat) : Option BT := if t = 3 then some (.int .i64) else if t = 4 then some .bool else if t = 9 then some .str else if t = 5 then some (.int .u8) else none
def BM (t : Nat) : Option MT := if t = 46 then some ⟨false, false⟩ else none
noncomputable def B : Ctx := ⟨Try.prog, default, (fun _ _ => True), default, (fun _ => False), Btid, BG, Bbt, BM, [], (fun _ => False)⟩
theorem B_ok : B.Ok := by
  refine ⟨fun t e h => ?_, fun t e h => ?_, fun t b h => ?_, fun f => rfl, by kernel_rfl, fun t h => ?_, fun t m h => ?_⟩
  · simp only [B, BG] at h
    (repeat' split at h) <;> first | (cases h; done) | (cases h; subst_vars; first | exact ⟨Try.underlying23, _, rfl, rfl, rfl, rfl⟩ | exact ⟨Try.underlying22, _, rfl, rfl, rfl, rfl⟩ | exact ⟨Try.underlying56, _, rfl, rfl, rfl, rfl⟩)
  · simp only [B, BG] at h
    (repeat' split at h) <;> first | (cases h; done) | (cases h; subst_vars; exact ⟨_, rfl, rfl⟩)
  · simp only [B, Bbt] at h
    (repeat' split at h) <;> first | (cases h; done) | (cases h; subst_vars; first | exact ⟨Try.underlying3, _, rfl, rfl⟩ | exact ⟨Try.underlying4, _, rfl, rfl⟩ | exact ⟨Try.underlying9, _, rfl, rfl⟩ | exact ⟨Try.underlying5, _, rfl, rfl⟩)
  · exact Try.underlying5
  · simp only [B, BM] at h
    (repeat' split at h) <;> first | (cases h; done) | (cases h; subst_vars; first | exact ⟨_, _, Try.underlying46, fun _ => Try.underlying9, fun h => (by cases h), Try.zeroValue4⟩ | (cases h; done))
theorem BX : B.Γ 23 = some .int ∧ B.Γ 22 = some .lrow ∧ B.Γ 56 = some .byte ∧ B.bt 3 = some (.int .i64) ∧ B.bt 4 = some .bool ∧ B.bt 9 = some .str ∧ B.bt 5 = some (.int .u8) ∧ B.bt 23 = none ∧ B.bt 22 = none ∧ B.bt 56 = none ∧ B.Γ 3 = none ∧ B.Γ 4 = none ∧ B.Γ 9 = none ∧ B.Γ 5 = none ∧ B.mt 0 = none ∧ B.mt 46 = some ⟨false, false⟩ := ⟨rfl, rfl, rfl, rfl, rfl, rfl, rfl, rfl, rfl, rfl, rfl, rfl, rfl, rfl, rfl, rfl⟩
end Go.Proofs.Ytdhfonblpbpmmaa
