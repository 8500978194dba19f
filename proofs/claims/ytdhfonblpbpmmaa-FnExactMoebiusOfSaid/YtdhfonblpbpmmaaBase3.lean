/- What the laws' marks on matrices do. -/
import Derived.Test.YtdhfonblpbpmmaaBase2
set_option linter.unusedVariables false
set_option linter.unusedSimpArgs false
namespace Go.Proofs.Ytdhfonblpbpmmaa
open Go Go.Aw

def sumL : List (List Int) → Nat
  | [] => 0
  | r :: rs => r.length + sumL rs
def iotaR (k : Int) : List (List Int) → List (List Int)
  | [] => []
  | r :: rs => iota k r.length :: iotaR (k + r.length) rs
theorem iotaR_length (k : Int) : ∀ rows, (iotaR k rows).length = rows.length
  | [] => rfl
  | r :: rs => by simp [iotaR, iotaR_length (k + r.length) rs]
theorem sumL_append : ∀ a b, sumL (a ++ b) = sumL a + sumL b
  | [], b => by simp [sumL]
  | r :: rs, b => by simp [sumL, sumL_append rs b]; omega
theorem iotaR_append (k : Int) : ∀ a b, iotaR k (a ++ b) = iotaR k a ++ iotaR (k + sumL a) b
  | [], b => by simp [iotaR, sumL]
  | r :: rs, b => by simp [iotaR, sumL, iotaR_append (k + r.length) rs b]; congr 1; omega
theorem sumL_iotaR (k : Int) : ∀ rows, sumL (iotaR k rows) = sumL rows
  | [] => rfl
  | r :: rs => by simp [iotaR, sumL, iota_length, sumL_iotaR]
theorem iotaR_iotaR (k k' : Int) : ∀ rows, iotaR k (iotaR k' rows) = iotaR k rows
  | [] => rfl
  | r :: rs => by simp [iotaR, iota_length, iotaR_iotaR]
theorem sumL_mem {rows : List (List Int)} {r : List Int} (h : r ∈ rows) : r.length ≤ sumL rows := by
  induction rows with
  | nil => simp at h
  | cons a l ih =>
    rcases List.mem_cons.1 h with rfl | h
    · simp [sumL]
    · have := ih h; simp [sumL]; omega
theorem sumL_take (rows : List (List Int)) (i : Nat) : sumL (rows.take i) ≤ sumL rows := by
  have := sumL_append (rows.take i) (rows.drop i)
  rw [List.take_append_drop] at this
  omega
theorem sumL_snoc (rows : List (List Int)) (i : Nat) (h : i < rows.length) : sumL (rows.take (i + 1)) = sumL (rows.take i) + (rows.getD i []).length := by
  rw [← take_snoc [] rows i h, sumL_append]
  simp [sumL]
theorem iotaR_snoc (k : Int) (rows : List (List Int)) (i : Nat) (h : i < rows.length) : iotaR k (rows.take (i + 1)) = iotaR k (rows.take i) ++ [iota (k + sumL (rows.take i)) (rows.getD i []).length] := by
  rw [← take_snoc [] rows i h, iotaR_append]
  simp [iotaR]

theorem mark_get (k : Int) (rows : List (List Int)) (i : Nat) (h : i < rows.length) : (iotaR k (rows.take i) ++ rows.drop i).getD i [] = rows.getD i [] := by
  have hl : (iotaR k (rows.take i)).length = i := by rw [iotaR_length]; simp; omega
  simp only [List.getD_eq_getElem?_getD]
  rw [List.getElem?_append_right (by omega), hl, Nat.sub_self]
  simp
theorem mark_set (k : Int) (rows : List (List Int)) (i : Nat) (h : i < rows.length) : (iotaR k (rows.take i) ++ rows.drop i).set i (iota (k + sumL (rows.take i)) (rows.getD i []).length) = iotaR k (rows.take (i + 1)) ++ rows.drop (i + 1) := by
  have hl : (iotaR k (rows.take i)).length = i := by rw [iotaR_length]; simp; omega
  rw [List.set_append, hl, if_neg (by omega), Nat.sub_self, List.drop_eq_getElem_cons h, List.set_cons_zero, iotaR_snoc k rows i h]
  simp

theorem szR_sum : ∀ (rows : List (List Int)) (l : Int), 0 ≤ l → 0 ≤ szR rows l → (sumL rows : Int) ≤ l
  | [], l, h0, _ => by simpa [sumL] using h0
  | r :: rs, l, h0, h => by
    simp only [szR] at h
    by_cases hs : szI r l < 0
    · rw [if_pos hs] at h; omega
    · rw [if_neg hs] at h
      have h1 : 0 ≤ szI r l := by omega
      have h2 : szI r l = l - r.length := by unfold szI at h1 ⊢; split <;> simp_all
      have := szR_sum rs _ h1 h
      simp only [sumL]
      omega
/-- What a law knows of a matrix that is small enough. -/
theorem szII_all (rows : List (List Int)) (l : Int) (h0 : 0 ≤ l ∧ l ≤ 1048576) (h : 0 ≤ szII rows l) : rows.length ≤ 1048576 ∧ (∀ r ∈ rows, r.length ≤ 1048576) ∧ sumL rows ≤ 1048576 ∧ szII rows l ≤ 1048576 := by
  obtain ⟨h1, h2⟩ := szII_le rows l h0.1 h
  refine ⟨by omega, fun r hr => by have := h2 r hr; omega, ?_, ?_⟩
  · unfold szII at h
    split at h
    · omega
    · have := szR_sum rows _ (by omega) h; omega
  · unfold szII at h ⊢
    split at h
    · omega
    · rename_i h3
      rw [if_neg h3]
      have := (szR_le rows (l - rows.length) (by omega) h).1
      omega
theorem iotaR_rows {k : Int} {rows : List (List Int)} {n : Nat} (h : ∀ r ∈ rows, r.length ≤ n) : ∀ r ∈ iotaR k rows, r.length ≤ n := by
  induction rows generalizing k with
  | nil => simp [iotaR]
  | cons a l ih =>
    intro r hr
    rcases List.mem_cons.1 hr with rfl | hr
    · rw [iota_length]; exact h a (List.mem_cons_self ..)
    · exact ih (fun q hq => h q (List.mem_cons_of_mem _ hq)) r hr

theorem c_markIntSS (hs : List (Option Nat)) (rows : List (List Int)) (k : Int) (hp : rows.length ≤ 4503599627370496) (hk : 0 ≤ k ∧ k + sumL rows ≤ 4503599627370496) (nn : Bool) :
    FunO B 16 [.own 0 0, .int .i64 k] (.mat hs rows 0 nn) (fun rs o => rs = [.int .i64 (k + sumL rows)] ∧ o = [.mat hs (iotaR k rows) 0 nn]) := by
  refine FunO.walk B_ok (fn := Try.f16) (fun vs w => Try.call16 vs w) Try.func16 rfl (by rw [Try.ntmps16]; simp) (fun C hC hP hT hΓ hbt hfn hpin hfin => ?_); have hX := BX; rw [← hΓ, ← hbt.1, ← hbt.2] at hX; rw [Try.ntmps16]; simp only [AW7, simprocAttr, hX]
  refine Run.nq ?_; refine Run.regionW hC (fun K hK => ?_); simp only [AW7, simprocAttr, hX]; (repeat (with_reducible refine And.intro ?_ ?_); exact vc0); refine hK _ ?_; clear hK K; refine Run.nq ?_
  refine Run.nq ?_; refine Run.regionW hC (fun K hK => ?_); simp only [AW7, simprocAttr, hX]; (repeat (with_reducible refine And.intro ?_ ?_); exact vc0); refine hK _ ?_; clear hK K; refine Run.nq ?_
  refine Run.loopI (X := Nat) (fun i => ⟨19, [(0, true, .v (.own 0 0)), (1, true, .v (.int .i64 (k + sumL (rows.take i)))), (4, true, .v (.int .i64 0)), (5, true, .v (.int .i64 i))], [.mat hs (iotaR k (rows.take i) ++ rows.drop i) 0 nn]⟩) (fun i => i ≤ rows.length) (fun i => rows.length - i) 0 (by simp) ?_ ?_
  · refine Le.sub (by simp [iotaR]) ?_
    simp only [AW7, simprocAttr, hX]; try simp [sumL]
  rintro i hi ih
  have hlen : (iotaR k (rows.take i) ++ rows.drop i).length = rows.length := by simp [iotaR_length]; omega
  have hst := sumL_take rows i
  refine Run.nq ?_; refine Run.regionW hC (fun K hK => ?_); simp only [AW7, simprocAttr, hX]; (repeat (with_reducible refine And.intro ?_ ?_); exact vc0); refine hK _ ?_; clear hK K; refine Run.nq ?_
  refine Run.nq ?_; refine Run.condW (by simp only [AW7, simprocAttr, hX]; rfl) (by simp only [AW7, simprocAttr, hX]) ?_ ?_
  · intro hc2
    have hc2 : i < rows.length := by rw [hlen] at hc2; simpa using hc2
    have hget := mark_get k rows i hc2
    have hsn := sumL_snoc rows i hc2
    have hst2 := sumL_take rows (i + 1)
    refine Run.nq ?_; refine Run.regionW hC (fun K hK => ?_); simp only [AW7, simprocAttr, hX]; (repeat (with_reducible refine And.intro ?_ ?_); exact vc0)
    refine FunM.callRow hP hT (c_markIntS ((iotaR k (rows.take i) ++ rows.drop i).getD i []) (k + sumL (rows.take i)) (by rw [hget]; omega) (by omega) false) 0 0 (i) (by simp only [AW7, simprocAttr]; rfl) ?_ rfl (by simp only [AW7, simprocAttr]) ?_
    · omega
    rintro rs o' obs' ⟨rfl, h⟩
    obtain ⟨rfl, rfl⟩ := List.cons.inj h
    refine ⟨_, rfl, by rw [iota_length], rfl, ?_⟩
    refine hK _ ?_
    clear hK K
    refine Run.nq ?_
    refine Run.nq ?_; refine Run.regionW hC (fun K hK => ?_); simp (disch := omega) only [wrap_id, AW7, simprocAttr, hX]; (repeat (with_reducible refine And.intro ?_ ?_); exact vc0); refine hK _ ?_; clear hK K; refine Run.nq ?_
    refine Run.le ?_ (ih (i + 1) hc2 (by omega))
    simp only [hget]
    refine Le.sub (by rw [← mark_set k rows i hc2]) ?_
    simp only [AW7, simprocAttr]; try simp [-List.getD_eq_getElem?_getD]; omega
  · intro hc2
    have hc2 : i = rows.length := by rw [hlen] at hc2; simp at hc2; omega
    refine Run.exit rfl ?_; refine Run.nq ?_
    refine Run.nq ?_; refine Run.regionW hC (fun K hK => ?_); simp only [AW7, simprocAttr, hX]; (repeat (with_reducible refine And.intro ?_ ?_); exact vc0); refine hK _ ?_; clear hK K; refine Run.nq ?_
    subst hc2
    refine Run.retW [4] (by decide) (by rw [hfn]; rfl) (by simp only [AW7, simprocAttr, hX]; rfl) (by simp only [AW7, simprocAttr, hX]) (hfin _ _ _ rfl rfl ⟨rfl, _, _, rfl⟩ ?_)
    simp

theorem c_heldIota (k : Int) (n : Nat) (hn : n ≤ 4503599627370496) (hk : 0 ≤ k ∧ k ≤ 4503599627370496) :
    FunA B 21 [.sl false .int (iota k n), .int .i64 k] (fun rs o => rs = [.int .i64 (k + n)] ∧ o = []) := by
  refine (c_heldIntS (iota k n) k (by rw [iota_length]; exact hn) hk).mono ?_
  rintro rs o ⟨rfl, rfl⟩
  rw [iota_length, if_pos rfl]
  exact ⟨rfl, rfl⟩
end Go.Proofs.Ytdhfonblpbpmmaa
