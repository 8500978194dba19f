/- The size of a name (written by wip/tools/gensiz.py). -/
import Derived.Test.YtaghdbbcadhjdaaGreatDoorB15
import Derived.Test.YtaghdbbcadhjdaaGreatDoorB13
import Derived.Test.YtaghdbbcadhjdaaGreatDoorB11
set_option linter.unusedVariables false
set_option linter.unusedSimpArgs false
namespace Go.Proofs.YtaghdbbcadhjdaaGreatDoor
open Go Go.Aw
theorem sizeT_le (s : List UInt8) : sizeT s ≤ 1152 := by
  unfold sizeT
  split
  · rename_i t h
    have hm := List.mem_of_find?_eq_some h
    exact (by decide : ∀ t ∈ tyL, t.2.2 ≤ 1152) t hm
  · omega
def szN (l : List (List UInt8)) : Nat := l.foldl (fun n p => n * sizeT p) 1
theorem fold_cast (l : List (List UInt8)) : ∀ n : Nat, l.foldl (fun (n : Int) p => n * (sizeT p : Int)) (n : Int) = ((l.foldl (fun (n : Nat) p => n * sizeT p) n : Nat) : Int) := by
  induction l with
  | nil => intro n; rfl
  | cons a l ih =>
    intro n
    simp only [List.foldl_cons]
    rw [← ih (n * sizeT a)]
    rw [Int.natCast_mul]
theorem sizeL_eq (l : List (List UInt8)) : sizeL l = if l.length ≤ 4 then (szN l : Int) else 0 := by
  unfold sizeL
  by_cases h : l.length ≤ 4
  · rw [if_pos h, Nat.ble_eq_true_of_le h, cond_true]
    exact fold_cast l 1
  · rw [if_neg h, show Nat.ble l.length 4 = false by rw [Bool.eq_false_iff]; exact fun e => h (Nat.le_of_ble_eq_true e), cond_false]
theorem szN_step (l : List (List UInt8)) (i : Nat) (h : i < l.length) : szN (l.take (i + 1)) = szN (l.take i) * sizeT (l.getD i []) := by
  unfold szN
  rw [← take_snoc [] l i h, List.foldl_append]
  rfl
theorem szN_le (l : List (List UInt8)) (i : Nat) : szN (l.take i) ≤ 1152 ^ i := by
  induction i with
  | zero => simp [szN]
  | succ i ih =>
    rcases Nat.lt_or_ge i l.length with h | h
    · rw [szN_step l i h, Nat.pow_succ]
      exact Nat.mul_le_mul ih (sizeT_le _)
    · rw [List.take_of_length_le (by omega)]
      rw [List.take_of_length_le (by omega)] at ih
      rw [Nat.pow_succ]
      omega
theorem pow_small (i : Nat) (h : i ≤ 4) : 1152 ^ i ≤ 1761205026816 := by
  calc 1152 ^ i ≤ 1152 ^ 4 := Nat.pow_le_pow_right (by omega) h
    _ = 1761205026816 := by decide
theorem cutX_len : ∀ (s p : List UInt8), (cutX p s).length ≤ s.length + 1
  | [], p => by simp [cutX]
  | b :: l, p => by
    simp only [cutX]
    cases h : b == 120
    · rw [cond_false]; have := cutX_len l (p ++ [b]); simp only [List.length_cons]; omega
    · rw [cond_true]; have := cutX_len l []; simp only [List.length_cons]; omega
theorem cutX_drop (s p : List UInt8) (i : Nat) (h : i < s.length) : cutX p (s.drop i) = if s.getD i 0 = 120 then p :: cutX [] (s.drop (i + 1)) else cutX (p ++ [s.getD i 0]) (s.drop (i + 1)) := by
  rw [List.drop_eq_getElem_cons h]
  have e : s[i] = s.getD i 0 := by simp [List.getD_eq_getElem?_getD, h]
  simp only [cutX, e]
  by_cases h2 : s.getD i 0 = 120
  · rw [if_pos h2, show (s.getD i 0 == 120) = true from beq_iff_eq.2 h2, cond_true]
  · rw [if_neg h2, show (s.getD i 0 == 120) = false from by rw [Bool.eq_false_iff]; exact fun e => h2 (beq_iff_eq.1 e), cond_false]
theorem c_spec_l2Cut (s : List UInt8) (hs : s.length ≤ 1000) : FunA B 122 [.str s, .int .u8 120] (fun rs o => rs = [.own 0 0] ∧ o = [.arr .str (cutX [] s) 0 true]) := by
  refine FunA.walk B_ok (fn := Tryz.f122) (fun vs w => Tryz.call122 vs w) Tryz.func122 rfl (by rw [Tryz.ntmps122]; simp) (fun C hC hP hT hΓ hbt hfn hpin hfin => ?_); have hX := BX; rw [← hΓ, ← hbt.1, ← hbt.2.1, ← hbt.2.2.1] at hX; rw [hT] at hX; rw [Tryz.ntmps122]; simp only [AW7, simprocAttr, hX]
  refine Run.R ?_
  refine Run.R ?_
  refine Run.R ?_
  refine Run.R ?_
  refine Run.loopI (X := List (List UInt8) × List UInt8 × Nat) (fun x => ⟨35, [(0, true, .v (.str (s))), (1, true, .v (.int .u8 (120))), (4, true, .v (.nils)), (5, true, .v (.own 0 0)), (6, true, .v (.str (x.2.1))), (7, true, .v (.int .i64 (x.2.2)))], [.arr .str (x.1) 0 true]⟩) (fun x => (x.2.2 ≤ s.length ∧ x.2.1.length ≤ x.2.2 ∧ x.1.length ≤ x.2.2) ∧ x.1 ++ cutX x.2.1 (s.drop x.2.2) = cutX [] s) (fun x => s.length - x.2.2) (([], [], 0)) (⟨⟨Nat.zero_le _, by simp, by simp⟩, rfl⟩) ?_ ?_
  · exact Le.sub (by first | rfl | simp) (by simp only [AW7, simprocAttr, hX]; try simp <;> try (first | rfl | exact ⟨rfl, rfl⟩ | exact ⟨rfl, rfl, rfl⟩))
  rintro ⟨ps, p, i⟩ ⟨⟨hi, hpl, hpsl⟩, hE⟩ ih
  try simp only []
  simp only [] at hi hpl hpsl hE
  have hm2 : p.length ≤ maxLen := by simp [maxLen]; omega
  refine Run.R ?_
  refine Run.nq ?_; refine Run.cW ?_ ?_
  rotate_left
  · intro h
    have h : i = s.length := by rw [decide_eq_false_iff_not] at h; omega
    subst h
    rw [List.drop_length] at hE
    refine Run.exit rfl ?_; refine Run.nq ?_
    refine Run.R ?_
    refine Run.reK hpin [4] [0] (by decide) (by simp) ?_; simp only [AR, AW7, simprocAttr]
    refine Run.rW [4] (hfin _ _ rfl rfl ?_)
    exact ⟨rfl, by rw [← hE]; rfl⟩
  intro h
  have h : i < s.length := by rw [decide_eq_true_eq] at h; omega
  have hst := cutX_drop s p i h
  refine Run.R ?_
  refine Run.nq ?_; refine Run.cW ?_ ?_
  · intro h2
    have h2 : s.getD i 0 = 120 := by
      have h2 : (((s.getD i 0).toNat : Nat) : Int) = 120 := by simpa [-List.getD_eq_getElem?_getD] using h2
      apply UInt8.toNat.inj
      have : (120 : UInt8).toNat = 120 := rfl
      omega
    rw [if_pos h2] at hst
    refine Run.R ?_
    refine Run.R ?_
    refine Run.RW ?_
    refine Run.reK hpin [0, 1, 4, 5, 6, 7] [0] (by decide) (by simp) ?_; simp only [AR, AW7, simprocAttr]
    refine Run.le ?_ (ih ((ps ++ [p], [], i + 1)) (⟨⟨h, by simp only [List.length_nil]; omega, by simp only [List.length_append, List.length_cons, List.length_nil]; omega⟩, by rw [List.append_assoc, List.singleton_append, ← hst]; exact hE⟩) (by (try simp only [List.length_append, List.length_cons, List.length_nil]); omega))
    exact Le.sub (by rfl) (by simp only [AW7, simprocAttr]; try simp)
  · intro h2
    have h2 : ¬ s.getD i 0 = 120 := by
      intro e
      rw [e] at h2
      simp at h2
    rw [if_neg h2] at hst
    have e2 : ((i : Int) + 1).toNat = i + 1 := by omega
    have hm1 : p.length + (List.take (i + 1 - i) (List.drop i s)).length ≤ maxLen := by simp [maxLen]; omega
    have e3 : List.take (i + 1 - i) (List.drop i s) = [s.getD i 0] := by
      rw [show i + 1 - i = 1 by omega, List.drop_eq_getElem_cons h, List.getD_eq_getElem?_getD, List.getElem?_eq_getElem h]; rfl
    refine Run.nq ?_; refine Run.regionW hC (fun K hK => ?_); refine wWW ?_
    refine wE ?_; clear hK K
    rw [e2, e3]
    refine Run.RW ?_
    refine Run.reK hpin [0, 1, 4, 5, 6, 7] [0] (by decide) (by simp) ?_; simp only [AR, AW7, simprocAttr]
    refine Run.le ?_ (ih ((ps, p ++ [s.getD i 0], i + 1)) (⟨⟨h, by simp only [List.length_append, List.length_cons, List.length_nil]; omega, by simp only []; omega⟩, by rw [← hst]; exact hE⟩) (by (try simp only [List.length_append, List.length_cons, List.length_nil]); omega))
    exact Le.sub (by rfl) (by simp only [AW7, simprocAttr]; try simp)
set_option maxHeartbeats 4000000 in
theorem c_spec_SizeByName (s : List UInt8) (hs : s.length ≤ 1000) : FunA B 92 [.str s] (fun rs o => rs = [.int .i64 (sizeL (cutX [] s))] ∧ o = []) := by
  refine FunA.walk B_ok (fn := Tryz.f92) (fun vs w => Tryz.call92 vs w) Tryz.func92 rfl (by rw [Tryz.ntmps92]; simp) (fun C hC hP hT hΓ hbt hfn hpin hfin => ?_); have hX := BX; rw [← hΓ, ← hbt.1, ← hbt.2.1, ← hbt.2.2.1] at hX; rw [hT] at hX; rw [Tryz.ntmps92]; simp only [AW7, simprocAttr, hX]
  refine Run.R ?_
  refine Run.nq ?_; refine Run.regionW hC (fun K hK => ?_); refine wW ?_
  refine FunA.cW hP hT (c_spec_l2Cut s hs) ?_
  rintro rs o ⟨rfl, rfl⟩
  refine wW ?_
  refine wE ?_; clear hK K
  have hl := cutX_len s []
  have hsz := sizeL_eq (cutX [] s)
  generalize cutX [] s = l at *
  refine Run.R ?_
  refine Run.R ?_
  refine Run.reK hpin [0, 2, 3, 4, 5] [0] (by decide) (by simp) ?_; simp only [AR, AW7, simprocAttr]
  refine Run.loopI (X := Nat) (fun i => ⟨52, [(0, true, .v (.str (s))), (2, true, .v (.int .i64 (0))), (3, true, .v (.own 0 0)), (4, true, .v (.int .i64 (((szN (l.take i) : Nat))))), (5, true, .v (.int .i64 (i)))], [.arr .str (l) 0 true]⟩) (fun i => i ≤ l.length ∧ i ≤ 4) (fun i => l.length - i) (0) (⟨Nat.zero_le _, by omega⟩) ?_ ?_
  · exact Le.sub (by first | rfl | simp) (by simp only [AW7, simprocAttr, hX]; try simp <;> try (first | rfl | exact ⟨rfl, rfl⟩ | exact ⟨rfl, rfl, rfl⟩))
  rintro i ⟨hi, hi4⟩ ih
  try simp only []
  refine Run.R ?_
  refine Run.nq ?_; refine Run.cW ?_ ?_
  rotate_left
  · intro h
    have h : i = l.length ∨ (i = 4 ∧ i < l.length) := by
      by_cases h1 : i < l.length
      · right
        refine ⟨?_, h1⟩
        have e1 : decide ((i : Int) < l.length) = true := by simp; exact h1
        rw [e1] at h
        simp at h
        omega
      · left; omega
    refine Run.exit rfl ?_; refine Run.nq ?_
    refine Run.R ?_
    refine Run.nq ?_; refine Run.cW ?_ ?_
    · intro h3
      have h3 : 4 < l.length := by rw [decide_eq_true_eq] at h3; omega
      refine Run.R ?_
      refine Run.reK hpin [2] [] (by decide) (by simp) ?_; simp only [AR, AW7, simprocAttr]
      refine Run.rW [2] (hfin _ _ rfl rfl ?_)
      exact ⟨by rw [hsz, if_neg (by omega)], rfl⟩
    · intro h3
      have h3 : l.length ≤ 4 := by rw [decide_eq_false_iff_not] at h3; omega
      have h4 : i = l.length := by omega
      subst h4
      rw [List.take_length]
      refine Run.R ?_
      refine Run.reK hpin [2] [] (by decide) (by simp) ?_; simp only [AR, AW7, simprocAttr]
      refine Run.rW [2] (hfin _ _ rfl rfl ?_)
      exact ⟨by rw [hsz, if_pos h3], rfl⟩
  intro h
  have h : i < l.length ∧ i < 4 := by
    by_cases h1 : i < l.length
    · have e1 : decide ((i : Int) < l.length) = true := by simp; exact h1
      rw [e1] at h
      simp at h
      omega
    · have e1 : decide ((i : Int) < l.length) = false := by simp; omega
      rw [e1] at h
      simp at h
  obtain ⟨h, h4⟩ := h
  have hst := szN_step l i h
  have hb1 := szN_le l i
  have hb2 := szN_le l (i + 1)
  have hb3 := pow_small i (by omega)
  have hb4 := pow_small (i + 1) (by omega)
  refine Run.R ?_
  refine Run.R ?_
  generalize hq : l.getD i [] = nm at *
  refine Run.R ?_
  refine Run.nq ?_; refine Run.cW ?_ ?_
  · intro h
    have h : nm = [65, 49] := by simpa using h
    refine Run.R ?_
    have hz : sizeT nm = 2 := by rw [h]; decide
    rw [hz] at hst
    have hz2 : IntKind.i64.wrap (((szN (l.take i) : Nat) : Int) * 2) = ((szN (l.take (i + 1)) : Nat) : Int) := by rw [hst, wrap_id (by omega)]; omega
    refine Run.nq ?_; refine Run.regionW hC (fun K hK => ?_); refine wW ?_
    rw [hz2]
    refine wW ?_
    refine wE ?_; clear hK K
    refine Run.RW ?_
    refine Run.reK hpin [0, 2, 3, 4, 5] [0] (by decide) (by simp) ?_; simp only [AR, AW7, simprocAttr]
    refine Run.le ?_ (ih (i + 1) (by omega) (by (try simp only [List.length_append, List.length_cons, List.length_nil]); omega))
    exact Le.sub (by rfl) (by simp only [AW7, simprocAttr]; try simp)
  intro n0
  have n0 : ¬ nm = [65, 49] := by simpa using n0
  refine Run.R ?_
  refine Run.nq ?_; refine Run.cW ?_ ?_
  · intro h
    have h : nm = [65, 50] := by simpa using h
    refine Run.R ?_
    have hz : sizeT nm = 6 := by rw [h]; decide
    rw [hz] at hst
    have hz2 : IntKind.i64.wrap (((szN (l.take i) : Nat) : Int) * 6) = ((szN (l.take (i + 1)) : Nat) : Int) := by rw [hst, wrap_id (by omega)]; omega
    refine Run.nq ?_; refine Run.regionW hC (fun K hK => ?_); refine wW ?_
    rw [hz2]
    refine wW ?_
    refine wE ?_; clear hK K
    refine Run.RW ?_
    refine Run.reK hpin [0, 2, 3, 4, 5] [0] (by decide) (by simp) ?_; simp only [AR, AW7, simprocAttr]
    refine Run.le ?_ (ih (i + 1) (by omega) (by (try simp only [List.length_append, List.length_cons, List.length_nil]); omega))
    exact Le.sub (by rfl) (by simp only [AW7, simprocAttr]; try simp)
  intro n1
  have n1 : ¬ nm = [65, 50] := by simpa using n1
  refine Run.R ?_
  refine Run.nq ?_; refine Run.cW ?_ ?_
  · intro h
    have h : nm = [65, 51] := by simpa using h
    refine Run.R ?_
    have hz : sizeT nm = 24 := by rw [h]; decide
    rw [hz] at hst
    have hz2 : IntKind.i64.wrap (((szN (l.take i) : Nat) : Int) * 24) = ((szN (l.take (i + 1)) : Nat) : Int) := by rw [hst, wrap_id (by omega)]; omega
    refine Run.nq ?_; refine Run.regionW hC (fun K hK => ?_); refine wW ?_
    rw [hz2]
    refine wW ?_
    refine wE ?_; clear hK K
    refine Run.RW ?_
    refine Run.reK hpin [0, 2, 3, 4, 5] [0] (by decide) (by simp) ?_; simp only [AR, AW7, simprocAttr]
    refine Run.le ?_ (ih (i + 1) (by omega) (by (try simp only [List.length_append, List.length_cons, List.length_nil]); omega))
    exact Le.sub (by rfl) (by simp only [AW7, simprocAttr]; try simp)
  intro n2
  have n2 : ¬ nm = [65, 51] := by simpa using n2
  refine Run.R ?_
  refine Run.nq ?_; refine Run.cW ?_ ?_
  · intro h
    have h : nm = [65, 52] := by simpa using h
    refine Run.R ?_
    have hz : sizeT nm = 120 := by rw [h]; decide
    rw [hz] at hst
    have hz2 : IntKind.i64.wrap (((szN (l.take i) : Nat) : Int) * 120) = ((szN (l.take (i + 1)) : Nat) : Int) := by rw [hst, wrap_id (by omega)]; omega
    refine Run.nq ?_; refine Run.regionW hC (fun K hK => ?_); refine wW ?_
    rw [hz2]
    refine wW ?_
    refine wE ?_; clear hK K
    refine Run.RW ?_
    refine Run.reK hpin [0, 2, 3, 4, 5] [0] (by decide) (by simp) ?_; simp only [AR, AW7, simprocAttr]
    refine Run.le ?_ (ih (i + 1) (by omega) (by (try simp only [List.length_append, List.length_cons, List.length_nil]); omega))
    exact Le.sub (by rfl) (by simp only [AW7, simprocAttr]; try simp)
  intro n3
  have n3 : ¬ nm = [65, 52] := by simpa using n3
  refine Run.R ?_
  refine Run.nq ?_; refine Run.cW ?_ ?_
  · intro h
    have h : nm = [66, 50] := by simpa using h
    refine Run.R ?_
    have hz : sizeT nm = 8 := by rw [h]; decide
    rw [hz] at hst
    have hz2 : IntKind.i64.wrap (((szN (l.take i) : Nat) : Int) * 8) = ((szN (l.take (i + 1)) : Nat) : Int) := by rw [hst, wrap_id (by omega)]; omega
    refine Run.nq ?_; refine Run.regionW hC (fun K hK => ?_); refine wW ?_
    rw [hz2]
    refine wW ?_
    refine wE ?_; clear hK K
    refine Run.RW ?_
    refine Run.reK hpin [0, 2, 3, 4, 5] [0] (by decide) (by simp) ?_; simp only [AR, AW7, simprocAttr]
    refine Run.le ?_ (ih (i + 1) (by omega) (by (try simp only [List.length_append, List.length_cons, List.length_nil]); omega))
    exact Le.sub (by rfl) (by simp only [AW7, simprocAttr]; try simp)
  intro n4
  have n4 : ¬ nm = [66, 50] := by simpa using n4
  refine Run.R ?_
  refine Run.nq ?_; refine Run.cW ?_ ?_
  · intro h
    have h : nm = [66, 51] := by simpa using h
    refine Run.nq ?_; refine Run.cW ?_ ?_
    rotate_left
    · intro h9; rw [h] at h9; exact absurd h9 (by decide)
    intro _
    refine Run.R ?_
    have hz : sizeT nm = 48 := by rw [h]; decide
    rw [hz] at hst
    have hz2 : IntKind.i64.wrap (((szN (l.take i) : Nat) : Int) * 48) = ((szN (l.take (i + 1)) : Nat) : Int) := by rw [hst, wrap_id (by omega)]; omega
    refine Run.nq ?_; refine Run.regionW hC (fun K hK => ?_); refine wW ?_
    rw [hz2]
    refine wW ?_
    refine wE ?_; clear hK K
    refine Run.RW ?_
    refine Run.reK hpin [0, 2, 3, 4, 5] [0] (by decide) (by simp) ?_; simp only [AR, AW7, simprocAttr]
    refine Run.le ?_ (ih (i + 1) (by omega) (by (try simp only [List.length_append, List.length_cons, List.length_nil]); omega))
    exact Le.sub (by rfl) (by simp only [AW7, simprocAttr]; try simp)
  intro n5
  have n5 : ¬ nm = [66, 51] := by simpa using n5
  refine Run.R ?_
  refine Run.nq ?_; refine Run.cW ?_ ?_
  · intro h
    have h : nm = [67, 51] := by simpa using h
    refine Run.R ?_
    have hz : sizeT nm = 48 := by rw [h]; decide
    rw [hz] at hst
    have hz2 : IntKind.i64.wrap (((szN (l.take i) : Nat) : Int) * 48) = ((szN (l.take (i + 1)) : Nat) : Int) := by rw [hst, wrap_id (by omega)]; omega
    refine Run.nq ?_; refine Run.regionW hC (fun K hK => ?_); refine wW ?_
    rw [hz2]
    refine wW ?_
    refine wE ?_; clear hK K
    refine Run.RW ?_
    refine Run.reK hpin [0, 2, 3, 4, 5] [0] (by decide) (by simp) ?_; simp only [AR, AW7, simprocAttr]
    refine Run.le ?_ (ih (i + 1) (by omega) (by (try simp only [List.length_append, List.length_cons, List.length_nil]); omega))
    exact Le.sub (by rfl) (by simp only [AW7, simprocAttr]; try simp)
  intro n6
  have n6 : ¬ nm = [67, 51] := by simpa using n6
  refine Run.R ?_
  refine Run.nq ?_; refine Run.cW ?_ ?_
  · intro h
    have h : nm = [66, 52] := by simpa using h
    refine Run.nq ?_; refine Run.cW ?_ ?_
    rotate_left
    · intro h9; rw [h] at h9; exact absurd h9 (by decide)
    intro _
    refine Run.R ?_
    have hz : sizeT nm = 384 := by rw [h]; decide
    rw [hz] at hst
    have hz2 : IntKind.i64.wrap (((szN (l.take i) : Nat) : Int) * 384) = ((szN (l.take (i + 1)) : Nat) : Int) := by rw [hst, wrap_id (by omega)]; omega
    refine Run.nq ?_; refine Run.regionW hC (fun K hK => ?_); refine wW ?_
    rw [hz2]
    refine wW ?_
    refine wE ?_; clear hK K
    refine Run.RW ?_
    refine Run.reK hpin [0, 2, 3, 4, 5] [0] (by decide) (by simp) ?_; simp only [AR, AW7, simprocAttr]
    refine Run.le ?_ (ih (i + 1) (by omega) (by (try simp only [List.length_append, List.length_cons, List.length_nil]); omega))
    exact Le.sub (by rfl) (by simp only [AW7, simprocAttr]; try simp)
  intro n7
  have n7 : ¬ nm = [66, 52] := by simpa using n7
  refine Run.R ?_
  refine Run.nq ?_; refine Run.cW ?_ ?_
  · intro h
    have h : nm = [67, 52] := by simpa using h
    refine Run.R ?_
    have hz : sizeT nm = 384 := by rw [h]; decide
    rw [hz] at hst
    have hz2 : IntKind.i64.wrap (((szN (l.take i) : Nat) : Int) * 384) = ((szN (l.take (i + 1)) : Nat) : Int) := by rw [hst, wrap_id (by omega)]; omega
    refine Run.nq ?_; refine Run.regionW hC (fun K hK => ?_); refine wW ?_
    rw [hz2]
    refine wW ?_
    refine wE ?_; clear hK K
    refine Run.RW ?_
    refine Run.reK hpin [0, 2, 3, 4, 5] [0] (by decide) (by simp) ?_; simp only [AR, AW7, simprocAttr]
    refine Run.le ?_ (ih (i + 1) (by omega) (by (try simp only [List.length_append, List.length_cons, List.length_nil]); omega))
    exact Le.sub (by rfl) (by simp only [AW7, simprocAttr]; try simp)
  intro n8
  have n8 : ¬ nm = [67, 52] := by simpa using n8
  refine Run.R ?_
  refine Run.nq ?_; refine Run.cW ?_ ?_
  · intro h
    have h : nm = [68, 52] := by simpa using h
    refine Run.R ?_
    have hz : sizeT nm = 192 := by rw [h]; decide
    rw [hz] at hst
    have hz2 : IntKind.i64.wrap (((szN (l.take i) : Nat) : Int) * 192) = ((szN (l.take (i + 1)) : Nat) : Int) := by rw [hst, wrap_id (by omega)]; omega
    refine Run.nq ?_; refine Run.regionW hC (fun K hK => ?_); refine wW ?_
    rw [hz2]
    refine wW ?_
    refine wE ?_; clear hK K
    refine Run.RW ?_
    refine Run.reK hpin [0, 2, 3, 4, 5] [0] (by decide) (by simp) ?_; simp only [AR, AW7, simprocAttr]
    refine Run.le ?_ (ih (i + 1) (by omega) (by (try simp only [List.length_append, List.length_cons, List.length_nil]); omega))
    exact Le.sub (by rfl) (by simp only [AW7, simprocAttr]; try simp)
  intro n9
  have n9 : ¬ nm = [68, 52] := by simpa using n9
  refine Run.R ?_
  refine Run.nq ?_; refine Run.cW ?_ ?_
  · intro h
    have h : nm = [70, 52] := by simpa using h
    refine Run.R ?_
    have hz : sizeT nm = 1152 := by rw [h]; decide
    rw [hz] at hst
    have hz2 : IntKind.i64.wrap (((szN (l.take i) : Nat) : Int) * 1152) = ((szN (l.take (i + 1)) : Nat) : Int) := by rw [hst, wrap_id (by omega)]; omega
    refine Run.nq ?_; refine Run.regionW hC (fun K hK => ?_); refine wW ?_
    rw [hz2]
    refine wW ?_
    refine wE ?_; clear hK K
    refine Run.RW ?_
    refine Run.reK hpin [0, 2, 3, 4, 5] [0] (by decide) (by simp) ?_; simp only [AR, AW7, simprocAttr]
    refine Run.le ?_ (ih (i + 1) (by omega) (by (try simp only [List.length_append, List.length_cons, List.length_nil]); omega))
    exact Le.sub (by rfl) (by simp only [AW7, simprocAttr]; try simp)
  intro n10
  have n10 : ¬ nm = [70, 52] := by simpa using n10
  refine Run.R ?_
  refine Run.nq ?_; refine Run.cW ?_ ?_
  · intro h
    have h : nm = [71, 50] := by simpa using h
    refine Run.R ?_
    have hz : sizeT nm = 12 := by rw [h]; decide
    rw [hz] at hst
    have hz2 : IntKind.i64.wrap (((szN (l.take i) : Nat) : Int) * 12) = ((szN (l.take (i + 1)) : Nat) : Int) := by rw [hst, wrap_id (by omega)]; omega
    refine Run.nq ?_; refine Run.regionW hC (fun K hK => ?_); refine wW ?_
    rw [hz2]
    refine wW ?_
    refine wE ?_; clear hK K
    refine Run.RW ?_
    refine Run.reK hpin [0, 2, 3, 4, 5] [0] (by decide) (by simp) ?_; simp only [AR, AW7, simprocAttr]
    refine Run.le ?_ (ih (i + 1) (by omega) (by (try simp only [List.length_append, List.length_cons, List.length_nil]); omega))
    exact Le.sub (by rfl) (by simp only [AW7, simprocAttr]; try simp)
  intro n11
  have n11 : ¬ nm = [71, 50] := by simpa using n11
  have hz : sizeT nm = 0 := by
    unfold sizeT
    split
    · rename_i t ht
      have hm := List.mem_of_find?_eq_some ht
      have hn : t.1 = nm := by simpa using List.find?_some ht
      subst hn
      have : t.2.2 = 0 ∨ t.1 ∈ [[65, 49], [65, 50], [65, 51], [65, 52], [66, 50], [66, 51], [67, 51], [66, 52], [67, 52], [68, 52], [70, 52], [71, 50]] := (by decide : ∀ t ∈ tyL, t.2.2 = 0 ∨ t.1 ∈ [[65, 49], [65, 50], [65, 51], [65, 52], [66, 50], [66, 51], [67, 51], [66, 52], [67, 52], [68, 52], [70, 52], [71, 50]]) t hm
      rcases this with h | h
      · exact h
      · exfalso; revert h; simp [n0, n1, n2, n3, n4, n5, n6, n7, n8, n9, n10, n11]
    · rfl
  rw [hz] at hst
  have hz2 : IntKind.i64.wrap (((szN (l.take i) : Nat) : Int) * 0) = ((szN (l.take (i + 1)) : Nat) : Int) := by rw [hst, wrap_id (by omega)]; omega
  refine Run.nq ?_; refine Run.regionW hC (fun K hK => ?_); refine wW ?_
  rw [hz2]
  refine wW ?_
  refine wE ?_; clear hK K
  refine Run.RW ?_
  refine Run.reK hpin [0, 2, 3, 4, 5] [0] (by decide) (by simp) ?_; simp only [AR, AW7, simprocAttr]
  refine Run.le ?_ (ih (i + 1) (by omega) (by (try simp only [List.length_append, List.length_cons, List.length_nil]); omega))
  exact Le.sub (by rfl) (by simp only [AW7, simprocAttr]; try simp)
theorem c_impl_sizeOfType (nm : List UInt8) : FunA B 129 [.str nm] (fun rs o => rs = [.int .i64 (sizeT nm : Nat)] ∧ o = []) := by
  refine FunA.walk B_ok (fn := Tryz.f129) (fun vs w => Tryz.call129 vs w) Tryz.func129 rfl (by rw [Tryz.ntmps129]; simp) (fun C hC hP hT hΓ hbt hfn hpin hfin => ?_); have hX := BX; rw [← hΓ, ← hbt.1, ← hbt.2.1, ← hbt.2.2.1] at hX; rw [hT] at hX; rw [Tryz.ntmps129]; simp only [AW7, simprocAttr, hX]
  refine Run.R ?_
  refine Run.R ?_
  refine Run.R ?_
  refine Run.nq ?_; refine Run.cW ?_ ?_
  · intro h
    have h : nm = [65, 49] := by simpa using h
    refine Run.R ?_
    have hz : sizeT nm = 2 := by rw [h]; decide
    refine Run.rW [2] (hfin _ _ rfl rfl ?_)
    exact ⟨by rw [hz]; rfl, rfl⟩
  intro n0
  have n0 : ¬ nm = [65, 49] := by simpa using n0
  refine Run.R ?_
  refine Run.nq ?_; refine Run.cW ?_ ?_
  · intro h
    have h : nm = [65, 50] := by simpa using h
    refine Run.R ?_
    have hz : sizeT nm = 6 := by rw [h]; decide
    refine Run.rW [2] (hfin _ _ rfl rfl ?_)
    exact ⟨by rw [hz]; rfl, rfl⟩
  intro n1
  have n1 : ¬ nm = [65, 50] := by simpa using n1
  refine Run.R ?_
  refine Run.nq ?_; refine Run.cW ?_ ?_
  · intro h
    have h : nm = [65, 51] := by simpa using h
    refine Run.R ?_
    have hz : sizeT nm = 24 := by rw [h]; decide
    refine Run.rW [2] (hfin _ _ rfl rfl ?_)
    exact ⟨by rw [hz]; rfl, rfl⟩
  intro n2
  have n2 : ¬ nm = [65, 51] := by simpa using n2
  refine Run.R ?_
  refine Run.nq ?_; refine Run.cW ?_ ?_
  · intro h
    have h : nm = [65, 52] := by simpa using h
    refine Run.R ?_
    have hz : sizeT nm = 120 := by rw [h]; decide
    refine Run.rW [2] (hfin _ _ rfl rfl ?_)
    exact ⟨by rw [hz]; rfl, rfl⟩
  intro n3
  have n3 : ¬ nm = [65, 52] := by simpa using n3
  refine Run.R ?_
  refine Run.nq ?_; refine Run.cW ?_ ?_
  · intro h
    have h : nm = [66, 50] := by simpa using h
    refine Run.R ?_
    have hz : sizeT nm = 8 := by rw [h]; decide
    refine Run.rW [2] (hfin _ _ rfl rfl ?_)
    exact ⟨by rw [hz]; rfl, rfl⟩
  intro n4
  have n4 : ¬ nm = [66, 50] := by simpa using n4
  refine Run.R ?_
  refine Run.nq ?_; refine Run.cW ?_ ?_
  · intro h
    have h : nm = [66, 51] := by simpa using h
    refine Run.nq ?_; refine Run.cW ?_ ?_
    rotate_left
    · intro h9; rw [h] at h9; exact absurd h9 (by decide)
    intro _
    refine Run.R ?_
    have hz : sizeT nm = 48 := by rw [h]; decide
    refine Run.rW [2] (hfin _ _ rfl rfl ?_)
    exact ⟨by rw [hz]; rfl, rfl⟩
  intro n5
  have n5 : ¬ nm = [66, 51] := by simpa using n5
  refine Run.R ?_
  refine Run.nq ?_; refine Run.cW ?_ ?_
  · intro h
    have h : nm = [67, 51] := by simpa using h
    refine Run.R ?_
    have hz : sizeT nm = 48 := by rw [h]; decide
    refine Run.rW [2] (hfin _ _ rfl rfl ?_)
    exact ⟨by rw [hz]; rfl, rfl⟩
  intro n6
  have n6 : ¬ nm = [67, 51] := by simpa using n6
  refine Run.R ?_
  refine Run.nq ?_; refine Run.cW ?_ ?_
  · intro h
    have h : nm = [66, 52] := by simpa using h
    refine Run.nq ?_; refine Run.cW ?_ ?_
    rotate_left
    · intro h9; rw [h] at h9; exact absurd h9 (by decide)
    intro _
    refine Run.R ?_
    have hz : sizeT nm = 384 := by rw [h]; decide
    refine Run.rW [2] (hfin _ _ rfl rfl ?_)
    exact ⟨by rw [hz]; rfl, rfl⟩
  intro n7
  have n7 : ¬ nm = [66, 52] := by simpa using n7
  refine Run.R ?_
  refine Run.nq ?_; refine Run.cW ?_ ?_
  · intro h
    have h : nm = [67, 52] := by simpa using h
    refine Run.R ?_
    have hz : sizeT nm = 384 := by rw [h]; decide
    refine Run.rW [2] (hfin _ _ rfl rfl ?_)
    exact ⟨by rw [hz]; rfl, rfl⟩
  intro n8
  have n8 : ¬ nm = [67, 52] := by simpa using n8
  refine Run.R ?_
  refine Run.nq ?_; refine Run.cW ?_ ?_
  · intro h
    have h : nm = [68, 52] := by simpa using h
    refine Run.R ?_
    have hz : sizeT nm = 192 := by rw [h]; decide
    refine Run.rW [2] (hfin _ _ rfl rfl ?_)
    exact ⟨by rw [hz]; rfl, rfl⟩
  intro n9
  have n9 : ¬ nm = [68, 52] := by simpa using n9
  refine Run.R ?_
  refine Run.nq ?_; refine Run.cW ?_ ?_
  · intro h
    have h : nm = [70, 52] := by simpa using h
    refine Run.R ?_
    have hz : sizeT nm = 1152 := by rw [h]; decide
    refine Run.rW [2] (hfin _ _ rfl rfl ?_)
    exact ⟨by rw [hz]; rfl, rfl⟩
  intro n10
  have n10 : ¬ nm = [70, 52] := by simpa using n10
  refine Run.R ?_
  refine Run.nq ?_; refine Run.cW ?_ ?_
  · intro h
    have h : nm = [71, 50] := by simpa using h
    refine Run.R ?_
    have hz : sizeT nm = 12 := by rw [h]; decide
    refine Run.rW [2] (hfin _ _ rfl rfl ?_)
    exact ⟨by rw [hz]; rfl, rfl⟩
  intro n11
  have n11 : ¬ nm = [71, 50] := by simpa using n11
  have hz : sizeT nm = 0 := by
    unfold sizeT
    split
    · rename_i t ht
      have hm := List.mem_of_find?_eq_some ht
      have hn : t.1 = nm := by simpa using List.find?_some ht
      subst hn
      have : t.2.2 = 0 ∨ t.1 ∈ [[65, 49], [65, 50], [65, 51], [65, 52], [66, 50], [66, 51], [67, 51], [66, 52], [67, 52], [68, 52], [70, 52], [71, 50]] := (by decide : ∀ t ∈ tyL, t.2.2 = 0 ∨ t.1 ∈ [[65, 49], [65, 50], [65, 51], [65, 52], [66, 50], [66, 51], [67, 51], [66, 52], [67, 52], [68, 52], [70, 52], [71, 50]]) t hm
      rcases this with h | h
      · exact h
      · exfalso; revert h; simp [n0, n1, n2, n3, n4, n5, n6, n7, n8, n9, n10, n11]
    · rfl
  refine Run.R ?_
  refine Run.rW [2] (hfin _ _ rfl rfl ?_)
  exact ⟨by rw [hz]; rfl, rfl⟩
end Go.Proofs.YtaghdbbcadhjdaaGreatDoor
namespace Go.Proofs.YtaghdbbcadhjdaaGreatDoor
open Go Go.Aw Go.Cox
theorem pick_ent {c : List (List Int)} {s : List Int} {i j : Nat} (hi : i < s.length) (hj : j < s.length) : ent (pick c s) i j = ent c (s.getD i 0).toNat (s.getD j 0).toNat := by
  simp [ent, pick, List.getD_eq_getElem?_getD, hi, hj]
theorem pick_cartan {c : List (List Int)} (hc : CartanP c) {s : List Int} (hs : setP c.length s) (hne : s ≠ []) : CartanP (pick c s) := by
  have hl := set_len hs
  have hn := hc.2.1
  have hp : 0 < s.length := List.length_pos_iff.2 hne
  have e : (pick c s).length = s.length := by simp [pick]
  refine ⟨by omega, by omega, fun i hi => ?_, fun i j hi hj hb => ?_⟩
  · rw [e] at hi ⊢
    simp [pick, List.getD_eq_getElem?_getD, hi]
  · rw [e] at hi hj
    obtain ⟨a1, a2, _⟩ := hs i hi
    obtain ⟨b1, b2, _⟩ := hs j hj
    refine hc.2.2.2 (s.getD i 0).toNat (s.getD j 0).toNat (by omega) (by omega) ?_
    rcases hb with ⟨h1, h2⟩ | ⟨h1, h2⟩
    · refine .inl ⟨by rw [h1], ?_⟩
      rwa [pick_ent hi hj] at h2
    · refine .inr ⟨fun h => ?_, ?_⟩
      · rcases Nat.lt_or_ge i j with q | q
        · have := setP_mono hs i j q hj; omega
        · have := setP_mono hs j i (by omega) hi; omega
      · rwa [pick_ent hi hj, pick_ent hj hi] at h2
theorem map_set {f : Int → Int} (l : List Int) (m : Nat) (h : m < l.length) : ((l.take m).map f ++ l.drop m).set m (f (l.getD m 0)) = (l.take (m + 1)).map f ++ l.drop (m + 1) := by
  rw [← take_snoc 0 l m h, List.set_append, if_neg (by simp; omega)]
  have : l.drop m = l.getD m 0 :: l.drop (m + 1) := by
    rw [List.drop_eq_getElem_cons h]; simp [List.getD_eq_getElem?_getD, h]
  rw [this]
  simp [Nat.min_eq_left (Nat.le_of_lt h)]
end Go.Proofs.YtaghdbbcadhjdaaGreatDoor
namespace Go.Proofs.YtaghdbbcadhjdaaGreatDoor
open Go Go.Aw Go.Cox
theorem splitK_x : ∀ (s : List UInt8), ∃ h t, Lib.split s [120] = h :: t ∧ ∀ p, cutX p s = (p ++ h) :: t
  | [] => ⟨[], [], by unfold Lib.split; rw [Lib.count_miss (by simp [Lib.index])]; rfl, fun p => by simp [cutX]⟩
  | b :: l => by
    obtain ⟨h, t, e1, e2⟩ := splitK_x l
    by_cases hb : b = 120
    · subst hb
      refine ⟨[], h :: t, ?_, fun p => ?_⟩
      · have hix : Lib.index (120 :: l) [120] = ((0 : Nat) : Int) := by rw [Lib.index]; simp [List.isPrefixOf]
        unfold Lib.split at e1 ⊢
        rw [Lib.count_cons_eq, Nat.add_comm, Lib.splitK, if_neg (by rw [hix]; simp), hix]
        simp only [Int.toNat_natCast, Nat.zero_add, List.take_zero, List.length_cons, List.length_nil, List.drop_succ_cons, List.drop_zero]
        rw [e1]
      · simp only [cutX, beq_self_eq_true, cond_true, List.append_nil]
        rw [e2 []]; rfl
    · refine ⟨b :: h, t, ?_, fun p => ?_⟩
      · unfold Lib.split at e1 ⊢
        rw [Lib.count_cons_ne b 120 l hb]
        have hp : ([120] : List UInt8).isPrefixOf (b :: l) = false := by simp [List.isPrefixOf, Ne.symm hb]
        have hix : Lib.index (b :: l) [120] = if Lib.index l [120] == -1 then -1 else Lib.index l [120] + 1 := by rw [Lib.index, hp]; simp
        cases hk : Lib.count l [120] with
        | zero =>
          rw [hk] at e1
          simp only [Lib.splitK] at e1 ⊢
          injection e1 with a1 a2
          rw [a1, a2]
        | succ k =>
          rw [hk] at e1
          simp only [Lib.splitK] at e1 ⊢
          by_cases hm : Lib.index l [120] = -1
          · rw [hix, if_pos (beq_iff_eq.2 hm)]
            rw [if_pos (beq_iff_eq.2 hm)] at e1
            rw [if_pos (beq_iff_eq.2 rfl)]
            injection e1 with a1 a2
            rw [a1, a2]
          · have hge := Lib.index_ge l [120]
            obtain ⟨j, hj⟩ : ∃ j : Nat, Lib.index l [120] = j := ⟨(Lib.index l [120]).toNat, by omega⟩
            rw [if_neg (fun e => hm (beq_iff_eq.1 e))] at e1
            rw [hix, if_neg (fun e => hm (beq_iff_eq.1 e)), if_neg (fun e => by have := beq_iff_eq.1 e; omega)]
            rw [hj] at e1 ⊢
            rw [show ((j : Int) + 1).toNat = j + 1 by omega]
            rw [Int.toNat_natCast] at e1
            simp only [Nat.add_zero, List.take_succ_cons, List.length_cons, List.length_nil, Nat.zero_add] at e1 ⊢
            rw [show j + 1 + 1 = (j + 1) + 1 from rfl, List.drop_succ_cons]
            injection e1 with a1 a2
            rw [a1, a2]
      · have h2 : (b == 120) = false := by rw [Bool.eq_false_iff]; exact fun e => hb (beq_iff_eq.1 e)
        simp only [cutX, h2, cond_false]
        rw [e2]
        simp
theorem split_cutX (s : List UInt8) : Lib.split s [120] = cutX [] s := by
  obtain ⟨h, t, e1, e2⟩ := splitK_x s
  rw [e1, e2]; rfl
theorem join_X : ∀ l : List (List UInt8), Lib.join l [120] = joinX l
  | [] => rfl
  | [x] => Lib.join_one _ _
  | x :: y :: l => by
    have ih := join_X (y :: l)
    rw [Lib.join_cons] at ih ⊢
    simp only [joinX, ← ih, Lib.joinTail, List.map_cons, List.flatten_cons]
    simp
theorem joinX_snoc (x : List UInt8) : ∀ l : List (List UInt8), joinX (l ++ [x]) = if l = [] then x else joinX l ++ [120] ++ x
  | [] => rfl
  | [y] => by simp [joinX]
  | y :: z :: l => by
    have ih := joinX_snoc x (z :: l)
    rw [if_neg (by simp)] at ih ⊢
    simp only [List.cons_append, joinX] at ih ⊢
    rw [ih]
    simp
theorem joinX_cut : ∀ (l : List (List UInt8)), l ≠ [] → (∀ x ∈ l, (120 : UInt8) ∉ x) → cutX [] (joinX l) = l := by
  have key : ∀ (x p r : List UInt8), (120 : UInt8) ∉ x → cutX p (x ++ 120 :: r) = (p ++ x) :: cutX [] r := by
    intro x
    induction x with
    | nil => intro p r _; simp [cutX]
    | cons b x ih =>
      intro p r h
      have hb : (b == 120) = false := by rw [Bool.eq_false_iff]; exact fun e => h (by rw [beq_iff_eq.1 e]; exact List.mem_cons_self ..)
      simp only [List.cons_append, cutX, hb, cond_false]
      rw [ih _ _ (fun e => h (List.mem_cons_of_mem _ e))]
      simp
  have key2 : ∀ (x p : List UInt8), (120 : UInt8) ∉ x → cutX p x = [p ++ x] := by
    intro x
    induction x with
    | nil => intro p _; simp [cutX]
    | cons b x ih =>
      intro p h
      have hb : (b == 120) = false := by rw [Bool.eq_false_iff]; exact fun e => h (by rw [beq_iff_eq.1 e]; exact List.mem_cons_self ..)
      simp only [cutX, hb, cond_false]
      rw [ih _ (fun e => h (List.mem_cons_of_mem _ e))]
      simp
  intro l
  induction l with
  | nil => intro h; exact absurd rfl h
  | cons x l ih =>
    intro _ h
    cases l with
    | nil => simp only [joinX]; rw [key2 _ _ (h x (List.mem_cons_self ..))]; rfl
    | cons y l =>
      simp only [joinX, List.append_assoc, List.singleton_append]
      rw [key _ _ _ (h x (List.mem_cons_self ..)), ih (by simp) (fun z hz => h z (List.mem_cons_of_mem _ hz))]
      rfl
theorem firstT_mem (iso : List (List Int) → List (List Int) → Bool) (a : List (List Int)) : ∀ l : List (List UInt8 × List (List Int) × Nat), firstT iso a l = [63] ∨ firstT iso a l ∈ l.map (·.1)
  | [] => .inl rfl
  | t :: l => by
    simp only [firstT]
    cases iso a t.2.1
    · rcases firstT_mem iso a l with h | h
      · exact .inl h
      · exact .inr (List.mem_cons_of_mem _ h)
    · exact .inr (List.mem_cons_self ..)
theorem firstT_ok (iso : List (List Int) → List (List Int) → Bool) (a : List (List Int)) : (120 : UInt8) ∉ firstT iso a tyL ∧ (firstT iso a tyL).length ≤ 3 := by
  rcases firstT_mem iso a tyL with h | h
  · rw [h]; decide
  · exact (by decide : ∀ x ∈ tyL.map (·.1), (120 : UInt8) ∉ x ∧ x.length ≤ 3) _ h
theorem sizeL_pos {l : List (List UInt8)} (h : 0 < sizeL l) : ∀ x ∈ l, 0 < sizeT x := by
  rw [sizeL_eq] at h
  split at h
  · have key : ∀ (l : List (List UInt8)) (n : Nat), 0 < l.foldl (fun (n : Nat) p => n * sizeT p) n → (0 < n ∧ ∀ x ∈ l, 0 < sizeT x) := by
      intro l
      induction l with
      | nil => intro n h; exact ⟨h, by simp⟩
      | cons a l ih =>
        intro n h
        obtain ⟨h1, h2⟩ := ih _ h
        have h1 : 0 < n * sizeT a := h1
        obtain ⟨h3, h4⟩ : 0 < n ∧ 0 < sizeT a := by
          constructor
          · exact Nat.pos_of_ne_zero fun e => by rw [e, Nat.zero_mul] at h1; omega
          · exact Nat.pos_of_ne_zero fun e => by rw [e, Nat.mul_zero] at h1; omega
        exact ⟨h3, fun x hx => by
          rcases List.mem_cons.1 hx with rfl | hx
          · exact h4
          · exact h2 x hx⟩
    exact (key l 1 (by unfold szN at h; omega)).2
  · omega
theorem name_fine {c : List (List Int)} (hF : FinP c) : ∀ p ∈ partsS c, nameS (pick c p) ≠ [63] := by
  intro p hp e
  obtain ⟨h1, h2, _⟩ := fin_size hF
  rw [h1] at h2
  unfold sizeS at h2
  rw [joinX_cut _ (by intro e2; rw [List.map_eq_nil_iff] at e2; rw [e2] at hp; cases hp) (fun x hx => by
    obtain ⟨q, _, rfl⟩ := List.mem_map.1 hx
    exact (firstT_ok _ _).1)] at h2
  have := sizeL_pos h2 _ (List.mem_map.2 ⟨p, hp, e⟩)
  revert this
  decide
theorem partsS_set {c : List (List Int)} : ∀ p ∈ partsS c, setP c.length p ∧ p ≠ [] := by
  intro p hp
  unfold partsS at hp
  rw [List.mem_filterMap] at hp
  obtain ⟨⟨q, i⟩, hq, he⟩ := hp
  cases hb : ((q.getD 0 0 == (i : Int)))
  · simp only [hb, cond_false] at he; cases he
  · simp only [hb, cond_true, Option.some.injEq] at he
    subst he
    obtain ⟨h0, h1⟩ := List.mem_zipIdx' hq
    simp only [List.length_map, List.length_range, List.getElem_map, List.getElem_range] at h0 h1
    subst h1
    refine ⟨fun k hk => ?_, fun e => ?_⟩
    · obtain ⟨a1, a2⟩ := letters_mem (partS_letters c i) hk
      refine ⟨a1, a2, fun h => ?_⟩
      have hs : (partS c i).Pairwise fun a b => a < b := by
        unfold partS
        rw [List.pairwise_map]
        refine List.Pairwise.imp ?_ (List.Pairwise.filter _ List.pairwise_lt_range)
        intro a b hab
        exact Int.ofNat_lt.2 hab
      rw [List.pairwise_iff_getElem] at hs
      have := hs (k - 1) k (by omega) hk (by omega)
      simpa [List.getD_eq_getElem?_getD, hk, show k - 1 < (partS c i).length by omega] using this
    · have := partS_ne (c := c) h0
      rw [e] at this
      simp at this
theorem partsS_len (c : List (List Int)) : (partsS c).length ≤ c.length := by
  unfold partsS
  refine Nat.le_trans (List.length_filterMap_le ..) ?_
  simp
theorem c_spec_l4Names : FunA B 147 [] (fun rs o => rs = [.own 0 0] ∧ o = [.arr .str (tyL.map (·.1)) 0 true]) := by
  refine FunA.walk B_ok (fn := Tryz.f147) (fun vs w => Tryz.call147 vs w) Tryz.func147 rfl (by rw [Tryz.ntmps147]; simp) (fun C hC hP hT hΓ hbt hfn hpin hfin => ?_); have hX := BX; rw [← hΓ, ← hbt.1, ← hbt.2.1, ← hbt.2.2.1] at hX; rw [hT] at hX; rw [Tryz.ntmps147]; simp only [AW7, simprocAttr, hX]
  refine Run.R ?_
  refine Run.nq ?_; refine Run.regionW hC (fun K hK => ?_); refine wW ?_
  refine ⟨by simp [maxLen], ?_⟩
  refine wE ?_; clear hK K
  refine Run.reK hpin [0] [0] (by decide) (by simp) ?_; simp only [AR, AW7, simprocAttr]
  refine Run.rW [0] (hfin _ _ rfl rfl ?_)
  exact ⟨rfl, rfl⟩
theorem firstT_take (iso : List (List Int) → List (List Int) → Bool) (a : List (List Int)) : ∀ (l : List (List UInt8 × List (List Int) × Nat)) (k : Nat), k < l.length → (∀ j, j < k → iso a (l.getD j ([], [], 0)).2.1 = false) → iso a (l.getD k ([], [], 0)).2.1 = true → firstT iso a l = (l.getD k ([], [], 0)).1
  | [], k, h, _, _ => by simp at h
  | t :: l, 0, _, _, h => by simp only [firstT]; rw [show iso a t.2.1 = true from h]; rfl
  | t :: l, k + 1, hk, h1, h2 => by
    simp only [firstT]
    rw [show iso a t.2.1 = false from h1 0 (by omega)]
    exact firstT_take iso a l k (by simpa using hk) (fun j hj => h1 (j + 1) (by omega)) h2
theorem firstT_none (iso : List (List Int) → List (List Int) → Bool) (a : List (List Int)) : ∀ (l : List (List UInt8 × List (List Int) × Nat)), (∀ j, j < l.length → iso a (l.getD j ([], [], 0)).2.1 = false) → firstT iso a l = [63]
  | [], _ => rfl
  | t :: l, h1 => by
    simp only [firstT]
    rw [show iso a t.2.1 = false from h1 0 (by simp)]
    exact firstT_none iso a l (fun j hj => h1 (j + 1) (by simpa using hj))
def tyA (k : Nat) : List UInt8 × List (List Int) × Nat := tyL.getD k ([], [], 0)
theorem tyA_fine : ∀ k, k < 17 → tcM (tyA k).1 = (tyA k).2.1 ∧ (tyA k).1 ∈ tcN ∧ ctB (tyA k).2.1 = true ∧ (tyL.map (·.1)).getD k [] = (tyA k).1 := by decide +kernel
theorem tyA_cartan {k : Nat} (h : k < 17) : CartanP (tyA k).2.1 := isC_iff.1 (by rw [ctB_eq]; exact (tyA_fine k h).2.2.1)
theorem c_spec_NameOfPart (c : List (List Int)) (hc : CartanP c) (hne : nameS c ≠ [63]) : FunA B 125 [.sl false (.row false) c] (fun rs o => rs = [.str (nameS c)] ∧ o = []) := by
  have hlen : (tyL.map (·.1)).length = 17 := by decide
  refine FunA.walk B_ok (fn := Tryz.f125) (fun vs w => Tryz.call125 vs w) Tryz.func125 rfl (by rw [Tryz.ntmps125]; simp) (fun C hC hP hT hΓ hbt hfn hpin hfin => ?_); have hX := BX; rw [← hΓ, ← hbt.1, ← hbt.2.1, ← hbt.2.2.1] at hX; rw [hT] at hX; rw [Tryz.ntmps125]; simp only [AW7, simprocAttr, hX]
  refine Run.R ?_
  refine Run.nq ?_; refine Run.regionW hC (fun K hK => ?_); refine wW ?_
  refine FunA.cW hP hT (c_spec_l4Names) ?_
  rintro rs o ⟨rfl, rfl⟩
  refine wW ?_
  refine wE ?_; clear hK K
  refine Run.R ?_
  refine Run.reK hpin [0, 2, 3, 4] [0] (by decide) (by simp) ?_; simp only [AR, AW7, simprocAttr]
  refine Run.loopI (X := Nat) (fun k => ⟨38, [(0, true, .v (.sl false (.row false) (c))), (2, true, .v (.str ([]))), (3, true, .v (.own 0 0)), (4, true, .v (.int .i64 (k)))], [.arr .str ((tyL.map (·.1))) 0 true]⟩) (fun k => k ≤ 17 ∧ ∀ j, j < k → isoS c (tyL.getD j ([], [], 0)).2.1 = false) (fun k => 17 - k) (0) (⟨by omega, fun j hj => by omega⟩) ?_ ?_
  · exact Le.sub (by first | rfl | simp) (by simp only [AW7, simprocAttr, hX]; try simp <;> try (first | rfl | exact ⟨rfl, rfl⟩ | exact ⟨rfl, rfl, rfl⟩))
  rintro k ⟨hk, hF⟩ ih
  try simp only []
  refine Run.nq ?_; refine Run.regionW hC (fun K hK => ?_); refine wW ?_
  rw [hlen]
  refine wE ?_; clear hK K
  refine Run.nq ?_; refine Run.cW ?_ ?_
  rotate_left
  · intro h
    have h : k = 17 := by rw [decide_eq_false_iff_not] at h; omega
    subst h
    exact absurd (firstT_none isoS c tyL (fun j hj => hF j hj)) hne
  intro h
  have h : k < 17 := by rw [decide_eq_true_eq] at h; omega
  obtain ⟨t1, t2, t3, t4⟩ := tyA_fine k h
  have hct := tyA_cartan h
  refine Run.nq ?_; refine Run.regionW hC (fun K hK => ?_); refine wW ?_
  rw [t4]
  refine FunA.cW hP hT (c_TypeCartan (tyA k).1 t2) ?_
  rintro rs o ⟨rfl, hs, rfl⟩
  rw [t1]
  refine wW ?_
  refine wE ?_; clear hK K
  refine Run.nq ?_; refine Run.regionW hC (fun K hK => ?_); refine wW ?_
  refine FunA.cW hP hT (c_spec_AreIsomorphic c (tyA k).2.1 hc hct) ?_
  rintro rs o h2
  rcases h2 with ⟨rfl, hi, rfl⟩ | ⟨l, xs, rfl, hi, rfl⟩
  · refine wW ?_
    refine wE ?_; clear hK K
    refine Run.R ?_
    refine Run.nq ?_; refine Run.cW ?_ ?_
    · intro h3; cases h3
    intro _
    refine Run.RW ?_
    refine Run.reK hpin [0, 2, 3, 4] [0] (by decide) (by simp) ?_; simp only [AR, AW7, simprocAttr]
    refine Run.le ?_ (ih (k + 1) (⟨h, fun j hj => (by
      by_cases hj2 : j = k
      · subst hj2; exact hi
      · exact hF j (by omega))⟩) (by (try simp only [List.length_append, List.length_cons, List.length_nil]); omega))
    exact Le.sub (by rfl) (by simp only [AW7, simprocAttr]; try simp)
  · refine wW ?_
    refine wE ?_; clear hK K
    refine Run.R ?_
    refine Run.nq ?_; refine Run.cW ?_ ?_
    rotate_left
    · intro h3; cases h3
    intro _
    refine Run.R ?_
    rw [t4]
    refine Run.reK hpin [2] [] (by decide) (by simp) ?_; simp only [AR, AW7, simprocAttr]
    refine Run.rW [2] (hfin _ _ rfl rfl ?_)
    exact ⟨by rw [show nameS c = (tyA k).1 from firstT_take isoS c tyL k h hF hi], rfl⟩
theorem c_spec_NameOf (c : List (List Int)) (hc : CartanP c) (hne : ∀ p ∈ partsS c, nameS (pick c p) ≠ [63]) : FunA B 93 [.sl false (.row false) c] (fun rs o => rs = [.str (joinX ((partsS c).map fun p => nameS (pick c p)))] ∧ o = []) := by
  have hn := hc.2.1
  have hpl := partsS_len c
  refine FunA.walk B_ok (fn := Tryz.f93) (fun vs w => Tryz.call93 vs w) Tryz.func93 rfl (by rw [Tryz.ntmps93]; simp) (fun C hC hP hT hΓ hbt hfn hpin hfin => ?_); have hX := BX; rw [← hΓ, ← hbt.1, ← hbt.2.1, ← hbt.2.2.1] at hX; rw [hT] at hX; rw [Tryz.ntmps93]; simp only [AW7, simprocAttr, hX]
  refine Run.R ?_
  refine Run.nq ?_; refine Run.regionW hC (fun K hK => ?_); refine wW ?_
  refine FunA.cW hP hT (c_spec_PartsOf c hc) ?_
  rintro rs o ⟨rfl, ys, hy, rfl⟩
  refine wW ?_
  refine wE ?_; clear hK K
  have hyl : ys.length = (partsS c).length := by rw [← hy]; simp [rw2]
  refine Run.R ?_
  refine Run.R ?_
  refine Run.reK hpin [0, 2, 3, 4, 5] [0] (by decide) (by simp) ?_; simp only [AR, AW7, simprocAttr]
  refine Run.loopI (X := Nat × List UInt8) (fun x => ⟨34, [(0, true, .v (.sl false (.row false) (c))), (2, true, .v (.str ([]))), (3, true, .v (.own 0 0)), (4, true, .v (.str (x.2))), (5, true, .v (.int .i64 (x.1)))], [.arr .lrow (ys) 0 true]⟩) (fun x => (x.1 ≤ ys.length ∧ x.2.length ≤ 4 * x.1) ∧ x.2 = joinX (((partsS c).take x.1).map fun p => nameS (pick c p))) (fun x => ys.length - x.1) ((0, [])) (⟨⟨Nat.zero_le _, by simp⟩, rfl⟩) ?_ ?_
  · exact Le.sub (by first | rfl | simp) (by simp only [AW7, simprocAttr, hX]; try simp <;> try (first | rfl | exact ⟨rfl, rfl⟩ | exact ⟨rfl, rfl, rfl⟩))
  rintro ⟨k, s⟩ ⟨⟨hk, hsl⟩, hS⟩ ih
  try simp only []
  simp only [] at hk hsl hS
  refine Run.R ?_
  refine Run.nq ?_; refine Run.cW ?_ ?_
  rotate_left
  · intro h
    have h : k = ys.length := by rw [decide_eq_false_iff_not] at h; omega
    subst h
    rw [hyl, List.take_length] at hS
    refine Run.exit rfl ?_; refine Run.nq ?_
    refine Run.R ?_
    refine Run.reK hpin [2] [] (by decide) (by simp) ?_; simp only [AR, AW7, simprocAttr]
    refine Run.rW [2] (hfin _ _ rfl rfl ?_)
    exact ⟨by rw [hS], rfl⟩
  intro h
  have h : k < ys.length := by rw [decide_eq_true_eq] at h; omega
  have hgp : (ys.getD k (0, [])).2 = (partsS c).getD k [] := by rw [← hy]; simp [rw2, List.getD_eq_getElem?_getD, h]
  have hpm : (partsS c).getD k [] ∈ partsS c := by rw [List.getD_eq_getElem?_getD, List.getElem?_eq_getElem (by omega)]; exact List.getElem_mem _
  obtain ⟨hset, hpne⟩ := partsS_set _ hpm
  have hnp := hne _ hpm
  have hst : joinX (((partsS c).take (k + 1)).map fun p => nameS (pick c p)) = if k = 0 then nameS (pick c ((partsS c).getD k [])) else s ++ [120] ++ nameS (pick c ((partsS c).getD k [])) := by
    rw [← take_snoc [] _ k (by omega), List.map_append, List.map_cons, List.map_nil, joinX_snoc, hS]
    by_cases h0 : k = 0
    · rw [if_pos (by rw [h0]; rfl), if_pos h0]
    · rw [if_neg (by
        intro e
        rw [List.map_eq_nil_iff] at e
        have := congrArg List.length e
        rw [List.length_take, List.length_nil] at this
        omega), if_neg h0]
  have hnl := (firstT_ok isoS (pick c ((partsS c).getD k []))).2
  have hcp := pick_cartan hc hset hpne
  generalize (partsS c).getD k [] = p at *
  have hnl : (nameS (pick c p)).length ≤ 3 := hnl
  generalize hnm : nameS (pick c p) = nm at *
  have hnmS : nameS (pick c p) ≠ [63] := by rw [hnm]; exact hnp
  have hm1 : s.length + [(120 : UInt8)].length ≤ maxLen := by simp [maxLen]; omega
  have hm2 : s.length + nm.length ≤ maxLen := by simp [maxLen]; omega
  have hm3 : (s ++ [120]).length + nm.length ≤ maxLen := by simp [maxLen]; omega
  refine Run.R ?_
  refine Run.nq ?_; refine Run.cW ?_ ?_
  · intro h0
    have h0 : ¬ k = 0 := by rw [decide_eq_true_eq] at h0; omega
    rw [if_neg h0] at hst
    refine Run.R ?_
    refine Run.nq ?_; refine Run.regionW hC (fun K hK => ?_); refine wW ?_
    try rw [hgp]
    refine FunA.cW hP hT (c_spec_SubCartan c p hc hset hpne) ?_
    rintro rs o ⟨rfl, zs, hz, rfl⟩
    refine wW ?_
    refine wE ?_; clear hK K
    refine Run.nq ?_; refine Run.regionW hC (fun K hK => ?_); refine wW ?_
    rw [← hz] at hcp hnmS hnm
    refine FunA.cW hP hT (c_spec_NameOfPart (zs.map (·.2)) hcp hnmS) ?_
    rintro rs o ⟨rfl, rfl⟩
    rw [hnm]
    refine wW ?_
    refine wE ?_; clear hK K
    refine Run.RW ?_
    refine Run.reK hpin [0, 2, 3, 4, 5] [0] (by decide) (by simp) ?_; simp only [AR, AW7, simprocAttr]
    refine Run.le ?_ (ih ((k + 1, s ++ [120] ++ nm)) (⟨⟨h, by simp only [List.length_append, List.length_cons, List.length_nil]; omega⟩, hst.symm⟩) (by (try simp only [List.length_append, List.length_cons, List.length_nil]); omega))
    exact Le.sub (by rfl) (by simp only [AW7, simprocAttr]; try simp)
  · intro h0
    have h0 : k = 0 := by rw [decide_eq_false_iff_not] at h0; omega
    rw [if_pos h0] at hst
    have hs0 : s = [] := List.eq_nil_of_length_eq_zero (by omega)
    subst hs0
    refine Run.nq ?_; refine Run.regionW hC (fun K hK => ?_); refine wW ?_
    try rw [hgp]
    refine FunA.cW hP hT (c_spec_SubCartan c p hc hset hpne) ?_
    rintro rs o ⟨rfl, zs, hz, rfl⟩
    refine wW ?_
    refine wE ?_; clear hK K
    refine Run.nq ?_; refine Run.regionW hC (fun K hK => ?_); refine wW ?_
    rw [← hz] at hcp hnmS hnm
    refine FunA.cW hP hT (c_spec_NameOfPart (zs.map (·.2)) hcp hnmS) ?_
    rintro rs o ⟨rfl, rfl⟩
    rw [hnm]
    refine wW ?_
    refine wE ?_; clear hK K
    refine Run.RW ?_
    refine Run.reK hpin [0, 2, 3, 4, 5] [0] (by decide) (by simp) ?_; simp only [AR, AW7, simprocAttr]
    refine Run.le ?_ (ih ((k + 1, [] ++ nm)) (⟨⟨h, by simp only [List.nil_append]; omega⟩, hst.symm⟩) (by (try simp only [List.length_append, List.length_cons, List.length_nil]); omega))
    exact Le.sub (by rfl) (by simp only [AW7, simprocAttr]; try simp)
theorem joinX_len : ∀ l : List (List UInt8), (∀ x ∈ l, x.length ≤ 3) → (joinX l).length ≤ 4 * l.length
  | [], _ => by simp [joinX]
  | [x], h => by have := h x (List.mem_cons_self ..); simp [joinX]; omega
  | x :: y :: l, h => by
    have ih := joinX_len (y :: l) (fun z hz => h z (List.mem_cons_of_mem _ hz))
    have := h x (List.mem_cons_self ..)
    simp only [joinX, List.length_append, List.length_cons, List.length_nil] at ih ⊢
    omega
noncomputable def sizeE (c : List (List Int)) : Int := if isF c then sizeI c else 0
theorem c_spec_SizeOf (c : List (List Int)) : FunA B 62 [.sl false (.row false) c] (fun rs o => rs = [.int .i64 (sizeE c)] ∧ o = []) := by
  refine FunA.walk B_ok (fn := Tryz.f62) (fun vs w => Tryz.call62 vs w) Tryz.func62 rfl (by rw [Tryz.ntmps62]; simp) (fun C hC hP hT hΓ hbt hfn hpin hfin => ?_); have hX := BX; rw [← hΓ, ← hbt.1, ← hbt.2.1, ← hbt.2.2.1] at hX; rw [hT] at hX; rw [Tryz.ntmps62]; simp only [AW7, simprocAttr, hX]
  refine Run.R ?_
  refine Run.nq ?_; refine Run.regionW hC (fun K hK => ?_); refine wW ?_
  refine FunA.cW hP hT (c_spec_IsFinite c) ?_
  rintro rs o ⟨rfl, rfl⟩
  refine wW ?_
  refine wE ?_; clear hK K
  refine Run.nq ?_; refine Run.cW ?_ ?_
  · intro h
    have h : isF c = false := by simpa using h
    refine Run.R ?_
    refine Run.reK hpin [2] [] (by decide) (by simp) ?_; simp only [AR, AW7, simprocAttr]
    refine Run.rW [2] (hfin _ _ rfl rfl ?_)
    exact ⟨by unfold sizeE; rw [h]; rfl, rfl⟩
  intro h
  have h : isF c = true := by simpa using h
  have hF := isF_iff.1 h
  have hn := hF.1.2.1
  have hpl := partsS_len c
  have hjl := joinX_len ((partsS c).map fun p => nameS (pick c p)) (fun x hx => by
    obtain ⟨q, _, rfl⟩ := List.mem_map.1 hx
    exact (firstT_ok _ _).2)
  rw [List.length_map] at hjl
  refine Run.nq ?_; refine Run.regionW hC (fun K hK => ?_); refine wW ?_
  refine FunA.cW hP hT (c_spec_NameOf c hF.1 (name_fine hF)) ?_
  rintro rs o ⟨rfl, rfl⟩
  refine wW ?_
  refine FunA.cW hP hT (c_spec_SizeByName (joinX ((partsS c).map fun p => nameS (pick c p))) (by omega)) ?_
  rintro rs o ⟨rfl, rfl⟩
  refine wW ?_
  refine wE ?_; clear hK K
  refine Run.reK hpin [2] [] (by decide) (by simp) ?_; simp only [AR, AW7, simprocAttr]
  refine Run.rW [2] (hfin _ _ rfl rfl ?_)
  exact ⟨by unfold sizeE; rw [if_pos h, (fin_size hF).1]; rfl, rfl⟩
end Go.Proofs.YtaghdbbcadhjdaaGreatDoor
