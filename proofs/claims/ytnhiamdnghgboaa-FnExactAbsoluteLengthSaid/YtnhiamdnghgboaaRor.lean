/- Roots under words, and the root of a reflection: what the functions of both sides do. -/
import Derived.Test.YtnhiamdnghgboaaRoot5
set_option linter.unusedVariables false
set_option linter.unusedSimpArgs false
namespace Go.Proofs.Ytnhiamdnghgboaa
open Go Go.Aw Go.Cox

def actR (c : List (List Int)) (w r : List Int) : List Int := w.foldr (mirL c) r
theorem actR_len (c : List (List Int)) (r : List Int) : ∀ w, (actR c w r).length = r.length
  | [] => rfl
  | i :: w => by show (mirL c i (actR c w r)).length = _; rw [mir_len, actR_len c r w]
theorem actR_drop (c : List (List Int)) (w r : List Int) (j : Nat) (h : j < w.length) : actR c (w.drop j) r = mirL c (w.getD j 0) (actR c (w.drop (j + 1)) r) := by
  have e : w.drop j = w.getD j 0 :: w.drop (j + 1) := by rw [List.drop_eq_getElem_cons h]; simp [h]
  rw [e]; rfl
theorem actR_bnd {c : List (List Int)} (hc : CartanP c) {r : List Int} (hl : r.length = c.length) {M : Int} (hM : 0 ≤ M) (hr : Bnd M r) : ∀ w, letters c.length w → Bnd (13 ^ w.length * M) (actR c w r)
  | [], _ => by simpa [actR] using hr
  | i :: w, hw => by
    obtain ⟨h1, h2⟩ := letters_cons.1 hw
    have ih := actR_bnd hc hl hM hr w h2
    have h3 := mir_bnd hc h1 (by rw [actR_len]; exact hl) (Int.mul_nonneg (Int.pow_nonneg (by decide)) hM) ih
    show Bnd _ (mirL c i (actR c w r))
    rw [List.length_cons, Int.pow_succ, Int.mul_comm (13 ^ w.length) 13, Int.mul_assoc]
    exact h3
theorem pow13_le {a b : Nat} (h : a ≤ b) : (13 : Int) ^ a ≤ 13 ^ b := by
  induction b with
  | zero => have : a = 0 := by omega
            subst this; exact Int.le_refl _
  | succ b ih =>
    by_cases hab : a = b + 1
    · subst hab; exact Int.le_refl _
    · have := ih (by omega)
      have h0 : (0 : Int) ≤ 13 ^ b := Int.pow_nonneg (by decide)
      rw [Int.pow_succ]; omega
theorem simL_bnd (n i : Nat) : Bnd 1 (simL n i) := by
  intro x hx
  unfold simL at hx
  rcases List.mem_or_eq_of_mem_set hx with h | h
  · have := List.eq_of_mem_replicate h; omega
  · omega
/-- The images of simple roots under short words are small. -/
theorem actR_small {c : List (List Int)} (hc : CartanP c) {w : List Int} (hw : letters c.length w) (hl : w.length ≤ 15) (i : Nat) : Bnd 100000000000000000 (actR c w (simL c.length i)) := by
  have h := actR_bnd hc (simL_len c.length i) (by decide) (simL_bnd c.length i) w hw
  have h2 := pow13_le hl
  intro x hx
  have := h x hx
  have e : (13 : Int) ^ 15 = 51185893014090757 := by decide
  omega

theorem c_impl_actedRoot (c : List (List Int)) (w r : List Int) (hc : CartanP c) (hw : letters c.length w) (hl : r.length = c.length) (hwl : w.length ≤ 1048576) (hB : ∀ j, Bnd 100000000000000000 (actR c (w.drop j) r)) :
    FunA B 58 [.sl false (.row false) c, .sl false .int w, .sl false .int r] (fun rs o => rs = [.own 0 0] ∧ o = [.arr .int (actR c w r) 0 true]) := by
  have hn := hc.2.1
  refine FunA.walk B_ok (fn := Try.f58) (fun vs w => Try.call58 vs w) Try.func58 rfl (by rw [Try.ntmps58]; simp) (fun C hC hP hT hΓ hbt hfn hpin hfin => ?_); have hX := BX; rw [← hΓ, ← hbt] at hX; rw [Try.ntmps58]; simp only [AW5, simprocAttr, hX]
  refine Run.nq ?_; refine Run.regionW hC (fun K hK => ?_); simp only [AW5, simprocAttr, hX]; (repeat (with_reducible refine And.intro ?_ ?_); exact vc0); refine hK _ ?_; clear hK K; refine Run.nq ?_
  refine Run.nq ?_; refine Run.regionW hC (fun K hK => ?_); simp only [AW5, simprocAttr, hX]; (repeat (with_reducible refine And.intro ?_ ?_); exact vc0); refine hK _ ?_; clear hK K; refine Run.nq ?_
  refine Run.nq ?_; refine Run.regionW hC (fun K hK => ?_); simp (disch := omega) only [wrap_id, AW5, simprocAttr, hX]; (repeat (with_reducible refine And.intro ?_ ?_); exact vc0); refine hK _ ?_; clear hK K; refine Run.nq ?_
  refine Run.reK hpin [0, 1, 2, 7, 8] [0] (by decide) (by simp) ?_; simp only [AR, AW5, simprocAttr]
  have hd0 : actR c (w.drop w.length) r = r := by rw [List.drop_length]; rfl
  refine Run.le (Le.sub (fr' := [(0, true, .v (.sl false (.row false) c)), (1, true, .v (.sl false .int w)), (2, true, .v (.sl false .int r)), (7, true, .v (.own 0 0)), (8, true, .v (.int .i64 ((w.length : Int) - 1)))]) (obs' := [.arr .int (actR c (w.drop w.length) r) 0 true]) (by rw [hd0]) (by simp only [AW5, simprocAttr]; try simp)) ?_
  refine Run.loopI (X := Nat) (fun j => ⟨27, [(0, true, .v (.sl false (.row false) (c))), (1, true, .v (.sl false .int (w))), (2, true, .v (.sl false .int (r))), (7, true, .v (.own 0 0)), (8, true, .v (.int .i64 (((j : Int) - 1))))], [.arr .int ((actR c (w.drop j) r)) 0 true]⟩) (fun j => j ≤ w.length) (fun j => j) (w.length) (Nat.le_refl _) ?_ ?_
  · exact Le.sub (by first | rfl | simp) (by simp only [AW5, simprocAttr, hX]; try simp <;> try (first | rfl | exact ⟨rfl, rfl⟩ | exact ⟨rfl, rfl, rfl⟩))
  rintro j hj ih
  try simp only []
  have hal := actR_len c r (w.drop j)
  cases j with
  | zero =>
    refine Run.nq ?_; refine Run.regionW hC (fun K hK => ?_); simp only [AW5, simprocAttr, hX]; (repeat (with_reducible refine And.intro ?_ ?_); exact vc0); refine hK _ ?_; clear hK K; refine Run.nq ?_
    refine Run.nq ?_; refine Run.condW (by simp only [AW5, simprocAttr, hX]; rfl) (by simp only [AW5, simprocAttr, hX]) ?_ ?_
    · intro h; simp at h
    intro _
    refine Run.exit rfl ?_; refine Run.nq ?_
    refine Run.nq ?_; refine Run.regionW hC (fun K hK => ?_); simp only [AW5, simprocAttr, hX]; (repeat (with_reducible refine And.intro ?_ ?_); exact vc0); refine hK _ ?_; clear hK K; refine Run.nq ?_
    refine Run.reK hpin [6] [0] (by decide) (by simp) ?_; simp only [AR, AW5, simprocAttr]
    refine Run.retW [6] (by decide) (by rw [hfn]; rfl) (by simp only [AW5, simprocAttr, hX]; rfl) (by simp only [AW5, simprocAttr, hX]) (hfin _ _ rfl rfl ?_)
    exact ⟨rfl, by rw [List.drop_zero]⟩
  | succ j =>
    have e2 : ((j + 1 : Nat) : Int) - 1 = j := by omega
    rw [e2]
    refine Run.nq ?_; refine Run.regionW hC (fun K hK => ?_); simp only [AW5, simprocAttr, hX]; (repeat (with_reducible refine And.intro ?_ ?_); exact vc0); refine hK _ ?_; clear hK K; refine Run.nq ?_
    refine Run.nq ?_; refine Run.condW (by simp only [AW5, simprocAttr, hX]; rfl) (by simp only [AW5, simprocAttr, hX]) ?_ ?_
    rotate_left
    · intro h; simp at h
    intro _
    have hlet := letters_getD.1 hw j (by omega)
    have hdr := actR_drop c w r j (by omega)
    refine Run.nq ?_; refine Run.regionW hC (fun K hK => ?_); simp only [AW5, simprocAttr, hX]; (repeat (with_reducible refine And.intro ?_ ?_); exact vc0)
    refine FunA.callW hP hT (c_impl_mirrored c (w.getD j 0) (actR c (w.drop (j + 1)) r) hc hlet (by omega) (hB (j + 1))) (by simp only [AW5, simprocAttr]) ?_
    rintro rs o ⟨rfl, rfl⟩
    (try simp only [AW5, simprocAttr, hX]); (repeat (with_reducible refine And.intro ?_ ?_); exact vc0)
    (repeat (with_reducible refine And.intro ?_ ?_); exact vc0); refine hK _ ?_; clear hK K; refine Run.nq ?_
    rw [← hdr]
    refine Run.nq ?_; refine Run.regionW hC (fun K hK => ?_); simp (disch := omega) only [wrap_id, AW5, simprocAttr, hX]; (repeat (with_reducible refine And.intro ?_ ?_); exact vc0); refine hK _ ?_; clear hK K; refine Run.nq ?_
    refine Run.reK hpin [0, 1, 2, 7, 8] [1] (by decide) (by simp) ?_; simp only [AR, AW5, simprocAttr]
    refine Run.le ?_ (ih (j) (by omega) (by (try simp only [List.length_append, List.length_cons, List.length_nil]); omega))
    exact Le.sub (by rfl) (by simp only [AW5, simprocAttr]; try simp)

theorem c_spec_ActOnRoot (c : List (List Int)) (w r : List Int) (hW : WordP c w) (hl : r.length = c.length) (hB : ∀ j, Bnd 100000000000000000 (actR c (w.drop j) r)) :
    FunA B 54 [.sl false (.row false) c, .sl false .int w, .sl false .int r] (fun rs o => rs = [.own 0 0] ∧ o = [.arr .int (actR c w r) 0 true]) := by
  have hc := hW.1
  have hn := hc.2.1
  have hwl := hW.2.1
  have hwb : wordB c w = true := wordB_iff.2 hW
  refine FunA.walk B_ok (fn := Try.f54) (fun vs w => Try.call54 vs w) Try.func54 rfl (by rw [Try.ntmps54]; simp) (fun C hC hP hT hΓ hbt hfn hpin hfin => ?_); have hX := BX; rw [← hΓ, ← hbt] at hX; rw [Try.ntmps54]; simp only [AW5, simprocAttr, hX]
  refine Run.nq ?_; refine Run.regionW hC (fun K hK => ?_); simp only [AW5, simprocAttr, hX]; (repeat (with_reducible refine And.intro ?_ ?_); exact vc0); refine hK _ ?_; clear hK K; refine Run.nq ?_
  refine Run.nq ?_; refine Run.regionW hC (fun K hK => ?_); simp only [AW5, simprocAttr, hX]; (repeat (with_reducible refine And.intro ?_ ?_); exact vc0); refine hK _ ?_; clear hK K; refine Run.nq ?_
  refine Run.nq ?_; refine Run.regionW hC (fun K hK => ?_); simp (disch := omega) only [wrap_id, AW5, simprocAttr, hX]; (repeat (with_reducible refine And.intro ?_ ?_); exact vc0); refine hK _ ?_; clear hK K; refine Run.nq ?_
  refine Run.reK hpin [0, 1, 2, 7, 8] [0] (by decide) (by simp) ?_; simp only [AR, AW5, simprocAttr]
  have hd0 : actR c (w.drop w.length) r = r := by rw [List.drop_length]; rfl
  refine Run.le (Le.sub (fr' := [(0, true, .v (.sl false (.row false) c)), (1, true, .v (.sl false .int w)), (2, true, .v (.sl false .int r)), (7, true, .v (.own 0 0)), (8, true, .v (.int .i64 ((w.length : Int) - 1)))]) (obs' := [.arr .int (actR c (w.drop w.length) r) 0 true]) (by rw [hd0]) (by simp only [AW5, simprocAttr]; try simp)) ?_
  refine Run.loopI (X := Nat) (fun j => ⟨39, [(0, true, .v (.sl false (.row false) (c))), (1, true, .v (.sl false .int (w))), (2, true, .v (.sl false .int (r))), (7, true, .v (.own 0 0)), (8, true, .v (.int .i64 (((j : Int) - 1))))], [.arr .int ((actR c (w.drop j) r)) 0 true]⟩) (fun j => j ≤ w.length) (fun j => j) (w.length) (Nat.le_refl _) ?_ ?_
  · exact Le.sub (by first | rfl | simp) (by simp only [AW5, simprocAttr, hX]; try simp <;> try (first | rfl | exact ⟨rfl, rfl⟩ | exact ⟨rfl, rfl, rfl⟩))
  rintro j hj ih
  try simp only []
  have hal := actR_len c r (w.drop j)
  cases j with
  | zero =>
    have e1 : decide ((0 : Int) ≤ ((0 : Nat) : Int) - 1) = false := by decide
    refine Run.nq ?_; refine Run.regionW hC (fun K hK => ?_); simp only [AW5, simprocAttr, hX]; (repeat (with_reducible refine And.intro ?_ ?_); exact vc0)
    try simp only [e1]
    refine .inl (CallG.off (.bool false) ?_)
    (try simp only [AW5, simprocAttr, hX]); (repeat (with_reducible refine And.intro ?_ ?_); exact vc0)
    (repeat (with_reducible refine And.intro ?_ ?_); exact vc0); refine hK _ ?_; clear hK K; refine Run.nq ?_
    refine Run.nq ?_; refine Run.condW (by simp only [AW5, simprocAttr, hX]; rfl) (by simp only [AW5, simprocAttr, hX]) ?_ ?_
    · intro h; cases h
    intro _
    refine Run.exit rfl ?_; refine Run.nq ?_
    refine Run.nq ?_; refine Run.regionW hC (fun K hK => ?_); simp only [AW5, simprocAttr, hX]; (repeat (with_reducible refine And.intro ?_ ?_); exact vc0); refine hK _ ?_; clear hK K; refine Run.nq ?_
    refine Run.reK hpin [6] [0] (by decide) (by simp) ?_; simp only [AR, AW5, simprocAttr]
    refine Run.retW [6] (by decide) (by rw [hfn]; rfl) (by simp only [AW5, simprocAttr, hX]; rfl) (by simp only [AW5, simprocAttr, hX]) (hfin _ _ rfl rfl ?_)
    exact ⟨rfl, by rw [List.drop_zero]⟩
  | succ j =>
    have e1 : decide ((0 : Int) ≤ ((j + 1 : Nat) : Int) - 1) = true := by rw [decide_eq_true_eq]; omega
    have e2 : ((j + 1 : Nat) : Int) - 1 = j := by omega
    refine Run.nq ?_; refine Run.regionW hC (fun K hK => ?_); simp only [AW5, simprocAttr, hX]; (repeat (with_reducible refine And.intro ?_ ?_); exact vc0)
    simp only [e1]
    refine .inr ⟨rfl, ?_⟩
    refine FunA.callW hP hT (c_spec_IsWord c w (by omega)) (by simp only [AW5, simprocAttr]) ?_
    rintro rs o ⟨rfl, rfl⟩
    simp only [hwb]
    (try simp only [AW5, simprocAttr, hX]); (repeat (with_reducible refine And.intro ?_ ?_); exact vc0)
    (repeat (with_reducible refine And.intro ?_ ?_); exact vc0); refine hK _ ?_; clear hK K; refine Run.nq ?_
    refine Run.nq ?_; refine Run.condW (by simp only [AW5, simprocAttr, hX]; rfl) (by simp only [AW5, simprocAttr, hX]) ?_ ?_
    rotate_left
    · intro h; simp [hl] at h
    intro _
    rw [e2]
    have hlet := letters_getD.1 hW.2.2 j (by omega)
    have hdr := actR_drop c w r j (by omega)
    refine Run.nq ?_; refine Run.regionW hC (fun K hK => ?_); simp only [AW5, simprocAttr, hX]; (repeat (with_reducible refine And.intro ?_ ?_); exact vc0)
    refine FunA.callW hP hT (c_spec_l7Reflect c (w.getD j 0) (actR c (w.drop (j + 1)) r) hc hlet (by omega) (hB (j + 1))) (by simp only [AW5, simprocAttr]) ?_
    rintro rs o ⟨rfl, rfl⟩
    (try simp only [AW5, simprocAttr, hX]); (repeat (with_reducible refine And.intro ?_ ?_); exact vc0)
    (repeat (with_reducible refine And.intro ?_ ?_); exact vc0); refine hK _ ?_; clear hK K; refine Run.nq ?_
    rw [← hdr]
    refine Run.nq ?_; refine Run.regionW hC (fun K hK => ?_); simp (disch := omega) only [wrap_id, AW5, simprocAttr, hX]; (repeat (with_reducible refine And.intro ?_ ?_); exact vc0); refine hK _ ?_; clear hK K; refine Run.nq ?_
    refine Run.reK hpin [0, 1, 2, 7, 8] [1] (by decide) (by simp) ?_; simp only [AR, AW5, simprocAttr]
    refine Run.le ?_ (ih (j) (by omega) (by (try simp only [List.length_append, List.length_cons, List.length_nil]); omega))
    exact Le.sub (by rfl) (by simp only [AW5, simprocAttr]; try simp)

def sq (c : List (List Int)) (w : List Int) (k : Nat) : List Int := actR c (w.take k) (simL c.length (w.getD k 0).toNat)
def seqL (c : List (List Int)) (w : List Int) : List (List Int) := (List.range w.length).map (sq c w)
theorem sq_len (c : List (List Int)) (w : List Int) (k : Nat) : (sq c w k).length = c.length := by unfold sq; rw [actR_len, simL_len]
theorem seq_small {c : List (List Int)} {w : List Int} (hW : WordP c w) (k i : Nat) (j : Nat) : Bnd 100000000000000000 (actR c ((w.take k).drop j) (simL c.length i)) :=
  actR_small hW.1 (letters_drop (letters_take hW.2.2 k) j) (by have := hW.2.1; simp; omega) i
theorem word_take {c : List (List Int)} {w : List Int} (hW : WordP c w) (k : Nat) : WordP c (w.take k) := ⟨hW.1, by have := hW.2.1; simp; omega, letters_take hW.2.2 k⟩

theorem range_snoc {α : Type} (f : Nat → α) (k : Nat) : (List.range k).map f ++ [f k] = (List.range (k + 1)).map f := by simp [List.range_succ]

theorem c_impl_sequence (c : List (List Int)) (w : List Int) (hW : WordP c w) :
    FunA B 84 [.sl false (.row false) c, .sl false .int w] (fun rs o => rs = [.own 0 0] ∧ ∃ ys, ys.map (·.2) = seqL c w ∧ o = [.arr .lrow ys 0 true]) := by
  have hc := hW.1
  have hn := hc.2.1
  have hwl := hW.2.1
  refine FunA.walk B_ok (fn := Try.f84) (fun vs w => Try.call84 vs w) Try.func84 rfl (by rw [Try.ntmps84]; simp) (fun C hC hP hT hΓ hbt hfn hpin hfin => ?_); have hX := BX; rw [← hΓ, ← hbt] at hX; rw [Try.ntmps84]; simp only [AW5, simprocAttr, hX]
  refine Run.nq ?_; refine Run.regionW hC (fun K hK => ?_); simp only [AW5, simprocAttr, hX]; (repeat (with_reducible refine And.intro ?_ ?_); exact vc0); refine hK _ ?_; clear hK K; refine Run.nq ?_
  refine Run.nq ?_; refine Run.regionW hC (fun K hK => ?_); simp only [AW5, simprocAttr, hX]; (repeat (with_reducible refine And.intro ?_ ?_); exact vc0); refine hK _ ?_; clear hK K; refine Run.nq ?_
  refine Run.nq ?_; refine Run.regionW hC (fun K hK => ?_); simp only [AW5, simprocAttr, hX]; (repeat (with_reducible refine And.intro ?_ ?_); exact vc0); refine hK _ ?_; clear hK K; refine Run.nq ?_
  refine Run.loopI (X := Nat × List (Nat × List Int)) (fun m => ⟨30, [(0, true, .v (.sl false (.row false) (c))), (1, true, .v (.sl false .int (w))), (4, true, .v (.nils)), (5, true, .v (.own 0 0)), (9, true, .v (.sl false .int (w))), (10, true, .v (.int .i64 (w.length))), (11, true, .v (.int .i64 (m.1)))], [.arr .lrow (m.2) 0 true]⟩) (fun m => m.1 ≤ w.length ∧ m.2.map (·.2) = (List.range m.1).map (sq c w)) (fun m => w.length - m.1) ((0, [])) (⟨Nat.zero_le _, rfl⟩) ?_ ?_
  · exact Le.sub (by first | rfl | simp) (by simp only [AW5, simprocAttr, hX]; try simp <;> try (first | rfl | exact ⟨rfl, rfl⟩ | exact ⟨rfl, rfl, rfl⟩))
  rintro ⟨m, ys⟩ ⟨hm, hy⟩ ih
  try simp only []
  simp only [] at hm hy
  have hyl : ys.length = m := by have := congrArg List.length hy; simpa using this
  refine Run.nq ?_; refine Run.regionW hC (fun K hK => ?_); simp only [AW5, simprocAttr, hX]; (repeat (with_reducible refine And.intro ?_ ?_); exact vc0); refine hK _ ?_; clear hK K; refine Run.nq ?_
  refine Run.nq ?_; refine Run.condW (by simp only [AW5, simprocAttr, hX]; rfl) (by simp only [AW5, simprocAttr, hX]) ?_ ?_
  · intro h
    have h : m < w.length := by simpa using h
    have hlet := letters_getD.1 hW.2.2 m h
    have hsl := simL_len c.length (w.getD m 0).toNat
    refine Run.nq ?_; refine Run.regionW hC (fun K hK => ?_); simp only [AW5, simprocAttr, hX]; (repeat (with_reducible refine And.intro ?_ ?_); exact vc0); refine hK _ ?_; clear hK K; refine Run.nq ?_
    refine Run.nq ?_; refine Run.regionD hC true [0,1,2,3,4,5,6,7,8,9,10,11,12] (by kernel_rfl) (fun K hK => ?_); simp only [AW5, simprocAttr, hX]; (repeat (with_reducible refine And.intro ?_ ?_); exact vc0)
    refine FunA.callD hP hT (c_impl_simple c.length (w.getD m 0) (by omega) hlet) (by simp only [AW5, simprocAttr]) ?_
    rintro rs o ⟨rfl, rfl⟩
    (try simp only [AW5, simprocAttr, hX]); (repeat (with_reducible refine And.intro ?_ ?_); exact vc0)
    rw [show List.take (m - 0) (List.drop 0 w) = w.take m by simp]
    refine FunA.callD hP hT (c_impl_actedRoot c (w.take m) (simL c.length (w.getD m 0).toNat) hc (letters_take hW.2.2 m) hsl (by simp; omega) (seq_small hW m _)) (by simp only [AW5, simprocAttr]) ?_
    rintro rs o ⟨rfl, rfl⟩
    (try simp only [AW5, simprocAttr, hX]); (repeat (with_reducible refine And.intro ?_ ?_); exact vc0)
    intro l hl
    (try simp only [AW5, simprocAttr, hX]); (repeat (with_reducible refine And.intro ?_ ?_); exact vc0)
    (repeat (with_reducible refine And.intro ?_ ?_); exact vc0); refine hK _ ?_; clear hK K; refine Run.nq ?_
    refine Run.nq ?_; refine Run.regionW hC (fun K hK => ?_); simp (disch := omega) only [wrap_id, AW5, simprocAttr, hX]; (repeat (with_reducible refine And.intro ?_ ?_); exact vc0); refine hK _ ?_; clear hK K; refine Run.nq ?_
    refine Run.reK hpin [0, 1, 4, 5, 9, 10, 11] [0] (by decide) (by simp) ?_; simp only [AR, AW5, simprocAttr]
    refine Run.le ?_ (ih ((m + 1, ys ++ [(l, sq c w m)])) (⟨h, by rw [List.map_append, hy]; exact range_snoc (sq c w) m⟩) (by (try simp only [List.length_append, List.length_cons, List.length_nil]); omega))
    exact Le.sub (by rfl) (by simp only [AW5, simprocAttr]; try simp)
  · intro h
    have h : m = w.length := by simp at h; omega
    subst h
    refine Run.exit rfl ?_; refine Run.nq ?_
    refine Run.nq ?_; refine Run.regionW hC (fun K hK => ?_); simp only [AW5, simprocAttr, hX]; (repeat (with_reducible refine And.intro ?_ ?_); exact vc0); refine hK _ ?_; clear hK K; refine Run.nq ?_
    refine Run.reK hpin [4] [0] (by decide) (by simp) ?_; simp only [AR, AW5, simprocAttr]
    refine Run.retW [4] (by decide) (by rw [hfn]; rfl) (by simp only [AW5, simprocAttr, hX]; rfl) (by simp only [AW5, simprocAttr, hX]) (hfin _ _ rfl rfl ?_)
    exact ⟨rfl, ys, hy, rfl⟩
end Go.Proofs.Ytnhiamdnghgboaa
