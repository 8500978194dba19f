/- Words as strings. -/
import Derived.Test.YtdhfonblpbpmmaaWords4
set_option linter.unusedVariables false
set_option linter.unusedSimpArgs false
namespace Go.Proofs.Ytdhfonblpbpmmaa
open Go Go.Aw

def fmtD (w : List Int) : List UInt8 := w.map fun i => UInt8.ofNat (49 + i.toNat)
def fmtW (w : List Int) : List UInt8 := if w = [] then [101] else fmtD w
theorem fmtW_inj {a b : List Int} (ha : letters 4 a) (hb : letters 4 b) (h : fmtW a = fmtW b) : a = b := by
  have key : ∀ (a b : List Int), letters 4 a → letters 4 b → fmtD a = fmtD b → a = b := by
    intro a
    induction a with
    | nil => intro b _ _ h; cases b with
      | nil => rfl
      | cons y b => simp [fmtD] at h
    | cons x a ih => intro b ha hb h; cases b with
      | nil => simp [fmtD] at h
      | cons y b =>
        simp only [fmtD, List.map_cons, List.cons.injEq] at h
        obtain ⟨hx, ha⟩ := letters_cons.1 ha
        obtain ⟨hy, hb⟩ := letters_cons.1 hb
        have e : x = y := by
          have := congrArg UInt8.toNat h.1
          simp at this
          omega
        rw [e, ih b ha hb h.2]
  have he : ∀ c : List Int, letters 4 c → c ≠ [] → fmtD c ≠ [101] := by
    intro c hc hne h
    cases c with
    | nil => exact hne rfl
    | cons x c =>
      simp only [fmtD, List.map_cons, List.cons.injEq] at h
      obtain ⟨hx, _⟩ := letters_cons.1 hc
      have := congrArg UInt8.toNat h.1
      simp at this
      omega
  unfold fmtW at h
  by_cases h1 : a = []
  · rw [if_pos h1] at h
    by_cases h2 : b = []
    · rw [h1, h2]
    · rw [if_neg h2] at h; exact (he b hb h2 h.symm).elim
  · rw [if_neg h1] at h
    by_cases h2 : b = []
    · rw [if_pos h2] at h; exact (he a ha h1 h).elim
    · rw [if_neg h2] at h; exact key a b ha hb h

theorem c_impl_FormatWord (w : List Int) (hw : letters 4 w) (hl : w.length ≤ 1048576) : FunA B 49 [.sl false .int w] (fun rs o => rs = [.str (fmtW w)] ∧ o = []) := by
  refine FunA.walk B_ok (fn := Try.f49) (fun vs w => Try.call49 vs w) Try.func49 rfl (by rw [Try.ntmps49]; simp) (fun C hC hP hT hΓ hbt hfn hpin hfin => ?_); have hX := BX; rw [← hΓ, ← hbt.1, ← hbt.2] at hX; rw [Try.ntmps49]; simp only [AW7, simprocAttr, hX]
  refine Run.nq ?_; refine Run.regionW hC (fun K hK => ?_); simp only [AW7, simprocAttr, hX]; (repeat (with_reducible refine And.intro ?_ ?_); exact vc0); refine hK _ ?_; clear hK K; refine Run.nq ?_
  refine Run.nq ?_; refine Run.regionW hC (fun K hK => ?_); simp only [AW7, simprocAttr, hX]; (repeat (with_reducible refine And.intro ?_ ?_); exact vc0); refine hK _ ?_; clear hK K; refine Run.nq ?_
  refine Run.nq ?_; refine Run.condW (by simp only [AW7, simprocAttr, hX]; rfl) (by simp only [AW7, simprocAttr, hX]) ?_ ?_
  · intro h
    have h : w = [] := by cases w with
      | nil => rfl
      | cons x w => simp at h; omega
    refine Run.nq ?_; refine Run.regionW hC (fun K hK => ?_); simp only [AW7, simprocAttr, hX]; (repeat (with_reducible refine And.intro ?_ ?_); exact vc0); refine hK _ ?_; clear hK K; refine Run.nq ?_
    refine Run.retW [2] (by decide) (by rw [hfn]; rfl) (by simp only [AW7, simprocAttr, hX]; rfl) (by simp only [AW7, simprocAttr, hX]) (hfin _ _ rfl rfl ?_)
    exact ⟨by simp [fmtW, h], rfl⟩
  intro h
  have hne : w ≠ [] := by rintro rfl; simp at h
  refine Run.nq ?_; refine Run.regionW hC (fun K hK => ?_); simp only [AW7, simprocAttr, hX]; (repeat (with_reducible refine And.intro ?_ ?_); exact vc0); refine hK _ ?_; clear hK K; refine Run.nq ?_
  refine Run.nq ?_; refine Run.regionW hC (fun K hK => ?_); simp only [AW7, simprocAttr, hX]; (repeat (with_reducible refine And.intro ?_ ?_); exact vc0); refine hK _ ?_; clear hK K; refine Run.nq ?_
  refine Run.reK hpin [0, 3, 10, 11, 12] [0] (by decide) (by simp) ?_; simp only [AR, AW7, simprocAttr]
  refine Run.loopI (X := Nat) (fun i => ⟨31, [(0, true, .v (.sl false .int (w))), (3, true, .v (.own 0 0)), (10, true, .v (.sl false .int (w))), (11, true, .v (.int .i64 (w.length))), (12, true, .v (.int .i64 (i)))], [.arr .byte ((w.take i).map fun x => 49 + x) 0 true]⟩) (fun i => i ≤ w.length) (fun i => w.length - i) (0) (Nat.zero_le _) ?_ ?_
  · exact Le.sub (by first | rfl | simp) (by simp only [AW7, simprocAttr, hX]; try simp <;> try (first | rfl | exact ⟨rfl, rfl⟩ | exact ⟨rfl, rfl, rfl⟩))
  rintro i hi ih
  try simp only []
  refine Run.nq ?_; refine Run.regionW hC (fun K hK => ?_); simp only [AW7, simprocAttr, hX]; (repeat (with_reducible refine And.intro ?_ ?_); exact vc0); refine hK _ ?_; clear hK K; refine Run.nq ?_
  refine Run.nq ?_; refine Run.condW (by simp only [AW7, simprocAttr, hX]; rfl) (by simp only [AW7, simprocAttr, hX]) ?_ ?_
  rotate_left
  · intro h
    have h : i = w.length := by rw [decide_eq_false_iff_not] at h; omega
    refine Run.exit rfl ?_; refine Run.nq ?_
    refine Run.nq ?_; refine Run.regionW hC (fun K hK => ?_); simp only [AW7, simprocAttr, hX]; (repeat (with_reducible refine And.intro ?_ ?_); exact vc0); refine hK _ ?_; clear hK K; refine Run.nq ?_
    refine Run.reK hpin [2] [] (by decide) (by simp) ?_; simp only [AR, AW7, simprocAttr]
    refine Run.retW [2] (by decide) (by rw [hfn]; rfl) (by simp only [AW7, simprocAttr, hX]; rfl) (by simp only [AW7, simprocAttr, hX]) (hfin _ _ rfl rfl ?_)
    rw [h, List.take_length]
    refine ⟨?_, rfl⟩
    unfold fmtW
    rw [if_neg hne]
    have e : bytesOf (w.map fun x => 49 + x) = fmtD w := by
      unfold bytesOf fmtD
      rw [List.map_map]
      apply List.map_congr_left
      intro x hx
      have := hw x hx
      show UInt8.ofNat (49 + x).toNat = UInt8.ofNat (49 + x.toNat)
      congr 1
      omega
    rw [e]
  intro h
  have h : i < w.length := by rw [decide_eq_true_eq] at h; omega
  have hlt := letters_getD.1 hw i h
  refine Run.nq ?_; refine Run.regionW hC (fun K hK => ?_); simp only [AW7, simprocAttr, hX]; (repeat (with_reducible refine And.intro ?_ ?_); exact vc0); refine hK _ ?_; clear hK K; refine Run.nq ?_
  refine Run.nq ?_; refine Run.regionW hC (fun K hK => ?_); simp only [AW7, simprocAttr, hX]; (repeat (with_reducible refine And.intro ?_ ?_); exact vc0); refine hK _ ?_; clear hK K; refine Run.nq ?_
  refine Run.nq ?_; refine Run.condW (by simp only [AW7, simprocAttr, hX]; rfl) (by simp only [AW7, simprocAttr, hX]) ?_ ?_
  · intro h2
    exfalso
    rw [decide_eq_false (by omega : ¬ w.getD i 0 < 0), decide_eq_false (by omega : ¬ 4 ≤ w.getD i 0)] at h2
    cases h2
  intro _
  have e1 : IntKind.u8.wrap (49 + w.getD i 0) = 49 + w.getD i 0 := by
    have : 0 ≤ w.getD i 0 ∧ w.getD i 0 < 4 := by omega
    revert this
    generalize w.getD i 0 = z
    intro this
    simp [IntKind.wrap, IntKind.bits, IntKind.signed]; omega
  have hts : (w.take (i + 1)).map (fun x => 49 + x) = (w.take i).map (fun x => 49 + x) ++ [49 + w.getD i 0] := by
    rw [List.take_succ_eq_append_getElem h, List.map_append, getD_eq h]; rfl
  have htl : ((w.take i).map (fun x => 49 + x)).length ≤ i := by simp; omega
  refine Run.nq ?_; refine Run.regionW hC (fun K hK => ?_); simp (disch := omega) only [wrap_id, AW7, simprocAttr, hX]; (repeat (with_reducible refine And.intro ?_ ?_); exact vc0); refine hK _ ?_; clear hK K; refine Run.nq ?_
  rw [e1]
  refine Run.reK hpin [0, 3, 10, 11, 12] [0] (by decide) (by simp) ?_; simp only [AR, AW7, simprocAttr]
  refine Run.nq ?_; refine Run.regionW hC (fun K hK => ?_); simp (disch := omega) only [wrap_id, AW7, simprocAttr, hX]; (repeat (with_reducible refine And.intro ?_ ?_); exact vc0); refine hK _ ?_; clear hK K; refine Run.nq ?_
  refine Run.le ?_ (ih (i + 1) (by omega) (by (try simp only [List.length_append, List.length_cons, List.length_nil]); omega))
  exact Le.sub (by first | rfl | (simp only [hts]; done) | (rw [hts]; rfl)) (by simp only [AW7, simprocAttr]; try simp)
end Go.Proofs.Ytdhfonblpbpmmaa
