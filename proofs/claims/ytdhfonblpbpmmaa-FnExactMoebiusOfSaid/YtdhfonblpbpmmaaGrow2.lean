/- Words put together: what the library's functions on words do. -/
import Derived.Test.YtdhfonblpbpmmaaGrow
import Derived.Test.YtdhfonblpbpmmaaClone
import Derived.Test.YtdhfonblpbpmmaaBase3
set_option linter.unusedVariables false
set_option linter.unusedSimpArgs false
namespace Go.Proofs.Ytdhfonblpbpmmaa
open Go Go.Aw Go.Cox Go.RowKit

theorem c_slices_Grow (n : Nat) (hn : n ≤ 2097152) : FunA B 90 [.nils, .int .i64 n] (fun rs o => rs = [.own 0 0] ∧ o = [.arr .int [] 0 false]) := by
  refine ⟨fun vs w => Try.call90 vs w, fun w L vs hl ha => ?_⟩
  match vs, hl with
  | [u, v], _ =>
  have hu : u = .slice none 0 0 := ha 0 _ _ rfl rfl
  have hv : v = .int .i64 n := ha 1 _ _ rfl rfl
  subst hu hv
  have r0 := wrel_start B w L (fun _ => undef)
  have fin : ∀ (w' : World) (e : Ending) (x : Value), Ext (fun _ => False) w w' → e = .returned x → (∃ cs, w'.ownsRow 0 3 1 x 0 cs) → (∀ b, x.ownBlock = some b → w.heap.size ≤ b) →
      ∃ us : List Value, e = .returned (pack us) ∧ ∃ xs obs' ρ', (xs = [.own 0 0] ∧ obs' = [.arr .int [] 0 false]) ∧ us.length = xs.length ∧
      (∀ (i : Nat) (x : AV) (v : Value), xs[i]? = some x → us[i]? = some v → AVRel ((B.bareL w L).V w' obs' ρ') obs' ρ' x v) ∧ WRel (B.bareL w L) obs' w' ρ' ∧ xs.all freshAV = true ∧ obs'.all freshO = true := by
    intro w' e x hext he hown hb
    obtain ⟨cs, hown⟩ := hown
    have hcs : cs = [] := List.length_eq_zero_iff.1 (by simpa using hown.1)
    subst hcs
    have T := Turn.new (C := B.bareL w L) r0 hext (.arr .int [] 0 false) x ⟨[], hown, ⟨by simp, fun i hi => by simp at hi⟩, by simp, by simp⟩ (fun b hb' => hb b hb')
    refine ⟨[x], by rw [he]; rfl, [.own 0 0], [.arr .int [] 0 false], _, ⟨rfl, rfl⟩, rfl, fun i y u hy hu => ?_, (T.step r0).wr, rfl, rfl⟩
    match i, hy, hu with
    | 0, hy, hu =>
      simp at hy hu
      subst hy hu
      refine ⟨by simp, fun c hc => ?_⟩
      have : c = 0 := by simpa [genOf, O.gen] using hc.symm
      subst this
      exact ⟨Nat.le_refl _, fun _ => rfl⟩
  by_cases h0 : n = 0
  · subst h0
    refine (grow_zero w).mono fun e w' ⟨he, hw⟩ => ?_
    subst hw
    exact fin w' e _ (Ext.refl _ _) he ⟨[], World.ownsRow_nil _ _ _ _⟩ (fun b hb => by simp [Value.ownBlock] at hb)
  · obtain ⟨G, i, hG, hG63, hi, hs, hc⟩ := grow_some n (by omega) hn w
    refine hc.mono fun e w' ⟨he, hw⟩ => ?_
    subst hw
    refine fin _ e _ ((Ext.drew _ w).trans (Ext.alloc _ _ _)) he ⟨[], rfl, .inr ⟨w.heap.size, G, Builtin.zeroCells (Value.int .i64 0).cells n ++ Builtin.zeroCells (Value.int .i64 0).cells (G - n), rfl, Nat.zero_le _, ?_, Nat.zero_le _, by unfold maxLen; omega, ?_, by simp⟩⟩ (fun b hb => by simp [Value.ownBlock] at hb; omega)
    · show (w.heap.push _)[w.heap.size]? = _
      simp
    · simp [Builtin.zeroCells, Value.cells]
      omega

theorem flat_take (rows : List (List Int)) (i : Nat) (h : i < rows.length) : (rows.take i).flatten ++ rows.getD i [] = (rows.take (i + 1)).flatten := by
  rw [← take_snoc [] rows i h]; simp
theorem flat_len (rows : List (List Int)) : rows.flatten.length = sumL rows := by
  induction rows with
  | nil => rfl
  | cons r l ih => simp [sumL, ih]

theorem c_slices_Concat (rows : List (List Int)) (hl : sumL rows ≤ 2097152) (hr : rows.length ≤ 1048576) : FunA B 72 [.sl false (.row false) rows] (fun rs o => ∃ nn, rs = [.own 0 0] ∧ o = [.arr .int rows.flatten 0 nn]) := by
  refine FunA.walk B_ok (fn := Try.f72) (fun vs w => Try.call72 vs w) Try.func72 rfl (by rw [Try.ntmps72]; simp) (fun C hC hP hT hΓ hbt hfn hpin hfin => ?_); have hX := BX; rw [← hΓ, ← hbt.1, ← hbt.2] at hX; rw [Try.ntmps72]; simp only [AW7, simprocAttr, hX]
  refine Run.nq ?_; refine Run.regionW hC (fun K hK => ?_); simp only [AW7, simprocAttr, hX]; (repeat (with_reducible refine And.intro ?_ ?_); exact vc0); refine hK _ ?_; clear hK K; refine Run.nq ?_
  refine Run.nq ?_; refine Run.regionW hC (fun K hK => ?_); simp only [AW7, simprocAttr, hX]; (repeat (with_reducible refine And.intro ?_ ?_); exact vc0); refine hK _ ?_; clear hK K; refine Run.nq ?_
  refine Run.nq ?_; refine Run.regionW hC (fun K hK => ?_); simp only [AW7, simprocAttr, hX]; (repeat (with_reducible refine And.intro ?_ ?_); exact vc0); refine hK _ ?_; clear hK K; refine Run.nq ?_
  refine Run.loopI (X := Nat) (fun i => ⟨36, [(0, true, .v (.sl false (.row false) rows)), (2, true, .v .nils), (3, true, .v (.int .i64 (sumL (rows.take i)))), (9, true, .v (.sl false (.row false) rows)), (10, true, .v (.int .i64 rows.length)), (11, true, .v (.int .i64 i))], []⟩) (fun i => i ≤ rows.length) (fun i => rows.length - i) 0 (Nat.zero_le _) ?_ ?_
  · exact Le.sub (by rfl) (by simp only [AW7, simprocAttr, hX]; try simp [sumL])
  · rintro i hi ih
    have hsi := sumL_take rows i
    refine Run.nq ?_; refine Run.regionW hC (fun K hK => ?_); simp only [AW7, simprocAttr, hX]; (repeat (with_reducible refine And.intro ?_ ?_); exact vc0); refine hK _ ?_; clear hK K; refine Run.nq ?_
    refine Run.nq ?_; refine Run.condW (by simp only [AW7, simprocAttr, hX]; rfl) (by simp only [AW7, simprocAttr, hX]) ?_ ?_
    · intro hc
      have hc : i < rows.length := by simpa using hc
      have hsn := sumL_snoc rows i hc
      have hsi1 := sumL_take rows (i + 1)
      refine Run.nq ?_; refine Run.regionW hC (fun K hK => ?_); simp only [AW7, simprocAttr, hX]; (repeat (with_reducible refine And.intro ?_ ?_); exact vc0); refine hK _ ?_; clear hK K; refine Run.nq ?_
      refine Run.nq ?_; refine Run.regionW hC (fun K hK => ?_); simp (disch := omega) only [wrap_id, AW7, simprocAttr, hX]; (repeat (with_reducible refine And.intro ?_ ?_); exact vc0); refine hK _ ?_; clear hK K; refine Run.nq ?_
      refine Run.nq ?_; refine Run.regionW hC (fun K hK => ?_); simp only [AW7, simprocAttr, hX]; (repeat (with_reducible refine And.intro ?_ ?_); exact vc0); refine hK _ ?_; clear hK K; refine Run.nq ?_
      refine Run.nq ?_; refine Run.condW (by simp only [AW7, simprocAttr, hX]; rfl) (by simp only [AW7, simprocAttr, hX]) ?_ ?_
      · intro h2
        simp at h2
        omega
      · intro h2
        refine Run.nq ?_; refine Run.regionW hC (fun K hK => ?_); simp (disch := omega) only [wrap_id, AW7, simprocAttr, hX]; (repeat (with_reducible refine And.intro ?_ ?_); exact vc0); refine hK _ ?_; clear hK K; refine Run.nq ?_
        refine Run.le ?_ (ih (i + 1) hc (by omega))
        exact Le.sub (by rfl) (by simp only [AW7, simprocAttr, hX]; rw [hsn]; simp)
    · intro hc
      have hc : i = rows.length := by simp at hc; omega
      subst hc
      refine Run.exit rfl ?_; refine Run.nq ?_
      rw [List.take_length]
      refine Run.nq ?_; refine Run.regionW hC (fun K hK => ?_); simp only [AW7, simprocAttr, hX]; (repeat (with_reducible refine And.intro ?_ ?_); exact vc0)
      refine FunA.callW hP hT (c_slices_Grow (sumL rows) (by omega)) (by simp only [AW7, simprocAttr]) ?_
      rintro rs o ⟨rfl, rfl⟩
      (try simp only [AW7, simprocAttr, hX]); (repeat (with_reducible refine And.intro ?_ ?_); exact vc0)
      (repeat (with_reducible refine And.intro ?_ ?_); exact vc0); refine hK _ ?_; clear hK K; refine Run.nq ?_
      refine Run.nq ?_; refine Run.regionW hC (fun K hK => ?_); simp only [AW7, simprocAttr, hX]; (repeat (with_reducible refine And.intro ?_ ?_); exact vc0); refine hK _ ?_; clear hK K; refine Run.nq ?_
      refine Run.loopI (X := Nat × Bool) (fun x => ⟨36, [(0, true, .v (.sl false (.row false) rows)), (2, true, .v .nils), (6, true, .v (.own 0 x.1)), (25, true, .v (.sl false (.row false) rows)), (26, true, .v (.int .i64 rows.length)), (27, true, .v (.int .i64 x.1))], [.arr .int (rows.take x.1).flatten x.1 x.2]⟩) (fun x => x.1 ≤ rows.length) (fun x => rows.length - x.1) (0, false) (Nat.zero_le _) ?_ ?_
      · exact Le.sub (by rfl) (by simp only [AW7, simprocAttr, hX]; try simp)
      rintro ⟨i, nn⟩ hi ih2
      simp only [] at hi ⊢
      have hsi := sumL_take rows i
      have hfl := flat_len (rows.take i)
      refine Run.nq ?_; refine Run.regionW hC (fun K hK => ?_); simp only [AW7, simprocAttr, hX]; (repeat (with_reducible refine And.intro ?_ ?_); exact vc0); refine hK _ ?_; clear hK K; refine Run.nq ?_
      refine Run.nq ?_; refine Run.condW (by simp only [AW7, simprocAttr, hX]; rfl) (by simp only [AW7, simprocAttr, hX]) ?_ ?_
      · intro hc
        have hc : i < rows.length := by simpa using hc
        have hsn := sumL_snoc rows i hc
        have hsi1 := sumL_take rows (i + 1)
        refine Run.nq ?_; refine Run.regionW hC (fun K hK => ?_); simp only [AW7, simprocAttr, hX]; (repeat (with_reducible refine And.intro ?_ ?_); exact vc0); refine hK _ ?_; clear hK K; refine Run.nq ?_
        refine Run.nq ?_; refine Run.regionW hC (fun K hK => ?_); simp only [AW7, simprocAttr, hX]; (repeat (with_reducible refine And.intro ?_ ?_); exact vc0); refine hK _ ?_; clear hK K; refine Run.nq ?_
        refine Run.nq ?_; refine Run.regionW hC (fun K hK => ?_); simp (disch := omega) only [wrap_id, AW7, simprocAttr, hX]; (repeat (with_reducible refine And.intro ?_ ?_); exact vc0); refine hK _ ?_; clear hK K; refine Run.nq ?_
        refine Run.le ?_ (ih2 (i + 1, nn || !(rows.getD i []).isEmpty) hc (by simp only []; omega))
        exact Le.sub (by simp only [flat_take rows i hc]) (by simp only [AW7, simprocAttr, hX]; try simp)
      · intro hc
        have hc : i = rows.length := by simp at hc; omega
        subst hc
        refine Run.exit rfl ?_; refine Run.nq ?_
        refine Run.nq ?_; refine Run.regionW hC (fun K hK => ?_); simp only [AW7, simprocAttr, hX]; (repeat (with_reducible refine And.intro ?_ ?_); exact vc0); refine hK _ ?_; clear hK K; refine Run.nq ?_
        refine Run.le (Le.re (obs' := [.arr .int rows.flatten 0 nn]) hpin [0] [(2, true, .own 0 0)] rfl (by rw [List.take_length]; simp [leOs, leO_arr, oAt]) (by refine ⟨⟨_, rfl, ?_⟩, trivial⟩; simp [leAV, oAt, genO])) ?_
        simp only [frV_cons, frV_nil]
        refine Run.retW [2] (by decide) (by rw [hfn]; rfl) (by simp only [AW7, simprocAttr, hX]; rfl) (by simp only [AW7, simprocAttr, hX]) (hfin _ _ rfl rfl ?_)
        exact ⟨nn, rfl, rfl⟩

theorem c_impl_ConcatWords (a b : List Int) (ha : a.length ≤ 1048576) (hb : b.length ≤ 1048576) :
    FunA B 46 [.sl false .int a, .sl false .int b] (fun rs o => ∃ nn, rs = [.own 0 0] ∧ o = [.arr .int (a ++ b) 0 nn]) := by
  refine FunA.walk B_ok (fn := Try.f46) (fun vs w => Try.call46 vs w) Try.func46 rfl (by rw [Try.ntmps46]; simp) (fun C hC hP hT hΓ hbt hfn hpin hfin => ?_); have hX := BX; rw [← hΓ, ← hbt.1, ← hbt.2] at hX; rw [Try.ntmps46]; simp only [AW7, simprocAttr, hX]
  refine Run.nq ?_; refine Run.regionW hC (fun K hK => ?_); simp only [AW7, simprocAttr, hX]; (repeat (with_reducible refine And.intro ?_ ?_); exact vc0); refine hK _ ?_; clear hK K; refine Run.nq ?_
  refine Run.nq ?_; refine Run.regionW hC (fun K hK => ?_); simp only [AW7, simprocAttr, hX]; (repeat (with_reducible refine And.intro ?_ ?_); exact vc0)
  refine FunA.callW hP hT (c_slices_Concat [[], a, b] (by simp [sumL]; omega) (by simp)) (by simp only [AW7, simprocAttr]) ?_
  rintro rs o ⟨nn, rfl, rfl⟩
  (try simp only [AW7, simprocAttr, hX]); (repeat (with_reducible refine And.intro ?_ ?_); exact vc0)
  (repeat (with_reducible refine And.intro ?_ ?_); exact vc0); refine hK _ ?_; clear hK K; refine Run.nq ?_
  refine Run.le (Le.re (obs' := [.arr .int (a ++ b) 0 nn]) hpin [2] [(4, true, .own 0 0)] rfl (by simp [leOs, leO_arr, oAt]) (by refine ⟨⟨_, rfl, ?_⟩, trivial⟩; simp [leAV, oAt, genO])) ?_
  simp only [frV_cons, frV_nil]
  refine Run.retW [4] (by decide) (by rw [hfn]; rfl) (by simp only [AW7, simprocAttr, hX]; rfl) (by simp only [AW7, simprocAttr, hX]) (hfin _ _ rfl rfl ?_)
  exact ⟨nn, rfl, rfl⟩

end Go.Proofs.Ytdhfonblpbpmmaa
