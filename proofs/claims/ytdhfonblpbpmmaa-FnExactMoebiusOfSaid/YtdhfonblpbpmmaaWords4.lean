/- Normal forms of words, and what the library's functions on words do. -/
import Derived.Test.YtdhfonblpbpmmaaWords3
import Derived.Test.YtdhfonblpbpmmaaEq
set_option linter.unusedVariables false
set_option linter.unusedSimpArgs false
namespace Go.Proofs.Ytdhfonblpbpmmaa
open Go Go.Aw Go.Cox

theorem c_impl_reduced (c : List (List Int)) (w : List Int) (hc : CartanP c) (hw : letters c.length w) (hl : w.length ≤ 31) :
    FunA B 45 [.sl false (.row false) c, .sl false .int w] (fun rs o => rs = [.own 0 0] ∧ o = [.arr .int (redL c w) 0 true]) := by
  obtain ⟨L, h1, h2, h3⟩ := Far.image hc hw
  have hn := hc.2.1
  refine FunA.walk B_ok (fn := Try.f45) (fun vs w => Try.call45 vs w) Try.func45 rfl (by rw [Try.ntmps45]; simp) (fun C hC hP hT hΓ hbt hfn hpin hfin => ?_); have hX := BX; rw [← hΓ, ← hbt.1, ← hbt.2] at hX; rw [Try.ntmps45]; simp only [AW7, simprocAttr, hX]
  refine Run.nq ?_; refine Run.regionW hC (fun K hK => ?_); simp only [AW7, simprocAttr, hX]; (repeat (with_reducible refine And.intro ?_ ?_); exact vc0); refine hK _ ?_; clear hK K; refine Run.nq ?_
  refine Run.nq ?_; refine Run.regionW hC (fun K hK => ?_); simp only [AW7, simprocAttr, hX]; (repeat (with_reducible refine And.intro ?_ ?_); exact vc0)
  refine FunA.callW hP hT (c_impl_image c w hc hw hl) (by simp only [AW7, simprocAttr]) ?_
  rintro rs o ⟨rfl, rfl⟩
  (try simp only [AW7, simprocAttr, hX]); (repeat (with_reducible refine And.intro ?_ ?_); exact vc0)
  refine FunA.callW hP hT (c_impl_normal c (imageL c w) L hc h3 (by omega)) (by simp only [AW7, simprocAttr]) ?_
  rintro rs o ⟨rfl, rfl⟩
  (try simp only [AW7, simprocAttr, hX]); (repeat (with_reducible refine And.intro ?_ ?_); exact vc0)
  (repeat (with_reducible refine And.intro ?_ ?_); exact vc0); refine hK _ ?_; clear hK K; refine Run.nq ?_
  refine Run.le (Le.re (obs' := [.arr .int (redL c w) 0 true]) hpin [1] [(4, true, .own 0 0)] rfl (by simp [leOs, leO_arr, oAt, redL]) (by refine ⟨⟨_, rfl, ?_⟩, trivial⟩; simp [leAV, oAt, genO])) ?_
  simp only [frV_cons, frV_nil]
  refine Run.retW [4] (by decide) (by rw [hfn]; rfl) (by simp only [AW7, simprocAttr, hX]; rfl) (by simp only [AW7, simprocAttr, hX]) (hfin _ _ rfl rfl ?_)
  exact ⟨rfl, rfl⟩

theorem c_spec_l8Normal (c : List (List Int)) (w : List Int) (hc : CartanP c) (hw : letters c.length w) (hl : w.length ≤ 31) :
    FunA B 41 [.sl false (.row false) c, .sl false .int w] (fun rs o => rs = [.own 0 0] ∧ o = [.arr .int (redL c w) 0 true]) := by
  obtain ⟨L, h1, h2, h3⟩ := Far.image hc hw
  have hn := hc.2.1
  refine FunA.walk B_ok (fn := Try.f41) (fun vs w => Try.call41 vs w) Try.func41 rfl (by rw [Try.ntmps41]; simp) (fun C hC hP hT hΓ hbt hfn hpin hfin => ?_); have hX := BX; rw [← hΓ, ← hbt.1, ← hbt.2] at hX; rw [Try.ntmps41]; simp only [AW7, simprocAttr, hX]
  refine Run.nq ?_; refine Run.regionW hC (fun K hK => ?_); simp only [AW7, simprocAttr, hX]; (repeat (with_reducible refine And.intro ?_ ?_); exact vc0); refine hK _ ?_; clear hK K; refine Run.nq ?_
  refine Run.nq ?_; refine Run.regionW hC (fun K hK => ?_); simp only [AW7, simprocAttr, hX]; (repeat (with_reducible refine And.intro ?_ ?_); exact vc0)
  refine FunA.callW hP hT (c_spec_l8Image c w hc hw hl) (by simp only [AW7, simprocAttr]) ?_
  rintro rs o ⟨rfl, rfl⟩
  (try simp only [AW7, simprocAttr, hX]); (repeat (with_reducible refine And.intro ?_ ?_); exact vc0)
  refine FunA.callW hP hT (c_spec_l8Form c (imageL c w) L hc h3 (by omega)) (by simp only [AW7, simprocAttr]) ?_
  rintro rs o ⟨rfl, rfl⟩
  (try simp only [AW7, simprocAttr, hX]); (repeat (with_reducible refine And.intro ?_ ?_); exact vc0)
  (repeat (with_reducible refine And.intro ?_ ?_); exact vc0); refine hK _ ?_; clear hK K; refine Run.nq ?_
  refine Run.le (Le.re (obs' := [.arr .int (redL c w) 0 true]) hpin [1] [(4, true, .own 0 0)] rfl (by simp [leOs, leO_arr, oAt, redL]) (by refine ⟨⟨_, rfl, ?_⟩, trivial⟩; simp [leAV, oAt, genO])) ?_
  simp only [frV_cons, frV_nil]
  refine Run.retW [4] (by decide) (by rw [hfn]; rfl) (by simp only [AW7, simprocAttr, hX]; rfl) (by simp only [AW7, simprocAttr, hX]) (hfin _ _ rfl rfl ?_)
  exact ⟨rfl, rfl⟩

theorem c_impl_lengthOf (c : List (List Int)) (w : List Int) (hc : CartanP c) (hw : letters c.length w) (hl : w.length ≤ 31) :
    FunA B 63 [.sl false (.row false) c, .sl false .int w] (fun rs o => rs = [.int .i64 (redL c w).length] ∧ o = []) := by
  refine FunA.walk B_ok (fn := Try.f63) (fun vs w => Try.call63 vs w) Try.func63 rfl (by rw [Try.ntmps63]; simp) (fun C hC hP hT hΓ hbt hfn hpin hfin => ?_); have hX := BX; rw [← hΓ, ← hbt.1, ← hbt.2] at hX; rw [Try.ntmps63]; simp only [AW7, simprocAttr, hX]
  refine Run.nq ?_; refine Run.regionW hC (fun K hK => ?_); simp only [AW7, simprocAttr, hX]; (repeat (with_reducible refine And.intro ?_ ?_); exact vc0); refine hK _ ?_; clear hK K; refine Run.nq ?_
  refine Run.nq ?_; refine Run.regionW hC (fun K hK => ?_); simp only [AW7, simprocAttr, hX]; (repeat (with_reducible refine And.intro ?_ ?_); exact vc0)
  refine FunA.callW hP hT (c_impl_reduced c w hc hw hl) (by simp only [AW7, simprocAttr]) ?_
  rintro rs o ⟨rfl, rfl⟩
  (try simp only [AW7, simprocAttr, hX]); (repeat (with_reducible refine And.intro ?_ ?_); exact vc0)
  (repeat (with_reducible refine And.intro ?_ ?_); exact vc0); refine hK _ ?_; clear hK K; refine Run.nq ?_
  refine Run.le (Le.cut0 hpin [_] (fr' := [(4, true, .v (.int .i64 (redL c w).length))]) (obs' := []) rfl (by simp only [AW7, simprocAttr]; try simp) rfl) ?_
  refine Run.retW [4] (by decide) (by rw [hfn]; rfl) (by simp only [AW7, simprocAttr, hX]; rfl) (by simp only [AW7, simprocAttr, hX]) (hfin _ _ rfl rfl ?_)
  exact ⟨rfl, rfl⟩

/-- The normal form of a word of at most 15 letters; of others nothing. -/
noncomputable def nfW (c : List (List Int)) (w : List Int) : List Int := if wordB c w then redL c w else []

theorem c_spec_NormalForm (c : List (List Int)) (w : List Int) (hcl : c.length ≤ 1048576) :
    FunA B 31 [.sl false (.row false) c, .sl false .int w] (fun rs o => rs = [.own 0 0, .bool (wordB c w)] ∧ o = [.arr .int (nfW c w) 0 true]) := by
  refine FunA.walk B_ok (fn := Try.f31) (fun vs w => Try.call31 vs w) Try.func31 rfl (by rw [Try.ntmps31]; simp) (fun C hC hP hT hΓ hbt hfn hpin hfin => ?_); have hX := BX; rw [← hΓ, ← hbt.1, ← hbt.2] at hX; rw [Try.ntmps31]; simp only [AW7, simprocAttr, hX]
  refine Run.nq ?_; refine Run.regionW hC (fun K hK => ?_); simp only [AW7, simprocAttr, hX]; (repeat (with_reducible refine And.intro ?_ ?_); exact vc0); refine hK _ ?_; clear hK K; refine Run.nq ?_
  refine Run.nq ?_; refine Run.regionW hC (fun K hK => ?_); simp only [AW7, simprocAttr, hX]; (repeat (with_reducible refine And.intro ?_ ?_); exact vc0)
  refine FunA.callW hP hT (c_spec_IsWord c w hcl) (by simp only [AW7, simprocAttr]) ?_
  rintro rs o ⟨rfl, rfl⟩
  (try simp only [AW7, simprocAttr, hX]); (repeat (with_reducible refine And.intro ?_ ?_); exact vc0)
  (repeat (with_reducible refine And.intro ?_ ?_); exact vc0); refine hK _ ?_; clear hK K; refine Run.nq ?_
  refine Run.nq ?_; refine Run.condW (by simp only [AW7, simprocAttr, hX]; rfl) (by simp only [AW7, simprocAttr, hX]) ?_ ?_
  · intro hb
    have hb : wordB c w = false := by simpa using hb
    refine Run.nq ?_; refine Run.regionW hC (fun K hK => ?_); simp only [AW7, simprocAttr, hX]; (repeat (with_reducible refine And.intro ?_ ?_); exact vc0); refine hK _ ?_; clear hK K; refine Run.nq ?_
    refine Run.retW [4, 5] (by decide) (by rw [hfn]; rfl) (by simp only [AW7, simprocAttr, hX]; rfl) (by simp only [AW7, simprocAttr, hX]) (hfin _ _ rfl rfl ?_)
    simp [nfW, hb]
  · intro hb
    have hb : wordB c w = true := by simpa using hb
    obtain ⟨h1, h2, h3⟩ := wordB_iff.1 hb
    refine Run.nq ?_; refine Run.regionW hC (fun K hK => ?_); simp only [AW7, simprocAttr, hX]; (repeat (with_reducible refine And.intro ?_ ?_); exact vc0)
    refine FunA.callW hP hT (c_spec_l8Normal c w h1 h3 (by omega)) (by simp only [AW7, simprocAttr]) ?_
    rintro rs o ⟨rfl, rfl⟩
    (try simp only [AW7, simprocAttr, hX]); (repeat (with_reducible refine And.intro ?_ ?_); exact vc0)
    (repeat (with_reducible refine And.intro ?_ ?_); exact vc0); refine hK _ ?_; clear hK K; refine Run.nq ?_
    refine Run.retW [4, 5] (by decide) (by rw [hfn]; rfl) (by simp only [AW7, simprocAttr, hX]; rfl) (by simp only [AW7, simprocAttr, hX]) (hfin _ _ rfl rfl ?_)
    simp [nfW, hb]

theorem c_spec_ConcatWords (a b : List Int) (ha : a.length ≤ 1048576) (hb : b.length ≤ 1048576) :
    FunA B 42 [.sl false .int a, .sl false .int b] (fun rs o => rs = [.own 0 0] ∧ o = [.arr .int (a ++ b) 0 true]) := by
  refine FunA.walk B_ok (fn := Try.f42) (fun vs w => Try.call42 vs w) Try.func42 rfl (by rw [Try.ntmps42]; simp) (fun C hC hP hT hΓ hbt hfn hpin hfin => ?_); have hX := BX; rw [← hΓ, ← hbt.1, ← hbt.2] at hX; rw [Try.ntmps42]; simp only [AW7, simprocAttr, hX]
  refine Run.nq ?_; refine Run.regionW hC (fun K hK => ?_); simp only [AW7, simprocAttr, hX]; (repeat (with_reducible refine And.intro ?_ ?_); exact vc0); refine hK _ ?_; clear hK K; refine Run.nq ?_
  refine Run.nq ?_; refine Run.regionW hC (fun K hK => ?_); simp only [AW7, simprocAttr, hX]; (repeat (with_reducible refine And.intro ?_ ?_); exact vc0); refine hK _ ?_; clear hK K; refine Run.nq ?_
  refine Run.le (Le.re (obs' := [.arr .int (a ++ b) 0 true]) hpin [0] [(4, true, .own 0 0)] rfl (by simp [leOs, leO_arr, oAt]) (by refine ⟨⟨_, rfl, ?_⟩, trivial⟩; simp [leAV, oAt, genO])) ?_
  simp only [frV_cons, frV_nil]
  refine Run.retW [4] (by decide) (by rw [hfn]; rfl) (by simp only [AW7, simprocAttr, hX]; rfl) (by simp only [AW7, simprocAttr, hX]) (hfin _ _ rfl rfl ?_)
  exact ⟨rfl, rfl⟩

theorem rev_snoc (w : List Int) (m : Nat) (h : m < w.length) : w.reverse.take m ++ [w.getD (w.length - 1 - m) 0] = w.reverse.take (m + 1) := by
  have : w.getD (w.length - 1 - m) 0 = w.reverse.getD m 0 := by
    simp only [List.getD_eq_getElem?_getD]
    rw [List.getElem?_reverse h]
  rw [this]
  exact take_snoc 0 _ m (by simpa using h)

theorem c_spec_ReverseWord (w : List Int) (hl : w.length ≤ 1048576) :
    FunA B 56 [.sl false .int w] (fun rs o => rs = [.own 0 0] ∧ o = [.arr .int w.reverse 0 true]) := by
  refine FunA.walk B_ok (fn := Try.f56) (fun vs w => Try.call56 vs w) Try.func56 rfl (by rw [Try.ntmps56]; simp) (fun C hC hP hT hΓ hbt hfn hpin hfin => ?_); have hX := BX; rw [← hΓ, ← hbt.1, ← hbt.2] at hX; rw [Try.ntmps56]; simp only [AW7, simprocAttr, hX]
  refine Run.nq ?_; refine Run.regionW hC (fun K hK => ?_); simp only [AW7, simprocAttr, hX]; (repeat (with_reducible refine And.intro ?_ ?_); exact vc0); refine hK _ ?_; clear hK K; refine Run.nq ?_
  refine Run.nq ?_; refine Run.regionW hC (fun K hK => ?_); simp only [AW7, simprocAttr, hX]; (repeat (with_reducible refine And.intro ?_ ?_); exact vc0); refine hK _ ?_; clear hK K; refine Run.nq ?_
  refine Run.nq ?_; refine Run.regionW hC (fun K hK => ?_); simp (disch := omega) only [wrap_id, AW7, simprocAttr, hX]; (repeat (with_reducible refine And.intro ?_ ?_); exact vc0); refine hK _ ?_; clear hK K; refine Run.nq ?_
  refine Run.loopI (X := Nat) (fun m => ⟨21, [(0, true, .v (.sl false .int w)), (2, true, .v .nils), (3, true, .v (.own 0 m)), (4, true, .v (.int .i64 ((w.length : Int) - 1 - m)))], [.arr .int (w.reverse.take m) m true]⟩) (fun m => m ≤ w.length) (fun m => w.length - m) 0 (Nat.zero_le _) ?_ ?_
  · exact Le.sub (by rfl) (by simp only [AW7, simprocAttr, hX]; try simp)
  rintro m hm ih
  have hll : (w.reverse.take m).length = m := by simp; omega
  refine Run.nq ?_; refine Run.regionW hC (fun K hK => ?_); simp only [AW7, simprocAttr, hX]; (repeat (with_reducible refine And.intro ?_ ?_); exact vc0); refine hK _ ?_; clear hK K; refine Run.nq ?_
  refine Run.nq ?_; refine Run.condW (by simp only [AW7, simprocAttr, hX]; rfl) (by simp only [AW7, simprocAttr, hX]) ?_ ?_
  · intro h
    have h : m < w.length := by simp at h; omega
    have e1 : ((w.length : Int) - 1 - m).toNat = w.length - 1 - m := by omega
    refine Run.nq ?_; refine Run.regionW hC (fun K hK => ?_); simp only [AW7, simprocAttr, hX]; (repeat (with_reducible refine And.intro ?_ ?_); exact vc0)
    simp only [e1]
    (repeat (with_reducible refine And.intro ?_ ?_); exact vc0); refine hK _ ?_; clear hK K; refine Run.nq ?_
    refine Run.nq ?_; refine Run.regionW hC (fun K hK => ?_); simp (disch := omega) only [wrap_id, AW7, simprocAttr, hX]; (repeat (with_reducible refine And.intro ?_ ?_); exact vc0); refine hK _ ?_; clear hK K; refine Run.nq ?_
    refine Run.le ?_ (ih (m + 1) (by omega) (by omega))
    refine Le.cut0 hpin [_] (by rw [← rev_snoc w m h]; rfl) ?_ rfl
    simp only [AW7, simprocAttr]; try simp; omega
  · intro h
    have h : m = w.length := by simp at h; omega
    subst h
    refine Run.exit rfl ?_; refine Run.nq ?_
    refine Run.nq ?_; refine Run.regionW hC (fun K hK => ?_); simp only [AW7, simprocAttr, hX]; (repeat (with_reducible refine And.intro ?_ ?_); exact vc0); refine hK _ ?_; clear hK K; refine Run.nq ?_
    refine Run.le (Le.re (obs' := [.arr .int w.reverse 0 true]) hpin [0] [(2, true, .own 0 0)] rfl (by rw [List.take_of_length_le (by simp)]; simp [leOs, leO_arr, oAt]) (by refine ⟨⟨_, rfl, ?_⟩, trivial⟩; simp [leAV, oAt, genO])) ?_
    simp only [frV_cons, frV_nil]
    refine Run.retW [2] (by decide) (by rw [hfn]; rfl) (by simp only [AW7, simprocAttr, hX]; rfl) (by simp only [AW7, simprocAttr, hX]) (hfin _ _ rfl rfl ?_)
    exact ⟨rfl, rfl⟩

/-- A row whose first and last places have been exchanged. -/
def revM (w : List Int) (m : Nat) : List Int := (List.range w.length).map fun k => if k < m ∨ w.length - m ≤ k then w.getD (w.length - 1 - k) 0 else w.getD k 0
theorem revM_length (w : List Int) (m : Nat) : (revM w m).length = w.length := by simp [revM]
theorem revM_get (w : List Int) (m k : Nat) (hk : k < w.length) : (revM w m).getD k 0 = if k < m ∨ w.length - m ≤ k then w.getD (w.length - 1 - k) 0 else w.getD k 0 := by
  simp [revM, List.getD_eq_getElem?_getD, hk]
theorem revM_zero (w : List Int) : revM w 0 = w := by
  apply List.ext_getElem?
  intro k
  by_cases hk : k < w.length
  · have h : ¬ w.length ≤ k := by omega
    simp [revM, hk, h]
  · rw [List.getElem?_eq_none (by rw [revM_length]; omega), List.getElem?_eq_none (by omega)]
theorem revM_end (w : List Int) (m : Nat) (h : w.length ≤ 2 * m + 1) : revM w m = w.reverse := by
  apply List.ext_getElem?
  intro k
  by_cases hk : k < w.length
  · rw [List.getElem?_reverse hk]
    simp only [revM, List.getElem?_map, List.getElem?_range hk, Option.map_some]
    have e : (if k < m ∨ w.length - m ≤ k then w.getD (w.length - 1 - k) 0 else w.getD k 0) = w.getD (w.length - 1 - k) 0 := by
      split
      · rfl
      · have : w.length - 1 - k = k := by omega
        rw [this]
    rw [e, List.getD_eq_getElem?_getD, List.getElem?_eq_getElem (show w.length - 1 - k < w.length by omega)]
    simp
  · rw [List.getElem?_eq_none (by rw [revM_length]; omega), List.getElem?_eq_none (by simpa using hk)]
theorem revM_set (w : List Int) (m : Nat) (h : 2 * m + 1 < w.length) :
    ((revM w m).set m ((revM w m).getD (w.length - 1 - m) 0)).set (w.length - 1 - m) ((revM w m).getD m 0) = revM w (m + 1) := by
  rw [revM_get w m m (by omega), revM_get w m (w.length - 1 - m) (by omega), if_neg (by omega), if_neg (by omega)]
  apply List.ext_getElem?
  intro k
  rw [List.getElem?_set, List.getElem?_set]
  simp only [List.length_set, revM_length]
  by_cases h1 : w.length - 1 - m = k
  · rw [if_pos h1, if_pos (by omega)]
    simp only [revM, List.getElem?_map, List.getElem?_range (show k < w.length by omega), Option.map_some]
    rw [if_pos (by omega), show w.length - 1 - k = m from by omega]
  · rw [if_neg h1]
    by_cases h2 : m = k
    · rw [if_pos h2, if_pos (by omega)]
      simp only [revM, List.getElem?_map, List.getElem?_range (show k < w.length by omega), Option.map_some]
      rw [if_pos (by omega), h2]
    · rw [if_neg h2]
      by_cases hk : k < w.length
      · simp only [revM, List.getElem?_map, List.getElem?_range hk, Option.map_some]
        congr 1
        by_cases h3 : k < m ∨ w.length - m ≤ k
        · rw [if_pos h3, if_pos (by omega)]
        · rw [if_neg h3, if_neg (by omega)]
      · rw [List.getElem?_eq_none (by rw [revM_length]; omega), List.getElem?_eq_none (by rw [revM_length]; omega)]

theorem c_slices_Reverse (w : List Int) (nn : Bool) (hl : w.length ≤ 1048576) : FunM B 81 [.own 0 0] .int w nn (fun rs o => rs = [] ∧ o = [.arr .int w.reverse 0 nn]) := by
  refine FunM.walk B_ok (fn := Try.f81) (fun vs w => Try.call81 vs w) Try.func81 rfl (by rw [Try.ntmps81]; simp) (fun C hC hP hT hΓ hbt hfn hpin hfin => ?_); have hX := BX; rw [← hΓ, ← hbt.1, ← hbt.2] at hX; rw [Try.ntmps81]; simp only [AW7, simprocAttr, hX]
  refine Run.nq ?_; refine Run.regionW hC (fun K hK => ?_); simp (disch := omega) only [wrap_id, AW7, simprocAttr, hX]; (repeat (with_reducible refine And.intro ?_ ?_); exact vc0); refine hK _ ?_; clear hK K; refine Run.nq ?_
  refine Run.loopI (X := Nat) (fun m => ⟨28, [(0, true, .v (.own 0 0)), (2, true, .v (.int .i64 m)), (3, true, .v (.int .i64 ((w.length : Int) - 1 - m)))], [.arr .int (revM w m) 0 nn]⟩) (fun m => 2 * m ≤ w.length + 1) (fun m => w.length + 1 - m) 0 (by omega) ?_ ?_
  · exact Le.sub (by rw [revM_zero]) (by simp only [AW7, simprocAttr, hX]; try simp)
  rintro m hm ih
  have hml := revM_length w m
  refine Run.nq ?_; refine Run.regionW hC (fun K hK => ?_); simp only [AW7, simprocAttr, hX]; (repeat (with_reducible refine And.intro ?_ ?_); exact vc0); refine hK _ ?_; clear hK K; refine Run.nq ?_
  refine Run.nq ?_; refine Run.condW (by simp only [AW7, simprocAttr, hX]; rfl) (by simp only [AW7, simprocAttr, hX]) ?_ ?_
  · intro h
    have h : 2 * m + 1 < w.length := by simp at h; omega
    have e1 : ((w.length : Int) - 1 - m).toNat = w.length - 1 - m := by omega
    refine Run.nq ?_; refine Run.regionD hC true [0,1,2,3,4,5,6,7,8,9,10,11,12,13,14,15] (by kernel_rfl) (fun K hK => ?_); simp only [AW7, simprocAttr, hX]; (repeat (with_reducible refine And.intro ?_ ?_); exact vc0)
    simp only [e1]
    (repeat (with_reducible refine And.intro ?_ ?_); exact vc0); refine hK _ ?_; clear hK K; refine Run.nq ?_
    refine Run.nq ?_; refine Run.regionW hC (fun K hK => ?_); simp (disch := omega) only [wrap_id, AW7, simprocAttr, hX]; (repeat (with_reducible refine And.intro ?_ ?_); exact vc0); refine hK _ ?_; clear hK K; refine Run.nq ?_
    refine Run.le ?_ (ih (m + 1) (by omega) (by omega))
    refine Le.sub (by rw [← revM_set w m h]) ?_
    simp only [AW7, simprocAttr]; try simp; omega
  · intro h
    have h : w.length ≤ 2 * m + 1 := by simp at h; omega
    refine Run.exit rfl ?_; refine Run.nq ?_
    rw [revM_end w m h]
    refine Run.doneW (xs := []) [] (by decide) (by rw [hfn]; rfl) rfl trivial (hfin _ _ _ rfl rfl rfl ?_)
    exact ⟨rfl, rfl⟩

theorem c_impl_ReverseWord (w : List Int) (hl : w.length ≤ 1048576) :
    FunA B 64 [.sl false .int w] (fun rs o => rs = [.own 0 0] ∧ o = [.arr .int w.reverse 0 true]) := by
  refine FunA.walk B_ok (fn := Try.f64) (fun vs w => Try.call64 vs w) Try.func64 rfl (by rw [Try.ntmps64]; simp) (fun C hC hP hT hΓ hbt hfn hpin hfin => ?_); have hX := BX; rw [← hΓ, ← hbt.1, ← hbt.2] at hX; rw [Try.ntmps64]; simp only [AW7, simprocAttr, hX]
  refine Run.nq ?_; refine Run.regionW hC (fun K hK => ?_); simp only [AW7, simprocAttr, hX]; (repeat (with_reducible refine And.intro ?_ ?_); exact vc0); refine hK _ ?_; clear hK K; refine Run.nq ?_
  refine Run.nq ?_; refine Run.regionW hC (fun K hK => ?_); simp only [AW7, simprocAttr, hX]; (repeat (with_reducible refine And.intro ?_ ?_); exact vc0); refine hK _ ?_; clear hK K; refine Run.nq ?_
  refine Run.le (Le.re (obs' := [.arr .int w 0 true]) hpin [0] [(2, true, .nils), (3, true, .own 0 0)] rfl (by simp [leOs, leO_arr, oAt]) (by refine ⟨⟨_, rfl, ?_⟩, ⟨_, rfl, ?_⟩, trivial⟩ <;> simp [leAV, oAt, genO])) ?_
  simp only [frV_cons, frV_nil]
  refine Run.nq ?_; refine Run.regionW hC (fun K hK => ?_); simp only [AW7, simprocAttr, hX]; (repeat (with_reducible refine And.intro ?_ ?_); exact vc0)
  refine FunM.call hP hT (c_slices_Reverse w true hl) 0 0 (by simp only [AW7, simprocAttr]; rfl) (by simp) rfl (by simp only [AW7, simprocAttr]; try simp) ?_
  rintro rs o' obs' ⟨rfl, h⟩
  obtain ⟨rfl, rfl⟩ := List.cons.inj h
  (try simp only [AW7, simprocAttr, hX]); (repeat (with_reducible refine And.intro ?_ ?_); exact vc0)
  (repeat (with_reducible refine And.intro ?_ ?_); exact vc0); refine hK _ ?_; clear hK K; refine Run.nq ?_
  refine Run.nq ?_; refine Run.regionW hC (fun K hK => ?_); simp only [AW7, simprocAttr, hX]; (repeat (with_reducible refine And.intro ?_ ?_); exact vc0); refine hK _ ?_; clear hK K; refine Run.nq ?_
  refine Run.retW [2] (by decide) (by rw [hfn]; rfl) (by simp only [AW7, simprocAttr, hX]; rfl) (by simp only [AW7, simprocAttr, hX]) (hfin _ _ rfl rfl ?_)
  exact ⟨rfl, rfl⟩

/-- Where a number stands in a list, or -1. -/
def idxN (w : List Int) (x : Int) : Nat → Int
  | 0 => -1
  | n + 1 => if idxN w x n < 0 then (if w.getD n 0 = x then (n : Int) else -1) else idxN w x n
theorem idxN_mem (w : List Int) (x : Int) : ∀ n, n ≤ w.length → (0 ≤ idxN w x n ↔ ∃ k, k < n ∧ w.getD k 0 = x)
  | 0, _ => by simp [idxN]
  | n + 1, h => by
    have ih := idxN_mem w x n (by omega)
    simp only [idxN]
    by_cases h0 : idxN w x n < 0
    · rw [if_pos h0]
      by_cases h1 : w.getD n 0 = x
      · rw [if_pos h1]
        constructor
        · intro _; exact ⟨n, by omega, h1⟩
        · intro _; omega
      · rw [if_neg h1]
        constructor
        · intro h; omega
        · rintro ⟨k, hk, hx⟩
          by_cases hkn : k = n
          · subst hkn; exact absurd hx h1
          · have := ih.2 ⟨k, by omega, hx⟩; omega
    · rw [if_neg h0]
      constructor
      · intro h2
        obtain ⟨k, hk, hx⟩ := ih.1 h2
        exact ⟨k, by omega, hx⟩
      · intro _; omega
theorem idxN_more (w : List Int) (x : Int) : ∀ n m, n ≤ m → 0 ≤ idxN w x n → idxN w x m = idxN w x n := by
  intro n m h h0
  induction m with
  | zero => have : n = 0 := by omega
            subst this; rfl
  | succ m ih =>
    by_cases hn : n = m + 1
    · subst hn; rfl
    · have := ih (by omega)
      simp only [idxN]
      rw [if_neg (by omega), this]

end Go.Proofs.Ytdhfonblpbpmmaa
