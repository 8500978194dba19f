/- Normal forms of words, and what the library's functions on words do. -/
import Derived.Test.YtaghdbbcadhjdaaGreatDoorB10
import Derived.Test.YtaghdbbcadhjdaaGreatDoorB8
import Derived.WalkKit
import Derived.Lib.Walk
import Derived.Lib.SliceRun
import Derived.Lib.AppendZeros
import Derived.Test.YtaghdbbcadhjdaaGreatDoorB7
import Derived.Test.YtaghdbbcadhjdaaGreatDoorB9
set_option linter.unusedVariables false
set_option linter.unusedSimpArgs false
namespace Go.Proofs.YtaghdbbcadhjdaaGreatDoor
open Go Go.Aw Go.Cox
theorem c_impl_reduced (c : List (List Int)) (w : List Int) (hc : CartanP c) (hw : letters c.length w) (hl : w.length ≤ 31) :
    FunA B 38 [.sl false (.row false) c, .sl false .int w] (fun rs o => rs = [.own 0 0] ∧ o = [.arr .int (redL c w) 0 true]) := by
  obtain ⟨L, h1, h2, h3⟩ := Far.image hc hw
  have hn := hc.2.1
  refine FunA.walk B_ok (fn := Tryz.f38) (fun vs w => Tryz.call38 vs w) Tryz.func38 rfl (by rw [Tryz.ntmps38]; simp) (fun C hC hP hT hΓ hbt hfn hpin hfin => ?_); have hX := BX; rw [← hΓ, ← hbt.1, ← hbt.2.1, ← hbt.2.2.1] at hX; rw [Tryz.ntmps38]; simp only [AW7, simprocAttr, hX]
  refine Run.R ?_
  refine Run.nq ?_; refine Run.regionW hC (fun K hK => ?_); refine wW ?_
  refine FunA.cW hP hT (c_impl_image c w hc hw hl) ?_
  rintro rs o ⟨rfl, rfl⟩
  refine wW ?_
  refine FunA.cW hP hT (c_impl_normal c (imageL c w) L hc h3 (by omega)) ?_
  rintro rs o ⟨rfl, rfl⟩
  refine wW ?_
  refine wE ?_; clear hK K
  refine Run.le (Le.re (obs' := [.arr .int (redL c w) 0 true]) hpin [1] [(4, true, .own 0 0)] rfl (by simp [leOs, leO_arr, oAt, redL]) (by refine ⟨⟨_, rfl, ?_⟩, trivial⟩; simp [leAV, oAt, genO])) ?_
  simp only [frV_cons, frV_nil]
  refine Run.rW [4] (hfin _ _ rfl rfl ?_)
  exact ⟨rfl, rfl⟩
theorem c_spec_l8Normal (c : List (List Int)) (w : List Int) (hc : CartanP c) (hw : letters c.length w) (hl : w.length ≤ 31) :
    FunA B 33 [.sl false (.row false) c, .sl false .int w] (fun rs o => rs = [.own 0 0] ∧ o = [.arr .int (redL c w) 0 true]) := by
  obtain ⟨L, h1, h2, h3⟩ := Far.image hc hw
  have hn := hc.2.1
  refine FunA.walk B_ok (fn := Tryz.f33) (fun vs w => Tryz.call33 vs w) Tryz.func33 rfl (by rw [Tryz.ntmps33]; simp) (fun C hC hP hT hΓ hbt hfn hpin hfin => ?_); have hX := BX; rw [← hΓ, ← hbt.1, ← hbt.2.1, ← hbt.2.2.1] at hX; rw [Tryz.ntmps33]; simp only [AW7, simprocAttr, hX]
  refine Run.R ?_
  refine Run.nq ?_; refine Run.regionW hC (fun K hK => ?_); refine wW ?_
  refine FunA.cW hP hT (c_spec_l8Image c w hc hw hl) ?_
  rintro rs o ⟨rfl, rfl⟩
  refine wW ?_
  refine FunA.cW hP hT (c_spec_l8Form c (imageL c w) L hc h3 (by omega)) ?_
  rintro rs o ⟨rfl, rfl⟩
  refine wW ?_
  refine wE ?_; clear hK K
  refine Run.le (Le.re (obs' := [.arr .int (redL c w) 0 true]) hpin [1] [(4, true, .own 0 0)] rfl (by simp [leOs, leO_arr, oAt, redL]) (by refine ⟨⟨_, rfl, ?_⟩, trivial⟩; simp [leAV, oAt, genO])) ?_
  simp only [frV_cons, frV_nil]
  refine Run.rW [4] (hfin _ _ rfl rfl ?_)
  exact ⟨rfl, rfl⟩
theorem c_spec_ConcatWords (a b : List Int) (ha : a.length ≤ 1048576) (hb : b.length ≤ 1048576) :
    FunA B 34 [.sl false .int a, .sl false .int b] (fun rs o => rs = [.own 0 0] ∧ o = [.arr .int (a ++ b) 0 true]) := by
  refine FunA.walk B_ok (fn := Tryz.f34) (fun vs w => Tryz.call34 vs w) Tryz.func34 rfl (by rw [Tryz.ntmps34]; simp) (fun C hC hP hT hΓ hbt hfn hpin hfin => ?_); have hX := BX; rw [← hΓ, ← hbt.1, ← hbt.2.1, ← hbt.2.2.1] at hX; rw [Tryz.ntmps34]; simp only [AW7, simprocAttr, hX]
  refine Run.R ?_
  refine Run.R ?_
  refine Run.le (Le.re (obs' := [.arr .int (a ++ b) 0 true]) hpin [0] [(4, true, .own 0 0)] rfl (by simp [leOs, leO_arr, oAt]) (by refine ⟨⟨_, rfl, ?_⟩, trivial⟩; simp [leAV, oAt, genO])) ?_
  simp only [frV_cons, frV_nil]
  refine Run.rW [4] (hfin _ _ rfl rfl ?_)
  exact ⟨rfl, rfl⟩
theorem rev_snoc (w : List Int) (m : Nat) (h : m < w.length) : w.reverse.take m ++ [w.getD (w.length - 1 - m) 0] = w.reverse.take (m + 1) := by
  have : w.getD (w.length - 1 - m) 0 = w.reverse.getD m 0 := by
    simp only [List.getD_eq_getElem?_getD]
    rw [List.getElem?_reverse h]
  rw [this]
  exact take_snoc 0 _ m (by simpa using h)
theorem c_spec_ReverseWord (w : List Int) (hl : w.length ≤ 1048576) :
    FunA B 87 [.sl false .int w] (fun rs o => rs = [.own 0 0] ∧ o = [.arr .int w.reverse 0 true]) := by
  refine FunA.walk B_ok (fn := Tryz.f87) (fun vs w => Tryz.call87 vs w) Tryz.func87 rfl (by rw [Tryz.ntmps87]; simp) (fun C hC hP hT hΓ hbt hfn hpin hfin => ?_); have hX := BX; rw [← hΓ, ← hbt.1, ← hbt.2.1, ← hbt.2.2.1] at hX; rw [Tryz.ntmps87]; simp only [AW7, simprocAttr, hX]
  refine Run.R ?_
  refine Run.R ?_
  refine Run.RW ?_
  refine Run.loopI (X := Nat) (fun m => ⟨21, [(0, true, .v (.sl false .int w)), (2, true, .v .nils), (3, true, .v (.own 0 m)), (4, true, .v (.int .i64 ((w.length : Int) - 1 - m)))], [.arr .int (w.reverse.take m) m true]⟩) (fun m => m ≤ w.length) (fun m => w.length - m) 0 (Nat.zero_le _) ?_ ?_
  · exact Le.sub (by rfl) (by simp only [AW7, simprocAttr, hX]; try simp)
  rintro m hm ih
  have hll : (w.reverse.take m).length = m := by simp; omega
  refine Run.R ?_
  refine Run.nq ?_; refine Run.cW ?_ ?_
  · intro h
    have h : m < w.length := by simp at h; omega
    have e1 : ((w.length : Int) - 1 - m).toNat = w.length - 1 - m := by omega
    refine Run.nq ?_; refine Run.regionW hC (fun K hK => ?_); refine wW ?_
    simp only [e1]
    refine wE ?_; clear hK K
    refine Run.RW ?_
    refine Run.le ?_ (ih (m + 1) (by omega) (by omega))
    refine Le.cut0 hpin [_] (by rw [← rev_snoc w m h]; rfl) ?_ rfl
    simp only [AW7, simprocAttr]; try simp; omega
  · intro h
    have h : m = w.length := by simp at h; omega
    subst h
    refine Run.exit rfl ?_; refine Run.nq ?_
    refine Run.R ?_
    refine Run.le (Le.re (obs' := [.arr .int w.reverse 0 true]) hpin [0] [(2, true, .own 0 0)] rfl (by rw [List.take_of_length_le (by simp)]; simp [leOs, leO_arr, oAt]) (by refine ⟨⟨_, rfl, ?_⟩, trivial⟩; simp [leAV, oAt, genO])) ?_
    simp only [frV_cons, frV_nil]
    refine Run.rW [2] (hfin _ _ rfl rfl ?_)
    exact ⟨rfl, rfl⟩
def revM (w : List Int) (m : Nat) : List Int := (List.range w.length).map fun k => if k < m ∨ w.length - m ≤ k then w.getD (w.length - 1 - k) 0 else w.getD k 0
theorem revM_length (w : List Int) (m : Nat) : (revM w m).length = w.length := by simp [revM]
theorem revM_get (w : List Int) (m k : Nat) (hk : k < w.length) : (revM w m).getD k 0 = if k < m ∨ w.length - m ≤ k then w.getD (w.length - 1 - k) 0 else w.getD k 0 := by
  simp [revM, List.getD_eq_getElem?_getD, hk]
theorem revM_zero (w : List Int) : revM w 0 = w := by
  apply List.ext_getElem?
  intro k
  by_cases hk : k < w.length
  · have h : ¬ w.length ≤ k := by omega
    simp [revM, hk, h]
  · rw [List.getElem?_eq_none (by rw [revM_length]; omega), List.getElem?_eq_none (by omega)]
theorem revM_end (w : List Int) (m : Nat) (h : w.length ≤ 2 * m + 1) : revM w m = w.reverse := by
  apply List.ext_getElem?
  intro k
  by_cases hk : k < w.length
  · rw [List.getElem?_reverse hk]
    simp only [revM, List.getElem?_map, List.getElem?_range hk, Option.map_some]
    have e : (if k < m ∨ w.length - m ≤ k then w.getD (w.length - 1 - k) 0 else w.getD k 0) = w.getD (w.length - 1 - k) 0 := by
      split
      · rfl
      · have : w.length - 1 - k = k := by omega
        rw [this]
    rw [e, List.getD_eq_getElem?_getD, List.getElem?_eq_getElem (show w.length - 1 - k < w.length by omega)]
    simp
  · rw [List.getElem?_eq_none (by rw [revM_length]; omega), List.getElem?_eq_none (by simpa using hk)]
theorem revM_set (w : List Int) (m : Nat) (h : 2 * m + 1 < w.length) :
    ((revM w m).set m ((revM w m).getD (w.length - 1 - m) 0)).set (w.length - 1 - m) ((revM w m).getD m 0) = revM w (m + 1) := by
  rw [revM_get w m m (by omega), revM_get w m (w.length - 1 - m) (by omega), if_neg (by omega), if_neg (by omega)]
  apply List.ext_getElem?
  intro k
  rw [List.getElem?_set, List.getElem?_set]
  simp only [List.length_set, revM_length]
  by_cases h1 : w.length - 1 - m = k
  · rw [if_pos h1, if_pos (by omega)]
    simp only [revM, List.getElem?_map, List.getElem?_range (show k < w.length by omega), Option.map_some]
    rw [if_pos (by omega), show w.length - 1 - k = m from by omega]
  · rw [if_neg h1]
    by_cases h2 : m = k
    · rw [if_pos h2, if_pos (by omega)]
      simp only [revM, List.getElem?_map, List.getElem?_range (show k < w.length by omega), Option.map_some]
      rw [if_pos (by omega), h2]
    · rw [if_neg h2]
      by_cases hk : k < w.length
      · simp only [revM, List.getElem?_map, List.getElem?_range hk, Option.map_some]
        congr 1
        by_cases h3 : k < m ∨ w.length - m ≤ k
        · rw [if_pos h3, if_pos (by omega)]
        · rw [if_neg h3, if_neg (by omega)]
      · rw [List.getElem?_eq_none (by rw [revM_length]; omega), List.getElem?_eq_none (by rw [revM_length]; omega)]
theorem c_slices_Reverse (w : List Int) (nn : Bool) (hl : w.length ≤ 1048576) : FunM B 121 [.own 0 0] .int w nn (fun rs o => rs = [] ∧ o = [.arr .int w.reverse 0 nn]) := by
  refine FunM.walk B_ok (fn := Tryz.f121) (fun vs w => Tryz.call121 vs w) Tryz.func121 rfl (by rw [Tryz.ntmps121]; simp) (fun C hC hP hT hΓ hbt hfn hpin hfin => ?_); have hX := BX; rw [← hΓ, ← hbt.1, ← hbt.2.1, ← hbt.2.2.1] at hX; rw [Tryz.ntmps121]; simp only [AW7, simprocAttr, hX]
  refine Run.RW ?_
  refine Run.loopI (X := Nat) (fun m => ⟨28, [(0, true, .v (.own 0 0)), (2, true, .v (.int .i64 m)), (3, true, .v (.int .i64 ((w.length : Int) - 1 - m)))], [.arr .int (revM w m) 0 nn]⟩) (fun m => 2 * m ≤ w.length + 1) (fun m => w.length + 1 - m) 0 (by omega) ?_ ?_
  · exact Le.sub (by rw [revM_zero]) (by simp only [AW7, simprocAttr, hX]; try simp)
  rintro m hm ih
  have hml := revM_length w m
  refine Run.R ?_
  refine Run.nq ?_; refine Run.cW ?_ ?_
  · intro h
    have h : 2 * m + 1 < w.length := by simp at h; omega
    have e1 : ((w.length : Int) - 1 - m).toNat = w.length - 1 - m := by omega
    refine Run.nq ?_; refine Run.regionD hC true [0,1,2,3,4,5,6,7,8,9,10,11,12,13,14,15] (by kernel_rfl) (fun K hK => ?_); simp only [AW7, simprocAttr, hX]; (repeat (with_reducible refine And.intro ?_ ?_); exact vc0)
    simp only [e1]
    refine wE ?_; clear hK K
    refine Run.RW ?_
    refine Run.le ?_ (ih (m + 1) (by omega) (by omega))
    refine Le.sub (by rw [← revM_set w m h]) ?_
    simp only [AW7, simprocAttr]; try simp; omega
  · intro h
    have h : w.length ≤ 2 * m + 1 := by simp at h; omega
    refine Run.exit rfl ?_; refine Run.nq ?_
    rw [revM_end w m h]
    refine Run.doneW (xs := []) [] (by decide) (by rw [hfn]; rfl) rfl trivial (hfin _ _ _ rfl rfl rfl ?_)
    exact ⟨rfl, rfl⟩
theorem c_impl_ReverseWord (w : List Int) (hl : w.length ≤ 1048576) :
    FunA B 90 [.sl false .int w] (fun rs o => rs = [.own 0 0] ∧ o = [.arr .int w.reverse 0 true]) := by
  refine FunA.walk B_ok (fn := Tryz.f90) (fun vs w => Tryz.call90 vs w) Tryz.func90 rfl (by rw [Tryz.ntmps90]; simp) (fun C hC hP hT hΓ hbt hfn hpin hfin => ?_); have hX := BX; rw [← hΓ, ← hbt.1, ← hbt.2.1, ← hbt.2.2.1] at hX; rw [Tryz.ntmps90]; simp only [AW7, simprocAttr, hX]
  refine Run.R ?_
  refine Run.R ?_
  refine Run.le (Le.re (obs' := [.arr .int w 0 true]) hpin [0] [(2, true, .nils), (3, true, .own 0 0)] rfl (by simp [leOs, leO_arr, oAt]) (by refine ⟨⟨_, rfl, ?_⟩, ⟨_, rfl, ?_⟩, trivial⟩ <;> simp [leAV, oAt, genO])) ?_
  simp only [frV_cons, frV_nil]
  refine Run.nq ?_; refine Run.regionW hC (fun K hK => ?_); refine wW ?_
  refine FunM.call hP hT (c_slices_Reverse w true hl) 0 0 (by simp only [AW7, simprocAttr]; rfl) (by simp) rfl (by simp only [AW7, simprocAttr]; try simp) ?_
  rintro rs o' obs' ⟨rfl, h⟩
  obtain ⟨rfl, rfl⟩ := List.cons.inj h
  refine wW ?_
  refine wE ?_; clear hK K
  refine Run.R ?_
  refine Run.rW [2] (hfin _ _ rfl rfl ?_)
  exact ⟨rfl, rfl⟩
def idxN (w : List Int) (x : Int) : Nat → Int
  | 0 => -1
  | n + 1 => if idxN w x n < 0 then (if w.getD n 0 = x then (n : Int) else -1) else idxN w x n
theorem idxN_mem (w : List Int) (x : Int) : ∀ n, n ≤ w.length → (0 ≤ idxN w x n ↔ ∃ k, k < n ∧ w.getD k 0 = x)
  | 0, _ => by simp [idxN]
  | n + 1, h => by
    have ih := idxN_mem w x n (by omega)
    simp only [idxN]
    by_cases h0 : idxN w x n < 0
    · rw [if_pos h0]
      by_cases h1 : w.getD n 0 = x
      · rw [if_pos h1]
        constructor
        · intro _; exact ⟨n, by omega, h1⟩
        · intro _; omega
      · rw [if_neg h1]
        constructor
        · intro h; omega
        · rintro ⟨k, hk, hx⟩
          by_cases hkn : k = n
          · subst hkn; exact absurd hx h1
          · have := ih.2 ⟨k, by omega, hx⟩; omega
    · rw [if_neg h0]
      constructor
      · intro h2
        obtain ⟨k, hk, hx⟩ := ih.1 h2
        exact ⟨k, by omega, hx⟩
      · intro _; omega
theorem idxN_more (w : List Int) (x : Int) : ∀ n m, n ≤ m → 0 ≤ idxN w x n → idxN w x m = idxN w x n := by
  intro n m h h0
  induction m with
  | zero => have : n = 0 := by omega
            subst this; rfl
  | succ m ih =>
    by_cases hn : n = m + 1
    · subst hn; rfl
    · have := ih (by omega)
      simp only [idxN]
      rw [if_neg (by omega), this]
theorem c_slices_Index (w : List Int) (x : Int) (hl : w.length ≤ 1048576) : FunA B 203 [.sl false .int w, .int .i64 x] (fun rs o => rs = [.int .i64 (idxN w x w.length)] ∧ o = []) := by
  refine FunA.walk B_ok (fn := Tryz.f203) (fun vs w => Tryz.call203 vs w) Tryz.func203 rfl (by rw [Tryz.ntmps203]; simp) (fun C hC hP hT hΓ hbt hfn hpin hfin => ?_); have hX := BX; rw [← hΓ, ← hbt.1, ← hbt.2.1, ← hbt.2.2.1] at hX; rw [Tryz.ntmps203]; simp only [AW7, simprocAttr, hX]
  refine Run.R ?_
  refine Run.R ?_
  refine Run.loopI (X := Nat) (fun i => ⟨19, [(0, true, .v (.sl false .int w)), (1, true, .v (.int .i64 x)), (4, true, .v (.int .i64 0)), (7, true, .v (.int .i64 w.length)), (8, true, .v (.int .i64 i))], []⟩) (fun i => i ≤ w.length ∧ idxN w x i < 0) (fun i => w.length - i) 0 ⟨Nat.zero_le _, by simp [idxN]⟩ ?_ ?_
  · exact Le.sub (by simp only [AW7, simprocAttr]) (by simp only [AW7, simprocAttr]; try simp)
  rintro i ⟨hi, hf⟩ ih
  refine Run.R ?_
  refine Run.nq ?_; refine Run.cW ?_ ?_
  · intro h
    have h : i < w.length := by simpa using h
    refine Run.R ?_
    refine Run.R ?_
    have hs : idxN w x (i + 1) = if w.getD i 0 = x then (i : Int) else -1 := by simp only [idxN]; rw [if_pos hf]
    refine Run.nq ?_; refine Run.cW ?_ ?_
    · intro hx
      have hx : w.getD i 0 = x := by simp at hx; simpa using hx.symm
      refine Run.R ?_
      refine Run.rW [4] (hfin _ _ rfl rfl ?_)
      refine ⟨?_, rfl⟩
      rw [if_pos hx] at hs
      rw [idxN_more w x (i + 1) w.length h (by omega), hs]
    · intro hx
      have hx : ¬ w.getD i 0 = x := by simp at hx; intro k; apply hx; simpa using k.symm
      refine Run.RW ?_
      refine Run.le ?_ (ih (i + 1) ⟨h, by rw [hs, if_neg hx]; decide⟩ (by omega))
      exact Le.sub (by simp only [AW7, simprocAttr]) (by simp only [AW7, simprocAttr, Option.some.injEq, Prod.mk.injEq, Sl.v.injEq, AV.int.injEq, AV.own.injEq, AV.bool.injEq]; try (repeat' apply And.intro); all_goals omega)
  · intro h
    have h : i = w.length := by simp at h; omega
    subst h
    refine Run.exit rfl ?_; refine Run.nq ?_
    refine Run.R ?_
    refine Run.rW [4] (hfin _ _ rfl rfl ?_)
    refine ⟨?_, rfl⟩
    have : ∀ n, idxN w x n < 0 → idxN w x n = -1 := by
      intro n
      induction n with
      | zero => intro _; rfl
      | succ n ih =>
        intro h
        simp only [idxN] at h ⊢
        by_cases h0 : idxN w x n < 0
        · rw [if_pos h0] at h ⊢
          split at h
          · omega
          · rw [if_neg (by assumption)]
        · rw [if_neg h0] at h; omega
    rw [this _ hf]
theorem c_slices_Contains (w : List Int) (x : Int) (hl : w.length ≤ 1048576) : FunA B 194 [.sl false .int w, .int .i64 x] (fun rs o => rs = [.bool (decide (x ∈ w))] ∧ o = []) := by
  refine FunA.walk B_ok (fn := Tryz.f194) (fun vs w => Tryz.call194 vs w) Tryz.func194 rfl (by rw [Tryz.ntmps194]; simp) (fun C hC hP hT hΓ hbt hfn hpin hfin => ?_); have hX := BX; rw [← hΓ, ← hbt.1, ← hbt.2.1, ← hbt.2.2.1] at hX; rw [Tryz.ntmps194]; simp only [AW7, simprocAttr, hX]
  refine Run.R ?_
  refine Run.nq ?_; refine Run.regionW hC (fun K hK => ?_); refine wW ?_
  refine FunA.cW hP hT (c_slices_Index w x hl) ?_
  rintro rs o ⟨rfl, rfl⟩
  refine wW ?_
  refine wE ?_; clear hK K
  refine Run.rW [4] (hfin _ _ rfl rfl ?_)
  refine ⟨?_, rfl⟩
  have h := idxN_mem w x w.length (Nat.le_refl _)
  have e : (∃ k, k < w.length ∧ w.getD k 0 = x) ↔ x ∈ w := by
    constructor
    · rintro ⟨k, hk, rfl⟩; exact getD_mem hk
    · intro hx
      obtain ⟨k, hk, rfl⟩ := List.getElem_of_mem hx
      exact ⟨k, hk, by simp [hk]⟩
  rw [e] at h
  congr 2
  rw [Bool.eq_iff_iff]
  simpa using h
end Go.Proofs.YtaghdbbcadhjdaaGreatDoor
namespace Go.Proofs.YtaghdbbcadhjdaaGreatDoor
open Go Go.Aw Go.Cox Go.RowKit
theorem grow_zero (w : World) : Calls Tryz.prog 83 #[.slice none 0 0, .int .i64 0] w fun e w' => e = .returned (.slice none 0 0) ∧ w' = w := by
  go_enter Tryz.func83, Tryz.ntmps83
  go_wp2
  go_ret
  exact ⟨rfl, rfl⟩
set_option maxRecDepth 100000 in
theorem grow_some (n : Nat) (h0 : 0 < n) (hn : n ≤ 2097152) (w : World) : ∃ G i, n ≤ G ∧ G ≤ 9223372036854775807 ∧ Tryz.prog.info? 3 = some i ∧ i.size = 1 ∧ Calls Tryz.prog 83 #[.slice none 0 0, .int .i64 n] w fun e w' =>
    e = .returned (.slice (some ⟨w.heap.size, 0, none⟩) 0 G) ∧ w' = w.drew.alloc (.cells (Builtin.zeroCells (Value.int .i64 0).cells n ++ Builtin.zeroCells (Value.int .i64 0).cells (G - n)) 3) := by
  obtain ⟨i, hi, hz, hs, hb⟩ : ∃ i, Tryz.prog.info? 3 = some i ∧ i.zero = some (.int .i64 0) ∧ i.size = 1 ∧ i.bytes = 8 := ⟨_, rfl, rfl, rfl, rfl⟩
  refine ⟨grownCap w n 0 3, i, grownCap_ge w _ _ _, ?_, hi, hs, ?_⟩
  · have := grownCap_le_maxLen w n 0 3 (by unfold maxLen; omega)
    unfold maxLen at this
    omega
  have hG : n ≤ grownCap w n 0 3 := grownCap_ge w _ _ _
  have hG63 : grownCap w n 0 3 ≤ 9223372036854775807 := by
    have := grownCap_le_maxLen w n 0 3 (by unfold maxLen; omega)
    unfold maxLen at this
    omega
  have hrz : ∀ ty, (Builtin.append_ #[27, 3] ty #[.slice none 0 0, .int .i64 (n : Int)]).run Tryz.prog w =
      .ok (.slice (some ⟨w.heap.size, 0, none⟩) n (grownCap w n 0 3)) (w.drew.alloc (.cells (Builtin.zeroCells (Value.int .i64 0).cells n ++ Builtin.zeroCells (Value.int .i64 0).cells (grownCap w n 0 3 - n)) 3)) := fun ty =>
    Lib.run_append_nil_zeros w 27 3 ty 3 i (.int .i64 0) .i64 .i64 Tryz.underlying27 Tryz.underlying3 hi hz n h0 (by omega) (by omega) (by rw [hb]; omega)
  generalize grownCap w n 0 3 = G at hrz hG hG63 ⊢
  have h1 : ¬ ((n : Int) < 0) := by omega
  have h3 : wrap64 ((n : Int)) = (n : Int) := by unfold wrap64; omega
  have h4 : (n : Int) > 0 := by omega
  go_enter Tryz.func83, Tryz.ntmps83
  go_wp2_with (at_builtin; refine Lib.wpList_append_run _ rfl _ _ _ _ rfl _ _ rfl rfl _ _ (hrz _) ?_)
  all_goals (go_ret; exact ⟨rfl, rfl⟩)
end Go.Proofs.YtaghdbbcadhjdaaGreatDoor
namespace Go.Proofs.YtaghdbbcadhjdaaGreatDoor
open Go Go.Aw Go.Cox
theorem c_slices_Clone (w : List Int) (hl : w.length ≤ 1048576) : FunA B 193 [.sl false .int w] (fun rs o => ∃ nn, rs = [.own 0 0] ∧ o = [.arr .int w 0 nn]) := by
  refine FunA.walk B_ok (fn := Tryz.f193) (fun vs w => Tryz.call193 vs w) Tryz.func193 rfl (by rw [Tryz.ntmps193]; simp) (fun C hC hP hT hΓ hbt hfn hpin hfin => ?_); have hX := BX; rw [← hΓ, ← hbt.1, ← hbt.2.1, ← hbt.2.2.1] at hX; rw [Tryz.ntmps193]; simp only [AW7, simprocAttr, hX]
  refine Run.R ?_
  cases w with
  | nil =>
    refine Run.nilcase 0 rfl fun b => ?_
    refine Run.R ?_
    refine Run.nq ?_; refine Run.cW ?_ ?_
    · intro h
      refine Run.R ?_
      refine Run.nilown .int 2 rfl ?_
      refine Run.rW [2] (hfin _ _ rfl rfl ?_)
      exact ⟨false, rfl, rfl⟩
    · intro h
      refine Run.R ?_
      refine Run.le (Le.re (obs' := [.arr .int [] 0 true]) hpin [0] [(2, true, .own 0 0)] rfl (by simp [leOs, leO_arr, oAt]) (by refine ⟨⟨_, rfl, ?_⟩, trivial⟩; simp [leAV, oAt, genO])) ?_
      simp only [frV_cons, frV_nil]
      refine Run.rW [2] (hfin _ _ rfl rfl ?_)
      exact ⟨true, rfl, rfl⟩
  | cons x w =>
    refine Run.R ?_
    refine Run.nq ?_; refine Run.cW ?_ ?_
    · intro h
      simp at h
    · intro h
      refine Run.R ?_
      refine Run.le (Le.re (obs' := [.arr .int (x :: w) 0 true]) hpin [0] [(2, true, .own 0 0)] rfl (by simp [leOs, leO_arr, oAt]) (by refine ⟨⟨_, rfl, ?_⟩, trivial⟩; simp [leAV, oAt, genO])) ?_
      simp only [frV_cons, frV_nil]
      refine Run.rW [2] (hfin _ _ rfl rfl ?_)
      exact ⟨true, rfl, rfl⟩
end Go.Proofs.YtaghdbbcadhjdaaGreatDoor
namespace Go.Proofs.YtaghdbbcadhjdaaGreatDoor
open Go Go.Aw
def sumL : List (List Int) → Nat
  | [] => 0
  | r :: rs => r.length + sumL rs
def iotaR (k : Int) : List (List Int) → List (List Int)
  | [] => []
  | r :: rs => iota k r.length :: iotaR (k + r.length) rs
theorem iotaR_length (k : Int) : ∀ rows, (iotaR k rows).length = rows.length
  | [] => rfl
  | r :: rs => by simp [iotaR, iotaR_length (k + r.length) rs]
theorem sumL_append : ∀ a b, sumL (a ++ b) = sumL a + sumL b
  | [], b => by simp [sumL]
  | r :: rs, b => by simp [sumL, sumL_append rs b]; omega
theorem iotaR_append (k : Int) : ∀ a b, iotaR k (a ++ b) = iotaR k a ++ iotaR (k + sumL a) b
  | [], b => by simp [iotaR, sumL]
  | r :: rs, b => by simp [iotaR, sumL, iotaR_append (k + r.length) rs b]; congr 1; omega
theorem sumL_iotaR (k : Int) : ∀ rows, sumL (iotaR k rows) = sumL rows
  | [] => rfl
  | r :: rs => by simp [iotaR, sumL, iota_length, sumL_iotaR]
theorem sumL_take (rows : List (List Int)) (i : Nat) : sumL (rows.take i) ≤ sumL rows := by
  have := sumL_append (rows.take i) (rows.drop i)
  rw [List.take_append_drop] at this
  omega
theorem sumL_snoc (rows : List (List Int)) (i : Nat) (h : i < rows.length) : sumL (rows.take (i + 1)) = sumL (rows.take i) + (rows.getD i []).length := by
  rw [← take_snoc [] rows i h, sumL_append]
  simp [sumL]
theorem iotaR_snoc (k : Int) (rows : List (List Int)) (i : Nat) (h : i < rows.length) : iotaR k (rows.take (i + 1)) = iotaR k (rows.take i) ++ [iota (k + sumL (rows.take i)) (rows.getD i []).length] := by
  rw [← take_snoc [] rows i h, iotaR_append]
  simp [iotaR]
theorem mark_get (k : Int) (rows : List (List Int)) (i : Nat) (h : i < rows.length) : (iotaR k (rows.take i) ++ rows.drop i).getD i [] = rows.getD i [] := by
  have hl : (iotaR k (rows.take i)).length = i := by rw [iotaR_length]; simp; omega
  simp only [List.getD_eq_getElem?_getD]
  rw [List.getElem?_append_right (by omega), hl, Nat.sub_self]
  simp
theorem mark_set (k : Int) (rows : List (List Int)) (i : Nat) (h : i < rows.length) : (iotaR k (rows.take i) ++ rows.drop i).set i (iota (k + sumL (rows.take i)) (rows.getD i []).length) = iotaR k (rows.take (i + 1)) ++ rows.drop (i + 1) := by
  have hl : (iotaR k (rows.take i)).length = i := by rw [iotaR_length]; simp; omega
  rw [List.set_append, hl, if_neg (by omega), Nat.sub_self, List.drop_eq_getElem_cons h, List.set_cons_zero, iotaR_snoc k rows i h]
  simp
theorem szR_sum : ∀ (rows : List (List Int)) (l : Int), 0 ≤ l → 0 ≤ szR rows l → (sumL rows : Int) ≤ l
  | [], l, h0, _ => by simpa [sumL] using h0
  | r :: rs, l, h0, h => by
    simp only [szR] at h
    by_cases hs : szI r l < 0
    · rw [if_pos hs] at h; omega
    · rw [if_neg hs] at h
      have h1 : 0 ≤ szI r l := by omega
      have h2 : szI r l = l - r.length := by unfold szI at h1 ⊢; split <;> simp_all
      have := szR_sum rs _ h1 h
      simp only [sumL]
      omega
theorem szII_all (rows : List (List Int)) (l : Int) (h0 : 0 ≤ l ∧ l ≤ 1048576) (h : 0 ≤ szII rows l) : rows.length ≤ 1048576 ∧ (∀ r ∈ rows, r.length ≤ 1048576) ∧ sumL rows ≤ 1048576 ∧ szII rows l ≤ 1048576 := by
  obtain ⟨h1, h2⟩ := szII_le rows l h0.1 h
  refine ⟨by omega, fun r hr => by have := h2 r hr; omega, ?_, ?_⟩
  · unfold szII at h
    split at h
    · omega
    · have := szR_sum rows _ (by omega) h; omega
  · unfold szII at h ⊢
    split at h
    · omega
    · rename_i h3
      rw [if_neg h3]
      have := (szR_le rows (l - rows.length) (by omega) h).1
      omega
theorem c_markIntSS (hs : List (Option Nat)) (rows : List (List Int)) (k : Int) (hp : rows.length ≤ 4503599627370496) (hk : 0 ≤ k ∧ k + sumL rows ≤ 4503599627370496) (nn : Bool) :
    FunO B 14 [.own 0 0, .int .i64 k] (.mat hs rows 0 nn) (fun rs o => rs = [.int .i64 (k + sumL rows)] ∧ o = [.mat hs (iotaR k rows) 0 nn]) := by
  refine FunO.walk B_ok (fn := Tryz.f14) (fun vs w => Tryz.call14 vs w) Tryz.func14 rfl (by rw [Tryz.ntmps14]; simp) (fun C hC hP hT hΓ hbt hfn hpin hfin => ?_); have hX := BX; rw [← hΓ, ← hbt.1, ← hbt.2.1, ← hbt.2.2.1] at hX; rw [Tryz.ntmps14]; simp only [AW7, simprocAttr, hX]
  refine Run.R ?_
  refine Run.R ?_
  refine Run.loopI (X := Nat) (fun i => ⟨19, [(0, true, .v (.own 0 0)), (1, true, .v (.int .i64 (k + sumL (rows.take i)))), (4, true, .v (.int .i64 0)), (5, true, .v (.int .i64 i))], [.mat hs (iotaR k (rows.take i) ++ rows.drop i) 0 nn]⟩) (fun i => i ≤ rows.length) (fun i => rows.length - i) 0 (by simp) ?_ ?_
  · refine Le.sub (by simp [iotaR]) ?_
    simp only [AW7, simprocAttr, hX]; try simp [sumL]
  rintro i hi ih
  have hlen : (iotaR k (rows.take i) ++ rows.drop i).length = rows.length := by simp [iotaR_length]; omega
  have hst := sumL_take rows i
  refine Run.R ?_
  refine Run.nq ?_; refine Run.cW ?_ ?_
  · intro hc2
    have hc2 : i < rows.length := by rw [hlen] at hc2; simpa using hc2
    have hget := mark_get k rows i hc2
    have hsn := sumL_snoc rows i hc2
    have hst2 := sumL_take rows (i + 1)
    refine Run.nq ?_; refine Run.regionW hC (fun K hK => ?_); refine wW ?_
    refine FunM.callRow hP hT (c_markIntS ((iotaR k (rows.take i) ++ rows.drop i).getD i []) (k + sumL (rows.take i)) (by rw [hget]; omega) (by omega) false) 0 0 (i) (by simp only [AW7, simprocAttr]; rfl) ?_ rfl (by simp only [AW7, simprocAttr]) ?_
    · omega
    rintro rs o' obs' ⟨rfl, h⟩
    obtain ⟨rfl, rfl⟩ := List.cons.inj h
    refine ⟨_, rfl, by rw [iota_length], rfl, ?_⟩
    refine hK _ ?_
    clear hK K
    refine Run.nq ?_
    refine Run.RW ?_
    refine Run.le ?_ (ih (i + 1) hc2 (by omega))
    simp only [hget]
    refine Le.sub (by rw [← mark_set k rows i hc2]) ?_
    simp only [AW7, simprocAttr]; try simp [-List.getD_eq_getElem?_getD]; omega
  · intro hc2
    have hc2 : i = rows.length := by rw [hlen] at hc2; simp at hc2; omega
    refine Run.exit rfl ?_; refine Run.nq ?_
    refine Run.R ?_
    subst hc2
    refine Run.retW [4] (by decide) (by rw [hfn]; rfl) (by simp only [AW7, simprocAttr, hX]; rfl) (by simp only [AW7, simprocAttr, hX]) (hfin _ _ _ rfl rfl ⟨rfl, _, _, rfl⟩ ?_)
    simp
theorem c_heldIota (k : Int) (n : Nat) (hn : n ≤ 4503599627370496) (hk : 0 ≤ k ∧ k ≤ 4503599627370496) :
    FunA B 25 [.sl false .int (iota k n), .int .i64 k] (fun rs o => rs = [.int .i64 (k + n)] ∧ o = []) := by
  refine (c_heldIntS (iota k n) k (by rw [iota_length]; exact hn) hk).mono ?_
  rintro rs o ⟨rfl, rfl⟩
  rw [iota_length, if_pos rfl]
  exact ⟨rfl, rfl⟩
end Go.Proofs.YtaghdbbcadhjdaaGreatDoor
namespace Go.Proofs.YtaghdbbcadhjdaaGreatDoor
open Go Go.Aw Go.Cox Go.RowKit
theorem c_slices_Grow (n : Nat) (hn : n ≤ 2097152) : FunA B 83 [.nils, .int .i64 n] (fun rs o => rs = [.own 0 0] ∧ o = [.arr .int [] 0 false]) := by
  refine ⟨fun vs w => Tryz.call83 vs w, fun w L vs hG hl ha => ?_⟩
  match vs, hl with
  | [u, v], _ =>
  have hu : u = .slice none 0 0 := ha 0 _ _ rfl rfl
  have hv : v = .int .i64 n := ha 1 _ _ rfl rfl
  subst hu hv
  have r0 := wrel_start B w L (fun _ => undef) hG
  have fin : ∀ (w' : World) (e : Ending) (x : Value), Ext (fun _ => False) w w' → e = .returned x → (∃ cs, w'.ownsRow 0 3 1 x 0 cs) → (∀ b, x.ownBlock = some b → w.heap.size ≤ b) →
      ∃ us : List Value, e = .returned (pack us) ∧ ∃ xs obs' ρ', (xs = [.own 0 0] ∧ obs' = [.arr .int [] 0 false]) ∧ us.length = xs.length ∧
      (∀ (i : Nat) (x : AV) (v : Value), xs[i]? = some x → us[i]? = some v → AVRel ((B.bareL w L).V w' obs' ρ') obs' ρ' x v) ∧ WRel (B.bareL w L) obs' w' ρ' ∧ xs.all freshAV = true ∧ obs'.all freshO = true := by
    intro w' e x hext he hown hb
    obtain ⟨cs, hown⟩ := hown
    have hcs : cs = [] := List.length_eq_zero_iff.1 (by simpa using hown.1)
    subst hcs
    have T := Turn.new (C := B.bareL w L) r0 hext (.arr .int [] 0 false) x ⟨[], hown, ⟨by simp, fun i hi => by simp at hi⟩, by simp, by simp⟩ (fun b hb' => hb b hb')
    refine ⟨[x], by rw [he]; rfl, [.own 0 0], [.arr .int [] 0 false], _, ⟨rfl, rfl⟩, rfl, fun i y u hy hu => ?_, (T.step r0).wr, rfl, rfl⟩
    match i, hy, hu with
    | 0, hy, hu =>
      simp at hy hu
      subst hy hu
      refine ⟨by simp, fun c hc => ?_⟩
      have : c = 0 := by simpa [genOf, O.gen] using hc.symm
      subst this
      exact ⟨Nat.le_refl _, fun _ => rfl⟩
  by_cases h0 : n = 0
  · subst h0
    refine (grow_zero w).mono fun e w' ⟨he, hw⟩ => ?_
    subst hw
    exact fin w' e _ (Ext.refl _ _) he ⟨[], World.ownsRow_nil _ _ _ _⟩ (fun b hb => by simp [Value.ownBlock] at hb)
  · obtain ⟨G, i, hG, hG63, hi, hs, hc⟩ := grow_some n (by omega) hn w
    refine hc.mono fun e w' ⟨he, hw⟩ => ?_
    subst hw
    refine fin _ e _ ((Ext.drew _ w).trans (Ext.alloc _ _ _)) he ⟨[], rfl, .inr ⟨w.heap.size, G, Builtin.zeroCells (Value.int .i64 0).cells n ++ Builtin.zeroCells (Value.int .i64 0).cells (G - n), rfl, Nat.zero_le _, ?_, Nat.zero_le _, by unfold maxLen; omega, ?_, by simp⟩⟩ (fun b hb => by simp [Value.ownBlock] at hb; omega)
    · show (w.heap.push _)[w.heap.size]? = _
      simp
    · simp [Builtin.zeroCells, Value.cells]
      omega
theorem flat_take (rows : List (List Int)) (i : Nat) (h : i < rows.length) : (rows.take i).flatten ++ rows.getD i [] = (rows.take (i + 1)).flatten := by
  rw [← take_snoc [] rows i h]; simp
theorem flat_len (rows : List (List Int)) : rows.flatten.length = sumL rows := by
  induction rows with
  | nil => rfl
  | cons r l ih => simp [sumL, ih]
theorem c_slices_Concat (rows : List (List Int)) (hl : sumL rows ≤ 2097152) (hr : rows.length ≤ 1048576) : FunA B 54 [.sl false (.row false) rows] (fun rs o => ∃ nn, rs = [.own 0 0] ∧ o = [.arr .int rows.flatten 0 nn]) := by
  refine FunA.walk B_ok (fn := Tryz.f54) (fun vs w => Tryz.call54 vs w) Tryz.func54 rfl (by rw [Tryz.ntmps54]; simp) (fun C hC hP hT hΓ hbt hfn hpin hfin => ?_); have hX := BX; rw [← hΓ, ← hbt.1, ← hbt.2.1, ← hbt.2.2.1] at hX; rw [Tryz.ntmps54]; simp only [AW7, simprocAttr, hX]
  refine Run.R ?_
  refine Run.R ?_
  refine Run.R ?_
  refine Run.loopI (X := Nat) (fun i => ⟨36, [(0, true, .v (.sl false (.row false) rows)), (2, true, .v .nils), (3, true, .v (.int .i64 (sumL (rows.take i)))), (9, true, .v (.sl false (.row false) rows)), (10, true, .v (.int .i64 rows.length)), (11, true, .v (.int .i64 i))], []⟩) (fun i => i ≤ rows.length) (fun i => rows.length - i) 0 (Nat.zero_le _) ?_ ?_
  · exact Le.sub (by rfl) (by simp only [AW7, simprocAttr, hX]; try simp [sumL])
  · rintro i hi ih
    have hsi := sumL_take rows i
    refine Run.R ?_
    refine Run.nq ?_; refine Run.cW ?_ ?_
    · intro hc
      have hc : i < rows.length := by simpa using hc
      have hsn := sumL_snoc rows i hc
      have hsi1 := sumL_take rows (i + 1)
      refine Run.R ?_
      refine Run.RW ?_
      refine Run.R ?_
      refine Run.nq ?_; refine Run.cW ?_ ?_
      · intro h2
        simp at h2
        omega
      · intro h2
        refine Run.RW ?_
        refine Run.le ?_ (ih (i + 1) hc (by omega))
        exact Le.sub (by rfl) (by simp only [AW7, simprocAttr, hX]; rw [hsn]; simp)
    · intro hc
      have hc : i = rows.length := by simp at hc; omega
      subst hc
      refine Run.exit rfl ?_; refine Run.nq ?_
      rw [List.take_length]
      refine Run.nq ?_; refine Run.regionW hC (fun K hK => ?_); refine wW ?_
      refine FunA.cW hP hT (c_slices_Grow (sumL rows) (by omega)) ?_
      rintro rs o ⟨rfl, rfl⟩
      refine wW ?_
      refine wE ?_; clear hK K
      refine Run.R ?_
      refine Run.loopI (X := Nat × Bool) (fun x => ⟨36, [(0, true, .v (.sl false (.row false) rows)), (2, true, .v .nils), (6, true, .v (.own 0 x.1)), (25, true, .v (.sl false (.row false) rows)), (26, true, .v (.int .i64 rows.length)), (27, true, .v (.int .i64 x.1))], [.arr .int (rows.take x.1).flatten x.1 x.2]⟩) (fun x => x.1 ≤ rows.length) (fun x => rows.length - x.1) (0, false) (Nat.zero_le _) ?_ ?_
      · exact Le.sub (by rfl) (by simp only [AW7, simprocAttr, hX]; try simp)
      rintro ⟨i, nn⟩ hi ih2
      simp only [] at hi ⊢
      have hsi := sumL_take rows i
      have hfl := flat_len (rows.take i)
      refine Run.R ?_
      refine Run.nq ?_; refine Run.cW ?_ ?_
      · intro hc
        have hc : i < rows.length := by simpa using hc
        have hsn := sumL_snoc rows i hc
        have hsi1 := sumL_take rows (i + 1)
        refine Run.R ?_
        refine Run.R ?_
        refine Run.RW ?_
        refine Run.le ?_ (ih2 (i + 1, nn || !(rows.getD i []).isEmpty) hc (by simp only []; omega))
        exact Le.sub (by simp only [flat_take rows i hc]) (by simp only [AW7, simprocAttr, hX]; try simp)
      · intro hc
        have hc : i = rows.length := by simp at hc; omega
        subst hc
        refine Run.exit rfl ?_; refine Run.nq ?_
        refine Run.R ?_
        refine Run.le (Le.re (obs' := [.arr .int rows.flatten 0 nn]) hpin [0] [(2, true, .own 0 0)] rfl (by rw [List.take_length]; simp [leOs, leO_arr, oAt]) (by refine ⟨⟨_, rfl, ?_⟩, trivial⟩; simp [leAV, oAt, genO])) ?_
        simp only [frV_cons, frV_nil]
        refine Run.rW [2] (hfin _ _ rfl rfl ?_)
        exact ⟨nn, rfl, rfl⟩
theorem c_impl_ConcatWords (a b : List Int) (ha : a.length ≤ 1048576) (hb : b.length ≤ 1048576) :
    FunA B 80 [.sl false .int a, .sl false .int b] (fun rs o => ∃ nn, rs = [.own 0 0] ∧ o = [.arr .int (a ++ b) 0 nn]) := by
  refine FunA.walk B_ok (fn := Tryz.f80) (fun vs w => Tryz.call80 vs w) Tryz.func80 rfl (by rw [Tryz.ntmps80]; simp) (fun C hC hP hT hΓ hbt hfn hpin hfin => ?_); have hX := BX; rw [← hΓ, ← hbt.1, ← hbt.2.1, ← hbt.2.2.1] at hX; rw [Tryz.ntmps80]; simp only [AW7, simprocAttr, hX]
  refine Run.R ?_
  refine Run.nq ?_; refine Run.regionW hC (fun K hK => ?_); refine wW ?_
  refine FunA.cW hP hT (c_slices_Concat [[], a, b] (by simp [sumL]; omega) (by simp)) ?_
  rintro rs o ⟨nn, rfl, rfl⟩
  refine wW ?_
  refine wE ?_; clear hK K
  refine Run.le (Le.re (obs' := [.arr .int (a ++ b) 0 nn]) hpin [2] [(4, true, .own 0 0)] rfl (by simp [leOs, leO_arr, oAt]) (by refine ⟨⟨_, rfl, ?_⟩, trivial⟩; simp [leAV, oAt, genO])) ?_
  simp only [frV_cons, frV_nil]
  refine Run.rW [4] (hfin _ _ rfl rfl ?_)
  exact ⟨nn, rfl, rfl⟩
theorem c_impl_EqualWords (a b : List Int) (ha : a.length ≤ 1048576) : FunA B 61 [.sl false .int a, .sl false .int b] (fun rs o => rs = [.bool (a == b)] ∧ o = []) := by
  refine FunA.walk B_ok (fn := Tryz.f61) (fun vs w => Tryz.call61 vs w) Tryz.func61 rfl (by rw [Tryz.ntmps61]; simp) (fun C hC hP hT hΓ hbt hfn hpin hfin => ?_); have hX := BX; rw [← hΓ, ← hbt.1, ← hbt.2.1, ← hbt.2.2.1] at hX; rw [Tryz.ntmps61]; simp only [AW7, simprocAttr, hX]
  refine Run.R ?_
  refine Run.nq ?_; refine Run.regionW hC (fun K hK => ?_); refine wW ?_
  refine FunA.cW hP hT (c_slices_Equal a b (by omega)) ?_
  rintro rs o ⟨rfl, rfl⟩
  refine wW ?_
  refine wE ?_; clear hK K
  refine Run.rW [4] (hfin _ _ rfl rfl ?_)
  exact ⟨rfl, rfl⟩
end Go.Proofs.YtaghdbbcadhjdaaGreatDoor
namespace Go.Proofs.YtaghdbbcadhjdaaGreatDoor
open Go Go.Aw
def setP (n : Nat) (s : List Int) : Prop := ∀ i, i < s.length → 0 ≤ s.getD i 0 ∧ s.getD i 0 < n ∧ (0 < i → s.getD (i - 1) 0 < s.getD i 0)
open Classical in
noncomputable def setB (c : List (List Int)) (s : List Int) : Bool := decide (setP c.length s)
theorem setB_iff {c : List (List Int)} {s : List Int} : setB c s = true ↔ setP c.length s := by simp [setB]
theorem setP_mono {n : Nat} {s : List Int} (h : setP n s) : ∀ i j, i < j → j < s.length → s.getD i 0 < s.getD j 0 := by
  intro i j hij
  induction j with
  | zero => omega
  | succ j ih =>
    intro hj
    have h1 := (h (j + 1) hj).2.2 (by omega)
    simp only [Nat.add_sub_cancel] at h1
    by_cases h2 : i = j
    · subst h2; exact h1
    · have := ih (by omega) (by omega); omega
noncomputable def isSetB (c : List (List Int)) (s : List Int) : Bool := isC c && setB c s
theorem c_spec_l3Set (c : List (List Int)) (s : List Int) (hc : c.length ≤ 1048576) : FunA B 39 [.sl false (.row false) c, .sl false .int s] (fun rs o => rs = [.bool (isSetB c s)] ∧ o = []) := by
  refine FunA.walk B_ok (fn := Tryz.f39) (fun vs w => Tryz.call39 vs w) Tryz.func39 rfl (by rw [Tryz.ntmps39]; simp) (fun C hC hP hT hΓ hbt hfn hpin hfin => ?_); have hX := BX; rw [← hΓ, ← hbt.1, ← hbt.2.1, ← hbt.2.2.1] at hX; rw [Tryz.ntmps39]; simp only [AW7, simprocAttr, hX]
  refine Run.len 1 rfl fun hlens => ?_
  refine Run.R ?_
  refine Run.R ?_
  refine Run.loopI (X := Nat) (fun i => ⟨39, [(0, true, .v (.sl false (.row false) c)), (1, true, .v (.sl false .int s)), (4, true, .v (.bool false)), (5, true, .v (.int .i64 i))], []⟩) (fun i => i ≤ s.length ∧ ∀ k, k < i → 0 ≤ s.getD k 0 ∧ s.getD k 0 < c.length ∧ (0 < k → s.getD (k - 1) 0 < s.getD k 0)) (fun i => s.length - i) 0 ⟨Nat.zero_le _, by omega⟩ ?_ ?_
  · exact Le.sub (by simp only [AW7, simprocAttr]) (by simp only [AW7, simprocAttr]; try simp)
  rintro i ⟨hi, hset⟩ ih
  refine Run.R ?_
  refine Run.nq ?_; refine Run.cW ?_ ?_
  · intro hc
    have hc : i < s.length := by simpa using hc
    refine Run.keep [0, 1, 4, 5] ?_; simp only [AK, Nat.reduceBEq]
    refine Run.nq ?_
    refine Run.regionD hC true [0,1,2,3,4,5,6,7,8,9,10,11,12,13,14,15,16,17,18,19,20,21,22,23,24] (by kernel_rfl) (fun K hK => ?_)
    simp (disch := omega) only [wrap_id, AW7, simprocAttr, hX]
    (repeat (with_reducible refine And.intro ?_ ?_); exact vc0)
    refine FunA.callD hP hT (c_spec_l1In (s.getD i 0) 0 ((c.length : Int) - 1)) (by simp only [AW7, simprocAttr]) ?_
    rintro rs o ⟨rfl, rfl⟩
    refine wWW ?_
    refine wE ?_; clear hK K
    refine Run.keep [0, 1, 4, 5, 36] ?_; simp only [AK, Nat.reduceBEq]
    have key : (bif !inB (s.getD i 0) 0 ((c.length : Int) - 1) then true else bif decide (0 < (i : Int)) then decide (s.getD i 0 ≤ s.getD ((i : Int) - 1).toNat 0) else false) = true ↔ ¬ (0 ≤ s.getD i 0 ∧ s.getD i 0 < c.length ∧ (0 < i → s.getD (i - 1) 0 < s.getD i 0)) := by
      have e : ((i : Int) - 1).toNat = i - 1 := by omega
      rw [e]
      cases hin : inB (s.getD i 0) 0 ((c.length : Int) - 1) with
      | false =>
        have : ¬ (0 ≤ s.getD i 0 ∧ s.getD i 0 ≤ (c.length : Int) - 1) := fun h => by rw [inB_iff.2 h] at hin; cases hin
        simp only [Bool.not_false, cond_true, true_iff]
        omega
      | true =>
        have := inB_iff.1 hin
        simp only [Bool.not_true, cond_false]
        by_cases h0 : 0 < i
        · have h0' : (0 : Int) < i := by omega
          simp only [h0', decide_true, cond_true, decide_eq_true_eq]
          omega
        · have h0' : ¬ (0 : Int) < i := by omega
          simp only [h0', decide_false, cond_false]
          simp only [Bool.false_eq_true, false_iff]
          omega
    refine Run.nq ?_; refine Run.cW ?_ ?_
    · intro hb
      refine Run.R ?_
      refine Run.rW [4] (hfin _ _ rfl rfl ?_)
      refine ⟨?_, rfl⟩
      have : setB c s = false := by
        cases h : setB c s with
        | false => rfl
        | true => exact absurd (setB_iff.1 h i hc) (key.1 hb)
      simp [isSetB, this]
    · intro hb
      have hb : 0 ≤ s.getD i 0 ∧ s.getD i 0 < c.length ∧ (0 < i → s.getD (i - 1) 0 < s.getD i 0) := by
        refine Classical.byContradiction fun h => ?_
        have := key.2 h
        rw [this] at hb
        cases hb
      refine Run.RW ?_
      refine Run.le ?_ (ih (i + 1) ⟨hc, fun k hk => ?_⟩ (by omega))
      · exact Le.sub (by simp only [AW7, simprocAttr]) (by simp only [AW7, simprocAttr, Option.some.injEq, Prod.mk.injEq, Sl.v.injEq, AV.int.injEq, AV.own.injEq, AV.bool.injEq]; try (repeat' apply And.intro); all_goals omega)
      · rcases Nat.lt_succ_iff_lt_or_eq.1 hk with h | rfl
        · exact hset k h
        · exact hb
  · intro hc
    have hc : i = s.length := by simp at hc; omega
    subst hc
    refine Run.exit rfl ?_; refine Run.nq ?_
    refine Run.nq ?_; refine Run.regionW hC (fun K hK => ?_); refine wW ?_
    refine FunA.cW hP hT (c_spec_IsCartan c) ?_
    rintro rs o ⟨rfl, rfl⟩
    refine wW ?_
    refine wE ?_; clear hK K
    refine Run.rW [4] (hfin _ _ rfl rfl ?_)
    refine ⟨?_, rfl⟩
    have : setB c s = true := setB_iff.2 hset
    simp [isSetB, this]
end Go.Proofs.YtaghdbbcadhjdaaGreatDoor
namespace Go.Proofs.YtaghdbbcadhjdaaGreatDoor
open Go Go.Aw Go.Cox
theorem set_len {c : List (List Int)} {s : List Int} (h : setP c.length s) : s.length ≤ c.length := by
  have key : ∀ i, i < s.length → (i : Int) ≤ s.getD i 0 := by
    intro i
    induction i with
    | zero => intro h0; exact (h 0 h0).1
    | succ i ih =>
      intro h1
      have := ih (by omega)
      have := (h (i + 1) h1).2.2 (by omega)
      rw [Nat.add_sub_cancel] at this
      omega
  by_cases h0 : s.length = 0
  · omega
  · have := key (s.length - 1) (by omega)
    have := (h (s.length - 1) (by omega)).2.1
    omega
theorem set_letters {n : Nat} {s : List Int} (h : setP n s) : letters n s := letters_getD.2 fun i hi => ⟨(h i hi).1, (h i hi).2.1⟩
theorem c_spec_l3Has (s : List Int) (x : Int) : FunA B 188 [.sl false .int s, .int .i64 x] (fun rs o => rs = [.bool (decide (x ∈ s))] ∧ o = []) := by
  refine FunA.walk B_ok (fn := Tryz.f188) (fun vs w => Tryz.call188 vs w) Tryz.func188 rfl (by rw [Tryz.ntmps188]; simp) (fun C hC hP hT hΓ hbt hfn hpin hfin => ?_); have hX := BX; rw [← hΓ, ← hbt.1, ← hbt.2.1, ← hbt.2.2.1] at hX; rw [Tryz.ntmps188]; simp only [AW7, simprocAttr, hX]
  refine Run.len 0 rfl fun hlens => ?_
  refine Run.R ?_
  refine Run.R ?_
  refine Run.loopI (X := Nat) (fun i => ⟨18, [(0, true, .v (.sl false .int s)), (1, true, .v (.int .i64 x)), (4, true, .v (.bool false)), (5, true, .v (.int .i64 i))], []⟩) (fun i => i ≤ s.length ∧ x ∉ s.take i) (fun i => s.length - i) 0 ⟨Nat.zero_le _, by simp⟩ ?_ ?_
  · exact Le.sub (by simp only [AW7, simprocAttr]) (by simp only [AW7, simprocAttr]; try simp)
  rintro i ⟨hi, hf⟩ ih
  refine Run.R ?_
  refine Run.nq ?_; refine Run.cW ?_ ?_
  · intro h
    have h : i < s.length := by simpa using h
    refine Run.R ?_
    refine Run.nq ?_; refine Run.cW ?_ ?_
    · intro hx
      have hx : s.getD i 0 = x := by simpa using hx
      refine Run.R ?_
      refine Run.rW [4] (hfin _ _ rfl rfl ?_)
      refine ⟨?_, rfl⟩
      have : x ∈ s := by rw [← hx]; exact getD_mem h
      simp [this]
    · intro hx
      have hx : ¬ s.getD i 0 = x := by simpa using hx
      refine Run.RW ?_
      refine Run.le ?_ (ih (i + 1) ⟨h, ?_⟩ (by omega))
      · exact Le.sub (by simp only [AW7, simprocAttr]) (by simp only [AW7, simprocAttr, Option.some.injEq, Prod.mk.injEq, Sl.v.injEq, AV.int.injEq, AV.own.injEq, AV.bool.injEq]; try (repeat' apply And.intro); all_goals omega)
      · rw [← take_snoc 0 s i h]
        simp only [List.mem_append, List.mem_singleton, not_or]
        exact ⟨hf, fun k => hx k.symm⟩
  · intro h
    have h : i = s.length := by simp at h; omega
    subst h
    rw [List.take_length] at hf
    refine Run.exit rfl ?_; refine Run.nq ?_
    refine Run.R ?_
    refine Run.rW [4] (hfin _ _ rfl rfl ?_)
    simp [hf]
end Go.Proofs.YtaghdbbcadhjdaaGreatDoor
namespace Go.Proofs.YtaghdbbcadhjdaaGreatDoor
open Go Go.Aw Go.Cox
theorem Run.join {C : Ctx} {i j : Item} {k : List Item} {σ : St} (σ' : St) (h1 : Run C k σ') (h2 : Run C k σ' → Run C (i :: j :: k) σ) : Run C (i :: j :: k) σ := h2 h1
theorem lp_step {c : List (List Int)} {s v : List Int} (h : ¬ firstIn v s < 0) (f : Nat) : lpL c s (f + 1) v = (firstIn v s :: (lpL c s f (reflL c (firstIn v s) v)).1, (lpL c s f (reflL c (firstIn v s) v)).2) := by
  simp only [lpL]; rw [if_neg h]
structure LP (c : List (List Int)) (s v0 : List Int) (L : Nat) (a v : List Int) : Prop where
  far : Far c (L - a.length) v
  le : a.length ≤ L
  let_ : letters c.length a
  eq : lpL c s 31 v0 = (a ++ (lpL c s (31 - a.length) v).1, (lpL c s (31 - a.length) v).2)
theorem LP.step {c : List (List Int)} (hc : CartanP c) {s v0 a v : List Int} {L : Nat} (hs : letters c.length s) (hL : L ≤ 31) (h : LP c s v0 L a v) (k : ¬ firstIn v s < 0) :
    LP c s v0 L (a ++ [firstIn v s]) (reflL c (firstIn v s) v) ∧ a.length < L ∧ (0 ≤ firstIn v s ∧ firstIn v s < c.length) := by
  rcases firstIn_spec v s hs with ⟨h1, _⟩ | ⟨h1, h2, _, h4⟩
  · omega
  · obtain ⟨M, m1, m2⟩ := h.far.down hc ⟨h1, h2⟩ h4
    have hle := h.le
    refine ⟨⟨?_, by simp; omega, letters_append.2 ⟨h.let_, letters_cons.2 ⟨⟨h1, h2⟩, letters_nil _⟩⟩, ?_⟩, by omega, h1, h2⟩
    · rw [show L - (a ++ [firstIn v s]).length = M by simp; omega]; exact m2
    · rw [h.eq, show 31 - a.length = (31 - (a ++ [firstIn v s]).length) + 1 by simp; omega, lp_step k]
      simp
end Go.Proofs.YtaghdbbcadhjdaaGreatDoor
namespace Go.Proofs.YtaghdbbcadhjdaaGreatDoor
open Go Go.Aw Go.Cox
end Go.Proofs.YtaghdbbcadhjdaaGreatDoor
namespace Go.Proofs.YtaghdbbcadhjdaaGreatDoor
open Go Go.Aw Go.Cox
def Pre (c : List (List Int)) (x z : List Int) : Prop := letters c.length z ∧ redL c z = z ∧ ∃ v, letters c.length v ∧ imageL c (z ++ v) = imageL c x ∧ z.length + v.length = x.length
def Nf (c : List (List Int)) (x : List Int) : Prop := letters c.length x ∧ redL c x = x ∧ x.length ≤ 30
theorem nf_idem {c : List (List Int)} (hc : CartanP c) {w : List Int} (hw : letters c.length w) (hl : w.length ≤ 31) : redL c (redL c w) = redL c w := red_eq (red_spec hc hw hl).2.2.2.1
theorem Nf.red {c : List (List Int)} (hc : CartanP c) {x : List Int} (h : Nf c x) : Red c x := by
  have := red_Red hc h.1 (by have := h.2.2; omega)
  rwa [h.2.1] at this
theorem Nf.far {c : List (List Int)} (hc : CartanP c) {x : List Int} (h : Nf c x) : Far c x.length (imageL c x) := (h.red hc).2
theorem Nf.short {c : List (List Int)} (hc : CartanP c) {x : List Int} (h : Nf c x) {u : List Int} (hu : letters c.length u) (he : imageL c u = imageL c x) : x.length ≤ u.length := by
  obtain ⟨L, h1, _, h3⟩ := Far.image hc hu
  rw [he] at h3
  have := (h.far hc).uniq hc h3
  omega
theorem Pre.nf {c : List (List Int)} {x z : List Int} (hx : Nf c x) (h : Pre c x z) : Nf c z := by
  obtain ⟨h1, h2, v, h3, h4, h5⟩ := h
  exact ⟨h1, h2, by have := hx.2.2; omega⟩
theorem Pre.refl {c : List (List Int)} {x : List Int} (hx : Nf c x) : Pre c x x := ⟨hx.1, hx.2.1, [], letters_nil _, by rw [List.append_nil], by simp⟩
theorem nf_red {c : List (List Int)} (hc : CartanP c) {u : List Int} (hu : letters c.length u) (hl : u.length ≤ 31) (hr : (redL c u).length ≤ 30) : Nf c (redL c u) :=
  ⟨(red_spec hc hu hl).1, nf_idem hc hu hl, hr⟩
theorem letter1 {n : Nat} {i : Nat} (h : i < n) : letters n [(i : Int)] := letters_cons.2 ⟨by omega, letters_nil _⟩
theorem image_same_app {c : List (List Int)} (hc : CartanP c) {a b : List Int} (ha : letters c.length a) (hb : letters c.length b) (h : imageL c a = imageL c b) (t : List Int) : imageL c (a ++ t) = imageL c (b ++ t) := by
  rw [image_append, image_append]; exact same_elt hc ha hb h (imageL_length c _)
theorem image_two {c : List (List Int)} (hc : CartanP c) (y : List Int) {i : Nat} (hi : i < c.length) (t : List Int) : imageL c (y ++ [(i : Int)] ++ ((i : Int) :: t)) = imageL c (y ++ t) := by
  rw [List.append_assoc, image_append, image_append]
  show actL c y (reflL c i (reflL c i (imageL c t))) = _
  rw [refl2 hc (i := (i : Int)) (by omega) (imageL_length c _)]
  exact (image_append c y t).symm
theorem Pre.down {c : List (List Int)} (hc : CartanP c) {x y : List Int} (hx : Nf c x) (hy : Pre c x y) {i : Nat} (hi : i < c.length) (hlt : (redL c (y ++ [(i : Int)])).length < y.length) : Pre c x (redL c (y ++ [(i : Int)])) := by
  have hny := hy.nf hx
  obtain ⟨h1, h2, v, h3, h4, h5⟩ := hy
  have hl : letters c.length (y ++ [(i : Int)]) := letters_append.2 ⟨h1, letter1 hi⟩
  have hlen : (y ++ [(i : Int)]).length ≤ 31 := by have := hny.2.2; simp; omega
  obtain ⟨a1, a2, a3, a4, a5⟩ := red_spec hc hl hlen
  have hvi : letters c.length ((i : Int) :: v) := letters_cons.2 ⟨by omega, h3⟩
  have him : imageL c (redL c (y ++ [(i : Int)]) ++ ((i : Int) :: v)) = imageL c x := by
    rw [image_same_app hc a1 hl a4, image_two hc y hi, h4]
  have hs := hx.short hc (letters_append.2 ⟨a1, hvi⟩) him
  simp at hs a3
  refine ⟨a1, nf_idem hc hl hlen, (i : Int) :: v, hvi, him, ?_⟩
  simp
  omega
theorem red_of_nil {c : List (List Int)} (hc : CartanP c) : redL c [] = [] := by
  have := (red_spec hc (letters_nil c.length) (by simp)).2.1
  exact List.eq_nil_of_length_eq_zero (by simpa using this)
theorem Pre.nil {c : List (List Int)} (hc : CartanP c) {x : List Int} (hx : Nf c x) : Pre c x [] := ⟨letters_nil _, red_of_nil hc, x, hx.1, rfl, by simp⟩
theorem nodup_le {α : Type} [DecidableEq α] : ∀ {a b : List α}, a.Nodup → (∀ x ∈ a, x ∈ b) → a.length ≤ b.length
  | [], b, _, _ => Nat.zero_le _
  | x :: a, b, hn, h => by
    obtain ⟨h1, h2⟩ := List.nodup_cons.1 hn
    have hx := h x (List.mem_cons_self ..)
    have := nodup_le (a := a) (b := b.erase x) h2 (fun y hy => by
      have hne : y ≠ x := fun e => h1 (e ▸ hy)
      exact (List.mem_erase_of_ne hne).2 (h y (List.mem_cons_of_mem _ hy)))
    rw [List.length_erase_of_mem hx] at this
    have hp : 0 < b.length := List.length_pos_of_mem hx
    simp only [List.length_cons]
    omega
end Go.Proofs.YtaghdbbcadhjdaaGreatDoor
