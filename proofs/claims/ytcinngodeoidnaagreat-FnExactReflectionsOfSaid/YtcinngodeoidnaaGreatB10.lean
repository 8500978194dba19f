/- Words compared. -/
import Derived.Test.YtcinngodeoidnaaGreatB8
import Derived.Test.YtcinngodeoidnaaGreatB9
import Derived.KernelRfl
import Derived.WalkKit
import Derived.Lib.Walk
import Derived.Lib.SliceRun
import Derived.Lib.AppendZeros
set_option linter.unusedVariables false
set_option linter.unusedSimpArgs false
namespace Go.Proofs.YtcinngodeoidnaaGreat
open Go Go.Aw
def cmpN (p q : List Int) : Nat → Nat → Int
  | 0, _ => 0
  | n + 1, i => if p.getD i 0 < q.getD i 0 then -1 else if p.getD i 0 > q.getD i 0 then 1 else cmpN p q n (i + 1)
def cmpW (p q : List Int) : Int := if p.length < q.length then -1 else if p.length > q.length then 1 else cmpN p q p.length 0
theorem cmpN_zero (p q : List Int) (hl : p.length = q.length) : ∀ n i, i + n = p.length → p.take i = q.take i → (cmpN p q n i = 0 ↔ p = q)
  | 0, i, hi, ht => by
    have : p = q := by
      have h1 : p.take i = p := List.take_of_length_le (by omega)
      have h2 : q.take i = q := List.take_of_length_le (by omega)
      rw [← h1, ← h2, ht]
    simp [cmpN, this]
  | n + 1, i, hi, ht => by
    simp only [cmpN]
    split
    · rename_i h
      constructor
      · intro k; cases k
      · intro k; rw [k] at h; omega
    · split
      · rename_i h
        constructor
        · intro k; cases k
        · intro k; rw [k] at h; omega
      · rename_i h1 h2
        have he : p.getD i 0 = q.getD i 0 := by omega
        exact cmpN_zero p q hl n (i + 1) (by omega) (by rw [← take_snoc 0 p i (by omega), ← take_snoc 0 q i (by omega), ht, he])
theorem cmpW_zero (p q : List Int) : cmpW p q = 0 ↔ p = q := by
  unfold cmpW
  split
  · rename_i h
    constructor
    · intro k; cases k
    · intro k; rw [k] at h; omega
  · split
    · rename_i h
      constructor
      · intro k; cases k
      · intro k; rw [k] at h; omega
    · exact cmpN_zero p q (by omega) p.length 0 (by omega) (by simp)
theorem c_spec_CompareWords (p q : List Int) (hp : p.length ≤ 4503599627370496) : FunA B 130 [.sl false .int p, .sl false .int q] (fun rs o => rs = [.int .i64 (cmpW p q)] ∧ o = []) := by
  refine FunA.walk B_ok (fn := Tryz.f130) (fun vs w => Tryz.call130 vs w) Tryz.func130 rfl (by rw [Tryz.ntmps130]; simp) (fun C hC hP hT hΓ hbt hfn hpin hfin => ?_); have hX := BX; rw [← hΓ, ← hbt.1, ← hbt.2.1, ← hbt.2.2.1, ← hbt.2.2.2.2] at hX; rw [hT] at hX; rw [Tryz.ntmps130]; simp only [AW7, simprocAttr, hX]
  refine Run.R ?_
  refine Run.R ?_
  refine Run.nq ?_; refine Run.cW ?_ ?_
  · intro hc
    refine Run.R ?_
    refine Run.nq ?_; refine Run.cW ?_ ?_
    · intro hl
      refine Run.R ?_
      refine Run.rW [4] (hfin _ _ rfl rfl ?_)
      have hl : p.length < q.length := by simpa using hl
      simp [cmpW, hl]
    · intro hl
      refine Run.R ?_
      refine Run.rW [4] (hfin _ _ rfl rfl ?_)
      have hl : ¬ p.length < q.length := by simpa using hl
      have hc : ¬ (p.length : Int) = q.length := by simpa using hc
      have : q.length < p.length := by omega
      simp [cmpW, hl, this]
  intro hc
  have hl : p.length = q.length := by simp at hc; omega
  refine Run.R ?_
  refine Run.loopI (X := Nat) (fun i => ⟨40, [(0, true, .v (.sl false .int p)), (1, true, .v (.sl false .int q)), (5, true, .v (.int .i64 i)), (4, true, .v (.int .i64 0))], []⟩) (fun i => i ≤ p.length ∧ cmpN p q p.length 0 = cmpN p q (p.length - i) i) (fun i => p.length - i) 0 (by simp) ?_ ?_
  · exact Le.sub (by simp only [AW7, simprocAttr]) (by simp only [AW7, simprocAttr]; try simp)
  rintro i ⟨hi, ht⟩ ih
  have hw : cmpW p q = cmpN p q (p.length - i) i := by simp [cmpW, ← hl, ht]
  refine Run.R ?_
  refine Run.nq ?_; refine Run.cW ?_ ?_
  · intro hc2
    have hc2 : i < p.length := by simpa using hc2
    obtain ⟨m, hm⟩ : ∃ m, p.length - i = m + 1 := ⟨p.length - i - 1, by omega⟩
    refine Run.nq ?_; refine Run.regionD hC true [0,1,2,3,4,5,6,7,8] (by kernel_rfl) (fun K hK => ?_); simp only [AW7, simprocAttr, hX]; (repeat (with_reducible refine And.intro ?_ ?_); exact vc0); refine wE ?_; clear hK K
    refine Run.nq ?_; refine Run.cW ?_ ?_
    · intro hlt
      have hlt : p.getD i 0 < q.getD i 0 := by simpa using hlt
      refine Run.R ?_
      refine Run.rW [4] (hfin _ _ rfl rfl ?_)
      rw [hw, hm]
      simp only [cmpN]
      rw [if_pos hlt]
      simp
    · intro hlt
      have hlt : ¬ p.getD i 0 < q.getD i 0 := by simpa using hlt
      refine Run.nq ?_; refine Run.regionD hC true [0,1,2,3,4,5,6,7,8] (by kernel_rfl) (fun K hK => ?_); simp only [AW7, simprocAttr, hX]; (repeat (with_reducible refine And.intro ?_ ?_); exact vc0); refine wE ?_; clear hK K
      refine Run.nq ?_; refine Run.cW ?_ ?_
      · intro hgt
        have hgt : q.getD i 0 < p.getD i 0 := by simpa using hgt
        refine Run.R ?_
        refine Run.rW [4] (hfin _ _ rfl rfl ?_)
        rw [hw, hm]
        simp only [cmpN]
        rw [if_neg hlt, if_pos hgt]
        simp
      · intro hgt
        have hgt : ¬ q.getD i 0 < p.getD i 0 := by simpa using hgt
        refine Run.RW ?_
        refine Run.le ?_ (ih (i + 1) ⟨hc2, ?_⟩ (by omega))
        · exact Le.sub (by simp only [AW7, simprocAttr]) (by simp only [AW7, simprocAttr, Option.some.injEq, Prod.mk.injEq, Sl.v.injEq, AV.int.injEq, AV.own.injEq, AV.bool.injEq]; try (repeat' apply And.intro); all_goals omega)
        · rw [ht, hm]
          simp only [cmpN]
          rw [if_neg hlt, if_neg hgt, show p.length - (i + 1) = m from by omega]
  · intro hc2
    have hc2 : i = p.length := by simp at hc2; omega
    refine Run.exit rfl ?_; refine Run.nq ?_
    refine Run.R ?_
    refine Run.rW [4] (hfin _ _ rfl rfl ?_)
    rw [hw, hc2, Nat.sub_self]
    simp [cmpN]
theorem c_spec_EqualWords (p q : List Int) (hp : p.length ≤ 4503599627370496) : FunA B 77 [.sl false .int p, .sl false .int q] (fun rs o => rs = [.bool (p == q)] ∧ o = []) := by
  refine FunA.walk B_ok (fn := Tryz.f77) (fun vs w => Tryz.call77 vs w) Tryz.func77 rfl (by rw [Tryz.ntmps77]; simp) (fun C hC hP hT hΓ hbt hfn hpin hfin => ?_); have hX := BX; rw [← hΓ, ← hbt.1, ← hbt.2.1, ← hbt.2.2.1, ← hbt.2.2.2.2] at hX; rw [hT] at hX; rw [Tryz.ntmps77]; simp only [AW7, simprocAttr, hX]
  refine Run.R ?_
  refine Run.nq ?_; refine Run.regionW hC (fun K hK => ?_); refine wW ?_
  refine FunA.cW hP hT (c_spec_CompareWords p q hp) ?_
  rintro rs o ⟨rfl, rfl⟩
  refine wW ?_
  refine wE ?_; clear hK K
  refine Run.rW [4] (hfin _ _ rfl rfl ?_)
  have := cmpW_zero p q
  refine ⟨?_, rfl⟩
  rw [show (cmpW p q == 0) = (p == q) from by rw [Bool.eq_iff_iff, beq_iff_eq, beq_iff_eq]; exact this]
end Go.Proofs.YtcinngodeoidnaaGreat
namespace Go.Proofs.YtcinngodeoidnaaGreat
open Go Go.Aw Go.Cox
theorem c_impl_reduced (c : List (List Int)) (w : List Int) (hc : CartanP c) (hw : letters c.length w) (hl : w.length ≤ 31) :
    FunA B 76 [.sl false (.row false) c, .sl false .int w] (fun rs o => rs = [.own 0 0] ∧ o = [.arr .int (redL c w) 0 true]) := by
  obtain ⟨L, h1, h2, h3⟩ := Far.image hc hw
  have hn := hc.2.1
  refine FunA.walk B_ok (fn := Tryz.f76) (fun vs w => Tryz.call76 vs w) Tryz.func76 rfl (by rw [Tryz.ntmps76]; simp) (fun C hC hP hT hΓ hbt hfn hpin hfin => ?_); have hX := BX; rw [← hΓ, ← hbt.1, ← hbt.2.1, ← hbt.2.2.1, ← hbt.2.2.2.2] at hX; rw [hT] at hX; rw [Tryz.ntmps76]; simp only [AW7, simprocAttr, hX]
  refine Run.R ?_
  refine Run.nq ?_; refine Run.regionW hC (fun K hK => ?_); refine wW ?_
  refine FunA.cW hP hT (c_impl_image c w hc hw hl) ?_
  rintro rs o ⟨rfl, rfl⟩
  refine wW ?_
  refine FunA.cW hP hT (c_impl_normal c (imageL c w) L hc h3 (by omega)) ?_
  rintro rs o ⟨rfl, rfl⟩
  refine wW ?_
  refine wE ?_; clear hK K
  refine Run.le (Le.re (obs' := [.arr .int (redL c w) 0 true]) hpin [1] [(4, true, .own 0 0)] rfl (by simp [leOs, leO_arr, oAt, redL]) (by refine ⟨⟨_, rfl, ?_⟩, trivial⟩; simp [leAV, oAt, genO])) ?_
  simp only [frV_cons, frV_nil]
  refine Run.rW [4] (hfin _ _ rfl rfl ?_)
  exact ⟨rfl, rfl⟩
theorem c_spec_l8Normal (c : List (List Int)) (w : List Int) (hc : CartanP c) (hw : letters c.length w) (hl : w.length ≤ 31) :
    FunA B 96 [.sl false (.row false) c, .sl false .int w] (fun rs o => rs = [.own 0 0] ∧ o = [.arr .int (redL c w) 0 true]) := by
  obtain ⟨L, h1, h2, h3⟩ := Far.image hc hw
  have hn := hc.2.1
  refine FunA.walk B_ok (fn := Tryz.f96) (fun vs w => Tryz.call96 vs w) Tryz.func96 rfl (by rw [Tryz.ntmps96]; simp) (fun C hC hP hT hΓ hbt hfn hpin hfin => ?_); have hX := BX; rw [← hΓ, ← hbt.1, ← hbt.2.1, ← hbt.2.2.1, ← hbt.2.2.2.2] at hX; rw [hT] at hX; rw [Tryz.ntmps96]; simp only [AW7, simprocAttr, hX]
  refine Run.R ?_
  refine Run.nq ?_; refine Run.regionW hC (fun K hK => ?_); refine wW ?_
  refine FunA.cW hP hT (c_spec_l8Image c w hc hw hl) ?_
  rintro rs o ⟨rfl, rfl⟩
  refine wW ?_
  refine FunA.cW hP hT (c_spec_l8Form c (imageL c w) L hc h3 (by omega)) ?_
  rintro rs o ⟨rfl, rfl⟩
  refine wW ?_
  refine wE ?_; clear hK K
  refine Run.le (Le.re (obs' := [.arr .int (redL c w) 0 true]) hpin [1] [(4, true, .own 0 0)] rfl (by simp [leOs, leO_arr, oAt, redL]) (by refine ⟨⟨_, rfl, ?_⟩, trivial⟩; simp [leAV, oAt, genO])) ?_
  simp only [frV_cons, frV_nil]
  refine Run.rW [4] (hfin _ _ rfl rfl ?_)
  exact ⟨rfl, rfl⟩
theorem c_spec_ConcatWords (a b : List Int) (ha : a.length ≤ 1048576) (hb : b.length ≤ 1048576) :
    FunA B 78 [.sl false .int a, .sl false .int b] (fun rs o => rs = [.own 0 0] ∧ o = [.arr .int (a ++ b) 0 true]) := by
  refine FunA.walk B_ok (fn := Tryz.f78) (fun vs w => Tryz.call78 vs w) Tryz.func78 rfl (by rw [Tryz.ntmps78]; simp) (fun C hC hP hT hΓ hbt hfn hpin hfin => ?_); have hX := BX; rw [← hΓ, ← hbt.1, ← hbt.2.1, ← hbt.2.2.1, ← hbt.2.2.2.2] at hX; rw [hT] at hX; rw [Tryz.ntmps78]; simp only [AW7, simprocAttr, hX]
  refine Run.R ?_
  refine Run.R ?_
  refine Run.le (Le.re (obs' := [.arr .int (a ++ b) 0 true]) hpin [0] [(4, true, .own 0 0)] rfl (by simp [leOs, leO_arr, oAt]) (by refine ⟨⟨_, rfl, ?_⟩, trivial⟩; simp [leAV, oAt, genO])) ?_
  simp only [frV_cons, frV_nil]
  refine Run.rW [4] (hfin _ _ rfl rfl ?_)
  exact ⟨rfl, rfl⟩
theorem rev_snoc (w : List Int) (m : Nat) (h : m < w.length) : w.reverse.take m ++ [w.getD (w.length - 1 - m) 0] = w.reverse.take (m + 1) := by
  have : w.getD (w.length - 1 - m) 0 = w.reverse.getD m 0 := by
    simp only [List.getD_eq_getElem?_getD]
    rw [List.getElem?_reverse h]
  rw [this]
  exact take_snoc 0 _ m (by simpa using h)
theorem c_spec_ReverseWord (w : List Int) (hl : w.length ≤ 1048576) :
    FunA B 79 [.sl false .int w] (fun rs o => rs = [.own 0 0] ∧ o = [.arr .int w.reverse 0 true]) := by
  refine FunA.walk B_ok (fn := Tryz.f79) (fun vs w => Tryz.call79 vs w) Tryz.func79 rfl (by rw [Tryz.ntmps79]; simp) (fun C hC hP hT hΓ hbt hfn hpin hfin => ?_); have hX := BX; rw [← hΓ, ← hbt.1, ← hbt.2.1, ← hbt.2.2.1, ← hbt.2.2.2.2] at hX; rw [hT] at hX; rw [Tryz.ntmps79]; simp only [AW7, simprocAttr, hX]
  refine Run.R ?_
  refine Run.R ?_
  refine Run.RW ?_
  refine Run.loopI (X := Nat) (fun m => ⟨21, [(0, true, .v (.sl false .int w)), (2, true, .v .nils), (3, true, .v (.own 0 m)), (4, true, .v (.int .i64 ((w.length : Int) - 1 - m)))], [.arr .int (w.reverse.take m) m true]⟩) (fun m => m ≤ w.length) (fun m => w.length - m) 0 (Nat.zero_le _) ?_ ?_
  · exact Le.sub (by rfl) (by simp only [AW7, simprocAttr, hX]; try simp)
  rintro m hm ih
  have hll : (w.reverse.take m).length = m := by simp; omega
  refine Run.R ?_
  refine Run.nq ?_; refine Run.cW ?_ ?_
  · intro h
    have h : m < w.length := by simp at h; omega
    have e1 : ((w.length : Int) - 1 - m).toNat = w.length - 1 - m := by omega
    refine Run.nq ?_; refine Run.regionW hC (fun K hK => ?_); refine wW ?_
    simp only [e1]
    refine wE ?_; clear hK K
    refine Run.RW ?_
    refine Run.le ?_ (ih (m + 1) (by omega) (by omega))
    refine Le.cut0 hpin [_] (by rw [← rev_snoc w m h]; rfl) ?_ rfl
    simp only [AW7, simprocAttr]; try simp; omega
  · intro h
    have h : m = w.length := by simp at h; omega
    subst h
    refine Run.exit rfl ?_; refine Run.nq ?_
    refine Run.R ?_
    refine Run.le (Le.re (obs' := [.arr .int w.reverse 0 true]) hpin [0] [(2, true, .own 0 0)] rfl (by rw [List.take_of_length_le (by simp)]; simp [leOs, leO_arr, oAt]) (by refine ⟨⟨_, rfl, ?_⟩, trivial⟩; simp [leAV, oAt, genO])) ?_
    simp only [frV_cons, frV_nil]
    refine Run.rW [2] (hfin _ _ rfl rfl ?_)
    exact ⟨rfl, rfl⟩
def revM (w : List Int) (m : Nat) : List Int := (List.range w.length).map fun k => if k < m ∨ w.length - m ≤ k then w.getD (w.length - 1 - k) 0 else w.getD k 0
theorem revM_length (w : List Int) (m : Nat) : (revM w m).length = w.length := by simp [revM]
theorem revM_get (w : List Int) (m k : Nat) (hk : k < w.length) : (revM w m).getD k 0 = if k < m ∨ w.length - m ≤ k then w.getD (w.length - 1 - k) 0 else w.getD k 0 := by
  simp [revM, List.getD_eq_getElem?_getD, hk]
theorem revM_zero (w : List Int) : revM w 0 = w := by
  apply List.ext_getElem?
  intro k
  by_cases hk : k < w.length
  · have h : ¬ w.length ≤ k := by omega
    simp [revM, hk, h]
  · rw [List.getElem?_eq_none (by rw [revM_length]; omega), List.getElem?_eq_none (by omega)]
theorem revM_end (w : List Int) (m : Nat) (h : w.length ≤ 2 * m + 1) : revM w m = w.reverse := by
  apply List.ext_getElem?
  intro k
  by_cases hk : k < w.length
  · rw [List.getElem?_reverse hk]
    simp only [revM, List.getElem?_map, List.getElem?_range hk, Option.map_some]
    have e : (if k < m ∨ w.length - m ≤ k then w.getD (w.length - 1 - k) 0 else w.getD k 0) = w.getD (w.length - 1 - k) 0 := by
      split
      · rfl
      · have : w.length - 1 - k = k := by omega
        rw [this]
    rw [e, List.getD_eq_getElem?_getD, List.getElem?_eq_getElem (show w.length - 1 - k < w.length by omega)]
    simp
  · rw [List.getElem?_eq_none (by rw [revM_length]; omega), List.getElem?_eq_none (by simpa using hk)]
theorem revM_set (w : List Int) (m : Nat) (h : 2 * m + 1 < w.length) :
    ((revM w m).set m ((revM w m).getD (w.length - 1 - m) 0)).set (w.length - 1 - m) ((revM w m).getD m 0) = revM w (m + 1) := by
  rw [revM_get w m m (by omega), revM_get w m (w.length - 1 - m) (by omega), if_neg (by omega), if_neg (by omega)]
  apply List.ext_getElem?
  intro k
  rw [List.getElem?_set, List.getElem?_set]
  simp only [List.length_set, revM_length]
  by_cases h1 : w.length - 1 - m = k
  · rw [if_pos h1, if_pos (by omega)]
    simp only [revM, List.getElem?_map, List.getElem?_range (show k < w.length by omega), Option.map_some]
    rw [if_pos (by omega), show w.length - 1 - k = m from by omega]
  · rw [if_neg h1]
    by_cases h2 : m = k
    · rw [if_pos h2, if_pos (by omega)]
      simp only [revM, List.getElem?_map, List.getElem?_range (show k < w.length by omega), Option.map_some]
      rw [if_pos (by omega), h2]
    · rw [if_neg h2]
      by_cases hk : k < w.length
      · simp only [revM, List.getElem?_map, List.getElem?_range hk, Option.map_some]
        congr 1
        by_cases h3 : k < m ∨ w.length - m ≤ k
        · rw [if_pos h3, if_pos (by omega)]
        · rw [if_neg h3, if_neg (by omega)]
      · rw [List.getElem?_eq_none (by rw [revM_length]; omega), List.getElem?_eq_none (by rw [revM_length]; omega)]
theorem c_slices_Reverse (w : List Int) (nn : Bool) (hl : w.length ≤ 1048576) : FunM B 127 [.own 0 0] .int w nn (fun rs o => rs = [] ∧ o = [.arr .int w.reverse 0 nn]) := by
  refine FunM.walk B_ok (fn := Tryz.f127) (fun vs w => Tryz.call127 vs w) Tryz.func127 rfl (by rw [Tryz.ntmps127]; simp) (fun C hC hP hT hΓ hbt hfn hpin hfin => ?_); have hX := BX; rw [← hΓ, ← hbt.1, ← hbt.2.1, ← hbt.2.2.1, ← hbt.2.2.2.2] at hX; rw [hT] at hX; rw [Tryz.ntmps127]; simp only [AW7, simprocAttr, hX]
  refine Run.RW ?_
  refine Run.loopI (X := Nat) (fun m => ⟨28, [(0, true, .v (.own 0 0)), (2, true, .v (.int .i64 m)), (3, true, .v (.int .i64 ((w.length : Int) - 1 - m)))], [.arr .int (revM w m) 0 nn]⟩) (fun m => 2 * m ≤ w.length + 1) (fun m => w.length + 1 - m) 0 (by omega) ?_ ?_
  · exact Le.sub (by rw [revM_zero]) (by simp only [AW7, simprocAttr, hX]; try simp)
  rintro m hm ih
  have hml := revM_length w m
  refine Run.R ?_
  refine Run.nq ?_; refine Run.cW ?_ ?_
  · intro h
    have h : 2 * m + 1 < w.length := by simp at h; omega
    have e1 : ((w.length : Int) - 1 - m).toNat = w.length - 1 - m := by omega
    refine Run.nq ?_; refine Run.regionD hC true [0,1,2,3,4,5,6,7,8,9,10,11,12,13,14,15] (by kernel_rfl) (fun K hK => ?_); simp only [AW7, simprocAttr, hX]; (repeat (with_reducible refine And.intro ?_ ?_); exact vc0)
    simp only [e1]
    refine wE ?_; clear hK K
    refine Run.RW ?_
    refine Run.le ?_ (ih (m + 1) (by omega) (by omega))
    refine Le.sub (by rw [← revM_set w m h]) ?_
    simp only [AW7, simprocAttr]; try simp; omega
  · intro h
    have h : w.length ≤ 2 * m + 1 := by simp at h; omega
    refine Run.exit rfl ?_; refine Run.nq ?_
    rw [revM_end w m h]
    refine Run.doneW (xs := []) [] (by decide) (by rw [hfn]; rfl) rfl trivial (hfin _ _ _ rfl rfl rfl ?_)
    exact ⟨rfl, rfl⟩
theorem c_impl_ReverseWord (w : List Int) (hl : w.length ≤ 1048576) :
    FunA B 75 [.sl false .int w] (fun rs o => rs = [.own 0 0] ∧ o = [.arr .int w.reverse 0 true]) := by
  refine FunA.walk B_ok (fn := Tryz.f75) (fun vs w => Tryz.call75 vs w) Tryz.func75 rfl (by rw [Tryz.ntmps75]; simp) (fun C hC hP hT hΓ hbt hfn hpin hfin => ?_); have hX := BX; rw [← hΓ, ← hbt.1, ← hbt.2.1, ← hbt.2.2.1, ← hbt.2.2.2.2] at hX; rw [hT] at hX; rw [Tryz.ntmps75]; simp only [AW7, simprocAttr, hX]
  refine Run.R ?_
  refine Run.R ?_
  refine Run.le (Le.re (obs' := [.arr .int w 0 true]) hpin [0] [(2, true, .nils), (3, true, .own 0 0)] rfl (by simp [leOs, leO_arr, oAt]) (by refine ⟨⟨_, rfl, ?_⟩, ⟨_, rfl, ?_⟩, trivial⟩ <;> simp [leAV, oAt, genO])) ?_
  simp only [frV_cons, frV_nil]
  refine Run.nq ?_; refine Run.regionW hC (fun K hK => ?_); refine wW ?_
  refine FunM.call hP hT (c_slices_Reverse w true hl) 0 0 (by simp only [AW7, simprocAttr]; rfl) (by simp) rfl (by simp only [AW7, simprocAttr]; try simp) ?_
  rintro rs o' obs' ⟨rfl, h⟩
  obtain ⟨rfl, rfl⟩ := List.cons.inj h
  refine wW ?_
  refine wE ?_; clear hK K
  refine Run.R ?_
  refine Run.rW [2] (hfin _ _ rfl rfl ?_)
  exact ⟨rfl, rfl⟩
def idxN (w : List Int) (x : Int) : Nat → Int
  | 0 => -1
  | n + 1 => if idxN w x n < 0 then (if w.getD n 0 = x then (n : Int) else -1) else idxN w x n
theorem idxN_more (w : List Int) (x : Int) : ∀ n m, n ≤ m → 0 ≤ idxN w x n → idxN w x m = idxN w x n := by
  intro n m h h0
  induction m with
  | zero => have : n = 0 := by omega
            subst this; rfl
  | succ m ih =>
    by_cases hn : n = m + 1
    · subst hn; rfl
    · have := ih (by omega)
      simp only [idxN]
      rw [if_neg (by omega), this]
theorem c_slices_Index (w : List Int) (x : Int) (hl : w.length ≤ 1048576) : FunA B 74 [.sl false .int w, .int .i64 x] (fun rs o => rs = [.int .i64 (idxN w x w.length)] ∧ o = []) := by
  refine FunA.walk B_ok (fn := Tryz.f74) (fun vs w => Tryz.call74 vs w) Tryz.func74 rfl (by rw [Tryz.ntmps74]; simp) (fun C hC hP hT hΓ hbt hfn hpin hfin => ?_); have hX := BX; rw [← hΓ, ← hbt.1, ← hbt.2.1, ← hbt.2.2.1, ← hbt.2.2.2.2] at hX; rw [hT] at hX; rw [Tryz.ntmps74]; simp only [AW7, simprocAttr, hX]
  refine Run.R ?_
  refine Run.R ?_
  refine Run.loopI (X := Nat) (fun i => ⟨19, [(0, true, .v (.sl false .int w)), (1, true, .v (.int .i64 x)), (4, true, .v (.int .i64 0)), (7, true, .v (.int .i64 w.length)), (8, true, .v (.int .i64 i))], []⟩) (fun i => i ≤ w.length ∧ idxN w x i < 0) (fun i => w.length - i) 0 ⟨Nat.zero_le _, by simp [idxN]⟩ ?_ ?_
  · exact Le.sub (by simp only [AW7, simprocAttr]) (by simp only [AW7, simprocAttr]; try simp)
  rintro i ⟨hi, hf⟩ ih
  refine Run.R ?_
  refine Run.nq ?_; refine Run.cW ?_ ?_
  · intro h
    have h : i < w.length := by simpa using h
    refine Run.R ?_
    refine Run.R ?_
    have hs : idxN w x (i + 1) = if w.getD i 0 = x then (i : Int) else -1 := by simp only [idxN]; rw [if_pos hf]
    refine Run.nq ?_; refine Run.cW ?_ ?_
    · intro hx
      have hx : w.getD i 0 = x := by simp at hx; simpa using hx.symm
      refine Run.R ?_
      refine Run.rW [4] (hfin _ _ rfl rfl ?_)
      refine ⟨?_, rfl⟩
      rw [if_pos hx] at hs
      rw [idxN_more w x (i + 1) w.length h (by omega), hs]
    · intro hx
      have hx : ¬ w.getD i 0 = x := by simp at hx; intro k; apply hx; simpa using k.symm
      refine Run.RW ?_
      refine Run.le ?_ (ih (i + 1) ⟨h, by rw [hs, if_neg hx]; decide⟩ (by omega))
      exact Le.sub (by simp only [AW7, simprocAttr]) (by simp only [AW7, simprocAttr, Option.some.injEq, Prod.mk.injEq, Sl.v.injEq, AV.int.injEq, AV.own.injEq, AV.bool.injEq]; try (repeat' apply And.intro); all_goals omega)
  · intro h
    have h : i = w.length := by simp at h; omega
    subst h
    refine Run.exit rfl ?_; refine Run.nq ?_
    refine Run.R ?_
    refine Run.rW [4] (hfin _ _ rfl rfl ?_)
    refine ⟨?_, rfl⟩
    have : ∀ n, idxN w x n < 0 → idxN w x n = -1 := by
      intro n
      induction n with
      | zero => intro _; rfl
      | succ n ih =>
        intro h
        simp only [idxN] at h ⊢
        by_cases h0 : idxN w x n < 0
        · rw [if_pos h0] at h ⊢
          split at h
          · omega
          · rw [if_neg (by assumption)]
        · rw [if_neg h0] at h; omega
    rw [this _ hf]
end Go.Proofs.YtcinngodeoidnaaGreat
namespace Go.Proofs.YtcinngodeoidnaaGreat
open Go Go.Aw
def setP (n : Nat) (s : List Int) : Prop := ∀ i, i < s.length → 0 ≤ s.getD i 0 ∧ s.getD i 0 < n ∧ (0 < i → s.getD (i - 1) 0 < s.getD i 0)
open Classical in
noncomputable def setB (c : List (List Int)) (s : List Int) : Bool := decide (setP c.length s)
theorem setB_iff {c : List (List Int)} {s : List Int} : setB c s = true ↔ setP c.length s := by simp [setB]
noncomputable def isSetB (c : List (List Int)) (s : List Int) : Bool := isC c && setB c s
theorem c_spec_l3Set (c : List (List Int)) (s : List Int) (hc : c.length ≤ 1048576) : FunA B 193 [.sl false (.row false) c, .sl false .int s] (fun rs o => rs = [.bool (isSetB c s)] ∧ o = []) := by
  refine FunA.walk B_ok (fn := Tryz.f193) (fun vs w => Tryz.call193 vs w) Tryz.func193 rfl (by rw [Tryz.ntmps193]; simp) (fun C hC hP hT hΓ hbt hfn hpin hfin => ?_); have hX := BX; rw [← hΓ, ← hbt.1, ← hbt.2.1, ← hbt.2.2.1, ← hbt.2.2.2.2] at hX; rw [hT] at hX; rw [Tryz.ntmps193]; simp only [AW7, simprocAttr, hX]
  refine Run.len 1 rfl fun hlens => ?_
  refine Run.R ?_
  refine Run.R ?_
  refine Run.loopI (X := Nat) (fun i => ⟨39, [(0, true, .v (.sl false (.row false) c)), (1, true, .v (.sl false .int s)), (4, true, .v (.bool false)), (5, true, .v (.int .i64 i))], []⟩) (fun i => i ≤ s.length ∧ ∀ k, k < i → 0 ≤ s.getD k 0 ∧ s.getD k 0 < c.length ∧ (0 < k → s.getD (k - 1) 0 < s.getD k 0)) (fun i => s.length - i) 0 ⟨Nat.zero_le _, by omega⟩ ?_ ?_
  · exact Le.sub (by simp only [AW7, simprocAttr]) (by simp only [AW7, simprocAttr]; try simp)
  rintro i ⟨hi, hset⟩ ih
  refine Run.R ?_
  refine Run.nq ?_; refine Run.cW ?_ ?_
  · intro hc
    have hc : i < s.length := by simpa using hc
    refine Run.keep [0, 1, 4, 5] ?_; simp only [AK, Nat.reduceBEq]
    refine Run.nq ?_
    refine Run.regionD hC true [0,1,2,3,4,5,6,7,8,9,10,11,12,13,14,15,16,17,18,19,20,21,22,23,24] (by kernel_rfl) (fun K hK => ?_)
    simp (disch := omega) only [wrap_id, AW7, simprocAttr, hX]
    (repeat (with_reducible refine And.intro ?_ ?_); exact vc0)
    refine FunA.callD hP hT (c_spec_l1In (s.getD i 0) 0 ((c.length : Int) - 1)) (by simp only [AW7, simprocAttr]) ?_
    rintro rs o ⟨rfl, rfl⟩
    refine wWW ?_
    refine wE ?_; clear hK K
    refine Run.keep [0, 1, 4, 5, 36] ?_; simp only [AK, Nat.reduceBEq]
    have key : (bif !inB (s.getD i 0) 0 ((c.length : Int) - 1) then true else bif decide (0 < (i : Int)) then decide (s.getD i 0 ≤ s.getD ((i : Int) - 1).toNat 0) else false) = true ↔ ¬ (0 ≤ s.getD i 0 ∧ s.getD i 0 < c.length ∧ (0 < i → s.getD (i - 1) 0 < s.getD i 0)) := by
      have e : ((i : Int) - 1).toNat = i - 1 := by omega
      rw [e]
      cases hin : inB (s.getD i 0) 0 ((c.length : Int) - 1) with
      | false =>
        have : ¬ (0 ≤ s.getD i 0 ∧ s.getD i 0 ≤ (c.length : Int) - 1) := fun h => by rw [inB_iff.2 h] at hin; cases hin
        simp only [Bool.not_false, cond_true, true_iff]
        omega
      | true =>
        have := inB_iff.1 hin
        simp only [Bool.not_true, cond_false]
        by_cases h0 : 0 < i
        · have h0' : (0 : Int) < i := by omega
          simp only [h0', decide_true, cond_true, decide_eq_true_eq]
          omega
        · have h0' : ¬ (0 : Int) < i := by omega
          simp only [h0', decide_false, cond_false]
          simp only [Bool.false_eq_true, false_iff]
          omega
    refine Run.nq ?_; refine Run.cW ?_ ?_
    · intro hb
      refine Run.R ?_
      refine Run.rW [4] (hfin _ _ rfl rfl ?_)
      refine ⟨?_, rfl⟩
      have : setB c s = false := by
        cases h : setB c s with
        | false => rfl
        | true => exact absurd (setB_iff.1 h i hc) (key.1 hb)
      simp [isSetB, this]
    · intro hb
      have hb : 0 ≤ s.getD i 0 ∧ s.getD i 0 < c.length ∧ (0 < i → s.getD (i - 1) 0 < s.getD i 0) := by
        refine Classical.byContradiction fun h => ?_
        have := key.2 h
        rw [this] at hb
        cases hb
      refine Run.RW ?_
      refine Run.le ?_ (ih (i + 1) ⟨hc, fun k hk => ?_⟩ (by omega))
      · exact Le.sub (by simp only [AW7, simprocAttr]) (by simp only [AW7, simprocAttr, Option.some.injEq, Prod.mk.injEq, Sl.v.injEq, AV.int.injEq, AV.own.injEq, AV.bool.injEq]; try (repeat' apply And.intro); all_goals omega)
      · rcases Nat.lt_succ_iff_lt_or_eq.1 hk with h | rfl
        · exact hset k h
        · exact hb
  · intro hc
    have hc : i = s.length := by simp at hc; omega
    subst hc
    refine Run.exit rfl ?_; refine Run.nq ?_
    refine Run.nq ?_; refine Run.regionW hC (fun K hK => ?_); refine wW ?_
    refine FunA.cW hP hT (c_spec_IsCartan c) ?_
    rintro rs o ⟨rfl, rfl⟩
    refine wW ?_
    refine wE ?_; clear hK K
    refine Run.rW [4] (hfin _ _ rfl rfl ?_)
    refine ⟨?_, rfl⟩
    have : setB c s = true := setB_iff.2 hset
    simp [isSetB, this]
end Go.Proofs.YtcinngodeoidnaaGreat
namespace Go.Proofs.YtcinngodeoidnaaGreat
def inN : Nat → List Nat → Nat
  | _, [] => 0
  | 0, x :: _ => x
  | n + 1, _ :: l => inN n l
def stR : Nat → Nat → List Nat → List Nat
  | _, _, [] => []
  | 0, y, _ :: l => y :: l
  | n + 1, y, x :: l => x :: stR n y l
def d3 (p q r : Nat × Nat) : Bool := Nat.ble (Nat.add (Nat.add (Nat.mul 2 (Nat.add (Nat.add (Nat.mul p.1 p.2) (Nat.mul q.1 q.2)) (Nat.mul r.1 r.2))) (Nat.add (Nat.mul (Nat.mul p.1 r.1) q.2) (Nat.mul (Nat.mul q.1 r.2) p.2))) 1) 8
def d4 (p q r s t u : Nat × Nat) : Bool :=
  Nat.ble (4 * (p.1 * p.2 + q.1 * q.2 + r.1 * r.2 + s.1 * s.2 + t.1 * t.2 + u.1 * u.2) + 2 * (p.1 * r.1 * q.2 + q.1 * r.2 * p.2 + p.1 * t.1 * s.2 + s.1 * t.2 * p.2 + q.1 * u.1 * s.2 + s.1 * u.2 * q.2 + r.1 * u.1 * t.2 + t.1 * u.2 * r.2) +
    (p.1 * r.1 * u.1 * s.2 + s.1 * u.2 * r.2 * p.2 + p.1 * t.1 * u.2 * q.2 + q.1 * u.1 * t.2 * p.2 + q.1 * r.2 * t.1 * s.2 + s.1 * t.2 * r.1 * q.2) + 1) (16 + (p.1 * p.2 * (u.1 * u.2) + q.1 * q.2 * (t.1 * t.2) + s.1 * s.2 * (r.1 * r.2)))
end Go.Proofs.YtcinngodeoidnaaGreat
namespace Go.Proofs.YtcinngodeoidnaaGreat
open Go Go.Aw Go.Cox
def minorL (m : List (List Int)) (j : Nat) : List (List Int) := (m.drop 1).map fun r => r.take j ++ r.drop (j + 1)
def detN : Nat → List (List Int) → Int
  | 0, _ => 1
  | n + 1, m => (List.range (n + 1)).foldl (fun s j => s + (if j % 2 = 1 then -1 else 1) * (m.getD 0 []).getD j 0 * detN n (minorL m j)) 0
def pick (c : List (List Int)) (s : List Int) : List (List Int) := s.map fun i => s.map fun j => ent c i.toNat j.toNat
def setL (k : Nat) : List Int := ((List.range 4).filter fun i => k.testBit i).map Int.ofNat
def mn (c : List (List Int)) (k : Nat) : Int := detN (setL k).length (pick c (setL k))
def FinP (c : List (List Int)) : Prop := CartanP c ∧ ∀ k, 1 ≤ k → k < 2 ^ c.length → 0 < mn c k
def dotL : List Int → List Int → Int
  | x :: a, y :: b => x * y + dotL a b
  | _, _ => 0
def mirL (c : List (List Int)) (i : Int) (r : List Int) : List Int := r.set i.toNat (r.getD i.toNat 0 - dotL (c.getD i.toNat []) r)
def simL (n : Nat) (i : Nat) : List Int := (List.replicate n 0).set i 1
structure Fits (c : List (List Int)) (cols rows : List (List Nat)) : Prop where
  cl : cols.length = c.length
  rl : rows.length = c.length
  cr : ∀ i, i < c.length → (cols.getD i []).length = c.length ∧ (rows.getD i []).length = c.length ∧ (rows.getD i []).getD i 0 = 0
  ce : ∀ i k, i < c.length → k < c.length → k ≠ i → ent c k i = -((cols.getD i []).getD k 0 : Nat) ∧ ent c i k = -((rows.getD i []).getD k 0 : Nat)
section
variable {c : List (List Int)} {cols rows : List (List Nat)} (hc : CartanP c) (hf : Fits c cols rows)
include hc hf
def negL (r : List Int) : List Int := r.map (- ·)
omit hc hf in
theorem dot_neg : ∀ (a r : List Int), dotL a (negL r) = -dotL a r
  | [], _ => by simp [dotL]
  | _ :: _, [] => by simp [dotL, negL]
  | x :: a, y :: r => by
    have := dot_neg a r
    simp only [negL, List.map_cons, dotL] at this ⊢
    rw [this]; grind
omit hc hf in
theorem negL_get (r : List Int) (i : Nat) : (negL r).getD i 0 = -(r.getD i 0) := by
  simp only [negL, List.getD_eq_getElem?_getD, List.getElem?_map]
  cases r[i]? <;> simp
omit hc hf in
theorem mir_neg (c : List (List Int)) (i : Int) (r : List Int) : mirL c i (negL r) = negL (mirL c i r) := by
  unfold mirL
  rw [dot_neg, negL_get]
  simp only [negL, List.map_set]
  congr 1
  omega
end
def e3 (a : Nat → Nat → Int) (i j k : Nat) : Int := a i i * a j j * a k k - a i i * (a j k * a k j) - a j j * (a i k * a k i) - a k k * (a i j * a j i) + a i j * a j k * a k i + a i k * a k j * a j i
end Go.Proofs.YtcinngodeoidnaaGreat
namespace Go.Proofs.YtcinngodeoidnaaGreat
open Go Go.Aw Go.Cox
def setBt (k i : Nat) : List Int := ((List.range i).filter fun j => k.testBit j).map Int.ofNat
theorem setBt_succ (k i : Nat) : setBt k (i + 1) = if k.testBit i then setBt k i ++ [(i : Int)] else setBt k i := by
  simp only [setBt, List.range_succ, List.filter_append, List.map_append]
  cases h : k.testBit i <;> simp [h]
theorem setBt_len (k i : Nat) : (setBt k i).length ≤ i := by
  simp only [setBt, List.length_map]
  have := List.length_filter_le (fun j => k.testBit j) (List.range i)
  simpa using this
theorem setBt_end : ∀ k : Nat, k < 16 → ∀ i, i ≤ 4 → k < 2 ^ i → setBt k i = setL k := by decide
theorem setL_ne : ∀ k : Nat, k < 16 → 1 ≤ k → setL k ≠ [] := by decide
theorem bit_and : ∀ k : Nat, k < 16 → ∀ i, i < 4 → (andI .i64 ((k : Int) / 2 ^ min i IntKind.i64.bits) 1 == 1) = k.testBit i := by decide
theorem shr_pos : ∀ k : Nat, k < 16 → ∀ i, i ≤ 4 → (decide (0 < (k : Int) / 2 ^ min i IntKind.i64.bits) = decide (2 ^ i ≤ k)) := by decide
theorem c_impl_setOf (k : Nat) (hk : k < 16) : FunA B 175 [.int .i64 k] (fun rs o => rs = [.own 0 0] ∧ o = [.arr .int (setL k) 0 true]) := by
  refine FunA.walk B_ok (fn := Tryz.f175) (fun vs w => Tryz.call175 vs w) Tryz.func175 rfl (by rw [Tryz.ntmps175]; simp) (fun C hC hP hT hΓ hbt hfn hpin hfin => ?_); have hX := BX; rw [← hΓ, ← hbt.1, ← hbt.2.1, ← hbt.2.2.1, ← hbt.2.2.2.2] at hX; rw [hT] at hX; rw [Tryz.ntmps175]; simp only [AW7, simprocAttr, hX]
  refine Run.R ?_
  refine Run.R ?_
  refine Run.R ?_
  refine Run.loopI (X := Nat) (fun i => ⟨22, [(0, true, .v (.int .i64 (k))), (2, true, .v (.nils)), (3, true, .v (.own 0 0)), (4, true, .v (.int .i64 (i)))], [.arr .int ((setBt k i)) 0 true]⟩) (fun i => i ≤ 4) (fun i => 4 - i) (0) (Nat.zero_le _) ?_ ?_
  · exact Le.sub (by first | rfl | simp) (by simp only [AW7, simprocAttr, hX]; try simp <;> try (first | rfl | exact ⟨rfl, rfl⟩ | exact ⟨rfl, rfl, rfl⟩))
  rintro i hi ih
  try simp only []
  have hsl := setBt_len k i
  have h1 := shr_pos k hk i hi
  refine Run.R ?_
  refine Run.nq ?_; refine Run.cW ?_ ?_
  · intro hc
    rw [h1] at hc
    have hc : 2 ^ i ≤ k := by simpa using hc
    have h4 : i < 4 := by
      rcases Nat.lt_or_ge i 4 with h | h
      · exact h
      · have : i = 4 := by omega
        subst this; omega
    have h2 := bit_and k hk i h4
    have h3 := setBt_succ k i
    refine Run.R ?_
    refine Run.nq ?_; refine Run.cW ?_ ?_
    · intro hb
      rw [h2] at hb
      rw [hb, if_pos rfl] at h3
      refine Run.R ?_
      refine Run.RW ?_
      refine Run.reK hpin [0, 2, 3, 4] [0] (by decide) (by simp) ?_; simp only [AR, AW7, simprocAttr]
      refine Run.le ?_ (ih (i + 1) (by omega) (by (try simp only [List.length_append, List.length_cons, List.length_nil]); omega))
      exact Le.sub (by first | rfl | (simp only [← h3]; done) | (rw [← h3]; rfl)) (by simp only [AW7, simprocAttr]; try simp)
    · intro hb
      rw [h2] at hb
      rw [hb] at h3
      refine Run.RW ?_
      refine Run.le ?_ (ih (i + 1) (by omega) (by (try simp only [List.length_append, List.length_cons, List.length_nil]); omega))
      exact Le.sub (by first | rfl | (simp only [h3]; done) | (rw [h3]; rfl)) (by simp only [AW7, simprocAttr]; try simp)
  · intro hc
    rw [h1] at hc
    have hc : k < 2 ^ i := by simpa using hc
    refine Run.exit rfl ?_; refine Run.nq ?_
    refine Run.R ?_
    rw [setBt_end k hk i hi hc]
    refine Run.rW [2] (hfin _ _ rfl rfl ?_)
    exact ⟨rfl, rfl⟩
end Go.Proofs.YtcinngodeoidnaaGreat
namespace Go.Proofs.YtcinngodeoidnaaGreat
open Go Go.Aw Go.Cox Go.RowKit
theorem grow_zero (w : World) : Calls Tryz.prog 126 #[.slice none 0 0, .int .i64 0] w fun e w' => e = .returned (.slice none 0 0) ∧ w' = w := by
  go_enter Tryz.func126, Tryz.ntmps126
  go_wp2
  go_ret
  exact ⟨rfl, rfl⟩
set_option maxRecDepth 100000 in
theorem grow_some (n : Nat) (h0 : 0 < n) (hn : n ≤ 2097152) (w : World) : ∃ G i, n ≤ G ∧ G ≤ 9223372036854775807 ∧ Tryz.prog.info? 3 = some i ∧ i.size = 1 ∧ Calls Tryz.prog 126 #[.slice none 0 0, .int .i64 n] w fun e w' =>
    e = .returned (.slice (some ⟨w.heap.size, 0, none⟩) 0 G) ∧ w' = w.drew.alloc (.cells (Builtin.zeroCells (Value.int .i64 0).cells n ++ Builtin.zeroCells (Value.int .i64 0).cells (G - n)) 3) := by
  obtain ⟨i, hi, hz, hs, hb⟩ : ∃ i, Tryz.prog.info? 3 = some i ∧ i.zero = some (.int .i64 0) ∧ i.size = 1 ∧ i.bytes = 8 := ⟨_, rfl, rfl, rfl, rfl⟩
  refine ⟨grownCap w n 0 3, i, grownCap_ge w _ _ _, ?_, hi, hs, ?_⟩
  · have := grownCap_le_maxLen w n 0 3 (by unfold maxLen; omega)
    unfold maxLen at this
    omega
  have hG : n ≤ grownCap w n 0 3 := grownCap_ge w _ _ _
  have hG63 : grownCap w n 0 3 ≤ 9223372036854775807 := by
    have := grownCap_le_maxLen w n 0 3 (by unfold maxLen; omega)
    unfold maxLen at this
    omega
  have hrz : ∀ ty, (Builtin.append_ #[25, 3] ty #[.slice none 0 0, .int .i64 (n : Int)]).run Tryz.prog w =
      .ok (.slice (some ⟨w.heap.size, 0, none⟩) n (grownCap w n 0 3)) (w.drew.alloc (.cells (Builtin.zeroCells (Value.int .i64 0).cells n ++ Builtin.zeroCells (Value.int .i64 0).cells (grownCap w n 0 3 - n)) 3)) := fun ty =>
    Lib.run_append_nil_zeros w 25 3 ty 3 i (.int .i64 0) .i64 .i64 Tryz.underlying25 Tryz.underlying3 hi hz n h0 (by omega) (by omega) (by rw [hb]; omega)
  generalize grownCap w n 0 3 = G at hrz hG hG63 ⊢
  have h1 : ¬ ((n : Int) < 0) := by omega
  have h3 : wrap64 ((n : Int)) = (n : Int) := by unfold wrap64; omega
  have h4 : (n : Int) > 0 := by omega
  go_enter Tryz.func126, Tryz.ntmps126
  go_wp2_with (at_builtin; refine Lib.wpList_append_run _ rfl _ _ _ _ rfl _ _ rfl rfl _ _ (hrz _) ?_)
  all_goals (go_ret; exact ⟨rfl, rfl⟩)
end Go.Proofs.YtcinngodeoidnaaGreat
namespace Go.Proofs.YtcinngodeoidnaaGreat
open Go Go.Aw Go.Cox
end Go.Proofs.YtcinngodeoidnaaGreat
namespace Go.Proofs.YtcinngodeoidnaaGreat
open Go Go.Aw
def sumL : List (List Int) → Nat
  | [] => 0
  | r :: rs => r.length + sumL rs
def iotaR (k : Int) : List (List Int) → List (List Int)
  | [] => []
  | r :: rs => iota k r.length :: iotaR (k + r.length) rs
theorem iotaR_length (k : Int) : ∀ rows, (iotaR k rows).length = rows.length
  | [] => rfl
  | r :: rs => by simp [iotaR, iotaR_length (k + r.length) rs]
theorem sumL_append : ∀ a b, sumL (a ++ b) = sumL a + sumL b
  | [], b => by simp [sumL]
  | r :: rs, b => by simp [sumL, sumL_append rs b]; omega
theorem iotaR_append (k : Int) : ∀ a b, iotaR k (a ++ b) = iotaR k a ++ iotaR (k + sumL a) b
  | [], b => by simp [iotaR, sumL]
  | r :: rs, b => by simp [iotaR, sumL, iotaR_append (k + r.length) rs b]; congr 1; omega
theorem sumL_iotaR (k : Int) : ∀ rows, sumL (iotaR k rows) = sumL rows
  | [] => rfl
  | r :: rs => by simp [iotaR, sumL, iota_length, sumL_iotaR]
theorem sumL_take (rows : List (List Int)) (i : Nat) : sumL (rows.take i) ≤ sumL rows := by
  have := sumL_append (rows.take i) (rows.drop i)
  rw [List.take_append_drop] at this
  omega
theorem sumL_snoc (rows : List (List Int)) (i : Nat) (h : i < rows.length) : sumL (rows.take (i + 1)) = sumL (rows.take i) + (rows.getD i []).length := by
  rw [← take_snoc [] rows i h, sumL_append]
  simp [sumL]
theorem iotaR_snoc (k : Int) (rows : List (List Int)) (i : Nat) (h : i < rows.length) : iotaR k (rows.take (i + 1)) = iotaR k (rows.take i) ++ [iota (k + sumL (rows.take i)) (rows.getD i []).length] := by
  rw [← take_snoc [] rows i h, iotaR_append]
  simp [iotaR]
theorem mark_get (k : Int) (rows : List (List Int)) (i : Nat) (h : i < rows.length) : (iotaR k (rows.take i) ++ rows.drop i).getD i [] = rows.getD i [] := by
  have hl : (iotaR k (rows.take i)).length = i := by rw [iotaR_length]; simp; omega
  simp only [List.getD_eq_getElem?_getD]
  rw [List.getElem?_append_right (by omega), hl, Nat.sub_self]
  simp
theorem mark_set (k : Int) (rows : List (List Int)) (i : Nat) (h : i < rows.length) : (iotaR k (rows.take i) ++ rows.drop i).set i (iota (k + sumL (rows.take i)) (rows.getD i []).length) = iotaR k (rows.take (i + 1)) ++ rows.drop (i + 1) := by
  have hl : (iotaR k (rows.take i)).length = i := by rw [iotaR_length]; simp; omega
  rw [List.set_append, hl, if_neg (by omega), Nat.sub_self, List.drop_eq_getElem_cons h, List.set_cons_zero, iotaR_snoc k rows i h]
  simp
theorem szR_sum : ∀ (rows : List (List Int)) (l : Int), 0 ≤ l → 0 ≤ szR rows l → (sumL rows : Int) ≤ l
  | [], l, h0, _ => by simpa [sumL] using h0
  | r :: rs, l, h0, h => by
    simp only [szR] at h
    by_cases hs : szI r l < 0
    · rw [if_pos hs] at h; omega
    · rw [if_neg hs] at h
      have h1 : 0 ≤ szI r l := by omega
      have h2 : szI r l = l - r.length := by unfold szI at h1 ⊢; split <;> simp_all
      have := szR_sum rs _ h1 h
      simp only [sumL]
      omega
theorem szII_all (rows : List (List Int)) (l : Int) (h0 : 0 ≤ l ∧ l ≤ 1048576) (h : 0 ≤ szII rows l) : rows.length ≤ 1048576 ∧ (∀ r ∈ rows, r.length ≤ 1048576) ∧ sumL rows ≤ 1048576 ∧ szII rows l ≤ 1048576 := by
  obtain ⟨h1, h2⟩ := szII_le rows l h0.1 h
  refine ⟨by omega, fun r hr => by have := h2 r hr; omega, ?_, ?_⟩
  · unfold szII at h
    split at h
    · omega
    · have := szR_sum rows _ (by omega) h; omega
  · unfold szII at h ⊢
    split at h
    · omega
    · rename_i h3
      rw [if_neg h3]
      have := (szR_le rows (l - rows.length) (by omega) h).1
      omega
theorem c_markIntSS (hs : List (Option Nat)) (rows : List (List Int)) (k : Int) (hp : rows.length ≤ 4503599627370496) (hk : 0 ≤ k ∧ k + sumL rows ≤ 4503599627370496) (nn : Bool) :
    FunO B 66 [.own 0 0, .int .i64 k] (.mat hs rows 0 nn) (fun rs o => rs = [.int .i64 (k + sumL rows)] ∧ o = [.mat hs (iotaR k rows) 0 nn]) := by
  refine FunO.walk B_ok (fn := Tryz.f66) (fun vs w => Tryz.call66 vs w) Tryz.func66 rfl (by rw [Tryz.ntmps66]; simp) (fun C hC hP hT hΓ hbt hfn hpin hfin => ?_); have hX := BX; rw [← hΓ, ← hbt.1, ← hbt.2.1, ← hbt.2.2.1, ← hbt.2.2.2.2] at hX; rw [hT] at hX; rw [Tryz.ntmps66]; simp only [AW7, simprocAttr, hX]
  refine Run.R ?_
  refine Run.R ?_
  refine Run.loopI (X := Nat) (fun i => ⟨19, [(0, true, .v (.own 0 0)), (1, true, .v (.int .i64 (k + sumL (rows.take i)))), (4, true, .v (.int .i64 0)), (5, true, .v (.int .i64 i))], [.mat hs (iotaR k (rows.take i) ++ rows.drop i) 0 nn]⟩) (fun i => i ≤ rows.length) (fun i => rows.length - i) 0 (by simp) ?_ ?_
  · refine Le.sub (by simp [iotaR]) ?_
    simp only [AW7, simprocAttr, hX]; try simp [sumL]
  rintro i hi ih
  have hlen : (iotaR k (rows.take i) ++ rows.drop i).length = rows.length := by simp [iotaR_length]; omega
  have hst := sumL_take rows i
  refine Run.R ?_
  refine Run.nq ?_; refine Run.cW ?_ ?_
  · intro hc2
    have hc2 : i < rows.length := by rw [hlen] at hc2; simpa using hc2
    have hget := mark_get k rows i hc2
    have hsn := sumL_snoc rows i hc2
    have hst2 := sumL_take rows (i + 1)
    refine Run.nq ?_; refine Run.regionW hC (fun K hK => ?_); refine wW ?_
    refine FunM.callRow hP hT (c_markIntS ((iotaR k (rows.take i) ++ rows.drop i).getD i []) (k + sumL (rows.take i)) (by rw [hget]; omega) (by omega) false) 0 0 (i) (by simp only [AW7, simprocAttr]; rfl) ?_ rfl (by simp only [AW7, simprocAttr]) ?_
    · omega
    rintro rs o' obs' ⟨rfl, h⟩
    obtain ⟨rfl, rfl⟩ := List.cons.inj h
    refine ⟨_, rfl, by rw [iota_length], rfl, ?_⟩
    refine hK _ ?_
    clear hK K
    refine Run.nq ?_
    refine Run.RW ?_
    refine Run.le ?_ (ih (i + 1) hc2 (by omega))
    simp only [hget]
    refine Le.sub (by rw [← mark_set k rows i hc2]) ?_
    simp only [AW7, simprocAttr]; try simp [-List.getD_eq_getElem?_getD]; omega
  · intro hc2
    have hc2 : i = rows.length := by rw [hlen] at hc2; simp at hc2; omega
    refine Run.exit rfl ?_; refine Run.nq ?_
    refine Run.R ?_
    subst hc2
    refine Run.retW [4] (by decide) (by rw [hfn]; rfl) (by simp only [AW7, simprocAttr, hX]; rfl) (by simp only [AW7, simprocAttr, hX]) (hfin _ _ _ rfl rfl ⟨rfl, _, _, rfl⟩ ?_)
    simp
theorem c_heldIota (k : Int) (n : Nat) (hn : n ≤ 4503599627370496) (hk : 0 ≤ k ∧ k ≤ 4503599627370496) :
    FunA B 124 [.sl false .int (iota k n), .int .i64 k] (fun rs o => rs = [.int .i64 (k + n)] ∧ o = []) := by
  refine (c_heldIntS (iota k n) k (by rw [iota_length]; exact hn) hk).mono ?_
  rintro rs o ⟨rfl, rfl⟩
  rw [iota_length, if_pos rfl]
  exact ⟨rfl, rfl⟩
end Go.Proofs.YtcinngodeoidnaaGreat
namespace Go.Proofs.YtcinngodeoidnaaGreat
open Go Go.Aw Go.Cox Go.RowKit
theorem c_slices_Grow (n : Nat) (hn : n ≤ 2097152) : FunA B 126 [.nils, .int .i64 n] (fun rs o => rs = [.own 0 0] ∧ o = [.arr .int [] 0 false]) := by
  refine ⟨fun vs w => Tryz.call126 vs w, fun w L vs hG hl ha => ?_⟩
  match vs, hl with
  | [u, v], _ =>
  have hu : u = .slice none 0 0 := ha 0 _ _ rfl rfl
  have hv : v = .int .i64 n := ha 1 _ _ rfl rfl
  subst hu hv
  have r0 := wrel_start B w L (fun _ => undef) hG
  have fin : ∀ (w' : World) (e : Ending) (x : Value), Ext (fun _ => False) w w' → e = .returned x → (∃ cs, w'.ownsRow 0 3 1 x 0 cs) → (∀ b, x.ownBlock = some b → w.heap.size ≤ b) →
      ∃ us : List Value, e = .returned (pack us) ∧ ∃ xs obs' ρ', (xs = [.own 0 0] ∧ obs' = [.arr .int [] 0 false]) ∧ us.length = xs.length ∧
      (∀ (i : Nat) (x : AV) (v : Value), xs[i]? = some x → us[i]? = some v → AVRel ((B.bareL w L).V w' obs' ρ') obs' ρ' x v) ∧ WRel (B.bareL w L) obs' w' ρ' ∧ xs.all freshAV = true ∧ obs'.all freshO = true := by
    intro w' e x hext he hown hb
    obtain ⟨cs, hown⟩ := hown
    have hcs : cs = [] := List.length_eq_zero_iff.1 (by simpa using hown.1)
    subst hcs
    have T := Turn.new (C := B.bareL w L) r0 hext (.arr .int [] 0 false) x ⟨[], hown, ⟨by simp, fun i hi => by simp at hi⟩, by simp, by simp⟩ (fun b hb' => hb b hb')
    refine ⟨[x], by rw [he]; rfl, [.own 0 0], [.arr .int [] 0 false], _, ⟨rfl, rfl⟩, rfl, fun i y u hy hu => ?_, (T.step r0).wr, rfl, rfl⟩
    match i, hy, hu with
    | 0, hy, hu =>
      simp at hy hu
      subst hy hu
      refine ⟨by simp, fun c hc => ?_⟩
      have : c = 0 := by simpa [genOf, O.gen] using hc.symm
      subst this
      exact ⟨Nat.le_refl _, fun _ => rfl⟩
  by_cases h0 : n = 0
  · subst h0
    refine (grow_zero w).mono fun e w' ⟨he, hw⟩ => ?_
    subst hw
    exact fin w' e _ (Ext.refl _ _) he ⟨[], World.ownsRow_nil _ _ _ _⟩ (fun b hb => by simp [Value.ownBlock] at hb)
  · obtain ⟨G, i, hG, hG63, hi, hs, hc⟩ := grow_some n (by omega) hn w
    refine hc.mono fun e w' ⟨he, hw⟩ => ?_
    subst hw
    refine fin _ e _ ((Ext.drew _ w).trans (Ext.alloc _ _ _)) he ⟨[], rfl, .inr ⟨w.heap.size, G, Builtin.zeroCells (Value.int .i64 0).cells n ++ Builtin.zeroCells (Value.int .i64 0).cells (G - n), rfl, Nat.zero_le _, ?_, Nat.zero_le _, by unfold maxLen; omega, ?_, by simp⟩⟩ (fun b hb => by simp [Value.ownBlock] at hb; omega)
    · show (w.heap.push _)[w.heap.size]? = _
      simp
    · simp [Builtin.zeroCells, Value.cells]
      omega
theorem flat_take (rows : List (List Int)) (i : Nat) (h : i < rows.length) : (rows.take i).flatten ++ rows.getD i [] = (rows.take (i + 1)).flatten := by
  rw [← take_snoc [] rows i h]; simp
theorem flat_len (rows : List (List Int)) : rows.flatten.length = sumL rows := by
  induction rows with
  | nil => rfl
  | cons r l ih => simp [sumL, ih]
theorem c_slices_Concat (rows : List (List Int)) (hl : sumL rows ≤ 2097152) (hr : rows.length ≤ 1048576) : FunA B 73 [.sl false (.row false) rows] (fun rs o => ∃ nn, rs = [.own 0 0] ∧ o = [.arr .int rows.flatten 0 nn]) := by
  refine FunA.walk B_ok (fn := Tryz.f73) (fun vs w => Tryz.call73 vs w) Tryz.func73 rfl (by rw [Tryz.ntmps73]; simp) (fun C hC hP hT hΓ hbt hfn hpin hfin => ?_); have hX := BX; rw [← hΓ, ← hbt.1, ← hbt.2.1, ← hbt.2.2.1, ← hbt.2.2.2.2] at hX; rw [hT] at hX; rw [Tryz.ntmps73]; simp only [AW7, simprocAttr, hX]
  refine Run.R ?_
  refine Run.R ?_
  refine Run.R ?_
  refine Run.loopI (X := Nat) (fun i => ⟨36, [(0, true, .v (.sl false (.row false) rows)), (2, true, .v .nils), (3, true, .v (.int .i64 (sumL (rows.take i)))), (9, true, .v (.sl false (.row false) rows)), (10, true, .v (.int .i64 rows.length)), (11, true, .v (.int .i64 i))], []⟩) (fun i => i ≤ rows.length) (fun i => rows.length - i) 0 (Nat.zero_le _) ?_ ?_
  · exact Le.sub (by rfl) (by simp only [AW7, simprocAttr, hX]; try simp [sumL])
  · rintro i hi ih
    have hsi := sumL_take rows i
    refine Run.R ?_
    refine Run.nq ?_; refine Run.cW ?_ ?_
    · intro hc
      have hc : i < rows.length := by simpa using hc
      have hsn := sumL_snoc rows i hc
      have hsi1 := sumL_take rows (i + 1)
      refine Run.R ?_
      refine Run.RW ?_
      refine Run.R ?_
      refine Run.nq ?_; refine Run.cW ?_ ?_
      · intro h2
        simp at h2
        omega
      · intro h2
        refine Run.RW ?_
        refine Run.le ?_ (ih (i + 1) hc (by omega))
        exact Le.sub (by rfl) (by simp only [AW7, simprocAttr, hX]; rw [hsn]; simp)
    · intro hc
      have hc : i = rows.length := by simp at hc; omega
      subst hc
      refine Run.exit rfl ?_; refine Run.nq ?_
      rw [List.take_length]
      refine Run.nq ?_; refine Run.regionW hC (fun K hK => ?_); refine wW ?_
      refine FunA.cW hP hT (c_slices_Grow (sumL rows) (by omega)) ?_
      rintro rs o ⟨rfl, rfl⟩
      refine wW ?_
      refine wE ?_; clear hK K
      refine Run.R ?_
      refine Run.loopI (X := Nat × Bool) (fun x => ⟨36, [(0, true, .v (.sl false (.row false) rows)), (2, true, .v .nils), (6, true, .v (.own 0 x.1)), (25, true, .v (.sl false (.row false) rows)), (26, true, .v (.int .i64 rows.length)), (27, true, .v (.int .i64 x.1))], [.arr .int (rows.take x.1).flatten x.1 x.2]⟩) (fun x => x.1 ≤ rows.length) (fun x => rows.length - x.1) (0, false) (Nat.zero_le _) ?_ ?_
      · exact Le.sub (by rfl) (by simp only [AW7, simprocAttr, hX]; try simp)
      rintro ⟨i, nn⟩ hi ih2
      simp only [] at hi ⊢
      have hsi := sumL_take rows i
      have hfl := flat_len (rows.take i)
      refine Run.R ?_
      refine Run.nq ?_; refine Run.cW ?_ ?_
      · intro hc
        have hc : i < rows.length := by simpa using hc
        have hsn := sumL_snoc rows i hc
        have hsi1 := sumL_take rows (i + 1)
        refine Run.R ?_
        refine Run.R ?_
        refine Run.RW ?_
        refine Run.le ?_ (ih2 (i + 1, nn || !(rows.getD i []).isEmpty) hc (by simp only []; omega))
        exact Le.sub (by simp only [flat_take rows i hc]) (by simp only [AW7, simprocAttr, hX]; try simp)
      · intro hc
        have hc : i = rows.length := by simp at hc; omega
        subst hc
        refine Run.exit rfl ?_; refine Run.nq ?_
        refine Run.R ?_
        refine Run.le (Le.re (obs' := [.arr .int rows.flatten 0 nn]) hpin [0] [(2, true, .own 0 0)] rfl (by rw [List.take_length]; simp [leOs, leO_arr, oAt]) (by refine ⟨⟨_, rfl, ?_⟩, trivial⟩; simp [leAV, oAt, genO])) ?_
        simp only [frV_cons, frV_nil]
        refine Run.rW [2] (hfin _ _ rfl rfl ?_)
        exact ⟨nn, rfl, rfl⟩
end Go.Proofs.YtcinngodeoidnaaGreat
namespace Go.Proofs.YtcinngodeoidnaaGreat
open Go Go.Aw Go.Cox
open Classical in
noncomputable def wkB (c : List (List Int)) (u v : List Int) : Bool := wordB c u && wordB c v && decide ((redL c u).length + (redL c (u.reverse ++ v)).length = (redL c v).length)
theorem set_len {c : List (List Int)} {s : List Int} (h : setP c.length s) : s.length ≤ c.length := by
  have key : ∀ i, i < s.length → (i : Int) ≤ s.getD i 0 := by
    intro i
    induction i with
    | zero => intro h0; exact (h 0 h0).1
    | succ i ih =>
      intro h1
      have := ih (by omega)
      have := (h (i + 1) h1).2.2 (by omega)
      rw [Nat.add_sub_cancel] at this
      omega
  by_cases h0 : s.length = 0
  · omega
  · have := key (s.length - 1) (by omega)
    have := (h (s.length - 1) (by omega)).2.1
    omega
theorem set_letters {n : Nat} {s : List Int} (h : setP n s) : letters n s := letters_getD.2 fun i hi => ⟨(h i hi).1, (h i hi).2.1⟩
end Go.Proofs.YtcinngodeoidnaaGreat
