/- Products of polynomials. -/
import Derived.Test.YtbbnfljaojfmaaaDoorB6
import Derived.WalkKit
import Derived.Deep.QuietTactic
import Derived.BigQuiet
set_option linter.unusedVariables false
set_option linter.unusedSimpArgs false
namespace Go.Proofs.YtbbnfljaojfmaaaDoor
open Go Go.Aw
def mulIn (b : List Int) (x : Int) (i : Nat) (o : List Int) : Nat → List Int
  | 0 => o
  | k + 1 => (mulIn b x i o k).set (i + k) (IntKind.i64.wrap ((mulIn b x i o k).getD (i + k) 0 + IntKind.i64.wrap (x * b.getD k 0)))
def mulOut (a b : List Int) (n : Nat) : Nat → List Int
  | 0 => List.replicate n 0
  | i + 1 => mulIn b (a.getD i 0) i (mulOut a b n i) b.length
theorem mulIn_length (b : List Int) (x : Int) (i : Nat) (o : List Int) : ∀ k, (mulIn b x i o k).length = o.length
  | 0 => rfl
  | k + 1 => by simp [mulIn, mulIn_length b x i o k]
theorem mulOut_length (a b : List Int) (n : Nat) : ∀ i, (mulOut a b n i).length = n
  | 0 => by simp [mulOut]
  | i + 1 => by simp [mulOut, mulIn_length, mulOut_length a b n i]
def mulC (a b : List Int) : Prop := a.length = 0 ∨ b.length = 0 ∨ a.length + b.length > 62
instance (a b : List Int) : Decidable (mulC a b) := by unfold mulC; infer_instance
def mulP (a b : List Int) : List Int := if mulC a b then [] else trim (mulOut a b (a.length + b.length - 1) a.length)
theorem mulP_le (a b : List Int) : (mulP a b).length ≤ 61 := by
  unfold mulP
  split
  · simp
  · rename_i h
    have := trim_le (mulOut a b (a.length + b.length - 1) a.length)
    rw [mulOut_length] at this
    unfold mulC at h
    omega
theorem c_spec_MulPoly (a b : List Int) (ha : a.length ≤ 1048576) (hb : b.length ≤ 1048576) : FunA B 15 [.sl false .int a, .sl false .int b] (fun rs o => rs = [.own 0 1] ∧ o = [.arr .int (mulP a b) 1 true]) := by
  refine FunA.walk B_ok (fn := Tryd.f15) (fun vs w => Tryd.call15 vs w) Tryd.func15 rfl (by rw [Tryd.ntmps15]; simp) (fun C hC hP hT hΓ hbt hfn hpin hfin => ?_); have hX := BX; rw [← hΓ, ← hbt.1, ← hbt.2] at hX; rw [Tryd.ntmps15]; simp only [AW7, simprocAttr, hX]
  refine Run.R ?_
  refine Run.RW ?_
  refine Run.keep [0, 1, 4, 23] ?_; simp only [AK, Nat.reduceBEq]
  refine Run.nq ?_; refine Run.cW ?_ ?_
  · intro hc
    have hm : mulC a b := by
      unfold mulC
      by_cases h1 : a.length = 0
      · exact .inl h1
      · by_cases h2 : b.length = 0
        · exact .inr (.inl h2)
        · have h1' : ((a.length : Int) == 0) = false := by simpa using h1
          have h2' : ((b.length : Int) == 0) = false := by simpa using h2
          rw [h1', h2'] at hc
          simp at hc
          omega
    refine Run.R ?_
    refine Run.le (Le.re (obs' := [.arr .int [] 1 true]) hpin [0] [(4, true, .own 0 1)] rfl (by simp [leOs, leO_arr, oAt]) (by refine ⟨⟨_, rfl, ?_⟩, trivial⟩; simp [leAV, oAt, genO])) ?_
    simp only [frV_cons, frV_nil]
    refine Run.rW [4] (hfin _ _ rfl rfl ?_)
    simp [mulP, hm]
  · intro hc
    have hm : ¬ mulC a b := by
      unfold mulC
      intro h
      have h1' : ((a.length : Int) == 0) = false := by
        by_cases h1 : a.length = 0
        · simp [h1] at hc
        · simpa using h1
      have h2' : ((b.length : Int) == 0) = false := by
        by_cases h2 : b.length = 0
        · rw [h1'] at hc; simp [h2] at hc
        · simpa using h2
      rw [h1', h2'] at hc
      simp at hc h1' h2'
      rcases h with h | h | h
      · exact h1' (List.length_eq_zero_iff.1 h)
      · exact h2' (List.length_eq_zero_iff.1 h)
      · omega
    have hm' := hm
    unfold mulC at hm'
    have hN : (mulOut a b (a.length + b.length - 1) 0) = List.replicate ((a.length : Int) + b.length - 1).toNat 0 := by
      simp only [mulOut]
      congr 1
      omega
    refine Run.RW ?_
    refine Run.R ?_
    refine Run.keep [0, 1, 4, 5, 6] ?_; simp only [AK, Nat.reduceBEq]
    refine Run.loopI (X := Nat) (fun i => ⟨67, [(0, true, .v (.sl false .int a)), (1, true, .v (.sl false .int b)), (4, true, .v .nils), (5, true, .v (.own 0 0)), (6, true, .v (.int .i64 i))], [.arr .int (mulOut a b (a.length + b.length - 1) i) 0 true]⟩) (fun i => i ≤ a.length) (fun i => a.length - i) 0 (Nat.zero_le _) ?_ ?_
    · refine Le.sub (by rw [hN]) ?_
      simp only [AW7, simprocAttr, hX]; try simp
    rintro i hi ih
    have hol := mulOut_length a b (a.length + b.length - 1) i
    refine Run.R ?_
    refine Run.nq ?_; refine Run.cW ?_ ?_
    · intro hc2
      have hc2 : i < a.length := by simpa using hc2
      refine Run.R ?_
      refine Run.loopI (X := Nat) (fun k => ⟨67, [(0, true, .v (.sl false .int a)), (1, true, .v (.sl false .int b)), (4, true, .v .nils), (5, true, .v (.own 0 0)), (6, true, .v (.int .i64 i)), (7, true, .v (.int .i64 k))], [.arr .int (mulIn b (a.getD i 0) i (mulOut a b (a.length + b.length - 1) i) k) 0 true]⟩) (fun k => k ≤ b.length) (fun k => b.length - k) 0 (Nat.zero_le _) ?_ ?_
      · refine Le.sub (by rfl) ?_
        simp only [AW7, simprocAttr, hX]; try simp
      rintro k hk ihk
      have hil := mulIn_length b (a.getD i 0) i (mulOut a b (a.length + b.length - 1) i) k
      refine Run.R ?_
      refine Run.nq ?_; refine Run.cW ?_ ?_
      · intro hc3
        have hc3 : k < b.length := by simpa using hc3
        refine Run.nq ?_; refine Run.regionD hC true [0,1,2,3,4,5,6,7,8,9,10,11,12,13,14,15,16,17,18,19,20,21] (by kernel_rfl) (fun K hK => ?_); simp (disch := omega) only [wrap_id, AW7, simprocAttr, hX]; (repeat (with_reducible refine And.intro ?_ ?_); exact vc0); refine wE ?_; clear hK K
        refine Run.RW ?_
        refine Run.le ?_ (ihk (k + 1) hc3 (by omega))
        refine Le.sub ?_ ?_
        · have e : ((i : Int) + (k : Int)).toNat = i + k := by omega
          simp [mulIn, e]
        · simp only [AW7, simprocAttr]; try simp
      · intro hc3
        have hc3 : k = b.length := by simp at hc3; omega
        subst hc3
        refine Run.exit rfl ?_; refine Run.nq ?_
        refine Run.RW ?_
        refine Run.le ?_ (ih (i + 1) hc2 (by omega))
        refine Le.sub (by rfl) ?_
        simp only [AW7, simprocAttr]; try simp
    · intro hc2
      have hc2 : i = a.length := by simp at hc2; omega
      subst hc2
      refine Run.exit rfl ?_; refine Run.nq ?_
      refine Run.nq ?_; refine Run.regionW hC (fun K hK => ?_); refine wW ?_
      refine FunA.cW hP hT (c_spec_TrimPoly (mulOut a b (a.length + b.length - 1) a.length) (by omega)) ?_
      rintro rs o ⟨rfl, rfl⟩
      refine wW ?_
      refine wE ?_; clear hK K
      refine Run.le (Le.re (obs' := [.arr .int (trim (mulOut a b (a.length + b.length - 1) a.length)) 1 true]) hpin [1] [(4, true, .own 0 1)] rfl (by simp [leOs, leO_arr, oAt]) (by refine ⟨⟨_, rfl, ?_⟩, trivial⟩; simp [leAV, oAt, genO])) ?_
      simp only [frV_cons, frV_nil]
      refine Run.rW [4] (hfin _ _ rfl rfl ?_)
      simp [mulP, hm]
theorem c_impl_MulPoly (a b : List Int) (ha : a.length ≤ 1048576) (hb : b.length ≤ 1048576) : FunA B 11 [.sl false .int a, .sl false .int b] (fun rs o => rs = [.own 0 1] ∧ o = [.arr .int (mulP a b) 1 true]) := by
  refine FunA.walk B_ok (fn := Tryd.f11) (fun vs w => Tryd.call11 vs w) Tryd.func11 rfl (by rw [Tryd.ntmps11]; simp) (fun C hC hP hT hΓ hbt hfn hpin hfin => ?_); have hX := BX; rw [← hΓ, ← hbt.1, ← hbt.2] at hX; rw [Tryd.ntmps11]; simp only [AW7, simprocAttr, hX]
  refine Run.R ?_
  refine Run.RW ?_
  refine Run.keep [0, 1, 4, 25] ?_; simp only [AK, Nat.reduceBEq]
  refine Run.nq ?_; refine Run.cW ?_ ?_
  · intro hc
    have hm : mulC a b := by
      unfold mulC
      by_cases h1 : a.length = 0
      · exact .inl h1
      · by_cases h2 : b.length = 0
        · exact .inr (.inl h2)
        · have h1' : ((a.length : Int) == 0) = false := by simpa using h1
          have h2' : ((b.length : Int) == 0) = false := by simpa using h2
          rw [h1', h2'] at hc
          by_cases h3 : 62 < (a.length : Int) + b.length
          · omega
          · simp [h3] at hc
    refine Run.R ?_
    refine Run.le (Le.re (obs' := [.arr .int [] 1 true]) hpin [0] [(4, true, .own 0 1)] rfl (by simp [leOs, leO_arr, oAt]) (by refine ⟨⟨_, rfl, ?_⟩, trivial⟩; simp [leAV, oAt, genO])) ?_
    simp only [frV_cons, frV_nil]
    refine Run.rW [4] (hfin _ _ rfl rfl ?_)
    simp [mulP, hm]
  · intro hc
    have hm : ¬ mulC a b := by
      unfold mulC
      intro h
      by_cases h3 : 62 < (a.length : Int) + b.length
      · simp [h3] at hc
      · have h3' : decide (62 < (a.length : Int) + b.length) = false := by simpa using h3
        rw [h3'] at hc
        simp only [cond_false] at hc
        rcases h with h | h | h
        · simp [h] at hc
        · by_cases h1 : a.length = 0
          · simp [h1] at hc
          · have h1' : ((a.length : Int) == 0) = false := by simpa using h1
            rw [h1'] at hc
            simp [h] at hc
        · omega
    have hm' := hm
    unfold mulC at hm'
    have hN : (mulOut a b (a.length + b.length - 1) 0) = List.replicate ((a.length : Int) + b.length - 1).toNat 0 := by
      simp only [mulOut]
      congr 1
      omega
    refine Run.RW ?_
    refine Run.R ?_
    refine Run.keep [0, 1, 4, 5, 34, 35, 36] ?_; simp only [AK, Nat.reduceBEq]
    refine Run.loopI (X := Nat) (fun i => ⟨63, [(0, true, .v (.sl false .int a)), (1, true, .v (.sl false .int b)), (4, true, .v .nils), (5, true, .v (.own 0 0)), (34, true, .v (.sl false .int a)), (35, true, .v (.int .i64 a.length)), (36, true, .v (.int .i64 i))], [.arr .int (mulOut a b (a.length + b.length - 1) i) 0 true]⟩) (fun i => i ≤ a.length) (fun i => a.length - i) 0 (Nat.zero_le _) ?_ ?_
    · refine Le.sub (by rw [hN]) ?_
      simp only [AW7, simprocAttr, hX]; try simp
    rintro i hi ih
    have hol := mulOut_length a b (a.length + b.length - 1) i
    refine Run.R ?_
    refine Run.nq ?_; refine Run.cW ?_ ?_
    · intro hc2
      have hc2 : i < a.length := by simpa using hc2
      refine Run.R ?_
      refine Run.R ?_
      refine Run.loopI (X := Nat) (fun k => ⟨63, [(0, true, .v (.sl false .int a)), (1, true, .v (.sl false .int b)), (4, true, .v .nils), (5, true, .v (.own 0 0)), (34, true, .v (.sl false .int a)), (35, true, .v (.int .i64 a.length)), (36, true, .v (.int .i64 i)), (6, true, .v (.int .i64 i)), (7, true, .v (.int .i64 (a.getD i 0))), (41, true, .v (.sl false .int b)), (42, true, .v (.int .i64 b.length)), (43, true, .v (.int .i64 k))], [.arr .int (mulIn b (a.getD i 0) i (mulOut a b (a.length + b.length - 1) i) k) 0 true]⟩) (fun k => k ≤ b.length) (fun k => b.length - k) 0 (Nat.zero_le _) ?_ ?_
      · refine Le.sub (by rfl) ?_
        simp only [AW7, simprocAttr, hX]; try simp
      rintro k hk ihk
      have hil := mulIn_length b (a.getD i 0) i (mulOut a b (a.length + b.length - 1) i) k
      refine Run.R ?_
      refine Run.nq ?_; refine Run.cW ?_ ?_
      · intro hc3
        have hc3 : k < b.length := by simpa using hc3
        refine Run.R ?_
        refine Run.RW ?_
        refine Run.RW ?_
        refine Run.le ?_ (ihk (k + 1) hc3 (by omega))
        refine Le.sub ?_ ?_
        · have e : ((i : Int) + (k : Int)).toNat = i + k := by omega
          simp [mulIn, e]
        · simp only [AW7, simprocAttr]; try simp
      · intro hc3
        have hc3 : k = b.length := by simp at hc3; omega
        subst hc3
        refine Run.exit rfl ?_; refine Run.nq ?_
        refine Run.RW ?_
        refine Run.le ?_ (ih (i + 1) hc2 (by omega))
        refine Le.sub (by rfl) ?_
        simp only [AW7, simprocAttr]; try simp
    · intro hc2
      have hc2 : i = a.length := by simp at hc2; omega
      subst hc2
      refine Run.exit rfl ?_; refine Run.nq ?_
      refine Run.nq ?_; refine Run.regionW hC (fun K hK => ?_); refine wW ?_
      refine FunA.cW hP hT (c_impl_TrimPoly (mulOut a b (a.length + b.length - 1) a.length) (by omega)) ?_
      rintro rs o ⟨rfl, rfl⟩
      refine wW ?_
      refine wE ?_; clear hK K
      refine Run.le (Le.re (obs' := [.arr .int (trim (mulOut a b (a.length + b.length - 1) a.length)) 1 true]) hpin [1] [(4, true, .own 0 1)] rfl (by simp [leOs, leO_arr, oAt]) (by refine ⟨⟨_, rfl, ?_⟩, trivial⟩; simp [leAV, oAt, genO])) ?_
      simp only [frV_cons, frV_nil]
      refine Run.rW [4] (hfin _ _ rfl rfl ?_)
      simp [mulP, hm]
end Go.Proofs.YtbbnfljaojfmaaaDoor
namespace Go.Proofs.YtbbnfljaojfmaaaDoor
open Go Go.Aw
def AddAt (p q : List Int) (i : Nat) : Int := if i < q.length then IntKind.i64.wrap (p.getD i 0 + q.getD i 0) else p.getD i 0
def SubAt (p q : List Int) (i : Nat) : Int := if i < q.length then IntKind.i64.wrap (p.getD i 0 - q.getD i 0) else p.getD i 0
def AddL (p q : List Int) (n : Nat) : List Int := (List.range n).map (AddAt p q)
def AddM (p q : List Int) (n k : Nat) : List Int := (List.range n).map fun i => if i < k then AddAt p q i else p.getD i 0
theorem AddL_length (p q : List Int) (n : Nat) : (AddL p q n).length = n := by simp [AddL]
theorem AddM_length (p q : List Int) (n k : Nat) : (AddM p q n k).length = n := by simp [AddM]
theorem AddL_succ (p q : List Int) (n : Nat) : AddL p q n ++ [AddAt p q n] = AddL p q (n + 1) := by simp [AddL, List.range_succ]
theorem AddM_zero (p q : List Int) (n : Nat) (h : p.length ≤ n) : p.take n ++ (List.replicate n (0 : Int)).drop p.length = AddM p q n 0 := by
  apply List.ext_getElem?
  intro i
  simp only [AddM, List.getElem?_append, List.getElem?_map, List.getElem?_take, List.length_take, List.getElem?_drop, List.getElem?_replicate]
  by_cases hi : i < p.length
  · have h1 : i < n := by omega
    have h2 : i < min n p.length := by omega
    rw [if_pos h2]
    simp [hi, h1]
  · by_cases h1 : i < n
    · have h2 : ¬ i < min n p.length := by omega
      have h3 : p.length + (i - min n p.length) < n := by omega
      rw [if_neg h2, if_pos h3, List.getElem?_range h1]
      simp [List.getElem?_eq_none (show p.length ≤ i by omega)]
    · have h2 : ¬ i < min n p.length := by omega
      have h3 : ¬ p.length + (i - min n p.length) < n := by omega
      rw [if_neg h2, if_neg h3, List.getElem?_eq_none (by simpa using h1)]
      rfl
theorem AddM_end (p q : List Int) (n : Nat) : AddM p q n q.length = AddL p q n := by
  simp only [AddM, AddL]
  apply List.map_congr_left
  intro i _
  by_cases h : i < q.length <;> simp [h, AddAt]
theorem AddM_get (p q : List Int) (n k : Nat) (h : k < n) : (AddM p q n k).getD k 0 = p.getD k 0 := by
  simp [AddM, List.getD_eq_getElem?_getD, h]
theorem AddM_set (p q : List Int) (n k : Nat) (h : k < n) : (AddM p q n k).set k (AddAt p q k) = AddM p q n (k + 1) := by
  apply List.ext_getElem?
  intro i
  rw [List.getElem?_set]
  simp only [AddM, List.length_map, List.length_range]
  by_cases hi : k = i
  · subst hi
    simp [h]
  · rw [if_neg hi]
    by_cases h1 : i < n
    · simp only [List.getElem?_map, List.getElem?_range h1, Option.map_some]
      have : (i < k) = (i < k + 1) := by simp only [eq_iff_iff]; omega
      simp [this]
    · rw [List.getElem?_eq_none (by simpa using h1), List.getElem?_eq_none (by simpa using h1)]
def SubL (p q : List Int) (n : Nat) : List Int := (List.range n).map (SubAt p q)
def SubM (p q : List Int) (n k : Nat) : List Int := (List.range n).map fun i => if i < k then SubAt p q i else p.getD i 0
theorem SubL_length (p q : List Int) (n : Nat) : (SubL p q n).length = n := by simp [SubL]
theorem SubM_length (p q : List Int) (n k : Nat) : (SubM p q n k).length = n := by simp [SubM]
theorem SubM_zero (p q : List Int) (n : Nat) (h : p.length ≤ n) : p.take n ++ (List.replicate n (0 : Int)).drop p.length = SubM p q n 0 := by
  apply List.ext_getElem?
  intro i
  simp only [SubM, List.getElem?_append, List.getElem?_map, List.getElem?_take, List.length_take, List.getElem?_drop, List.getElem?_replicate]
  by_cases hi : i < p.length
  · have h1 : i < n := by omega
    have h2 : i < min n p.length := by omega
    rw [if_pos h2]
    simp [hi, h1]
  · by_cases h1 : i < n
    · have h2 : ¬ i < min n p.length := by omega
      have h3 : p.length + (i - min n p.length) < n := by omega
      rw [if_neg h2, if_pos h3, List.getElem?_range h1]
      simp [List.getElem?_eq_none (show p.length ≤ i by omega)]
    · have h2 : ¬ i < min n p.length := by omega
      have h3 : ¬ p.length + (i - min n p.length) < n := by omega
      rw [if_neg h2, if_neg h3, List.getElem?_eq_none (by simpa using h1)]
      rfl
theorem SubM_end (p q : List Int) (n : Nat) : SubM p q n q.length = SubL p q n := by
  simp only [SubM, SubL]
  apply List.map_congr_left
  intro i _
  by_cases h : i < q.length <;> simp [h, SubAt]
theorem SubM_get (p q : List Int) (n k : Nat) (h : k < n) : (SubM p q n k).getD k 0 = p.getD k 0 := by
  simp [SubM, List.getD_eq_getElem?_getD, h]
theorem SubM_set (p q : List Int) (n k : Nat) (h : k < n) : (SubM p q n k).set k (SubAt p q k) = SubM p q n (k + 1) := by
  apply List.ext_getElem?
  intro i
  rw [List.getElem?_set]
  simp only [SubM, List.length_map, List.length_range]
  by_cases hi : k = i
  · subst hi
    simp [h]
  · rw [if_neg hi]
    by_cases h1 : i < n
    · simp only [List.getElem?_map, List.getElem?_range h1, Option.map_some]
      have : (i < k) = (i < k + 1) := by simp only [eq_iff_iff]; omega
      simp [this]
    · rw [List.getElem?_eq_none (by simpa using h1), List.getElem?_eq_none (by simpa using h1)]
theorem addAt_eq {p q : List Int} {k : Nat} (h : k < q.length) : IntKind.i64.wrap (p.getD k 0 + q.getD k 0) = AddAt p q k := by simp [AddAt, h]
def addP (p q : List Int) : List Int := trim (AddL p q (max p.length q.length))
def subP (p q : List Int) : List Int := trim (SubL p q (max p.length q.length))
theorem addP_le (p q : List Int) : (addP p q).length ≤ max p.length q.length := by
  have := trim_le (AddL p q (max p.length q.length)); rw [AddL_length] at this; exact this
theorem subP_le (p q : List Int) : (subP p q).length ≤ max p.length q.length := by
  have := trim_le (SubL p q (max p.length q.length)); rw [SubL_length] at this; exact this
theorem wrap_add_wrap (a b : Int) : IntKind.i64.wrap (a + IntKind.i64.wrap b) = IntKind.i64.wrap (a + b) := by
  unfold IntKind.wrap
  simp [IntKind.bits, IntKind.signed]
  omega
theorem sub_add (p q : List Int) : addP p (q.map fun x => IntKind.i64.wrap (0 - x)) = subP p q := by
  simp only [addP, subP, AddL, SubL, List.length_map]
  congr 1
  apply List.map_congr_left
  intro i _
  simp only [AddAt, SubAt, List.length_map]
  by_cases h : i < q.length
  · rw [if_pos h, if_pos h]
    have : (q.map fun x => IntKind.i64.wrap (0 - x)).getD i 0 = IntKind.i64.wrap (0 - q.getD i 0) := by simp [h]
    rw [this, wrap_add_wrap]
    congr 1
    omega
  · rw [if_neg h, if_neg h]
theorem max_ints (a b : Nat) : (if (b : Int) > (a : Int) then (b : Int) else (a : Int)) = ((max a b : Nat) : Int) := by
  split <;> omega
theorem c_impl_AddPoly0 (p q : List Int) (hp : p.length ≤ 1048576) (hq : q.length ≤ 1048576) : FunA B 12 [.sl false .int p, .sl false .int q] (fun rs o => rs = [.own 0 1] ∧ o = [.arr .int (trim (AddL p q (max p.length q.length))) 1 true]) := by
  have hM : (AddM p q (max p.length q.length) 0) = List.take (List.replicate (max p.length q.length) (0 : Int)).length p ++ (List.replicate (max p.length q.length) (0 : Int)).drop p.length := by
    rw [List.length_replicate, AddM_zero p q _ (by omega)]
  refine FunA.walk B_ok (fn := Tryd.f12) (fun vs w => Tryd.call12 vs w) Tryd.func12 rfl (by rw [Tryd.ntmps12]; simp) (fun C hC hP hT hΓ hbt hfn hpin hfin => ?_); have hX := BX; rw [← hΓ, ← hbt.1, ← hbt.2] at hX; rw [Tryd.ntmps12]; simp only [AW7, simprocAttr, hX]
  refine Run.R ?_
  refine Run.nq ?_; refine Run.regionW hC (fun K hK => ?_); refine wW ?_
  simp only [max_ints, Int.toNat_natCast]
  refine hK _ ?_; clear hK K; refine Run.nq ?_
  refine Run.R ?_
  refine Run.R ?_
  refine Run.keep [1, 4, 5, 17, 18, 19] ?_; simp only [AK, Nat.reduceBEq]
  refine Run.loopI (X := Nat) (fun k => ⟨34, [(1, true, .v (.sl false .int q)), (4, true, .v .nils), (5, true, .v (.own 0 0)), (17, true, .v (.sl false .int q)), (18, true, .v (.int .i64 q.length)), (19, true, .v (.int .i64 k))], [.arr .int (AddM p q (max p.length q.length) k) 0 true]⟩) (fun k => k ≤ q.length) (fun k => q.length - k) 0 (Nat.zero_le _) ?_ ?_
  · refine Le.sub (by rw [hM]) ?_
    simp only [AW7, simprocAttr, hX]; try simp
  rintro k hk ih
  have hml := AddM_length p q (max p.length q.length) k
  refine Run.R ?_
  refine Run.nq ?_; refine Run.cW ?_ ?_
  · intro hc
    have hc : k < q.length := by simpa using hc
    refine Run.R ?_
    refine Run.R ?_
    refine Run.RW ?_
    refine Run.le ?_ (ih (k + 1) hc (by omega))
    refine Le.sub ?_ ?_
    · have e : ((k : Int)).toNat = k := by omega
      rw [← AddM_set p q _ k (by omega)]
      simp only [AddM_get p q _ k (show k < max p.length q.length by omega), e, AddAt, if_pos hc]
    · simp only [AW7, simprocAttr]; try simp
  · intro hc
    have hc : k = q.length := by simp at hc; omega
    subst hc
    rw [AddM_end]
    have hll := AddL_length p q (max p.length q.length)
    refine Run.exit rfl ?_; refine Run.nq ?_
    refine Run.nq ?_; refine Run.regionW hC (fun K hK => ?_); refine wW ?_
    refine FunA.cW hP hT (c_impl_TrimPoly (AddL p q (max p.length q.length)) (by omega)) ?_
    rintro rs o ⟨rfl, rfl⟩
    refine wW ?_
    refine wE ?_; clear hK K
    refine Run.le (Le.re (obs' := [.arr .int (trim (AddL p q (max p.length q.length))) 1 true]) hpin [1] [(4, true, .own 0 1)] rfl (by simp [leOs, leO_arr, oAt]) (by refine ⟨⟨_, rfl, ?_⟩, trivial⟩; simp [leAV, oAt, genO])) ?_
    simp only [frV_cons, frV_nil]
    refine Run.rW [4] (hfin _ _ rfl rfl ?_)
    exact ⟨rfl, rfl⟩
theorem c_impl_SubPoly0 (p q : List Int) (hp : p.length ≤ 1048576) (hq : q.length ≤ 1048576) : FunA B 13 [.sl false .int p, .sl false .int q] (fun rs o => rs = [.own 0 1] ∧ o = [.arr .int (trim (SubL p q (max p.length q.length))) 1 true]) := by
  have hM : (SubM p q (max p.length q.length) 0) = List.take (List.replicate (max p.length q.length) (0 : Int)).length p ++ (List.replicate (max p.length q.length) (0 : Int)).drop p.length := by
    rw [List.length_replicate, SubM_zero p q _ (by omega)]
  refine FunA.walk B_ok (fn := Tryd.f13) (fun vs w => Tryd.call13 vs w) Tryd.func13 rfl (by rw [Tryd.ntmps13]; simp) (fun C hC hP hT hΓ hbt hfn hpin hfin => ?_); have hX := BX; rw [← hΓ, ← hbt.1, ← hbt.2] at hX; rw [Tryd.ntmps13]; simp only [AW7, simprocAttr, hX]
  refine Run.R ?_
  refine Run.nq ?_; refine Run.regionW hC (fun K hK => ?_); refine wW ?_
  simp only [max_ints, Int.toNat_natCast]
  refine hK _ ?_; clear hK K; refine Run.nq ?_
  refine Run.R ?_
  refine Run.R ?_
  refine Run.keep [1, 4, 5, 17, 18, 19] ?_; simp only [AK, Nat.reduceBEq]
  refine Run.loopI (X := Nat) (fun k => ⟨34, [(1, true, .v (.sl false .int q)), (4, true, .v .nils), (5, true, .v (.own 0 0)), (17, true, .v (.sl false .int q)), (18, true, .v (.int .i64 q.length)), (19, true, .v (.int .i64 k))], [.arr .int (SubM p q (max p.length q.length) k) 0 true]⟩) (fun k => k ≤ q.length) (fun k => q.length - k) 0 (Nat.zero_le _) ?_ ?_
  · refine Le.sub (by rw [hM]) ?_
    simp only [AW7, simprocAttr, hX]; try simp
  rintro k hk ih
  have hml := SubM_length p q (max p.length q.length) k
  refine Run.R ?_
  refine Run.nq ?_; refine Run.cW ?_ ?_
  · intro hc
    have hc : k < q.length := by simpa using hc
    refine Run.R ?_
    refine Run.R ?_
    refine Run.RW ?_
    refine Run.le ?_ (ih (k + 1) hc (by omega))
    refine Le.sub ?_ ?_
    · have e : ((k : Int)).toNat = k := by omega
      rw [← SubM_set p q _ k (by omega)]
      simp only [SubM_get p q _ k (show k < max p.length q.length by omega), e, SubAt, if_pos hc]
    · simp only [AW7, simprocAttr]; try simp
  · intro hc
    have hc : k = q.length := by simp at hc; omega
    subst hc
    rw [SubM_end]
    have hll := SubL_length p q (max p.length q.length)
    refine Run.exit rfl ?_; refine Run.nq ?_
    refine Run.nq ?_; refine Run.regionW hC (fun K hK => ?_); refine wW ?_
    refine FunA.cW hP hT (c_impl_TrimPoly (SubL p q (max p.length q.length)) (by omega)) ?_
    rintro rs o ⟨rfl, rfl⟩
    refine wW ?_
    refine wE ?_; clear hK K
    refine Run.le (Le.re (obs' := [.arr .int (trim (SubL p q (max p.length q.length))) 1 true]) hpin [1] [(4, true, .own 0 1)] rfl (by simp [leOs, leO_arr, oAt]) (by refine ⟨⟨_, rfl, ?_⟩, trivial⟩; simp [leAV, oAt, genO])) ?_
    simp only [frV_cons, frV_nil]
    refine Run.rW [4] (hfin _ _ rfl rfl ?_)
    exact ⟨rfl, rfl⟩
theorem c_impl_AddPoly (p q : List Int) (hp : p.length ≤ 1048576) (hq : q.length ≤ 1048576) : FunA B 12 [.sl false .int p, .sl false .int q] (fun rs o => rs = [.own 0 1] ∧ o = [.arr .int (addP p q) 1 true]) := c_impl_AddPoly0 p q hp hq
theorem c_impl_SubPoly (p q : List Int) (hp : p.length ≤ 1048576) (hq : q.length ≤ 1048576) : FunA B 13 [.sl false .int p, .sl false .int q] (fun rs o => rs = [.own 0 1] ∧ o = [.arr .int (subP p q) 1 true]) := c_impl_SubPoly0 p q hp hq
theorem c_spec_AddPoly (p q : List Int) (hp : p.length ≤ 1048576) (hq : q.length ≤ 1048576) : FunA B 16 [.sl false .int p, .sl false .int q] (fun rs o => rs = [.own 0 1] ∧ o = [.arr .int (addP p q) 1 true]) := by
  refine FunA.walk B_ok (fn := Tryd.f16) (fun vs w => Tryd.call16 vs w) Tryd.func16 rfl (by rw [Tryd.ntmps16]; simp) (fun C hC hP hT hΓ hbt hfn hpin hfin => ?_); have hX := BX; rw [← hΓ, ← hbt.1, ← hbt.2] at hX; rw [Tryd.ntmps16]; simp only [AW7, simprocAttr, hX]
  refine Run.R ?_
  refine Run.R ?_
  refine Run.R ?_
  refine Run.loopI (X := Nat) (fun i => ⟨45, [(0, true, .v (.sl false .int p)), (1, true, .v (.sl false .int q)), (4, true, .v .nils), (5, true, .v (.own 0 i)), (6, true, .v (.int .i64 i))], [.arr .int (AddL p q i) i true]⟩) (fun i => i ≤ max p.length q.length) (fun i => max p.length q.length - i) 0 (Nat.zero_le _) ?_ ?_
  · refine Le.sub (by rfl) ?_
    simp only [AW7, simprocAttr, hX]; try simp
  rintro i hi ih
  have hll := AddL_length p q i
  refine Run.R ?_
  refine Run.keep [0, 1, 4, 5, 6, 18] ?_; simp only [AK, Nat.reduceBEq]
  refine Run.nq ?_; refine Run.cW ?_ ?_
  · intro hc
    have hc : i < max p.length q.length := by
      by_cases h1 : i < p.length
      · omega
      · by_cases h2 : i < q.length
        · omega
        · have h1' : decide ((i : Int) < p.length) = false := by simpa using h1
          rw [h1'] at hc
          simp at hc
          omega
    refine Run.R ?_
    refine Run.R ?_
    refine Run.keep [0, 1, 4, 5, 6, 7, 24] ?_; simp only [AK, Nat.reduceBEq]
    refine Run.nq ?_; refine Run.cW ?_ ?_
    · intro h1
      refine Run.R ?_
      refine Run.R ?_
      refine Run.keep [0, 1, 4, 5, 6, 7, 32] ?_; simp only [AK, Nat.reduceBEq]
      refine Run.nq ?_; refine Run.cW ?_ ?_
      · intro h2
        have h2 : i < q.length := by simpa using h2
        refine Run.R ?_
        have e1 : IntKind.i64.wrap (p.getD i 0 + q.getD i 0) = AddAt p q i := addAt_eq h2
        simp only [Int.toNat_natCast, e1]
        refine Run.RW ?_
        refine Run.RW ?_
        refine Run.le ?_ (ih (i + 1) hc (by omega))
        refine Le.cut0 hpin [_] (by rw [← AddL_succ]; rfl) ?_ rfl
        simp only [AW7, simprocAttr]; try simp
      · intro h2
        have h2 : q.length ≤ i := by simpa using h2
        have e1 : p.getD i 0 = AddAt p q i := by simp [AddAt, Nat.not_lt.2 h2]
        simp only [Int.toNat_natCast, e1]
        refine Run.RW ?_
        refine Run.RW ?_
        refine Run.le ?_ (ih (i + 1) hc (by omega))
        refine Le.cut0 hpin [_] (by rw [← AddL_succ]; rfl) ?_ rfl
        simp only [AW7, simprocAttr]; try simp
    · intro h1
      have e0 : p.getD i 0 = 0 := by
        have h1 : p.length ≤ i := by simpa using h1
        simp [h1]
      refine Run.le (Le.sub (fr' := [(0, true, .v (.sl false .int p)), (1, true, .v (.sl false .int q)), (4, true, .v .nils), (5, true, .v (.own 0 i)), (6, true, .v (.int .i64 i)), (7, true, .v (.int .i64 (p.getD i 0)))]) rfl (by simp only [AW7, simprocAttr]; try simp [-List.getD_eq_getElem?_getD, e0])) ?_
      refine Run.R ?_
      refine Run.keep [0, 1, 4, 5, 6, 7, 32] ?_; simp only [AK, Nat.reduceBEq]
      refine Run.nq ?_; refine Run.cW ?_ ?_
      · intro h2
        have h2 : i < q.length := by simpa using h2
        refine Run.R ?_
        have e1 : IntKind.i64.wrap (p.getD i 0 + q.getD i 0) = AddAt p q i := addAt_eq h2
        simp only [Int.toNat_natCast, e1]
        refine Run.RW ?_
        refine Run.RW ?_
        refine Run.le ?_ (ih (i + 1) hc (by omega))
        refine Le.cut0 hpin [_] (by rw [← AddL_succ]; rfl) ?_ rfl
        simp only [AW7, simprocAttr]; try simp
      · intro h2
        have h2 : q.length ≤ i := by simpa using h2
        have e1 : p.getD i 0 = AddAt p q i := by simp [AddAt, Nat.not_lt.2 h2]
        simp only [Int.toNat_natCast, e1]
        refine Run.RW ?_
        refine Run.RW ?_
        refine Run.le ?_ (ih (i + 1) hc (by omega))
        refine Le.cut0 hpin [_] (by rw [← AddL_succ]; rfl) ?_ rfl
        simp only [AW7, simprocAttr]; try simp
  · intro hc
    have hc : i = max p.length q.length := by
      have h1 : decide ((i : Int) < p.length) = false := by
        cases h : decide ((i : Int) < p.length) with
        | true => rw [h] at hc; simp at hc
        | false => rfl
      rw [h1] at hc
      simp at hc h1
      omega
    subst hc
    refine Run.exit rfl ?_; refine Run.nq ?_
    refine Run.nq ?_; refine Run.regionW hC (fun K hK => ?_); refine wW ?_
    refine FunA.cW hP hT (c_spec_TrimPoly (AddL p q (max p.length q.length)) (by omega)) ?_
    rintro rs o ⟨rfl, rfl⟩
    refine wW ?_
    refine wE ?_; clear hK K
    refine Run.le (Le.re (obs' := [.arr .int (addP p q) 1 true]) hpin [1] [(4, true, .own 0 1)] rfl (by simp [leOs, leO_arr, oAt, addP]) (by refine ⟨⟨_, rfl, ?_⟩, trivial⟩; simp [leAV, oAt, genO])) ?_
    simp only [frV_cons, frV_nil]
    refine Run.rW [4] (hfin _ _ rfl rfl ?_)
    exact ⟨rfl, rfl⟩
theorem c_spec_SubPoly (p q : List Int) (hp : p.length ≤ 1048576) (hq : q.length ≤ 1048576) : FunA B 17 [.sl false .int p, .sl false .int q] (fun rs o => rs = [.own 0 1] ∧ o = [.arr .int (subP p q) 1 true]) := by
  refine FunA.walk B_ok (fn := Tryd.f17) (fun vs w => Tryd.call17 vs w) Tryd.func17 rfl (by rw [Tryd.ntmps17]; simp) (fun C hC hP hT hΓ hbt hfn hpin hfin => ?_); have hX := BX; rw [← hΓ, ← hbt.1, ← hbt.2] at hX; rw [Tryd.ntmps17]; simp only [AW7, simprocAttr, hX]
  refine Run.R ?_
  refine Run.R ?_
  refine Run.R ?_
  refine Run.loopI (X := Nat) (fun i => ⟨25, [(0, true, .v (.sl false .int p)), (1, true, .v (.sl false .int q)), (4, true, .v .nils), (5, true, .v (.own 0 i)), (6, true, .v (.int .i64 i))], [.arr .int ((q.take i).map fun x => IntKind.i64.wrap (0 - x)) i true]⟩) (fun i => i ≤ q.length) (fun i => q.length - i) 0 (Nat.zero_le _) ?_ ?_
  · refine Le.sub (by rfl) ?_
    simp only [AW7, simprocAttr, hX]; try simp
  rintro i hi ih
  have hll : ((q.take i).map fun x => IntKind.i64.wrap (0 - x)).length = i := by simp; omega
  refine Run.R ?_
  refine Run.nq ?_; refine Run.cW ?_ ?_
  · intro hc
    have hc : i < q.length := by simpa using hc
    refine Run.RW ?_
    refine Run.RW ?_
    refine Run.le ?_ (ih (i + 1) hc (by omega))
    refine Le.cut0 hpin [_] (by rw [← take_snoc 0 q i hc, List.map_append]; rfl) ?_ rfl
    simp only [AW7, simprocAttr]; try simp
  · intro hc
    have hc : i = q.length := by simp at hc; omega
    subst hc
    simp only [List.take_length]
    refine Run.exit rfl ?_; refine Run.nq ?_
    refine Run.nq ?_; refine Run.regionW hC (fun K hK => ?_); refine wW ?_
    refine FunA.cW hP hT (c_spec_AddPoly p (q.map fun x => IntKind.i64.wrap (0 - x)) hp (by simpa using hq)) ?_
    rintro rs o ⟨rfl, rfl⟩
    refine wW ?_
    refine wE ?_; clear hK K
    refine Run.le (Le.re (obs' := [.arr .int (subP p q) 1 true]) hpin [1] [(4, true, .own 0 1)] rfl (by rw [← sub_add]; simp [leOs, leO_arr, oAt]) (by refine ⟨⟨_, rfl, ?_⟩, trivial⟩; simp [leAV, oAt, genO])) ?_
    simp only [frV_cons, frV_nil]
    refine Run.rW [4] (hfin _ _ rfl rfl ?_)
    exact ⟨rfl, rfl⟩
end Go.Proofs.YtbbnfljaojfmaaaDoor
namespace Go.Proofs.YtbbnfljaojfmaaaDoor
open Go Go.Aw
theorem trimN_zero (p : List Int) : ∀ n i, trimN p n ≤ i → i < n → p.getD i 0 = 0
  | n + 1, i, h1, h2 => by
    simp only [trimN] at h1
    split at h1
    · by_cases hi : i = n
      · subst hi; assumption
      · exact trimN_zero p n i h1 (by omega)
    · omega
theorem trimN_last (p : List Int) : ∀ n, trimN p n = 0 ∨ p.getD (trimN p n - 1) 0 ≠ 0
  | 0 => .inl rfl
  | n + 1 => by
    simp only [trimN]
    split
    · exact trimN_last p n
    · right; simpa using (by assumption)
theorem getD_out {p : List Int} {i : Nat} (h : p.length ≤ i) : p.getD i 0 = 0 := by
  rw [List.getD_eq_getElem?_getD, List.getElem?_eq_none h]; rfl
theorem trim_get (p : List Int) (i : Nat) : (trim p).getD i 0 = p.getD i 0 := by
  by_cases h : i < trimN p p.length
  · unfold trim
    rw [List.getD_eq_getElem?_getD, List.getElem?_take_of_lt h, ← List.getD_eq_getElem?_getD]
  · rw [getD_out (by rw [trim_length]; omega)]
    by_cases hi : i < p.length
    · exact (trimN_zero p p.length i (by omega) hi).symm
    · exact (getD_out (by omega)).symm
theorem trim_len_le {p q : List Int} (h : ∀ i, p.getD i 0 = q.getD i 0) : (trim p).length ≤ (trim q).length := by
  rw [trim_length, trim_length]
  rcases trimN_last p p.length with h1 | h1
  · omega
  · refine Nat.le_of_not_lt fun hlt => h1 ?_
    rw [h]
    by_cases hq : trimN p p.length - 1 < q.length
    · exact trimN_zero q q.length _ (by omega) hq
    · exact getD_out (by omega)
theorem trim_ext {p q : List Int} (h : ∀ i, p.getD i 0 = q.getD i 0) : trim p = trim q := by
  have hl : (trim p).length = (trim q).length := Nat.le_antisymm (trim_len_le h) (trim_len_le fun i => (h i).symm)
  refine List.ext_getElem hl fun i h1 h2 => ?_
  have h3 := (trim_get p i).trans ((h i).trans (trim_get q i).symm)
  simpa [List.getD_eq_getElem?_getD, h1, h2] using h3
theorem trim_trim (p : List Int) : trim (trim p) = trim p := trim_ext (trim_get p)
theorem set_get (l : List Int) (i j : Nat) (x : Int) (hi : i < l.length) : (l.set i x).getD j 0 = if j = i then x else l.getD j 0 := by
  by_cases h : j = i
  · subst h
    rw [if_pos rfl, List.getD_eq_getElem?_getD, List.getElem?_set_self hi]; rfl
  · rw [if_neg h, List.getD_eq_getElem?_getD, List.getElem?_set_ne (fun e => h e.symm), ← List.getD_eq_getElem?_getD]
theorem revN_get (t : List Int) (n : Nat) : ∀ i, i ≤ n + 1 → ∀ j, j ≤ n → (revN t n i).getD j 0 = if n - j < i then t.getD (n - j) 0 else 0
  | 0, _, j, hj => by simp [revN, List.getD_eq_getElem?_getD, List.getElem?_replicate, (by omega : j < n + 1)]
  | i + 1, hi, j, hj => by
    simp only [revN]
    rw [set_get _ _ _ _ (by rw [revN_length]; omega), revN_get t n i (by omega) j hj]
    by_cases h1 : j = n - i
    · rw [if_pos h1, if_pos (by omega), show n - j = i by omega]
    · rw [if_neg h1]
      by_cases h2 : n - j < i
      · rw [if_pos h2, if_pos (by omega)]
      · rw [if_neg h2, if_neg (by omega)]
theorem revP_get {p : List Int} {n : Int} (h : revB p n = true) (j : Nat) (hj : j ≤ n.toNat) : (revP p n).getD j 0 = p.getD (n.toNat - j) 0 := by
  simp only [revB, decide_eq_true_eq] at h
  unfold revP
  rw [if_neg h, trim_get, revN_get _ _ _ (by omega) j hj]
  split
  · exact trim_get _ _
  · rw [← trim_get, getD_out (by omega)]
theorem revP_out {p : List Int} {n : Int} (h : revB p n = true) : (revP p n).length ≤ n.toNat + 1 := by
  simp only [revB, decide_eq_true_eq] at h
  unfold revP
  rw [if_neg h]
  refine Nat.le_trans (trim_le _) ?_
  rw [revN_length]; exact Nat.le_refl _
theorem rev_back {p : List Int} {n : Int} (h : revB p n = true) : revB (revP p n) n = true ∧ revP (revP p n) n = trim p := by
  have h1 := revP_out h
  have h0 := h
  simp only [revB, decide_eq_true_eq] at h0
  have h2 : revB (revP p n) n = true := by
    have := trim_le (revP p n)
    simp only [revB, decide_eq_true_eq]
    omega
  refine ⟨h2, ?_⟩
  have e : revP (revP p n) n = trim (revP (revP p n) n) := by
    have h3 := h2
    simp only [revB, decide_eq_true_eq] at h3
    unfold revP
    rw [if_neg (by unfold revP at h3; exact h3), trim_trim]
  rw [e]
  refine trim_ext fun j => ?_
  by_cases hj : j ≤ n.toNat
  · rw [revP_get h2 j hj, revP_get h (n.toNat - j) (by omega), show n.toNat - (n.toNat - j) = j by omega]
  · rw [getD_out (by have := revP_out h2; omega), ← trim_get p, getD_out (by omega)]
def ev (p : List Int) (x : Int) : Nat → Int
  | 0 => 0
  | n + 1 => ev p x n + p.getD n 0 * x ^ n
theorem ev_ext {p q : List Int} {x : Int} (h : ∀ i, p.getD i 0 = q.getD i 0) : ∀ n, ev p x n = ev q x n
  | 0 => rfl
  | n + 1 => by simp only [ev, ev_ext h n, h]
theorem ev_more (p : List Int) (x : Int) {n : Nat} (h : p.length ≤ n) : ev p x n = ev p x p.length := by
  induction n with
  | zero => rw [show p.length = 0 by omega]
  | succ n ih =>
    by_cases hn : p.length = n + 1
    · rw [hn]
    · rw [ev, ih (by omega), getD_out (by omega)]; simp
def Eq64 (a b : Int) : Prop := a % 18446744073709551616 = b % 18446744073709551616
theorem eq64_wrap (a : Int) : Eq64 (IntKind.i64.wrap a) a := by
  unfold Eq64
  rw [IntKind.wrap_i64]; omega
theorem wrap_of {a b : Int} (h : Eq64 a b) : IntKind.i64.wrap a = IntKind.i64.wrap b := by
  unfold Eq64 at h
  rw [IntKind.wrap_i64, IntKind.wrap_i64]; omega
theorem Eq64.refl (a : Int) : Eq64 a a := rfl
theorem Eq64.symm {a b : Int} (h : Eq64 a b) : Eq64 b a := Eq.symm h
theorem Eq64.trans {a b c : Int} (h : Eq64 a b) (k : Eq64 b c) : Eq64 a c := Eq.trans h k
theorem Eq64.add {a b c d : Int} (h : Eq64 a b) (k : Eq64 c d) : Eq64 (a + c) (b + d) := by
  unfold Eq64 at *; omega
theorem Eq64.sub {a b c d : Int} (h : Eq64 a b) (k : Eq64 c d) : Eq64 (a - c) (b - d) := by
  unfold Eq64 at *; omega
theorem Eq64.mul {a b c d : Int} (h : Eq64 a b) (k : Eq64 c d) : Eq64 (a * c) (b * d) := by
  unfold Eq64 at *
  rw [Int.mul_emod, h, k, ← Int.mul_emod]
theorem ev_64 {p q : List Int} {x : Int} (h : ∀ i, Eq64 (p.getD i 0) (q.getD i 0)) : ∀ n, Eq64 (ev p x n) (ev q x n)
  | 0 => rfl
  | n + 1 => (ev_64 h n).add ((h n).mul (Eq64.refl _))
def ho (p : List Int) (x : Int) : Nat → Int
  | 0 => 0
  | k + 1 => ho p x k * x + p.getD (p.length - 1 - k) 0
theorem ev_ho (p : List Int) (x : Int) : ∀ k, k ≤ p.length → ev p x (p.length - k) + ho p x k * x ^ (p.length - k) = ev p x p.length
  | 0, _ => by simp [ho]
  | k + 1, h => by
    rw [← ev_ho p x k (by omega)]
    obtain ⟨m, hm⟩ : ∃ m, p.length - k = m + 1 := ⟨p.length - k - 1, by omega⟩
    rw [hm, show p.length - (k + 1) = m by omega]
    simp only [ho, ev, show p.length - 1 - k = m by omega, Int.pow_succ]
    grind
theorem evalN_ho (p : List Int) (x : Int) : ∀ k, Eq64 (evalN p x k) (ho p x k)
  | 0 => rfl
  | k + 1 => by
    simp only [evalN, ho]
    exact (eq64_wrap _).trans (((eq64_wrap _).trans ((evalN_ho p x k).mul (Eq64.refl _))).add (Eq64.refl _))
theorem evalN_ev (p : List Int) (x : Int) : Eq64 (evalN p x p.length) (ev p x p.length) := by
  refine (evalN_ho p x _).trans ?_
  have := ev_ho p x p.length (Nat.le_refl _)
  simp [ev] at this
  rw [this]
  exact Eq64.refl _
theorem evalN_wrap (p : List Int) (x : Int) : ∀ k, IntKind.i64.wrap (evalN p x k) = evalN p x k
  | 0 => by simp only [evalN]; decide
  | k + 1 => by simp only [evalN]; exact wrap_of (eq64_wrap _)
theorem evalN_eq {p : List Int} {x v : Int} (h : Eq64 (ev p x p.length) v) : evalN p x p.length = IntKind.i64.wrap v := by
  rw [← evalN_wrap]
  exact wrap_of ((evalN_ev p x).trans h)
theorem ev_trim (p : List Int) (x : Int) : ev (trim p) x (trim p).length = ev p x p.length := by
  rw [← ev_more (trim p) x (trim_le p)]
  exact ev_ext (trim_get p) _
theorem map_get (f : Nat → Int) (n i : Nat) : ((List.range n).map f).getD i 0 = if i < n then f i else 0 := by
  by_cases h : i < n
  · rw [if_pos h]; simp [List.getD_eq_getElem?_getD, h]
  · rw [if_neg h]; exact getD_out (by simp; omega)
theorem ev_add (p q : List Int) (x : Int) : ∀ n, ev ((List.range n).map fun i => p.getD i 0 + q.getD i 0) x n = ev p x n + ev q x n := by
  intro n
  have : ∀ m, m ≤ n → ev ((List.range n).map fun i => p.getD i 0 + q.getD i 0) x m = ev p x m + ev q x m := by
    intro m
    induction m with
    | zero => intro _; simp [ev]
    | succ m ih => intro h; simp only [ev]; rw [ih (by omega), map_get, if_pos (by omega)]; grind
  exact this n (Nat.le_refl _)
theorem ev_sub (p q : List Int) (x : Int) : ∀ n, ev ((List.range n).map fun i => p.getD i 0 - q.getD i 0) x n = ev p x n - ev q x n := by
  intro n
  have : ∀ m, m ≤ n → ev ((List.range n).map fun i => p.getD i 0 - q.getD i 0) x m = ev p x m - ev q x m := by
    intro m
    induction m with
    | zero => intro _; simp [ev]
    | succ m ih => intro h; simp only [ev]; rw [ih (by omega), map_get, if_pos (by omega)]; grind
  exact this n (Nat.le_refl _)
theorem eval_add (p q : List Int) (x : Int) : evalN (addP p q) x (addP p q).length = IntKind.i64.wrap (evalN p x p.length + evalN q x q.length) := by
  refine evalN_eq ?_
  unfold addP
  rw [ev_trim, AddL_length]
  have h1 : Eq64 (ev (AddL p q (max p.length q.length)) x (max p.length q.length)) (ev ((List.range (max p.length q.length)).map fun i => p.getD i 0 + q.getD i 0) x (max p.length q.length)) := by
    refine ev_64 (fun i => ?_) _
    unfold AddL
    rw [map_get, map_get]
    split
    · unfold AddAt
      split
      · exact eq64_wrap _
      · rw [getD_out (p := q) (by omega)]; simp; exact Eq64.refl _
    · exact Eq64.refl _
  refine h1.trans ?_
  rw [ev_add, ev_more p x (by omega), ev_more q x (by omega)]
  exact (evalN_ev p x).symm.add (evalN_ev q x).symm
theorem eval_sub (p q : List Int) (x : Int) : evalN (subP p q) x (subP p q).length = IntKind.i64.wrap (evalN p x p.length - evalN q x q.length) := by
  refine evalN_eq ?_
  unfold subP
  rw [ev_trim, SubL_length]
  have h1 : Eq64 (ev (SubL p q (max p.length q.length)) x (max p.length q.length)) (ev ((List.range (max p.length q.length)).map fun i => p.getD i 0 - q.getD i 0) x (max p.length q.length)) := by
    refine ev_64 (fun i => ?_) _
    unfold SubL
    rw [map_get, map_get]
    split
    · unfold SubAt
      split
      · exact eq64_wrap _
      · rw [getD_out (p := q) (by omega)]; simp; exact Eq64.refl _
    · exact Eq64.refl _
  refine h1.trans ?_
  rw [ev_sub, ev_more p x (by omega), ev_more q x (by omega)]
  exact (evalN_ev p x).symm.sub (evalN_ev q x).symm
theorem ev_set (o : List Int) (x d : Int) {j : Nat} : ∀ n, j < o.length → ev (o.set j (IntKind.i64.wrap (o.getD j 0 + IntKind.i64.wrap d))) x n = ev o x n + (if j < n then (IntKind.i64.wrap (o.getD j 0 + IntKind.i64.wrap d) - o.getD j 0) * x ^ j else 0)
  | 0, _ => by simp [ev]
  | n + 1, h => by
    simp only [ev]
    rw [ev_set o x d n h, set_get _ _ _ _ h]
    by_cases h1 : n = j
    · subst h1
      rw [if_neg (by omega), if_pos rfl, if_pos (by omega)]
      grind
    · rw [if_neg h1]
      by_cases h2 : j < n
      · rw [if_pos h2, if_pos (by omega)]; grind
      · rw [if_neg h2, if_neg (by omega)]; grind
theorem ev_mulIn (b : List Int) (y x : Int) (i : Nat) (o : List Int) (ho : i + b.length ≤ o.length) : ∀ k, k ≤ b.length → Eq64 (ev (mulIn b y i o k) x o.length) (ev o x o.length + y * x ^ i * ev b x k)
  | 0, _ => by simp [mulIn, ev]; exact Eq64.refl _
  | k + 1, h => by
    have ih := ev_mulIn b y x i o ho k (by omega)
    simp only [mulIn, ev]
    rw [ev_set _ _ _ _ (by rw [mulIn_length]; omega), if_pos (by omega)]
    have e1 : Eq64 ((IntKind.i64.wrap ((mulIn b y i o k).getD (i + k) 0 + IntKind.i64.wrap (y * b.getD k 0)) - (mulIn b y i o k).getD (i + k) 0) * x ^ (i + k)) (y * b.getD k 0 * x ^ (i + k)) := by
      refine Eq64.mul ?_ (Eq64.refl _)
      have h1 := eq64_wrap ((mulIn b y i o k).getD (i + k) 0 + IntKind.i64.wrap (y * b.getD k 0))
      have h2 := eq64_wrap (y * b.getD k 0)
      unfold Eq64 at *
      omega
    refine (ih.add e1).trans ?_
    rw [show ev o x o.length + y * x ^ i * ev b x k + y * b.getD k 0 * x ^ (i + k) = ev o x o.length + y * x ^ i * (ev b x k + b.getD k 0 * x ^ k) by rw [Int.pow_add]; grind]
    exact Eq64.refl _
theorem ev_nil (n : Nat) (x : Int) : ∀ m, ev (List.replicate n 0) x m = 0
  | 0 => rfl
  | m + 1 => by
    simp only [ev, ev_nil n x m]
    have : (List.replicate n (0 : Int)).getD m 0 = 0 := by
      by_cases h : m < n
      · simp [List.getD_eq_getElem?_getD, List.getElem?_replicate, h]
      · exact getD_out (by simp; omega)
    rw [this]; simp
theorem ev_mulOut (a b : List Int) (x : Int) (n : Nat) (hn : a.length + b.length ≤ n + 1) : ∀ i, i ≤ a.length → Eq64 (ev (mulOut a b n i) x n) (ev a x i * ev b x b.length)
  | 0, _ => by simp [mulOut, ev, ev_nil]; exact Eq64.refl _
  | i + 1, h => by
    have ih := ev_mulOut a b x n hn i (by omega)
    have h1 := ev_mulIn b (a.getD i 0) x i (mulOut a b n i) (by rw [mulOut_length]; omega) b.length (Nat.le_refl _)
    rw [mulOut_length] at h1
    simp only [mulOut, ev]
    refine h1.trans ((ih.add (Eq64.refl _)).trans ?_)
    rw [show ev a x i * ev b x b.length + a.getD i 0 * x ^ i * ev b x b.length = (ev a x i + a.getD i 0 * x ^ i) * ev b x b.length by grind]
    exact Eq64.refl _
theorem eval_mul (p q : List Int) (x : Int) (hp : p.length + q.length ≤ 62) : evalN (mulP p q) x (mulP p q).length = IntKind.i64.wrap (evalN p x p.length * evalN q x q.length) := by
  refine evalN_eq ?_
  refine Eq64.trans ?_ ((evalN_ev p x).symm.mul (evalN_ev q x).symm)
  unfold mulP
  split
  · rename_i h
    have : p.length = 0 ∨ q.length = 0 := by
      rcases h with h | h | h
      · exact .inl h
      · exact .inr h
      · omega
    rcases this with h | h <;> rw [h] <;> simp [ev] <;> exact Eq64.refl _
  · rw [ev_trim, mulOut_length]
    exact ev_mulOut p q x _ (by omega) _ (Nat.le_refl _)
end Go.Proofs.YtbbnfljaojfmaaaDoor
namespace Go.Proofs.YtbbnfljaojfmaaaDoor
open Go
theorem and255 (n : Int) : 0 ≤ bits .and .i64 n 255 ∧ bits .and .i64 n 255 < 256 := by
  have h255 : (BitVec.ofInt 64 255).toNat = 2 ^ 8 - 1 := by decide
  have key : (BitVec.ofInt 64 n &&& BitVec.ofInt 64 255).toNat = (n % ((2 ^ 64 : Nat) : Int)).toNat % 2 ^ 8 := by
    rw [BitVec.toNat_and, BitVec.toNat_ofInt, h255, Nat.and_two_pow_sub_one_eq_mod]
  have e : bits .and .i64 n 255 = IntKind.i64.wrap ((BitVec.ofInt 64 n &&& BitVec.ofInt 64 255).toNat : Nat) := rfl
  rw [e, key, IntKind.wrap_i64]
  omega
theorem drew2 (w : World) (a b : Nat) : (w.drewN a).drewN b = w.drewN (a + b) := by simp [World.drewN, Nat.add_assoc]
set_option maxRecDepth 100000 in
theorem w_byte1 (b : Nat) (a : Addr) (len cap : Nat) (i h n : Int) (w : World) (g0 : w.cell? ⟨b, 0, none⟩ = some (.slice (some a) len cap)) (g1 : w.cell? ⟨b, 1, none⟩ = some (.int .i64 i)) (g2 : w.cell? ⟨b, 2, none⟩ = some (.int .i64 h))
    (z1 : w.frozen? ⟨b, 1, none⟩ = false) (z2 : w.frozen? ⟨b, 2, none⟩ = false) (h0 : 0 ≤ i) (h1 : i < (len : Int)) (hl : len ≤ 9223372036854775807) (hr : w.cell? (a.add i.toNat) = some (.int .u8 n)) (hne : a.block ≠ b) :
    Calls Tryd.prog 49 #[.pointer (some ⟨b, 0, none⟩)] w fun e w' => ∃ x h' : Int, e = .returned (.int .i64 x) ∧ 0 ≤ x ∧ x < 256 ∧ -9223372036854775808 ≤ h' ∧ h' ≤ 9223372036854775807 ∧ ∃ k, w' = ((w.setCell ⟨b, 2, none⟩ (.int .i64 h')).drewN k).setCell ⟨b, 1, none⟩ (.int .i64 (i + 1)) := by
  go_enter Tryd.func49, Tryd.ntmps49
  go_wp2
  have hwr := RowKit.wrap64_wf (RowKit.wrap64 (h * 6364136223846793005) + 1442695040888963407)
  generalize RowKit.wrap64 (RowKit.wrap64 (h * 6364136223846793005) + 1442695040888963407) = h' at *
  have e0 : (w.setCell ⟨b, 2, none⟩ (.int .i64 h')).cell? ⟨b, 0, none⟩ = some (.slice (some a) len cap) := by rw [World.cell?_setCell_other _ _ _ _ (by simp)]; exact g0
  have e1 : (w.setCell ⟨b, 2, none⟩ (.int .i64 h')).cell? ⟨b, 1, none⟩ = some (.int .i64 i) := by rw [World.cell?_setCell_other _ _ _ _ (by simp)]; exact g1
  have e2 : (w.setCell ⟨b, 2, none⟩ (.int .i64 h')).cell? ⟨b, 2, none⟩ = some (.int .i64 h') := World.cell?_setCell_same w ⟨b, 2, none⟩ _ g2
  have e3 : (w.setCell ⟨b, 2, none⟩ (.int .i64 h')).cell? (a.add i.toNat) = some (.int .u8 n) := by
    rw [World.cell?_setCell_other _ _ _ _ (fun e => hne ((Go.Aw.add_block a i.toNat).symm.trans (congrArg Addr.block e).symm))]; exact hr
  have e4 : (w.setCell ⟨b, 2, none⟩ (.int .i64 h')).frozen? ⟨b, 1, none⟩ = false := by simpa using z1
  generalize hw2 : w.setCell ⟨b, 2, none⟩ (.int .i64 h') = w2 at *
  go_quiet (fail)
  go_wp2
  generalize bits BinOp.and IntKind.i64 (bits BinOp.xor IntKind.i64 (h' / 8589934592) (h' / 35184372088832)) 255 = y
  go_quiet (fail)
  go_wp2
  go_quiet (fail)
  go_wp2
  go_ret
  obtain ⟨k1, k2⟩ := and255 (RowKit.wrap64 (y + RowKit.wrap64 n))
  have hwr : -9223372036854775808 ≤ h' ∧ h' ≤ 9223372036854775807 := by
    have e : IntKind.i64.min = -9223372036854775808 := by decide
    simpa [Lit.wf, e] using hwr
  exact ⟨_, h', rfl, k1, k2, hwr.1, hwr.2, _, (by rw [hw2] : World.setCell (w2.drewN _) _ _ = _)⟩
set_option maxRecDepth 100000 in
theorem w_byte2 (b : Nat) (base : Option Addr) (len cap : Nat) (i h : Int) (w : World) (g0 : w.cell? ⟨b, 0, none⟩ = some (.slice base len cap)) (g1 : w.cell? ⟨b, 1, none⟩ = some (.int .i64 i)) (g2 : w.cell? ⟨b, 2, none⟩ = some (.int .i64 h))
    (z1 : w.frozen? ⟨b, 1, none⟩ = false) (z2 : w.frozen? ⟨b, 2, none⟩ = false) (h1 : ¬ i < (len : Int)) :
    Calls Tryd.prog 49 #[.pointer (some ⟨b, 0, none⟩)] w fun e w' => ∃ x h' : Int, e = .returned (.int .i64 x) ∧ 0 ≤ x ∧ x < 256 ∧ -9223372036854775808 ≤ h' ∧ h' ≤ 9223372036854775807 ∧ ∃ k, w' = (w.setCell ⟨b, 2, none⟩ (.int .i64 h')).drewN k := by
  go_enter Tryd.func49, Tryd.ntmps49
  go_wp2
  have hwr := RowKit.wrap64_wf (RowKit.wrap64 (h * 6364136223846793005) + 1442695040888963407)
  generalize RowKit.wrap64 (RowKit.wrap64 (h * 6364136223846793005) + 1442695040888963407) = h' at *
  have e0 : (w.setCell ⟨b, 2, none⟩ (.int .i64 h')).cell? ⟨b, 0, none⟩ = some (.slice base len cap) := by rw [World.cell?_setCell_other _ _ _ _ (by simp)]; exact g0
  have e1 : (w.setCell ⟨b, 2, none⟩ (.int .i64 h')).cell? ⟨b, 1, none⟩ = some (.int .i64 i) := by rw [World.cell?_setCell_other _ _ _ _ (by simp)]; exact g1
  have e2 : (w.setCell ⟨b, 2, none⟩ (.int .i64 h')).cell? ⟨b, 2, none⟩ = some (.int .i64 h') := World.cell?_setCell_same w ⟨b, 2, none⟩ _ g2
  generalize hw2 : w.setCell ⟨b, 2, none⟩ (.int .i64 h') = w2 at *
  have hd : decide (i < (len : Int)) = false := by simp; omega
  go_quiet (fail)
  go_wp2
  obtain ⟨k1, k2⟩ := and255 (bits BinOp.xor IntKind.i64 (h' / 8589934592) (h' / 35184372088832))
  generalize bits BinOp.and IntKind.i64 (bits BinOp.xor IntKind.i64 (h' / 8589934592) (h' / 35184372088832)) 255 = y at *
  go_quiet (fail)
  go_wp2
  go_ret
  have hwr : -9223372036854775808 ≤ h' ∧ h' ≤ 9223372036854775807 := by
    have e : IntKind.i64.min = -9223372036854775808 := by decide
    simpa [Lit.wf, e] using hwr
  exact ⟨y, h', rfl, k1, k2, hwr.1, hwr.2, _, (drew2 _ _ _).trans (by rw [hw2])⟩
def CurTo (b : Nat) (s : Value) (len : Nat) (t : TypeId) (w : World) (e : Ending) (w' : World) : Prop :=
  (∃ x : Int, e = .returned (.int .i64 x) ∧ 0 ≤ x ∧ x < 256) ∧ (∃ i h : Int, w'.heap[b]? = some (.cells #[s, .int .i64 i, .int .i64 h] t (0, 0)) ∧ 0 ≤ i ∧ i ≤ len ∧ -9223372036854775808 ≤ h ∧ h ≤ 9223372036854775807) ∧
    Go.Aw.Ext (fun c => c = b) w w'
theorem heap_setCell (w : World) (b k : Nat) (v : Value) (c : Array Value) (t : TypeId) (f : Nat × Nat) (h : w.heap[b]? = some (.cells c t f)) : (w.setCell ⟨b, k, none⟩ v).heap[b]? = some (.cells (c.setIfInBounds k v) t f) := by
  simp [World.setCell, Array.getElem?_modify, h]
theorem heap_setCell_ne (w : World) (b k c : Nat) (v : Value) (h : c ≠ b) : (w.setCell ⟨b, k, none⟩ v).heap[c]? = w.heap[c]? := by
  simp [World.setCell, Array.getElem?_modify, Ne.symm h]
theorem ext_setCell (w : World) (b k : Nat) (v : Value) : Go.Aw.Ext (fun c => c = b) w (w.setCell ⟨b, k, none⟩ v) :=
  ⟨rfl, rfl, rfl, by simp [World.setCell], Nat.le_refl _, fun c _ hc => heap_setCell_ne w b k c v hc⟩
theorem ext_drewN (w : World) (n : Nat) : Go.Aw.Ext (fun _ => False) w (w.drewN n) := ⟨rfl, rfl, rfl, Nat.le_refl _, Nat.le_add_right _ _, fun _ _ _ => rfl⟩
theorem byte_to (b : Nat) (t : TypeId) (base : Option Addr) (len cap : Nat) (i h : Int) (w : World) (hb : w.heap[b]? = some (.cells #[.slice base len cap, .int .i64 i, .int .i64 h] t (0, 0))) (h0 : 0 ≤ i) (h1 : i ≤ len) (hl : len ≤ 9223372036854775807)
    (hr : ∀ k, k < len → ∃ a n, base = some a ∧ a.block ≠ b ∧ w.cell? (a.add k) = some (.int .u8 n)) :
    Calls Tryd.prog 49 #[.pointer (some ⟨b, 0, none⟩)] w (CurTo b (.slice base len cap) len t w) := by
  have g0 : w.cell? ⟨b, 0, none⟩ = some (.slice base len cap) := by simp [World.cell?, hb]
  have g1 : w.cell? ⟨b, 1, none⟩ = some (.int .i64 i) := by simp [World.cell?, hb]
  have g2 : w.cell? ⟨b, 2, none⟩ = some (.int .i64 h) := by simp [World.cell?, hb]
  have z : ∀ k, w.frozen? ⟨b, k, none⟩ = false := fun k => by simp [World.frozen?, hb]
  by_cases hi : i < (len : Int)
  · obtain ⟨a, n, rfl, hne, hc⟩ := hr i.toNat (by omega)
    refine (w_byte1 b a len cap i h n w g0 g1 g2 (z 1) (z 2) h0 hi hl hc hne).mono ?_
    rintro e w' ⟨x, h', rfl, k1, k2, k3, k4, k, rfl⟩
    refine ⟨⟨x, rfl, k1, k2⟩, ⟨i + 1, h', ?_, by omega, by omega, k3, k4⟩, ((ext_setCell w b 2 _).trans ((ext_drewN _ _).mono fun _ h => h.elim)).trans (ext_setCell _ b 1 _)⟩
    have e1 := heap_setCell w b 2 (.int .i64 h') _ _ _ hb
    have e2 : ((w.setCell ⟨b, 2, none⟩ (.int .i64 h')).drewN k).heap[b]? = _ := e1
    exact heap_setCell _ b 1 (.int .i64 (i + 1)) _ _ _ e2
  · refine (w_byte2 b base len cap i h w g0 g1 g2 (z 1) (z 2) hi).mono ?_
    rintro e w' ⟨x, h', rfl, k1, k2, k3, k4, k, rfl⟩
    refine ⟨⟨x, rfl, k1, k2⟩, ⟨i, h', heap_setCell w b 2 (.int .i64 h') _ _ _ hb, h0, h1, k3, k4⟩, (ext_setCell w b 2 _).trans ((ext_drewN _ _).mono fun _ h => h.elim)⟩
end Go.Proofs.YtbbnfljaojfmaaaDoor
namespace Go.Proofs.YtbbnfljaojfmaaaDoor
open Go Go.RowKit
theorem and30 (n : Int) : 0 ≤ bits .and .i64 n 1073741823 ∧ bits .and .i64 n 1073741823 < 1073741824 := by
  have h255 : (BitVec.ofInt 64 1073741823).toNat = 2 ^ 30 - 1 := by decide
  have key : (BitVec.ofInt 64 n &&& BitVec.ofInt 64 1073741823).toNat = (n % ((2 ^ 64 : Nat) : Int)).toNat % 2 ^ 30 := by
    rw [BitVec.toNat_and, BitVec.toNat_ofInt, h255, Nat.and_two_pow_sub_one_eq_mod]
  have e : bits .and .i64 n 1073741823 = IntKind.i64.wrap ((BitVec.ofInt 64 n &&& BitVec.ofInt 64 1073741823).toNat : Nat) := rfl
  rw [e, key, IntKind.wrap_i64]
  omega
set_option maxRecDepth 100000 in
theorem w_new (base : Option Addr) (len cap : Nat) (ns : Nat → Int) (w : World) (hl : len ≤ 4611686018427387904) (hr : ∀ k, k < len → ∃ a, base = some a ∧ w.cell? (a.add k) = some (.int .u8 (ns k))) :
    Calls Tryd.prog 38 #[.slice base len cap] w fun e w' => ∃ (h : Int) (t : TypeId), e = .returned (.pointer (some ⟨w.heap.size, 0, none⟩)) ∧ -9223372036854775808 ≤ h ∧ h ≤ 9223372036854775807 ∧ w' = w.alloc (.cells #[.slice base len cap, .int .i64 0, .int .i64 h] t) := by
  go_enter Tryd.func38, Tryd.ntmps38
  go_wp2
  go_loop [3, 4] (fun h i => ∃ (k : Nat) (z : Int), k ≤ len ∧ i = .int .i64 k ∧ h = .int .i64 z ∧ -9223372036854775808 ≤ z ∧ z ≤ 9223372036854775807) (fun _ i => len - (intOf i).toNat)
  case atStart => exact ⟨0, _, Nat.zero_le _, rfl, rfl, by omega, by omega⟩
  case round =>
    obtain ⟨k, z, hk, rfl, rfl, z1, z2⟩ := hrel
    rcases Nat.lt_or_ge k len with hlt | hge
    · obtain ⟨a, rfl, hc⟩ := hr k hlt
      have hd : decide ((k : Int) < (len : Int)) = true := by simp; omega
      obtain ⟨y1, y2⟩ := and30 (wrap64 (wrap64 (wrap64 (z * 131) + wrap64 (ns k)) + 7))
      go_wp2
      · exact ⟨⟨k + 1, _, by omega, by simp, rfl, by omega, by omega⟩, by simp [intOf]; omega⟩
      · go_ret
        exact ⟨rfl, z, z1, z2, _, rfl⟩
    · have : k = len := by omega
      subst this
      have hd : decide ((k : Int) < (k : Int)) = false := by simp
      go_wp2
      go_ret
      exact ⟨rfl, z, z1, z2, _, rfl⟩
end Go.Proofs.YtbbnfljaojfmaaaDoor
namespace Go.Aw
open Go
end Go.Aw
