/- Polynomials as strings: the walk of the program's function. -/
import Derived.Test.YtbbnfljaojfmaaaDoorB8
import Derived.Test.YtbbnfljaojfmaaaDoorB7
set_option linter.unusedVariables false
set_option linter.unusedSimpArgs false
namespace Go.Proofs.YtbbnfljaojfmaaaDoor
open Go Go.Aw
theorem dg_head (u : Nat) : (Lib.decDigits u).getD 0 0 ≠ 45 ∧ 0 < (Lib.decDigits u).length := by
  have h1 := dg_pos u
  have h2 := dg_ne u
  cases h : Lib.decDigits u with
  | nil => exact absurd h h1
  | cons b l => exact ⟨by simp only [List.getD_cons_zero]; exact h2 b (by rw [h]; exact List.mem_cons_self ..), by simp⟩
theorem tabHas : (B.P.globalNamed tabN).isSome = true := by
  show (Tryd.prog.globalNamed tabN).isSome = true
  kernel_rfl
set_option maxHeartbeats 2000000 in
theorem c_impl_FormatPoly (p : List Int) (hp : ∀ n ∈ p, (Lit.int .i64 n).wf = true) (hl : p.length ≤ 1048576) : FunA B 7 [.sl false .int p] (fun rs o => rs = [.str (fmtP p)] ∧ o = []) := by
  have hb := wf_bnd hp
  refine FunA.walk B_ok (fn := Tryd.f7) (fun vs w => Tryd.call7 vs w) Tryd.func7 rfl (by rw [Tryd.ntmps7]; simp) (fun C hC hP hT hΓ hbt hfn hpin hfin => ?_); have hX := BX; rw [← hΓ, ← hbt.1, ← hbt.2] at hX; rw [Tryd.ntmps7]; simp only [AW7, simprocAttr, hX]
  refine Run.R ?_
  refine Run.R ?_
  refine Run.R ?_
  refine Run.loopI (X := Nat) (fun i => ⟨57, [(3, true, .v (.str ((fpL p i)))), (7, true, .v (.sl false .int (p))), (8, true, .v (.int .i64 (p.length))), (9, true, .v (.int .i64 (i)))], []⟩) (fun i => i ≤ p.length) (fun i => p.length - i) (0) (Nat.zero_le _) ?_ ?_
  · exact Le.sub (by first | rfl | simp) (by simp only [AW7, simprocAttr, hX]; try simp <;> try (first | rfl | exact ⟨rfl, rfl⟩ | exact ⟨rfl, rfl, rfl⟩))
  rintro i hi ih
  try simp only []
  refine Run.R ?_
  refine Run.nq ?_; refine Run.cW ?_ ?_
  rotate_left
  · intro h
    have h : i = p.length := by rw [decide_eq_false_iff_not] at h; omega
    refine Run.exit rfl ?_; refine Run.nq ?_
    refine Run.R ?_
    refine Run.nq ?_; refine Run.cW ?_ ?_
    · intro h2
      have h2 : fpL p i = [] := by simpa using h2
      refine Run.R ?_
      refine Run.rW [2] (hfin _ _ rfl rfl ?_)
      exact ⟨by unfold fmtP; rw [← h, if_pos h2], rfl⟩
    intro h2
    have h2 : fpL p i ≠ [] := by simpa using h2
    refine Run.R ?_
    refine Run.rW [2] (hfin _ _ rfl rfl ?_)
    exact ⟨by unfold fmtP; rw [← h, if_neg h2], rfl⟩
  intro h
  have h : i < p.length := by rw [decide_eq_true_eq] at h; omega
  have hs := fpL_len hb i (by omega)
  have hx := hb i
  have hn : fpL p (i + 1) = fpT (fpL p i) i (p.getD i 0) := rfl
  generalize fpL p i = s at *
  generalize hxe : p.getD i 0 = x at *
  have hsl : s.length ≤ 52428800 := by omega
  refine Run.R ?_
  rw [hxe]
  refine Run.R ?_
  refine Run.nq ?_; refine Run.cW ?_ ?_
  · intro h2
    have h2 : x = 0 := by simpa using h2
    rw [h2, fp_zero] at hn
    refine Run.exit rfl ?_; refine Run.nq ?_
    rw [← hn]
    refine Run.reK hpin [3, 7, 8, 9] [] (by decide) (by simp) ?_; simp only [AR, AW7, simprocAttr]
    refine Run.RW ?_
    refine Run.le ?_ (ih (i + 1) (h) (by (try simp only [List.length_append, List.length_cons, List.length_nil]); omega))
    exact Le.sub (by rfl) (by simp only [AW7, simprocAttr]; try simp)
  intro h2
  have h2 : x ≠ 0 := by simpa using h2
  have hdl := dg_len (u := x.natAbs) (by omega)
  have hdi := dg_len (u := i) (by omega)
  obtain ⟨hd1, hd2⟩ := dg_head x.natAbs
  have hgl : (fpSg s x).length ≤ 1 := by unfold fpSg; split <;> (try split) <;> simp
  have hnl : (fpNm i x).length ≤ 20 := by unfold fpNm; split <;> first | omega | simp
  have hn : fpL p (i + 1) = s ++ fpSg s x ++ fpNm i x ++ fpQ i := by rw [hn, fpT, if_neg h2]
  refine Run.nq ?_; refine Run.regionW hC (fun K hK => ?_); refine wW ?_
  refine FunA.cW hP hT (c_Itoa x hx.1 hx.2 tabHas) ?_
  rintro rs o ⟨rfl, rfl⟩
  refine wW ?_
  refine wE ?_; clear hK K
  apply joinK (σ' := ⟨57, [(3, true, .v (.str (s ++ fpSg s x))), (4, true, .v (.int .i64 i)), (6, true, .v (.str (Lib.decDigits x.natAbs))), (7, true, .v (.sl false .int p)), (8, true, .v (.int .i64 p.length)), (9, true, .v (.int .i64 i))], []⟩)
  case h =>
    intro rest
    by_cases hneg : x < 0
    · have hm1 : s.length + [(45 : UInt8)].length ≤ maxLen := by simp [maxLen]; omega
      have e1 : fpSg s x = [45] := by simp [fpSg, hneg]
      rw [itoa_neg hneg]
      rw [e1] at rest
      refine Run.R ?_
      refine Run.nq ?_; refine Run.cW ?_ ?_
      rotate_left
      · intro h4; exact absurd h4 (by simp)
      intro _
      refine Run.R ?_
      refine Run.R ?_
      rw [show List.take ((45 :: Lib.decDigits x.natAbs).length - 1) (List.drop 1 (45 :: Lib.decDigits x.natAbs)) = Lib.decDigits x.natAbs by simp]
      refine Run.reK hpin [3, 4, 6, 7, 8, 9] [] (by decide) (by simp) ?_; simp only [AR, AW7, simprocAttr]
      refine Run.nq ?_
      exact rest
    rw [itoa_pos (by omega)]
    refine Run.R ?_
    refine Run.nq ?_; refine Run.cW ?_ ?_
    · intro h4
      exfalso
      apply hd1
      have h4 : (((Lib.decDigits x.natAbs).getD 0 0).toNat : Int) = 45 := by simpa using h4
      apply UInt8.toNat.inj
      have : (45 : UInt8).toNat = 45 := rfl
      omega
    intro _
    refine Run.R ?_
    refine Run.nq ?_; refine Run.cW ?_ ?_
    · intro h4
      have h4 : s ≠ [] := by simpa using h4
      have e1 : fpSg s x = [43] := by simp [fpSg, hneg, h4]
      have hm1 : s.length + [(43 : UInt8)].length ≤ maxLen := by simp [maxLen]; omega
      rw [e1] at rest
      refine Run.R ?_
      refine Run.reK hpin [3, 4, 6, 7, 8, 9] [] (by decide) (by simp) ?_; simp only [AR, AW7, simprocAttr]
      refine Run.nq ?_
      exact rest
    intro h4
    have h4 : s = [] := by simpa using h4
    have e1 : s ++ fpSg s x = s := by simp [fpSg, hneg, h4]
    rw [e1] at rest
    refine Run.reK hpin [3, 4, 6, 7, 8, 9] [] (by decide) (by simp) ?_; simp only [AR, AW7, simprocAttr]
    refine Run.nq ?_
    exact rest
  have hm2 : (s ++ fpSg s x).length + (Lib.decDigits x.natAbs).length ≤ maxLen := by simp [maxLen]; omega
  apply joinK (σ' := ⟨57, [(3, true, .v (.str (s ++ fpSg s x ++ fpNm i x))), (4, true, .v (.int .i64 i)), (7, true, .v (.sl false .int p)), (8, true, .v (.int .i64 p.length)), (9, true, .v (.int .i64 i))], []⟩)
  case h =>
    intro rest
    refine Run.R ?_
    refine Run.nq ?_; refine Run.cW ?_ ?_
    · intro h4
      have h4 : i = 0 ∨ x.natAbs ≠ 1 := by
        by_cases k1 : i = 0
        · exact .inl k1
        · refine .inr fun k2 => ?_
          rw [(dg_one _).2 k2] at h4
          have k3 : ((i : Int) == 0) = false := by rw [beq_eq_false_iff_ne]; omega
          rw [k3] at h4
          exact absurd h4 (by simp)
      have e1 : fpNm i x = Lib.decDigits x.natAbs := by unfold fpNm; rw [if_pos h4]
      rw [e1] at rest
      refine Run.R ?_
      refine Run.reK hpin [3, 4, 7, 8, 9] [] (by decide) (by simp) ?_; simp only [AR, AW7, simprocAttr]
      refine Run.nq ?_
      exact rest
    intro h4
    have h4 : ¬ (i = 0 ∨ x.natAbs ≠ 1) := by
      rintro (k | k)
      · subst k; exact absurd h4 (by simp)
      · have k3 : (Lib.decDigits x.natAbs != [49]) = true := by
          rw [bne_iff_ne]; exact fun e => k ((dg_one _).1 e)
        rw [k3] at h4
        exact absurd h4 (by cases ((i : Int) == 0) <;> simp)
    have e1 : s ++ fpSg s x ++ fpNm i x = s ++ fpSg s x := by unfold fpNm; rw [if_neg h4, List.append_nil]
    rw [e1] at rest
    refine Run.reK hpin [3, 4, 7, 8, 9] [] (by decide) (by simp) ?_; simp only [AR, AW7, simprocAttr]
    refine Run.nq ?_
    exact rest
  have hm3 : (s ++ fpSg s x ++ fpNm i x).length + [(113 : UInt8)].length ≤ maxLen := by simp [maxLen]; omega
  have hm4 : [(113 : UInt8), 94].length + (Lib.itoa i).length ≤ maxLen := by rw [itoa_pos (by omega)]; simp [maxLen]; omega
  have hm5 : (s ++ fpSg s x ++ fpNm i x).length + ([(113 : UInt8), 94] ++ Lib.itoa i).length ≤ maxLen := by rw [itoa_pos (by omega)]; simp [maxLen]; omega
  refine Run.R ?_
  refine Run.nq ?_; refine Run.cW ?_ ?_
  · intro h4
    have h4 : i = 1 := by
      have h4 : (i : Int) = 1 := by simpa using h4
      omega
    have e1 : s ++ fpSg s x ++ fpNm i x ++ [(113 : UInt8)] = fpL p (i + 1) := by rw [hn]; subst h4; rfl
    refine Run.R ?_
    rw [e1]
    refine Run.reK hpin [3, 7, 8, 9] [] (by decide) (by simp) ?_; simp only [AR, AW7, simprocAttr]
    refine Run.RW ?_
    refine Run.le ?_ (ih (i + 1) (h) (by (try simp only [List.length_append, List.length_cons, List.length_nil]); omega))
    exact Le.sub (by rfl) (by simp only [AW7, simprocAttr]; try simp)
  intro h4
  have h4 : i ≠ 1 := by
    have h4 : (i : Int) ≠ 1 := by simpa using h4
    omega
  refine Run.R ?_
  refine Run.nq ?_; refine Run.cW ?_ ?_
  · intro h5
    have h5 : 1 < i := by rw [decide_eq_true_eq] at h5; omega
    have e1 : s ++ fpSg s x ++ fpNm i x ++ ([(113 : UInt8), 94] ++ Lib.itoa i) = fpL p (i + 1) := by
      rw [hn, fpQ, if_neg (by omega), if_neg h4, itoa_pos (by omega)]; rfl
    refine Run.nq ?_; refine Run.regionW hC (fun K hK => ?_); refine wW ?_
    refine FunA.cW hP hT (c_Itoa i (by omega) (by omega) tabHas) ?_
    rintro rs o ⟨rfl, rfl⟩
    refine wW ?_
    refine wE ?_; clear hK K
    rw [e1]
    refine Run.reK hpin [3, 7, 8, 9] [] (by decide) (by simp) ?_; simp only [AR, AW7, simprocAttr]
    refine Run.RW ?_
    refine Run.le ?_ (ih (i + 1) (h) (by (try simp only [List.length_append, List.length_cons, List.length_nil]); omega))
    exact Le.sub (by rfl) (by simp only [AW7, simprocAttr]; try simp)
  intro h5
  have h5 : i = 0 := by rw [decide_eq_false_iff_not] at h5; omega
  have e1 : s ++ fpSg s x ++ fpNm i x = fpL p (i + 1) := by rw [hn, fpQ, if_pos h5, List.append_nil]
  rw [e1]
  refine Run.reK hpin [3, 7, 8, 9] [] (by decide) (by simp) ?_; simp only [AR, AW7, simprocAttr]
  refine Run.RW ?_
  refine Run.le ?_ (ih (i + 1) (h) (by (try simp only [List.length_append, List.length_cons, List.length_nil]); omega))
  exact Le.sub (by rfl) (by simp only [AW7, simprocAttr]; try simp)
end Go.Proofs.YtbbnfljaojfmaaaDoor
namespace Go.Proofs.YtbbnfljaojfmaaaDoor
open Go Go.Aw
set_option maxHeartbeats 20000000 in
theorem c_FnPolynomials (code : List Int) (hwf : ∀ n ∈ code, (Lit.int .u8 n).wf = true) : FunA B 4 [.sl false .byte code] (fun rs _ => rs = [.bool true]) := by
  refine FunA.walk B_ok (fn := Tryd.f4) (fun vs w => Tryd.call4 vs w) Tryd.func4 rfl (by rw [Tryd.ntmps4]; simp) (fun C hC hP hT hΓ hbt hfn hpin hfin => ?_); have hX := BX; rw [← hΓ, ← hbt.1, ← hbt.2] at hX; rw [Tryd.ntmps4]; simp only [AW7, simprocAttr, hX]
  refine Run.R ?_
  refine Run.nq ?_; refine Run.regionW hC (fun K hK => ?_); refine wW ?_
  refine FunA.cW hP hT (c_big code) ?_
  rintro rs o ⟨rfl, rfl⟩
  refine wW ?_
  refine wE ?_; clear hK K
  refine Run.nq ?_; refine Run.cW ?_ ?_
  · intro _
    refine Run.R ?_
    refine Run.rW [2] (hfin _ _ rfl rfl ?_)
    rfl
  intro hb
  have hcl : code.length ≤ 1048576 := by
    have hb : ¬ 1048576 < code.length := by simpa using hb
    omega
  refine Run.nq ?_; refine Run.regionW hC (fun K hK => ?_); refine wW ?_
  refine FunA.cW hP hT (c_DrawMulPoly code hcl) ?_
  rintro rs o ⟨a, b, ⟨al, ha⟩, ⟨bl, hbb⟩, rfl, rfl⟩
  refine wW ?_
  refine wE ?_; clear hK K
  have ml := mulP_le a b
  have sl := addP_le a b
  have dl := subP_le a b
  have mm : (mulP a b == mulP a b) = true := by simp
  have ss : (addP a b == addP a b) = true := by simp
  have dd : (subP a b == subP a b) = true := by simp
  refine Run.reK hpin [0, 3, 4] [] (by decide) (by simp) ?_; simp only [AR, AW7, simprocAttr]
  refine Run.nq ?_; refine Run.regionW hC (fun K hK => ?_); refine wW ?_
  refine FunA.cW hP hT (c_impl_MulPoly a b (by omega) (by omega)) ?_
  rintro rs o ⟨rfl, rfl⟩
  refine wW ?_
  refine wE ?_; clear hK K
  refine Run.nq ?_; refine Run.regionW hC (fun K hK => ?_); refine wW ?_
  refine FunA.cW hP hT (c_impl_AddPoly a b (by omega) (by omega)) ?_
  rintro rs o ⟨rfl, rfl⟩
  refine wW ?_
  refine wE ?_; clear hK K
  refine Run.nq ?_; refine Run.regionW hC (fun K hK => ?_); refine wW ?_
  refine FunA.cW hP hT (c_impl_SubPoly a b (by omega) (by omega)) ?_
  rintro rs o ⟨rfl, rfl⟩
  refine wW ?_
  refine wE ?_; clear hK K
  refine Run.reK hpin [0, 3, 4, 5, 6, 7] [0, 1, 2] (by decide) (by simp) ?_; simp only [AR, AW7, simprocAttr]
  refine Run.letgoK 0 [0, 3, 4, 5, 6, 7] rfl ?_; simp only [AL, frV_cons, frV_nil, AW7, simprocAttr]
  refine Run.letgoK 1 [0, 3, 4, 5, 6, 7] rfl ?_; simp only [AL, frV_cons, frV_nil, AW7, simprocAttr]
  refine Run.letgoK 2 [0, 3, 4, 5, 6, 7] rfl ?_; simp only [AL, frV_cons, frV_nil, AW7, simprocAttr]
  refine Run.reK hpin [0, 3, 4, 5, 6, 7] [] (by decide) (by simp) ?_; simp only [AR, AW7, simprocAttr]
  refine Run.nq ?_; refine Run.regionW hC (fun K hK => ?_); refine wW ?_
  refine FunA.cW hP hT (c_spec_MulPoly a b (by omega) (by omega)) ?_
  rintro rs o ⟨rfl, rfl⟩
  refine wW ?_
  refine FunA.cW hP hT (c_sameInts (mulP a b) (mulP a b) (by omega)) ?_
  rintro rs o ⟨rfl, rfl⟩
  rw [mm]
  refine wW ?_
  refine .inr ⟨rfl, ?_⟩
  refine FunA.cW hP hT (c_spec_AddPoly a b (by omega) (by omega)) ?_
  rintro rs o ⟨rfl, rfl⟩
  refine wW ?_
  refine .inr ⟨rfl, ?_⟩
  refine FunA.cW hP hT (c_sameInts (addP a b) (addP a b) (by omega)) ?_
  rintro rs o ⟨rfl, rfl⟩
  rw [ss]
  refine wW ?_
  refine .inr ⟨rfl, ?_⟩
  refine FunA.cW hP hT (c_spec_SubPoly a b (by omega) (by omega)) ?_
  rintro rs o ⟨rfl, rfl⟩
  refine wW ?_
  refine .inr ⟨rfl, ?_⟩
  refine FunA.cW hP hT (c_sameInts (subP a b) (subP a b) (by omega)) ?_
  rintro rs o ⟨rfl, rfl⟩
  rw [dd]
  refine wW ?_
  refine wE ?_; clear hK K
  refine Run.nq ?_; refine Run.cW ?_ ?_
  · intro h; exact absurd h (by simp)
  intro _
  refine Run.reK hpin [0, 3, 4, 5, 6, 7] [] (by decide) (by simp) ?_; simp only [AR, AW7, simprocAttr]
  refine Run.R ?_
  refine Run.loopI (X := Nat) (fun i => ⟨195, [(0, true, .v (.sl false .byte (code))), (3, true, .v (.sl true .int (a))), (4, true, .v (.sl true .int (b))), (5, true, .v (.sl true .int ((mulP a b)))), (6, true, .v (.sl true .int ((addP a b)))), (7, true, .v (.sl true .int ((subP a b)))), (8, true, .v (.int .i64 (((i : Int) - 3))))], []⟩) (fun i => i ≤ 7) (fun i => 7 - i) (0) (Nat.zero_le _) ?_ ?_
  · exact Le.sub (by first | rfl | simp) (by simp only [AW7, simprocAttr, hX]; try simp <;> try (first | rfl | exact ⟨rfl, rfl⟩ | exact ⟨rfl, rfl, rfl⟩))
  rintro i hi ih
  try simp only []
  refine Run.R ?_
  refine Run.nq ?_; refine Run.cW ?_ ?_
  · intro hx
    have hx : i < 7 := by rw [decide_eq_true_eq] at hx; omega
    generalize hxe : (i : Int) - 3 = x at *
    have ea := eval_add a b x
    have es := eval_sub a b x
    have em := eval_mul a b x (by omega)
    have wa := evalN_wrap a x a.length
    have wb := evalN_wrap b x b.length
    have b1 : (evalN a x a.length != evalN a x a.length) = false := by simp
    have b2 : (evalN (addP a b) x (addP a b).length != IntKind.i64.wrap (evalN a x a.length + evalN b x b.length)) = false := by rw [ea]; simp
    have b3 : (evalN (subP a b) x (subP a b).length != IntKind.i64.wrap (evalN a x a.length - evalN b x b.length)) = false := by rw [es]; simp
    have b4 : (evalN (mulP a b) x (mulP a b).length != IntKind.i64.wrap (evalN a x a.length * evalN b x b.length)) = false := by rw [em]; simp
    refine Run.nq ?_; refine Run.regionW hC (fun K hK => ?_); refine wW ?_
    refine FunA.cW hP hT (c_impl_EvalPoly a x (by omega)) ?_
    rintro rs o ⟨rfl, rfl⟩
    refine wW ?_
    refine wE ?_; clear hK K
    refine Run.nq ?_; refine Run.regionW hC (fun K hK => ?_); refine wW ?_
    refine FunA.cW hP hT (c_impl_EvalPoly b x (by omega)) ?_
    rintro rs o ⟨rfl, rfl⟩
    refine wW ?_
    refine wE ?_; clear hK K
    refine Run.nq ?_; refine Run.regionW hC (fun K hK => ?_); refine wW ?_
    refine FunA.cW hP hT (c_spec_EvalPoly a x (by omega)) ?_
    rintro rs o ⟨rfl, rfl⟩
    refine wW ?_
    rw [b1]
    simp only [AW7, simprocAttr, hX]
    refine .inr ⟨rfl, ?_⟩
    refine FunA.cW hP hT (c_impl_EvalPoly (addP a b) x (by omega)) ?_
    rintro rs o ⟨rfl, rfl⟩
    refine wW ?_
    rw [b2]
    simp only [AW7, simprocAttr, hX]
    refine .inr ⟨rfl, ?_⟩
    refine FunA.cW hP hT (c_impl_EvalPoly (subP a b) x (by omega)) ?_
    rintro rs o ⟨rfl, rfl⟩
    refine wW ?_
    rw [b3]
    simp only [AW7, simprocAttr, hX]
    refine .inr ⟨rfl, ?_⟩
    refine FunA.cW hP hT (c_impl_EvalPoly (mulP a b) x (by omega)) ?_
    rintro rs o ⟨rfl, rfl⟩
    refine wW ?_
    rw [b4]
    refine wW ?_
    refine wE ?_; clear hK K
    refine Run.nq ?_; refine Run.cW ?_ ?_
    · intro h; exact absurd h (by simp)
    intro _
    refine Run.reK hpin [0, 3, 4, 5, 6, 7, 8] [] (by decide) (by simp) ?_; simp only [AR, AW7, simprocAttr]
    refine Run.RW ?_
    have e : x + 1 = ((i + 1 : Nat) : Int) - 3 := by omega
    rw [e]
    refine Run.le ?_ (ih (i + 1) (by omega) (by omega))
    exact Le.sub (by rfl) (by simp only [AW7, simprocAttr]; try simp)
  intro _
  refine Run.exit rfl ?_; refine Run.nq ?_
  refine Run.reK hpin [0] [] (by decide) (by simp) ?_; simp only [AR, AW7, simprocAttr]
  refine Run.nq ?_; refine Run.regionW hC (fun K hK => ?_); refine wW ?_
  refine FunA.cW hP hT (c_DrawReversePoly code hcl) ?_
  rintro rs o ⟨r, n, ⟨rl, hr⟩, ⟨n0, n1⟩, rfl, rfl⟩
  refine wW ?_
  refine wE ?_; clear hK K
  have rvl := revP_le r n
  have rr : (revP r n == revP r n) = true := by simp
  have rbb : (revB r n != revB r n) = false := by simp
  refine Run.reK hpin [0, 11, 12] [] (by decide) (by simp) ?_; simp only [AR, AW7, simprocAttr]
  refine Run.nq ?_; refine Run.regionW hC (fun K hK => ?_); refine wW ?_
  refine FunA.cW hP hT (c_impl_ReversePoly r n (by omega)) ?_
  rintro rs o ⟨rfl, rfl⟩
  refine wW ?_
  refine wE ?_; clear hK K
  refine Run.nq ?_; refine Run.regionW hC (fun K hK => ?_); refine wW ?_
  refine FunA.cW hP hT (c_spec_ReversePoly r n (by omega)) ?_
  rintro rs o ⟨rfl, rfl⟩
  refine wW ?_
  refine wE ?_; clear hK K
  refine Run.reK hpin [0, 11, 12, 13, 14, 15, 16] [0, 1] (by decide) (by simp) ?_; simp only [AR, AW7, simprocAttr]
  refine Run.letgoK 0 [0, 11, 12, 13, 14, 15, 16] rfl ?_; simp only [AL, frV_cons, frV_nil, AW7, simprocAttr]
  refine Run.letgoK 1 [0, 11, 12, 13, 14, 15, 16] rfl ?_; simp only [AL, frV_cons, frV_nil, AW7, simprocAttr]
  refine Run.reK hpin [0, 11, 12, 13, 14, 15, 16] [] (by decide) (by simp) ?_; simp only [AR, AW7, simprocAttr]
  refine Run.nq ?_; refine Run.regionW hC (fun K hK => ?_); refine wW ?_
  rw [rbb]
  simp only [AW7, simprocAttr, hX]
  refine .inr ⟨rfl, ?_⟩
  refine FunA.cW hP hT (c_sameInts (revP r n) (revP r n) (by omega)) ?_
  rintro rs o ⟨rfl, rfl⟩
  rw [rr]
  refine wW ?_
  refine wE ?_; clear hK K
  refine Run.nq ?_; refine Run.cW ?_ ?_
  · intro h; exact absurd h (by simp)
  intro _
  refine Run.reK hpin [0, 11, 12, 14, 15] [] (by decide) (by simp) ?_; simp only [AR, AW7, simprocAttr]
  apply joinK (σ' := ⟨195, [(0, true, .v (.sl false .byte code))], []⟩)
  case h =>
    intro rest
    refine Run.R ?_
    refine Run.nq ?_; refine Run.cW ?_ ?_
    · intro hB
      obtain ⟨q1, q2⟩ := rev_back hB
      have trl := trim_le r
      have tt : (trim r == trim r) = true := by simp
      refine Run.nq ?_; refine Run.regionW hC (fun K hK => ?_); refine wW ?_
      refine FunA.cW hP hT (c_impl_ReversePoly (revP r n) n (by omega)) ?_
      rintro rs o ⟨rfl, rfl⟩
      refine wW ?_
      refine wE ?_; clear hK K
      rw [q1, q2]
      refine Run.nq ?_; refine Run.regionW hC (fun K hK => ?_); refine wW ?_
      refine .inr ⟨rfl, ?_⟩
      refine FunA.cW hP hT (c_spec_TrimPoly r (by omega)) ?_
      rintro rs o ⟨rfl, rfl⟩
      refine wW ?_
      refine .inr ⟨rfl, ?_⟩
      refine FunA.cW hP hT (c_sameInts (trim r) (trim r) (by omega)) ?_
      rintro rs o ⟨rfl, rfl⟩
      rw [tt]
      refine wW ?_
      refine wE ?_; clear hK K
      refine Run.nq ?_; refine Run.cW ?_ ?_
      · intro h; exact absurd h (by simp)
      intro _
      refine Run.reK hpin [0] [] (by decide) (by simp) ?_; simp only [AR, AW7, simprocAttr]
      refine Run.nq ?_
      exact rest
    intro _
    refine Run.reK hpin [0] [] (by decide) (by simp) ?_; simp only [AR, AW7, simprocAttr]
    refine Run.nq ?_
    exact rest
  refine Run.nq ?_; refine Run.regionW hC (fun K hK => ?_); refine wW ?_
  refine FunA.cW hP hT (c_DrawShiftPoly code hcl) ?_
  rintro rs o ⟨f, k, ⟨fl, hf⟩, ⟨k0, k1⟩, rfl, rfl⟩
  refine wW ?_
  refine wE ?_; clear hK K
  refine Run.nq ?_; refine Run.regionW hC (fun K hK => ?_); refine wW ?_
  refine FunA.cW hP hT (c_DrawEqualPolys code hcl) ?_
  rintro rs o ⟨g, h, hg, hh, rfl, rfl⟩
  refine wW ?_
  refine wE ?_; clear hK K
  refine Run.nq ?_; refine Run.regionW hC (fun K hK => ?_); refine wW ?_
  refine FunA.cW hP hT (c_DrawIsPoly code hcl) ?_
  rintro rs o ⟨e, ⟨el, he⟩, rfl, rfl⟩
  refine wW ?_
  refine wE ?_; clear hK K
  have gl := hg.1
  have hl := hh.1
  have shl := shiftP_le f k
  have tel := trim_le e
  have x1 : (shiftP f k == shiftP f k) = true := by simp
  have x2 : (trim e == trim e) = true := by simp
  refine Run.reK hpin [19, 20, 21, 22, 23] [] (by decide) (by simp) ?_; simp only [AR, AW7, simprocAttr]
  refine Run.nq ?_; refine Run.regionW hC (fun K hK => ?_); refine wW ?_
  refine FunA.cW hP hT (c_impl_ShiftPoly f k (by omega)) ?_
  rintro rs o ⟨rfl, rfl⟩
  refine wW ?_
  refine FunA.cW hP hT (c_spec_ShiftPoly f k (by omega)) ?_
  rintro rs o ⟨rfl, rfl⟩
  refine wW ?_
  refine FunA.cW hP hT (c_sameInts (shiftP f k) (shiftP f k) (by omega)) ?_
  rintro rs o ⟨rfl, rfl⟩
  rw [x1]
  refine wW ?_
  refine .inr ⟨rfl, ?_⟩
  refine FunA.cW hP hT (c_impl_EqualPolys g h (by omega) (by omega)) ?_
  rintro rs o ⟨rfl, rfl⟩
  refine wW ?_
  refine .inr ⟨rfl, ?_⟩
  refine FunA.cW hP hT (c_spec_EqualPolys g h (by omega) (by omega)) ?_
  rintro rs o ⟨rfl, rfl⟩
  refine wW ?_
  refine .inr ⟨rfl, ?_⟩
  refine FunA.cW hP hT (c_impl_IsPoly e (by omega)) ?_
  rintro rs o ⟨rfl, rfl⟩
  refine wW ?_
  refine .inr ⟨rfl, ?_⟩
  refine FunA.cW hP hT (c_spec_IsPoly e (by omega)) ?_
  rintro rs o ⟨rfl, rfl⟩
  refine wW ?_
  refine .inr ⟨rfl, ?_⟩
  refine FunA.cW hP hT (c_impl_TrimPoly e (by omega)) ?_
  rintro rs o ⟨rfl, rfl⟩
  refine wW ?_
  refine .inr ⟨rfl, ?_⟩
  refine FunA.cW hP hT (c_spec_TrimPoly e (by omega)) ?_
  rintro rs o ⟨rfl, rfl⟩
  refine wW ?_
  refine .inr ⟨rfl, ?_⟩
  refine FunA.cW hP hT (c_sameInts (trim e) (trim e) (by omega)) ?_
  rintro rs o ⟨rfl, rfl⟩
  rw [x2]
  refine wW ?_
  refine .inr ⟨rfl, ?_⟩
  refine FunA.cW hP hT (c_impl_FormatPoly e he.wf (by omega)) ?_
  rintro rs o ⟨rfl, rfl⟩
  refine wW ?_
  refine .inr ⟨rfl, ?_⟩
  refine FunA.cW hP hT (c_spec_FormatPoly e he.wf (by omega)) ?_
  rintro rs o ⟨rfl, rfl⟩
  refine wW ?_
  refine wE ?_; clear hK K
  refine Run.rW [2] (hfin _ _ rfl rfl ?_)
  rfl
end Go.Proofs.YtbbnfljaojfmaaaDoor
