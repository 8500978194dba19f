/- The law on the Bruhat order. -/
import Derived.Test.YtojcdgdbffmlpaaGreatB13
import Derived.Test.YtojcdgdbffmlpaaGreatB14
import Derived.Test.YtojcdgdbffmlpaaGreatB18
import Derived.Test.YtojcdgdbffmlpaaGreatB19
set_option linter.unusedVariables false
set_option linter.unusedSimpArgs false
namespace Go.Proofs.YtojcdgdbffmlpaaGreat
open Go Go.Aw Go.Cox
theorem bcv_small (c : List (List Int)) (w : List Int) : (bcv c w).length ≤ 1000 ∧ ∀ r ∈ bcv c w, r.length ≤ 1000 := by
  constructor
  · unfold bcv
    split
    · rename_i hw
      obtain ⟨nw, lw⟩ := word_nf hw
      have h1 := bcT_len c (redL c w) (redL c w).length
      have h2 := srt_len (bcT c (redL c w) (redL c w).length)
      omega
    · simp
  · intro r hr
    have hb := bcv_below hr
    have : wordB c r = true := by
      revert hb; unfold brB; cases wordB c r <;> simp
    have := (wordB_iff.1 this).2.1
    omega
theorem c_spec_SignOf2 (w : List Int) : FunA B 23 [.sl false .int w] (fun rs o => rs = [.int .i64 (eps w)] ∧ o = []) := c_spec_SignOf w
set_option maxHeartbeats 20000000 in
theorem c_FnBruhat (code : List Int) (_ : ∀ n ∈ code, (Lit.int .u8 n).wf = true) : FunA B 3 [.sl false .byte code] (fun rs _ => rs = [.bool true]) := by
  refine FunA.walk B_ok (fn := Tryz.f3) (fun vs w => Tryz.call3 vs w) Tryz.func3 rfl (by rw [Tryz.ntmps3]; simp) (fun C hC hP hT hΓ hbt hfn hpin hfin => ?_); have hX := BX; rw [← hΓ, ← hbt.1, ← hbt.2] at hX; rw [Tryz.ntmps3]; simp only [AW7, simprocAttr, hX]
  refine Run.nq ?_; refine Run.regionW hC (fun K hK => ?_); simp only [AW7, simprocAttr, hX]; (repeat (with_reducible refine And.intro ?_ ?_); exact vc0); refine hK _ ?_; clear hK K; refine Run.nq ?_
  refine Run.nq ?_; refine Run.regionW hC (fun K hK => ?_); simp only [AW7, simprocAttr, hX]; (repeat (with_reducible refine And.intro ?_ ?_); exact vc0)
  refine FunA.callW hP hT (c_big code) (by simp only [AW7, simprocAttr]) ?_
  rintro rs o ⟨rfl, rfl⟩
  (try simp only [AW7, simprocAttr, hX]); (repeat (with_reducible refine And.intro ?_ ?_); exact vc0)
  (repeat (with_reducible refine And.intro ?_ ?_); exact vc0); refine hK _ ?_; clear hK K; refine Run.nq ?_
  refine Run.nq ?_; refine Run.condW (by simp only [AW7, simprocAttr, hX]; rfl) (by simp only [AW7, simprocAttr, hX]) ?_ ?_
  · intro _
    refine Run.nq ?_; refine Run.regionW hC (fun K hK => ?_); simp only [AW7, simprocAttr, hX]; (repeat (with_reducible refine And.intro ?_ ?_); exact vc0); refine hK _ ?_; clear hK K; refine Run.nq ?_
    refine Run.retW [2] (by decide) (by rw [hfn]; rfl) (by simp only [AW7, simprocAttr, hX]; rfl) (by simp only [AW7, simprocAttr, hX]) (hfin _ _ rfl rfl ?_)
    rfl
  intro hb
  have hcl : code.length ≤ 1048576 := by
    have hb : ¬ 1048576 < code.length := by simpa using hb
    omega
  refine Run.nq ?_; refine Run.regionW hC (fun K hK => ?_); simp only [AW7, simprocAttr, hX]; (repeat (with_reducible refine And.intro ?_ ?_); exact vc0)
  refine FunA.callW hP hT (c_DrawIsBruhatBelow code hcl) (by simp only [AW7, simprocAttr]) ?_
  rintro rs o ⟨c, u, v, ⟨c1, c2⟩, hul, hvl, rfl, rfl⟩
  (try simp only [AW7, simprocAttr, hX]); (repeat (with_reducible refine And.intro ?_ ?_); exact vc0)
  (repeat (with_reducible refine And.intro ?_ ?_); exact vc0); refine hK _ ?_; clear hK K; refine Run.nq ?_
  refine Run.reK hpin [0, 3, 4, 5] [] (by decide) (by simp) ?_; simp only [AR, AW7, simprocAttr]
  refine Run.nq ?_; refine Run.regionW hC (fun K hK => ?_); simp only [AW7, simprocAttr, hX]; (repeat (with_reducible refine And.intro ?_ ?_); exact vc0)
  refine FunA.callW hP hT (c_impl_IsBruhatBelow c u v (by omega)) (by simp only [AW7, simprocAttr]) ?_
  rintro rs o ⟨rfl, rfl⟩
  (try simp only [AW7, simprocAttr, hX]); (repeat (with_reducible refine And.intro ?_ ?_); exact vc0)
  (repeat (with_reducible refine And.intro ?_ ?_); exact vc0); refine hK _ ?_; clear hK K; refine Run.nq ?_
  refine Run.nq ?_; refine Run.regionW hC (fun K hK => ?_); simp only [AW7, simprocAttr, hX]; (repeat (with_reducible refine And.intro ?_ ?_); exact vc0)
  refine FunA.callW hP hT (c_spec_IsBruhatBelow c u v (by omega)) (by simp only [AW7, simprocAttr]) ?_
  rintro rs o ⟨rfl, rfl⟩
  (try simp only [AW7, simprocAttr, hX]); (repeat (with_reducible refine And.intro ?_ ?_); exact vc0)
  (repeat (with_reducible refine And.intro ?_ ?_); exact vc0); refine hK _ ?_; clear hK K; refine Run.nq ?_
  refine Run.nq ?_; refine Run.condW (by simp only [AW7, simprocAttr, hX]; rfl) (by simp only [AW7, simprocAttr, hX]) ?_ ?_
  · intro h; simp at h
  intro _
  refine Run.reK hpin [0, 3, 4, 5, 6] [] (by decide) (by simp) ?_; simp only [AR, AW7, simprocAttr]
  refine Run.nq ?_; refine Run.regionW hC (fun K hK => ?_); simp only [AW7, simprocAttr, hX]; (repeat (with_reducible refine And.intro ?_ ?_); exact vc0)
  refine FunA.callW hP hT (c_spec_IsWord c u (by omega)) (by simp only [AW7, simprocAttr]) ?_
  rintro rs o ⟨rfl, rfl⟩
  (try simp only [AW7, simprocAttr, hX]); (repeat (with_reducible refine And.intro ?_ ?_); exact vc0)
  refine .inl (FunA.callG hP hT (c_spec_IsWord c v (by omega)) (fun _ => rfl) (fun _ => by simp only [AW7, simprocAttr]) ?_)
  (try simp only [AW7, simprocAttr, hX]); (repeat (with_reducible refine And.intro ?_ ?_); exact vc0)
  (repeat (with_reducible refine And.intro ?_ ?_); exact vc0); refine hK _ ?_; clear hK K; refine Run.nq ?_
  refine Run.nq ?_; refine Run.condW (by simp only [AW7, simprocAttr, hX]; rfl) (by simp only [AW7, simprocAttr, hX]) ?_ ?_
  · intro h
    have hu : wordB c u = true := by
      revert h
      cases wordB c u <;> simp
    have hv : wordB c v = true := by
      revert h
      rw [hu]
      cases wordB c v <;> simp
    obtain ⟨hc, u1, u2⟩ := wordB_iff.1 hu
    obtain ⟨_, v1, v2⟩ := wordB_iff.1 hv
    have hsl := subW_le c u v
    refine Run.nq ?_; refine Run.regionW hC (fun K hK => ?_); simp only [AW7, simprocAttr, hX]; (repeat (with_reducible refine And.intro ?_ ?_); exact vc0)
    refine FunA.callW hP hT (c_impl_SubwordOf c u v (by omega)) (by simp only [AW7, simprocAttr]) ?_
    rintro rs o ⟨rfl, rfl⟩
    (try simp only [AW7, simprocAttr, hX]); (repeat (with_reducible refine And.intro ?_ ?_); exact vc0)
    (repeat (with_reducible refine And.intro ?_ ?_); exact vc0); refine hK _ ?_; clear hK K; refine Run.nq ?_
    refine Run.nq ?_; refine Run.regionW hC (fun K hK => ?_); simp only [AW7, simprocAttr, hX]; (repeat (with_reducible refine And.intro ?_ ?_); exact vc0)
    refine FunA.callW hP hT (c_spec_SubwordOf c u v (by omega)) (by simp only [AW7, simprocAttr]) ?_
    rintro rs o ⟨rfl, rfl⟩
    (try simp only [AW7, simprocAttr, hX]); (repeat (with_reducible refine And.intro ?_ ?_); exact vc0)
    (repeat (with_reducible refine And.intro ?_ ?_); exact vc0); refine hK _ ?_; clear hK K; refine Run.nq ?_
    refine Run.reK hpin [0, 3, 4, 5, 6, 7, 8, 9, 10] [0, 1] (by decide) (by simp) ?_; simp only [AR, AW7, simprocAttr]
    refine Run.letgoK 0 [0, 3, 4, 5, 6, 7, 8, 9, 10] rfl ?_; simp only [AL, frV_cons, frV_nil, AW7, simprocAttr]
    refine Run.letgoK 1 [0, 3, 4, 5, 6, 7, 8, 9, 10] rfl ?_; simp only [AL, frV_cons, frV_nil, AW7, simprocAttr]
    refine Run.reK hpin [0, 3, 4, 5, 6, 7, 8, 9, 10] [] (by decide) (by simp) ?_; simp only [AR, AW7, simprocAttr]
    have hrev := br_rev hu hv
    have hpl := fun h => sub_places hu hv h
    have hss : (subW c u v == subW c u v) = true := by simp
    cases hB : brB c u v with
    | false =>
      rw [hB] at hrev
      refine Run.nq ?_; refine Run.regionW hC (fun K hK => ?_); simp only [AW7, simprocAttr, hX]; (repeat (with_reducible refine And.intro ?_ ?_); exact vc0)
      refine .inr ⟨rfl, ?_⟩
      refine FunA.callW hP hT (c_sameInts (subW c u v) (subW c u v) (by omega)) (by simp only [AW7, simprocAttr]) ?_
      rintro rs o ⟨rfl, rfl⟩
      rw [hss]
      (try simp only [AW7, simprocAttr, hX]); (repeat (with_reducible refine And.intro ?_ ?_); exact vc0)
      refine .inr ⟨rfl, ?_⟩
      refine FunA.callW hP hT (c_spec_ReverseWord u (by omega)) (by simp only [AW7, simprocAttr]) ?_
      rintro rs o ⟨rfl, rfl⟩
      (try simp only [AW7, simprocAttr, hX]); (repeat (with_reducible refine And.intro ?_ ?_); exact vc0)
      refine .inr ⟨rfl, ?_⟩
      refine FunA.callW hP hT (c_spec_ReverseWord v (by omega)) (by simp only [AW7, simprocAttr]) ?_
      rintro rs o ⟨rfl, rfl⟩
      (try simp only [AW7, simprocAttr, hX]); (repeat (with_reducible refine And.intro ?_ ?_); exact vc0)
      refine .inr ⟨rfl, ?_⟩
      refine FunA.callW hP hT (c_impl_IsBruhatBelow c u.reverse v.reverse (by omega)) (by simp only [AW7, simprocAttr]) ?_
      rintro rs o ⟨rfl, rfl⟩
      rw [hrev]
      (try simp only [AW7, simprocAttr, hX]); (repeat (with_reducible refine And.intro ?_ ?_); exact vc0)
      refine .inl (CallG.off (.bool false) ?_)
      (try simp only [AW7, simprocAttr, hX]); (repeat (with_reducible refine And.intro ?_ ?_); exact vc0)
      refine .inl (CallG.off (.bool false) ?_)
      (try simp only [AW7, simprocAttr, hX]); (repeat (with_reducible refine And.intro ?_ ?_); exact vc0)
      (repeat (with_reducible refine And.intro ?_ ?_); exact vc0); refine hK _ ?_; clear hK K; refine Run.nq ?_
      refine Run.nq ?_; refine Run.condW (by simp only [AW7, simprocAttr, hX]; rfl) (by simp only [AW7, simprocAttr, hX]) ?_ ?_
      · intro h; exact absurd h (by simp)
      intro _
      refine Run.nq ?_; refine Run.regionW hC (fun K hK => ?_); simp only [AW7, simprocAttr, hX]; (repeat (with_reducible refine And.intro ?_ ?_); exact vc0); refine hK _ ?_; clear hK K; refine Run.nq ?_
      refine Run.nq ?_; refine Run.condW (by simp only [AW7, simprocAttr, hX]; rfl) (by simp only [AW7, simprocAttr, hX]) ?_ ?_
      · intro h; exact absurd h (by simp)
      intro _
      refine Run.reK hpin [0] [] (by decide) (by simp) ?_; simp only [AR, AW7, simprocAttr]
      refine Run.nq ?_; refine Run.regionW hC (fun K hK => ?_); simp only [AW7, simprocAttr, hX]; (repeat (with_reducible refine And.intro ?_ ?_); exact vc0)
      refine FunA.callW hP hT (c_DrawMoebiusOf code hcl) (by simp only [AW7, simprocAttr]) ?_
      rintro rs o ⟨d, a, b, ⟨d1, d2⟩, hal, hbl, rfl, rfl⟩
      (try simp only [AW7, simprocAttr, hX]); (repeat (with_reducible refine And.intro ?_ ?_); exact vc0)
      (repeat (with_reducible refine And.intro ?_ ?_); exact vc0); refine hK _ ?_; clear hK K; refine Run.nq ?_
      refine Run.reK hpin [0, 15, 16, 17] [] (by decide) (by simp) ?_; simp only [AR, AW7, simprocAttr]
      refine Run.nq ?_; refine Run.regionW hC (fun K hK => ?_); simp only [AW7, simprocAttr, hX]; (repeat (with_reducible refine And.intro ?_ ?_); exact vc0)
      refine FunA.callW hP hT (c_impl_MoebiusOf d a b (by omega)) (by simp only [AW7, simprocAttr]) ?_
      rintro rs o ⟨rfl, rfl⟩
      (try simp only [AW7, simprocAttr, hX]); (repeat (with_reducible refine And.intro ?_ ?_); exact vc0)
      (repeat (with_reducible refine And.intro ?_ ?_); exact vc0); refine hK _ ?_; clear hK K; refine Run.nq ?_
      refine Run.nq ?_; refine Run.regionW hC (fun K hK => ?_); simp only [AW7, simprocAttr, hX]; (repeat (with_reducible refine And.intro ?_ ?_); exact vc0)
      refine FunA.callW hP hT (c_spec_MoebiusOf d a b (by omega)) (by simp only [AW7, simprocAttr]) ?_
      rintro rs o ⟨rfl, rfl⟩
      (try simp only [AW7, simprocAttr, hX]); (repeat (with_reducible refine And.intro ?_ ?_); exact vc0)
      (repeat (with_reducible refine And.intro ?_ ?_); exact vc0); refine hK _ ?_; clear hK K; refine Run.nq ?_
      refine Run.reK hpin [0, 15, 16, 17, 18, 19, 20, 21] [] (by decide) (by simp) ?_; simp only [AR, AW7, simprocAttr]
      refine Run.nq ?_; refine Run.regionW hC (fun K hK => ?_); simp only [AW7, simprocAttr, hX]; (repeat (with_reducible refine And.intro ?_ ?_); exact vc0); refine hK _ ?_; clear hK K; refine Run.nq ?_
      refine Run.nq ?_; refine Run.condW (by simp only [AW7, simprocAttr, hX]; rfl) (by simp only [AW7, simprocAttr, hX]) ?_ ?_
      · intro h; simp at h
      intro _
      have hee : (eps a * eps b != eps a * eps b) = false := by simp
      have heb : -1 ≤ eps a * eps b ∧ eps a * eps b ≤ 1 := by
        rcases eps_cases a with e1 | e1 <;> rcases eps_cases b with e2 | e2 <;> rw [e1, e2] <;> decide
      refine Run.reK hpin [0, 15, 16, 17, 18, 19] [] (by decide) (by simp) ?_; simp only [AR, AW7, simprocAttr]
      cases hI : itvB d a b with
      | false =>
        refine Run.nq ?_; refine Run.regionW hC (fun K hK => ?_); simp only [AW7, simprocAttr, hX]; (repeat (with_reducible refine And.intro ?_ ?_); exact vc0)
        refine .inl (CallG.off (.bool false) ?_)
        (try simp only [AW7, simprocAttr, hX]); (repeat (with_reducible refine And.intro ?_ ?_); exact vc0)
        refine .inl (CallG.off (.int .i64 0) ?_)
        (try simp only [AW7, simprocAttr, hX]); (repeat (with_reducible refine And.intro ?_ ?_); exact vc0)
        refine .inl (CallG.off (.int .i64 0) ?_)
        (try simp only [AW7, simprocAttr, hX]); (repeat (with_reducible refine And.intro ?_ ?_); exact vc0)
        refine .inl (CallG.off (.bool false) ?_)
        (try simp only [AW7, simprocAttr, hX]); (repeat (with_reducible refine And.intro ?_ ?_); exact vc0)
        (repeat (with_reducible refine And.intro ?_ ?_); exact vc0); refine hK _ ?_; clear hK K; refine Run.nq ?_
        refine Run.nq ?_; refine Run.condW (by simp only [AW7, simprocAttr, hX]; rfl) (by simp only [AW7, simprocAttr, hX]) ?_ ?_
        · intro h; exact absurd h (by simp)
        intro _
        refine Run.reK hpin [0, 15, 16, 17] [] (by decide) (by simp) ?_; simp only [AR, AW7, simprocAttr]
        have i1 := itvX_len d a b
        have i2 := itvX_rows d a b
        have hbb : (itvB d a b == itvB d a b) = true := by simp
        have hii : (itvX d a b == itvX d a b) = true := by simp
        refine Run.nq ?_; refine Run.regionW hC (fun K hK => ?_); simp only [AW7, simprocAttr, hX]; (repeat (with_reducible refine And.intro ?_ ?_); exact vc0)
        refine FunA.callW hP hT (c_impl_IntervalOf d a b (by omega)) (by simp only [AW7, simprocAttr]) ?_
        rintro rs o ⟨rfl, h1, _, rfl⟩
        (try simp only [AW7, simprocAttr, hX]); (repeat (with_reducible refine And.intro ?_ ?_); exact vc0)
        (repeat (with_reducible refine And.intro ?_ ?_); exact vc0); refine hK _ ?_; clear hK K; refine Run.nq ?_
        refine Run.nq ?_; refine Run.regionW hC (fun K hK => ?_); simp only [AW7, simprocAttr, hX]; (repeat (with_reducible refine And.intro ?_ ?_); exact vc0)
        refine FunA.callW hP hT (c_spec_IntervalOf d a b (by omega)) (by simp only [AW7, simprocAttr]) ?_
        rintro rs o ⟨rfl, h2, _, rfl⟩
        (try simp only [AW7, simprocAttr, hX]); (repeat (with_reducible refine And.intro ?_ ?_); exact vc0)
        (repeat (with_reducible refine And.intro ?_ ?_); exact vc0); refine hK _ ?_; clear hK K; refine Run.nq ?_
        refine Run.reK hpin [0, 22, 23, 24, 25] [0, 1] (by decide) (by simp) ?_; simp only [AR, AW7, simprocAttr]
        refine Run.nq ?_; refine Run.regionW hC (fun K hK => ?_); simp only [AW7, simprocAttr, hX]; (repeat (with_reducible refine And.intro ?_ ?_); exact vc0)
        refine FunA.callW hP hT (c_DrawLowerInterval code hcl) (by simp only [AW7, simprocAttr]) ?_
        rintro rs o ⟨e, w, ⟨e1, e2⟩, hw, rfl, rfl⟩
        (try simp only [AW7, simprocAttr, hX]); (repeat (with_reducible refine And.intro ?_ ?_); exact vc0)
        (repeat (with_reducible refine And.intro ?_ ?_); exact vc0); refine hK _ ?_; clear hK K; refine Run.nq ?_
        have j1 := lowX_len e w
        have j2 := lowX_rows e w
        have hll : (lowB e w == lowB e w) = true := by simp
        have hjj : (lowX e w == lowX e w) = true := by simp
        refine Run.nq ?_; refine Run.regionW hC (fun K hK => ?_); simp only [AW7, simprocAttr, hX]; (repeat (with_reducible refine And.intro ?_ ?_); exact vc0)
        refine FunA.callW hP hT (c_impl_LowerInterval e w (by omega)) (by simp only [AW7, simprocAttr]) ?_
        rintro rs o ⟨rfl, h3, _, rfl⟩
        (try simp only [AW7, simprocAttr, hX]); (repeat (with_reducible refine And.intro ?_ ?_); exact vc0)
        (repeat (with_reducible refine And.intro ?_ ?_); exact vc0); refine hK _ ?_; clear hK K; refine Run.nq ?_
        refine Run.nq ?_; refine Run.regionW hC (fun K hK => ?_); simp only [AW7, simprocAttr, hX]; (repeat (with_reducible refine And.intro ?_ ?_); exact vc0)
        refine FunA.callW hP hT (c_spec_LowerInterval e w (by omega)) (by simp only [AW7, simprocAttr]) ?_
        rintro rs o ⟨rfl, h4, _, rfl⟩
        (try simp only [AW7, simprocAttr, hX]); (repeat (with_reducible refine And.intro ?_ ?_); exact vc0)
        (repeat (with_reducible refine And.intro ?_ ?_); exact vc0); refine hK _ ?_; clear hK K; refine Run.nq ?_
        refine Run.reK hpin [0, 22, 23, 24, 25, 28, 29, 30, 31] [0, 1, 2, 3] (by decide) (by simp) ?_; simp only [AR, AW7, simprocAttr]
        refine Run.nq ?_; refine Run.regionW hC (fun K hK => ?_); simp only [AW7, simprocAttr, hX]; (repeat (with_reducible refine And.intro ?_ ?_); exact vc0)
        refine FunA.callW hP hT (c_DrawBruhatCovers code hcl) (by simp only [AW7, simprocAttr]) ?_
        rintro rs o ⟨f, z, ⟨f1, f2⟩, hz, rfl, rfl⟩
        (try simp only [AW7, simprocAttr, hX]); (repeat (with_reducible refine And.intro ?_ ?_); exact vc0)
        (repeat (with_reducible refine And.intro ?_ ?_); exact vc0); refine hK _ ?_; clear hK K; refine Run.nq ?_
        obtain ⟨k1, k2⟩ := bcv_small f z
        have hkk : (bcv f z == bcv f z) = true := by simp
        refine Run.nq ?_; refine Run.regionW hC (fun K hK => ?_); simp only [AW7, simprocAttr, hX]; (repeat (with_reducible refine And.intro ?_ ?_); exact vc0)
        refine FunA.callW hP hT (c_impl_BruhatCovers f z (by omega)) (by simp only [AW7, simprocAttr]) ?_
        rintro rs o ⟨rfl, h5, _, rfl⟩
        (try simp only [AW7, simprocAttr, hX]); (repeat (with_reducible refine And.intro ?_ ?_); exact vc0)
        (repeat (with_reducible refine And.intro ?_ ?_); exact vc0); refine hK _ ?_; clear hK K; refine Run.nq ?_
        refine Run.reK hpin [22, 23, 24, 25, 28, 29, 30, 31, 32, 33, 34] [0, 1, 2, 3, 4] (by decide) (by simp) ?_; simp only [AR, AW7, simprocAttr]
        refine Run.unmat hC 4 rfl ?_
        simp only [AW7, simprocAttr]
        refine Run.letgoK 4 [22, 23, 24, 25, 28, 29, 30, 31, 32, 33, 34] rfl ?_; simp only [AL, frV_cons, frV_nil, AW7, simprocAttr]
        refine Run.nq ?_; refine Run.regionW hC (fun K hK => ?_); simp only [AW7, simprocAttr, hX]; (repeat (with_reducible refine And.intro ?_ ?_); exact vc0); refine hK _ ?_; clear hK K; refine Run.nq ?_
        refine Run.reK hpin [22, 23, 24, 25, 28, 29, 30, 31, 32, 33, 34, 35] [0, 1, 2, 3] (by decide) (by simp) ?_; simp only [AR, AW7, simprocAttr]
        refine Run.loopI (X := Nat) (fun i => ⟨289, [(22, true, .v (.own 0 0)), (23, true, .v (.bool ((itvB d a b)))), (24, true, .v (.own 1 0)), (25, true, .v (.bool ((itvB d a b)))), (28, true, .v (.own 2 0)), (29, true, .v (.bool ((lowB e w)))), (30, true, .v (.own 3 0)), (31, true, .v (.bool ((lowB e w)))), (32, true, .v (.sl true (.row true) (f))), (33, true, .v (.sl true .int (z))), (34, true, .v (.sl true (.row true) ((bcv f z)))), (35, true, .v (.int .i64 (i)))], [.mat h1 (itvX d a b) 0 true, .mat h2 (itvX d a b) 0 true, .mat h3 (lowX e w) 0 true, .mat h4 (lowX e w) 0 true]⟩) (fun i => i ≤ (bcv f z).length) (fun i => (bcv f z).length - i) (0) (Nat.zero_le _) ?_ ?_
        · exact Le.sub (by first | rfl | simp) (by simp only [AW7, simprocAttr, hX]; try simp <;> try (first | rfl | exact ⟨rfl, rfl⟩ | exact ⟨rfl, rfl, rfl⟩))
        rintro i hi ih
        try simp only []
        refine Run.nq ?_; refine Run.regionW hC (fun K hK => ?_); simp only [AW7, simprocAttr, hX]; (repeat (with_reducible refine And.intro ?_ ?_); exact vc0); refine hK _ ?_; clear hK K; refine Run.nq ?_
        refine Run.nq ?_; refine Run.condW (by simp only [AW7, simprocAttr, hX]; rfl) (by simp only [AW7, simprocAttr, hX]) ?_ ?_
        · intro hx
          have hx : i < (bcv f z).length := by rw [decide_eq_true_eq] at hx; omega
          have hbl : brB f ((bcv f z).getD i []) z = true := bcv_below (by rw [List.getD_eq_getElem?_getD, List.getElem?_eq_getElem hx]; exact List.getElem_mem hx)
          refine Run.nq ?_; refine Run.regionW hC (fun K hK => ?_); simp only [AW7, simprocAttr, hX]; (repeat (with_reducible refine And.intro ?_ ?_); exact vc0)
          refine FunA.callW hP hT (c_impl_IsBruhatBelow f ((bcv f z).getD i []) z (by omega)) (by simp only [AW7, simprocAttr]) ?_
          rintro rs o ⟨rfl, rfl⟩
          rw [hbl]
          (try simp only [AW7, simprocAttr, hX]); (repeat (with_reducible refine And.intro ?_ ?_); exact vc0)
          (repeat (with_reducible refine And.intro ?_ ?_); exact vc0); refine hK _ ?_; clear hK K; refine Run.nq ?_
          refine Run.nq ?_; refine Run.condW (by simp only [AW7, simprocAttr, hX]; rfl) (by simp only [AW7, simprocAttr, hX]) ?_ ?_
          · intro h; exact absurd h (by simp)
          intro _
          refine Run.reK hpin [22, 23, 24, 25, 28, 29, 30, 31, 32, 33, 34, 35] [0, 1, 2, 3] (by decide) (by simp) ?_; simp only [AR, AW7, simprocAttr]
          refine Run.nq ?_; refine Run.regionW hC (fun K hK => ?_); simp (disch := omega) only [wrap_id, AW7, simprocAttr, hX]; (repeat (with_reducible refine And.intro ?_ ?_); exact vc0); refine hK _ ?_; clear hK K; refine Run.nq ?_
          refine Run.le ?_ (ih (i + 1) (hx) (by (try simp only [List.length_append, List.length_cons, List.length_nil]); omega))
          exact Le.sub (by rfl) (by simp only [AW7, simprocAttr]; try simp)
        intro _
        refine Run.exit rfl ?_; refine Run.nq ?_
        refine Run.nq ?_; refine Run.regionW hC (fun K hK => ?_); simp only [AW7, simprocAttr, hX]; (repeat (with_reducible refine And.intro ?_ ?_); exact vc0)
        refine .inr ⟨rfl, ?_⟩
        refine FunA.callW hP hT (c_sameWords (itvX d a b) (itvX d a b) (by omega) (fun r hr => by have := i2 r hr; omega)) (by simp only [AW7, simprocAttr]; first | done | exact ⟨⟨rfl, rfl⟩, rfl, rfl⟩ | simp [argO, convV]) ?_
        rintro rs o ⟨rfl, rfl⟩
        rw [hii]
        (try simp only [AW7, simprocAttr, hX]); (repeat (with_reducible refine And.intro ?_ ?_); exact vc0)
        refine .inr ⟨rfl, ?_⟩
        refine FunA.callW hP hT (c_sameWords (lowX e w) (lowX e w) (by omega) (fun r hr => by have := j2 r hr; omega)) (by simp only [AW7, simprocAttr]; first | done | exact ⟨⟨rfl, rfl⟩, rfl, rfl⟩ | simp [argO, convV]) ?_
        rintro rs o ⟨rfl, rfl⟩
        rw [hjj]
        (try simp only [AW7, simprocAttr, hX]); (repeat (with_reducible refine And.intro ?_ ?_); exact vc0)
        refine .inr ⟨rfl, ?_⟩
        refine FunA.callW hP hT (c_spec_BruhatCovers f z (by omega)) (by simp only [AW7, simprocAttr]) ?_
        rintro rs o ⟨rfl, h6, _, rfl⟩
        (try simp only [AW7, simprocAttr, hX]); (repeat (with_reducible refine And.intro ?_ ?_); exact vc0)
        refine .inr ⟨rfl, ?_⟩
        refine FunA.callW hP hT (c_sameWords (bcv f z) (bcv f z) (by omega) (fun r hr => by have := k2 r hr; omega)) (by simp only [AW7, simprocAttr]; first | done | exact ⟨⟨rfl, rfl⟩, rfl, rfl⟩ | simp [argO, convV]) ?_
        rintro rs o ⟨rfl, rfl⟩
        rw [hkk]
        (try simp only [AW7, simprocAttr, hX]); (repeat (with_reducible refine And.intro ?_ ?_); exact vc0)
        (repeat (with_reducible refine And.intro ?_ ?_); exact vc0); refine hK _ ?_; clear hK K; refine Run.nq ?_
        refine Run.retW [2] (by decide) (by rw [hfn]; rfl) (by simp only [AW7, simprocAttr, hX]; rfl) (by simp only [AW7, simprocAttr, hX]) (hfin _ _ rfl rfl ?_)
        rfl
      | true =>
        cases hM : brB d a b with
        | true =>
          rw [moe_on hI hM]
          refine Run.nq ?_; refine Run.regionW hC (fun K hK => ?_); simp only [AW7, simprocAttr, hX]; (repeat (with_reducible refine And.intro ?_ ?_); exact vc0)
          refine .inr ⟨rfl, ?_⟩
          refine FunA.callW hP hT (c_spec_IsBruhatBelow d a b (by omega)) (by simp only [AW7, simprocAttr]) ?_
          rintro rs o ⟨rfl, rfl⟩
          rw [hM]
          (try simp only [AW7, simprocAttr, hX]); (repeat (with_reducible refine And.intro ?_ ?_); exact vc0)
          refine .inr ⟨rfl, ?_⟩
          refine FunA.callW hP hT (c_spec_SignOf2 a) (by simp only [AW7, simprocAttr]) ?_
          rintro rs o ⟨rfl, rfl⟩
          (try simp only [AW7, simprocAttr, hX]); (repeat (with_reducible refine And.intro ?_ ?_); exact vc0)
          refine .inr ⟨rfl, ?_⟩
          refine FunA.callW hP hT (c_spec_SignOf2 b) (by simp only [AW7, simprocAttr]) ?_
          rintro rs o ⟨rfl, rfl⟩
          simp (disch := omega) only [wrap_id, AW7, simprocAttr, hX]; (repeat (with_reducible refine And.intro ?_ ?_); exact vc0)
          rw [hee]
          refine .inr ⟨rfl, ?_⟩
          refine FunA.callW hP hT (c_spec_IsBruhatBelow d a b (by omega)) (by simp only [AW7, simprocAttr]) ?_
          rintro rs o ⟨rfl, rfl⟩
          rw [hM]
          (try simp only [AW7, simprocAttr, hX]); (repeat (with_reducible refine And.intro ?_ ?_); exact vc0)
          (repeat (with_reducible refine And.intro ?_ ?_); exact vc0); refine hK _ ?_; clear hK K; refine Run.nq ?_
          refine Run.nq ?_; refine Run.condW (by simp only [AW7, simprocAttr, hX]; rfl) (by simp only [AW7, simprocAttr, hX]) ?_ ?_
          · intro h; exact absurd h (by simp)
          intro _
          refine Run.reK hpin [0, 15, 16, 17] [] (by decide) (by simp) ?_; simp only [AR, AW7, simprocAttr]
          have i1 := itvX_len d a b
          have i2 := itvX_rows d a b
          have hbb : (itvB d a b == itvB d a b) = true := by simp
          have hii : (itvX d a b == itvX d a b) = true := by simp
          refine Run.nq ?_; refine Run.regionW hC (fun K hK => ?_); simp only [AW7, simprocAttr, hX]; (repeat (with_reducible refine And.intro ?_ ?_); exact vc0)
          refine FunA.callW hP hT (c_impl_IntervalOf d a b (by omega)) (by simp only [AW7, simprocAttr]) ?_
          rintro rs o ⟨rfl, h1, _, rfl⟩
          (try simp only [AW7, simprocAttr, hX]); (repeat (with_reducible refine And.intro ?_ ?_); exact vc0)
          (repeat (with_reducible refine And.intro ?_ ?_); exact vc0); refine hK _ ?_; clear hK K; refine Run.nq ?_
          refine Run.nq ?_; refine Run.regionW hC (fun K hK => ?_); simp only [AW7, simprocAttr, hX]; (repeat (with_reducible refine And.intro ?_ ?_); exact vc0)
          refine FunA.callW hP hT (c_spec_IntervalOf d a b (by omega)) (by simp only [AW7, simprocAttr]) ?_
          rintro rs o ⟨rfl, h2, _, rfl⟩
          (try simp only [AW7, simprocAttr, hX]); (repeat (with_reducible refine And.intro ?_ ?_); exact vc0)
          (repeat (with_reducible refine And.intro ?_ ?_); exact vc0); refine hK _ ?_; clear hK K; refine Run.nq ?_
          refine Run.reK hpin [0, 22, 23, 24, 25] [0, 1] (by decide) (by simp) ?_; simp only [AR, AW7, simprocAttr]
          refine Run.nq ?_; refine Run.regionW hC (fun K hK => ?_); simp only [AW7, simprocAttr, hX]; (repeat (with_reducible refine And.intro ?_ ?_); exact vc0)
          refine FunA.callW hP hT (c_DrawLowerInterval code hcl) (by simp only [AW7, simprocAttr]) ?_
          rintro rs o ⟨e, w, ⟨e1, e2⟩, hw, rfl, rfl⟩
          (try simp only [AW7, simprocAttr, hX]); (repeat (with_reducible refine And.intro ?_ ?_); exact vc0)
          (repeat (with_reducible refine And.intro ?_ ?_); exact vc0); refine hK _ ?_; clear hK K; refine Run.nq ?_
          have j1 := lowX_len e w
          have j2 := lowX_rows e w
          have hll : (lowB e w == lowB e w) = true := by simp
          have hjj : (lowX e w == lowX e w) = true := by simp
          refine Run.nq ?_; refine Run.regionW hC (fun K hK => ?_); simp only [AW7, simprocAttr, hX]; (repeat (with_reducible refine And.intro ?_ ?_); exact vc0)
          refine FunA.callW hP hT (c_impl_LowerInterval e w (by omega)) (by simp only [AW7, simprocAttr]) ?_
          rintro rs o ⟨rfl, h3, _, rfl⟩
          (try simp only [AW7, simprocAttr, hX]); (repeat (with_reducible refine And.intro ?_ ?_); exact vc0)
          (repeat (with_reducible refine And.intro ?_ ?_); exact vc0); refine hK _ ?_; clear hK K; refine Run.nq ?_
          refine Run.nq ?_; refine Run.regionW hC (fun K hK => ?_); simp only [AW7, simprocAttr, hX]; (repeat (with_reducible refine And.intro ?_ ?_); exact vc0)
          refine FunA.callW hP hT (c_spec_LowerInterval e w (by omega)) (by simp only [AW7, simprocAttr]) ?_
          rintro rs o ⟨rfl, h4, _, rfl⟩
          (try simp only [AW7, simprocAttr, hX]); (repeat (with_reducible refine And.intro ?_ ?_); exact vc0)
          (repeat (with_reducible refine And.intro ?_ ?_); exact vc0); refine hK _ ?_; clear hK K; refine Run.nq ?_
          refine Run.reK hpin [0, 22, 23, 24, 25, 28, 29, 30, 31] [0, 1, 2, 3] (by decide) (by simp) ?_; simp only [AR, AW7, simprocAttr]
          refine Run.nq ?_; refine Run.regionW hC (fun K hK => ?_); simp only [AW7, simprocAttr, hX]; (repeat (with_reducible refine And.intro ?_ ?_); exact vc0)
          refine FunA.callW hP hT (c_DrawBruhatCovers code hcl) (by simp only [AW7, simprocAttr]) ?_
          rintro rs o ⟨f, z, ⟨f1, f2⟩, hz, rfl, rfl⟩
          (try simp only [AW7, simprocAttr, hX]); (repeat (with_reducible refine And.intro ?_ ?_); exact vc0)
          (repeat (with_reducible refine And.intro ?_ ?_); exact vc0); refine hK _ ?_; clear hK K; refine Run.nq ?_
          obtain ⟨k1, k2⟩ := bcv_small f z
          have hkk : (bcv f z == bcv f z) = true := by simp
          refine Run.nq ?_; refine Run.regionW hC (fun K hK => ?_); simp only [AW7, simprocAttr, hX]; (repeat (with_reducible refine And.intro ?_ ?_); exact vc0)
          refine FunA.callW hP hT (c_impl_BruhatCovers f z (by omega)) (by simp only [AW7, simprocAttr]) ?_
          rintro rs o ⟨rfl, h5, _, rfl⟩
          (try simp only [AW7, simprocAttr, hX]); (repeat (with_reducible refine And.intro ?_ ?_); exact vc0)
          (repeat (with_reducible refine And.intro ?_ ?_); exact vc0); refine hK _ ?_; clear hK K; refine Run.nq ?_
          refine Run.reK hpin [22, 23, 24, 25, 28, 29, 30, 31, 32, 33, 34] [0, 1, 2, 3, 4] (by decide) (by simp) ?_; simp only [AR, AW7, simprocAttr]
          refine Run.unmat hC 4 rfl ?_
          simp only [AW7, simprocAttr]
          refine Run.letgoK 4 [22, 23, 24, 25, 28, 29, 30, 31, 32, 33, 34] rfl ?_; simp only [AL, frV_cons, frV_nil, AW7, simprocAttr]
          refine Run.nq ?_; refine Run.regionW hC (fun K hK => ?_); simp only [AW7, simprocAttr, hX]; (repeat (with_reducible refine And.intro ?_ ?_); exact vc0); refine hK _ ?_; clear hK K; refine Run.nq ?_
          refine Run.reK hpin [22, 23, 24, 25, 28, 29, 30, 31, 32, 33, 34, 35] [0, 1, 2, 3] (by decide) (by simp) ?_; simp only [AR, AW7, simprocAttr]
          refine Run.loopI (X := Nat) (fun i => ⟨289, [(22, true, .v (.own 0 0)), (23, true, .v (.bool ((itvB d a b)))), (24, true, .v (.own 1 0)), (25, true, .v (.bool ((itvB d a b)))), (28, true, .v (.own 2 0)), (29, true, .v (.bool ((lowB e w)))), (30, true, .v (.own 3 0)), (31, true, .v (.bool ((lowB e w)))), (32, true, .v (.sl true (.row true) (f))), (33, true, .v (.sl true .int (z))), (34, true, .v (.sl true (.row true) ((bcv f z)))), (35, true, .v (.int .i64 (i)))], [.mat h1 (itvX d a b) 0 true, .mat h2 (itvX d a b) 0 true, .mat h3 (lowX e w) 0 true, .mat h4 (lowX e w) 0 true]⟩) (fun i => i ≤ (bcv f z).length) (fun i => (bcv f z).length - i) (0) (Nat.zero_le _) ?_ ?_
          · exact Le.sub (by first | rfl | simp) (by simp only [AW7, simprocAttr, hX]; try simp <;> try (first | rfl | exact ⟨rfl, rfl⟩ | exact ⟨rfl, rfl, rfl⟩))
          rintro i hi ih
          try simp only []
          refine Run.nq ?_; refine Run.regionW hC (fun K hK => ?_); simp only [AW7, simprocAttr, hX]; (repeat (with_reducible refine And.intro ?_ ?_); exact vc0); refine hK _ ?_; clear hK K; refine Run.nq ?_
          refine Run.nq ?_; refine Run.condW (by simp only [AW7, simprocAttr, hX]; rfl) (by simp only [AW7, simprocAttr, hX]) ?_ ?_
          · intro hx
            have hx : i < (bcv f z).length := by rw [decide_eq_true_eq] at hx; omega
            have hbl : brB f ((bcv f z).getD i []) z = true := bcv_below (by rw [List.getD_eq_getElem?_getD, List.getElem?_eq_getElem hx]; exact List.getElem_mem hx)
            refine Run.nq ?_; refine Run.regionW hC (fun K hK => ?_); simp only [AW7, simprocAttr, hX]; (repeat (with_reducible refine And.intro ?_ ?_); exact vc0)
            refine FunA.callW hP hT (c_impl_IsBruhatBelow f ((bcv f z).getD i []) z (by omega)) (by simp only [AW7, simprocAttr]) ?_
            rintro rs o ⟨rfl, rfl⟩
            rw [hbl]
            (try simp only [AW7, simprocAttr, hX]); (repeat (with_reducible refine And.intro ?_ ?_); exact vc0)
            (repeat (with_reducible refine And.intro ?_ ?_); exact vc0); refine hK _ ?_; clear hK K; refine Run.nq ?_
            refine Run.nq ?_; refine Run.condW (by simp only [AW7, simprocAttr, hX]; rfl) (by simp only [AW7, simprocAttr, hX]) ?_ ?_
            · intro h; exact absurd h (by simp)
            intro _
            refine Run.reK hpin [22, 23, 24, 25, 28, 29, 30, 31, 32, 33, 34, 35] [0, 1, 2, 3] (by decide) (by simp) ?_; simp only [AR, AW7, simprocAttr]
            refine Run.nq ?_; refine Run.regionW hC (fun K hK => ?_); simp (disch := omega) only [wrap_id, AW7, simprocAttr, hX]; (repeat (with_reducible refine And.intro ?_ ?_); exact vc0); refine hK _ ?_; clear hK K; refine Run.nq ?_
            refine Run.le ?_ (ih (i + 1) (hx) (by (try simp only [List.length_append, List.length_cons, List.length_nil]); omega))
            exact Le.sub (by rfl) (by simp only [AW7, simprocAttr]; try simp)
          intro _
          refine Run.exit rfl ?_; refine Run.nq ?_
          refine Run.nq ?_; refine Run.regionW hC (fun K hK => ?_); simp only [AW7, simprocAttr, hX]; (repeat (with_reducible refine And.intro ?_ ?_); exact vc0)
          refine .inr ⟨rfl, ?_⟩
          refine FunA.callW hP hT (c_sameWords (itvX d a b) (itvX d a b) (by omega) (fun r hr => by have := i2 r hr; omega)) (by simp only [AW7, simprocAttr]; first | done | exact ⟨⟨rfl, rfl⟩, rfl, rfl⟩ | simp [argO, convV]) ?_
          rintro rs o ⟨rfl, rfl⟩
          rw [hii]
          (try simp only [AW7, simprocAttr, hX]); (repeat (with_reducible refine And.intro ?_ ?_); exact vc0)
          refine .inr ⟨rfl, ?_⟩
          refine FunA.callW hP hT (c_sameWords (lowX e w) (lowX e w) (by omega) (fun r hr => by have := j2 r hr; omega)) (by simp only [AW7, simprocAttr]; first | done | exact ⟨⟨rfl, rfl⟩, rfl, rfl⟩ | simp [argO, convV]) ?_
          rintro rs o ⟨rfl, rfl⟩
          rw [hjj]
          (try simp only [AW7, simprocAttr, hX]); (repeat (with_reducible refine And.intro ?_ ?_); exact vc0)
          refine .inr ⟨rfl, ?_⟩
          refine FunA.callW hP hT (c_spec_BruhatCovers f z (by omega)) (by simp only [AW7, simprocAttr]) ?_
          rintro rs o ⟨rfl, h6, _, rfl⟩
          (try simp only [AW7, simprocAttr, hX]); (repeat (with_reducible refine And.intro ?_ ?_); exact vc0)
          refine .inr ⟨rfl, ?_⟩
          refine FunA.callW hP hT (c_sameWords (bcv f z) (bcv f z) (by omega) (fun r hr => by have := k2 r hr; omega)) (by simp only [AW7, simprocAttr]; first | done | exact ⟨⟨rfl, rfl⟩, rfl, rfl⟩ | simp [argO, convV]) ?_
          rintro rs o ⟨rfl, rfl⟩
          rw [hkk]
          (try simp only [AW7, simprocAttr, hX]); (repeat (with_reducible refine And.intro ?_ ?_); exact vc0)
          (repeat (with_reducible refine And.intro ?_ ?_); exact vc0); refine hK _ ?_; clear hK K; refine Run.nq ?_
          refine Run.retW [2] (by decide) (by rw [hfn]; rfl) (by simp only [AW7, simprocAttr, hX]; rfl) (by simp only [AW7, simprocAttr, hX]) (hfin _ _ rfl rfl ?_)
          rfl
        | false =>
          rw [moe_off hI hM]
          refine Run.nq ?_; refine Run.regionW hC (fun K hK => ?_); simp only [AW7, simprocAttr, hX]; (repeat (with_reducible refine And.intro ?_ ?_); exact vc0)
          refine .inr ⟨rfl, ?_⟩
          refine FunA.callW hP hT (c_spec_IsBruhatBelow d a b (by omega)) (by simp only [AW7, simprocAttr]) ?_
          rintro rs o ⟨rfl, rfl⟩
          rw [hM]
          (try simp only [AW7, simprocAttr, hX]); (repeat (with_reducible refine And.intro ?_ ?_); exact vc0)
          refine .inl (CallG.off (.int .i64 0) ?_)
          (try simp only [AW7, simprocAttr, hX]); (repeat (with_reducible refine And.intro ?_ ?_); exact vc0)
          refine .inl (CallG.off (.int .i64 0) ?_)
          (try simp only [AW7, simprocAttr, hX]); (repeat (with_reducible refine And.intro ?_ ?_); exact vc0)
          refine .inr ⟨rfl, ?_⟩
          refine FunA.callW hP hT (c_spec_IsBruhatBelow d a b (by omega)) (by simp only [AW7, simprocAttr]) ?_
          rintro rs o ⟨rfl, rfl⟩
          rw [hM]
          (try simp only [AW7, simprocAttr, hX]); (repeat (with_reducible refine And.intro ?_ ?_); exact vc0)
          (repeat (with_reducible refine And.intro ?_ ?_); exact vc0); refine hK _ ?_; clear hK K; refine Run.nq ?_
          refine Run.nq ?_; refine Run.condW (by simp only [AW7, simprocAttr, hX]; rfl) (by simp only [AW7, simprocAttr, hX]) ?_ ?_
          · intro h; exact absurd h (by simp)
          intro _
          refine Run.reK hpin [0, 15, 16, 17] [] (by decide) (by simp) ?_; simp only [AR, AW7, simprocAttr]
          have i1 := itvX_len d a b
          have i2 := itvX_rows d a b
          have hbb : (itvB d a b == itvB d a b) = true := by simp
          have hii : (itvX d a b == itvX d a b) = true := by simp
          refine Run.nq ?_; refine Run.regionW hC (fun K hK => ?_); simp only [AW7, simprocAttr, hX]; (repeat (with_reducible refine And.intro ?_ ?_); exact vc0)
          refine FunA.callW hP hT (c_impl_IntervalOf d a b (by omega)) (by simp only [AW7, simprocAttr]) ?_
          rintro rs o ⟨rfl, h1, _, rfl⟩
          (try simp only [AW7, simprocAttr, hX]); (repeat (with_reducible refine And.intro ?_ ?_); exact vc0)
          (repeat (with_reducible refine And.intro ?_ ?_); exact vc0); refine hK _ ?_; clear hK K; refine Run.nq ?_
          refine Run.nq ?_; refine Run.regionW hC (fun K hK => ?_); simp only [AW7, simprocAttr, hX]; (repeat (with_reducible refine And.intro ?_ ?_); exact vc0)
          refine FunA.callW hP hT (c_spec_IntervalOf d a b (by omega)) (by simp only [AW7, simprocAttr]) ?_
          rintro rs o ⟨rfl, h2, _, rfl⟩
          (try simp only [AW7, simprocAttr, hX]); (repeat (with_reducible refine And.intro ?_ ?_); exact vc0)
          (repeat (with_reducible refine And.intro ?_ ?_); exact vc0); refine hK _ ?_; clear hK K; refine Run.nq ?_
          refine Run.reK hpin [0, 22, 23, 24, 25] [0, 1] (by decide) (by simp) ?_; simp only [AR, AW7, simprocAttr]
          refine Run.nq ?_; refine Run.regionW hC (fun K hK => ?_); simp only [AW7, simprocAttr, hX]; (repeat (with_reducible refine And.intro ?_ ?_); exact vc0)
          refine FunA.callW hP hT (c_DrawLowerInterval code hcl) (by simp only [AW7, simprocAttr]) ?_
          rintro rs o ⟨e, w, ⟨e1, e2⟩, hw, rfl, rfl⟩
          (try simp only [AW7, simprocAttr, hX]); (repeat (with_reducible refine And.intro ?_ ?_); exact vc0)
          (repeat (with_reducible refine And.intro ?_ ?_); exact vc0); refine hK _ ?_; clear hK K; refine Run.nq ?_
          have j1 := lowX_len e w
          have j2 := lowX_rows e w
          have hll : (lowB e w == lowB e w) = true := by simp
          have hjj : (lowX e w == lowX e w) = true := by simp
          refine Run.nq ?_; refine Run.regionW hC (fun K hK => ?_); simp only [AW7, simprocAttr, hX]; (repeat (with_reducible refine And.intro ?_ ?_); exact vc0)
          refine FunA.callW hP hT (c_impl_LowerInterval e w (by omega)) (by simp only [AW7, simprocAttr]) ?_
          rintro rs o ⟨rfl, h3, _, rfl⟩
          (try simp only [AW7, simprocAttr, hX]); (repeat (with_reducible refine And.intro ?_ ?_); exact vc0)
          (repeat (with_reducible refine And.intro ?_ ?_); exact vc0); refine hK _ ?_; clear hK K; refine Run.nq ?_
          refine Run.nq ?_; refine Run.regionW hC (fun K hK => ?_); simp only [AW7, simprocAttr, hX]; (repeat (with_reducible refine And.intro ?_ ?_); exact vc0)
          refine FunA.callW hP hT (c_spec_LowerInterval e w (by omega)) (by simp only [AW7, simprocAttr]) ?_
          rintro rs o ⟨rfl, h4, _, rfl⟩
          (try simp only [AW7, simprocAttr, hX]); (repeat (with_reducible refine And.intro ?_ ?_); exact vc0)
          (repeat (with_reducible refine And.intro ?_ ?_); exact vc0); refine hK _ ?_; clear hK K; refine Run.nq ?_
          refine Run.reK hpin [0, 22, 23, 24, 25, 28, 29, 30, 31] [0, 1, 2, 3] (by decide) (by simp) ?_; simp only [AR, AW7, simprocAttr]
          refine Run.nq ?_; refine Run.regionW hC (fun K hK => ?_); simp only [AW7, simprocAttr, hX]; (repeat (with_reducible refine And.intro ?_ ?_); exact vc0)
          refine FunA.callW hP hT (c_DrawBruhatCovers code hcl) (by simp only [AW7, simprocAttr]) ?_
          rintro rs o ⟨f, z, ⟨f1, f2⟩, hz, rfl, rfl⟩
          (try simp only [AW7, simprocAttr, hX]); (repeat (with_reducible refine And.intro ?_ ?_); exact vc0)
          (repeat (with_reducible refine And.intro ?_ ?_); exact vc0); refine hK _ ?_; clear hK K; refine Run.nq ?_
          obtain ⟨k1, k2⟩ := bcv_small f z
          have hkk : (bcv f z == bcv f z) = true := by simp
          refine Run.nq ?_; refine Run.regionW hC (fun K hK => ?_); simp only [AW7, simprocAttr, hX]; (repeat (with_reducible refine And.intro ?_ ?_); exact vc0)
          refine FunA.callW hP hT (c_impl_BruhatCovers f z (by omega)) (by simp only [AW7, simprocAttr]) ?_
          rintro rs o ⟨rfl, h5, _, rfl⟩
          (try simp only [AW7, simprocAttr, hX]); (repeat (with_reducible refine And.intro ?_ ?_); exact vc0)
          (repeat (with_reducible refine And.intro ?_ ?_); exact vc0); refine hK _ ?_; clear hK K; refine Run.nq ?_
          refine Run.reK hpin [22, 23, 24, 25, 28, 29, 30, 31, 32, 33, 34] [0, 1, 2, 3, 4] (by decide) (by simp) ?_; simp only [AR, AW7, simprocAttr]
          refine Run.unmat hC 4 rfl ?_
          simp only [AW7, simprocAttr]
          refine Run.letgoK 4 [22, 23, 24, 25, 28, 29, 30, 31, 32, 33, 34] rfl ?_; simp only [AL, frV_cons, frV_nil, AW7, simprocAttr]
          refine Run.nq ?_; refine Run.regionW hC (fun K hK => ?_); simp only [AW7, simprocAttr, hX]; (repeat (with_reducible refine And.intro ?_ ?_); exact vc0); refine hK _ ?_; clear hK K; refine Run.nq ?_
          refine Run.reK hpin [22, 23, 24, 25, 28, 29, 30, 31, 32, 33, 34, 35] [0, 1, 2, 3] (by decide) (by simp) ?_; simp only [AR, AW7, simprocAttr]
          refine Run.loopI (X := Nat) (fun i => ⟨289, [(22, true, .v (.own 0 0)), (23, true, .v (.bool ((itvB d a b)))), (24, true, .v (.own 1 0)), (25, true, .v (.bool ((itvB d a b)))), (28, true, .v (.own 2 0)), (29, true, .v (.bool ((lowB e w)))), (30, true, .v (.own 3 0)), (31, true, .v (.bool ((lowB e w)))), (32, true, .v (.sl true (.row true) (f))), (33, true, .v (.sl true .int (z))), (34, true, .v (.sl true (.row true) ((bcv f z)))), (35, true, .v (.int .i64 (i)))], [.mat h1 (itvX d a b) 0 true, .mat h2 (itvX d a b) 0 true, .mat h3 (lowX e w) 0 true, .mat h4 (lowX e w) 0 true]⟩) (fun i => i ≤ (bcv f z).length) (fun i => (bcv f z).length - i) (0) (Nat.zero_le _) ?_ ?_
          · exact Le.sub (by first | rfl | simp) (by simp only [AW7, simprocAttr, hX]; try simp <;> try (first | rfl | exact ⟨rfl, rfl⟩ | exact ⟨rfl, rfl, rfl⟩))
          rintro i hi ih
          try simp only []
          refine Run.nq ?_; refine Run.regionW hC (fun K hK => ?_); simp only [AW7, simprocAttr, hX]; (repeat (with_reducible refine And.intro ?_ ?_); exact vc0); refine hK _ ?_; clear hK K; refine Run.nq ?_
          refine Run.nq ?_; refine Run.condW (by simp only [AW7, simprocAttr, hX]; rfl) (by simp only [AW7, simprocAttr, hX]) ?_ ?_
          · intro hx
            have hx : i < (bcv f z).length := by rw [decide_eq_true_eq] at hx; omega
            have hbl : brB f ((bcv f z).getD i []) z = true := bcv_below (by rw [List.getD_eq_getElem?_getD, List.getElem?_eq_getElem hx]; exact List.getElem_mem hx)
            refine Run.nq ?_; refine Run.regionW hC (fun K hK => ?_); simp only [AW7, simprocAttr, hX]; (repeat (with_reducible refine And.intro ?_ ?_); exact vc0)
            refine FunA.callW hP hT (c_impl_IsBruhatBelow f ((bcv f z).getD i []) z (by omega)) (by simp only [AW7, simprocAttr]) ?_
            rintro rs o ⟨rfl, rfl⟩
            rw [hbl]
            (try simp only [AW7, simprocAttr, hX]); (repeat (with_reducible refine And.intro ?_ ?_); exact vc0)
            (repeat (with_reducible refine And.intro ?_ ?_); exact vc0); refine hK _ ?_; clear hK K; refine Run.nq ?_
            refine Run.nq ?_; refine Run.condW (by simp only [AW7, simprocAttr, hX]; rfl) (by simp only [AW7, simprocAttr, hX]) ?_ ?_
            · intro h; exact absurd h (by simp)
            intro _
            refine Run.reK hpin [22, 23, 24, 25, 28, 29, 30, 31, 32, 33, 34, 35] [0, 1, 2, 3] (by decide) (by simp) ?_; simp only [AR, AW7, simprocAttr]
            refine Run.nq ?_; refine Run.regionW hC (fun K hK => ?_); simp (disch := omega) only [wrap_id, AW7, simprocAttr, hX]; (repeat (with_reducible refine And.intro ?_ ?_); exact vc0); refine hK _ ?_; clear hK K; refine Run.nq ?_
            refine Run.le ?_ (ih (i + 1) (hx) (by (try simp only [List.length_append, List.length_cons, List.length_nil]); omega))
            exact Le.sub (by rfl) (by simp only [AW7, simprocAttr]; try simp)
          intro _
          refine Run.exit rfl ?_; refine Run.nq ?_
          refine Run.nq ?_; refine Run.regionW hC (fun K hK => ?_); simp only [AW7, simprocAttr, hX]; (repeat (with_reducible refine And.intro ?_ ?_); exact vc0)
          refine .inr ⟨rfl, ?_⟩
          refine FunA.callW hP hT (c_sameWords (itvX d a b) (itvX d a b) (by omega) (fun r hr => by have := i2 r hr; omega)) (by simp only [AW7, simprocAttr]; first | done | exact ⟨⟨rfl, rfl⟩, rfl, rfl⟩ | simp [argO, convV]) ?_
          rintro rs o ⟨rfl, rfl⟩
          rw [hii]
          (try simp only [AW7, simprocAttr, hX]); (repeat (with_reducible refine And.intro ?_ ?_); exact vc0)
          refine .inr ⟨rfl, ?_⟩
          refine FunA.callW hP hT (c_sameWords (lowX e w) (lowX e w) (by omega) (fun r hr => by have := j2 r hr; omega)) (by simp only [AW7, simprocAttr]; first | done | exact ⟨⟨rfl, rfl⟩, rfl, rfl⟩ | simp [argO, convV]) ?_
          rintro rs o ⟨rfl, rfl⟩
          rw [hjj]
          (try simp only [AW7, simprocAttr, hX]); (repeat (with_reducible refine And.intro ?_ ?_); exact vc0)
          refine .inr ⟨rfl, ?_⟩
          refine FunA.callW hP hT (c_spec_BruhatCovers f z (by omega)) (by simp only [AW7, simprocAttr]) ?_
          rintro rs o ⟨rfl, h6, _, rfl⟩
          (try simp only [AW7, simprocAttr, hX]); (repeat (with_reducible refine And.intro ?_ ?_); exact vc0)
          refine .inr ⟨rfl, ?_⟩
          refine FunA.callW hP hT (c_sameWords (bcv f z) (bcv f z) (by omega) (fun r hr => by have := k2 r hr; omega)) (by simp only [AW7, simprocAttr]; first | done | exact ⟨⟨rfl, rfl⟩, rfl, rfl⟩ | simp [argO, convV]) ?_
          rintro rs o ⟨rfl, rfl⟩
          rw [hkk]
          (try simp only [AW7, simprocAttr, hX]); (repeat (with_reducible refine And.intro ?_ ?_); exact vc0)
          (repeat (with_reducible refine And.intro ?_ ?_); exact vc0); refine hK _ ?_; clear hK K; refine Run.nq ?_
          refine Run.retW [2] (by decide) (by rw [hfn]; rfl) (by simp only [AW7, simprocAttr, hX]; rfl) (by simp only [AW7, simprocAttr, hX]) (hfin _ _ rfl rfl ?_)
          rfl
    | true =>
      obtain ⟨q1, q2, q3, q4, q5⟩ := hpl hB
      rw [hB] at hrev
      have hnf : nfW c v = redL c v := by simp [nfW, hv]
      have hrl : (redL c u).length ≤ 15 := by have := (red_spec hc u2 (by omega)).2.1; omega
      have hw : wordB c (subT c (imageL c u) (redL c v)) = true := wordB_iff.2 ⟨hc, by omega, q4⟩
      have hsame : sameB c (subT c (imageL c u) (redL c v)) u = true := by unfold sameB; rw [hw, hu, q2]; simp
      refine Run.nq ?_; refine Run.regionW hC (fun K hK => ?_); simp only [AW7, simprocAttr, hX]; (repeat (with_reducible refine And.intro ?_ ?_); exact vc0)
      refine .inr ⟨rfl, ?_⟩
      refine FunA.callW hP hT (c_sameInts (subW c u v) (subW c u v) (by omega)) (by simp only [AW7, simprocAttr]) ?_
      rintro rs o ⟨rfl, rfl⟩
      rw [hss]
      (try simp only [AW7, simprocAttr, hX]); (repeat (with_reducible refine And.intro ?_ ?_); exact vc0)
      refine .inr ⟨rfl, ?_⟩
      refine FunA.callW hP hT (c_spec_ReverseWord u (by omega)) (by simp only [AW7, simprocAttr]) ?_
      rintro rs o ⟨rfl, rfl⟩
      (try simp only [AW7, simprocAttr, hX]); (repeat (with_reducible refine And.intro ?_ ?_); exact vc0)
      refine .inr ⟨rfl, ?_⟩
      refine FunA.callW hP hT (c_spec_ReverseWord v (by omega)) (by simp only [AW7, simprocAttr]) ?_
      rintro rs o ⟨rfl, rfl⟩
      (try simp only [AW7, simprocAttr, hX]); (repeat (with_reducible refine And.intro ?_ ?_); exact vc0)
      refine .inr ⟨rfl, ?_⟩
      refine FunA.callW hP hT (c_impl_IsBruhatBelow c u.reverse v.reverse (by omega)) (by simp only [AW7, simprocAttr]) ?_
      rintro rs o ⟨rfl, rfl⟩
      rw [hrev]
      (try simp only [AW7, simprocAttr, hX]); (repeat (with_reducible refine And.intro ?_ ?_); exact vc0)
      refine .inr ⟨rfl, ?_⟩
      refine FunA.callW hP hT (c_impl_IsBruhatBelow c v u (by omega)) (by simp only [AW7, simprocAttr]) ?_
      rintro rs o ⟨rfl, rfl⟩
      cases hV : brB c v u with
      | false =>
        (try simp only [AW7, simprocAttr, hX]); (repeat (with_reducible refine And.intro ?_ ?_); exact vc0)
        refine .inl (CallG.off (.bool false) ?_)
        (try simp only [AW7, simprocAttr, hX]); (repeat (with_reducible refine And.intro ?_ ?_); exact vc0)
        (repeat (with_reducible refine And.intro ?_ ?_); exact vc0); refine hK _ ?_; clear hK K; refine Run.nq ?_
        refine Run.nq ?_; refine Run.condW (by simp only [AW7, simprocAttr, hX]; rfl) (by simp only [AW7, simprocAttr, hX]) ?_ ?_
        · intro h; exact absurd h (by simp)
        intro _
        refine Run.nq ?_; refine Run.regionW hC (fun K hK => ?_); simp only [AW7, simprocAttr, hX]; (repeat (with_reducible refine And.intro ?_ ?_); exact vc0); refine hK _ ?_; clear hK K; refine Run.nq ?_
        refine Run.nq ?_; refine Run.condW (by simp only [AW7, simprocAttr, hX]; rfl) (by simp only [AW7, simprocAttr, hX]) ?_ ?_
        rotate_left
        · intro h; exact absurd h (by simp)
        intro _
        refine Run.reK hpin [0, 3, 4, 5, 7] [] (by decide) (by simp) ?_; simp only [AR, AW7, simprocAttr]
        refine Run.nq ?_; refine Run.regionW hC (fun K hK => ?_); simp only [AW7, simprocAttr, hX]; (repeat (with_reducible refine And.intro ?_ ?_); exact vc0)
        refine FunA.callW hP hT (c_spec_NormalForm c v (by omega)) (by simp only [AW7, simprocAttr]) ?_
        rintro rs o ⟨rfl, rfl⟩
        (try simp only [AW7, simprocAttr, hX]); (repeat (with_reducible refine And.intro ?_ ?_); exact vc0)
        (repeat (with_reducible refine And.intro ?_ ?_); exact vc0); refine hK _ ?_; clear hK K; refine Run.nq ?_
        rw [hnf]
        refine Run.reK hpin [0, 3, 4, 7, 11] [0] (by decide) (by simp) ?_; simp only [AR, AW7, simprocAttr]
        refine Run.letgoK 0 [0, 3, 4, 7, 11] rfl ?_; simp only [AL, frV_cons, frV_nil, AW7, simprocAttr]
        refine Run.reK hpin [0, 3, 4, 7, 11] [] (by decide) (by simp) ?_; simp only [AR, AW7, simprocAttr]
        refine Run.nq ?_; refine Run.regionW hC (fun K hK => ?_); simp only [AW7, simprocAttr, hX]; (repeat (with_reducible refine And.intro ?_ ?_); exact vc0); refine hK _ ?_; clear hK K; refine Run.nq ?_
        refine Run.nq ?_; refine Run.regionW hC (fun K hK => ?_); simp only [AW7, simprocAttr, hX]; (repeat (with_reducible refine And.intro ?_ ?_); exact vc0); refine hK _ ?_; clear hK K; refine Run.nq ?_
        refine Run.reK hpin [0, 3, 4, 7, 11, 13, 14] [0] (by decide) (by simp) ?_; simp only [AR, AW7, simprocAttr]
        refine Run.loopI (X := Nat) (fun i => ⟨289, [(0, true, .v (.sl false .byte (code))), (3, true, .v (.sl true (.row true) (c))), (4, true, .v (.sl true .int (u))), (7, true, .v (.sl true .int ((subW c u v)))), (11, true, .v (.sl true .int ((redL c v)))), (13, true, .v (.own 0 0)), (14, true, .v (.int .i64 (i)))], [.arr .int ((((subW c u v).take i).map fun p => (redL c v).getD p.toNat 0)) 0 true]⟩) (fun i => i ≤ (subW c u v).length) (fun i => (subW c u v).length - i) (0) (Nat.zero_le _) ?_ ?_
        · exact Le.sub (by first | rfl | simp) (by simp only [AW7, simprocAttr, hX]; try simp <;> try (first | rfl | exact ⟨rfl, rfl⟩ | exact ⟨rfl, rfl, rfl⟩))
        rintro i hi ih
        try simp only []
        refine Run.nq ?_; refine Run.regionW hC (fun K hK => ?_); simp only [AW7, simprocAttr, hX]; (repeat (with_reducible refine And.intro ?_ ?_); exact vc0); refine hK _ ?_; clear hK K; refine Run.nq ?_
        refine Run.nq ?_; refine Run.condW (by simp only [AW7, simprocAttr, hX]; rfl) (by simp only [AW7, simprocAttr, hX]) ?_ ?_
        · intro hx
          have hx : i < (subW c u v).length := by rw [decide_eq_true_eq] at hx; omega
          have hp := q5 ((subW c u v).getD i 0) (by rw [List.getD_eq_getElem?_getD, List.getElem?_eq_getElem hx]; exact List.getElem_mem hx)
          have hsn : ((subW c u v).take i).map (fun p => (redL c v).getD p.toNat 0) ++ [(redL c v).getD ((subW c u v).getD i 0).toNat 0] = ((subW c u v).take (i + 1)).map fun p => (redL c v).getD p.toNat 0 := by
            rw [← take_snoc 0 _ i hx]; simp
          have hml : (((subW c u v).take i).map (fun p => (redL c v).getD p.toNat 0)).length ≤ 15 := by simp; omega
          refine Run.nq ?_; refine Run.regionW hC (fun K hK => ?_); simp only [AW7, simprocAttr, hX]; (repeat (with_reducible refine And.intro ?_ ?_); exact vc0); refine hK _ ?_; clear hK K; refine Run.nq ?_
          rw [hsn]
          refine Run.reK hpin [0, 3, 4, 7, 11, 13, 14] [0] (by decide) (by simp) ?_; simp only [AR, AW7, simprocAttr]
          refine Run.nq ?_; refine Run.regionW hC (fun K hK => ?_); simp (disch := omega) only [wrap_id, AW7, simprocAttr, hX]; (repeat (with_reducible refine And.intro ?_ ?_); exact vc0); refine hK _ ?_; clear hK K; refine Run.nq ?_
          refine Run.le ?_ (ih (i + 1) (hx) (by (try simp only [List.length_append, List.length_cons, List.length_nil]); omega))
          exact Le.sub (by rfl) (by simp only [AW7, simprocAttr]; try simp)
        intro hx
        have hx : i = (subW c u v).length := by rw [decide_eq_false_iff_not] at hx; omega
        subst hx
        refine Run.exit rfl ?_; refine Run.nq ?_
        rw [List.take_length, q1]
        refine Run.nq ?_; refine Run.regionW hC (fun K hK => ?_); simp only [AW7, simprocAttr, hX]; (repeat (with_reducible refine And.intro ?_ ?_); exact vc0)
        refine FunA.callW hP hT (c_impl_AreSame c (subT c (imageL c u) (redL c v)) u (by omega)) (by simp only [AW7, simprocAttr]) ?_
        rintro rs o ⟨rfl, rfl⟩
        rw [hsame]
        (try simp only [AW7, simprocAttr, hX]); (repeat (with_reducible refine And.intro ?_ ?_); exact vc0)
        refine .inr ⟨rfl, ?_⟩
        refine FunA.callW hP hT (c_spec_LengthOf c u (by omega)) (by simp only [AW7, simprocAttr]) ?_
        rintro rs o ⟨rfl, rfl⟩
        rw [if_pos hu, q3]
        (try simp only [AW7, simprocAttr, hX]); (repeat (with_reducible refine And.intro ?_ ?_); exact vc0)
        (repeat (with_reducible refine And.intro ?_ ?_); exact vc0); refine hK _ ?_; clear hK K; refine Run.nq ?_
        refine Run.nq ?_; refine Run.condW (by simp only [AW7, simprocAttr, hX]; rfl) (by simp only [AW7, simprocAttr, hX]) ?_ ?_
        · intro h; exact absurd h (by simp)
        intro _
        refine Run.reK hpin [0] [] (by decide) (by simp) ?_; simp only [AR, AW7, simprocAttr]
        refine Run.nq ?_; refine Run.regionW hC (fun K hK => ?_); simp only [AW7, simprocAttr, hX]; (repeat (with_reducible refine And.intro ?_ ?_); exact vc0)
        refine FunA.callW hP hT (c_DrawMoebiusOf code hcl) (by simp only [AW7, simprocAttr]) ?_
        rintro rs o ⟨d, a, b, ⟨d1, d2⟩, hal, hbl, rfl, rfl⟩
        (try simp only [AW7, simprocAttr, hX]); (repeat (with_reducible refine And.intro ?_ ?_); exact vc0)
        (repeat (with_reducible refine And.intro ?_ ?_); exact vc0); refine hK _ ?_; clear hK K; refine Run.nq ?_
        refine Run.reK hpin [0, 15, 16, 17] [] (by decide) (by simp) ?_; simp only [AR, AW7, simprocAttr]
        refine Run.nq ?_; refine Run.regionW hC (fun K hK => ?_); simp only [AW7, simprocAttr, hX]; (repeat (with_reducible refine And.intro ?_ ?_); exact vc0)
        refine FunA.callW hP hT (c_impl_MoebiusOf d a b (by omega)) (by simp only [AW7, simprocAttr]) ?_
        rintro rs o ⟨rfl, rfl⟩
        (try simp only [AW7, simprocAttr, hX]); (repeat (with_reducible refine And.intro ?_ ?_); exact vc0)
        (repeat (with_reducible refine And.intro ?_ ?_); exact vc0); refine hK _ ?_; clear hK K; refine Run.nq ?_
        refine Run.nq ?_; refine Run.regionW hC (fun K hK => ?_); simp only [AW7, simprocAttr, hX]; (repeat (with_reducible refine And.intro ?_ ?_); exact vc0)
        refine FunA.callW hP hT (c_spec_MoebiusOf d a b (by omega)) (by simp only [AW7, simprocAttr]) ?_
        rintro rs o ⟨rfl, rfl⟩
        (try simp only [AW7, simprocAttr, hX]); (repeat (with_reducible refine And.intro ?_ ?_); exact vc0)
        (repeat (with_reducible refine And.intro ?_ ?_); exact vc0); refine hK _ ?_; clear hK K; refine Run.nq ?_
        refine Run.reK hpin [0, 15, 16, 17, 18, 19, 20, 21] [] (by decide) (by simp) ?_; simp only [AR, AW7, simprocAttr]
        refine Run.nq ?_; refine Run.regionW hC (fun K hK => ?_); simp only [AW7, simprocAttr, hX]; (repeat (with_reducible refine And.intro ?_ ?_); exact vc0); refine hK _ ?_; clear hK K; refine Run.nq ?_
        refine Run.nq ?_; refine Run.condW (by simp only [AW7, simprocAttr, hX]; rfl) (by simp only [AW7, simprocAttr, hX]) ?_ ?_
        · intro h; simp at h
        intro _
        have hee : (eps a * eps b != eps a * eps b) = false := by simp
        have heb : -1 ≤ eps a * eps b ∧ eps a * eps b ≤ 1 := by
          rcases eps_cases a with e1 | e1 <;> rcases eps_cases b with e2 | e2 <;> rw [e1, e2] <;> decide
        refine Run.reK hpin [0, 15, 16, 17, 18, 19] [] (by decide) (by simp) ?_; simp only [AR, AW7, simprocAttr]
        cases hI : itvB d a b with
        | false =>
          refine Run.nq ?_; refine Run.regionW hC (fun K hK => ?_); simp only [AW7, simprocAttr, hX]; (repeat (with_reducible refine And.intro ?_ ?_); exact vc0)
          refine .inl (CallG.off (.bool false) ?_)
          (try simp only [AW7, simprocAttr, hX]); (repeat (with_reducible refine And.intro ?_ ?_); exact vc0)
          refine .inl (CallG.off (.int .i64 0) ?_)
          (try simp only [AW7, simprocAttr, hX]); (repeat (with_reducible refine And.intro ?_ ?_); exact vc0)
          refine .inl (CallG.off (.int .i64 0) ?_)
          (try simp only [AW7, simprocAttr, hX]); (repeat (with_reducible refine And.intro ?_ ?_); exact vc0)
          refine .inl (CallG.off (.bool false) ?_)
          (try simp only [AW7, simprocAttr, hX]); (repeat (with_reducible refine And.intro ?_ ?_); exact vc0)
          (repeat (with_reducible refine And.intro ?_ ?_); exact vc0); refine hK _ ?_; clear hK K; refine Run.nq ?_
          refine Run.nq ?_; refine Run.condW (by simp only [AW7, simprocAttr, hX]; rfl) (by simp only [AW7, simprocAttr, hX]) ?_ ?_
          · intro h; exact absurd h (by simp)
          intro _
          refine Run.reK hpin [0, 15, 16, 17] [] (by decide) (by simp) ?_; simp only [AR, AW7, simprocAttr]
          have i1 := itvX_len d a b
          have i2 := itvX_rows d a b
          have hbb : (itvB d a b == itvB d a b) = true := by simp
          have hii : (itvX d a b == itvX d a b) = true := by simp
          refine Run.nq ?_; refine Run.regionW hC (fun K hK => ?_); simp only [AW7, simprocAttr, hX]; (repeat (with_reducible refine And.intro ?_ ?_); exact vc0)
          refine FunA.callW hP hT (c_impl_IntervalOf d a b (by omega)) (by simp only [AW7, simprocAttr]) ?_
          rintro rs o ⟨rfl, h1, _, rfl⟩
          (try simp only [AW7, simprocAttr, hX]); (repeat (with_reducible refine And.intro ?_ ?_); exact vc0)
          (repeat (with_reducible refine And.intro ?_ ?_); exact vc0); refine hK _ ?_; clear hK K; refine Run.nq ?_
          refine Run.nq ?_; refine Run.regionW hC (fun K hK => ?_); simp only [AW7, simprocAttr, hX]; (repeat (with_reducible refine And.intro ?_ ?_); exact vc0)
          refine FunA.callW hP hT (c_spec_IntervalOf d a b (by omega)) (by simp only [AW7, simprocAttr]) ?_
          rintro rs o ⟨rfl, h2, _, rfl⟩
          (try simp only [AW7, simprocAttr, hX]); (repeat (with_reducible refine And.intro ?_ ?_); exact vc0)
          (repeat (with_reducible refine And.intro ?_ ?_); exact vc0); refine hK _ ?_; clear hK K; refine Run.nq ?_
          refine Run.reK hpin [0, 22, 23, 24, 25] [0, 1] (by decide) (by simp) ?_; simp only [AR, AW7, simprocAttr]
          refine Run.nq ?_; refine Run.regionW hC (fun K hK => ?_); simp only [AW7, simprocAttr, hX]; (repeat (with_reducible refine And.intro ?_ ?_); exact vc0)
          refine FunA.callW hP hT (c_DrawLowerInterval code hcl) (by simp only [AW7, simprocAttr]) ?_
          rintro rs o ⟨e, w, ⟨e1, e2⟩, hw, rfl, rfl⟩
          (try simp only [AW7, simprocAttr, hX]); (repeat (with_reducible refine And.intro ?_ ?_); exact vc0)
          (repeat (with_reducible refine And.intro ?_ ?_); exact vc0); refine hK _ ?_; clear hK K; refine Run.nq ?_
          have j1 := lowX_len e w
          have j2 := lowX_rows e w
          have hll : (lowB e w == lowB e w) = true := by simp
          have hjj : (lowX e w == lowX e w) = true := by simp
          refine Run.nq ?_; refine Run.regionW hC (fun K hK => ?_); simp only [AW7, simprocAttr, hX]; (repeat (with_reducible refine And.intro ?_ ?_); exact vc0)
          refine FunA.callW hP hT (c_impl_LowerInterval e w (by omega)) (by simp only [AW7, simprocAttr]) ?_
          rintro rs o ⟨rfl, h3, _, rfl⟩
          (try simp only [AW7, simprocAttr, hX]); (repeat (with_reducible refine And.intro ?_ ?_); exact vc0)
          (repeat (with_reducible refine And.intro ?_ ?_); exact vc0); refine hK _ ?_; clear hK K; refine Run.nq ?_
          refine Run.nq ?_; refine Run.regionW hC (fun K hK => ?_); simp only [AW7, simprocAttr, hX]; (repeat (with_reducible refine And.intro ?_ ?_); exact vc0)
          refine FunA.callW hP hT (c_spec_LowerInterval e w (by omega)) (by simp only [AW7, simprocAttr]) ?_
          rintro rs o ⟨rfl, h4, _, rfl⟩
          (try simp only [AW7, simprocAttr, hX]); (repeat (with_reducible refine And.intro ?_ ?_); exact vc0)
          (repeat (with_reducible refine And.intro ?_ ?_); exact vc0); refine hK _ ?_; clear hK K; refine Run.nq ?_
          refine Run.reK hpin [0, 22, 23, 24, 25, 28, 29, 30, 31] [0, 1, 2, 3] (by decide) (by simp) ?_; simp only [AR, AW7, simprocAttr]
          refine Run.nq ?_; refine Run.regionW hC (fun K hK => ?_); simp only [AW7, simprocAttr, hX]; (repeat (with_reducible refine And.intro ?_ ?_); exact vc0)
          refine FunA.callW hP hT (c_DrawBruhatCovers code hcl) (by simp only [AW7, simprocAttr]) ?_
          rintro rs o ⟨f, z, ⟨f1, f2⟩, hz, rfl, rfl⟩
          (try simp only [AW7, simprocAttr, hX]); (repeat (with_reducible refine And.intro ?_ ?_); exact vc0)
          (repeat (with_reducible refine And.intro ?_ ?_); exact vc0); refine hK _ ?_; clear hK K; refine Run.nq ?_
          obtain ⟨k1, k2⟩ := bcv_small f z
          have hkk : (bcv f z == bcv f z) = true := by simp
          refine Run.nq ?_; refine Run.regionW hC (fun K hK => ?_); simp only [AW7, simprocAttr, hX]; (repeat (with_reducible refine And.intro ?_ ?_); exact vc0)
          refine FunA.callW hP hT (c_impl_BruhatCovers f z (by omega)) (by simp only [AW7, simprocAttr]) ?_
          rintro rs o ⟨rfl, h5, _, rfl⟩
          (try simp only [AW7, simprocAttr, hX]); (repeat (with_reducible refine And.intro ?_ ?_); exact vc0)
          (repeat (with_reducible refine And.intro ?_ ?_); exact vc0); refine hK _ ?_; clear hK K; refine Run.nq ?_
          refine Run.reK hpin [22, 23, 24, 25, 28, 29, 30, 31, 32, 33, 34] [0, 1, 2, 3, 4] (by decide) (by simp) ?_; simp only [AR, AW7, simprocAttr]
          refine Run.unmat hC 4 rfl ?_
          simp only [AW7, simprocAttr]
          refine Run.letgoK 4 [22, 23, 24, 25, 28, 29, 30, 31, 32, 33, 34] rfl ?_; simp only [AL, frV_cons, frV_nil, AW7, simprocAttr]
          refine Run.nq ?_; refine Run.regionW hC (fun K hK => ?_); simp only [AW7, simprocAttr, hX]; (repeat (with_reducible refine And.intro ?_ ?_); exact vc0); refine hK _ ?_; clear hK K; refine Run.nq ?_
          refine Run.reK hpin [22, 23, 24, 25, 28, 29, 30, 31, 32, 33, 34, 35] [0, 1, 2, 3] (by decide) (by simp) ?_; simp only [AR, AW7, simprocAttr]
          refine Run.loopI (X := Nat) (fun i => ⟨289, [(22, true, .v (.own 0 0)), (23, true, .v (.bool ((itvB d a b)))), (24, true, .v (.own 1 0)), (25, true, .v (.bool ((itvB d a b)))), (28, true, .v (.own 2 0)), (29, true, .v (.bool ((lowB e w)))), (30, true, .v (.own 3 0)), (31, true, .v (.bool ((lowB e w)))), (32, true, .v (.sl true (.row true) (f))), (33, true, .v (.sl true .int (z))), (34, true, .v (.sl true (.row true) ((bcv f z)))), (35, true, .v (.int .i64 (i)))], [.mat h1 (itvX d a b) 0 true, .mat h2 (itvX d a b) 0 true, .mat h3 (lowX e w) 0 true, .mat h4 (lowX e w) 0 true]⟩) (fun i => i ≤ (bcv f z).length) (fun i => (bcv f z).length - i) (0) (Nat.zero_le _) ?_ ?_
          · exact Le.sub (by first | rfl | simp) (by simp only [AW7, simprocAttr, hX]; try simp <;> try (first | rfl | exact ⟨rfl, rfl⟩ | exact ⟨rfl, rfl, rfl⟩))
          rintro i hi ih
          try simp only []
          refine Run.nq ?_; refine Run.regionW hC (fun K hK => ?_); simp only [AW7, simprocAttr, hX]; (repeat (with_reducible refine And.intro ?_ ?_); exact vc0); refine hK _ ?_; clear hK K; refine Run.nq ?_
          refine Run.nq ?_; refine Run.condW (by simp only [AW7, simprocAttr, hX]; rfl) (by simp only [AW7, simprocAttr, hX]) ?_ ?_
          · intro hx
            have hx : i < (bcv f z).length := by rw [decide_eq_true_eq] at hx; omega
            have hbl : brB f ((bcv f z).getD i []) z = true := bcv_below (by rw [List.getD_eq_getElem?_getD, List.getElem?_eq_getElem hx]; exact List.getElem_mem hx)
            refine Run.nq ?_; refine Run.regionW hC (fun K hK => ?_); simp only [AW7, simprocAttr, hX]; (repeat (with_reducible refine And.intro ?_ ?_); exact vc0)
            refine FunA.callW hP hT (c_impl_IsBruhatBelow f ((bcv f z).getD i []) z (by omega)) (by simp only [AW7, simprocAttr]) ?_
            rintro rs o ⟨rfl, rfl⟩
            rw [hbl]
            (try simp only [AW7, simprocAttr, hX]); (repeat (with_reducible refine And.intro ?_ ?_); exact vc0)
            (repeat (with_reducible refine And.intro ?_ ?_); exact vc0); refine hK _ ?_; clear hK K; refine Run.nq ?_
            refine Run.nq ?_; refine Run.condW (by simp only [AW7, simprocAttr, hX]; rfl) (by simp only [AW7, simprocAttr, hX]) ?_ ?_
            · intro h; exact absurd h (by simp)
            intro _
            refine Run.reK hpin [22, 23, 24, 25, 28, 29, 30, 31, 32, 33, 34, 35] [0, 1, 2, 3] (by decide) (by simp) ?_; simp only [AR, AW7, simprocAttr]
            refine Run.nq ?_; refine Run.regionW hC (fun K hK => ?_); simp (disch := omega) only [wrap_id, AW7, simprocAttr, hX]; (repeat (with_reducible refine And.intro ?_ ?_); exact vc0); refine hK _ ?_; clear hK K; refine Run.nq ?_
            refine Run.le ?_ (ih (i + 1) (hx) (by (try simp only [List.length_append, List.length_cons, List.length_nil]); omega))
            exact Le.sub (by rfl) (by simp only [AW7, simprocAttr]; try simp)
          intro _
          refine Run.exit rfl ?_; refine Run.nq ?_
          refine Run.nq ?_; refine Run.regionW hC (fun K hK => ?_); simp only [AW7, simprocAttr, hX]; (repeat (with_reducible refine And.intro ?_ ?_); exact vc0)
          refine .inr ⟨rfl, ?_⟩
          refine FunA.callW hP hT (c_sameWords (itvX d a b) (itvX d a b) (by omega) (fun r hr => by have := i2 r hr; omega)) (by simp only [AW7, simprocAttr]; first | done | exact ⟨⟨rfl, rfl⟩, rfl, rfl⟩ | simp [argO, convV]) ?_
          rintro rs o ⟨rfl, rfl⟩
          rw [hii]
          (try simp only [AW7, simprocAttr, hX]); (repeat (with_reducible refine And.intro ?_ ?_); exact vc0)
          refine .inr ⟨rfl, ?_⟩
          refine FunA.callW hP hT (c_sameWords (lowX e w) (lowX e w) (by omega) (fun r hr => by have := j2 r hr; omega)) (by simp only [AW7, simprocAttr]; first | done | exact ⟨⟨rfl, rfl⟩, rfl, rfl⟩ | simp [argO, convV]) ?_
          rintro rs o ⟨rfl, rfl⟩
          rw [hjj]
          (try simp only [AW7, simprocAttr, hX]); (repeat (with_reducible refine And.intro ?_ ?_); exact vc0)
          refine .inr ⟨rfl, ?_⟩
          refine FunA.callW hP hT (c_spec_BruhatCovers f z (by omega)) (by simp only [AW7, simprocAttr]) ?_
          rintro rs o ⟨rfl, h6, _, rfl⟩
          (try simp only [AW7, simprocAttr, hX]); (repeat (with_reducible refine And.intro ?_ ?_); exact vc0)
          refine .inr ⟨rfl, ?_⟩
          refine FunA.callW hP hT (c_sameWords (bcv f z) (bcv f z) (by omega) (fun r hr => by have := k2 r hr; omega)) (by simp only [AW7, simprocAttr]; first | done | exact ⟨⟨rfl, rfl⟩, rfl, rfl⟩ | simp [argO, convV]) ?_
          rintro rs o ⟨rfl, rfl⟩
          rw [hkk]
          (try simp only [AW7, simprocAttr, hX]); (repeat (with_reducible refine And.intro ?_ ?_); exact vc0)
          (repeat (with_reducible refine And.intro ?_ ?_); exact vc0); refine hK _ ?_; clear hK K; refine Run.nq ?_
          refine Run.retW [2] (by decide) (by rw [hfn]; rfl) (by simp only [AW7, simprocAttr, hX]; rfl) (by simp only [AW7, simprocAttr, hX]) (hfin _ _ rfl rfl ?_)
          rfl
        | true =>
          cases hM : brB d a b with
          | true =>
            rw [moe_on hI hM]
            refine Run.nq ?_; refine Run.regionW hC (fun K hK => ?_); simp only [AW7, simprocAttr, hX]; (repeat (with_reducible refine And.intro ?_ ?_); exact vc0)
            refine .inr ⟨rfl, ?_⟩
            refine FunA.callW hP hT (c_spec_IsBruhatBelow d a b (by omega)) (by simp only [AW7, simprocAttr]) ?_
            rintro rs o ⟨rfl, rfl⟩
            rw [hM]
            (try simp only [AW7, simprocAttr, hX]); (repeat (with_reducible refine And.intro ?_ ?_); exact vc0)
            refine .inr ⟨rfl, ?_⟩
            refine FunA.callW hP hT (c_spec_SignOf2 a) (by simp only [AW7, simprocAttr]) ?_
            rintro rs o ⟨rfl, rfl⟩
            (try simp only [AW7, simprocAttr, hX]); (repeat (with_reducible refine And.intro ?_ ?_); exact vc0)
            refine .inr ⟨rfl, ?_⟩
            refine FunA.callW hP hT (c_spec_SignOf2 b) (by simp only [AW7, simprocAttr]) ?_
            rintro rs o ⟨rfl, rfl⟩
            simp (disch := omega) only [wrap_id, AW7, simprocAttr, hX]; (repeat (with_reducible refine And.intro ?_ ?_); exact vc0)
            rw [hee]
            refine .inr ⟨rfl, ?_⟩
            refine FunA.callW hP hT (c_spec_IsBruhatBelow d a b (by omega)) (by simp only [AW7, simprocAttr]) ?_
            rintro rs o ⟨rfl, rfl⟩
            rw [hM]
            (try simp only [AW7, simprocAttr, hX]); (repeat (with_reducible refine And.intro ?_ ?_); exact vc0)
            (repeat (with_reducible refine And.intro ?_ ?_); exact vc0); refine hK _ ?_; clear hK K; refine Run.nq ?_
            refine Run.nq ?_; refine Run.condW (by simp only [AW7, simprocAttr, hX]; rfl) (by simp only [AW7, simprocAttr, hX]) ?_ ?_
            · intro h; exact absurd h (by simp)
            intro _
            refine Run.reK hpin [0, 15, 16, 17] [] (by decide) (by simp) ?_; simp only [AR, AW7, simprocAttr]
            have i1 := itvX_len d a b
            have i2 := itvX_rows d a b
            have hbb : (itvB d a b == itvB d a b) = true := by simp
            have hii : (itvX d a b == itvX d a b) = true := by simp
            refine Run.nq ?_; refine Run.regionW hC (fun K hK => ?_); simp only [AW7, simprocAttr, hX]; (repeat (with_reducible refine And.intro ?_ ?_); exact vc0)
            refine FunA.callW hP hT (c_impl_IntervalOf d a b (by omega)) (by simp only [AW7, simprocAttr]) ?_
            rintro rs o ⟨rfl, h1, _, rfl⟩
            (try simp only [AW7, simprocAttr, hX]); (repeat (with_reducible refine And.intro ?_ ?_); exact vc0)
            (repeat (with_reducible refine And.intro ?_ ?_); exact vc0); refine hK _ ?_; clear hK K; refine Run.nq ?_
            refine Run.nq ?_; refine Run.regionW hC (fun K hK => ?_); simp only [AW7, simprocAttr, hX]; (repeat (with_reducible refine And.intro ?_ ?_); exact vc0)
            refine FunA.callW hP hT (c_spec_IntervalOf d a b (by omega)) (by simp only [AW7, simprocAttr]) ?_
            rintro rs o ⟨rfl, h2, _, rfl⟩
            (try simp only [AW7, simprocAttr, hX]); (repeat (with_reducible refine And.intro ?_ ?_); exact vc0)
            (repeat (with_reducible refine And.intro ?_ ?_); exact vc0); refine hK _ ?_; clear hK K; refine Run.nq ?_
            refine Run.reK hpin [0, 22, 23, 24, 25] [0, 1] (by decide) (by simp) ?_; simp only [AR, AW7, simprocAttr]
            refine Run.nq ?_; refine Run.regionW hC (fun K hK => ?_); simp only [AW7, simprocAttr, hX]; (repeat (with_reducible refine And.intro ?_ ?_); exact vc0)
            refine FunA.callW hP hT (c_DrawLowerInterval code hcl) (by simp only [AW7, simprocAttr]) ?_
            rintro rs o ⟨e, w, ⟨e1, e2⟩, hw, rfl, rfl⟩
            (try simp only [AW7, simprocAttr, hX]); (repeat (with_reducible refine And.intro ?_ ?_); exact vc0)
            (repeat (with_reducible refine And.intro ?_ ?_); exact vc0); refine hK _ ?_; clear hK K; refine Run.nq ?_
            have j1 := lowX_len e w
            have j2 := lowX_rows e w
            have hll : (lowB e w == lowB e w) = true := by simp
            have hjj : (lowX e w == lowX e w) = true := by simp
            refine Run.nq ?_; refine Run.regionW hC (fun K hK => ?_); simp only [AW7, simprocAttr, hX]; (repeat (with_reducible refine And.intro ?_ ?_); exact vc0)
            refine FunA.callW hP hT (c_impl_LowerInterval e w (by omega)) (by simp only [AW7, simprocAttr]) ?_
            rintro rs o ⟨rfl, h3, _, rfl⟩
            (try simp only [AW7, simprocAttr, hX]); (repeat (with_reducible refine And.intro ?_ ?_); exact vc0)
            (repeat (with_reducible refine And.intro ?_ ?_); exact vc0); refine hK _ ?_; clear hK K; refine Run.nq ?_
            refine Run.nq ?_; refine Run.regionW hC (fun K hK => ?_); simp only [AW7, simprocAttr, hX]; (repeat (with_reducible refine And.intro ?_ ?_); exact vc0)
            refine FunA.callW hP hT (c_spec_LowerInterval e w (by omega)) (by simp only [AW7, simprocAttr]) ?_
            rintro rs o ⟨rfl, h4, _, rfl⟩
            (try simp only [AW7, simprocAttr, hX]); (repeat (with_reducible refine And.intro ?_ ?_); exact vc0)
            (repeat (with_reducible refine And.intro ?_ ?_); exact vc0); refine hK _ ?_; clear hK K; refine Run.nq ?_
            refine Run.reK hpin [0, 22, 23, 24, 25, 28, 29, 30, 31] [0, 1, 2, 3] (by decide) (by simp) ?_; simp only [AR, AW7, simprocAttr]
            refine Run.nq ?_; refine Run.regionW hC (fun K hK => ?_); simp only [AW7, simprocAttr, hX]; (repeat (with_reducible refine And.intro ?_ ?_); exact vc0)
            refine FunA.callW hP hT (c_DrawBruhatCovers code hcl) (by simp only [AW7, simprocAttr]) ?_
            rintro rs o ⟨f, z, ⟨f1, f2⟩, hz, rfl, rfl⟩
            (try simp only [AW7, simprocAttr, hX]); (repeat (with_reducible refine And.intro ?_ ?_); exact vc0)
            (repeat (with_reducible refine And.intro ?_ ?_); exact vc0); refine hK _ ?_; clear hK K; refine Run.nq ?_
            obtain ⟨k1, k2⟩ := bcv_small f z
            have hkk : (bcv f z == bcv f z) = true := by simp
            refine Run.nq ?_; refine Run.regionW hC (fun K hK => ?_); simp only [AW7, simprocAttr, hX]; (repeat (with_reducible refine And.intro ?_ ?_); exact vc0)
            refine FunA.callW hP hT (c_impl_BruhatCovers f z (by omega)) (by simp only [AW7, simprocAttr]) ?_
            rintro rs o ⟨rfl, h5, _, rfl⟩
            (try simp only [AW7, simprocAttr, hX]); (repeat (with_reducible refine And.intro ?_ ?_); exact vc0)
            (repeat (with_reducible refine And.intro ?_ ?_); exact vc0); refine hK _ ?_; clear hK K; refine Run.nq ?_
            refine Run.reK hpin [22, 23, 24, 25, 28, 29, 30, 31, 32, 33, 34] [0, 1, 2, 3, 4] (by decide) (by simp) ?_; simp only [AR, AW7, simprocAttr]
            refine Run.unmat hC 4 rfl ?_
            simp only [AW7, simprocAttr]
            refine Run.letgoK 4 [22, 23, 24, 25, 28, 29, 30, 31, 32, 33, 34] rfl ?_; simp only [AL, frV_cons, frV_nil, AW7, simprocAttr]
            refine Run.nq ?_; refine Run.regionW hC (fun K hK => ?_); simp only [AW7, simprocAttr, hX]; (repeat (with_reducible refine And.intro ?_ ?_); exact vc0); refine hK _ ?_; clear hK K; refine Run.nq ?_
            refine Run.reK hpin [22, 23, 24, 25, 28, 29, 30, 31, 32, 33, 34, 35] [0, 1, 2, 3] (by decide) (by simp) ?_; simp only [AR, AW7, simprocAttr]
            refine Run.loopI (X := Nat) (fun i => ⟨289, [(22, true, .v (.own 0 0)), (23, true, .v (.bool ((itvB d a b)))), (24, true, .v (.own 1 0)), (25, true, .v (.bool ((itvB d a b)))), (28, true, .v (.own 2 0)), (29, true, .v (.bool ((lowB e w)))), (30, true, .v (.own 3 0)), (31, true, .v (.bool ((lowB e w)))), (32, true, .v (.sl true (.row true) (f))), (33, true, .v (.sl true .int (z))), (34, true, .v (.sl true (.row true) ((bcv f z)))), (35, true, .v (.int .i64 (i)))], [.mat h1 (itvX d a b) 0 true, .mat h2 (itvX d a b) 0 true, .mat h3 (lowX e w) 0 true, .mat h4 (lowX e w) 0 true]⟩) (fun i => i ≤ (bcv f z).length) (fun i => (bcv f z).length - i) (0) (Nat.zero_le _) ?_ ?_
            · exact Le.sub (by first | rfl | simp) (by simp only [AW7, simprocAttr, hX]; try simp <;> try (first | rfl | exact ⟨rfl, rfl⟩ | exact ⟨rfl, rfl, rfl⟩))
            rintro i hi ih
            try simp only []
            refine Run.nq ?_; refine Run.regionW hC (fun K hK => ?_); simp only [AW7, simprocAttr, hX]; (repeat (with_reducible refine And.intro ?_ ?_); exact vc0); refine hK _ ?_; clear hK K; refine Run.nq ?_
            refine Run.nq ?_; refine Run.condW (by simp only [AW7, simprocAttr, hX]; rfl) (by simp only [AW7, simprocAttr, hX]) ?_ ?_
            · intro hx
              have hx : i < (bcv f z).length := by rw [decide_eq_true_eq] at hx; omega
              have hbl : brB f ((bcv f z).getD i []) z = true := bcv_below (by rw [List.getD_eq_getElem?_getD, List.getElem?_eq_getElem hx]; exact List.getElem_mem hx)
              refine Run.nq ?_; refine Run.regionW hC (fun K hK => ?_); simp only [AW7, simprocAttr, hX]; (repeat (with_reducible refine And.intro ?_ ?_); exact vc0)
              refine FunA.callW hP hT (c_impl_IsBruhatBelow f ((bcv f z).getD i []) z (by omega)) (by simp only [AW7, simprocAttr]) ?_
              rintro rs o ⟨rfl, rfl⟩
              rw [hbl]
              (try simp only [AW7, simprocAttr, hX]); (repeat (with_reducible refine And.intro ?_ ?_); exact vc0)
              (repeat (with_reducible refine And.intro ?_ ?_); exact vc0); refine hK _ ?_; clear hK K; refine Run.nq ?_
              refine Run.nq ?_; refine Run.condW (by simp only [AW7, simprocAttr, hX]; rfl) (by simp only [AW7, simprocAttr, hX]) ?_ ?_
              · intro h; exact absurd h (by simp)
              intro _
              refine Run.reK hpin [22, 23, 24, 25, 28, 29, 30, 31, 32, 33, 34, 35] [0, 1, 2, 3] (by decide) (by simp) ?_; simp only [AR, AW7, simprocAttr]
              refine Run.nq ?_; refine Run.regionW hC (fun K hK => ?_); simp (disch := omega) only [wrap_id, AW7, simprocAttr, hX]; (repeat (with_reducible refine And.intro ?_ ?_); exact vc0); refine hK _ ?_; clear hK K; refine Run.nq ?_
              refine Run.le ?_ (ih (i + 1) (hx) (by (try simp only [List.length_append, List.length_cons, List.length_nil]); omega))
              exact Le.sub (by rfl) (by simp only [AW7, simprocAttr]; try simp)
            intro _
            refine Run.exit rfl ?_; refine Run.nq ?_
            refine Run.nq ?_; refine Run.regionW hC (fun K hK => ?_); simp only [AW7, simprocAttr, hX]; (repeat (with_reducible refine And.intro ?_ ?_); exact vc0)
            refine .inr ⟨rfl, ?_⟩
            refine FunA.callW hP hT (c_sameWords (itvX d a b) (itvX d a b) (by omega) (fun r hr => by have := i2 r hr; omega)) (by simp only [AW7, simprocAttr]; first | done | exact ⟨⟨rfl, rfl⟩, rfl, rfl⟩ | simp [argO, convV]) ?_
            rintro rs o ⟨rfl, rfl⟩
            rw [hii]
            (try simp only [AW7, simprocAttr, hX]); (repeat (with_reducible refine And.intro ?_ ?_); exact vc0)
            refine .inr ⟨rfl, ?_⟩
            refine FunA.callW hP hT (c_sameWords (lowX e w) (lowX e w) (by omega) (fun r hr => by have := j2 r hr; omega)) (by simp only [AW7, simprocAttr]; first | done | exact ⟨⟨rfl, rfl⟩, rfl, rfl⟩ | simp [argO, convV]) ?_
            rintro rs o ⟨rfl, rfl⟩
            rw [hjj]
            (try simp only [AW7, simprocAttr, hX]); (repeat (with_reducible refine And.intro ?_ ?_); exact vc0)
            refine .inr ⟨rfl, ?_⟩
            refine FunA.callW hP hT (c_spec_BruhatCovers f z (by omega)) (by simp only [AW7, simprocAttr]) ?_
            rintro rs o ⟨rfl, h6, _, rfl⟩
            (try simp only [AW7, simprocAttr, hX]); (repeat (with_reducible refine And.intro ?_ ?_); exact vc0)
            refine .inr ⟨rfl, ?_⟩
            refine FunA.callW hP hT (c_sameWords (bcv f z) (bcv f z) (by omega) (fun r hr => by have := k2 r hr; omega)) (by simp only [AW7, simprocAttr]; first | done | exact ⟨⟨rfl, rfl⟩, rfl, rfl⟩ | simp [argO, convV]) ?_
            rintro rs o ⟨rfl, rfl⟩
            rw [hkk]
            (try simp only [AW7, simprocAttr, hX]); (repeat (with_reducible refine And.intro ?_ ?_); exact vc0)
            (repeat (with_reducible refine And.intro ?_ ?_); exact vc0); refine hK _ ?_; clear hK K; refine Run.nq ?_
            refine Run.retW [2] (by decide) (by rw [hfn]; rfl) (by simp only [AW7, simprocAttr, hX]; rfl) (by simp only [AW7, simprocAttr, hX]) (hfin _ _ rfl rfl ?_)
            rfl
          | false =>
            rw [moe_off hI hM]
            refine Run.nq ?_; refine Run.regionW hC (fun K hK => ?_); simp only [AW7, simprocAttr, hX]; (repeat (with_reducible refine And.intro ?_ ?_); exact vc0)
            refine .inr ⟨rfl, ?_⟩
            refine FunA.callW hP hT (c_spec_IsBruhatBelow d a b (by omega)) (by simp only [AW7, simprocAttr]) ?_
            rintro rs o ⟨rfl, rfl⟩
            rw [hM]
            (try simp only [AW7, simprocAttr, hX]); (repeat (with_reducible refine And.intro ?_ ?_); exact vc0)
            refine .inl (CallG.off (.int .i64 0) ?_)
            (try simp only [AW7, simprocAttr, hX]); (repeat (with_reducible refine And.intro ?_ ?_); exact vc0)
            refine .inl (CallG.off (.int .i64 0) ?_)
            (try simp only [AW7, simprocAttr, hX]); (repeat (with_reducible refine And.intro ?_ ?_); exact vc0)
            refine .inr ⟨rfl, ?_⟩
            refine FunA.callW hP hT (c_spec_IsBruhatBelow d a b (by omega)) (by simp only [AW7, simprocAttr]) ?_
            rintro rs o ⟨rfl, rfl⟩
            rw [hM]
            (try simp only [AW7, simprocAttr, hX]); (repeat (with_reducible refine And.intro ?_ ?_); exact vc0)
            (repeat (with_reducible refine And.intro ?_ ?_); exact vc0); refine hK _ ?_; clear hK K; refine Run.nq ?_
            refine Run.nq ?_; refine Run.condW (by simp only [AW7, simprocAttr, hX]; rfl) (by simp only [AW7, simprocAttr, hX]) ?_ ?_
            · intro h; exact absurd h (by simp)
            intro _
            refine Run.reK hpin [0, 15, 16, 17] [] (by decide) (by simp) ?_; simp only [AR, AW7, simprocAttr]
            have i1 := itvX_len d a b
            have i2 := itvX_rows d a b
            have hbb : (itvB d a b == itvB d a b) = true := by simp
            have hii : (itvX d a b == itvX d a b) = true := by simp
            refine Run.nq ?_; refine Run.regionW hC (fun K hK => ?_); simp only [AW7, simprocAttr, hX]; (repeat (with_reducible refine And.intro ?_ ?_); exact vc0)
            refine FunA.callW hP hT (c_impl_IntervalOf d a b (by omega)) (by simp only [AW7, simprocAttr]) ?_
            rintro rs o ⟨rfl, h1, _, rfl⟩
            (try simp only [AW7, simprocAttr, hX]); (repeat (with_reducible refine And.intro ?_ ?_); exact vc0)
            (repeat (with_reducible refine And.intro ?_ ?_); exact vc0); refine hK _ ?_; clear hK K; refine Run.nq ?_
            refine Run.nq ?_; refine Run.regionW hC (fun K hK => ?_); simp only [AW7, simprocAttr, hX]; (repeat (with_reducible refine And.intro ?_ ?_); exact vc0)
            refine FunA.callW hP hT (c_spec_IntervalOf d a b (by omega)) (by simp only [AW7, simprocAttr]) ?_
            rintro rs o ⟨rfl, h2, _, rfl⟩
            (try simp only [AW7, simprocAttr, hX]); (repeat (with_reducible refine And.intro ?_ ?_); exact vc0)
            (repeat (with_reducible refine And.intro ?_ ?_); exact vc0); refine hK _ ?_; clear hK K; refine Run.nq ?_
            refine Run.reK hpin [0, 22, 23, 24, 25] [0, 1] (by decide) (by simp) ?_; simp only [AR, AW7, simprocAttr]
            refine Run.nq ?_; refine Run.regionW hC (fun K hK => ?_); simp only [AW7, simprocAttr, hX]; (repeat (with_reducible refine And.intro ?_ ?_); exact vc0)
            refine FunA.callW hP hT (c_DrawLowerInterval code hcl) (by simp only [AW7, simprocAttr]) ?_
            rintro rs o ⟨e, w, ⟨e1, e2⟩, hw, rfl, rfl⟩
            (try simp only [AW7, simprocAttr, hX]); (repeat (with_reducible refine And.intro ?_ ?_); exact vc0)
            (repeat (with_reducible refine And.intro ?_ ?_); exact vc0); refine hK _ ?_; clear hK K; refine Run.nq ?_
            have j1 := lowX_len e w
            have j2 := lowX_rows e w
            have hll : (lowB e w == lowB e w) = true := by simp
            have hjj : (lowX e w == lowX e w) = true := by simp
            refine Run.nq ?_; refine Run.regionW hC (fun K hK => ?_); simp only [AW7, simprocAttr, hX]; (repeat (with_reducible refine And.intro ?_ ?_); exact vc0)
            refine FunA.callW hP hT (c_impl_LowerInterval e w (by omega)) (by simp only [AW7, simprocAttr]) ?_
            rintro rs o ⟨rfl, h3, _, rfl⟩
            (try simp only [AW7, simprocAttr, hX]); (repeat (with_reducible refine And.intro ?_ ?_); exact vc0)
            (repeat (with_reducible refine And.intro ?_ ?_); exact vc0); refine hK _ ?_; clear hK K; refine Run.nq ?_
            refine Run.nq ?_; refine Run.regionW hC (fun K hK => ?_); simp only [AW7, simprocAttr, hX]; (repeat (with_reducible refine And.intro ?_ ?_); exact vc0)
            refine FunA.callW hP hT (c_spec_LowerInterval e w (by omega)) (by simp only [AW7, simprocAttr]) ?_
            rintro rs o ⟨rfl, h4, _, rfl⟩
            (try simp only [AW7, simprocAttr, hX]); (repeat (with_reducible refine And.intro ?_ ?_); exact vc0)
            (repeat (with_reducible refine And.intro ?_ ?_); exact vc0); refine hK _ ?_; clear hK K; refine Run.nq ?_
            refine Run.reK hpin [0, 22, 23, 24, 25, 28, 29, 30, 31] [0, 1, 2, 3] (by decide) (by simp) ?_; simp only [AR, AW7, simprocAttr]
            refine Run.nq ?_; refine Run.regionW hC (fun K hK => ?_); simp only [AW7, simprocAttr, hX]; (repeat (with_reducible refine And.intro ?_ ?_); exact vc0)
            refine FunA.callW hP hT (c_DrawBruhatCovers code hcl) (by simp only [AW7, simprocAttr]) ?_
            rintro rs o ⟨f, z, ⟨f1, f2⟩, hz, rfl, rfl⟩
            (try simp only [AW7, simprocAttr, hX]); (repeat (with_reducible refine And.intro ?_ ?_); exact vc0)
            (repeat (with_reducible refine And.intro ?_ ?_); exact vc0); refine hK _ ?_; clear hK K; refine Run.nq ?_
            obtain ⟨k1, k2⟩ := bcv_small f z
            have hkk : (bcv f z == bcv f z) = true := by simp
            refine Run.nq ?_; refine Run.regionW hC (fun K hK => ?_); simp only [AW7, simprocAttr, hX]; (repeat (with_reducible refine And.intro ?_ ?_); exact vc0)
            refine FunA.callW hP hT (c_impl_BruhatCovers f z (by omega)) (by simp only [AW7, simprocAttr]) ?_
            rintro rs o ⟨rfl, h5, _, rfl⟩
            (try simp only [AW7, simprocAttr, hX]); (repeat (with_reducible refine And.intro ?_ ?_); exact vc0)
            (repeat (with_reducible refine And.intro ?_ ?_); exact vc0); refine hK _ ?_; clear hK K; refine Run.nq ?_
            refine Run.reK hpin [22, 23, 24, 25, 28, 29, 30, 31, 32, 33, 34] [0, 1, 2, 3, 4] (by decide) (by simp) ?_; simp only [AR, AW7, simprocAttr]
            refine Run.unmat hC 4 rfl ?_
            simp only [AW7, simprocAttr]
            refine Run.letgoK 4 [22, 23, 24, 25, 28, 29, 30, 31, 32, 33, 34] rfl ?_; simp only [AL, frV_cons, frV_nil, AW7, simprocAttr]
            refine Run.nq ?_; refine Run.regionW hC (fun K hK => ?_); simp only [AW7, simprocAttr, hX]; (repeat (with_reducible refine And.intro ?_ ?_); exact vc0); refine hK _ ?_; clear hK K; refine Run.nq ?_
            refine Run.reK hpin [22, 23, 24, 25, 28, 29, 30, 31, 32, 33, 34, 35] [0, 1, 2, 3] (by decide) (by simp) ?_; simp only [AR, AW7, simprocAttr]
            refine Run.loopI (X := Nat) (fun i => ⟨289, [(22, true, .v (.own 0 0)), (23, true, .v (.bool ((itvB d a b)))), (24, true, .v (.own 1 0)), (25, true, .v (.bool ((itvB d a b)))), (28, true, .v (.own 2 0)), (29, true, .v (.bool ((lowB e w)))), (30, true, .v (.own 3 0)), (31, true, .v (.bool ((lowB e w)))), (32, true, .v (.sl true (.row true) (f))), (33, true, .v (.sl true .int (z))), (34, true, .v (.sl true (.row true) ((bcv f z)))), (35, true, .v (.int .i64 (i)))], [.mat h1 (itvX d a b) 0 true, .mat h2 (itvX d a b) 0 true, .mat h3 (lowX e w) 0 true, .mat h4 (lowX e w) 0 true]⟩) (fun i => i ≤ (bcv f z).length) (fun i => (bcv f z).length - i) (0) (Nat.zero_le _) ?_ ?_
            · exact Le.sub (by first | rfl | simp) (by simp only [AW7, simprocAttr, hX]; try simp <;> try (first | rfl | exact ⟨rfl, rfl⟩ | exact ⟨rfl, rfl, rfl⟩))
            rintro i hi ih
            try simp only []
            refine Run.nq ?_; refine Run.regionW hC (fun K hK => ?_); simp only [AW7, simprocAttr, hX]; (repeat (with_reducible refine And.intro ?_ ?_); exact vc0); refine hK _ ?_; clear hK K; refine Run.nq ?_
            refine Run.nq ?_; refine Run.condW (by simp only [AW7, simprocAttr, hX]; rfl) (by simp only [AW7, simprocAttr, hX]) ?_ ?_
            · intro hx
              have hx : i < (bcv f z).length := by rw [decide_eq_true_eq] at hx; omega
              have hbl : brB f ((bcv f z).getD i []) z = true := bcv_below (by rw [List.getD_eq_getElem?_getD, List.getElem?_eq_getElem hx]; exact List.getElem_mem hx)
              refine Run.nq ?_; refine Run.regionW hC (fun K hK => ?_); simp only [AW7, simprocAttr, hX]; (repeat (with_reducible refine And.intro ?_ ?_); exact vc0)
              refine FunA.callW hP hT (c_impl_IsBruhatBelow f ((bcv f z).getD i []) z (by omega)) (by simp only [AW7, simprocAttr]) ?_
              rintro rs o ⟨rfl, rfl⟩
              rw [hbl]
              (try simp only [AW7, simprocAttr, hX]); (repeat (with_reducible refine And.intro ?_ ?_); exact vc0)
              (repeat (with_reducible refine And.intro ?_ ?_); exact vc0); refine hK _ ?_; clear hK K; refine Run.nq ?_
              refine Run.nq ?_; refine Run.condW (by simp only [AW7, simprocAttr, hX]; rfl) (by simp only [AW7, simprocAttr, hX]) ?_ ?_
              · intro h; exact absurd h (by simp)
              intro _
              refine Run.reK hpin [22, 23, 24, 25, 28, 29, 30, 31, 32, 33, 34, 35] [0, 1, 2, 3] (by decide) (by simp) ?_; simp only [AR, AW7, simprocAttr]
              refine Run.nq ?_; refine Run.regionW hC (fun K hK => ?_); simp (disch := omega) only [wrap_id, AW7, simprocAttr, hX]; (repeat (with_reducible refine And.intro ?_ ?_); exact vc0); refine hK _ ?_; clear hK K; refine Run.nq ?_
              refine Run.le ?_ (ih (i + 1) (hx) (by (try simp only [List.length_append, List.length_cons, List.length_nil]); omega))
              exact Le.sub (by rfl) (by simp only [AW7, simprocAttr]; try simp)
            intro _
            refine Run.exit rfl ?_; refine Run.nq ?_
            refine Run.nq ?_; refine Run.regionW hC (fun K hK => ?_); simp only [AW7, simprocAttr, hX]; (repeat (with_reducible refine And.intro ?_ ?_); exact vc0)
            refine .inr ⟨rfl, ?_⟩
            refine FunA.callW hP hT (c_sameWords (itvX d a b) (itvX d a b) (by omega) (fun r hr => by have := i2 r hr; omega)) (by simp only [AW7, simprocAttr]; first | done | exact ⟨⟨rfl, rfl⟩, rfl, rfl⟩ | simp [argO, convV]) ?_
            rintro rs o ⟨rfl, rfl⟩
            rw [hii]
            (try simp only [AW7, simprocAttr, hX]); (repeat (with_reducible refine And.intro ?_ ?_); exact vc0)
            refine .inr ⟨rfl, ?_⟩
            refine FunA.callW hP hT (c_sameWords (lowX e w) (lowX e w) (by omega) (fun r hr => by have := j2 r hr; omega)) (by simp only [AW7, simprocAttr]; first | done | exact ⟨⟨rfl, rfl⟩, rfl, rfl⟩ | simp [argO, convV]) ?_
            rintro rs o ⟨rfl, rfl⟩
            rw [hjj]
            (try simp only [AW7, simprocAttr, hX]); (repeat (with_reducible refine And.intro ?_ ?_); exact vc0)
            refine .inr ⟨rfl, ?_⟩
            refine FunA.callW hP hT (c_spec_BruhatCovers f z (by omega)) (by simp only [AW7, simprocAttr]) ?_
            rintro rs o ⟨rfl, h6, _, rfl⟩
            (try simp only [AW7, simprocAttr, hX]); (repeat (with_reducible refine And.intro ?_ ?_); exact vc0)
            refine .inr ⟨rfl, ?_⟩
            refine FunA.callW hP hT (c_sameWords (bcv f z) (bcv f z) (by omega) (fun r hr => by have := k2 r hr; omega)) (by simp only [AW7, simprocAttr]; first | done | exact ⟨⟨rfl, rfl⟩, rfl, rfl⟩ | simp [argO, convV]) ?_
            rintro rs o ⟨rfl, rfl⟩
            rw [hkk]
            (try simp only [AW7, simprocAttr, hX]); (repeat (with_reducible refine And.intro ?_ ?_); exact vc0)
            (repeat (with_reducible refine And.intro ?_ ?_); exact vc0); refine hK _ ?_; clear hK K; refine Run.nq ?_
            refine Run.retW [2] (by decide) (by rw [hfn]; rfl) (by simp only [AW7, simprocAttr, hX]; rfl) (by simp only [AW7, simprocAttr, hX]) (hfin _ _ rfl rfl ?_)
            rfl
      | true =>
        have hs2 : sameB c u v = true := by unfold sameB; rw [hu, hv, br_anti hu hv hB hV]; simp
        (try simp only [AW7, simprocAttr, hX]); (repeat (with_reducible refine And.intro ?_ ?_); exact vc0)
        refine .inr ⟨rfl, ?_⟩
        refine FunA.callW hP hT (c_spec_AreSame c u v (by omega)) (by simp only [AW7, simprocAttr]) ?_
        rintro rs o ⟨rfl, rfl⟩
        rw [hs2]
        (try simp only [AW7, simprocAttr, hX]); (repeat (with_reducible refine And.intro ?_ ?_); exact vc0)
        (repeat (with_reducible refine And.intro ?_ ?_); exact vc0); refine hK _ ?_; clear hK K; refine Run.nq ?_
        refine Run.nq ?_; refine Run.condW (by simp only [AW7, simprocAttr, hX]; rfl) (by simp only [AW7, simprocAttr, hX]) ?_ ?_
        · intro h; exact absurd h (by simp)
        intro _
        refine Run.nq ?_; refine Run.regionW hC (fun K hK => ?_); simp only [AW7, simprocAttr, hX]; (repeat (with_reducible refine And.intro ?_ ?_); exact vc0); refine hK _ ?_; clear hK K; refine Run.nq ?_
        refine Run.nq ?_; refine Run.condW (by simp only [AW7, simprocAttr, hX]; rfl) (by simp only [AW7, simprocAttr, hX]) ?_ ?_
        rotate_left
        · intro h; exact absurd h (by simp)
        intro _
        refine Run.reK hpin [0, 3, 4, 5, 7] [] (by decide) (by simp) ?_; simp only [AR, AW7, simprocAttr]
        refine Run.nq ?_; refine Run.regionW hC (fun K hK => ?_); simp only [AW7, simprocAttr, hX]; (repeat (with_reducible refine And.intro ?_ ?_); exact vc0)
        refine FunA.callW hP hT (c_spec_NormalForm c v (by omega)) (by simp only [AW7, simprocAttr]) ?_
        rintro rs o ⟨rfl, rfl⟩
        (try simp only [AW7, simprocAttr, hX]); (repeat (with_reducible refine And.intro ?_ ?_); exact vc0)
        (repeat (with_reducible refine And.intro ?_ ?_); exact vc0); refine hK _ ?_; clear hK K; refine Run.nq ?_
        rw [hnf]
        refine Run.reK hpin [0, 3, 4, 7, 11] [0] (by decide) (by simp) ?_; simp only [AR, AW7, simprocAttr]
        refine Run.letgoK 0 [0, 3, 4, 7, 11] rfl ?_; simp only [AL, frV_cons, frV_nil, AW7, simprocAttr]
        refine Run.reK hpin [0, 3, 4, 7, 11] [] (by decide) (by simp) ?_; simp only [AR, AW7, simprocAttr]
        refine Run.nq ?_; refine Run.regionW hC (fun K hK => ?_); simp only [AW7, simprocAttr, hX]; (repeat (with_reducible refine And.intro ?_ ?_); exact vc0); refine hK _ ?_; clear hK K; refine Run.nq ?_
        refine Run.nq ?_; refine Run.regionW hC (fun K hK => ?_); simp only [AW7, simprocAttr, hX]; (repeat (with_reducible refine And.intro ?_ ?_); exact vc0); refine hK _ ?_; clear hK K; refine Run.nq ?_
        refine Run.reK hpin [0, 3, 4, 7, 11, 13, 14] [0] (by decide) (by simp) ?_; simp only [AR, AW7, simprocAttr]
        refine Run.loopI (X := Nat) (fun i => ⟨289, [(0, true, .v (.sl false .byte (code))), (3, true, .v (.sl true (.row true) (c))), (4, true, .v (.sl true .int (u))), (7, true, .v (.sl true .int ((subW c u v)))), (11, true, .v (.sl true .int ((redL c v)))), (13, true, .v (.own 0 0)), (14, true, .v (.int .i64 (i)))], [.arr .int ((((subW c u v).take i).map fun p => (redL c v).getD p.toNat 0)) 0 true]⟩) (fun i => i ≤ (subW c u v).length) (fun i => (subW c u v).length - i) (0) (Nat.zero_le _) ?_ ?_
        · exact Le.sub (by first | rfl | simp) (by simp only [AW7, simprocAttr, hX]; try simp <;> try (first | rfl | exact ⟨rfl, rfl⟩ | exact ⟨rfl, rfl, rfl⟩))
        rintro i hi ih
        try simp only []
        refine Run.nq ?_; refine Run.regionW hC (fun K hK => ?_); simp only [AW7, simprocAttr, hX]; (repeat (with_reducible refine And.intro ?_ ?_); exact vc0); refine hK _ ?_; clear hK K; refine Run.nq ?_
        refine Run.nq ?_; refine Run.condW (by simp only [AW7, simprocAttr, hX]; rfl) (by simp only [AW7, simprocAttr, hX]) ?_ ?_
        · intro hx
          have hx : i < (subW c u v).length := by rw [decide_eq_true_eq] at hx; omega
          have hp := q5 ((subW c u v).getD i 0) (by rw [List.getD_eq_getElem?_getD, List.getElem?_eq_getElem hx]; exact List.getElem_mem hx)
          have hsn : ((subW c u v).take i).map (fun p => (redL c v).getD p.toNat 0) ++ [(redL c v).getD ((subW c u v).getD i 0).toNat 0] = ((subW c u v).take (i + 1)).map fun p => (redL c v).getD p.toNat 0 := by
            rw [← take_snoc 0 _ i hx]; simp
          have hml : (((subW c u v).take i).map (fun p => (redL c v).getD p.toNat 0)).length ≤ 15 := by simp; omega
          refine Run.nq ?_; refine Run.regionW hC (fun K hK => ?_); simp only [AW7, simprocAttr, hX]; (repeat (with_reducible refine And.intro ?_ ?_); exact vc0); refine hK _ ?_; clear hK K; refine Run.nq ?_
          rw [hsn]
          refine Run.reK hpin [0, 3, 4, 7, 11, 13, 14] [0] (by decide) (by simp) ?_; simp only [AR, AW7, simprocAttr]
          refine Run.nq ?_; refine Run.regionW hC (fun K hK => ?_); simp (disch := omega) only [wrap_id, AW7, simprocAttr, hX]; (repeat (with_reducible refine And.intro ?_ ?_); exact vc0); refine hK _ ?_; clear hK K; refine Run.nq ?_
          refine Run.le ?_ (ih (i + 1) (hx) (by (try simp only [List.length_append, List.length_cons, List.length_nil]); omega))
          exact Le.sub (by rfl) (by simp only [AW7, simprocAttr]; try simp)
        intro hx
        have hx : i = (subW c u v).length := by rw [decide_eq_false_iff_not] at hx; omega
        subst hx
        refine Run.exit rfl ?_; refine Run.nq ?_
        rw [List.take_length, q1]
        refine Run.nq ?_; refine Run.regionW hC (fun K hK => ?_); simp only [AW7, simprocAttr, hX]; (repeat (with_reducible refine And.intro ?_ ?_); exact vc0)
        refine FunA.callW hP hT (c_impl_AreSame c (subT c (imageL c u) (redL c v)) u (by omega)) (by simp only [AW7, simprocAttr]) ?_
        rintro rs o ⟨rfl, rfl⟩
        rw [hsame]
        (try simp only [AW7, simprocAttr, hX]); (repeat (with_reducible refine And.intro ?_ ?_); exact vc0)
        refine .inr ⟨rfl, ?_⟩
        refine FunA.callW hP hT (c_spec_LengthOf c u (by omega)) (by simp only [AW7, simprocAttr]) ?_
        rintro rs o ⟨rfl, rfl⟩
        rw [if_pos hu, q3]
        (try simp only [AW7, simprocAttr, hX]); (repeat (with_reducible refine And.intro ?_ ?_); exact vc0)
        (repeat (with_reducible refine And.intro ?_ ?_); exact vc0); refine hK _ ?_; clear hK K; refine Run.nq ?_
        refine Run.nq ?_; refine Run.condW (by simp only [AW7, simprocAttr, hX]; rfl) (by simp only [AW7, simprocAttr, hX]) ?_ ?_
        · intro h; exact absurd h (by simp)
        intro _
        refine Run.reK hpin [0] [] (by decide) (by simp) ?_; simp only [AR, AW7, simprocAttr]
        refine Run.nq ?_; refine Run.regionW hC (fun K hK => ?_); simp only [AW7, simprocAttr, hX]; (repeat (with_reducible refine And.intro ?_ ?_); exact vc0)
        refine FunA.callW hP hT (c_DrawMoebiusOf code hcl) (by simp only [AW7, simprocAttr]) ?_
        rintro rs o ⟨d, a, b, ⟨d1, d2⟩, hal, hbl, rfl, rfl⟩
        (try simp only [AW7, simprocAttr, hX]); (repeat (with_reducible refine And.intro ?_ ?_); exact vc0)
        (repeat (with_reducible refine And.intro ?_ ?_); exact vc0); refine hK _ ?_; clear hK K; refine Run.nq ?_
        refine Run.reK hpin [0, 15, 16, 17] [] (by decide) (by simp) ?_; simp only [AR, AW7, simprocAttr]
        refine Run.nq ?_; refine Run.regionW hC (fun K hK => ?_); simp only [AW7, simprocAttr, hX]; (repeat (with_reducible refine And.intro ?_ ?_); exact vc0)
        refine FunA.callW hP hT (c_impl_MoebiusOf d a b (by omega)) (by simp only [AW7, simprocAttr]) ?_
        rintro rs o ⟨rfl, rfl⟩
        (try simp only [AW7, simprocAttr, hX]); (repeat (with_reducible refine And.intro ?_ ?_); exact vc0)
        (repeat (with_reducible refine And.intro ?_ ?_); exact vc0); refine hK _ ?_; clear hK K; refine Run.nq ?_
        refine Run.nq ?_; refine Run.regionW hC (fun K hK => ?_); simp only [AW7, simprocAttr, hX]; (repeat (with_reducible refine And.intro ?_ ?_); exact vc0)
        refine FunA.callW hP hT (c_spec_MoebiusOf d a b (by omega)) (by simp only [AW7, simprocAttr]) ?_
        rintro rs o ⟨rfl, rfl⟩
        (try simp only [AW7, simprocAttr, hX]); (repeat (with_reducible refine And.intro ?_ ?_); exact vc0)
        (repeat (with_reducible refine And.intro ?_ ?_); exact vc0); refine hK _ ?_; clear hK K; refine Run.nq ?_
        refine Run.reK hpin [0, 15, 16, 17, 18, 19, 20, 21] [] (by decide) (by simp) ?_; simp only [AR, AW7, simprocAttr]
        refine Run.nq ?_; refine Run.regionW hC (fun K hK => ?_); simp only [AW7, simprocAttr, hX]; (repeat (with_reducible refine And.intro ?_ ?_); exact vc0); refine hK _ ?_; clear hK K; refine Run.nq ?_
        refine Run.nq ?_; refine Run.condW (by simp only [AW7, simprocAttr, hX]; rfl) (by simp only [AW7, simprocAttr, hX]) ?_ ?_
        · intro h; simp at h
        intro _
        have hee : (eps a * eps b != eps a * eps b) = false := by simp
        have heb : -1 ≤ eps a * eps b ∧ eps a * eps b ≤ 1 := by
          rcases eps_cases a with e1 | e1 <;> rcases eps_cases b with e2 | e2 <;> rw [e1, e2] <;> decide
        refine Run.reK hpin [0, 15, 16, 17, 18, 19] [] (by decide) (by simp) ?_; simp only [AR, AW7, simprocAttr]
        cases hI : itvB d a b with
        | false =>
          refine Run.nq ?_; refine Run.regionW hC (fun K hK => ?_); simp only [AW7, simprocAttr, hX]; (repeat (with_reducible refine And.intro ?_ ?_); exact vc0)
          refine .inl (CallG.off (.bool false) ?_)
          (try simp only [AW7, simprocAttr, hX]); (repeat (with_reducible refine And.intro ?_ ?_); exact vc0)
          refine .inl (CallG.off (.int .i64 0) ?_)
          (try simp only [AW7, simprocAttr, hX]); (repeat (with_reducible refine And.intro ?_ ?_); exact vc0)
          refine .inl (CallG.off (.int .i64 0) ?_)
          (try simp only [AW7, simprocAttr, hX]); (repeat (with_reducible refine And.intro ?_ ?_); exact vc0)
          refine .inl (CallG.off (.bool false) ?_)
          (try simp only [AW7, simprocAttr, hX]); (repeat (with_reducible refine And.intro ?_ ?_); exact vc0)
          (repeat (with_reducible refine And.intro ?_ ?_); exact vc0); refine hK _ ?_; clear hK K; refine Run.nq ?_
          refine Run.nq ?_; refine Run.condW (by simp only [AW7, simprocAttr, hX]; rfl) (by simp only [AW7, simprocAttr, hX]) ?_ ?_
          · intro h; exact absurd h (by simp)
          intro _
          refine Run.reK hpin [0, 15, 16, 17] [] (by decide) (by simp) ?_; simp only [AR, AW7, simprocAttr]
          have i1 := itvX_len d a b
          have i2 := itvX_rows d a b
          have hbb : (itvB d a b == itvB d a b) = true := by simp
          have hii : (itvX d a b == itvX d a b) = true := by simp
          refine Run.nq ?_; refine Run.regionW hC (fun K hK => ?_); simp only [AW7, simprocAttr, hX]; (repeat (with_reducible refine And.intro ?_ ?_); exact vc0)
          refine FunA.callW hP hT (c_impl_IntervalOf d a b (by omega)) (by simp only [AW7, simprocAttr]) ?_
          rintro rs o ⟨rfl, h1, _, rfl⟩
          (try simp only [AW7, simprocAttr, hX]); (repeat (with_reducible refine And.intro ?_ ?_); exact vc0)
          (repeat (with_reducible refine And.intro ?_ ?_); exact vc0); refine hK _ ?_; clear hK K; refine Run.nq ?_
          refine Run.nq ?_; refine Run.regionW hC (fun K hK => ?_); simp only [AW7, simprocAttr, hX]; (repeat (with_reducible refine And.intro ?_ ?_); exact vc0)
          refine FunA.callW hP hT (c_spec_IntervalOf d a b (by omega)) (by simp only [AW7, simprocAttr]) ?_
          rintro rs o ⟨rfl, h2, _, rfl⟩
          (try simp only [AW7, simprocAttr, hX]); (repeat (with_reducible refine And.intro ?_ ?_); exact vc0)
          (repeat (with_reducible refine And.intro ?_ ?_); exact vc0); refine hK _ ?_; clear hK K; refine Run.nq ?_
          refine Run.reK hpin [0, 22, 23, 24, 25] [0, 1] (by decide) (by simp) ?_; simp only [AR, AW7, simprocAttr]
          refine Run.nq ?_; refine Run.regionW hC (fun K hK => ?_); simp only [AW7, simprocAttr, hX]; (repeat (with_reducible refine And.intro ?_ ?_); exact vc0)
          refine FunA.callW hP hT (c_DrawLowerInterval code hcl) (by simp only [AW7, simprocAttr]) ?_
          rintro rs o ⟨e, w, ⟨e1, e2⟩, hw, rfl, rfl⟩
          (try simp only [AW7, simprocAttr, hX]); (repeat (with_reducible refine And.intro ?_ ?_); exact vc0)
          (repeat (with_reducible refine And.intro ?_ ?_); exact vc0); refine hK _ ?_; clear hK K; refine Run.nq ?_
          have j1 := lowX_len e w
          have j2 := lowX_rows e w
          have hll : (lowB e w == lowB e w) = true := by simp
          have hjj : (lowX e w == lowX e w) = true := by simp
          refine Run.nq ?_; refine Run.regionW hC (fun K hK => ?_); simp only [AW7, simprocAttr, hX]; (repeat (with_reducible refine And.intro ?_ ?_); exact vc0)
          refine FunA.callW hP hT (c_impl_LowerInterval e w (by omega)) (by simp only [AW7, simprocAttr]) ?_
          rintro rs o ⟨rfl, h3, _, rfl⟩
          (try simp only [AW7, simprocAttr, hX]); (repeat (with_reducible refine And.intro ?_ ?_); exact vc0)
          (repeat (with_reducible refine And.intro ?_ ?_); exact vc0); refine hK _ ?_; clear hK K; refine Run.nq ?_
          refine Run.nq ?_; refine Run.regionW hC (fun K hK => ?_); simp only [AW7, simprocAttr, hX]; (repeat (with_reducible refine And.intro ?_ ?_); exact vc0)
          refine FunA.callW hP hT (c_spec_LowerInterval e w (by omega)) (by simp only [AW7, simprocAttr]) ?_
          rintro rs o ⟨rfl, h4, _, rfl⟩
          (try simp only [AW7, simprocAttr, hX]); (repeat (with_reducible refine And.intro ?_ ?_); exact vc0)
          (repeat (with_reducible refine And.intro ?_ ?_); exact vc0); refine hK _ ?_; clear hK K; refine Run.nq ?_
          refine Run.reK hpin [0, 22, 23, 24, 25, 28, 29, 30, 31] [0, 1, 2, 3] (by decide) (by simp) ?_; simp only [AR, AW7, simprocAttr]
          refine Run.nq ?_; refine Run.regionW hC (fun K hK => ?_); simp only [AW7, simprocAttr, hX]; (repeat (with_reducible refine And.intro ?_ ?_); exact vc0)
          refine FunA.callW hP hT (c_DrawBruhatCovers code hcl) (by simp only [AW7, simprocAttr]) ?_
          rintro rs o ⟨f, z, ⟨f1, f2⟩, hz, rfl, rfl⟩
          (try simp only [AW7, simprocAttr, hX]); (repeat (with_reducible refine And.intro ?_ ?_); exact vc0)
          (repeat (with_reducible refine And.intro ?_ ?_); exact vc0); refine hK _ ?_; clear hK K; refine Run.nq ?_
          obtain ⟨k1, k2⟩ := bcv_small f z
          have hkk : (bcv f z == bcv f z) = true := by simp
          refine Run.nq ?_; refine Run.regionW hC (fun K hK => ?_); simp only [AW7, simprocAttr, hX]; (repeat (with_reducible refine And.intro ?_ ?_); exact vc0)
          refine FunA.callW hP hT (c_impl_BruhatCovers f z (by omega)) (by simp only [AW7, simprocAttr]) ?_
          rintro rs o ⟨rfl, h5, _, rfl⟩
          (try simp only [AW7, simprocAttr, hX]); (repeat (with_reducible refine And.intro ?_ ?_); exact vc0)
          (repeat (with_reducible refine And.intro ?_ ?_); exact vc0); refine hK _ ?_; clear hK K; refine Run.nq ?_
          refine Run.reK hpin [22, 23, 24, 25, 28, 29, 30, 31, 32, 33, 34] [0, 1, 2, 3, 4] (by decide) (by simp) ?_; simp only [AR, AW7, simprocAttr]
          refine Run.unmat hC 4 rfl ?_
          simp only [AW7, simprocAttr]
          refine Run.letgoK 4 [22, 23, 24, 25, 28, 29, 30, 31, 32, 33, 34] rfl ?_; simp only [AL, frV_cons, frV_nil, AW7, simprocAttr]
          refine Run.nq ?_; refine Run.regionW hC (fun K hK => ?_); simp only [AW7, simprocAttr, hX]; (repeat (with_reducible refine And.intro ?_ ?_); exact vc0); refine hK _ ?_; clear hK K; refine Run.nq ?_
          refine Run.reK hpin [22, 23, 24, 25, 28, 29, 30, 31, 32, 33, 34, 35] [0, 1, 2, 3] (by decide) (by simp) ?_; simp only [AR, AW7, simprocAttr]
          refine Run.loopI (X := Nat) (fun i => ⟨289, [(22, true, .v (.own 0 0)), (23, true, .v (.bool ((itvB d a b)))), (24, true, .v (.own 1 0)), (25, true, .v (.bool ((itvB d a b)))), (28, true, .v (.own 2 0)), (29, true, .v (.bool ((lowB e w)))), (30, true, .v (.own 3 0)), (31, true, .v (.bool ((lowB e w)))), (32, true, .v (.sl true (.row true) (f))), (33, true, .v (.sl true .int (z))), (34, true, .v (.sl true (.row true) ((bcv f z)))), (35, true, .v (.int .i64 (i)))], [.mat h1 (itvX d a b) 0 true, .mat h2 (itvX d a b) 0 true, .mat h3 (lowX e w) 0 true, .mat h4 (lowX e w) 0 true]⟩) (fun i => i ≤ (bcv f z).length) (fun i => (bcv f z).length - i) (0) (Nat.zero_le _) ?_ ?_
          · exact Le.sub (by first | rfl | simp) (by simp only [AW7, simprocAttr, hX]; try simp <;> try (first | rfl | exact ⟨rfl, rfl⟩ | exact ⟨rfl, rfl, rfl⟩))
          rintro i hi ih
          try simp only []
          refine Run.nq ?_; refine Run.regionW hC (fun K hK => ?_); simp only [AW7, simprocAttr, hX]; (repeat (with_reducible refine And.intro ?_ ?_); exact vc0); refine hK _ ?_; clear hK K; refine Run.nq ?_
          refine Run.nq ?_; refine Run.condW (by simp only [AW7, simprocAttr, hX]; rfl) (by simp only [AW7, simprocAttr, hX]) ?_ ?_
          · intro hx
            have hx : i < (bcv f z).length := by rw [decide_eq_true_eq] at hx; omega
            have hbl : brB f ((bcv f z).getD i []) z = true := bcv_below (by rw [List.getD_eq_getElem?_getD, List.getElem?_eq_getElem hx]; exact List.getElem_mem hx)
            refine Run.nq ?_; refine Run.regionW hC (fun K hK => ?_); simp only [AW7, simprocAttr, hX]; (repeat (with_reducible refine And.intro ?_ ?_); exact vc0)
            refine FunA.callW hP hT (c_impl_IsBruhatBelow f ((bcv f z).getD i []) z (by omega)) (by simp only [AW7, simprocAttr]) ?_
            rintro rs o ⟨rfl, rfl⟩
            rw [hbl]
            (try simp only [AW7, simprocAttr, hX]); (repeat (with_reducible refine And.intro ?_ ?_); exact vc0)
            (repeat (with_reducible refine And.intro ?_ ?_); exact vc0); refine hK _ ?_; clear hK K; refine Run.nq ?_
            refine Run.nq ?_; refine Run.condW (by simp only [AW7, simprocAttr, hX]; rfl) (by simp only [AW7, simprocAttr, hX]) ?_ ?_
            · intro h; exact absurd h (by simp)
            intro _
            refine Run.reK hpin [22, 23, 24, 25, 28, 29, 30, 31, 32, 33, 34, 35] [0, 1, 2, 3] (by decide) (by simp) ?_; simp only [AR, AW7, simprocAttr]
            refine Run.nq ?_; refine Run.regionW hC (fun K hK => ?_); simp (disch := omega) only [wrap_id, AW7, simprocAttr, hX]; (repeat (with_reducible refine And.intro ?_ ?_); exact vc0); refine hK _ ?_; clear hK K; refine Run.nq ?_
            refine Run.le ?_ (ih (i + 1) (hx) (by (try simp only [List.length_append, List.length_cons, List.length_nil]); omega))
            exact Le.sub (by rfl) (by simp only [AW7, simprocAttr]; try simp)
          intro _
          refine Run.exit rfl ?_; refine Run.nq ?_
          refine Run.nq ?_; refine Run.regionW hC (fun K hK => ?_); simp only [AW7, simprocAttr, hX]; (repeat (with_reducible refine And.intro ?_ ?_); exact vc0)
          refine .inr ⟨rfl, ?_⟩
          refine FunA.callW hP hT (c_sameWords (itvX d a b) (itvX d a b) (by omega) (fun r hr => by have := i2 r hr; omega)) (by simp only [AW7, simprocAttr]; first | done | exact ⟨⟨rfl, rfl⟩, rfl, rfl⟩ | simp [argO, convV]) ?_
          rintro rs o ⟨rfl, rfl⟩
          rw [hii]
          (try simp only [AW7, simprocAttr, hX]); (repeat (with_reducible refine And.intro ?_ ?_); exact vc0)
          refine .inr ⟨rfl, ?_⟩
          refine FunA.callW hP hT (c_sameWords (lowX e w) (lowX e w) (by omega) (fun r hr => by have := j2 r hr; omega)) (by simp only [AW7, simprocAttr]; first | done | exact ⟨⟨rfl, rfl⟩, rfl, rfl⟩ | simp [argO, convV]) ?_
          rintro rs o ⟨rfl, rfl⟩
          rw [hjj]
          (try simp only [AW7, simprocAttr, hX]); (repeat (with_reducible refine And.intro ?_ ?_); exact vc0)
          refine .inr ⟨rfl, ?_⟩
          refine FunA.callW hP hT (c_spec_BruhatCovers f z (by omega)) (by simp only [AW7, simprocAttr]) ?_
          rintro rs o ⟨rfl, h6, _, rfl⟩
          (try simp only [AW7, simprocAttr, hX]); (repeat (with_reducible refine And.intro ?_ ?_); exact vc0)
          refine .inr ⟨rfl, ?_⟩
          refine FunA.callW hP hT (c_sameWords (bcv f z) (bcv f z) (by omega) (fun r hr => by have := k2 r hr; omega)) (by simp only [AW7, simprocAttr]; first | done | exact ⟨⟨rfl, rfl⟩, rfl, rfl⟩ | simp [argO, convV]) ?_
          rintro rs o ⟨rfl, rfl⟩
          rw [hkk]
          (try simp only [AW7, simprocAttr, hX]); (repeat (with_reducible refine And.intro ?_ ?_); exact vc0)
          (repeat (with_reducible refine And.intro ?_ ?_); exact vc0); refine hK _ ?_; clear hK K; refine Run.nq ?_
          refine Run.retW [2] (by decide) (by rw [hfn]; rfl) (by simp only [AW7, simprocAttr, hX]; rfl) (by simp only [AW7, simprocAttr, hX]) (hfin _ _ rfl rfl ?_)
          rfl
        | true =>
          cases hM : brB d a b with
          | true =>
            rw [moe_on hI hM]
            refine Run.nq ?_; refine Run.regionW hC (fun K hK => ?_); simp only [AW7, simprocAttr, hX]; (repeat (with_reducible refine And.intro ?_ ?_); exact vc0)
            refine .inr ⟨rfl, ?_⟩
            refine FunA.callW hP hT (c_spec_IsBruhatBelow d a b (by omega)) (by simp only [AW7, simprocAttr]) ?_
            rintro rs o ⟨rfl, rfl⟩
            rw [hM]
            (try simp only [AW7, simprocAttr, hX]); (repeat (with_reducible refine And.intro ?_ ?_); exact vc0)
            refine .inr ⟨rfl, ?_⟩
            refine FunA.callW hP hT (c_spec_SignOf2 a) (by simp only [AW7, simprocAttr]) ?_
            rintro rs o ⟨rfl, rfl⟩
            (try simp only [AW7, simprocAttr, hX]); (repeat (with_reducible refine And.intro ?_ ?_); exact vc0)
            refine .inr ⟨rfl, ?_⟩
            refine FunA.callW hP hT (c_spec_SignOf2 b) (by simp only [AW7, simprocAttr]) ?_
            rintro rs o ⟨rfl, rfl⟩
            simp (disch := omega) only [wrap_id, AW7, simprocAttr, hX]; (repeat (with_reducible refine And.intro ?_ ?_); exact vc0)
            rw [hee]
            refine .inr ⟨rfl, ?_⟩
            refine FunA.callW hP hT (c_spec_IsBruhatBelow d a b (by omega)) (by simp only [AW7, simprocAttr]) ?_
            rintro rs o ⟨rfl, rfl⟩
            rw [hM]
            (try simp only [AW7, simprocAttr, hX]); (repeat (with_reducible refine And.intro ?_ ?_); exact vc0)
            (repeat (with_reducible refine And.intro ?_ ?_); exact vc0); refine hK _ ?_; clear hK K; refine Run.nq ?_
            refine Run.nq ?_; refine Run.condW (by simp only [AW7, simprocAttr, hX]; rfl) (by simp only [AW7, simprocAttr, hX]) ?_ ?_
            · intro h; exact absurd h (by simp)
            intro _
            refine Run.reK hpin [0, 15, 16, 17] [] (by decide) (by simp) ?_; simp only [AR, AW7, simprocAttr]
            have i1 := itvX_len d a b
            have i2 := itvX_rows d a b
            have hbb : (itvB d a b == itvB d a b) = true := by simp
            have hii : (itvX d a b == itvX d a b) = true := by simp
            refine Run.nq ?_; refine Run.regionW hC (fun K hK => ?_); simp only [AW7, simprocAttr, hX]; (repeat (with_reducible refine And.intro ?_ ?_); exact vc0)
            refine FunA.callW hP hT (c_impl_IntervalOf d a b (by omega)) (by simp only [AW7, simprocAttr]) ?_
            rintro rs o ⟨rfl, h1, _, rfl⟩
            (try simp only [AW7, simprocAttr, hX]); (repeat (with_reducible refine And.intro ?_ ?_); exact vc0)
            (repeat (with_reducible refine And.intro ?_ ?_); exact vc0); refine hK _ ?_; clear hK K; refine Run.nq ?_
            refine Run.nq ?_; refine Run.regionW hC (fun K hK => ?_); simp only [AW7, simprocAttr, hX]; (repeat (with_reducible refine And.intro ?_ ?_); exact vc0)
            refine FunA.callW hP hT (c_spec_IntervalOf d a b (by omega)) (by simp only [AW7, simprocAttr]) ?_
            rintro rs o ⟨rfl, h2, _, rfl⟩
            (try simp only [AW7, simprocAttr, hX]); (repeat (with_reducible refine And.intro ?_ ?_); exact vc0)
            (repeat (with_reducible refine And.intro ?_ ?_); exact vc0); refine hK _ ?_; clear hK K; refine Run.nq ?_
            refine Run.reK hpin [0, 22, 23, 24, 25] [0, 1] (by decide) (by simp) ?_; simp only [AR, AW7, simprocAttr]
            refine Run.nq ?_; refine Run.regionW hC (fun K hK => ?_); simp only [AW7, simprocAttr, hX]; (repeat (with_reducible refine And.intro ?_ ?_); exact vc0)
            refine FunA.callW hP hT (c_DrawLowerInterval code hcl) (by simp only [AW7, simprocAttr]) ?_
            rintro rs o ⟨e, w, ⟨e1, e2⟩, hw, rfl, rfl⟩
            (try simp only [AW7, simprocAttr, hX]); (repeat (with_reducible refine And.intro ?_ ?_); exact vc0)
            (repeat (with_reducible refine And.intro ?_ ?_); exact vc0); refine hK _ ?_; clear hK K; refine Run.nq ?_
            have j1 := lowX_len e w
            have j2 := lowX_rows e w
            have hll : (lowB e w == lowB e w) = true := by simp
            have hjj : (lowX e w == lowX e w) = true := by simp
            refine Run.nq ?_; refine Run.regionW hC (fun K hK => ?_); simp only [AW7, simprocAttr, hX]; (repeat (with_reducible refine And.intro ?_ ?_); exact vc0)
            refine FunA.callW hP hT (c_impl_LowerInterval e w (by omega)) (by simp only [AW7, simprocAttr]) ?_
            rintro rs o ⟨rfl, h3, _, rfl⟩
            (try simp only [AW7, simprocAttr, hX]); (repeat (with_reducible refine And.intro ?_ ?_); exact vc0)
            (repeat (with_reducible refine And.intro ?_ ?_); exact vc0); refine hK _ ?_; clear hK K; refine Run.nq ?_
            refine Run.nq ?_; refine Run.regionW hC (fun K hK => ?_); simp only [AW7, simprocAttr, hX]; (repeat (with_reducible refine And.intro ?_ ?_); exact vc0)
            refine FunA.callW hP hT (c_spec_LowerInterval e w (by omega)) (by simp only [AW7, simprocAttr]) ?_
            rintro rs o ⟨rfl, h4, _, rfl⟩
            (try simp only [AW7, simprocAttr, hX]); (repeat (with_reducible refine And.intro ?_ ?_); exact vc0)
            (repeat (with_reducible refine And.intro ?_ ?_); exact vc0); refine hK _ ?_; clear hK K; refine Run.nq ?_
            refine Run.reK hpin [0, 22, 23, 24, 25, 28, 29, 30, 31] [0, 1, 2, 3] (by decide) (by simp) ?_; simp only [AR, AW7, simprocAttr]
            refine Run.nq ?_; refine Run.regionW hC (fun K hK => ?_); simp only [AW7, simprocAttr, hX]; (repeat (with_reducible refine And.intro ?_ ?_); exact vc0)
            refine FunA.callW hP hT (c_DrawBruhatCovers code hcl) (by simp only [AW7, simprocAttr]) ?_
            rintro rs o ⟨f, z, ⟨f1, f2⟩, hz, rfl, rfl⟩
            (try simp only [AW7, simprocAttr, hX]); (repeat (with_reducible refine And.intro ?_ ?_); exact vc0)
            (repeat (with_reducible refine And.intro ?_ ?_); exact vc0); refine hK _ ?_; clear hK K; refine Run.nq ?_
            obtain ⟨k1, k2⟩ := bcv_small f z
            have hkk : (bcv f z == bcv f z) = true := by simp
            refine Run.nq ?_; refine Run.regionW hC (fun K hK => ?_); simp only [AW7, simprocAttr, hX]; (repeat (with_reducible refine And.intro ?_ ?_); exact vc0)
            refine FunA.callW hP hT (c_impl_BruhatCovers f z (by omega)) (by simp only [AW7, simprocAttr]) ?_
            rintro rs o ⟨rfl, h5, _, rfl⟩
            (try simp only [AW7, simprocAttr, hX]); (repeat (with_reducible refine And.intro ?_ ?_); exact vc0)
            (repeat (with_reducible refine And.intro ?_ ?_); exact vc0); refine hK _ ?_; clear hK K; refine Run.nq ?_
            refine Run.reK hpin [22, 23, 24, 25, 28, 29, 30, 31, 32, 33, 34] [0, 1, 2, 3, 4] (by decide) (by simp) ?_; simp only [AR, AW7, simprocAttr]
            refine Run.unmat hC 4 rfl ?_
            simp only [AW7, simprocAttr]
            refine Run.letgoK 4 [22, 23, 24, 25, 28, 29, 30, 31, 32, 33, 34] rfl ?_; simp only [AL, frV_cons, frV_nil, AW7, simprocAttr]
            refine Run.nq ?_; refine Run.regionW hC (fun K hK => ?_); simp only [AW7, simprocAttr, hX]; (repeat (with_reducible refine And.intro ?_ ?_); exact vc0); refine hK _ ?_; clear hK K; refine Run.nq ?_
            refine Run.reK hpin [22, 23, 24, 25, 28, 29, 30, 31, 32, 33, 34, 35] [0, 1, 2, 3] (by decide) (by simp) ?_; simp only [AR, AW7, simprocAttr]
            refine Run.loopI (X := Nat) (fun i => ⟨289, [(22, true, .v (.own 0 0)), (23, true, .v (.bool ((itvB d a b)))), (24, true, .v (.own 1 0)), (25, true, .v (.bool ((itvB d a b)))), (28, true, .v (.own 2 0)), (29, true, .v (.bool ((lowB e w)))), (30, true, .v (.own 3 0)), (31, true, .v (.bool ((lowB e w)))), (32, true, .v (.sl true (.row true) (f))), (33, true, .v (.sl true .int (z))), (34, true, .v (.sl true (.row true) ((bcv f z)))), (35, true, .v (.int .i64 (i)))], [.mat h1 (itvX d a b) 0 true, .mat h2 (itvX d a b) 0 true, .mat h3 (lowX e w) 0 true, .mat h4 (lowX e w) 0 true]⟩) (fun i => i ≤ (bcv f z).length) (fun i => (bcv f z).length - i) (0) (Nat.zero_le _) ?_ ?_
            · exact Le.sub (by first | rfl | simp) (by simp only [AW7, simprocAttr, hX]; try simp <;> try (first | rfl | exact ⟨rfl, rfl⟩ | exact ⟨rfl, rfl, rfl⟩))
            rintro i hi ih
            try simp only []
            refine Run.nq ?_; refine Run.regionW hC (fun K hK => ?_); simp only [AW7, simprocAttr, hX]; (repeat (with_reducible refine And.intro ?_ ?_); exact vc0); refine hK _ ?_; clear hK K; refine Run.nq ?_
            refine Run.nq ?_; refine Run.condW (by simp only [AW7, simprocAttr, hX]; rfl) (by simp only [AW7, simprocAttr, hX]) ?_ ?_
            · intro hx
              have hx : i < (bcv f z).length := by rw [decide_eq_true_eq] at hx; omega
              have hbl : brB f ((bcv f z).getD i []) z = true := bcv_below (by rw [List.getD_eq_getElem?_getD, List.getElem?_eq_getElem hx]; exact List.getElem_mem hx)
              refine Run.nq ?_; refine Run.regionW hC (fun K hK => ?_); simp only [AW7, simprocAttr, hX]; (repeat (with_reducible refine And.intro ?_ ?_); exact vc0)
              refine FunA.callW hP hT (c_impl_IsBruhatBelow f ((bcv f z).getD i []) z (by omega)) (by simp only [AW7, simprocAttr]) ?_
              rintro rs o ⟨rfl, rfl⟩
              rw [hbl]
              (try simp only [AW7, simprocAttr, hX]); (repeat (with_reducible refine And.intro ?_ ?_); exact vc0)
              (repeat (with_reducible refine And.intro ?_ ?_); exact vc0); refine hK _ ?_; clear hK K; refine Run.nq ?_
              refine Run.nq ?_; refine Run.condW (by simp only [AW7, simprocAttr, hX]; rfl) (by simp only [AW7, simprocAttr, hX]) ?_ ?_
              · intro h; exact absurd h (by simp)
              intro _
              refine Run.reK hpin [22, 23, 24, 25, 28, 29, 30, 31, 32, 33, 34, 35] [0, 1, 2, 3] (by decide) (by simp) ?_; simp only [AR, AW7, simprocAttr]
              refine Run.nq ?_; refine Run.regionW hC (fun K hK => ?_); simp (disch := omega) only [wrap_id, AW7, simprocAttr, hX]; (repeat (with_reducible refine And.intro ?_ ?_); exact vc0); refine hK _ ?_; clear hK K; refine Run.nq ?_
              refine Run.le ?_ (ih (i + 1) (hx) (by (try simp only [List.length_append, List.length_cons, List.length_nil]); omega))
              exact Le.sub (by rfl) (by simp only [AW7, simprocAttr]; try simp)
            intro _
            refine Run.exit rfl ?_; refine Run.nq ?_
            refine Run.nq ?_; refine Run.regionW hC (fun K hK => ?_); simp only [AW7, simprocAttr, hX]; (repeat (with_reducible refine And.intro ?_ ?_); exact vc0)
            refine .inr ⟨rfl, ?_⟩
            refine FunA.callW hP hT (c_sameWords (itvX d a b) (itvX d a b) (by omega) (fun r hr => by have := i2 r hr; omega)) (by simp only [AW7, simprocAttr]; first | done | exact ⟨⟨rfl, rfl⟩, rfl, rfl⟩ | simp [argO, convV]) ?_
            rintro rs o ⟨rfl, rfl⟩
            rw [hii]
            (try simp only [AW7, simprocAttr, hX]); (repeat (with_reducible refine And.intro ?_ ?_); exact vc0)
            refine .inr ⟨rfl, ?_⟩
            refine FunA.callW hP hT (c_sameWords (lowX e w) (lowX e w) (by omega) (fun r hr => by have := j2 r hr; omega)) (by simp only [AW7, simprocAttr]; first | done | exact ⟨⟨rfl, rfl⟩, rfl, rfl⟩ | simp [argO, convV]) ?_
            rintro rs o ⟨rfl, rfl⟩
            rw [hjj]
            (try simp only [AW7, simprocAttr, hX]); (repeat (with_reducible refine And.intro ?_ ?_); exact vc0)
            refine .inr ⟨rfl, ?_⟩
            refine FunA.callW hP hT (c_spec_BruhatCovers f z (by omega)) (by simp only [AW7, simprocAttr]) ?_
            rintro rs o ⟨rfl, h6, _, rfl⟩
            (try simp only [AW7, simprocAttr, hX]); (repeat (with_reducible refine And.intro ?_ ?_); exact vc0)
            refine .inr ⟨rfl, ?_⟩
            refine FunA.callW hP hT (c_sameWords (bcv f z) (bcv f z) (by omega) (fun r hr => by have := k2 r hr; omega)) (by simp only [AW7, simprocAttr]; first | done | exact ⟨⟨rfl, rfl⟩, rfl, rfl⟩ | simp [argO, convV]) ?_
            rintro rs o ⟨rfl, rfl⟩
            rw [hkk]
            (try simp only [AW7, simprocAttr, hX]); (repeat (with_reducible refine And.intro ?_ ?_); exact vc0)
            (repeat (with_reducible refine And.intro ?_ ?_); exact vc0); refine hK _ ?_; clear hK K; refine Run.nq ?_
            refine Run.retW [2] (by decide) (by rw [hfn]; rfl) (by simp only [AW7, simprocAttr, hX]; rfl) (by simp only [AW7, simprocAttr, hX]) (hfin _ _ rfl rfl ?_)
            rfl
          | false =>
            rw [moe_off hI hM]
            refine Run.nq ?_; refine Run.regionW hC (fun K hK => ?_); simp only [AW7, simprocAttr, hX]; (repeat (with_reducible refine And.intro ?_ ?_); exact vc0)
            refine .inr ⟨rfl, ?_⟩
            refine FunA.callW hP hT (c_spec_IsBruhatBelow d a b (by omega)) (by simp only [AW7, simprocAttr]) ?_
            rintro rs o ⟨rfl, rfl⟩
            rw [hM]
            (try simp only [AW7, simprocAttr, hX]); (repeat (with_reducible refine And.intro ?_ ?_); exact vc0)
            refine .inl (CallG.off (.int .i64 0) ?_)
            (try simp only [AW7, simprocAttr, hX]); (repeat (with_reducible refine And.intro ?_ ?_); exact vc0)
            refine .inl (CallG.off (.int .i64 0) ?_)
            (try simp only [AW7, simprocAttr, hX]); (repeat (with_reducible refine And.intro ?_ ?_); exact vc0)
            refine .inr ⟨rfl, ?_⟩
            refine FunA.callW hP hT (c_spec_IsBruhatBelow d a b (by omega)) (by simp only [AW7, simprocAttr]) ?_
            rintro rs o ⟨rfl, rfl⟩
            rw [hM]
            (try simp only [AW7, simprocAttr, hX]); (repeat (with_reducible refine And.intro ?_ ?_); exact vc0)
            (repeat (with_reducible refine And.intro ?_ ?_); exact vc0); refine hK _ ?_; clear hK K; refine Run.nq ?_
            refine Run.nq ?_; refine Run.condW (by simp only [AW7, simprocAttr, hX]; rfl) (by simp only [AW7, simprocAttr, hX]) ?_ ?_
            · intro h; exact absurd h (by simp)
            intro _
            refine Run.reK hpin [0, 15, 16, 17] [] (by decide) (by simp) ?_; simp only [AR, AW7, simprocAttr]
            have i1 := itvX_len d a b
            have i2 := itvX_rows d a b
            have hbb : (itvB d a b == itvB d a b) = true := by simp
            have hii : (itvX d a b == itvX d a b) = true := by simp
            refine Run.nq ?_; refine Run.regionW hC (fun K hK => ?_); simp only [AW7, simprocAttr, hX]; (repeat (with_reducible refine And.intro ?_ ?_); exact vc0)
            refine FunA.callW hP hT (c_impl_IntervalOf d a b (by omega)) (by simp only [AW7, simprocAttr]) ?_
            rintro rs o ⟨rfl, h1, _, rfl⟩
            (try simp only [AW7, simprocAttr, hX]); (repeat (with_reducible refine And.intro ?_ ?_); exact vc0)
            (repeat (with_reducible refine And.intro ?_ ?_); exact vc0); refine hK _ ?_; clear hK K; refine Run.nq ?_
            refine Run.nq ?_; refine Run.regionW hC (fun K hK => ?_); simp only [AW7, simprocAttr, hX]; (repeat (with_reducible refine And.intro ?_ ?_); exact vc0)
            refine FunA.callW hP hT (c_spec_IntervalOf d a b (by omega)) (by simp only [AW7, simprocAttr]) ?_
            rintro rs o ⟨rfl, h2, _, rfl⟩
            (try simp only [AW7, simprocAttr, hX]); (repeat (with_reducible refine And.intro ?_ ?_); exact vc0)
            (repeat (with_reducible refine And.intro ?_ ?_); exact vc0); refine hK _ ?_; clear hK K; refine Run.nq ?_
            refine Run.reK hpin [0, 22, 23, 24, 25] [0, 1] (by decide) (by simp) ?_; simp only [AR, AW7, simprocAttr]
            refine Run.nq ?_; refine Run.regionW hC (fun K hK => ?_); simp only [AW7, simprocAttr, hX]; (repeat (with_reducible refine And.intro ?_ ?_); exact vc0)
            refine FunA.callW hP hT (c_DrawLowerInterval code hcl) (by simp only [AW7, simprocAttr]) ?_
            rintro rs o ⟨e, w, ⟨e1, e2⟩, hw, rfl, rfl⟩
            (try simp only [AW7, simprocAttr, hX]); (repeat (with_reducible refine And.intro ?_ ?_); exact vc0)
            (repeat (with_reducible refine And.intro ?_ ?_); exact vc0); refine hK _ ?_; clear hK K; refine Run.nq ?_
            have j1 := lowX_len e w
            have j2 := lowX_rows e w
            have hll : (lowB e w == lowB e w) = true := by simp
            have hjj : (lowX e w == lowX e w) = true := by simp
            refine Run.nq ?_; refine Run.regionW hC (fun K hK => ?_); simp only [AW7, simprocAttr, hX]; (repeat (with_reducible refine And.intro ?_ ?_); exact vc0)
            refine FunA.callW hP hT (c_impl_LowerInterval e w (by omega)) (by simp only [AW7, simprocAttr]) ?_
            rintro rs o ⟨rfl, h3, _, rfl⟩
            (try simp only [AW7, simprocAttr, hX]); (repeat (with_reducible refine And.intro ?_ ?_); exact vc0)
            (repeat (with_reducible refine And.intro ?_ ?_); exact vc0); refine hK _ ?_; clear hK K; refine Run.nq ?_
            refine Run.nq ?_; refine Run.regionW hC (fun K hK => ?_); simp only [AW7, simprocAttr, hX]; (repeat (with_reducible refine And.intro ?_ ?_); exact vc0)
            refine FunA.callW hP hT (c_spec_LowerInterval e w (by omega)) (by simp only [AW7, simprocAttr]) ?_
            rintro rs o ⟨rfl, h4, _, rfl⟩
            (try simp only [AW7, simprocAttr, hX]); (repeat (with_reducible refine And.intro ?_ ?_); exact vc0)
            (repeat (with_reducible refine And.intro ?_ ?_); exact vc0); refine hK _ ?_; clear hK K; refine Run.nq ?_
            refine Run.reK hpin [0, 22, 23, 24, 25, 28, 29, 30, 31] [0, 1, 2, 3] (by decide) (by simp) ?_; simp only [AR, AW7, simprocAttr]
            refine Run.nq ?_; refine Run.regionW hC (fun K hK => ?_); simp only [AW7, simprocAttr, hX]; (repeat (with_reducible refine And.intro ?_ ?_); exact vc0)
            refine FunA.callW hP hT (c_DrawBruhatCovers code hcl) (by simp only [AW7, simprocAttr]) ?_
            rintro rs o ⟨f, z, ⟨f1, f2⟩, hz, rfl, rfl⟩
            (try simp only [AW7, simprocAttr, hX]); (repeat (with_reducible refine And.intro ?_ ?_); exact vc0)
            (repeat (with_reducible refine And.intro ?_ ?_); exact vc0); refine hK _ ?_; clear hK K; refine Run.nq ?_
            obtain ⟨k1, k2⟩ := bcv_small f z
            have hkk : (bcv f z == bcv f z) = true := by simp
            refine Run.nq ?_; refine Run.regionW hC (fun K hK => ?_); simp only [AW7, simprocAttr, hX]; (repeat (with_reducible refine And.intro ?_ ?_); exact vc0)
            refine FunA.callW hP hT (c_impl_BruhatCovers f z (by omega)) (by simp only [AW7, simprocAttr]) ?_
            rintro rs o ⟨rfl, h5, _, rfl⟩
            (try simp only [AW7, simprocAttr, hX]); (repeat (with_reducible refine And.intro ?_ ?_); exact vc0)
            (repeat (with_reducible refine And.intro ?_ ?_); exact vc0); refine hK _ ?_; clear hK K; refine Run.nq ?_
            refine Run.reK hpin [22, 23, 24, 25, 28, 29, 30, 31, 32, 33, 34] [0, 1, 2, 3, 4] (by decide) (by simp) ?_; simp only [AR, AW7, simprocAttr]
            refine Run.unmat hC 4 rfl ?_
            simp only [AW7, simprocAttr]
            refine Run.letgoK 4 [22, 23, 24, 25, 28, 29, 30, 31, 32, 33, 34] rfl ?_; simp only [AL, frV_cons, frV_nil, AW7, simprocAttr]
            refine Run.nq ?_; refine Run.regionW hC (fun K hK => ?_); simp only [AW7, simprocAttr, hX]; (repeat (with_reducible refine And.intro ?_ ?_); exact vc0); refine hK _ ?_; clear hK K; refine Run.nq ?_
            refine Run.reK hpin [22, 23, 24, 25, 28, 29, 30, 31, 32, 33, 34, 35] [0, 1, 2, 3] (by decide) (by simp) ?_; simp only [AR, AW7, simprocAttr]
            refine Run.loopI (X := Nat) (fun i => ⟨289, [(22, true, .v (.own 0 0)), (23, true, .v (.bool ((itvB d a b)))), (24, true, .v (.own 1 0)), (25, true, .v (.bool ((itvB d a b)))), (28, true, .v (.own 2 0)), (29, true, .v (.bool ((lowB e w)))), (30, true, .v (.own 3 0)), (31, true, .v (.bool ((lowB e w)))), (32, true, .v (.sl true (.row true) (f))), (33, true, .v (.sl true .int (z))), (34, true, .v (.sl true (.row true) ((bcv f z)))), (35, true, .v (.int .i64 (i)))], [.mat h1 (itvX d a b) 0 true, .mat h2 (itvX d a b) 0 true, .mat h3 (lowX e w) 0 true, .mat h4 (lowX e w) 0 true]⟩) (fun i => i ≤ (bcv f z).length) (fun i => (bcv f z).length - i) (0) (Nat.zero_le _) ?_ ?_
            · exact Le.sub (by first | rfl | simp) (by simp only [AW7, simprocAttr, hX]; try simp <;> try (first | rfl | exact ⟨rfl, rfl⟩ | exact ⟨rfl, rfl, rfl⟩))
            rintro i hi ih
            try simp only []
            refine Run.nq ?_; refine Run.regionW hC (fun K hK => ?_); simp only [AW7, simprocAttr, hX]; (repeat (with_reducible refine And.intro ?_ ?_); exact vc0); refine hK _ ?_; clear hK K; refine Run.nq ?_
            refine Run.nq ?_; refine Run.condW (by simp only [AW7, simprocAttr, hX]; rfl) (by simp only [AW7, simprocAttr, hX]) ?_ ?_
            · intro hx
              have hx : i < (bcv f z).length := by rw [decide_eq_true_eq] at hx; omega
              have hbl : brB f ((bcv f z).getD i []) z = true := bcv_below (by rw [List.getD_eq_getElem?_getD, List.getElem?_eq_getElem hx]; exact List.getElem_mem hx)
              refine Run.nq ?_; refine Run.regionW hC (fun K hK => ?_); simp only [AW7, simprocAttr, hX]; (repeat (with_reducible refine And.intro ?_ ?_); exact vc0)
              refine FunA.callW hP hT (c_impl_IsBruhatBelow f ((bcv f z).getD i []) z (by omega)) (by simp only [AW7, simprocAttr]) ?_
              rintro rs o ⟨rfl, rfl⟩
              rw [hbl]
              (try simp only [AW7, simprocAttr, hX]); (repeat (with_reducible refine And.intro ?_ ?_); exact vc0)
              (repeat (with_reducible refine And.intro ?_ ?_); exact vc0); refine hK _ ?_; clear hK K; refine Run.nq ?_
              refine Run.nq ?_; refine Run.condW (by simp only [AW7, simprocAttr, hX]; rfl) (by simp only [AW7, simprocAttr, hX]) ?_ ?_
              · intro h; exact absurd h (by simp)
              intro _
              refine Run.reK hpin [22, 23, 24, 25, 28, 29, 30, 31, 32, 33, 34, 35] [0, 1, 2, 3] (by decide) (by simp) ?_; simp only [AR, AW7, simprocAttr]
              refine Run.nq ?_; refine Run.regionW hC (fun K hK => ?_); simp (disch := omega) only [wrap_id, AW7, simprocAttr, hX]; (repeat (with_reducible refine And.intro ?_ ?_); exact vc0); refine hK _ ?_; clear hK K; refine Run.nq ?_
              refine Run.le ?_ (ih (i + 1) (hx) (by (try simp only [List.length_append, List.length_cons, List.length_nil]); omega))
              exact Le.sub (by rfl) (by simp only [AW7, simprocAttr]; try simp)
            intro _
            refine Run.exit rfl ?_; refine Run.nq ?_
            refine Run.nq ?_; refine Run.regionW hC (fun K hK => ?_); simp only [AW7, simprocAttr, hX]; (repeat (with_reducible refine And.intro ?_ ?_); exact vc0)
            refine .inr ⟨rfl, ?_⟩
            refine FunA.callW hP hT (c_sameWords (itvX d a b) (itvX d a b) (by omega) (fun r hr => by have := i2 r hr; omega)) (by simp only [AW7, simprocAttr]; first | done | exact ⟨⟨rfl, rfl⟩, rfl, rfl⟩ | simp [argO, convV]) ?_
            rintro rs o ⟨rfl, rfl⟩
            rw [hii]
            (try simp only [AW7, simprocAttr, hX]); (repeat (with_reducible refine And.intro ?_ ?_); exact vc0)
            refine .inr ⟨rfl, ?_⟩
            refine FunA.callW hP hT (c_sameWords (lowX e w) (lowX e w) (by omega) (fun r hr => by have := j2 r hr; omega)) (by simp only [AW7, simprocAttr]; first | done | exact ⟨⟨rfl, rfl⟩, rfl, rfl⟩ | simp [argO, convV]) ?_
            rintro rs o ⟨rfl, rfl⟩
            rw [hjj]
            (try simp only [AW7, simprocAttr, hX]); (repeat (with_reducible refine And.intro ?_ ?_); exact vc0)
            refine .inr ⟨rfl, ?_⟩
            refine FunA.callW hP hT (c_spec_BruhatCovers f z (by omega)) (by simp only [AW7, simprocAttr]) ?_
            rintro rs o ⟨rfl, h6, _, rfl⟩
            (try simp only [AW7, simprocAttr, hX]); (repeat (with_reducible refine And.intro ?_ ?_); exact vc0)
            refine .inr ⟨rfl, ?_⟩
            refine FunA.callW hP hT (c_sameWords (bcv f z) (bcv f z) (by omega) (fun r hr => by have := k2 r hr; omega)) (by simp only [AW7, simprocAttr]; first | done | exact ⟨⟨rfl, rfl⟩, rfl, rfl⟩ | simp [argO, convV]) ?_
            rintro rs o ⟨rfl, rfl⟩
            rw [hkk]
            (try simp only [AW7, simprocAttr, hX]); (repeat (with_reducible refine And.intro ?_ ?_); exact vc0)
            (repeat (with_reducible refine And.intro ?_ ?_); exact vc0); refine hK _ ?_; clear hK K; refine Run.nq ?_
            refine Run.retW [2] (by decide) (by rw [hfn]; rfl) (by simp only [AW7, simprocAttr, hX]; rfl) (by simp only [AW7, simprocAttr, hX]) (hfin _ _ rfl rfl ?_)
            rfl
  intro _
  refine Run.reK hpin [0] [] (by decide) (by simp) ?_; simp only [AR, AW7, simprocAttr]
  refine Run.nq ?_; refine Run.regionW hC (fun K hK => ?_); simp only [AW7, simprocAttr, hX]; (repeat (with_reducible refine And.intro ?_ ?_); exact vc0)
  refine FunA.callW hP hT (c_DrawMoebiusOf code hcl) (by simp only [AW7, simprocAttr]) ?_
  rintro rs o ⟨d, a, b, ⟨d1, d2⟩, hal, hbl, rfl, rfl⟩
  (try simp only [AW7, simprocAttr, hX]); (repeat (with_reducible refine And.intro ?_ ?_); exact vc0)
  (repeat (with_reducible refine And.intro ?_ ?_); exact vc0); refine hK _ ?_; clear hK K; refine Run.nq ?_
  refine Run.reK hpin [0, 15, 16, 17] [] (by decide) (by simp) ?_; simp only [AR, AW7, simprocAttr]
  refine Run.nq ?_; refine Run.regionW hC (fun K hK => ?_); simp only [AW7, simprocAttr, hX]; (repeat (with_reducible refine And.intro ?_ ?_); exact vc0)
  refine FunA.callW hP hT (c_impl_MoebiusOf d a b (by omega)) (by simp only [AW7, simprocAttr]) ?_
  rintro rs o ⟨rfl, rfl⟩
  (try simp only [AW7, simprocAttr, hX]); (repeat (with_reducible refine And.intro ?_ ?_); exact vc0)
  (repeat (with_reducible refine And.intro ?_ ?_); exact vc0); refine hK _ ?_; clear hK K; refine Run.nq ?_
  refine Run.nq ?_; refine Run.regionW hC (fun K hK => ?_); simp only [AW7, simprocAttr, hX]; (repeat (with_reducible refine And.intro ?_ ?_); exact vc0)
  refine FunA.callW hP hT (c_spec_MoebiusOf d a b (by omega)) (by simp only [AW7, simprocAttr]) ?_
  rintro rs o ⟨rfl, rfl⟩
  (try simp only [AW7, simprocAttr, hX]); (repeat (with_reducible refine And.intro ?_ ?_); exact vc0)
  (repeat (with_reducible refine And.intro ?_ ?_); exact vc0); refine hK _ ?_; clear hK K; refine Run.nq ?_
  refine Run.reK hpin [0, 15, 16, 17, 18, 19, 20, 21] [] (by decide) (by simp) ?_; simp only [AR, AW7, simprocAttr]
  refine Run.nq ?_; refine Run.regionW hC (fun K hK => ?_); simp only [AW7, simprocAttr, hX]; (repeat (with_reducible refine And.intro ?_ ?_); exact vc0); refine hK _ ?_; clear hK K; refine Run.nq ?_
  refine Run.nq ?_; refine Run.condW (by simp only [AW7, simprocAttr, hX]; rfl) (by simp only [AW7, simprocAttr, hX]) ?_ ?_
  · intro h; simp at h
  intro _
  have hee : (eps a * eps b != eps a * eps b) = false := by simp
  have heb : -1 ≤ eps a * eps b ∧ eps a * eps b ≤ 1 := by
    rcases eps_cases a with e1 | e1 <;> rcases eps_cases b with e2 | e2 <;> rw [e1, e2] <;> decide
  refine Run.reK hpin [0, 15, 16, 17, 18, 19] [] (by decide) (by simp) ?_; simp only [AR, AW7, simprocAttr]
  cases hI : itvB d a b with
  | false =>
    refine Run.nq ?_; refine Run.regionW hC (fun K hK => ?_); simp only [AW7, simprocAttr, hX]; (repeat (with_reducible refine And.intro ?_ ?_); exact vc0)
    refine .inl (CallG.off (.bool false) ?_)
    (try simp only [AW7, simprocAttr, hX]); (repeat (with_reducible refine And.intro ?_ ?_); exact vc0)
    refine .inl (CallG.off (.int .i64 0) ?_)
    (try simp only [AW7, simprocAttr, hX]); (repeat (with_reducible refine And.intro ?_ ?_); exact vc0)
    refine .inl (CallG.off (.int .i64 0) ?_)
    (try simp only [AW7, simprocAttr, hX]); (repeat (with_reducible refine And.intro ?_ ?_); exact vc0)
    refine .inl (CallG.off (.bool false) ?_)
    (try simp only [AW7, simprocAttr, hX]); (repeat (with_reducible refine And.intro ?_ ?_); exact vc0)
    (repeat (with_reducible refine And.intro ?_ ?_); exact vc0); refine hK _ ?_; clear hK K; refine Run.nq ?_
    refine Run.nq ?_; refine Run.condW (by simp only [AW7, simprocAttr, hX]; rfl) (by simp only [AW7, simprocAttr, hX]) ?_ ?_
    · intro h; exact absurd h (by simp)
    intro _
    refine Run.reK hpin [0, 15, 16, 17] [] (by decide) (by simp) ?_; simp only [AR, AW7, simprocAttr]
    have i1 := itvX_len d a b
    have i2 := itvX_rows d a b
    have hbb : (itvB d a b == itvB d a b) = true := by simp
    have hii : (itvX d a b == itvX d a b) = true := by simp
    refine Run.nq ?_; refine Run.regionW hC (fun K hK => ?_); simp only [AW7, simprocAttr, hX]; (repeat (with_reducible refine And.intro ?_ ?_); exact vc0)
    refine FunA.callW hP hT (c_impl_IntervalOf d a b (by omega)) (by simp only [AW7, simprocAttr]) ?_
    rintro rs o ⟨rfl, h1, _, rfl⟩
    (try simp only [AW7, simprocAttr, hX]); (repeat (with_reducible refine And.intro ?_ ?_); exact vc0)
    (repeat (with_reducible refine And.intro ?_ ?_); exact vc0); refine hK _ ?_; clear hK K; refine Run.nq ?_
    refine Run.nq ?_; refine Run.regionW hC (fun K hK => ?_); simp only [AW7, simprocAttr, hX]; (repeat (with_reducible refine And.intro ?_ ?_); exact vc0)
    refine FunA.callW hP hT (c_spec_IntervalOf d a b (by omega)) (by simp only [AW7, simprocAttr]) ?_
    rintro rs o ⟨rfl, h2, _, rfl⟩
    (try simp only [AW7, simprocAttr, hX]); (repeat (with_reducible refine And.intro ?_ ?_); exact vc0)
    (repeat (with_reducible refine And.intro ?_ ?_); exact vc0); refine hK _ ?_; clear hK K; refine Run.nq ?_
    refine Run.reK hpin [0, 22, 23, 24, 25] [0, 1] (by decide) (by simp) ?_; simp only [AR, AW7, simprocAttr]
    refine Run.nq ?_; refine Run.regionW hC (fun K hK => ?_); simp only [AW7, simprocAttr, hX]; (repeat (with_reducible refine And.intro ?_ ?_); exact vc0)
    refine FunA.callW hP hT (c_DrawLowerInterval code hcl) (by simp only [AW7, simprocAttr]) ?_
    rintro rs o ⟨e, w, ⟨e1, e2⟩, hw, rfl, rfl⟩
    (try simp only [AW7, simprocAttr, hX]); (repeat (with_reducible refine And.intro ?_ ?_); exact vc0)
    (repeat (with_reducible refine And.intro ?_ ?_); exact vc0); refine hK _ ?_; clear hK K; refine Run.nq ?_
    have j1 := lowX_len e w
    have j2 := lowX_rows e w
    have hll : (lowB e w == lowB e w) = true := by simp
    have hjj : (lowX e w == lowX e w) = true := by simp
    refine Run.nq ?_; refine Run.regionW hC (fun K hK => ?_); simp only [AW7, simprocAttr, hX]; (repeat (with_reducible refine And.intro ?_ ?_); exact vc0)
    refine FunA.callW hP hT (c_impl_LowerInterval e w (by omega)) (by simp only [AW7, simprocAttr]) ?_
    rintro rs o ⟨rfl, h3, _, rfl⟩
    (try simp only [AW7, simprocAttr, hX]); (repeat (with_reducible refine And.intro ?_ ?_); exact vc0)
    (repeat (with_reducible refine And.intro ?_ ?_); exact vc0); refine hK _ ?_; clear hK K; refine Run.nq ?_
    refine Run.nq ?_; refine Run.regionW hC (fun K hK => ?_); simp only [AW7, simprocAttr, hX]; (repeat (with_reducible refine And.intro ?_ ?_); exact vc0)
    refine FunA.callW hP hT (c_spec_LowerInterval e w (by omega)) (by simp only [AW7, simprocAttr]) ?_
    rintro rs o ⟨rfl, h4, _, rfl⟩
    (try simp only [AW7, simprocAttr, hX]); (repeat (with_reducible refine And.intro ?_ ?_); exact vc0)
    (repeat (with_reducible refine And.intro ?_ ?_); exact vc0); refine hK _ ?_; clear hK K; refine Run.nq ?_
    refine Run.reK hpin [0, 22, 23, 24, 25, 28, 29, 30, 31] [0, 1, 2, 3] (by decide) (by simp) ?_; simp only [AR, AW7, simprocAttr]
    refine Run.nq ?_; refine Run.regionW hC (fun K hK => ?_); simp only [AW7, simprocAttr, hX]; (repeat (with_reducible refine And.intro ?_ ?_); exact vc0)
    refine FunA.callW hP hT (c_DrawBruhatCovers code hcl) (by simp only [AW7, simprocAttr]) ?_
    rintro rs o ⟨f, z, ⟨f1, f2⟩, hz, rfl, rfl⟩
    (try simp only [AW7, simprocAttr, hX]); (repeat (with_reducible refine And.intro ?_ ?_); exact vc0)
    (repeat (with_reducible refine And.intro ?_ ?_); exact vc0); refine hK _ ?_; clear hK K; refine Run.nq ?_
    obtain ⟨k1, k2⟩ := bcv_small f z
    have hkk : (bcv f z == bcv f z) = true := by simp
    refine Run.nq ?_; refine Run.regionW hC (fun K hK => ?_); simp only [AW7, simprocAttr, hX]; (repeat (with_reducible refine And.intro ?_ ?_); exact vc0)
    refine FunA.callW hP hT (c_impl_BruhatCovers f z (by omega)) (by simp only [AW7, simprocAttr]) ?_
    rintro rs o ⟨rfl, h5, _, rfl⟩
    (try simp only [AW7, simprocAttr, hX]); (repeat (with_reducible refine And.intro ?_ ?_); exact vc0)
    (repeat (with_reducible refine And.intro ?_ ?_); exact vc0); refine hK _ ?_; clear hK K; refine Run.nq ?_
    refine Run.reK hpin [22, 23, 24, 25, 28, 29, 30, 31, 32, 33, 34] [0, 1, 2, 3, 4] (by decide) (by simp) ?_; simp only [AR, AW7, simprocAttr]
    refine Run.unmat hC 4 rfl ?_
    simp only [AW7, simprocAttr]
    refine Run.letgoK 4 [22, 23, 24, 25, 28, 29, 30, 31, 32, 33, 34] rfl ?_; simp only [AL, frV_cons, frV_nil, AW7, simprocAttr]
    refine Run.nq ?_; refine Run.regionW hC (fun K hK => ?_); simp only [AW7, simprocAttr, hX]; (repeat (with_reducible refine And.intro ?_ ?_); exact vc0); refine hK _ ?_; clear hK K; refine Run.nq ?_
    refine Run.reK hpin [22, 23, 24, 25, 28, 29, 30, 31, 32, 33, 34, 35] [0, 1, 2, 3] (by decide) (by simp) ?_; simp only [AR, AW7, simprocAttr]
    refine Run.loopI (X := Nat) (fun i => ⟨289, [(22, true, .v (.own 0 0)), (23, true, .v (.bool ((itvB d a b)))), (24, true, .v (.own 1 0)), (25, true, .v (.bool ((itvB d a b)))), (28, true, .v (.own 2 0)), (29, true, .v (.bool ((lowB e w)))), (30, true, .v (.own 3 0)), (31, true, .v (.bool ((lowB e w)))), (32, true, .v (.sl true (.row true) (f))), (33, true, .v (.sl true .int (z))), (34, true, .v (.sl true (.row true) ((bcv f z)))), (35, true, .v (.int .i64 (i)))], [.mat h1 (itvX d a b) 0 true, .mat h2 (itvX d a b) 0 true, .mat h3 (lowX e w) 0 true, .mat h4 (lowX e w) 0 true]⟩) (fun i => i ≤ (bcv f z).length) (fun i => (bcv f z).length - i) (0) (Nat.zero_le _) ?_ ?_
    · exact Le.sub (by first | rfl | simp) (by simp only [AW7, simprocAttr, hX]; try simp <;> try (first | rfl | exact ⟨rfl, rfl⟩ | exact ⟨rfl, rfl, rfl⟩))
    rintro i hi ih
    try simp only []
    refine Run.nq ?_; refine Run.regionW hC (fun K hK => ?_); simp only [AW7, simprocAttr, hX]; (repeat (with_reducible refine And.intro ?_ ?_); exact vc0); refine hK _ ?_; clear hK K; refine Run.nq ?_
    refine Run.nq ?_; refine Run.condW (by simp only [AW7, simprocAttr, hX]; rfl) (by simp only [AW7, simprocAttr, hX]) ?_ ?_
    · intro hx
      have hx : i < (bcv f z).length := by rw [decide_eq_true_eq] at hx; omega
      have hbl : brB f ((bcv f z).getD i []) z = true := bcv_below (by rw [List.getD_eq_getElem?_getD, List.getElem?_eq_getElem hx]; exact List.getElem_mem hx)
      refine Run.nq ?_; refine Run.regionW hC (fun K hK => ?_); simp only [AW7, simprocAttr, hX]; (repeat (with_reducible refine And.intro ?_ ?_); exact vc0)
      refine FunA.callW hP hT (c_impl_IsBruhatBelow f ((bcv f z).getD i []) z (by omega)) (by simp only [AW7, simprocAttr]) ?_
      rintro rs o ⟨rfl, rfl⟩
      rw [hbl]
      (try simp only [AW7, simprocAttr, hX]); (repeat (with_reducible refine And.intro ?_ ?_); exact vc0)
      (repeat (with_reducible refine And.intro ?_ ?_); exact vc0); refine hK _ ?_; clear hK K; refine Run.nq ?_
      refine Run.nq ?_; refine Run.condW (by simp only [AW7, simprocAttr, hX]; rfl) (by simp only [AW7, simprocAttr, hX]) ?_ ?_
      · intro h; exact absurd h (by simp)
      intro _
      refine Run.reK hpin [22, 23, 24, 25, 28, 29, 30, 31, 32, 33, 34, 35] [0, 1, 2, 3] (by decide) (by simp) ?_; simp only [AR, AW7, simprocAttr]
      refine Run.nq ?_; refine Run.regionW hC (fun K hK => ?_); simp (disch := omega) only [wrap_id, AW7, simprocAttr, hX]; (repeat (with_reducible refine And.intro ?_ ?_); exact vc0); refine hK _ ?_; clear hK K; refine Run.nq ?_
      refine Run.le ?_ (ih (i + 1) (hx) (by (try simp only [List.length_append, List.length_cons, List.length_nil]); omega))
      exact Le.sub (by rfl) (by simp only [AW7, simprocAttr]; try simp)
    intro _
    refine Run.exit rfl ?_; refine Run.nq ?_
    refine Run.nq ?_; refine Run.regionW hC (fun K hK => ?_); simp only [AW7, simprocAttr, hX]; (repeat (with_reducible refine And.intro ?_ ?_); exact vc0)
    refine .inr ⟨rfl, ?_⟩
    refine FunA.callW hP hT (c_sameWords (itvX d a b) (itvX d a b) (by omega) (fun r hr => by have := i2 r hr; omega)) (by simp only [AW7, simprocAttr]; first | done | exact ⟨⟨rfl, rfl⟩, rfl, rfl⟩ | simp [argO, convV]) ?_
    rintro rs o ⟨rfl, rfl⟩
    rw [hii]
    (try simp only [AW7, simprocAttr, hX]); (repeat (with_reducible refine And.intro ?_ ?_); exact vc0)
    refine .inr ⟨rfl, ?_⟩
    refine FunA.callW hP hT (c_sameWords (lowX e w) (lowX e w) (by omega) (fun r hr => by have := j2 r hr; omega)) (by simp only [AW7, simprocAttr]; first | done | exact ⟨⟨rfl, rfl⟩, rfl, rfl⟩ | simp [argO, convV]) ?_
    rintro rs o ⟨rfl, rfl⟩
    rw [hjj]
    (try simp only [AW7, simprocAttr, hX]); (repeat (with_reducible refine And.intro ?_ ?_); exact vc0)
    refine .inr ⟨rfl, ?_⟩
    refine FunA.callW hP hT (c_spec_BruhatCovers f z (by omega)) (by simp only [AW7, simprocAttr]) ?_
    rintro rs o ⟨rfl, h6, _, rfl⟩
    (try simp only [AW7, simprocAttr, hX]); (repeat (with_reducible refine And.intro ?_ ?_); exact vc0)
    refine .inr ⟨rfl, ?_⟩
    refine FunA.callW hP hT (c_sameWords (bcv f z) (bcv f z) (by omega) (fun r hr => by have := k2 r hr; omega)) (by simp only [AW7, simprocAttr]; first | done | exact ⟨⟨rfl, rfl⟩, rfl, rfl⟩ | simp [argO, convV]) ?_
    rintro rs o ⟨rfl, rfl⟩
    rw [hkk]
    (try simp only [AW7, simprocAttr, hX]); (repeat (with_reducible refine And.intro ?_ ?_); exact vc0)
    (repeat (with_reducible refine And.intro ?_ ?_); exact vc0); refine hK _ ?_; clear hK K; refine Run.nq ?_
    refine Run.retW [2] (by decide) (by rw [hfn]; rfl) (by simp only [AW7, simprocAttr, hX]; rfl) (by simp only [AW7, simprocAttr, hX]) (hfin _ _ rfl rfl ?_)
    rfl
  | true =>
    cases hM : brB d a b with
    | true =>
      rw [moe_on hI hM]
      refine Run.nq ?_; refine Run.regionW hC (fun K hK => ?_); simp only [AW7, simprocAttr, hX]; (repeat (with_reducible refine And.intro ?_ ?_); exact vc0)
      refine .inr ⟨rfl, ?_⟩
      refine FunA.callW hP hT (c_spec_IsBruhatBelow d a b (by omega)) (by simp only [AW7, simprocAttr]) ?_
      rintro rs o ⟨rfl, rfl⟩
      rw [hM]
      (try simp only [AW7, simprocAttr, hX]); (repeat (with_reducible refine And.intro ?_ ?_); exact vc0)
      refine .inr ⟨rfl, ?_⟩
      refine FunA.callW hP hT (c_spec_SignOf2 a) (by simp only [AW7, simprocAttr]) ?_
      rintro rs o ⟨rfl, rfl⟩
      (try simp only [AW7, simprocAttr, hX]); (repeat (with_reducible refine And.intro ?_ ?_); exact vc0)
      refine .inr ⟨rfl, ?_⟩
      refine FunA.callW hP hT (c_spec_SignOf2 b) (by simp only [AW7, simprocAttr]) ?_
      rintro rs o ⟨rfl, rfl⟩
      simp (disch := omega) only [wrap_id, AW7, simprocAttr, hX]; (repeat (with_reducible refine And.intro ?_ ?_); exact vc0)
      rw [hee]
      refine .inr ⟨rfl, ?_⟩
      refine FunA.callW hP hT (c_spec_IsBruhatBelow d a b (by omega)) (by simp only [AW7, simprocAttr]) ?_
      rintro rs o ⟨rfl, rfl⟩
      rw [hM]
      (try simp only [AW7, simprocAttr, hX]); (repeat (with_reducible refine And.intro ?_ ?_); exact vc0)
      (repeat (with_reducible refine And.intro ?_ ?_); exact vc0); refine hK _ ?_; clear hK K; refine Run.nq ?_
      refine Run.nq ?_; refine Run.condW (by simp only [AW7, simprocAttr, hX]; rfl) (by simp only [AW7, simprocAttr, hX]) ?_ ?_
      · intro h; exact absurd h (by simp)
      intro _
      refine Run.reK hpin [0, 15, 16, 17] [] (by decide) (by simp) ?_; simp only [AR, AW7, simprocAttr]
      have i1 := itvX_len d a b
      have i2 := itvX_rows d a b
      have hbb : (itvB d a b == itvB d a b) = true := by simp
      have hii : (itvX d a b == itvX d a b) = true := by simp
      refine Run.nq ?_; refine Run.regionW hC (fun K hK => ?_); simp only [AW7, simprocAttr, hX]; (repeat (with_reducible refine And.intro ?_ ?_); exact vc0)
      refine FunA.callW hP hT (c_impl_IntervalOf d a b (by omega)) (by simp only [AW7, simprocAttr]) ?_
      rintro rs o ⟨rfl, h1, _, rfl⟩
      (try simp only [AW7, simprocAttr, hX]); (repeat (with_reducible refine And.intro ?_ ?_); exact vc0)
      (repeat (with_reducible refine And.intro ?_ ?_); exact vc0); refine hK _ ?_; clear hK K; refine Run.nq ?_
      refine Run.nq ?_; refine Run.regionW hC (fun K hK => ?_); simp only [AW7, simprocAttr, hX]; (repeat (with_reducible refine And.intro ?_ ?_); exact vc0)
      refine FunA.callW hP hT (c_spec_IntervalOf d a b (by omega)) (by simp only [AW7, simprocAttr]) ?_
      rintro rs o ⟨rfl, h2, _, rfl⟩
      (try simp only [AW7, simprocAttr, hX]); (repeat (with_reducible refine And.intro ?_ ?_); exact vc0)
      (repeat (with_reducible refine And.intro ?_ ?_); exact vc0); refine hK _ ?_; clear hK K; refine Run.nq ?_
      refine Run.reK hpin [0, 22, 23, 24, 25] [0, 1] (by decide) (by simp) ?_; simp only [AR, AW7, simprocAttr]
      refine Run.nq ?_; refine Run.regionW hC (fun K hK => ?_); simp only [AW7, simprocAttr, hX]; (repeat (with_reducible refine And.intro ?_ ?_); exact vc0)
      refine FunA.callW hP hT (c_DrawLowerInterval code hcl) (by simp only [AW7, simprocAttr]) ?_
      rintro rs o ⟨e, w, ⟨e1, e2⟩, hw, rfl, rfl⟩
      (try simp only [AW7, simprocAttr, hX]); (repeat (with_reducible refine And.intro ?_ ?_); exact vc0)
      (repeat (with_reducible refine And.intro ?_ ?_); exact vc0); refine hK _ ?_; clear hK K; refine Run.nq ?_
      have j1 := lowX_len e w
      have j2 := lowX_rows e w
      have hll : (lowB e w == lowB e w) = true := by simp
      have hjj : (lowX e w == lowX e w) = true := by simp
      refine Run.nq ?_; refine Run.regionW hC (fun K hK => ?_); simp only [AW7, simprocAttr, hX]; (repeat (with_reducible refine And.intro ?_ ?_); exact vc0)
      refine FunA.callW hP hT (c_impl_LowerInterval e w (by omega)) (by simp only [AW7, simprocAttr]) ?_
      rintro rs o ⟨rfl, h3, _, rfl⟩
      (try simp only [AW7, simprocAttr, hX]); (repeat (with_reducible refine And.intro ?_ ?_); exact vc0)
      (repeat (with_reducible refine And.intro ?_ ?_); exact vc0); refine hK _ ?_; clear hK K; refine Run.nq ?_
      refine Run.nq ?_; refine Run.regionW hC (fun K hK => ?_); simp only [AW7, simprocAttr, hX]; (repeat (with_reducible refine And.intro ?_ ?_); exact vc0)
      refine FunA.callW hP hT (c_spec_LowerInterval e w (by omega)) (by simp only [AW7, simprocAttr]) ?_
      rintro rs o ⟨rfl, h4, _, rfl⟩
      (try simp only [AW7, simprocAttr, hX]); (repeat (with_reducible refine And.intro ?_ ?_); exact vc0)
      (repeat (with_reducible refine And.intro ?_ ?_); exact vc0); refine hK _ ?_; clear hK K; refine Run.nq ?_
      refine Run.reK hpin [0, 22, 23, 24, 25, 28, 29, 30, 31] [0, 1, 2, 3] (by decide) (by simp) ?_; simp only [AR, AW7, simprocAttr]
      refine Run.nq ?_; refine Run.regionW hC (fun K hK => ?_); simp only [AW7, simprocAttr, hX]; (repeat (with_reducible refine And.intro ?_ ?_); exact vc0)
      refine FunA.callW hP hT (c_DrawBruhatCovers code hcl) (by simp only [AW7, simprocAttr]) ?_
      rintro rs o ⟨f, z, ⟨f1, f2⟩, hz, rfl, rfl⟩
      (try simp only [AW7, simprocAttr, hX]); (repeat (with_reducible refine And.intro ?_ ?_); exact vc0)
      (repeat (with_reducible refine And.intro ?_ ?_); exact vc0); refine hK _ ?_; clear hK K; refine Run.nq ?_
      obtain ⟨k1, k2⟩ := bcv_small f z
      have hkk : (bcv f z == bcv f z) = true := by simp
      refine Run.nq ?_; refine Run.regionW hC (fun K hK => ?_); simp only [AW7, simprocAttr, hX]; (repeat (with_reducible refine And.intro ?_ ?_); exact vc0)
      refine FunA.callW hP hT (c_impl_BruhatCovers f z (by omega)) (by simp only [AW7, simprocAttr]) ?_
      rintro rs o ⟨rfl, h5, _, rfl⟩
      (try simp only [AW7, simprocAttr, hX]); (repeat (with_reducible refine And.intro ?_ ?_); exact vc0)
      (repeat (with_reducible refine And.intro ?_ ?_); exact vc0); refine hK _ ?_; clear hK K; refine Run.nq ?_
      refine Run.reK hpin [22, 23, 24, 25, 28, 29, 30, 31, 32, 33, 34] [0, 1, 2, 3, 4] (by decide) (by simp) ?_; simp only [AR, AW7, simprocAttr]
      refine Run.unmat hC 4 rfl ?_
      simp only [AW7, simprocAttr]
      refine Run.letgoK 4 [22, 23, 24, 25, 28, 29, 30, 31, 32, 33, 34] rfl ?_; simp only [AL, frV_cons, frV_nil, AW7, simprocAttr]
      refine Run.nq ?_; refine Run.regionW hC (fun K hK => ?_); simp only [AW7, simprocAttr, hX]; (repeat (with_reducible refine And.intro ?_ ?_); exact vc0); refine hK _ ?_; clear hK K; refine Run.nq ?_
      refine Run.reK hpin [22, 23, 24, 25, 28, 29, 30, 31, 32, 33, 34, 35] [0, 1, 2, 3] (by decide) (by simp) ?_; simp only [AR, AW7, simprocAttr]
      refine Run.loopI (X := Nat) (fun i => ⟨289, [(22, true, .v (.own 0 0)), (23, true, .v (.bool ((itvB d a b)))), (24, true, .v (.own 1 0)), (25, true, .v (.bool ((itvB d a b)))), (28, true, .v (.own 2 0)), (29, true, .v (.bool ((lowB e w)))), (30, true, .v (.own 3 0)), (31, true, .v (.bool ((lowB e w)))), (32, true, .v (.sl true (.row true) (f))), (33, true, .v (.sl true .int (z))), (34, true, .v (.sl true (.row true) ((bcv f z)))), (35, true, .v (.int .i64 (i)))], [.mat h1 (itvX d a b) 0 true, .mat h2 (itvX d a b) 0 true, .mat h3 (lowX e w) 0 true, .mat h4 (lowX e w) 0 true]⟩) (fun i => i ≤ (bcv f z).length) (fun i => (bcv f z).length - i) (0) (Nat.zero_le _) ?_ ?_
      · exact Le.sub (by first | rfl | simp) (by simp only [AW7, simprocAttr, hX]; try simp <;> try (first | rfl | exact ⟨rfl, rfl⟩ | exact ⟨rfl, rfl, rfl⟩))
      rintro i hi ih
      try simp only []
      refine Run.nq ?_; refine Run.regionW hC (fun K hK => ?_); simp only [AW7, simprocAttr, hX]; (repeat (with_reducible refine And.intro ?_ ?_); exact vc0); refine hK _ ?_; clear hK K; refine Run.nq ?_
      refine Run.nq ?_; refine Run.condW (by simp only [AW7, simprocAttr, hX]; rfl) (by simp only [AW7, simprocAttr, hX]) ?_ ?_
      · intro hx
        have hx : i < (bcv f z).length := by rw [decide_eq_true_eq] at hx; omega
        have hbl : brB f ((bcv f z).getD i []) z = true := bcv_below (by rw [List.getD_eq_getElem?_getD, List.getElem?_eq_getElem hx]; exact List.getElem_mem hx)
        refine Run.nq ?_; refine Run.regionW hC (fun K hK => ?_); simp only [AW7, simprocAttr, hX]; (repeat (with_reducible refine And.intro ?_ ?_); exact vc0)
        refine FunA.callW hP hT (c_impl_IsBruhatBelow f ((bcv f z).getD i []) z (by omega)) (by simp only [AW7, simprocAttr]) ?_
        rintro rs o ⟨rfl, rfl⟩
        rw [hbl]
        (try simp only [AW7, simprocAttr, hX]); (repeat (with_reducible refine And.intro ?_ ?_); exact vc0)
        (repeat (with_reducible refine And.intro ?_ ?_); exact vc0); refine hK _ ?_; clear hK K; refine Run.nq ?_
        refine Run.nq ?_; refine Run.condW (by simp only [AW7, simprocAttr, hX]; rfl) (by simp only [AW7, simprocAttr, hX]) ?_ ?_
        · intro h; exact absurd h (by simp)
        intro _
        refine Run.reK hpin [22, 23, 24, 25, 28, 29, 30, 31, 32, 33, 34, 35] [0, 1, 2, 3] (by decide) (by simp) ?_; simp only [AR, AW7, simprocAttr]
        refine Run.nq ?_; refine Run.regionW hC (fun K hK => ?_); simp (disch := omega) only [wrap_id, AW7, simprocAttr, hX]; (repeat (with_reducible refine And.intro ?_ ?_); exact vc0); refine hK _ ?_; clear hK K; refine Run.nq ?_
        refine Run.le ?_ (ih (i + 1) (hx) (by (try simp only [List.length_append, List.length_cons, List.length_nil]); omega))
        exact Le.sub (by rfl) (by simp only [AW7, simprocAttr]; try simp)
      intro _
      refine Run.exit rfl ?_; refine Run.nq ?_
      refine Run.nq ?_; refine Run.regionW hC (fun K hK => ?_); simp only [AW7, simprocAttr, hX]; (repeat (with_reducible refine And.intro ?_ ?_); exact vc0)
      refine .inr ⟨rfl, ?_⟩
      refine FunA.callW hP hT (c_sameWords (itvX d a b) (itvX d a b) (by omega) (fun r hr => by have := i2 r hr; omega)) (by simp only [AW7, simprocAttr]; first | done | exact ⟨⟨rfl, rfl⟩, rfl, rfl⟩ | simp [argO, convV]) ?_
      rintro rs o ⟨rfl, rfl⟩
      rw [hii]
      (try simp only [AW7, simprocAttr, hX]); (repeat (with_reducible refine And.intro ?_ ?_); exact vc0)
      refine .inr ⟨rfl, ?_⟩
      refine FunA.callW hP hT (c_sameWords (lowX e w) (lowX e w) (by omega) (fun r hr => by have := j2 r hr; omega)) (by simp only [AW7, simprocAttr]; first | done | exact ⟨⟨rfl, rfl⟩, rfl, rfl⟩ | simp [argO, convV]) ?_
      rintro rs o ⟨rfl, rfl⟩
      rw [hjj]
      (try simp only [AW7, simprocAttr, hX]); (repeat (with_reducible refine And.intro ?_ ?_); exact vc0)
      refine .inr ⟨rfl, ?_⟩
      refine FunA.callW hP hT (c_spec_BruhatCovers f z (by omega)) (by simp only [AW7, simprocAttr]) ?_
      rintro rs o ⟨rfl, h6, _, rfl⟩
      (try simp only [AW7, simprocAttr, hX]); (repeat (with_reducible refine And.intro ?_ ?_); exact vc0)
      refine .inr ⟨rfl, ?_⟩
      refine FunA.callW hP hT (c_sameWords (bcv f z) (bcv f z) (by omega) (fun r hr => by have := k2 r hr; omega)) (by simp only [AW7, simprocAttr]; first | done | exact ⟨⟨rfl, rfl⟩, rfl, rfl⟩ | simp [argO, convV]) ?_
      rintro rs o ⟨rfl, rfl⟩
      rw [hkk]
      (try simp only [AW7, simprocAttr, hX]); (repeat (with_reducible refine And.intro ?_ ?_); exact vc0)
      (repeat (with_reducible refine And.intro ?_ ?_); exact vc0); refine hK _ ?_; clear hK K; refine Run.nq ?_
      refine Run.retW [2] (by decide) (by rw [hfn]; rfl) (by simp only [AW7, simprocAttr, hX]; rfl) (by simp only [AW7, simprocAttr, hX]) (hfin _ _ rfl rfl ?_)
      rfl
    | false =>
      rw [moe_off hI hM]
      refine Run.nq ?_; refine Run.regionW hC (fun K hK => ?_); simp only [AW7, simprocAttr, hX]; (repeat (with_reducible refine And.intro ?_ ?_); exact vc0)
      refine .inr ⟨rfl, ?_⟩
      refine FunA.callW hP hT (c_spec_IsBruhatBelow d a b (by omega)) (by simp only [AW7, simprocAttr]) ?_
      rintro rs o ⟨rfl, rfl⟩
      rw [hM]
      (try simp only [AW7, simprocAttr, hX]); (repeat (with_reducible refine And.intro ?_ ?_); exact vc0)
      refine .inl (CallG.off (.int .i64 0) ?_)
      (try simp only [AW7, simprocAttr, hX]); (repeat (with_reducible refine And.intro ?_ ?_); exact vc0)
      refine .inl (CallG.off (.int .i64 0) ?_)
      (try simp only [AW7, simprocAttr, hX]); (repeat (with_reducible refine And.intro ?_ ?_); exact vc0)
      refine .inr ⟨rfl, ?_⟩
      refine FunA.callW hP hT (c_spec_IsBruhatBelow d a b (by omega)) (by simp only [AW7, simprocAttr]) ?_
      rintro rs o ⟨rfl, rfl⟩
      rw [hM]
      (try simp only [AW7, simprocAttr, hX]); (repeat (with_reducible refine And.intro ?_ ?_); exact vc0)
      (repeat (with_reducible refine And.intro ?_ ?_); exact vc0); refine hK _ ?_; clear hK K; refine Run.nq ?_
      refine Run.nq ?_; refine Run.condW (by simp only [AW7, simprocAttr, hX]; rfl) (by simp only [AW7, simprocAttr, hX]) ?_ ?_
      · intro h; exact absurd h (by simp)
      intro _
      refine Run.reK hpin [0, 15, 16, 17] [] (by decide) (by simp) ?_; simp only [AR, AW7, simprocAttr]
      have i1 := itvX_len d a b
      have i2 := itvX_rows d a b
      have hbb : (itvB d a b == itvB d a b) = true := by simp
      have hii : (itvX d a b == itvX d a b) = true := by simp
      refine Run.nq ?_; refine Run.regionW hC (fun K hK => ?_); simp only [AW7, simprocAttr, hX]; (repeat (with_reducible refine And.intro ?_ ?_); exact vc0)
      refine FunA.callW hP hT (c_impl_IntervalOf d a b (by omega)) (by simp only [AW7, simprocAttr]) ?_
      rintro rs o ⟨rfl, h1, _, rfl⟩
      (try simp only [AW7, simprocAttr, hX]); (repeat (with_reducible refine And.intro ?_ ?_); exact vc0)
      (repeat (with_reducible refine And.intro ?_ ?_); exact vc0); refine hK _ ?_; clear hK K; refine Run.nq ?_
      refine Run.nq ?_; refine Run.regionW hC (fun K hK => ?_); simp only [AW7, simprocAttr, hX]; (repeat (with_reducible refine And.intro ?_ ?_); exact vc0)
      refine FunA.callW hP hT (c_spec_IntervalOf d a b (by omega)) (by simp only [AW7, simprocAttr]) ?_
      rintro rs o ⟨rfl, h2, _, rfl⟩
      (try simp only [AW7, simprocAttr, hX]); (repeat (with_reducible refine And.intro ?_ ?_); exact vc0)
      (repeat (with_reducible refine And.intro ?_ ?_); exact vc0); refine hK _ ?_; clear hK K; refine Run.nq ?_
      refine Run.reK hpin [0, 22, 23, 24, 25] [0, 1] (by decide) (by simp) ?_; simp only [AR, AW7, simprocAttr]
      refine Run.nq ?_; refine Run.regionW hC (fun K hK => ?_); simp only [AW7, simprocAttr, hX]; (repeat (with_reducible refine And.intro ?_ ?_); exact vc0)
      refine FunA.callW hP hT (c_DrawLowerInterval code hcl) (by simp only [AW7, simprocAttr]) ?_
      rintro rs o ⟨e, w, ⟨e1, e2⟩, hw, rfl, rfl⟩
      (try simp only [AW7, simprocAttr, hX]); (repeat (with_reducible refine And.intro ?_ ?_); exact vc0)
      (repeat (with_reducible refine And.intro ?_ ?_); exact vc0); refine hK _ ?_; clear hK K; refine Run.nq ?_
      have j1 := lowX_len e w
      have j2 := lowX_rows e w
      have hll : (lowB e w == lowB e w) = true := by simp
      have hjj : (lowX e w == lowX e w) = true := by simp
      refine Run.nq ?_; refine Run.regionW hC (fun K hK => ?_); simp only [AW7, simprocAttr, hX]; (repeat (with_reducible refine And.intro ?_ ?_); exact vc0)
      refine FunA.callW hP hT (c_impl_LowerInterval e w (by omega)) (by simp only [AW7, simprocAttr]) ?_
      rintro rs o ⟨rfl, h3, _, rfl⟩
      (try simp only [AW7, simprocAttr, hX]); (repeat (with_reducible refine And.intro ?_ ?_); exact vc0)
      (repeat (with_reducible refine And.intro ?_ ?_); exact vc0); refine hK _ ?_; clear hK K; refine Run.nq ?_
      refine Run.nq ?_; refine Run.regionW hC (fun K hK => ?_); simp only [AW7, simprocAttr, hX]; (repeat (with_reducible refine And.intro ?_ ?_); exact vc0)
      refine FunA.callW hP hT (c_spec_LowerInterval e w (by omega)) (by simp only [AW7, simprocAttr]) ?_
      rintro rs o ⟨rfl, h4, _, rfl⟩
      (try simp only [AW7, simprocAttr, hX]); (repeat (with_reducible refine And.intro ?_ ?_); exact vc0)
      (repeat (with_reducible refine And.intro ?_ ?_); exact vc0); refine hK _ ?_; clear hK K; refine Run.nq ?_
      refine Run.reK hpin [0, 22, 23, 24, 25, 28, 29, 30, 31] [0, 1, 2, 3] (by decide) (by simp) ?_; simp only [AR, AW7, simprocAttr]
      refine Run.nq ?_; refine Run.regionW hC (fun K hK => ?_); simp only [AW7, simprocAttr, hX]; (repeat (with_reducible refine And.intro ?_ ?_); exact vc0)
      refine FunA.callW hP hT (c_DrawBruhatCovers code hcl) (by simp only [AW7, simprocAttr]) ?_
      rintro rs o ⟨f, z, ⟨f1, f2⟩, hz, rfl, rfl⟩
      (try simp only [AW7, simprocAttr, hX]); (repeat (with_reducible refine And.intro ?_ ?_); exact vc0)
      (repeat (with_reducible refine And.intro ?_ ?_); exact vc0); refine hK _ ?_; clear hK K; refine Run.nq ?_
      obtain ⟨k1, k2⟩ := bcv_small f z
      have hkk : (bcv f z == bcv f z) = true := by simp
      refine Run.nq ?_; refine Run.regionW hC (fun K hK => ?_); simp only [AW7, simprocAttr, hX]; (repeat (with_reducible refine And.intro ?_ ?_); exact vc0)
      refine FunA.callW hP hT (c_impl_BruhatCovers f z (by omega)) (by simp only [AW7, simprocAttr]) ?_
      rintro rs o ⟨rfl, h5, _, rfl⟩
      (try simp only [AW7, simprocAttr, hX]); (repeat (with_reducible refine And.intro ?_ ?_); exact vc0)
      (repeat (with_reducible refine And.intro ?_ ?_); exact vc0); refine hK _ ?_; clear hK K; refine Run.nq ?_
      refine Run.reK hpin [22, 23, 24, 25, 28, 29, 30, 31, 32, 33, 34] [0, 1, 2, 3, 4] (by decide) (by simp) ?_; simp only [AR, AW7, simprocAttr]
      refine Run.unmat hC 4 rfl ?_
      simp only [AW7, simprocAttr]
      refine Run.letgoK 4 [22, 23, 24, 25, 28, 29, 30, 31, 32, 33, 34] rfl ?_; simp only [AL, frV_cons, frV_nil, AW7, simprocAttr]
      refine Run.nq ?_; refine Run.regionW hC (fun K hK => ?_); simp only [AW7, simprocAttr, hX]; (repeat (with_reducible refine And.intro ?_ ?_); exact vc0); refine hK _ ?_; clear hK K; refine Run.nq ?_
      refine Run.reK hpin [22, 23, 24, 25, 28, 29, 30, 31, 32, 33, 34, 35] [0, 1, 2, 3] (by decide) (by simp) ?_; simp only [AR, AW7, simprocAttr]
      refine Run.loopI (X := Nat) (fun i => ⟨289, [(22, true, .v (.own 0 0)), (23, true, .v (.bool ((itvB d a b)))), (24, true, .v (.own 1 0)), (25, true, .v (.bool ((itvB d a b)))), (28, true, .v (.own 2 0)), (29, true, .v (.bool ((lowB e w)))), (30, true, .v (.own 3 0)), (31, true, .v (.bool ((lowB e w)))), (32, true, .v (.sl true (.row true) (f))), (33, true, .v (.sl true .int (z))), (34, true, .v (.sl true (.row true) ((bcv f z)))), (35, true, .v (.int .i64 (i)))], [.mat h1 (itvX d a b) 0 true, .mat h2 (itvX d a b) 0 true, .mat h3 (lowX e w) 0 true, .mat h4 (lowX e w) 0 true]⟩) (fun i => i ≤ (bcv f z).length) (fun i => (bcv f z).length - i) (0) (Nat.zero_le _) ?_ ?_
      · exact Le.sub (by first | rfl | simp) (by simp only [AW7, simprocAttr, hX]; try simp <;> try (first | rfl | exact ⟨rfl, rfl⟩ | exact ⟨rfl, rfl, rfl⟩))
      rintro i hi ih
      try simp only []
      refine Run.nq ?_; refine Run.regionW hC (fun K hK => ?_); simp only [AW7, simprocAttr, hX]; (repeat (with_reducible refine And.intro ?_ ?_); exact vc0); refine hK _ ?_; clear hK K; refine Run.nq ?_
      refine Run.nq ?_; refine Run.condW (by simp only [AW7, simprocAttr, hX]; rfl) (by simp only [AW7, simprocAttr, hX]) ?_ ?_
      · intro hx
        have hx : i < (bcv f z).length := by rw [decide_eq_true_eq] at hx; omega
        have hbl : brB f ((bcv f z).getD i []) z = true := bcv_below (by rw [List.getD_eq_getElem?_getD, List.getElem?_eq_getElem hx]; exact List.getElem_mem hx)
        refine Run.nq ?_; refine Run.regionW hC (fun K hK => ?_); simp only [AW7, simprocAttr, hX]; (repeat (with_reducible refine And.intro ?_ ?_); exact vc0)
        refine FunA.callW hP hT (c_impl_IsBruhatBelow f ((bcv f z).getD i []) z (by omega)) (by simp only [AW7, simprocAttr]) ?_
        rintro rs o ⟨rfl, rfl⟩
        rw [hbl]
        (try simp only [AW7, simprocAttr, hX]); (repeat (with_reducible refine And.intro ?_ ?_); exact vc0)
        (repeat (with_reducible refine And.intro ?_ ?_); exact vc0); refine hK _ ?_; clear hK K; refine Run.nq ?_
        refine Run.nq ?_; refine Run.condW (by simp only [AW7, simprocAttr, hX]; rfl) (by simp only [AW7, simprocAttr, hX]) ?_ ?_
        · intro h; exact absurd h (by simp)
        intro _
        refine Run.reK hpin [22, 23, 24, 25, 28, 29, 30, 31, 32, 33, 34, 35] [0, 1, 2, 3] (by decide) (by simp) ?_; simp only [AR, AW7, simprocAttr]
        refine Run.nq ?_; refine Run.regionW hC (fun K hK => ?_); simp (disch := omega) only [wrap_id, AW7, simprocAttr, hX]; (repeat (with_reducible refine And.intro ?_ ?_); exact vc0); refine hK _ ?_; clear hK K; refine Run.nq ?_
        refine Run.le ?_ (ih (i + 1) (hx) (by (try simp only [List.length_append, List.length_cons, List.length_nil]); omega))
        exact Le.sub (by rfl) (by simp only [AW7, simprocAttr]; try simp)
      intro _
      refine Run.exit rfl ?_; refine Run.nq ?_
      refine Run.nq ?_; refine Run.regionW hC (fun K hK => ?_); simp only [AW7, simprocAttr, hX]; (repeat (with_reducible refine And.intro ?_ ?_); exact vc0)
      refine .inr ⟨rfl, ?_⟩
      refine FunA.callW hP hT (c_sameWords (itvX d a b) (itvX d a b) (by omega) (fun r hr => by have := i2 r hr; omega)) (by simp only [AW7, simprocAttr]; first | done | exact ⟨⟨rfl, rfl⟩, rfl, rfl⟩ | simp [argO, convV]) ?_
      rintro rs o ⟨rfl, rfl⟩
      rw [hii]
      (try simp only [AW7, simprocAttr, hX]); (repeat (with_reducible refine And.intro ?_ ?_); exact vc0)
      refine .inr ⟨rfl, ?_⟩
      refine FunA.callW hP hT (c_sameWords (lowX e w) (lowX e w) (by omega) (fun r hr => by have := j2 r hr; omega)) (by simp only [AW7, simprocAttr]; first | done | exact ⟨⟨rfl, rfl⟩, rfl, rfl⟩ | simp [argO, convV]) ?_
      rintro rs o ⟨rfl, rfl⟩
      rw [hjj]
      (try simp only [AW7, simprocAttr, hX]); (repeat (with_reducible refine And.intro ?_ ?_); exact vc0)
      refine .inr ⟨rfl, ?_⟩
      refine FunA.callW hP hT (c_spec_BruhatCovers f z (by omega)) (by simp only [AW7, simprocAttr]) ?_
      rintro rs o ⟨rfl, h6, _, rfl⟩
      (try simp only [AW7, simprocAttr, hX]); (repeat (with_reducible refine And.intro ?_ ?_); exact vc0)
      refine .inr ⟨rfl, ?_⟩
      refine FunA.callW hP hT (c_sameWords (bcv f z) (bcv f z) (by omega) (fun r hr => by have := k2 r hr; omega)) (by simp only [AW7, simprocAttr]; first | done | exact ⟨⟨rfl, rfl⟩, rfl, rfl⟩ | simp [argO, convV]) ?_
      rintro rs o ⟨rfl, rfl⟩
      rw [hkk]
      (try simp only [AW7, simprocAttr, hX]); (repeat (with_reducible refine And.intro ?_ ?_); exact vc0)
      (repeat (with_reducible refine And.intro ?_ ?_); exact vc0); refine hK _ ?_; clear hK K; refine Run.nq ?_
      refine Run.retW [2] (by decide) (by rw [hfn]; rfl) (by simp only [AW7, simprocAttr, hX]; rfl) (by simp only [AW7, simprocAttr, hX]) (hfin _ _ rfl rfl ?_)
      rfl
end Go.Proofs.YtojcdgdbffmlpaaGreat
