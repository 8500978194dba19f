/- The weak order on both sides. -/
import Derived.Test.YtojcdgdbffmlpaaGreatB10
import Derived.Test.YtojcdgdbffmlpaaGreatB11
set_option linter.unusedVariables false
set_option linter.unusedSimpArgs false
namespace Go.Proofs.YtojcdgdbffmlpaaGreat
open Go Go.Aw Go.Cox
open Classical in
noncomputable def wkB (c : List (List Int)) (u v : List Int) : Bool := wordB c u && wordB c v && decide ((redL c u).length + (redL c (u.reverse ++ v)).length = (redL c v).length)
theorem c_impl_weakBelow (c : List (List Int)) (u v : List Int) (hu : WordP c u) (hv : WordP c v) :
    FunA B 131 [.sl false (.row false) c, .sl false .int u, .sl false .int v] (fun rs o => rs = [.bool (wkB c u v)] ∧ o = []) := by
  obtain ⟨hc, h2, h3⟩ := hu
  obtain ⟨_, h5, h6⟩ := hv
  obtain ⟨a1, a2, _⟩ := red_spec hc h3 (by omega)
  obtain ⟨b1, b2, _⟩ := red_spec hc h6 (by omega)
  have hlw : letters c.length (u.reverse ++ v) := letters_append.2 ⟨letters_reverse h3, h6⟩
  obtain ⟨d1, d2, _⟩ := red_spec hc hlw (by simp; omega)
  simp at d2
  refine FunA.walk B_ok (fn := Tryz.f131) (fun vs w => Tryz.call131 vs w) Tryz.func131 rfl (by rw [Tryz.ntmps131]; simp) (fun C hC hP hT hΓ hbt hfn hpin hfin => ?_); have hX := BX; rw [← hΓ, ← hbt.1, ← hbt.2] at hX; rw [Tryz.ntmps131]; simp only [AW7, simprocAttr, hX]
  refine Run.R ?_
  refine Run.nq ?_; refine Run.regionW hC (fun K hK => ?_); refine wW ?_
  refine FunA.cW hP hT (c_impl_lengthOf c u hc h3 (by omega)) ?_
  rintro rs o ⟨rfl, rfl⟩
  refine wW ?_
  refine FunA.cW hP hT (c_impl_ReverseWord u (by omega)) ?_
  rintro rs o ⟨rfl, rfl⟩
  refine wW ?_
  refine FunA.cW hP hT (c_impl_ConcatWords u.reverse v (by simp; omega) (by omega)) ?_
  rintro rs o ⟨nn, rfl, rfl⟩
  refine wW ?_
  refine FunA.cW hP hT (c_impl_lengthOf c (u.reverse ++ v) hc hlw (by simp; omega)) ?_
  rintro rs o ⟨rfl, rfl⟩
  refine wWW ?_
  refine FunA.cW hP hT (c_impl_lengthOf c v hc h6 (by omega)) ?_
  rintro rs o ⟨rfl, rfl⟩
  refine wWW ?_
  refine wE ?_; clear hK K
  refine Run.le (Le.cut0 hpin [_, _] (fr' := [(6, true, .v (.bool (((redL c u).length : Int) + (redL c (u.reverse ++ v)).length == (redL c v).length)))]) (obs' := []) rfl (by simp only [AW7, simprocAttr]; try simp) rfl) ?_
  refine Run.rW [6] (hfin _ _ rfl rfl ?_)
  refine ⟨?_, rfl⟩
  have e1 : wordB c u = true := wordB_iff.2 ⟨hc, h2, h3⟩
  have e2 : wordB c v = true := wordB_iff.2 ⟨hc, h5, h6⟩
  unfold wkB
  rw [e1, e2]
  congr 2
  simp only [Bool.true_and]
  rw [Bool.eq_iff_iff]
  simp only [beq_iff_eq, decide_eq_true_eq]
  omega
theorem c_impl_IsWeakBelow (c : List (List Int)) (u v : List Int) (hcl : c.length ≤ 1048576) :
    FunA B 34 [.sl false (.row false) c, .sl false .int u, .sl false .int v] (fun rs o => rs = [.bool (wkB c u v)] ∧ o = []) := by
  refine FunA.walk B_ok (fn := Tryz.f34) (fun vs w => Tryz.call34 vs w) Tryz.func34 rfl (by rw [Tryz.ntmps34]; simp) (fun C hC hP hT hΓ hbt hfn hpin hfin => ?_); have hX := BX; rw [← hΓ, ← hbt.1, ← hbt.2] at hX; rw [Tryz.ntmps34]; simp only [AW7, simprocAttr, hX]
  refine Run.R ?_
  refine Run.nq ?_; refine Run.regionW hC (fun K hK => ?_); refine wW ?_
  refine FunA.cW hP hT (c_impl_IsWord c u) ?_
  rintro rs o ⟨rfl, rfl⟩
  cases hu : wordB c u with
  | false =>
    refine wW ?_
    refine .inl (CallG.off (.bool false) ?_)
    refine wW ?_
    refine .inl (CallG.off (.bool false) ?_)
    refine wW ?_
    refine wE ?_; clear hK K
    refine Run.rW [6] (hfin _ _ rfl rfl ?_)
    simp [wkB, hu]
  | true =>
    refine wW ?_
    refine .inl (FunA.callG hP hT (c_impl_IsWord c v) (fun _ => rfl) (fun _ => by simp only [AW7, simprocAttr]) ?_)
    cases hv : wordB c v with
    | false =>
      refine wW ?_
      refine .inl (CallG.off (.bool false) ?_)
      refine wW ?_
      refine wE ?_; clear hK K
      refine Run.rW [6] (hfin _ _ rfl rfl ?_)
      simp [wkB, hu, hv]
    | true =>
      refine wW ?_
      refine .inl (FunA.callG hP hT (c_impl_weakBelow c u v (wordB_iff.1 hu) (wordB_iff.1 hv)) (fun _ => rfl) (fun _ => by simp only [AW7, simprocAttr]) ?_)
      refine wW ?_
      refine wE ?_; clear hK K
      refine Run.rW [6] (hfin _ _ rfl rfl ?_)
      simp
theorem c_spec_IsWeakBelow (c : List (List Int)) (u v : List Int) (hcl : c.length ≤ 1048576) :
    FunA B 35 [.sl false (.row false) c, .sl false .int u, .sl false .int v] (fun rs o => rs = [.bool (wkB c u v)] ∧ o = []) := by
  refine FunA.walk B_ok (fn := Tryz.f35) (fun vs w => Tryz.call35 vs w) Tryz.func35 rfl (by rw [Tryz.ntmps35]; simp) (fun C hC hP hT hΓ hbt hfn hpin hfin => ?_); have hX := BX; rw [← hΓ, ← hbt.1, ← hbt.2] at hX; rw [Tryz.ntmps35]; simp only [AW7, simprocAttr, hX]
  refine Run.R ?_
  refine Run.nq ?_; refine Run.regionW hC (fun K hK => ?_); refine wW ?_
  refine FunA.cW hP hT (c_spec_IsWord c u hcl) ?_
  rintro rs o ⟨rfl, rfl⟩
  refine wW ?_
  refine .inl (FunA.callG hP hT (c_spec_IsWord c v hcl) (fun _ => rfl) (fun _ => by simp only [AW7, simprocAttr]) ?_)
  refine wW ?_
  refine wE ?_; clear hK K
  refine Run.nq ?_; refine Run.cW ?_ ?_
  · intro h
    refine Run.R ?_
    refine Run.rW [6] (hfin _ _ rfl rfl ?_)
    revert h
    cases hu : wordB c u <;> cases hv : wordB c v <;> simp [wkB, hu, hv]
  · intro h
    have hu : wordB c u = true := by revert h; cases hu : wordB c u <;> simp
    have hv : wordB c v = true := by revert h; cases hv : wordB c v <;> simp [hu]
    obtain ⟨hc, h2, h3⟩ := wordB_iff.1 hu
    obtain ⟨_, h5, h6⟩ := wordB_iff.1 hv
    obtain ⟨a1, a2, a3, a4, a5⟩ := red_spec hc h3 (by omega)
    obtain ⟨b1, b2, b3, b4, b5⟩ := red_spec hc h6 (by omega)
    have hlw : letters c.length ((redL c u).reverse ++ redL c v) := letters_append.2 ⟨letters_reverse a1, b1⟩
    obtain ⟨d1, d2, _⟩ := red_spec hc hlw (by simp; omega)
    simp at d2
    have hsame : redL c ((redL c u).reverse ++ redL c v) = redL c (u.reverse ++ v) := weak_same hc a1 h3 a4 b4
    refine Run.nq ?_; refine Run.regionW hC (fun K hK => ?_); refine wW ?_
    refine FunA.cW hP hT (c_spec_l8Normal c u hc h3 (by omega)) ?_
    rintro rs o ⟨rfl, rfl⟩
    refine wW ?_
    refine wE ?_; clear hK K
    refine Run.nq ?_; refine Run.regionW hC (fun K hK => ?_); refine wW ?_
    refine FunA.cW hP hT (c_spec_l8Normal c v hc h6 (by omega)) ?_
    rintro rs o ⟨rfl, rfl⟩
    refine wW ?_
    refine wE ?_; clear hK K
    refine Run.nq ?_; refine Run.regionW hC (fun K hK => ?_); refine wW ?_
    refine FunA.cW hP hT (c_spec_ReverseWord (redL c u) (by omega)) ?_
    rintro rs o ⟨rfl, rfl⟩
    refine wW ?_
    refine FunA.cW hP hT (c_spec_ConcatWords (redL c u).reverse (redL c v) (by simp; omega) (by omega)) ?_
    rintro rs o ⟨rfl, rfl⟩
    refine wW ?_
    refine FunA.cW hP hT (c_spec_l8Normal c ((redL c u).reverse ++ redL c v) hc hlw (by simp; omega)) ?_
    rintro rs o ⟨rfl, rfl⟩
    rw [hsame]
    rw [hsame] at d2
    refine wWW ?_
    refine wE ?_; clear hK K
    refine Run.le (Le.cut0 hpin [_, _, _, _, _] (fr' := [(6, true, .v (.bool (((redL c u).length : Int) + (redL c (u.reverse ++ v)).length == (redL c v).length)))]) (obs' := []) rfl (by simp only [AW7, simprocAttr]; try simp) rfl) ?_
    refine Run.rW [6] (hfin _ _ rfl rfl ?_)
    refine ⟨?_, rfl⟩
    unfold wkB
    rw [hu, hv]
    congr 2
    simp only [Bool.true_and]
    rw [Bool.eq_iff_iff]
    simp only [beq_iff_eq, decide_eq_true_eq]
    omega
theorem set_len {c : List (List Int)} {s : List Int} (h : setP c.length s) : s.length ≤ c.length := by
  have key : ∀ i, i < s.length → (i : Int) ≤ s.getD i 0 := by
    intro i
    induction i with
    | zero => intro h0; exact (h 0 h0).1
    | succ i ih =>
      intro h1
      have := ih (by omega)
      have := (h (i + 1) h1).2.2 (by omega)
      rw [Nat.add_sub_cancel] at this
      omega
  by_cases h0 : s.length = 0
  · omega
  · have := key (s.length - 1) (by omega)
    have := (h (s.length - 1) (by omega)).2.1
    omega
theorem set_letters {n : Nat} {s : List Int} (h : setP n s) : letters n s := letters_getD.2 fun i hi => ⟨(h i hi).1, (h i hi).2.1⟩
end Go.Proofs.YtojcdgdbffmlpaaGreat
namespace Go.Proofs.YtojcdgdbffmlpaaGreat
open Go Go.Aw Go.Cox
theorem Run.join {C : Ctx} {i j : Item} {k : List Item} {σ : St} (σ' : St) (h1 : Run C k σ') (h2 : Run C k σ' → Run C (i :: j :: k) σ) : Run C (i :: j :: k) σ := h2 h1
theorem lp_step {c : List (List Int)} {s v : List Int} (h : ¬ firstIn v s < 0) (f : Nat) : lpL c s (f + 1) v = (firstIn v s :: (lpL c s f (reflL c (firstIn v s) v)).1, (lpL c s f (reflL c (firstIn v s) v)).2) := by
  simp only [lpL]; rw [if_neg h]
structure LP (c : List (List Int)) (s v0 : List Int) (L : Nat) (a v : List Int) : Prop where
  far : Far c (L - a.length) v
  le : a.length ≤ L
  let_ : letters c.length a
  eq : lpL c s 31 v0 = (a ++ (lpL c s (31 - a.length) v).1, (lpL c s (31 - a.length) v).2)
theorem LP.start {c : List (List Int)} {s v0 : List Int} {L : Nat} (h : Far c L v0) : LP c s v0 L [] v0 := ⟨h, Nat.zero_le _, letters_nil _, rfl⟩
theorem LP.step {c : List (List Int)} (hc : CartanP c) {s v0 a v : List Int} {L : Nat} (hs : letters c.length s) (hL : L ≤ 31) (h : LP c s v0 L a v) (k : ¬ firstIn v s < 0) :
    LP c s v0 L (a ++ [firstIn v s]) (reflL c (firstIn v s) v) ∧ a.length < L ∧ (0 ≤ firstIn v s ∧ firstIn v s < c.length) := by
  rcases firstIn_spec v s hs with ⟨h1, _⟩ | ⟨h1, h2, _, h4⟩
  · omega
  · obtain ⟨M, m1, m2⟩ := h.far.down hc ⟨h1, h2⟩ h4
    have hle := h.le
    refine ⟨⟨?_, by simp; omega, letters_append.2 ⟨h.let_, letters_cons.2 ⟨⟨h1, h2⟩, letters_nil _⟩⟩, ?_⟩, by omega, h1, h2⟩
    · rw [show L - (a ++ [firstIn v s]).length = M by simp; omega]; exact m2
    · rw [h.eq, show 31 - a.length = (31 - (a ++ [firstIn v s]).length) + 1 by simp; omega, lp_step k]
      simp
theorem far_bd {c : List (List Int)} (hc : CartanP c) {M : Nat} {v : List Int} (h : Far c M v) (hM : M ≤ 31) : Bd 9223372036854775807 v := by
  obtain ⟨k1, k2, k3⟩ := nfL_far hc 31 M h hM
  rw [← k3]
  exact (image_bd hc k2 (by omega)).mono (by decide)
end Go.Proofs.YtojcdgdbffmlpaaGreat
namespace Go.Proofs.YtojcdgdbffmlpaaGreat
open Go Go.Aw Go.Cox
def covL (c : List (List Int)) (w : List Int) (i : Nat) : List Int := redL c (w ++ [(i : Int)])
def wkF (c : List (List Int)) (w : List Int) (i : Nat) : Option (List Int) := if (redL c w).length < (covL c w i).length ∧ (covL c w i).length ≤ 15 then some (covL c w i) else none
def wkT (c : List (List Int)) (w : List Int) (n : Nat) : List (List Int) := (List.range n).filterMap (wkF c w)
noncomputable def wcv (c : List (List Int)) (w : List Int) : List (List Int) := if wordB c w then srt (wkT c w c.length) else []
theorem wkT_snoc (c : List (List Int)) (w : List Int) (n : Nat) : wkT c w (n + 1) = wkT c w n ++ (wkF c w n).toList := by
  unfold wkT
  rw [List.range_succ, List.filterMap_append]
  cases h : wkF c w n <;> simp [h]
theorem wkT_len (c : List (List Int)) (w : List Int) : ∀ n, (wkT c w n).length ≤ n
  | 0 => by simp [wkT]
  | n + 1 => by
    have := wkT_len c w n
    rw [wkT_snoc, List.length_append]
    cases wkF c w n <;> simp <;> omega
theorem wkF_some {c : List (List Int)} {w : List Int} {i : Nat} {x : List Int} (h : wkF c w i = some x) : x = covL c w i ∧ (redL c w).length < x.length ∧ x.length ≤ 15 := by
  unfold wkF at h
  split at h
  · rename_i h2; cases h; exact ⟨rfl, h2⟩
  · cases h
theorem ref_ones {c : List (List Int)} (hc : CartanP c) {i j : Nat} (hi : i < c.length) (hj : j < c.length) (h : reflL c i (ones c.length) = reflL c j (ones c.length)) : i = j := by
  by_cases e : i = j
  · exact e
  exfalso
  have o1 : ∀ k, k < c.length → (ones c.length).getD k 0 = 1 := fun k hk => by simp [ones, List.getD, hk]
  have ol := ones_length c.length
  have hA := matA_cartan hc
  have d1 : ent c i i = 2 := hA.diag i hi
  have d2 : ent c i j ≤ 0 := hA.nonpos i j hi hj e
  have g1 := reflL_get c (i : Int) (ones c.length) i (by omega)
  have g2 := reflL_get c (j : Int) (ones c.length) i (by omega)
  rw [h, g2] at g1
  simp only [Int.toNat_natCast] at g1
  rw [o1 i hi, o1 j hj] at g1
  omega
theorem covL_inj {c : List (List Int)} (hc : CartanP c) {w : List Int} (hw : letters c.length w) (hl : w.length ≤ 15) {i j : Nat} (hi : i < c.length) (hj : j < c.length) (h : covL c w i = covL c w j) : i = j := by
  have l1 : letters c.length (w ++ [(i : Int)]) := letters_append.2 ⟨hw, letters_cons.2 ⟨by omega, letters_nil _⟩⟩
  have l2 : letters c.length (w ++ [(j : Int)]) := letters_append.2 ⟨hw, letters_cons.2 ⟨by omega, letters_nil _⟩⟩
  have e1 := (red_spec hc l1 (by simp; omega)).2.2.2.1
  have e2 := (red_spec hc l2 (by simp; omega)).2.2.2.1
  unfold covL at h
  rw [h, e2, image_append, image_append] at e1
  have k := congrArg (actL c w.reverse) e1
  rw [act_rev hc w hw (imageL_length c _), act_rev hc w hw (imageL_length c _)] at k
  exact (ref_ones hc hj hi k).symm
theorem wkT_nodup {c : List (List Int)} (hc : CartanP c) {w : List Int} (hw : letters c.length w) (hl : w.length ≤ 15) : (wkT c w c.length).Nodup := by
  unfold wkT
  have hp : (List.range c.length).Pairwise (fun i j => i < c.length ∧ j < c.length ∧ i ≠ j) := by
    refine List.pairwise_iff_getElem.2 fun i j hi hj hij => ?_
    simp only [List.getElem_range]
    simp at hi hj
    omega
  refine List.Pairwise.filterMap (wkF c w) (fun i j h x hx y hy e => ?_) hp
  subst e
  obtain ⟨h1, _⟩ := wkF_some hx
  obtain ⟨h2, _⟩ := wkF_some hy
  exact h.2.2 (covL_inj hc hw hl h.1 h.2.1 (by rw [← h1, ← h2]))
theorem wcv_len (c : List (List Int)) (w : List Int) : (wcv c w).length ≤ 4 := by
  unfold wcv
  cases hw : wordB c w with
  | false => simp
  | true =>
    have hc := (wordB_iff.1 hw).1
    have h1 := srt_len (wkT c w c.length)
    have h2 := wkT_len c w c.length
    have := hc.2.1
    simp only [if_true]
    omega
theorem wcv_rows (c : List (List Int)) (w : List Int) : ∀ r ∈ wcv c w, r.length ≤ 15 := by
  intro r hr
  unfold wcv at hr
  cases hw : wordB c w with
  | false => rw [hw] at hr; simp at hr
  | true =>
    rw [hw, if_pos rfl, (srt_spec _).2] at hr
    unfold wkT at hr
    obtain ⟨i, _, hi⟩ := List.mem_filterMap.1 hr
    exact (wkF_some hi).2.2
set_option maxHeartbeats 1000000 in
theorem c_impl_WeakCovers (c : List (List Int)) (w : List Int) (hcl : c.length ≤ 1048576) :
    FunA B 48 [.sl false (.row false) c, .sl false .int w] (fun rs o => rs = [.own 0 0] ∧ ∃ hs, hs.length = (wcv c w).length ∧ o = [.mat hs (wcv c w) 0 true]) := by
  refine (FunA.mat (by rfl) (post := fun rows nn rest => rows = wcv c w ∧ nn = true ∧ rest = []) ?_).mono fun rs o ⟨hs, rows, nn, rest, ⟨h1, h2, h3⟩, h4, h5, h6⟩ => by subst h1 h2 h3; exact ⟨h5, hs, h4, h6⟩
  refine FunA.walk B_ok (fn := Tryz.f48) (fun vs w => Tryz.call48 vs w) Tryz.func48 rfl (by rw [Tryz.ntmps48]; simp) (fun C hC hP hT hΓ hbt hfn hpin hfin => ?_); have hX := BX; rw [← hΓ, ← hbt.1, ← hbt.2] at hX; rw [Tryz.ntmps48]; simp only [AW7, simprocAttr, hX]
  refine Run.R ?_
  refine Run.R ?_
  refine Run.nq ?_; refine Run.regionW hC (fun K hK => ?_); refine wW ?_
  refine FunA.cW hP hT (c_impl_IsWord c w) ?_
  rintro rs o ⟨rfl, rfl⟩
  refine wW ?_
  refine wE ?_; clear hK K
  refine Run.nq ?_; refine Run.cW ?_ ?_
  · intro h
    have h : wordB c w = false := by simpa using h
    have hz : wcv c w = [] := by unfold wcv; rw [h]; rfl
    refine Run.R ?_
    refine Run.reK hpin [4] [0] (by decide) (by simp) ?_; simp only [AR, AW7, simprocAttr]
    refine Run.rW [4] (hfin _ _ rfl rfl ?_)
    exact ⟨[], 0, true, [], ⟨hz.symm, rfl, rfl⟩, by simp, rfl, rfl, rfl⟩
  intro h
  have hwb : wordB c w = true := by simpa using h
  have hz : wcv c w = srt (wkT c w c.length) := by unfold wcv; rw [hwb]; rfl
  obtain ⟨hc, h2, h3⟩ := wordB_iff.1 hwb
  have hn := hc.2.1
  refine Run.nq ?_; refine Run.regionW hC (fun K hK => ?_); refine wW ?_
  refine FunA.cW hP hT (c_impl_lengthOf c w hc h3 (by omega)) ?_
  rintro rs o ⟨rfl, rfl⟩
  refine wW ?_
  refine wE ?_; clear hK K
  refine Run.R ?_
  refine Run.loopI (X := List (Nat × List Int) × Nat) (fun x => ⟨47, [(0, true, .v (.sl false (.row false) (c))), (1, true, .v (.sl false .int (w))), (5, true, .v (.own 0 0)), (6, true, .v (.int .i64 ((redL c w).length))), (19, true, .v (.int .i64 (c.length))), (20, true, .v (.int .i64 (x.2)))], [.arr .lrow (x.1) 0 true]⟩) (fun x => x.2 ≤ c.length ∧ rw2 x.1 = wkT c w x.2 ∧ (lb1 x.1).Nodup) (fun x => c.length - x.2) (([], 0)) (⟨Nat.zero_le _, rfl, by simp [lb1]⟩) ?_ ?_
  · exact Le.sub (by first | rfl | simp) (by simp only [AW7, simprocAttr, hX]; try simp <;> try (first | rfl | exact ⟨rfl, rfl⟩ | exact ⟨rfl, rfl, rfl⟩))
  rintro ⟨ys, i⟩ ⟨hi, hE, hN⟩ ih
  try simp only []
  simp only [] at hi hE hN
  have hyl : ys.length ≤ i := by have := wkT_len c w i; rw [← hE] at this; simpa [rw2] using this
  refine Run.R ?_
  refine Run.nq ?_; refine Run.cW ?_ ?_
  rotate_left
  · intro h
    have hie : i = c.length := by rw [decide_eq_false_iff_not] at h; omega
    have hrl : ∀ a, (a = [] ∨ a ∈ ys.map (·.2)) → a.length ≤ 1048576 := fun a ha => by
      rcases ha with rfl | ha
      · simp
      · have ha : a ∈ rw2 ys := ha
        rw [hE] at ha
        unfold wkT at ha
        obtain ⟨k, _, hk⟩ := List.mem_filterMap.1 ha
        have := (wkF_some hk).2.2
        omega
    refine Run.exit rfl ?_; refine Run.nq ?_
    refine Run.nq ?_; refine Run.regionW hC (fun K hK => ?_); refine wW ?_
    refine ACall.sort hP hT srtL rfl cmpW_swo 0 0 rfl (by omega) (fun a b ha _ => c_impl_CompareWords a b (hrl a ha)) ?_
    intro ys' hp hs
    refine wW ?_
    refine wE ?_; clear hK K
    refine Run.R ?_
    refine Run.reK hpin [4] [0] (by decide) (by simp) ?_; simp only [AR, AW7, simprocAttr]
    refine Run.rW [4] (hfin _ _ rfl rfl ?_)
    refine ⟨ys', 0, true, [], ⟨?_, rfl, rfl⟩, ?_, rfl, rfl, rfl⟩
    · rw [hz]
      refine sorted_srt (wkT_nodup hc h3 h2) ?_ ?_
      · rw [← hie, ← hE]; exact hp.map _
      · exact List.pairwise_map.2 hs
    · exact (hp.map _).nodup_iff.2 hN
  intro h
  have h : i < c.length := by rw [decide_eq_true_eq] at h; omega
  have hlet : letters c.length (w ++ [(i : Int)]) := letters_append.2 ⟨h3, letters_cons.2 ⟨by omega, letters_nil _⟩⟩
  refine Run.R ?_
  refine Run.nq ?_; refine Run.regionW hC (fun K hK => ?_); refine wW ?_
  refine FunA.cW hP hT (c_slices_Clone w (by omega)) ?_
  rintro rs o ⟨nn2, rfl, rfl⟩
  refine wW ?_
  refine FunA.cW hP hT (c_impl_reduced c (w ++ [(i : Int)]) hc hlet (by simp; omega)) ?_
  rintro rs o ⟨rfl, rfl⟩
  refine wW ?_
  refine wE ?_; clear hK K
  refine Run.R ?_
  have hcv : redL c (w ++ [(i : Int)]) = covL c w i := rfl
  refine Run.nq ?_; refine Run.cW ?_ ?_
  · intro h5
    have h5 : (redL c w).length < (covL c w i).length ∧ (covL c w i).length ≤ 15 := by
      rw [hcv] at h5
      by_cases k1 : (redL c w).length < (covL c w i).length
      · rw [decide_eq_true (by omega : ((redL c w).length : Int) < ((covL c w i).length : Int))] at h5
        have h5 : decide (((covL c w i).length : Int) ≤ 15) = true := h5
        rw [decide_eq_true_eq] at h5
        exact ⟨k1, by omega⟩
      · rw [decide_eq_false (by omega : ¬ ((redL c w).length : Int) < ((covL c w i).length : Int))] at h5
        cases h5
    have hf : wkF c w i = some (covL c w i) := by unfold wkF; rw [if_pos h5]
    refine Run.nq ?_; refine Run.regionW hC (fun K hK => ?_); refine wW ?_
    intro q hq
    (repeat (with_reducible refine And.intro ?_ ?_); exact vc0)
    refine wE ?_; clear hK K
    rw [hcv]
    have hE2 : rw2 (ys ++ [(q, covL c w i)]) = wkT c w (i + 1) := by rw [rw2_app, hE, wkT_snoc, hf]; rfl
    have hN2 : (lb1 (ys ++ [(q, covL c w i)])).Nodup := by
      have := lb_ins (ys := []) (i := 0) (w := covL c w i) (by simpa [lb1] using hN) (hq (.arr .lrow ys 0 true) (.head _) _ _ _ rfl) (by simp)
      simpa [lb1] using this
    refine Run.reK hpin [0, 1, 5, 6, 19, 20] [0] (by decide) (by simp) ?_; simp only [AR, AW7, simprocAttr]
    refine Run.RW ?_
    refine Run.le ?_ (ih ((ys ++ [(q, covL c w i)], i + 1)) (⟨h, hE2, hN2⟩) (by (try simp only [List.length_append, List.length_cons, List.length_nil]); omega))
    exact Le.sub (by rfl) (by simp only [AW7, simprocAttr]; try simp)
  intro h5
  have h5 : ¬ ((redL c w).length < (covL c w i).length ∧ (covL c w i).length ≤ 15) := by
    rintro ⟨k1, k2⟩
    rw [hcv, decide_eq_true (by omega : ((redL c w).length : Int) < ((covL c w i).length : Int)), decide_eq_true (by omega : ((covL c w i).length : Int) ≤ 15)] at h5
    cases h5
  have hf : wkF c w i = none := by unfold wkF; rw [if_neg h5]
  have hE2 : rw2 ys = wkT c w (i + 1) := by rw [hE, wkT_snoc, hf]; simp
  refine Run.reK hpin [0, 1, 5, 6, 19, 20] [0] (by decide) (by simp) ?_; simp only [AR, AW7, simprocAttr]
  refine Run.RW ?_
  refine Run.le ?_ (ih ((ys, i + 1)) (⟨h, hE2, hN⟩) (by (try simp only [List.length_append, List.length_cons, List.length_nil]); omega))
  exact Le.sub (by rfl) (by simp only [AW7, simprocAttr]; try simp)
theorem nfW_on {c : List (List Int)} {w : List Int} (h : wordB c w = true) : nfW c w = redL c w := by simp [nfW, h]
theorem cov_red {c : List (List Int)} (hc : CartanP c) {w : List Int} (hw : letters c.length w) (hl : w.length ≤ 15) (i : Nat) : redL c (redL c w ++ [(i : Int)]) = covL c w i := by
  obtain ⟨a1, a2, a3, a4, a5⟩ := red_spec hc hw (by omega)
  refine red_eq ?_
  rw [image_append, image_append]
  exact same_elt hc a1 hw a4 (imageL_length c _)
set_option maxHeartbeats 1000000 in
theorem c_spec_WeakCoversR (c : List (List Int)) (w : List Int) (hcl : c.length ≤ 1048576) :
    FunA B 49 [.sl false (.row false) c, .sl false .int w] (fun rs o => ∃ ys g nn rest, (rw2 ys = wcv c w ∧ nn = true ∧ rest = []) ∧ (lb1 ys).Nodup ∧ rest.all flatAV = true ∧ rs = .own 0 g :: rest ∧ o = [.arr .lrow ys g nn]) := by
  refine FunA.walk B_ok (fn := Tryz.f49) (fun vs w => Tryz.call49 vs w) Tryz.func49 rfl (by rw [Tryz.ntmps49]; simp) (fun C hC hP hT hΓ hbt hfn hpin hfin => ?_); have hX := BX; rw [← hΓ, ← hbt.1, ← hbt.2] at hX; rw [Tryz.ntmps49]; simp only [AW7, simprocAttr, hX]
  refine Run.R ?_
  refine Run.R ?_
  refine Run.nq ?_; refine Run.regionW hC (fun K hK => ?_); refine wW ?_
  refine FunA.cW hP hT (c_spec_NormalForm c w hcl) ?_
  rintro rs o ⟨rfl, rfl⟩
  refine wW ?_
  refine wE ?_; clear hK K
  refine Run.R ?_
  cases hwb : wordB c w with
  | false =>
    have hz : wcv c w = [] := by unfold wcv; rw [hwb]; rfl
    refine Run.loopI (X := Unit) (fun _ => ⟨46, [(0, true, .v (.sl false (.row false) c)), (5, true, .v (.own 0 0)), (6, true, .v (.own 1 0)), (7, true, .v (.bool false)), (8, true, .v (.int .i64 0))], [.arr .lrow [] 0 true, .arr .int (nfW c w) 0 true]⟩) (fun _ => True) (fun _ => 0) () trivial ?_ ?_
    · exact Le.sub (by rfl) (by simp only [AW7, simprocAttr, hX]; try simp)
    rintro _ _ _
    refine Run.R ?_
    refine Run.nq ?_; refine Run.cW ?_ ?_
    · intro h; cases hx : decide ((0 : Int) < c.length) <;> rw [hx] at h <;> cases h
    intro _
    refine Run.exit rfl ?_; refine Run.nq ?_
    refine Run.R ?_
    refine Run.reK hpin [4] [0] (by decide) (by simp) ?_; simp only [AR, AW7, simprocAttr]
    refine Run.rW [4] (hfin _ _ rfl rfl ?_)
    exact ⟨[], 0, true, [], ⟨hz.symm, rfl, rfl⟩, by simp [lb1], rfl, rfl, rfl⟩
  | true =>
    have hz : wcv c w = srt (wkT c w c.length) := by unfold wcv; rw [hwb]; rfl
    obtain ⟨hc, h2, h3⟩ := wordB_iff.1 hwb
    have hn := hc.2.1
    rw [nfW_on hwb]
    obtain ⟨a1, a2, a3, a4, a5⟩ := red_spec hc h3 (by omega)
    refine Run.reK hpin [0, 5, 6, 7, 8] [0, 1] (by decide) (by simp) ?_; simp only [AR, AW7, simprocAttr]
    refine Run.loopI (X := List (Nat × List Int) × Nat) (fun x => ⟨46, [(0, true, .v (.sl false (.row false) (c))), (5, true, .v (.own 0 0)), (6, true, .v (.own 1 0)), (7, true, .v (.bool (true))), (8, true, .v (.int .i64 (x.2)))], [.arr .lrow (x.1) 0 true, .arr .int ((redL c w)) 0 true]⟩) (fun x => x.2 ≤ c.length ∧ rw2 x.1 = srt (wkT c w x.2) ∧ (lb1 x.1).Nodup) (fun x => c.length - x.2) (([], 0)) (⟨Nat.zero_le _, rfl, by simp [lb1]⟩) ?_ ?_
    · exact Le.sub (by first | rfl | simp) (by simp only [AW7, simprocAttr, hX]; try simp <;> try (first | rfl | exact ⟨rfl, rfl⟩ | exact ⟨rfl, rfl, rfl⟩))
    rintro ⟨ys, i⟩ ⟨hi, hE, hN⟩ ih
    try simp only []
    simp only [] at hi hE hN
    have hyl : ys.length ≤ i := by
      have := wkT_len c w i
      have h4 := srt_len (wkT c w i)
      rw [← hE] at h4
      have e : (rw2 ys).length = ys.length := by simp [rw2]
      omega
    refine Run.R ?_
    refine Run.nq ?_; refine Run.cW ?_ ?_
    rotate_left
    · intro h
      have hie : i = c.length := by
        cases hx : decide ((i : Int) < c.length) with
        | true => rw [hx] at h; cases h
        | false => rw [decide_eq_false_iff_not] at hx; omega
      refine Run.exit rfl ?_; refine Run.nq ?_
      refine Run.R ?_
      refine Run.reK hpin [4] [0] (by decide) (by simp) ?_; simp only [AR, AW7, simprocAttr]
      refine Run.rW [4] (hfin _ _ rfl rfl ?_)
      exact ⟨ys, 0, true, [], ⟨by rw [hz, ← hie]; exact hE, rfl, rfl⟩, hN, rfl, rfl, rfl⟩
    intro h
    have h : i < c.length := by
      cases hx : decide ((i : Int) < c.length) with
      | true => rw [decide_eq_true_eq] at hx; omega
      | false => rw [hx] at h; cases h
    have hlet : letters c.length (redL c w ++ [(i : Int)]) := letters_append.2 ⟨a1, letters_cons.2 ⟨by omega, letters_nil _⟩⟩
    refine Run.nq ?_; refine Run.regionW hC (fun K hK => ?_); refine wW ?_
    refine FunA.cW hP hT (c_spec_ConcatWords (redL c w) [(i : Int)] (by omega) (by simp)) ?_
    rintro rs o ⟨rfl, rfl⟩
    refine wW ?_
    refine FunA.cW hP hT (c_spec_l8Normal c (redL c w ++ [(i : Int)]) hc hlet (by simp; omega)) ?_
    rintro rs o ⟨rfl, rfl⟩
    refine wW ?_
    refine wE ?_; clear hK K
    rw [cov_red hc h3 h2 i]
    refine Run.R ?_
    refine Run.nq ?_; refine Run.cW ?_ ?_
    · intro h5
      have h5 : (redL c w).length < (covL c w i).length ∧ (covL c w i).length ≤ 15 := by
        by_cases k1 : (redL c w).length < (covL c w i).length
        · rw [decide_eq_true (by omega : ((redL c w).length : Int) < ((covL c w i).length : Int))] at h5
          have h5 : decide (((covL c w i).length : Int) ≤ 15) = true := h5
          rw [decide_eq_true_eq] at h5
          exact ⟨k1, by omega⟩
        · rw [decide_eq_false (by omega : ¬ ((redL c w).length : Int) < ((covL c w i).length : Int))] at h5
          cases h5
      have hf : wkF c w i = some (covL c w i) := by unfold wkF; rw [if_pos h5]
      refine Run.reK hpin [0, 5, 6, 7, 8, 9] [0, 1, 4] (by decide) (by simp) ?_; simp only [AR, AW7, simprocAttr]
      refine Run.nq ?_; refine Run.regionW hC (fun K hK => ?_); refine wW ?_
      refine FunM.call hP hT (c_spec_l11Put ys (covL c w i) hN (by omega) (by omega) true) 0 0 (by simp only [AW7, simprocAttr]; rfl) (by simp) rfl (by simp only [AW7, simprocAttr]; try simp) ?_
      rintro rs o' obs' ⟨rfl, ys', hE2, hN2, h⟩
      obtain ⟨rfl, rfl⟩ := List.cons.inj h
      refine wW ?_
      refine wE ?_; clear hK K
      have hE3 : rw2 ys' = srt (wkT c w (i + 1)) := by rw [hE2, hE, wkT_snoc, hf]; exact (srt_snoc _ _).symm
      refine Run.reK hpin [0, 5, 6, 7, 8] [3, 1] (by decide) (by simp) ?_; simp only [AR, AW7, simprocAttr]
      refine Run.RW ?_
      refine Run.le ?_ (ih ((ys', i + 1)) (⟨by omega, hE3, hN2⟩) (by (try simp only [List.length_append, List.length_cons, List.length_nil]); omega))
      exact Le.sub (by rfl) (by simp only [AW7, simprocAttr]; try simp)
    intro h5
    have h5 : ¬ ((redL c w).length < (covL c w i).length ∧ (covL c w i).length ≤ 15) := by
      rintro ⟨k1, k2⟩
      rw [decide_eq_true (by omega : ((redL c w).length : Int) < ((covL c w i).length : Int)), decide_eq_true (by omega : ((covL c w i).length : Int) ≤ 15)] at h5
      cases h5
    have hf : wkF c w i = none := by unfold wkF; rw [if_neg h5]
    have hE2 : rw2 ys = srt (wkT c w (i + 1)) := by rw [hE, wkT_snoc, hf]; simp
    refine Run.reK hpin [0, 5, 6, 7, 8] [0, 1] (by decide) (by simp) ?_; simp only [AR, AW7, simprocAttr]
    refine Run.RW ?_
    refine Run.le ?_ (ih ((ys, i + 1)) (⟨h, hE2, hN⟩) (by (try simp only [List.length_append, List.length_cons, List.length_nil]); omega))
    exact Le.sub (by rfl) (by simp only [AW7, simprocAttr]; try simp)
theorem c_spec_WeakCovers (c : List (List Int)) (w : List Int) (hcl : c.length ≤ 1048576) :
    FunA B 49 [.sl false (.row false) c, .sl false .int w] (fun rs o => rs = [.own 0 0] ∧ ∃ hs, hs.length = (wcv c w).length ∧ o = [.mat hs (wcv c w) 0 true]) :=
  (FunA.mat (by rfl) (post := fun rows nn rest => rows = wcv c w ∧ nn = true ∧ rest = []) (c_spec_WeakCoversR c w hcl)).mono fun rs o ⟨hs, rows, nn, rest, ⟨h1, h2, h3⟩, h4, h5, h6⟩ => by subst h1 h2 h3; exact ⟨h5, hs, h4, h6⟩
end Go.Proofs.YtojcdgdbffmlpaaGreat
namespace Go.Proofs.YtojcdgdbffmlpaaGreat
open Go Go.Aw Go.Cox
def delA (x : List Int) (k : Nat) : List Int := x.take k ++ x.drop (k + 1)
def bcF (c : List (List Int)) (x : List Int) (k : Nat) : Option (List Int) := if (redL c (delA x k)).length + 1 = x.length then some (redL c (delA x k)) else none
def bcT (c : List (List Int)) (x : List Int) (n : Nat) : List (List Int) := (List.range n).filterMap (bcF c x)
theorem delA_app (u t : List Int) (a : Int) {k : Nat} (h : u.length = k) : delA (u ++ a :: t) k = u ++ t := by
  subst h
  simp [delA]
theorem delA_len {x : List Int} {k : Nat} (h : k < x.length) : (delA x k).length + 1 = x.length := by unfold delA; simp; omega
end Go.Proofs.YtojcdgdbffmlpaaGreat
namespace Go.Proofs.YtojcdgdbffmlpaaGreat
open Go Go.Aw Go.Cox
def Pre (c : List (List Int)) (x z : List Int) : Prop := letters c.length z ∧ redL c z = z ∧ ∃ v, letters c.length v ∧ imageL c (z ++ v) = imageL c x ∧ z.length + v.length = x.length
def Nf (c : List (List Int)) (x : List Int) : Prop := letters c.length x ∧ redL c x = x ∧ x.length ≤ 30
theorem nf_idem {c : List (List Int)} (hc : CartanP c) {w : List Int} (hw : letters c.length w) (hl : w.length ≤ 31) : redL c (redL c w) = redL c w := red_eq (red_spec hc hw hl).2.2.2.1
theorem Nf.red {c : List (List Int)} (hc : CartanP c) {x : List Int} (h : Nf c x) : Red c x := by
  have := red_Red hc h.1 (by have := h.2.2; omega)
  rwa [h.2.1] at this
theorem Nf.far {c : List (List Int)} (hc : CartanP c) {x : List Int} (h : Nf c x) : Far c x.length (imageL c x) := (h.red hc).2
theorem Nf.short {c : List (List Int)} (hc : CartanP c) {x : List Int} (h : Nf c x) {u : List Int} (hu : letters c.length u) (he : imageL c u = imageL c x) : x.length ≤ u.length := by
  obtain ⟨L, h1, _, h3⟩ := Far.image hc hu
  rw [he] at h3
  have := (h.far hc).uniq hc h3
  omega
theorem Pre.nf {c : List (List Int)} {x z : List Int} (hx : Nf c x) (h : Pre c x z) : Nf c z := by
  obtain ⟨h1, h2, v, h3, h4, h5⟩ := h
  exact ⟨h1, h2, by have := hx.2.2; omega⟩
theorem Pre.refl {c : List (List Int)} {x : List Int} (hx : Nf c x) : Pre c x x := ⟨hx.1, hx.2.1, [], letters_nil _, by rw [List.append_nil], by simp⟩
theorem nf_red {c : List (List Int)} (hc : CartanP c) {u : List Int} (hu : letters c.length u) (hl : u.length ≤ 31) (hr : (redL c u).length ≤ 30) : Nf c (redL c u) :=
  ⟨(red_spec hc hu hl).1, nf_idem hc hu hl, hr⟩
theorem letter1 {n : Nat} {i : Nat} (h : i < n) : letters n [(i : Int)] := letters_cons.2 ⟨by omega, letters_nil _⟩
theorem image_same_app {c : List (List Int)} (hc : CartanP c) {a b : List Int} (ha : letters c.length a) (hb : letters c.length b) (h : imageL c a = imageL c b) (t : List Int) : imageL c (a ++ t) = imageL c (b ++ t) := by
  rw [image_append, image_append]; exact same_elt hc ha hb h (imageL_length c _)
theorem image_two {c : List (List Int)} (hc : CartanP c) (y : List Int) {i : Nat} (hi : i < c.length) (t : List Int) : imageL c (y ++ [(i : Int)] ++ ((i : Int) :: t)) = imageL c (y ++ t) := by
  rw [List.append_assoc, image_append, image_append]
  show actL c y (reflL c i (reflL c i (imageL c t))) = _
  rw [refl2 hc (i := (i : Int)) (by omega) (imageL_length c _)]
  exact (image_append c y t).symm
theorem Pre.down {c : List (List Int)} (hc : CartanP c) {x y : List Int} (hx : Nf c x) (hy : Pre c x y) {i : Nat} (hi : i < c.length) (hlt : (redL c (y ++ [(i : Int)])).length < y.length) : Pre c x (redL c (y ++ [(i : Int)])) := by
  have hny := hy.nf hx
  obtain ⟨h1, h2, v, h3, h4, h5⟩ := hy
  have hl : letters c.length (y ++ [(i : Int)]) := letters_append.2 ⟨h1, letter1 hi⟩
  have hlen : (y ++ [(i : Int)]).length ≤ 31 := by have := hny.2.2; simp; omega
  obtain ⟨a1, a2, a3, a4, a5⟩ := red_spec hc hl hlen
  have hvi : letters c.length ((i : Int) :: v) := letters_cons.2 ⟨by omega, h3⟩
  have him : imageL c (redL c (y ++ [(i : Int)]) ++ ((i : Int) :: v)) = imageL c x := by
    rw [image_same_app hc a1 hl a4, image_two hc y hi, h4]
  have hs := hx.short hc (letters_append.2 ⟨a1, hvi⟩) him
  simp at hs a3
  refine ⟨a1, nf_idem hc hl hlen, (i : Int) :: v, hvi, him, ?_⟩
  simp
  omega
theorem Pre.all_down {c : List (List Int)} (hc : CartanP c) {x : List Int} (hx : Nf c x) {L : List (List Int)} (hL : ∀ y ∈ L, Pre c x y) (hc2 : ∀ y ∈ L, ∀ i, i < c.length → (redL c (y ++ [(i : Int)])).length < y.length → redL c (y ++ [(i : Int)]) ∈ L) :
    ∀ (n : Nat) (y z v : List Int), y ∈ L → letters c.length z → redL c z = z → letters c.length v → imageL c (z ++ v) = imageL c y → z.length + v.length = y.length → v.length = n → z ∈ L := by
  intro n
  induction n with
  | zero =>
    intro y z v hy h1 h2 h3 h4 h5 h6
    have hv : v = [] := List.eq_nil_of_length_eq_zero h6
    subst hv
    rw [List.append_nil] at h4
    have e : redL c z = redL c y := red_eq h4
    rw [h2, ((hL y hy).nf hx).2.1] at e
    rw [e]; exact hy
  | succ n ih =>
    intro y z v hy h1 h2 h3 h4 h5 h6
    have hny := (hL y hy).nf hx
    obtain ⟨v', b, rfl⟩ : ∃ v' b, v = v' ++ [b] := ⟨v.dropLast, v.getLast (by intro e; rw [e] at h6; simp at h6), (List.dropLast_concat_getLast _).symm⟩
    obtain ⟨l1, l2⟩ := letters_append.1 h3
    obtain ⟨hb, _⟩ := letters_cons.1 l2
    have hbn : ((b.toNat : Nat) : Int) = b := by omega
    have hbl : b.toNat < c.length := by omega
    have hl : letters c.length (y ++ [b]) := letters_append.2 ⟨hny.1, l2⟩
    have hlen : (y ++ [b]).length ≤ 31 := by have := hny.2.2; simp; omega
    obtain ⟨a1, a2, a3, a4, a5⟩ := red_spec hc hl hlen
    have hzv : letters c.length (z ++ v') := letters_append.2 ⟨h1, l1⟩
    have him : imageL c (y ++ [b]) = imageL c (z ++ v') := by
      rw [← image_same_app hc (letters_append.2 ⟨h1, h3⟩) hny.1 h4 [b]]
      have := image_two hc (z ++ v') hbl []
      rw [hbn, List.append_nil] at this
      rw [← this]
      simp
    have hshort : (redL c (y ++ [b])).length ≤ (z ++ v').length := by
      obtain ⟨L2, k1, _, k3⟩ := Far.image hc hzv
      rw [← him] at k3
      have := a5.uniq hc k3
      omega
    simp at h5 h6 hshort
    have hin : redL c (y ++ [b]) ∈ L := by
      have := hc2 y hy b.toNat hbl
      rw [hbn] at this
      exact this (by omega)
    have hs := hny.short hc (letters_append.2 ⟨a1, l2⟩) (by
      rw [image_same_app hc a1 hl a4 [b]]
      have := image_two hc y hbl []
      rw [hbn, List.append_nil] at this
      exact this)
    simp at hs
    exact ih _ z v' hin h1 h2 l1 (by rw [a4, him]) (by omega) (by omega)
theorem Pre.mem_down {c : List (List Int)} (hc : CartanP c) {x : List Int} (hx : Nf c x) {L : List (List Int)} (hL : ∀ y ∈ L, Pre c x y) (hxL : x ∈ L) (hc2 : ∀ y ∈ L, ∀ i, i < c.length → (redL c (y ++ [(i : Int)])).length < y.length → redL c (y ++ [(i : Int)]) ∈ L) (z : List Int) : z ∈ L ↔ Pre c x z := by
  refine ⟨hL z, fun ⟨h1, h2, v, h3, h4, h5⟩ => ?_⟩
  exact Pre.all_down hc hx hL hc2 _ x z v hxL h1 h2 h3 h4 h5 rfl
theorem red_of_nil {c : List (List Int)} (hc : CartanP c) : redL c [] = [] := by
  have := (red_spec hc (letters_nil c.length) (by simp)).2.1
  exact List.eq_nil_of_length_eq_zero (by simpa using this)
theorem Pre.nil {c : List (List Int)} (hc : CartanP c) {x : List Int} (hx : Nf c x) : Pre c x [] := ⟨letters_nil _, red_of_nil hc, x, hx.1, rfl, by simp⟩
theorem wkB_pre {c : List (List Int)} (hc : CartanP c) {x l : List Int} (hx : Nf c x) (hx15 : x.length ≤ 15) (hl : Nf c l) (hl15 : l.length ≤ 15) : wkB c l x = true ↔ Pre c x l := by
  have hW1 : wordB c l = true := wordB_iff.2 ⟨hc, hl15, hl.1⟩
  have hW2 : wordB c x = true := wordB_iff.2 ⟨hc, hx15, hx.1⟩
  have hrl := letters_reverse hl.1
  have hlx : letters c.length (l.reverse ++ x) := letters_append.2 ⟨hrl, hx.1⟩
  have hlen : (l.reverse ++ x).length ≤ 31 := by simp; omega
  obtain ⟨a1, a2, a3, a4, a5⟩ := red_spec hc hlx hlen
  have hback : imageL c (l ++ redL c (l.reverse ++ x)) = imageL c x := by
    rw [image_append, a4, image_append]
    have := act_rev hc l.reverse hrl (v := imageL c x) (imageL_length c _)
    rw [List.reverse_reverse] at this
    exact this
  unfold wkB
  rw [hW1, hW2, hl.2.1, hx.2.1]
  simp only [Bool.true_and, decide_eq_true_eq]
  constructor
  · intro h
    exact ⟨hl.1, hl.2.1, _, a1, hback, h⟩
  · rintro ⟨h1, h2, v, h3, h4, h5⟩
    have hs := hx.short hc (letters_append.2 ⟨hl.1, a1⟩) hback
    have hv : imageL c (l.reverse ++ x) = imageL c v := by
      rw [image_append, ← h4, image_append]
      exact act_rev hc l hl.1 (imageL_length c _)
    obtain ⟨L, k1, _, k3⟩ := Far.image hc h3
    rw [← hv] at k3
    have := a5.uniq hc k3
    simp at hs
    omega
theorem Pre.all_up {c : List (List Int)} (hc : CartanP c) {x : List Int} (hx : Nf c x) {L : List (List Int)} (h0 : [] ∈ L) (hc2 : ∀ y ∈ L, ∀ i, i < c.length → y.length < (redL c (y ++ [(i : Int)])).length → Pre c x (redL c (y ++ [(i : Int)])) → redL c (y ++ [(i : Int)]) ∈ L) :
    ∀ (n : Nat) (z : List Int), Pre c x z → z.length = n → z ∈ L := by
  intro n
  induction n with
  | zero =>
    intro z _ hz
    rw [List.eq_nil_of_length_eq_zero hz]; exact h0
  | succ n ih =>
    intro z hz hn
    have hnz := hz.nf hx
    have hz0 := hz
    obtain ⟨h1, h2, v, h3, h4, h5⟩ := hz
    obtain ⟨z', b, rfl⟩ : ∃ z' b, z = z' ++ [b] := ⟨z.dropLast, z.getLast (by intro e; rw [e] at hn; simp at hn), (List.dropLast_concat_getLast _).symm⟩
    obtain ⟨l1, l2⟩ := letters_append.1 h1
    obtain ⟨hb, _⟩ := letters_cons.1 l2
    have hbn : ((b.toNat : Nat) : Int) = b := by omega
    have hbl : b.toNat < c.length := by omega
    have hlen : z'.length ≤ 31 := by have := hnz.2.2; simp at this; omega
    obtain ⟨a1, a2, a3, a4, a5⟩ := red_spec hc l1 hlen
    have hbk : imageL c (redL c z' ++ [b]) = imageL c (z' ++ [b]) := image_same_app hc a1 l1 a4 [b]
    have hs := hnz.short hc (letters_append.2 ⟨a1, l2⟩) hbk
    have hrr : redL c (redL c z' ++ [b]) = z' ++ [b] := by rw [red_eq hbk]; exact h2
    simp at hs hn h5
    have hpy : Pre c x (redL c z') := by
      refine ⟨a1, nf_idem hc l1 hlen, b :: v, letters_cons.2 ⟨hb, h3⟩, ?_, by simp; omega⟩
      rw [image_same_app hc a1 l1 a4 (b :: v), ← h4]; simp
    have hin := ih _ hpy (by omega)
    have := hc2 _ hin b.toNat hbl
    rw [hbn, hrr] at this
    exact this (by simp; omega) hz0
theorem Pre.mem_up {c : List (List Int)} (hc : CartanP c) {x : List Int} (hx : Nf c x) {L : List (List Int)} (hL : ∀ y ∈ L, Pre c x y) (h0 : [] ∈ L) (hc2 : ∀ y ∈ L, ∀ i, i < c.length → y.length < (redL c (y ++ [(i : Int)])).length → Pre c x (redL c (y ++ [(i : Int)])) → redL c (y ++ [(i : Int)]) ∈ L) (z : List Int) : z ∈ L ↔ Pre c x z :=
  ⟨hL z, fun hz => Pre.all_up hc hx h0 hc2 _ z hz rfl⟩
theorem nodup_le {α : Type} [DecidableEq α] : ∀ {a b : List α}, a.Nodup → (∀ x ∈ a, x ∈ b) → a.length ≤ b.length
  | [], b, _, _ => Nat.zero_le _
  | x :: a, b, hn, h => by
    obtain ⟨h1, h2⟩ := List.nodup_cons.1 hn
    have hx := h x (List.mem_cons_self ..)
    have := nodup_le (a := a) (b := b.erase x) h2 (fun y hy => by
      have hne : y ≠ x := fun e => h1 (e ▸ hy)
      exact (List.mem_erase_of_ne hne).2 (h y (List.mem_cons_of_mem _ hy)))
    rw [List.length_erase_of_mem hx] at this
    have hp : 0 < b.length := List.length_pos_of_mem hx
    simp only [List.length_cons]
    omega
def FewP (R : List Int → Prop) : Prop := ∃ L : List (List Int), L.Nodup ∧ (∀ z, z ∈ L ↔ R z) ∧ L.length ≤ 200
open Classical in
noncomputable def fewB (R : List Int → Prop) : Bool := decide (FewP R)
open Classical in
noncomputable def fewL (R : List Int → Prop) : List (List Int) := if h : FewP R then srt h.choose else []
theorem few_on {R : List Int → Prop} {L : List (List Int)} (hn : L.Nodup) (hL : ∀ z, z ∈ L ↔ R z) (hl : L.length ≤ 200) : fewB R = true ∧ fewL R = srt L := by
  have h : FewP R := ⟨L, hn, hL, hl⟩
  refine ⟨by simp [fewB, h], ?_⟩
  unfold fewL
  rw [dif_pos h]
  obtain ⟨_, h2, _⟩ := h.choose_spec
  exact strict_ext (srt_spec _).1 (srt_spec _).1 fun z => by rw [(srt_spec _).2, (srt_spec _).2, h2, hL]
theorem few_off {R : List Int → Prop} {L : List (List Int)} (hn : L.Nodup) (hL : ∀ z ∈ L, R z) (hl : 200 < L.length) : fewB R = false ∧ fewL R = [] := by
  have h : ¬ FewP R := by
    rintro ⟨L', _, h2, h3⟩
    have := nodup_le hn (fun z hz => (h2 z).2 (hL z hz))
    omega
  exact ⟨by simp [fewB, h], by unfold fewL; rw [dif_neg h]⟩
theorem fewL_len (R : List Int → Prop) : (fewL R).length ≤ 200 := by
  unfold fewL
  split
  · rename_i h
    have := srt_len h.choose
    have := h.choose_spec.2.2
    omega
  · simp
theorem fewL_mem {R : List Int → Prop} {z : List Int} (h : z ∈ fewL R) : R z := by
  unfold fewL at h
  split at h
  · rename_i hf
    rw [(srt_spec _).2] at h
    exact (hf.choose_spec.2.1 z).1 h
  · simp at h
end Go.Proofs.YtojcdgdbffmlpaaGreat
