/- The root of a reflection: what the functions of both sides do. -/
import Derived.Test.YtnhiamdnghgboaaRor
set_option linter.unusedVariables false
set_option linter.unusedSimpArgs false
namespace Go.Proofs.Ytnhiamdnghgboaa
open Go Go.Aw Go.Cox

theorem c_spec_RootSequence (c : List (List Int)) (w : List Int) (hW : WordP c w) :
    FunA B 83 [.sl false (.row false) c, .sl false .int w] (fun rs o => rs = [.own 0 0] ∧ ∃ ys, ys.map (·.2) = seqL c w ∧ o = [.arr .lrow ys 0 true]) := by
  have hc := hW.1
  have hn := hc.2.1
  have hwl := hW.2.1
  have hwb : wordB c w = true := wordB_iff.2 hW
  refine FunA.walk B_ok (fn := Try.f83) (fun vs w => Try.call83 vs w) Try.func83 rfl (by rw [Try.ntmps83]; simp) (fun C hC hP hT hΓ hbt hfn hpin hfin => ?_); have hX := BX; rw [← hΓ, ← hbt] at hX; rw [Try.ntmps83]; simp only [AW4, simprocAttr, hX]
  refine Run.nq ?_; refine Run.regionW hC (fun K hK => ?_); simp only [AW4, simprocAttr, hX]; (repeat (with_reducible refine And.intro ?_ ?_); exact vc0); refine hK _ ?_; clear hK K; refine Run.nq ?_
  refine Run.nq ?_; refine Run.regionW hC (fun K hK => ?_); simp only [AW4, simprocAttr, hX]; (repeat (with_reducible refine And.intro ?_ ?_); exact vc0); refine hK _ ?_; clear hK K; refine Run.nq ?_
  refine Run.nq ?_; refine Run.regionW hC (fun K hK => ?_); simp only [AW4, simprocAttr, hX]; (repeat (with_reducible refine And.intro ?_ ?_); exact vc0); refine hK _ ?_; clear hK K; refine Run.nq ?_
  refine Run.loopI (X := Nat × List (Nat × List Int)) (fun m => ⟨36, [(0, true, .v (.sl false (.row false) (c))), (1, true, .v (.sl false .int (w))), (4, true, .v (.nils)), (5, true, .v (.own 0 0)), (6, true, .v (.int .i64 (m.1)))], [.arr .lrow (m.2) 0 true]⟩) (fun m => m.1 ≤ w.length ∧ m.2.map (·.2) = (List.range m.1).map (sq c w)) (fun m => w.length - m.1) ((0, [])) (⟨Nat.zero_le _, rfl⟩) ?_ ?_
  · exact Le.sub (by first | rfl | simp) (by simp only [AW4, simprocAttr, hX]; try simp <;> try (first | rfl | exact ⟨rfl, rfl⟩ | exact ⟨rfl, rfl, rfl⟩))
  rintro ⟨m, ys⟩ ⟨hm, hy⟩ ih
  try simp only []
  simp only [] at hm hy
  have hyl : ys.length = m := by have := congrArg List.length hy; simpa using this
  by_cases h : m < w.length
  · have e1 : decide ((m : Int) < w.length) = true := by rw [decide_eq_true_eq]; omega
    have hlet := letters_getD.1 hW.2.2 m h
    have hsl := simL_len c.length (w.getD m 0).toNat
    refine Run.nq ?_; refine Run.regionW hC (fun K hK => ?_); simp only [AW4, simprocAttr, hX]; (repeat (with_reducible refine And.intro ?_ ?_); exact vc0)
    simp only [e1]
    refine .inr ⟨rfl, ?_⟩
    refine FunA.callW hP hT (c_spec_IsWord c w (by omega)) (by simp only [AW4, simprocAttr]) ?_
    rintro rs o ⟨rfl, rfl⟩
    simp only [hwb]
    (try simp only [AW4, simprocAttr, hX]); (repeat (with_reducible refine And.intro ?_ ?_); exact vc0)
    (repeat (with_reducible refine And.intro ?_ ?_); exact vc0); refine hK _ ?_; clear hK K; refine Run.nq ?_
    refine Run.nq ?_; refine Run.condW (by simp only [AW4, simprocAttr, hX]; rfl) (by simp only [AW4, simprocAttr, hX]) ?_ ?_
    rotate_left
    · intro h; cases h
    intro _
    refine Run.nq ?_; refine Run.regionD hC true [0,1,2,3,4,5,6,7,8,9,10,11] (by kernel_rfl) (fun K hK => ?_); simp only [AW4, simprocAttr, hX]; (repeat (with_reducible refine And.intro ?_ ?_); exact vc0)
    refine FunA.callD hP hT (c_spec_SimpleRoot c (w.getD m 0) hc hlet) (by simp only [AW4, simprocAttr]) ?_
    rintro rs o ⟨rfl, rfl⟩
    (try simp only [AW4, simprocAttr, hX]); (repeat (with_reducible refine And.intro ?_ ?_); exact vc0)
    rw [show List.take (m - 0) (List.drop 0 w) = w.take m by simp]
    refine FunA.callD hP hT (c_spec_ActOnRoot c (w.take m) (simL c.length (w.getD m 0).toNat) (word_take hW m) hsl (seq_small hW m _)) (by simp only [AW4, simprocAttr]) ?_
    rintro rs o ⟨rfl, rfl⟩
    (try simp only [AW4, simprocAttr, hX]); (repeat (with_reducible refine And.intro ?_ ?_); exact vc0)
    (repeat (with_reducible refine And.intro ?_ ?_); exact vc0); refine hK _ ?_; clear hK K; refine Run.nq ?_
    refine Run.nq ?_; refine Run.regionW hC (fun K hK => ?_); simp only [AW4, simprocAttr, hX]; (repeat (with_reducible refine And.intro ?_ ?_); exact vc0)
    intro l hl
    (try simp only [AW4, simprocAttr, hX]); (repeat (with_reducible refine And.intro ?_ ?_); exact vc0)
    (repeat (with_reducible refine And.intro ?_ ?_); exact vc0); refine hK _ ?_; clear hK K; refine Run.nq ?_
    refine Run.nq ?_; refine Run.regionW hC (fun K hK => ?_); simp (disch := omega) only [wrap_id, AW4, simprocAttr, hX]; (repeat (with_reducible refine And.intro ?_ ?_); exact vc0); refine hK _ ?_; clear hK K; refine Run.nq ?_
    refine Run.reK hpin [0, 1, 4, 5, 6] [0] (by decide) (by simp) ?_; simp only [AR, AW4, simprocAttr]
    refine Run.le ?_ (ih ((m + 1, ys ++ [(l, sq c w m)])) (⟨h, by rw [List.map_append, hy]; exact range_snoc (sq c w) m⟩) (by (try simp only [List.length_append, List.length_cons, List.length_nil]); omega))
    exact Le.sub (by rfl) (by simp only [AW4, simprocAttr]; try simp)
  · have h : m = w.length := by omega
    subst h
    have e1 : decide ((w.length : Int) < w.length) = false := by rw [decide_eq_false_iff_not]; omega
    refine Run.nq ?_; refine Run.regionW hC (fun K hK => ?_); simp only [AW4, simprocAttr, hX]; (repeat (with_reducible refine And.intro ?_ ?_); exact vc0)
    simp only [e1]
    refine .inl (CallG.off (.bool false) ?_)
    (try simp only [AW4, simprocAttr, hX]); (repeat (with_reducible refine And.intro ?_ ?_); exact vc0)
    (repeat (with_reducible refine And.intro ?_ ?_); exact vc0); refine hK _ ?_; clear hK K; refine Run.nq ?_
    refine Run.nq ?_; refine Run.condW (by simp only [AW4, simprocAttr, hX]; rfl) (by simp only [AW4, simprocAttr, hX]) ?_ ?_
    · intro h; cases h
    intro _
    refine Run.exit rfl ?_; refine Run.nq ?_
    refine Run.nq ?_; refine Run.regionW hC (fun K hK => ?_); simp only [AW4, simprocAttr, hX]; (repeat (with_reducible refine And.intro ?_ ?_); exact vc0); refine hK _ ?_; clear hK K; refine Run.nq ?_
    refine Run.reK hpin [4] [0] (by decide) (by simp) ?_; simp only [AR, AW4, simprocAttr]
    refine Run.retW [4] (by decide) (by rw [hfn]; rfl) (by simp only [AW4, simprocAttr, hX]; rfl) (by simp only [AW4, simprocAttr, hX]) (hfin _ _ rfl rfl ?_)
    exact ⟨rfl, ys, hy, rfl⟩

/-- Whether the letter at a place of a word stands for its reflection. -/
noncomputable def isRor (c : List (List Int)) (x : List Int) (k : Nat) : Bool := rflB c (sq c x k) && (rflX c (sq c x k) == x)
noncomputable def rorI (c : List (List Int)) (w : List Int) : Option Nat := if wordB c w && decide ((redL c w).length % 2 = 1) then (List.range (redL c w).length).find? (isRor c (redL c w)) else none
noncomputable def rorB (c : List (List Int)) (w : List Int) : Bool := (rorI c w).isSome
noncomputable def rorX (c : List (List Int)) (w : List Int) : List Int := match rorI c w with
  | some k => sq c (redL c w) k
  | none => []
theorem rorX_le (c : List (List Int)) (w : List Int) : (rorX c w).length ≤ 15 := by
  unfold rorX rorI
  cases h : wordB c w with
  | false => simp
  | true =>
    have := (wordB_iff.1 h).1.2.1
    split
    · rw [sq_len]; omega
    · simp
theorem ror_none {c : List (List Int)} {w : List Int} (h : rorI c w = none) : rorB c w = false ∧ rorX c w = [] := by simp [rorB, rorX, h]
theorem ror_some {c : List (List Int)} {w : List Int} {k : Nat} (h : rorI c w = some k) : rorB c w = true ∧ rorX c w = sq c (redL c w) k := by simp [rorB, rorX, h]
theorem ror_off {c : List (List Int)} {w : List Int} (h : (wordB c w && decide ((redL c w).length % 2 = 1)) = false) : rorI c w = none := by unfold rorI; rw [h]; rfl
theorem ror_on {c : List (List Int)} {w : List Int} (h : (wordB c w && decide ((redL c w).length % 2 = 1)) = true) : rorI c w = (List.range (redL c w).length).find? (isRor c (redL c w)) := by unfold rorI; rw [h]; rfl
theorem odd_tmod (n : Nat) : ((n : Int).tmod 2 == 0) = !decide (n % 2 = 1) := by
  have h : (n : Int).tmod 2 = ((n % 2 : Nat) : Int) := rfl
  rw [h]
  rcases Nat.mod_two_eq_zero_or_one n with h | h <;> rw [h] <;> rfl
theorem ys_get {ys : List (Nat × List Int)} {n : Nat} {f : Nat → List Int} (h : ys.map (·.2) = (List.range n).map f) {k : Nat} (hk : k < n) : (ys.getD k (0, [])).2 = f k := by
  have h1 : (ys.map (·.2)).getD k [] = f k := by rw [h]; simp [hk]
  rw [← h1]
  have : ys.length = n := by have := congrArg List.length h; simpa using this
  simp [List.getD_eq_getElem?_getD, this, hk]

theorem c_impl_RootOfReflection (c : List (List Int)) (w : List Int) (hcl : c.length ≤ 1048576) :
    FunA B 34 [.sl false (.row false) c, .sl false .int w] (fun rs o => rs = [.own 0 0, .bool (rorB c w)] ∧ o = [.arr .int (rorX c w) 0 true]) := by
  refine (FunA.unlr (by rfl) (post := fun xs rest => xs = rorX c w ∧ rest = [.bool (rorB c w)]) ?_).mono fun rs o ⟨xs, rest, ⟨h1, h2⟩, h3, h4⟩ => ⟨by rw [h3, h2], by rw [h4, h1]⟩
  refine FunA.walk B_ok (fn := Try.f34) (fun vs w => Try.call34 vs w) Try.func34 rfl (by rw [Try.ntmps34]; simp) (fun C hC hP hT hΓ hbt hfn hpin hfin => ?_); have hX := BX; rw [← hΓ, ← hbt] at hX; rw [Try.ntmps34]; simp only [AW4, simprocAttr, hX]
  refine Run.nq ?_; refine Run.regionW hC (fun K hK => ?_); simp only [AW4, simprocAttr, hX]; (repeat (with_reducible refine And.intro ?_ ?_); exact vc0); refine hK _ ?_; clear hK K; refine Run.nq ?_
  refine Run.nq ?_; refine Run.regionW hC (fun K hK => ?_); simp only [AW4, simprocAttr, hX]; (repeat (with_reducible refine And.intro ?_ ?_); exact vc0)
  refine FunA.callW hP hT (c_impl_IsWord c w) (by simp only [AW4, simprocAttr]) ?_
  rintro rs o ⟨rfl, rfl⟩
  (try simp only [AW4, simprocAttr, hX]); (repeat (with_reducible refine And.intro ?_ ?_); exact vc0)
  (repeat (with_reducible refine And.intro ?_ ?_); exact vc0); refine hK _ ?_; clear hK K; refine Run.nq ?_
  refine Run.nq ?_; refine Run.condW (by simp only [AW4, simprocAttr, hX]; rfl) (by simp only [AW4, simprocAttr, hX]) ?_ ?_
  · intro h
    have h : wordB c w = false := by simpa using h
    obtain ⟨e1, e2⟩ := ror_none (ror_off (by rw [h]; rfl))
    refine Run.nq ?_; refine Run.regionW hC (fun K hK => ?_); simp only [AW4, simprocAttr, hX]; (repeat (with_reducible refine And.intro ?_ ?_); exact vc0); refine hK _ ?_; clear hK K; refine Run.nq ?_
    refine Run.reK hpin [4, 5] [0] (by decide) (by simp) ?_; simp only [AR, AW4, simprocAttr]
    refine Run.tolr 0 [4, 5] rfl (fun q hq => ?_); simp only [AL, frV_cons, frV_nil, AW4, simprocAttr]
    refine Run.reK hpin [4, 5] [] (by decide) (by simp) ?_; simp only [AR, AW4, simprocAttr]
    refine Run.retW [4, 5] (by decide) (by rw [hfn]; rfl) (by simp only [AW4, simprocAttr, hX]; rfl) (by simp only [AW4, simprocAttr, hX]) (hfin _ _ rfl rfl ?_)
    exact ⟨q, [], _, ⟨e2.symm, by rw [e1]⟩, rfl, rfl, rfl⟩
  intro h
  have hwb : wordB c w = true := by simpa using h
  have hW := wordB_iff.1 hwb
  obtain ⟨hc, h2, h3⟩ := hW
  have hn := hc.2.1
  obtain ⟨a1, a2, a3, a4, a5⟩ := red_spec hc h3 (by omega)
  have hWx : WordP c (redL c w) := ⟨hc, by omega, a1⟩
  refine Run.nq ?_; refine Run.regionW hC (fun K hK => ?_); simp only [AW4, simprocAttr, hX]; (repeat (with_reducible refine And.intro ?_ ?_); exact vc0)
  refine FunA.callW hP hT (c_impl_reduced c w hc h3 (by omega)) (by simp only [AW4, simprocAttr]) ?_
  rintro rs o ⟨rfl, rfl⟩
  (try simp only [AW4, simprocAttr, hX]); (repeat (with_reducible refine And.intro ?_ ?_); exact vc0)
  (repeat (with_reducible refine And.intro ?_ ?_); exact vc0); refine hK _ ?_; clear hK K; refine Run.nq ?_
  refine Run.nq ?_; refine Run.regionW hC (fun K hK => ?_); simp only [AW4, simprocAttr, hX]; (repeat (with_reducible refine And.intro ?_ ?_); exact vc0); refine hK _ ?_; clear hK K; refine Run.nq ?_
  refine Run.nq ?_; refine Run.condW (by simp only [AW4, simprocAttr, hX]; rfl) (by simp only [AW4, simprocAttr, hX]) ?_ ?_
  · intro h
    rw [odd_tmod] at h
    have h : (wordB c w && decide ((redL c w).length % 2 = 1)) = false := by rw [hwb, Bool.true_and]; simpa using h
    obtain ⟨e1, e2⟩ := ror_none (ror_off h)
    refine Run.nq ?_; refine Run.regionW hC (fun K hK => ?_); simp only [AW4, simprocAttr, hX]; (repeat (with_reducible refine And.intro ?_ ?_); exact vc0); refine hK _ ?_; clear hK K; refine Run.nq ?_
    refine Run.reK hpin [4, 5] [1] (by decide) (by simp) ?_; simp only [AR, AW4, simprocAttr]
    refine Run.tolr 0 [4, 5] rfl (fun q hq => ?_); simp only [AL, frV_cons, frV_nil, AW4, simprocAttr]
    refine Run.reK hpin [4, 5] [] (by decide) (by simp) ?_; simp only [AR, AW4, simprocAttr]
    refine Run.retW [4, 5] (by decide) (by rw [hfn]; rfl) (by simp only [AW4, simprocAttr, hX]; rfl) (by simp only [AW4, simprocAttr, hX]) (hfin _ _ rfl rfl ?_)
    exact ⟨q, [], _, ⟨e2.symm, by rw [e1]⟩, rfl, rfl, rfl⟩
  intro h
  rw [odd_tmod] at h
  have h : (wordB c w && decide ((redL c w).length % 2 = 1)) = true := by rw [hwb, Bool.true_and]; simpa using h
  have hI := ror_on h
  refine Run.nq ?_; refine Run.regionW hC (fun K hK => ?_); simp only [AW4, simprocAttr, hX]; (repeat (with_reducible refine And.intro ?_ ?_); exact vc0)
  refine FunA.callW hP hT (c_impl_sequence c (redL c w) hWx) (by simp only [AW4, simprocAttr]) ?_
  rintro rs o ⟨rfl, ys, hy, rfl⟩
  have hyl : ys.length = (redL c w).length := by have := congrArg List.length hy; simpa [seqL] using this
  (try simp only [AW4, simprocAttr, hX]); (repeat (with_reducible refine And.intro ?_ ?_); exact vc0)
  (repeat (with_reducible refine And.intro ?_ ?_); exact vc0); refine hK _ ?_; clear hK K; refine Run.nq ?_
  refine Run.reK hpin [0, 6, 26, 27, 28] [0, 1] (by decide) (by simp) ?_; simp only [AR, AW4, simprocAttr]
  rw [hyl]
  refine Run.loopI (X := Nat) (fun k => ⟨47, [(0, true, .v (.sl false (.row false) (c))), (6, true, .v (.own 0 0)), (26, true, .v (.own 1 0)), (27, true, .v (.int .i64 ((redL c w).length))), (28, true, .v (.int .i64 (k)))], [.arr .int ((redL c w)) 0 true, .arr .lrow (ys) 0 true]⟩) (fun k => k ≤ (redL c w).length ∧ ∀ j, j < k → isRor c (redL c w) j = false) (fun k => (redL c w).length - k) (0) (⟨Nat.zero_le _, by omega⟩) ?_ ?_
  · exact Le.sub (by first | rfl | simp) (by simp only [AW4, simprocAttr, hX]; try simp <;> try (first | rfl | exact ⟨rfl, rfl⟩ | exact ⟨rfl, rfl, rfl⟩))
  rintro k ⟨hk, hpre⟩ ih
  try simp only []
  refine Run.nq ?_; refine Run.regionW hC (fun K hK => ?_); simp only [AW4, simprocAttr, hX]; (repeat (with_reducible refine And.intro ?_ ?_); exact vc0); refine hK _ ?_; clear hK K; refine Run.nq ?_
  refine Run.nq ?_; refine Run.condW (by simp only [AW4, simprocAttr, hX]; rfl) (by simp only [AW4, simprocAttr, hX]) ?_ ?_
  · intro h4
    have h4 : k < (redL c w).length := by simpa using h4
    have hg := ys_get hy h4
    have hxl := rflX_le c (sq c (redL c w) k)
    refine Run.nq ?_; refine Run.regionW hC (fun K hK => ?_); simp only [AW4, simprocAttr, hX]; (repeat (with_reducible refine And.intro ?_ ?_); exact vc0); refine hK _ ?_; clear hK K; refine Run.nq ?_
    rw [hg]
    refine Run.nq ?_; refine Run.regionW hC (fun K hK => ?_); simp only [AW4, simprocAttr, hX]; (repeat (with_reducible refine And.intro ?_ ?_); exact vc0)
    refine FunA.callW hP hT (c_impl_ReflectionOf c (sq c (redL c w) k)) (by simp only [AW4, simprocAttr]) ?_
    rintro rs o ⟨rfl, rfl⟩
    (try simp only [AW4, simprocAttr, hX]); (repeat (with_reducible refine And.intro ?_ ?_); exact vc0)
    (repeat (with_reducible refine And.intro ?_ ?_); exact vc0); refine hK _ ?_; clear hK K; refine Run.nq ?_
    refine Run.nq ?_; refine Run.regionW hC (fun K hK => ?_); simp only [AW4, simprocAttr, hX]; (repeat (with_reducible refine And.intro ?_ ?_); exact vc0)
    refine .inl (FunA.callG hP hT (c_impl_EqualWords (rflX c (sq c (redL c w) k)) (redL c w) (by omega)) (fun _ => rfl) (fun _ => by simp only [AW4, simprocAttr]) ?_)
    (try simp only [AW4, simprocAttr, hX]); (repeat (with_reducible refine And.intro ?_ ?_); exact vc0)
    (repeat (with_reducible refine And.intro ?_ ?_); exact vc0); refine hK _ ?_; clear hK K; refine Run.nq ?_
    refine Run.nq ?_; refine Run.condW (by simp only [AW4, simprocAttr, hX]; rfl) (by simp only [AW4, simprocAttr, hX]) ?_ ?_
    · intro h5
      have h5 : isRor c (redL c w) k = true := by unfold isRor; revert h5; cases rflB c (sq c (redL c w) k) <;> simp
      obtain ⟨e1, e2⟩ := ror_some (hI.trans (find_some h4 h5 hpre))
      refine Run.nq ?_; refine Run.regionW hC (fun K hK => ?_); simp only [AW4, simprocAttr, hX]; (repeat (with_reducible refine And.intro ?_ ?_); exact vc0); refine hK _ ?_; clear hK K; refine Run.nq ?_
      refine Run.reK hpin [4, 5] [] (by decide) (by simp) ?_; simp only [AR, AW4, simprocAttr]
      refine Run.retW [4, 5] (by decide) (by rw [hfn]; rfl) (by simp only [AW4, simprocAttr, hX]; rfl) (by simp only [AW4, simprocAttr, hX]) (hfin _ _ rfl rfl ?_)
      exact ⟨_, _, _, ⟨e2.symm, by rw [e1]⟩, rfl, rfl, rfl⟩
    · intro h5
      have h5 : isRor c (redL c w) k = false := by unfold isRor; revert h5; cases rflB c (sq c (redL c w) k) <;> simp
      have hp2 : ∀ j, j < k + 1 → isRor c (redL c w) j = false := fun j hj => by
        by_cases hjk : j = k
        · subst hjk; exact h5
        · exact hpre j (by omega)
      refine Run.reK hpin [0, 6, 26, 27, 28] [0, 1] (by decide) (by simp) ?_; simp only [AR, AW4, simprocAttr]
      refine Run.nq ?_; refine Run.regionW hC (fun K hK => ?_); simp (disch := omega) only [wrap_id, AW4, simprocAttr, hX]; (repeat (with_reducible refine And.intro ?_ ?_); exact vc0); refine hK _ ?_; clear hK K; refine Run.nq ?_
      refine Run.le ?_ (ih (k + 1) (⟨by omega, hp2⟩) (by (try simp only [List.length_append, List.length_cons, List.length_nil]); omega))
      exact Le.sub (by rfl) (by simp only [AW4, simprocAttr]; try simp)
  · intro h4
    have h4 : k = (redL c w).length := by simp at h4; omega
    rw [h4] at hpre
    obtain ⟨e1, e2⟩ := ror_none (hI.trans (find_none hpre))
    refine Run.exit rfl ?_; refine Run.nq ?_
    refine Run.nq ?_; refine Run.regionW hC (fun K hK => ?_); simp only [AW4, simprocAttr, hX]; (repeat (with_reducible refine And.intro ?_ ?_); exact vc0); refine hK _ ?_; clear hK K; refine Run.nq ?_
    refine Run.reK hpin [4, 5] [2] (by decide) (by simp) ?_; simp only [AR, AW4, simprocAttr]
    refine Run.tolr 0 [4, 5] rfl (fun q hq => ?_); simp only [AL, frV_cons, frV_nil, AW4, simprocAttr]
    refine Run.reK hpin [4, 5] [] (by decide) (by simp) ?_; simp only [AR, AW4, simprocAttr]
    refine Run.retW [4, 5] (by decide) (by rw [hfn]; rfl) (by simp only [AW4, simprocAttr, hX]; rfl) (by simp only [AW4, simprocAttr, hX]) (hfin _ _ rfl rfl ?_)
    exact ⟨q, [], _, ⟨e2.symm, by rw [e1]⟩, rfl, rfl, rfl⟩

theorem c_spec_RootOfReflection (c : List (List Int)) (w : List Int) (hcl : c.length ≤ 1048576) :
    FunA B 33 [.sl false (.row false) c, .sl false .int w] (fun rs o => rs = [.own 0 0, .bool (rorB c w)] ∧ o = [.arr .int (rorX c w) 0 true]) := by
  refine (FunA.unlr (by rfl) (post := fun xs rest => xs = rorX c w ∧ rest = [.bool (rorB c w)]) ?_).mono fun rs o ⟨xs, rest, ⟨h1, h2⟩, h3, h4⟩ => ⟨by rw [h3, h2], by rw [h4, h1]⟩
  refine FunA.walk B_ok (fn := Try.f33) (fun vs w => Try.call33 vs w) Try.func33 rfl (by rw [Try.ntmps33]; simp) (fun C hC hP hT hΓ hbt hfn hpin hfin => ?_); have hX := BX; rw [← hΓ, ← hbt] at hX; rw [Try.ntmps33]; simp only [AW4, simprocAttr, hX]
  refine Run.nq ?_; refine Run.regionW hC (fun K hK => ?_); simp only [AW4, simprocAttr, hX]; (repeat (with_reducible refine And.intro ?_ ?_); exact vc0); refine hK _ ?_; clear hK K; refine Run.nq ?_
  refine Run.nq ?_; refine Run.regionW hC (fun K hK => ?_); simp only [AW4, simprocAttr, hX]; (repeat (with_reducible refine And.intro ?_ ?_); exact vc0)
  refine FunA.callW hP hT (c_spec_NormalForm c w hcl) (by simp only [AW4, simprocAttr]) ?_
  rintro rs o ⟨rfl, rfl⟩
  (try simp only [AW4, simprocAttr, hX]); (repeat (with_reducible refine And.intro ?_ ?_); exact vc0)
  (repeat (with_reducible refine And.intro ?_ ?_); exact vc0); refine hK _ ?_; clear hK K; refine Run.nq ?_
  refine Run.nq ?_; refine Run.regionW hC (fun K hK => ?_); simp only [AW4, simprocAttr, hX]; (repeat (with_reducible refine And.intro ?_ ?_); exact vc0); refine hK _ ?_; clear hK K; refine Run.nq ?_
  rw [odd_tmod]
  refine Run.nq ?_; refine Run.condW (by simp only [AW4, simprocAttr, hX]; rfl) (by simp only [AW4, simprocAttr, hX]) ?_ ?_
  · intro h
    have h : (wordB c w && decide ((redL c w).length % 2 = 1)) = false := by
      revert h
      cases hwb : wordB c w with
      | false => intro _; rfl
      | true =>
        have e : nfW c w = redL c w := by unfold nfW; rw [if_pos hwb]
        rw [e]; intro h; simpa using h
    obtain ⟨e1, e2⟩ := ror_none (ror_off h)
    refine Run.nq ?_; refine Run.regionW hC (fun K hK => ?_); simp only [AW4, simprocAttr, hX]; (repeat (with_reducible refine And.intro ?_ ?_); exact vc0); refine hK _ ?_; clear hK K; refine Run.nq ?_
    refine Run.reK hpin [4, 5] [1] (by decide) (by simp) ?_; simp only [AR, AW4, simprocAttr]
    refine Run.tolr 0 [4, 5] rfl (fun q hq => ?_); simp only [AL, frV_cons, frV_nil, AW4, simprocAttr]
    refine Run.reK hpin [4, 5] [] (by decide) (by simp) ?_; simp only [AR, AW4, simprocAttr]
    refine Run.retW [4, 5] (by decide) (by rw [hfn]; rfl) (by simp only [AW4, simprocAttr, hX]; rfl) (by simp only [AW4, simprocAttr, hX]) (hfin _ _ rfl rfl ?_)
    exact ⟨q, [], _, ⟨e2.symm, by rw [e1]⟩, rfl, rfl, rfl⟩
  intro h
  have hwb : wordB c w = true := by revert h; cases wordB c w <;> simp
  have e : nfW c w = redL c w := by unfold nfW; rw [if_pos hwb]
  rw [e] at h ⊢
  have h : (wordB c w && decide ((redL c w).length % 2 = 1)) = true := by revert h; rw [hwb]; intro h; simpa using h
  have hI := ror_on h
  have hW := wordB_iff.1 hwb
  obtain ⟨hc, h2, h3⟩ := hW
  have hn := hc.2.1
  obtain ⟨a1, a2, a3, a4, a5⟩ := red_spec hc h3 (by omega)
  have hWx : WordP c (redL c w) := ⟨hc, by omega, a1⟩
  refine Run.nq ?_; refine Run.regionW hC (fun K hK => ?_); simp only [AW4, simprocAttr, hX]; (repeat (with_reducible refine And.intro ?_ ?_); exact vc0)
  refine FunA.callW hP hT (c_spec_RootSequence c (redL c w) hWx) (by simp only [AW4, simprocAttr]) ?_
  rintro rs o ⟨rfl, ys, hy, rfl⟩
  have hyl : ys.length = (redL c w).length := by have := congrArg List.length hy; simpa [seqL] using this
  (try simp only [AW4, simprocAttr, hX]); (repeat (with_reducible refine And.intro ?_ ?_); exact vc0)
  (repeat (with_reducible refine And.intro ?_ ?_); exact vc0); refine hK _ ?_; clear hK K; refine Run.nq ?_
  refine Run.nq ?_; refine Run.regionW hC (fun K hK => ?_); simp only [AW4, simprocAttr, hX]; (repeat (with_reducible refine And.intro ?_ ?_); exact vc0); refine hK _ ?_; clear hK K; refine Run.nq ?_
  refine Run.reK hpin [0, 6, 8, 9] [0, 1] (by decide) (by simp) ?_; simp only [AR, AW4, simprocAttr]
  refine Run.loopI (X := Nat) (fun k => ⟨56, [(0, true, .v (.sl false (.row false) (c))), (6, true, .v (.own 0 0)), (8, true, .v (.own 1 0)), (9, true, .v (.int .i64 (k)))], [.arr .int ((redL c w)) 0 true, .arr .lrow (ys) 0 true]⟩) (fun k => k ≤ (redL c w).length ∧ ∀ j, j < k → isRor c (redL c w) j = false) (fun k => (redL c w).length - k) (0) (⟨Nat.zero_le _, by omega⟩) ?_ ?_
  · exact Le.sub (by first | rfl | simp) (by simp only [AW4, simprocAttr, hX]; try simp <;> try (first | rfl | exact ⟨rfl, rfl⟩ | exact ⟨rfl, rfl, rfl⟩))
  rintro k ⟨hk, hpre⟩ ih
  try simp only []
  refine Run.nq ?_; refine Run.regionW hC (fun K hK => ?_); simp only [AW4, simprocAttr, hX]; (repeat (with_reducible refine And.intro ?_ ?_); exact vc0); refine hK _ ?_; clear hK K; refine Run.nq ?_
  refine Run.nq ?_; refine Run.condW (by simp only [AW4, simprocAttr, hX]; rfl) (by simp only [AW4, simprocAttr, hX]) ?_ ?_
  · intro h4
    have h4 : k < (redL c w).length := by simp at h4; omega
    have hg := ys_get hy h4
    have hxl := rflX_le c (sq c (redL c w) k)
    refine Run.nq ?_; refine Run.regionW hC (fun K hK => ?_); simp only [AW4, simprocAttr, hX]; (repeat (with_reducible refine And.intro ?_ ?_); exact vc0)
    rw [hg]
    refine FunA.callW hP hT (c_spec_ReflectionOf c (sq c (redL c w) k)) (by simp only [AW4, simprocAttr]) ?_
    rintro rs o ⟨rfl, rfl⟩
    (try simp only [AW4, simprocAttr, hX]); (repeat (with_reducible refine And.intro ?_ ?_); exact vc0)
    (repeat (with_reducible refine And.intro ?_ ?_); exact vc0); refine hK _ ?_; clear hK K; refine Run.nq ?_
    refine Run.nq ?_; refine Run.regionW hC (fun K hK => ?_); simp only [AW4, simprocAttr, hX]; (repeat (with_reducible refine And.intro ?_ ?_); exact vc0)
    refine .inl (FunA.callG hP hT (c_spec_EqualWords (rflX c (sq c (redL c w) k)) (redL c w) (by omega)) (fun _ => rfl) (fun _ => by simp only [AW4, simprocAttr]) ?_)
    (try simp only [AW4, simprocAttr, hX]); (repeat (with_reducible refine And.intro ?_ ?_); exact vc0)
    (repeat (with_reducible refine And.intro ?_ ?_); exact vc0); refine hK _ ?_; clear hK K; refine Run.nq ?_
    refine Run.nq ?_; refine Run.condW (by simp only [AW4, simprocAttr, hX]; rfl) (by simp only [AW4, simprocAttr, hX]) ?_ ?_
    · intro h5
      have h5 : isRor c (redL c w) k = true := by unfold isRor; revert h5; cases rflB c (sq c (redL c w) k) <;> simp
      obtain ⟨e1, e2⟩ := ror_some (hI.trans (find_some h4 h5 hpre))
      refine Run.nq ?_; refine Run.regionW hC (fun K hK => ?_); simp only [AW4, simprocAttr, hX]; (repeat (with_reducible refine And.intro ?_ ?_); exact vc0); refine hK _ ?_; clear hK K; refine Run.nq ?_
      rw [hg]
      refine Run.reK hpin [4, 5] [] (by decide) (by simp) ?_; simp only [AR, AW4, simprocAttr]
      refine Run.retW [4, 5] (by decide) (by rw [hfn]; rfl) (by simp only [AW4, simprocAttr, hX]; rfl) (by simp only [AW4, simprocAttr, hX]) (hfin _ _ rfl rfl ?_)
      exact ⟨_, _, _, ⟨e2.symm, by rw [e1]⟩, rfl, rfl, rfl⟩
    · intro h5
      have h5 : isRor c (redL c w) k = false := by unfold isRor; revert h5; cases rflB c (sq c (redL c w) k) <;> simp
      have hp2 : ∀ j, j < k + 1 → isRor c (redL c w) j = false := fun j hj => by
        by_cases hjk : j = k
        · subst hjk; exact h5
        · exact hpre j (by omega)
      refine Run.reK hpin [0, 6, 8, 9] [0, 1] (by decide) (by simp) ?_; simp only [AR, AW4, simprocAttr]
      refine Run.nq ?_; refine Run.regionW hC (fun K hK => ?_); simp (disch := omega) only [wrap_id, AW4, simprocAttr, hX]; (repeat (with_reducible refine And.intro ?_ ?_); exact vc0); refine hK _ ?_; clear hK K; refine Run.nq ?_
      refine Run.le ?_ (ih (k + 1) (⟨by omega, hp2⟩) (by (try simp only [List.length_append, List.length_cons, List.length_nil]); omega))
      exact Le.sub (by rfl) (by simp only [AW4, simprocAttr]; try simp)
  · intro h4
    have h4 : k = (redL c w).length := by simp at h4; omega
    rw [h4] at hpre
    obtain ⟨e1, e2⟩ := ror_none (hI.trans (find_none hpre))
    refine Run.exit rfl ?_; refine Run.nq ?_
    refine Run.nq ?_; refine Run.regionW hC (fun K hK => ?_); simp only [AW4, simprocAttr, hX]; (repeat (with_reducible refine And.intro ?_ ?_); exact vc0); refine hK _ ?_; clear hK K; refine Run.nq ?_
    refine Run.reK hpin [4, 5] [2] (by decide) (by simp) ?_; simp only [AR, AW4, simprocAttr]
    refine Run.tolr 0 [4, 5] rfl (fun q hq => ?_); simp only [AL, frV_cons, frV_nil, AW4, simprocAttr]
    refine Run.reK hpin [4, 5] [] (by decide) (by simp) ?_; simp only [AR, AW4, simprocAttr]
    refine Run.retW [4, 5] (by decide) (by rw [hfn]; rfl) (by simp only [AW4, simprocAttr, hX]; rfl) (by simp only [AW4, simprocAttr, hX]) (hfin _ _ rfl rfl ?_)
    exact ⟨q, [], _, ⟨e2.symm, by rw [e1]⟩, rfl, rfl, rfl⟩
end Go.Proofs.Ytnhiamdnghgboaa
