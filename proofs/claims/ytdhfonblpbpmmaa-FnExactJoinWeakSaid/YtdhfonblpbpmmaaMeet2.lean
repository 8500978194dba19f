/- The longest of what lies below two elements, on both sides. -/
import Derived.Test.YtdhfonblpbpmmaaTwo
set_option linter.unusedVariables false
set_option linter.unusedSimpArgs false
namespace Go.Proofs.Ytdhfonblpbpmmaa
open Go Go.Aw Go.Cox

theorem fewL_iff {R : List Int → Prop} (h : fewB R = true) (z : List Int) : z ∈ fewL R ↔ R z := by
  have h : FewP R := by simpa [fewB] using h
  unfold fewL
  rw [dif_pos h, (srt_spec _).2]
  exact h.choose_spec.2.1 z
theorem preX_iff {c : List (List Int)} {w : List Int} (h : preB c w = true) (z : List Int) : z ∈ preX c w ↔ Pre c (redL c w) z := by
  unfold preB at h
  cases hw : wordB c w with
  | false => rw [hw] at h; cases h
  | true => rw [hw] at h; unfold preX; rw [hw, if_pos rfl]; exact fewL_iff (by simpa using h) z
theorem preX_word {c : List (List Int)} {w z : List Int} (h : z ∈ preX c w) : WordP c z ∧ Nf c z := by
  obtain ⟨hw, hp⟩ := preX_pre h
  have hn := hp.nf (word_nf hw).1
  exact ⟨⟨(wordB_iff.1 hw).1, preX_rows c w z h, hn.1⟩, hn⟩
theorem wkB_red {c : List (List Int)} {l v : List Int} (hv : wordB c v = true) : wkB c l (redL c v) = wkB c l v := by
  obtain ⟨hx, hx15⟩ := word_nf hv
  obtain ⟨hc, h2, h3⟩ := wordB_iff.1 hv
  have hr : wordB c (redL c v) = true := wordB_iff.2 ⟨hc, hx15, hx.1⟩
  unfold wkB
  rw [hv, hr, hx.2.1]
  cases hl : wordB c l with
  | false => rfl
  | true =>
    obtain ⟨_, _, k3⟩ := wordB_iff.1 hl
    rw [weak_same hc k3 k3 rfl (red_spec hc h3 (by omega)).2.2.2.1]
theorem wk_pre {c : List (List Int)} {l v : List Int} (hv : wordB c v = true) (hl : WordP c l) (hn : Nf c l) : wkB c l v = true ↔ Pre c (redL c v) l := by
  obtain ⟨hx, hx15⟩ := word_nf hv
  rw [← wkB_red hv]
  exact wkB_pre hl.1 hx hx15 hn hl.2.1

/-- The longest that is below both. -/
def MeetP (c : List (List Int)) (u v b : List Int) : Prop := b ∈ preX c u ∧ wkB c b v = true ∧ ∀ z ∈ preX c u, wkB c z v = true → z.length ≤ b.length
theorem Pre.same {c : List (List Int)} {x z : List Int} (hx : Nf c x) (h : Pre c x z) (hl : z.length = x.length) : z = x := by
  obtain ⟨_, h2, v, _, h4, h5⟩ := h
  have : v = [] := List.eq_nil_of_length_eq_zero (by omega)
  subst this
  rw [List.append_nil] at h4
  rw [← h2, red_eq h4, hx.2.1]
theorem MeetP.uniq {c : List (List Int)} {u v a b : List Int} (hv : wordB c v = true) (hu : preB c u = true) (ha : MeetP c u v a) (hb : MeetP c u v b) : a = b := by
  obtain ⟨a1, a2, a3⟩ := ha
  obtain ⟨b1, b2, b3⟩ := hb
  obtain ⟨wa, na⟩ := preX_word a1
  obtain ⟨wb, nb⟩ := preX_word b1
  have hc := wa.1
  have hwu := (preX_pre a1).1
  have h := meet_top hc (word_nf hwu).1 (word_nf hv).1 ((preX_iff hu a).1 a1) ((wk_pre hv wa na).1 a2) ((preX_iff hu b).1 b1) ((wk_pre hv wb nb).1 b2) (fun z h1 h2 => by
    have h3 := (preX_iff hu z).2 h1
    obtain ⟨wz, nz⟩ := preX_word h3
    exact a3 z h3 ((wk_pre hv wz nz).2 h2))
  have e : a.length = b.length := Nat.le_antisymm (b3 a a1 a2) (a3 b b1 b2)
  exact (h.same na e.symm).symm
theorem meet_nil {c : List (List Int)} {u v : List Int} (hv : wordB c v = true) (hu : preB c u = true) : [] ∈ preX c u ∧ wkB c [] v = true := by
  have hc := (wordB_iff.1 hv).1
  have hwu : wordB c u = true := by
    unfold preB at hu
    cases hw : wordB c u with
    | false => rw [hw] at hu; cases hu
    | true => rfl
  have h1 : [] ∈ preX c u := (preX_iff hu []).2 (Pre.nil hc (word_nf hwu).1)
  obtain ⟨w0, n0⟩ := preX_word h1
  exact ⟨h1, (wk_pre hv w0 n0).2 (Pre.nil hc (word_nf hv).1)⟩

noncomputable def mtB (c : List (List Int)) (u v : List Int) : Bool := wordB c v && preB c u
open Classical in
noncomputable def mtX (c : List (List Int)) (u v : List Int) : List Int := if h : mtB c u v = true ∧ ∃ b, MeetP c u v b then h.2.choose else []
theorem mtB_iff {c : List (List Int)} {u v : List Int} : mtB c u v = true ↔ wordB c v = true ∧ preB c u = true := by simp [mtB]
theorem mtX_on {c : List (List Int)} {u v b : List Int} (hv : wordB c v = true) (hu : preB c u = true) (h : MeetP c u v b) : mtX c u v = b := by
  have h2 : mtB c u v = true ∧ ∃ b, MeetP c u v b := ⟨mtB_iff.2 ⟨hv, hu⟩, b, h⟩
  unfold mtX
  rw [dif_pos h2]
  exact MeetP.uniq hv hu h2.2.choose_spec h
theorem mtX_off {c : List (List Int)} {u v : List Int} (h : mtB c u v = false) : mtX c u v = [] := by
  unfold mtX
  rw [dif_neg (by rintro ⟨h1, _⟩; rw [h] at h1; cases h1)]
theorem mtX_word {c : List (List Int)} {u v : List Int} : (mtX c u v).length ≤ 15 ∧ (mtB c u v = true → letters c.length (mtX c u v)) := by
  unfold mtX
  split
  · rename_i h
    obtain ⟨h1, _⟩ := h.2.choose_spec
    exact ⟨preX_rows c u _ h1, fun _ => (preX_word h1).1.2.2⟩
  · exact ⟨by simp, fun _ => letters_nil _⟩
theorem strict_len {L : List (List Int)} (h : StrictW L) : ∀ {i j : Nat}, i ≤ j → j < L.length → (L.getD i []).length ≤ (L.getD j []).length := by
  intro i j hij hj
  by_cases e : i = j
  · rw [e]; exact Nat.le_refl _
  have hi : i < L.length := by omega
  have := List.pairwise_iff_getElem.1 h i j hi hj (by omega)
  rw [getD_eq hi, getD_eq hj]
  refine Classical.byContradiction fun hn => ?_
  have h2 := cmp_long (a := L[j]) (b := L[i]) (by omega)
  omega
theorem preX_strict (c : List (List Int)) (w : List Int) : StrictW (preX c w) := by
  unfold preX
  split
  · unfold fewL
    split
    · exact (srt_spec _).1
    · exact StrictW.nil
  · exact StrictW.nil

theorem c_impl_MeetWeak (c : List (List Int)) (u v : List Int) (hcl : c.length ≤ 1048576) :
    FunA B 20 [.sl false (.row false) c, .sl false .int u, .sl false .int v] (fun rs o => rs = [.own 0 0, .bool (mtB c u v)] ∧ o = [.arr .int (mtX c u v) 0 true]) := by
  refine (FunA.unlr (by rfl) (post := fun xs rest => xs = mtX c u v ∧ rest = [.bool (mtB c u v)]) ?_).mono fun rs o ⟨xs, rest, ⟨h1, h2⟩, h3, h4⟩ => ⟨by rw [h3, h2], by rw [h4, h1]⟩
  refine FunA.walk B_ok (fn := Try.f20) (fun vs w => Try.call20 vs w) Try.func20 rfl (by rw [Try.ntmps20]; simp) (fun C hC hP hT hΓ hbt hfn hpin hfin => ?_); have hX := BX; rw [← hΓ, ← hbt.1, ← hbt.2] at hX; rw [Try.ntmps20]; simp only [AW6, simprocAttr, hX]
  refine Run.nq ?_; refine Run.regionW hC (fun K hK => ?_); simp only [AW6, simprocAttr, hX]; (repeat (with_reducible refine And.intro ?_ ?_); exact vc0); refine hK _ ?_; clear hK K; refine Run.nq ?_
  refine Run.nq ?_; refine Run.regionW hC (fun K hK => ?_); simp only [AW6, simprocAttr, hX]; (repeat (with_reducible refine And.intro ?_ ?_); exact vc0)
  refine FunA.callW hP hT (c_impl_IsWord c v) (by simp only [AW6, simprocAttr]) ?_
  rintro rs o ⟨rfl, rfl⟩
  (try simp only [AW6, simprocAttr, hX]); (repeat (with_reducible refine And.intro ?_ ?_); exact vc0)
  (repeat (with_reducible refine And.intro ?_ ?_); exact vc0); refine hK _ ?_; clear hK K; refine Run.nq ?_
  refine Run.nq ?_; refine Run.condW (by simp only [AW6, simprocAttr, hX]; rfl) (by simp only [AW6, simprocAttr, hX]) ?_ ?_
  · intro h
    have h : wordB c v = false := by simpa using h
    have e1 : mtB c u v = false := by simp [mtB, h]
    refine Run.nq ?_; refine Run.regionW hC (fun K hK => ?_); simp only [AW6, simprocAttr, hX]; (repeat (with_reducible refine And.intro ?_ ?_); exact vc0); refine hK _ ?_; clear hK K; refine Run.nq ?_
    refine Run.reK hpin [6, 7] [0] (by decide) (by simp) ?_; simp only [AR, AW6, simprocAttr]
    refine Run.tolr 0 [6, 7] rfl (fun q hq => ?_); simp only [AL, frV_cons, frV_nil, AW6, simprocAttr]
    refine Run.reK hpin [6, 7] [] (by decide) (by simp) ?_; simp only [AR, AW6, simprocAttr]
    refine Run.retW [6, 7] (by decide) (by rw [hfn]; rfl) (by simp only [AW6, simprocAttr, hX]; rfl) (by simp only [AW6, simprocAttr, hX]) (hfin _ _ rfl rfl ?_)
    exact ⟨q, [], _, ⟨(mtX_off e1).symm, by rw [e1]⟩, rfl, rfl, rfl⟩
  intro h
  have hv : wordB c v = true := by simpa using h
  refine Run.nq ?_; refine Run.regionW hC (fun K hK => ?_); simp only [AW6, simprocAttr, hX]; (repeat (with_reducible refine And.intro ?_ ?_); exact vc0)
  refine FunA.callW hP hT (c_impl_PrefixesOfR c u hcl) (by simp only [AW6, simprocAttr]) ?_
  rintro rs o ⟨ys, g, nn, rest, ⟨hys, rfl, rfl⟩, hnd, _, rfl, rfl⟩
  (try simp only [AW6, simprocAttr, hX]); (repeat (with_reducible refine And.intro ?_ ?_); exact vc0)
  (repeat (with_reducible refine And.intro ?_ ?_); exact vc0); refine hK _ ?_; clear hK K; refine Run.nq ?_
  refine Run.nq ?_; refine Run.regionW hC (fun K hK => ?_); simp only [AW6, simprocAttr, hX]; (repeat (with_reducible refine And.intro ?_ ?_); exact vc0); refine hK _ ?_; clear hK K; refine Run.nq ?_
  refine Run.nq ?_; refine Run.condW (by simp only [AW6, simprocAttr, hX]; rfl) (by simp only [AW6, simprocAttr, hX]) ?_ ?_
  · intro h
    have h : preB c u = false := by simpa using h
    have e1 : mtB c u v = false := by simp [mtB, h]
    refine Run.nq ?_; refine Run.regionW hC (fun K hK => ?_); simp only [AW6, simprocAttr, hX]; (repeat (with_reducible refine And.intro ?_ ?_); exact vc0); refine hK _ ?_; clear hK K; refine Run.nq ?_
    refine Run.reK hpin [6, 7] [1] (by decide) (by simp) ?_; simp only [AR, AW6, simprocAttr]
    refine Run.tolr 0 [6, 7] rfl (fun q hq => ?_); simp only [AL, frV_cons, frV_nil, AW6, simprocAttr]
    refine Run.reK hpin [6, 7] [] (by decide) (by simp) ?_; simp only [AR, AW6, simprocAttr]
    refine Run.retW [6, 7] (by decide) (by rw [hfn]; rfl) (by simp only [AW6, simprocAttr, hX]; rfl) (by simp only [AW6, simprocAttr, hX]) (hfin _ _ rfl rfl ?_)
    exact ⟨q, [], _, ⟨(mtX_off e1).symm, by rw [e1]⟩, rfl, rfl, rfl⟩
  intro h
  have hu : preB c u = true := by simpa using h
  have hmB := mtB_iff.2 ⟨hv, hu⟩
  have hlen := preX_len c u
  rw [← hys, rwl] at hlen
  refine Run.nq ?_; refine Run.regionW hC (fun K hK => ?_); simp (disch := omega) only [wrap_id, AW6, simprocAttr, hX]; (repeat (with_reducible refine And.intro ?_ ?_); exact vc0); refine hK _ ?_; clear hK K; refine Run.nq ?_
  refine Run.reK hpin [0, 2, 8, 10] [0] (by decide) (by simp) ?_; simp only [AR, AW6, simprocAttr]
  refine Run.loopI (X := Nat) (fun k => ⟨44, [(0, true, .v (.sl false (.row false) (c))), (2, true, .v (.sl false .int (v))), (8, true, .v (.own 0 0)), (10, true, .v (.int .i64 (((k : Int) - 1))))], [.arr .lrow (ys) 0 true]⟩) (fun k => k ≤ ys.length ∧ ∀ j, k ≤ j → j < ys.length → wkB c ((rw2 ys).getD j []) v = false) (fun k => k) (ys.length) (⟨Nat.le_refl _, fun j h1 h2 => by omega⟩) ?_ ?_
  · exact Le.sub (by first | rfl | simp) (by simp only [AW6, simprocAttr, hX]; try simp <;> try (first | rfl | exact ⟨rfl, rfl⟩ | exact ⟨rfl, rfl, rfl⟩))
  rintro k ⟨hk, hno⟩ ih
  try simp only []
  refine Run.nq ?_; refine Run.regionW hC (fun K hK => ?_); simp only [AW6, simprocAttr, hX]; (repeat (with_reducible refine And.intro ?_ ?_); exact vc0); refine hK _ ?_; clear hK K; refine Run.nq ?_
  refine Run.nq ?_; refine Run.condW (by simp only [AW6, simprocAttr, hX]; rfl) (by simp only [AW6, simprocAttr, hX]) ?_ ?_
  rotate_left
  · intro h2
    exfalso
    have h2 : k = 0 := by rw [decide_eq_false_iff_not] at h2; omega
    obtain ⟨n1, n2⟩ := meet_nil hv hu
    rw [← hys] at n1
    obtain ⟨j, hj, e⟩ := mem_rw2_iff.1 n1
    have := hno j (by omega) hj
    rw [← rwg, e, n2] at this
    cases this
  intro h2
  have h2 : 0 < k := by rw [decide_eq_true_eq] at h2; omega
  obtain ⟨m, rfl⟩ : ∃ m, k = m + 1 := ⟨k - 1, by omega⟩
  have hm : m < ys.length := by omega
  have hin : (rw2 ys).getD m [] ∈ preX c u := by rw [← hys, ← rwg]; exact mem_rw2 hm
  obtain ⟨wz, nz⟩ := preX_word hin
  have hgz := rwg ys m
  have ek : ((m + 1 : Nat) : Int) - 1 = (m : Int) := by omega
  rw [ek]
  generalize hgx : (ys.getD m (0, [])).2 = z at *
  refine Run.nq ?_; refine Run.regionW hC (fun K hK => ?_); simp only [AW6, simprocAttr, hX]; (repeat (with_reducible refine And.intro ?_ ?_); exact vc0)
  simp only [Int.toNat_natCast, hgx]
  refine FunA.callW hP hT (c_impl_weakBelow c z v (by rw [hgz]; exact wz) (wordB_iff.1 hv)) (by simp only [AW6, simprocAttr]) ?_
  rintro rs o ⟨rfl, rfl⟩
  (try simp only [AW6, simprocAttr, hX]); (repeat (with_reducible refine And.intro ?_ ?_); exact vc0)
  (repeat (with_reducible refine And.intro ?_ ?_); exact vc0); refine hK _ ?_; clear hK K; refine Run.nq ?_
  refine Run.nq ?_; refine Run.condW (by simp only [AW6, simprocAttr, hX]; rfl) (by simp only [AW6, simprocAttr, hX]) ?_ ?_
  · intro h3
    have h3 : wkB c z v = true := h3
    have hM : MeetP c u v z := by
      refine ⟨by rw [hgz]; exact hin, h3, fun t ht hwt => ?_⟩
      rw [← hys] at ht
      obtain ⟨j, hj, e⟩ := mem_rw2_iff.1 ht
      have hjm : j ≤ m := by
        refine Classical.byContradiction fun hn => ?_
        have := hno j (by omega) hj
        rw [← rwg, e, hwt] at this
        cases this
      have hst := preX_strict c u
      rw [← hys] at hst
      have := strict_len hst hjm (by rw [rwl]; exact hm)
      rw [← rwg ys j, e, ← hgz] at this
      exact this
    refine Run.nq ?_; refine Run.regionW hC (fun K hK => ?_); simp only [AW6, simprocAttr, hX]; (repeat (with_reducible refine And.intro ?_ ?_); exact vc0); refine hK _ ?_; clear hK K; refine Run.nq ?_
    simp only [Int.toNat_natCast, hgx]
    refine Run.reK hpin [6, 7] [] (by decide) (by simp) ?_; simp only [AR, AW6, simprocAttr]
    refine Run.retW [6, 7] (by decide) (by rw [hfn]; rfl) (by simp only [AW6, simprocAttr, hX]; rfl) (by simp only [AW6, simprocAttr, hX]) (hfin _ _ rfl rfl ?_)
    exact ⟨_, z, _, ⟨(mtX_on hv hu hM).symm, by rw [hmB]⟩, rfl, rfl, rfl⟩
  intro h3
  have h3 : wkB c z v = false := h3
  refine Run.reK hpin [0, 2, 8, 10] [0] (by decide) (by simp) ?_; simp only [AR, AW6, simprocAttr]
  refine Run.nq ?_; refine Run.regionW hC (fun K hK => ?_); simp (disch := omega) only [wrap_id, AW6, simprocAttr, hX]; (repeat (with_reducible refine And.intro ?_ ?_); exact vc0); refine hK _ ?_; clear hK K; refine Run.nq ?_
  refine Run.le ?_ (ih (m) (⟨by omega, fun j h4 h5 => by
      by_cases e : j = m
      · rw [e, ← hgz]; exact h3
      · exact hno j (by omega) h5⟩) (by (try simp only [List.length_append, List.length_cons, List.length_nil]); omega))
  exact Le.sub (by rfl) (by simp only [AW6, simprocAttr]; try simp)

theorem c_spec_MeetWeak (c : List (List Int)) (u v : List Int) (hcl : c.length ≤ 1048576) :
    FunA B 19 [.sl false (.row false) c, .sl false .int u, .sl false .int v] (fun rs o => rs = [.own 0 0, .bool (mtB c u v)] ∧ o = [.arr .int (mtX c u v) 0 true]) := by
  refine FunA.walk B_ok (fn := Try.f19) (fun vs w => Try.call19 vs w) Try.func19 rfl (by rw [Try.ntmps19]; simp) (fun C hC hP hT hΓ hbt hfn hpin hfin => ?_); have hX := BX; rw [← hΓ, ← hbt.1, ← hbt.2] at hX; rw [Try.ntmps19]; simp only [AW6, simprocAttr, hX]
  refine Run.nq ?_; refine Run.regionW hC (fun K hK => ?_); simp only [AW6, simprocAttr, hX]; (repeat (with_reducible refine And.intro ?_ ?_); exact vc0); refine hK _ ?_; clear hK K; refine Run.nq ?_
  refine Run.nq ?_; refine Run.regionW hC (fun K hK => ?_); simp only [AW6, simprocAttr, hX]; (repeat (with_reducible refine And.intro ?_ ?_); exact vc0)
  refine FunA.callW hP hT (c_spec_PrefixesOfR c u hcl) (by simp only [AW6, simprocAttr]) ?_
  rintro rs o ⟨ys, g, nn, rest, ⟨hys, rfl, rfl⟩, hnd, _, rfl, rfl⟩
  (try simp only [AW6, simprocAttr, hX]); (repeat (with_reducible refine And.intro ?_ ?_); exact vc0)
  (repeat (with_reducible refine And.intro ?_ ?_); exact vc0); refine hK _ ?_; clear hK K; refine Run.nq ?_
  refine Run.nq ?_; refine Run.regionW hC (fun K hK => ?_); simp only [AW6, simprocAttr, hX]; (repeat (with_reducible refine And.intro ?_ ?_); exact vc0)
  refine .inl (FunA.callG hP hT (c_spec_IsWord c v hcl) (fun _ => rfl) (fun _ => by simp only [AW6, simprocAttr]) ?_)
  (try simp only [AW6, simprocAttr, hX]); (repeat (with_reducible refine And.intro ?_ ?_); exact vc0)
  (repeat (with_reducible refine And.intro ?_ ?_); exact vc0); refine hK _ ?_; clear hK K; refine Run.nq ?_
  refine Run.nq ?_; refine Run.condW (by simp only [AW6, simprocAttr, hX]; rfl) (by simp only [AW6, simprocAttr, hX]) ?_ ?_
  · intro h
    have e1 : mtB c u v = false := by
      revert h
      cases hp : preB c u <;> cases hw : wordB c v <;> simp [mtB, hp, hw]
    refine Run.nq ?_; refine Run.regionW hC (fun K hK => ?_); simp only [AW6, simprocAttr, hX]; (repeat (with_reducible refine And.intro ?_ ?_); exact vc0); refine hK _ ?_; clear hK K; refine Run.nq ?_
    refine Run.reK hpin [6, 7] [1] (by decide) (by simp) ?_; simp only [AR, AW6, simprocAttr]
    refine Run.retW [6, 7] (by decide) (by rw [hfn]; rfl) (by simp only [AW6, simprocAttr, hX]; rfl) (by simp only [AW6, simprocAttr, hX]) (hfin _ _ rfl rfl ?_)
    rw [mtX_off e1, e1]
    exact ⟨rfl, rfl⟩
  intro h
  have hu : preB c u = true := by revert h; cases hp : preB c u <;> simp
  have hv : wordB c v = true := by revert h; cases hw : wordB c v <;> simp [hu]
  have hmB := mtB_iff.2 ⟨hv, hu⟩
  have hlen := preX_len c u
  rw [← hys, rwl] at hlen
  obtain ⟨n1, n2⟩ := meet_nil hv hu
  refine Run.nq ?_; refine Run.regionW hC (fun K hK => ?_); simp only [AW6, simprocAttr, hX]; (repeat (with_reducible refine And.intro ?_ ?_); exact vc0); refine hK _ ?_; clear hK K; refine Run.nq ?_
  refine Run.reK hpin [0, 2, 8, 10] [0, 1] (by decide) (by simp) ?_; simp only [AR, AW6, simprocAttr]
  refine Run.tolr 1 [0, 2, 8, 10] rfl (fun q hq => ?_); simp only [AL, frV_cons, frV_nil, AW6, simprocAttr]
  refine Run.nq ?_; refine Run.regionW hC (fun K hK => ?_); simp only [AW6, simprocAttr, hX]; (repeat (with_reducible refine And.intro ?_ ?_); exact vc0); refine hK _ ?_; clear hK K; refine Run.nq ?_
  refine Run.reK hpin [0, 2, 8, 10, 11] [0] (by decide) (by simp) ?_; simp only [AR, AW6, simprocAttr]
  refine Run.loopI (X := Nat × Nat × List Int) (fun s => ⟨58, [(0, true, .v (.sl false (.row false) (c))), (2, true, .v (.sl false .int (v))), (8, true, .v (.own 0 0)), (10, true, .v (.lr s.2.1 s.2.2)), (11, true, .v (.int .i64 (s.1)))], [.arr .lrow (ys) 0 true]⟩) (fun s => s.1 ≤ ys.length ∧ s.2.2 ∈ preX c u ∧ wkB c s.2.2 v = true ∧ ∀ j, j < s.1 → wkB c ((rw2 ys).getD j []) v = true → ((rw2 ys).getD j []).length ≤ s.2.2.length) (fun s => ys.length - s.1) ((0, q, [])) (⟨Nat.zero_le _, n1, n2, fun j h1 => by omega⟩) ?_ ?_
  · exact Le.sub (by first | rfl | simp) (by simp only [AW6, simprocAttr, hX]; try simp <;> try (first | rfl | exact ⟨rfl, rfl⟩ | exact ⟨rfl, rfl, rfl⟩))
  rintro ⟨k, p, b⟩ ⟨hk, hb1, hb2, hb3⟩ ih
  try simp only []
  simp only [] at hk hb1 hb2 hb3
  have hbl := preX_rows c u _ hb1
  refine Run.nq ?_; refine Run.regionW hC (fun K hK => ?_); simp only [AW6, simprocAttr, hX]; (repeat (with_reducible refine And.intro ?_ ?_); exact vc0); refine hK _ ?_; clear hK K; refine Run.nq ?_
  refine Run.nq ?_; refine Run.condW (by simp only [AW6, simprocAttr, hX]; rfl) (by simp only [AW6, simprocAttr, hX]) ?_ ?_
  rotate_left
  · intro h2
    have h2 : k = ys.length := by rw [decide_eq_false_iff_not] at h2; omega
    have hM : MeetP c u v b := by
      refine ⟨hb1, hb2, fun t ht hwt => ?_⟩
      rw [← hys] at ht
      obtain ⟨j, hj, e⟩ := mem_rw2_iff.1 ht
      rw [rwg] at e
      have := hb3 j (by omega) (by rw [e]; exact hwt)
      rw [e] at this
      exact this
    refine Run.exit rfl ?_; refine Run.nq ?_
    refine Run.nq ?_; refine Run.regionW hC (fun K hK => ?_); simp only [AW6, simprocAttr, hX]; (repeat (with_reducible refine And.intro ?_ ?_); exact vc0); refine hK _ ?_; clear hK K; refine Run.nq ?_
    refine Run.reK hpin [6, 7] [1] (by decide) (by simp) ?_; simp only [AR, AW6, simprocAttr]
    refine Run.retW [6, 7] (by decide) (by rw [hfn]; rfl) (by simp only [AW6, simprocAttr, hX]; rfl) (by simp only [AW6, simprocAttr, hX]) (hfin _ _ rfl rfl ?_)
    rw [mtX_on hv hu hM, hmB]
    exact ⟨rfl, rfl⟩
  intro h2
  have h2 : k < ys.length := by rw [decide_eq_true_eq] at h2; omega
  have hin : (rw2 ys).getD k [] ∈ preX c u := by rw [← hys, ← rwg]; exact mem_rw2 h2
  obtain ⟨wz, nz⟩ := preX_word hin
  have hgz := rwg ys k
  generalize hgx : (ys.getD k (0, [])).2 = z at *
  refine Run.nq ?_; refine Run.regionW hC (fun K hK => ?_); simp only [AW6, simprocAttr, hX]; (repeat (with_reducible refine And.intro ?_ ?_); exact vc0)
  simp only [Int.toNat_natCast, hgx]
  refine .inl (FunA.callG hP hT (c_spec_IsWeakBelow c z v hcl) (fun _ => rfl) (fun _ => by simp only [AW6, simprocAttr]) ?_)
  (try simp only [AW6, simprocAttr, hX]); (repeat (with_reducible refine And.intro ?_ ?_); exact vc0)
  (repeat (with_reducible refine And.intro ?_ ?_); exact vc0); refine hK _ ?_; clear hK K; refine Run.nq ?_
  refine Run.nq ?_; refine Run.condW (by simp only [AW6, simprocAttr, hX]; rfl) (by simp only [AW6, simprocAttr, hX]) ?_ ?_
  · intro h3
    have h3 : b.length < z.length ∧ wkB c z v = true := by
      by_cases e : (b.length : Int) < z.length
      · rw [decide_eq_true e] at h3
        exact ⟨by omega, h3⟩
      · rw [decide_eq_false e] at h3; cases h3
    refine Run.nq ?_; refine Run.regionW hC (fun K hK => ?_); simp only [AW6, simprocAttr, hX]; (repeat (with_reducible refine And.intro ?_ ?_); exact vc0); refine hK _ ?_; clear hK K; refine Run.nq ?_
    simp only [Int.toNat_natCast, hgx]
    refine Run.reK hpin [0, 2, 8, 10, 11] [0] (by decide) (by simp) ?_; simp only [AR, AW6, simprocAttr]
    refine Run.nq ?_; refine Run.regionW hC (fun K hK => ?_); simp (disch := omega) only [wrap_id, AW6, simprocAttr, hX]; (repeat (with_reducible refine And.intro ?_ ?_); exact vc0); refine hK _ ?_; clear hK K; refine Run.nq ?_
    refine Run.le ?_ (ih ((k + 1, (ys.getD k (0, [])).1, z)) (⟨h2, by rw [hgz]; exact hin, h3.2, fun j h4 h5 => by
      simp only [] at h4 ⊢
      by_cases e : j = k
      · rw [e, hgz]; exact Nat.le_refl _
      · have := hb3 j (by omega) h5; omega⟩) (by (try simp only [List.length_append, List.length_cons, List.length_nil]); omega))
    exact Le.sub (by rfl) (by simp only [AW6, simprocAttr]; try simp)
  intro h3
  refine Run.reK hpin [0, 2, 8, 10, 11] [0] (by decide) (by simp) ?_; simp only [AR, AW6, simprocAttr]
  refine Run.nq ?_; refine Run.regionW hC (fun K hK => ?_); simp (disch := omega) only [wrap_id, AW6, simprocAttr, hX]; (repeat (with_reducible refine And.intro ?_ ?_); exact vc0); refine hK _ ?_; clear hK K; refine Run.nq ?_
  refine Run.le ?_ (ih ((k + 1, p, b)) (⟨h2, hb1, hb2, fun j h4 h5 => by
      simp only [] at h4 ⊢
      by_cases e : j = k
      · rw [e, ← hgz] at h5 ⊢
        by_cases e2 : (b.length : Int) < z.length
        · rw [decide_eq_true e2, h5] at h3; cases h3
        · omega
      · exact hb3 j (by omega) h5⟩) (by (try simp only [List.length_append, List.length_cons, List.length_nil]); omega))
  exact Le.sub (by rfl) (by simp only [AW6, simprocAttr]; try simp)
end Go.Proofs.Ytdhfonblpbpmmaa
