/- Star products of words, of a word and a letter, of two words. -/
import Derived.Test.YtbeeblhmgpgkjaaStar
set_option linter.unusedVariables false
set_option linter.unusedSimpArgs false
namespace Go.Proofs.Ytbeeblhmgpgkjaa
open Go Go.Aw Go.Cox

noncomputable def starWo (c : List (List Int)) (w : List Int) : List Int := if wordB c w then starW c [] w else []
theorem starW_len {c : List (List Int)} (hc : CartanP c) {out w : List Int} (ho : Red c out) (hw : letters c.length w) (hl : out.length + w.length ≤ 31) : (starW c out w).length ≤ out.length + w.length := (starW_Red hc w hw ho hl).2.1
theorem starWo_le (c : List (List Int)) (w : List Int) : (starWo c w).length ≤ 31 := by
  unfold starWo
  split
  · rename_i h
    obtain ⟨h1, h2, h3⟩ := wordB_iff.1 h
    have := starW_len h1 (Red.nil c) h3 (by simp; omega)
    simp at this
    omega
  · simp

theorem c_spec_StarWord (c : List (List Int)) (w : List Int) (hcl : c.length ≤ 1048576) :
    FunA B 24 [.sl false (.row false) c, .sl false .int w] (fun rs o => rs = [.own 0 0, .bool (wordB c w)] ∧ o = [.arr .int (starWo c w) 0 true]) := by
  refine FunA.walk B_ok (fn := Try.f24) (fun vs w => Try.call24 vs w) Try.func24 rfl (by rw [Try.ntmps24]; simp) (fun C hC hP hT hΓ hbt hfn hpin hfin => ?_); have hX := BX; rw [← hΓ, ← hbt] at hX; rw [Try.ntmps24]; simp only [AW4, simprocAttr, hX]
  refine Run.nq ?_; refine Run.regionW hC (fun K hK => ?_); simp only [AW4, simprocAttr, hX]; (repeat (with_reducible refine And.intro ?_ ?_); exact vc0); refine hK _ ?_; clear hK K; refine Run.nq ?_
  refine Run.nq ?_; refine Run.regionW hC (fun K hK => ?_); simp only [AW4, simprocAttr, hX]; (repeat (with_reducible refine And.intro ?_ ?_); exact vc0)
  refine FunA.callW hP hT (c_spec_IsWord c w hcl) (by simp only [AW4, simprocAttr]) ?_
  rintro rs o ⟨rfl, rfl⟩
  (try simp only [AW4, simprocAttr, hX]); (repeat (with_reducible refine And.intro ?_ ?_); exact vc0)
  (repeat (with_reducible refine And.intro ?_ ?_); exact vc0); refine hK _ ?_; clear hK K; refine Run.nq ?_
  refine Run.nq ?_; refine Run.condW (by simp only [AW4, simprocAttr, hX]; rfl) (by simp only [AW4, simprocAttr, hX]) ?_ ?_
  · intro hb
    have hb : wordB c w = false := by simpa using hb
    refine Run.nq ?_; refine Run.regionW hC (fun K hK => ?_); simp only [AW4, simprocAttr, hX]; (repeat (with_reducible refine And.intro ?_ ?_); exact vc0); refine hK _ ?_; clear hK K; refine Run.nq ?_
    refine Run.retW [4, 5] (by decide) (by rw [hfn]; rfl) (by simp only [AW4, simprocAttr, hX]; rfl) (by simp only [AW4, simprocAttr, hX]) (hfin _ _ rfl rfl ?_)
    simp [starWo, hb]
  · intro hb
    have hb : wordB c w = true := by simpa using hb
    obtain ⟨hc, h2, h3⟩ := wordB_iff.1 hb
    refine Run.nq ?_; refine Run.regionW hC (fun K hK => ?_); simp only [AW4, simprocAttr, hX]; (repeat (with_reducible refine And.intro ?_ ?_); exact vc0)
    refine FunM.call hP hT (c_spec_l20Star c [] w true hc (Red.nil c) h3 (by simp; omega)) 0 0 (by simp only [AW4, simprocAttr]; rfl) (by simp) rfl (by simp only [AW4, simprocAttr]; try simp) ?_
    rintro rs o o2 (⟨rfl, h, e⟩ | ⟨rfl, h⟩)
    · obtain ⟨rfl, rfl⟩ := List.cons.inj h
      (try simp only [AW4, simprocAttr, hX]); (repeat (with_reducible refine And.intro ?_ ?_); exact vc0)
      (repeat (with_reducible refine And.intro ?_ ?_); exact vc0); refine hK _ ?_; clear hK K; refine Run.nq ?_
      refine Run.retW [4, 5] (by decide) (by rw [hfn]; rfl) (by simp only [AW4, simprocAttr, hX]; rfl) (by simp only [AW4, simprocAttr, hX]) (hfin _ _ rfl rfl ?_)
      simp [starWo, hb, e]
    · obtain ⟨rfl, rfl⟩ := List.cons.inj h
      (try simp only [AW4, simprocAttr, hX]); (repeat (with_reducible refine And.intro ?_ ?_); exact vc0)
      (repeat (with_reducible refine And.intro ?_ ?_); exact vc0); refine hK _ ?_; clear hK K; refine Run.nq ?_
      refine Run.le (Le.re (obs' := [.arr .int (starWo c w) 0 true]) hpin [1] [(4, true, .own 0 0), (5, true, .bool true)] rfl (by simp [leOs, leO_arr, oAt, starWo, hb]) (by refine ⟨⟨_, rfl, ?_⟩, ⟨_, rfl, ?_⟩, trivial⟩ <;> simp [leAV, oAt, genO, starWo, hb])) ?_; simp only [frV_cons, frV_nil]
      refine Run.retW [4, 5] (by decide) (by rw [hfn]; rfl) (by simp only [AW4, simprocAttr, hX]; rfl) (by simp only [AW4, simprocAttr, hX]) (hfin _ _ rfl rfl ?_)
      simp [hb]

theorem c_impl_StarWord (c : List (List Int)) (w : List Int) (hcl : c.length ≤ 1048576) :
    FunA B 25 [.sl false (.row false) c, .sl false .int w] (fun rs o => rs = [.own 0 0, .bool (wordB c w)] ∧ o = [.arr .int (starWo c w) 0 true]) := by
  refine FunA.walk B_ok (fn := Try.f25) (fun vs w => Try.call25 vs w) Try.func25 rfl (by rw [Try.ntmps25]; simp) (fun C hC hP hT hΓ hbt hfn hpin hfin => ?_); have hX := BX; rw [← hΓ, ← hbt] at hX; rw [Try.ntmps25]; simp only [AW4, simprocAttr, hX]
  refine Run.nq ?_; refine Run.regionW hC (fun K hK => ?_); simp only [AW4, simprocAttr, hX]; (repeat (with_reducible refine And.intro ?_ ?_); exact vc0); refine hK _ ?_; clear hK K; refine Run.nq ?_
  refine Run.nq ?_; refine Run.regionW hC (fun K hK => ?_); simp only [AW4, simprocAttr, hX]; (repeat (with_reducible refine And.intro ?_ ?_); exact vc0)
  refine FunA.callW hP hT (c_impl_IsWord c w) (by simp only [AW4, simprocAttr]) ?_
  rintro rs o ⟨rfl, rfl⟩
  (try simp only [AW4, simprocAttr, hX]); (repeat (with_reducible refine And.intro ?_ ?_); exact vc0)
  (repeat (with_reducible refine And.intro ?_ ?_); exact vc0); refine hK _ ?_; clear hK K; refine Run.nq ?_
  refine Run.nq ?_; refine Run.condW (by simp only [AW4, simprocAttr, hX]; rfl) (by simp only [AW4, simprocAttr, hX]) ?_ ?_
  · intro hb
    have hb : wordB c w = false := by simpa using hb
    refine Run.nq ?_; refine Run.regionW hC (fun K hK => ?_); simp only [AW4, simprocAttr, hX]; (repeat (with_reducible refine And.intro ?_ ?_); exact vc0); refine hK _ ?_; clear hK K; refine Run.nq ?_
    refine Run.retW [4, 5] (by decide) (by rw [hfn]; rfl) (by simp only [AW4, simprocAttr, hX]; rfl) (by simp only [AW4, simprocAttr, hX]) (hfin _ _ rfl rfl ?_)
    simp [starWo, hb]
  · intro hb
    have hb : wordB c w = true := by simpa using hb
    obtain ⟨hc, h2, h3⟩ := wordB_iff.1 hb
    refine Run.nq ?_; refine Run.regionW hC (fun K hK => ?_); simp only [AW4, simprocAttr, hX]; (repeat (with_reducible refine And.intro ?_ ?_); exact vc0); refine hK _ ?_; clear hK K; refine Run.nq ?_
    refine Run.nq ?_; refine Run.regionW hC (fun K hK => ?_); simp only [AW4, simprocAttr, hX]; (repeat (with_reducible refine And.intro ?_ ?_); exact vc0); refine hK _ ?_; clear hK K; refine Run.nq ?_
    refine Run.loopI (X := Nat) (fun i => ⟨27, [(0, true, .v (.sl false (.row false) c)), (4, true, .v .nils), (5, true, .v (.bool false)), (6, true, .v (.own 0 0)), (15, true, .v (.sl false .int w)), (16, true, .v (.int .i64 w.length)), (17, true, .v (.int .i64 i))], [.arr .int (starW c [] (w.take i)) 0 true]⟩) (fun i => i ≤ w.length) (fun i => w.length - i) 0 (Nat.zero_le _) ?_ ?_
    · exact Le.sub (by rfl) (by simp only [AW4, simprocAttr, hX]; try simp)
    rintro i hi ih
    obtain ⟨hR, hR2, hR3⟩ := starW_Red hc (w.take i) (letters_take h3 i) (Red.nil c) (by simp; omega)
    refine Run.nq ?_; refine Run.regionW hC (fun K hK => ?_); simp only [AW4, simprocAttr, hX]; (repeat (with_reducible refine And.intro ?_ ?_); exact vc0); refine hK _ ?_; clear hK K; refine Run.nq ?_
    refine Run.nq ?_; refine Run.condW (by simp only [AW4, simprocAttr, hX]; rfl) (by simp only [AW4, simprocAttr, hX]) ?_ ?_
    · intro h
      have h : i < w.length := by simpa using h
      have hlet := letters_getD.1 h3 i h
      have hRl : (starW c [] (w.take i)).length ≤ 30 := by simp at hR2; omega
      have hsn : starW c [] (w.take (i + 1)) = starL c (starW c [] (w.take i)) (w.getD i 0) := by rw [← take_snoc 0 w i h, starW_snoc]
      refine Run.nq ?_; refine Run.regionW hC (fun K hK => ?_); simp only [AW4, simprocAttr, hX]; (repeat (with_reducible refine And.intro ?_ ?_); exact vc0); refine hK _ ?_; clear hK K; refine Run.nq ?_
      refine Run.nq ?_; refine Run.regionW hC (fun K hK => ?_); simp only [AW4, simprocAttr, hX]; (repeat (with_reducible refine And.intro ?_ ?_); exact vc0)
      refine FunM.call hP hT (c_impl_starred c (starW c [] (w.take i)) (w.getD i 0) true hc hR hRl hlet) 0 0 (by simp only [AW4, simprocAttr]; rfl) (by simp) rfl (by simp only [AW4, simprocAttr]; try simp) ?_
      rintro rs o o2 (⟨rfl, h4, e⟩ | ⟨rfl, h4⟩)
      · obtain ⟨rfl, rfl⟩ := List.cons.inj h4
        (try simp only [AW4, simprocAttr, hX]); (repeat (with_reducible refine And.intro ?_ ?_); exact vc0)
        (repeat (with_reducible refine And.intro ?_ ?_); exact vc0); refine hK _ ?_; clear hK K; refine Run.nq ?_
        refine Run.nq ?_; refine Run.regionW hC (fun K hK => ?_); simp (disch := omega) only [wrap_id, AW4, simprocAttr, hX]; (repeat (with_reducible refine And.intro ?_ ?_); exact vc0); refine hK _ ?_; clear hK K; refine Run.nq ?_
        refine Run.le ?_ (ih (i + 1) h (by omega))
        exact Le.sub (by rw [hsn, e]) (by simp only [AW4, simprocAttr]; try simp)
      · obtain ⟨rfl, rfl⟩ := List.cons.inj h4
        (try simp only [AW4, simprocAttr, hX]); (repeat (with_reducible refine And.intro ?_ ?_); exact vc0)
        (repeat (with_reducible refine And.intro ?_ ?_); exact vc0); refine hK _ ?_; clear hK K; refine Run.nq ?_
        refine Run.le (Le.re (obs' := [.arr .int (starW c [] (w.take (i + 1))) 0 true]) hpin [1] [(0, true, .sl false (.row false) c), (4, true, .nils), (5, true, .bool false), (6, true, .own 0 0), (15, true, .sl false .int w), (16, true, .int .i64 w.length), (17, true, .int .i64 i)] rfl (by simp [leOs, leO_arr, oAt, hsn]) (by refine ⟨⟨_, rfl, ?_⟩, ⟨_, rfl, ?_⟩, ⟨_, rfl, ?_⟩, ⟨_, rfl, ?_⟩, ⟨_, rfl, ?_⟩, ⟨_, rfl, ?_⟩, ⟨_, rfl, ?_⟩, trivial⟩ <;> simp [leAV, oAt, genO, hsn])) ?_; simp only [frV_cons, frV_nil]
        refine Run.nq ?_; refine Run.regionW hC (fun K hK => ?_); simp (disch := omega) only [wrap_id, AW4, simprocAttr, hX]; (repeat (with_reducible refine And.intro ?_ ?_); exact vc0); refine hK _ ?_; clear hK K; refine Run.nq ?_
        refine Run.le ?_ (ih (i + 1) h (by omega))
        exact Le.sub (by rfl) (by simp only [AW4, simprocAttr]; try simp)
    · intro h
      have h : i = w.length := by simp at h; omega
      subst h
      rw [List.take_length]
      refine Run.exit rfl ?_; refine Run.nq ?_
      refine Run.nq ?_; refine Run.regionW hC (fun K hK => ?_); simp only [AW4, simprocAttr, hX]; (repeat (with_reducible refine And.intro ?_ ?_); exact vc0); refine hK _ ?_; clear hK K; refine Run.nq ?_
      refine Run.retW [4, 5] (by decide) (by rw [hfn]; rfl) (by simp only [AW4, simprocAttr, hX]; rfl) (by simp only [AW4, simprocAttr, hX]) (hfin _ _ rfl rfl ?_)
      simp [starWo, hb]

theorem c_spec_l20Fit (p : List Int) (hp : p.length ≤ 1048576) : FunA B 69 [.sl false .int p] (fun rs o => rs = [.own 0 0, .bool (decide (p.length ≤ 15))] ∧ o = [.arr .int (if p.length ≤ 15 then p else []) 0 true]) := by
  refine FunA.walk B_ok (fn := Try.f69) (fun vs w => Try.call69 vs w) Try.func69 rfl (by rw [Try.ntmps69]; simp) (fun C hC hP hT hΓ hbt hfn hpin hfin => ?_); have hX := BX; rw [← hΓ, ← hbt] at hX; rw [Try.ntmps69]; simp only [AW4, simprocAttr, hX]
  refine Run.nq ?_; refine Run.regionW hC (fun K hK => ?_); simp only [AW4, simprocAttr, hX]; (repeat (with_reducible refine And.intro ?_ ?_); exact vc0); refine hK _ ?_; clear hK K; refine Run.nq ?_
  refine Run.nq ?_; refine Run.regionW hC (fun K hK => ?_); simp only [AW4, simprocAttr, hX]; (repeat (with_reducible refine And.intro ?_ ?_); exact vc0); refine hK _ ?_; clear hK K; refine Run.nq ?_
  refine Run.nq ?_; refine Run.condW (by simp only [AW4, simprocAttr, hX]; rfl) (by simp only [AW4, simprocAttr, hX]) ?_ ?_
  · intro h
    have h : ¬ p.length ≤ 15 := by simp at h; omega
    refine Run.nq ?_; refine Run.regionW hC (fun K hK => ?_); simp only [AW4, simprocAttr, hX]; (repeat (with_reducible refine And.intro ?_ ?_); exact vc0); refine hK _ ?_; clear hK K; refine Run.nq ?_
    refine Run.retW [2, 3] (by decide) (by rw [hfn]; rfl) (by simp only [AW4, simprocAttr, hX]; rfl) (by simp only [AW4, simprocAttr, hX]) (hfin _ _ rfl rfl ?_)
    simp [h]
  · intro h
    have h : p.length ≤ 15 := by simp at h; omega
    refine Run.nq ?_; refine Run.regionW hC (fun K hK => ?_); simp only [AW4, simprocAttr, hX]; (repeat (with_reducible refine And.intro ?_ ?_); exact vc0); refine hK _ ?_; clear hK K; refine Run.nq ?_
    refine Run.le (Le.re (obs' := [.arr .int p 0 true]) hpin [0] [(2, true, .own 0 0), (3, true, .bool true)] rfl (by simp [leOs, leO_arr, oAt]) (by refine ⟨⟨_, rfl, ?_⟩, ⟨_, rfl, ?_⟩, trivial⟩ <;> simp [leAV, oAt, genO])) ?_; simp only [frV_cons, frV_nil]
    refine Run.retW [2, 3] (by decide) (by rw [hfn]; rfl) (by simp only [AW4, simprocAttr, hX]; rfl) (by simp only [AW4, simprocAttr, hX]) (hfin _ _ rfl rfl ?_)
    simp [h]

/-- A word times a letter. -/
noncomputable def starLeB (c : List (List Int)) (w : List Int) (i : Int) : Bool := wordB c w && ptB c i && decide ((starL c (redL c w) i).length ≤ 15)
noncomputable def starLe (c : List (List Int)) (w : List Int) (i : Int) : List Int := if starLeB c w i then starL c (redL c w) i else []
theorem starLe_le (c : List (List Int)) (w : List Int) (i : Int) : (starLe c w i).length ≤ 15 := by
  unfold starLe
  split
  · rename_i h
    simp only [starLeB, Bool.and_eq_true, decide_eq_true_eq] at h
    exact h.2
  · simp
theorem ptB_iff {c : List (List Int)} {i : Int} : ptB c i = true ↔ 0 ≤ i ∧ i < c.length := by simp [ptB]

theorem c_spec_StarLetter (c : List (List Int)) (w : List Int) (i : Int) (hcl : c.length ≤ 1048576) :
    FunA B 33 [.sl false (.row false) c, .sl false .int w, .int .i64 i] (fun rs o => rs = [.own 0 0, .bool (starLeB c w i)] ∧ o = [.arr .int (starLe c w i) 0 true]) := by
  have key : inB i 0 ((c.length : Int) - 1) = ptB c i := by
    rw [Bool.eq_iff_iff, inB_iff, ptB_iff]; omega
  refine FunA.walk B_ok (fn := Try.f33) (fun vs w => Try.call33 vs w) Try.func33 rfl (by rw [Try.ntmps33]; simp) (fun C hC hP hT hΓ hbt hfn hpin hfin => ?_); have hX := BX; rw [← hΓ, ← hbt] at hX; rw [Try.ntmps33]; simp only [AW4, simprocAttr, hX]
  refine Run.nq ?_; refine Run.regionW hC (fun K hK => ?_); simp only [AW4, simprocAttr, hX]; (repeat (with_reducible refine And.intro ?_ ?_); exact vc0); refine hK _ ?_; clear hK K; refine Run.nq ?_
  refine Run.nq ?_; refine Run.regionW hC (fun K hK => ?_); simp only [AW4, simprocAttr, hX]; (repeat (with_reducible refine And.intro ?_ ?_); exact vc0)
  refine FunA.callW hP hT (c_spec_NormalForm c w hcl) (by simp only [AW4, simprocAttr]) ?_
  rintro rs o ⟨rfl, rfl⟩
  (try simp only [AW4, simprocAttr, hX]); (repeat (with_reducible refine And.intro ?_ ?_); exact vc0)
  (repeat (with_reducible refine And.intro ?_ ?_); exact vc0); refine hK _ ?_; clear hK K; refine Run.nq ?_
  refine Run.nq ?_; refine Run.regionW hC (fun K hK => ?_); simp (disch := omega) only [wrap_id, AW4, simprocAttr, hX]; (repeat (with_reducible refine And.intro ?_ ?_); exact vc0)
  refine .inl (FunA.callG hP hT (c_spec_l1In i 0 ((c.length : Int) - 1)) (fun _ => rfl) (fun _ => by simp only [AW4, simprocAttr]) ?_)
  rw [key]
  (try simp only [AW4, simprocAttr, hX]); (repeat (with_reducible refine And.intro ?_ ?_); exact vc0)
  (repeat (with_reducible refine And.intro ?_ ?_); exact vc0); refine hK _ ?_; clear hK K; refine Run.nq ?_
  refine Run.nq ?_; refine Run.condW (by simp only [AW4, simprocAttr, hX]; rfl) (by simp only [AW4, simprocAttr, hX]) ?_ ?_
  · intro h
    have h : starLeB c w i = false := by
      revert h
      cases hw : wordB c w <;> cases hi : ptB c i <;> simp [starLeB, hw, hi]
    refine Run.nq ?_; refine Run.regionW hC (fun K hK => ?_); simp only [AW4, simprocAttr, hX]; (repeat (with_reducible refine And.intro ?_ ?_); exact vc0); refine hK _ ?_; clear hK K; refine Run.nq ?_
    refine Run.le (Le.re (obs' := [.arr .int [] 0 true]) hpin [1] [(6, true, .own 0 0), (7, true, .bool false)] rfl (by simp [leOs, leO_arr, oAt]) (by refine ⟨⟨_, rfl, ?_⟩, ⟨_, rfl, ?_⟩, trivial⟩ <;> simp [leAV, oAt, genO])) ?_; simp only [frV_cons, frV_nil]
    refine Run.retW [6, 7] (by decide) (by rw [hfn]; rfl) (by simp only [AW4, simprocAttr, hX]; rfl) (by simp only [AW4, simprocAttr, hX]) (hfin _ _ rfl rfl ?_)
    simp [starLe, h]
  · intro h
    have hw : wordB c w = true := by revert h; cases hw : wordB c w <;> simp
    have hi : ptB c i = true := by revert h; cases hi : ptB c i <;> simp [hw]
    obtain ⟨hc, h2, h3⟩ := wordB_iff.1 hw
    have hi2 := ptB_iff.1 hi
    have e1 : nfW c w = redL c w := by unfold nfW; rw [if_pos hw]
    rw [e1]
    obtain ⟨a1, a2, a3, a4, a5⟩ := red_spec hc h3 (by omega)
    have hR := red_Red hc h3 (by omega)
    have es : starW c (redL c w) [i] = starL c (redL c w) i := rfl
    obtain ⟨_, s2, _⟩ := starL_Red hc hR (by omega) hi2
    have eb : starLeB c w i = decide ((starL c (redL c w) i).length ≤ 15) := by simp [starLeB, hw, hi]
    refine Run.nq ?_; refine Run.regionW hC (fun K hK => ?_); simp only [AW4, simprocAttr, hX]; (repeat (with_reducible refine And.intro ?_ ?_); exact vc0)
    refine FunM.call hP hT (c_spec_l20Star c (redL c w) [i] true hc hR (letters_cons.2 ⟨hi2, letters_nil _⟩) (by simp; omega)) 0 0 (by simp only [AW4, simprocAttr]; rfl) (by simp) rfl (by simp only [AW4, simprocAttr]; try simp) ?_
    rintro rs o o2 (⟨rfl, h4, e⟩ | ⟨rfl, h4⟩)
    · obtain ⟨rfl, rfl⟩ := List.cons.inj h4
      rw [es] at e
      (try simp only [AW4, simprocAttr, hX]); (repeat (with_reducible refine And.intro ?_ ?_); exact vc0)
      refine FunA.callW hP hT (c_spec_l20Fit (redL c w) (by omega)) (by simp only [AW4, simprocAttr]) ?_
      rintro rs o ⟨rfl, rfl⟩
      (try simp only [AW4, simprocAttr, hX]); (repeat (with_reducible refine And.intro ?_ ?_); exact vc0)
      (repeat (with_reducible refine And.intro ?_ ?_); exact vc0); refine hK _ ?_; clear hK K; refine Run.nq ?_
      refine Run.nq ?_; refine Run.regionW hC (fun K hK => ?_); simp only [AW4, simprocAttr, hX]; (repeat (with_reducible refine And.intro ?_ ?_); exact vc0); refine hK _ ?_; clear hK K; refine Run.nq ?_
      refine Run.le (Le.re (obs' := [.arr .int (starLe c w i) 0 true]) hpin [2] [(6, true, .own 0 0), (7, true, .bool (starLeB c w i))] rfl (by simp [leOs, leO_arr, oAt, starLe, eb, e]) (by refine ⟨⟨_, rfl, ?_⟩, ⟨_, rfl, ?_⟩, trivial⟩ <;> simp [leAV, oAt, genO, starLe, eb, e])) ?_; simp only [frV_cons, frV_nil]
      refine Run.retW [6, 7] (by decide) (by rw [hfn]; rfl) (by simp only [AW4, simprocAttr, hX]; rfl) (by simp only [AW4, simprocAttr, hX]) (hfin _ _ rfl rfl ?_)
      exact ⟨rfl, rfl⟩
    · obtain ⟨rfl, rfl⟩ := List.cons.inj h4
      rw [es]
      (try simp only [AW4, simprocAttr, hX]); (repeat (with_reducible refine And.intro ?_ ?_); exact vc0)
      refine FunA.callW hP hT (c_spec_l20Fit (starL c (redL c w) i) (by omega)) (by simp only [AW4, simprocAttr]) ?_
      rintro rs o ⟨rfl, rfl⟩
      (try simp only [AW4, simprocAttr, hX]); (repeat (with_reducible refine And.intro ?_ ?_); exact vc0)
      (repeat (with_reducible refine And.intro ?_ ?_); exact vc0); refine hK _ ?_; clear hK K; refine Run.nq ?_
      refine Run.nq ?_; refine Run.regionW hC (fun K hK => ?_); simp only [AW4, simprocAttr, hX]; (repeat (with_reducible refine And.intro ?_ ?_); exact vc0); refine hK _ ?_; clear hK K; refine Run.nq ?_
      refine Run.le (Le.re (obs' := [.arr .int (starLe c w i) 0 true]) hpin [3] [(6, true, .own 0 0), (7, true, .bool (starLeB c w i))] rfl (by simp [leOs, leO_arr, oAt, starLe, eb]) (by refine ⟨⟨_, rfl, ?_⟩, ⟨_, rfl, ?_⟩, trivial⟩ <;> simp [leAV, oAt, genO, starLe, eb])) ?_; simp only [frV_cons, frV_nil]
      refine Run.retW [6, 7] (by decide) (by rw [hfn]; rfl) (by simp only [AW4, simprocAttr, hX]; rfl) (by simp only [AW4, simprocAttr, hX]) (hfin _ _ rfl rfl ?_)
      exact ⟨rfl, rfl⟩

theorem c_impl_StarLetter (c : List (List Int)) (w : List Int) (i : Int) (hcl : c.length ≤ 1048576) :
    FunA B 34 [.sl false (.row false) c, .sl false .int w, .int .i64 i] (fun rs o => rs = [.own 0 0, .bool (starLeB c w i)] ∧ o = [.arr .int (starLe c w i) 0 true]) := by
  refine FunA.walk B_ok (fn := Try.f34) (fun vs w => Try.call34 vs w) Try.func34 rfl (by rw [Try.ntmps34]; simp) (fun C hC hP hT hΓ hbt hfn hpin hfin => ?_); have hX := BX; rw [← hΓ, ← hbt] at hX; rw [Try.ntmps34]; simp only [AW4, simprocAttr, hX]
  refine Run.nq ?_; refine Run.regionW hC (fun K hK => ?_); simp only [AW4, simprocAttr, hX]; (repeat (with_reducible refine And.intro ?_ ?_); exact vc0); refine hK _ ?_; clear hK K; refine Run.nq ?_
  refine Run.nq ?_; refine Run.regionW hC (fun K hK => ?_); simp only [AW4, simprocAttr, hX]; (repeat (with_reducible refine And.intro ?_ ?_); exact vc0)
  refine FunA.callW hP hT (c_impl_IsWord c w) (by simp only [AW4, simprocAttr]) ?_
  rintro rs o ⟨rfl, rfl⟩
  (try simp only [AW4, simprocAttr, hX]); (repeat (with_reducible refine And.intro ?_ ?_); exact vc0)
  refine .inl (FunA.callG hP hT (c_impl_isPoint c i) (fun _ => rfl) (fun _ => by simp only [AW4, simprocAttr]) ?_)
  (try simp only [AW4, simprocAttr, hX]); (repeat (with_reducible refine And.intro ?_ ?_); exact vc0)
  (repeat (with_reducible refine And.intro ?_ ?_); exact vc0); refine hK _ ?_; clear hK K; refine Run.nq ?_
  refine Run.nq ?_; refine Run.condW (by simp only [AW4, simprocAttr, hX]; rfl) (by simp only [AW4, simprocAttr, hX]) ?_ ?_
  · intro h
    have h : starLeB c w i = false := by
      revert h
      cases hw : wordB c w <;> cases hi : ptB c i <;> simp [starLeB, hw, hi]
    refine Run.nq ?_; refine Run.regionW hC (fun K hK => ?_); simp only [AW4, simprocAttr, hX]; (repeat (with_reducible refine And.intro ?_ ?_); exact vc0); refine hK _ ?_; clear hK K; refine Run.nq ?_
    refine Run.retW [6, 7] (by decide) (by rw [hfn]; rfl) (by simp only [AW4, simprocAttr, hX]; rfl) (by simp only [AW4, simprocAttr, hX]) (hfin _ _ rfl rfl ?_)
    simp [starLe, h]
  · intro h
    have hw : wordB c w = true := by revert h; cases hw : wordB c w <;> simp
    have hi : ptB c i = true := by revert h; cases hi : ptB c i <;> simp [hw]
    obtain ⟨hc, h2, h3⟩ := wordB_iff.1 hw
    have hi2 := ptB_iff.1 hi
    obtain ⟨a1, a2, a3, a4, a5⟩ := red_spec hc h3 (by omega)
    have hR := red_Red hc h3 (by omega)
    obtain ⟨_, s2, _⟩ := starL_Red hc hR (by omega) hi2
    have eb : starLeB c w i = decide ((starL c (redL c w) i).length ≤ 15) := by simp [starLeB, hw, hi]
    refine Run.nq ?_; refine Run.regionW hC (fun K hK => ?_); simp only [AW4, simprocAttr, hX]; (repeat (with_reducible refine And.intro ?_ ?_); exact vc0)
    refine FunA.callW hP hT (c_impl_reduced c w hc h3 (by omega)) (by simp only [AW4, simprocAttr]) ?_
    rintro rs o ⟨rfl, rfl⟩
    (try simp only [AW4, simprocAttr, hX]); (repeat (with_reducible refine And.intro ?_ ?_); exact vc0)
    refine FunM.call hP hT (c_impl_starred c (redL c w) i true hc hR (by omega) hi2) 0 0 (by simp only [AW4, simprocAttr]; rfl) (by simp) rfl (by simp only [AW4, simprocAttr]; try simp) ?_
    rintro rs o o2 hh
    have hh : ∃ k, (k = 0 ∨ k = 1) ∧ rs = [.own k 0] ∧ o :: o2 = (if k = 0 then [.arr .int (starL c (redL c w) i) 0 true] else [.arr .int (redL c w) 0 true, .arr .int (starL c (redL c w) i) 0 true]) := by
      rcases hh with ⟨h4, h5, e⟩ | ⟨h4, h5⟩
      · exact ⟨0, .inl rfl, h4, by rw [h5, e]; rfl⟩
      · exact ⟨1, .inr rfl, h4, by rw [h5]; rfl⟩
    obtain ⟨k, rfl | rfl, rfl, h4⟩ := hh
    · simp only [if_true] at h4
      obtain ⟨rfl, rfl⟩ := List.cons.inj h4
      (try simp only [AW4, simprocAttr, hX]); (repeat (with_reducible refine And.intro ?_ ?_); exact vc0)
      (repeat (with_reducible refine And.intro ?_ ?_); exact vc0); refine hK _ ?_; clear hK K; refine Run.nq ?_
      refine Run.nq ?_; refine Run.regionW hC (fun K hK => ?_); simp only [AW4, simprocAttr, hX]; (repeat (with_reducible refine And.intro ?_ ?_); exact vc0); refine hK _ ?_; clear hK K; refine Run.nq ?_
      refine Run.nq ?_; refine Run.condW (by simp only [AW4, simprocAttr, hX]; rfl) (by simp only [AW4, simprocAttr, hX]) ?_ ?_
      · intro h5
        have h5 : ¬ (starL c (redL c w) i).length ≤ 15 := by simp at h5; omega
        refine Run.nq ?_; refine Run.regionW hC (fun K hK => ?_); simp only [AW4, simprocAttr, hX]; (repeat (with_reducible refine And.intro ?_ ?_); exact vc0); refine hK _ ?_; clear hK K; refine Run.nq ?_
        refine Run.le (Le.re (obs' := [.arr .int [] 0 true]) hpin [1] [(6, true, .own 0 0), (7, true, .bool false)] rfl (by simp [leOs, leO_arr, oAt]) (by refine ⟨⟨_, rfl, ?_⟩, ⟨_, rfl, ?_⟩, trivial⟩ <;> simp [leAV, oAt, genO])) ?_; simp only [frV_cons, frV_nil]
        refine Run.retW [6, 7] (by decide) (by rw [hfn]; rfl) (by simp only [AW4, simprocAttr, hX]; rfl) (by simp only [AW4, simprocAttr, hX]) (hfin _ _ rfl rfl ?_)
        simp [starLe, eb, h5]
      · intro h5
        have h5 : (starL c (redL c w) i).length ≤ 15 := by simp at h5; omega
        refine Run.nq ?_; refine Run.regionW hC (fun K hK => ?_); simp only [AW4, simprocAttr, hX]; (repeat (with_reducible refine And.intro ?_ ?_); exact vc0); refine hK _ ?_; clear hK K; refine Run.nq ?_
        refine Run.retW [6, 7] (by decide) (by rw [hfn]; rfl) (by simp only [AW4, simprocAttr, hX]; rfl) (by simp only [AW4, simprocAttr, hX]) (hfin _ _ rfl rfl ?_)
        simp [starLe, eb, h5]
    · simp only [if_neg (show ¬ (1 = 0) by decide)] at h4
      obtain ⟨rfl, rfl⟩ := List.cons.inj h4
      (try simp only [AW4, simprocAttr, hX]); (repeat (with_reducible refine And.intro ?_ ?_); exact vc0)
      (repeat (with_reducible refine And.intro ?_ ?_); exact vc0); refine hK _ ?_; clear hK K; refine Run.nq ?_
      refine Run.nq ?_; refine Run.regionW hC (fun K hK => ?_); simp only [AW4, simprocAttr, hX]; (repeat (with_reducible refine And.intro ?_ ?_); exact vc0); refine hK _ ?_; clear hK K; refine Run.nq ?_
      refine Run.nq ?_; refine Run.condW (by simp only [AW4, simprocAttr, hX]; rfl) (by simp only [AW4, simprocAttr, hX]) ?_ ?_
      · intro h5
        have h5 : ¬ (starL c (redL c w) i).length ≤ 15 := by simp at h5; omega
        refine Run.nq ?_; refine Run.regionW hC (fun K hK => ?_); simp only [AW4, simprocAttr, hX]; (repeat (with_reducible refine And.intro ?_ ?_); exact vc0); refine hK _ ?_; clear hK K; refine Run.nq ?_
        refine Run.le (Le.re (obs' := [.arr .int [] 0 true]) hpin [2] [(6, true, .own 0 0), (7, true, .bool false)] rfl (by simp [leOs, leO_arr, oAt]) (by refine ⟨⟨_, rfl, ?_⟩, ⟨_, rfl, ?_⟩, trivial⟩ <;> simp [leAV, oAt, genO])) ?_; simp only [frV_cons, frV_nil]
        refine Run.retW [6, 7] (by decide) (by rw [hfn]; rfl) (by simp only [AW4, simprocAttr, hX]; rfl) (by simp only [AW4, simprocAttr, hX]) (hfin _ _ rfl rfl ?_)
        simp [starLe, eb, h5]
      · intro h5
        have h5 : (starL c (redL c w) i).length ≤ 15 := by simp at h5; omega
        refine Run.nq ?_; refine Run.regionW hC (fun K hK => ?_); simp only [AW4, simprocAttr, hX]; (repeat (with_reducible refine And.intro ?_ ?_); exact vc0); refine hK _ ?_; clear hK K; refine Run.nq ?_
        refine Run.le (Le.re (obs' := [.arr .int (starL c (redL c w) i) 0 true]) hpin [1] [(6, true, .own 0 0), (7, true, .bool true)] rfl (by simp [leOs, leO_arr, oAt]) (by refine ⟨⟨_, rfl, ?_⟩, ⟨_, rfl, ?_⟩, trivial⟩ <;> simp [leAV, oAt, genO])) ?_; simp only [frV_cons, frV_nil]
        refine Run.retW [6, 7] (by decide) (by rw [hfn]; rfl) (by simp only [AW4, simprocAttr, hX]; rfl) (by simp only [AW4, simprocAttr, hX]) (hfin _ _ rfl rfl ?_)
        simp [starLe, eb, h5]
end Go.Proofs.Ytbeeblhmgpgkjaa
