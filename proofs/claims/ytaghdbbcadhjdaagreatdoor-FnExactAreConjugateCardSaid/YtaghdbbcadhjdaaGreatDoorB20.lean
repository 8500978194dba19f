/- The reference's AreSame. -/
import Derived.Test.YtaghdbbcadhjdaaGreatDoorB19
import Derived.Test.YtaghdbbcadhjdaaGreatDoorB11
import Derived.Test.YtaghdbbcadhjdaaGreatDoorB16
import Derived.HandedShaped
import Derived.Handed
import Derived.Shelf.Vars
set_option linter.unusedVariables false
set_option linter.unusedSimpArgs false
namespace Go.Proofs.YtaghdbbcadhjdaaGreatDoor
open Go Go.Aw
theorem c_spec_AreSame (c : List (List Int)) (u v : List Int) (hcl : c.length ≤ 1048576) :
    FunA B 58 [.sl false (.row false) c, .sl false .int u, .sl false .int v] (fun rs o => rs = [.bool (sameB c u v)] ∧ o = []) := by
  refine FunA.walk B_ok (fn := Tryz.f58) (fun vs w => Tryz.call58 vs w) Tryz.func58 rfl (by rw [Tryz.ntmps58]; simp) (fun C hC hP hT hΓ hbt hfn hpin hfin => ?_); have hX := BX; rw [← hΓ, ← hbt.1, ← hbt.2.1, ← hbt.2.2.1] at hX; rw [Tryz.ntmps58]; simp only [AW7, simprocAttr, hX]
  refine Run.R ?_
  refine Run.nq ?_; refine Run.regionW hC (fun K hK => ?_); refine wW ?_
  refine FunA.cW hP hT (c_spec_IsWord c u hcl) ?_
  rintro rs o ⟨rfl, rfl⟩
  cases hu : wordB c u with
  | false =>
    refine wW ?_
    refine .inl (CallG.off (.bool false) ?_)
    refine wW ?_
    refine .inl (CallG.off (.bool false) ?_)
    refine wW ?_
    refine .inl (CallG.off (.bool false) ?_)
    refine wW ?_
    refine .inl (CallG.off (.bool false) ?_)
    refine wW ?_
    refine wE ?_; clear hK K
    refine Run.rW [6] (hfin _ _ rfl rfl ?_)
    simp [sameB, hu]
  | true =>
    refine wW ?_
    refine .inl (FunA.callG hP hT (c_spec_IsWord c v hcl) (fun _ => rfl) (fun _ => by simp only [AW7, simprocAttr]) ?_)
    cases hv : wordB c v with
    | false =>
      refine wW ?_
      refine .inl (CallG.off (.bool false) ?_)
      refine wW ?_
      refine .inl (CallG.off (.bool false) ?_)
      refine wW ?_
      refine .inl (CallG.off (.bool false) ?_)
      refine wW ?_
      refine wE ?_; clear hK K
      refine Run.rW [6] (hfin _ _ rfl rfl ?_)
      simp [sameB, hu, hv]
    | true =>
      obtain ⟨hc, h1, h2⟩ := wordB_iff.1 hu
      obtain ⟨_, h3, h4⟩ := wordB_iff.1 hv
      have hn := hc.2.1
      refine wW ?_
      refine .inr ⟨rfl, ?_⟩
      refine FunA.cW hP hT (c_spec_l8Image c u hc (by assumption) (by omega)) ?_
      rintro rs o ⟨rfl, rfl⟩
      refine wW ?_
      refine .inr ⟨rfl, ?_⟩
      refine FunA.cW hP hT (c_spec_l8Image c v hc (by assumption) (by omega)) ?_
      rintro rs o ⟨rfl, rfl⟩
      refine wW ?_
      refine .inr ⟨rfl, ?_⟩
      refine FunA.callW hP hT (c_spec_EqualWords (imageL c u) (imageL c v) (by rw [imageL_length]; omega)) (by simp only [AW7, simprocAttr]; first | done | decide | exact ⟨rfl, rfl⟩) ?_
      rintro rs o ⟨rfl, rfl⟩
      refine wW ?_
      refine wE ?_; clear hK K
      refine Run.reK hpin [6] [] (by decide) (by simp) ?_; simp only [AR, AW7, simprocAttr]
      refine Run.rW [6] (hfin _ _ rfl rfl ?_)
      simp [sameB, hu, hv]
end Go.Proofs.YtaghdbbcadhjdaaGreatDoor
namespace Go.Proofs.YtaghdbbcadhjdaaGreatDoor
open Go Go.Aw Go.Cox
noncomputable def cjB (c : List (List Int)) (w by' : List Int) : Bool := mulB c by'.reverse w && mulB c (mulX c by'.reverse w) by'
noncomputable def cjX (c : List (List Int)) (w by' : List Int) : List Int := if cjB c w by' then mulX c (mulX c by'.reverse w) by' else []
theorem mulX_off {c : List (List Int)} {a b : List Int} (h : mulB c a b = false) : mulX c a b = [] := by unfold mulX; rw [h]; rfl
theorem cjX_le (c : List (List Int)) (w x : List Int) : (cjX c w x).length ≤ 15 := by
  unfold cjX
  split
  · exact mulX_le c _ _
  · simp
theorem c_impl_ConjugateElement (c : List (List Int)) (w x : List Int) (hcl : c.length ≤ 1048576) (hx : x.length ≤ 1048576) :
    FunA B 60 [.sl false (.row false) c, .sl false .int w, .sl false .int x] (fun rs o => rs = [.own 0 0, .bool (cjB c w x)] ∧ o = [.arr .int (cjX c w x) 0 true]) := by
  refine FunA.walk B_ok (fn := Tryz.f60) (fun vs w => Tryz.call60 vs w) Tryz.func60 rfl (by rw [Tryz.ntmps60]; simp) (fun C hC hP hT hΓ hbt hfn hpin hfin => ?_); have hX := BX; rw [← hΓ, ← hbt.1, ← hbt.2.1, ← hbt.2.2.1] at hX; rw [Tryz.ntmps60]; simp only [AW7, simprocAttr, hX]
  refine Run.R ?_
  refine Run.nq ?_; refine Run.regionW hC (fun K hK => ?_); refine wW ?_
  refine FunA.cW hP hT (c_impl_ReverseWord x hx) ?_
  rintro rs o ⟨rfl, rfl⟩
  refine wW ?_
  refine FunA.cW hP hT (c_impl_MultiplyElements c x.reverse w hcl) ?_
  rintro rs o ⟨rfl, rfl⟩
  refine wW ?_
  refine wE ?_; clear hK K
  refine Run.R ?_
  refine Run.nq ?_; refine Run.cW ?_ ?_
  · intro h
    have h : mulB c x.reverse w = false := by simpa using h
    have e : cjB c w x = false := by unfold cjB; rw [h]; rfl
    have e2 : cjX c w x = [] := by unfold cjX; rw [e]; rfl
    refine Run.R ?_
    refine Run.reK hpin [6, 7] [2] (by decide) (by simp) ?_; simp only [AR, AW7, simprocAttr]
    refine Run.rW [6, 7] (hfin _ _ rfl rfl ?_)
    rw [e, e2]; exact ⟨rfl, rfl⟩
  intro h
  have h : mulB c x.reverse w = true := by simpa using h
  have e : cjB c w x = mulB c (mulX c x.reverse w) x := by unfold cjB; rw [h]; rfl
  have e2 : cjX c w x = mulX c (mulX c x.reverse w) x := by
    unfold cjX; rw [e]
    cases hm : mulB c (mulX c x.reverse w) x
    · rw [mulX_off hm]; rfl
    · rfl
  refine Run.nq ?_; refine Run.regionW hC (fun K hK => ?_); refine wW ?_
  refine FunA.cW hP hT (c_impl_MultiplyElements c (mulX c x.reverse w) x hcl) ?_
  rintro rs o ⟨rfl, rfl⟩
  refine wW ?_
  refine wE ?_; clear hK K
  skip
  refine Run.reK hpin [6, 7] [2] (by decide) (by simp) ?_; simp only [AR, AW7, simprocAttr]
  refine Run.rW [6, 7] (hfin _ _ rfl rfl ?_)
  rw [e, e2]; exact ⟨rfl, rfl⟩
theorem c_spec_ConjugateElement (c : List (List Int)) (w x : List Int) (hcl : c.length ≤ 1048576) (hx : x.length ≤ 1048576) :
    FunA B 57 [.sl false (.row false) c, .sl false .int w, .sl false .int x] (fun rs o => rs = [.own 0 0, .bool (cjB c w x)] ∧ o = [.arr .int (cjX c w x) 0 true]) := by
  refine FunA.walk B_ok (fn := Tryz.f57) (fun vs w => Tryz.call57 vs w) Tryz.func57 rfl (by rw [Tryz.ntmps57]; simp) (fun C hC hP hT hΓ hbt hfn hpin hfin => ?_); have hX := BX; rw [← hΓ, ← hbt.1, ← hbt.2.1, ← hbt.2.2.1] at hX; rw [Tryz.ntmps57]; simp only [AW7, simprocAttr, hX]
  refine Run.R ?_
  refine Run.nq ?_; refine Run.regionW hC (fun K hK => ?_); refine wW ?_
  refine FunA.cW hP hT (c_spec_ReverseWord x hx) ?_
  rintro rs o ⟨rfl, rfl⟩
  refine wW ?_
  refine FunA.cW hP hT (c_spec_MultiplyElements c x.reverse w hcl) ?_
  rintro rs o ⟨rfl, rfl⟩
  refine wW ?_
  refine wE ?_; clear hK K
  refine Run.R ?_
  refine Run.nq ?_; refine Run.cW ?_ ?_
  · intro h
    have h : mulB c x.reverse w = false := by simpa using h
    have e : cjB c w x = false := by unfold cjB; rw [h]; rfl
    have e2 : cjX c w x = [] := by unfold cjX; rw [e]; rfl
    refine Run.R ?_
    refine Run.reK hpin [6, 7] [2] (by decide) (by simp) ?_; simp only [AR, AW7, simprocAttr]
    refine Run.rW [6, 7] (hfin _ _ rfl rfl ?_)
    rw [e, e2]; exact ⟨rfl, rfl⟩
  intro h
  have h : mulB c x.reverse w = true := by simpa using h
  have e : cjB c w x = mulB c (mulX c x.reverse w) x := by unfold cjB; rw [h]; rfl
  have e2 : cjX c w x = mulX c (mulX c x.reverse w) x := by
    unfold cjX; rw [e]
    cases hm : mulB c (mulX c x.reverse w) x
    · rw [mulX_off hm]; rfl
    · rfl
  refine Run.nq ?_; refine Run.regionW hC (fun K hK => ?_); refine wW ?_
  refine FunA.cW hP hT (c_spec_MultiplyElements c (mulX c x.reverse w) x hcl) ?_
  rintro rs o ⟨rfl, rfl⟩
  refine wW ?_
  refine wE ?_; clear hK K
  refine Run.R ?_
  refine Run.reK hpin [6, 7] [2] (by decide) (by simp) ?_; simp only [AR, AW7, simprocAttr]
  refine Run.rW [6, 7] (hfin _ _ rfl rfl ?_)
  rw [e, e2]; exact ⟨rfl, rfl⟩
end Go.Proofs.YtaghdbbcadhjdaaGreatDoor
namespace Go.Proofs.YtaghdbbcadhjdaaGreatDoor
open Go Go.Aw Go.Cox
noncomputable def cjT (c : List (List Int)) (a b x : List Int) : Bool := cjB c a x && (imageL c (cjX c a x) == imageL c b)
noncomputable def acB (c : List (List Int)) (a b : List Int) : Bool := elsB c 48 && wordB c a && wordB c b && (allL c).any (cjT c a b)
noncomputable def acX (c : List (List Int)) (a b : List Int) : List Int := if acB c a b then ((allL c).find? (cjT c a b)).getD [] else []
theorem ac_off {c : List (List Int)} {a b : List Int} (h : (elsB c 48 && wordB c a && wordB c b) = false) : acB c a b = false ∧ acX c a b = [] := by
  have : acB c a b = false := by unfold acB; rw [h]; rfl
  exact ⟨this, by unfold acX; rw [this]; rfl⟩
theorem find_pre {α : Type} (p : α → Bool) (d : α) : ∀ (l : List α) (k : Nat), k < l.length → p (l.getD k d) = true → (∀ j, j < k → p (l.getD j d) = false) → l.find? p = some (l.getD k d)
  | [], k, h, _, _ => by simp at h
  | x :: l, 0, _, h2, _ => by simp only [List.getD_cons_zero] at h2 ⊢; simp [h2]
  | x :: l, k + 1, h, h2, h3 => by
    have h0 := h3 0 (by omega)
    simp only [List.getD_cons_zero] at h0
    rw [List.find?_cons, h0]
    simp only [List.getD_cons_succ] at h2 ⊢
    exact find_pre p d l k (by simpa using h) h2 (fun j hj => by have := h3 (j + 1) (by omega); simpa using this)
theorem ac_hit {c : List (List Int)} {a b : List Int} (h : (elsB c 48 && wordB c a && wordB c b) = true) {k : Nat} (hk : k < (allL c).length) (hp : cjT c a b ((allL c).getD k []) = true) (hpre : ∀ j, j < k → cjT c a b ((allL c).getD j []) = false) : acB c a b = true ∧ acX c a b = (allL c).getD k [] := by
  have hm : (allL c).getD k [] ∈ allL c := by rw [List.getD_eq_getElem?_getD, List.getElem?_eq_getElem hk]; exact List.getElem_mem _
  have : acB c a b = true := by
    unfold acB; rw [h, Bool.true_and]
    exact List.any_eq_true.2 ⟨_, hm, hp⟩
  exact ⟨this, by unfold acX; rw [if_pos this, find_pre _ [] _ k hk hp hpre, Option.getD_some]⟩
theorem ac_miss {c : List (List Int)} {a b : List Int} (hpre : ∀ j, j < (allL c).length → cjT c a b ((allL c).getD j []) = false) : acB c a b = false ∧ acX c a b = [] := by
  have h0 : (allL c).any (cjT c a b) = false := by
    rw [List.any_eq_false]
    intro x hx
    obtain ⟨j, hj, rfl⟩ := List.getElem_of_mem hx
    have := hpre j hj
    rw [List.getD_eq_getElem?_getD, List.getElem?_eq_getElem hj] at this
    simpa using this
  have : acB c a b = false := by unfold acB; rw [h0, Bool.and_false]
  exact ⟨this, by unfold acX; rw [this]; rfl⟩
theorem acX_le (c : List (List Int)) (a b : List Int) : (acX c a b).length ≤ 30 := by
  unfold acX
  split
  · rename_i h
    unfold acB at h
    simp only [Bool.and_eq_true] at h
    have hF := (elsB_fin h.1.1.1 (by omega)).1
    cases hf : (allL c).find? (cjT c a b) with
    | none => simp
    | some x => exact (((allL_spec hF).2 x).1 (List.mem_of_find?_eq_some hf)).2.2
  · simp
theorem cjX_let {c : List (List Int)} {a x : List Int} (h : cjB c a x = true) : wordB c (cjX c a x) = true ∧ redL c (cjX c a x) = cjX c a x := by
  have hm : mulB c (mulX c x.reverse a) x = true := by
    unfold cjB at h; rw [Bool.and_eq_true] at h; exact h.2
  have e : cjX c a x = redL c (mulX c x.reverse a ++ x) := by
    have hq : ∀ u v, mulB c u v = true → mulX c u v = redL c (u ++ v) := fun u v h => by unfold mulX; rw [if_pos h]
    unfold cjX; rw [if_pos h, hq _ _ hm]
  unfold mulB at hm
  simp only [Bool.and_eq_true, decide_eq_true_eq] at hm
  obtain ⟨⟨h1, h2⟩, h3⟩ := hm
  obtain ⟨hc, k1, k2⟩ := wordB_iff.1 h1
  obtain ⟨_, k3, k4⟩ := wordB_iff.1 h2
  have hl : letters c.length (mulX c x.reverse a ++ x) := letters_append.2 ⟨k2, k4⟩
  obtain ⟨a1, a2, _, a4, _⟩ := red_spec hc hl (by simp; omega)
  rw [e]
  exact ⟨wordB_iff.2 ⟨hc, h3, a1⟩, red_eq a4⟩
theorem cj_eq {c : List (List Int)} {a b x : List Int} (hb : wordB c b = true) (h : cjB c a x = true) : (cjX c a x == redL c b) = (imageL c (cjX c a x) == imageL c b) := by
  obtain ⟨h1, h2⟩ := cjX_let h
  obtain ⟨hc, k1, k2⟩ := wordB_iff.1 hb
  obtain ⟨_, _, _, a4, _⟩ := red_spec hc k2 (by omega)
  rw [Bool.eq_iff_iff]
  constructor
  · intro e
    have e : cjX c a x = redL c b := by simpa using e
    rw [e, a4]; simp
  · intro e
    have e : imageL c (cjX c a x) = imageL c b := by simpa using e
    rw [← h2, red_eq e]; simp
set_option maxHeartbeats 1000000 in
theorem c_impl_AreConjugate (c : List (List Int)) (a b : List Int) (hcl : c.length ≤ 1048576) :
    FunA BJ 29 [.sl false (.row false) c, .sl false .int a, .sl false .int b] (fun rs o => rs = [.own 0 0, .bool (acB c a b)] ∧ o = [.arr .int (acX c a b) 0 true]) := by
  refine (FunA.unlr (by rfl) (post := fun xs rest => xs = acX c a b ∧ rest = [.bool (acB c a b)]) ?_).mono fun rs o ⟨xs, rest, ⟨h1, h2⟩, h3, h4⟩ => ⟨by rw [h3, h2], by rw [h4, h1]⟩
  refine FunA.walk BJ_ok (fn := Tryz.f29) (fun vs w => Tryz.call29 vs w) Tryz.func29 rfl (by rw [Tryz.ntmps29]; simp) (fun C hC hP hT hΓ hbt hfn hpin hfin => ?_); haveI hDJ : DrLe BJ C := ⟨fun h => by rw [hbt.2.2.2] at h; cases h⟩; have hPJ := hP; have hTJ := hT; replace hP : B.P = C.P := hP; replace hT : B.tid = C.tid := hT; have hX := BXJ; rw [← hΓ, ← hbt.1, ← hbt.2.1, ← hbt.2.2.1] at hX; rw [Tryz.ntmps29]; simp only [AW7, simprocAttr, hX]
  refine Run.R ?_
  cases he : elsB c 48 with
  | false =>
    obtain ⟨e1, e2⟩ := ac_off (c := c) (a := a) (b := b) (by rw [he]; rfl)
    refine Run.nq ?_; refine Run.regionW hC (fun K hK => ?_); refine wW ?_
    refine FunA.cW hPJ hTJ (c_impl_few0 c he) ?_
    rintro rs o ⟨rfl, rfl⟩
    refine wW ?_
    refine wE ?_; clear hK K
    refine Run.nq ?_; refine Run.regionW hC (fun K hK => ?_); refine wW ?_
    refine .inl (CallG.off (.bool false) ?_)
    refine wW ?_
    refine .inl (CallG.off (.bool false) ?_)
    refine wW ?_
    refine wE ?_; clear hK K
    refine Run.nq ?_; refine Run.cW ?_ ?_
    rotate_left
    · intro h; cases h
    intro _
    refine Run.R ?_
    refine Run.reK hpin [6, 7] [0] (by decide) (by simp) ?_; simp only [AR, AW7, simprocAttr]
    refine Run.tolr 0 [6, 7] rfl (fun q hq => ?_); simp only [AL, frV_cons, frV_nil, AW7, simprocAttr]
    refine Run.reK hpin [6, 7] [] (by decide) (by simp) ?_; simp only [AR, AW7, simprocAttr]
    refine Run.rW [6, 7] (hfin _ _ rfl rfl ?_)
    exact ⟨q, [], _, ⟨e2.symm, by rw [e1]⟩, rfl, rfl, rfl⟩
  | true =>
    obtain ⟨hF, _, hl200, _⟩ := elsB_fin he (by omega)
    have hc := hF.1
    have hn := hc.2.1
    have hall := allL_spec hF
    refine Run.nq ?_; refine Run.regionW hC (fun K hK => ?_); refine wW ?_
    refine FunA.cW hPJ hTJ (c_impl_few1 c he) ?_
    rintro rs o ⟨zs, ⟨hz, _⟩, rfl, rfl⟩
    have hzl : zs.length = (allL c).length := by rw [← hz, rwl]
    refine wW ?_
    refine wE ?_; clear hK K
    cases ha : wordB c a with
    | false =>
      obtain ⟨e1, e2⟩ := ac_off (c := c) (a := a) (b := b) (by rw [he, ha]; rfl)
      refine Run.nq ?_; refine Run.regionW hC (fun K hK => ?_); refine wW ?_
      refine .inl (FunA.callG hP hT (c_impl_IsWord c a) (fun _ => rfl) (fun _ => by simp only [AW7, simprocAttr]) ?_)
      rw [ha]
      refine wW ?_
      refine .inl (CallG.off (.bool false) ?_)
      refine wW ?_
      refine wE ?_; clear hK K
      refine Run.nq ?_; refine Run.cW ?_ ?_
      rotate_left
      · intro h; cases h
      intro _
      refine Run.R ?_
      refine Run.reK hpin [6, 7] [0] (by decide) (by simp) ?_; simp only [AR, AW7, simprocAttr]
      refine Run.tolr 0 [6, 7] rfl (fun q hq => ?_); simp only [AL, frV_cons, frV_nil, AW7, simprocAttr]
      refine Run.reK hpin [6, 7] [] (by decide) (by simp) ?_; simp only [AR, AW7, simprocAttr]
      refine Run.rW [6, 7] (hfin _ _ rfl rfl ?_)
      exact ⟨q, [], _, ⟨e2.symm, by rw [e1]⟩, rfl, rfl, rfl⟩
    | true =>
      refine Run.nq ?_; refine Run.regionW hC (fun K hK => ?_); refine wW ?_
      refine .inl (FunA.callG hP hT (c_impl_IsWord c a) (fun _ => rfl) (fun _ => by simp only [AW7, simprocAttr]) ?_)
      rw [ha]
      refine wW ?_
      refine .inl (FunA.callG hP hT (c_impl_IsWord c b) (fun _ => rfl) (fun _ => by simp only [AW7, simprocAttr]) ?_)
      refine wW ?_
      refine wE ?_; clear hK K
      refine Run.nq ?_; refine Run.cW ?_ ?_
      · intro h
        have hb : wordB c b = false := by simpa using h
        obtain ⟨e1, e2⟩ := ac_off (c := c) (a := a) (b := b) (by rw [hb, Bool.and_false])
        refine Run.R ?_
        refine Run.reK hpin [6, 7] [0] (by decide) (by simp) ?_; simp only [AR, AW7, simprocAttr]
        refine Run.tolr 0 [6, 7] rfl (fun q hq => ?_); simp only [AL, frV_cons, frV_nil, AW7, simprocAttr]
        refine Run.reK hpin [6, 7] [] (by decide) (by simp) ?_; simp only [AR, AW7, simprocAttr]
        refine Run.rW [6, 7] (hfin _ _ rfl rfl ?_)
        exact ⟨q, [], _, ⟨e2.symm, by rw [e1]⟩, rfl, rfl, rfl⟩
      intro h
      have hb : wordB c b = true := by simpa using h
      have hon : (elsB c 48 && wordB c a && wordB c b) = true := by rw [he, ha, hb]; rfl
      obtain ⟨_, hb1, hb2⟩ := wordB_iff.1 hb
      refine Run.nq ?_; refine Run.regionW hC (fun K hK => ?_); refine wW ?_
      refine FunA.cW hP hT (c_impl_reduced c b hc hb2 (by omega)) ?_
      rintro rs o ⟨rfl, rfl⟩
      refine wW ?_
      refine wE ?_; clear hK K
      refine Run.R ?_
      refine Run.reK hpin [0, 1, 10, 38, 39, 40] [0] (by decide) (by simp) ?_; simp only [AR, AW7, simprocAttr]
      refine Run.loopI (X := Nat) (fun k => ⟨60, [(0, true, .v (.sl false (.row false) (c))), (1, true, .v (.sl false .int (a))), (10, true, .v (.own 0 0)), (38, true, .v (.sl true .lrow (zs))), (39, true, .v (.int .i64 ((zs.length : Nat)))), (40, true, .v (.int .i64 (k)))], [.arr .int ((redL c b)) 0 true]⟩) (fun k => k ≤ zs.length ∧ ∀ j, j < k → cjT c a b ((allL c).getD j []) = false) (fun k => zs.length - k) (0) (⟨Nat.zero_le _, fun j hj => by omega⟩) ?_ ?_
      · exact Le.sub (by first | rfl | simp) (by simp only [AW7, simprocAttr, hX]; try simp <;> try (first | rfl | exact ⟨rfl, rfl⟩ | exact ⟨rfl, rfl, rfl⟩))
      rintro k ⟨hk, hpre⟩ ih
      try simp only []
      refine Run.R ?_
      refine Run.nq ?_; refine Run.cW ?_ ?_
      rotate_left
      · intro h4
        have h4 : k = zs.length := by rw [decide_eq_false_iff_not] at h4; omega
        rw [h4, hzl] at hpre
        obtain ⟨e1, e2⟩ := ac_miss hpre
        refine Run.exit rfl ?_; refine Run.nq ?_
        refine Run.R ?_
        refine Run.reK hpin [6, 7] [1] (by decide) (by simp) ?_; simp only [AR, AW7, simprocAttr]
        refine Run.tolr 0 [6, 7] rfl (fun q hq => ?_); simp only [AL, frV_cons, frV_nil, AW7, simprocAttr]
        refine Run.reK hpin [6, 7] [] (by decide) (by simp) ?_; simp only [AR, AW7, simprocAttr]
        refine Run.rW [6, 7] (hfin _ _ rfl rfl ?_)
        exact ⟨q, [], _, ⟨e2.symm, by rw [e1]⟩, rfl, rfl, rfl⟩
      intro h4
      have h4 : k < zs.length := by rw [decide_eq_true_eq] at h4; omega
      have hgw := rwg zs k
      rw [hz] at hgw
      have hhit := ac_hit hon (k := k) (by omega)
      have hxm : (allL c).getD k [] ∈ allL c := by rw [List.getD_eq_getElem?_getD, List.getElem?_eq_getElem (by omega)]; exact List.getElem_mem _
      have hx30 := ((hall.2 _).1 hxm).2.2
      have hp2 : cjT c a b ((allL c).getD k []) = false → ∀ j, j < k + 1 → cjT c a b ((allL c).getD j []) = false := fun h5 j hj => by
        by_cases e : j = k
        · subst e; exact h5
        · exact hpre j (by omega)
      generalize (allL c).getD k [] = x at hgw hhit hx30 hp2
      have hxl := cjX_le c a x
      refine Run.R ?_
      try simp only [hgw]
      refine Run.nq ?_; refine Run.regionW hC (fun K hK => ?_); refine wW ?_
      refine FunA.cW hP hT (c_impl_ConjugateElement c a x hcl (by omega)) ?_
      rintro rs o ⟨rfl, rfl⟩
      refine wW ?_
      refine wE ?_; clear hK K
      refine Run.nq ?_; refine Run.regionW hC (fun K hK => ?_); refine wW ?_
      refine .inl (FunA.callG hP hT (c_impl_EqualWords (cjX c a x) (redL c b) (by omega)) (fun _ => rfl) (fun _ => by simp only [AW7, simprocAttr]) ?_)
      refine wW ?_
      refine wE ?_; clear hK K
      have hcj : (cjB c a x && (cjX c a x == redL c b)) = cjT c a b x := by
        unfold cjT
        cases h6 : cjB c a x
        · rfl
        · rw [cj_eq hb h6]
      refine Run.nq ?_; refine Run.cW ?_ ?_
      · intro h5
        have h5 : cjT c a b x = true := by rw [← hcj]; revert h5; cases cjB c a x <;> simp
        obtain ⟨e1, e2⟩ := hhit h5 hpre
        refine Run.R ?_
        refine Run.reK hpin [6, 7] [] (by decide) (by simp) ?_; simp only [AR, AW7, simprocAttr]
        refine Run.rW [6, 7] (hfin _ _ rfl rfl ?_)
        exact ⟨_, _, _, ⟨e2.symm, by rw [e1]⟩, rfl, rfl, rfl⟩
      · intro h5
        have h5 : cjT c a b x = false := by rw [← hcj]; revert h5; cases cjB c a x <;> simp
        refine Run.reK hpin [0, 1, 10, 38, 39, 40] [0] (by decide) (by simp) ?_; simp only [AR, AW7, simprocAttr]
        refine Run.RW ?_
        refine Run.le ?_ (ih (k + 1) (⟨h4, hp2 h5⟩) (by (try simp only [List.length_append, List.length_cons, List.length_nil]); omega))
        exact Le.sub (by rfl) (by simp only [AW7, simprocAttr]; try simp)
set_option maxHeartbeats 1000000 in
theorem c_spec_AreConjugate (c : List (List Int)) (a b : List Int) (hcl : c.length ≤ 1048576) :
    FunA B 28 [.sl false (.row false) c, .sl false .int a, .sl false .int b] (fun rs o => rs = [.own 0 0, .bool (acB c a b)] ∧ o = [.arr .int (acX c a b) 0 true]) := by
  refine FunA.walk B_ok (fn := Tryz.f28) (fun vs w => Tryz.call28 vs w) Tryz.func28 rfl (by rw [Tryz.ntmps28]; simp) (fun C hC hP hT hΓ hbt hfn hpin hfin => ?_); have hX := BX; rw [← hΓ, ← hbt.1, ← hbt.2.1, ← hbt.2.2.1] at hX; rw [Tryz.ntmps28]; simp only [AW7, simprocAttr, hX]
  refine Run.R ?_
  refine Run.nq ?_; refine Run.regionW hC (fun K hK => ?_); refine wW ?_
  refine FunA.cW hP hT (c_spec_l18Small c) ?_
  rintro rs o ⟨rfl, zs, ⟨hz, _⟩, rfl⟩
  refine wW ?_
  refine wE ?_; clear hK K
  cases he : elsB c 48 with
  | false =>
    obtain ⟨e1, e2⟩ := ac_off (c := c) (a := a) (b := b) (by rw [he]; rfl)
    refine Run.nq ?_; refine Run.regionW hC (fun K hK => ?_); refine wW ?_
    refine .inl (CallG.off (.bool false) ?_)
    refine wW ?_
    refine .inl (CallG.off (.bool false) ?_)
    refine wW ?_
    refine wE ?_; clear hK K
    refine Run.nq ?_; refine Run.cW ?_ ?_
    rotate_left
    · intro h; cases h
    intro _
    refine Run.R ?_
    refine Run.reK hpin [6, 7] [1] (by decide) (by simp) ?_; simp only [AR, AW7, simprocAttr]
    refine Run.rW [6, 7] (hfin _ _ rfl rfl ?_)
    rw [e1, e2]; exact ⟨rfl, rfl⟩
  | true =>
    rw [he, if_pos rfl] at hz
    obtain ⟨hF, _, hl200, _⟩ := elsB_fin he (by omega)
    have hc := hF.1
    have hn := hc.2.1
    have hall := allL_spec hF
    have hzl : zs.length = (allL c).length := by rw [← hz, rwl]
    cases ha : wordB c a with
    | false =>
      obtain ⟨e1, e2⟩ := ac_off (c := c) (a := a) (b := b) (by rw [he, ha]; rfl)
      refine Run.nq ?_; refine Run.regionW hC (fun K hK => ?_); refine wW ?_
      refine .inl (FunA.callG hP hT (c_spec_IsWord c a hcl) (fun _ => rfl) (fun _ => by simp only [AW7, simprocAttr]) ?_)
      rw [ha]
      refine wW ?_
      refine .inl (CallG.off (.bool false) ?_)
      refine wW ?_
      refine wE ?_; clear hK K
      refine Run.nq ?_; refine Run.cW ?_ ?_
      rotate_left
      · intro h; cases h
      intro _
      refine Run.R ?_
      refine Run.reK hpin [6, 7] [1] (by decide) (by simp) ?_; simp only [AR, AW7, simprocAttr]
      refine Run.rW [6, 7] (hfin _ _ rfl rfl ?_)
      rw [e1, e2]; exact ⟨rfl, rfl⟩
    | true =>
      refine Run.nq ?_; refine Run.regionW hC (fun K hK => ?_); refine wW ?_
      refine .inl (FunA.callG hP hT (c_spec_IsWord c a hcl) (fun _ => rfl) (fun _ => by simp only [AW7, simprocAttr]) ?_)
      rw [ha]
      refine wW ?_
      refine .inl (FunA.callG hP hT (c_spec_IsWord c b hcl) (fun _ => rfl) (fun _ => by simp only [AW7, simprocAttr]) ?_)
      refine wW ?_
      refine wE ?_; clear hK K
      refine Run.nq ?_; refine Run.cW ?_ ?_
      · intro h
        have hb : wordB c b = false := by simpa using h
        obtain ⟨e1, e2⟩ := ac_off (c := c) (a := a) (b := b) (by rw [hb, Bool.and_false])
        refine Run.R ?_
        refine Run.reK hpin [6, 7] [1] (by decide) (by simp) ?_; simp only [AR, AW7, simprocAttr]
        refine Run.rW [6, 7] (hfin _ _ rfl rfl ?_)
        rw [e1, e2]; exact ⟨rfl, rfl⟩
      intro h
      have hb : wordB c b = true := by simpa using h
      have hon : (elsB c 48 && wordB c a && wordB c b) = true := by rw [he, ha, hb]; rfl
      refine Run.R ?_
      refine Run.reK hpin [0, 1, 2, 8, 10] [0] (by decide) (by simp) ?_; simp only [AR, AW7, simprocAttr]
      refine Run.loopI (X := Nat) (fun k => ⟨63, [(0, true, .v (.sl false (.row false) (c))), (1, true, .v (.sl false .int (a))), (2, true, .v (.sl false .int (b))), (8, true, .v (.own 0 0)), (10, true, .v (.int .i64 (k)))], [.arr .lrow (zs) 0 true]⟩) (fun k => k ≤ zs.length ∧ ∀ j, j < k → cjT c a b ((allL c).getD j []) = false) (fun k => zs.length - k) (0) (⟨Nat.zero_le _, fun j hj => by omega⟩) ?_ ?_
      · exact Le.sub (by first | rfl | simp) (by simp only [AW7, simprocAttr, hX]; try simp <;> try (first | rfl | exact ⟨rfl, rfl⟩ | exact ⟨rfl, rfl, rfl⟩))
      rintro k ⟨hk, hpre⟩ ih
      try simp only []
      refine Run.R ?_
      refine Run.nq ?_; refine Run.cW ?_ ?_
      rotate_left
      · intro h4
        have h4 : k = zs.length := by rw [decide_eq_false_iff_not] at h4; omega
        rw [h4, hzl] at hpre
        obtain ⟨e1, e2⟩ := ac_miss hpre
        refine Run.exit rfl ?_; refine Run.nq ?_
        refine Run.R ?_
        refine Run.reK hpin [6, 7] [1] (by decide) (by simp) ?_; simp only [AR, AW7, simprocAttr]
        refine Run.rW [6, 7] (hfin _ _ rfl rfl ?_)
        rw [e1, e2]; exact ⟨rfl, rfl⟩
      intro h4
      have h4 : k < zs.length := by rw [decide_eq_true_eq] at h4; omega
      have hgw := rwg zs k
      rw [hz] at hgw
      have hhit := ac_hit hon (k := k) (by omega)
      have hxm : (allL c).getD k [] ∈ allL c := by rw [List.getD_eq_getElem?_getD, List.getElem?_eq_getElem (by omega)]; exact List.getElem_mem _
      have hx30 := ((hall.2 _).1 hxm).2.2
      have hp2 : cjT c a b ((allL c).getD k []) = false → ∀ j, j < k + 1 → cjT c a b ((allL c).getD j []) = false := fun h5 j hj => by
        by_cases e : j = k
        · subst e; exact h5
        · exact hpre j (by omega)
      generalize (allL c).getD k [] = x at hgw hhit hx30 hp2
      have hxl := cjX_le c a x
      have hxb : x.length ≤ 140737488355328 := by omega
      have hxb2 : (([] : List Int).length + ((zs.getD k (0, [])).2).length) * 8 ≤ 140737488355328 := by rw [hgw]; simp only [List.length_nil]; omega
      refine Run.nq ?_; refine Run.regionW hC (fun K hK => ?_); refine wW ?_
      try simp only [hgw]
      refine FunA.cW hP hT (c_spec_ConjugateElement c a x hcl (by omega)) ?_
      rintro rs o ⟨rfl, rfl⟩
      refine wW ?_
      refine wE ?_; clear hK K
      refine Run.nq ?_; refine Run.regionW hC (fun K hK => ?_); refine wW ?_
      refine .inl (FunA.callG hP hT (c_spec_AreSame c (cjX c a x) b hcl) (fun _ => rfl) (fun _ => by simp only [AW7, simprocAttr]) ?_)
      refine wW ?_
      refine wE ?_; clear hK K
      have hcj : (cjB c a x && sameB c (cjX c a x) b) = cjT c a b x := by
        unfold cjT sameB
        cases h6 : cjB c a x
        · rfl
        · rw [(cjX_let h6).1, hb]; rfl
      refine Run.nq ?_; refine Run.cW ?_ ?_
      · intro h5
        have h5 : cjT c a b x = true := by rw [← hcj]; revert h5; cases cjB c a x <;> simp
        obtain ⟨e1, e2⟩ := hhit h5 hpre
        refine Run.nq ?_; refine Run.regionW hC (fun K hK => ?_); refine wW ?_
        try simp only [hgw]
        refine wW ?_
        refine wE ?_; clear hK K
        refine Run.reK hpin [6, 7] [2] (by decide) (by simp) ?_; simp only [AR, AW7, simprocAttr]
        refine Run.rW [6, 7] (hfin _ _ rfl rfl ?_)
        rw [e1, e2]; exact ⟨rfl, rfl⟩
      · intro h5
        have h5 : cjT c a b x = false := by rw [← hcj]; revert h5; cases cjB c a x <;> simp
        refine Run.reK hpin [0, 1, 2, 8, 10] [0] (by decide) (by simp) ?_; simp only [AR, AW7, simprocAttr]
        refine Run.RW ?_
        refine Run.le ?_ (ih (k + 1) (⟨h4, hp2 h5⟩) (by (try simp only [List.length_append, List.length_cons, List.length_nil]); omega))
        exact Le.sub (by rfl) (by simp only [AW7, simprocAttr]; try simp)
end Go.Proofs.YtaghdbbcadhjdaaGreatDoor
namespace Go.Proofs.YtaghdbbcadhjdaaGreatDoor
open Go Go.Aw
end Go.Proofs.YtaghdbbcadhjdaaGreatDoor
namespace Go.Proofs.YtaghdbbcadhjdaaGreatDoor
open Go Go.Aw
theorem c_FnExactAreConjugate (c : List (List Int)) (a : List Int) (b : List Int) (_ : ∀ r ∈ c, ∀ n ∈ r, (Lit.int .i64 n).wf = true) (_ : ∀ n ∈ a, (Lit.int .i64 n).wf = true) (_ : ∀ n ∈ b, (Lit.int .i64 n).wf = true) : FunA BJ 8 [.sl false (.row false) c, .sl false .int a, .sl false .int b] (fun rs _ => rs = [.bool true]) := by
  refine FunA.walk BJ_ok (fn := Tryz.f8) (fun vs w => Tryz.call8 vs w) Tryz.func8 rfl (by rw [Tryz.ntmps8]; simp) (fun C hC hP hT hΓ hbt hfn hpin hfin => ?_); haveI hDJ : DrLe BJ C := ⟨fun h => by rw [hbt.2.2.2] at h; cases h⟩; have hPJ := hP; have hTJ := hT; replace hP : B.P = C.P := hP; replace hT : B.tid = C.tid := hT; have hX := BXJ; rw [← hΓ, ← hbt.1, ← hbt.2.1, ← hbt.2.2.1] at hX; rw [Tryz.ntmps8]; simp only [AW7, simprocAttr, hX]
  refine Run.R ?_
  refine Run.keep [0, 1, 2, 6] ?_; simp only [AK, Nat.reduceBEq]
  refine Run.R ?_
  refine Run.keep [0, 1, 2, 6, 22] ?_; simp only [AK, Nat.reduceBEq]
  refine Run.nq ?_; refine Run.cW ?_ ?_
  · intro hc
    refine Run.R ?_
    refine Run.rW [6] (hfin _ _ rfl rfl ?_)
    rfl
  intro hc
  have ha : a.length ≤ 1048576 := by simp at hc; omega
  clear hc
  refine Run.R ?_
  refine Run.keep [0, 1, 2, 6, 25] ?_; simp only [AK, Nat.reduceBEq]
  refine Run.nq ?_; refine Run.cW ?_ ?_
  · intro hc
    refine Run.R ?_
    refine Run.rW [6] (hfin _ _ rfl rfl ?_)
    rfl
  intro hc
  have hb : b.length ≤ 1048576 := by simp at hc; omega
  clear hc
  refine Run.R ?_
  refine Run.keep [0, 1, 2, 6, 7] ?_; simp only [AK, Nat.reduceBEq]
  refine Run.nq ?_; refine Run.regionW hC (fun K hK => ?_); refine wW ?_
  refine FunA.cW hP hT (c_szIntSS c (1048576) ⟨by omega, by omega⟩) ?_
  rintro rs o ⟨rfl, rfl⟩
  refine wW ?_
  refine wE ?_; clear hK K
  refine Run.keep [0, 1, 2, 6, 7] ?_; simp only [AK, Nat.reduceBEq]
  refine Run.R ?_
  refine Run.keep [0, 1, 2, 6, 7, 30] ?_; simp only [AK, Nat.reduceBEq]
  refine Run.nq ?_; refine Run.cW ?_ ?_
  · intro hc
    refine Run.R ?_
    refine Run.rW [6] (hfin _ _ rfl rfl ?_)
    rfl
  intro hc
  have hzc : 0 ≤ szII c (1048576) := by simp at hc; omega
  clear hc
  have hbc := szII_all c (1048576) ⟨by omega, by omega⟩ hzc
  obtain ⟨hcn, hcr, hcs, hcl⟩ := hbc
  refine Run.nq ?_; refine Run.regionW hC (fun K hK => ?_); refine wW ?_
  refine FunA.cW hP hT (c_toIntSS c hcn hcr) ?_
  rintro rs o ⟨rfl, hs1, hs1l, rfl⟩
  refine wW ?_
  refine FunA.cW hP hT (c_toIntS a ha) ?_
  rintro rs o ⟨rfl, rfl⟩
  refine wW ?_
  refine FunA.cW hP hT (c_toIntS b hb) ?_
  rintro rs o ⟨rfl, rfl⟩
  refine wW ?_
  refine FunA.cW hP hT (c_spec_AreConjugate c a b hcn) ?_
  rintro rs o ⟨rfl, rfl⟩
  refine wW ?_
  refine wE ?_; clear hK K
  refine Run.keep [0, 1, 2, 6, 7, 8, 9] ?_; simp only [AK, Nat.reduceBEq]
  refine Run.nq ?_; refine Run.regionW hC (fun K hK => ?_); refine wW ?_
  refine FunA.cW hP hT (c_toIntSS c hcn hcr) ?_
  rintro rs o ⟨rfl, hs2, hs2l, rfl⟩
  refine wW ?_
  refine wE ?_; clear hK K
  refine Run.keep [0, 1, 2, 6, 7, 8, 9, 10] ?_; simp only [AK, Nat.reduceBEq]
  refine Run.nq ?_; refine Run.regionW hC (fun K hK => ?_); refine wW ?_
  refine FunA.cW hP hT (c_toIntS a ha) ?_
  rintro rs o ⟨rfl, rfl⟩
  refine wW ?_
  refine wE ?_; clear hK K
  refine Run.keep [0, 1, 2, 6, 7, 8, 9, 10, 11] ?_; simp only [AK, Nat.reduceBEq]
  refine Run.nq ?_; refine Run.regionW hC (fun K hK => ?_); refine wW ?_
  refine FunA.cW hP hT (c_toIntS b hb) ?_
  rintro rs o ⟨rfl, rfl⟩
  refine wW ?_
  refine wE ?_; clear hK K
  refine Run.keep [0, 1, 2, 6, 7, 8, 9, 10, 11, 12] ?_; simp only [AK, Nat.reduceBEq]
  refine Run.nq ?_; refine Run.regionW hC (fun K hK => ?_); refine wW ?_
  refine FunA.cW hPJ hTJ (c_impl_AreConjugate c a b hcn) ?_
  rintro rs o ⟨rfl, rfl⟩
  refine wW ?_
  refine wE ?_; clear hK K
  refine Run.keep [0, 1, 2, 6, 7, 8, 9, 10, 11, 12, 13, 14] ?_; simp only [AK, Nat.reduceBEq]
  refine Run.nq ?_; refine Run.regionW hC (fun K hK => ?_); refine wW ?_
  refine FunA.cW hP hT (c_eqIntS (acX c a b) (acX c a b) (by have := acX_le c a b; omega)) ?_
  rintro rs o ⟨rfl, rfl⟩
  refine wW ?_
  refine wE ?_; clear hK K
  refine Run.keep [0, 1, 2, 6, 7, 8, 9, 10, 11, 12, 13, 14, 62] ?_; simp only [AK, Nat.reduceBEq]
  refine Run.nq ?_; refine Run.cW ?_ ?_
  · intro hc
    exfalso
    simp [iota_length, sumL_iotaR] at hc <;> omega
  intro hc0; clear hc0
  refine Run.nq ?_; refine Run.regionW hC (fun K hK => ?_); refine wW ?_
  refine FunA.cW hP hT (c_toIntSS c hcn hcr) ?_
  rintro rs o ⟨rfl, hs3, hs3l, rfl⟩
  refine wW ?_
  refine FunA.cW hP hT (c_eqIntSS (c) (c) (by omega) (fun r hr => by have := hcr r hr; omega)) ?_
  rintro rs o ⟨rfl, rfl⟩
  refine wW ?_
  refine wE ?_; clear hK K
  refine Run.keep [0, 1, 2, 6, 7, 8, 9, 10, 11, 12, 13, 14, 67] ?_; simp only [AK, Nat.reduceBEq]
  refine Run.nq ?_; refine Run.cW ?_ ?_
  · intro hc
    exfalso
    simp [iota_length, sumL_iotaR] at hc <;> omega
  intro hc0; clear hc0
  refine Run.nq ?_; refine Run.regionW hC (fun K hK => ?_); refine wW ?_
  refine FunA.cW hP hT (c_toIntS a ha) ?_
  rintro rs o ⟨rfl, rfl⟩
  refine wW ?_
  refine FunA.cW hP hT (c_eqIntS (a) (a) (by omega)) ?_
  rintro rs o ⟨rfl, rfl⟩
  refine wW ?_
  refine wE ?_; clear hK K
  refine Run.keep [0, 1, 2, 6, 7, 8, 9, 10, 11, 12, 13, 14, 72] ?_; simp only [AK, Nat.reduceBEq]
  refine Run.nq ?_; refine Run.cW ?_ ?_
  · intro hc
    exfalso
    simp [iota_length, sumL_iotaR] at hc <;> omega
  intro hc0; clear hc0
  refine Run.nq ?_; refine Run.regionW hC (fun K hK => ?_); refine wW ?_
  refine FunA.cW hP hT (c_toIntS b hb) ?_
  rintro rs o ⟨rfl, rfl⟩
  refine wW ?_
  refine FunA.cW hP hT (c_eqIntS (b) (b) (by omega)) ?_
  rintro rs o ⟨rfl, rfl⟩
  refine wW ?_
  refine wE ?_; clear hK K
  refine Run.keep [0, 1, 2, 6, 7, 8, 9, 10, 11, 12, 13, 14, 77] ?_; simp only [AK, Nat.reduceBEq]
  refine Run.nq ?_; refine Run.cW ?_ ?_
  · intro hc
    exfalso
    simp [iota_length, sumL_iotaR] at hc <;> omega
  intro hc0; clear hc0
  refine Run.R ?_
  refine Run.keep [0, 1, 2, 6, 7, 8, 9, 10, 11, 12, 13, 14, 15] ?_; simp only [AK, Nat.reduceBEq]
  refine Run.nq ?_; refine Run.regionW hC (fun K hK => ?_); refine wW ?_
  refine FunO.callMat hP hT (c_markIntSS hs2 (c) 1 (by omega) (by omega) true) 4 0 (by simp only [AW7, simprocAttr]; rfl) (by simp) (by simp only [AW7, simprocAttr]) ?_
  rintro rs o o2 ⟨rfl, h⟩; obtain ⟨rfl, rfl⟩ := List.cons.inj h
  refine wW ?_
  refine wE ?_; clear hK K
  refine Run.keep [0, 1, 2, 6, 7, 8, 9, 10, 11, 12, 13, 14, 15] ?_; simp only [AK, Nat.reduceBEq]
  refine Run.nq ?_; refine Run.regionW hC (fun K hK => ?_); refine wW ?_
  refine FunM.call hP hT (c_markIntS (a) (1 + (sumL (c) : Int)) (by omega) (by have := acX_le c a b; omega) true) 5 0 (by simp only [AW7, simprocAttr]; rfl) (by simp) rfl (by simp only [AW7, simprocAttr]; try simp) ?_
  rintro rs o o2 ⟨rfl, h⟩; obtain ⟨rfl, rfl⟩ := List.cons.inj h
  refine wW ?_
  refine wE ?_; clear hK K
  refine Run.keep [0, 1, 2, 6, 7, 8, 9, 10, 11, 12, 13, 14, 15] ?_; simp only [AK, Nat.reduceBEq]
  refine Run.nq ?_; refine Run.regionW hC (fun K hK => ?_); refine wW ?_
  refine FunM.call hP hT (c_markIntS (b) ((1 + (sumL (c) : Int)) + ((a).length : Int)) (by omega) (by have := acX_le c a b; omega) true) 6 0 (by simp only [AW7, simprocAttr]; rfl) (by simp) rfl (by simp only [AW7, simprocAttr]; try simp) ?_
  rintro rs o o2 ⟨rfl, h⟩; obtain ⟨rfl, rfl⟩ := List.cons.inj h
  refine wW ?_
  refine wE ?_; clear hK K
  refine Run.keep [0, 1, 2, 6, 7, 8, 9, 10, 11, 12, 13, 14, 15] ?_; simp only [AK, Nat.reduceBEq]
  refine Run.nq ?_; refine Run.regionW hC (fun K hK => ?_); refine wW ?_
  refine .inl (FunA.callG hP hT (c_eqIntS (acX c a b) (acX c a b) (by have := acX_le c a b; omega)) (fun _ => rfl) (fun _ => by simp only [AW7, simprocAttr]) ?_)
  refine wW ?_
  refine wE ?_; clear hK K
  refine Run.keep [0, 1, 2, 6, 7, 8, 9, 10, 11, 12, 13, 14, 15, 99] ?_; simp only [AK, Nat.reduceBEq]
  refine Run.nq ?_; refine Run.cW ?_ ?_
  · intro hc
    exfalso
    simp [iota_length, sumL_iotaR] at hc <;> omega
  intro hc0; clear hc0
  refine Run.R ?_
  refine Run.keep [0, 1, 2, 6, 7, 8, 9, 10, 11, 12, 13, 14, 15, 16] ?_; simp only [AK, Nat.reduceBEq]
  refine Run.nq ?_; refine Run.regionW hC (fun K hK => ?_); refine wW ?_
  refine FunM.call hP hT (c_markIntS (acX c a b) 1 (by have := acX_le c a b; omega) (by have := acX_le c a b; omega) true) 7 0 (by simp only [AW7, simprocAttr]; rfl) (by simp) rfl (by simp only [AW7, simprocAttr]; try simp) ?_
  rintro rs o o2 ⟨rfl, h⟩; obtain ⟨rfl, rfl⟩ := List.cons.inj h
  refine wW ?_
  refine wE ?_; clear hK K
  refine Run.keep [0, 1, 2, 6, 7, 8, 9, 10, 11, 12, 13, 14, 15, 16] ?_; simp only [AK, Nat.reduceBEq]
  refine Run.R ?_
  refine Run.keep [0, 1, 2, 6, 7, 8, 9, 10, 11, 12, 13, 14, 15, 16, 17] ?_; simp only [AK, Nat.reduceBEq]
  refine Run.nq ?_; refine Run.regionW hC (fun K hK => ?_); refine wW ?_
  refine FunA.cW hP hT (c_heldIota 1 (acX c a b).length (by have := acX_le c a b; omega) (by have := acX_le c a b; omega)) ?_
  rintro rs o ⟨rfl, rfl⟩
  refine wW ?_
  refine wE ?_; clear hK K
  refine Run.keep [0, 1, 2, 6, 7, 8, 9, 10, 11, 12, 13, 14, 15, 16, 17] ?_; simp only [AK, Nat.reduceBEq]
  refine Run.R ?_
  refine Run.keep [0, 1, 2, 6, 7, 8, 9, 10, 11, 12, 13, 14, 15, 16, 17, 107] ?_; simp only [AK, Nat.reduceBEq]
  refine Run.nq ?_; refine Run.cW ?_ ?_
  · intro hc
    exfalso
    simp [iota_length, sumL_iotaR] at hc <;> omega
  intro hc0; clear hc0
  refine Run.R ?_
  refine Run.keep [0, 1, 2, 6, 7, 8, 9, 10, 11, 12, 13, 14, 15, 16, 17, 110] ?_; simp only [AK, Nat.reduceBEq]
  refine Run.nq ?_; refine Run.cW ?_ ?_
  · intro hc
    exfalso
    simp [iota_length, sumL_iotaR] at hc <;> omega
  intro hc0; clear hc0
  refine Run.nq ?_; refine Run.regionW hC (fun K hK => ?_); refine wW ?_
  refine FunA.cW hP hT (c_toIntSS c hcn hcr) ?_
  rintro rs o ⟨rfl, hs4, hs4l, rfl⟩
  refine wW ?_
  refine FunA.cW hP hT (c_toIntS a ha) ?_
  rintro rs o ⟨rfl, rfl⟩
  refine wW ?_
  refine FunA.cW hP hT (c_toIntS b hb) ?_
  rintro rs o ⟨rfl, rfl⟩
  refine wW ?_
  refine FunA.cW hPJ hTJ (c_impl_AreConjugate c a b hcn) ?_
  rintro rs o ⟨rfl, rfl⟩
  refine wW ?_
  refine wE ?_; clear hK K
  refine Run.keep [0, 1, 2, 6, 7, 8, 9, 10, 11, 12, 13, 14, 15, 16, 17, 18, 19] ?_; simp only [AK, Nat.reduceBEq]
  refine Run.nq ?_; refine Run.regionW hC (fun K hK => ?_); refine wW ?_
  refine FunA.cW hP hT (c_eqIntS (acX c a b) (acX c a b) (by have := acX_le c a b; omega)) ?_
  rintro rs o ⟨rfl, rfl⟩
  refine wW ?_
  refine wE ?_; clear hK K
  refine Run.keep [0, 1, 2, 6, 7, 8, 9, 10, 11, 12, 13, 14, 15, 16, 17, 18, 19, 129] ?_; simp only [AK, Nat.reduceBEq]
  refine Run.nq ?_; refine Run.cW ?_ ?_
  · intro hc
    exfalso
    simp [iota_length, sumL_iotaR] at hc <;> omega
  intro hc0; clear hc0
  refine Run.R ?_
  refine Run.keep [0, 1, 2, 6, 7, 8, 9, 10, 11, 12, 13, 14, 15, 16, 17, 18, 19] ?_; simp only [AK, Nat.reduceBEq]
  refine Run.nq ?_; refine Run.regionW hC (fun K hK => ?_); refine wW ?_
  refine FunA.cW hP hT (c_heldIota 1 (acX c a b).length (by have := acX_le c a b; omega) (by have := acX_le c a b; omega)) ?_
  rintro rs o ⟨rfl, rfl⟩
  refine wW ?_
  refine wE ?_; clear hK K
  refine Run.keep [0, 1, 2, 6, 7, 8, 9, 10, 11, 12, 13, 14, 15, 16, 17, 18, 19] ?_; simp only [AK, Nat.reduceBEq]
  refine Run.R ?_
  refine Run.keep [0, 1, 2, 6, 7, 8, 9, 10, 11, 12, 13, 14, 15, 16, 17, 18, 19, 134] ?_; simp only [AK, Nat.reduceBEq]
  refine Run.nq ?_; refine Run.cW ?_ ?_
  · intro hc
    exfalso
    simp [iota_length, sumL_iotaR] at hc <;> omega
  intro hc0; clear hc0
  refine Run.R ?_
  refine Run.keep [0, 1, 2, 6, 7, 8, 9, 10, 11, 12, 13, 14, 15, 16, 17, 18, 19, 137] ?_; simp only [AK, Nat.reduceBEq]
  refine Run.nq ?_; refine Run.cW ?_ ?_
  · intro hc
    exfalso
    simp [iota_length, sumL_iotaR] at hc <;> omega
  intro hc0; clear hc0
  refine Run.R ?_
  refine Run.keep [0, 1, 2, 6, 7, 8, 9, 10, 11, 12, 13, 14, 15, 16, 17, 18, 19] ?_; simp only [AK, Nat.reduceBEq]
  refine Run.rW [6] (hfin _ _ rfl rfl ?_)
  rfl
end Go.Proofs.YtaghdbbcadhjdaaGreatDoor
namespace Go.Proofs.YtaghdbbcadhjdaaGreatDoor
open Go Go.Aw
theorem maxGl : Tryz.prog.globalNamed maxN = some (spltL_ren.g 1) := by kernel_rfl
theorem laidS {W : World} (hS : W.ShapedOpen Tryz.prog) : Laid Tryz.prog W (fun _ => False) :=
  ⟨fun g hg => (nomatch ((show Tryz.prog.globalNamed tabN = none by kernel_rfl).symm.trans hg)), fun g hg => ⟨fun k => k, by
    rw [← Option.some.inj (maxGl.symm.trans hg)]
    exact cell_of_shapedOpen_int (zero := #[.int .i64 0]) (t := 3) hS (of_decide_eq_true (by kernel_rfl)) (by kernel_rfl) (by kernel_rfl) (by kernel_rfl) (by kernel_rfl) Tryz.underlying3⟩⟩
end Go.Proofs.YtaghdbbcadhjdaaGreatDoor
namespace Go
variable {H : Type} {enc : TypeId × Value → H}
theorem handed_and_shaped {a : Assume} {C : Checked} {os : Os} {f : FuncId} {fn : Func} {s : ChangeSpec} {conds : List PathCond} {apart fresh handsOn again : Bool} {X : World → Array Value → Prop}
    (hX : ∀ (w w' : World) (args : Array Value), w.heap = w'.heap → X w args → X w' args)
    (own : ownKnob C.prog.godebug = none) (started : os.Started) (noInit : C.prog.inits.idxOf? f = none) (hfn : C.prog.funcs[f]? = some fn)
    (witness : ∃ (w : World) (tape : Tape) (i : Input), w.os = os ∧ (w.forCall tape i).Shaped C.prog ∧ i.vars = [] ∧ Input.okWide C.prog (w.forCall tape i) .any w.heap.size f i ∧
      ((s.pre enc C.prog fn conds apart (w.forCall tape i).memory i.args ∧ X (w.forCall tape i).memory i.args) ∧ sizedMet enc C.prog fn (OpenSpec.ofChange s) apart (w.forCall tape i).memory i.args) ∧ a.holds C.prog (lone (Frame.enter C.prog f i.args .normal) [] (w.forCall tape i)))
    (contract : ∀ (W : World) (base : Nat) (args : Array Value) (ds gs : List (DataW H)) (before : List MemPlace),
      (∀ (j : Nat) t v, fn.params[j]? = some t → args[j]? = some v → Value.okWide C.prog W .any base t v) →
      DataW.Whole enc C.prog fn.params.toList s.vars apart W args.toList ds gs before →
      conds.all (PathCond.test C.prog ⟨fn.params.toList, ds, s.plain.varTypes C.prog, gs⟩) = true →
      (DataW.weightsEach C.prog (fn.params.toList ++ s.plain.varTypes C.prog) (ds ++ gs)).all (· ≤ reachBytes) = true → X W args → W.ShapedOpen C.prog →
      a.holds C.prog (lone (Frame.enter C.prog f args .normal) [] W) →
      Calls C.prog f args W fun e W' => ∃ v, e = .returned v ∧ s.post enc C.prog fn apart fresh handsOn again W args v W') :
    ReturnsInHanded a C os f .any (fun w args => (s.pre enc C.prog fn conds apart w args ∧ X w args) ∧ sizedMet enc C.prog fn (OpenSpec.ofChange s) apart w args) (s.post enc C.prog fn apart fresh handsOn again) := by
  refine returnsInHanded_of_calls own started noInit witness ?_
  intro w tape i _ hsh _ hok hpre hholds
  obtain ⟨_, _, _, fn', hfn', _, _, _, _, hval⟩ := hok
  have e : fn' = fn := Option.some.inj (hfn'.symm.trans hfn)
  subst e
  obtain ⟨⟨⟨ds, gs, before, hw, hc⟩, hx⟩, hz⟩ := hpre
  have hw' := DataW.Whole.of_heap (w' := w.forCall tape i) (by rfl) hw
  refine (contract (w.forCall tape i) w.heap.size i.args ds gs before hval hw' hc (hz.weights hw) (hX _ _ _ (by rfl) hx) hsh hholds).mono fun e W' ⟨v, he, hp⟩ => ?_
  subst he
  exact ChangeSpec.post_blind hp
end Go
