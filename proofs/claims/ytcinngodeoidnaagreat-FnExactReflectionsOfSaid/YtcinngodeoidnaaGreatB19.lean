/- The reflections with all positive roots: both sides. -/
import Derived.Test.YtcinngodeoidnaaGreatB18
import Derived.Test.YtcinngodeoidnaaGreatB12
import Derived.Test.YtcinngodeoidnaaGreatB13
import Derived.Test.YtcinngodeoidnaaGreatB10
set_option linter.unusedVariables false
set_option linter.unusedSimpArgs false
namespace Go.Proofs.YtcinngodeoidnaaGreat
open Go Go.Aw Go.Cox
noncomputable def rofB (c : List (List Int)) : Bool := isF c && (rutO c 12).all (rflB c)
noncomputable def rofX (c : List (List Int)) : List (List Int) := if rofB c = true then srt ((rutO c 12).map (rflX c)) else []
theorem rof_nodup {c : List (List Int)} (hA : RAll c 12 (rutO c 12)) : ∀ {L : List (List Int)}, L.Sublist (rutO c 12) → L.all (rflB c) = true → (L.map (rflX c)).Nodup := by
  intro L hs hb
  have hn := (strR_nodup hA.1.st).sublist hs
  clear hs
  induction L with
  | nil => exact List.nodup_nil
  | cons r L ih =>
    simp only [List.all_cons, Bool.and_eq_true] at hb
    obtain ⟨h1, h2⟩ := List.nodup_cons.1 hn
    refine List.nodup_cons.2 ⟨fun hm => ?_, ih hb.2 h2⟩
    obtain ⟨r', hr', e⟩ := List.mem_map.1 hm
    have := rfl_inj (List.all_eq_true.1 hb.2 r' hr') hb.1 e
    exact h1 (this ▸ hr')
theorem rut_len {c : List (List Int)} (hA : RAll c 12 (rutO c 12)) (hc : CartanP c) : (rutO c 12).length ≤ 28561 := hA.1.len hc.2.1 (by omega) (by omega)
theorem rofX_len (c : List (List Int)) : (rofX c).length ≤ 28561 := by
  unfold rofX
  split
  · rename_i h
    unfold rofB at h
    simp only [Bool.and_eq_true] at h
    have hF := isF_iff.1 h.1
    have := srt_len ((rutO c 12).map (rflX c))
    rw [List.length_map] at this
    by_cases k : ∃ L, RAll c 12 L
    · obtain ⟨L, hL⟩ := k
      have e := rutO_eq hF.1 ⟨by omega, by omega⟩ hL
      have := rut_len (by rw [e]; exact hL) hF.1
      omega
    · have e : rutO c 12 = [] := by unfold rutO; rw [dif_neg fun q => k q.2.2]
      rw [e] at this ⊢
      simp only [List.map_nil, List.length_nil] at this ⊢
      omega
  · simp
theorem srt_mem2 {L : List (List Int)} {z : List Int} (h : z ∈ srt L) : z ∈ L := by
  exact ((srt_spec L).2 z).1 h
theorem rofX_rows (c : List (List Int)) : ∀ r ∈ rofX c, r.length ≤ 15 := fun r hr => by
  unfold rofX at hr
  split at hr
  · obtain ⟨z, _, rfl⟩ := List.mem_map.1 (srt_mem2 hr)
    exact rflX_le c z
  · cases hr
theorem take_all {α : Type} (f : α → Bool) (L : List α) (k : Nat) (d : α) (hk : k < L.length) : (L.take (k + 1)).all f = ((L.take k).all f && f (L.getD k d)) := by
  rw [List.take_succ_eq_append_getElem hk, List.all_append]
  simp [List.getD_eq_getElem?_getD, hk]
theorem all_false2 {α : Type} {f : α → Bool} {L : List α} {k : Nat} {d : α} (hk : k < L.length) (h : f (L.getD k d) = false) : L.all f = false := by
  rw [List.all_eq_false]
  refine ⟨L[k], List.getElem_mem hk, ?_⟩
  rw [List.getD_eq_getElem?_getD, List.getElem?_eq_getElem hk, Option.getD_some] at h
  simp [h]
set_option maxHeartbeats 1000000 in
theorem c_impl_ReflectionsOfR (c : List (List Int)) :
    FunA B 17 [.sl false (.row false) c] (fun rs o => ∃ ys g nn rest, (rw2 ys = rofX c ∧ nn = true ∧ rest = [.bool (rofB c)]) ∧ (lb1 ys).Nodup ∧ rest.all flatAV = true ∧ rs = .own 0 g :: rest ∧ o = [.arr .lrow ys g nn]) := by
  refine FunA.walk B_ok (fn := Tryz.f17) (fun vs w => Tryz.call17 vs w) Tryz.func17 rfl (by rw [Tryz.ntmps17]; simp) (fun C hC hP hT hΓ hbt hfn hpin hfin => ?_); have hX := BX; rw [← hΓ, ← hbt.1, ← hbt.2.1, ← hbt.2.2.1, ← hbt.2.2.2.2] at hX; rw [hT] at hX; rw [Tryz.ntmps17]; simp only [AW7, simprocAttr, hX]
  refine Run.R ?_
  refine Run.nq ?_; refine Run.regionW hC (fun K hK => ?_); refine wW ?_
  refine FunA.cW hP hT (c_impl_PositiveRoots c) ?_
  rintro rs o ⟨rfl, hA, L, hL, rfl⟩
  refine wW ?_
  refine wE ?_; clear hK K
  refine Run.R ?_
  refine Run.nq ?_; refine Run.cW ?_ ?_
  · intro h
    have h : isF c = false := by simpa using h
    have hb : rofB c = false := by unfold rofB; rw [h]; rfl
    have hx : rofX c = [] := by unfold rofX; rw [hb]; rfl
    refine Run.R ?_
    refine Run.reK hpin [2, 3] [1] (by decide) (by simp) ?_; simp only [AR, AW7, simprocAttr]
    refine Run.rW [2, 3] (hfin _ _ rfl rfl ?_)
    exact ⟨[], 0, true, [.bool false], ⟨hx.symm, rfl, by rw [hb]⟩, List.nodup_nil, rfl, rfl, rfl⟩
  intro h
  have h : isF c = true := by simpa using h
  have hF := isF_iff.1 h
  have hA := hA h
  rw [if_pos h] at hL
  subst hL
  have hll := rut_len hA hF.1
  generalize hLe : rutO c 12 = L at *
  refine Run.R ?_
  refine Run.R ?_
  refine Run.reK hpin [0, 2, 3, 6, 20, 21, 22] [0, 1] (by decide) (by simp) ?_; simp only [AR, AW7, simprocAttr]
  refine Run.loopI (X := Nat × List (Nat × List Int)) (fun x => ⟨43, [(0, true, .v (.sl false (.row false) (c))), (2, true, .v (.nils)), (3, true, .v (.bool (false))), (6, true, .v (.own 1 0)), (20, true, .v (.own 0 0)), (21, true, .v (.int .i64 ((L.length : Nat)))), (22, true, .v (.int .i64 (x.1)))], [.arr (.row true) (L) 0 true, .arr .lrow (x.2) 0 true]⟩) (fun x => x.1 ≤ L.length ∧ (L.take x.1).all (rflB c) = true ∧ rw2 x.2 = (L.take x.1).map (rflX c) ∧ (lb1 x.2).Nodup) (fun x => L.length - x.1) ((0, [])) (⟨Nat.zero_le _, rfl, rfl, by simp [lb1]⟩) ?_ ?_
  · exact Le.sub (by first | rfl | simp) (by simp only [AW7, simprocAttr, hX]; try simp <;> try (first | rfl | exact ⟨rfl, rfl⟩ | exact ⟨rfl, rfl, rfl⟩))
  rintro ⟨k, ys⟩ ⟨hk, hB, hE, hN⟩ ih
  try simp only []
  simp only [] at hk hB hE hN
  have hyl : ys.length = k := by have := congrArg List.length hE; simpa [rw2, hk] using this
  refine Run.R ?_
  refine Run.nq ?_; refine Run.cW ?_ ?_
  · intro q
    have q : k < L.length := by rw [decide_eq_true_eq] at q; omega
    refine Run.R ?_
    refine Run.nq ?_; refine Run.regionW hC (fun K hK => ?_); refine wW ?_
    refine FunA.cW hP hT (c_impl_ReflectionOf c (L.getD k [])) ?_
    rintro rs o ⟨rfl, rfl⟩
    refine wW ?_
    refine wE ?_; clear hK K
    refine Run.R ?_
    refine Run.nq ?_; refine Run.cW ?_ ?_
    · intro hr
      have hr : rflB c (L.getD k []) = false := by simpa using hr
      have hb : rofB c = false := by unfold rofB; rw [h, hLe, all_false2 q hr]; rfl
      have hx : rofX c = [] := by unfold rofX; rw [hb]; rfl
      refine Run.R ?_
      refine Run.reK hpin [2, 3] [3] (by decide) (by simp) ?_; simp only [AR, AW7, simprocAttr]
      refine Run.rW [2, 3] (hfin _ _ rfl rfl ?_)
      exact ⟨[], 0, true, [.bool false], ⟨hx.symm, rfl, by rw [hb]⟩, List.nodup_nil, rfl, rfl, rfl⟩
    intro hr
    have hr : rflB c (L.getD k []) = true := by simpa using hr
    have hE2 : rw2 (ys ++ [(0, rflX c (L.getD k []))]) = (L.take (k + 1)).map (rflX c) := by
      rw [rw2_app, hE, List.take_succ_eq_append_getElem q, List.map_append]
      simp [rw2, List.getD_eq_getElem?_getD, q]
    refine Run.nq ?_; refine Run.regionW hC (fun K hK => ?_); refine wW ?_
    intro l hl
    (repeat (with_reducible refine And.intro ?_ ?_); exact vc0)
    refine wE ?_; clear hK K
    have hN2 : (lb1 (ys ++ [(l, rflX c (L.getD k []))])).Nodup := by
      have := lb_ins (ys := []) (i := 0) (w := rflX c (L.getD k [])) (by simpa [lb1] using hN) (hl (.arr .lrow ys 0 true) (by simp) _ _ _ rfl) (by simp)
      simpa [lb1] using this
    refine Run.RW ?_
    refine Run.reK hpin [0, 2, 3, 6, 20, 21, 22] [0, 1] (by decide) (by simp) ?_; simp only [AR, AW7, simprocAttr]
    refine Run.le ?_ (ih (k + 1, ys ++ [(l, rflX c (L.getD k []))]) ⟨q, by simp only []; rw [take_all _ _ _ [] q, hB, hr]; rfl, by simp only [rw2, List.map_append, List.map_cons, List.map_nil] at hE2 ⊢; exact hE2, hN2⟩ (by simp only []; omega))
    exact Le.sub (by rfl) (by simp only [AW7, simprocAttr]; try simp)
  intro q
  have q : k = L.length := by rw [decide_eq_false_iff_not] at q; omega
  subst q
  rw [List.take_length] at hB hE
  have hb : rofB c = true := by unfold rofB; rw [h, hLe, hB]; rfl
  have hx : rofX c = srt (L.map (rflX c)) := by unfold rofX; rw [if_pos hb, hLe]
  refine Run.exit rfl ?_; refine Run.nq ?_
  refine Run.nq ?_; refine Run.regionW hC (fun K hK => ?_); refine wW ?_
  refine ACall.sort hP hT srtL rfl cmpW_swo 1 0 rfl (by omega) (fun a b ha _ => c_impl_CompareWords a b ?_) ?_
  · rcases ha with rfl | ha
    · simp
    · have ha : a ∈ rw2 ys := ha
      rw [hE] at ha
      obtain ⟨z, _, rfl⟩ := List.mem_map.1 ha
      have := rflX_le c z
      omega
  intro ys' hp hs
  refine wW ?_
  refine wE ?_; clear hK K
  refine Run.R ?_
  refine Run.reK hpin [2, 3] [1] (by decide) (by simp) ?_; simp only [AR, AW7, simprocAttr]
  refine Run.rW [2, 3] (hfin _ _ rfl rfl ?_)
  refine ⟨ys', 0, true, [.bool true], ⟨?_, rfl, by rw [hb]⟩, ?_, rfl, rfl, rfl⟩
  · rw [hx]
    refine sorted_srt (rof_nodup (by rw [hLe]; exact hA) (by rw [hLe]; exact List.Sublist.refl _) hB) ?_ ?_
    · rw [← hE]; exact hp.map _
    · exact List.pairwise_map.2 hs
  · exact (hp.map _).nodup_iff.2 hN
theorem c_impl_ReflectionsOf (c : List (List Int)) :
    FunA B 17 [.sl false (.row false) c] (fun rs o => rs = [.own 0 0, .bool (rofB c)] ∧ ∃ hs, hs.length = (rofX c).length ∧ o = [.mat hs (rofX c) 0 true]) :=
  (FunA.mat (by rfl) (post := fun rows nn rest => rows = rofX c ∧ nn = true ∧ rest = [.bool (rofB c)]) (c_impl_ReflectionsOfR c)).mono fun rs o ⟨hs, rows, nn, rest, ⟨h1, h2, h3⟩, h4, h5, h6⟩ => by subst h1 h2 h3; exact ⟨h5, hs, h4, h6⟩
set_option maxHeartbeats 1000000 in
theorem c_spec_ReflectionsOfR (c : List (List Int)) :
    FunA B 18 [.sl false (.row false) c] (fun rs o => ∃ ys g nn rest, (rw2 ys = rofX c ∧ nn = true ∧ rest = [.bool (rofB c)]) ∧ (lb1 ys).Nodup ∧ rest.all flatAV = true ∧ rs = .own 0 g :: rest ∧ o = [.arr .lrow ys g nn]) := by
  refine FunA.walk B_ok (fn := Tryz.f18) (fun vs w => Tryz.call18 vs w) Tryz.func18 rfl (by rw [Tryz.ntmps18]; simp) (fun C hC hP hT hΓ hbt hfn hpin hfin => ?_); have hX := BX; rw [← hΓ, ← hbt.1, ← hbt.2.1, ← hbt.2.2.1, ← hbt.2.2.2.2] at hX; rw [hT] at hX; rw [Tryz.ntmps18]; simp only [AW7, simprocAttr, hX]
  refine Run.R ?_
  refine Run.R ?_
  refine Run.nq ?_; refine Run.regionW hC (fun K hK => ?_); refine wW ?_
  refine FunA.cW hP hT (c_spec_PositiveRoots c) ?_
  rintro rs o ⟨rfl, ps, hA, hz, hps, rfl⟩
  refine wW ?_
  refine wE ?_; clear hK K
  refine Run.R ?_
  cases h : isF c with
  | false =>
    have hb : rofB c = false := by unfold rofB; rw [h]; rfl
    have hx : rofX c = [] := by unfold rofX; rw [hb]; rfl
    have hz := hz h
    subst hz
    refine Run.loopI (X := Unit) (fun _ => ⟨42, [(0, true, .v (.sl false (.row false) c)), (4, true, .v (.own 0 0)), (5, true, .v (.own 1 0)), (6, true, .v (.bool false)), (7, true, .v (.int .i64 0))], [.arr .lrow [] 0 true, .arr .lrow [] 0 true]⟩) (fun _ => True) (fun _ => 0) () trivial ?_ ?_
    · exact Le.sub (by rfl) (by simp only [AW7, simprocAttr, hX]; try simp)
    rintro _ _ _
    refine Run.R ?_
    refine Run.nq ?_; refine Run.cW ?_ ?_
    · intro q; simp at q
    intro _
    refine Run.exit rfl ?_; refine Run.nq ?_
    refine Run.R ?_
    refine Run.reK hpin [2, 3] [0] (by decide) (by simp) ?_; simp only [AR, AW7, simprocAttr]
    refine Run.rW [2, 3] (hfin _ _ rfl rfl ?_)
    exact ⟨[], 0, true, [.bool false], ⟨hx.symm, rfl, by rw [hb]⟩, List.nodup_nil, rfl, rfl, rfl⟩
  | true =>
    have hF := isF_iff.1 h
    have hA := hA h
    have hRe : rutO c 12 = rw2 ps := rutO_eq hF.1 ⟨by omega, by omega⟩ hA
    have hAr : RAll c 12 (rutO c 12) := by rw [hRe]; exact hA
    have hll := rut_len hAr hF.1
    rw [hRe] at hll
    have hll : ps.length ≤ 28561 := by simpa [rw2] using hll
    have hgk : ∀ k, k < ps.length → (rutO c 12).getD k [] = (ps.getD k (0, [])).2 := fun k hk => by rw [hRe]; simp [rw2, List.getD_eq_getElem?_getD, hk]
    have hlen : (rutO c 12).length = ps.length := by rw [hRe]; simp [rw2]
    generalize hLe : rutO c 12 = L at *
    refine Run.reK hpin [0, 4, 5, 6, 7] [0, 1] (by decide) (by simp) ?_; simp only [AR, AW7, simprocAttr]
    refine Run.loopI (X := Nat × List (Nat × List Int)) (fun x => ⟨42, [(0, true, .v (.sl false (.row false) (c))), (4, true, .v (.own 0 0)), (5, true, .v (.own 1 0)), (6, true, .v (.bool (true))), (7, true, .v (.int .i64 (x.1)))], [.arr .lrow (x.2) 0 true, .arr .lrow (ps) 0 true]⟩) (fun x => x.1 ≤ L.length ∧ (L.take x.1).all (rflB c) = true ∧ rw2 x.2 = srt ((L.take x.1).map (rflX c)) ∧ (lb1 x.2).Nodup) (fun x => L.length - x.1) ((0, [])) (⟨Nat.zero_le _, rfl, rfl, by simp [lb1]⟩) ?_ ?_
    · exact Le.sub (by first | rfl | simp) (by simp only [AW7, simprocAttr, hX]; try simp <;> try (first | rfl | exact ⟨rfl, rfl⟩ | exact ⟨rfl, rfl, rfl⟩))
    rintro ⟨k, ys⟩ ⟨hk, hB, hE, hN⟩ ih
    try simp only []
    simp only [] at hk hB hE hN
    have hyl : ys.length ≤ k := by
      have := srt_len ((L.take k).map (rflX c))
      rw [← hE] at this
      simp [rw2] at this
      omega
    refine Run.R ?_
    refine Run.nq ?_; refine Run.cW ?_ ?_
    · intro q
      have q : k < L.length := by
        cases hd : decide ((k : Int) < ps.length) with
        | true => rw [decide_eq_true_eq] at hd; omega
        | false => rw [hd] at q; cases q
      have hg := hgk k (by omega)
      refine Run.nq ?_; refine Run.regionW hC (fun K hK => ?_); refine wW ?_
      refine FunA.cW hP hT (c_spec_ReflectionOf c (ps.getD k (0, [])).2) ?_
      rintro rs o ⟨rfl, rfl⟩
      rw [← hg]
      refine wW ?_
      refine wE ?_; clear hK K
      refine Run.R ?_
      refine Run.nq ?_; refine Run.cW ?_ ?_
      · intro hr
        have hr : rflB c (L.getD k []) = false := by simpa using hr
        have hb : rofB c = false := by unfold rofB; rw [h, hLe, all_false2 q hr]; rfl
        have hx : rofX c = [] := by unfold rofX; rw [hb]; rfl
        refine Run.R ?_
        refine Run.reK hpin [2, 3] [3] (by decide) (by simp) ?_; simp only [AR, AW7, simprocAttr]
        refine Run.rW [2, 3] (hfin _ _ rfl rfl ?_)
        exact ⟨[], 0, true, [.bool false], ⟨hx.symm, rfl, by rw [hb]⟩, List.nodup_nil, rfl, rfl, rfl⟩
      intro hr
      have hr : rflB c (L.getD k []) = true := by simpa using hr
      have hst : (L.take (k + 1)).map (rflX c) = (L.take k).map (rflX c) ++ [rflX c (L.getD k [])] := by
        rw [List.take_succ_eq_append_getElem q, List.map_append]
        simp [List.getD_eq_getElem?_getD, q]
      have hxl := rflX_le c (L.getD k [])
      refine Run.nq ?_; refine Run.regionW hC (fun K hK => ?_); refine wW ?_
      refine FunM.call hP hT (c_spec_l11Put ys (rflX c (L.getD k [])) hN (by omega) (by omega) true) 0 0 (by simp only [AW7, simprocAttr]; rfl) (by simp) rfl (by simp only [AW7, simprocAttr]; try simp) ?_
      rintro rs o' obs' ⟨rfl, ys', hy', hN', e⟩
      injection e with e1 e2
      subst e1 e2
      refine wW ?_
      refine wE ?_; clear hK K
      refine Run.RW ?_
      refine Run.reK hpin [0, 4, 5, 6, 7] [3, 1] (by decide) (by simp) ?_; simp only [AR, AW7, simprocAttr]
      refine Run.le ?_ (ih (k + 1, ys') ⟨q, by simp only []; rw [take_all _ _ _ [] q, hB, hr]; rfl, by simp only []; rw [hy', hE, hst, srt_snoc], hN'⟩ (by simp only []; omega))
      exact Le.sub (by rfl) (by simp only [AW7, simprocAttr]; try simp)
    intro q
    have q : k = L.length := by
      cases hd : decide ((k : Int) < ps.length) with
      | true => rw [hd] at q; cases q
      | false => rw [decide_eq_false_iff_not] at hd; omega
    subst q
    rw [List.take_length] at hB hE
    have hb : rofB c = true := by unfold rofB; rw [h, hLe, hB]; rfl
    have hx : rofX c = srt (L.map (rflX c)) := by unfold rofX; rw [if_pos hb, hLe]
    refine Run.exit rfl ?_; refine Run.nq ?_
    refine Run.R ?_
    refine Run.reK hpin [2, 3] [0] (by decide) (by simp) ?_; simp only [AR, AW7, simprocAttr]
    refine Run.rW [2, 3] (hfin _ _ rfl rfl ?_)
    exact ⟨ys, 0, true, [.bool true], ⟨by rw [hx]; exact hE, rfl, by rw [hb]⟩, hN, rfl, rfl, rfl⟩
theorem c_spec_ReflectionsOf (c : List (List Int)) :
    FunA B 18 [.sl false (.row false) c] (fun rs o => rs = [.own 0 0, .bool (rofB c)] ∧ ∃ hs, hs.length = (rofX c).length ∧ o = [.mat hs (rofX c) 0 true]) :=
  (FunA.mat (by rfl) (post := fun rows nn rest => rows = rofX c ∧ nn = true ∧ rest = [.bool (rofB c)]) (c_spec_ReflectionsOfR c)).mono fun rs o ⟨hs, rows, nn, rest, ⟨h1, h2, h3⟩, h4, h5, h6⟩ => by subst h1 h2 h3; exact ⟨h5, hs, h4, h6⟩
end Go.Proofs.YtcinngodeoidnaaGreat
namespace Go.Proofs.YtcinngodeoidnaaGreat
open Go Go.Aw
theorem sumL_le {rows : List (List Int)} {n m : Nat} (h : rows.length ≤ n) (hr : ∀ r ∈ rows, r.length ≤ m) : sumL rows ≤ n * m := by
  have key : ∀ l : List (List Int), (∀ r ∈ l, r.length ≤ m) → sumL l ≤ l.length * m := by
    intro l
    induction l with
    | nil => intro _; simp [sumL]
    | cons r l ih =>
      intro hl
      have h1 := hl r (by simp)
      have h2 := ih fun x hx => hl x (List.mem_cons_of_mem _ hx)
      simp only [sumL, List.length_cons, Nat.add_mul]
      omega
  exact Nat.le_trans (key rows hr) (Nat.mul_le_mul_right m h)
theorem c_heldIotaR (k : Int) (rows : List (List Int)) (hr : rows.length ≤ 4503599627370496) (hrr : ∀ r ∈ rows, r.length ≤ 4503599627370496) (hk : 0 ≤ k ∧ k + sumL rows ≤ 4503599627370496) :
    FunA B 67 [.sl false (.row false) (iotaR k rows), .int .i64 k] (fun rs o => rs = [.int .i64 (k + sumL rows)] ∧ o = []) := by
  have hlen := iotaR_length k rows
  refine FunA.walk B_ok (fn := Tryz.f67) (fun vs w => Tryz.call67 vs w) Tryz.func67 rfl (by rw [Tryz.ntmps67]; simp) (fun C hC hP hT hΓ hbt hfn hpin hfin => ?_); have hX := BX; rw [← hΓ, ← hbt.1, ← hbt.2.1, ← hbt.2.2.1, ← hbt.2.2.2.2] at hX; rw [hT] at hX; rw [Tryz.ntmps67]; simp only [AW7, simprocAttr, hX]
  refine Run.R ?_
  refine Run.R ?_
  refine Run.loopI (X := Nat) (fun i => ⟨21, [(0, true, .v (.sl false (.row false) (iotaR k rows))), (1, true, .v (.int .i64 (k + sumL (rows.take i)))), (4, true, .v (.int .i64 0)), (5, true, .v (.int .i64 i))], []⟩) (fun i => i ≤ rows.length) (fun i => rows.length - i) 0 (Nat.zero_le _) ?_ ?_
  · refine Le.sub rfl ?_
    simp only [AW7, simprocAttr, hX]; try simp [sumL]
  rintro i hi ih
  have hst := sumL_take rows i
  refine Run.R ?_
  rw [hlen]
  refine Run.nq ?_; refine Run.cW ?_ ?_
  · intro hc
    have hc : i < rows.length := by simpa using hc
    have hsn := sumL_snoc rows i hc
    have hst2 := sumL_take rows (i + 1)
    have hget : (iotaR k rows).getD i [] = iota (k + sumL (rows.take i)) (rows.getD i []).length := by
      have h1 : iotaR k rows = iotaR k (rows.take (i + 1)) ++ iotaR (k + sumL (rows.take (i + 1))) (rows.drop (i + 1)) := by rw [← iotaR_append, List.take_append_drop]
      rw [h1, iotaR_snoc k rows i hc, List.append_assoc, List.getD_eq_getElem?_getD, List.getElem?_append_right (by rw [iotaR_length]; simp; omega)]
      rw [iotaR_length]
      simp [show min i rows.length = i by omega]
    have hrl := hrr (rows.getD i []) (by rw [List.getD_eq_getElem?_getD]; simp [hc])
    refine Run.nq ?_; refine Run.regionW hC (fun K hK => ?_); refine wW ?_
    rw [hget]
    refine FunA.cW hP hT (c_heldIota (k + sumL (rows.take i)) (rows.getD i []).length hrl (by omega)) ?_
    rintro rs o ⟨rfl, rfl⟩
    refine wW ?_
    refine wE ?_; clear hK K
    refine Run.R ?_
    refine Run.nq ?_; refine Run.cW ?_ ?_
    · intro h2; simp at h2; omega
    intro h2
    refine Run.RW ?_
    rw [show k + (sumL (rows.take i) : Int) + ((rows.getD i []).length : Nat) = k + (sumL (rows.take (i + 1)) : Nat) by rw [hsn]; omega]
    refine Run.le ?_ (ih (i + 1) (by omega) (by (try simp only [List.length_append, List.length_cons, List.length_nil]); omega))
    exact Le.sub (by rfl) (by simp only [AW7, simprocAttr]; try simp)
  · intro hc
    have hc : i = rows.length := by simp at hc; omega
    subst hc
    rw [List.take_length]
    refine Run.exit rfl ?_; refine Run.nq ?_
    refine Run.R ?_
    refine Run.rW [4] (hfin _ _ rfl rfl ?_)
    exact ⟨rfl, rfl⟩
end Go.Proofs.YtcinngodeoidnaaGreat
namespace Go.Proofs.YtcinngodeoidnaaGreat
open Go Go.Aw
theorem c_FnExactReflectionsOf (c : List (List Int)) (_ : ∀ r ∈ c, ∀ n ∈ r, (Lit.int .i64 n).wf = true) : FunA B 5 [.sl false (.row false) c] (fun rs _ => rs = [.bool true]) := by
  refine FunA.walk B_ok (fn := Tryz.f5) (fun vs w => Tryz.call5 vs w) Tryz.func5 rfl (by rw [Tryz.ntmps5]; simp) (fun C hC hP hT hΓ hbt hfn hpin hfin => ?_); have hX := BX; rw [← hΓ, ← hbt.1, ← hbt.2.1, ← hbt.2.2.1, ← hbt.2.2.2.2] at hX; rw [hT] at hX; rw [Tryz.ntmps5]; simp only [AW7, simprocAttr, hX]
  refine Run.R ?_
  refine Run.keep [0, 2] ?_; simp only [AK, Nat.reduceBEq]
  refine Run.R ?_
  refine Run.keep [0, 2, 3] ?_; simp only [AK, Nat.reduceBEq]
  refine Run.nq ?_; refine Run.regionW hC (fun K hK => ?_); refine wW ?_
  refine FunA.cW hP hT (c_szIntSS c (1048576) ⟨by omega, by omega⟩) ?_
  rintro rs o ⟨rfl, rfl⟩
  refine wW ?_
  refine wE ?_; clear hK K
  refine Run.keep [0, 2, 3] ?_; simp only [AK, Nat.reduceBEq]
  refine Run.R ?_
  refine Run.keep [0, 2, 3, 18] ?_; simp only [AK, Nat.reduceBEq]
  refine Run.nq ?_; refine Run.cW ?_ ?_
  · intro hc
    refine Run.R ?_
    refine Run.rW [2] (hfin _ _ rfl rfl ?_)
    rfl
  intro hc
  have hzc : 0 ≤ szII c (1048576) := by simp at hc; omega
  clear hc
  have hbc := szII_all c (1048576) ⟨by omega, by omega⟩ hzc
  obtain ⟨hcn, hcr, hcs, hcl⟩ := hbc
  refine Run.nq ?_; refine Run.regionW hC (fun K hK => ?_); refine wW ?_
  refine FunA.cW hP hT (c_toIntSS c hcn hcr) ?_
  rintro rs o ⟨rfl, hs1, hs1l, rfl⟩
  refine wW ?_
  refine FunA.cW hP hT (c_spec_ReflectionsOf c) ?_
  rintro rs o ⟨rfl, hs2, hs2l, rfl⟩
  refine wW ?_
  refine wE ?_; clear hK K
  refine Run.keep [0, 2, 3, 4, 5] ?_; simp only [AK, Nat.reduceBEq]
  refine Run.nq ?_; refine Run.regionW hC (fun K hK => ?_); refine wW ?_
  refine FunA.cW hP hT (c_toIntSS c hcn hcr) ?_
  rintro rs o ⟨rfl, hs3, hs3l, rfl⟩
  refine wW ?_
  refine wE ?_; clear hK K
  refine Run.keep [0, 2, 3, 4, 5, 6] ?_; simp only [AK, Nat.reduceBEq]
  refine Run.nq ?_; refine Run.regionW hC (fun K hK => ?_); refine wW ?_
  refine FunA.cW hP hT (c_impl_ReflectionsOf c) ?_
  rintro rs o ⟨rfl, hs4, hs4l, rfl⟩
  refine wW ?_
  refine wE ?_; clear hK K
  refine Run.keep [0, 2, 3, 4, 5, 6, 7, 8] ?_; simp only [AK, Nat.reduceBEq]
  refine Run.nq ?_; refine Run.regionW hC (fun K hK => ?_); refine wW ?_
  refine FunA.cW hP hT (c_eqIntSS (rofX c) (rofX c) (by have := rofX_len c; omega) (fun r hr => by have := rofX_rows c r hr; omega)) ?_
  rintro rs o ⟨rfl, rfl⟩
  refine wW ?_
  refine wE ?_; clear hK K
  refine Run.keep [0, 2, 3, 4, 5, 6, 7, 8, 40] ?_; simp only [AK, Nat.reduceBEq]
  refine Run.nq ?_; refine Run.cW ?_ ?_
  · intro hc
    exfalso
    simp [iota_length, sumL_iotaR] at hc <;> omega
  intro hc0; clear hc0
  refine Run.nq ?_; refine Run.regionW hC (fun K hK => ?_); refine wW ?_
  refine FunA.cW hP hT (c_toIntSS c hcn hcr) ?_
  rintro rs o ⟨rfl, hs5, hs5l, rfl⟩
  refine wW ?_
  refine FunA.cW hP hT (c_eqIntSS (c) (c) (by omega) (fun r hr => by have := hcr r hr; omega)) ?_
  rintro rs o ⟨rfl, rfl⟩
  refine wW ?_
  refine wE ?_; clear hK K
  refine Run.keep [0, 2, 3, 4, 5, 6, 7, 8, 45] ?_; simp only [AK, Nat.reduceBEq]
  refine Run.nq ?_; refine Run.cW ?_ ?_
  · intro hc
    exfalso
    simp [iota_length, sumL_iotaR] at hc <;> omega
  intro hc0; clear hc0
  refine Run.R ?_
  refine Run.keep [0, 2, 3, 4, 5, 6, 7, 8, 9] ?_; simp only [AK, Nat.reduceBEq]
  refine Run.nq ?_; refine Run.regionW hC (fun K hK => ?_); refine wW ?_
  refine FunO.callMat hP hT (c_markIntSS hs3 (c) 1 (by omega) (by omega) true) 2 0 (by simp only [AW7, simprocAttr]; rfl) (by simp) (by simp only [AW7, simprocAttr]) ?_
  rintro rs o o2 ⟨rfl, h⟩; obtain ⟨rfl, rfl⟩ := List.cons.inj h
  refine wW ?_
  refine wE ?_; clear hK K
  refine Run.keep [0, 2, 3, 4, 5, 6, 7, 8, 9] ?_; simp only [AK, Nat.reduceBEq]
  refine Run.nq ?_; refine Run.regionW hC (fun K hK => ?_); refine wW ?_
  refine .inl (FunA.callG hP hT (c_eqIntSS (rofX c) (rofX c) (by have := rofX_len c; omega) (fun r hr => by have := rofX_rows c r hr; omega)) (fun _ => rfl) (fun _ => by simp only [AW7, simprocAttr]) ?_)
  refine wW ?_
  refine wE ?_; clear hK K
  refine Run.keep [0, 2, 3, 4, 5, 6, 7, 8, 9, 61] ?_; simp only [AK, Nat.reduceBEq]
  refine Run.nq ?_; refine Run.cW ?_ ?_
  · intro hc
    exfalso
    simp [iota_length, sumL_iotaR] at hc <;> omega
  intro hc0; clear hc0
  refine Run.R ?_
  refine Run.keep [0, 2, 3, 4, 5, 6, 7, 8, 9, 10] ?_; simp only [AK, Nat.reduceBEq]
  refine Run.nq ?_; refine Run.regionW hC (fun K hK => ?_); refine wW ?_
  refine FunO.callMat hP hT (c_markIntSS hs4 (rofX c) 1 (by have := rofX_len c; omega) (by have := sumL_le (rofX_len c) (rofX_rows c); omega) true) 3 0 (by simp only [AW7, simprocAttr]; rfl) (by simp) (by simp only [AW7, simprocAttr]) ?_
  rintro rs o o2 ⟨rfl, h⟩; obtain ⟨rfl, rfl⟩ := List.cons.inj h
  refine wW ?_
  refine wE ?_; clear hK K
  refine Run.keep [0, 2, 3, 4, 5, 6, 7, 8, 9, 10] ?_; simp only [AK, Nat.reduceBEq]
  refine Run.R ?_
  refine Run.keep [0, 2, 3, 4, 5, 6, 7, 8, 9, 10, 11] ?_; simp only [AK, Nat.reduceBEq]
  refine Run.nq ?_; refine Run.regionW hC (fun K hK => ?_); refine wW ?_
  refine FunA.cW hP hT (c_heldIotaR 1 (rofX c) (by have := rofX_len c; omega) (fun r hr => by have := rofX_rows c r hr; omega) (by have := sumL_le (rofX_len c) (rofX_rows c); omega)) ?_
  rintro rs o ⟨rfl, rfl⟩
  refine wW ?_
  refine wE ?_; clear hK K
  refine Run.keep [0, 2, 3, 4, 5, 6, 7, 8, 9, 10, 11] ?_; simp only [AK, Nat.reduceBEq]
  refine Run.R ?_
  refine Run.keep [0, 2, 3, 4, 5, 6, 7, 8, 9, 10, 11, 69] ?_; simp only [AK, Nat.reduceBEq]
  refine Run.nq ?_; refine Run.cW ?_ ?_
  · intro hc
    exfalso
    simp [iota_length, sumL_iotaR] at hc <;> omega
  intro hc0; clear hc0
  refine Run.R ?_
  refine Run.keep [0, 2, 3, 4, 5, 6, 7, 8, 9, 10, 11, 72] ?_; simp only [AK, Nat.reduceBEq]
  refine Run.nq ?_; refine Run.cW ?_ ?_
  · intro hc
    exfalso
    simp [iota_length, sumL_iotaR] at hc <;> omega
  intro hc0; clear hc0
  refine Run.nq ?_; refine Run.regionW hC (fun K hK => ?_); refine wW ?_
  refine FunA.cW hP hT (c_toIntSS c hcn hcr) ?_
  rintro rs o ⟨rfl, hs6, hs6l, rfl⟩
  refine wW ?_
  refine FunA.cW hP hT (c_impl_ReflectionsOf c) ?_
  rintro rs o ⟨rfl, hs7, hs7l, rfl⟩
  refine wW ?_
  refine wE ?_; clear hK K
  refine Run.keep [0, 2, 3, 4, 5, 6, 7, 8, 9, 10, 11, 12, 13] ?_; simp only [AK, Nat.reduceBEq]
  refine Run.nq ?_; refine Run.regionW hC (fun K hK => ?_); refine wW ?_
  refine FunA.cW hP hT (c_eqIntSS (rofX c) (rofX c) (by have := rofX_len c; omega) (fun r hr => by have := rofX_rows c r hr; omega)) ?_
  rintro rs o ⟨rfl, rfl⟩
  refine wW ?_
  refine wE ?_; clear hK K
  refine Run.keep [0, 2, 3, 4, 5, 6, 7, 8, 9, 10, 11, 12, 13, 87] ?_; simp only [AK, Nat.reduceBEq]
  refine Run.nq ?_; refine Run.cW ?_ ?_
  · intro hc
    exfalso
    simp [iota_length, sumL_iotaR] at hc <;> omega
  intro hc0; clear hc0
  refine Run.R ?_
  refine Run.keep [0, 2, 3, 4, 5, 6, 7, 8, 9, 10, 11, 12, 13] ?_; simp only [AK, Nat.reduceBEq]
  refine Run.nq ?_; refine Run.regionW hC (fun K hK => ?_); refine wW ?_
  refine FunA.cW hP hT (c_heldIotaR 1 (rofX c) (by have := rofX_len c; omega) (fun r hr => by have := rofX_rows c r hr; omega) (by have := sumL_le (rofX_len c) (rofX_rows c); omega)) ?_
  rintro rs o ⟨rfl, rfl⟩
  refine wW ?_
  refine wE ?_; clear hK K
  refine Run.keep [0, 2, 3, 4, 5, 6, 7, 8, 9, 10, 11, 12, 13] ?_; simp only [AK, Nat.reduceBEq]
  refine Run.R ?_
  refine Run.keep [0, 2, 3, 4, 5, 6, 7, 8, 9, 10, 11, 12, 13, 92] ?_; simp only [AK, Nat.reduceBEq]
  refine Run.nq ?_; refine Run.cW ?_ ?_
  · intro hc
    exfalso
    simp [iota_length, sumL_iotaR] at hc <;> omega
  intro hc0; clear hc0
  refine Run.R ?_
  refine Run.keep [0, 2, 3, 4, 5, 6, 7, 8, 9, 10, 11, 12, 13, 95] ?_; simp only [AK, Nat.reduceBEq]
  refine Run.nq ?_; refine Run.cW ?_ ?_
  · intro hc
    exfalso
    simp [iota_length, sumL_iotaR] at hc <;> omega
  intro hc0; clear hc0
  refine Run.R ?_
  refine Run.keep [0, 2, 3, 4, 5, 6, 7, 8, 9, 10, 11, 12, 13] ?_; simp only [AK, Nat.reduceBEq]
  refine Run.rW [2] (hfin _ _ rfl rfl ?_)
  rfl
end Go.Proofs.YtcinngodeoidnaaGreat
