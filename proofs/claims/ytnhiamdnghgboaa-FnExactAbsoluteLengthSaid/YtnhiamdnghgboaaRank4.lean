/- The dimension of what an element fixes: what the functions of both sides do. -/
import Derived.Test.YtnhiamdnghgboaaRank3
import Derived.Test.YtnhiamdnghgboaaDet4
set_option linter.unusedVariables false
set_option linter.unusedSimpArgs false
namespace Go.Proofs.Ytnhiamdnghgboaa
open Go Go.Aw Go.Cox

def fxR (c : List (List Int)) (w : List Int) (i : Nat) : List Int := (actR c w (simL c.length i)).set i ((actR c w (simL c.length i)).getD i 0 - 1)
def fxM (c : List (List Int)) (w : List Int) : List (List Int) := (List.range c.length).map (fxR c w)
noncomputable def fixN (c : List (List Int)) (w : List Int) : Int := if wordB c w && isF c then (c.length : Int) - (rkG rowI c.length (fxM c w) 0 0 : Nat) else -1

theorem fxR_len (c : List (List Int)) (w : List Int) (i : Nat) : (fxR c w i).length = c.length := by
  unfold fxR; rw [List.length_set, actR_len, simL_len]
theorem fxR_bnd {c : List (List Int)} {w : List Int} (hF : FinP c) (hw : letters c.length w) {i : Nat} (hi : i < c.length) : Bnd 8 (fxR c w i) := by
  have h := (fin_all hF).2.2 w i hw hi
  intro x hx
  unfold fxR at hx
  rcases List.mem_or_eq_of_mem_set hx with hx | rfl
  · have := h x hx; omega
  · have hl : i < (actR c w (simL c.length i)).length := by rw [actR_len, simL_len]; exact hi
    have := h ((actR c w (simL c.length i)).getD i 0) (by rw [getD_eq hl]; exact List.getElem_mem hl)
    omega
theorem fxM_ok {c : List (List Int)} {w : List Int} (hF : FinP c) (hw : letters c.length w) : OKM c.length 8 (fxM c w) := by
  refine ⟨by simp [fxM], fun k hk => ?_⟩
  have e : (fxM c w).getD k [] = fxR c w k := by simp [fxM, List.getD, hk]
  rw [e]
  exact ⟨fxR_len c w k, fxR_bnd hF hw hk⟩
theorem fxM_rank {c : List (List Int)} {w : List Int} (hF : FinP c) (hw : letters c.length w) : rkG rowS c.length (fxM c w) 0 0 = rkG rowI c.length (fxM c w) 0 0 :=
  rk_same _ (MulM.refl (fxM_ok hF hw)) (Nat.zero_le _)
theorem fxR_get (c : List (List Int)) (w : List Int) {i k : Nat} (_ : i < c.length) (hk : k < c.length) : (fxR c w i).getD k 0 = (actR c w (simL c.length i)).getD k 0 - (simL c.length i).getD k 0 := by
  have hl : (actR c w (simL c.length i)).length = c.length := by rw [actR_len, simL_len]
  have hs : (simL c.length i).getD k 0 = if k = i then 1 else 0 := by
    unfold simL
    simp only [List.getD, List.getElem?_set, List.length_replicate]
    by_cases h : i = k
    · subst h; simp [hk]
    · rw [if_neg h, if_neg (Ne.symm h)]; simp [hk]
  rw [hs]
  unfold fxR
  simp only [List.getD, List.getElem?_set]
  by_cases h : i = k
  · subst h; simp [hl, hk]
  · rw [if_neg h, if_neg (Ne.symm h)]; simp
theorem rkG_le (g : List (List Int) → Nat → Nat → Nat → List Int) : ∀ (f : Nat) (M : List (List Int)) (r c : Nat), r ≤ M.length → rkG g f M r c ≤ M.length
  | 0, M, r, c, h => h
  | f + 1, M, r, c, h => by
    have hg := pvt_ge M c (M.length - r) r
    simp only [rkG]
    split
    · exact rkG_le g f M r (c + 1) h
    · have := rkG_le g f (elim (fun N k => g N r c k) (M.length - (r + 1)) (r + 1) (swp M r (pvt M c (M.length - r) r))) (r + 1) (c + 1) (by rw [elim_len, swp_len]; omega)
      rw [elim_len, swp_len] at this
      exact this
theorem fxM_take (c : List (List Int)) (w : List Int) {i : Nat} (h : i < c.length) : (List.range (i + 1)).map (fxR c w) = (List.range i).map (fxR c w) ++ [fxR c w i] := by
  rw [List.range_succ, List.map_append]; rfl

theorem actB {c : List (List Int)} {w : List Int} (hF : FinP c) (hw : letters c.length w) {i : Nat} (hi : i < c.length) (j : Nat) : Bnd 100000000000000000 (actR c (w.drop j) (simL c.length i)) := by
  intro x hx
  have := (fin_all hF).2.2 (w.drop j) i (fun a ha => hw a (List.mem_of_mem_drop ha)) hi x hx
  omega

set_option maxHeartbeats 1000000 in
theorem c_impl_FixedRank (c : List (List Int)) (w : List Int) (_ : c.length ≤ 1048576) :
    FunA B 26 [.sl false (.row false) c, .sl false .int w] (fun rs o => rs = [.int .i64 (fixN c w)] ∧ o = []) := by
  refine FunA.walk0 B_ok (fn := Try.f26) (fun vs w => Try.call26 vs w) Try.func26 rfl (by rw [Try.ntmps26]; simp) rfl (fun C hC hP hT hΓ hbt hfn hpin hnoL hfin => ?_); have hX := BX; rw [← hΓ, ← hbt] at hX; rw [Try.ntmps26]; simp only [AW5, simprocAttr, hX]
  refine Run.nq ?_; refine Run.regionW hC (fun K hK => ?_); simp only [AW5, simprocAttr, hX]; (repeat (with_reducible refine And.intro ?_ ?_); exact vc0); refine hK _ ?_; clear hK K; refine Run.nq ?_
  by_cases hwb : wordB c w = true
  rotate_left
  · have hwb : wordB c w = false := by simpa using hwb
    have e : fixN c w = -1 := by simp [fixN, hwb]
    refine Run.nq ?_; refine Run.regionW hC (fun K hK => ?_); simp only [AW5, simprocAttr, hX]; (repeat (with_reducible refine And.intro ?_ ?_); exact vc0)
    refine FunA.callW hP hT (c_impl_IsWord c w) (by simp only [AW5, simprocAttr]) ?_
    rintro rs o ⟨rfl, rfl⟩
    simp only [hwb]
    (try simp only [AW5, simprocAttr, hX]); (repeat (with_reducible refine And.intro ?_ ?_); exact vc0)
    refine .inl (CallG.off (.bool false) ?_)
    (try simp only [AW5, simprocAttr, hX]); (repeat (with_reducible refine And.intro ?_ ?_); exact vc0)
    (repeat (with_reducible refine And.intro ?_ ?_); exact vc0); refine hK _ ?_; clear hK K; refine Run.nq ?_
    refine Run.nq ?_; refine Run.condW (by simp only [AW5, simprocAttr, hX]; rfl) (by simp only [AW5, simprocAttr, hX]) ?_ ?_
    rotate_left
    · intro h; cases h
    intro _
    refine Run.nq ?_; refine Run.regionW hC (fun K hK => ?_); simp only [AW5, simprocAttr, hX]; (repeat (with_reducible refine And.intro ?_ ?_); exact vc0); refine hK _ ?_; clear hK K; refine Run.nq ?_
    refine Run.retW [4] (by decide) (by rw [hfn]; rfl) (by simp only [AW5, simprocAttr, hX]; rfl) (by simp only [AW5, simprocAttr, hX]) (hfin _ _ rfl rfl ?_)
    rw [e]; exact ⟨rfl, rfl⟩
  refine Run.nq ?_; refine Run.regionW hC (fun K hK => ?_); simp only [AW5, simprocAttr, hX]; (repeat (with_reducible refine And.intro ?_ ?_); exact vc0)
  refine FunA.callW hP hT (c_impl_IsWord c w) (by simp only [AW5, simprocAttr]) ?_
  rintro rs o ⟨rfl, rfl⟩
  simp only [hwb]
  (try simp only [AW5, simprocAttr, hX]); (repeat (with_reducible refine And.intro ?_ ?_); exact vc0)
  refine .inr ⟨rfl, ?_⟩
  refine FunA.callW hP hT (c_impl_IsFinite c) (by simp only [AW5, simprocAttr]) ?_
  rintro rs o ⟨rfl, rfl⟩
  (try simp only [AW5, simprocAttr, hX]); (repeat (with_reducible refine And.intro ?_ ?_); exact vc0)
  (repeat (with_reducible refine And.intro ?_ ?_); exact vc0); refine hK _ ?_; clear hK K; refine Run.nq ?_
  refine Run.nq ?_; refine Run.condW (by simp only [AW5, simprocAttr, hX]; rfl) (by simp only [AW5, simprocAttr, hX]) ?_ ?_
  · intro h
    have hf : isF c = false := by simpa using h
    have e : fixN c w = -1 := by simp [fixN, hf]
    refine Run.nq ?_; refine Run.regionW hC (fun K hK => ?_); simp only [AW5, simprocAttr, hX]; (repeat (with_reducible refine And.intro ?_ ?_); exact vc0); refine hK _ ?_; clear hK K; refine Run.nq ?_
    refine Run.retW [4] (by decide) (by rw [hfn]; rfl) (by simp only [AW5, simprocAttr, hX]; rfl) (by simp only [AW5, simprocAttr, hX]) (hfin _ _ rfl rfl ?_)
    rw [e]; exact ⟨rfl, rfl⟩
  intro h
  have hf : isF c = true := by simpa using h
  have hF := isF_iff.1 hf
  obtain ⟨hc, hwl, hw⟩ := wordB_iff.1 hwb
  have hn := hc.2.1
  have hfx : fixN c w = (c.length : Int) - (rkG rowI c.length (fxM c w) 0 0 : Nat) := by simp [fixN, hwb, hf]
  refine Run.nq ?_; refine Run.regionW hC (fun K hK => ?_); simp only [AW5, simprocAttr, hX]; (repeat (with_reducible refine And.intro ?_ ?_); exact vc0); refine hK _ ?_; clear hK K; refine Run.nq ?_
  refine Run.nq ?_; refine Run.regionW hC (fun K hK => ?_); simp only [AW5, simprocAttr, hX]; (repeat (with_reducible refine And.intro ?_ ?_); exact vc0); refine hK _ ?_; clear hK K; refine Run.nq ?_
  refine Run.reK hpin [0, 1, 5, 19, 20] [0] (by decide) (by simp) ?_; simp only [AR, AW5, simprocAttr]
  refine Run.loopI (X := List (Nat × List Int) × Nat × Bool) (fun x => ⟨46, [(0, true, .v (.sl false (.row false) (c))), (1, true, .v (.sl false .int (w))), (5, true, .v (.own 0 0)), (19, true, .v (.int .i64 (c.length))), (20, true, .v (.int .i64 (x.2.1)))], [.arr .lrow x.1 0 x.2.2]⟩) (fun x => x.2.1 ≤ c.length ∧ rws x.1 = (List.range x.2.1).map (fxR c w) ∧ (x.1.map (·.1)).Nodup) (fun x => c.length - x.2.1) (([], 0, true)) (⟨Nat.zero_le _, rfl, by simp⟩) ?_ ?_
  · exact Le.sub (by first | rfl | simp) (by simp only [AW5, simprocAttr, hX]; try simp <;> try (first | rfl | exact ⟨rfl, rfl⟩ | exact ⟨rfl, rfl, rfl⟩))
  rintro ⟨ys, i, nn⟩ ⟨hi, hys, hnd⟩ ih
  try simp only []
  simp only [] at hi hys hnd
  refine Run.nq ?_; refine Run.regionW hC (fun K hK => ?_); simp only [AW5, simprocAttr, hX]; (repeat (with_reducible refine And.intro ?_ ?_); exact vc0); refine hK _ ?_; clear hK K; refine Run.nq ?_
  refine Run.nq ?_; refine Run.condW (by simp only [AW5, simprocAttr, hX]; rfl) (by simp only [AW5, simprocAttr, hX]) ?_ ?_
  · intro h
    have h : i < c.length := by rw [decide_eq_true_eq] at h; omega
    refine Run.nq ?_; refine Run.regionW hC (fun K hK => ?_); simp only [AW5, simprocAttr, hX]; (repeat (with_reducible refine And.intro ?_ ?_); exact vc0); refine hK _ ?_; clear hK K; refine Run.nq ?_
    refine Run.nq ?_; refine Run.regionW hC (fun K hK => ?_); simp only [AW5, simprocAttr, hX]; (repeat (with_reducible refine And.intro ?_ ?_); exact vc0)
    refine FunA.callW hP hT (c_impl_simple c.length i (by omega) (by omega)) (by simp only [AW5, simprocAttr]) ?_
    rintro rs o ⟨rfl, rfl⟩
    (try simp only [AW5, simprocAttr, hX]); (repeat (with_reducible refine And.intro ?_ ?_); exact vc0)
    refine FunA.callW hP hT (c_impl_actedRoot c w (simL c.length i) hc hw (simL_len _ _) (by omega) (actB hF hw h)) (by simp only [AW5, simprocAttr]) ?_
    rintro rs o ⟨rfl, rfl⟩
    (try simp only [AW5, simprocAttr, hX]); (repeat (with_reducible refine And.intro ?_ ?_); exact vc0)
    (repeat (with_reducible refine And.intro ?_ ?_); exact vc0); refine hK _ ?_; clear hK K; refine Run.nq ?_
    have hal : (actR c w (simL c.length i)).length = c.length := by rw [actR_len, simL_len]
    have hab := (fxR_bnd hF hw h).at' (by omega) i
    have hag : (fxR c w i).getD i 0 = (actR c w (simL c.length i)).getD i 0 - 1 := by unfold fxR; simp [List.getD, hal, h]
    rw [hag] at hab
    have hyl : ys.length = i := by rw [← rws_len, hys]; simp
    refine Run.nq ?_; refine Run.regionW hC (fun K hK => ?_); simp (disch := omega) only [wrap_id, AW5, simprocAttr, hX]; (repeat (with_reducible refine And.intro ?_ ?_); exact vc0); refine hK _ ?_; clear hK K; refine Run.nq ?_
    refine Run.reK hpin [0, 1, 5, 7, 19, 20] [0, 2] (by decide) (by simp) ?_; simp only [AR, AW5, simprocAttr]
    refine Run.tolr 1 [0, 1, 5, 7, 19, 20] rfl (fun q hq => ?_); simp only [AL, frV_cons, frV_nil, AW5, simprocAttr]
    refine Run.nq ?_; refine Run.regionW hC (fun K hK => ?_); simp only [AW5, simprocAttr, hX]; (repeat (with_reducible refine And.intro ?_ ?_); exact vc0); refine hK _ ?_; clear hK K; refine Run.nq ?_
    refine Run.reK hpin [0, 1, 5, 19, 20] [0] (by decide) (by simp) ?_; simp only [AR, AW5, simprocAttr]
    have hnd2 : ((ys ++ [(q, fxR c w i)]).map (·.1)).Nodup := by
      rw [List.map_append, List.nodup_append]
      refine ⟨hnd, by simp, fun a ha b hb => ?_⟩
      simp at hb
      subst hb
      obtain ⟨p, hp, rfl⟩ := List.mem_map.1 ha
      exact hq _ (List.mem_cons_self ..) _ _ _ rfl p hp
    have hys2 : rws (ys ++ [(q, fxR c w i)]) = (List.range (i + 1)).map (fxR c w) := by
      rw [fxM_take c w h, ← hys]; simp [rws]
    refine Run.nq ?_; refine Run.regionW hC (fun K hK => ?_); simp (disch := omega) only [wrap_id, AW5, simprocAttr, hX]; (repeat (with_reducible refine And.intro ?_ ?_); exact vc0); refine hK _ ?_; clear hK K; refine Run.nq ?_
    refine Run.le ?_ (ih ((ys ++ [(q, fxR c w i)], i + 1, true)) (⟨h, hys2, hnd2⟩) (by (try simp only [List.length_append, List.length_cons, List.length_nil]); omega))
    exact Le.sub (by rfl) (by simp only [AW5, simprocAttr]; try simp)
  intro h
  have hic : i = c.length := by rw [decide_eq_false_iff_not] at h; omega
  refine Run.exit rfl ?_; refine Run.nq ?_
  have hys : rws ys = fxM c w := by rw [hys, hic]; rfl
  refine Run.togm 0 [0, 5] rfl hnoL hnd rfl (fun hs F hnd hmap => ?_); simp only [AG, frV_cons, frV_nil, AW5, simprocAttr]
  have hmp : hs.map F = fxM c w := by rw [hmap]; exact hys
  have hinj : InjL hs := fun a b ha hb e => by
    rw [getD_eq ha, getD_eq hb] at e
    have hp := List.pairwise_iff_getElem.1 hnd
    rcases Nat.lt_trichotomy a b with h1 | h1 | h1
    · exact (List.pairwise_iff_getElem.1 ‹hs.Nodup› a b ha hb h1 e).elim
    · exact h1
    · exact (List.pairwise_iff_getElem.1 ‹hs.Nodup› b a hb ha h1 e.symm).elim
  refine Run.nq ?_; refine Run.regionW hC (fun K hK => ?_); simp only [AW5, simprocAttr, hX]; (repeat (with_reducible refine And.intro ?_ ?_); exact vc0)
  refine FunO.callGm hP hT (c_impl_rankOf c.length hs F hs (fxM c w) hmp hinj (fun _ h => h) hn (fxM_ok hF hw) nn) 0 0 (by simp only [AW5, simprocAttr]; rfl) (by simp) (by simp only [AW5, simprocAttr]) ?_
  rintro rs o' obs' ⟨rfl, F', hs', h⟩
  obtain ⟨rfl, rfl⟩ := List.cons.inj h
  have hrk := rkG_le rowI c.length (fxM c w) 0 0 (Nat.zero_le _)
  rw [(fxM_ok hF hw).1] at hrk
  simp (disch := omega) only [wrap_id, AW5, simprocAttr, hX]; (repeat (with_reducible refine And.intro ?_ ?_); exact vc0)
  (repeat (with_reducible refine And.intro ?_ ?_); exact vc0); refine hK _ ?_; clear hK K; refine Run.nq ?_
  refine Run.reK hpin [4] [] (by decide) (by simp) ?_; simp only [AR, AW5, simprocAttr]
  refine Run.retW [4] (by decide) (by rw [hfn]; rfl) (by simp only [AW5, simprocAttr, hX]; rfl) (by simp only [AW5, simprocAttr, hX]) (hfin _ _ rfl rfl ?_)
  rw [hfx]; exact ⟨rfl, rfl⟩

theorem fx_set (x : List Int) (k : Nat) (h : k < x.length) : x.take k ++ [x.getD k 0] = x.take (k + 1) := (takeI_snoc x k h).symm

set_option maxHeartbeats 1000000 in
theorem c_spec_FixedRank (c : List (List Int)) (w : List Int) (hcl : c.length ≤ 1048576) :
    FunA B 25 [.sl false (.row false) c, .sl false .int w] (fun rs o => rs = [.int .i64 (fixN c w)] ∧ o = []) := by
  refine FunA.walk B_ok (fn := Try.f25) (fun vs w => Try.call25 vs w) Try.func25 rfl (by rw [Try.ntmps25]; simp) (fun C hC hP hT hΓ hbt hfn hpin hfin => ?_); have hX := BX; rw [← hΓ, ← hbt] at hX; rw [Try.ntmps25]; simp only [AW5, simprocAttr, hX]
  refine Run.nq ?_; refine Run.regionW hC (fun K hK => ?_); simp only [AW5, simprocAttr, hX]; (repeat (with_reducible refine And.intro ?_ ?_); exact vc0); refine hK _ ?_; clear hK K; refine Run.nq ?_
  by_cases hwb : wordB c w = true
  rotate_left
  · have hwb : wordB c w = false := by simpa using hwb
    have e : fixN c w = -1 := by simp [fixN, hwb]
    refine Run.nq ?_; refine Run.regionW hC (fun K hK => ?_); simp only [AW5, simprocAttr, hX]; (repeat (with_reducible refine And.intro ?_ ?_); exact vc0)
    refine FunA.callW hP hT (c_spec_IsWord c w hcl) (by simp only [AW5, simprocAttr]) ?_
    rintro rs o ⟨rfl, rfl⟩
    simp only [hwb]
    (try simp only [AW5, simprocAttr, hX]); (repeat (with_reducible refine And.intro ?_ ?_); exact vc0)
    refine .inl (CallG.off (.bool false) ?_)
    (try simp only [AW5, simprocAttr, hX]); (repeat (with_reducible refine And.intro ?_ ?_); exact vc0)
    (repeat (with_reducible refine And.intro ?_ ?_); exact vc0); refine hK _ ?_; clear hK K; refine Run.nq ?_
    refine Run.nq ?_; refine Run.condW (by simp only [AW5, simprocAttr, hX]; rfl) (by simp only [AW5, simprocAttr, hX]) ?_ ?_
    rotate_left
    · intro h; cases h
    intro _
    refine Run.nq ?_; refine Run.regionW hC (fun K hK => ?_); simp only [AW5, simprocAttr, hX]; (repeat (with_reducible refine And.intro ?_ ?_); exact vc0); refine hK _ ?_; clear hK K; refine Run.nq ?_
    refine Run.retW [4] (by decide) (by rw [hfn]; rfl) (by simp only [AW5, simprocAttr, hX]; rfl) (by simp only [AW5, simprocAttr, hX]) (hfin _ _ rfl rfl ?_)
    rw [e]; exact ⟨rfl, rfl⟩
  refine Run.nq ?_; refine Run.regionW hC (fun K hK => ?_); simp only [AW5, simprocAttr, hX]; (repeat (with_reducible refine And.intro ?_ ?_); exact vc0)
  refine FunA.callW hP hT (c_spec_IsWord c w hcl) (by simp only [AW5, simprocAttr]) ?_
  rintro rs o ⟨rfl, rfl⟩
  simp only [hwb]
  (try simp only [AW5, simprocAttr, hX]); (repeat (with_reducible refine And.intro ?_ ?_); exact vc0)
  refine .inr ⟨rfl, ?_⟩
  refine FunA.callW hP hT (c_spec_IsFinite c) (by simp only [AW5, simprocAttr]) ?_
  rintro rs o ⟨rfl, rfl⟩
  (try simp only [AW5, simprocAttr, hX]); (repeat (with_reducible refine And.intro ?_ ?_); exact vc0)
  (repeat (with_reducible refine And.intro ?_ ?_); exact vc0); refine hK _ ?_; clear hK K; refine Run.nq ?_
  refine Run.nq ?_; refine Run.condW (by simp only [AW5, simprocAttr, hX]; rfl) (by simp only [AW5, simprocAttr, hX]) ?_ ?_
  · intro h
    have hf : isF c = false := by simpa using h
    have e : fixN c w = -1 := by simp [fixN, hf]
    refine Run.nq ?_; refine Run.regionW hC (fun K hK => ?_); simp only [AW5, simprocAttr, hX]; (repeat (with_reducible refine And.intro ?_ ?_); exact vc0); refine hK _ ?_; clear hK K; refine Run.nq ?_
    refine Run.retW [4] (by decide) (by rw [hfn]; rfl) (by simp only [AW5, simprocAttr, hX]; rfl) (by simp only [AW5, simprocAttr, hX]) (hfin _ _ rfl rfl ?_)
    rw [e]; exact ⟨rfl, rfl⟩
  intro h
  have hf : isF c = true := by simpa using h
  have hF := isF_iff.1 hf
  have hW := wordB_iff.1 hwb
  obtain ⟨hc, hwl, hw⟩ := hW
  have hn := hc.2.1
  have hfx : fixN c w = (c.length : Int) - (rkG rowI c.length (fxM c w) 0 0 : Nat) := by simp [fixN, hwb, hf]
  refine Run.nq ?_; refine Run.regionW hC (fun K hK => ?_); simp only [AW5, simprocAttr, hX]; (repeat (with_reducible refine And.intro ?_ ?_); exact vc0); refine hK _ ?_; clear hK K; refine Run.nq ?_
  refine Run.nq ?_; refine Run.regionW hC (fun K hK => ?_); simp only [AW5, simprocAttr, hX]; (repeat (with_reducible refine And.intro ?_ ?_); exact vc0); refine hK _ ?_; clear hK K; refine Run.nq ?_
  refine Run.reK hpin [0, 1, 5, 6] [0] (by decide) (by simp) ?_; simp only [AR, AW5, simprocAttr]
  refine Run.loopI (X := List (Nat × List Int) × Nat × Bool) (fun x => ⟨62, [(0, true, .v (.sl false (.row false) (c))), (1, true, .v (.sl false .int (w))), (5, true, .v (.own 0 0)), (6, true, .v (.int .i64 (x.2.1)))], [.arr .lrow x.1 0 x.2.2]⟩) (fun x => x.2.1 ≤ c.length ∧ rws x.1 = (List.range x.2.1).map (fxR c w)) (fun x => c.length - x.2.1) (([], 0, true)) (⟨Nat.zero_le _, rfl⟩) ?_ ?_
  · exact Le.sub (by first | rfl | simp) (by simp only [AW5, simprocAttr, hX]; try simp <;> try (first | rfl | exact ⟨rfl, rfl⟩ | exact ⟨rfl, rfl, rfl⟩))
  rintro ⟨ys, i, nn⟩ ⟨hi, hys⟩ ih
  try simp only []
  simp only [] at hi hys
  have hyl : ys.length = i := by rw [← rws_len, hys]; simp
  refine Run.nq ?_; refine Run.regionW hC (fun K hK => ?_); simp only [AW5, simprocAttr, hX]; (repeat (with_reducible refine And.intro ?_ ?_); exact vc0); refine hK _ ?_; clear hK K; refine Run.nq ?_
  refine Run.nq ?_; refine Run.condW (by simp only [AW5, simprocAttr, hX]; rfl) (by simp only [AW5, simprocAttr, hX]) ?_ ?_
  · intro h
    have h : i < c.length := by rw [decide_eq_true_eq] at h; omega
    have hal : (actR c w (simL c.length i)).length = c.length := by rw [actR_len, simL_len]
    have hsl := simL_len c.length i
    have hfl := fxR_len c w i
    refine Run.nq ?_; refine Run.regionW hC (fun K hK => ?_); simp only [AW5, simprocAttr, hX]; (repeat (with_reducible refine And.intro ?_ ?_); exact vc0)
    refine FunA.callW hP hT (c_spec_SimpleRoot c (i : Int) hc (by omega)) (by simp only [AW5, simprocAttr]) ?_
    rintro rs o ⟨rfl, rfl⟩
    (try simp only [AW5, simprocAttr, hX]); (repeat (with_reducible refine And.intro ?_ ?_); exact vc0)
    (repeat (with_reducible refine And.intro ?_ ?_); exact vc0); refine hK _ ?_; clear hK K; refine Run.nq ?_
    refine Run.nq ?_; refine Run.regionW hC (fun K hK => ?_); simp only [AW5, simprocAttr, hX]; (repeat (with_reducible refine And.intro ?_ ?_); exact vc0)
    refine FunA.callW hP hT (c_spec_ActOnRoot c w (simL c.length i) (wordB_iff.1 hwb) (simL_len _ _) (actB hF hw h)) (by simp only [AW5, simprocAttr]) ?_
    rintro rs o ⟨rfl, rfl⟩
    (try simp only [AW5, simprocAttr, hX]); (repeat (with_reducible refine And.intro ?_ ?_); exact vc0)
    (repeat (with_reducible refine And.intro ?_ ?_); exact vc0); refine hK _ ?_; clear hK K; refine Run.nq ?_
    refine Run.nq ?_; refine Run.regionW hC (fun K hK => ?_); simp only [AW5, simprocAttr, hX]; (repeat (with_reducible refine And.intro ?_ ?_); exact vc0); refine hK _ ?_; clear hK K; refine Run.nq ?_
    refine Run.nq ?_; refine Run.regionW hC (fun K hK => ?_); simp only [AW5, simprocAttr, hX]; (repeat (with_reducible refine And.intro ?_ ?_); exact vc0); refine hK _ ?_; clear hK K; refine Run.nq ?_
    refine Run.reK hpin [0, 1, 5, 6, 7, 8, 9, 10] [0, 1, 2, 3] (by decide) (by simp) ?_; simp only [AR, AW5, simprocAttr]
    refine Run.loopI (X := Nat) (fun k => ⟨62, [(0, true, .v (.sl false (.row false) (c))), (1, true, .v (.sl false .int (w))), (5, true, .v (.own 0 0)), (6, true, .v (.int .i64 (i))), (7, true, .v (.own 1 0)), (8, true, .v (.own 2 0)), (9, true, .v (.own 3 0)), (10, true, .v (.int .i64 (k)))], [.arr .lrow ys 0 nn, .arr .int ((simL c.length i)) 0 true, .arr .int ((actR c w (simL c.length i))) 0 true, .arr .int (((fxR c w i).take k)) 0 true]⟩) (fun k => k ≤ c.length) (fun k => c.length - k) (0) (Nat.zero_le _) ?_ ?_
    · exact Le.sub (by first | rfl | simp) (by simp only [AW5, simprocAttr, hX]; try simp <;> try (first | rfl | exact ⟨rfl, rfl⟩ | exact ⟨rfl, rfl, rfl⟩))
    rintro k hk ihK
    try simp only []
    refine Run.nq ?_; refine Run.regionW hC (fun K hK => ?_); simp only [AW5, simprocAttr, hX]; (repeat (with_reducible refine And.intro ?_ ?_); exact vc0); refine hK _ ?_; clear hK K; refine Run.nq ?_
    refine Run.nq ?_; refine Run.condW (by simp only [AW5, simprocAttr, hX]; rfl) (by simp only [AW5, simprocAttr, hX]) ?_ ?_
    · intro h2
      have h2 : k < c.length := by rw [decide_eq_true_eq] at h2; omega
      have hg := fxR_get c w h h2
      have hb := (fxR_bnd hF hw h).at' (by omega) k
      have e1 : IntKind.i64.wrap ((actR c w (simL c.length i)).getD k 0 - (simL c.length i).getD k 0) = (fxR c w i).getD k 0 := by
        rw [← hg]; exact wrap_id (by omega)
      refine Run.nq ?_; refine Run.regionD hC true [0,1,2,3,4,5,6,7,8,9,10,11,12] (by kernel_rfl) (fun K hK => ?_); simp only [AW5, simprocAttr, hX]; (repeat (with_reducible refine And.intro ?_ ?_); exact vc0)
      (repeat (with_reducible refine And.intro ?_ ?_); exact vc0); refine hK _ ?_; clear hK K; refine Run.nq ?_
      simp only [e1]
      refine Run.reK hpin [0, 1, 5, 6, 7, 8, 9, 10] [0, 1, 2, 3] (by decide) (by simp) ?_; simp only [AR, AW5, simprocAttr]
      refine Run.nq ?_; refine Run.regionW hC (fun K hK => ?_); simp (disch := omega) only [wrap_id, AW5, simprocAttr, hX]; (repeat (with_reducible refine And.intro ?_ ?_); exact vc0); refine hK _ ?_; clear hK K; refine Run.nq ?_
      refine Run.le ?_ (ihK (k + 1) (by omega) (by (try simp only [List.length_append, List.length_cons, List.length_nil]); omega))
      exact Le.sub (by first | rfl | (simp only [takeI_snoc (fxR c w i) k (by omega)]; done) | (rw [takeI_snoc (fxR c w i) k (by omega)]; rfl)) (by simp only [AW5, simprocAttr]; try simp)
    intro h2
    have h2 : k = (fxR c w i).length := by rw [decide_eq_false_iff_not] at h2; omega
    refine Run.exit rfl ?_; refine Run.nq ?_
    rw [h2, List.take_length]
    refine Run.reK hpin [0, 1, 5, 6, 9] [0, 3] (by decide) (by simp) ?_; simp only [AR, AW5, simprocAttr]
    refine Run.tolr 1 [0, 1, 5, 6, 9] rfl (fun q hq => ?_); simp only [AL, frV_cons, frV_nil, AW5, simprocAttr]
    refine Run.nq ?_; refine Run.regionW hC (fun K hK => ?_); simp only [AW5, simprocAttr, hX]; (repeat (with_reducible refine And.intro ?_ ?_); exact vc0); refine hK _ ?_; clear hK K; refine Run.nq ?_
    have hys2 : rws (ys ++ [(q, fxR c w i)]) = (List.range (i + 1)).map (fxR c w) := by
      rw [fxM_take c w h, ← hys]; simp [rws]
    refine Run.reK hpin [0, 1, 5, 6] [0] (by decide) (by simp) ?_; simp only [AR, AW5, simprocAttr]
    refine Run.nq ?_; refine Run.regionW hC (fun K hK => ?_); simp (disch := omega) only [wrap_id, AW5, simprocAttr, hX]; (repeat (with_reducible refine And.intro ?_ ?_); exact vc0); refine hK _ ?_; clear hK K; refine Run.nq ?_
    refine Run.le ?_ (ih ((ys ++ [(q, fxR c w i)], i + 1, true)) (⟨h, hys2⟩) (by (try simp only [List.length_append, List.length_cons, List.length_nil]); omega))
    exact Le.sub (by rfl) (by simp only [AW5, simprocAttr]; try simp)
  intro h
  have hic : i = c.length := by rw [decide_eq_false_iff_not] at h; omega
  refine Run.exit rfl ?_; refine Run.nq ?_
  have hys : rws ys = fxM c w := by rw [hys, hic]; rfl
  refine Run.reK hpin [0, 1, 5] [0] (by decide) (by simp) ?_; simp only [AR, AW5, simprocAttr]
  refine Run.nq ?_; refine Run.regionW hC (fun K hK => ?_); simp only [AW5, simprocAttr, hX]; (repeat (with_reducible refine And.intro ?_ ?_); exact vc0)
  refine FunM.call hP hT (c_spec_l17Rank c.length ys (fxM c w) hys hn (fxM_ok hF hw) nn) 0 0 (by simp only [AW5, simprocAttr]; rfl) (by simp) rfl (by simp only [AW5, simprocAttr]; try simp) ?_
  rintro rs o' obs' ⟨rfl, ys', h⟩
  obtain ⟨rfl, rfl⟩ := List.cons.inj h
  have hrk := rkG_le rowI c.length (fxM c w) 0 0 (Nat.zero_le _)
  rw [(fxM_ok hF hw).1] at hrk
  rw [fxM_rank hF hw]
  simp (disch := omega) only [wrap_id, AW5, simprocAttr, hX]; (repeat (with_reducible refine And.intro ?_ ?_); exact vc0)
  (repeat (with_reducible refine And.intro ?_ ?_); exact vc0); refine hK _ ?_; clear hK K; refine Run.nq ?_
  refine Run.reK hpin [4] [] (by decide) (by simp) ?_; simp only [AR, AW5, simprocAttr]
  refine Run.retW [4] (by decide) (by rw [hfn]; rfl) (by simp only [AW5, simprocAttr, hX]; rfl) (by simp only [AW5, simprocAttr, hX]) (hfin _ _ rfl rfl ?_)
  rw [hfx]; exact ⟨rfl, rfl⟩
end Go.Proofs.Ytnhiamdnghgboaa
