/- Signs of the images of dominant vectors do not depend on the vector; the exchange of letters, in words of any length. -/
import Derived.Test.YtdhfonblpbpmmaaElt
set_option linter.unusedVariables false
set_option linter.unusedSimpArgs false
namespace Go.Cox
variable {A : Mat} {n : Nat}

theorem act_lin (A : Mat) (N : Int) (u v : Vec) : ∀ w, act A w (fun k => u k + N * v k) = fun k => act A w u k + N * act A w v k
  | [] => rfl
  | i :: w => by
    rw [act_cons, act_lin A N u v w, act_cons, act_cons]
    funext k
    simp only [refl]
    grind

theorem play_len (hA : Cartan A n) {u u' : Vec} (hu : ∀ i, i < n → 0 < u i) (hu' : ∀ i, i < n → 0 < u' i) {w t t' : List Nat} (hw : ∀ i ∈ w, i < n) (h : Play A n (act A w u) t u) (h' : Play A n (act A w u') t' u') : t.length = t'.length := by
  have key : ∀ {u u' : Vec} {t t' : List Nat}, (∀ i, i < n → 0 < u i) → (∀ i, i < n → 0 < u' i) → Play A n (act A w u) t u → Play A n (act A w u') t' u' → t'.length ≤ t.length := by
    intro u u' t t' hu hu' h h'
    obtain ⟨s, hs, _, _, es⟩ := back hA hu w hw
    obtain ⟨s', hs', hl, _, _⟩ := back hA hu' s hs.mem
    rw [es] at hs'
    obtain ⟨r, _, hb⟩ := conv hA _ rfl hs (fun i hi => Int.le_of_lt (hu i hi)) h
    obtain ⟨r', _, hb'⟩ := conv hA _ rfl h (fun i hi => Int.le_of_lt (hu i hi)) hs
    obtain ⟨q, _, hq⟩ := conv hA _ rfl hs' (fun i hi => Int.le_of_lt (hu' i hi)) h'
    have h1 := hb.length
    have h2 := hq.length
    have h3 := hb'.length
    simp at h1 h2 h3
    omega
  exact Nat.le_antisymm (key hu' hu h' h) (key hu hu' h h')

theorem sign_indep (hA : Cartan A n) {u u' : Vec} (hu : ∀ i, i < n → 0 < u i) (hu' : ∀ i, i < n → 0 < u' i) {w : List Nat} (hw : ∀ i ∈ w, i < n) {j : Nat} (hj : j < n) (h : act A w u j < 0) : act A w u' j < 0 := by
  obtain ⟨t, ht, _, _, _⟩ := back hA hu w hw
  obtain ⟨t', ht', _, _, _⟩ := back hA hu' w hw
  have hnz := nonzero hA _ rfl ht' hu' j hj
  refine Classical.byContradiction fun hn => ?_
  have hpos : 0 < act A w u' j := by omega
  have e := play_len hA hu hu' hw ht ht'
  have hjw : ∀ i ∈ j :: w, i < n := fun i hi => by rcases List.mem_cons.1 hi with rfl | hi; exact hj; exact hw i hi
  obtain ⟨r, hr, hb⟩ := conv hA _ rfl ht (fun i hi => Int.le_of_lt (hu i hi)) (.cons hj h (.nil _))
  have h1 : Play A n (act A (j :: w) u') (j :: t') u' := .cons hj (by rw [act_cons, refl_self (hA.diag j hj)]; omega) (by rw [act_cons, refl_refl (hA.diag j hj)]; exact ht')
  have := play_len hA hu hu' hjw hr h1
  have h2 := hb.length
  simp at h2 this
  omega

theorem coh_pos (hA : Cartan A n) {u : Vec} (hu : ∀ i, i < n → 0 < u i) {w : List Nat} (hw : ∀ i ∈ w, i < n) {j : Nat} (hj : j < n) (h : 0 < act A w u j) {v : Vec} (hv : ∀ i, i < n → 0 ≤ v i) : 0 ≤ act A w v j := by
  refine Classical.byContradiction fun hn => ?_
  have hu' : ∀ i, i < n → 0 < (fun k => u k + (act A w u j + 1) * v k) i := fun i hi => by
    have h1 := hu i hi
    have h2 : 0 ≤ (act A w u j + 1) * v i := Int.mul_nonneg (by omega) (hv i hi)
    show 0 < u i + (act A w u j + 1) * v i
    omega
  have e := congrFun (act_lin A (act A w u j + 1) u v w) j
  have hneg : act A w (fun k => u k + (act A w u j + 1) * v k) j < 0 := by
    rw [e]
    have h3 : (act A w u j + 1) * act A w v j ≤ (act A w u j + 1) * (-1) := Int.mul_le_mul_of_nonneg_left (by omega) (by omega)
    omega
  have := sign_indep hA hu' hu hw hj hneg
  omega
theorem coh_neg (hA : Cartan A n) {u : Vec} (hu : ∀ i, i < n → 0 < u i) {w : List Nat} (hw : ∀ i ∈ w, i < n) {j : Nat} (hj : j < n) (h : act A w u j < 0) {v : Vec} (hv : ∀ i, i < n → 0 ≤ v i) : act A w v j ≤ 0 := by
  have e : act A (j :: w) u j = -act A w u j := by rw [act_cons, refl_self (hA.diag j hj)]
  have e2 : act A (j :: w) v j = -act A w v j := by rw [act_cons, refl_self (hA.diag j hj)]
  have := coh_pos hA hu (w := j :: w) (fun i hi => by rcases List.mem_cons.1 hi with rfl | hi; exact hj; exact hw i hi) hj (by omega) hv
  omega

/-- Where the sign turns, the letter commutes past. -/
theorem turn (hA : Cartan A n) {u : Vec} (hu : ∀ i, i < n → 0 < u i) {p : List Nat} (hp : ∀ i ∈ p, i < n) {s i : Nat} (hs : s < n) (hi : i < n) (h1 : 0 < act A p u s) (h2 : act A (p ++ [i]) u s < 0) : ∀ x, act A (s :: p) x = act A (p ++ [i]) x := by
  let v : Vec := fun k => if k = i then 0 else 1
  have hv : ∀ j, j < n → 0 ≤ v j := fun j _ => by show 0 ≤ (if j = i then (0 : Int) else 1); split <;> omega
  have hvi : v i = 0 := if_pos rfl
  have rv : refl A i v = v := by funext k; simp only [refl, hvi]; omega
  have hpi : ∀ j ∈ p ++ [i], j < n := fun j hj => by
    rcases List.mem_append.1 hj with hj | hj
    · exact hp j hj
    · simp at hj; rw [hj]; exact hi
  have f1 := coh_pos hA hu hp hs h1 hv
  have f2 := coh_neg hA hu hpi hs h2 hv
  rw [act_append] at f2
  have e0 : act A [i] v = v := rv
  rw [e0] at f2
  have f0 : act A p v s = 0 := by omega
  have hsp : act A (s :: p) v = act A p v := by
    rw [act_cons]; funext k; simp only [refl, f0]; omega
  have hyl : ∀ j ∈ p.reverse ++ (s :: p), j < n := fun j hj => by
    rcases List.mem_append.1 hj with hj | hj
    · exact hp j (by simpa using hj)
    · rcases List.mem_cons.1 hj with rfl | hj
      · exact hs
      · exact hp j hj
  have rp : ∀ x, act A p.reverse (act A p x) = x := fun x => by rw [act_reverse, run_act hA p hp]
  have rp2 : ∀ x, act A p (act A p.reverse x) = x := fun x => by rw [act_reverse, act_run hA p hp]
  have hyv : act A (p.reverse ++ (s :: p)) v = v := by rw [act_append, hsp, rp]
  obtain ⟨t, ht, _, _, et⟩ := back hA hu (p.reverse ++ (s :: p)) hyl
  have hti : ∀ x, act A (p.reverse ++ (s :: p)) x = refl A i x := by
    generalize hy0 : act A (p.reverse ++ (s :: p)) u = y0 at ht
    cases ht with
    | nil =>
      exfalso
      have := et u
      rw [act_nil, act_append] at this
      have h3 := congrArg (act A p) this
      rw [rp2, act_cons] at h3
      have h4 := congrFun h3 s
      rw [refl_self (hA.diag s hs)] at h4
      omega
    | @cons _ _ b t' hb hyb ht' =>
      have hbi : b = i := by
        have := coh_neg hA hu hyl hb (by rw [hy0]; exact hyb) hv
        rw [hyv] at this
        refine Classical.byContradiction fun hn => ?_
        have : v b = 1 := if_neg hn
        omega
      subst hbi
      cases ht' with
      | nil => intro x; rw [← et]; rfl
      | @cons _ _ b' t'' hb' hyb' _ =>
        exfalso
        have hyl2 : ∀ j ∈ b :: (p.reverse ++ (s :: p)), j < n := fun j hj => by
          rcases List.mem_cons.1 hj with rfl | hj
          · exact hb
          · exact hyl j hj
        have hyb2 : act A (b :: (p.reverse ++ (s :: p))) u b' < 0 := by rw [act_cons, hy0]; exact hyb'
        have := coh_neg hA hu hyl2 hb' hyb2 hv
        rw [act_cons, hyv, rv] at this
        have hbi' : b' = b := by
          refine Classical.byContradiction fun hn => ?_
          have : v b' = 1 := if_neg hn
          omega
        subst hbi'
        rw [act_cons, refl_self (hA.diag _ hb), hy0] at hyb2
        omega
  intro x
  have h5 := congrArg (act A p) (hti x)
  rw [act_append, rp2] at h5
  rw [h5, act_append]
  rfl

/-- The exchange of letters. -/
theorem exch (hA : Cartan A n) {u : Vec} (hu : ∀ i, i < n → 0 < u i) {s : Nat} (hs : s < n) : ∀ (w p : List Nat), (∀ i ∈ w, i < n) → (∀ i ∈ p, i < n) → 0 < act A p u s → act A (p ++ w) u s < 0 →
    ∃ a i b, w = a ++ i :: b ∧ ∀ x, act A (s :: (p ++ w)) x = act A (p ++ (a ++ b)) x
  | [], p, _, _, h1, h2 => by rw [List.append_nil] at h2; omega
  | i :: w, p, hw, hp, h1, h2 => by
    have hi := hw i (List.mem_cons_self ..)
    have hw' : ∀ j ∈ w, j < n := fun j hj => hw j (List.mem_cons_of_mem _ hj)
    have hpi : ∀ j ∈ p ++ [i], j < n := fun j hj => by
      rcases List.mem_append.1 hj with hj | hj
      · exact hp j hj
      · simp at hj; rw [hj]; exact hi
    obtain ⟨t, ht, _, _, _⟩ := back hA hu (p ++ [i]) hpi
    have hnz := nonzero hA _ rfl ht hu s hs
    have e : p ++ i :: w = p ++ [i] ++ w := by simp
    by_cases h3 : act A (p ++ [i]) u s < 0
    · refine ⟨[], i, w, rfl, fun x => ?_⟩
      have := turn hA hu hp hs hi h1 h3 (act A w x)
      rw [act_cons, e, act_append A (p ++ [i]) w, act_append A p ([] ++ w), ← turn hA hu hp hs hi h1 h3, act_cons, refl_refl (hA.diag s hs)]
      rfl
    · obtain ⟨a, j, b, h4, h5⟩ := exch hA hu hs w (p ++ [i]) hw' hpi (by omega) (by rw [← e]; exact h2)
      refine ⟨i :: a, j, b, by rw [h4]; rfl, fun x => ?_⟩
      rw [e, h5]
      simp
end Go.Cox
