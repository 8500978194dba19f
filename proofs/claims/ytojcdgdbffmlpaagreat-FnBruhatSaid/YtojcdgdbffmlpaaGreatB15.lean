/- Signs of the images of dominant vectors do not depend on the vector; the exchange of letters, in words of any length. -/
import Derived.Test.YtojcdgdbffmlpaaGreatB11
import Derived.Test.YtojcdgdbffmlpaaGreatB8
import Derived.Test.YtojcdgdbffmlpaaGreatB12
import Derived.WalkKit
import Derived.Lib.Walk
import Derived.Lib.SliceRun
import Derived.Lib.AppendZeros
import Derived.Test.YtojcdgdbffmlpaaGreatB13
set_option linter.unusedVariables false
set_option linter.unusedSimpArgs false
namespace Go.Cox
variable {A : Mat} {n : Nat}
theorem act_lin (A : Mat) (N : Int) (u v : Vec) : ∀ w, act A w (fun k => u k + N * v k) = fun k => act A w u k + N * act A w v k
  | [] => rfl
  | i :: w => by
    rw [act_cons, act_lin A N u v w, act_cons, act_cons]
    funext k
    simp only [refl]
    grind
theorem play_len (hA : Cartan A n) {u u' : Vec} (hu : ∀ i, i < n → 0 < u i) (hu' : ∀ i, i < n → 0 < u' i) {w t t' : List Nat} (hw : ∀ i ∈ w, i < n) (h : Play A n (act A w u) t u) (h' : Play A n (act A w u') t' u') : t.length = t'.length := by
  have key : ∀ {u u' : Vec} {t t' : List Nat}, (∀ i, i < n → 0 < u i) → (∀ i, i < n → 0 < u' i) → Play A n (act A w u) t u → Play A n (act A w u') t' u' → t'.length ≤ t.length := by
    intro u u' t t' hu hu' h h'
    obtain ⟨s, hs, _, _, es⟩ := back hA hu w hw
    obtain ⟨s', hs', hl, _, _⟩ := back hA hu' s hs.mem
    rw [es] at hs'
    obtain ⟨r, _, hb⟩ := conv hA _ rfl hs (fun i hi => Int.le_of_lt (hu i hi)) h
    obtain ⟨r', _, hb'⟩ := conv hA _ rfl h (fun i hi => Int.le_of_lt (hu i hi)) hs
    obtain ⟨q, _, hq⟩ := conv hA _ rfl hs' (fun i hi => Int.le_of_lt (hu' i hi)) h'
    have h1 := hb.length
    have h2 := hq.length
    have h3 := hb'.length
    simp at h1 h2 h3
    omega
  exact Nat.le_antisymm (key hu' hu h' h) (key hu hu' h h')
theorem sign_indep (hA : Cartan A n) {u u' : Vec} (hu : ∀ i, i < n → 0 < u i) (hu' : ∀ i, i < n → 0 < u' i) {w : List Nat} (hw : ∀ i ∈ w, i < n) {j : Nat} (hj : j < n) (h : act A w u j < 0) : act A w u' j < 0 := by
  obtain ⟨t, ht, _, _, _⟩ := back hA hu w hw
  obtain ⟨t', ht', _, _, _⟩ := back hA hu' w hw
  have hnz := nonzero hA _ rfl ht' hu' j hj
  refine Classical.byContradiction fun hn => ?_
  have hpos : 0 < act A w u' j := by omega
  have e := play_len hA hu hu' hw ht ht'
  have hjw : ∀ i ∈ j :: w, i < n := fun i hi => by rcases List.mem_cons.1 hi with rfl | hi; exact hj; exact hw i hi
  obtain ⟨r, hr, hb⟩ := conv hA _ rfl ht (fun i hi => Int.le_of_lt (hu i hi)) (.cons hj h (.nil _))
  have h1 : Play A n (act A (j :: w) u') (j :: t') u' := .cons hj (by rw [act_cons, refl_self (hA.diag j hj)]; omega) (by rw [act_cons, refl_refl (hA.diag j hj)]; exact ht')
  have := play_len hA hu hu' hjw hr h1
  have h2 := hb.length
  simp at h2 this
  omega
theorem coh_pos (hA : Cartan A n) {u : Vec} (hu : ∀ i, i < n → 0 < u i) {w : List Nat} (hw : ∀ i ∈ w, i < n) {j : Nat} (hj : j < n) (h : 0 < act A w u j) {v : Vec} (hv : ∀ i, i < n → 0 ≤ v i) : 0 ≤ act A w v j := by
  refine Classical.byContradiction fun hn => ?_
  have hu' : ∀ i, i < n → 0 < (fun k => u k + (act A w u j + 1) * v k) i := fun i hi => by
    have h1 := hu i hi
    have h2 : 0 ≤ (act A w u j + 1) * v i := Int.mul_nonneg (by omega) (hv i hi)
    show 0 < u i + (act A w u j + 1) * v i
    omega
  have e := congrFun (act_lin A (act A w u j + 1) u v w) j
  have hneg : act A w (fun k => u k + (act A w u j + 1) * v k) j < 0 := by
    rw [e]
    have h3 : (act A w u j + 1) * act A w v j ≤ (act A w u j + 1) * (-1) := Int.mul_le_mul_of_nonneg_left (by omega) (by omega)
    omega
  have := sign_indep hA hu' hu hw hj hneg
  omega
theorem coh_neg (hA : Cartan A n) {u : Vec} (hu : ∀ i, i < n → 0 < u i) {w : List Nat} (hw : ∀ i ∈ w, i < n) {j : Nat} (hj : j < n) (h : act A w u j < 0) {v : Vec} (hv : ∀ i, i < n → 0 ≤ v i) : act A w v j ≤ 0 := by
  have e : act A (j :: w) u j = -act A w u j := by rw [act_cons, refl_self (hA.diag j hj)]
  have e2 : act A (j :: w) v j = -act A w v j := by rw [act_cons, refl_self (hA.diag j hj)]
  have := coh_pos hA hu (w := j :: w) (fun i hi => by rcases List.mem_cons.1 hi with rfl | hi; exact hj; exact hw i hi) hj (by omega) hv
  omega
theorem turn (hA : Cartan A n) {u : Vec} (hu : ∀ i, i < n → 0 < u i) {p : List Nat} (hp : ∀ i ∈ p, i < n) {s i : Nat} (hs : s < n) (hi : i < n) (h1 : 0 < act A p u s) (h2 : act A (p ++ [i]) u s < 0) : ∀ x, act A (s :: p) x = act A (p ++ [i]) x := by
  let v : Vec := fun k => if k = i then 0 else 1
  have hv : ∀ j, j < n → 0 ≤ v j := fun j _ => by show 0 ≤ (if j = i then (0 : Int) else 1); split <;> omega
  have hvi : v i = 0 := if_pos rfl
  have rv : refl A i v = v := by funext k; simp only [refl, hvi]; omega
  have hpi : ∀ j ∈ p ++ [i], j < n := fun j hj => by
    rcases List.mem_append.1 hj with hj | hj
    · exact hp j hj
    · simp at hj; rw [hj]; exact hi
  have f1 := coh_pos hA hu hp hs h1 hv
  have f2 := coh_neg hA hu hpi hs h2 hv
  rw [act_append] at f2
  have e0 : act A [i] v = v := rv
  rw [e0] at f2
  have f0 : act A p v s = 0 := by omega
  have hsp : act A (s :: p) v = act A p v := by
    rw [act_cons]; funext k; simp only [refl, f0]; omega
  have hyl : ∀ j ∈ p.reverse ++ (s :: p), j < n := fun j hj => by
    rcases List.mem_append.1 hj with hj | hj
    · exact hp j (by simpa using hj)
    · rcases List.mem_cons.1 hj with rfl | hj
      · exact hs
      · exact hp j hj
  have rp : ∀ x, act A p.reverse (act A p x) = x := fun x => by rw [act_reverse, run_act hA p hp]
  have rp2 : ∀ x, act A p (act A p.reverse x) = x := fun x => by rw [act_reverse, act_run hA p hp]
  have hyv : act A (p.reverse ++ (s :: p)) v = v := by rw [act_append, hsp, rp]
  obtain ⟨t, ht, _, _, et⟩ := back hA hu (p.reverse ++ (s :: p)) hyl
  have hti : ∀ x, act A (p.reverse ++ (s :: p)) x = refl A i x := by
    generalize hy0 : act A (p.reverse ++ (s :: p)) u = y0 at ht
    cases ht with
    | nil =>
      exfalso
      have := et u
      rw [act_nil, act_append] at this
      have h3 := congrArg (act A p) this
      rw [rp2, act_cons] at h3
      have h4 := congrFun h3 s
      rw [refl_self (hA.diag s hs)] at h4
      omega
    | @cons _ _ b t' hb hyb ht' =>
      have hbi : b = i := by
        have := coh_neg hA hu hyl hb (by rw [hy0]; exact hyb) hv
        rw [hyv] at this
        refine Classical.byContradiction fun hn => ?_
        have : v b = 1 := if_neg hn
        omega
      subst hbi
      cases ht' with
      | nil => intro x; rw [← et]; rfl
      | @cons _ _ b' t'' hb' hyb' _ =>
        exfalso
        have hyl2 : ∀ j ∈ b :: (p.reverse ++ (s :: p)), j < n := fun j hj => by
          rcases List.mem_cons.1 hj with rfl | hj
          · exact hb
          · exact hyl j hj
        have hyb2 : act A (b :: (p.reverse ++ (s :: p))) u b' < 0 := by rw [act_cons, hy0]; exact hyb'
        have := coh_neg hA hu hyl2 hb' hyb2 hv
        rw [act_cons, hyv, rv] at this
        have hbi' : b' = b := by
          refine Classical.byContradiction fun hn => ?_
          have : v b' = 1 := if_neg hn
          omega
        subst hbi'
        rw [act_cons, refl_self (hA.diag _ hb), hy0] at hyb2
        omega
  intro x
  have h5 := congrArg (act A p) (hti x)
  rw [act_append, rp2] at h5
  rw [h5, act_append]
  rfl
theorem exch (hA : Cartan A n) {u : Vec} (hu : ∀ i, i < n → 0 < u i) {s : Nat} (hs : s < n) : ∀ (w p : List Nat), (∀ i ∈ w, i < n) → (∀ i ∈ p, i < n) → 0 < act A p u s → act A (p ++ w) u s < 0 →
    ∃ a i b, w = a ++ i :: b ∧ ∀ x, act A (s :: (p ++ w)) x = act A (p ++ (a ++ b)) x
  | [], p, _, _, h1, h2 => by rw [List.append_nil] at h2; omega
  | i :: w, p, hw, hp, h1, h2 => by
    have hi := hw i (List.mem_cons_self ..)
    have hw' : ∀ j ∈ w, j < n := fun j hj => hw j (List.mem_cons_of_mem _ hj)
    have hpi : ∀ j ∈ p ++ [i], j < n := fun j hj => by
      rcases List.mem_append.1 hj with hj | hj
      · exact hp j hj
      · simp at hj; rw [hj]; exact hi
    obtain ⟨t, ht, _, _, _⟩ := back hA hu (p ++ [i]) hpi
    have hnz := nonzero hA _ rfl ht hu s hs
    have e : p ++ i :: w = p ++ [i] ++ w := by simp
    by_cases h3 : act A (p ++ [i]) u s < 0
    · refine ⟨[], i, w, rfl, fun x => ?_⟩
      have := turn hA hu hp hs hi h1 h3 (act A w x)
      rw [act_cons, e, act_append A (p ++ [i]) w, act_append A p ([] ++ w), ← turn hA hu hp hs hi h1 h3, act_cons, refl_refl (hA.diag s hs)]
      rfl
    · obtain ⟨a, j, b, h4, h5⟩ := exch hA hu hs w (p ++ [i]) hw' hpi (by omega) (by rw [← e]; exact h2)
      refine ⟨i :: a, j, b, by rw [h4]; rfl, fun x => ?_⟩
      rw [e, h5]
      simp
end Go.Cox
namespace Go.Proofs.YtojcdgdbffmlpaaGreat
open Go Go.Aw
theorem cmpN_neg (p q : List Int) : ∀ n i, cmpN q p n i = - cmpN p q n i
  | 0, i => rfl
  | n + 1, i => by
    have ih := cmpN_neg p q n (i + 1)
    simp only [cmpN]
    by_cases h1 : p.getD i 0 < q.getD i 0
    · rw [if_pos h1, if_neg (by omega), if_pos (by omega)]; rfl
    · by_cases h2 : p.getD i 0 > q.getD i 0
      · have h3 : q.getD i 0 < p.getD i 0 := h2
        simp only [h1, h2, h3, if_true, if_false]
      · rw [if_neg h1, if_neg h2, if_neg (by omega), if_neg (by omega)]; exact ih
theorem cmpW_neg (p q : List Int) : cmpW q p = - cmpW p q := by
  unfold cmpW
  by_cases h1 : p.length < q.length
  · rw [if_pos h1, if_neg (by omega), if_pos (by omega)]; rfl
  · by_cases h2 : p.length > q.length
    · have h3 : q.length < p.length := h2
      simp only [h1, h2, h3, if_true, if_false]
    · rw [if_neg h1, if_neg h2, if_neg (by omega), if_neg (by omega), show q.length = p.length by omega]; exact cmpN_neg p q _ 0
def StrictW (l : List (List Int)) : Prop := l.Pairwise fun p q => cmpW p q < 0
theorem StrictW.nil : StrictW [] := List.Pairwise.nil
theorem strict_ext : ∀ {a b : List (List Int)}, StrictW a → StrictW b → (∀ x, x ∈ a ↔ x ∈ b) → a = b
  | [], [], _, _, _ => rfl
  | [], y :: b, _, _, h => by have := (h y).2 (List.mem_cons_self ..); simp at this
  | x :: a, [], _, _, h => by have := (h x).1 (List.mem_cons_self ..); simp at this
  | x :: a, y :: b, ha, hb, h => by
    obtain ⟨ha1, ha2⟩ := List.pairwise_cons.1 ha
    obtain ⟨hb1, hb2⟩ := List.pairwise_cons.1 hb
    have hxy : x = y := by
      rcases List.mem_cons.1 ((h x).1 (List.mem_cons_self ..)) with e | e
      · exact e
      · rcases List.mem_cons.1 ((h y).2 (List.mem_cons_self ..)) with e2 | e2
        · exact e2.symm
        · have h1 := hb1 x e
          have h2 := ha1 y e2
          have := cmpW_neg x y
          omega
    subst hxy
    have nx : ∀ {l : List (List Int)}, (∀ z ∈ l, cmpW x z < 0) → x ∉ l := fun {l} hl hx => by
      have := hl x hx
      rw [cmpW_self] at this
      omega
    rw [strict_ext ha2 hb2 fun z => ⟨fun hz => ?_, fun hz => ?_⟩]
    · rcases List.mem_cons.1 ((h z).1 (List.mem_cons_of_mem _ hz)) with e | e
      · rw [e] at hz; exact (nx ha1 hz).elim
      · exact e
    · rcases List.mem_cons.1 ((h z).2 (List.mem_cons_of_mem _ hz)) with e | e
      · rw [e] at hz; exact (nx hb1 hz).elim
      · exact e
theorem putS_true (w : List Int) : ∀ l, putS w true l = l
  | [] => rfl
  | x :: l => by simp only [putS]; rw [if_neg (by simp), Bool.true_or, putS_true w l]
theorem putS_mem (w : List Int) : ∀ (l : List (List Int)) (z : List Int), z ∈ putS w false l ↔ z = w ∨ z ∈ l
  | [], z => by simp [putS]
  | x :: l, z => by
    simp only [putS]
    by_cases h : cmpW w x < 0
    · rw [if_pos ⟨h, trivial⟩, putS_true]; simp
    · rw [if_neg (by simp [h])]
      by_cases h0 : cmpW w x = 0
      · have e := (cmpW_zero w x).1 h0
        rw [show (false || cmpW w x == 0) = true by simp [h0], putS_true, e]; simp
      · rw [show (false || cmpW w x == 0) = false by simp [h0]]
        simp only [List.mem_cons, putS_mem w l z]
        constructor
        · rintro (h | h | h) <;> simp [h]
        · rintro (h | h | h) <;> simp [h]
theorem putS_strict (w : List Int) : ∀ {l : List (List Int)}, StrictW l → StrictW (putS w false l)
  | [], _ => by unfold StrictW; simp [putS]
  | x :: l, hl => by
    obtain ⟨h1, h2⟩ := List.pairwise_cons.1 hl
    simp only [putS]
    by_cases h : cmpW w x < 0
    · rw [if_pos ⟨h, trivial⟩, putS_true]
      refine List.pairwise_cons.2 ⟨fun z hz => ?_, hl⟩
      rcases List.mem_cons.1 hz with rfl | hz
      · exact h
      · exact cmpW_lt_trans h (h1 z hz)
    · rw [if_neg (by simp [h])]
      by_cases h0 : cmpW w x = 0
      · rw [show (false || cmpW w x == 0) = true by simp [h0], putS_true]; exact hl
      · rw [show (false || cmpW w x == 0) = false by simp [h0]]
        refine List.pairwise_cons.2 ⟨fun z hz => ?_, putS_strict w h2⟩
        rcases (putS_mem w l z).1 hz with rfl | hz
        · have := cmpW_neg z x; omega
        · exact h1 z hz
def srtL' (l0 L : List (List Int)) : List (List Int) := L.foldl (fun l w => putS w false l) l0
def srt (L : List (List Int)) : List (List Int) := srtL' [] L
theorem srt_snoc (L : List (List Int)) (w : List Int) : srt (L ++ [w]) = putS w false (srt L) := by simp [srt, srtL']
theorem srt_spec (L : List (List Int)) : StrictW (srt L) ∧ ∀ z, z ∈ srt L ↔ z ∈ L := by
  have key : ∀ (L l0 : List (List Int)), StrictW l0 → StrictW (srtL' l0 L) ∧ ∀ z, z ∈ srtL' l0 L ↔ z ∈ l0 ∨ z ∈ L := by
    intro L
    induction L with
    | nil => intro l0 h; exact ⟨h, fun z => by simp [srtL']⟩
    | cons w L ih =>
      intro l0 h
      obtain ⟨h1, h2⟩ := ih (putS w false l0) (putS_strict w h)
      refine ⟨h1, fun z => ?_⟩
      show z ∈ srtL' (putS w false l0) L ↔ _
      rw [h2 z, putS_mem]
      simp only [List.mem_cons]
      constructor
      · rintro ((h | h) | h) <;> simp [h]
      · rintro (h | h | h) <;> simp [h]
  obtain ⟨h1, h2⟩ := key L [] StrictW.nil
  exact ⟨h1, fun z => by rw [show srt L = srtL' [] L from rfl, h2 z]; simp⟩
theorem sorted_srt {L : List (List Int)} (hn : L.Nodup) {a : List (List Int)} (hp : a.Perm L) (hs : a.Pairwise fun p q => ¬ cmpW q p < 0) : a = srt L := by
  obtain ⟨h1, h2⟩ := srt_spec L
  refine strict_ext ?_ h1 fun z => (hp.mem_iff).trans (h2 z).symm
  have hna : a.Nodup := hp.nodup_iff.2 hn
  refine List.Pairwise.imp₂ ?_ hs hna
  intro p q h1 h2
  have h3 := cmpW_neg p q
  have h4 := cmpW_zero p q
  rcases Int.lt_trichotomy (cmpW p q) 0 with h | h | h
  · exact h
  · exact absurd (h4.1 h) h2
  · omega
theorem srt_len (L : List (List Int)) : (srt L).length ≤ L.length := by
  have key : ∀ (L l0 : List (List Int)), (srtL' l0 L).length ≤ l0.length + L.length := by
    intro L
    induction L with
    | nil => intro l0; simp [srtL']
    | cons w L ih =>
      intro l0
      have := ih (putS w false l0)
      have h2 : ∀ (b : Bool) (l : List (List Int)), (putS w b l).length ≤ l.length + 1 := by
        intro b l
        induction l generalizing b with
        | nil => cases b <;> simp [putS]
        | cons x l ih =>
          simp only [putS]
          split
          · rw [putS_true]; simp
          · have := ih (b || cmpW w x == 0); simp; omega
      have := h2 false l0
      show (srtL' (putS w false l0) L).length ≤ _
      simp only [List.length_cons]
      omega
  have := key L []
  simpa [srt] using this
end Go.Proofs.YtojcdgdbffmlpaaGreat
namespace Go.Proofs.YtojcdgdbffmlpaaGreat
open Go Go.Aw Go.Cox Go.RowKit
end Go.Proofs.YtojcdgdbffmlpaaGreat
namespace Go.Proofs.YtojcdgdbffmlpaaGreat
open Go Go.Aw Go.Cox
theorem c_slices_Clone (w : List Int) (hl : w.length ≤ 1048576) : FunA B 121 [.sl false .int w] (fun rs o => ∃ nn, rs = [.own 0 0] ∧ o = [.arr .int w 0 nn]) := by
  refine FunA.walk B_ok (fn := Tryz.f121) (fun vs w => Tryz.call121 vs w) Tryz.func121 rfl (by rw [Tryz.ntmps121]; simp) (fun C hC hP hT hΓ hbt hfn hpin hfin => ?_); have hX := BX; rw [← hΓ, ← hbt.1, ← hbt.2] at hX; rw [Tryz.ntmps121]; simp only [AW7, simprocAttr, hX]
  refine Run.nq ?_; refine Run.regionW hC (fun K hK => ?_); simp only [AW7, simprocAttr, hX]; (repeat (with_reducible refine And.intro ?_ ?_); exact vc0); refine hK _ ?_; clear hK K; refine Run.nq ?_
  cases w with
  | nil =>
    refine Run.nilcase 0 rfl fun b => ?_
    refine Run.nq ?_; refine Run.regionW hC (fun K hK => ?_); simp only [AW7, simprocAttr, hX]; (repeat (with_reducible refine And.intro ?_ ?_); exact vc0); refine hK _ ?_; clear hK K; refine Run.nq ?_
    refine Run.nq ?_; refine Run.condW (by simp only [AW7, simprocAttr, hX]; rfl) (by simp only [AW7, simprocAttr, hX]) ?_ ?_
    · intro h
      refine Run.nq ?_; refine Run.regionW hC (fun K hK => ?_); simp only [AW7, simprocAttr, hX]; (repeat (with_reducible refine And.intro ?_ ?_); exact vc0); refine hK _ ?_; clear hK K; refine Run.nq ?_
      refine Run.nilown .int 2 rfl ?_
      refine Run.retW [2] (by decide) (by rw [hfn]; rfl) (by simp only [AW7, simprocAttr, hX]; rfl) (by simp only [AW7, simprocAttr, hX]) (hfin _ _ rfl rfl ?_)
      exact ⟨false, rfl, rfl⟩
    · intro h
      refine Run.nq ?_; refine Run.regionW hC (fun K hK => ?_); simp only [AW7, simprocAttr, hX]; (repeat (with_reducible refine And.intro ?_ ?_); exact vc0); refine hK _ ?_; clear hK K; refine Run.nq ?_
      refine Run.le (Le.re (obs' := [.arr .int [] 0 true]) hpin [0] [(2, true, .own 0 0)] rfl (by simp [leOs, leO_arr, oAt]) (by refine ⟨⟨_, rfl, ?_⟩, trivial⟩; simp [leAV, oAt, genO])) ?_
      simp only [frV_cons, frV_nil]
      refine Run.retW [2] (by decide) (by rw [hfn]; rfl) (by simp only [AW7, simprocAttr, hX]; rfl) (by simp only [AW7, simprocAttr, hX]) (hfin _ _ rfl rfl ?_)
      exact ⟨true, rfl, rfl⟩
  | cons x w =>
    refine Run.nq ?_; refine Run.regionW hC (fun K hK => ?_); simp only [AW7, simprocAttr, hX]; (repeat (with_reducible refine And.intro ?_ ?_); exact vc0); refine hK _ ?_; clear hK K; refine Run.nq ?_
    refine Run.nq ?_; refine Run.condW (by simp only [AW7, simprocAttr, hX]; rfl) (by simp only [AW7, simprocAttr, hX]) ?_ ?_
    · intro h
      simp at h
    · intro h
      refine Run.nq ?_; refine Run.regionW hC (fun K hK => ?_); simp only [AW7, simprocAttr, hX]; (repeat (with_reducible refine And.intro ?_ ?_); exact vc0); refine hK _ ?_; clear hK K; refine Run.nq ?_
      refine Run.le (Le.re (obs' := [.arr .int (x :: w) 0 true]) hpin [0] [(2, true, .own 0 0)] rfl (by simp [leOs, leO_arr, oAt]) (by refine ⟨⟨_, rfl, ?_⟩, trivial⟩; simp [leAV, oAt, genO])) ?_
      simp only [frV_cons, frV_nil]
      refine Run.retW [2] (by decide) (by rw [hfn]; rfl) (by simp only [AW7, simprocAttr, hX]; rfl) (by simp only [AW7, simprocAttr, hX]) (hfin _ _ rfl rfl ?_)
      exact ⟨true, rfl, rfl⟩
end Go.Proofs.YtojcdgdbffmlpaaGreat
namespace Go.Proofs.YtojcdgdbffmlpaaGreat
open Go Go.Aw
end Go.Proofs.YtojcdgdbffmlpaaGreat
namespace Go.Proofs.YtojcdgdbffmlpaaGreat
open Go Go.Aw Go.Cox Go.RowKit
end Go.Proofs.YtojcdgdbffmlpaaGreat
namespace Go.Proofs.YtojcdgdbffmlpaaGreat
open Go Go.Aw
end Go.Proofs.YtojcdgdbffmlpaaGreat
namespace Go.Proofs.YtojcdgdbffmlpaaGreat
open Go Go.Aw Go.Cox
end Go.Proofs.YtojcdgdbffmlpaaGreat
namespace Go.Proofs.YtojcdgdbffmlpaaGreat
open Go Go.Aw Go.Cox
theorem Run.join {C : Ctx} {i j : Item} {k : List Item} {σ : St} (σ' : St) (h1 : Run C k σ') (h2 : Run C k σ' → Run C (i :: j :: k) σ) : Run C (i :: j :: k) σ := h2 h1
theorem lp_step {c : List (List Int)} {s v : List Int} (h : ¬ firstIn v s < 0) (f : Nat) : lpL c s (f + 1) v = (firstIn v s :: (lpL c s f (reflL c (firstIn v s) v)).1, (lpL c s f (reflL c (firstIn v s) v)).2) := by
  simp only [lpL]; rw [if_neg h]
structure LP (c : List (List Int)) (s v0 : List Int) (L : Nat) (a v : List Int) : Prop where
  far : Far c (L - a.length) v
  le : a.length ≤ L
  let_ : letters c.length a
  eq : lpL c s 31 v0 = (a ++ (lpL c s (31 - a.length) v).1, (lpL c s (31 - a.length) v).2)
theorem LP.start {c : List (List Int)} {s v0 : List Int} {L : Nat} (h : Far c L v0) : LP c s v0 L [] v0 := ⟨h, Nat.zero_le _, letters_nil _, rfl⟩
theorem LP.step {c : List (List Int)} (hc : CartanP c) {s v0 a v : List Int} {L : Nat} (hs : letters c.length s) (hL : L ≤ 31) (h : LP c s v0 L a v) (k : ¬ firstIn v s < 0) :
    LP c s v0 L (a ++ [firstIn v s]) (reflL c (firstIn v s) v) ∧ a.length < L ∧ (0 ≤ firstIn v s ∧ firstIn v s < c.length) := by
  rcases firstIn_spec v s hs with ⟨h1, _⟩ | ⟨h1, h2, _, h4⟩
  · omega
  · obtain ⟨M, m1, m2⟩ := h.far.down hc ⟨h1, h2⟩ h4
    have hle := h.le
    refine ⟨⟨?_, by simp; omega, letters_append.2 ⟨h.let_, letters_cons.2 ⟨⟨h1, h2⟩, letters_nil _⟩⟩, ?_⟩, by omega, h1, h2⟩
    · rw [show L - (a ++ [firstIn v s]).length = M by simp; omega]; exact m2
    · rw [h.eq, show 31 - a.length = (31 - (a ++ [firstIn v s]).length) + 1 by simp; omega, lp_step k]
      simp
end Go.Proofs.YtojcdgdbffmlpaaGreat
namespace Go.Proofs.YtojcdgdbffmlpaaGreat
open Go Go.Aw Go.Cox
theorem nfW_on {c : List (List Int)} {w : List Int} (h : wordB c w = true) : nfW c w = redL c w := by simp [nfW, h]
end Go.Proofs.YtojcdgdbffmlpaaGreat
namespace Go.Proofs.YtojcdgdbffmlpaaGreat
open Go Go.Aw Go.Cox
def delA (x : List Int) (k : Nat) : List Int := x.take k ++ x.drop (k + 1)
def bcF (c : List (List Int)) (x : List Int) (k : Nat) : Option (List Int) := if (redL c (delA x k)).length + 1 = x.length then some (redL c (delA x k)) else none
def bcT (c : List (List Int)) (x : List Int) (n : Nat) : List (List Int) := (List.range n).filterMap (bcF c x)
noncomputable def bcv (c : List (List Int)) (w : List Int) : List (List Int) := if wordB c w then srt (bcT c (redL c w) (redL c w).length) else []
theorem bcT_snoc (c : List (List Int)) (w : List Int) (n : Nat) : bcT c w (n + 1) = bcT c w n ++ (bcF c w n).toList := by
  unfold bcT
  rw [List.range_succ, List.filterMap_append]
  cases h : bcF c w n <;> simp [h]
theorem bcT_len (c : List (List Int)) (w : List Int) : ∀ n, (bcT c w n).length ≤ n
  | 0 => by simp [bcT]
  | n + 1 => by
    have := bcT_len c w n
    rw [bcT_snoc, List.length_append]
    cases bcF c w n <;> simp <;> omega
theorem bcF_some {c : List (List Int)} {w : List Int} {i : Nat} {x : List Int} (h : bcF c w i = some x) : x = redL c (delA w i) ∧ x.length + 1 = w.length := by
  unfold bcF at h
  split at h
  · rename_i h2; cases h; exact ⟨rfl, h2⟩
  · cases h
theorem delA_app (u t : List Int) (a : Int) {k : Nat} (h : u.length = k) : delA (u ++ a :: t) k = u ++ t := by
  subst h
  simp [delA]
theorem delA_letters {n : Nat} {x : List Int} (h : letters n x) (k : Nat) : letters n (delA x k) := by
  unfold delA
  exact letters_append.2 ⟨fun i hi => h i (List.mem_of_mem_take hi), fun i hi => h i (List.mem_of_mem_drop hi)⟩
theorem delA_len {x : List Int} {k : Nat} (h : k < x.length) : (delA x k).length + 1 = x.length := by unfold delA; simp; omega
theorem red_del_inj {c : List (List Int)} (hc : CartanP c) {x : List Int} (hR : Red c x) (hl : x.length ≤ 15) {i j : Nat} (hij : i < j) (hj : j < x.length) (h : redL c (delA x i) = redL c (delA x j)) : False := by
  obtain ⟨u, a, v, b, z, hx, h1, h2⟩ : ∃ u a v b z, x = u ++ a :: (v ++ b :: z) ∧ u.length = i ∧ (u ++ a :: v).length = j := by
    refine ⟨x.take i, x[i]'(by omega), (x.drop (i + 1)).take (j - (i + 1)), x[j]'hj, x.drop (j + 1), ?_, by simp; omega, by simp; omega⟩
    have e1 : x.drop (i + 1) = (x.drop (i + 1)).take (j - (i + 1)) ++ (x[j]'hj :: x.drop (j + 1)) := by
      have e2 := (List.take_append_drop (j - (i + 1)) (x.drop (i + 1))).symm
      rw [List.drop_drop, show i + 1 + (j - (i + 1)) = j by omega, List.drop_eq_getElem_cons hj] at e2
      exact e2
    rw [← e1, ← List.drop_eq_getElem_cons (by omega : i < x.length), List.take_append_drop]
  have hd1 : delA x i = u ++ (v ++ b :: z) := by rw [hx]; exact delA_app _ _ _ h1
  have hd2 : delA x j = u ++ a :: (v ++ z) := by
    rw [hx, show u ++ a :: (v ++ b :: z) = (u ++ a :: v) ++ b :: z by simp, delA_app _ _ _ h2]; simp
  have hlx := hR.1
  have k1 := delA_len (x := x) (k := i) (by omega)
  have k2 := delA_len (x := x) (k := j) hj
  have e1 := (red_spec hc (delA_letters hlx i) (by omega)).2.2.2.1
  have e2 := (red_spec hc (delA_letters hlx j) (by omega)).2.2.2.1
  rw [h, e2, hd1, hd2, image_append, image_append] at e1
  rw [hx] at hlx
  obtain ⟨lu, la⟩ := letters_append.1 hlx
  obtain ⟨la, lv⟩ := letters_cons.1 la
  have k := congrArg (actL c u.reverse) e1
  rw [act_rev hc u lu (imageL_length c _), act_rev hc u lu (imageL_length c _)] at k
  have hm : imageL c x = imageL c (u ++ (v ++ z)) := by
    rw [hx, image_append, image_append, image_cons, ← k, image_cons, refl2 hc la (imageL_length c _)]
  have huz : letters c.length (u ++ (v ++ z)) := by
    obtain ⟨l1, l2⟩ := letters_append.1 lv
    exact letters_append.2 ⟨lu, letters_append.2 ⟨l1, (letters_cons.1 l2).2⟩⟩
  obtain ⟨L, hL1, _, hL3⟩ := Far.image hc huz
  rw [← hm] at hL3
  have := hR.2.uniq hc hL3
  have hxl : x.length = u.length + (v.length + z.length) + 2 := by rw [hx]; simp; omega
  simp at hL1
  omega
theorem bcT_nodup {c : List (List Int)} (hc : CartanP c) {x : List Int} (hR : Red c x) (hl : x.length ≤ 15) : (bcT c x x.length).Nodup := by
  unfold bcT
  have hp : (List.range x.length).Pairwise (fun i j => i < j ∧ j < x.length) := by
    refine List.pairwise_iff_getElem.2 fun i j hi hj hij => ?_
    simp only [List.getElem_range]
    simp at hi hj
    omega
  refine List.Pairwise.filterMap (bcF c x) (fun i j h a hx b hy e => ?_) hp
  subst e
  obtain ⟨h1, _⟩ := bcF_some hx
  obtain ⟨h2, _⟩ := bcF_some hy
  exact red_del_inj hc hR hl h.1 h.2 (by rw [← h1, ← h2])
theorem bcT_rows {c : List (List Int)} {x : List Int} (hl : x.length ≤ 15) (n : Nat) : ∀ r ∈ bcT c x n, r.length ≤ 15 := by
  intro r hr
  unfold bcT at hr
  obtain ⟨i, _, hi⟩ := List.mem_filterMap.1 hr
  have := (bcF_some hi).2
  omega
theorem bcv_len (c : List (List Int)) (w : List Int) : (bcv c w).length ≤ 15 := by
  unfold bcv
  cases hw : wordB c w with
  | false => simp
  | true =>
    obtain ⟨hc, h2, h3⟩ := wordB_iff.1 hw
    have h1 := srt_len (bcT c (redL c w) (redL c w).length)
    have h4 := bcT_len c (redL c w) (redL c w).length
    have := (red_spec hc h3 (by omega)).2.1
    simp only [if_true]
    omega
theorem strict_adj {L : List (List Int)} (h : StrictW L) {i : Nat} (hi : i + 1 < L.length) : L.getD (i + 1) [] ≠ L.getD i [] := by
  rw [getD_eq hi, getD_eq (by omega : i < L.length)]
  have := List.pairwise_iff_getElem.1 h i (i + 1) (by omega) hi (by omega)
  intro e
  rw [e, cmpW_self] at this
  omega
theorem rw2_getD (ys : List (Nat × List Int)) (k : Nat) : (ys.getD k (0, [])).2 = (rw2 ys).getD k [] := by
  unfold rw2
  simp only [List.getD, List.getElem?_map]
  cases ys[k]? <;> rfl
set_option maxHeartbeats 1000000 in
theorem c_spec_BruhatCoversR (c : List (List Int)) (w : List Int) (hcl : c.length ≤ 1048576) :
    FunA B 32 [.sl false (.row false) c, .sl false .int w] (fun rs o => ∃ ys g nn rest, (rw2 ys = bcv c w ∧ nn = true ∧ rest = []) ∧ (lb1 ys).Nodup ∧ rest.all flatAV = true ∧ rs = .own 0 g :: rest ∧ o = [.arr .lrow ys g nn]) := by
  refine FunA.walk B_ok (fn := Tryz.f32) (fun vs w => Tryz.call32 vs w) Tryz.func32 rfl (by rw [Tryz.ntmps32]; simp) (fun C hC hP hT hΓ hbt hfn hpin hfin => ?_); have hX := BX; rw [← hΓ, ← hbt.1, ← hbt.2] at hX; rw [Tryz.ntmps32]; simp only [AW7, simprocAttr, hX]
  refine Run.nq ?_; refine Run.regionW hC (fun K hK => ?_); simp only [AW7, simprocAttr, hX]; (repeat (with_reducible refine And.intro ?_ ?_); exact vc0); refine hK _ ?_; clear hK K; refine Run.nq ?_
  refine Run.nq ?_; refine Run.regionW hC (fun K hK => ?_); simp only [AW7, simprocAttr, hX]; (repeat (with_reducible refine And.intro ?_ ?_); exact vc0); refine hK _ ?_; clear hK K; refine Run.nq ?_
  refine Run.nq ?_; refine Run.regionW hC (fun K hK => ?_); simp only [AW7, simprocAttr, hX]; (repeat (with_reducible refine And.intro ?_ ?_); exact vc0)
  refine FunA.callW hP hT (c_spec_NormalForm c w hcl) (by simp only [AW7, simprocAttr]) ?_
  rintro rs o ⟨rfl, rfl⟩
  (try simp only [AW7, simprocAttr, hX]); (repeat (with_reducible refine And.intro ?_ ?_); exact vc0)
  (repeat (with_reducible refine And.intro ?_ ?_); exact vc0); refine hK _ ?_; clear hK K; refine Run.nq ?_
  refine Run.nq ?_; refine Run.regionW hC (fun K hK => ?_); simp only [AW7, simprocAttr, hX]; (repeat (with_reducible refine And.intro ?_ ?_); exact vc0); refine hK _ ?_; clear hK K; refine Run.nq ?_
  cases hwb : wordB c w with
  | false =>
    have hz : bcv c w = [] := by unfold bcv; rw [hwb]; rfl
    refine Run.loopI (X := Unit) (fun _ => ⟨41, [(0, true, .v (.sl false (.row false) c)), (5, true, .v (.own 0 0)), (6, true, .v (.own 1 0)), (7, true, .v (.bool false)), (8, true, .v (.int .i64 0))], [.arr .lrow [] 0 true, .arr .int (nfW c w) 0 true]⟩) (fun _ => True) (fun _ => 0) () trivial ?_ ?_
    · exact Le.sub (by rfl) (by simp only [AW7, simprocAttr, hX]; try simp)
    rintro _ _ _
    refine Run.nq ?_; refine Run.regionW hC (fun K hK => ?_); simp only [AW7, simprocAttr, hX]; (repeat (with_reducible refine And.intro ?_ ?_); exact vc0); refine hK _ ?_; clear hK K; refine Run.nq ?_
    refine Run.nq ?_; refine Run.condW (by simp only [AW7, simprocAttr, hX]; rfl) (by simp only [AW7, simprocAttr, hX]) ?_ ?_
    · intro h; cases hx : decide ((0 : Int) < (nfW c w).length) <;> rw [hx] at h <;> cases h
    intro _
    refine Run.exit rfl ?_; refine Run.nq ?_
    refine Run.nq ?_; refine Run.regionW hC (fun K hK => ?_); simp only [AW7, simprocAttr, hX]; (repeat (with_reducible refine And.intro ?_ ?_); exact vc0); refine hK _ ?_; clear hK K; refine Run.nq ?_
    refine Run.reK hpin [4] [0] (by decide) (by simp) ?_; simp only [AR, AW7, simprocAttr]
    refine Run.retW [4] (by decide) (by rw [hfn]; rfl) (by simp only [AW7, simprocAttr, hX]; rfl) (by simp only [AW7, simprocAttr, hX]) (hfin _ _ rfl rfl ?_)
    exact ⟨[], 0, true, [], ⟨hz.symm, rfl, rfl⟩, by simp [lb1], rfl, rfl, rfl⟩
  | true =>
    have hz : bcv c w = srt (bcT c (redL c w) (redL c w).length) := by unfold bcv; rw [hwb]; rfl
    obtain ⟨hc, h2, h3⟩ := wordB_iff.1 hwb
    rw [nfW_on hwb]
    obtain ⟨a1, a2, a3, a4, a5⟩ := red_spec hc h3 (by omega)
    generalize hy : redL c w = x at *
    refine Run.reK hpin [0, 5, 6, 7, 8] [0, 1] (by decide) (by simp) ?_; simp only [AR, AW7, simprocAttr]
    refine Run.loopI (X := List (Nat × List Int) × Nat) (fun y => ⟨41, [(0, true, .v (.sl false (.row false) (c))), (5, true, .v (.own 0 0)), (6, true, .v (.own 1 0)), (7, true, .v (.bool (true))), (8, true, .v (.int .i64 (y.2)))], [.arr .lrow (y.1) 0 true, .arr .int (x) 0 true]⟩) (fun y => y.2 ≤ x.length ∧ rw2 y.1 = srt (bcT c x y.2) ∧ (lb1 y.1).Nodup) (fun y => x.length - y.2) (([], 0)) (⟨Nat.zero_le _, rfl, by simp [lb1]⟩) ?_ ?_
    · exact Le.sub (by first | rfl | simp) (by simp only [AW7, simprocAttr, hX]; try simp <;> try (first | rfl | exact ⟨rfl, rfl⟩ | exact ⟨rfl, rfl, rfl⟩))
    rintro ⟨ys, i⟩ ⟨hi, hE, hN⟩ ih
    try simp only []
    simp only [] at hi hE hN
    have hyl : ys.length ≤ i := by
      have := bcT_len c x i
      have h4 := srt_len (bcT c x i)
      rw [← hE] at h4
      have e : (rw2 ys).length = ys.length := by simp [rw2]
      omega
    refine Run.nq ?_; refine Run.regionW hC (fun K hK => ?_); simp only [AW7, simprocAttr, hX]; (repeat (with_reducible refine And.intro ?_ ?_); exact vc0); refine hK _ ?_; clear hK K; refine Run.nq ?_
    refine Run.nq ?_; refine Run.condW (by simp only [AW7, simprocAttr, hX]; rfl) (by simp only [AW7, simprocAttr, hX]) ?_ ?_
    rotate_left
    · intro h
      have hie : i = x.length := by
        cases hx : decide ((i : Int) < x.length) with
        | true => rw [hx] at h; cases h
        | false => rw [decide_eq_false_iff_not] at hx; omega
      refine Run.exit rfl ?_; refine Run.nq ?_
      refine Run.nq ?_; refine Run.regionW hC (fun K hK => ?_); simp only [AW7, simprocAttr, hX]; (repeat (with_reducible refine And.intro ?_ ?_); exact vc0); refine hK _ ?_; clear hK K; refine Run.nq ?_
      refine Run.reK hpin [4] [0] (by decide) (by simp) ?_; simp only [AR, AW7, simprocAttr]
      refine Run.retW [4] (by decide) (by rw [hfn]; rfl) (by simp only [AW7, simprocAttr, hX]; rfl) (by simp only [AW7, simprocAttr, hX]) (hfin _ _ rfl rfl ?_)
      exact ⟨ys, 0, true, [], ⟨by rw [hz, ← hie]; exact hE, rfl, rfl⟩, hN, rfl, rfl, rfl⟩
    intro h
    have h : i < x.length := by
      cases hx : decide ((i : Int) < x.length) with
      | true => rw [decide_eq_true_eq] at hx; omega
      | false => rw [hx] at h; cases h
    have hdl := delA_len h
    refine Run.nq ?_; refine Run.regionW hC (fun K hK => ?_); simp only [AW7, simprocAttr, hX]; (repeat (with_reducible refine And.intro ?_ ?_); exact vc0)
    refine FunA.callW hP hT (c_spec_DeleteAt x i (by omega)) (by simp only [AW7, simprocAttr]) ?_
    rintro rs o ⟨rfl, rfl⟩
    (try simp only [AW7, simprocAttr, hX]); (repeat (with_reducible refine And.intro ?_ ?_); exact vc0)
    refine FunA.callW hP hT (c_spec_l8Normal c (x.take i ++ x.drop (i + 1)) hc (delA_letters a1 i) (by have : (x.take i ++ x.drop (i + 1)).length = (delA x i).length := rfl; omega)) (by simp only [AW7, simprocAttr]) ?_
    rintro rs o ⟨rfl, rfl⟩
    (try simp only [AW7, simprocAttr, hX]); (repeat (with_reducible refine And.intro ?_ ?_); exact vc0)
    (repeat (with_reducible refine And.intro ?_ ?_); exact vc0); refine hK _ ?_; clear hK K; refine Run.nq ?_
    generalize hg0 : redL c (x.take i ++ x.drop (i + 1)) = d at *
    have hg : redL c (delA x i) = d := hg0
    have hdd : d.length ≤ 15 := by rw [← hg]; have := (red_spec hc (delA_letters a1 i) (by omega)).2.1; omega
    refine Run.nq ?_; refine Run.regionW hC (fun K hK => ?_); simp (disch := omega) only [wrap_id, AW7, simprocAttr, hX]; (repeat (with_reducible refine And.intro ?_ ?_); exact vc0); refine hK _ ?_; clear hK K; refine Run.nq ?_
    refine Run.nq ?_; refine Run.condW (by simp only [AW7, simprocAttr, hX]; rfl) (by simp only [AW7, simprocAttr, hX]) ?_ ?_
    · intro h5
      have h5 : d.length + 1 = x.length := by simp at h5; omega
      have hf : bcF c x i = some d := by unfold bcF; rw [hg, if_pos h5]
      refine Run.reK hpin [0, 5, 6, 7, 8, 9] [0, 1, 3] (by decide) (by simp) ?_; simp only [AR, AW7, simprocAttr]
      refine Run.nq ?_; refine Run.regionW hC (fun K hK => ?_); simp only [AW7, simprocAttr, hX]; (repeat (with_reducible refine And.intro ?_ ?_); exact vc0)
      refine FunM.call hP hT (c_spec_l11Put ys d hN (by omega) (by omega) true) 0 0 (by simp only [AW7, simprocAttr]; rfl) (by simp) rfl (by simp only [AW7, simprocAttr]; try simp) ?_
      rintro rs o' obs' ⟨rfl, ys', hE2, hN2, h6⟩
      obtain ⟨rfl, rfl⟩ := List.cons.inj h6
      (try simp only [AW7, simprocAttr, hX]); (repeat (with_reducible refine And.intro ?_ ?_); exact vc0)
      (repeat (with_reducible refine And.intro ?_ ?_); exact vc0); refine hK _ ?_; clear hK K; refine Run.nq ?_
      have hE3 : rw2 ys' = srt (bcT c x (i + 1)) := by rw [hE2, hE, bcT_snoc, hf]; exact (srt_snoc _ _).symm
      refine Run.reK hpin [0, 5, 6, 7, 8] [3, 1] (by decide) (by simp) ?_; simp only [AR, AW7, simprocAttr]
      refine Run.nq ?_; refine Run.regionW hC (fun K hK => ?_); simp (disch := omega) only [wrap_id, AW7, simprocAttr, hX]; (repeat (with_reducible refine And.intro ?_ ?_); exact vc0); refine hK _ ?_; clear hK K; refine Run.nq ?_
      refine Run.le ?_ (ih ((ys', i + 1)) (⟨by omega, hE3, hN2⟩) (by (try simp only [List.length_append, List.length_cons, List.length_nil]); omega))
      exact Le.sub (by rfl) (by simp only [AW7, simprocAttr]; try simp)
    intro h5
    have h5 : ¬ d.length + 1 = x.length := by intro e; rw [beq_eq_false_iff_ne] at h5; omega
    have hf : bcF c x i = none := by unfold bcF; rw [hg, if_neg h5]
    have hE2 : rw2 ys = srt (bcT c x (i + 1)) := by rw [hE, bcT_snoc, hf]; simp
    refine Run.reK hpin [0, 5, 6, 7, 8] [0, 1] (by decide) (by simp) ?_; simp only [AR, AW7, simprocAttr]
    refine Run.nq ?_; refine Run.regionW hC (fun K hK => ?_); simp (disch := omega) only [wrap_id, AW7, simprocAttr, hX]; (repeat (with_reducible refine And.intro ?_ ?_); exact vc0); refine hK _ ?_; clear hK K; refine Run.nq ?_
    refine Run.le ?_ (ih ((ys, i + 1)) (⟨h, hE2, hN⟩) (by (try simp only [List.length_append, List.length_cons, List.length_nil]); omega))
    exact Le.sub (by rfl) (by simp only [AW7, simprocAttr]; try simp)
theorem c_spec_BruhatCovers (c : List (List Int)) (w : List Int) (hcl : c.length ≤ 1048576) :
    FunA B 32 [.sl false (.row false) c, .sl false .int w] (fun rs o => rs = [.own 0 0] ∧ ∃ hs, hs.length = (bcv c w).length ∧ o = [.mat hs (bcv c w) 0 true]) :=
  (FunA.mat (by rfl) (post := fun rows nn rest => rows = bcv c w ∧ nn = true ∧ rest = []) (c_spec_BruhatCoversR c w hcl)).mono fun rs o ⟨hs, rows, nn, rest, ⟨h1, h2, h3⟩, h4, h5, h6⟩ => by subst h1 h2 h3; exact ⟨h5, hs, h4, h6⟩
end Go.Proofs.YtojcdgdbffmlpaaGreat
namespace Go.Proofs.YtojcdgdbffmlpaaGreat
open Go Go.Aw Go.Cox
def Pre (c : List (List Int)) (x z : List Int) : Prop := letters c.length z ∧ redL c z = z ∧ ∃ v, letters c.length v ∧ imageL c (z ++ v) = imageL c x ∧ z.length + v.length = x.length
def Nf (c : List (List Int)) (x : List Int) : Prop := letters c.length x ∧ redL c x = x ∧ x.length ≤ 30
theorem nf_idem {c : List (List Int)} (hc : CartanP c) {w : List Int} (hw : letters c.length w) (hl : w.length ≤ 31) : redL c (redL c w) = redL c w := red_eq (red_spec hc hw hl).2.2.2.1
theorem Nf.red {c : List (List Int)} (hc : CartanP c) {x : List Int} (h : Nf c x) : Red c x := by
  have := red_Red hc h.1 (by have := h.2.2; omega)
  rwa [h.2.1] at this
theorem Nf.far {c : List (List Int)} (hc : CartanP c) {x : List Int} (h : Nf c x) : Far c x.length (imageL c x) := (h.red hc).2
theorem Nf.short {c : List (List Int)} (hc : CartanP c) {x : List Int} (h : Nf c x) {u : List Int} (hu : letters c.length u) (he : imageL c u = imageL c x) : x.length ≤ u.length := by
  obtain ⟨L, h1, _, h3⟩ := Far.image hc hu
  rw [he] at h3
  have := (h.far hc).uniq hc h3
  omega
theorem Pre.nf {c : List (List Int)} {x z : List Int} (hx : Nf c x) (h : Pre c x z) : Nf c z := by
  obtain ⟨h1, h2, v, h3, h4, h5⟩ := h
  exact ⟨h1, h2, by have := hx.2.2; omega⟩
theorem Pre.refl {c : List (List Int)} {x : List Int} (hx : Nf c x) : Pre c x x := ⟨hx.1, hx.2.1, [], letters_nil _, by rw [List.append_nil], by simp⟩
theorem nf_red {c : List (List Int)} (hc : CartanP c) {u : List Int} (hu : letters c.length u) (hl : u.length ≤ 31) (hr : (redL c u).length ≤ 30) : Nf c (redL c u) :=
  ⟨(red_spec hc hu hl).1, nf_idem hc hu hl, hr⟩
theorem letter1 {n : Nat} {i : Nat} (h : i < n) : letters n [(i : Int)] := letters_cons.2 ⟨by omega, letters_nil _⟩
theorem image_same_app {c : List (List Int)} (hc : CartanP c) {a b : List Int} (ha : letters c.length a) (hb : letters c.length b) (h : imageL c a = imageL c b) (t : List Int) : imageL c (a ++ t) = imageL c (b ++ t) := by
  rw [image_append, image_append]; exact same_elt hc ha hb h (imageL_length c _)
theorem image_two {c : List (List Int)} (hc : CartanP c) (y : List Int) {i : Nat} (hi : i < c.length) (t : List Int) : imageL c (y ++ [(i : Int)] ++ ((i : Int) :: t)) = imageL c (y ++ t) := by
  rw [List.append_assoc, image_append, image_append]
  show actL c y (reflL c i (reflL c i (imageL c t))) = _
  rw [refl2 hc (i := (i : Int)) (by omega) (imageL_length c _)]
  exact (image_append c y t).symm
theorem Pre.down {c : List (List Int)} (hc : CartanP c) {x y : List Int} (hx : Nf c x) (hy : Pre c x y) {i : Nat} (hi : i < c.length) (hlt : (redL c (y ++ [(i : Int)])).length < y.length) : Pre c x (redL c (y ++ [(i : Int)])) := by
  have hny := hy.nf hx
  obtain ⟨h1, h2, v, h3, h4, h5⟩ := hy
  have hl : letters c.length (y ++ [(i : Int)]) := letters_append.2 ⟨h1, letter1 hi⟩
  have hlen : (y ++ [(i : Int)]).length ≤ 31 := by have := hny.2.2; simp; omega
  obtain ⟨a1, a2, a3, a4, a5⟩ := red_spec hc hl hlen
  have hvi : letters c.length ((i : Int) :: v) := letters_cons.2 ⟨by omega, h3⟩
  have him : imageL c (redL c (y ++ [(i : Int)]) ++ ((i : Int) :: v)) = imageL c x := by
    rw [image_same_app hc a1 hl a4, image_two hc y hi, h4]
  have hs := hx.short hc (letters_append.2 ⟨a1, hvi⟩) him
  simp at hs a3
  refine ⟨a1, nf_idem hc hl hlen, (i : Int) :: v, hvi, him, ?_⟩
  simp
  omega
theorem red_of_nil {c : List (List Int)} (hc : CartanP c) : redL c [] = [] := by
  have := (red_spec hc (letters_nil c.length) (by simp)).2.1
  exact List.eq_nil_of_length_eq_zero (by simpa using this)
theorem Pre.nil {c : List (List Int)} (hc : CartanP c) {x : List Int} (hx : Nf c x) : Pre c x [] := ⟨letters_nil _, red_of_nil hc, x, hx.1, rfl, by simp⟩
theorem nodup_le {α : Type} [DecidableEq α] : ∀ {a b : List α}, a.Nodup → (∀ x ∈ a, x ∈ b) → a.length ≤ b.length
  | [], b, _, _ => Nat.zero_le _
  | x :: a, b, hn, h => by
    obtain ⟨h1, h2⟩ := List.nodup_cons.1 hn
    have hx := h x (List.mem_cons_self ..)
    have := nodup_le (a := a) (b := b.erase x) h2 (fun y hy => by
      have hne : y ≠ x := fun e => h1 (e ▸ hy)
      exact (List.mem_erase_of_ne hne).2 (h y (List.mem_cons_of_mem _ hy)))
    rw [List.length_erase_of_mem hx] at this
    have hp : 0 < b.length := List.length_pos_of_mem hx
    simp only [List.length_cons]
    omega
def FewP (R : List Int → Prop) : Prop := ∃ L : List (List Int), L.Nodup ∧ (∀ z, z ∈ L ↔ R z) ∧ L.length ≤ 200
open Classical in
noncomputable def fewB (R : List Int → Prop) : Bool := decide (FewP R)
open Classical in
noncomputable def fewL (R : List Int → Prop) : List (List Int) := if h : FewP R then srt h.choose else []
theorem few_on {R : List Int → Prop} {L : List (List Int)} (hn : L.Nodup) (hL : ∀ z, z ∈ L ↔ R z) (hl : L.length ≤ 200) : fewB R = true ∧ fewL R = srt L := by
  have h : FewP R := ⟨L, hn, hL, hl⟩
  refine ⟨by simp [fewB, h], ?_⟩
  unfold fewL
  rw [dif_pos h]
  obtain ⟨_, h2, _⟩ := h.choose_spec
  exact strict_ext (srt_spec _).1 (srt_spec _).1 fun z => by rw [(srt_spec _).2, (srt_spec _).2, h2, hL]
theorem few_off {R : List Int → Prop} {L : List (List Int)} (hn : L.Nodup) (hL : ∀ z ∈ L, R z) (hl : 200 < L.length) : fewB R = false ∧ fewL R = [] := by
  have h : ¬ FewP R := by
    rintro ⟨L', _, h2, h3⟩
    have := nodup_le hn (fun z hz => (h2 z).2 (hL z hz))
    omega
  exact ⟨by simp [fewB, h], by unfold fewL; rw [dif_neg h]⟩
theorem fewL_len (R : List Int → Prop) : (fewL R).length ≤ 200 := by
  unfold fewL
  split
  · rename_i h
    have := srt_len h.choose
    have := h.choose_spec.2.2
    omega
  · simp
theorem fewL_mem {R : List Int → Prop} {z : List Int} (h : z ∈ fewL R) : R z := by
  unfold fewL at h
  split at h
  · rename_i hf
    rw [(srt_spec _).2] at h
    exact (hf.choose_spec.2.1 z).1 h
  · simp at h
end Go.Proofs.YtojcdgdbffmlpaaGreat
