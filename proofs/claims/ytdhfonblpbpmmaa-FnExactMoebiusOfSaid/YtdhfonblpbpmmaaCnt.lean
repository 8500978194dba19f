/- The reduced words of an element: plain laws. -/
import Derived.Test.YtdhfonblpbpmmaaTwo
import Derived.Test.YtdhfonblpbpmmaaPref3
set_option linter.unusedVariables false
set_option linter.unusedSimpArgs false
namespace Go.Proofs.Ytdhfonblpbpmmaa
open Go Go.Aw Go.Cox

def desL (v : List Int) : List Int := ((List.range v.length).filter fun k => decide (v.getD k 0 < 0)).map Int.ofNat
theorem des_mem {v : List Int} {i : Int} : i ∈ desL v ↔ 0 ≤ i ∧ i.toNat < v.length ∧ v.getD i.toNat 0 < 0 := by
  unfold desL
  simp only [List.mem_map, List.mem_filter, List.mem_range, decide_eq_true_eq]
  constructor
  · rintro ⟨k, ⟨h1, h2⟩, rfl⟩
    exact ⟨Int.natCast_nonneg k, h1, h2⟩
  · rintro ⟨h1, h2, h3⟩
    exact ⟨i.toNat, ⟨h2, h3⟩, Int.toNat_of_nonneg h1⟩
theorem des_nodup (v : List Int) : (desL v).Nodup := by
  unfold desL
  refine List.pairwise_map.2 ?_
  refine List.Pairwise.imp (R := fun a b => a ≠ b) (fun h e => h (Int.ofNat.inj e)) ?_
  exact List.Pairwise.filter _ List.nodup_range
def nW (c : List (List Int)) : Nat → List Int → Nat
  | 0, _ => 1
  | f + 1, v => if desL v = [] then 1 else ((desL v).map fun i => nW c f (reflL c i v)).sum
def allW (c : List (List Int)) : Nat → List Int → List (List Int)
  | 0, _ => [[]]
  | f + 1, v => if desL v = [] then [[]] else (desL v).flatMap fun i => (allW c f (reflL c i v)).map (i :: ·)
theorem allW_len (c : List (List Int)) : ∀ (f : Nat) (v : List Int), (allW c f v).length = nW c f v
  | 0, _ => rfl
  | f + 1, v => by
    simp only [allW, nW]
    split
    · rfl
    · rw [List.length_flatMap]
      congr 1
      exact List.map_congr_left fun i _ => by rw [List.length_map, allW_len c f]
theorem des_far {c : List (List Int)} (hc : CartanP c) {L : Nat} {v : List Int} (h : Far c L v) : desL v = [] ↔ L = 0 := by
  constructor
  · intro hd
    rcases fst_of_far hc h with ⟨_, h2⟩ | ⟨h1, h2, h3, _⟩
    · exact h2
    · have : fstN v ∈ desL v := des_mem.2 ⟨h1, by have := h.1; omega, h3⟩
      rw [hd] at this; cases this
  · rintro rfl
    have e := h.zero
    cases hd : desL v with
    | nil => rfl
    | cons i l =>
      obtain ⟨h1, h2, h3⟩ := des_mem.1 (hd ▸ List.mem_cons_self .. : i ∈ desL v)
      rw [e] at h2 h3
      rw [ones_length] at h2
      have : (ones c.length).getD i.toNat 0 = 1 := by simp [ones, List.getD, h2]
      omega
theorem allW_mem {c : List (List Int)} (hc : CartanP c) : ∀ (f L : Nat) {v : List Int}, Far c L v → L ≤ f → ∀ w, w ∈ allW c f v ↔ letters c.length w ∧ imageL c w = v ∧ w.length = L := by
  have base : ∀ {v : List Int}, Far c 0 v → ∀ w, w ∈ [([] : List Int)] ↔ letters c.length w ∧ imageL c w = v ∧ w.length = 0 := by
    intro v h w
    constructor
    · intro hw
      have : w = [] := by simpa using hw
      subst this
      exact ⟨letters_nil _, h.zero.symm, rfl⟩
    · rintro ⟨_, _, h3⟩
      simp [List.eq_nil_of_length_eq_zero h3]
  intro f
  induction f with
  | zero =>
    intro L v h hL w
    have : L = 0 := by omega
    subst this
    exact base h w
  | succ f ih =>
    intro L v h hL w
    simp only [allW]
    by_cases h0 : L = 0
    · subst h0
      rw [if_pos ((des_far hc h).2 rfl)]
      exact base h w
    · rw [if_neg (fun e => h0 ((des_far hc h).1 e))]
      simp only [List.mem_flatMap, List.mem_map]
      constructor
      · rintro ⟨i, hi, w', hw', rfl⟩
        obtain ⟨h1, h2, h3⟩ := des_mem.1 hi
        have hl := h.1
        obtain ⟨M, k1, k2⟩ := h.down hc (i := i) ⟨h1, by omega⟩ h3
        obtain ⟨q1, q2, q3⟩ := (ih M k2 (by omega) w').1 hw'
        refine ⟨letters_cons.2 ⟨⟨h1, by omega⟩, q1⟩, ?_, by simp; omega⟩
        rw [image_cons, q2, refl2 hc ⟨h1, by omega⟩ hl]
      · rintro ⟨h1, h2, h3⟩
        cases w with
        | nil => simp at h3; omega
        | cons i w' =>
          obtain ⟨hi, hw'⟩ := letters_cons.1 h1
          have hl := h.1
          simp at h3
          have e : imageL c w' = reflL c i v := by
            rw [← h2, image_cons, refl2 hc hi (imageL_length c _)]
          obtain ⟨K, k1, _, k3⟩ := Far.image hc hw'
          have hneg : v.getD i.toNat 0 < 0 := by
            refine Classical.byContradiction fun hn => ?_
            have hnz := h.nz hc i.toNat (by omega)
            have h5 := h.up hc hi (by omega)
            rw [e] at k3
            have := h5.uniq hc k3
            omega
          obtain ⟨M, m1, m2⟩ := h.down hc hi hneg
          exact ⟨i, des_mem.2 ⟨hi.1, by omega, hneg⟩, w', (ih M m2 (by omega) w').2 ⟨hw', e, by omega⟩, rfl⟩
theorem allW_nodup {c : List (List Int)} : ∀ (f : Nat) (v : List Int), (allW c f v).Nodup
  | 0, _ => by simp [allW]
  | f + 1, v => by
    simp only [allW]
    split
    · simp
    · have key : ∀ (l : List Int), l.Nodup → (l.flatMap fun i => (allW c f (reflL c i v)).map (i :: ·)).Nodup := by
        intro l
        induction l with
        | nil => intro _; simp
        | cons i l ih =>
          intro hn
          obtain ⟨h1, h2⟩ := List.nodup_cons.1 hn
          rw [List.flatMap_cons, List.nodup_append]
          refine ⟨?_, ih h2, fun a ha b hb e => ?_⟩
          · refine List.pairwise_map.2 (List.Pairwise.imp (R := fun a b => a ≠ b) (fun h e => h (List.cons.inj e).2) (allW_nodup f _))
          · subst e
            obtain ⟨x, _, rfl⟩ := List.mem_map.1 ha
            obtain ⟨j, hj, hb⟩ := List.mem_flatMap.1 hb
            obtain ⟨y, _, e⟩ := List.mem_map.1 hb
            exact h1 ((List.cons.inj e).1 ▸ hj)
      exact key _ (des_nodup v)

/-! ### Braid moves -/

def altI (i j : Int) (n : Nat) : List Int := (List.range n).map fun k => if k % 2 = 0 then i else j
theorem altI_len (i j : Int) (n : Nat) : (altI i j n).length = n := by simp [altI]
theorem altI_succ (i j : Int) (n : Nat) : altI i j (n + 1) = altI i j n ++ [if n % 2 = 0 then i else j] := by simp [altI, List.range_succ]
theorem altI_alt (i j n : Nat) : altI (i : Int) (j : Int) n = (alt i j n).map Int.ofNat := by
  induction n with
  | zero => rfl
  | succ n ih =>
    rw [altI_succ, alt_snoc, List.map_append, ← ih]
    congr 1
    simp only [List.map_cons, List.map_nil]
    split <;> rfl
def bmM (c : List (List Int)) (w : List Int) (k : Nat) : Nat := bond (matA c) (w.getD k 0).toNat (w.getD (k + 1) 0).toNat
def bmP (c : List (List Int)) (w : List Int) (k : Nat) : Prop := k + 1 < w.length ∧ w.getD k 0 ≠ w.getD (k + 1) 0 ∧ 2 ≤ bmM c w k ∧ bmM c w k ≤ w.length - k ∧ (w.drop k).take (bmM c w k) = altI (w.getD k 0) (w.getD (k + 1) 0) (bmM c w k)
instance (c : List (List Int)) (w : List Int) (k : Nat) : Decidable (bmP c w k) := by unfold bmP; infer_instance
def bmX (c : List (List Int)) (w : List Int) (k : Nat) : List Int := w.take k ++ altI (w.getD (k + 1) 0) (w.getD k 0) (bmM c w k) ++ w.drop (k + bmM c w k)
def byL (c : List (List Int)) (w : List Int) (k : Nat) : List Int := if bmP c w k then bmX c w k else w
theorem bm_split {c : List (List Int)} {w : List Int} {k : Nat} (h : bmP c w k) : w = w.take k ++ altI (w.getD k 0) (w.getD (k + 1) 0) (bmM c w k) ++ w.drop (k + bmM c w k) := by
  rw [← h.2.2.2.2, List.append_assoc, ← List.drop_drop, List.take_append_drop, List.take_append_drop]
theorem bmX_len {c : List (List Int)} {w : List Int} {k : Nat} (h : bmP c w k) : (bmX c w k).length = w.length := by
  have e := congrArg List.length (bm_split h)
  unfold bmX
  simp only [List.length_append, altI_len] at e ⊢
  omega
theorem bmX_ok {c : List (List Int)} (hc : CartanP c) {w : List Int} (hw : letters c.length w) {k : Nat} (h : bmP c w k) : letters c.length (bmX c w k) ∧ imageL c (bmX c w k) = imageL c w := by
  have hA := matA_cartan hc
  have hk1 : k + 1 < w.length := h.1
  have hi := hw _ (getD_mem (w := w) (i := k) (by omega))
  have hj := hw _ (getD_mem (w := w) (i := k + 1) hk1)
  have e1 : ((w.getD k 0).toNat : Int) = w.getD k 0 := by omega
  have e2 : ((w.getD (k + 1) 0).toNat : Int) = w.getD (k + 1) 0 := by omega
  have hij : (w.getD k 0).toNat ≠ (w.getD (k + 1) 0).toNat := fun e => h.2.1 (by omega)
  have a1 : altI (w.getD k 0) (w.getD (k + 1) 0) (bmM c w k) = (alt (w.getD k 0).toNat (w.getD (k + 1) 0).toNat (bmM c w k)).map Int.ofNat := by rw [← altI_alt, e1, e2]
  have a2 : altI (w.getD (k + 1) 0) (w.getD k 0) (bmM c w k) = (alt (w.getD (k + 1) 0).toNat (w.getD k 0).toNat (bmM c w k)).map Int.ofNat := by rw [← altI_alt, e1, e2]
  have l1 := alt_letters (c := c) (i := (w.getD (k + 1) 0).toNat) (t := (w.getD k 0).toNat) (by omega) (by omega) (bmM c w k)
  have l0 := alt_letters (c := c) (i := (w.getD k 0).toNat) (t := (w.getD (k + 1) 0).toNat) (by omega) (by omega) (bmM c w k)
  have lt : letters c.length (w.take k) := fun a ha => hw a (List.mem_of_mem_take ha)
  have ld : letters c.length (w.drop (k + bmM c w k)) := fun a ha => hw a (List.mem_of_mem_drop ha)
  refine ⟨?_, ?_⟩
  · unfold bmX
    rw [a2]
    exact letters_append.2 ⟨letters_append.2 ⟨lt, l1⟩, ld⟩
  · have es := bm_split h
    rw [a1] at es
    have hb : imageL c ((alt (w.getD (k + 1) 0).toNat (w.getD k 0).toNat (bmM c w k)).map Int.ofNat) = imageL c ((alt (w.getD k 0).toNat (w.getD (k + 1) 0).toNat (bmM c w k)).map Int.ofNat) := by
      apply vec_inj (by rw [imageL_length, imageL_length])
      rw [imageL, imageL, vec_act (ones_length _), vec_act (ones_length _), nat_map, nat_map]
      have hmem : ∀ a ∈ alt (w.getD k 0).toNat (w.getD (k + 1) 0).toNat (bond (matA c) (w.getD k 0).toNat (w.getD (k + 1) 0).toNat), a < c.length := fun a ha => by rcases alt_mem ha with rfl | rfl <;> omega
      have := act_br hA (a := alt (w.getD k 0).toNat (w.getD (k + 1) 0).toNat (bond (matA c) (w.getD k 0).toNat (w.getD (k + 1) 0).toNat)) (b := alt (w.getD (k + 1) 0).toNat (w.getD k 0).toNat (bond (matA c) (w.getD k 0).toNat (w.getD (k + 1) 0).toNat)) (by simpa using Br.braid (A := matA c) (n := c.length) (w.getD k 0).toNat (w.getD (k + 1) 0).toNat [] (by omega) (by omega) hij (by have := h.2.2.1; unfold bmM at this; omega)) hmem
      exact (this _).symm
    unfold bmX
    rw [a2]
    conv => rhs; rw [es]
    rw [List.append_assoc, List.append_assoc, image_append, image_append c (w.take k)]
    congr 1
    exact image_same_app hc l1 l0 hb _

/-- What is closed under braid moves holds all words of an element. -/
theorem br_closed {c : List (List Int)} {S : List Int → Prop} (hS : ∀ w, S w → letters c.length w → ∀ k, bmP c w k → S (bmX c w k)) {a b : List Nat} (h : Br (matA c) c.length a b) :
    ∀ (t : List Int), letters c.length t → (∀ i ∈ a, i < c.length) → S (t ++ a.map Int.ofNat) → S (t ++ b.map Int.ofNat) := by
  induction h with
  | refl w => exact fun _ _ _ h => h
  | trans h1 h2 ih1 ih2 => exact fun t ht ha h => ih2 t ht (h1.mem ha) (ih1 t ht ha h)
  | @cons i a b h ih =>
    intro t ht ha h2
    have hi := ha i (List.mem_cons_self ..)
    have e : ∀ l : List Nat, t ++ (i :: l).map Int.ofNat = (t ++ [(i : Int)]) ++ l.map Int.ofNat := fun l => by simp
    rw [e] at h2 ⊢
    exact ih _ (letters_append.2 ⟨ht, letter1 hi⟩) (fun j hj => ha j (List.mem_cons_of_mem _ hj)) h2
  | braid i j r hi hj hij hb =>
    intro t ht ha h2
    have hb2 : 2 ≤ bond (matA c) i j := by unfold bond at hb ⊢; repeat' split
                                           all_goals first | omega | simp_all
    generalize hm : bond (matA c) i j = m at *
    obtain ⟨m, rfl⟩ : ∃ q, m = q + 2 := ⟨m - 2, by omega⟩
    have hw : letters c.length (t ++ (alt i j (m + 2) ++ r).map Int.ofNat) := by
      refine letters_append.2 ⟨ht, fun a h => ?_⟩
      obtain ⟨q, hq, rfl⟩ := List.mem_map.1 h
      have := ha q hq
      show (0 : Int) ≤ (q : Int) ∧ (q : Int) < c.length
      omega
    have g0 : (t ++ (alt i j (m + 2) ++ r).map Int.ofNat).getD t.length 0 = (i : Int) := by
      simp [List.getD_eq_getElem?_getD, List.getElem?_append, alt]
    have g1 : (t ++ (alt i j (m + 2) ++ r).map Int.ofNat).getD (t.length + 1) 0 = (j : Int) := by
      simp [List.getD_eq_getElem?_getD, List.getElem?_append, alt]
    have hM : bmM c (t ++ (alt i j (m + 2) ++ r).map Int.ofNat) t.length = m + 2 := by
      unfold bmM; rw [g0, g1]; exact hm
    have hP : bmP c (t ++ (alt i j (m + 2) ++ r).map Int.ofNat) t.length := by
      unfold bmP
      rw [hM, g0, g1]
      refine ⟨by simp [alt_length]; omega, by omega, by omega, by simp [alt_length], ?_⟩
      rw [altI_alt]
      simp [List.take_append, alt_length]
    have := hS _ h2 hw _ hP
    unfold bmX at this
    rw [hM, g0, g1, altI_alt] at this
    have hd : List.drop (t.length + (m + 2)) t = [] := List.drop_eq_nil_of_le (by omega)
    simpa [alt_length, List.drop_append, Nat.add_sub_cancel_left, hd] using this
theorem red_closed {c : List (List Int)} (hc : CartanP c) {S : List Int → Prop} (hS : ∀ w, S w → letters c.length w → ∀ k, bmP c w k → S (bmX c w k)) {x w : List Int} (hx : Red c x) (hw : letters c.length w) (he : imageL c w = imageL c x) (hl : w.length = x.length) (h : S x) : S w := by
  have hA := matA_cartan hc
  have play : ∀ {y : List Int}, Red c y → Play (matA c) c.length (vecL (imageL c y)) (nat y) (vecL (ones c.length)) := by
    intro y
    induction y with
    | nil => intro _; exact .nil _
    | cons i y ih =>
      intro hy
      obtain ⟨hi, hl⟩ := letters_cons.1 hy.1
      obtain ⟨L, k1, _, k3⟩ := Far.image hc hl
      have hneg : (imageL c (i :: y)).getD i.toNat 0 < 0 := by
        have hnz := hy.2.nz hc i.toNat (by omega)
        refine Classical.byContradiction fun hn => ?_
        have h5 := hy.2.up hc hi (by omega)
        rw [image_cons, refl2 hc hi (imageL_length c _)] at h5
        have := h5.uniq hc k3
        simp at this
        omega
      obtain ⟨M, m1, m2⟩ := hy.2.down hc hi hneg
      rw [image_cons, refl2 hc hi (imageL_length c _)] at m2
      have hy' : Red c y := by
        simp at m1
        subst m1
        exact ⟨hl, m2⟩
      refine .cons (show i.toNat < c.length by omega) hneg ?_
      have e : refl (matA c) i.toNat (vecL (imageL c (i :: y))) = vecL (imageL c y) := by
        rw [← vec_refl (imageL_length c _), image_cons, refl2 hc hi (imageL_length c _)]
      rw [e]
      exact ih hy'
  have hwR : Red c w := ⟨hw, by rw [he, hl]; exact hx.2⟩
  have p1 := play hx
  have p2 := play hwR
  rw [he] at p2
  obtain ⟨t, ht, hbr⟩ := conv hA _ rfl p1 (dom_ones c) p2
  have ht0 : t = [] := by
    have := hbr.length
    simp [nat] at this
    exact List.eq_nil_of_length_eq_zero (by omega)
  subst ht0
  rw [List.append_nil] at hbr
  have back : ∀ {y : List Int}, letters c.length y → (nat y).map Int.ofNat = y := by
    intro y hy
    induction y with
    | nil => rfl
    | cons i y ih =>
      obtain ⟨hi, hl⟩ := letters_cons.1 hy
      show Int.ofNat i.toNat :: (nat y).map Int.ofNat = _
      rw [ih hl]
      congr 1
      exact Int.toNat_of_nonneg hi.1
  have := br_closed hS hbr [] (letters_nil _) (letters_nat hx.1) (by rw [List.nil_append, back hx.1]; exact h)
  rwa [List.nil_append, back hw] at this
end Go.Proofs.Ytdhfonblpbpmmaa
