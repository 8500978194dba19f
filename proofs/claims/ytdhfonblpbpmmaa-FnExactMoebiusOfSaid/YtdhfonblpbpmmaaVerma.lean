/- The signs over an interval of the Bruhat order add up to nothing (Verma): plain laws. -/
import Derived.Test.YtdhfonblpbpmmaaBru
set_option linter.unusedVariables false
set_option linter.unusedSimpArgs false
namespace Go.Proofs.Ytdhfonblpbpmmaa
open Go Go.Aw Go.Cox

def eps (z : List Int) : Int := if z.length % 2 = 0 then 1 else -1
theorem eps_sq (z : List Int) : eps z * eps z = 1 := by unfold eps; split <;> rfl
theorem eps_cases (z : List Int) : eps z = 1 ∨ eps z = -1 := by unfold eps; split <;> simp
theorem eps_flip {a b : List Int} (h : a.length % 2 ≠ b.length % 2) : eps a = - eps b := by
  unfold eps
  split <;> split <;> omega
def sumE (M : List (List Int)) : Int := (M.map eps).sum
theorem sum_perm {A B : List (List Int)} (h : A.Perm B) : sumE A = sumE B := by
  unfold sumE
  induction h with
  | nil => rfl
  | cons x _ ih => simp [ih]
  | swap x y l => simp only [List.map_cons, List.sum_cons]; omega
  | trans _ _ ih1 ih2 => exact ih1.trans ih2
theorem sum_same {A B : List (List Int)} (ha : A.Nodup) (hb : B.Nodup) (h : ∀ z, z ∈ A ↔ z ∈ B) : sumE A = sumE B := sum_perm ((List.perm_ext_iff_of_nodup ha hb).2 h)
theorem sum_split (p : List Int → Bool) : ∀ (A : List (List Int)), sumE A = sumE (A.filter p) + sumE (A.filter fun z => !p z)
  | [] => rfl
  | z :: A => by
    have ih := sum_split p A
    unfold sumE at ih ⊢
    cases h : p z <;> simp [h, ih] <;> omega
theorem sum_inv {A : List (List Int)} (ha : A.Nodup) (f : List Int → List Int) (h1 : ∀ z ∈ A, f z ∈ A) (h2 : ∀ z ∈ A, f (f z) = z) (h3 : ∀ z ∈ A, eps (f z) = - eps z) : sumE A = 0 := by
  have hn : (A.map f).Nodup := by
    refine List.pairwise_map.2 ?_
    refine List.Pairwise.imp_of_mem (R := fun a b => a ≠ b) (fun {a b} ha hb h e => h ?_) ha
    rw [← h2 a ha, ← h2 b hb, e]
  have hs := sum_same ha hn (fun z => by
    rw [List.mem_map]
    constructor
    · intro hz; exact ⟨f z, h1 z hz, h2 z hz⟩
    · rintro ⟨y, hy, rfl⟩; exact h1 y hy)
  have hm : ∀ (B : List (List Int)), (∀ z ∈ B, eps (f z) = - eps z) → sumE (B.map f) = - sumE B := by
    intro B
    induction B with
    | nil => intro _; rfl
    | cons z B ih =>
      intro hB
      have h4 := ih fun y hy => hB y (List.mem_cons_of_mem _ hy)
      have h5 := hB z (List.mem_cons_self ..)
      unfold sumE at h4 ⊢
      simp only [List.map_cons, List.sum_cons, h5, h4]
      omega
  rw [hm A h3] at hs
  omega

def subs : List Int → List (List Int)
  | [] => [[]]
  | a :: l => subs l ++ (subs l).map (a :: ·)
theorem subs_mem : ∀ {l u : List Int}, u ∈ subs l ↔ u.Sublist l
  | [], u => by simp [subs]
  | a :: l, u => by
    simp only [subs, List.mem_append, List.mem_map]
    rw [List.sublist_cons_iff]
    constructor
    · rintro (h | ⟨r, hr, rfl⟩)
      · exact .inl (subs_mem.1 h)
      · exact .inr ⟨r, rfl, subs_mem.1 hr⟩
    · rintro (h | ⟨r, rfl, hr⟩)
      · exact .inl (subs_mem.2 h)
      · exact .inr ⟨r, subs_mem.2 hr, rfl⟩

/-- All between two. -/
def Btw (c : List (List Int)) (u y z : List Int) : Prop := Low c y z ∧ SubI c z (imageL c u)
open Classical in
noncomputable def btwL (c : List (List Int)) (u y : List Int) : List (List Int) := (srt ((subs y).map (redL c))).filter fun z => decide (SubI c z (imageL c u))
theorem strict_nodup {L : List (List Int)} (h : StrictW L) : L.Nodup := List.Pairwise.imp (fun {a b} h e => by rw [e, cmpW_self] at h; omega) h
theorem btwL_nodup (c : List (List Int)) (u y : List Int) : (btwL c u y).Nodup := List.Pairwise.filter _ (strict_nodup (srt_spec _).1)
theorem btwL_mem {c : List (List Int)} (hc : CartanP c) {u y : List Int} (hy : letters c.length y) (hl : y.length ≤ 30) (z : List Int) : z ∈ btwL c u y ↔ Btw c u y z := by
  classical
  unfold btwL Btw
  rw [List.mem_filter, (srt_spec _).2, List.mem_map]
  simp only [decide_eq_true_eq]
  refine and_congr ⟨?_, ?_⟩ Iff.rfl
  · rintro ⟨s, hs, rfl⟩
    have h1 := subs_mem.1 hs
    have h2 := letters_sub h1 hy
    have h3 := h1.length_le
    obtain ⟨a1, a2, a3, a4, a5⟩ := red_spec hc h2 (by omega)
    exact ⟨nf_red hc h2 (by omega) (by omega), s, h1, a4.symm⟩
  · rintro ⟨hn, s, hs, he⟩
    exact ⟨s, subs_mem.2 hs, by rw [red_eq he]; exact hn.2.1⟩

/-- One letter in front. -/
theorem flip_nf {c : List (List Int)} (hc : CartanP c) {i : Int} (hi : 0 ≤ i ∧ i < c.length) {z : List Int} (hz : Nf c z) (hl : z.length ≤ 29) : Nf c (redL c (i :: z)) ∧ imageL c (redL c (i :: z)) = reflL c i (imageL c z) ∧ (redL c (i :: z)).length % 2 ≠ z.length % 2 ∧ redL c (i :: redL c (i :: z)) = z := by
  have hlet : letters c.length (i :: z) := letters_cons.2 ⟨hi, hz.1⟩
  obtain ⟨a1, a2, a3, a4, a5⟩ := red_spec hc hlet (by simp; omega)
  simp at a2 a3
  have e : imageL c (i :: redL c (i :: z)) = imageL c z := by rw [image_cons, a4, image_cons, refl2 hc hi (imageL_length c z)]
  exact ⟨nf_red hc hlet (by simp; omega) (by omega), by rw [a4, image_cons], by omega, by rw [red_eq e]; exact hz.2.1⟩

theorem sub_flip {c : List (List Int)} (hc : CartanP c) {i : Int} {y1 : List Int} (hy : letters c.length (i :: y1)) {v : List Int} (hv : v.length = c.length) (hnz : v.getD i.toNat 0 ≠ 0) (h : SubI c (i :: y1) v) : SubI c (i :: y1) (reflL c i v) := by
  obtain ⟨hi, _⟩ := letters_cons.1 hy
  have e := refl_at' hc hi hv
  have hl : (reflL c i v).length = c.length := by rw [reflL_length, hv]
  rw [sub_cons hc hy hv] at h
  rw [sub_cons hc hy hl]
  split at h
  · rw [if_neg (by omega)]; exact h
  · rw [if_pos (by omega), refl2 hc hi hv]; exact h

theorem nz_of {c : List (List Int)} (hc : CartanP c) {z : List Int} (hz : letters c.length z) {i : Int} (hi : 0 ≤ i ∧ i < c.length) : (imageL c z).getD i.toNat 0 ≠ 0 := by
  obtain ⟨L, _, _, k3⟩ := Far.image hc hz
  exact k3.nz hc i.toNat (by omega)

/-- An element that may begin with a letter, as a word that does. -/
theorem word_of {c : List (List Int)} (hc : CartanP c) {i : Int} (hi : 0 ≤ i ∧ i < c.length) {z : List Int} (hz : Nf c z) (hneg : (imageL c z).getD i.toNat 0 < 0) : ∃ z1, Nf c z1 ∧ imageL c z1 = reflL c i (imageL c z) ∧ z1.length + 1 = z.length ∧ letters c.length (i :: z1) ∧ imageL c (i :: z1) = imageL c z ∧ Red c (i :: z1) := by
  have hlet : letters c.length (i :: z) := letters_cons.2 ⟨hi, hz.1⟩
  have hlen : (i :: z).length ≤ 31 := by have := hz.2.2; simp; omega
  obtain ⟨a1, a2, a3, a4, a5⟩ := red_spec hc hlet hlen
  obtain ⟨M, hM, hF⟩ := (hz.far hc).down hc hi hneg
  have hL : (redL c (i :: z)).length = M := by
    rw [image_cons] at a5
    exact a5.uniq hc hF
  have e1 : imageL c (i :: redL c (i :: z)) = imageL c z := by rw [image_cons, a4, image_cons, refl2 hc hi (imageL_length c z)]
  have hl2 : letters c.length (i :: redL c (i :: z)) := letters_cons.2 ⟨hi, a1⟩
  exact ⟨redL c (i :: z), nf_red hc hlet hlen (by have := hz.2.2; omega), by rw [a4, image_cons], by omega, hl2, e1, Red.of hc hl2 (hz.red hc) e1 (by simp; omega)⟩

theorem Nf.tail {c : List (List Int)} (hc : CartanP c) {i : Int} {y1 : List Int} (h : Nf c (i :: y1)) : Nf c y1 := by
  have hb := h.2.2
  simp at hb
  obtain ⟨hi, hl⟩ := letters_cons.1 h.1
  refine ⟨hl, ?_, by omega⟩
  have hR := Red.tail hc (a := [i]) (by omega) (h.red hc)
  have h2 : nfL c 31 (imageL c (i :: y1)) = i :: y1 := h.2.1
  have hf : fstN (imageL c (i :: y1)) = i ∧ nfL c 30 (reflL c (fstN (imageL c (i :: y1))) (imageL c (i :: y1))) = y1 := by
    have h3 : (if fstN (imageL c (i :: y1)) < 0 then [] else fstN (imageL c (i :: y1)) :: nfL c 30 (reflL c (fstN (imageL c (i :: y1))) (imageL c (i :: y1)))) = i :: y1 := h2
    split at h3
    · cases h3
    · exact ⟨(List.cons.inj h3).1, (List.cons.inj h3).2⟩
  obtain ⟨e1, e2⟩ := hf
  rw [e1, image_cons, refl2 hc hi (imageL_length c y1)] at e2
  show nfL c 31 (imageL c y1) = y1
  rw [nfL_more hc 31 30 _ hR.2 (by omega) (by omega)]
  exact e2

theorem verma {c : List (List Int)} (hc : CartanP c) : ∀ (n : Nat) (u y : List Int), y.length = n → n ≤ 29 → Nf c u → Nf c y → SubI c y (imageL c u) → u ≠ y → sumE (btwL c u y) = 0 := by
  intro n
  induction n with
  | zero =>
    intro u y hy _ hu hny hs hne
    exfalso
    have : y = [] := List.eq_nil_of_length_eq_zero hy
    subst this
    exact hne ((Low.none hc u).1 ⟨hu, hs⟩)
  | succ n ih =>
    intro u y hyn hn hu hy hs hne
    cases y with
    | nil => simp at hyn
    | cons i y1 =>
      simp at hyn
      obtain ⟨hi, hl1⟩ := letters_cons.1 hy.1
      have hy1 := hy.tail hc
      have hyneg : (imageL c (i :: y1)).getD i.toNat 0 < 0 := by
        rw [image_cons, refl_at' hc hi (imageL_length c y1)]
        have := Red.pos hc (hy.red hc)
        omega
      have hlen : ∀ {z : List Int}, Low c (i :: y1) z → z.length ≤ n + 1 := fun h => by
        have := h.len hc hy.1
        simp at this
        omega
      -- the letter is no first one of u
      have caseA : ∀ u, Nf c u → 0 < (imageL c u).getD i.toNat 0 → sumE (btwL c u (i :: y1)) = 0 := by
        intro u hu hpos
        have mem := fun z => btwL_mem (u := u) hc hy.1 (by have := hy.2.2; omega) z
        refine sum_inv (btwL_nodup c u _) (fun z => redL c (i :: z)) (fun z hz => ?_) (fun z hz => ?_) (fun z hz => ?_)
        · obtain ⟨h1, h2⟩ := (mem z).1 hz
          have hzl := hlen h1
          obtain ⟨f1, f2, f3, f4⟩ := flip_nf hc hi h1.1 (by omega)
          have hnz := nz_of hc h1.1.1 hi
          refine (mem _).2 ⟨⟨f1, by rw [f2]; exact sub_flip hc hy.1 (imageL_length c z) hnz h1.2⟩, ?_⟩
          by_cases hneg : (imageL c z).getD i.toNat 0 < 0
          · obtain ⟨z1, w1, w2, w3, w4, w5, w6⟩ := word_of hc hi h1.1 hneg
            have h3 := sub_word hc (h1.1.red hc) h1.1.2.2 w4 w5 h2
            rw [sub_cons hc w4 (imageL_length c u), if_neg (by omega)] at h3
            have : redL c (i :: z) = z1 := nf_same f1 w1 (by rw [f2, w2])
            rw [this]
            exact h3
          · have hup := (h1.1.red hc).up hc hi (by omega)
            have h3 : SubI c (i :: z) (imageL c u) := h2.mono (List.sublist_cons_self i z)
            exact sub_word hc hup (by simp; omega) f1.1 (by rw [f2, image_cons]) h3
        · obtain ⟨h1, _⟩ := (mem z).1 hz
          have hzl := hlen h1
          exact (flip_nf hc hi h1.1 (by omega)).2.2.2
        · obtain ⟨h1, _⟩ := (mem z).1 hz
          have hzl := hlen h1
          exact eps_flip (flip_nf hc hi h1.1 (by omega)).2.2.1
      by_cases hneg : (imageL c u).getD i.toNat 0 < 0
      · obtain ⟨u1, w1, w2, w3, w4, w5, w6⟩ := word_of hc hi hu hneg
        have hu1pos : 0 < (imageL c u1).getD i.toNat 0 := by rw [w2, refl_at' hc hi (imageL_length c u)]; omega
        have hA := caseA u1 w1 hu1pos
        have hu1y : SubI c y1 (imageL c u1) := by
          rw [sub_cons hc hy.1 (imageL_length c u), if_pos hneg] at hs
          rw [w2]; exact hs
        have hne1 : u1 ≠ y1 := fun e => hne (nf_same hu hy (by rw [image_cons, ← e, w2, refl2 hc hi (imageL_length c u)]))
        have B1 := ih u1 y1 (by omega) (by omega) w1 hy1 hu1y hne1
        have B2 : sumE (btwL c u y1) = 0 := by
          by_cases hle : SubI c y1 (imageL c u)
          · refine ih u y1 (by omega) (by omega) hu hy1 hle (fun e => ?_)
            have := Red.pos hc (hy.red hc)
            rw [← e] at this
            omega
          · have : btwL c u y1 = [] := by
              cases hb : btwL c u y1 with
              | nil => rfl
              | cons z l =>
                exfalso
                obtain ⟨h1, h2⟩ := (btwL_mem (u := u) hc hl1 (by have := hy1.2.2; omega) z).1 (hb ▸ List.mem_cons_self ..)
                exact hle (Low.trans hc h1 ⟨hu, h2⟩ hl1).2
            rw [this]; rfl
        -- what lies above u1 and not above u ends before y
        have u1u : SubI c u (imageL c u1) := by
          have : SubI c (i :: u1) (imageL c u1) := (SubI.self c u1).mono (List.sublist_cons_self i u1)
          exact sub_word hc w6 (by simp; have := hu.2.2; omega) hu.1 w5.symm this
        have above : ∀ z, Nf c z → SubI c z (imageL c u) → SubI c z (imageL c u1) := fun z hz h => (Low.trans hc (x := z) ⟨hu, h⟩ ⟨w1, u1u⟩ hz.1).2
        have key : ∀ z, Nf c z → (imageL c z).getD i.toNat 0 < 0 → SubI c z (imageL c u1) → SubI c z (imageL c u) := by
          intro z hz hzn h
          obtain ⟨z1, q1, q2, q3, q4, q5, q6⟩ := word_of hc hi hz hzn
          have h3 := sub_word hc (hz.red hc) hz.2.2 q4 q5 h
          rw [sub_cons hc q4 (imageL_length c u1), if_neg (by omega)] at h3
          have h4 : SubI c (i :: z1) (imageL c u) := by
            rw [sub_cons hc q4 (imageL_length c u), if_pos hneg, ← w2]; exact h3
          exact sub_word hc q6 (by simp; have := hz.2.2; omega) hz.1 q5.symm h4
        have down : ∀ z, Low c y1 z → Low c (i :: y1) z := fun z h => ⟨h.1, h.2.mono (List.sublist_cons_self i y1)⟩
        have m0 := fun z => btwL_mem (u := u) hc hy.1 (by have := hy.2.2; omega) z
        have m1 := fun z => btwL_mem (u := u1) hc hy.1 (by have := hy.2.2; omega) z
        have m2 := fun z => btwL_mem (u := u) hc hl1 (by have := hy1.2.2; omega) z
        have m3 := fun z => btwL_mem (u := u1) hc hl1 (by have := hy1.2.2; omega) z
        classical
        have s1 := sum_split (fun z => decide (SubI c z (imageL c u))) (btwL c u1 (i :: y1))
        have s2 := sum_split (fun z => decide (SubI c z (imageL c u))) (btwL c u1 y1)
        have e1 : sumE ((btwL c u1 (i :: y1)).filter fun z => decide (SubI c z (imageL c u))) = sumE (btwL c u (i :: y1)) := by
          refine sum_same (List.Pairwise.filter _ (btwL_nodup ..)) (btwL_nodup ..) fun z => ?_
          rw [List.mem_filter, m1, m0, decide_eq_true_iff]
          exact ⟨fun ⟨⟨h1, _⟩, h2⟩ => ⟨h1, h2⟩, fun ⟨h1, h2⟩ => ⟨⟨h1, above z h1.1 h2⟩, h2⟩⟩
        have e2 : sumE ((btwL c u1 y1).filter fun z => decide (SubI c z (imageL c u))) = sumE (btwL c u y1) := by
          refine sum_same (List.Pairwise.filter _ (btwL_nodup ..)) (btwL_nodup ..) fun z => ?_
          rw [List.mem_filter, m3, m2, decide_eq_true_iff]
          exact ⟨fun ⟨⟨h1, _⟩, h2⟩ => ⟨h1, h2⟩, fun ⟨h1, h2⟩ => ⟨⟨h1, above z h1.1 h2⟩, h2⟩⟩
        have e3 : sumE ((btwL c u1 (i :: y1)).filter fun z => !decide (SubI c z (imageL c u))) = sumE ((btwL c u1 y1).filter fun z => !decide (SubI c z (imageL c u))) := by
          refine sum_same (List.Pairwise.filter _ (btwL_nodup ..)) (List.Pairwise.filter _ (btwL_nodup ..)) fun z => ?_
          rw [List.mem_filter, List.mem_filter, m1, m3]
          constructor
          · rintro ⟨⟨h1, h2⟩, h3⟩
            have h4 : ¬ SubI c z (imageL c u) := by simpa using h3
            have hzp : ¬ (imageL c z).getD i.toNat 0 < 0 := fun hzn => h4 (key z h1.1 hzn h2)
            have h5 := h1.2
            rw [sub_cons hc hy.1 (imageL_length c z), if_neg hzp] at h5
            exact ⟨⟨⟨h1.1, h5⟩, h2⟩, h3⟩
          · rintro ⟨⟨h1, h2⟩, h3⟩
            exact ⟨⟨down z h1, h2⟩, h3⟩
        omega
      · have := nz_of hc hu.1 hi
        exact caseA u hu (by omega)
end Go.Proofs.Ytdhfonblpbpmmaa
