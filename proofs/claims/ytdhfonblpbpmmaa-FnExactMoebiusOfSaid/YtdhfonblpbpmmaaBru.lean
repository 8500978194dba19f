/- The Bruhat order by subwords: plain laws. -/
import Derived.Test.YtdhfonblpbpmmaaExch
import Derived.Test.YtdhfonblpbpmmaaBCov
import Derived.Test.YtdhfonblpbpmmaaPref
set_option linter.unusedVariables false
set_option linter.unusedSimpArgs false
namespace Go.Proofs.Ytdhfonblpbpmmaa
open Go Go.Aw Go.Cox

theorem delA_nat (w : List Int) (k : Nat) : nat (delA w k) = (nat w).take k ++ (nat w).drop (k + 1) := by
  simp [nat, delA, List.map_take, List.map_drop]
theorem delA_sub (w : List Int) (k : Nat) : (delA w k).Sublist w := by
  unfold delA
  have h := List.take_append_drop k w
  have h2 : (w.take k ++ w.drop (k + 1)).Sublist (w.take k ++ w.drop k) := by
    refine List.Sublist.append (List.Sublist.refl _) ?_
    rw [← List.drop_drop]
    exact List.drop_sublist 1 _
  rwa [h] at h2
theorem letters_sub {n : Nat} {u w : List Int} (h : u.Sublist w) (hw : letters n w) : letters n u := fun i hi => hw i (h.subset hi)

/-- A letter that turns the sign is exchanged for one of the word. -/
theorem exL {c : List (List Int)} (hc : CartanP c) {p w : List Int} (hp : letters c.length p) (hw : letters c.length w) {s : Int} (hs : 0 ≤ s ∧ s < c.length) (h1 : 0 < (imageL c p).getD s.toNat 0) (h2 : (imageL c (p ++ w)).getD s.toNat 0 < 0) :
    ∃ k, k < w.length ∧ imageL c (s :: (p ++ w)) = imageL c (p ++ delA w k) := by
  have hA := matA_cartan hc
  have hpw := letters_append.2 ⟨hp, hw⟩
  have nap : ∀ a b : List Int, nat (a ++ b) = nat a ++ nat b := fun a b => by simp [nat]
  have e1 : vecL (imageL c p) = act (matA c) (nat p) (vecL (ones c.length)) := vec_act (ones_length _) p
  have e2 : vecL (imageL c (p ++ w)) = act (matA c) (nat p ++ nat w) (vecL (ones c.length)) := by rw [← nap]; exact vec_act (ones_length _) _
  obtain ⟨a, i, b, hab, hx⟩ := exch hA (vec_ones c.length) (s := s.toNat) (by omega) (nat w) (nat p) (letters_nat hw) (letters_nat hp) (by rw [← e1]; exact h1) (by rw [← e2]; exact h2)
  have hk : a.length < w.length := by
    have := congrArg List.length hab
    simp [nat] at this
    omega
  refine ⟨a.length, hk, ?_⟩
  apply vec_inj (by rw [imageL_length, imageL_length])
  rw [imageL, imageL, vec_act (ones_length _), vec_act (ones_length _)]
  have e3 : nat (s :: (p ++ w)) = s.toNat :: (nat p ++ nat w) := by rw [← nap]; rfl
  have e4 : nat (p ++ delA w a.length) = nat p ++ (a ++ b) := by
    rw [nap, delA_nat, hab]
    simp
  rw [e3, e4]
  exact hx _
theorem exW {c : List (List Int)} (hc : CartanP c) {w : List Int} (hw : letters c.length w) {s : Int} (hs : 0 ≤ s ∧ s < c.length) (h2 : (imageL c w).getD s.toNat 0 < 0) : ∃ k, k < w.length ∧ imageL c (s :: w) = imageL c (delA w k) := by
  have := exL hc (letters_nil _) hw hs (by
    show 0 < (ones c.length).getD s.toNat 0
    have hh : s.toNat < c.length := by omega
    simp [ones, List.getD, hh]) (by simpa using h2)
  simpa using this

/-- The image of a subword. -/
def SubI (c : List (List Int)) (w v : List Int) : Prop := ∃ u, u.Sublist w ∧ imageL c u = v
theorem SubI.mono {c : List (List Int)} {w x v : List Int} (h : SubI c w v) (k : w.Sublist x) : SubI c x v := by
  obtain ⟨u, h1, h2⟩ := h
  exact ⟨u, h1.trans k, h2⟩
theorem SubI.self (c : List (List Int)) (w : List Int) : SubI c w (imageL c w) := ⟨w, List.Sublist.refl _, rfl⟩
theorem SubI.len {c : List (List Int)} {w v : List Int} (h : SubI c w v) : v.length = c.length := by
  obtain ⟨u, _, rfl⟩ := h
  exact imageL_length c u
theorem refl_at' {c : List (List Int)} (hc : CartanP c) {i : Int} (hi : 0 ≤ i ∧ i < c.length) {v : List Int} (hv : v.length = c.length) : (reflL c i v).getD i.toNat 0 = - v.getD i.toNat 0 := by
  have d : ent c i.toNat i.toNat = 2 := (matA_cartan hc).diag i.toNat (by omega)
  have g := reflL_get c i v i.toNat (by omega)
  rw [d] at g
  omega
theorem sub_cons {c : List (List Int)} (hc : CartanP c) {i : Int} {w : List Int} (hw : letters c.length (i :: w)) {v : List Int} (hv : v.length = c.length) :
    SubI c (i :: w) v ↔ if v.getD i.toNat 0 < 0 then SubI c w (reflL c i v) else SubI c w v := by
  obtain ⟨hi, hr⟩ := letters_cons.1 hw
  constructor
  · rintro ⟨u, hu0, rfl⟩
    rcases List.sublist_cons_iff.1 hu0 with hu | ⟨r, rfl, hu⟩
    · split
      · rename_i h
        obtain ⟨k, _, hk⟩ := exW hc (letters_sub hu hr) hi h
        exact ⟨delA u k, (delA_sub u k).trans hu, by rw [← hk]; rfl⟩
      · exact ⟨u, hu, rfl⟩
    · have hrl := letters_sub hu hr
      split
      · refine ⟨r, hu, ?_⟩
        exact (refl2 hc hi (imageL_length c r)).symm
      · rename_i h
        have e := refl_at' hc hi (imageL_length c r)
        have hnz : (imageL c r).getD i.toNat 0 ≠ 0 := by
          obtain ⟨L, _, _, k3⟩ := Far.image hc hrl
          exact k3.nz hc i.toNat (by omega)
        have h : ¬ (reflL c i (imageL c r)).getD i.toNat 0 < 0 := h
        obtain ⟨k, _, hk⟩ := exW hc hrl hi (by omega)
        exact ⟨delA r k, (delA_sub r k).trans hu, hk.symm⟩
  · intro h
    split at h
    · obtain ⟨u, h1, h2⟩ := h
      refine ⟨i :: u, List.Sublist.cons_cons i h1, ?_⟩
      show reflL c i (imageL c u) = v
      rw [h2, refl2 hc hi hv]
    · exact h.mono (List.sublist_cons_self i w)
theorem bel_sub {c : List (List Int)} (hc : CartanP c) : ∀ (w : List Int), letters c.length w → ∀ {v : List Int} {L : Nat}, Far c L v → (belB c v w = true ↔ SubI c w v)
  | [], _, v, L, h => by
    unfold belB
    rw [decide_eq_true_iff]
    show fstN v < 0 ↔ _
    rw [fst_zero hc h]
    constructor
    · rintro rfl
      exact ⟨[], List.Sublist.refl _, h.zero.symm⟩
    · rintro ⟨u, hu, hv⟩
      have : u = [] := List.sublist_nil.1 hu
      subst this
      have hv : ones c.length = v := hv
      subst hv
      exact h.uniq hc (Far.ones c)
  | i :: w, hw, v, L, h => by
    obtain ⟨hi, hr⟩ := letters_cons.1 hw
    rw [sub_cons hc hw h.1]
    by_cases hx : v.getD i.toNat 0 < 0
    · obtain ⟨M, _, h2⟩ := h.down hc hi hx
      rw [if_pos hx, ← bel_sub hc w hr h2]
      simp only [belB, belV, if_pos hx]
    · rw [if_neg hx, ← bel_sub hc w hr h]
      simp only [belB, belV, if_neg hx]

/-! ### Reduced words -/

theorem len_app {c : List (List Int)} (hc : CartanP c) {a b : List Int} (ha : letters c.length a) (hb : letters c.length b) {K M : Nat} (h1 : Far c K (imageL c (a ++ b))) (h2 : Far c M (imageL c b)) (hM : M ≤ 31) : K ≤ a.length + M := by
  obtain ⟨r1, r2, r3⟩ := nfL_far hc 31 M h2 hM
  obtain ⟨L, k1, _, k3⟩ := Far.image hc (w := a ++ nfL c 31 (imageL c b)) (letters_append.2 ⟨ha, r2⟩)
  rw [image_append, r3, ← image_append] at k3
  have := h1.uniq hc k3
  simp at k1
  omega
theorem Red.tail {c : List (List Int)} (hc : CartanP c) {a b : List Int} (hl : b.length ≤ 31) (h : Red c (a ++ b)) : Red c b := by
  obtain ⟨ha, hb⟩ := letters_append.1 h.1
  obtain ⟨L, k1, _, k3⟩ := Far.image hc hb
  have := len_app hc ha hb h.2 k3 (by omega)
  simp at this
  have e : L = b.length := by omega
  exact ⟨hb, by rw [← e]; exact k3⟩
theorem Red.rev {c : List (List Int)} (hc : CartanP c) {a : List Int} (hl : a.length ≤ 31) (h : Red c a) : Red c a.reverse := by
  have hr := letters_reverse h.1
  obtain ⟨a1, a2, a3, a4, a5⟩ := red_spec hc hr (by simpa using hl)
  have e : imageL c (redL c a.reverse).reverse = imageL c a := by
    have := rev_same hc a1 hr a4 (ones_length c.length)
    rw [List.reverse_reverse] at this
    exact this
  obtain ⟨L, k1, _, k3⟩ := Far.image hc (letters_reverse a1)
  rw [e] at k3
  have := h.2.uniq hc k3
  simp at k1 a2
  refine ⟨hr, ?_⟩
  have e2 : (redL c a.reverse).length = a.reverse.length := by simp; omega
  rw [← e2]
  exact a5
theorem Red.head {c : List (List Int)} (hc : CartanP c) {a b : List Int} (hl : a.length + b.length ≤ 31) (h : Red c (a ++ b)) : Red c a := by
  have h1 := h.rev hc (by simpa using hl)
  rw [List.reverse_append] at h1
  have h2 := (h1.tail hc (by simp; omega)).rev hc (by simp; omega)
  rwa [List.reverse_reverse] at h2
theorem Red.pos {c : List (List Int)} (hc : CartanP c) {i : Int} {b : List Int} (h : Red c (i :: b)) : 0 < (imageL c b).getD i.toNat 0 := by
  obtain ⟨hi, hb⟩ := letters_cons.1 h.1
  obtain ⟨L, k1, _, k3⟩ := Far.image hc hb
  have hnz := k3.nz hc i.toNat (by omega)
  refine Classical.byContradiction fun hn => ?_
  obtain ⟨M, h1, h2⟩ := k3.down hc hi (by omega)
  have := h.2.uniq hc h2
  simp at this
  omega
theorem Red.up {c : List (List Int)} (hc : CartanP c) {i : Int} (hi : 0 ≤ i ∧ i < c.length) {b : List Int} (h : Red c b) (hp : 0 < (imageL c b).getD i.toNat 0) : Red c (i :: b) :=
  ⟨letters_cons.2 ⟨hi, h.1⟩, h.2.up hc hi hp⟩
theorem Red.of {c : List (List Int)} (hc : CartanP c) {a b : List Int} (ha : letters c.length a) (h : Red c b) (he : imageL c a = imageL c b) (hl : a.length ≤ b.length) : Red c a := by
  obtain ⟨L, k1, _, k3⟩ := Far.image hc ha
  have h2 := h.2
  rw [← he] at h2
  have := h2.uniq hc k3
  have e : b.length = a.length := by omega
  rw [e] at h2
  exact ⟨ha, h2⟩

/-- The strong exchange of letters. -/
theorem exS {c : List (List Int)} (hc : CartanP c) {y u : List Int} (hy : Red c y) (hl : y.length ≤ 30) (hu : letters c.length u) (he : imageL c u = imageL c y) {k : Nat} (hk : k < y.length) : ∃ j, j < u.length ∧ imageL c (delA u j) = imageL c (delA y k) := by
  obtain ⟨a, i, b, hab, hak⟩ : ∃ a i b, y = a ++ i :: b ∧ a.length = k := ⟨y.take k, y[k], y.drop (k + 1), by rw [← List.drop_eq_getElem_cons hk, List.take_append_drop], by simp; omega⟩
  have hlen : y.length = a.length + b.length + 1 := by rw [hab]; simp; omega
  have hyab := hy
  rw [hab] at hyab
  obtain ⟨la, lib⟩ := letters_append.1 hyab.1
  obtain ⟨hi, lb⟩ := letters_cons.1 lib
  have h1 : 0 < (imageL c a.reverse).getD i.toNat 0 := by
    have h2 : Red c ((a ++ [i]) ++ b) := by simpa using hyab
    have h3 := (h2.head hc (by simp; omega)).rev hc (by simp; omega)
    rw [List.reverse_append] at h3
    exact Red.pos hc h3
  have hib : Red c (i :: b) := hyab.tail hc (by simp; omega)
  have hra := letters_reverse la
  have e1 : imageL c (a.reverse ++ u) = imageL c (i :: b) := by
    rw [image_append, he, hab, image_append]
    exact act_rev hc a la (imageL_length c _)
  have h2 : (imageL c (a.reverse ++ u)).getD i.toNat 0 < 0 := by
    rw [e1, image_cons, refl_at' hc hi (imageL_length c b)]
    have := Red.pos hc hib
    omega
  obtain ⟨j, hj, hx⟩ := exL hc hra hu hi h1 h2
  refine ⟨j, hj, ?_⟩
  rw [image_cons, e1, image_cons, refl2 hc hi (imageL_length c b), image_append] at hx
  have h3 := congrArg (actL c a) hx
  have h4 := act_rev hc a.reverse hra (v := imageL c (delA u j)) (imageL_length c _)
  rw [List.reverse_reverse] at h4
  rw [h4] at h3
  rw [← h3, hab, delA_app a b i hak, image_append]

theorem chain_T {c : List (List Int)} (hc : CartanP c) : ∀ (n : Nat) (y : List Int), y.length = n → n ≤ 30 → Red c y →
    (∀ v, SubI c y v → v ≠ imageL c y → ∃ k, k < y.length ∧ Red c (delA y k) ∧ SubI c (delA y k) v) ∧
    (∀ u, letters c.length u → imageL c u = imageL c y → ∀ v, SubI c y v → SubI c u v) := by
  intro n
  induction n using Nat.strongRecOn with
  | _ n ih =>
    intro y hyn hn hy
    have chain : ∀ v, SubI c y v → v ≠ imageL c y → ∃ k, k < y.length ∧ Red c (delA y k) ∧ SubI c (delA y k) v := by
      intro v hv hne
      cases y with
      | nil =>
        obtain ⟨u, hu, rfl⟩ := hv
        have : u = [] := List.sublist_nil.1 hu
        subst this
        exact (hne rfl).elim
      | cons i y1 =>
        obtain ⟨hi, lr⟩ := letters_cons.1 hy.1
        simp at hyn
        have hy1 : Red c y1 := Red.tail hc (a := [i]) (by omega) hy
        have hvl := hv.len
        rw [sub_cons hc hy.1 hvl] at hv
        split at hv
        · rename_i hneg
          have hne1 : reflL c i v ≠ imageL c y1 := fun e => hne (by
            have := congrArg (reflL c i) e
            rw [refl2 hc hi hvl] at this
            exact this)
          obtain ⟨k, hk, hR, hS⟩ := (ih (n - 1) (by omega) y1 (by omega) (by omega) hy1).1 _ hv hne1
          have hdl := delA_len hk
          by_cases hpos : (imageL c (delA y1 k)).getD i.toNat 0 < 0
          · obtain ⟨j, hj, hx⟩ := exW hc hR.1 hi hpos
            have ljd := letters_sub (delA_sub (delA y1 k) j) hR.1
            have eL : imageL c (i :: delA (delA y1 k) j) = imageL c (delA y1 k) := by
              rw [image_cons, ← hx, image_cons, refl2 hc hi (imageL_length c _)]
            have hdl2 := delA_len hj
            have lI : letters c.length (i :: delA (delA y1 k) j) := letters_cons.2 ⟨hi, ljd⟩
            have hR2 : Red c (i :: delA (delA y1 k) j) := Red.of hc lI hR eL (by simp; omega)
            have s1 := (ih (delA y1 k).length (by omega) _ rfl (by omega) hR).2 _ lI eL _ hS
            rw [sub_cons hc lI (by rw [reflL_length, hvl]), if_neg (by rw [refl_at' hc hi hvl]; omega)] at s1
            have s2 : SubI c (i :: delA (delA y1 k) j) v := by
              rw [sub_cons hc lI hvl, if_pos hneg]; exact s1
            have s3 := (ih (i :: delA (delA y1 k) j).length (by simp; omega) _ rfl (by simp; omega) hR2).2 _ hR.1 eL.symm _ s2
            exact ⟨0, by simp, by simpa [delA] using hy1, by
              have := s3.mono (delA_sub y1 k)
              simpa [delA] using this⟩
          · have hnz := hR.2.nz hc i.toNat (by omega)
            have e : delA (i :: y1) (k + 1) = i :: delA y1 k := by simp [delA]
            refine ⟨k + 1, by simp; omega, ?_, ?_⟩
            · rw [e]; exact hR.up hc hi (by omega)
            · rw [e, sub_cons hc (letters_cons.2 ⟨hi, hR.1⟩) hvl, if_pos hneg]; exact hS
        · exact ⟨0, by simp, by simpa [delA] using hy1, by simpa [delA] using hv⟩
    refine ⟨chain, fun u hu he v hv => ?_⟩
    by_cases hne : v = imageL c y
    · rw [hne, ← he]; exact SubI.self c u
    · obtain ⟨k, hk, hR, hS⟩ := chain v hv hne
      obtain ⟨j, hj, hx⟩ := exS hc hy (by omega) hu he hk
      have hdl := delA_len hk
      exact ((ih (delA y k).length (by omega) _ rfl (by omega) hR).2 _ (letters_sub (delA_sub u j) hu) hx _ hS).mono (delA_sub u j)

/-- What lies below an element does not depend on its word. -/
theorem sub_word {c : List (List Int)} (hc : CartanP c) {y u : List Int} (hy : Red c y) (hl : y.length ≤ 30) (hu : letters c.length u) (he : imageL c u = imageL c y) {v : List Int} (h : SubI c y v) : SubI c u v := (chain_T hc _ y rfl hl hy).2 u hu he v h
theorem sub_chain {c : List (List Int)} (hc : CartanP c) {y : List Int} (hy : Red c y) (hl : y.length ≤ 30) {v : List Int} (h : SubI c y v) (hne : v ≠ imageL c y) : ∃ k, k < y.length ∧ Red c (delA y k) ∧ SubI c (delA y k) v := (chain_T hc _ y rfl hl hy).1 v h hne

/-! ### All that lies below an element -/

def Low (c : List (List Int)) (x z : List Int) : Prop := Nf c z ∧ SubI c x (imageL c z)
theorem nf_same {c : List (List Int)} {a b : List Int} (ha : Nf c a) (hb : Nf c b) (h : imageL c a = imageL c b) : a = b := by
  rw [← ha.2.1, ← hb.2.1]; exact red_eq h
theorem Low.self {c : List (List Int)} {x : List Int} (h : Nf c x) : Low c x x := ⟨h, SubI.self c x⟩
theorem Low.trans {c : List (List Int)} (hc : CartanP c) {x y z : List Int} (h : Low c x y) (k : Low c y z) (hx : letters c.length x) : Low c x z := by
  obtain ⟨hy, u, hu, he⟩ := h
  exact ⟨k.1, (sub_word hc (hy.red hc) hy.2.2 (letters_sub hu hx) he k.2).mono hu⟩
theorem Low.len {c : List (List Int)} (hc : CartanP c) {x z : List Int} (hx : letters c.length x) (h : Low c x z) : z.length ≤ x.length := by
  obtain ⟨hz, u, hu, he⟩ := h
  have := hz.short hc (letters_sub hu hx) he
  have := hu.length_le
  omega
theorem Low.del {c : List (List Int)} (hc : CartanP c) {y : List Int} (hy : Nf c y) {k : Nat} (hk : k < y.length) : Low c y (redL c (delA y k)) := by
  have hl := letters_sub (delA_sub y k) hy.1
  have hdl := delA_len hk
  have hb := hy.2.2
  obtain ⟨a1, a2, a3, a4, a5⟩ := red_spec hc hl (by omega)
  exact ⟨nf_red hc hl (by omega) (by omega), delA y k, delA_sub y k, a4.symm⟩
/-- Going down by covers one comes to all that lies below. -/
theorem Low.all {c : List (List Int)} (hc : CartanP c) {L : List (List Int)} (hL : ∀ y ∈ L, Nf c y) (hcl : ∀ y ∈ L, ∀ z ∈ bcT c y y.length, z ∈ L) : ∀ (n : Nat) (y z : List Int), y.length = n → y ∈ L → Low c y z → z ∈ L := by
  intro n
  induction n using Nat.strongRecOn with
  | _ n ih =>
    intro y z hyn hy hz
    have hny := hL y hy
    by_cases hne : imageL c z = imageL c y
    · rw [nf_same hz.1 hny hne]; exact hy
    · obtain ⟨k, hk, hR, hS⟩ := sub_chain hc (hny.red hc) hny.2.2 hz.2 hne
      have hdl := delA_len hk
      have hb := hny.2.2
      obtain ⟨a1, a2, a3, a4, a5⟩ := red_spec hc hR.1 (by omega)
      have hlen : (redL c (delA y k)).length = (delA y k).length := a5.uniq hc hR.2
      have hin : redL c (delA y k) ∈ bcT c y y.length := by
        refine List.mem_filterMap.2 ⟨k, List.mem_range.2 hk, ?_⟩
        unfold bcF
        rw [if_pos (by omega)]
      have h2 := hcl y hy _ hin
      exact ih _ (by omega) _ z rfl h2 ⟨hz.1, sub_word hc hR (by omega) a1 a4 hS⟩
theorem bcT_low {c : List (List Int)} (hc : CartanP c) {y z : List Int} (hy : Nf c y) (h : z ∈ bcT c y y.length) : Low c y z ∧ z.length + 1 = y.length := by
  obtain ⟨k, hk, hz⟩ := List.mem_filterMap.1 h
  obtain ⟨h1, h2⟩ := bcF_some hz
  exact ⟨h1 ▸ Low.del hc hy (List.mem_range.1 hk), h2⟩

/-! ### Letter by letter -/

theorem Low.step {c : List (List Int)} (hc : CartanP c) {p z : List Int} {i : Int} (hp : letters c.length (p ++ [i])) (hz : Low c p z) (hl : z.length ≤ 29) : Low c (p ++ [i]) (redL c (z ++ [i])) := by
  obtain ⟨hn, u, hu, he⟩ := hz
  obtain ⟨lp, li⟩ := letters_append.1 hp
  have hlz := letters_append.2 ⟨hn.1, li⟩
  obtain ⟨a1, a2, a3, a4, a5⟩ := red_spec hc hlz (by simp; omega)
  refine ⟨nf_red hc hlz (by simp; omega) (by simp at a2; omega), u ++ [i], hu.append (List.Sublist.refl _), ?_⟩
  rw [a4, image_same_app hc (letters_sub hu lp) hn.1 he]
theorem Low.more {c : List (List Int)} {p z : List Int} {i : Int} (h : Low c p z) : Low c (p ++ [i]) z := ⟨h.1, h.2.mono (List.sublist_append_left _ _)⟩
theorem Low.last {c : List (List Int)} (hc : CartanP c) {p z : List Int} {i : Int} (hp : letters c.length (p ++ [i])) (hpl : p.length ≤ 30) (h : Low c (p ++ [i]) z) : Low c p z ∨ ∃ y, Low c p y ∧ z = redL c (y ++ [i]) := by
  obtain ⟨hn, u, hu, he⟩ := h
  obtain ⟨lp, li⟩ := letters_append.1 hp
  obtain ⟨u1, u2, rfl, h1, h2⟩ := List.sublist_append_iff.1 hu
  rcases List.sublist_cons_iff.1 h2 with h3 | ⟨r, rfl, h3⟩
  · have : u2 = [] := List.sublist_nil.1 h3
    subst this
    rw [List.append_nil] at he
    exact .inl ⟨hn, u1, h1, he⟩
  · have : r = [] := List.sublist_nil.1 h3
    subst this
    have l1 := letters_sub h1 lp
    have hle := h1.length_le
    obtain ⟨a1, a2, a3, a4, a5⟩ := red_spec hc l1 (by omega)
    refine .inr ⟨redL c u1, ⟨nf_red hc l1 (by omega) (by omega), u1, h1, a4.symm⟩, ?_⟩
    rw [← hn.2.1, ← red_eq he]
    exact red_eq (image_same_app hc l1 a1 a4.symm [i])
theorem Low.none {c : List (List Int)} (hc : CartanP c) (z : List Int) : Low c [] z ↔ z = [] := by
  constructor
  · rintro ⟨hn, u, hu, he⟩
    have : u = [] := List.sublist_nil.1 hu
    subst this
    rw [← hn.2.1, ← red_eq he, red_of_nil hc]
  · rintro rfl
    exact ⟨⟨letters_nil _, red_of_nil hc, by simp⟩, [], List.Sublist.refl _, rfl⟩
end Go.Proofs.Ytdhfonblpbpmmaa
