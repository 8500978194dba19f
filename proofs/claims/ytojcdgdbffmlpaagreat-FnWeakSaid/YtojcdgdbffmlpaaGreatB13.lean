/- The Bruhat order by subwords: plain laws. -/
import Derived.Test.YtojcdgdbffmlpaaGreatB11
import Derived.Test.YtojcdgdbffmlpaaGreatB12
import Derived.Test.YtojcdgdbffmlpaaGreatB10
import Derived.Test.YtojcdgdbffmlpaaGreatB6
set_option linter.unusedVariables false
set_option linter.unusedSimpArgs false
namespace Go.Proofs.YtojcdgdbffmlpaaGreat
open Go Go.Aw Go.Cox
theorem delA_nat (w : List Int) (k : Nat) : nat (delA w k) = (nat w).take k ++ (nat w).drop (k + 1) := by
  simp [nat, delA, List.map_take, List.map_drop]
theorem delA_sub (w : List Int) (k : Nat) : (delA w k).Sublist w := by
  unfold delA
  have h := List.take_append_drop k w
  have h2 : (w.take k ++ w.drop (k + 1)).Sublist (w.take k ++ w.drop k) := by
    refine List.Sublist.append (List.Sublist.refl _) ?_
    rw [← List.drop_drop]
    exact List.drop_sublist 1 _
  rwa [h] at h2
theorem letters_sub {n : Nat} {u w : List Int} (h : u.Sublist w) (hw : letters n w) : letters n u := fun i hi => hw i (h.subset hi)
theorem exL {c : List (List Int)} (hc : CartanP c) {p w : List Int} (hp : letters c.length p) (hw : letters c.length w) {s : Int} (hs : 0 ≤ s ∧ s < c.length) (h1 : 0 < (imageL c p).getD s.toNat 0) (h2 : (imageL c (p ++ w)).getD s.toNat 0 < 0) :
    ∃ k, k < w.length ∧ imageL c (s :: (p ++ w)) = imageL c (p ++ delA w k) := by
  have hA := matA_cartan hc
  have hpw := letters_append.2 ⟨hp, hw⟩
  have nap : ∀ a b : List Int, nat (a ++ b) = nat a ++ nat b := fun a b => by simp [nat]
  have e1 : vecL (imageL c p) = act (matA c) (nat p) (vecL (ones c.length)) := vec_act (ones_length _) p
  have e2 : vecL (imageL c (p ++ w)) = act (matA c) (nat p ++ nat w) (vecL (ones c.length)) := by rw [← nap]; exact vec_act (ones_length _) _
  obtain ⟨a, i, b, hab, hx⟩ := exch hA (vec_ones c.length) (s := s.toNat) (by omega) (nat w) (nat p) (letters_nat hw) (letters_nat hp) (by rw [← e1]; exact h1) (by rw [← e2]; exact h2)
  have hk : a.length < w.length := by
    have := congrArg List.length hab
    simp [nat] at this
    omega
  refine ⟨a.length, hk, ?_⟩
  apply vec_inj (by rw [imageL_length, imageL_length])
  rw [imageL, imageL, vec_act (ones_length _), vec_act (ones_length _)]
  have e3 : nat (s :: (p ++ w)) = s.toNat :: (nat p ++ nat w) := by rw [← nap]; rfl
  have e4 : nat (p ++ delA w a.length) = nat p ++ (a ++ b) := by
    rw [nap, delA_nat, hab]
    simp
  rw [e3, e4]
  exact hx _
theorem exW {c : List (List Int)} (hc : CartanP c) {w : List Int} (hw : letters c.length w) {s : Int} (hs : 0 ≤ s ∧ s < c.length) (h2 : (imageL c w).getD s.toNat 0 < 0) : ∃ k, k < w.length ∧ imageL c (s :: w) = imageL c (delA w k) := by
  have := exL hc (letters_nil _) hw hs (by
    show 0 < (ones c.length).getD s.toNat 0
    have hh : s.toNat < c.length := by omega
    simp [ones, List.getD, hh]) (by simpa using h2)
  simpa using this
def SubI (c : List (List Int)) (w v : List Int) : Prop := ∃ u, u.Sublist w ∧ imageL c u = v
theorem SubI.mono {c : List (List Int)} {w x v : List Int} (h : SubI c w v) (k : w.Sublist x) : SubI c x v := by
  obtain ⟨u, h1, h2⟩ := h
  exact ⟨u, h1.trans k, h2⟩
theorem SubI.self (c : List (List Int)) (w : List Int) : SubI c w (imageL c w) := ⟨w, List.Sublist.refl _, rfl⟩
theorem SubI.len {c : List (List Int)} {w v : List Int} (h : SubI c w v) : v.length = c.length := by
  obtain ⟨u, _, rfl⟩ := h
  exact imageL_length c u
theorem refl_at' {c : List (List Int)} (hc : CartanP c) {i : Int} (hi : 0 ≤ i ∧ i < c.length) {v : List Int} (hv : v.length = c.length) : (reflL c i v).getD i.toNat 0 = - v.getD i.toNat 0 := by
  have d : ent c i.toNat i.toNat = 2 := (matA_cartan hc).diag i.toNat (by omega)
  have g := reflL_get c i v i.toNat (by omega)
  rw [d] at g
  omega
theorem sub_cons {c : List (List Int)} (hc : CartanP c) {i : Int} {w : List Int} (hw : letters c.length (i :: w)) {v : List Int} (hv : v.length = c.length) :
    SubI c (i :: w) v ↔ if v.getD i.toNat 0 < 0 then SubI c w (reflL c i v) else SubI c w v := by
  obtain ⟨hi, hr⟩ := letters_cons.1 hw
  constructor
  · rintro ⟨u, hu0, rfl⟩
    rcases List.sublist_cons_iff.1 hu0 with hu | ⟨r, rfl, hu⟩
    · split
      · rename_i h
        obtain ⟨k, _, hk⟩ := exW hc (letters_sub hu hr) hi h
        exact ⟨delA u k, (delA_sub u k).trans hu, by rw [← hk]; rfl⟩
      · exact ⟨u, hu, rfl⟩
    · have hrl := letters_sub hu hr
      split
      · refine ⟨r, hu, ?_⟩
        exact (refl2 hc hi (imageL_length c r)).symm
      · rename_i h
        have e := refl_at' hc hi (imageL_length c r)
        have hnz : (imageL c r).getD i.toNat 0 ≠ 0 := by
          obtain ⟨L, _, _, k3⟩ := Far.image hc hrl
          exact k3.nz hc i.toNat (by omega)
        have h : ¬ (reflL c i (imageL c r)).getD i.toNat 0 < 0 := h
        obtain ⟨k, _, hk⟩ := exW hc hrl hi (by omega)
        exact ⟨delA r k, (delA_sub r k).trans hu, hk.symm⟩
  · intro h
    split at h
    · obtain ⟨u, h1, h2⟩ := h
      refine ⟨i :: u, List.Sublist.cons_cons i h1, ?_⟩
      show reflL c i (imageL c u) = v
      rw [h2, refl2 hc hi hv]
    · exact h.mono (List.sublist_cons_self i w)
theorem bel_sub {c : List (List Int)} (hc : CartanP c) : ∀ (w : List Int), letters c.length w → ∀ {v : List Int} {L : Nat}, Far c L v → (belB c v w = true ↔ SubI c w v)
  | [], _, v, L, h => by
    unfold belB
    rw [decide_eq_true_iff]
    show fstN v < 0 ↔ _
    rw [fst_zero hc h]
    constructor
    · rintro rfl
      exact ⟨[], List.Sublist.refl _, h.zero.symm⟩
    · rintro ⟨u, hu, hv⟩
      have : u = [] := List.sublist_nil.1 hu
      subst this
      have hv : ones c.length = v := hv
      subst hv
      exact h.uniq hc (Far.ones c)
  | i :: w, hw, v, L, h => by
    obtain ⟨hi, hr⟩ := letters_cons.1 hw
    rw [sub_cons hc hw h.1]
    by_cases hx : v.getD i.toNat 0 < 0
    · obtain ⟨M, _, h2⟩ := h.down hc hi hx
      rw [if_pos hx, ← bel_sub hc w hr h2]
      simp only [belB, belV, if_pos hx]
    · rw [if_neg hx, ← bel_sub hc w hr h]
      simp only [belB, belV, if_neg hx]
theorem len_app {c : List (List Int)} (hc : CartanP c) {a b : List Int} (ha : letters c.length a) (hb : letters c.length b) {K M : Nat} (h1 : Far c K (imageL c (a ++ b))) (h2 : Far c M (imageL c b)) (hM : M ≤ 31) : K ≤ a.length + M := by
  obtain ⟨r1, r2, r3⟩ := nfL_far hc 31 M h2 hM
  obtain ⟨L, k1, _, k3⟩ := Far.image hc (w := a ++ nfL c 31 (imageL c b)) (letters_append.2 ⟨ha, r2⟩)
  rw [image_append, r3, ← image_append] at k3
  have := h1.uniq hc k3
  simp at k1
  omega
theorem Red.tail {c : List (List Int)} (hc : CartanP c) {a b : List Int} (hl : b.length ≤ 31) (h : Red c (a ++ b)) : Red c b := by
  obtain ⟨ha, hb⟩ := letters_append.1 h.1
  obtain ⟨L, k1, _, k3⟩ := Far.image hc hb
  have := len_app hc ha hb h.2 k3 (by omega)
  simp at this
  have e : L = b.length := by omega
  exact ⟨hb, by rw [← e]; exact k3⟩
theorem Red.rev {c : List (List Int)} (hc : CartanP c) {a : List Int} (hl : a.length ≤ 31) (h : Red c a) : Red c a.reverse := by
  have hr := letters_reverse h.1
  obtain ⟨a1, a2, a3, a4, a5⟩ := red_spec hc hr (by simpa using hl)
  have e : imageL c (redL c a.reverse).reverse = imageL c a := by
    have := rev_same hc a1 hr a4 (ones_length c.length)
    rw [List.reverse_reverse] at this
    exact this
  obtain ⟨L, k1, _, k3⟩ := Far.image hc (letters_reverse a1)
  rw [e] at k3
  have := h.2.uniq hc k3
  simp at k1 a2
  refine ⟨hr, ?_⟩
  have e2 : (redL c a.reverse).length = a.reverse.length := by simp; omega
  rw [← e2]
  exact a5
theorem Red.head {c : List (List Int)} (hc : CartanP c) {a b : List Int} (hl : a.length + b.length ≤ 31) (h : Red c (a ++ b)) : Red c a := by
  have h1 := h.rev hc (by simpa using hl)
  rw [List.reverse_append] at h1
  have h2 := (h1.tail hc (by simp; omega)).rev hc (by simp; omega)
  rwa [List.reverse_reverse] at h2
theorem Red.pos {c : List (List Int)} (hc : CartanP c) {i : Int} {b : List Int} (h : Red c (i :: b)) : 0 < (imageL c b).getD i.toNat 0 := by
  obtain ⟨hi, hb⟩ := letters_cons.1 h.1
  obtain ⟨L, k1, _, k3⟩ := Far.image hc hb
  have hnz := k3.nz hc i.toNat (by omega)
  refine Classical.byContradiction fun hn => ?_
  obtain ⟨M, h1, h2⟩ := k3.down hc hi (by omega)
  have := h.2.uniq hc h2
  simp at this
  omega
theorem Red.up {c : List (List Int)} (hc : CartanP c) {i : Int} (hi : 0 ≤ i ∧ i < c.length) {b : List Int} (h : Red c b) (hp : 0 < (imageL c b).getD i.toNat 0) : Red c (i :: b) :=
  ⟨letters_cons.2 ⟨hi, h.1⟩, h.2.up hc hi hp⟩
theorem Red.of {c : List (List Int)} (hc : CartanP c) {a b : List Int} (ha : letters c.length a) (h : Red c b) (he : imageL c a = imageL c b) (hl : a.length ≤ b.length) : Red c a := by
  obtain ⟨L, k1, _, k3⟩ := Far.image hc ha
  have h2 := h.2
  rw [← he] at h2
  have := h2.uniq hc k3
  have e : b.length = a.length := by omega
  rw [e] at h2
  exact ⟨ha, h2⟩
theorem exS {c : List (List Int)} (hc : CartanP c) {y u : List Int} (hy : Red c y) (hl : y.length ≤ 30) (hu : letters c.length u) (he : imageL c u = imageL c y) {k : Nat} (hk : k < y.length) : ∃ j, j < u.length ∧ imageL c (delA u j) = imageL c (delA y k) := by
  obtain ⟨a, i, b, hab, hak⟩ : ∃ a i b, y = a ++ i :: b ∧ a.length = k := ⟨y.take k, y[k], y.drop (k + 1), by rw [← List.drop_eq_getElem_cons hk, List.take_append_drop], by simp; omega⟩
  have hlen : y.length = a.length + b.length + 1 := by rw [hab]; simp; omega
  have hyab := hy
  rw [hab] at hyab
  obtain ⟨la, lib⟩ := letters_append.1 hyab.1
  obtain ⟨hi, lb⟩ := letters_cons.1 lib
  have h1 : 0 < (imageL c a.reverse).getD i.toNat 0 := by
    have h2 : Red c ((a ++ [i]) ++ b) := by simpa using hyab
    have h3 := (h2.head hc (by simp; omega)).rev hc (by simp; omega)
    rw [List.reverse_append] at h3
    exact Red.pos hc h3
  have hib : Red c (i :: b) := hyab.tail hc (by simp; omega)
  have hra := letters_reverse la
  have e1 : imageL c (a.reverse ++ u) = imageL c (i :: b) := by
    rw [image_append, he, hab, image_append]
    exact act_rev hc a la (imageL_length c _)
  have h2 : (imageL c (a.reverse ++ u)).getD i.toNat 0 < 0 := by
    rw [e1, image_cons, refl_at' hc hi (imageL_length c b)]
    have := Red.pos hc hib
    omega
  obtain ⟨j, hj, hx⟩ := exL hc hra hu hi h1 h2
  refine ⟨j, hj, ?_⟩
  rw [image_cons, e1, image_cons, refl2 hc hi (imageL_length c b), image_append] at hx
  have h3 := congrArg (actL c a) hx
  have h4 := act_rev hc a.reverse hra (v := imageL c (delA u j)) (imageL_length c _)
  rw [List.reverse_reverse] at h4
  rw [h4] at h3
  rw [← h3, hab, delA_app a b i hak, image_append]
theorem chain_T {c : List (List Int)} (hc : CartanP c) : ∀ (n : Nat) (y : List Int), y.length = n → n ≤ 30 → Red c y →
    (∀ v, SubI c y v → v ≠ imageL c y → ∃ k, k < y.length ∧ Red c (delA y k) ∧ SubI c (delA y k) v) ∧
    (∀ u, letters c.length u → imageL c u = imageL c y → ∀ v, SubI c y v → SubI c u v) := by
  intro n
  induction n using Nat.strongRecOn with
  | _ n ih =>
    intro y hyn hn hy
    have chain : ∀ v, SubI c y v → v ≠ imageL c y → ∃ k, k < y.length ∧ Red c (delA y k) ∧ SubI c (delA y k) v := by
      intro v hv hne
      cases y with
      | nil =>
        obtain ⟨u, hu, rfl⟩ := hv
        have : u = [] := List.sublist_nil.1 hu
        subst this
        exact (hne rfl).elim
      | cons i y1 =>
        obtain ⟨hi, lr⟩ := letters_cons.1 hy.1
        simp at hyn
        have hy1 : Red c y1 := Red.tail hc (a := [i]) (by omega) hy
        have hvl := hv.len
        rw [sub_cons hc hy.1 hvl] at hv
        split at hv
        · rename_i hneg
          have hne1 : reflL c i v ≠ imageL c y1 := fun e => hne (by
            have := congrArg (reflL c i) e
            rw [refl2 hc hi hvl] at this
            exact this)
          obtain ⟨k, hk, hR, hS⟩ := (ih (n - 1) (by omega) y1 (by omega) (by omega) hy1).1 _ hv hne1
          have hdl := delA_len hk
          by_cases hpos : (imageL c (delA y1 k)).getD i.toNat 0 < 0
          · obtain ⟨j, hj, hx⟩ := exW hc hR.1 hi hpos
            have ljd := letters_sub (delA_sub (delA y1 k) j) hR.1
            have eL : imageL c (i :: delA (delA y1 k) j) = imageL c (delA y1 k) := by
              rw [image_cons, ← hx, image_cons, refl2 hc hi (imageL_length c _)]
            have hdl2 := delA_len hj
            have lI : letters c.length (i :: delA (delA y1 k) j) := letters_cons.2 ⟨hi, ljd⟩
            have hR2 : Red c (i :: delA (delA y1 k) j) := Red.of hc lI hR eL (by simp; omega)
            have s1 := (ih (delA y1 k).length (by omega) _ rfl (by omega) hR).2 _ lI eL _ hS
            rw [sub_cons hc lI (by rw [reflL_length, hvl]), if_neg (by rw [refl_at' hc hi hvl]; omega)] at s1
            have s2 : SubI c (i :: delA (delA y1 k) j) v := by
              rw [sub_cons hc lI hvl, if_pos hneg]; exact s1
            have s3 := (ih (i :: delA (delA y1 k) j).length (by simp; omega) _ rfl (by simp; omega) hR2).2 _ hR.1 eL.symm _ s2
            exact ⟨0, by simp, by simpa [delA] using hy1, by
              have := s3.mono (delA_sub y1 k)
              simpa [delA] using this⟩
          · have hnz := hR.2.nz hc i.toNat (by omega)
            have e : delA (i :: y1) (k + 1) = i :: delA y1 k := by simp [delA]
            refine ⟨k + 1, by simp; omega, ?_, ?_⟩
            · rw [e]; exact hR.up hc hi (by omega)
            · rw [e, sub_cons hc (letters_cons.2 ⟨hi, hR.1⟩) hvl, if_pos hneg]; exact hS
        · exact ⟨0, by simp, by simpa [delA] using hy1, by simpa [delA] using hv⟩
    refine ⟨chain, fun u hu he v hv => ?_⟩
    by_cases hne : v = imageL c y
    · rw [hne, ← he]; exact SubI.self c u
    · obtain ⟨k, hk, hR, hS⟩ := chain v hv hne
      obtain ⟨j, hj, hx⟩ := exS hc hy (by omega) hu he hk
      have hdl := delA_len hk
      exact ((ih (delA y k).length (by omega) _ rfl (by omega) hR).2 _ (letters_sub (delA_sub u j) hu) hx _ hS).mono (delA_sub u j)
theorem sub_word {c : List (List Int)} (hc : CartanP c) {y u : List Int} (hy : Red c y) (hl : y.length ≤ 30) (hu : letters c.length u) (he : imageL c u = imageL c y) {v : List Int} (h : SubI c y v) : SubI c u v := (chain_T hc _ y rfl hl hy).2 u hu he v h
theorem sub_chain {c : List (List Int)} (hc : CartanP c) {y : List Int} (hy : Red c y) (hl : y.length ≤ 30) {v : List Int} (h : SubI c y v) (hne : v ≠ imageL c y) : ∃ k, k < y.length ∧ Red c (delA y k) ∧ SubI c (delA y k) v := (chain_T hc _ y rfl hl hy).1 v h hne
def Low (c : List (List Int)) (x z : List Int) : Prop := Nf c z ∧ SubI c x (imageL c z)
theorem nf_same {c : List (List Int)} {a b : List Int} (ha : Nf c a) (hb : Nf c b) (h : imageL c a = imageL c b) : a = b := by
  rw [← ha.2.1, ← hb.2.1]; exact red_eq h
theorem Low.self {c : List (List Int)} {x : List Int} (h : Nf c x) : Low c x x := ⟨h, SubI.self c x⟩
theorem Low.trans {c : List (List Int)} (hc : CartanP c) {x y z : List Int} (h : Low c x y) (k : Low c y z) (hx : letters c.length x) : Low c x z := by
  obtain ⟨hy, u, hu, he⟩ := h
  exact ⟨k.1, (sub_word hc (hy.red hc) hy.2.2 (letters_sub hu hx) he k.2).mono hu⟩
theorem Low.len {c : List (List Int)} (hc : CartanP c) {x z : List Int} (hx : letters c.length x) (h : Low c x z) : z.length ≤ x.length := by
  obtain ⟨hz, u, hu, he⟩ := h
  have := hz.short hc (letters_sub hu hx) he
  have := hu.length_le
  omega
theorem Low.all {c : List (List Int)} (hc : CartanP c) {L : List (List Int)} (hL : ∀ y ∈ L, Nf c y) (hcl : ∀ y ∈ L, ∀ z ∈ bcT c y y.length, z ∈ L) : ∀ (n : Nat) (y z : List Int), y.length = n → y ∈ L → Low c y z → z ∈ L := by
  intro n
  induction n using Nat.strongRecOn with
  | _ n ih =>
    intro y z hyn hy hz
    have hny := hL y hy
    by_cases hne : imageL c z = imageL c y
    · rw [nf_same hz.1 hny hne]; exact hy
    · obtain ⟨k, hk, hR, hS⟩ := sub_chain hc (hny.red hc) hny.2.2 hz.2 hne
      have hdl := delA_len hk
      have hb := hny.2.2
      obtain ⟨a1, a2, a3, a4, a5⟩ := red_spec hc hR.1 (by omega)
      have hlen : (redL c (delA y k)).length = (delA y k).length := a5.uniq hc hR.2
      have hin : redL c (delA y k) ∈ bcT c y y.length := by
        refine List.mem_filterMap.2 ⟨k, List.mem_range.2 hk, ?_⟩
        unfold bcF
        rw [if_pos (by omega)]
      have h2 := hcl y hy _ hin
      exact ih _ (by omega) _ z rfl h2 ⟨hz.1, sub_word hc hR (by omega) a1 a4 hS⟩
theorem Low.step {c : List (List Int)} (hc : CartanP c) {p z : List Int} {i : Int} (hp : letters c.length (p ++ [i])) (hz : Low c p z) (hl : z.length ≤ 29) : Low c (p ++ [i]) (redL c (z ++ [i])) := by
  obtain ⟨hn, u, hu, he⟩ := hz
  obtain ⟨lp, li⟩ := letters_append.1 hp
  have hlz := letters_append.2 ⟨hn.1, li⟩
  obtain ⟨a1, a2, a3, a4, a5⟩ := red_spec hc hlz (by simp; omega)
  refine ⟨nf_red hc hlz (by simp; omega) (by simp at a2; omega), u ++ [i], hu.append (List.Sublist.refl _), ?_⟩
  rw [a4, image_same_app hc (letters_sub hu lp) hn.1 he]
theorem Low.none {c : List (List Int)} (hc : CartanP c) (z : List Int) : Low c [] z ↔ z = [] := by
  constructor
  · rintro ⟨hn, u, hu, he⟩
    have : u = [] := List.sublist_nil.1 hu
    subst this
    rw [← hn.2.1, ← red_eq he, red_of_nil hc]
  · rintro rfl
    exact ⟨⟨letters_nil _, red_of_nil hc, by simp⟩, [], List.Sublist.refl _, rfl⟩
end Go.Proofs.YtojcdgdbffmlpaaGreat
namespace Go.Proofs.YtojcdgdbffmlpaaGreat
open Go Go.Aw
def fmtD (w : List Int) : List UInt8 := w.map fun i => UInt8.ofNat (49 + i.toNat)
def fmtW (w : List Int) : List UInt8 := if w = [] then [101] else fmtD w
theorem fmtW_inj {a b : List Int} (ha : letters 4 a) (hb : letters 4 b) (h : fmtW a = fmtW b) : a = b := by
  have key : ∀ (a b : List Int), letters 4 a → letters 4 b → fmtD a = fmtD b → a = b := by
    intro a
    induction a with
    | nil => intro b _ _ h; cases b with
      | nil => rfl
      | cons y b => simp [fmtD] at h
    | cons x a ih => intro b ha hb h; cases b with
      | nil => simp [fmtD] at h
      | cons y b =>
        simp only [fmtD, List.map_cons, List.cons.injEq] at h
        obtain ⟨hx, ha⟩ := letters_cons.1 ha
        obtain ⟨hy, hb⟩ := letters_cons.1 hb
        have e : x = y := by
          have := congrArg UInt8.toNat h.1
          simp at this
          omega
        rw [e, ih b ha hb h.2]
  have he : ∀ c : List Int, letters 4 c → c ≠ [] → fmtD c ≠ [101] := by
    intro c hc hne h
    cases c with
    | nil => exact hne rfl
    | cons x c =>
      simp only [fmtD, List.map_cons, List.cons.injEq] at h
      obtain ⟨hx, _⟩ := letters_cons.1 hc
      have := congrArg UInt8.toNat h.1
      simp at this
      omega
  unfold fmtW at h
  by_cases h1 : a = []
  · rw [if_pos h1] at h
    by_cases h2 : b = []
    · rw [h1, h2]
    · rw [if_neg h2] at h; exact (he b hb h2 h.symm).elim
  · rw [if_neg h1] at h
    by_cases h2 : b = []
    · rw [if_pos h2] at h; exact (he a ha h1 h).elim
    · rw [if_neg h2] at h; exact key a b ha hb h
theorem c_impl_FormatWord (w : List Int) (hw : letters 4 w) (hl : w.length ≤ 1048576) : FunA B 122 [.sl false .int w] (fun rs o => rs = [.str (fmtW w)] ∧ o = []) := by
  refine FunA.walk B_ok (fn := Tryz.f122) (fun vs w => Tryz.call122 vs w) Tryz.func122 rfl (by rw [Tryz.ntmps122]; simp) (fun C hC hP hT hΓ hbt hfn hpin hfin => ?_); have hX := BX; rw [← hΓ, ← hbt.1, ← hbt.2] at hX; rw [Tryz.ntmps122]; simp only [AW7, simprocAttr, hX]
  refine Run.R ?_
  refine Run.R ?_
  refine Run.nq ?_; refine Run.cW ?_ ?_
  · intro h
    have h : w = [] := by cases w with
      | nil => rfl
      | cons x w => simp at h; omega
    refine Run.R ?_
    refine Run.rW [2] (hfin _ _ rfl rfl ?_)
    exact ⟨by simp [fmtW, h], rfl⟩
  intro h
  have hne : w ≠ [] := by rintro rfl; simp at h
  refine Run.R ?_
  refine Run.R ?_
  refine Run.reK hpin [0, 3, 10, 11, 12] [0] (by decide) (by simp) ?_; simp only [AR, AW7, simprocAttr]
  refine Run.loopI (X := Nat) (fun i => ⟨31, [(0, true, .v (.sl false .int (w))), (3, true, .v (.own 0 0)), (10, true, .v (.sl false .int (w))), (11, true, .v (.int .i64 (w.length))), (12, true, .v (.int .i64 (i)))], [.arr .byte ((w.take i).map fun x => 49 + x) 0 true]⟩) (fun i => i ≤ w.length) (fun i => w.length - i) (0) (Nat.zero_le _) ?_ ?_
  · exact Le.sub (by first | rfl | simp) (by simp only [AW7, simprocAttr, hX]; try simp <;> try (first | rfl | exact ⟨rfl, rfl⟩ | exact ⟨rfl, rfl, rfl⟩))
  rintro i hi ih
  try simp only []
  refine Run.R ?_
  refine Run.nq ?_; refine Run.cW ?_ ?_
  rotate_left
  · intro h
    have h : i = w.length := by rw [decide_eq_false_iff_not] at h; omega
    refine Run.exit rfl ?_; refine Run.nq ?_
    refine Run.R ?_
    refine Run.reK hpin [2] [] (by decide) (by simp) ?_; simp only [AR, AW7, simprocAttr]
    refine Run.rW [2] (hfin _ _ rfl rfl ?_)
    rw [h, List.take_length]
    refine ⟨?_, rfl⟩
    unfold fmtW
    rw [if_neg hne]
    have e : bytesOf (w.map fun x => 49 + x) = fmtD w := by
      unfold bytesOf fmtD
      rw [List.map_map]
      apply List.map_congr_left
      intro x hx
      have := hw x hx
      show UInt8.ofNat (49 + x).toNat = UInt8.ofNat (49 + x.toNat)
      congr 1
      omega
    rw [e]
  intro h
  have h : i < w.length := by rw [decide_eq_true_eq] at h; omega
  have hlt := letters_getD.1 hw i h
  refine Run.R ?_
  refine Run.R ?_
  refine Run.nq ?_; refine Run.cW ?_ ?_
  · intro h2
    exfalso
    rw [decide_eq_false (by omega : ¬ w.getD i 0 < 0), decide_eq_false (by omega : ¬ 4 ≤ w.getD i 0)] at h2
    cases h2
  intro _
  have e1 : IntKind.u8.wrap (49 + w.getD i 0) = 49 + w.getD i 0 := by
    have : 0 ≤ w.getD i 0 ∧ w.getD i 0 < 4 := by omega
    revert this
    generalize w.getD i 0 = z
    intro this
    simp [IntKind.wrap, IntKind.bits, IntKind.signed]; omega
  have hts : (w.take (i + 1)).map (fun x => 49 + x) = (w.take i).map (fun x => 49 + x) ++ [49 + w.getD i 0] := by
    rw [List.take_succ_eq_append_getElem h, List.map_append, getD_eq h]; rfl
  have htl : ((w.take i).map (fun x => 49 + x)).length ≤ i := by simp; omega
  refine Run.RW ?_
  rw [e1]
  refine Run.reK hpin [0, 3, 10, 11, 12] [0] (by decide) (by simp) ?_; simp only [AR, AW7, simprocAttr]
  refine Run.RW ?_
  refine Run.le ?_ (ih (i + 1) (by omega) (by (try simp only [List.length_append, List.length_cons, List.length_nil]); omega))
  exact Le.sub (by first | rfl | (simp only [hts]; done) | (rw [hts]; rfl)) (by simp only [AW7, simprocAttr]; try simp)
end Go.Proofs.YtojcdgdbffmlpaaGreat
namespace Go.Proofs.YtojcdgdbffmlpaaGreat
open Go Go.Aw Go.Cox
def Seen (n : Nat) (ys : List (Nat × List Int)) (l : List (MK × MV)) : Prop :=
  (lb1 ys).Nodup ∧ (rw2 ys).Nodup ∧ (∀ z ∈ rw2 ys, letters n z) ∧ ∀ z, letters n z → (mgetB l (.str (fmtW z)) = true ↔ z ∈ rw2 ys)
theorem Seen.start {n : Nat} (hn : n ≤ 4) {x : List Int} (hx : letters n x) (q : Nat) : Seen n [(q, x)] (mput [] (.str (fmtW x)) (.bool true)) := by
  have up : ∀ z, letters n z → letters 4 z := fun z hz i hi => by have := hz i hi; omega
  refine ⟨by simp [lb1], by simp [rw2], fun z hz => by simp [rw2] at hz; rw [hz]; exact hx, fun z hz => ?_⟩
  rw [mgetB_put]
  by_cases h : z = x
  · rw [h, if_pos rfl]; simp [rw2]
  · rw [if_neg (fun e => h (fmtW_inj (up z hz) (up x hx) (MK.str.inj e))), mgetB_nil]; simp [rw2, h]
theorem Seen.add {n : Nat} (hn : n ≤ 4) {ys : List (Nat × List Int)} {l : List (MK × MV)} (h : Seen n ys l) {x : List Int} (hx : letters n x) {q : Nat} (hq : ∀ p ∈ ys, p.1 ≠ q) (hnew : mgetB l (.str (fmtW x)) = false) : Seen n (ys ++ [(q, x)]) (mput l (.str (fmtW x)) (.bool true)) := by
  have up : ∀ z, letters n z → letters 4 z := fun z hz i hi => by have := hz i hi; omega
  obtain ⟨h1, h2, h3, h4⟩ := h
  have hnot : x ∉ rw2 ys := fun hm => by rw [(h4 x hx).2 hm] at hnew; cases hnew
  refine ⟨?_, ?_, fun z hz => ?_, fun z hz => ?_⟩
  · rw [lb1_app, List.nodup_append]
    refine ⟨h1, by simp [lb1], fun a ha b hb => ?_⟩
    simp [lb1] at hb
    obtain ⟨p, hp, rfl⟩ := List.mem_map.1 ha
    rw [hb]; exact hq p hp
  · rw [rw2_app, List.nodup_append]
    refine ⟨h2, by simp [rw2], fun a ha b hb => ?_⟩
    simp [rw2] at hb
    rw [hb]; intro e; exact hnot (e ▸ ha)
  · rw [rw2_app] at hz
    rcases List.mem_append.1 hz with hz | hz
    · exact h3 z hz
    · simp [rw2] at hz; rw [hz]; exact hx
  · rw [mgetB_put, rw2_app, List.mem_append]
    by_cases e : z = x
    · rw [e, if_pos rfl]; simp [rw2]
    · rw [if_neg (fun e2 => e (fmtW_inj (up z hz) (up x hx) (MK.str.inj e2))), h4 z hz]; simp [rw2, e]
def Done (c : List (List Int)) (ys : List (Nat × List Int)) (k i : Nat) : Prop := ∀ j, j < ys.length → ∀ a, a < c.length → (j < k ∨ (j = k ∧ a < i)) → (redL c ((ys.getD j (0, [])).2 ++ [(a : Int)])).length < (ys.getD j (0, [])).2.length → redL c ((ys.getD j (0, [])).2 ++ [(a : Int)]) ∈ rw2 ys
theorem getD_app {ys : List (Nat × List Int)} {j : Nat} (h : j < ys.length) (t : List (Nat × List Int)) : (ys ++ t).getD j (0, []) = ys.getD j (0, []) := by
  simp only [List.getD]; rw [List.getElem?_append_left h]
theorem mem_rw2 {ys : List (Nat × List Int)} {j : Nat} (h : j < ys.length) : (ys.getD j (0, [])).2 ∈ rw2 ys := by
  rw [getD_eq h]; exact List.mem_map.2 ⟨_, List.getElem_mem h, rfl⟩
theorem mem_rw2_iff {ys : List (Nat × List Int)} {z : List Int} : z ∈ rw2 ys ↔ ∃ j, j < ys.length ∧ (ys.getD j (0, [])).2 = z := by
  constructor
  · intro h
    obtain ⟨p, hp, rfl⟩ := List.mem_map.1 h
    obtain ⟨j, hj, rfl⟩ := List.getElem_of_mem hp
    exact ⟨j, hj, by rw [getD_eq hj]⟩
  · rintro ⟨j, hj, rfl⟩; exact mem_rw2 hj
set_option maxHeartbeats 4000000 in
theorem c_impl_prefixes (c : List (List Int)) (w : List Int) (hc : CartanP c) (hw : letters c.length w) (hl : w.length ≤ 31) (hr : (redL c w).length ≤ 30) :
    FunA B 140 [.sl false (.row false) c, .sl false .int w] (fun rs o => ∃ ys g nn rest, (rw2 ys = fewL (Pre c (redL c w)) ∧ nn = true ∧ rest = [.bool (fewB (Pre c (redL c w)))]) ∧ (lb1 ys).Nodup ∧ rest.all flatAV = true ∧ rs = .own 0 g :: rest ∧ o = [.arr .lrow ys g nn]) := by
  have hn := hc.2.1
  have up : ∀ z, letters c.length z → letters 4 z := fun z hz i hi => by have := hz i hi; omega
  have hx : Nf c (redL c w) := nf_red hc hw hl hr
  refine FunA.walk B_ok (fn := Tryz.f140) (fun vs w => Tryz.call140 vs w) Tryz.func140 rfl (by rw [Tryz.ntmps140]; simp) (fun C hC hP hT hΓ hbt hfn hpin hfin => ?_); have hX := BX; rw [← hΓ, ← hbt.1, ← hbt.2] at hX; rw [Tryz.ntmps140]; simp only [AW7, simprocAttr, hX]
  refine Run.R ?_
  refine Run.nq ?_; refine Run.regionW hC (fun K hK => ?_); refine wW ?_
  refine FunA.cW hP hT (c_impl_reduced c w hc hw hl) ?_
  rintro rs o ⟨rfl, rfl⟩
  refine wW ?_
  intro q hq
  refine wW ?_
  refine wE ?_; clear hK K
  generalize hgx : redL c w = x at *
  have hg0 : [(q, x)].getD 0 (0, []) = (q, x) := rfl
  refine Run.nq ?_; refine Run.regionW hC (fun K hK => ?_); refine wW ?_
  simp only [hg0]
  refine FunA.cW hP hT (c_impl_FormatWord x (up x hx.1) (by have := hx.2.2; omega)) ?_
  rintro rs o ⟨rfl, rfl⟩
  refine wW ?_
  refine wE ?_; clear hK K
  refine Run.R ?_
  refine Run.reK hpin [0, 6, 7, 8] [1, 2] (by decide) (by simp) ?_; simp only [AR, AW7, simprocAttr]
  have hD0 : Done c [(q, x)] 0 0 := fun j _ a _ h => by omega
  refine Run.loopI (X := List (Nat × List Int) × List (MK × MV) × Nat) (fun s => ⟨73, [(0, true, .v (.sl false (.row false) (c))), (6, true, .v (.own 0 0)), (7, true, .v (.own 1 0)), (8, true, .v (.int .i64 (s.2.2)))], [.arr .lrow (s.1) 0 true, .mp ⟨false, false⟩ s.2.1 0]⟩) (fun s => (s.2.2 ≤ s.1.length ∧ s.1.length ≤ 200) ∧ Seen c.length s.1 s.2.1 ∧ (∀ z ∈ rw2 s.1, Pre c x z) ∧ x ∈ rw2 s.1 ∧ Done c s.1 s.2.2 0) (fun s => 201 - s.2.2) (([(q, x)], mput [] (.str (fmtW x)) (.bool true), 0)) (⟨⟨by simp, by simp⟩, Seen.start hn hx.1 q, fun z hz => by simp [rw2] at hz; rw [hz]; exact Pre.refl hx, by simp [rw2], hD0⟩) ?_ ?_
  · exact Le.sub (by first | rfl | simp) (by simp only [AW7, simprocAttr, hX]; try simp <;> try (first | rfl | exact ⟨rfl, rfl⟩ | exact ⟨rfl, rfl, rfl⟩))
  rintro ⟨ys, l, k⟩ ⟨⟨hk, hyl⟩, hS, hPr, hxm, hD⟩ ihO
  try simp only []
  simp only [] at hk hyl hS hPr hxm hD
  clear hD0 hg0 hq
  refine Run.R ?_
  refine Run.nq ?_; refine Run.cW ?_ ?_
  rotate_left
  · intro h
    have hke : k = ys.length := by rw [decide_eq_false_iff_not] at h; omega
    have hcomp : ∀ z, z ∈ rw2 ys ↔ Pre c x z := Pre.mem_down hc hx hPr hxm (fun y hy i hi hlt => by
      obtain ⟨j, hj, rfl⟩ := mem_rw2_iff.1 hy
      exact hD j hj i hi (.inl (by omega)) hlt)
    have hrl : (rw2 ys).length ≤ 200 := by simpa [rw2] using hyl
    obtain ⟨e1, e2⟩ := few_on hS.2.1 hcomp hrl
    have hlen : ∀ a, (a = [] ∨ a ∈ ys.map (·.2)) → a.length ≤ 1048576 := fun a ha => by
      rcases ha with rfl | ha
      · simp
      · have := ((hPr a ha).nf hx).2.2; omega
    refine Run.exit rfl ?_; refine Run.nq ?_
    refine Run.nq ?_; refine Run.regionW hC (fun K hK => ?_); refine wW ?_
    refine ACall.sort hP hT srtL rfl cmpW_swo 0 0 rfl (by omega) (fun a b ha _ => c_impl_CompareWords a b (hlen a ha)) ?_
    intro ys' hp hs
    refine wW ?_
    refine wE ?_; clear hK K
    refine Run.R ?_
    refine Run.reK hpin [4, 5] [0] (by decide) (by simp) ?_; simp only [AR, AW7, simprocAttr]
    refine Run.rW [4, 5] (hfin _ _ rfl rfl ?_)
    refine ⟨ys', 0, true, [.bool true], ⟨?_, rfl, by rw [e1]⟩, ?_, rfl, rfl, rfl⟩
    · rw [e2]; exact sorted_srt hS.2.1 (hp.map _) (List.pairwise_map.2 hs)
    · exact (hp.map _).nodup_iff.2 hS.1
  intro h
  have h : k < ys.length := by rw [decide_eq_true_eq] at h; omega
  refine Run.R ?_
  refine Run.reK hpin [0, 6, 7, 8, 29, 30] [0, 1] (by decide) (by simp) ?_; simp only [AR, AW7, simprocAttr]
  refine Run.loopI (X := List (Nat × List Int) × List (MK × MV) × Nat) (fun s => ⟨73, [(0, true, .v (.sl false (.row false) (c))), (6, true, .v (.own 0 0)), (7, true, .v (.own 1 0)), (8, true, .v (.int .i64 (k))), (29, true, .v (.int .i64 (c.length))), (30, true, .v (.int .i64 (s.2.2)))], [.arr .lrow (s.1) 0 true, .mp ⟨false, false⟩ s.2.1 0]⟩) (fun s => (k < s.1.length ∧ s.1.length ≤ 200 + s.2.2 ∧ s.2.2 ≤ c.length) ∧ Seen c.length s.1 s.2.1 ∧ (∀ z ∈ rw2 s.1, Pre c x z) ∧ x ∈ rw2 s.1 ∧ Done c s.1 k s.2.2) (fun s => c.length - s.2.2) ((ys, l, 0)) (⟨⟨h, by simp only []; omega, Nat.zero_le _⟩, hS, hPr, hxm, hD⟩) ?_ ?_
  · exact Le.sub (by first | rfl | simp) (by simp only [AW7, simprocAttr, hX]; try simp <;> try (first | rfl | exact ⟨rfl, rfl⟩ | exact ⟨rfl, rfl, rfl⟩))
  rintro ⟨ys2, l2, i⟩ ⟨⟨hk2, hyl2, hi⟩, hS2, hPr2, hxm2, hD2⟩ ih
  try simp only []
  simp only [] at hk2 hyl2 hi hS2 hPr2 hxm2 hD2
  clear hS hPr hxm hD
  refine Run.R ?_
  refine Run.nq ?_; refine Run.cW ?_ ?_
  rotate_left
  · intro h3
    have hie : i = c.length := by rw [decide_eq_false_iff_not] at h3; omega
    refine Run.exit rfl ?_; refine Run.nq ?_
    refine Run.R ?_
    refine Run.nq ?_; refine Run.cW ?_ ?_
    · intro h4
      have h4 : 200 < (rw2 ys2).length := by rw [decide_eq_true_eq] at h4; simp [rw2]; omega
      obtain ⟨e1, e2⟩ := few_off hS2.2.1 hPr2 h4
      refine Run.R ?_
      refine Run.reK hpin [4, 5] [2] (by decide) (by simp) ?_; simp only [AR, AW7, simprocAttr]
      refine Run.rW [4, 5] (hfin _ _ rfl rfl ?_)
      exact ⟨[], 0, true, [.bool false], ⟨by rw [e2]; rfl, rfl, by rw [e1]⟩, by simp [lb1], rfl, rfl, rfl⟩
    intro h4
    have h4 : ys2.length ≤ 200 := by rw [decide_eq_false_iff_not] at h4; omega
    have hD3 : Done c ys2 (k + 1) 0 := fun j hj a ha hja => hD2 j hj a ha (by omega)
    refine Run.reK hpin [0, 6, 7, 8] [0, 1] (by decide) (by simp) ?_; simp only [AR, AW7, simprocAttr]
    refine Run.RW ?_
    refine Run.le ?_ (ihO ((ys2, l2, k + 1)) (⟨⟨hk2, h4⟩, hS2, hPr2, hxm2, hD3⟩) (by (try simp only [List.length_append, List.length_cons, List.length_nil]); omega))
    exact Le.sub (by rfl) (by simp only [AW7, simprocAttr]; try simp)
  intro h3
  have h3 : i < c.length := by rw [decide_eq_true_eq] at h3; omega
  have hy := hPr2 _ (mem_rw2 hk2)
  have hny := hy.nf hx
  generalize hgy : (ys2.getD k (0, [])).2 = y at *
  have hlet : letters c.length (y ++ [(i : Int)]) := letters_append.2 ⟨hny.1, letter1 h3⟩
  have hyb := hny.2.2
  obtain ⟨a1, a2, a3, a4, a5⟩ := red_spec hc hlet (by simp; omega)
  refine Run.R ?_
  refine Run.nq ?_; refine Run.regionW hC (fun K hK => ?_); refine wW ?_
  simp only [hgy]
  refine FunA.cW hP hT (c_slices_Clone y (by omega)) ?_
  rintro rs o ⟨nn2, rfl, rfl⟩
  refine wW ?_
  refine FunA.cW hP hT (c_impl_reduced c (y ++ [(i : Int)]) hc hlet (by simp; omega)) ?_
  rintro rs o ⟨rfl, rfl⟩
  refine wW ?_
  refine wE ?_; clear hK K
  generalize hgd : redL c (y ++ [(i : Int)]) = d at *
  have hdl : d.length ≤ 31 := by simp at a2; omega
  refine Run.nq ?_; refine Run.regionW hC (fun K hK => ?_); refine wW ?_
  refine FunA.cW hP hT (c_impl_FormatWord d (up d a1) (by omega)) ?_
  rintro rs o ⟨rfl, rfl⟩
  refine wW ?_
  refine wE ?_; clear hK K
  refine Run.nq ?_; refine Run.regionW hC (fun K hK => ?_); refine wW ?_
  simp only [hgy]
  (repeat (with_reducible refine And.intro ?_ ?_); exact vc0)
  refine wE ?_; clear hK K
  have hstep : ∀ (zs : List (Nat × List Int)), (∀ j, j < ys2.length → zs.getD j (0, []) = ys2.getD j (0, [])) → (∀ z ∈ rw2 ys2, z ∈ rw2 zs) → (d.length < y.length → d ∈ rw2 zs) → (∀ j, j < zs.length → j ≤ k → j < ys2.length) → Done c zs k (i + 1) := by
    intro zs z1 z2 z3 z4 j hj a ha hja
    have hj2 := z4 j hj (by omega)
    rw [z1 j hj2]
    by_cases hai : j = k ∧ a = i
    · obtain ⟨rfl, rfl⟩ := hai
      rw [hgy, hgd]
      exact z3
    · intro hlt
      exact z2 _ (hD2 j hj2 a ha (by omega) hlt)
  refine Run.nq ?_; refine Run.cW ?_ ?_
  · intro h4
    have h4 : d.length < y.length ∧ mgetB l2 (.str (fmtW d)) = false := by
      by_cases k1 : d.length < y.length
      · rw [decide_eq_true (by omega : (d.length : Int) < y.length)] at h4
        have h4 : (!mgetB l2 (.str (fmtW d))) = true := h4
        exact ⟨k1, by simpa using h4⟩
      · rw [decide_eq_false (by omega : ¬ (d.length : Int) < y.length)] at h4; cases h4
    have hpd : Pre c x d := by
      have := hy.down hc hx h3 (by rw [hgd]; exact h4.1)
      rwa [hgd] at this
    refine Run.R ?_
    refine Run.nq ?_; refine Run.regionW hC (fun K hK => ?_); refine wW ?_
    intro q2 hq2
    (repeat (with_reducible refine And.intro ?_ ?_); exact vc0)
    refine wE ?_; clear hK K
    have hS3 := hS2.add hn (x := d) a1 (q := q2) (hq2 (.arr .lrow ys2 0 true) (.head _) _ _ _ rfl) h4.2
    have hP3 : ∀ z ∈ rw2 (ys2 ++ [(q2, d)]), Pre c x z := fun z hz => by
      rw [rw2_app] at hz
      rcases List.mem_append.1 hz with hz | hz
      · exact hPr2 z hz
      · simp [rw2] at hz; rw [hz]; exact hpd
    have hD3 := hstep (ys2 ++ [(q2, d)]) (fun j hj => getD_app hj _) (fun z hz => by rw [rw2_app]; exact List.mem_append_left _ hz) (fun _ => by rw [rw2_app]; exact List.mem_append_right _ (by simp [rw2])) (fun j hj hjk => by omega)
    refine Run.reK hpin [0, 6, 7, 8, 29, 30] [0, 1] (by decide) (by simp) ?_; simp only [AR, AW7, simprocAttr]
    refine Run.RW ?_
    refine Run.le ?_ (ih ((ys2 ++ [(q2, d)], mput l2 (.str (fmtW d)) (.bool true), i + 1)) (⟨⟨by simp; omega, by simp; omega, h3⟩, hS3, hP3, by rw [rw2_app]; exact List.mem_append_left _ hxm2, hD3⟩) (by (try simp only [List.length_append, List.length_cons, List.length_nil]); omega))
    exact Le.sub (by rfl) (by simp only [AW7, simprocAttr]; try simp)
  intro h4
  have hD3 := hstep ys2 (fun _ _ => rfl) (fun _ hz => hz) (fun hlt => by
    rw [decide_eq_true (by omega : (d.length : Int) < y.length)] at h4
    have h4 : (!mgetB l2 (.str (fmtW d))) = false := h4
    exact (hS2.2.2.2 d a1).1 (by simpa using h4)) (fun j hj _ => hj)
  refine Run.reK hpin [0, 6, 7, 8, 29, 30] [0, 1] (by decide) (by simp) ?_; simp only [AR, AW7, simprocAttr]
  refine Run.RW ?_
  refine Run.le ?_ (ih ((ys2, l2, i + 1)) (⟨⟨hk2, by simp only []; omega, h3⟩, hS2, hPr2, hxm2, hD3⟩) (by (try simp only [List.length_append, List.length_cons, List.length_nil]); omega))
  exact Le.sub (by rfl) (by simp only [AW7, simprocAttr]; try simp)
noncomputable def preB (c : List (List Int)) (w : List Int) : Bool := wordB c w && fewB (Pre c (redL c w))
noncomputable def preX (c : List (List Int)) (w : List Int) : List (List Int) := if wordB c w then fewL (Pre c (redL c w)) else []
theorem preX_len (c : List (List Int)) (w : List Int) : (preX c w).length ≤ 200 := by
  unfold preX
  split
  · exact fewL_len _
  · simp
theorem word_nf {c : List (List Int)} {w : List Int} (h : wordB c w = true) : Nf c (redL c w) ∧ (redL c w).length ≤ 15 := by
  obtain ⟨hc, h2, h3⟩ := wordB_iff.1 h
  have := (red_spec hc h3 (by omega)).2.1
  exact ⟨nf_red hc h3 (by omega) (by omega), by omega⟩
theorem preX_pre {c : List (List Int)} {w z : List Int} (h : z ∈ preX c w) : wordB c w = true ∧ Pre c (redL c w) z := by
  unfold preX at h
  cases hw : wordB c w with
  | false => rw [hw] at h; simp at h
  | true => rw [hw, if_pos rfl] at h; exact ⟨rfl, fewL_mem h⟩
theorem preX_rows (c : List (List Int)) (w : List Int) : ∀ r ∈ preX c w, r.length ≤ 15 := by
  intro r hr
  obtain ⟨hw, _, _, v, _, _, h5⟩ := preX_pre hr
  have := (word_nf hw).2
  omega
theorem c_impl_PrefixesOfR (c : List (List Int)) (w : List Int) (hcl : c.length ≤ 1048576) :
    FunA B 45 [.sl false (.row false) c, .sl false .int w] (fun rs o => ∃ ys g nn rest, (rw2 ys = preX c w ∧ nn = true ∧ rest = [.bool (preB c w)]) ∧ (lb1 ys).Nodup ∧ rest.all flatAV = true ∧ rs = .own 0 g :: rest ∧ o = [.arr .lrow ys g nn]) := by
  refine FunA.walk B_ok (fn := Tryz.f45) (fun vs w => Tryz.call45 vs w) Tryz.func45 rfl (by rw [Tryz.ntmps45]; simp) (fun C hC hP hT hΓ hbt hfn hpin hfin => ?_); have hX := BX; rw [← hΓ, ← hbt.1, ← hbt.2] at hX; rw [Tryz.ntmps45]; simp only [AW7, simprocAttr, hX]
  refine Run.R ?_
  refine Run.nq ?_; refine Run.regionW hC (fun K hK => ?_); refine wW ?_
  refine FunA.cW hP hT (c_impl_IsWord c w) ?_
  rintro rs o ⟨rfl, rfl⟩
  refine wW ?_
  refine wE ?_; clear hK K
  refine Run.nq ?_; refine Run.cW ?_ ?_
  · intro h
    have h : wordB c w = false := by simpa using h
    refine Run.R ?_
    refine Run.reK hpin [4, 5] [0] (by decide) (by simp) ?_; simp only [AR, AW7, simprocAttr]
    refine Run.rW [4, 5] (hfin _ _ rfl rfl ?_)
    exact ⟨[], 0, true, [.bool false], ⟨by unfold preX; rw [h]; rfl, rfl, by unfold preB; rw [h]; rfl⟩, by simp [lb1], rfl, rfl, rfl⟩
  intro h
  have h : wordB c w = true := by simpa using h
  obtain ⟨hc, h2, h3⟩ := wordB_iff.1 h
  refine Run.nq ?_; refine Run.regionW hC (fun K hK => ?_); refine wW ?_
  refine FunA.cW hP hT (c_impl_prefixes c w hc h3 (by omega) (by have := (word_nf h).2; omega)) ?_
  rintro rs o ⟨ys, g, nn, rest, ⟨e1, rfl, rfl⟩, hnd, hfl, rfl, rfl⟩
  refine wW ?_
  refine wE ?_; clear hK K
  refine Run.reK hpin [4, 5] [0] (by decide) (by simp) ?_; simp only [AR, AW7, simprocAttr]
  refine Run.rW [4, 5] (hfin _ _ rfl rfl ?_)
  exact ⟨ys, 0, true, [.bool (preB c w)], ⟨by rw [e1]; unfold preX; rw [h]; rfl, rfl, rfl⟩, hnd, rfl, by unfold preB; rw [h]; rfl, rfl⟩
theorem c_impl_PrefixesOf (c : List (List Int)) (w : List Int) (hcl : c.length ≤ 1048576) :
    FunA B 45 [.sl false (.row false) c, .sl false .int w] (fun rs o => rs = [.own 0 0, .bool (preB c w)] ∧ ∃ hs, hs.length = (preX c w).length ∧ o = [.mat hs (preX c w) 0 true]) :=
  (FunA.mat (by rfl) (post := fun rows nn rest => rows = preX c w ∧ nn = true ∧ rest = [.bool (preB c w)]) (c_impl_PrefixesOfR c w hcl)).mono fun rs o ⟨hs, rows, nn, rest, ⟨h1, h2, h3⟩, h4, h5, h6⟩ => by subst h1 h2 h3; exact ⟨h5, hs, h4, h6⟩
end Go.Proofs.YtojcdgdbffmlpaaGreat
namespace Go.Aw
open Go
end Go.Aw
namespace Go.Proofs.YtojcdgdbffmlpaaGreat
open Go Go.Aw Go.Cox
theorem Low.take {c : List (List Int)} {x z : List Int} {k : Nat} (h : Low c (x.take k) z) : Low c x z := ⟨h.1, h.2.mono (List.take_sublist k x)⟩
end Go.Proofs.YtojcdgdbffmlpaaGreat
namespace Go.Proofs.YtojcdgdbffmlpaaGreat
open Go Go.Aw
theorem c_spec_l7In (rows : List (List Int)) (w : List Int) (hl : rows.length ≤ 1048576) (hr : ∀ r ∈ rows, r.length ≤ 1048576) :
    FunA B 125 [.sl false (.row false) rows, .sl false .int w] (fun rs o => rs = [.bool (decide (w ∈ rows))] ∧ o = []) := by
  refine FunA.walk B_ok (fn := Tryz.f125) (fun vs w => Tryz.call125 vs w) Tryz.func125 rfl (by rw [Tryz.ntmps125]; simp) (fun C hC hP hT hΓ hbt hfn hpin hfin => ?_); have hX := BX; rw [← hΓ, ← hbt.1, ← hbt.2] at hX; rw [Tryz.ntmps125]; simp only [AW7, simprocAttr, hX]
  refine Run.R ?_
  refine Run.R ?_
  refine Run.loopI (X := Nat) (fun i => ⟨18, [(0, true, .v (.sl false (.row false) (rows))), (1, true, .v (.sl false .int (w))), (5, true, .v (.int .i64 (i)))], []⟩) (fun i => i ≤ rows.length ∧ ∀ j, j < i → rows.getD j [] ≠ w) (fun i => rows.length - i) (0) (⟨Nat.zero_le _, fun j h => by omega⟩) ?_ ?_
  · exact Le.sub (by first | rfl | simp) (by simp only [AW7, simprocAttr, hX]; try simp <;> try (first | rfl | exact ⟨rfl, rfl⟩ | exact ⟨rfl, rfl, rfl⟩))
  rintro i ⟨hi, hne⟩ ih
  try simp only []
  refine Run.R ?_
  refine Run.nq ?_; refine Run.cW ?_ ?_
  rotate_left
  · intro h
    have h : i = rows.length := by rw [decide_eq_false_iff_not] at h; omega
    refine Run.exit rfl ?_; refine Run.nq ?_
    refine Run.R ?_
    refine Run.rW [4] (hfin _ _ rfl rfl ?_)
    have hm : ¬ w ∈ rows := fun hm => by
      obtain ⟨j, hj, e⟩ := List.getElem_of_mem hm
      exact hne j (by omega) (by rw [getD_eq hj]; exact e)
    exact ⟨by simp [hm], rfl⟩
  intro h
  have h : i < rows.length := by rw [decide_eq_true_eq] at h; omega
  have hri : (rows.getD i []).length ≤ 1048576 := hr _ (by rw [getD_eq h]; exact List.getElem_mem h)
  refine Run.nq ?_; refine Run.regionW hC (fun K hK => ?_); refine wW ?_
  refine FunA.cW hP hT (c_spec_EqualWords (rows.getD i []) w (by omega)) ?_
  rintro rs o ⟨rfl, rfl⟩
  refine wW ?_
  refine wE ?_; clear hK K
  refine Run.nq ?_; refine Run.cW ?_ ?_
  · intro h2
    have h2 : rows.getD i [] = w := by simpa using h2
    refine Run.R ?_
    refine Run.rW [4] (hfin _ _ rfl rfl ?_)
    have hm : w ∈ rows := by rw [← h2, getD_eq h]; exact List.getElem_mem h
    exact ⟨by simp [hm], rfl⟩
  intro h2
  have h2 : rows.getD i [] ≠ w := by intro e; rw [e] at h2; simp at h2
  have hne2 : ∀ j, j < i + 1 → rows.getD j [] ≠ w := fun j hj => by
    by_cases e : j = i
    · rw [e]; exact h2
    · exact hne j (by omega)
  refine Run.RW ?_
  refine Run.le ?_ (ih (i + 1) (⟨by omega, hne2⟩) (by (try simp only [List.length_append, List.length_cons, List.length_nil]); omega))
  exact Le.sub (by rfl) (by simp only [AW7, simprocAttr]; try simp)
end Go.Proofs.YtojcdgdbffmlpaaGreat
