/- A word looked for in a list. -/
import Derived.Test.YtaghdbbcadhjdaaGreatDoorB8
import Derived.Test.YtaghdbbcadhjdaaGreatDoorB18
import Derived.Test.YtaghdbbcadhjdaaGreatDoorB11
import Derived.Test.YtaghdbbcadhjdaaGreatDoorB13
import Derived.Test.YtaghdbbcadhjdaaGreatDoorB14
import Derived.Test.YtaghdbbcadhjdaaGreatDoorB7
set_option linter.unusedVariables false
set_option linter.unusedSimpArgs false
namespace Go.Proofs.YtaghdbbcadhjdaaGreatDoor
open Go Go.Aw
theorem c_spec_l7In (rows : List (List Int)) (w : List Int) (hl : rows.length ≤ 1048576) (hr : ∀ r ∈ rows, r.length ≤ 1048576) :
    FunA B 94 [.sl false (.row false) rows, .sl false .int w] (fun rs o => rs = [.bool (decide (w ∈ rows))] ∧ o = []) := by
  refine FunA.walk B_ok (fn := Tryz.f94) (fun vs w => Tryz.call94 vs w) Tryz.func94 rfl (by rw [Tryz.ntmps94]; simp) (fun C hC hP hT hΓ hbt hfn hpin hfin => ?_); have hX := BX; rw [← hΓ, ← hbt.1, ← hbt.2.1, ← hbt.2.2.1] at hX; rw [Tryz.ntmps94]; simp only [AW7, simprocAttr, hX]
  refine Run.R ?_
  refine Run.R ?_
  refine Run.loopI (X := Nat) (fun i => ⟨18, [(0, true, .v (.sl false (.row false) (rows))), (1, true, .v (.sl false .int (w))), (5, true, .v (.int .i64 (i)))], []⟩) (fun i => i ≤ rows.length ∧ ∀ j, j < i → rows.getD j [] ≠ w) (fun i => rows.length - i) (0) (⟨Nat.zero_le _, fun j h => by omega⟩) ?_ ?_
  · exact Le.sub (by first | rfl | simp) (by simp only [AW7, simprocAttr, hX]; try simp <;> try (first | rfl | exact ⟨rfl, rfl⟩ | exact ⟨rfl, rfl, rfl⟩))
  rintro i ⟨hi, hne⟩ ih
  try simp only []
  refine Run.R ?_
  refine Run.nq ?_; refine Run.cW ?_ ?_
  rotate_left
  · intro h
    have h : i = rows.length := by rw [decide_eq_false_iff_not] at h; omega
    refine Run.exit rfl ?_; refine Run.nq ?_
    refine Run.R ?_
    refine Run.rW [4] (hfin _ _ rfl rfl ?_)
    have hm : ¬ w ∈ rows := fun hm => by
      obtain ⟨j, hj, e⟩ := List.getElem_of_mem hm
      exact hne j (by omega) (by rw [getD_eq hj]; exact e)
    exact ⟨by simp [hm], rfl⟩
  intro h
  have h : i < rows.length := by rw [decide_eq_true_eq] at h; omega
  have hri : (rows.getD i []).length ≤ 1048576 := hr _ (by rw [getD_eq h]; exact List.getElem_mem h)
  refine Run.nq ?_; refine Run.regionW hC (fun K hK => ?_); refine wW ?_
  refine FunA.cW hP hT (c_spec_EqualWords (rows.getD i []) w (by omega)) ?_
  rintro rs o ⟨rfl, rfl⟩
  refine wW ?_
  refine wE ?_; clear hK K
  refine Run.nq ?_; refine Run.cW ?_ ?_
  · intro h2
    have h2 : rows.getD i [] = w := by simpa using h2
    refine Run.R ?_
    refine Run.rW [4] (hfin _ _ rfl rfl ?_)
    have hm : w ∈ rows := by rw [← h2, getD_eq h]; exact List.getElem_mem h
    exact ⟨by simp [hm], rfl⟩
  intro h2
  have h2 : rows.getD i [] ≠ w := by intro e; rw [e] at h2; simp at h2
  have hne2 : ∀ j, j < i + 1 → rows.getD j [] ≠ w := fun j hj => by
    by_cases e : j = i
    · rw [e]; exact h2
    · exact hne j (by omega)
  refine Run.RW ?_
  refine Run.le ?_ (ih (i + 1) (⟨by omega, hne2⟩) (by (try simp only [List.length_append, List.length_cons, List.length_nil]); omega))
  exact Le.sub (by rfl) (by simp only [AW7, simprocAttr]; try simp)
end Go.Proofs.YtaghdbbcadhjdaaGreatDoor
namespace Go.Proofs.YtaghdbbcadhjdaaGreatDoor
open Go Go.Aw Go.Cox
theorem rwg (ys : List (Nat × List Int)) (k : Nat) : (ys.getD k (0, [])).2 = (rw2 ys).getD k [] := by
  unfold rw2
  simp only [List.getD, List.getElem?_map]
  cases ys[k]? <;> rfl
theorem rwl (ys : List (Nat × List Int)) : (rw2 ys).length = ys.length := by simp [rw2]
theorem putS_len (w : List Int) : ∀ (b : Bool) (l : List (List Int)), (putS w b l).length ≤ l.length + 1
  | b, [] => by cases b <;> simp [putS]
  | b, x :: l => by
    simp only [putS]
    split
    · rw [putS_true]; simp
    · have := putS_len w (b || cmpW w x == 0) l; simp; omega
theorem putS_keep (w : List Int) : ∀ (l : List (List Int)) (k : Nat), (∀ j, j ≤ k → j < l.length ∧ 0 < cmpW w (l.getD j [])) → ∀ j, j ≤ k → j < (putS w false l).length ∧ (putS w false l).getD j [] = l.getD j []
  | [], k, h, j, hj => by have := (h 0 (Nat.zero_le _)).1; simp at this
  | x :: l, k, h, j, hj => by
    have h0 : 0 < cmpW w x := (h 0 (Nat.zero_le _)).2
    simp only [putS]
    rw [if_neg (by omega), show (false || cmpW w x == 0) = false by simp; omega]
    cases j with
    | zero => exact ⟨by simp, rfl⟩
    | succ j =>
      cases k with
      | zero => omega
      | succ k =>
        have ih := putS_keep w l k (fun j hj => by
          have := h (j + 1) (by omega)
          exact ⟨by simpa using this.1, by simpa using this.2⟩) j (by omega)
        exact ⟨by simp; omega, by simpa using ih.2⟩
theorem cmp_long {a b : List Int} (h : a.length < b.length) : 0 < cmpW b a := by
  unfold cmpW
  rw [if_neg (by omega), if_pos (by omega)]; omega
theorem putS_keepk {w : List Int} {l : List (List Int)} (hs : StrictW l) {k : Nat} (hk : k < l.length) (hlt : (l.getD k []).length < w.length) : ∀ j, j ≤ k → j < (putS w false l).length ∧ (putS w false l).getD j [] = l.getD j [] :=
  putS_keep w l k fun j hj => by
    refine ⟨by omega, ?_⟩
    by_cases e : j = k
    · rw [e]; exact cmp_long hlt
    · have h1 := List.pairwise_iff_getElem.1 hs j k (by omega) hk (by omega)
      have h2 : cmpW (l.getD k []) w < 0 := by have := cmpW_neg w (l.getD k []); have := cmp_long hlt; omega
      rw [getD_eq hk] at h2
      have h3 := cmpW_lt_trans h1 h2
      rw [getD_eq (by omega : j < l.length)]
      have := cmpW_neg w l[j]
      omega
end Go.Proofs.YtaghdbbcadhjdaaGreatDoor
namespace Go.Proofs.YtaghdbbcadhjdaaGreatDoor
open Go Go.Aw Go.Cox
theorem red_app {c : List (List Int)} (hc : CartanP c) {u : List Int} (hu : letters c.length u) (hl : u.length ≤ 31) (b : List Int) : redL c (redL c u ++ b) = redL c (u ++ b) := by
  obtain ⟨a1, _, _, a4, _⟩ := red_spec hc hu hl
  refine red_eq ?_
  rw [image_append, image_append]
  exact same_elt hc a1 hu a4 (imageL_length c _)
theorem nf_up {c : List (List Int)} (hc : CartanP c) {L : List (List Int)} (h0 : [] ∈ L) (hD : ∀ y ∈ L, ∀ i, i < c.length → y.length < (redL c (y ++ [(i : Int)])).length → redL c (y ++ [(i : Int)]) ∈ L) : ∀ (n : Nat) (w : List Int), Nf c w → w.length = n → w ∈ L := by
  intro n
  induction n using Nat.strongRecOn with
  | ind n ih =>
    intro w hw hl
    rcases List.eq_nil_or_concat w with rfl | ⟨u, i, rfl⟩
    · exact h0
    rw [List.concat_eq_append] at hw hl ⊢
    obtain ⟨l1, l2⟩ := letters_append.1 hw.1
    obtain ⟨l3, _⟩ := letters_cons.1 l2
    have hul : u.length + 1 = n := by simpa using hl
    have hu30 : u.length ≤ 30 := by have := hw.2.2; simp at this; omega
    obtain ⟨a1, a2, _, _, _⟩ := red_spec hc l1 (by omega)
    have hy : Nf c (redL c u) := nf_red hc l1 (by omega) (by omega)
    have hin := ih (redL c u).length (by omega) _ hy rfl
    obtain ⟨k, hk⟩ : ∃ k : Nat, i = (k : Int) := ⟨i.toNat, by omega⟩
    subst hk
    have e : redL c (redL c u ++ [(k : Int)]) = u ++ [(k : Int)] := by rw [red_app hc l1 (by omega)]; exact hw.2.1
    have := hD _ hin k (by omega) (by rw [e]; simp; omega)
    rwa [e] at this
def DoneA (c : List (List Int)) (L : List (List Int)) (k : Nat) : Prop := ∀ j, j < L.length → j < k → ∀ a, a < c.length → (L.getD j []).length < (redL c (L.getD j [] ++ [(a : Int)])).length → redL c (L.getD j [] ++ [(a : Int)]) ∈ L
theorem mem_rwk {ys : List (Nat × List Int)} {z : List Int} : z ∈ rw2 ys ↔ ∃ j, j < ys.length ∧ (rw2 ys).getD j [] = z := by
  constructor
  · intro h
    obtain ⟨j, hj, e⟩ := List.getElem_of_mem h
    rw [rwl] at hj
    exact ⟨j, hj, by rw [List.getD_eq_getElem?_getD, List.getElem?_eq_getElem (by rw [rwl]; exact hj), Option.getD_some]; exact e⟩
  · rintro ⟨j, hj, rfl⟩
    rw [List.getD_eq_getElem?_getD, List.getElem?_eq_getElem (by rw [rwl]; exact hj)]
    exact List.getElem_mem _
set_option maxHeartbeats 2000000 in
theorem c_spec_l13All (c : List (List Int)) (hF : FinP c) (hs : (allL c).length ≤ 200) : FunA B 63 [.sl false (.row false) c] (fun rs o => rs = [.own 0 0] ∧ ∃ ys, (rw2 ys = allL c ∧ (lb1 ys).Nodup) ∧ o = [.arr .lrow ys 0 true]) := by
  have hc := hF.1
  have hn := hc.2.1
  have hall := allL_spec hF
  have hlen : ∀ {ys : List (Nat × List Int)}, StrictW (rw2 ys) → (∀ z ∈ rw2 ys, Nf c z) → ys.length ≤ 200 := fun {ys} h1 h2 => by
    have hnd : (rw2 ys).Nodup := List.Pairwise.imp (fun {a b} h e => by rw [e, cmpW_self] at h; omega) h1
    have := nodup_le hnd (fun z hz => (hall.2 z).2 (h2 z hz))
    rw [rwl] at this
    omega
  refine FunA.walk B_ok (fn := Tryz.f63) (fun vs w => Tryz.call63 vs w) Tryz.func63 rfl (by rw [Tryz.ntmps63]; simp) (fun C hC hP hT hΓ hbt hfn hpin hfin => ?_); have hX := BX; rw [← hΓ, ← hbt.1, ← hbt.2.1, ← hbt.2.2.1] at hX; rw [Tryz.ntmps63]; simp only [AW7, simprocAttr, hX]
  refine Run.R ?_
  refine Run.nq ?_; refine Run.regionW hC (fun K hK => ?_); refine wW ?_
  intro q hq
  refine wW ?_
  refine wE ?_; clear hK K
  refine Run.R ?_
  refine Run.reK hpin [0, 2, 3, 4] [1] (by decide) (by simp) ?_; simp only [AR, AW7, simprocAttr]
  refine Run.loopI (X := Nat × List (Nat × List Int)) (fun s => ⟨48, [(0, true, .v (.sl false (.row false) (c))), (2, true, .v (.nils)), (3, true, .v (.own 0 0)), (4, true, .v (.int .i64 (s.1)))], [.arr .lrow (s.2) 0 true]⟩) (fun s => s.1 ≤ s.2.length ∧ (lb1 s.2).Nodup ∧ StrictW (rw2 s.2) ∧ (∀ z ∈ rw2 s.2, Nf c z) ∧ [] ∈ rw2 s.2 ∧ DoneA c (rw2 s.2) s.1) (fun s => 201 - s.1) ((0, [(q, [])])) (⟨Nat.zero_le _, by simp [lb1], by unfold StrictW; simp [rw2], fun z hz => by simp [rw2] at hz; rw [hz]; exact ((outS_mem hc (show 0 ≤ 30 by omega) []).1 (by simp [outS])).1, by simp [rw2], fun j _ hj => by omega⟩) ?_ ?_
  · exact Le.sub (by first | rfl | simp) (by simp only [AW7, simprocAttr, hX]; try simp <;> try (first | rfl | exact ⟨rfl, rfl⟩ | exact ⟨rfl, rfl, rfl⟩))
  rintro ⟨k, ys⟩ ⟨hk, hN, hS, hP, h0m, hD⟩ ihO
  try simp only []
  simp only [] at hk hN hS hP h0m hD
  clear hq
  have hyl := hlen hS hP
  refine Run.R ?_
  refine Run.nq ?_; refine Run.cW ?_ ?_
  rotate_left
  · intro h3
    have hke : k = ys.length := by rw [decide_eq_false_iff_not] at h3; omega
    have hup := nf_up hc h0m (fun y hy i hi hlt => by
      obtain ⟨j, hj, rfl⟩ := mem_rwk.1 hy
      exact hD j (by rw [rwl]; exact hj) (by omega) i hi hlt)
    refine Run.exit rfl ?_; refine Run.nq ?_
    refine Run.R ?_
    refine Run.reK hpin [2] [0] (by decide) (by simp) ?_; simp only [AR, AW7, simprocAttr]
    refine Run.rW [2] (hfin _ _ rfl rfl ?_)
    exact ⟨rfl, ys, ⟨strict_ext hS hall.1 (fun z => ⟨fun hz => (hall.2 z).2 (hP z hz), fun hz => hup _ z ((hall.2 z).1 hz) rfl⟩), hN⟩, rfl⟩
  intro h3
  have h3 : k < ys.length := by rw [decide_eq_true_eq] at h3; omega
  have hgk : (rw2 ys).getD k [] ∈ rw2 ys := mem_rwk.2 ⟨k, h3, rfl⟩
  have hgy := rwg ys k
  refine Run.R ?_
  refine Run.reK hpin [0, 2, 3, 4, 5] [0] (by decide) (by simp) ?_; simp only [AR, AW7, simprocAttr]
  generalize hy : (rw2 ys).getD k [] = y at *
  have hny := hP y hgk
  have hy24 := fin_len hF _ (hny.far hc)
  refine Run.loopI (X := Nat × List (Nat × List Int)) (fun s => ⟨48, [(0, true, .v (.sl false (.row false) (c))), (2, true, .v (.nils)), (3, true, .v (.own 0 0)), (4, true, .v (.int .i64 (k))), (5, true, .v (.int .i64 (s.1)))], [.arr .lrow (s.2) 0 true]⟩) (fun s => (s.1 ≤ c.length ∧ k < s.2.length) ∧ (lb1 s.2).Nodup ∧ StrictW (rw2 s.2) ∧ (∀ z ∈ rw2 s.2, Nf c z) ∧ [] ∈ rw2 s.2 ∧ DoneA c (rw2 s.2) k ∧ (rw2 s.2).getD k [] = y ∧ ∀ a, a < s.1 → y.length < (redL c (y ++ [(a : Int)])).length → redL c (y ++ [(a : Int)]) ∈ rw2 s.2) (fun s => c.length - s.1) ((0, ys)) (⟨⟨Nat.zero_le _, h3⟩, hN, hS, hP, h0m, hD, hy, fun a ha => by simp only [] at ha; omega⟩) ?_ ?_
  · exact Le.sub (by first | rfl | simp) (by simp only [AW7, simprocAttr, hX]; try simp <;> try (first | rfl | exact ⟨rfl, rfl⟩ | exact ⟨rfl, rfl, rfl⟩))
  rintro ⟨i, zs⟩ ⟨⟨hi, hkz⟩, hN2, hS2, hP2, h0m2, hD2, hy2, hM2⟩ ihK
  try simp only []
  simp only [] at hi hkz hN2 hS2 hP2 h0m2 hD2 hy2 hM2
  clear hN hS hP h0m hD hgy hgk hy hyl h3
  have hzl := hlen hS2 hP2
  refine Run.R ?_
  refine Run.nq ?_; refine Run.cW ?_ ?_
  rotate_left
  · intro h4
    have h4 : i = c.length := by rw [decide_eq_false_iff_not] at h4; omega
    subst h4
    have hD3 : DoneA c (rw2 zs) (k + 1) := by
      intro j hj hjk a ha
      by_cases e : j = k
      · rw [e, hy2]; exact hM2 a ha
      · exact hD2 j hj (by omega) a ha
    refine Run.exit rfl ?_; refine Run.nq ?_
    refine Run.RW ?_
    refine Run.reK hpin [0, 2, 3, 4] [0] (by decide) (by simp) ?_; simp only [AR, AW7, simprocAttr]
    refine Run.le ?_ (ihO ((k + 1, zs)) (⟨hkz, hN2, hS2, hP2, h0m2, hD3⟩) (by (try simp only [List.length_append, List.length_cons, List.length_nil]); omega))
    exact Le.sub (by rfl) (by simp only [AW7, simprocAttr]; try simp)
  intro h4
  have h4 : i < c.length := by rw [decide_eq_true_eq] at h4; omega
  have hgz := rwg zs k
  rw [hy2] at hgz
  have hlw : letters c.length (y ++ [(i : Int)]) := letters_append.2 ⟨hny.1, letter1 h4⟩
  have hwl : (y ++ [(i : Int)]).length = y.length + 1 := by simp
  obtain ⟨a1, a2, a3, _, _⟩ := red_spec hc hlw (by omega)
  have hnx : Nf c (redL c (y ++ [(i : Int)])) := nf_red hc hlw (by omega) (by omega)
  have hcn := c_spec_l8Normal c (y ++ [(i : Int)]) hc hlw (by omega)
  have hM3 : ∀ ts : List (Nat × List Int), (∀ z ∈ rw2 zs, z ∈ rw2 ts) → (y.length < (redL c (y ++ [(i : Int)])).length → redL c (y ++ [(i : Int)]) ∈ rw2 ts) → ∀ a, a < i + 1 → y.length < (redL c (y ++ [(a : Int)])).length → redL c (y ++ [(a : Int)]) ∈ rw2 ts := by
    intro ts h1 h2 a ha hlt
    by_cases e : a = i
    · subst e; exact h2 hlt
    · exact h1 _ (hM2 a (by omega) hlt)
  generalize hx : redL c (y ++ [(i : Int)]) = x at hcn hnx a1 a2 a3 hM3
  have hrl : ∀ r ∈ zs.map (·.2), r.length ≤ 1048576 := fun r hr => by
    have := (hP2 r hr).2.2; omega
  refine Run.nq ?_; refine Run.regionW hC (fun K hK => ?_); refine wW ?_
  try simp only [hgz]
  refine FunA.cW hP hT (c_spec_ConcatWords y [(i : Int)] (by omega) (by simp)) ?_
  rintro rs o ⟨rfl, rfl⟩
  refine wW ?_
  refine FunA.cW hP hT (hcn) ?_
  rintro rs o ⟨rfl, rfl⟩
  try rw [hx]
  refine wW ?_
  refine wE ?_; clear hK K
  refine Run.reK hpin [0, 2, 3, 4, 5, 6] [0, 3] (by decide) (by simp) ?_; simp only [AR, AW7, simprocAttr]
  refine Run.nq ?_; refine Run.regionW hC (fun K hK => ?_); refine wW ?_
  try simp only [hgz]
  refine .inl (FunA.callG hP hT (c_spec_l7In (zs.map (·.2)) x (by simp; omega) hrl) (fun _ => rfl) (fun _ => by simp only [AW7, simprocAttr]) ?_)
  refine wW ?_
  refine wE ?_; clear hK K
  have hmap : zs.map (·.2) = rw2 zs := rfl
  rw [hmap]
  refine Run.nq ?_; refine Run.cW ?_ ?_
  · intro h5
    have h5 : y.length < x.length ∧ x ∉ rw2 zs := by
      by_cases hlt : y.length < x.length
      · rw [decide_eq_true (by omega)] at h5
        exact ⟨hlt, by simpa using h5⟩
      · rw [decide_eq_false (by omega)] at h5
        cases h5
    have hkr : k < (rw2 zs).length := by rw [rwl]; exact hkz
    have hkeep := putS_keepk hS2 (w := x) hkr (by rw [hy2]; exact h5.1)
    have hpl := putS_len x false (rw2 zs)
    rw [rwl] at hpl
    refine Run.nq ?_; refine Run.regionW hC (fun K hK => ?_); refine wW ?_
    refine FunM.call hP hT (c_spec_l11Put zs x hN2 (by omega) (by omega) true) 0 0 (by simp only [AW7, simprocAttr]; rfl) (by simp) rfl (by simp only [AW7, simprocAttr]; try simp) ?_
    rintro rs o' obs' ⟨rfl, ys', hE3, hN3, h7⟩
    obtain ⟨rfl, rfl⟩ := List.cons.inj h7
    refine wW ?_
    refine wE ?_; clear hK K
    rw [← hE3] at hkeep hpl
    rw [rwl] at hpl
    have hmem : ∀ t, t ∈ rw2 ys' ↔ t = x ∨ t ∈ rw2 zs := fun t => by rw [hE3]; exact putS_mem x _ t
    have hS3 : StrictW (rw2 ys') := by rw [hE3]; exact putS_strict x hS2
    have hP3 : ∀ t ∈ rw2 ys', Nf c t := fun t ht => by
      rcases (hmem t).1 ht with rfl | ht
      · exact hnx
      · exact hP2 t ht
    have hD3 : DoneA c (rw2 ys') k := fun j hj hjk a ha => by
      rw [(hkeep j (by omega)).2]
      intro hlt
      exact (hmem _).2 (.inr (hD2 j (by omega) hjk a ha hlt))
    have hy3 : (rw2 ys').getD k [] = y := by rw [(hkeep k (Nat.le_refl _)).2]; exact hy2
    have hk3 : k < ys'.length := by have := (hkeep k (Nat.le_refl _)).1; rw [rwl] at this; exact this
    refine Run.reK hpin [0, 2, 3, 4, 5] [2] (by decide) (by simp) ?_; simp only [AR, AW7, simprocAttr]
    refine Run.RW ?_
    refine Run.le ?_ (ihK ((i + 1, ys')) (⟨⟨h4, hk3⟩, hN3, hS3, hP3, (hmem _).2 (.inr h0m2), hD3, hy3, hM3 ys' (fun z hz => (hmem z).2 (.inr hz)) (fun _ => (hmem _).2 (.inl rfl))⟩) (by (try simp only [List.length_append, List.length_cons, List.length_nil]); omega))
    exact Le.sub (by rfl) (by simp only [AW7, simprocAttr]; try simp)
  intro h5
  have h5 : y.length < x.length → x ∈ rw2 zs := fun hlt => by
    rw [decide_eq_true (by omega)] at h5
    simpa using h5
  refine Run.reK hpin [0, 2, 3, 4, 5] [0] (by decide) (by simp) ?_; simp only [AR, AW7, simprocAttr]
  refine Run.RW ?_
  refine Run.le ?_ (ihK ((i + 1, zs)) (⟨⟨h4, hkz⟩, hN2, hS2, hP2, h0m2, hD2, hy2, hM3 zs (fun z hz => hz) h5⟩) (by (try simp only [List.length_append, List.length_cons, List.length_nil]); omega))
  exact Le.sub (by rfl) (by simp only [AW7, simprocAttr]; try simp)
noncomputable def elsB (c : List (List Int)) (n : Int) : Bool := isF c && decide (sizeE c ≤ n)
theorem elsB_fin {c : List (List Int)} {n : Int} (h : elsB c n = true) (hn : n ≤ 200) : FinP c ∧ ((allL c).length : Int) = sizeE c ∧ (allL c).length ≤ 200 ∧ 1 ≤ sizeE c ∧ sizeE c ≤ n := by
  unfold elsB at h
  rw [Bool.and_eq_true, decide_eq_true_eq] at h
  have hF := isF_iff.1 h.1
  obtain ⟨h1, h2, h3⟩ := fin_size hF
  have e : sizeE c = sizeI c := by unfold sizeE; rw [if_pos h.1]
  rw [e] at h ⊢
  have := h3 (by omega)
  exact ⟨hF, this, by omega, by omega, h.2⟩
theorem elsB_small (c : List (List Int)) (n : Int) : elsB c n = (!decide (sizeE c < 1) && !decide (n < sizeE c)) := by
  unfold elsB
  cases h : isF c
  · have e : sizeE c = 0 := by unfold sizeE; rw [h]; rfl
    rw [e]; simp
  · have e : sizeE c = sizeI c := by unfold sizeE; rw [if_pos h]
    obtain ⟨h1, h2, h3⟩ := fin_size (isF_iff.1 h)
    rw [e]
    rw [Bool.eq_iff_iff]
    simp
    omega
theorem FunA.frozenX {B : Ctx} {f : FuncId} {args : List AV} {e : E} {P : List e.D → Prop} (he : freshE e = true) (h : FunA B f args (fun rs o => rs = [.own 0 0] ∧ ∃ xs, P xs ∧ o = [.arr e xs 0 true])) : FunA B f args (fun rs o => ∃ xs, P xs ∧ rs = [.sl true e xs] ∧ o = []) := by
  refine ⟨h.1, fun w L vs hG hl ha => (h.2 w L vs hG hl ha).mono ?_⟩
  rintro en w' ⟨us, hen, rs, o, ρ', ⟨rfl, xs, hP, rfl⟩, hul, hu, hw, _, _⟩
  obtain ⟨hst, hsl⟩ := letgo_sl hw (id := 0) (g := 0) (e := e) (xs := xs) (nn := true) rfl
  match us, hul with
  | [u], _ =>
    have hu0 : u = ρ' 0 := ((hu 0 (.own 0 0) u rfl rfl).2 0 rfl).2 rfl
    have hno : ∀ b (ρ : Nat → Value), ¬ Own ([] : List O) ρ b := fun b ρ ⟨id, o, ho, _⟩ => by simp at ho
    have hle : ((B.bareL w L).V w' [.dead] (fun i => if i = 0 then ρ' 0 else ρ' i)).le ((B.bareL w L).V w' [] ρ') := by
      refine ⟨fun b o hb => ?_, fun _ hb => hb, rfl⟩
      simp only [Ctx.V, mask] at hb ⊢
      rw [if_neg (hno b ρ')]
      split at hb
      · cases hb
      · exact hb
    refine ⟨[u], hen, [.sl true e xs], [], ρ', ⟨xs, hP, rfl, rfl⟩, rfl, fun i x v hx hv => ?_, ⟨fun id o ho => by simp at ho, fun i j o o' b hi => by simp at hi, fun b hb => (hno b _ hb).elim, hw.os0, hw.tape, hw.output, hw.grow, hw.drawn, hw.kept, hw.gl⟩, by simp [freshAV, he], rfl⟩
    match i, hx, hv with
    | 0, hx, hv =>
      simp at hx hv
      subst hx hv
      rw [hu0]
      exact SlRel.mono hle hsl
theorem c_impl_elementsW (c : List (List Int)) (hq : elsB c 200 = true) : FunA BJ 35 [.sl false (.row false) c] (fun rs o => rs = [.own 0 0] ∧ ∃ ys, (rw2 ys = allL c ∧ (lb1 ys).Nodup) ∧ o = [.arr .lrow ys 0 true]) := by
  refine FunA.walk BJ_ok (fn := Tryz.f35) (fun vs w => Tryz.call35 vs w) Tryz.func35 rfl (by rw [Tryz.ntmps35]; simp) (fun C hC hP hT hΓ hbt hfn hpin hfin => ?_); haveI hDJ : DrLe BJ C := ⟨fun h => by rw [hbt.2.2.2] at h; cases h⟩; have hPJ := hP; have hTJ := hT; replace hP : B.P = C.P := hP; replace hT : B.tid = C.tid := hT; have hX := BXJ; rw [← hΓ, ← hbt.1, ← hbt.2.1, ← hbt.2.2.1] at hX; rw [Tryz.ntmps35]; simp only [AW7, simprocAttr, hX]
  refine Run.R ?_
  refine Run.nq ?_; refine Run.regionW hC (fun K hK => ?_); refine wW ?_
  refine FunA.cW hP hT (c_impl_IsFinite c) ?_
  rintro rs o ⟨rfl, rfl⟩
  refine wW ?_
  refine .inl (FunA.callG hPJ hTJ (c_impl_SizeOf c) (fun _ => rfl) (fun _ => by simp only [AW7, simprocAttr]) ?_)
  refine wW ?_
  refine wE ?_; clear hK K
  refine Run.nq ?_; refine Run.cW ?_ ?_
  · intro h
    have h : elsB c 200 = false := by
      unfold elsB
      cases hf : isF c
      · rfl
      · rw [hf] at h
        have h : decide (200 < sizeE c) = true := h
        rw [decide_eq_true_eq] at h
        simp; exact h
    rw [hq] at h; cases h
  intro h
  have h : elsB c 200 = true := by
    unfold elsB
    cases hf : isF c
    · rw [hf] at h; cases h
    · rw [hf] at h
      have h : decide (200 < sizeE c) = false := h
      rw [decide_eq_false_iff_not] at h
      simp; omega
  obtain ⟨hF, _, hl, _⟩ := elsB_fin h (by omega)
  refine Run.nq ?_; refine Run.regionW hC (fun K hK => ?_); refine wW ?_
  refine FunA.cW hP hT (c_impl_ball c hF hl) ?_
  rintro rs o ⟨rfl, ys, hy, rfl⟩
  refine wW ?_
  refine wE ?_; clear hK K
  refine Run.R ?_
  refine Run.reK hpin [2] [0] (by decide) (by simp) ?_; simp only [AR, AW7, simprocAttr]
  refine Run.rW [2] (hfin _ _ rfl rfl ?_)
  exact ⟨rfl, ys, hy, rfl⟩
theorem c_impl_elements1 (c : List (List Int)) (hq : elsB c 200 = true) : FunA BJ 35 [.sl false (.row false) c] (fun rs o => ∃ ys, (rw2 ys = allL c ∧ (lb1 ys).Nodup) ∧ rs = [.sl true .lrow ys] ∧ o = []) :=
  FunA.frozenX (e := .lrow) (P := fun ys : List (Nat × List Int) => rw2 ys = allL c ∧ (lb1 ys).Nodup) rfl (c_impl_elementsW c hq)
theorem allL_ne {c : List (List Int)} (hF : FinP c) : allL c ≠ [] := by
  intro e
  have h : [] ∈ allL c := ((allL_spec hF).2 []).2 ((outS_mem hF.1 (show 0 ≤ 30 by omega) []).1 (by simp [outS])).1
  rw [e] at h
  cases h
theorem c_impl_ElementsOf1 (c : List (List Int)) (hq : elsB c 200 = true) : FunA BJ 42 [.sl false (.row false) c] (fun rs o => ∃ ys, (rw2 ys = allL c ∧ (lb1 ys).Nodup) ∧ rs = [.sl true .lrow ys, .bool true] ∧ o = []) := by
  refine FunA.walk BJ_ok (fn := Tryz.f42) (fun vs w => Tryz.call42 vs w) Tryz.func42 rfl (by rw [Tryz.ntmps42]; simp) (fun C hC hP hT hΓ hbt hfn hpin hfin => ?_); haveI hDJ : DrLe BJ C := ⟨fun h => by rw [hbt.2.2.2] at h; cases h⟩; have hPJ := hP; have hTJ := hT; replace hP : B.P = C.P := hP; replace hT : B.tid = C.tid := hT; have hX := BXJ; rw [← hΓ, ← hbt.1, ← hbt.2.1, ← hbt.2.2.1] at hX; rw [Tryz.ntmps42]; simp only [AW7, simprocAttr, hX]
  refine Run.R ?_
  refine Run.nq ?_; refine Run.regionW hC (fun K hK => ?_); refine wW ?_
  refine FunA.cW hPJ hTJ (c_impl_elements1 c hq) ?_
  rintro rs o ⟨ys, hy, rfl, rfl⟩
  have hne : ys ≠ [] := fun e => by
    rw [e] at hy
    exact allL_ne (elsB_fin hq (by omega)).1 hy.1.symm
  refine wW ?_
  refine wE ?_; clear hK K
  refine Run.R ?_
  refine Run.nq ?_; refine Run.cW ?_ ?_
  · intro h2; cases h2
  intro _
  refine Run.R ?_
  refine Run.rW [2, 3] (hfin _ _ rfl rfl ?_)
  exact ⟨ys, hy, rfl, rfl⟩
end Go.Proofs.YtaghdbbcadhjdaaGreatDoor
namespace Go.Proofs.YtaghdbbcadhjdaaGreatDoor
open Go Go.Aw Go.Cox
def ixL (l : List (List Int)) (w : List Int) : Int := if w ∈ l then (l.idxOf w : Int) else -1
end Go.Proofs.YtaghdbbcadhjdaaGreatDoor
namespace Go.Proofs.YtaghdbbcadhjdaaGreatDoor
open Go Go.Aw Go.Cox
def Plc (l : List (List Int)) (k : Nat) (m : List (MK × MV)) : Prop := ∀ j, j < k → mgetI m (.str (fmtW (l.getD j []))) = j
theorem Plc.put {l : List (List Int)} (hl : ∀ r ∈ l, letters 4 r) (hn : l.Nodup) {k : Nat} (hk : k < l.length) {m : List (MK × MV)} (h : Plc l k m) : Plc l (k + 1) (mput m (.str (fmtW (l.getD k []))) (.int k)) := by
  intro j hj
  rw [mgetI_put]
  by_cases e : j = k
  · rw [e, if_pos rfl]
  · have h1 : l.getD j [] = l[j] := by simp [List.getD_eq_getElem?_getD, show j < l.length by omega]
    have h2 : l.getD k [] = l[k] := by simp [List.getD_eq_getElem?_getD, hk]
    rw [if_neg, h j (by omega)]
    intro e2
    injection e2 with e2
    rw [h1, h2] at e2
    have e3 := fmtW_inj (hl _ (List.getElem_mem (show j < l.length by omega))) (hl _ (List.getElem_mem hk)) e2
    have hp := List.nodup_iff_pairwise_ne.1 hn
    rw [List.pairwise_iff_getElem] at hp
    exact hp j k (by omega) hk (by omega) e3
theorem Plc.at {l : List (List Int)} {m : List (MK × MV)} (hn : l.Nodup) (h : Plc l l.length m) {w : List Int} (hw : w ∈ l) : mgetI m (.str (fmtW w)) = ixL l w := by
  have hlt := List.idxOf_lt_length_of_mem hw
  have hg : l[l.idxOf w] = w := List.getElem_idxOf hlt
  have := h _ hlt
  rw [List.getD_eq_getElem?_getD, List.getElem?_eq_getElem hlt, Option.getD_some, hg] at this
  rw [this]
  unfold ixL
  rw [if_pos hw]
end Go.Proofs.YtaghdbbcadhjdaaGreatDoor
namespace Go.Proofs.YtaghdbbcadhjdaaGreatDoor
open Go Go.Aw Go.Cox
theorem elsB_mono {c : List (List Int)} {n m : Int} (h : elsB c n = true) (hnm : n ≤ m) : elsB c m = true := by
  unfold elsB at h ⊢
  rw [Bool.and_eq_true, decide_eq_true_eq] at h ⊢
  exact ⟨h.1, by omega⟩
theorem c_impl_few0 (c : List (List Int)) (he : elsB c 48 = false) : FunA BJ 49 [.sl false (.row false) c, .int .i64 48] (fun rs o => rs = [.nils, .bool false] ∧ o = []) := by
  refine FunA.walk BJ_ok (fn := Tryz.f49) (fun vs w => Tryz.call49 vs w) Tryz.func49 rfl (by rw [Tryz.ntmps49]; simp) (fun C hC hP hT hΓ hbt hfn hpin hfin => ?_); haveI hDJ : DrLe BJ C := ⟨fun h => by rw [hbt.2.2.2] at h; cases h⟩; have hPJ := hP; have hTJ := hT; replace hP : B.P = C.P := hP; replace hT : B.tid = C.tid := hT; have hX := BXJ; rw [← hΓ, ← hbt.1, ← hbt.2.1, ← hbt.2.2.1] at hX; rw [Tryz.ntmps49]; simp only [AW7, simprocAttr, hX]
  refine Run.R ?_
  refine Run.nq ?_; refine Run.regionW hC (fun K hK => ?_); refine wW ?_
  refine FunA.cW hP hT (c_impl_IsFinite c) ?_
  rintro rs o ⟨rfl, rfl⟩
  refine wW ?_
  refine .inl (FunA.callG hPJ hTJ (c_impl_SizeOf c) (fun _ => rfl) (fun _ => by simp only [AW7, simprocAttr]) ?_)
  refine wW ?_
  refine wE ?_; clear hK K
  refine Run.nq ?_; refine Run.cW ?_ ?_
  · intro _
    refine Run.R ?_
    refine Run.rW [4, 5] (hfin _ _ rfl rfl ?_)
    exact ⟨rfl, rfl⟩
  intro h
  exfalso
  unfold elsB at he
  cases hf : isF c
  · rw [hf] at h; cases h
  · rw [hf] at h he
    have h : decide (48 < sizeE c) = false := h
    rw [decide_eq_false_iff_not] at h
    simp at he
    omega
theorem c_impl_few1 (c : List (List Int)) (he : elsB c 48 = true) : FunA BJ 49 [.sl false (.row false) c, .int .i64 48] (fun rs o => ∃ ys, (rw2 ys = allL c ∧ (lb1 ys).Nodup) ∧ rs = [.sl true .lrow ys, .bool true] ∧ o = []) := by
  refine FunA.walk BJ_ok (fn := Tryz.f49) (fun vs w => Tryz.call49 vs w) Tryz.func49 rfl (by rw [Tryz.ntmps49]; simp) (fun C hC hP hT hΓ hbt hfn hpin hfin => ?_); haveI hDJ : DrLe BJ C := ⟨fun h => by rw [hbt.2.2.2] at h; cases h⟩; have hPJ := hP; have hTJ := hT; replace hP : B.P = C.P := hP; replace hT : B.tid = C.tid := hT; have hX := BXJ; rw [← hΓ, ← hbt.1, ← hbt.2.1, ← hbt.2.2.1] at hX; rw [Tryz.ntmps49]; simp only [AW7, simprocAttr, hX]
  refine Run.R ?_
  refine Run.nq ?_; refine Run.regionW hC (fun K hK => ?_); refine wW ?_
  refine FunA.cW hP hT (c_impl_IsFinite c) ?_
  rintro rs o ⟨rfl, rfl⟩
  refine wW ?_
  refine .inl (FunA.callG hPJ hTJ (c_impl_SizeOf c) (fun _ => rfl) (fun _ => by simp only [AW7, simprocAttr]) ?_)
  refine wW ?_
  refine wE ?_; clear hK K
  refine Run.nq ?_; refine Run.cW ?_ ?_
  · intro h
    exfalso
    unfold elsB at he
    rw [Bool.and_eq_true, decide_eq_true_eq] at he
    rw [he.1] at h
    have h : decide (48 < sizeE c) = true := h
    rw [decide_eq_true_eq] at h
    omega
  intro _
  refine Run.nq ?_; refine Run.regionW hC (fun K hK => ?_); refine wW ?_
  refine FunA.cW hPJ hTJ (c_impl_ElementsOf1 c (elsB_mono he (by omega))) ?_
  rintro rs o ⟨ys, hy, rfl, rfl⟩
  refine wW ?_
  refine wE ?_; clear hK K
  refine Run.rW [4, 5] (hfin _ _ rfl rfl ?_)
  exact ⟨ys, hy, rfl, rfl⟩
theorem c_spec_l18Small (c : List (List Int)) : FunA B 47 [.sl false (.row false) c] (fun rs o => rs = [.own 0 0, .bool (elsB c 48)] ∧ ∃ ys, (rw2 ys = (if elsB c 48 then allL c else []) ∧ (lb1 ys).Nodup) ∧ o = [.arr .lrow ys 0 true]) := by
  refine FunA.walk B_ok (fn := Tryz.f47) (fun vs w => Tryz.call47 vs w) Tryz.func47 rfl (by rw [Tryz.ntmps47]; simp) (fun C hC hP hT hΓ hbt hfn hpin hfin => ?_); have hX := BX; rw [← hΓ, ← hbt.1, ← hbt.2.1, ← hbt.2.2.1] at hX; rw [Tryz.ntmps47]; simp only [AW7, simprocAttr, hX]
  refine Run.R ?_
  refine Run.nq ?_; refine Run.regionW hC (fun K hK => ?_); refine wW ?_
  refine FunA.cW hP hT (c_spec_SizeOf c) ?_
  rintro rs o ⟨rfl, rfl⟩
  refine wW ?_
  refine wE ?_; clear hK K
  have hsm := elsB_small c 48
  refine Run.R ?_
  refine Run.nq ?_; refine Run.cW ?_ ?_
  · intro h
    have h : elsB c 48 = false := by
      rw [hsm]
      by_cases h1 : sizeE c < 1
      · rw [decide_eq_true h1]; rfl
      · rw [decide_eq_false h1] at h ⊢
        have h : decide (48 < sizeE c) = true := h
        rw [h]; rfl
    refine Run.R ?_
    refine Run.reK hpin [2, 3] [0] (by decide) (by simp) ?_; simp only [AR, AW7, simprocAttr]
    refine Run.rW [2, 3] (hfin _ _ rfl rfl ?_)
    exact ⟨by rw [h], [], ⟨by rw [h]; rfl, by simp [lb1]⟩, rfl⟩
  intro h
  have h : elsB c 48 = true := by
    rw [hsm]
    by_cases h1 : sizeE c < 1
    · rw [decide_eq_true h1] at h; cases h
    · rw [decide_eq_false h1] at h ⊢
      have h : decide (48 < sizeE c) = false := h
      rw [h]; rfl
  obtain ⟨hF, _, hl, _⟩ := elsB_fin h (by omega)
  refine Run.nq ?_; refine Run.regionW hC (fun K hK => ?_); refine wW ?_
  refine FunA.cW hP hT (c_spec_l13All c hF hl) ?_
  rintro rs o ⟨rfl, ys, hy, rfl⟩
  refine wW ?_
  refine wE ?_; clear hK K
  refine Run.reK hpin [2, 3] [0] (by decide) (by simp) ?_; simp only [AR, AW7, simprocAttr]
  refine Run.rW [2, 3] (hfin _ _ rfl rfl ?_)
  exact ⟨by rw [h], ys, ⟨by rw [h]; exact hy.1, hy.2⟩, rfl⟩
end Go.Proofs.YtaghdbbcadhjdaaGreatDoor
namespace Go.Proofs.YtaghdbbcadhjdaaGreatDoor
open Go Go.Aw Go.Cox
def hgt : List Int → Int
  | [] => 0
  | x :: r => x + hgt r
def Bnd (M : Int) (r : List Int) : Prop := ∀ x ∈ r, -M ≤ x ∧ x ≤ M
theorem Bnd.take {M : Int} {r : List Int} (h : Bnd M r) (k : Nat) : Bnd M (r.take k) := fun x hx => h x (List.mem_of_mem_take hx)
theorem Bnd.get {M : Int} {r : List Int} (h : Bnd M r) {k : Nat} (hk : k < r.length) : -M ≤ r.getD k 0 ∧ r.getD k 0 ≤ M := h _ (getD_mem hk)
def posA (r : List Int) : Bool := r.any fun x => decide (0 < x)
def negA (r : List Int) : Bool := r.any fun x => decide (x < 0)
def sgnR (r : List Int) : Int := bif posA r && !negA r then 1 else bif negA r && !posA r then -1 else 0
theorem sgnR_one {r : List Int} : sgnR r = 1 ↔ posA r = true ∧ negA r = false := by
  unfold sgnR; cases posA r <;> cases negA r <;> simp
end Go.Proofs.YtaghdbbcadhjdaaGreatDoor
namespace Go.Proofs.YtaghdbbcadhjdaaGreatDoor
open Go Go.Aw Go.Cox
theorem mir_len (c : List (List Int)) (i : Int) (r : List Int) : (mirL c i r).length = r.length := by simp [mirL]
end Go.Proofs.YtaghdbbcadhjdaaGreatDoor
namespace Go.Proofs.YtaghdbbcadhjdaaGreatDoor
open Go Go.Aw Go.Cox
theorem c_spec_l9Fit (c : List (List Int)) (w : List Int) (hc : CartanP c) (hw : letters c.length w) (hl : w.length ≤ 31) :
    FunA B 119 [.sl false (.row false) c, .sl false .int w] (fun rs o => rs = [.own 0 0, .bool (decide ((redL c w).length ≤ 15))] ∧ o = [.arr .int (if (redL c w).length ≤ 15 then redL c w else []) 0 true]) := by
  obtain ⟨a1, a2, a3, a4, a5⟩ := red_spec hc hw hl
  refine FunA.walk B_ok (fn := Tryz.f119) (fun vs w => Tryz.call119 vs w) Tryz.func119 rfl (by rw [Tryz.ntmps119]; simp) (fun C hC hP hT hΓ hbt hfn hpin hfin => ?_); have hX := BX; rw [← hΓ, ← hbt.1, ← hbt.2.1, ← hbt.2.2.1] at hX; rw [Tryz.ntmps119]; simp only [AW7, simprocAttr, hX]
  refine Run.R ?_
  refine Run.nq ?_; refine Run.regionW hC (fun K hK => ?_); refine wW ?_
  refine FunA.cW hP hT (c_spec_l8Normal c w hc hw hl) ?_
  rintro rs o ⟨rfl, rfl⟩
  refine wW ?_
  refine wE ?_; clear hK K
  refine Run.R ?_
  refine Run.nq ?_; refine Run.cW ?_ ?_
  · intro h
    have h : 15 < (redL c w).length := by simp at h; omega
    refine Run.R ?_
    refine Run.reK hpin [4, 5] [1] (by decide) (by simp) ?_; simp only [AR, AW7, simprocAttr]
    refine Run.rW [4, 5] (hfin _ _ rfl rfl ?_)
    rw [if_neg (by omega), decide_eq_false (by omega)]; exact ⟨rfl, rfl⟩
  · intro h
    have h : (redL c w).length ≤ 15 := by simp at h; omega
    refine Run.R ?_
    refine Run.reK hpin [4, 5] [0] (by decide) (by simp) ?_; simp only [AR, AW7, simprocAttr]
    refine Run.rW [4, 5] (hfin _ _ rfl rfl ?_)
    rw [if_pos h, decide_eq_true h]; exact ⟨rfl, rfl⟩
theorem sgn_nonneg {r : List Int} (h : sgnR r = 1) : ∀ x ∈ r, 0 ≤ x := by
  intro x hx
  have h1 := (sgnR_one.1 h).2
  unfold negA at h1
  rw [List.any_eq_false] at h1
  have := h1 x hx
  simp at this
  exact this
theorem hgt_nonneg : ∀ {r : List Int}, (∀ x ∈ r, 0 ≤ x) → 0 ≤ hgt r ∧ ∀ x ∈ r, x ≤ hgt r
  | [], _ => by simp [hgt]
  | y :: r, h => by
    obtain ⟨h1, h2⟩ := hgt_nonneg (r := r) fun x hx => h x (List.mem_cons_of_mem _ hx)
    have h0 := h y (by simp)
    refine ⟨by simp only [hgt]; omega, fun x hx => ?_⟩
    simp only [hgt]
    rcases List.mem_cons.1 hx with rfl | hx
    · omega
    · have := h2 x hx; omega
theorem hgt_zero : ∀ {r : List Int}, (∀ x ∈ r, 0 ≤ x) → hgt r = 0 → r = List.replicate r.length 0
  | [], _, _ => rfl
  | y :: r, h, h0 => by
    have h1 := h y (by simp)
    obtain ⟨h2, _⟩ := hgt_nonneg (r := r) fun x hx => h x (List.mem_cons_of_mem _ hx)
    simp only [hgt] at h0
    have := hgt_zero (r := r) (fun x hx => h x (List.mem_cons_of_mem _ hx)) (by omega)
    rw [List.length_cons, List.replicate_succ, ← this]
    congr 1
    omega
theorem hgt_one : ∀ {r : List Int}, (∀ x ∈ r, 0 ≤ x) → hgt r = 1 → ∃ i, i < r.length ∧ r = simL r.length i
  | [], _, h => by simp [hgt] at h
  | y :: r, h, h0 => by
    have h1 := h y (by simp)
    obtain ⟨h2, _⟩ := hgt_nonneg (r := r) fun x hx => h x (List.mem_cons_of_mem _ hx)
    simp only [hgt] at h0
    by_cases hy : y = 1
    · refine ⟨0, by simp, ?_⟩
      have := hgt_zero (r := r) (fun x hx => h x (List.mem_cons_of_mem _ hx)) (by omega)
      simp only [simL, List.length_cons, List.replicate_succ, List.set_cons_zero]
      rw [← this, hy]
    · obtain ⟨i, hi, hr⟩ := hgt_one (r := r) (fun x hx => h x (List.mem_cons_of_mem _ hx)) (by omega)
      refine ⟨i + 1, by simp; omega, ?_⟩
      simp only [simL, List.length_cons, List.replicate_succ, List.set_cons_succ]
      simp only [simL] at hr
      rw [← hr]
      congr 1
      omega
theorem simL_get (n i k : Nat) (hi : i < n) : (simL n i).getD k 0 = if k = i then 1 else 0 := by
  unfold simL
  by_cases hk : k < n
  · rw [List.getD_eq_getElem?_getD, List.getElem?_set]
    by_cases h : i = k
    · subst h; simp [hi]
    · simp [h, Ne.symm h, hk]
  · rw [List.getD_eq_getElem?_getD, List.getElem?_eq_none (by simp; omega), if_neg (by omega)]; rfl
theorem simL_inj {n i j : Nat} (hi : i < n) (hj : j < n) (h : simL n i = simL n j) : i = j := by
  have h1 := simL_get n i i hi
  have h2 := simL_get n j i hj
  rw [h] at h1
  rw [h1, if_pos rfl] at h2
  by_cases hij : i = j
  · exact hij
  · rw [if_neg hij] at h2; cases h2
def lowI (c : List (List Int)) (r : List Int) : Option Nat := (List.range c.length).find? fun i => decide (hgt (mirL c i r) < hgt r)
def simI (c : List (List Int)) (r : List Int) : Option Nat := (List.range c.length).find? fun i => r == simL c.length i
theorem find_some {n : Nat} {p : Nat → Bool} {i : Nat} (hi : i < n) (h : p i = true) (hj : ∀ j, j < i → p j = false) : (List.range n).find? p = some i := by
  rw [List.find?_range_eq_some]
  exact ⟨h, by simpa using hi, fun j hj' => by simp [hj j hj']⟩
theorem find_some' {n : Nat} {p : Nat → Bool} {i : Nat} (h : (List.range n).find? p = some i) : i < n ∧ p i = true ∧ ∀ j, j < i → p j = false := by
  rw [List.find?_range_eq_some] at h
  obtain ⟨h1, h2, h3⟩ := h
  exact ⟨by simpa using h2, h1, fun j hj => by simpa using h3 j hj⟩
structure Dn (c : List (List Int)) (r : List Int) : Prop where
  len : r.length = c.length
  sgn : sgnR r = 1
  hgt : hgt r ≤ 4000
theorem Dn.bnd {c : List (List Int)} {r : List Int} (h : Dn c r) : Bnd 4000 r := fun x hx => by
  have h1 := sgn_nonneg h.sgn
  have := h1 x hx
  have := (hgt_nonneg h1).2 x hx
  have := h.hgt
  omega
theorem Dn.next {c : List (List Int)} {r : List Int} (h : Dn c r) {i : Nat} (hi : lowI c r = some i) (hs : sgnR (mirL c i r) = 1) : Dn c (mirL c i r) := by
  have h1 := (find_some' hi).2.1
  have := h.hgt
  have h2 : Go.Proofs.YtaghdbbcadhjdaaGreatDoor.hgt (mirL c i r) < Go.Proofs.YtaghdbbcadhjdaaGreatDoor.hgt r := by simpa using h1
  exact ⟨by rw [mir_len]; exact h.len, hs, by omega⟩
theorem Dn.one {c : List (List Int)} {r : List Int} (h : Dn c r) (h1 : Go.Proofs.YtaghdbbcadhjdaaGreatDoor.hgt r = 1) : ∃ i, i < c.length ∧ r = simL c.length i ∧ simI c r = some i := by
  obtain ⟨i, hi, hr⟩ := hgt_one (sgn_nonneg h.sgn) h1
  rw [h.len] at hi hr
  refine ⟨i, hi, hr, find_some hi (by simpa using hr) fun j hj => ?_⟩
  cases hq : (r == simL c.length j) with
  | false => rfl
  | true =>
    have hq : r = simL c.length j := by simpa using hq
    have := simL_inj hi (Nat.lt_trans hj hi) (hr.symm.trans hq)
    omega
end Go.Proofs.YtaghdbbcadhjdaaGreatDoor
namespace Go.Proofs.YtaghdbbcadhjdaaGreatDoor
open Go Go.Aw Go.Cox
end Go.Proofs.YtaghdbbcadhjdaaGreatDoor
namespace Go.Proofs.YtaghdbbcadhjdaaGreatDoor
open Go Go.Aw Go.Cox
end Go.Proofs.YtaghdbbcadhjdaaGreatDoor
namespace Go.Proofs.YtaghdbbcadhjdaaGreatDoor
open Go Go.Aw Go.Cox
end Go.Proofs.YtaghdbbcadhjdaaGreatDoor
namespace Go.Proofs.YtaghdbbcadhjdaaGreatDoor
open Go Go.Aw Go.Cox
def lin (a : Int) (x : List Int) (b : Int) (y : List Int) : List Int := List.zipWith (fun p q => a * p - b * q) x y
def rowS (M : List (List Int)) (r c k : Nat) : List Int := lin ((M.getD r []).getD c 0) (M.getD k []) ((M.getD k []).getD c 0) (M.getD r [])
def rowI (M : List (List Int)) (r c k : Nat) : List Int := if (M.getD k []).getD c 0 = 0 then M.getD k [] else rowS M r c k
def elim (g : List (List Int) → Nat → List Int) : Nat → Nat → List (List Int) → List (List Int)
  | 0, _, M => M
  | f + 1, k, M => elim g f (k + 1) (M.set k (g M k))
theorem lin_len (a : Int) (x : List Int) (b : Int) (y : List Int) : (lin a x b y).length = min x.length y.length := by simp [lin]
theorem lin_get (a : Int) (x : List Int) (b : Int) (y : List Int) {j : Nat} (h : j < x.length) (h2 : j < y.length) : (lin a x b y).getD j 0 = a * x.getD j 0 - b * y.getD j 0 := by
  simp [lin, List.getD, List.getElem?_zipWith, List.getElem?_eq_getElem h, List.getElem?_eq_getElem h2]
theorem getD_out {x : List Int} {j : Nat} (h : x.length ≤ j) : x.getD j 0 = 0 := by simp [List.getD, List.getElem?_eq_none h]
theorem mul_bnd {b p q : Int} (hp : -b ≤ p ∧ p ≤ b) (hq : -b ≤ q ∧ q ≤ b) : -(b * b) ≤ p * q ∧ p * q ≤ b * b := by
  have h : (p * q).natAbs ≤ (b * b).natAbs := by
    rw [Int.natAbs_mul, Int.natAbs_mul]
    exact Nat.mul_le_mul (by omega) (by omega)
  have h0 : 0 ≤ b * b := Int.mul_nonneg (by omega) (by omega)
  omega
theorem lin_bnd {b m : Int} {x y : List Int} {p q : Int} (hm : 2 * (b * b) ≤ m) (hb : 0 ≤ b) (hx : Bnd b x) (hy : Bnd b y) (hp : -b ≤ p ∧ p ≤ b) (hq : -b ≤ q ∧ q ≤ b) : Bnd m (lin p x q y) := by
  intro z hz
  unfold lin at hz
  rw [List.mem_iff_getElem] at hz
  obtain ⟨i, hi, rfl⟩ := hz
  rw [List.getElem_zipWith]
  simp only [List.length_zipWith] at hi
  have h1 := hx _ (List.getElem_mem (l := x) (n := i) (by omega))
  have h2 := hy _ (List.getElem_mem (l := y) (n := i) (by omega))
  have e1 := mul_bnd hp h1
  have e2 := mul_bnd hq h2
  omega
def OKM (n : Nat) (b : Int) (M : List (List Int)) : Prop := M.length = n ∧ ∀ k, k < n → (M.getD k []).length = n ∧ Bnd b (M.getD k [])
def beta : Nat → Int
  | 0 => 8
  | 1 => 128
  | 2 => 32768
  | _ => 2147483648
theorem beta_pos (r : Nat) : 8 ≤ beta r ∧ beta r ≤ 2147483648 := by
  match r with
  | 0 => decide
  | 1 => decide
  | 2 => decide
  | n + 3 => simp [beta]
theorem beta_sq {r : Nat} (h : r ≤ 2) : 2 * (beta r * beta r) ≤ beta (r + 1) := by
  match r, h with
  | 0, _ => decide
  | 1, _ => decide
  | 2, _ => decide
theorem Bnd.mono {a b : Int} (h : a ≤ b) {x : List Int} (hx : Bnd a x) : Bnd b x := fun y hy => by have := hx y hy; omega
theorem Bnd.at' {b : Int} (hb : 0 ≤ b) {x : List Int} (hx : Bnd b x) (j : Nat) : -b ≤ x.getD j 0 ∧ x.getD j 0 ≤ b := by
  by_cases h : j < x.length
  · rw [getD_eq h]; exact hx _ (List.getElem_mem h)
  · rw [getD_out (by omega)]; omega
def Mid (n r k : Nat) (M : List (List Int)) : Prop := OKM n (beta (r + 1)) M ∧ ∀ j, j < n → (j ≤ r ∨ k ≤ j) → Bnd (beta r) (M.getD j [])
theorem set_get (M : List (List Int)) (k j : Nat) (x : List Int) (hk : k < M.length) : (M.set k x).getD j [] = if j = k then x else M.getD j [] := by
  simp only [List.getD, List.getElem?_set]
  by_cases h : k = j
  · subst h; simp [hk]
  · rw [if_neg h, if_neg (Ne.symm h)]
theorem Mid.row {n r k c : Nat} {M : List (List Int)} (h : Mid n r k M) (hk : k < n) (hr : r < k) (hn : n ≤ 4) : (rowS M r c k).length = n ∧ Bnd (beta (r + 1)) (rowS M r c k) := by
  obtain ⟨⟨h1, h2⟩, h3⟩ := h
  refine ⟨by unfold rowS; rw [lin_len, (h2 k hk).1, (h2 r (by omega)).1]; omega, ?_⟩
  have b0 := beta_pos r
  have b1 := h3 k hk (.inr (Nat.le_refl _))
  have b2 := h3 r (by omega) (.inl (Nat.le_refl _))
  exact lin_bnd (beta_sq (by omega)) (by omega) b1 b2 (b2.at' (by omega) c) (b1.at' (by omega) c)
theorem Mid.put {n r k : Nat} {M : List (List Int)} {x : List Int} (h : Mid n r k M) (hk : k < n) (hr : r < k) (hx : x.length = n ∧ Bnd (beta (r + 1)) x) : Mid n r (k + 1) (M.set k x) := by
  obtain ⟨⟨h1, h2⟩, h3⟩ := h
  refine ⟨⟨by simp [h1], fun j hj => ?_⟩, fun j hj hjk => ?_⟩
  · rw [set_get _ _ _ _ (by omega)]
    split
    · exact hx
    · exact h2 j hj
  · rw [set_get _ _ _ _ (by omega), if_neg (by omega)]
    exact h3 j hj (by omega)
def MulM (n : Nat) (M N : List (List Int)) : Prop := N.length = M.length ∧ ∀ k, k < M.length → (M.getD k []).length = n ∧ (N.getD k []).length = n ∧ ∃ l : Int, l ≠ 0 ∧ ∀ j, (N.getD k []).getD j 0 = l * (M.getD k []).getD j 0
theorem MulM.zero {n : Nat} {M N : List (List Int)} (h : MulM n M N) {k : Nat} (hk : k < M.length) (c : Nat) : (N.getD k []).getD c 0 = 0 ↔ (M.getD k []).getD c 0 = 0 := by
  obtain ⟨_, _, l, hl, h2⟩ := h.2 k hk
  rw [h2 c, Int.mul_eq_zero]
  simp [hl]
theorem MulM.put {n : Nat} {M N : List (List Int)} (h : MulM n M N) {r c k : Nat} (hr : r < k) (hk : k < M.length) (hp : (M.getD r []).getD c 0 ≠ 0) : MulM n (M.set k (rowI M r c k)) (N.set k (rowS N r c k)) := by
  have hl := h.1
  obtain ⟨a1, a2, l, hl0, a3⟩ := h.2 k hk
  obtain ⟨b1, b2, m, hm0, b3⟩ := h.2 r (by omega)
  refine ⟨by simp [hl], fun j hj => ?_⟩
  simp only [List.length_set] at hj
  rw [set_get _ _ _ _ hk, set_get _ _ _ _ (by omega)]
  by_cases hjk : j = k
  · rw [if_pos hjk, if_pos hjk]
    have hS : (rowS N r c k).length = n := by unfold rowS; rw [lin_len, a2, b2]; omega
    have gS : ∀ j, j < n → (rowS N r c k).getD j 0 = (N.getD r []).getD c 0 * (N.getD k []).getD j 0 - (N.getD k []).getD c 0 * (N.getD r []).getD j 0 := fun j hj => by
      unfold rowS; rw [lin_get _ _ _ _ (by omega) (by omega)]
    unfold rowI
    by_cases h0 : (M.getD k []).getD c 0 = 0
    · rw [if_pos h0]
      refine ⟨a1, hS, m * (M.getD r []).getD c 0 * l, ?_, fun j => ?_⟩
      · exact Int.mul_ne_zero (Int.mul_ne_zero hm0 hp) hl0
      · by_cases hj : j < n
        · rw [gS j hj, a3 c, h0, a3 j, b3 c, Int.mul_zero, Int.zero_mul, Int.sub_zero]; simp only [Int.mul_assoc]
        · rw [getD_out (x := rowS N r c k) (by omega), getD_out (x := M.getD k []) (by omega), Int.mul_zero]
    · rw [if_neg h0]
      have hM : (rowS M r c k).length = n := by unfold rowS; rw [lin_len, a1, b1]; omega
      refine ⟨hM, hS, m * l, Int.mul_ne_zero hm0 hl0, fun j => ?_⟩
      by_cases hj : j < n
      · rw [gS j hj, a3 c, a3 j, b3 c, b3 j]
        unfold rowS
        rw [lin_get _ _ _ _ (by omega) (by omega), Int.mul_sub]
        congr 1
        · rw [Int.mul_assoc, Int.mul_left_comm ((M.getD r []).getD c 0), Int.mul_assoc]
        · rw [Int.mul_comm m l, Int.mul_assoc l m, Int.mul_assoc l, Int.mul_left_comm m]
      · rw [getD_out (x := rowS N r c k) (by omega), getD_out (x := rowS M r c k) (by omega), Int.mul_zero]
  · rw [if_neg hjk, if_neg hjk]; exact h.2 j hj
theorem MulM.elim {n r c : Nat} : ∀ (f k : Nat) {M N : List (List Int)}, MulM n M N → r < k → k + f ≤ M.length → (M.getD r []).getD c 0 ≠ 0 → MulM n (elim (fun N k => rowI N r c k) f k M) (elim (fun N k => rowS N r c k) f k N)
  | 0, k, M, N, h, _, _, _ => h
  | f + 1, k, M, N, h, hr, hk, hp => by
    simp only [Go.Proofs.YtaghdbbcadhjdaaGreatDoor.elim]
    refine MulM.elim f (k + 1) (h.put hr (by omega) hp) (by omega) (by simp; omega) ?_
    rw [set_get _ _ _ _ (by omega), if_neg (by omega)]
    exact hp
theorem MulM.refl {n : Nat} {b : Int} {M : List (List Int)} (h : OKM n b M) : MulM n M M :=
  ⟨rfl, fun k hk => ⟨(h.2 k (by rw [← h.1]; exact hk)).1, (h.2 k (by rw [← h.1]; exact hk)).1, 1, by decide, fun j => by rw [Int.one_mul]⟩⟩
end Go.Proofs.YtaghdbbcadhjdaaGreatDoor
namespace Go.Proofs.YtaghdbbcadhjdaaGreatDoor
open Go Go.Aw Go.Cox
theorem Mid.skip {n r k : Nat} {M : List (List Int)} (h : Mid n r k M) (_ : k < n) : Mid n r (k + 1) M :=
  ⟨h.1, fun j hj hjk => h.2 j hj (by omega)⟩
end Go.Proofs.YtaghdbbcadhjdaaGreatDoor
namespace Go.Proofs.YtaghdbbcadhjdaaGreatDoor
open Go Go.Aw Go.Cox
end Go.Proofs.YtaghdbbcadhjdaaGreatDoor
namespace Go.Proofs.YtaghdbbcadhjdaaGreatDoor
open Go Go.Aw Go.Cox
end Go.Proofs.YtaghdbbcadhjdaaGreatDoor
namespace Go.Proofs.YtaghdbbcadhjdaaGreatDoor
open Go Go.Aw Go.Cox
noncomputable def mulB (c : List (List Int)) (a b : List Int) : Bool := wordB c a && wordB c b && decide ((redL c (a ++ b)).length ≤ 15)
noncomputable def mulX (c : List (List Int)) (a b : List Int) : List Int := if mulB c a b then redL c (a ++ b) else []
theorem mul_off {c : List (List Int)} {a b : List Int} (h : (wordB c a && wordB c b) = false) : mulB c a b = false ∧ mulX c a b = [] := by
  have : mulB c a b = false := by unfold mulB; rw [h]; rfl
  exact ⟨this, by simp [mulX, this]⟩
theorem mul_on {c : List (List Int)} {a b : List Int} (h : (wordB c a && wordB c b) = true) : mulB c a b = decide ((redL c (a ++ b)).length ≤ 15) ∧ mulX c a b = if (redL c (a ++ b)).length ≤ 15 then redL c (a ++ b) else [] := by
  have : mulB c a b = decide ((redL c (a ++ b)).length ≤ 15) := by unfold mulB; rw [h]; rfl
  exact ⟨this, by simp [mulX, this]⟩
theorem mulX_le (c : List (List Int)) (a b : List Int) : (mulX c a b).length ≤ 15 := by
  unfold mulX
  split
  · rename_i h; simp only [mulB, Bool.and_eq_true, decide_eq_true_eq] at h; exact h.2
  · simp
theorem c_impl_MultiplyElements (c : List (List Int)) (a b : List Int) (hcl : c.length ≤ 1048576) :
    FunA B 89 [.sl false (.row false) c, .sl false .int a, .sl false .int b] (fun rs o => rs = [.own 0 0, .bool (mulB c a b)] ∧ o = [.arr .int (mulX c a b) 0 true]) := by
  refine FunA.walk B_ok (fn := Tryz.f89) (fun vs w => Tryz.call89 vs w) Tryz.func89 rfl (by rw [Tryz.ntmps89]; simp) (fun C hC hP hT hΓ hbt hfn hpin hfin => ?_); have hX := BX; rw [← hΓ, ← hbt.1, ← hbt.2.1, ← hbt.2.2.1] at hX; rw [Tryz.ntmps89]; simp only [AW7, simprocAttr, hX]
  refine Run.R ?_
  by_cases ha : wordB c a = true
  rotate_left
  · have ha : wordB c a = false := by simpa using ha
    obtain ⟨e1, e2⟩ := mul_off (c := c) (a := a) (b := b) (by rw [ha]; rfl)
    refine Run.nq ?_; refine Run.regionW hC (fun K hK => ?_); refine wW ?_
    refine FunA.cW hP hT (c_impl_IsWord c a) ?_
    rintro rs o ⟨rfl, rfl⟩
    simp only [ha]
    refine wW ?_
    refine .inl (CallG.off (.bool false) ?_)
    refine wW ?_
    refine wE ?_; clear hK K
    refine Run.nq ?_; refine Run.cW ?_ ?_
    rotate_left
    · intro h; cases h
    intro _
    refine Run.R ?_
    refine Run.reK hpin [6, 7] [0] (by decide) (by simp) ?_; simp only [AR, AW7, simprocAttr]
    refine Run.rW [6, 7] (hfin _ _ rfl rfl ?_)
    rw [e1, e2]; exact ⟨rfl, rfl⟩
  refine Run.nq ?_; refine Run.regionW hC (fun K hK => ?_); refine wW ?_
  refine FunA.cW hP hT (c_impl_IsWord c a) ?_
  rintro rs o ⟨rfl, rfl⟩
  simp only [ha]
  refine wW ?_
  refine .inr ⟨rfl, ?_⟩
  refine FunA.cW hP hT (c_impl_IsWord c b) ?_
  rintro rs o ⟨rfl, rfl⟩
  refine wW ?_
  refine wE ?_; clear hK K
  refine Run.nq ?_; refine Run.cW ?_ ?_
  · intro h
    have hb : wordB c b = false := by simpa using h
    obtain ⟨e1, e2⟩ := mul_off (c := c) (a := a) (b := b) (by rw [ha, hb]; rfl)
    refine Run.R ?_
    refine Run.reK hpin [6, 7] [0] (by decide) (by simp) ?_; simp only [AR, AW7, simprocAttr]
    refine Run.rW [6, 7] (hfin _ _ rfl rfl ?_)
    rw [e1, e2]; exact ⟨rfl, rfl⟩
  intro h
  have hb : wordB c b = true := by simpa using h
  obtain ⟨e1, e2⟩ := mul_on (c := c) (a := a) (b := b) (by rw [ha, hb]; rfl)
  obtain ⟨hc, a1, a2⟩ := wordB_iff.1 ha
  obtain ⟨_, b1, b2⟩ := wordB_iff.1 hb
  have hlet : letters c.length (a ++ b) := letters_append.2 ⟨a2, b2⟩
  have hll : (a ++ b).length ≤ 30 := by simp; omega
  refine Run.nq ?_; refine Run.regionW hC (fun K hK => ?_); refine wW ?_
  refine FunA.cW hP hT (c_impl_ConcatWords a b (by omega) (by omega)) ?_
  rintro rs o ⟨nn2, rfl, rfl⟩
  refine wW ?_
  refine FunA.cW hP hT (c_impl_reduced c (a ++ b) hc hlet (by omega)) ?_
  rintro rs o ⟨rfl, rfl⟩
  refine wW ?_
  refine wE ?_; clear hK K
  refine Run.R ?_
  refine Run.nq ?_; refine Run.cW ?_ ?_
  · intro h
    have h : ¬ (redL c (a ++ b)).length ≤ 15 := by simp at h; omega
    refine Run.R ?_
    refine Run.reK hpin [6, 7] [2] (by decide) (by simp) ?_; simp only [AR, AW7, simprocAttr]
    refine Run.rW [6, 7] (hfin _ _ rfl rfl ?_)
    rw [e1, e2, if_neg h]; exact ⟨by simp [h], rfl⟩
  intro h
  have h : (redL c (a ++ b)).length ≤ 15 := by simp at h; omega
  refine Run.R ?_
  refine Run.reK hpin [6, 7] [1] (by decide) (by simp) ?_; simp only [AR, AW7, simprocAttr]
  refine Run.rW [6, 7] (hfin _ _ rfl rfl ?_)
  rw [e1, e2, if_pos h]; exact ⟨by simp [h], rfl⟩
theorem c_spec_MultiplyElements (c : List (List Int)) (a b : List Int) (hcl : c.length ≤ 1048576) :
    FunA B 86 [.sl false (.row false) c, .sl false .int a, .sl false .int b] (fun rs o => rs = [.own 0 0, .bool (mulB c a b)] ∧ o = [.arr .int (mulX c a b) 0 true]) := by
  refine FunA.walk B_ok (fn := Tryz.f86) (fun vs w => Tryz.call86 vs w) Tryz.func86 rfl (by rw [Tryz.ntmps86]; simp) (fun C hC hP hT hΓ hbt hfn hpin hfin => ?_); have hX := BX; rw [← hΓ, ← hbt.1, ← hbt.2.1, ← hbt.2.2.1] at hX; rw [Tryz.ntmps86]; simp only [AW7, simprocAttr, hX]
  refine Run.R ?_
  by_cases ha : wordB c a = true
  rotate_left
  · have ha : wordB c a = false := by simpa using ha
    obtain ⟨e1, e2⟩ := mul_off (c := c) (a := a) (b := b) (by rw [ha]; rfl)
    refine Run.nq ?_; refine Run.regionW hC (fun K hK => ?_); refine wW ?_
    refine FunA.cW hP hT (c_spec_IsWord c a hcl) ?_
    rintro rs o ⟨rfl, rfl⟩
    simp only [ha]
    refine wW ?_
    refine .inl (CallG.off (.bool false) ?_)
    refine wW ?_
    refine wE ?_; clear hK K
    refine Run.nq ?_; refine Run.cW ?_ ?_
    rotate_left
    · intro h; cases h
    intro _
    refine Run.R ?_
    refine Run.reK hpin [6, 7] [0] (by decide) (by simp) ?_; simp only [AR, AW7, simprocAttr]
    refine Run.rW [6, 7] (hfin _ _ rfl rfl ?_)
    rw [e1, e2]; exact ⟨rfl, rfl⟩
  refine Run.nq ?_; refine Run.regionW hC (fun K hK => ?_); refine wW ?_
  refine FunA.cW hP hT (c_spec_IsWord c a hcl) ?_
  rintro rs o ⟨rfl, rfl⟩
  simp only [ha]
  refine wW ?_
  refine .inr ⟨rfl, ?_⟩
  refine FunA.cW hP hT (c_spec_IsWord c b hcl) ?_
  rintro rs o ⟨rfl, rfl⟩
  refine wW ?_
  refine wE ?_; clear hK K
  refine Run.nq ?_; refine Run.cW ?_ ?_
  · intro h
    have hb : wordB c b = false := by simpa using h
    obtain ⟨e1, e2⟩ := mul_off (c := c) (a := a) (b := b) (by rw [ha, hb]; rfl)
    refine Run.R ?_
    refine Run.reK hpin [6, 7] [0] (by decide) (by simp) ?_; simp only [AR, AW7, simprocAttr]
    refine Run.rW [6, 7] (hfin _ _ rfl rfl ?_)
    rw [e1, e2]; exact ⟨rfl, rfl⟩
  intro h
  have hb : wordB c b = true := by simpa using h
  obtain ⟨e1, e2⟩ := mul_on (c := c) (a := a) (b := b) (by rw [ha, hb]; rfl)
  obtain ⟨hc, a1, a2⟩ := wordB_iff.1 ha
  obtain ⟨_, b1, b2⟩ := wordB_iff.1 hb
  have hlet : letters c.length (a ++ b) := letters_append.2 ⟨a2, b2⟩
  have hll : (a ++ b).length ≤ 30 := by simp; omega
  refine Run.nq ?_; refine Run.regionW hC (fun K hK => ?_); refine wW ?_
  refine FunA.cW hP hT (c_spec_ConcatWords a b (by omega) (by omega)) ?_
  rintro rs o ⟨rfl, rfl⟩
  refine wW ?_
  refine FunA.cW hP hT (c_spec_l9Fit c (a ++ b) hc hlet (by omega)) ?_
  rintro rs o ⟨rfl, rfl⟩
  refine wW ?_
  refine wE ?_; clear hK K
  refine Run.R ?_
  refine Run.reK hpin [6, 7] [1] (by decide) (by simp) ?_; simp only [AR, AW7, simprocAttr]
  refine Run.rW [6, 7] (hfin _ _ rfl rfl ?_)
  rw [e1, e2]; exact ⟨rfl, rfl⟩
end Go.Proofs.YtaghdbbcadhjdaaGreatDoor
namespace Go.Proofs.YtaghdbbcadhjdaaGreatDoor
open Go Go.Aw
end Go.Proofs.YtaghdbbcadhjdaaGreatDoor
namespace Go.Proofs.YtaghdbbcadhjdaaGreatDoor
open Go Go.Aw Go.Cox
end Go.Proofs.YtaghdbbcadhjdaaGreatDoor
namespace Go.Proofs.YtaghdbbcadhjdaaGreatDoor
open Go Go.Aw
noncomputable def sameB (c : List (List Int)) (u v : List Int) : Bool := wordB c u && wordB c v && (imageL c u == imageL c v)
end Go.Proofs.YtaghdbbcadhjdaaGreatDoor
