/- The elements below an element in the weak order: what the program does. -/
import Derived.Test.YtaghdbbcadhjdaaGreatDoorB11
import Derived.Test.YtaghdbbcadhjdaaGreatDoorB17
import Derived.Test.YtaghdbbcadhjdaaGreatDoorB8
import Derived.Test.YtaghdbbcadhjdaaGreatDoorB10
import Derived.Test.YtaghdbbcadhjdaaGreatDoorB14
set_option linter.unusedVariables false
set_option linter.unusedSimpArgs false
namespace Go.Proofs.YtaghdbbcadhjdaaGreatDoor
open Go Go.Aw Go.Cox
def Seen (n : Nat) (ys : List (Nat × List Int)) (l : List (MK × MV)) : Prop :=
  (lb1 ys).Nodup ∧ (rw2 ys).Nodup ∧ (∀ z ∈ rw2 ys, letters n z) ∧ ∀ z, letters n z → (mgetB l (.str (fmtW z)) = true ↔ z ∈ rw2 ys)
theorem Seen.add {n : Nat} (hn : n ≤ 4) {ys : List (Nat × List Int)} {l : List (MK × MV)} (h : Seen n ys l) {x : List Int} (hx : letters n x) {q : Nat} (hq : ∀ p ∈ ys, p.1 ≠ q) (hnew : mgetB l (.str (fmtW x)) = false) : Seen n (ys ++ [(q, x)]) (mput l (.str (fmtW x)) (.bool true)) := by
  have up : ∀ z, letters n z → letters 4 z := fun z hz i hi => by have := hz i hi; omega
  obtain ⟨h1, h2, h3, h4⟩ := h
  have hnot : x ∉ rw2 ys := fun hm => by rw [(h4 x hx).2 hm] at hnew; cases hnew
  refine ⟨?_, ?_, fun z hz => ?_, fun z hz => ?_⟩
  · rw [lb1_app, List.nodup_append]
    refine ⟨h1, by simp [lb1], fun a ha b hb => ?_⟩
    simp [lb1] at hb
    obtain ⟨p, hp, rfl⟩ := List.mem_map.1 ha
    rw [hb]; exact hq p hp
  · rw [rw2_app, List.nodup_append]
    refine ⟨h2, by simp [rw2], fun a ha b hb => ?_⟩
    simp [rw2] at hb
    rw [hb]; intro e; exact hnot (e ▸ ha)
  · rw [rw2_app] at hz
    rcases List.mem_append.1 hz with hz | hz
    · exact h3 z hz
    · simp [rw2] at hz; rw [hz]; exact hx
  · rw [mgetB_put, rw2_app, List.mem_append]
    by_cases e : z = x
    · rw [e, if_pos rfl]; simp [rw2]
    · rw [if_neg (fun e2 => e (fmtW_inj (up z hz) (up x hx) (MK.str.inj e2))), h4 z hz]; simp [rw2, e]
end Go.Proofs.YtaghdbbcadhjdaaGreatDoor
namespace Go.Proofs.YtaghdbbcadhjdaaGreatDoor
open Go Go.Aw
theorem c_spec_l7In (rows : List (List Int)) (w : List Int) (hl : rows.length ≤ 1048576) (hr : ∀ r ∈ rows, r.length ≤ 1048576) :
    FunA B 94 [.sl false (.row false) rows, .sl false .int w] (fun rs o => rs = [.bool (decide (w ∈ rows))] ∧ o = []) := by
  refine FunA.walk B_ok (fn := Tryz.f94) (fun vs w => Tryz.call94 vs w) Tryz.func94 rfl (by rw [Tryz.ntmps94]; simp) (fun C hC hP hT hΓ hbt hfn hpin hfin => ?_); have hX := BX; rw [← hΓ, ← hbt.1, ← hbt.2.1, ← hbt.2.2.1] at hX; rw [hT] at hX; rw [Tryz.ntmps94]; simp only [AW7, simprocAttr, hX]
  refine Run.R ?_
  refine Run.R ?_
  refine Run.loopI (X := Nat) (fun i => ⟨18, [(0, true, .v (.sl false (.row false) (rows))), (1, true, .v (.sl false .int (w))), (5, true, .v (.int .i64 (i)))], []⟩) (fun i => i ≤ rows.length ∧ ∀ j, j < i → rows.getD j [] ≠ w) (fun i => rows.length - i) (0) (⟨Nat.zero_le _, fun j h => by omega⟩) ?_ ?_
  · exact Le.sub (by first | rfl | simp) (by simp only [AW7, simprocAttr, hX]; try simp <;> try (first | rfl | exact ⟨rfl, rfl⟩ | exact ⟨rfl, rfl, rfl⟩))
  rintro i ⟨hi, hne⟩ ih
  try simp only []
  refine Run.R ?_
  refine Run.nq ?_; refine Run.cW ?_ ?_
  rotate_left
  · intro h
    have h : i = rows.length := by rw [decide_eq_false_iff_not] at h; omega
    refine Run.exit rfl ?_; refine Run.nq ?_
    refine Run.R ?_
    refine Run.rW [4] (hfin _ _ rfl rfl ?_)
    have hm : ¬ w ∈ rows := fun hm => by
      obtain ⟨j, hj, e⟩ := List.getElem_of_mem hm
      exact hne j (by omega) (by rw [getD_eq hj]; exact e)
    exact ⟨by simp [hm], rfl⟩
  intro h
  have h : i < rows.length := by rw [decide_eq_true_eq] at h; omega
  have hri : (rows.getD i []).length ≤ 1048576 := hr _ (by rw [getD_eq h]; exact List.getElem_mem h)
  refine Run.nq ?_; refine Run.regionW hC (fun K hK => ?_); refine wW ?_
  refine FunA.cW hP hT (c_spec_EqualWords (rows.getD i []) w (by omega)) ?_
  rintro rs o ⟨rfl, rfl⟩
  refine wW ?_
  refine wE ?_; clear hK K
  refine Run.nq ?_; refine Run.cW ?_ ?_
  · intro h2
    have h2 : rows.getD i [] = w := by simpa using h2
    refine Run.R ?_
    refine Run.rW [4] (hfin _ _ rfl rfl ?_)
    have hm : w ∈ rows := by rw [← h2, getD_eq h]; exact List.getElem_mem h
    exact ⟨by simp [hm], rfl⟩
  intro h2
  have h2 : rows.getD i [] ≠ w := by intro e; rw [e] at h2; simp at h2
  have hne2 : ∀ j, j < i + 1 → rows.getD j [] ≠ w := fun j hj => by
    by_cases e : j = i
    · rw [e]; exact h2
    · exact hne j (by omega)
  refine Run.RW ?_
  refine Run.le ?_ (ih (i + 1) (⟨by omega, hne2⟩) (by (try simp only [List.length_append, List.length_cons, List.length_nil]); omega))
  exact Le.sub (by rfl) (by simp only [AW7, simprocAttr]; try simp)
end Go.Proofs.YtaghdbbcadhjdaaGreatDoor
namespace Go.Proofs.YtaghdbbcadhjdaaGreatDoor
open Go Go.Aw Go.Cox
theorem rwg (ys : List (Nat × List Int)) (k : Nat) : (ys.getD k (0, [])).2 = (rw2 ys).getD k [] := by
  unfold rw2
  simp only [List.getD, List.getElem?_map]
  cases ys[k]? <;> rfl
theorem rwl (ys : List (Nat × List Int)) : (rw2 ys).length = ys.length := by simp [rw2]
theorem putS_len (w : List Int) : ∀ (b : Bool) (l : List (List Int)), (putS w b l).length ≤ l.length + 1
  | b, [] => by cases b <;> simp [putS]
  | b, x :: l => by
    simp only [putS]
    split
    · rw [putS_true]; simp
    · have := putS_len w (b || cmpW w x == 0) l; simp; omega
theorem putS_keep (w : List Int) : ∀ (l : List (List Int)) (k : Nat), (∀ j, j ≤ k → j < l.length ∧ 0 < cmpW w (l.getD j [])) → ∀ j, j ≤ k → j < (putS w false l).length ∧ (putS w false l).getD j [] = l.getD j []
  | [], k, h, j, hj => by have := (h 0 (Nat.zero_le _)).1; simp at this
  | x :: l, k, h, j, hj => by
    have h0 : 0 < cmpW w x := (h 0 (Nat.zero_le _)).2
    simp only [putS]
    rw [if_neg (by omega), show (false || cmpW w x == 0) = false by simp; omega]
    cases j with
    | zero => exact ⟨by simp, rfl⟩
    | succ j =>
      cases k with
      | zero => omega
      | succ k =>
        have ih := putS_keep w l k (fun j hj => by
          have := h (j + 1) (by omega)
          exact ⟨by simpa using this.1, by simpa using this.2⟩) j (by omega)
        exact ⟨by simp; omega, by simpa using ih.2⟩
theorem cmp_long {a b : List Int} (h : a.length < b.length) : 0 < cmpW b a := by
  unfold cmpW
  rw [if_neg (by omega), if_pos (by omega)]; omega
theorem putS_keepk {w : List Int} {l : List (List Int)} (hs : StrictW l) {k : Nat} (hk : k < l.length) (hlt : (l.getD k []).length < w.length) : ∀ j, j ≤ k → j < (putS w false l).length ∧ (putS w false l).getD j [] = l.getD j [] :=
  putS_keep w l k fun j hj => by
    refine ⟨by omega, ?_⟩
    by_cases e : j = k
    · rw [e]; exact cmp_long hlt
    · have h1 := List.pairwise_iff_getElem.1 hs j k (by omega) hk (by omega)
      have h2 : cmpW (l.getD k []) w < 0 := by have := cmpW_neg w (l.getD k []); have := cmp_long hlt; omega
      rw [getD_eq hk] at h2
      have h3 := cmpW_lt_trans h1 h2
      rw [getD_eq (by omega : j < l.length)]
      have := cmpW_neg w l[j]
      omega
end Go.Proofs.YtaghdbbcadhjdaaGreatDoor
namespace Go.Proofs.YtaghdbbcadhjdaaGreatDoor
open Go Go.Aw Go.Cox
theorem red_app {c : List (List Int)} (hc : CartanP c) {u : List Int} (hu : letters c.length u) (hl : u.length ≤ 31) (b : List Int) : redL c (redL c u ++ b) = redL c (u ++ b) := by
  obtain ⟨a1, _, _, a4, _⟩ := red_spec hc hu hl
  refine red_eq ?_
  rw [image_append, image_append]
  exact same_elt hc a1 hu a4 (imageL_length c _)
theorem nf_up {c : List (List Int)} (hc : CartanP c) {L : List (List Int)} (h0 : [] ∈ L) (hD : ∀ y ∈ L, ∀ i, i < c.length → y.length < (redL c (y ++ [(i : Int)])).length → redL c (y ++ [(i : Int)]) ∈ L) : ∀ (n : Nat) (w : List Int), Nf c w → w.length = n → w ∈ L := by
  intro n
  induction n using Nat.strongRecOn with
  | ind n ih =>
    intro w hw hl
    rcases List.eq_nil_or_concat w with rfl | ⟨u, i, rfl⟩
    · exact h0
    rw [List.concat_eq_append] at hw hl ⊢
    obtain ⟨l1, l2⟩ := letters_append.1 hw.1
    obtain ⟨l3, _⟩ := letters_cons.1 l2
    have hul : u.length + 1 = n := by simpa using hl
    have hu30 : u.length ≤ 30 := by have := hw.2.2; simp at this; omega
    obtain ⟨a1, a2, _, _, _⟩ := red_spec hc l1 (by omega)
    have hy : Nf c (redL c u) := nf_red hc l1 (by omega) (by omega)
    have hin := ih (redL c u).length (by omega) _ hy rfl
    obtain ⟨k, hk⟩ : ∃ k : Nat, i = (k : Int) := ⟨i.toNat, by omega⟩
    subst hk
    have e : redL c (redL c u ++ [(k : Int)]) = u ++ [(k : Int)] := by rw [red_app hc l1 (by omega)]; exact hw.2.1
    have := hD _ hin k (by omega) (by rw [e]; simp; omega)
    rwa [e] at this
def DoneA (c : List (List Int)) (L : List (List Int)) (k : Nat) : Prop := ∀ j, j < L.length → j < k → ∀ a, a < c.length → (L.getD j []).length < (redL c (L.getD j [] ++ [(a : Int)])).length → redL c (L.getD j [] ++ [(a : Int)]) ∈ L
theorem mem_rwk {ys : List (Nat × List Int)} {z : List Int} : z ∈ rw2 ys ↔ ∃ j, j < ys.length ∧ (rw2 ys).getD j [] = z := by
  constructor
  · intro h
    obtain ⟨j, hj, e⟩ := List.getElem_of_mem h
    rw [rwl] at hj
    exact ⟨j, hj, by rw [List.getD_eq_getElem?_getD, List.getElem?_eq_getElem (by rw [rwl]; exact hj), Option.getD_some]; exact e⟩
  · rintro ⟨j, hj, rfl⟩
    rw [List.getD_eq_getElem?_getD, List.getElem?_eq_getElem (by rw [rwl]; exact hj)]
    exact List.getElem_mem _
set_option maxHeartbeats 2000000 in
theorem c_spec_l13All (c : List (List Int)) (hF : FinP c) (hs : (allL c).length ≤ 200) : FunA B 63 [.sl false (.row false) c] (fun rs o => rs = [.own 0 0] ∧ ∃ ys, (rw2 ys = allL c ∧ (lb1 ys).Nodup) ∧ o = [.arr .lrow ys 0 true]) := by
  have hc := hF.1
  have hn := hc.2.1
  have hall := allL_spec hF
  have hlen : ∀ {ys : List (Nat × List Int)}, StrictW (rw2 ys) → (∀ z ∈ rw2 ys, Nf c z) → ys.length ≤ 200 := fun {ys} h1 h2 => by
    have hnd : (rw2 ys).Nodup := List.Pairwise.imp (fun {a b} h e => by rw [e, cmpW_self] at h; omega) h1
    have := nodup_le hnd (fun z hz => (hall.2 z).2 (h2 z hz))
    rw [rwl] at this
    omega
  refine FunA.walk B_ok (fn := Tryz.f63) (fun vs w => Tryz.call63 vs w) Tryz.func63 rfl (by rw [Tryz.ntmps63]; simp) (fun C hC hP hT hΓ hbt hfn hpin hfin => ?_); have hX := BX; rw [← hΓ, ← hbt.1, ← hbt.2.1, ← hbt.2.2.1] at hX; rw [hT] at hX; rw [Tryz.ntmps63]; simp only [AW7, simprocAttr, hX]
  refine Run.R ?_
  refine Run.nq ?_; refine Run.regionW hC (fun K hK => ?_); refine wW ?_
  intro q hq
  refine wW ?_
  refine wE ?_; clear hK K
  refine Run.R ?_
  refine Run.reK hpin [0, 2, 3, 4] [1] (by decide) (by simp) ?_; simp only [AR, AW7, simprocAttr]
  refine Run.loopI (X := Nat × List (Nat × List Int)) (fun s => ⟨48, [(0, true, .v (.sl false (.row false) (c))), (2, true, .v (.nils)), (3, true, .v (.own 0 0)), (4, true, .v (.int .i64 (s.1)))], [.arr .lrow (s.2) 0 true]⟩) (fun s => s.1 ≤ s.2.length ∧ (lb1 s.2).Nodup ∧ StrictW (rw2 s.2) ∧ (∀ z ∈ rw2 s.2, Nf c z) ∧ [] ∈ rw2 s.2 ∧ DoneA c (rw2 s.2) s.1) (fun s => 201 - s.1) ((0, [(q, [])])) (⟨Nat.zero_le _, by simp [lb1], by unfold StrictW; simp [rw2], fun z hz => by simp [rw2] at hz; rw [hz]; exact ((outS_mem hc (show 0 ≤ 30 by omega) []).1 (by simp [outS])).1, by simp [rw2], fun j _ hj => by omega⟩) ?_ ?_
  · exact Le.sub (by first | rfl | simp) (by simp only [AW7, simprocAttr, hX]; try simp <;> try (first | rfl | exact ⟨rfl, rfl⟩ | exact ⟨rfl, rfl, rfl⟩))
  rintro ⟨k, ys⟩ ⟨hk, hN, hS, hP, h0m, hD⟩ ihO
  try simp only []
  simp only [] at hk hN hS hP h0m hD
  clear hq
  have hyl := hlen hS hP
  refine Run.R ?_
  refine Run.nq ?_; refine Run.cW ?_ ?_
  rotate_left
  · intro h3
    have hke : k = ys.length := by rw [decide_eq_false_iff_not] at h3; omega
    have hup := nf_up hc h0m (fun y hy i hi hlt => by
      obtain ⟨j, hj, rfl⟩ := mem_rwk.1 hy
      exact hD j (by rw [rwl]; exact hj) (by omega) i hi hlt)
    refine Run.exit rfl ?_; refine Run.nq ?_
    refine Run.R ?_
    refine Run.reK hpin [2] [0] (by decide) (by simp) ?_; simp only [AR, AW7, simprocAttr]
    refine Run.rW [2] (hfin _ _ rfl rfl ?_)
    exact ⟨rfl, ys, ⟨strict_ext hS hall.1 (fun z => ⟨fun hz => (hall.2 z).2 (hP z hz), fun hz => hup _ z ((hall.2 z).1 hz) rfl⟩), hN⟩, rfl⟩
  intro h3
  have h3 : k < ys.length := by rw [decide_eq_true_eq] at h3; omega
  have hgk : (rw2 ys).getD k [] ∈ rw2 ys := mem_rwk.2 ⟨k, h3, rfl⟩
  have hgy := rwg ys k
  refine Run.R ?_
  refine Run.reK hpin [0, 2, 3, 4, 5] [0] (by decide) (by simp) ?_; simp only [AR, AW7, simprocAttr]
  generalize hy : (rw2 ys).getD k [] = y at *
  have hny := hP y hgk
  have hy24 := fin_len hF _ (hny.far hc)
  refine Run.loopI (X := Nat × List (Nat × List Int)) (fun s => ⟨48, [(0, true, .v (.sl false (.row false) (c))), (2, true, .v (.nils)), (3, true, .v (.own 0 0)), (4, true, .v (.int .i64 (k))), (5, true, .v (.int .i64 (s.1)))], [.arr .lrow (s.2) 0 true]⟩) (fun s => (s.1 ≤ c.length ∧ k < s.2.length) ∧ (lb1 s.2).Nodup ∧ StrictW (rw2 s.2) ∧ (∀ z ∈ rw2 s.2, Nf c z) ∧ [] ∈ rw2 s.2 ∧ DoneA c (rw2 s.2) k ∧ (rw2 s.2).getD k [] = y ∧ ∀ a, a < s.1 → y.length < (redL c (y ++ [(a : Int)])).length → redL c (y ++ [(a : Int)]) ∈ rw2 s.2) (fun s => c.length - s.1) ((0, ys)) (⟨⟨Nat.zero_le _, h3⟩, hN, hS, hP, h0m, hD, hy, fun a ha => by simp only [] at ha; omega⟩) ?_ ?_
  · exact Le.sub (by first | rfl | simp) (by simp only [AW7, simprocAttr, hX]; try simp <;> try (first | rfl | exact ⟨rfl, rfl⟩ | exact ⟨rfl, rfl, rfl⟩))
  rintro ⟨i, zs⟩ ⟨⟨hi, hkz⟩, hN2, hS2, hP2, h0m2, hD2, hy2, hM2⟩ ihK
  try simp only []
  simp only [] at hi hkz hN2 hS2 hP2 h0m2 hD2 hy2 hM2
  clear hN hS hP h0m hD hgy hgk hy hyl h3
  have hzl := hlen hS2 hP2
  refine Run.R ?_
  refine Run.nq ?_; refine Run.cW ?_ ?_
  rotate_left
  · intro h4
    have h4 : i = c.length := by rw [decide_eq_false_iff_not] at h4; omega
    subst h4
    have hD3 : DoneA c (rw2 zs) (k + 1) := by
      intro j hj hjk a ha
      by_cases e : j = k
      · rw [e, hy2]; exact hM2 a ha
      · exact hD2 j hj (by omega) a ha
    refine Run.exit rfl ?_; refine Run.nq ?_
    refine Run.RW ?_
    refine Run.reK hpin [0, 2, 3, 4] [0] (by decide) (by simp) ?_; simp only [AR, AW7, simprocAttr]
    refine Run.le ?_ (ihO ((k + 1, zs)) (⟨hkz, hN2, hS2, hP2, h0m2, hD3⟩) (by (try simp only [List.length_append, List.length_cons, List.length_nil]); omega))
    exact Le.sub (by rfl) (by simp only [AW7, simprocAttr]; try simp)
  intro h4
  have h4 : i < c.length := by rw [decide_eq_true_eq] at h4; omega
  have hgz := rwg zs k
  rw [hy2] at hgz
  have hlw : letters c.length (y ++ [(i : Int)]) := letters_append.2 ⟨hny.1, letter1 h4⟩
  have hwl : (y ++ [(i : Int)]).length = y.length + 1 := by simp
  obtain ⟨a1, a2, a3, _, _⟩ := red_spec hc hlw (by omega)
  have hnx : Nf c (redL c (y ++ [(i : Int)])) := nf_red hc hlw (by omega) (by omega)
  have hcn := c_spec_l8Normal c (y ++ [(i : Int)]) hc hlw (by omega)
  have hM3 : ∀ ts : List (Nat × List Int), (∀ z ∈ rw2 zs, z ∈ rw2 ts) → (y.length < (redL c (y ++ [(i : Int)])).length → redL c (y ++ [(i : Int)]) ∈ rw2 ts) → ∀ a, a < i + 1 → y.length < (redL c (y ++ [(a : Int)])).length → redL c (y ++ [(a : Int)]) ∈ rw2 ts := by
    intro ts h1 h2 a ha hlt
    by_cases e : a = i
    · subst e; exact h2 hlt
    · exact h1 _ (hM2 a (by omega) hlt)
  generalize hx : redL c (y ++ [(i : Int)]) = x at hcn hnx a1 a2 a3 hM3
  have hrl : ∀ r ∈ zs.map (·.2), r.length ≤ 1048576 := fun r hr => by
    have := (hP2 r hr).2.2; omega
  refine Run.nq ?_; refine Run.regionW hC (fun K hK => ?_); refine wW ?_
  try simp only [hgz]
  refine FunA.cW hP hT (c_spec_ConcatWords y [(i : Int)] (by omega) (by simp)) ?_
  rintro rs o ⟨rfl, rfl⟩
  refine wW ?_
  refine FunA.cW hP hT (hcn) ?_
  rintro rs o ⟨rfl, rfl⟩
  try rw [hx]
  refine wW ?_
  refine wE ?_; clear hK K
  refine Run.reK hpin [0, 2, 3, 4, 5, 6] [0, 3] (by decide) (by simp) ?_; simp only [AR, AW7, simprocAttr]
  refine Run.nq ?_; refine Run.regionW hC (fun K hK => ?_); refine wW ?_
  try simp only [hgz]
  refine .inl (FunA.callG hP hT (c_spec_l7In (zs.map (·.2)) x (by simp; omega) hrl) (fun _ => rfl) (fun _ => by simp only [AW7, simprocAttr]) ?_)
  refine wW ?_
  refine wE ?_; clear hK K
  have hmap : zs.map (·.2) = rw2 zs := rfl
  rw [hmap]
  refine Run.nq ?_; refine Run.cW ?_ ?_
  · intro h5
    have h5 : y.length < x.length ∧ x ∉ rw2 zs := by
      by_cases hlt : y.length < x.length
      · rw [decide_eq_true (by omega)] at h5
        exact ⟨hlt, by simpa using h5⟩
      · rw [decide_eq_false (by omega)] at h5
        cases h5
    have hkr : k < (rw2 zs).length := by rw [rwl]; exact hkz
    have hkeep := putS_keepk hS2 (w := x) hkr (by rw [hy2]; exact h5.1)
    have hpl := putS_len x false (rw2 zs)
    rw [rwl] at hpl
    refine Run.nq ?_; refine Run.regionW hC (fun K hK => ?_); refine wW ?_
    refine FunM.call hP hT (c_spec_l11Put zs x hN2 (by omega) (by omega) true) 0 0 (by simp only [AW7, simprocAttr]; rfl) (by simp) rfl (by simp only [AW7, simprocAttr]; try simp) ?_
    rintro rs o' obs' ⟨rfl, ys', hE3, hN3, h7⟩
    obtain ⟨rfl, rfl⟩ := List.cons.inj h7
    refine wW ?_
    refine wE ?_; clear hK K
    rw [← hE3] at hkeep hpl
    rw [rwl] at hpl
    have hmem : ∀ t, t ∈ rw2 ys' ↔ t = x ∨ t ∈ rw2 zs := fun t => by rw [hE3]; exact putS_mem x _ t
    have hS3 : StrictW (rw2 ys') := by rw [hE3]; exact putS_strict x hS2
    have hP3 : ∀ t ∈ rw2 ys', Nf c t := fun t ht => by
      rcases (hmem t).1 ht with rfl | ht
      · exact hnx
      · exact hP2 t ht
    have hD3 : DoneA c (rw2 ys') k := fun j hj hjk a ha => by
      rw [(hkeep j (by omega)).2]
      intro hlt
      exact (hmem _).2 (.inr (hD2 j (by omega) hjk a ha hlt))
    have hy3 : (rw2 ys').getD k [] = y := by rw [(hkeep k (Nat.le_refl _)).2]; exact hy2
    have hk3 : k < ys'.length := by have := (hkeep k (Nat.le_refl _)).1; rw [rwl] at this; exact this
    refine Run.reK hpin [0, 2, 3, 4, 5] [2] (by decide) (by simp) ?_; simp only [AR, AW7, simprocAttr]
    refine Run.RW ?_
    refine Run.le ?_ (ihK ((i + 1, ys')) (⟨⟨h4, hk3⟩, hN3, hS3, hP3, (hmem _).2 (.inr h0m2), hD3, hy3, hM3 ys' (fun z hz => (hmem z).2 (.inr hz)) (fun _ => (hmem _).2 (.inl rfl))⟩) (by (try simp only [List.length_append, List.length_cons, List.length_nil]); omega))
    exact Le.sub (by rfl) (by simp only [AW7, simprocAttr]; try simp)
  intro h5
  have h5 : y.length < x.length → x ∈ rw2 zs := fun hlt => by
    rw [decide_eq_true (by omega)] at h5
    simpa using h5
  refine Run.reK hpin [0, 2, 3, 4, 5] [0] (by decide) (by simp) ?_; simp only [AR, AW7, simprocAttr]
  refine Run.RW ?_
  refine Run.le ?_ (ihK ((i + 1, zs)) (⟨⟨h4, hkz⟩, hN2, hS2, hP2, h0m2, hD2, hy2, hM3 zs (fun z hz => hz) h5⟩) (by (try simp only [List.length_append, List.length_cons, List.length_nil]); omega))
  exact Le.sub (by rfl) (by simp only [AW7, simprocAttr]; try simp)
noncomputable def elsB (c : List (List Int)) (n : Int) : Bool := isF c && decide (sizeE c ≤ n)
theorem elsB_fin {c : List (List Int)} {n : Int} (h : elsB c n = true) (hn : n ≤ 200) : FinP c ∧ ((allL c).length : Int) = sizeE c ∧ (allL c).length ≤ 200 ∧ 1 ≤ sizeE c ∧ sizeE c ≤ n := by
  unfold elsB at h
  rw [Bool.and_eq_true, decide_eq_true_eq] at h
  have hF := isF_iff.1 h.1
  obtain ⟨h1, h2, h3⟩ := fin_size hF
  have e : sizeE c = sizeI c := by unfold sizeE; rw [if_pos h.1]
  rw [e] at h ⊢
  have := h3 (by omega)
  exact ⟨hF, this, by omega, by omega, h.2⟩
theorem elsB_small (c : List (List Int)) (n : Int) : elsB c n = (!decide (sizeE c < 1) && !decide (n < sizeE c)) := by
  unfold elsB
  cases h : isF c
  · have e : sizeE c = 0 := by unfold sizeE; rw [h]; rfl
    rw [e]; simp
  · have e : sizeE c = sizeI c := by unfold sizeE; rw [if_pos h]
    obtain ⟨h1, h2, h3⟩ := fin_size (isF_iff.1 h)
    rw [e]
    rw [Bool.eq_iff_iff]
    simp
    omega
theorem FunA.frozenX {B : Ctx} {f : FuncId} {args : List AV} {e : E} {P : List e.D → Prop} (he : freshE e = true) (h : FunA B f args (fun rs o => rs = [.own 0 0] ∧ ∃ xs, P xs ∧ o = [.arr e xs 0 true])) : FunA B f args (fun rs o => ∃ xs, P xs ∧ rs = [.sl true e xs] ∧ o = []) := by
  refine ⟨h.1, fun w L vs hG hl ha => (h.2 w L vs hG hl ha).mono ?_⟩
  rintro en w' ⟨us, hen, rs, o, ρ', ⟨rfl, xs, hP, rfl⟩, hul, hu, hw, _, _⟩
  obtain ⟨hst, hsl⟩ := letgo_sl hw (id := 0) (g := 0) (e := e) (xs := xs) (nn := true) rfl
  match us, hul with
  | [u], _ =>
    have hu0 : u = ρ' 0 := ((hu 0 (.own 0 0) u rfl rfl).2 0 rfl).2 rfl
    have hno : ∀ b (ρ : Nat → Value), ¬ Own ([] : List O) ρ b := fun b ρ ⟨id, o, ho, _⟩ => by simp at ho
    have hle : ((B.bareL w L).V w' [.dead] (fun i => if i = 0 then ρ' 0 else ρ' i)).le ((B.bareL w L).V w' [] ρ') := by
      refine ⟨fun b o hb => ?_, fun _ hb => hb, rfl⟩
      simp only [Ctx.V, mask] at hb ⊢
      rw [if_neg (hno b ρ')]
      split at hb
      · cases hb
      · exact hb
    refine ⟨[u], hen, [.sl true e xs], [], ρ', ⟨xs, hP, rfl, rfl⟩, rfl, fun i x v hx hv => ?_, ⟨fun id o ho => by simp at ho, fun i j o o' b hi => by simp at hi, fun b hb => (hno b _ hb).elim, hw.os0, hw.tape, hw.output, hw.grow, hw.drawn, hw.kept, hw.gl⟩, by simp [freshAV, he], rfl⟩
    match i, hx, hv with
    | 0, hx, hv =>
      simp at hx hv
      subst hx hv
      rw [hu0]
      exact SlRel.mono hle hsl
theorem c_impl_elementsW (c : List (List Int)) (hq : elsB c 200 = true) : FunA BJ 35 [.sl false (.row false) c] (fun rs o => rs = [.own 0 0] ∧ ∃ ys, (rw2 ys = allL c ∧ (lb1 ys).Nodup) ∧ o = [.arr .lrow ys 0 true]) := by
  refine FunA.walk BJ_ok (fn := Tryz.f35) (fun vs w => Tryz.call35 vs w) Tryz.func35 rfl (by rw [Tryz.ntmps35]; simp) (fun C hC hP hT hΓ hbt hfn hpin hfin => ?_); haveI hDJ : DrLe BJ C := ⟨fun h => by rw [hbt.2.2.2] at h; cases h⟩; have hPJ := hP; have hTJ := hT; replace hP : B.P = C.P := hP; replace hT : B.tid = C.tid := hT; have hX := BXJ; rw [← hΓ, ← hbt.1, ← hbt.2.1, ← hbt.2.2.1] at hX; rw [hTJ] at hX; rw [Tryz.ntmps35]; simp only [AW7, simprocAttr, hX]
  refine Run.R ?_
  refine Run.nq ?_; refine Run.regionW hC (fun K hK => ?_); refine wW ?_
  refine FunA.cW hP hT (c_impl_IsFinite c) ?_
  rintro rs o ⟨rfl, rfl⟩
  refine wW ?_
  refine .inl (FunA.callG hPJ hTJ (c_impl_SizeOf c) (fun _ => rfl) (fun _ => by simp only [AW7, simprocAttr]) ?_)
  refine wW ?_
  refine wE ?_; clear hK K
  refine Run.nq ?_; refine Run.cW ?_ ?_
  · intro h
    have h : elsB c 200 = false := by
      unfold elsB
      cases hf : isF c
      · rfl
      · rw [hf] at h
        have h : decide (200 < sizeE c) = true := h
        rw [decide_eq_true_eq] at h
        simp; exact h
    rw [hq] at h; cases h
  intro h
  have h : elsB c 200 = true := by
    unfold elsB
    cases hf : isF c
    · rw [hf] at h; cases h
    · rw [hf] at h
      have h : decide (200 < sizeE c) = false := h
      rw [decide_eq_false_iff_not] at h
      simp; omega
  obtain ⟨hF, _, hl, _⟩ := elsB_fin h (by omega)
  refine Run.nq ?_; refine Run.regionW hC (fun K hK => ?_); refine wW ?_
  refine FunA.cW hP hT (c_impl_ball c hF hl) ?_
  rintro rs o ⟨rfl, ys, hy, rfl⟩
  refine wW ?_
  refine wE ?_; clear hK K
  refine Run.R ?_
  refine Run.reK hpin [2] [0] (by decide) (by simp) ?_; simp only [AR, AW7, simprocAttr]
  refine Run.rW [2] (hfin _ _ rfl rfl ?_)
  exact ⟨rfl, ys, hy, rfl⟩
theorem c_impl_elements1 (c : List (List Int)) (hq : elsB c 200 = true) : FunA BJ 35 [.sl false (.row false) c] (fun rs o => ∃ ys, (rw2 ys = allL c ∧ (lb1 ys).Nodup) ∧ rs = [.sl true .lrow ys] ∧ o = []) :=
  FunA.frozenX (e := .lrow) (P := fun ys : List (Nat × List Int) => rw2 ys = allL c ∧ (lb1 ys).Nodup) rfl (c_impl_elementsW c hq)
theorem allL_ne {c : List (List Int)} (hF : FinP c) : allL c ≠ [] := by
  intro e
  have h : [] ∈ allL c := ((allL_spec hF).2 []).2 ((outS_mem hF.1 (show 0 ≤ 30 by omega) []).1 (by simp [outS])).1
  rw [e] at h
  cases h
theorem c_impl_ElementsOf1 (c : List (List Int)) (hq : elsB c 200 = true) : FunA BJ 42 [.sl false (.row false) c] (fun rs o => ∃ ys, (rw2 ys = allL c ∧ (lb1 ys).Nodup) ∧ rs = [.sl true .lrow ys, .bool true] ∧ o = []) := by
  refine FunA.walk BJ_ok (fn := Tryz.f42) (fun vs w => Tryz.call42 vs w) Tryz.func42 rfl (by rw [Tryz.ntmps42]; simp) (fun C hC hP hT hΓ hbt hfn hpin hfin => ?_); haveI hDJ : DrLe BJ C := ⟨fun h => by rw [hbt.2.2.2] at h; cases h⟩; have hPJ := hP; have hTJ := hT; replace hP : B.P = C.P := hP; replace hT : B.tid = C.tid := hT; have hX := BXJ; rw [← hΓ, ← hbt.1, ← hbt.2.1, ← hbt.2.2.1] at hX; rw [hTJ] at hX; rw [Tryz.ntmps42]; simp only [AW7, simprocAttr, hX]
  refine Run.R ?_
  refine Run.nq ?_; refine Run.regionW hC (fun K hK => ?_); refine wW ?_
  refine FunA.cW hPJ hTJ (c_impl_elements1 c hq) ?_
  rintro rs o ⟨ys, hy, rfl, rfl⟩
  have hne : ys ≠ [] := fun e => by
    rw [e] at hy
    exact allL_ne (elsB_fin hq (by omega)).1 hy.1.symm
  refine wW ?_
  refine wE ?_; clear hK K
  refine Run.R ?_
  refine Run.nq ?_; refine Run.cW ?_ ?_
  · intro h2; cases h2
  intro _
  refine Run.R ?_
  refine Run.rW [2, 3] (hfin _ _ rfl rfl ?_)
  exact ⟨ys, hy, rfl, rfl⟩
end Go.Proofs.YtaghdbbcadhjdaaGreatDoor
namespace Go.Proofs.YtaghdbbcadhjdaaGreatDoor
open Go Go.Aw Go.Cox
def ixL (l : List (List Int)) (w : List Int) : Int := if w ∈ l then (l.idxOf w : Int) else -1
theorem idx_at {l : List (List Int)} {w : List Int} {k : Nat} (h1 : k < l.length) (h2 : l.getD k [] = w) (h3 : ∀ j, j < k → l.getD j [] ≠ w) : w ∈ l ∧ l.idxOf w = k := by
  have e : l[k] = w := by simpa [List.getD_eq_getElem?_getD, h1] using h2
  have hm : w ∈ l := e ▸ List.getElem_mem h1
  refine ⟨hm, ?_⟩
  have hlt := List.idxOf_lt_length_of_mem hm
  have hg : l[l.idxOf w] = w := List.getElem_idxOf hlt
  rcases Nat.lt_trichotomy (l.idxOf w) k with h | h | h
  · exact absurd (by rw [List.getD_eq_getElem?_getD, List.getElem?_eq_getElem hlt]; exact hg) (h3 _ h)
  · exact h
  · exfalso
    have := List.not_of_lt_findIdx (p := (· == w)) (xs := l) h
    simp [e] at this
theorem c_spec_IndexOfElement (l : List (List Int)) (w : List Int) (hr : ∀ r ∈ l, r.length ≤ 1048576) (hll : l.length ≤ 1048576) : FunA B 32 [.sl false (.row false) l, .sl false .int w] (fun rs o => rs = [.int .i64 (ixL l w)] ∧ o = []) := by
  refine FunA.walk B_ok (fn := Tryz.f32) (fun vs w => Tryz.call32 vs w) Tryz.func32 rfl (by rw [Tryz.ntmps32]; simp) (fun C hC hP hT hΓ hbt hfn hpin hfin => ?_); have hX := BX; rw [← hΓ, ← hbt.1, ← hbt.2.1, ← hbt.2.2.1] at hX; rw [hT] at hX; rw [Tryz.ntmps32]; simp only [AW7, simprocAttr, hX]
  refine Run.R ?_
  refine Run.R ?_
  refine Run.loopI (X := Nat) (fun k => ⟨19, [(0, true, .v (.sl false (.row false) (l))), (1, true, .v (.sl false .int (w))), (4, true, .v (.int .i64 (0))), (5, true, .v (.int .i64 (k)))], []⟩) (fun k => k ≤ l.length ∧ ∀ j, j < k → l.getD j [] ≠ w) (fun k => l.length - k) (0) (⟨Nat.zero_le _, fun j hj => by omega⟩) ?_ ?_
  · exact Le.sub (by first | rfl | simp) (by simp only [AW7, simprocAttr, hX]; try simp <;> try (first | rfl | exact ⟨rfl, rfl⟩ | exact ⟨rfl, rfl, rfl⟩))
  rintro k ⟨hk, hF⟩ ih
  try simp only []
  refine Run.R ?_
  refine Run.nq ?_; refine Run.cW ?_ ?_
  rotate_left
  · intro h
    have h : k = l.length := by rw [decide_eq_false_iff_not] at h; omega
    subst h
    refine Run.exit rfl ?_; refine Run.nq ?_
    refine Run.R ?_
    refine Run.rW [4] (hfin _ _ rfl rfl ?_)
    refine ⟨?_, rfl⟩
    have : w ∉ l := fun hm => by
      obtain ⟨j, hj, e⟩ := List.getElem_of_mem hm
      exact hF j hj (by simpa [List.getD_eq_getElem?_getD, hj] using e)
    unfold ixL
    rw [if_neg this]
  intro h
  have h : k < l.length := by rw [decide_eq_true_eq] at h; omega
  have hrk : (l.getD k []).length ≤ 1048576 := hr _ (by rw [List.getD_eq_getElem?_getD, List.getElem?_eq_getElem h]; exact List.getElem_mem _)
  refine Run.nq ?_; refine Run.regionW hC (fun K hK => ?_); refine wW ?_
  refine FunA.cW hP hT (c_spec_EqualWords (l.getD k []) w (by omega)) ?_
  rintro rs o ⟨rfl, rfl⟩
  refine wW ?_
  refine wE ?_; clear hK K
  refine Run.nq ?_; refine Run.cW ?_ ?_
  · intro h2
    have h2 : l.getD k [] = w := by simpa [-List.getD_eq_getElem?_getD] using h2
    obtain ⟨h3, h4⟩ := idx_at h h2 hF
    refine Run.R ?_
    refine Run.rW [4] (hfin _ _ rfl rfl ?_)
    exact ⟨by unfold ixL; rw [if_pos h3, h4], rfl⟩
  · intro h2
    have h2 : l.getD k [] ≠ w := by
      intro e
      rw [e] at h2
      simp at h2
    refine Run.RW ?_
    refine Run.reK hpin [0, 1, 4, 5] [] (by decide) (by simp) ?_; simp only [AR, AW7, simprocAttr]
    refine Run.le ?_ (ih (k + 1) (⟨h, fun j hj => (by
      by_cases e : j = k
      · subst e; exact h2
      · exact hF j (by omega))⟩) (by (try simp only [List.length_append, List.length_cons, List.length_nil]); omega))
    exact Le.sub (by rfl) (by simp only [AW7, simprocAttr]; try simp)
end Go.Proofs.YtaghdbbcadhjdaaGreatDoor
namespace Go.Proofs.YtaghdbbcadhjdaaGreatDoor
open Go Go.Aw Go.Cox
def Plc (l : List (List Int)) (k : Nat) (m : List (MK × MV)) : Prop := ∀ j, j < k → mgetI m (.str (fmtW (l.getD j []))) = j
theorem Plc.put {l : List (List Int)} (hl : ∀ r ∈ l, letters 4 r) (hn : l.Nodup) {k : Nat} (hk : k < l.length) {m : List (MK × MV)} (h : Plc l k m) : Plc l (k + 1) (mput m (.str (fmtW (l.getD k []))) (.int k)) := by
  intro j hj
  rw [mgetI_put]
  by_cases e : j = k
  · rw [e, if_pos rfl]
  · have h1 : l.getD j [] = l[j] := by simp [List.getD_eq_getElem?_getD, show j < l.length by omega]
    have h2 : l.getD k [] = l[k] := by simp [List.getD_eq_getElem?_getD, hk]
    rw [if_neg, h j (by omega)]
    intro e2
    injection e2 with e2
    rw [h1, h2] at e2
    have e3 := fmtW_inj (hl _ (List.getElem_mem (show j < l.length by omega))) (hl _ (List.getElem_mem hk)) e2
    have hp := List.nodup_iff_pairwise_ne.1 hn
    rw [List.pairwise_iff_getElem] at hp
    exact hp j k (by omega) hk (by omega) e3
theorem Plc.at {l : List (List Int)} {m : List (MK × MV)} (hn : l.Nodup) (h : Plc l l.length m) {w : List Int} (hw : w ∈ l) : mgetI m (.str (fmtW w)) = ixL l w := by
  have hlt := List.idxOf_lt_length_of_mem hw
  have hg : l[l.idxOf w] = w := List.getElem_idxOf hlt
  have := h _ hlt
  rw [List.getD_eq_getElem?_getD, List.getElem?_eq_getElem hlt, Option.getD_some, hg] at this
  rw [this]
  unfold ixL
  rw [if_pos hw]
theorem c_impl_places (l : List (List Int)) (hl : ∀ r ∈ l, letters 4 r ∧ r.length ≤ 100) (hn : l.Nodup) (hll : l.length ≤ 1048576) : FunA B 36 [.sl false (.row false) l] (fun rs o => rs = [.own 0 0] ∧ ∃ m, Plc l l.length m ∧ o = [.mp ⟨false, true⟩ m 0]) := by
  refine FunA.walk B_ok (fn := Tryz.f36) (fun vs w => Tryz.call36 vs w) Tryz.func36 rfl (by rw [Tryz.ntmps36]; simp) (fun C hC hP hT hΓ hbt hfn hpin hfin => ?_); have hX := BX; rw [← hΓ, ← hbt.1, ← hbt.2.1, ← hbt.2.2.1] at hX; rw [hT] at hX; rw [Tryz.ntmps36]; simp only [AW7, simprocAttr, hX]
  refine Run.R ?_
  refine Run.R ?_
  refine Run.R ?_
  refine Run.reK hpin [0, 2, 3, 7, 8, 9] [0] (by decide) (by simp) ?_; simp only [AR, AW7, simprocAttr]
  refine Run.loopI (X := Nat × List (MK × MV)) (fun x => ⟨20, [(0, true, .v (.sl false (.row false) (l))), (3, true, .v (.own 0 0)), (7, true, .v (.sl false (.row false) (l))), (8, true, .v (.int .i64 ((l.length : Nat)))), (9, true, .v (.int .i64 (x.1)))], [.mp ⟨false, true⟩ x.2 0]⟩) (fun x => x.1 ≤ l.length ∧ Plc l x.1 x.2) (fun x => l.length - x.1) ((0, [])) (⟨Nat.zero_le _, fun j hj => by omega⟩) ?_ ?_
  · exact Le.sub (by first | rfl | simp) (by simp only [AW7, simprocAttr, hX]; try simp <;> try (first | rfl | exact ⟨rfl, rfl⟩ | exact ⟨rfl, rfl, rfl⟩))
  rintro ⟨k, m⟩ ⟨hk, hPl⟩ ih
  try simp only []
  simp only [] at hk hPl
  refine Run.R ?_
  refine Run.nq ?_; refine Run.cW ?_ ?_
  rotate_left
  · intro h
    have h : k = l.length := by rw [decide_eq_false_iff_not] at h; omega
    subst h
    refine Run.exit rfl ?_; refine Run.nq ?_
    refine Run.R ?_
    refine Run.reK hpin [2] [0] (by decide) (by simp) ?_; simp only [AR, AW7, simprocAttr]
    refine Run.rW [2] (hfin _ _ rfl rfl ?_)
    exact ⟨rfl, m, hPl, rfl⟩
  intro h
  have h : k < l.length := by rw [decide_eq_true_eq] at h; omega
  obtain ⟨h1, h2⟩ := hl _ (show l.getD k [] ∈ l by rw [List.getD_eq_getElem?_getD, List.getElem?_eq_getElem h]; exact List.getElem_mem _)
  have hP2 := hPl.put (fun r hr => (hl r hr).1) hn h
  refine Run.R ?_
  refine Run.nq ?_; refine Run.regionW hC (fun K hK => ?_); refine wW ?_
  refine FunA.cW hP hT (c_impl_FormatWord (l.getD k []) h1 (by omega)) ?_
  rintro rs o ⟨rfl, rfl⟩
  refine wW ?_
  refine wE ?_; clear hK K
  refine Run.RW ?_
  refine Run.reK hpin [0, 3, 7, 8, 9] [0] (by decide) (by simp) ?_; simp only [AR, AW7, simprocAttr]
  refine Run.le ?_ (ih ((k + 1, mput m (.str (fmtW (l.getD k []))) (.int k))) (⟨h, hP2⟩) (by (try simp only [List.length_append, List.length_cons, List.length_nil]); omega))
  exact Le.sub (by rfl) (by simp only [AW7, simprocAttr]; try simp)
end Go.Proofs.YtaghdbbcadhjdaaGreatDoor
namespace Go.Proofs.YtaghdbbcadhjdaaGreatDoor
open Go Go.Aw Go.Cox
theorem elsB_mono {c : List (List Int)} {n m : Int} (h : elsB c n = true) (hnm : n ≤ m) : elsB c m = true := by
  unfold elsB at h ⊢
  rw [Bool.and_eq_true, decide_eq_true_eq] at h ⊢
  exact ⟨h.1, by omega⟩
theorem c_impl_few0 (c : List (List Int)) (he : elsB c 48 = false) : FunA BJ 49 [.sl false (.row false) c, .int .i64 48] (fun rs o => rs = [.nils, .bool false] ∧ o = []) := by
  refine FunA.walk BJ_ok (fn := Tryz.f49) (fun vs w => Tryz.call49 vs w) Tryz.func49 rfl (by rw [Tryz.ntmps49]; simp) (fun C hC hP hT hΓ hbt hfn hpin hfin => ?_); haveI hDJ : DrLe BJ C := ⟨fun h => by rw [hbt.2.2.2] at h; cases h⟩; have hPJ := hP; have hTJ := hT; replace hP : B.P = C.P := hP; replace hT : B.tid = C.tid := hT; have hX := BXJ; rw [← hΓ, ← hbt.1, ← hbt.2.1, ← hbt.2.2.1] at hX; rw [hTJ] at hX; rw [Tryz.ntmps49]; simp only [AW7, simprocAttr, hX]
  refine Run.R ?_
  refine Run.nq ?_; refine Run.regionW hC (fun K hK => ?_); refine wW ?_
  refine FunA.cW hP hT (c_impl_IsFinite c) ?_
  rintro rs o ⟨rfl, rfl⟩
  refine wW ?_
  refine .inl (FunA.callG hPJ hTJ (c_impl_SizeOf c) (fun _ => rfl) (fun _ => by simp only [AW7, simprocAttr]) ?_)
  refine wW ?_
  refine wE ?_; clear hK K
  refine Run.nq ?_; refine Run.cW ?_ ?_
  · intro _
    refine Run.R ?_
    refine Run.rW [4, 5] (hfin _ _ rfl rfl ?_)
    exact ⟨rfl, rfl⟩
  intro h
  exfalso
  unfold elsB at he
  cases hf : isF c
  · rw [hf] at h; cases h
  · rw [hf] at h he
    have h : decide (48 < sizeE c) = false := h
    rw [decide_eq_false_iff_not] at h
    simp at he
    omega
theorem c_impl_few1 (c : List (List Int)) (he : elsB c 48 = true) : FunA BJ 49 [.sl false (.row false) c, .int .i64 48] (fun rs o => ∃ ys, (rw2 ys = allL c ∧ (lb1 ys).Nodup) ∧ rs = [.sl true .lrow ys, .bool true] ∧ o = []) := by
  refine FunA.walk BJ_ok (fn := Tryz.f49) (fun vs w => Tryz.call49 vs w) Tryz.func49 rfl (by rw [Tryz.ntmps49]; simp) (fun C hC hP hT hΓ hbt hfn hpin hfin => ?_); haveI hDJ : DrLe BJ C := ⟨fun h => by rw [hbt.2.2.2] at h; cases h⟩; have hPJ := hP; have hTJ := hT; replace hP : B.P = C.P := hP; replace hT : B.tid = C.tid := hT; have hX := BXJ; rw [← hΓ, ← hbt.1, ← hbt.2.1, ← hbt.2.2.1] at hX; rw [hTJ] at hX; rw [Tryz.ntmps49]; simp only [AW7, simprocAttr, hX]
  refine Run.R ?_
  refine Run.nq ?_; refine Run.regionW hC (fun K hK => ?_); refine wW ?_
  refine FunA.cW hP hT (c_impl_IsFinite c) ?_
  rintro rs o ⟨rfl, rfl⟩
  refine wW ?_
  refine .inl (FunA.callG hPJ hTJ (c_impl_SizeOf c) (fun _ => rfl) (fun _ => by simp only [AW7, simprocAttr]) ?_)
  refine wW ?_
  refine wE ?_; clear hK K
  refine Run.nq ?_; refine Run.cW ?_ ?_
  · intro h
    exfalso
    unfold elsB at he
    rw [Bool.and_eq_true, decide_eq_true_eq] at he
    rw [he.1] at h
    have h : decide (48 < sizeE c) = true := h
    rw [decide_eq_true_eq] at h
    omega
  intro _
  refine Run.nq ?_; refine Run.regionW hC (fun K hK => ?_); refine wW ?_
  refine FunA.cW hPJ hTJ (c_impl_ElementsOf1 c (elsB_mono he (by omega))) ?_
  rintro rs o ⟨ys, hy, rfl, rfl⟩
  refine wW ?_
  refine wE ?_; clear hK K
  refine Run.rW [4, 5] (hfin _ _ rfl rfl ?_)
  exact ⟨ys, hy, rfl, rfl⟩
theorem c_spec_l18Small (c : List (List Int)) : FunA B 47 [.sl false (.row false) c] (fun rs o => rs = [.own 0 0, .bool (elsB c 48)] ∧ ∃ ys, (rw2 ys = (if elsB c 48 then allL c else []) ∧ (lb1 ys).Nodup) ∧ o = [.arr .lrow ys 0 true]) := by
  refine FunA.walk B_ok (fn := Tryz.f47) (fun vs w => Tryz.call47 vs w) Tryz.func47 rfl (by rw [Tryz.ntmps47]; simp) (fun C hC hP hT hΓ hbt hfn hpin hfin => ?_); have hX := BX; rw [← hΓ, ← hbt.1, ← hbt.2.1, ← hbt.2.2.1] at hX; rw [hT] at hX; rw [Tryz.ntmps47]; simp only [AW7, simprocAttr, hX]
  refine Run.R ?_
  refine Run.nq ?_; refine Run.regionW hC (fun K hK => ?_); refine wW ?_
  refine FunA.cW hP hT (c_spec_SizeOf c) ?_
  rintro rs o ⟨rfl, rfl⟩
  refine wW ?_
  refine wE ?_; clear hK K
  have hsm := elsB_small c 48
  refine Run.R ?_
  refine Run.nq ?_; refine Run.cW ?_ ?_
  · intro h
    have h : elsB c 48 = false := by
      rw [hsm]
      by_cases h1 : sizeE c < 1
      · rw [decide_eq_true h1]; rfl
      · rw [decide_eq_false h1] at h ⊢
        have h : decide (48 < sizeE c) = true := h
        rw [h]; rfl
    refine Run.R ?_
    refine Run.reK hpin [2, 3] [0] (by decide) (by simp) ?_; simp only [AR, AW7, simprocAttr]
    refine Run.rW [2, 3] (hfin _ _ rfl rfl ?_)
    exact ⟨by rw [h], [], ⟨by rw [h]; rfl, by simp [lb1]⟩, rfl⟩
  intro h
  have h : elsB c 48 = true := by
    rw [hsm]
    by_cases h1 : sizeE c < 1
    · rw [decide_eq_true h1] at h; cases h
    · rw [decide_eq_false h1] at h ⊢
      have h : decide (48 < sizeE c) = false := h
      rw [h]; rfl
  obtain ⟨hF, _, hl, _⟩ := elsB_fin h (by omega)
  refine Run.nq ?_; refine Run.regionW hC (fun K hK => ?_); refine wW ?_
  refine FunA.cW hP hT (c_spec_l13All c hF hl) ?_
  rintro rs o ⟨rfl, ys, hy, rfl⟩
  refine wW ?_
  refine wE ?_; clear hK K
  refine Run.reK hpin [2, 3] [0] (by decide) (by simp) ?_; simp only [AR, AW7, simprocAttr]
  refine Run.rW [2, 3] (hfin _ _ rfl rfl ?_)
  exact ⟨by rw [h], ys, ⟨by rw [h]; exact hy.1, hy.2⟩, rfl⟩
end Go.Proofs.YtaghdbbcadhjdaaGreatDoor
namespace Go.Proofs.YtaghdbbcadhjdaaGreatDoor
open Go Go.Aw Go.Cox
def l5P (x : Int) : Bool → List Int → List Int
  | pl, [] => if pl then [] else [x]
  | pl, y :: l => if decide (x < y) && !(pl || y == x) then x :: y :: l5P x true l else y :: l5P x (pl || y == x) l
theorem l5P_cons (x : Int) (pl : Bool) (y : Int) (l : List Int) : l5P x pl (y :: l) = if decide (x < y) && !(pl || y == x) then x :: y :: l5P x true l else y :: l5P x (pl || y == x) l := rfl
theorem l5P_true (x : Int) : ∀ l, l5P x true l = l
  | [] => rfl
  | y :: l => by unfold l5P; simp [l5P_true x l]
theorem l5P_ins {x : Int} : ∀ {l : List Int}, x ∉ l → l5P x false l = insI x l
  | [], _ => rfl
  | y :: l, h => by
    have h1 : ¬ y = x := fun e => h (by rw [e]; exact List.mem_cons_self ..)
    have h2 : x ∉ l := fun hm => h (List.mem_cons_of_mem _ hm)
    have hb : (y == x) = false := by simpa using h1
    unfold l5P
    simp only [insI]
    rw [hb, l5P_true, show (false || false) = false from rfl, l5P_ins h2]
    by_cases e : x < y
    · rw [decide_eq_true e, decide_eq_true (show x ≤ y by omega)]; rfl
    · rw [decide_eq_false e, decide_eq_false (show ¬ x ≤ y by omega)]; rfl
theorem l5P_fold : ∀ (l a : List Int), AscI a → (∀ x ∈ l, x ∉ a) → l.Nodup → (l.foldl (fun a x => l5P x false a) a).Perm (l ++ a) ∧ AscI (l.foldl (fun a x => l5P x false a) a)
  | [], a, h, _, _ => ⟨.refl _, h⟩
  | x :: l, a, h, hx, hn => by
    obtain ⟨n1, n2⟩ := List.nodup_cons.1 hn
    have hxa := hx x (List.mem_cons_self ..)
    rw [List.foldl_cons, l5P_ins hxa]
    have hp := insI_perm x a
    obtain ⟨h1, h2⟩ := l5P_fold l (insI x a) (insI_asc x h) (fun y hy hm => by
      rcases List.mem_cons.1 (hp.mem_iff.1 hm) with rfl | hm
      · exact n1 hy
      · exact hx y (List.mem_cons_of_mem _ hy) hm) n2
    exact ⟨h1.trans (((List.Perm.refl l).append hp).trans List.perm_middle), h2⟩
theorem l5P_sort {l : List Int} (h : l.Nodup) : l.foldl (fun a x => l5P x false a) [] = sortI l := by
  obtain ⟨h1, h2⟩ := l5P_fold l [] List.Pairwise.nil (by simp) h
  obtain ⟨k1, k2⟩ := sortI_spec l
  exact asc_uniq ((by simpa using h1 : (l.foldl (fun a x => l5P x false a) []).Perm l).trans k1.symm) h2 k2
theorem l5P_len (x : Int) : ∀ (pl : Bool) (l : List Int), (l5P x pl l).length ≤ l.length + 1
  | pl, [] => by unfold l5P; split <;> simp
  | pl, y :: l => by
    unfold l5P
    split
    · rw [l5P_true]; simp
    · simp only [List.length_cons]; have := l5P_len x (pl || y == x) l; omega
theorem c_spec_l5Put (l : List Int) (x : Int) (hl : l.length ≤ 1048576) : FunA B 53 [.sl false .int l, .int .i64 x] (fun rs o => rs = [.own 0 0] ∧ o = [.arr .int (l5P x false l) 0 true]) := by
  refine FunA.walk B_ok (fn := Tryz.f53) (fun vs w => Tryz.call53 vs w) Tryz.func53 rfl (by rw [Tryz.ntmps53]; simp) (fun C hC hP hT hΓ hbt hfn hpin hfin => ?_); have hX := BX; rw [← hΓ, ← hbt.1, ← hbt.2.1, ← hbt.2.2.1] at hX; rw [hT] at hX; rw [Tryz.ntmps53]; simp only [AW7, simprocAttr, hX]
  refine Run.R ?_
  refine Run.R ?_
  refine Run.R ?_
  refine Run.R ?_
  refine Run.reK hpin [0, 1, 5, 6, 7] [0] (by decide) (by simp) ?_; simp only [AR, AW7, simprocAttr]
  refine Run.loopI (X := Nat × List Int × Bool) (fun s => ⟨49, [(0, true, .v (.sl false .int (l))), (1, true, .v (.int .i64 (x))), (5, true, .v (.own 0 0)), (6, true, .v (.bool (s.2.2))), (7, true, .v (.int .i64 (s.1)))], [.arr .int (s.2.1) 0 true]⟩) (fun s => s.1 ≤ l.length ∧ s.2.1.length ≤ s.1 + (bif s.2.2 then 1 else 0) ∧ s.2.1 ++ l5P x s.2.2 (l.drop s.1) = l5P x false l) (fun s => l.length - s.1) ((0, [], false)) (⟨Nat.zero_le _, by simp, by simp⟩) ?_ ?_
  · exact Le.sub (by first | rfl | simp) (by simp only [AW7, simprocAttr, hX]; try simp <;> try (first | rfl | exact ⟨rfl, rfl⟩ | exact ⟨rfl, rfl, rfl⟩))
  rintro ⟨i, out, pl⟩ ⟨hi, ho, hE⟩ ih
  try simp only []
  simp only [] at hi ho hE
  have ho2 : out.length ≤ i + 1 := by cases pl <;> simp at ho <;> omega
  refine Run.R ?_
  refine Run.nq ?_; refine Run.cW ?_ ?_
  rotate_left
  · intro h
    have h : i = l.length := by rw [decide_eq_false_iff_not] at h; omega
    subst h
    rw [List.drop_length] at hE
    have hz1 : (out.length + [x].length) * 8 ≤ 140737488355328 := by simp only [List.length_cons, List.length_nil]; omega
    refine Run.exit rfl ?_; refine Run.nq ?_
    refine Run.R ?_
    cases pl with
    | true =>
      refine Run.nq ?_; refine Run.cW ?_ ?_
      · intro h2; cases h2
      intro _
      refine Run.R ?_
      refine Run.reK hpin [4] [0] (by decide) (by simp) ?_; simp only [AR, AW7, simprocAttr]
      refine Run.rW [4] (hfin _ _ rfl rfl ?_)
      refine ⟨rfl, ?_⟩
      rw [← hE]; simp [l5P]
    | false =>
      refine Run.nq ?_; refine Run.cW ?_ ?_
      rotate_left
      · intro h2; cases h2
      intro _
      refine Run.R ?_
      refine Run.R ?_
      refine Run.reK hpin [4] [0] (by decide) (by simp) ?_; simp only [AR, AW7, simprocAttr]
      refine Run.rW [4] (hfin _ _ rfl rfl ?_)
      refine ⟨rfl, ?_⟩
      rw [← hE]; rfl
  intro h
  have h : i < l.length := by rw [decide_eq_true_eq] at h; omega
  have hdr : l.drop i = l.getD i 0 :: l.drop (i + 1) := by
    rw [List.drop_eq_getElem_cons h, List.getD_eq_getElem?_getD, List.getElem?_eq_getElem h]; rfl
  have hst := l5P_cons x pl (l.getD i 0) (l.drop (i + 1))
  refine Run.R ?_
  generalize hy : l.getD i 0 = y at *
  obtain ⟨pl1, hpe⟩ : ∃ pl1, pl1 = (pl || y == x) := ⟨_, rfl⟩
  rw [← hpe] at hst
  have hpl1 : pl1 = false → out.length ≤ i := fun e => by
    rw [e] at hpe
    cases pl
    · simpa using ho
    · simp at hpe
  have hpl2 : out.length ≤ i + (bif pl1 then 1 else 0) := by
    cases pl1
    · simpa using hpl1 rfl
    · simpa using ho2
  refine Run.nq ?_; refine Run.cW ?_ ?_
  · intro h2
    have e1 : pl1 = true := by
      have : (y == x) = true := by simpa using h2
      rw [hpe, this, Bool.or_true]
    refine Run.R ?_
    rw [show AV.bool true = AV.bool pl1 by rw [e1]]
    refine Run.nq ?_; refine Run.regionW hC (fun K hK => ?_); refine wW ?_
    try simp only [hy]
    refine wW ?_
    refine wE ?_; clear hK K
    refine Run.nq ?_; refine Run.cW ?_ ?_
    · intro h3
      have h3 : decide (x < y) = true ∧ pl1 = false := by revert h3; cases decide (x < y) <;> cases pl1 <;> simp
      rw [if_pos (by rw [h3.1, h3.2]; rfl)] at hst
      have hz1 : (out.length + [x].length) * 8 ≤ 140737488355328 := by simp only [List.length_cons, List.length_nil]; omega
      have hz2 : ((out ++ [x]).length + [y].length) * 8 ≤ 140737488355328 := by simp only [List.length_append, List.length_cons, List.length_nil]; omega
      refine Run.R ?_
      refine Run.R ?_
      refine Run.nq ?_; refine Run.regionW hC (fun K hK => ?_); refine wW ?_
      try simp only [hy]
      refine wW ?_
      refine wE ?_; clear hK K
      refine Run.RW ?_
      refine Run.reK hpin [0, 1, 5, 6, 7] [0] (by decide) (by simp) ?_; simp only [AR, AW7, simprocAttr]
      refine Run.le ?_ (ih ((i + 1, out ++ [x] ++ [y], true)) (⟨h, by have := hpl1 h3.2; simp only [List.length_append, List.length_cons, List.length_nil, cond_true]; omega, by rw [← hE, hdr, hst]; simp⟩) (by (try simp only [List.length_append, List.length_cons, List.length_nil]); omega))
      exact Le.sub (by rfl) (by simp only [AW7, simprocAttr]; try simp)
    · intro h3
      have h3 : ¬ (decide (x < y) && !pl1) = true := by revert h3; cases decide (x < y) <;> cases pl1 <;> simp
      rw [if_neg h3] at hst
      have hz1 : (out.length + [y].length) * 8 ≤ 140737488355328 := by simp only [List.length_cons, List.length_nil]; omega
      refine Run.nq ?_; refine Run.regionW hC (fun K hK => ?_); refine wW ?_
      try simp only [hy]
      refine wW ?_
      refine wE ?_; clear hK K
      refine Run.RW ?_
      refine Run.reK hpin [0, 1, 5, 6, 7] [0] (by decide) (by simp) ?_; simp only [AR, AW7, simprocAttr]
      refine Run.le ?_ (ih ((i + 1, out ++ [y], pl1)) (⟨h, by simp only [List.length_append, List.length_cons, List.length_nil]; cases pl1 <;> simp at hpl2 ⊢ <;> omega, by rw [← hE, hdr, hst]; simp⟩) (by (try simp only [List.length_append, List.length_cons, List.length_nil]); omega))
      exact Le.sub (by rfl) (by simp only [AW7, simprocAttr]; try simp)
  · intro h2
    have e1 : pl1 = pl := by
      have : (y == x) = false := by simpa using h2
      rw [hpe, this, Bool.or_false]
    rw [← e1]
    refine Run.nq ?_; refine Run.regionW hC (fun K hK => ?_); refine wW ?_
    try simp only [hy]
    refine wW ?_
    refine wE ?_; clear hK K
    refine Run.nq ?_; refine Run.cW ?_ ?_
    · intro h3
      have h3 : decide (x < y) = true ∧ pl1 = false := by revert h3; cases decide (x < y) <;> cases pl1 <;> simp
      rw [if_pos (by rw [h3.1, h3.2]; rfl)] at hst
      have hz1 : (out.length + [x].length) * 8 ≤ 140737488355328 := by simp only [List.length_cons, List.length_nil]; omega
      have hz2 : ((out ++ [x]).length + [y].length) * 8 ≤ 140737488355328 := by simp only [List.length_append, List.length_cons, List.length_nil]; omega
      refine Run.R ?_
      refine Run.R ?_
      refine Run.nq ?_; refine Run.regionW hC (fun K hK => ?_); refine wW ?_
      try simp only [hy]
      refine wW ?_
      refine wE ?_; clear hK K
      refine Run.RW ?_
      refine Run.reK hpin [0, 1, 5, 6, 7] [0] (by decide) (by simp) ?_; simp only [AR, AW7, simprocAttr]
      refine Run.le ?_ (ih ((i + 1, out ++ [x] ++ [y], true)) (⟨h, by have := hpl1 h3.2; simp only [List.length_append, List.length_cons, List.length_nil, cond_true]; omega, by rw [← hE, hdr, hst]; simp⟩) (by (try simp only [List.length_append, List.length_cons, List.length_nil]); omega))
      exact Le.sub (by rfl) (by simp only [AW7, simprocAttr]; try simp)
    · intro h3
      have h3 : ¬ (decide (x < y) && !pl1) = true := by revert h3; cases decide (x < y) <;> cases pl1 <;> simp
      rw [if_neg h3] at hst
      have hz1 : (out.length + [y].length) * 8 ≤ 140737488355328 := by simp only [List.length_cons, List.length_nil]; omega
      refine Run.nq ?_; refine Run.regionW hC (fun K hK => ?_); refine wW ?_
      try simp only [hy]
      refine wW ?_
      refine wE ?_; clear hK K
      refine Run.RW ?_
      refine Run.reK hpin [0, 1, 5, 6, 7] [0] (by decide) (by simp) ?_; simp only [AR, AW7, simprocAttr]
      refine Run.le ?_ (ih ((i + 1, out ++ [y], pl1)) (⟨h, by simp only [List.length_append, List.length_cons, List.length_nil]; cases pl1 <;> simp at hpl2 ⊢ <;> omega, by rw [← hE, hdr, hst]; simp⟩) (by (try simp only [List.length_append, List.length_cons, List.length_nil]); omega))
      exact Le.sub (by rfl) (by simp only [AW7, simprocAttr]; try simp)
def cjI (c : List (List Int)) (l : List (List Int)) (k : Int) (s : Nat) : Int := ixL l (redL c ([(s : Int)] ++ l.getD k.toNat [] ++ [(s : Int)]))
def ccS (c : List (List Int)) (l : List (List Int)) (k : Int) (st : List Bool × List Int) (s : Nat) : List Bool × List Int :=
  if st.1.getD (cjI c l k s).toNat false then st else (st.1.set (cjI c l k s).toNat true, st.2 ++ [cjI c l k s])
def ccK (c : List (List Int)) (l : List (List Int)) (st : List Bool × List Int) (n : Nat) : List Bool × List Int := (List.range c.length).foldl (ccS c l (st.2.getD n 0)) st
def ccW (c : List (List Int)) (l : List (List Int)) : Nat → Nat → List Bool × List Int → List Bool × List Int
  | 0, _, st => st
  | f + 1, n, st => if n < st.2.length then ccW c l f (n + 1) (ccK c l st n) else st
def ccO (c : List (List Int)) (l : List (List Int)) (st : List Bool × List (List Int)) (k : Nat) : List Bool × List (List Int) :=
  if st.1.getD k false then st else ((ccW c l l.length 0 (st.1.set k true, [(k : Int)])).1, st.2 ++ [sortI (ccW c l l.length 0 (st.1.set k true, [(k : Int)])).2])
def ccL (c : List (List Int)) (l : List (List Int)) : List (List Int) := ((List.range l.length).foldl (ccO c l) (List.replicate l.length false, [])).2
noncomputable def ccX (c : List (List Int)) : List (List Int) := ccL c (if elsB c 48 then allL c else [])
theorem ccS_seen {c l : List (List Int)} {k v : Int} {st : List Bool × List Int} {s : Nat} (hv : cjI c l k s = v) (h : st.1.getD v.toNat false = true) : ccS c l k st s = st := by unfold ccS; rw [hv, if_pos h]
theorem ccS_new {c l : List (List Int)} {k v : Int} {st : List Bool × List Int} {s : Nat} (hv : cjI c l k s = v) (h : st.1.getD v.toNat false = false) : ccS c l k st s = (st.1.set v.toNat true, st.2 ++ [v]) := by unfold ccS; rw [hv, if_neg (by rw [h]; decide)]
theorem ccO_seen {c l : List (List Int)} {st : List Bool × List (List Int)} {k : Nat} (h : st.1.getD k false = true) : ccO c l st k = st := by unfold ccO; rw [if_pos h]
theorem ccO_new {c l : List (List Int)} {st : List Bool × List (List Int)} {k : Nat} (h : st.1.getD k false = false) : ccO c l st k = ((ccW c l l.length 0 (st.1.set k true, [(k : Int)])).1, st.2 ++ [sortI (ccW c l l.length 0 (st.1.set k true, [(k : Int)])).2]) := by unfold ccO; rw [if_neg (by rw [h]; decide)]
theorem ccW_stop (c l) : ∀ (f n : Nat) (st : List Bool × List Int), st.2.length ≤ n → ccW c l f n st = st
  | 0, _, _, _ => rfl
  | f + 1, n, st, h => by unfold ccW; rw [if_neg (by omega)]
theorem foldl_rs {α : Type} (f : α → Nat → α) (a : α) (k : Nat) : (List.range (k + 1)).foldl f a = f ((List.range k).foldl f a) k := by rw [List.range_succ, List.foldl_append]; rfl
structure GoodC (n : Nat) (st : List Bool × List Int) : Prop where
  l : st.1.length = n
  nd : st.2.Nodup
  mem : ∀ x ∈ st.2, 0 ≤ x ∧ x < n ∧ st.1.getD x.toNat false = true
theorem getD_setB (l : List Bool) (i j : Nat) (h : i < l.length) : (l.set i true).getD j false = if j = i then true else l.getD j false := by
  simp only [List.getD, List.getElem?_set]
  by_cases e : i = j
  · subst e; simp [h]
  · rw [if_neg e, if_neg (Ne.symm e)]
theorem GoodC.put {n : Nat} {st : List Bool × List Int} (h : GoodC n st) {x : Int} (hx : 0 ≤ x ∧ x < n) (hf : st.1.getD x.toNat false = false) : GoodC n (st.1.set x.toNat true, st.2 ++ [x]) := by
  have hl := h.l
  refine ⟨by simpa using hl, ?_, fun y hy => ?_⟩
  · rw [List.nodup_append]
    refine ⟨h.nd, by simp, fun a ha b hb e => ?_⟩
    simp at hb
    subst hb e
    have := (h.mem _ ha).2.2
    rw [hf] at this; cases this
  · simp only []
    rw [getD_setB _ _ _ (by omega)]
    rcases List.mem_append.1 hy with hy | hy
    · obtain ⟨h1, h2, h3⟩ := h.mem y hy
      refine ⟨h1, h2, ?_⟩
      split
      · rfl
      · exact h3
    · simp at hy; subst hy; simp; exact hx
theorem nodup_int_le {n : Nat} {l : List Int} (h : l.Nodup) (hm : ∀ x ∈ l, 0 ≤ x ∧ x < n) : l.length ≤ n := by
  have h1 : (l.map Int.toNat).Nodup := by
    unfold List.Nodup
    rw [List.pairwise_map]
    refine List.Pairwise.imp_of_mem (fun {a b} ha hb hab e => hab ?_) h
    have := hm a ha; have := hm b hb; omega
  have h2 := nodup_le h1 (b := List.range n) fun x hx => by
    obtain ⟨y, hy, rfl⟩ := List.mem_map.1 hx
    have := hm y hy
    exact List.mem_range.2 (by omega)
  simpa using h2
theorem GoodC.len {n : Nat} {st : List Bool × List Int} (h : GoodC n st) : st.2.length ≤ n := nodup_int_le h.nd fun x hx => ⟨(h.mem x hx).1, (h.mem x hx).2.1⟩
theorem ixL_mem {l : List (List Int)} {w : List Int} (h : w ∈ l) : 0 ≤ ixL l w ∧ ixL l w < l.length ∧ l.getD (ixL l w).toNat [] = w := by
  have hlt := List.idxOf_lt_length_of_mem h
  have hg : l[l.idxOf w] = w := List.getElem_idxOf hlt
  unfold ixL
  rw [if_pos h]
  refine ⟨by omega, by omega, ?_⟩
  rw [Int.toNat_natCast, List.getD_eq_getElem?_getD, List.getElem?_eq_getElem hlt]; exact hg
end Go.Proofs.YtaghdbbcadhjdaaGreatDoor
