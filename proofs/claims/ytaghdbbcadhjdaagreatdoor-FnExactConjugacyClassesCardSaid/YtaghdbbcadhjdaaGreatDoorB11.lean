/- Sets of points, and the word of all points. -/
import Derived.Test.YtaghdbbcadhjdaaGreatDoorB7
import Derived.Test.YtaghdbbcadhjdaaGreatDoorB10
import Derived.Test.YtaghdbbcadhjdaaGreatDoorB9
import Derived.Test.YtaghdbbcadhjdaaGreatDoorB8
import Derived.Test.YtaghdbbcadhjdaaGreatDoorB6
import Derived.WalkKit
import Derived.Deep.QuietTactic
import Derived.BigQuiet
set_option linter.unusedVariables false
set_option linter.unusedSimpArgs false
namespace Go.Proofs.YtaghdbbcadhjdaaGreatDoor
open Go Go.Aw
def setP (n : Nat) (s : List Int) : Prop := ∀ i, i < s.length → 0 ≤ s.getD i 0 ∧ s.getD i 0 < n ∧ (0 < i → s.getD (i - 1) 0 < s.getD i 0)
open Classical in
noncomputable def setB (c : List (List Int)) (s : List Int) : Bool := decide (setP c.length s)
theorem setB_iff {c : List (List Int)} {s : List Int} : setB c s = true ↔ setP c.length s := by simp [setB]
theorem setP_mono {n : Nat} {s : List Int} (h : setP n s) : ∀ i j, i < j → j < s.length → s.getD i 0 < s.getD j 0 := by
  intro i j hij
  induction j with
  | zero => omega
  | succ j ih =>
    intro hj
    have h1 := (h (j + 1) hj).2.2 (by omega)
    simp only [Nat.add_sub_cancel] at h1
    by_cases h2 : i = j
    · subst h2; exact h1
    · have := ih (by omega) (by omega); omega
noncomputable def isSetB (c : List (List Int)) (s : List Int) : Bool := isC c && setB c s
theorem c_spec_l3Set (c : List (List Int)) (s : List Int) (hc : c.length ≤ 1048576) : FunA B 39 [.sl false (.row false) c, .sl false .int s] (fun rs o => rs = [.bool (isSetB c s)] ∧ o = []) := by
  refine FunA.walk B_ok (fn := Tryz.f39) (fun vs w => Tryz.call39 vs w) Tryz.func39 rfl (by rw [Tryz.ntmps39]; simp) (fun C hC hP hT hΓ hbt hfn hpin hfin => ?_); have hX := BX; rw [← hΓ, ← hbt.1, ← hbt.2.1, ← hbt.2.2.1] at hX; rw [hT] at hX; rw [Tryz.ntmps39]; simp only [AW7, simprocAttr, hX]
  refine Run.len 1 rfl fun hlens => ?_
  refine Run.R ?_
  refine Run.R ?_
  refine Run.loopI (X := Nat) (fun i => ⟨39, [(0, true, .v (.sl false (.row false) c)), (1, true, .v (.sl false .int s)), (4, true, .v (.bool false)), (5, true, .v (.int .i64 i))], []⟩) (fun i => i ≤ s.length ∧ ∀ k, k < i → 0 ≤ s.getD k 0 ∧ s.getD k 0 < c.length ∧ (0 < k → s.getD (k - 1) 0 < s.getD k 0)) (fun i => s.length - i) 0 ⟨Nat.zero_le _, by omega⟩ ?_ ?_
  · exact Le.sub (by simp only [AW7, simprocAttr]) (by simp only [AW7, simprocAttr]; try simp)
  rintro i ⟨hi, hset⟩ ih
  refine Run.R ?_
  refine Run.nq ?_; refine Run.cW ?_ ?_
  · intro hc
    have hc : i < s.length := by simpa using hc
    refine Run.keep [0, 1, 4, 5] ?_; simp only [AK, Nat.reduceBEq]
    refine Run.nq ?_
    refine Run.regionD hC true [0,1,2,3,4,5,6,7,8,9,10,11,12,13,14,15,16,17,18,19,20,21,22,23,24] (by kernel_rfl) (fun K hK => ?_)
    simp (disch := omega) only [wrap_id, AW7, simprocAttr, hX]
    (repeat (with_reducible refine And.intro ?_ ?_); exact vc0)
    refine FunA.callD hP hT (c_spec_l1In (s.getD i 0) 0 ((c.length : Int) - 1)) (by simp only [AW7, simprocAttr]) ?_
    rintro rs o ⟨rfl, rfl⟩
    refine wWW ?_
    refine wE ?_; clear hK K
    refine Run.keep [0, 1, 4, 5, 36] ?_; simp only [AK, Nat.reduceBEq]
    have key : (bif !inB (s.getD i 0) 0 ((c.length : Int) - 1) then true else bif decide (0 < (i : Int)) then decide (s.getD i 0 ≤ s.getD ((i : Int) - 1).toNat 0) else false) = true ↔ ¬ (0 ≤ s.getD i 0 ∧ s.getD i 0 < c.length ∧ (0 < i → s.getD (i - 1) 0 < s.getD i 0)) := by
      have e : ((i : Int) - 1).toNat = i - 1 := by omega
      rw [e]
      cases hin : inB (s.getD i 0) 0 ((c.length : Int) - 1) with
      | false =>
        have : ¬ (0 ≤ s.getD i 0 ∧ s.getD i 0 ≤ (c.length : Int) - 1) := fun h => by rw [inB_iff.2 h] at hin; cases hin
        simp only [Bool.not_false, cond_true, true_iff]
        omega
      | true =>
        have := inB_iff.1 hin
        simp only [Bool.not_true, cond_false]
        by_cases h0 : 0 < i
        · have h0' : (0 : Int) < i := by omega
          simp only [h0', decide_true, cond_true, decide_eq_true_eq]
          omega
        · have h0' : ¬ (0 : Int) < i := by omega
          simp only [h0', decide_false, cond_false]
          simp only [Bool.false_eq_true, false_iff]
          omega
    refine Run.nq ?_; refine Run.cW ?_ ?_
    · intro hb
      refine Run.R ?_
      refine Run.rW [4] (hfin _ _ rfl rfl ?_)
      refine ⟨?_, rfl⟩
      have : setB c s = false := by
        cases h : setB c s with
        | false => rfl
        | true => exact absurd (setB_iff.1 h i hc) (key.1 hb)
      simp [isSetB, this]
    · intro hb
      have hb : 0 ≤ s.getD i 0 ∧ s.getD i 0 < c.length ∧ (0 < i → s.getD (i - 1) 0 < s.getD i 0) := by
        refine Classical.byContradiction fun h => ?_
        have := key.2 h
        rw [this] at hb
        cases hb
      refine Run.RW ?_
      refine Run.le ?_ (ih (i + 1) ⟨hc, fun k hk => ?_⟩ (by omega))
      · exact Le.sub (by simp only [AW7, simprocAttr]) (by simp only [AW7, simprocAttr, Option.some.injEq, Prod.mk.injEq, Sl.v.injEq, AV.int.injEq, AV.own.injEq, AV.bool.injEq]; try (repeat' apply And.intro); all_goals omega)
      · rcases Nat.lt_succ_iff_lt_or_eq.1 hk with h | rfl
        · exact hset k h
        · exact hb
  · intro hc
    have hc : i = s.length := by simp at hc; omega
    subst hc
    refine Run.exit rfl ?_; refine Run.nq ?_
    refine Run.nq ?_; refine Run.regionW hC (fun K hK => ?_); refine wW ?_
    refine FunA.cW hP hT (c_spec_IsCartan c) ?_
    rintro rs o ⟨rfl, rfl⟩
    refine wW ?_
    refine wE ?_; clear hK K
    refine Run.rW [4] (hfin _ _ rfl rfl ?_)
    refine ⟨?_, rfl⟩
    have : setB c s = true := setB_iff.2 hset
    simp [isSetB, this]
end Go.Proofs.YtaghdbbcadhjdaaGreatDoor
namespace Go.Proofs.YtaghdbbcadhjdaaGreatDoor
open Go Go.Aw Go.Cox
theorem set_len {c : List (List Int)} {s : List Int} (h : setP c.length s) : s.length ≤ c.length := by
  have key : ∀ i, i < s.length → (i : Int) ≤ s.getD i 0 := by
    intro i
    induction i with
    | zero => intro h0; exact (h 0 h0).1
    | succ i ih =>
      intro h1
      have := ih (by omega)
      have := (h (i + 1) h1).2.2 (by omega)
      rw [Nat.add_sub_cancel] at this
      omega
  by_cases h0 : s.length = 0
  · omega
  · have := key (s.length - 1) (by omega)
    have := (h (s.length - 1) (by omega)).2.1
    omega
theorem set_letters {n : Nat} {s : List Int} (h : setP n s) : letters n s := letters_getD.2 fun i hi => ⟨(h i hi).1, (h i hi).2.1⟩
theorem c_spec_l3Has (s : List Int) (x : Int) : FunA B 188 [.sl false .int s, .int .i64 x] (fun rs o => rs = [.bool (decide (x ∈ s))] ∧ o = []) := by
  refine FunA.walk B_ok (fn := Tryz.f188) (fun vs w => Tryz.call188 vs w) Tryz.func188 rfl (by rw [Tryz.ntmps188]; simp) (fun C hC hP hT hΓ hbt hfn hpin hfin => ?_); have hX := BX; rw [← hΓ, ← hbt.1, ← hbt.2.1, ← hbt.2.2.1] at hX; rw [hT] at hX; rw [Tryz.ntmps188]; simp only [AW7, simprocAttr, hX]
  refine Run.len 0 rfl fun hlens => ?_
  refine Run.R ?_
  refine Run.R ?_
  refine Run.loopI (X := Nat) (fun i => ⟨18, [(0, true, .v (.sl false .int s)), (1, true, .v (.int .i64 x)), (4, true, .v (.bool false)), (5, true, .v (.int .i64 i))], []⟩) (fun i => i ≤ s.length ∧ x ∉ s.take i) (fun i => s.length - i) 0 ⟨Nat.zero_le _, by simp⟩ ?_ ?_
  · exact Le.sub (by simp only [AW7, simprocAttr]) (by simp only [AW7, simprocAttr]; try simp)
  rintro i ⟨hi, hf⟩ ih
  refine Run.R ?_
  refine Run.nq ?_; refine Run.cW ?_ ?_
  · intro h
    have h : i < s.length := by simpa using h
    refine Run.R ?_
    refine Run.nq ?_; refine Run.cW ?_ ?_
    · intro hx
      have hx : s.getD i 0 = x := by simpa using hx
      refine Run.R ?_
      refine Run.rW [4] (hfin _ _ rfl rfl ?_)
      refine ⟨?_, rfl⟩
      have : x ∈ s := by rw [← hx]; exact getD_mem h
      simp [this]
    · intro hx
      have hx : ¬ s.getD i 0 = x := by simpa using hx
      refine Run.RW ?_
      refine Run.le ?_ (ih (i + 1) ⟨h, ?_⟩ (by omega))
      · exact Le.sub (by simp only [AW7, simprocAttr]) (by simp only [AW7, simprocAttr, Option.some.injEq, Prod.mk.injEq, Sl.v.injEq, AV.int.injEq, AV.own.injEq, AV.bool.injEq]; try (repeat' apply And.intro); all_goals omega)
      · rw [← take_snoc 0 s i h]
        simp only [List.mem_append, List.mem_singleton, not_or]
        exact ⟨hf, fun k => hx k.symm⟩
  · intro h
    have h : i = s.length := by simp at h; omega
    subst h
    rw [List.take_length] at hf
    refine Run.exit rfl ?_; refine Run.nq ?_
    refine Run.R ?_
    refine Run.rW [4] (hfin _ _ rfl rfl ?_)
    simp [hf]
end Go.Proofs.YtaghdbbcadhjdaaGreatDoor
namespace Go.Proofs.YtaghdbbcadhjdaaGreatDoor
open Go Go.Aw Go.Cox
theorem Run.join {C : Ctx} {i j : Item} {k : List Item} {σ : St} (σ' : St) (h1 : Run C k σ') (h2 : Run C k σ' → Run C (i :: j :: k) σ) : Run C (i :: j :: k) σ := h2 h1
theorem lp_step {c : List (List Int)} {s v : List Int} (h : ¬ firstIn v s < 0) (f : Nat) : lpL c s (f + 1) v = (firstIn v s :: (lpL c s f (reflL c (firstIn v s) v)).1, (lpL c s f (reflL c (firstIn v s) v)).2) := by
  simp only [lpL]; rw [if_neg h]
structure LP (c : List (List Int)) (s v0 : List Int) (L : Nat) (a v : List Int) : Prop where
  far : Far c (L - a.length) v
  le : a.length ≤ L
  let_ : letters c.length a
  eq : lpL c s 31 v0 = (a ++ (lpL c s (31 - a.length) v).1, (lpL c s (31 - a.length) v).2)
theorem LP.step {c : List (List Int)} (hc : CartanP c) {s v0 a v : List Int} {L : Nat} (hs : letters c.length s) (hL : L ≤ 31) (h : LP c s v0 L a v) (k : ¬ firstIn v s < 0) :
    LP c s v0 L (a ++ [firstIn v s]) (reflL c (firstIn v s) v) ∧ a.length < L ∧ (0 ≤ firstIn v s ∧ firstIn v s < c.length) := by
  rcases firstIn_spec v s hs with ⟨h1, _⟩ | ⟨h1, h2, _, h4⟩
  · omega
  · obtain ⟨M, m1, m2⟩ := h.far.down hc ⟨h1, h2⟩ h4
    have hle := h.le
    refine ⟨⟨?_, by simp; omega, letters_append.2 ⟨h.let_, letters_cons.2 ⟨⟨h1, h2⟩, letters_nil _⟩⟩, ?_⟩, by omega, h1, h2⟩
    · rw [show L - (a ++ [firstIn v s]).length = M by simp; omega]; exact m2
    · rw [h.eq, show 31 - a.length = (31 - (a ++ [firstIn v s]).length) + 1 by simp; omega, lp_step k]
      simp
end Go.Proofs.YtaghdbbcadhjdaaGreatDoor
namespace Go.Proofs.YtaghdbbcadhjdaaGreatDoor
open Go Go.Aw Go.Cox
end Go.Proofs.YtaghdbbcadhjdaaGreatDoor
namespace Go.Proofs.YtaghdbbcadhjdaaGreatDoor
open Go Go.Aw Go.Cox
def Pre (c : List (List Int)) (x z : List Int) : Prop := letters c.length z ∧ redL c z = z ∧ ∃ v, letters c.length v ∧ imageL c (z ++ v) = imageL c x ∧ z.length + v.length = x.length
def Nf (c : List (List Int)) (x : List Int) : Prop := letters c.length x ∧ redL c x = x ∧ x.length ≤ 30
theorem nf_idem {c : List (List Int)} (hc : CartanP c) {w : List Int} (hw : letters c.length w) (hl : w.length ≤ 31) : redL c (redL c w) = redL c w := red_eq (red_spec hc hw hl).2.2.2.1
theorem Nf.red {c : List (List Int)} (hc : CartanP c) {x : List Int} (h : Nf c x) : Red c x := by
  have := red_Red hc h.1 (by have := h.2.2; omega)
  rwa [h.2.1] at this
theorem Nf.far {c : List (List Int)} (hc : CartanP c) {x : List Int} (h : Nf c x) : Far c x.length (imageL c x) := (h.red hc).2
theorem Nf.short {c : List (List Int)} (hc : CartanP c) {x : List Int} (h : Nf c x) {u : List Int} (hu : letters c.length u) (he : imageL c u = imageL c x) : x.length ≤ u.length := by
  obtain ⟨L, h1, _, h3⟩ := Far.image hc hu
  rw [he] at h3
  have := (h.far hc).uniq hc h3
  omega
theorem Pre.nf {c : List (List Int)} {x z : List Int} (hx : Nf c x) (h : Pre c x z) : Nf c z := by
  obtain ⟨h1, h2, v, h3, h4, h5⟩ := h
  exact ⟨h1, h2, by have := hx.2.2; omega⟩
theorem Pre.refl {c : List (List Int)} {x : List Int} (hx : Nf c x) : Pre c x x := ⟨hx.1, hx.2.1, [], letters_nil _, by rw [List.append_nil], by simp⟩
theorem nf_red {c : List (List Int)} (hc : CartanP c) {u : List Int} (hu : letters c.length u) (hl : u.length ≤ 31) (hr : (redL c u).length ≤ 30) : Nf c (redL c u) :=
  ⟨(red_spec hc hu hl).1, nf_idem hc hu hl, hr⟩
theorem letter1 {n : Nat} {i : Nat} (h : i < n) : letters n [(i : Int)] := letters_cons.2 ⟨by omega, letters_nil _⟩
theorem image_same_app {c : List (List Int)} (hc : CartanP c) {a b : List Int} (ha : letters c.length a) (hb : letters c.length b) (h : imageL c a = imageL c b) (t : List Int) : imageL c (a ++ t) = imageL c (b ++ t) := by
  rw [image_append, image_append]; exact same_elt hc ha hb h (imageL_length c _)
theorem image_two {c : List (List Int)} (hc : CartanP c) (y : List Int) {i : Nat} (hi : i < c.length) (t : List Int) : imageL c (y ++ [(i : Int)] ++ ((i : Int) :: t)) = imageL c (y ++ t) := by
  rw [List.append_assoc, image_append, image_append]
  show actL c y (reflL c i (reflL c i (imageL c t))) = _
  rw [refl2 hc (i := (i : Int)) (by omega) (imageL_length c _)]
  exact (image_append c y t).symm
theorem Pre.down {c : List (List Int)} (hc : CartanP c) {x y : List Int} (hx : Nf c x) (hy : Pre c x y) {i : Nat} (hi : i < c.length) (hlt : (redL c (y ++ [(i : Int)])).length < y.length) : Pre c x (redL c (y ++ [(i : Int)])) := by
  have hny := hy.nf hx
  obtain ⟨h1, h2, v, h3, h4, h5⟩ := hy
  have hl : letters c.length (y ++ [(i : Int)]) := letters_append.2 ⟨h1, letter1 hi⟩
  have hlen : (y ++ [(i : Int)]).length ≤ 31 := by have := hny.2.2; simp; omega
  obtain ⟨a1, a2, a3, a4, a5⟩ := red_spec hc hl hlen
  have hvi : letters c.length ((i : Int) :: v) := letters_cons.2 ⟨by omega, h3⟩
  have him : imageL c (redL c (y ++ [(i : Int)]) ++ ((i : Int) :: v)) = imageL c x := by
    rw [image_same_app hc a1 hl a4, image_two hc y hi, h4]
  have hs := hx.short hc (letters_append.2 ⟨a1, hvi⟩) him
  simp at hs a3
  refine ⟨a1, nf_idem hc hl hlen, (i : Int) :: v, hvi, him, ?_⟩
  simp
  omega
theorem red_of_nil {c : List (List Int)} (hc : CartanP c) : redL c [] = [] := by
  have := (red_spec hc (letters_nil c.length) (by simp)).2.1
  exact List.eq_nil_of_length_eq_zero (by simpa using this)
theorem Pre.nil {c : List (List Int)} (hc : CartanP c) {x : List Int} (hx : Nf c x) : Pre c x [] := ⟨letters_nil _, red_of_nil hc, x, hx.1, rfl, by simp⟩
theorem nodup_le {α : Type} [DecidableEq α] : ∀ {a b : List α}, a.Nodup → (∀ x ∈ a, x ∈ b) → a.length ≤ b.length
  | [], b, _, _ => Nat.zero_le _
  | x :: a, b, hn, h => by
    obtain ⟨h1, h2⟩ := List.nodup_cons.1 hn
    have hx := h x (List.mem_cons_self ..)
    have := nodup_le (a := a) (b := b.erase x) h2 (fun y hy => by
      have hne : y ≠ x := fun e => h1 (e ▸ hy)
      exact (List.mem_erase_of_ne hne).2 (h y (List.mem_cons_of_mem _ hy)))
    rw [List.length_erase_of_mem hx] at this
    have hp : 0 < b.length := List.length_pos_of_mem hx
    simp only [List.length_cons]
    omega
end Go.Proofs.YtaghdbbcadhjdaaGreatDoor
namespace Go.Proofs.YtaghdbbcadhjdaaGreatDoor
open Go Go.Aw Go.Cox
def addN (a : List (List Int)) (v : List Int) : List (List Int) := if v ∈ a then a else a ++ [v]
def nxI (c : List (List Int)) (x : List Int) (a : List (List Int)) (i : Nat) : List (List Int) := if x.getD i 0 < 0 then a else addN a (reflL c i x)
def nxX (c : List (List Int)) (a : List (List Int)) (x : List Int) : List (List Int) := (List.range c.length).foldl (nxI c x) a
def nxS (c : List (List Int)) (sh : List (List Int)) : List (List Int) := sh.foldl (nxX c) []
def shl (c : List (List Int)) : Nat → List (List Int)
  | 0 => [ones c.length]
  | L + 1 => nxS c (shl c L)
theorem addN_mem (a : List (List Int)) (v z : List Int) : z ∈ addN a v ↔ z ∈ a ∨ z = v := by
  unfold addN
  by_cases h : v ∈ a
  · rw [if_pos h]
    constructor
    · exact .inl
    · rintro (h1 | rfl) <;> assumption
  · rw [if_neg h]; simp
theorem addN_nodup {a : List (List Int)} (h : a.Nodup) (v : List Int) : (addN a v).Nodup := by
  unfold addN
  by_cases hv : v ∈ a
  · rw [if_pos hv]; exact h
  · rw [if_neg hv, List.nodup_append]
    exact ⟨h, by simp, fun x hx y hy e => hv (by simp at hy; rw [← hy, ← e]; exact hx)⟩
theorem nxI_mem (c : List (List Int)) (x : List Int) (a : List (List Int)) (i : Nat) (z : List Int) : z ∈ nxI c x a i ↔ z ∈ a ∨ (0 ≤ x.getD i 0 ∧ z = reflL c i x) := by
  unfold nxI
  by_cases h : x.getD i 0 < 0
  · rw [if_pos h]
    constructor
    · exact .inl
    · rintro (h1 | ⟨h1, _⟩)
      · exact h1
      · omega
  · rw [if_neg h, addN_mem]
    constructor
    · rintro (h1 | h1)
      · exact .inl h1
      · exact .inr ⟨by omega, h1⟩
    · rintro (h1 | ⟨_, h1⟩)
      · exact .inl h1
      · exact .inr h1
theorem nxI_fold (c : List (List Int)) (x : List Int) : ∀ (l : List Nat) (a : List (List Int)), (∀ z, z ∈ l.foldl (nxI c x) a ↔ z ∈ a ∨ ∃ i ∈ l, 0 ≤ x.getD i 0 ∧ z = reflL c i x) ∧ (a.Nodup → (l.foldl (nxI c x) a).Nodup)
  | [], a => ⟨fun z => by simp, id⟩
  | i :: l, a => by
    obtain ⟨h1, h2⟩ := nxI_fold c x l (nxI c x a i)
    refine ⟨fun z => ?_, fun hn => h2 ?_⟩
    · rw [List.foldl_cons, h1, nxI_mem]
      constructor
      · rintro ((h | h) | ⟨j, hj, h⟩)
        · exact .inl h
        · exact .inr ⟨i, List.mem_cons_self .., h⟩
        · exact .inr ⟨j, List.mem_cons_of_mem _ hj, h⟩
      · rintro (h | ⟨j, hj, h⟩)
        · exact .inl (.inl h)
        · rcases List.mem_cons.1 hj with rfl | hj
          · exact .inl (.inr h)
          · exact .inr ⟨j, hj, h⟩
    · unfold nxI
      split
      · exact hn
      · exact addN_nodup hn _
theorem nxX_fold (c : List (List Int)) : ∀ (sh a : List (List Int)), (∀ z, z ∈ sh.foldl (nxX c) a ↔ z ∈ a ∨ ∃ x ∈ sh, ∃ i, i < c.length ∧ 0 ≤ x.getD i 0 ∧ z = reflL c i x) ∧ (a.Nodup → (sh.foldl (nxX c) a).Nodup)
  | [], a => ⟨fun z => by simp, id⟩
  | x :: sh, a => by
    obtain ⟨h1, h2⟩ := nxX_fold c sh (nxX c a x)
    obtain ⟨k1, k2⟩ := nxI_fold c x (List.range c.length) a
    refine ⟨fun z => ?_, fun hn => h2 (k2 hn)⟩
    rw [List.foldl_cons, h1, show z ∈ nxX c a x ↔ _ from k1 z]
    constructor
    · rintro ((h | ⟨i, hi, h⟩) | ⟨y, hy, h⟩)
      · exact .inl h
      · exact .inr ⟨x, List.mem_cons_self .., i, List.mem_range.1 hi, h⟩
      · exact .inr ⟨y, List.mem_cons_of_mem _ hy, h⟩
    · rintro (h | ⟨y, hy, i, hi, h⟩)
      · exact .inl (.inl h)
      · rcases List.mem_cons.1 hy with rfl | hy
        · exact .inl (.inr ⟨i, List.mem_range.2 hi, h⟩)
        · exact .inr ⟨y, hy, i, hi, h⟩
theorem far_step {c : List (List Int)} (hc : CartanP c) {L : Nat} {v : List Int} : Far c (L + 1) v ↔ ∃ x, Far c L x ∧ ∃ i, i < c.length ∧ 0 ≤ x.getD i 0 ∧ v = reflL c i x := by
  constructor
  · intro h
    rcases fst_of_far hc h with ⟨_, h2⟩ | ⟨h1, h2, h3, M, h4, h5⟩
    · omega
    · have : M = L := by omega
      subst this
      have hk : (((fstN v).toNat : Nat) : Int) = fstN v := by omega
      refine ⟨_, h5, (fstN v).toNat, by omega, ?_, ?_⟩
      · rw [reflL_get c (fstN v) v (fstN v).toNat (by rw [h.1]; omega), show ent c (fstN v).toNat (fstN v).toNat = 2 from (matA_cartan hc).diag _ (by omega)]
        omega
      · rw [hk, refl2 hc ⟨h1, h2⟩ h.1]
  · rintro ⟨x, hx, i, hi, h0, rfl⟩
    have := hx.nz hc i hi
    exact hx.up hc ⟨by omega, by omega⟩ (by rw [Int.toNat_natCast]; omega)
theorem shl_spec {c : List (List Int)} (hc : CartanP c) : ∀ L, (shl c L).Nodup ∧ ∀ v, v ∈ shl c L ↔ Far c L v
  | 0 => ⟨by simp [shl], fun v => by
      simp only [shl, List.mem_singleton]
      exact ⟨fun h => h ▸ Far.ones c, fun h => h.zero⟩⟩
  | L + 1 => by
    obtain ⟨h1, h2⟩ := shl_spec hc L
    obtain ⟨k1, k2⟩ := nxX_fold c (shl c L) []
    refine ⟨k2 List.nodup_nil, fun v => ?_⟩
    rw [show v ∈ shl c (L + 1) ↔ _ from k1 v, far_step hc]
    constructor
    · rintro (h | ⟨x, hx, h⟩)
      · simp at h
      · exact ⟨x, (h2 x).1 hx, h⟩
    · rintro ⟨x, hx, h⟩
      exact .inr ⟨x, (h2 x).2 hx, h⟩
def wds (c : List (List Int)) (L : Nat) : List (List Int) := (shl c L).map (nfL c 31)
def outS (c : List (List Int)) : Nat → List (List Int)
  | 0 => [[]]
  | L + 1 => outS c L ++ srt (wds c (L + 1))
def allL (c : List (List Int)) : List (List Int) := outS c 25
theorem wds_mem {c : List (List Int)} (hc : CartanP c) {L : Nat} (hL : L ≤ 30) (w : List Int) : w ∈ wds c L ↔ Nf c w ∧ w.length = L := by
  unfold wds
  rw [List.mem_map]
  constructor
  · rintro ⟨v, hv, rfl⟩
    have hf := ((shl_spec hc L).2 v).1 hv
    obtain ⟨n1, n2, n3⟩ := nfL_far hc 31 L hf (by omega)
    exact ⟨⟨n2, by unfold redL; rw [n3], by omega⟩, n1⟩
  · rintro ⟨hn, rfl⟩
    exact ⟨imageL c w, ((shl_spec hc _).2 _).2 (hn.far hc), hn.2.1⟩
theorem wds_nodup {c : List (List Int)} (hc : CartanP c) {L : Nat} (hL : L ≤ 30) : (wds c L).Nodup := by
  unfold wds
  obtain ⟨h1, h2⟩ := shl_spec hc L
  rw [List.nodup_iff_pairwise_ne, List.pairwise_map]
  refine List.Pairwise.imp_of_mem ?_ (List.nodup_iff_pairwise_ne.1 h1)
  intro a b ha hb hne e
  apply hne
  rw [← (nfL_far hc 31 L ((h2 a).1 ha) (by omega)).2.2, ← (nfL_far hc 31 L ((h2 b).1 hb) (by omega)).2.2, e]
theorem outS_mem {c : List (List Int)} (hc : CartanP c) : ∀ {L : Nat}, L ≤ 30 → ∀ w, w ∈ outS c L ↔ Nf c w ∧ w.length ≤ L
  | 0, _, w => by
    simp only [outS, List.mem_singleton]
    constructor
    · rintro rfl
      refine ⟨⟨letters_nil _, ?_, by simp⟩, by simp⟩
      have := red_Red hc (letters_nil _) (w := []) (by simp)
      have h := (red_far hc (Far.ones c) (by omega) (w := []))
      exact List.eq_nil_of_length_eq_zero h.1
    · rintro ⟨_, h⟩
      exact List.eq_nil_of_length_eq_zero (by omega)
  | L + 1, hL, w => by
    simp only [outS, List.mem_append, (srt_spec _).2, outS_mem hc (show L ≤ 30 by omega) w, wds_mem hc hL w]
    constructor
    · rintro (⟨h1, h2⟩ | ⟨h1, h2⟩) <;> exact ⟨h1, by omega⟩
    · rintro ⟨h1, h2⟩
      rcases Nat.lt_or_ge w.length (L + 1) with h | h
      · exact .inl ⟨h1, by omega⟩
      · exact .inr ⟨h1, by omega⟩
theorem cmpW_short {p q : List Int} (h : p.length < q.length) : cmpW p q < 0 := by unfold cmpW; rw [if_pos h]; decide
theorem outS_strict {c : List (List Int)} (hc : CartanP c) : ∀ {L : Nat}, L ≤ 30 → StrictW (outS c L)
  | 0, _ => by unfold StrictW outS; simp
  | L + 1, hL => by
    refine List.pairwise_append.2 ⟨outS_strict hc (by omega), (srt_spec _).1, fun a ha b hb => ?_⟩
    have h1 := (outS_mem hc (by omega) a).1 ha
    have h2 := (wds_mem hc hL b).1 (((srt_spec _).2 b).1 hb)
    exact cmpW_short (by omega)
theorem allL_spec {c : List (List Int)} (hF : FinP c) : StrictW (allL c) ∧ ∀ w, w ∈ allL c ↔ Nf c w := by
  refine ⟨outS_strict hF.1 (by omega), fun w => ?_⟩
  rw [show w ∈ allL c ↔ _ from outS_mem hF.1 (by omega) w]
  refine ⟨fun h => h.1, fun h => ⟨h, ?_⟩⟩
  have := fin_len hF _ (h.far hF.1)
  omega
theorem shl_end {c : List (List Int)} (hF : FinP c) {L : Nat} (hL : 25 ≤ L) : shl c L = [] := by
  cases h : shl c L with
  | nil => rfl
  | cons v l =>
    have := fin_len hF _ (((shl_spec hF.1 L).2 v).1 (by rw [h]; exact List.mem_cons_self ..))
    omega
theorem shl_stop {c : List (List Int)} {L : Nat} (h : shl c L = []) : ∀ k, shl c (L + k) = [] ∧ outS c (L + k) = outS c L
  | 0 => ⟨h, rfl⟩
  | k + 1 => by
    obtain ⟨h1, h2⟩ := shl_stop h k
    have h3 : shl c (L + (k + 1)) = [] := by
      show nxS c (shl c (L + k)) = []
      rw [h1]; rfl
    refine ⟨h3, ?_⟩
    show outS c (L + k) ++ srt (wds c (L + (k + 1))) = _
    rw [wds, h3, h2]
    simp [srt_nil]
theorem shl_all {c : List (List Int)} {L : Nat} (hL : L ≤ 25) (h : shl c L = []) : outS c L = allL c := by
  obtain ⟨k, hk⟩ := Nat.exists_eq_add_of_le hL
  have := (shl_stop h k).2
  unfold allL
  rw [hk, this]
theorem srt_perm {l : List (List Int)} (h : l.Nodup) : (srt l).Perm l := by
  obtain ⟨h1, h2⟩ := srt_spec l
  have hn : (srt l).Nodup := List.Pairwise.imp (fun {a b} h e => by rw [e, cmpW_self] at h; omega) h1
  exact (List.perm_ext_iff_of_nodup hn h).2 h2
theorem outS_len {c : List (List Int)} (hc : CartanP c) {L : Nat} (hL : L + 1 ≤ 30) : (outS c (L + 1)).length = (outS c L).length + (shl c (L + 1)).length := by
  show (outS c L ++ srt (wds c (L + 1))).length = _
  rw [List.length_append, (srt_perm (wds_nodup hc hL)).length_eq]
  simp [wds]
theorem outS_mono {c : List (List Int)} : ∀ (k L : Nat), (outS c L).length ≤ (outS c (L + k)).length
  | 0, _ => Nat.le_refl _
  | k + 1, L => Nat.le_trans (outS_mono k L) (by show _ ≤ (outS c (L + k) ++ _).length; simp)
theorem outS_le {c : List (List Int)} {L : Nat} (hL : L ≤ 25) : (outS c L).length ≤ (allL c).length := by
  obtain ⟨k, hk⟩ := Nat.exists_eq_add_of_le hL
  have := outS_mono (c := c) k L
  rw [← hk] at this
  exact this
theorem far_bd24 {c : List (List Int)} (hF : FinP c) {L : Nat} {v : List Int} (h : Far c L v) : Bd (4 ^ 24) v := by
  obtain ⟨n1, n2, n3⟩ := nfL_far hF.1 31 L h (by have := fin_len hF _ h; omega)
  have := Bd.image hF.1 _ n2
  rw [n3, n1] at this
  exact this.mono (pow4_le (fin_len hF _ h))
end Go.Proofs.YtaghdbbcadhjdaaGreatDoor
namespace Go.Proofs.YtaghdbbcadhjdaaGreatDoor
open Go
def zero4 : Array Value := #[.int .i64 0, .int .i64 0, .int .i64 0, .int .i64 0]
def key4 (xs : List Int) : List Int := [xs.getD 0 0, xs.getD 1 0, xs.getD 2 0, xs.getD 3 0]
def vec4 (xs : List Int) : Array Value := #[.int .i64 (xs.getD 0 0), .int .i64 (xs.getD 1 0), .int .i64 (xs.getD 2 0), .int .i64 (xs.getD 3 0)]
theorem alloc2_new (w : World) (o1 o2 : Obj) : ((w.alloc o1).alloc o2).heap[w.heap.size + 1]? = some o2 := by
  show ((w.heap.push o1).push o2)[w.heap.size + 1]? = _
  rw [Array.getElem?_push, if_pos (by simp)]
theorem alloc2_fst (w : World) (o1 o2 : Obj) : ((w.alloc o1).alloc o2).heap[w.heap.size]? = some o1 := by
  show ((w.heap.push o1).push o2)[w.heap.size]? = _
  rw [Array.getElem?_push, if_neg (by simp), Array.getElem?_push, if_pos rfl]
theorem alloc2_old (w : World) (o1 o2 : Obj) {b : Nat} (h : b < w.heap.size) : ((w.alloc o1).alloc o2).heap[b]? = w.heap[b]? := by
  show ((w.heap.push o1).push o2)[b]? = _
  rw [Array.getElem?_push, if_neg (by simp; omega), Array.getElem?_push, if_neg (by omega)]
theorem vec_copy (a : Addr) (cap : Nat) (xs : List Int) (w : World) (h1 : 1 ≤ xs.length) (hl : xs.length ≤ 4) (hr : ∀ k (hk : k < xs.length), w.cell? (a.add k) = some (.int .i64 xs[k])) (t : TypeId) :
    (Builtin.copy_ #[27, 27] 3 #[.slice (some ⟨w.heap.size + 1, 0, none⟩) 4 4, .slice (some a) xs.length cap]).run Tryz.prog ((w.alloc (.cells zero4 t)).alloc (.cells zero4 t)) =
      .ok (.int .i64 xs.length) (((w.alloc (.cells zero4 t)).alloc (.cells zero4 t)).setRow (w.heap.size + 1) (vec4 xs)) := by
  have hr2 : ∀ k (hk : k < xs.length), ((w.alloc (.cells zero4 t)).alloc (.cells zero4 t)).cell? (a.add k) = some (.int .i64 xs[k]) := fun k hk => by
    have h0 := hr k hk
    have hlt : a.block < w.heap.size := by
      unfold World.cell? at h0
      rw [Go.Aw.add_block] at h0
      cases hb : w.heap[a.block]? with
      | none => rw [hb] at h0; simp at h0
      | some o => exact (Array.getElem?_eq_some_iff.1 hb).1
    rw [← h0]
    unfold World.cell?
    rw [Go.Aw.add_block, alloc2_old _ _ _ hlt]
  have hmin : Nat.min xs.length 4 = xs.length := Nat.min_eq_left hl
  have h := run_copy_row (P := Tryz.prog) ((w.alloc (.cells zero4 t)).alloc (.cells zero4 t)) 27 27 3 3 (w.heap.size + 1) 0 4 4 a xs.length cap _ t (xs.map (Value.int .i64)) Tryz.underlying27 (by kernel_rfl) (alloc2_new _ _ _) (by rw [List.length_map, hmin])
    (fun j v hv => by
      obtain ⟨hj, rfl⟩ := List.getElem?_eq_some_iff.1 hv
      simpa using hr2 j (by simpa using hj)) (by rw [List.length_map, Nat.zero_add]; exact hl) (by simp [Value.oneCell'])
  simp only [hmin, List.take_zero, List.nil_append, Nat.zero_add, List.length_map] at h
  have e : ((xs.map (Value.int .i64)) ++ (zero4.toList.drop xs.length)).toArray = vec4 xs := by
    match xs, h1, hl with
    | [_], _, _ => rfl
    | [_, _], _, _ => rfl
    | [_, _, _], _, _ => rfl
    | [_, _, _, _], _, _ => rfl
  rw [e] at h
  exact h
structure Kp (n : Nat) (w w' : World) : Prop where
  os : w'.os = w.os
  tape : w'.tape = w.tape
  output : w'.output = w.output
  size : w.heap.size ≤ w'.heap.size
  drawn : w.drawn ≤ w'.drawn
  block : ∀ b, b < n → w'.heap[b]? = w.heap[b]?
theorem Kp.refl (n : Nat) (w : World) : Kp n w w := ⟨rfl, rfl, rfl, Nat.le_refl _, Nat.le_refl _, fun _ _ => rfl⟩
theorem Kp.cell {n : Nat} {w w' : World} (h : Kp n w w') (b j : Nat) (v : Value) (hb : n ≤ b) : Kp n w (w'.setCell ⟨b, j, none⟩ v) :=
  ⟨h.os, h.tape, h.output, by simpa [World.setCell] using h.size, h.drawn, fun c hc => by
    rw [← h.block c hc]
    unfold World.setCell
    simp [Array.getElem?_modify, show ¬ b = c by omega]⟩
theorem Kp.row {n : Nat} {w w' : World} (h : Kp n w w') (b : Nat) (cs : Array Value) (hb : n ≤ b) : Kp n w (w'.setRow b cs) :=
  ⟨h.os, h.tape, h.output, by simpa [World.setRow] using h.size, h.drawn, fun c hc => by rw [setRow_other _ _ _ _ (by omega)]; exact h.block c hc⟩
theorem Kp.alloc {n : Nat} {w w' : World} (h : Kp n w w') (o : Obj) (hn : n ≤ w'.heap.size) : Kp n w (w'.alloc o) :=
  ⟨h.os, h.tape, h.output, by have := h.size; simp; omega, h.drawn, fun c hc => by
    rw [← h.block c hc]
    show (w'.heap.push o)[c]? = _
    rw [Array.getElem?_push, if_neg (by omega)]⟩
theorem vec_frame (w : World) (o1 o2 : Obj) (cs : Array Value) (v0 v1 v2 v3 : Value) :
    Kp w.heap.size w (((((((w.alloc o1).alloc o2).setRow (w.heap.size + 1) cs).setCell ⟨w.heap.size, 0, none⟩ v0).setCell ⟨w.heap.size, 1, none⟩ v1).setCell ⟨w.heap.size, 2, none⟩ v2).setCell ⟨w.heap.size, 3, none⟩ v3) :=
  (((((((Kp.refl _ w).alloc o1 (Nat.le_refl _)).alloc o2 (by simp)).row _ cs (by omega)).cell _ _ _ (Nat.le_refl _)).cell _ _ _ (Nat.le_refl _)).cell _ _ _ (Nat.le_refl _)).cell _ _ _ (Nat.le_refl _)
set_option maxRecDepth 100000 in
theorem w_vectorOf (a : Addr) (cap : Nat) (xs : List Int) (w : World) (h1 : 1 ≤ xs.length) (hl : xs.length ≤ 4) (hr : ∀ k (hk : k < xs.length), w.cell? (a.add k) = some (.int .i64 xs[k])) :
    Calls Tryz.prog 101 #[.slice (some a) xs.length cap] w fun e w' => e = .returned (.agg #[.int .i64 (xs.getD 0 0), .int .i64 (xs.getD 1 0), .int .i64 (xs.getD 2 0), .int .i64 (xs.getD 3 0)]) ∧ Kp w.heap.size w w' := by
  have hcp := vec_copy a cap xs w h1 hl hr 71
  have g3 : (((w.alloc (.cells zero4 71)).alloc (.cells zero4 71)).setRow (w.heap.size + 1) (vec4 xs)).heap[w.heap.size + 1]? = some (.cells (vec4 xs) 71 (0, 0)) := setRow_heap _ _ _ _ _ _ (alloc2_new _ _ _)
  have c0 : (((w.alloc (.cells zero4 71)).alloc (.cells zero4 71)).setRow (w.heap.size + 1) (vec4 xs)).cell? ⟨w.heap.size + 1, 0, none⟩ = some (.int .i64 (xs.getD 0 0)) := by simp only [World.cell?, g3]; rfl
  have c1 : (((w.alloc (.cells zero4 71)).alloc (.cells zero4 71)).setRow (w.heap.size + 1) (vec4 xs)).cell? ⟨w.heap.size + 1, 1, none⟩ = some (.int .i64 (xs.getD 1 0)) := by simp only [World.cell?, g3]; rfl
  have c2 : (((w.alloc (.cells zero4 71)).alloc (.cells zero4 71)).setRow (w.heap.size + 1) (vec4 xs)).cell? ⟨w.heap.size + 1, 2, none⟩ = some (.int .i64 (xs.getD 2 0)) := by simp only [World.cell?, g3]; rfl
  have c3 : (((w.alloc (.cells zero4 71)).alloc (.cells zero4 71)).setRow (w.heap.size + 1) (vec4 xs)).cell? ⟨w.heap.size + 1, 3, none⟩ = some (.int .i64 (xs.getD 3 0)) := by simp only [World.cell?, g3]; rfl
  have g2 : (((w.alloc (.cells zero4 71)).alloc (.cells zero4 71)).setRow (w.heap.size + 1) (vec4 xs)).heap[w.heap.size]? = some (.cells zero4 71 (0, 0)) := by rw [setRow_other _ _ _ _ (by omega)]; exact alloc2_fst _ _ _
  have d0 : (((w.alloc (.cells zero4 71)).alloc (.cells zero4 71)).setRow (w.heap.size + 1) (vec4 xs)).cell? ⟨w.heap.size, 0, none⟩ = some (.int .i64 0) := by simp only [World.cell?, g2]; rfl
  have z0 : (((w.alloc (.cells zero4 71)).alloc (.cells zero4 71)).setRow (w.heap.size + 1) (vec4 xs)).frozen? ⟨w.heap.size, 0, none⟩ = false := by simp only [World.frozen?, g2]; rfl
  have d1 : (((w.alloc (.cells zero4 71)).alloc (.cells zero4 71)).setRow (w.heap.size + 1) (vec4 xs)).cell? ⟨w.heap.size, 1, none⟩ = some (.int .i64 0) := by simp only [World.cell?, g2]; rfl
  have z1 : (((w.alloc (.cells zero4 71)).alloc (.cells zero4 71)).setRow (w.heap.size + 1) (vec4 xs)).frozen? ⟨w.heap.size, 1, none⟩ = false := by simp only [World.frozen?, g2]; rfl
  have d2 : (((w.alloc (.cells zero4 71)).alloc (.cells zero4 71)).setRow (w.heap.size + 1) (vec4 xs)).cell? ⟨w.heap.size, 2, none⟩ = some (.int .i64 0) := by simp only [World.cell?, g2]; rfl
  have z2 : (((w.alloc (.cells zero4 71)).alloc (.cells zero4 71)).setRow (w.heap.size + 1) (vec4 xs)).frozen? ⟨w.heap.size, 2, none⟩ = false := by simp only [World.frozen?, g2]; rfl
  have d3 : (((w.alloc (.cells zero4 71)).alloc (.cells zero4 71)).setRow (w.heap.size + 1) (vec4 xs)).cell? ⟨w.heap.size, 3, none⟩ = some (.int .i64 0) := by simp only [World.cell?, g2]; rfl
  have z3 : (((w.alloc (.cells zero4 71)).alloc (.cells zero4 71)).setRow (w.heap.size + 1) (vec4 xs)).frozen? ⟨w.heap.size, 3, none⟩ = false := by simp only [World.frozen?, g2]; rfl
  clear g3 g2
  unfold zero4 at hcp c0 c1 c2 c3 d0 d1 d2 d3 z0 z1 z2 z3
  go_enter Tryz.func101, Tryz.ntmps101
  go_wp2
  have hres : Tryz.f101.results = #[.cell 2 71] := rfl
  generalize hw3 : (((w.alloc (.cells #[.int .i64 0, .int .i64 0, .int .i64 0, .int .i64 0] 71)).alloc (.cells #[.int .i64 0, .int .i64 0, .int .i64 0, .int .i64 0] 71)).setRow (w.heap.size + 1) (vec4 xs)) = w3 at *
  have hld := Go.Aw.run_wload (C := B) (t := 71) (e := .vec) (a := ⟨w.heap.size, 0, none⟩) (d := key4 xs) (w := (((w3.setCell ⟨w.heap.size, 0, none⟩ (.int .i64 (xs.getD 0 0))).setCell ⟨w.heap.size, 1, none⟩ (.int .i64 (xs.getD 1 0))).setCell ⟨w.heap.size, 2, none⟩ (.int .i64 (xs.getD 2 0))).setCell ⟨w.heap.size, 3, none⟩ (.int .i64 (xs.getD 3 0))) B_ok rfl rfl (fun j hj => by
    rw [Go.Aw.add_plain, Nat.zero_add]
    match j, hj with
    | 0, _ =>
      rw [World.cell?_setCell_other _ _ _ _ (by simp), World.cell?_setCell_other _ _ _ _ (by simp), World.cell?_setCell_other _ _ _ _ (by simp), World.cell?_setCell_same _ _ _ d0]; rfl
    | 1, _ =>
      rw [World.cell?_setCell_other _ _ _ _ (by simp), World.cell?_setCell_other _ _ _ _ (by simp), World.cell?_setCell_same (u := .int .i64 0) _ _ _ (by rw [World.cell?_setCell_other _ _ _ _ (by simp)]; exact d1)]; rfl
    | 2, _ =>
      rw [World.cell?_setCell_other _ _ _ _ (by simp), World.cell?_setCell_same (u := .int .i64 0) _ _ _ (by rw [World.cell?_setCell_other _ _ _ _ (by simp), World.cell?_setCell_other _ _ _ _ (by simp)]; exact d2)]; rfl
    | 3, _ =>
      rw [World.cell?_setCell_same (u := .int .i64 0) _ _ _ (by rw [World.cell?_setCell_other _ _ _ _ (by simp), World.cell?_setCell_other _ _ _ _ (by simp), World.cell?_setCell_other _ _ _ _ (by simp)]; exact d3)]; rfl)
  simp only [List.getD_eq_getElem?_getD] at hld
  refine ⟨rfl, .agg ((key4 xs).map (Value.int .i64)).toArray, ?_, ?_⟩
  · unfold results
    rw [hres]
    simp only [Instr.loadAt, Instr.sureAddr, Sem.run_bind, Sem.run_pure, Result.andThen_ok] at hld
    simp [asAddr]
    exact hld
  · refine ⟨by simp [key4], ?_⟩
    rw [← hw3]
    exact vec_frame w _ _ _ _ _ _ _
open Go.Aw
theorem key4_inj {xs ys : List Int} (hx : xs.length ≤ 4) (h : xs.length = ys.length) (e : key4 xs = key4 ys) : xs = ys := by
  simp only [key4, List.cons.injEq, and_true] at e
  obtain ⟨e0, e1, e2, e3⟩ := e
  apply List.ext_getElem h
  intro i h1 h2
  have : xs.getD i 0 = ys.getD i 0 := by
    match i, (show i < 4 by omega) with
    | 0, _ => exact e0
    | 1, _ => exact e1
    | 2, _ => exact e2
    | 3, _ => exact e3
  simpa [List.getD_eq_getElem?_getD, h1, h2] using this
theorem key4_take {xs : List Int} (h : xs.length ≤ 4) : (key4 xs).take xs.length = xs := by
  match xs, h with
  | [], _ => rfl
  | [_], _ => rfl
  | [_, _], _ => rfl
  | [_, _, _], _ => rfl
  | [_, _, _, _], _ => rfl
theorem c_impl_vectorOf (xs : List Int) (h1 : 1 ≤ xs.length) (hl : xs.length ≤ 4) : FunA B 101 [.sl false .int xs] (fun rs o => rs = [.vec (key4 xs)] ∧ o = []) := by
  refine ⟨fun vs w => Tryz.call101 vs w, fun w L vs hG hv ha => ?_⟩
  match vs, hv with
  | [s], _ =>
  have hs : SlRel ((B.bareL w L).V w [] (fun _ => undef)) false .int xs s := ha 0 _ s rfl rfl
  obtain ⟨base, cap, hv', hc, hcm, hx⟩ := hs
  obtain ⟨a, _, hb, _⟩ := hx 0 (by omega)
  subst hb hv'
  have hcell : ∀ k (hk : k < xs.length), w.cell? (a.add k) = some (.int .i64 xs[k]) := fun k hk => by
    obtain ⟨a', u, e, _, hu, hq⟩ := hx k hk
    cases e
    cases hu
    have h0 := hq 0 (by simp [E.size])
    simp only [E.size, Nat.mul_one, Nat.add_zero] at h0
    exact V_cell (by simpa [Value.cells] using h0)
  refine (w_vectorOf a cap xs w h1 hl hcell).mono ?_
  rintro e w' ⟨rfl, hk⟩
  refine ⟨[.agg ((key4 xs).map (Value.int .i64)).toArray], rfl, [.vec (key4 xs)], [], fun _ => undef, ⟨rfl, rfl⟩, rfl, fun i x v hx hv => ?_, ⟨fun id o h => by simp at h, fun i j o o' b h => by simp at h, fun b ⟨id, o, h, _⟩ => by simp at h, hk.os, hk.tape, hk.output, hk.size, fun _ => hk.drawn, fun b hb _ => hk.block b hb, hG⟩, rfl, rfl⟩
  match i with
  | 0 => simp at hx hv; subst hx hv; exact ⟨rfl, rfl⟩
  | i + 1 => simp at hx
end Go.Proofs.YtaghdbbcadhjdaaGreatDoor
namespace Go.Proofs.YtaghdbbcadhjdaaGreatDoor
open Go Go.Aw
theorem c_impl_list (xs : List Int) (n : Nat) (h4 : xs.length = 4) (hn : n ≤ 4) : FunA B 102 [.vec xs, .int .i64 n] (fun rs o => rs = [.own 0 0] ∧ o = [.arr .int (xs.take n) 0 true]) := by
  refine FunA.walk B_ok (fn := Tryz.f102) (fun vs w => Tryz.call102 vs w) Tryz.func102 rfl (by rw [Tryz.ntmps102]; simp) (fun C hC hP hT hΓ hbt hfn hpin hfin => ?_); have hX := BX; rw [← hΓ, ← hbt.1, ← hbt.2.1, ← hbt.2.2.1] at hX; rw [hT] at hX; rw [Tryz.ntmps102]; simp only [AW7, simprocAttr, hX]
  refine Run.R ?_
  refine Run.R ?_
  refine Run.reK hpin [4] [0] (by decide) (by simp) ?_; simp only [AR, AW7, simprocAttr]
  refine Run.rW [4] (hfin _ _ rfl rfl ?_)
  exact ⟨rfl, rfl⟩
end Go.Proofs.YtaghdbbcadhjdaaGreatDoor
namespace Go.Proofs.YtaghdbbcadhjdaaGreatDoor
open Go
end Go.Proofs.YtaghdbbcadhjdaaGreatDoor
namespace Go.Proofs.YtaghdbbcadhjdaaGreatDoor
open Go Go.RowKit
end Go.Proofs.YtaghdbbcadhjdaaGreatDoor
namespace Go.Aw
open Go
end Go.Aw
namespace Go.Proofs.YtaghdbbcadhjdaaGreatDoor
open Go Go.Aw
end Go.Proofs.YtaghdbbcadhjdaaGreatDoor
namespace Go.Proofs.YtaghdbbcadhjdaaGreatDoor
open Go Go.Aw
end Go.Proofs.YtaghdbbcadhjdaaGreatDoor
namespace Go.Aw
open Go
theorem Run.matfact {C : Ctx} {k : List Item} (id : Nat) {n : Nat} {fr : List (Nat × Bool × Sl)} {obs : List O} {g : Nat} {hs : List (Option Nat)} {rows : List (List Int)} {nn : Bool} (ho : oAt obs id = .mat hs rows g nn)
    (h : hs.length = rows.length → (∀ (i j q : Nat), hs[i]? = some (some q) → hs[j]? = some (some q) → i = j) → (∀ i : Nat, hs[i]? = some none → rows.getD i [] = []) → Run C k ⟨n, fr, obs⟩) : Run C k ⟨n, fr, obs⟩ := by
  refine Run.fact (p := hs.length = rows.length ∧ (∀ (i j q : Nat), hs[i]? = some (some q) → hs[j]? = some (some q) → i = j) ∧ (∀ i : Nat, hs[i]? = some none → rows.getD i [] = [])) (fun a w ρ r => ?_) fun hh => h hh.1 hh.2.1 hh.2.2
  have hid : id < obs.length := by
    rcases Nat.lt_or_ge id obs.length with h | h
    · exact h
    · rw [oAt_eq, List.getElem?_eq_none h] at ho; cases ho
  have ho' : obs[id]? = some (.mat hs rows g nn) := by rw [oAt_get hid, ho]
  obtain ⟨cs, k1, k2, k3, k4, k5, k6, k7⟩ := r.w.os id _ ho'
  refine ⟨k2, fun i j q h1 h2 => k4 i j q q h1 h2 rfl, fun i hi => ?_⟩
  have hcl : cs.length = rows.length := by have := k1.1; omega
  have hlt : i < hs.length := (List.getElem?_eq_some_iff.1 hi).1
  have := k3 i none rows[i] cs[i] hi (by simp) (by simp)
  rw [List.getD_eq_getElem?_getD, List.getElem?_eq_getElem (by omega)]
  exact this.2
theorem mat_head {hs : List (Option Nat)} {rows : List (List Int)} (hl : hs.length = rows.length) (h1 : ∀ (i j q : Nat), hs[i]? = some (some q) → hs[j]? = some (some q) → i = j) (h2 : ∀ i : Nat, hs[i]? = some none → rows.getD i [] = [])
    {i : Nat} (hi : i < rows.length) (hr : 0 < (rows.getD i []).length) : ∃ q, hs.getD i none = some q ∧ some q ∈ hs ∧ hs.idxOf (some q) = i := by
  have hi' : i < hs.length := by omega
  have e : hs[i]? = some hs[i] := List.getElem?_eq_getElem hi'
  cases hq : hs[i] with
  | none =>
    rw [hq] at e
    rw [h2 i e] at hr
    simp at hr
  | some q =>
    rw [hq] at e
    have hm : some q ∈ hs := List.mem_of_getElem? e
    refine ⟨q, by rw [List.getD_eq_getElem?_getD, e]; rfl, hm, ?_⟩
    have hlt := List.idxOf_lt_length_iff.2 hm
    have e2 : hs[hs.idxOf (some q)]? = some (some q) := by rw [List.getElem?_eq_getElem hlt]; simp
    exact h1 _ _ q e2 e
end Go.Aw
namespace Go.Proofs.YtaghdbbcadhjdaaGreatDoor
open Go Go.Aw
def chR (n i : Nat) : List Int := (List.range n).map fun j => if j = i then 2 else if j + 1 = i ∨ i + 1 = j then -1 else 0
def chL (n : Nat) : List (List Int) := (List.range n).map (chR n)
theorem chR_eq (n i : Nat) (hi : i < n) : (if i + 1 < n then (if 0 < i then ((List.replicate n (0:Int)).set i 2).set (i - 1) (-1) else (List.replicate n (0:Int)).set i 2).set (i + 1) (-1) else (if 0 < i then ((List.replicate n (0:Int)).set i 2).set (i - 1) (-1) else (List.replicate n (0:Int)).set i 2)) = chR n i := by
  apply List.ext_getElem?
  intro j
  unfold chR
  by_cases hj : j < n
  · by_cases h1 : i + 1 < n <;> by_cases h2 : 0 < i <;> simp only [h1, h2, if_true, if_false, List.getElem?_set, List.length_set, List.length_replicate, List.getElem?_map, List.getElem?_range hj, Option.map_some, List.getElem?_replicate, hj] <;> (repeat' split) <;> first | rfl | omega | (simp; omega) | simp_all
  · rw [List.getElem?_eq_none, List.getElem?_eq_none]
    · simp; omega
    · split <;> split <;> simp <;> omega
theorem chL_snoc (n i : Nat) : (List.range (i + 1)).map (chR n) = (List.range i).map (chR n) ++ [chR n i] := by rw [List.range_succ]; simp
theorem c_l2ChainR (n : Nat) (hn : n ≤ 8) : FunA B 171 [.int .i64 n] (fun rs o => ∃ ys g nn rest, (rw2 ys = chL n ∧ nn = true ∧ rest = []) ∧ (lb1 ys).Nodup ∧ rest.all flatAV = true ∧ rs = .own 0 g :: rest ∧ o = [.arr .lrow ys g nn]) := by
  refine FunA.walk B_ok (fn := Tryz.f171) (fun vs w => Tryz.call171 vs w) Tryz.func171 rfl (by rw [Tryz.ntmps171]; simp) (fun C hC hP hT hΓ hbt hfn hpin hfin => ?_); have hX := BX; rw [← hΓ, ← hbt.1, ← hbt.2.1, ← hbt.2.2.1] at hX; rw [hT] at hX; rw [Tryz.ntmps171]; simp only [AW7, simprocAttr, hX]
  refine Run.R ?_
  refine Run.R ?_
  refine Run.R ?_
  refine Run.loopI (X := List (Nat × List Int) × Nat) (fun y => ⟨36, [(0, true, .v (.int .i64 (n))), (3, true, .v (.own 0 0)), (4, true, .v (.int .i64 (y.2)))], [.arr .lrow (y.1) 0 true]⟩) (fun y => y.2 ≤ n ∧ rw2 y.1 = (List.range y.2).map (chR n) ∧ (lb1 y.1).Nodup) (fun y => n - y.2) (([], 0)) (⟨Nat.zero_le _, rfl, by simp [lb1]⟩) ?_ ?_
  · exact Le.sub (by first | rfl | simp) (by simp only [AW7, simprocAttr, hX]; try simp <;> try (first | rfl | exact ⟨rfl, rfl⟩ | exact ⟨rfl, rfl, rfl⟩))
  rintro ⟨ys, i⟩ ⟨hi, hE, hN⟩ ih
  try simp only []
  simp only [] at hi hE hN
  refine Run.R ?_
  refine Run.nq ?_; refine Run.cW ?_ ?_
  rotate_left
  · intro h
    have h : i = n := by rw [decide_eq_false_iff_not] at h; omega
    subst h
    refine Run.exit rfl ?_; refine Run.nq ?_
    refine Run.R ?_
    refine Run.rW [2] (hfin _ _ rfl rfl ?_)
    exact ⟨ys, 0, true, [], ⟨hE, rfl, rfl⟩, hN, rfl, rfl, rfl⟩
  intro h
  have h : i < n := by rw [decide_eq_true_eq] at h; omega
  have e1 : ((i : Int) - 1).toNat = i - 1 := by omega
  have e2 : ((i : Int) + 1).toNat = i + 1 := by omega
  have hyl : ys.length = i := by have : (rw2 ys).length = ys.length := by simp [rw2]
                                 rw [hE] at this; simpa using this.symm
  have hch := chR_eq n i h
  refine Run.R ?_
  refine Run.R ?_
  refine Run.R ?_
  refine Run.nq ?_; refine Run.cW ?_ ?_
  · intro h1
    have h1 : 0 < i := by rw [decide_eq_true_eq] at h1; omega
    refine Run.RW ?_
    refine Run.RW ?_
    refine Run.nq ?_; refine Run.cW ?_ ?_
    · intro h2
      have h2 : i + 1 < n := by rw [decide_eq_true_eq] at h2; omega
      rw [if_pos h2, if_pos h1] at hch
      refine Run.RW ?_
      rw [e1, e2, hch]
      refine Run.reK hpin [0, 3, 4, 5] [0, 1] (by decide) (by simp) ?_; simp only [AR, AW7, simprocAttr]
      refine Run.tolr 1 [0, 3, 4, 5] rfl (fun q hq => ?_); simp only [AL, frV_cons, frV_nil, AW7, simprocAttr]
      refine Run.R ?_
      refine Run.reK hpin [0, 3, 4] [0] (by decide) (by simp) ?_; simp only [AR, AW7, simprocAttr]
      have hnd2 : (lb1 (ys ++ [(q, chR n i)])).Nodup := by
        rw [lb1_app, List.nodup_append]
        refine ⟨hN, by simp [lb1], fun a ha b hb => ?_⟩
        simp [lb1] at hb
        subst hb
        obtain ⟨p, hp, rfl⟩ := List.mem_map.1 ha
        exact hq _ (List.mem_cons_self ..) _ _ _ rfl p hp
      have hE2 : rw2 (ys ++ [(q, chR n i)]) = (List.range (i + 1)).map (chR n) := by
        rw [chL_snoc, ← hE]; simp [rw2]
      refine Run.RW ?_
      refine Run.le ?_ (ih ((ys ++ [(q, chR n i)], i + 1)) (⟨h, hE2, hnd2⟩) (by (try simp only [List.length_append, List.length_cons, List.length_nil]); omega))
      exact Le.sub (by rfl) (by simp only [AW7, simprocAttr]; try simp)
    intro h2
    have h2 : ¬ i + 1 < n := by rw [decide_eq_false_iff_not] at h2; omega
    rw [if_neg h2, if_pos h1] at hch
    rw [e1, hch]
    refine Run.reK hpin [0, 3, 4, 5] [0, 1] (by decide) (by simp) ?_; simp only [AR, AW7, simprocAttr]
    refine Run.tolr 1 [0, 3, 4, 5] rfl (fun q hq => ?_); simp only [AL, frV_cons, frV_nil, AW7, simprocAttr]
    refine Run.R ?_
    refine Run.reK hpin [0, 3, 4] [0] (by decide) (by simp) ?_; simp only [AR, AW7, simprocAttr]
    have hnd2 : (lb1 (ys ++ [(q, chR n i)])).Nodup := by
      rw [lb1_app, List.nodup_append]
      refine ⟨hN, by simp [lb1], fun a ha b hb => ?_⟩
      simp [lb1] at hb
      subst hb
      obtain ⟨p, hp, rfl⟩ := List.mem_map.1 ha
      exact hq _ (List.mem_cons_self ..) _ _ _ rfl p hp
    have hE2 : rw2 (ys ++ [(q, chR n i)]) = (List.range (i + 1)).map (chR n) := by
      rw [chL_snoc, ← hE]; simp [rw2]
    refine Run.RW ?_
    refine Run.le ?_ (ih ((ys ++ [(q, chR n i)], i + 1)) (⟨h, hE2, hnd2⟩) (by (try simp only [List.length_append, List.length_cons, List.length_nil]); omega))
    exact Le.sub (by rfl) (by simp only [AW7, simprocAttr]; try simp)
  intro h1
  have h1 : ¬ 0 < i := by rw [decide_eq_false_iff_not] at h1; omega
  refine Run.RW ?_
  refine Run.nq ?_; refine Run.cW ?_ ?_
  · intro h2
    have h2 : i + 1 < n := by rw [decide_eq_true_eq] at h2; omega
    rw [if_pos h2, if_neg h1] at hch
    refine Run.RW ?_
    rw [e2, hch]
    refine Run.reK hpin [0, 3, 4, 5] [0, 1] (by decide) (by simp) ?_; simp only [AR, AW7, simprocAttr]
    refine Run.tolr 1 [0, 3, 4, 5] rfl (fun q hq => ?_); simp only [AL, frV_cons, frV_nil, AW7, simprocAttr]
    refine Run.R ?_
    refine Run.reK hpin [0, 3, 4] [0] (by decide) (by simp) ?_; simp only [AR, AW7, simprocAttr]
    have hnd2 : (lb1 (ys ++ [(q, chR n i)])).Nodup := by
      rw [lb1_app, List.nodup_append]
      refine ⟨hN, by simp [lb1], fun a ha b hb => ?_⟩
      simp [lb1] at hb
      subst hb
      obtain ⟨p, hp, rfl⟩ := List.mem_map.1 ha
      exact hq _ (List.mem_cons_self ..) _ _ _ rfl p hp
    have hE2 : rw2 (ys ++ [(q, chR n i)]) = (List.range (i + 1)).map (chR n) := by
      rw [chL_snoc, ← hE]; simp [rw2]
    refine Run.RW ?_
    refine Run.le ?_ (ih ((ys ++ [(q, chR n i)], i + 1)) (⟨h, hE2, hnd2⟩) (by (try simp only [List.length_append, List.length_cons, List.length_nil]); omega))
    exact Le.sub (by rfl) (by simp only [AW7, simprocAttr]; try simp)
  intro h2
  have h2 : ¬ i + 1 < n := by rw [decide_eq_false_iff_not] at h2; omega
  rw [if_neg h2, if_neg h1] at hch
  rw [hch]
  refine Run.reK hpin [0, 3, 4, 5] [0, 1] (by decide) (by simp) ?_; simp only [AR, AW7, simprocAttr]
  refine Run.tolr 1 [0, 3, 4, 5] rfl (fun q hq => ?_); simp only [AL, frV_cons, frV_nil, AW7, simprocAttr]
  refine Run.R ?_
  refine Run.reK hpin [0, 3, 4] [0] (by decide) (by simp) ?_; simp only [AR, AW7, simprocAttr]
  have hnd2 : (lb1 (ys ++ [(q, chR n i)])).Nodup := by
    rw [lb1_app, List.nodup_append]
    refine ⟨hN, by simp [lb1], fun a ha b hb => ?_⟩
    simp [lb1] at hb
    subst hb
    obtain ⟨p, hp, rfl⟩ := List.mem_map.1 ha
    exact hq _ (List.mem_cons_self ..) _ _ _ rfl p hp
  have hE2 : rw2 (ys ++ [(q, chR n i)]) = (List.range (i + 1)).map (chR n) := by
    rw [chL_snoc, ← hE]; simp [rw2]
  refine Run.RW ?_
  refine Run.le ?_ (ih ((ys ++ [(q, chR n i)], i + 1)) (⟨h, hE2, hnd2⟩) (by (try simp only [List.length_append, List.length_cons, List.length_nil]); omega))
  exact Le.sub (by rfl) (by simp only [AW7, simprocAttr]; try simp)
theorem c_l2Chain (n : Nat) (hn : n ≤ 8) : FunA B 171 [.int .i64 n] (fun rs o => rs = [.own 0 0] ∧ ∃ hs, o = [.mat hs (chL n) 0 true]) :=
  (FunA.mat (by rfl) (post := fun rows nn rest => rows = chL n ∧ nn = true ∧ rest = []) (c_l2ChainR n hn)).mono fun rs o ⟨hs, rows, nn, rest, ⟨h1, h2, h3⟩, h4, h5, h6⟩ => by subst h1 h2 h3; exact ⟨h5, hs, h6⟩
theorem c_l2CopyR (c : List (List Int)) (hc : c.length ≤ 100) (hr : ∀ r ∈ c, r.length ≤ 100) : FunA B 187 [.sl false (.row false) c] (fun rs o => ∃ ys g nn rest, (rw2 ys = c ∧ nn = true ∧ rest = []) ∧ (lb1 ys).Nodup ∧ rest.all flatAV = true ∧ rs = .own 0 g :: rest ∧ o = [.arr .lrow ys g nn]) := by
  refine FunA.walk B_ok (fn := Tryz.f187) (fun vs w => Tryz.call187 vs w) Tryz.func187 rfl (by rw [Tryz.ntmps187]; simp) (fun C hC hP hT hΓ hbt hfn hpin hfin => ?_); have hX := BX; rw [← hΓ, ← hbt.1, ← hbt.2.1, ← hbt.2.2.1] at hX; rw [hT] at hX; rw [Tryz.ntmps187]; simp only [AW7, simprocAttr, hX]
  refine Run.R ?_
  refine Run.R ?_
  refine Run.R ?_
  refine Run.loopI (X := List (Nat × List Int) × Nat) (fun y => ⟨22, [(0, true, .v (.sl false (.row false) (c))), (3, true, .v (.own 0 0)), (4, true, .v (.int .i64 (y.2)))], [.arr .lrow (y.1) 0 true]⟩) (fun y => y.2 ≤ c.length ∧ rw2 y.1 = c.take y.2 ∧ (lb1 y.1).Nodup) (fun y => c.length - y.2) (([], 0)) (⟨Nat.zero_le _, rfl, by simp [lb1]⟩) ?_ ?_
  · exact Le.sub (by first | rfl | simp) (by simp only [AW7, simprocAttr, hX]; try simp <;> try (first | rfl | exact ⟨rfl, rfl⟩ | exact ⟨rfl, rfl, rfl⟩))
  rintro ⟨ys, i⟩ ⟨hi, hE, hN⟩ ih
  try simp only []
  simp only [] at hi hE hN
  refine Run.R ?_
  refine Run.nq ?_; refine Run.cW ?_ ?_
  rotate_left
  · intro h
    have h : i = c.length := by rw [decide_eq_false_iff_not] at h; omega
    subst h
    refine Run.exit rfl ?_; refine Run.nq ?_
    refine Run.R ?_
    refine Run.rW [2] (hfin _ _ rfl rfl ?_)
    exact ⟨ys, 0, true, [], ⟨by rw [hE, List.take_length], rfl, rfl⟩, hN, rfl, rfl, rfl⟩
  intro h
  have h : i < c.length := by rw [decide_eq_true_eq] at h; omega
  have hyl : ys.length = i := by
    have : (rw2 ys).length = ys.length := by simp [rw2]
    rw [hE] at this
    simp at this
    omega
  have hrl : (c.getD i []).length ≤ 100 := by
    rw [List.getD_eq_getElem?_getD, List.getElem?_eq_getElem h]
    exact hr _ (List.getElem_mem h)
  refine Run.nq ?_; refine Run.regionW hC (fun K hK => ?_); refine wW ?_
  refine ⟨by simp only [List.length_nil]; omega, fun q hq => ⟨by simp only [List.length_cons, List.length_nil]; omega, ?_⟩⟩
  refine wE ?_; clear hK K
  refine Run.reK hpin [0, 3, 4] [0] (by decide) (by simp) ?_; simp only [AR, AW7, simprocAttr]
  have hnd2 : (lb1 (ys ++ [(q, c.getD i [])])).Nodup := by
    rw [lb1_app, List.nodup_append]
    refine ⟨hN, by simp [lb1], fun a ha b hb => ?_⟩
    simp [lb1] at hb
    subst hb
    obtain ⟨p, hp, rfl⟩ := List.mem_map.1 ha
    exact hq _ (List.mem_cons_self ..) _ _ _ rfl p hp
  have hE2 : rw2 (ys ++ [(q, c.getD i [])]) = c.take (i + 1) := by
    rw [← take_snoc [] c i h, ← hE]; simp [rw2]
  refine Run.RW ?_
  refine Run.le ?_ (ih ((ys ++ [(q, c.getD i [])], i + 1)) (⟨h, hE2, hnd2⟩) (by (try simp only [List.length_append, List.length_cons, List.length_nil]); omega))
  exact Le.sub (by rfl) (by simp only [AW7, simprocAttr]; try simp)
theorem c_l2Copy (c : List (List Int)) (hc : c.length ≤ 100) (hr : ∀ r ∈ c, r.length ≤ 100) : FunA B 187 [.sl false (.row false) c] (fun rs o => rs = [.own 0 0] ∧ ∃ hs, o = [.mat hs c 0 true]) :=
  (FunA.mat (by rfl) (post := fun rows nn rest => rows = c ∧ nn = true ∧ rest = []) (c_l2CopyR c hc hr)).mono fun rs o ⟨hs, rows, nn, rest, ⟨h1, h2, h3⟩, h4, h5, h6⟩ => by subst h1 h2 h3; exact ⟨h5, hs, h6⟩
def set1 (c : List (List Int)) (i j : Nat) (a : Int) : List (List Int) := c.set i ((c.getD i []).set j a)
theorem set1_len (c : List (List Int)) (i j : Nat) (a : Int) : (set1 c i j a).length = c.length := by simp [set1]
theorem set1_row (c : List (List Int)) (i j k : Nat) (a : Int) : ((set1 c i j a).getD k []).length = (c.getD k []).length := by
  unfold set1
  simp only [List.getD_eq_getElem?_getD]
  by_cases h : i = k
  · subst h
    by_cases hi : i < c.length
    · rw [List.getElem?_set_self hi]; simp
    · rw [List.set_eq_of_length_le (by omega)]
  · rw [List.getElem?_set_ne h]
theorem c_l2Set (c : List (List Int)) (i j : Nat) (a b : Int) (hc : c.length ≤ 100) (hr : ∀ r ∈ c, r.length ≤ 100) (hi : i < c.length) (hj : j < c.length) (h1 : j < (c.getD i []).length) (h2 : i < (c.getD j []).length) :
    FunA B 172 [.sl false (.row false) c, .int .i64 i, .int .i64 j, .int .i64 a, .int .i64 b] (fun rs o => rs = [.own 0 0] ∧ ∃ hs, o = [.mat hs (set1 (set1 c i j a) j i b) 0 true]) := by
  refine FunA.walk B_ok (fn := Tryz.f172) (fun vs w => Tryz.call172 vs w) Tryz.func172 rfl (by rw [Tryz.ntmps172]; simp) (fun C hC hP hT hΓ hbt hfn hpin hfin => ?_); have hX := BX; rw [← hΓ, ← hbt.1, ← hbt.2.1, ← hbt.2.2.1] at hX; rw [hT] at hX; rw [Tryz.ntmps172]; simp only [AW7, simprocAttr, hX]
  refine Run.R ?_
  refine Run.nq ?_; refine Run.regionW hC (fun K hK => ?_); refine wW ?_
  refine FunA.cW hP hT (c_l2Copy c hc hr) ?_
  rintro rs o ⟨rfl, hs, rfl⟩
  refine wW ?_
  refine wE ?_; clear hK K
  refine Run.matfact 0 rfl fun hl hd hz => ?_
  obtain ⟨q1, e1, m1, x1⟩ := mat_head hl hd hz hi (by omega)
  have hl2 : hs.length = (set1 c i j a).length := by rw [set1_len]; exact hl
  have hv1 : j < (c.getD (hs.idxOf (some q1)) []).length := by rw [x1]; exact h1
  have hs1 : setM hs c q1 j a = set1 c i j a := by unfold setM set1; rw [x1]
  refine Run.nq ?_; refine Run.regionW hC (fun K hK => ?_); refine wW ?_
  rw [e1]
  refine wW ?_
  refine wE ?_; clear hK K
  rw [hs1]
  refine Run.reK hpin [0, 1, 2, 3, 4, 11] [0] (by decide) (by simp) ?_; simp only [AR, AW7, simprocAttr]
  refine Run.matfact 0 rfl fun hl hd hz => ?_
  obtain ⟨q2, e2, m2, x2⟩ := mat_head (i := j) hl hd hz (by rw [set1_len]; exact hj) (by rw [set1_row]; omega)
  have hv2 : i < ((set1 c i j a).getD (hs.idxOf (some q2)) []).length := by rw [x2, set1_row]; exact h2
  have hs2 : setM hs (set1 c i j a) q2 i b = set1 (set1 c i j a) j i b := by unfold setM; rw [x2]; rfl
  have h2' := h2
  rw [← set1_row c i j j a] at h2'
  have hj' : j < (set1 c i j a).length := by rw [set1_len]; exact hj
  refine Run.nq ?_; refine Run.regionW hC (fun K hK => ?_); refine wW ?_
  rw [e2]
  refine wW ?_
  refine wE ?_; clear hK K
  rw [hs2]
  refine Run.R ?_
  refine Run.reK hpin [10] [0] (by decide) (by simp) ?_; simp only [AR, AW7, simprocAttr]
  refine Run.rW [10] (hfin _ _ rfl rfl ?_)
  exact ⟨rfl, hs, rfl⟩
end Go.Proofs.YtaghdbbcadhjdaaGreatDoor
