/- Star powers of a word: what the functions of both sides do. -/
import Derived.Test.YtbeeblhmgpgkjaaStarFns2
set_option linter.unusedVariables false
set_option linter.unusedSimpArgs false
namespace Go.Proofs.Ytbeeblhmgpgkjaa
open Go Go.Aw Go.Cox

theorem redL_idem {c : List (List Int)} (hc : CartanP c) {w : List Int} (hw : letters c.length w) (hl : w.length ≤ 31) : redL c (redL c w) = redL c w := by
  obtain ⟨a1, a2, a3, a4, a5⟩ := red_spec hc hw hl
  exact red_eq a4
theorem starL_grow {c : List (List Int)} (hc : CartanP c) {out : List Int} (ho : Red c out) (hl : out.length ≤ 30) {i : Int} (hi : 0 ≤ i ∧ i < c.length) : starL c out i = out ∨ out.length < (starL c out i).length := by
  rw [← starS_eq hc ho hl hi]
  unfold starS
  split
  · exact .inr (by assumption)
  · exact .inl rfl
theorem starL_nf {c : List (List Int)} (hc : CartanP c) {out : List Int} (ho : Red c out) (hl : out.length ≤ 30) {i : Int} (hi : 0 ≤ i ∧ i < c.length) (hn : redL c out = out) : redL c (starL c out i) = starL c out i := by
  unfold starL
  split
  · exact hn
  · exact redL_idem hc (letters_append.2 ⟨ho.1, by simpa [letters] using hi⟩) (by simp; omega)
theorem starW_grow {c : List (List Int)} (hc : CartanP c) : ∀ (w : List Int) {out : List Int}, letters c.length w → Red c out → out.length + w.length ≤ 31 → (starW c out w = out ∨ out.length < (starW c out w).length) ∧ (redL c out = out → redL c (starW c out w) = starW c out w)
  | [], out, _, _, _ => ⟨.inl rfl, fun h => h⟩
  | i :: w, out, hw, ho, hl => by
    obtain ⟨h1, h2⟩ := letters_cons.1 hw
    simp only [List.length_cons] at hl
    obtain ⟨r1, r2, r3⟩ := starL_Red hc ho (by omega) h1
    have g := starL_grow hc ho (by omega) h1
    obtain ⟨i1, i2⟩ := starW_grow hc w h2 r1 (by omega)
    have hle := (starW_Red hc w h2 r1 (by omega)).2.2
    refine ⟨?_, fun hn => i2 (starL_nf hc ho (by omega) h1 hn)⟩
    show starW c (starL c out i) w = out ∨ out.length < (starW c (starL c out i) w).length
    rcases g with g | g
    · rw [g] at i1 ⊢; exact i1
    · exact .inr (by omega)

def pwS (c : List (List Int)) (y : List Int) : Nat → List Int → List (List Int)
  | 0, _ => []
  | f + 1, x => if x.length ≤ 15 then x :: (if starW c x y = x then [] else pwS c y f (starW c x y)) else []
noncomputable def staP (c : List (List Int)) (w : List Int) : List (List Int) := if wordB c w then pwS c (redL c w) 16 (redL c w) else []
theorem pwS_long {c : List (List Int)} {y x : List Int} (h : 15 < x.length) : ∀ f, pwS c y f x = []
  | 0 => rfl
  | f + 1 => by simp only [pwS]; rw [if_neg (by omega)]
theorem pwS_rows (c : List (List Int)) (y : List Int) : ∀ (f : Nat) (x : List Int), (pwS c y f x).length ≤ f ∧ ∀ r ∈ pwS c y f x, r.length ≤ 15
  | 0, x => by simp [pwS]
  | f + 1, x => by
    simp only [pwS]
    split
    · rename_i hx
      split
      · simpa using hx
      · obtain ⟨h1, h2⟩ := pwS_rows c y f (starW c x y)
        refine ⟨by simp; omega, fun r hr => ?_⟩
        rcases List.mem_cons.1 hr with rfl | hr
        · exact hx
        · exact h2 r hr
    · simp
theorem staP_le (c : List (List Int)) (w : List Int) : (staP c w).length ≤ 16 := by
  unfold staP; split
  · exact (pwS_rows c _ 16 _).1
  · simp
theorem staP_rows (c : List (List Int)) (w : List Int) : ∀ r ∈ staP c w, r.length ≤ 15 := by
  unfold staP; split
  · exact (pwS_rows c _ 16 _).2
  · simp

theorem c_spec_l20StarL (c : List (List Int)) (l : Nat) (out w : List Int) (hc : CartanP c) (ho : Red c out) (hw : letters c.length w) (hl : out.length + w.length ≤ 31) :
    FunA B 60 [.sl false (.row false) c, .lr l out, .sl false .int w] (fun rs o => (rs = [.lr l out] ∧ o = [] ∧ starW c out w = out) ∨ (rs = [.own 0 0] ∧ o = [.arr .int (starW c out w) 0 true])) := by
  refine FunA.walk B_ok (fn := Try.f60) (fun vs w => Try.call60 vs w) Try.func60 rfl (by rw [Try.ntmps60]; simp) (fun C hC hP hT hΓ hbt hfn hpin hfin => ?_); have hX := BX; rw [← hΓ, ← hbt] at hX; rw [Try.ntmps60]; simp only [AW4, simprocAttr, hX]
  refine Run.nq ?_; refine Run.regionW hC (fun K hK => ?_); simp only [AW4, simprocAttr, hX]; (repeat (with_reducible refine And.intro ?_ ?_); exact vc0); refine hK _ ?_; clear hK K; refine Run.nq ?_
  refine Run.nq ?_; refine Run.regionW hC (fun K hK => ?_); simp only [AW4, simprocAttr, hX]; (repeat (with_reducible refine And.intro ?_ ?_); exact vc0); refine hK _ ?_; clear hK K; refine Run.nq ?_
  refine Run.loopI (X := Nat × Bool) (fun x => ⟨31, [(0, true, .v (.sl false (.row false) c)), (1, true, .v (if x.2 then .own 0 0 else .lr l out)), (2, true, .v (.sl false .int w)), (7, true, .v (.int .i64 x.1))], (if x.2 then [.arr .int (starW c out (w.take x.1)) 0 true] else [])⟩) (fun x => x.1 ≤ w.length ∧ (x.2 = false → starW c out (w.take x.1) = out)) (fun x => w.length - x.1) (0, false) ⟨Nat.zero_le _, fun _ => rfl⟩ ?_ ?_
  · exact Le.sub (by rfl) (by simp only [AW4, simprocAttr, hX]; try simp)
  rintro ⟨i, b⟩ ⟨hi, hcur⟩ ih
  obtain ⟨hR, hR2, hR3⟩ := starW_Red hc (w.take i) (letters_take hw i) ho (by simp; omega)
  have hRl : (starW c out (w.take i)).length ≤ 31 := by simp at hR2; omega
  simp only [] at hi hcur ⊢
  cases b with
  | false =>
    have hcur := hcur rfl
    simp only [Bool.false_eq_true, if_false]
    rw [hcur] at hR hRl hR2
    have hRl : i < w.length → out.length ≤ 30 := by intro h; simp at hR2; omega
    refine Run.nq ?_; refine Run.regionW hC (fun K hK => ?_); simp only [AW4, simprocAttr, hX]; (repeat (with_reducible refine And.intro ?_ ?_); exact vc0); refine hK _ ?_; clear hK K; refine Run.nq ?_
    refine Run.nq ?_; refine Run.condW (by simp only [AW4, simprocAttr, hX]; rfl) (by simp only [AW4, simprocAttr, hX]) ?_ ?_
    · intro h
      have h : i < w.length := by simpa using h
      have hRl := hRl h
      have hlet := letters_getD.1 hw i h
      have hsn : starW c out (w.take (i + 1)) = starL c out (w.getD i 0) := by rw [← take_snoc 0 w i h, starW_snoc, hcur]
      have hss := starS_eq hc hR hRl hlet
      rw [← hss] at hsn
      have hle2 : letters c.length (out ++ [w.getD i 0]) := letters_append.2 ⟨hR.1, by simpa [letters] using hlet⟩
      refine Run.nq ?_; refine Run.regionW hC (fun K hK => ?_); simp only [AW4, simprocAttr, hX]; (repeat (with_reducible refine And.intro ?_ ?_); exact vc0)
      refine FunA.callW hP hT (c_spec_ConcatWords out [w.getD i 0] (by omega) (by simp)) (by simp only [AW4, simprocAttr]) ?_
      rintro rs o ⟨rfl, rfl⟩
      (try simp only [AW4, simprocAttr, hX]); (repeat (with_reducible refine And.intro ?_ ?_); exact vc0)
      refine FunA.callW hP hT (c_spec_l8Normal c (out ++ [w.getD i 0]) hc hle2 (by simp; omega)) (by simp only [AW4, simprocAttr]) ?_
      rintro rs o ⟨rfl, rfl⟩
      (try simp only [AW4, simprocAttr, hX]); (repeat (with_reducible refine And.intro ?_ ?_); exact vc0)
      (repeat (with_reducible refine And.intro ?_ ?_); exact vc0); refine hK _ ?_; clear hK K; refine Run.nq ?_
      refine Run.nq ?_; refine Run.regionW hC (fun K hK => ?_); simp only [AW4, simprocAttr, hX]; (repeat (with_reducible refine And.intro ?_ ?_); exact vc0); refine hK _ ?_; clear hK K; refine Run.nq ?_
      refine Run.nq ?_; refine Run.condW (by simp only [AW4, simprocAttr, hX]; rfl) (by simp only [AW4, simprocAttr, hX]) ?_ ?_
      · intro h2
        have h2 : (out).length < (redL c (out ++ [w.getD i 0])).length := by simpa using h2
        have e : starS c out (w.getD i 0) = redL c (out ++ [w.getD i 0]) := by unfold starS; rw [if_pos h2]
        refine Run.nq ?_; refine Run.regionW hC (fun K hK => ?_); simp (disch := omega) only [wrap_id, AW4, simprocAttr, hX]; (repeat (with_reducible refine And.intro ?_ ?_); exact vc0); refine hK _ ?_; clear hK K; refine Run.nq ?_
        refine Run.reK hpin [0, 1, 2, 7] [2] (by decide) (by simp) ?_; simp only [AR, AW4, simprocAttr]
        rw [← e, ← hsn]
        refine Run.nq ?_; refine Run.regionW hC (fun K hK => ?_); simp (disch := omega) only [wrap_id, AW4, simprocAttr, hX]; (repeat (with_reducible refine And.intro ?_ ?_); exact vc0); refine hK _ ?_; clear hK K; refine Run.nq ?_
        refine Run.le ?_ (ih (i + 1, true) ⟨h, fun k => by cases k⟩ (by simp only []; omega))
        exact Le.sub (by rfl) (by simp only [AW4, simprocAttr]; try simp)
      · intro h2
        have h2 : ¬ (out).length < (redL c (out ++ [w.getD i 0])).length := by simpa using h2
        have e : starS c out (w.getD i 0) = out := by unfold starS; rw [if_neg h2]
        have hsn2 : starW c out (w.take (i + 1)) = out := by rw [hsn, e]
        refine Run.nq ?_; refine Run.regionW hC (fun K hK => ?_); simp (disch := omega) only [wrap_id, AW4, simprocAttr, hX]; (repeat (with_reducible refine And.intro ?_ ?_); exact vc0); refine hK _ ?_; clear hK K; refine Run.nq ?_
        refine Run.reK hpin [0, 1, 2, 7] [] (by decide) (by simp) ?_; simp only [AR, AW4, simprocAttr]
        refine Run.le ?_ (ih (i + 1, false) ⟨h, fun _ => hsn2⟩ (by simp only []; omega))
        exact Le.sub (by rfl) (by simp only [AW4, simprocAttr]; try simp)
    · intro h
      have h : i = w.length := by simp at h; omega
      subst h
      rw [List.take_length] at hcur
      refine Run.exit rfl ?_; refine Run.nq ?_
      refine Run.nq ?_; refine Run.regionW hC (fun K hK => ?_); simp only [AW4, simprocAttr, hX]; (repeat (with_reducible refine And.intro ?_ ?_); exact vc0); refine hK _ ?_; clear hK K; refine Run.nq ?_
      refine Run.reK hpin [6] [] (by decide) (by simp) ?_; simp only [AR, AW4, simprocAttr]
      refine Run.retW [6] (by decide) (by rw [hfn]; rfl) (by simp only [AW4, simprocAttr, hX]; rfl) (by simp only [AW4, simprocAttr, hX]) (hfin _ _ rfl rfl ?_)
      exact .inl ⟨rfl, rfl, hcur⟩
  | true =>
    simp only [if_true]
    have hRl : i < w.length → (starW c out (w.take i)).length ≤ 30 := by intro h; simp at hR2; omega
    refine Run.nq ?_; refine Run.regionW hC (fun K hK => ?_); simp only [AW4, simprocAttr, hX]; (repeat (with_reducible refine And.intro ?_ ?_); exact vc0); refine hK _ ?_; clear hK K; refine Run.nq ?_
    refine Run.nq ?_; refine Run.condW (by simp only [AW4, simprocAttr, hX]; rfl) (by simp only [AW4, simprocAttr, hX]) ?_ ?_
    · intro h
      have h : i < w.length := by simpa using h
      have hRl := hRl h
      have hlet := letters_getD.1 hw i h
      have hsn : starW c out (w.take (i + 1)) = starL c (starW c out (w.take i)) (w.getD i 0) := by rw [← take_snoc 0 w i h, starW_snoc]
      have hss := starS_eq hc hR hRl hlet
      rw [← hss] at hsn
      have hle2 : letters c.length ((starW c out (w.take i)) ++ [w.getD i 0]) := letters_append.2 ⟨hR.1, by simpa [letters] using hlet⟩
      refine Run.nq ?_; refine Run.regionW hC (fun K hK => ?_); simp only [AW4, simprocAttr, hX]; (repeat (with_reducible refine And.intro ?_ ?_); exact vc0)
      refine FunA.callW hP hT (c_spec_ConcatWords (starW c out (w.take i)) [w.getD i 0] (by omega) (by simp)) (by simp only [AW4, simprocAttr]) ?_
      rintro rs o ⟨rfl, rfl⟩
      (try simp only [AW4, simprocAttr, hX]); (repeat (with_reducible refine And.intro ?_ ?_); exact vc0)
      refine FunA.callW hP hT (c_spec_l8Normal c ((starW c out (w.take i)) ++ [w.getD i 0]) hc hle2 (by simp; omega)) (by simp only [AW4, simprocAttr]) ?_
      rintro rs o ⟨rfl, rfl⟩
      (try simp only [AW4, simprocAttr, hX]); (repeat (with_reducible refine And.intro ?_ ?_); exact vc0)
      (repeat (with_reducible refine And.intro ?_ ?_); exact vc0); refine hK _ ?_; clear hK K; refine Run.nq ?_
      refine Run.nq ?_; refine Run.regionW hC (fun K hK => ?_); simp only [AW4, simprocAttr, hX]; (repeat (with_reducible refine And.intro ?_ ?_); exact vc0); refine hK _ ?_; clear hK K; refine Run.nq ?_
      refine Run.nq ?_; refine Run.condW (by simp only [AW4, simprocAttr, hX]; rfl) (by simp only [AW4, simprocAttr, hX]) ?_ ?_
      · intro h2
        have h2 : ((starW c out (w.take i))).length < (redL c ((starW c out (w.take i)) ++ [w.getD i 0])).length := by simpa using h2
        have e : starS c (starW c out (w.take i)) (w.getD i 0) = redL c ((starW c out (w.take i)) ++ [w.getD i 0]) := by unfold starS; rw [if_pos h2]
        refine Run.nq ?_; refine Run.regionW hC (fun K hK => ?_); simp (disch := omega) only [wrap_id, AW4, simprocAttr, hX]; (repeat (with_reducible refine And.intro ?_ ?_); exact vc0); refine hK _ ?_; clear hK K; refine Run.nq ?_
        refine Run.reK hpin [0, 1, 2, 7] [3] (by decide) (by simp) ?_; simp only [AR, AW4, simprocAttr]
        rw [← e, ← hsn]
        refine Run.nq ?_; refine Run.regionW hC (fun K hK => ?_); simp (disch := omega) only [wrap_id, AW4, simprocAttr, hX]; (repeat (with_reducible refine And.intro ?_ ?_); exact vc0); refine hK _ ?_; clear hK K; refine Run.nq ?_
        refine Run.le ?_ (ih (i + 1, true) ⟨h, fun k => by cases k⟩ (by simp only []; omega))
        exact Le.sub (by rfl) (by simp only [AW4, simprocAttr]; try simp)
      · intro h2
        have h2 : ¬ ((starW c out (w.take i))).length < (redL c ((starW c out (w.take i)) ++ [w.getD i 0])).length := by simpa using h2
        have e : starS c (starW c out (w.take i)) (w.getD i 0) = (starW c out (w.take i)) := by unfold starS; rw [if_neg h2]
        refine Run.nq ?_; refine Run.regionW hC (fun K hK => ?_); simp (disch := omega) only [wrap_id, AW4, simprocAttr, hX]; (repeat (with_reducible refine And.intro ?_ ?_); exact vc0); refine hK _ ?_; clear hK K; refine Run.nq ?_
        refine Run.reK hpin [0, 1, 2, 7] [0] (by decide) (by simp) ?_; simp only [AR, AW4, simprocAttr]
        rw [← e, ← hsn]
        refine Run.le ?_ (ih (i + 1, true) ⟨h, fun k => by cases k⟩ (by simp only []; omega))
        exact Le.sub (by rfl) (by simp only [AW4, simprocAttr]; try simp)
    · intro h
      have h : i = w.length := by simp at h; omega
      subst h
      rw [List.take_length]
      refine Run.exit rfl ?_; refine Run.nq ?_
      refine Run.nq ?_; refine Run.regionW hC (fun K hK => ?_); simp only [AW4, simprocAttr, hX]; (repeat (with_reducible refine And.intro ?_ ?_); exact vc0); refine hK _ ?_; clear hK K; refine Run.nq ?_
      refine Run.reK hpin [6] [0] (by decide) (by simp) ?_; simp only [AR, AW4, simprocAttr]
      refine Run.retW [6] (by decide) (by rw [hfn]; rfl) (by simp only [AW4, simprocAttr, hX]; rfl) (by simp only [AW4, simprocAttr, hX]) (hfin _ _ rfl rfl ?_)
      exact .inr ⟨rfl, rfl⟩

theorem nodup_snoc {ys : List (Nat × List Int)} {l : Nat} {x : List Int} (h : (ys.map (·.1)).Nodup) (hl : ∀ p ∈ ys, p.1 ≠ l) : ((ys ++ [(l, x)]).map (·.1)).Nodup := by
  rw [List.map_append, List.nodup_append]
  refine ⟨h, by simp, fun a ha b hb => ?_⟩
  obtain ⟨p, hp, rfl⟩ := List.mem_map.1 ha
  simp at hb
  subst hb
  exact hl p hp

theorem c_spec_StarPowers (c : List (List Int)) (w : List Int) (hcl : c.length ≤ 1048576) :
    FunA B 43 [.sl false (.row false) c, .sl false .int w] (fun rs o => rs = [.own 0 0] ∧ ∃ hs, hs.length = (staP c w).length ∧ o = [.mat hs (staP c w) 0 true]) := by
  refine (FunA.mat (by rfl) (post := fun rows nn rest => rows = staP c w ∧ nn = true ∧ rest = []) ?_).mono fun rs o ⟨hs, rows, nn, rest, ⟨h1, h2, h3⟩, h4, h5, h6⟩ => by subst h1 h2 h3; exact ⟨h5, hs, h4, h6⟩
  refine FunA.walk B_ok (fn := Try.f43) (fun vs w => Try.call43 vs w) Try.func43 rfl (by rw [Try.ntmps43]; simp) (fun C hC hP hT hΓ hbt hfn hpin hfin => ?_); have hX := BX; rw [← hΓ, ← hbt] at hX; rw [Try.ntmps43]; simp only [AW4, simprocAttr, hX]
  refine Run.nq ?_; refine Run.regionW hC (fun K hK => ?_); simp only [AW4, simprocAttr, hX]; (repeat (with_reducible refine And.intro ?_ ?_); exact vc0); refine hK _ ?_; clear hK K; refine Run.nq ?_
  refine Run.nq ?_; refine Run.regionW hC (fun K hK => ?_); simp only [AW4, simprocAttr, hX]; (repeat (with_reducible refine And.intro ?_ ?_); exact vc0); refine hK _ ?_; clear hK K; refine Run.nq ?_
  refine Run.nq ?_; refine Run.regionW hC (fun K hK => ?_); simp only [AW4, simprocAttr, hX]; (repeat (with_reducible refine And.intro ?_ ?_); exact vc0)
  refine FunA.callW hP hT (c_spec_NormalForm c w hcl) (by simp only [AW4, simprocAttr]) ?_
  rintro rs o ⟨rfl, rfl⟩
  (try simp only [AW4, simprocAttr, hX]); (repeat (with_reducible refine And.intro ?_ ?_); exact vc0)
  (repeat (with_reducible refine And.intro ?_ ?_); exact vc0); refine hK _ ?_; clear hK K; refine Run.nq ?_
  refine Run.nq ?_; refine Run.regionW hC (fun K hK => ?_); simp only [AW4, simprocAttr, hX]; (repeat (with_reducible refine And.intro ?_ ?_); exact vc0); refine hK _ ?_; clear hK K; refine Run.nq ?_
  refine Run.reK hpin [0, 1, 5, 6, 7, 8] [0, 1] (by decide) (by simp) ?_; simp only [AR, AW4, simprocAttr]
  cases hwb : wordB c w with
  | false =>
    have hz : staP c w = [] := by unfold staP; rw [hwb]; rfl
    refine Run.loop ?_
    refine Run.nq ?_; refine Run.regionW hC (fun K hK => ?_); simp only [AW4, simprocAttr, hX]; (repeat (with_reducible refine And.intro ?_ ?_); exact vc0); refine hK _ ?_; clear hK K; refine Run.nq ?_
    refine Run.nq ?_; refine Run.condW (by simp only [AW4, simprocAttr, hX]; rfl) (by simp only [AW4, simprocAttr, hX]) ?_ ?_
    · intro h; simp at h
    intro _
    refine Run.exit rfl ?_; refine Run.nq ?_
    refine Run.nq ?_; refine Run.regionW hC (fun K hK => ?_); simp only [AW4, simprocAttr, hX]; (repeat (with_reducible refine And.intro ?_ ?_); exact vc0); refine hK _ ?_; clear hK K; refine Run.nq ?_
    refine Run.reK hpin [4] [0] (by decide) (by simp) ?_; simp only [AR, AW4, simprocAttr]
    refine Run.retW [4] (by decide) (by rw [hfn]; rfl) (by simp only [AW4, simprocAttr, hX]; rfl) (by simp only [AW4, simprocAttr, hX]) (hfin _ _ rfl rfl ?_)
    exact ⟨[], 0, true, [], ⟨hz.symm, rfl, rfl⟩, by simp, rfl, rfl, rfl⟩
  | true =>
    have e : nfW c w = redL c w := by unfold nfW; rw [if_pos hwb]
    have hz : staP c w = pwS c (redL c w) 16 (redL c w) := by unfold staP; rw [hwb]; rfl
    rw [e]
    obtain ⟨hc, h2, h3⟩ := wordB_iff.1 hwb
    obtain ⟨a1, a2, a3, a4, a5⟩ := red_spec hc h3 (by omega)
    have hR0 := red_Red hc h3 (by omega)
    generalize hy : redL c w = y at hz a1 a2 a3 a4 a5 hR0 e
    refine Run.loopI (X := Nat × List (Nat × List Int) × List Int) (fun x => ⟨51, [(0, true, .v (.sl false (.row false) (c))), (1, true, .v (.sl false .int (w))), (5, true, .v (.own 0 0)), (6, true, .v (.own 1 0)), (7, true, .v (.bool (true))), (8, true, .v (.int .i64 (x.1)))], [.arr .lrow (x.2.1) 0 true, .arr .int (x.2.2) 0 true]⟩) (fun x => x.1 ≤ 16 ∧ x.2.1.length = x.1 ∧ (x.2.1.map (·.1)).Nodup ∧ Red c x.2.2 ∧ x.2.2.length ≤ 31 ∧ staP c w = x.2.1.map (·.2) ++ pwS c y (16 - x.1) x.2.2) (fun x => 16 - x.1) ((0, [], y)) (⟨by simp, rfl, by simp, hR0, by simp only []; omega, hz⟩) ?_ ?_
    · exact Le.sub (by first | rfl | simp) (by simp only [AW4, simprocAttr, hX]; try simp <;> try (first | rfl | exact ⟨rfl, rfl⟩ | exact ⟨rfl, rfl, rfl⟩))
    rintro ⟨n, ys, x⟩ ⟨hn, hyl, hnd, hRx, hxl, hE⟩ ih
    try simp only []
    simp only [] at hn hyl hnd hRx hxl hE
    refine Run.nq ?_; refine Run.regionW hC (fun K hK => ?_); simp only [AW4, simprocAttr, hX]; (repeat (with_reducible refine And.intro ?_ ?_); exact vc0); refine hK _ ?_; clear hK K; refine Run.nq ?_
    refine Run.nq ?_; refine Run.condW (by simp only [AW4, simprocAttr, hX]; rfl) (by simp only [AW4, simprocAttr, hX]) ?_ ?_
    rotate_left
    · intro h
      have hpz : pwS c y (16 - n) x = [] := by
        rcases Nat.lt_or_ge n 16 with h16 | h16
        · refine pwS_long ?_ _
          have e1 : decide ((n : Int) ≤ 15) = true := by rw [decide_eq_true_eq]; omega
          rw [e1] at h
          simp at h; omega
        · rw [show 16 - n = 0 by omega]; rfl
      rw [hpz, List.append_nil] at hE
      refine Run.exit rfl ?_; refine Run.nq ?_
      refine Run.nq ?_; refine Run.regionW hC (fun K hK => ?_); simp only [AW4, simprocAttr, hX]; (repeat (with_reducible refine And.intro ?_ ?_); exact vc0); refine hK _ ?_; clear hK K; refine Run.nq ?_
      refine Run.reK hpin [4] [0] (by decide) (by simp) ?_; simp only [AR, AW4, simprocAttr]
      refine Run.retW [4] (by decide) (by rw [hfn]; rfl) (by simp only [AW4, simprocAttr, hX]; rfl) (by simp only [AW4, simprocAttr, hX]) (hfin _ _ rfl rfl ?_)
      exact ⟨ys, 0, true, [], ⟨hE.symm, rfl, rfl⟩, hnd, rfl, rfl, rfl⟩
    intro h
    have hh : n ≤ 15 ∧ x.length ≤ 15 := by
      by_cases h15 : n ≤ 15
      · have e1 : decide ((n : Int) ≤ 15) = true := by rw [decide_eq_true_eq]; omega
        rw [e1] at h
        exact ⟨h15, by simp at h; omega⟩
      · have e1 : decide ((n : Int) ≤ 15) = false := by rw [decide_eq_false_iff_not]; omega
        rw [e1] at h
        cases h
    obtain ⟨f, hf⟩ : ∃ f, 16 - n = f + 1 := ⟨15 - n, by omega⟩
    rw [hf] at hE
    simp only [pwS] at hE
    rw [if_pos hh.2] at hE
    refine Run.tolr 1 [0, 1, 5, 6, 7, 8] rfl (fun q hq => ?_); simp only [AL, frV_cons, frV_nil, AW4, simprocAttr]
    refine Run.reK hpin [0, 1, 5, 6, 7, 8] [0] (by decide) (by simp) ?_; simp only [AR, AW4, simprocAttr]
    have hfr : ∀ p ∈ ys, p.1 ≠ q := hq (.arr .lrow ys 0 true) (by simp) ys 0 true rfl
    have hnd2 := nodup_snoc (x := x) hnd hfr
    refine Run.nq ?_; refine Run.regionW hC (fun K hK => ?_); simp only [AW4, simprocAttr, hX]; (repeat (with_reducible refine And.intro ?_ ?_); exact vc0); refine hK _ ?_; clear hK K; refine Run.nq ?_
    refine Run.nq ?_; refine Run.regionW hC (fun K hK => ?_); simp only [AW4, simprocAttr, hX]; (repeat (with_reducible refine And.intro ?_ ?_); exact vc0)
    refine FunA.callW hP hT (c_spec_NormalForm c w hcl) (by simp only [AW4, simprocAttr]) ?_
    rintro rs o ⟨rfl, rfl⟩
    rw [e]
    (try simp only [AW4, simprocAttr, hX]); (repeat (with_reducible refine And.intro ?_ ?_); exact vc0)
    (repeat (with_reducible refine And.intro ?_ ?_); exact vc0); refine hK _ ?_; clear hK K; refine Run.nq ?_
    refine Run.nq ?_; refine Run.regionW hC (fun K hK => ?_); simp only [AW4, simprocAttr, hX]; (repeat (with_reducible refine And.intro ?_ ?_); exact vc0)
    refine FunA.callW hP hT (c_spec_l20StarL c q x y hc hRx a1 (by omega)) (by simp only [AW4, simprocAttr]) ?_
    rintro rs o (⟨rfl, rfl, hst⟩ | ⟨rfl, rfl⟩)
    · (try simp only [AW4, simprocAttr, hX]); (repeat (with_reducible refine And.intro ?_ ?_); exact vc0)
      (repeat (with_reducible refine And.intro ?_ ?_); exact vc0); refine hK _ ?_; clear hK K; refine Run.nq ?_
      rw [if_pos hst] at hE
      refine Run.nq ?_; refine Run.regionW hC (fun K hK => ?_); simp only [AW4, simprocAttr, hX]; (repeat (with_reducible refine And.intro ?_ ?_); exact vc0)
      refine FunA.callW hP hT (c_spec_EqualWords x x (by omega)) (by simp only [AW4, simprocAttr]) ?_
      rintro rs o ⟨rfl, rfl⟩
      (try simp only [AW4, simprocAttr, hX]); (repeat (with_reducible refine And.intro ?_ ?_); exact vc0)
      (repeat (with_reducible refine And.intro ?_ ?_); exact vc0); refine hK _ ?_; clear hK K; refine Run.nq ?_
      refine Run.nq ?_; refine Run.condW (by simp only [AW4, simprocAttr, hX]; rfl) (by simp only [AW4, simprocAttr, hX]) ?_ ?_
      · intro _
        refine Run.nq ?_; refine Run.regionW hC (fun K hK => ?_); simp only [AW4, simprocAttr, hX]; (repeat (with_reducible refine And.intro ?_ ?_); exact vc0); refine hK _ ?_; clear hK K; refine Run.nq ?_
        refine Run.reK hpin [4] [0] (by decide) (by simp) ?_; simp only [AR, AW4, simprocAttr]
        refine Run.retW [4] (by decide) (by rw [hfn]; rfl) (by simp only [AW4, simprocAttr, hX]; rfl) (by simp only [AW4, simprocAttr, hX]) (hfin _ _ rfl rfl ?_)
        exact ⟨ys ++ [(q, x)], 0, true, [], ⟨by rw [hE]; simp, rfl, rfl⟩, hnd2, rfl, rfl, rfl⟩
      · intro h2; simp at h2
    · have hsl := starW_Red hc y a1 hRx (by omega)
      (try simp only [AW4, simprocAttr, hX]); (repeat (with_reducible refine And.intro ?_ ?_); exact vc0)
      (repeat (with_reducible refine And.intro ?_ ?_); exact vc0); refine hK _ ?_; clear hK K; refine Run.nq ?_
      refine Run.nq ?_; refine Run.regionW hC (fun K hK => ?_); simp only [AW4, simprocAttr, hX]; (repeat (with_reducible refine And.intro ?_ ?_); exact vc0)
      refine FunA.callW hP hT (c_spec_EqualWords (starW c x y) x (by omega)) (by simp only [AW4, simprocAttr]) ?_
      rintro rs o ⟨rfl, rfl⟩
      (try simp only [AW4, simprocAttr, hX]); (repeat (with_reducible refine And.intro ?_ ?_); exact vc0)
      (repeat (with_reducible refine And.intro ?_ ?_); exact vc0); refine hK _ ?_; clear hK K; refine Run.nq ?_
      refine Run.nq ?_; refine Run.condW (by simp only [AW4, simprocAttr, hX]; rfl) (by simp only [AW4, simprocAttr, hX]) ?_ ?_
      · intro h2
        have hst : starW c x y = x := by simpa using h2
        rw [if_pos hst] at hE
        refine Run.nq ?_; refine Run.regionW hC (fun K hK => ?_); simp only [AW4, simprocAttr, hX]; (repeat (with_reducible refine And.intro ?_ ?_); exact vc0); refine hK _ ?_; clear hK K; refine Run.nq ?_
        refine Run.reK hpin [4] [0] (by decide) (by simp) ?_; simp only [AR, AW4, simprocAttr]
        refine Run.retW [4] (by decide) (by rw [hfn]; rfl) (by simp only [AW4, simprocAttr, hX]; rfl) (by simp only [AW4, simprocAttr, hX]) (hfin _ _ rfl rfl ?_)
        exact ⟨ys ++ [(q, x)], 0, true, [], ⟨by rw [hE]; simp, rfl, rfl⟩, hnd2, rfl, rfl, rfl⟩
      · intro h2
        have hst : ¬ starW c x y = x := by simpa using h2
        rw [if_neg hst] at hE
        refine Run.nq ?_; refine Run.regionW hC (fun K hK => ?_); simp (disch := omega) only [wrap_id, AW4, simprocAttr, hX]; (repeat (with_reducible refine And.intro ?_ ?_); exact vc0); refine hK _ ?_; clear hK K; refine Run.nq ?_
        refine Run.reK hpin [0, 1, 5, 6, 7, 8] [0, 3] (by decide) (by simp) ?_; simp only [AR, AW4, simprocAttr]
        refine Run.nq ?_; refine Run.regionW hC (fun K hK => ?_); simp (disch := omega) only [wrap_id, AW4, simprocAttr, hX]; (repeat (with_reducible refine And.intro ?_ ?_); exact vc0); refine hK _ ?_; clear hK K; refine Run.nq ?_
        refine Run.le ?_ (ih ((n + 1, ys ++ [(q, x)], starW c x y)) (⟨by simp only []; omega, by simp [hyl], hnd2, hsl.1, by simp only []; omega, by simp only [List.map_append, List.map_cons, List.map_nil, List.append_assoc]; rw [show 16 - (n + 1) = f by omega]; simpa using hE⟩) (by (try simp only [List.length_append, List.length_cons, List.length_nil]); omega))
        exact Le.sub (by rfl) (by simp only [AW4, simprocAttr]; try simp)
end Go.Proofs.Ytbeeblhmgpgkjaa
