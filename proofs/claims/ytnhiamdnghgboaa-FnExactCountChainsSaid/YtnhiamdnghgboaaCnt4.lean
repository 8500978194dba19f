/- Braid moves: the reference's side. -/
import Derived.Test.YtnhiamdnghgboaaCnt
import Derived.Test.YtnhiamdnghgboaaIn
import Derived.Test.YtnhiamdnghgboaaNilM
set_option linter.unusedVariables false
set_option linter.unusedSimpArgs false
namespace Go.Proofs.Ytnhiamdnghgboaa
open Go Go.Aw Go.Cox

theorem c_spec_AlternatingWord (i j : Int) (n : Nat) (hn : n ≤ 15) : FunA B 128 [.int .i64 i, .int .i64 j, .int .i64 n] (fun rs o => rs = [.own 0 0] ∧ o = [.arr .int (altI i j n) 0 true]) := by
  refine FunA.walk B_ok (fn := Try.f128) (fun vs w => Try.call128 vs w) Try.func128 rfl (by rw [Try.ntmps128]; simp) (fun C hC hP hT hΓ hbt hfn hpin hfin => ?_); have hX := BX; rw [← hΓ, ← hbt.1, ← hbt.2] at hX; rw [Try.ntmps128]; simp only [AW6, simprocAttr, hX]
  refine Run.nq ?_; refine Run.regionW hC (fun K hK => ?_); simp only [AW6, simprocAttr, hX]; (repeat (with_reducible refine And.intro ?_ ?_); exact vc0); refine hK _ ?_; clear hK K; refine Run.nq ?_
  refine Run.nq ?_; refine Run.regionW hC (fun K hK => ?_); simp only [AW6, simprocAttr, hX]; (repeat (with_reducible refine And.intro ?_ ?_); exact vc0); refine hK _ ?_; clear hK K; refine Run.nq ?_
  refine Run.nq ?_; refine Run.regionW hC (fun K hK => ?_); simp only [AW6, simprocAttr, hX]; (repeat (with_reducible refine And.intro ?_ ?_); exact vc0); refine hK _ ?_; clear hK K; refine Run.nq ?_
  refine Run.reK hpin [0, 1, 2, 7, 8] [0] (by decide) (by simp) ?_; simp only [AR, AW6, simprocAttr]
  refine Run.loopI (X := Nat) (fun k => ⟨31, [(0, true, .v (.int .i64 (i))), (1, true, .v (.int .i64 (j))), (2, true, .v (.int .i64 (n))), (7, true, .v (.own 0 0)), (8, true, .v (.int .i64 (k)))], [.arr .int ((altI i j k)) 0 true]⟩) (fun k => k ≤ n) (fun k => n - k) (0) (Nat.zero_le _) ?_ ?_
  · exact Le.sub (by first | rfl | simp) (by simp only [AW6, simprocAttr, hX]; try simp <;> try (first | rfl | exact ⟨rfl, rfl⟩ | exact ⟨rfl, rfl, rfl⟩))
  rintro k hk ih
  try simp only []
  have hl := altI_len i j k
  refine Run.nq ?_; refine Run.regionW hC (fun K hK => ?_); simp only [AW6, simprocAttr, hX]; (repeat (with_reducible refine And.intro ?_ ?_); exact vc0); refine hK _ ?_; clear hK K; refine Run.nq ?_
  refine Run.nq ?_; refine Run.condW (by simp only [AW6, simprocAttr, hX]; rfl) (by simp only [AW6, simprocAttr, hX]) ?_ ?_
  rotate_left
  · intro h
    have h : k = n := by
      by_cases e : (k : Int) < n
      · rw [decide_eq_true e, decide_eq_true (by omega : (k : Int) < 15)] at h; cases h
      · omega
    subst h
    refine Run.exit rfl ?_; refine Run.nq ?_
    refine Run.nq ?_; refine Run.regionW hC (fun K hK => ?_); simp only [AW6, simprocAttr, hX]; (repeat (with_reducible refine And.intro ?_ ?_); exact vc0); refine hK _ ?_; clear hK K; refine Run.nq ?_
    refine Run.reK hpin [6] [0] (by decide) (by simp) ?_; simp only [AR, AW6, simprocAttr]
    refine Run.retW [6] (by decide) (by rw [hfn]; rfl) (by simp only [AW6, simprocAttr, hX]; rfl) (by simp only [AW6, simprocAttr, hX]) (hfin _ _ rfl rfl ?_)
    exact ⟨rfl, rfl⟩
  intro h
  have h : k < n := by
    by_cases e : (k : Int) < n
    · omega
    · rw [decide_eq_false e] at h; cases h
  have hs := altI_succ i j k
  have hk2 : ((k : Int).tmod 2 == 0) = decide (k % 2 = 0) := by
    have h : (k : Int).tmod 2 = ((k % 2 : Nat) : Int) := rfl
    rw [h]
    rcases Nat.mod_two_eq_zero_or_one k with h | h <;> rw [h] <;> rfl
  refine Run.nq ?_; refine Run.regionW hC (fun K hK => ?_); simp only [AW6, simprocAttr, hX]; (repeat (with_reducible refine And.intro ?_ ?_); exact vc0); refine hK _ ?_; clear hK K; refine Run.nq ?_
  rw [hk2]
  refine Run.nq ?_; refine Run.condW (by simp only [AW6, simprocAttr, hX]; rfl) (by simp only [AW6, simprocAttr, hX]) ?_ ?_
  · intro h2
    have h2 : k % 2 = 0 := by simpa using h2
    rw [if_pos h2] at hs
    refine Run.nq ?_; refine Run.regionW hC (fun K hK => ?_); simp only [AW6, simprocAttr, hX]; (repeat (with_reducible refine And.intro ?_ ?_); exact vc0); refine hK _ ?_; clear hK K; refine Run.nq ?_
    rw [← hs]
    refine Run.reK hpin [0, 1, 2, 7, 8] [0] (by decide) (by simp) ?_; simp only [AR, AW6, simprocAttr]
    refine Run.nq ?_; refine Run.regionW hC (fun K hK => ?_); simp (disch := omega) only [wrap_id, AW6, simprocAttr, hX]; (repeat (with_reducible refine And.intro ?_ ?_); exact vc0); refine hK _ ?_; clear hK K; refine Run.nq ?_
    refine Run.le ?_ (ih (k + 1) (h) (by (try simp only [List.length_append, List.length_cons, List.length_nil]); omega))
    exact Le.sub (by rfl) (by simp only [AW6, simprocAttr]; try simp)
  intro h2
  have h2 : ¬ k % 2 = 0 := by simpa using h2
  rw [if_neg h2] at hs
  refine Run.nq ?_; refine Run.regionW hC (fun K hK => ?_); simp only [AW6, simprocAttr, hX]; (repeat (with_reducible refine And.intro ?_ ?_); exact vc0); refine hK _ ?_; clear hK K; refine Run.nq ?_
  rw [← hs]
  refine Run.reK hpin [0, 1, 2, 7, 8] [0] (by decide) (by simp) ?_; simp only [AR, AW6, simprocAttr]
  refine Run.nq ?_; refine Run.regionW hC (fun K hK => ?_); simp (disch := omega) only [wrap_id, AW6, simprocAttr, hX]; (repeat (with_reducible refine And.intro ?_ ?_); exact vc0); refine hK _ ?_; clear hK K; refine Run.nq ?_
  refine Run.le ?_ (ih (k + 1) (h) (by (try simp only [List.length_append, List.length_cons, List.length_nil]); omega))
  exact Le.sub (by rfl) (by simp only [AW6, simprocAttr]; try simp)

theorem ent_prod {c : List (List Int)} (hc : CartanP c) (i j : Nat) (hi : i < c.length) (hj : j < c.length) : -9 ≤ ent c i j * ent c j i ∧ ent c i j * ent c j i ≤ 9 := by
  have h1 := ent_le hc i j hi hj
  have h2 := ent_le hc j i hj hi
  generalize ent c i j = a at *
  generalize ent c j i = b at *
  have ha : a = -3 ∨ a = -2 ∨ a = -1 ∨ a = 0 ∨ a = 1 ∨ a = 2 := by omega
  rcases ha with rfl | rfl | rfl | rfl | rfl | rfl <;> omega

theorem c_spec_BondOf (c : List (List Int)) (i j : Int) (hc : CartanP c) (hi : 0 ≤ i ∧ i < c.length) (hj : 0 ≤ j ∧ j < c.length) (hij : i ≠ j) :
    FunA B 127 [.sl false (.row false) c, .int .i64 i, .int .i64 j] (fun rs o => rs = [.int .i64 (bond (matA c) i.toNat j.toNat : Nat)] ∧ o = []) := by
  have hn := hc.2.1
  have hrow := hc.2.2.1
  have hIC : isC c = true := isC_iff.2 hc
  have l1 : inB i 0 ((c.length : Int) - 1) = true := by unfold inB; simp; omega
  have l2 : inB j 0 ((c.length : Int) - 1) = true := by unfold inB; simp; omega
  have hri := hrow i.toNat (by omega)
  have hrj := hrow j.toNat (by omega)
  have hp := ent_prod hc i.toNat j.toNat (by omega) (by omega)
  refine FunA.walk B_ok (fn := Try.f127) (fun vs w => Try.call127 vs w) Try.func127 rfl (by rw [Try.ntmps127]; simp) (fun C hC hP hT hΓ hbt hfn hpin hfin => ?_); have hX := BX; rw [← hΓ, ← hbt.1, ← hbt.2] at hX; rw [Try.ntmps127]; simp only [AW6, simprocAttr, hX]
  refine Run.nq ?_; refine Run.regionW hC (fun K hK => ?_); simp only [AW6, simprocAttr, hX]; (repeat (with_reducible refine And.intro ?_ ?_); exact vc0); refine hK _ ?_; clear hK K; refine Run.nq ?_
  refine Run.nq ?_; refine Run.regionW hC (fun K hK => ?_); simp only [AW6, simprocAttr, hX]; (repeat (with_reducible refine And.intro ?_ ?_); exact vc0)
  refine FunA.callW hP hT (c_spec_IsCartan c) (by simp only [AW6, simprocAttr]) ?_
  rintro rs o ⟨rfl, rfl⟩
  rw [hIC]
  simp (disch := omega) only [wrap_id, AW6, simprocAttr, hX]; (repeat (with_reducible refine And.intro ?_ ?_); exact vc0)
  refine .inl (FunA.callG hP hT (c_spec_l1In i 0 ((c.length : Int) - 1)) (fun _ => rfl) (fun _ => by simp only [AW6, simprocAttr]) ?_)
  rw [l1]
  simp (disch := omega) only [wrap_id, AW6, simprocAttr, hX]; (repeat (with_reducible refine And.intro ?_ ?_); exact vc0)
  refine .inl (FunA.callG hP hT (c_spec_l1In j 0 ((c.length : Int) - 1)) (fun _ => rfl) (fun _ => by simp only [AW6, simprocAttr]) ?_)
  rw [l2]
  simp (disch := omega) only [wrap_id, AW6, simprocAttr, hX]; (repeat (with_reducible refine And.intro ?_ ?_); exact vc0)
  (repeat (with_reducible refine And.intro ?_ ?_); exact vc0); refine hK _ ?_; clear hK K; refine Run.nq ?_
  refine Run.nq ?_; refine Run.condW (by simp only [AW6, simprocAttr, hX]; rfl) (by simp only [AW6, simprocAttr, hX]) ?_ ?_
  · intro h; simp at h
  intro _
  refine Run.nq ?_; refine Run.regionW hC (fun K hK => ?_); simp only [AW6, simprocAttr, hX]; (repeat (with_reducible refine And.intro ?_ ?_); exact vc0); refine hK _ ?_; clear hK K; refine Run.nq ?_
  refine Run.nq ?_; refine Run.condW (by simp only [AW6, simprocAttr, hX]; rfl) (by simp only [AW6, simprocAttr, hX]) ?_ ?_
  · intro h
    have h : i = j := by simpa using h
    exact (hij h).elim
  intro _
  have hw : IntKind.i64.wrap ((c.getD i.toNat []).getD j.toNat 0 * (c.getD j.toNat []).getD i.toNat 0) = ent c i.toNat j.toNat * ent c j.toNat i.toNat := by
    have hp2 : -9 ≤ (c.getD i.toNat []).getD j.toNat 0 * (c.getD j.toNat []).getD i.toNat 0 ∧ (c.getD i.toNat []).getD j.toNat 0 * (c.getD j.toNat []).getD i.toNat 0 ≤ 9 := hp
    exact wrap_id (by omega)
  have hb : bond (matA c) i.toNat j.toNat = if ent c i.toNat j.toNat * ent c j.toNat i.toNat = 0 then 2 else if ent c i.toNat j.toNat * ent c j.toNat i.toNat = 1 then 3 else if ent c i.toNat j.toNat * ent c j.toNat i.toNat = 2 then 4 else if ent c i.toNat j.toNat * ent c j.toNat i.toNat = 3 then 6 else 0 := rfl
  refine Run.nq ?_; refine Run.regionD hC true [0,1,2,3,4,5,6,7,8,9,10,11,12,13,14] (by kernel_rfl) (fun K hK => ?_); simp (disch := omega) only [wrap_id, AW6, simprocAttr, hX]; (repeat (with_reducible refine And.intro ?_ ?_); exact vc0)
  (repeat (with_reducible refine And.intro ?_ ?_); exact vc0); refine hK _ ?_; clear hK K; refine Run.nq ?_
  rw [hw]
  generalize ent c i.toNat j.toNat * ent c j.toNat i.toNat = p at *
  refine Run.reK hpin [0, 6, 43] [] (by decide) (by simp) ?_; simp only [AR, AW6, simprocAttr]
  refine Run.nq ?_; refine Run.regionW hC (fun K hK => ?_); simp only [AW6, simprocAttr, hX]; (repeat (with_reducible refine And.intro ?_ ?_); exact vc0); refine hK _ ?_; clear hK K; refine Run.nq ?_
  refine Run.nq ?_; refine Run.condW (by simp only [AW6, simprocAttr, hX]; rfl) (by simp only [AW6, simprocAttr, hX]) ?_ ?_
  · intro h
    have h : p = 0 := by simpa using h
    refine Run.nq ?_; refine Run.regionW hC (fun K hK => ?_); simp only [AW6, simprocAttr, hX]; (repeat (with_reducible refine And.intro ?_ ?_); exact vc0); refine hK _ ?_; clear hK K; refine Run.nq ?_
    refine Run.reK hpin [6] [] (by decide) (by simp) ?_; simp only [AR, AW6, simprocAttr]
    refine Run.retW [6] (by decide) (by rw [hfn]; rfl) (by simp only [AW6, simprocAttr, hX]; rfl) (by simp only [AW6, simprocAttr, hX]) (hfin _ _ rfl rfl ?_)
    exact ⟨by rw [hb, if_pos h]; rfl, rfl⟩
  intro h
  have h0 : ¬ p = 0 := by simpa using h
  refine Run.nq ?_; refine Run.regionW hC (fun K hK => ?_); simp only [AW6, simprocAttr, hX]; (repeat (with_reducible refine And.intro ?_ ?_); exact vc0); refine hK _ ?_; clear hK K; refine Run.nq ?_
  refine Run.nq ?_; refine Run.condW (by simp only [AW6, simprocAttr, hX]; rfl) (by simp only [AW6, simprocAttr, hX]) ?_ ?_
  · intro h
    have h : p = 1 := by simpa using h
    refine Run.nq ?_; refine Run.regionW hC (fun K hK => ?_); simp only [AW6, simprocAttr, hX]; (repeat (with_reducible refine And.intro ?_ ?_); exact vc0); refine hK _ ?_; clear hK K; refine Run.nq ?_
    refine Run.reK hpin [6] [] (by decide) (by simp) ?_; simp only [AR, AW6, simprocAttr]
    refine Run.retW [6] (by decide) (by rw [hfn]; rfl) (by simp only [AW6, simprocAttr, hX]; rfl) (by simp only [AW6, simprocAttr, hX]) (hfin _ _ rfl rfl ?_)
    exact ⟨by rw [hb, if_neg h0, if_pos h]; rfl, rfl⟩
  intro h
  have h1 : ¬ p = 1 := by simpa using h
  refine Run.nq ?_; refine Run.regionW hC (fun K hK => ?_); simp only [AW6, simprocAttr, hX]; (repeat (with_reducible refine And.intro ?_ ?_); exact vc0); refine hK _ ?_; clear hK K; refine Run.nq ?_
  refine Run.nq ?_; refine Run.condW (by simp only [AW6, simprocAttr, hX]; rfl) (by simp only [AW6, simprocAttr, hX]) ?_ ?_
  · intro h
    have h : p = 2 := by simpa using h
    refine Run.nq ?_; refine Run.regionW hC (fun K hK => ?_); simp only [AW6, simprocAttr, hX]; (repeat (with_reducible refine And.intro ?_ ?_); exact vc0); refine hK _ ?_; clear hK K; refine Run.nq ?_
    refine Run.reK hpin [6] [] (by decide) (by simp) ?_; simp only [AR, AW6, simprocAttr]
    refine Run.retW [6] (by decide) (by rw [hfn]; rfl) (by simp only [AW6, simprocAttr, hX]; rfl) (by simp only [AW6, simprocAttr, hX]) (hfin _ _ rfl rfl ?_)
    exact ⟨by rw [hb, if_neg h0, if_neg h1, if_pos h]; rfl, rfl⟩
  intro h
  have h2 : ¬ p = 2 := by simpa using h
  refine Run.nq ?_; refine Run.regionW hC (fun K hK => ?_); simp only [AW6, simprocAttr, hX]; (repeat (with_reducible refine And.intro ?_ ?_); exact vc0); refine hK _ ?_; clear hK K; refine Run.nq ?_
  refine Run.nq ?_; refine Run.condW (by simp only [AW6, simprocAttr, hX]; rfl) (by simp only [AW6, simprocAttr, hX]) ?_ ?_
  · intro h
    have h : p = 3 := by simpa using h
    refine Run.nq ?_; refine Run.regionW hC (fun K hK => ?_); simp only [AW6, simprocAttr, hX]; (repeat (with_reducible refine And.intro ?_ ?_); exact vc0); refine hK _ ?_; clear hK K; refine Run.nq ?_
    refine Run.reK hpin [6] [] (by decide) (by simp) ?_; simp only [AR, AW6, simprocAttr]
    refine Run.retW [6] (by decide) (by rw [hfn]; rfl) (by simp only [AW6, simprocAttr, hX]; rfl) (by simp only [AW6, simprocAttr, hX]) (hfin _ _ rfl rfl ?_)
    exact ⟨by rw [hb, if_neg h0, if_neg h1, if_neg h2, if_pos h]; rfl, rfl⟩
  intro h
  have h3 : ¬ p = 3 := by simpa using h
  refine Run.nq ?_; refine Run.regionW hC (fun K hK => ?_); simp only [AW6, simprocAttr, hX]; (repeat (with_reducible refine And.intro ?_ ?_); exact vc0); refine hK _ ?_; clear hK K; refine Run.nq ?_
  refine Run.reK hpin [6] [] (by decide) (by simp) ?_; simp only [AR, AW6, simprocAttr]
  refine Run.retW [6] (by decide) (by rw [hfn]; rfl) (by simp only [AW6, simprocAttr, hX]; rfl) (by simp only [AW6, simprocAttr, hX]) (hfin _ _ rfl rfl ?_)
  exact ⟨by rw [hb, if_neg h0, if_neg h1, if_neg h2, if_neg h3]; rfl, rfl⟩

theorem c_spec_AltF (i j : Int) (n : Nat) (hn : n ≤ 15) : FunA B 128 [.int .i64 i, .int .i64 j, .int .i64 n] (fun rs o => rs = [.sl true .int (altI i j n)] ∧ o = []) := FunA.frozen rfl (c_spec_AlternatingWord i j n hn)

theorem c_spec_BraidAt (c : List (List Int)) (w : List Int) (k : Nat) (hW : WordP c w) (hk : k < w.length) :
    FunA B 99 [.sl false (.row false) c, .sl false .int w, .int .i64 k] (fun rs o => rs = [.own 0 0, .bool (decide (bmP c w k))] ∧ o = [.arr .int (byL c w k) 0 true]) := by
  obtain ⟨hc, h2, h3⟩ := hW
  have hn := hc.2.1
  have hwb : wordB c w = true := wordB_iff.2 ⟨hc, h2, h3⟩
  refine FunA.walk B_ok (fn := Try.f99) (fun vs w => Try.call99 vs w) Try.func99 rfl (by rw [Try.ntmps99]; simp) (fun C hC hP hT hΓ hbt hfn hpin hfin => ?_); have hX := BX; rw [← hΓ, ← hbt.1, ← hbt.2] at hX; rw [Try.ntmps99]; simp only [AW6, simprocAttr, hX]
  refine Run.nq ?_; refine Run.regionW hC (fun K hK => ?_); simp only [AW6, simprocAttr, hX]; (repeat (with_reducible refine And.intro ?_ ?_); exact vc0); refine hK _ ?_; clear hK K; refine Run.nq ?_
  by_cases hk1 : k + 1 < w.length
  case neg =>
    have hno : ¬ bmP c w k := fun h => hk1 h.1
    have hin : inB (k : Int) 0 ((w.length : Int) - 2) = false := by unfold inB; simp; omega
    refine Run.nq ?_; refine Run.regionD hC true [0,1,2,3,4,5,6,7,8,9,10,11,12,13,14,15,16,17,18,19,20,21,22,23] (by kernel_rfl) (fun K hK => ?_); simp (disch := omega) only [wrap_id, AW6, simprocAttr, hX]; (repeat (with_reducible refine And.intro ?_ ?_); exact vc0)
    refine FunA.callD hP hT (c_spec_IsWord c w (by omega)) (by simp only [AW6, simprocAttr]) ?_
    rintro rs o ⟨rfl, rfl⟩
    rw [hwb]
    simp (disch := omega) only [wrap_id, AW6, simprocAttr, hX]; (repeat (with_reducible refine And.intro ?_ ?_); exact vc0)
    refine .inl (FunA.callG hP hT (c_spec_l1In (k : Int) 0 ((w.length : Int) - 2)) (fun _ => rfl) (fun _ => by simp only [AW6, simprocAttr]) ?_)
    rw [hin]
    simp (disch := omega) only [wrap_id, AW6, simprocAttr, hX]; (repeat (with_reducible refine And.intro ?_ ?_); exact vc0)
    (repeat (with_reducible refine And.intro ?_ ?_); exact vc0); refine hK _ ?_; clear hK K; refine Run.nq ?_
    refine Run.nq ?_; refine Run.condW (by simp only [AW6, simprocAttr, hX]; rfl) (by simp only [AW6, simprocAttr, hX]) ?_ ?_
    rotate_left
    · intro h; simp at h
    intro _
    refine Run.nq ?_; refine Run.regionW hC (fun K hK => ?_); simp only [AW6, simprocAttr, hX]; (repeat (with_reducible refine And.intro ?_ ?_); exact vc0); refine hK _ ?_; clear hK K; refine Run.nq ?_
    refine Run.reK hpin [6, 7] [0] (by decide) (by simp) ?_; simp only [AR, AW6, simprocAttr]
    refine Run.retW [6, 7] (by decide) (by rw [hfn]; rfl) (by simp only [AW6, simprocAttr, hX]; rfl) (by simp only [AW6, simprocAttr, hX]) (hfin _ _ rfl rfl ?_)
    rw [show byL c w k = w from if_neg hno, decide_eq_false hno]
    exact ⟨rfl, rfl⟩
  have hin : inB (k : Int) 0 ((w.length : Int) - 2) = true := by unfold inB; simp; omega
  have ek : ((k : Int) + 1).toNat = k + 1 := by omega
  refine Run.nq ?_; refine Run.regionD hC true [0,1,2,3,4,5,6,7,8,9,10,11,12,13,14,15,16,17,18,19,20,21,22,23] (by kernel_rfl) (fun K hK => ?_); simp (disch := omega) only [wrap_id, AW6, simprocAttr, hX]; (repeat (with_reducible refine And.intro ?_ ?_); exact vc0)
  refine FunA.callD hP hT (c_spec_IsWord c w (by omega)) (by simp only [AW6, simprocAttr]) ?_
  rintro rs o ⟨rfl, rfl⟩
  rw [hwb]
  simp (disch := omega) only [wrap_id, AW6, simprocAttr, hX]; (repeat (with_reducible refine And.intro ?_ ?_); exact vc0)
  refine .inl (FunA.callG hP hT (c_spec_l1In (k : Int) 0 ((w.length : Int) - 2)) (fun _ => rfl) (fun _ => by simp only [AW6, simprocAttr]) ?_)
  rw [hin]
  simp (disch := omega) only [wrap_id, AW6, simprocAttr, hX]; (repeat (with_reducible refine And.intro ?_ ?_); exact vc0)
  simp only [Int.toNat_natCast, ek]
  (repeat (with_reducible refine And.intro ?_ ?_); exact vc0)
  (repeat (with_reducible refine And.intro ?_ ?_); exact vc0); refine hK _ ?_; clear hK K; refine Run.nq ?_
  refine Run.nq ?_; refine Run.condW (by simp only [AW6, simprocAttr, hX]; rfl) (by simp only [AW6, simprocAttr, hX]) ?_ ?_
  · intro h
    have h : w.getD k 0 = w.getD (k + 1) 0 := by simpa using h
    have hno : ¬ bmP c w k := fun hh => hh.2.1 h
    refine Run.nq ?_; refine Run.regionW hC (fun K hK => ?_); simp only [AW6, simprocAttr, hX]; (repeat (with_reducible refine And.intro ?_ ?_); exact vc0); refine hK _ ?_; clear hK K; refine Run.nq ?_
    refine Run.reK hpin [6, 7] [0] (by decide) (by simp) ?_; simp only [AR, AW6, simprocAttr]
    refine Run.retW [6, 7] (by decide) (by rw [hfn]; rfl) (by simp only [AW6, simprocAttr, hX]; rfl) (by simp only [AW6, simprocAttr, hX]) (hfin _ _ rfl rfl ?_)
    rw [show byL c w k = w from if_neg hno, decide_eq_false hno]
    exact ⟨rfl, rfl⟩
  intro h
  have hne : w.getD k 0 ≠ w.getD (k + 1) 0 := by simpa using h
  have hwi := h3 _ (getD_mem (w := w) (i := k) (by omega))
  have hwj := h3 _ (getD_mem (w := w) (i := k + 1) hk1)
  refine Run.reK hpin [0, 1, 2, 6, 7] [] (by decide) (by simp) ?_; simp only [AR, AW6, simprocAttr]
  refine Run.nq ?_; refine Run.regionD hC true [0,1,2,3,4,5,6,7,8,9,10,11] (by kernel_rfl) (fun K hK => ?_); simp (disch := omega) only [wrap_id, AW6, simprocAttr, hX]; (repeat (with_reducible refine And.intro ?_ ?_); exact vc0)
  simp only [Int.toNat_natCast, ek]
  (repeat (with_reducible refine And.intro ?_ ?_); exact vc0)
  refine FunA.callD hP hT (c_spec_BondOf c (w.getD k 0) (w.getD (k + 1) 0) hc hwi hwj hne) (by simp only [AW6, simprocAttr]) ?_
  rintro rs o ⟨rfl, rfl⟩
  (try simp only [AW6, simprocAttr, hX]); (repeat (with_reducible refine And.intro ?_ ?_); exact vc0)
  (repeat (with_reducible refine And.intro ?_ ?_); exact vc0); refine hK _ ?_; clear hK K; refine Run.nq ?_
  have hm6 := bond_le (matA c) (w.getD k 0).toNat (w.getD (k + 1) 0).toNat
  have hmM : bmM c w k = bond (matA c) (w.getD k 0).toNat (w.getD (k + 1) 0).toNat := rfl
  rw [← hmM] at hm6
  rw [← hmM]
  refine Run.reK hpin [0, 1, 2, 6, 7, 8] [] (by decide) (by simp) ?_; simp only [AR, AW6, simprocAttr]
  generalize hgm : bmM c w k = m at *
  have ekm : ((k : Int) + (m : Int)).toNat - k = m := by omega
  have hbe : byL c w k = if bmP c w k then bmX c w k else w := rfl
  refine Run.nq ?_; refine Run.regionD hC true [0,1,2,3,4,5,6,7,8,9,10,11,12,13,14,15,16,17,18,19,20,21,22,23,24,25,26,27,28,29,30] (by kernel_rfl) (fun K hK => ?_); simp (disch := omega) only [wrap_id, AW6, simprocAttr, hX]; (repeat (with_reducible refine And.intro ?_ ?_); exact vc0)
  simp only [ek, ekm]
  refine .inl (FunA.callG hP hT (c_spec_AltF (w.getD k 0) (w.getD (k + 1) 0) m (by omega)) (fun _ => rfl) (fun _ => by simp only [AW6, simprocAttr]) ?_)
  (try simp only [AW6, simprocAttr, hX]); (repeat (with_reducible refine And.intro ?_ ?_); exact vc0)
  refine .inl (FunA.callG hP hT (c_spec_EqualWords ((w.drop k).take m) (altI (w.getD k 0) (w.getD (k + 1) 0) m) (by simp; omega)) (fun _ => rfl) (fun _ => by simp only [AW6, simprocAttr]) ?_)
  (try simp only [AW6, simprocAttr, hX]); (repeat (with_reducible refine And.intro ?_ ?_); exact vc0)
  (repeat (with_reducible refine And.intro ?_ ?_); exact vc0); refine hK _ ?_; clear hK K; refine Run.nq ?_
  have hiff : bmP c w k ↔ ¬ (m : Int) < 2 ∧ ¬ (w.length : Int) - k < m ∧ (w.drop k).take m = altI (w.getD k 0) (w.getD (k + 1) 0) m := by
    unfold bmP
    rw [hgm]
    constructor
    · rintro ⟨_, _, q1, q2, q3⟩; exact ⟨by omega, by omega, q3⟩
    · rintro ⟨q1, q2, q3⟩; exact ⟨hk1, hne, by omega, by omega, q3⟩
  refine Run.nq ?_; refine Run.condW (by simp only [AW6, simprocAttr, hX]; rfl) (by simp only [AW6, simprocAttr, hX]) ?_ ?_
  · intro h5
    have hno : ¬ bmP c w k := by
      rw [hiff]
      rintro ⟨q1, q2, q3⟩
      rw [decide_eq_false q1, decide_eq_false q2, q3] at h5
      simp at h5
    refine Run.nq ?_; refine Run.regionW hC (fun K hK => ?_); simp only [AW6, simprocAttr, hX]; (repeat (with_reducible refine And.intro ?_ ?_); exact vc0); refine hK _ ?_; clear hK K; refine Run.nq ?_
    refine Run.reK hpin [6, 7] [0] (by decide) (by simp) ?_; simp only [AR, AW6, simprocAttr]
    refine Run.retW [6, 7] (by decide) (by rw [hfn]; rfl) (by simp only [AW6, simprocAttr, hX]; rfl) (by simp only [AW6, simprocAttr, hX]) (hfin _ _ rfl rfl ?_)
    rw [show byL c w k = w from if_neg hno, decide_eq_false hno]
    exact ⟨rfl, rfl⟩
  intro h5
  have hyes : bmP c w k := by
    rw [hiff]
    refine Classical.byContradiction fun hn => ?_
    by_cases q1 : (m : Int) < 2
    · rw [decide_eq_true q1] at h5; simp at h5
    by_cases q2 : (w.length : Int) - k < m
    · rw [decide_eq_false q1, decide_eq_true q2] at h5; simp at h5
    have q3 : ¬ (w.drop k).take m = altI (w.getD k 0) (w.getD (k + 1) 0) m := fun e => hn ⟨q1, q2, e⟩
    rw [decide_eq_false q1, decide_eq_false q2, beq_eq_false_iff_ne.2 q3] at h5
    simp at h5
  have hm2 : m ≤ w.length - k := by have := hyes.2.2.2.1; rw [hgm] at this; exact this
  have ekm2 : ((k : Int) + (m : Int)).toNat = k + m := by omega
  have hlA := altI_len (w.getD (k + 1) 0) (w.getD k 0) m
  refine Run.reK hpin [0, 1, 2, 6, 7, 8] [] (by decide) (by simp) ?_; simp only [AR, AW6, simprocAttr]
  have hrest : List.take (w.length - (k + m)) (List.drop (k + m) w) = w.drop (k + m) := List.take_of_length_le (by simp)
  refine Run.nq ?_; refine Run.regionD hC true [0,1,2,3,4,5,6,7,8,9,10,11,12,15,16,17,18,19,13,14,20,21,22] (by kernel_rfl) (fun K hK => ?_); simp (disch := omega) only [wrap_id, AW6, simprocAttr, hX]; (repeat (with_reducible refine And.intro ?_ ?_); exact vc0)
  simp only [ek, ekm2, Nat.sub_zero, List.drop_zero, hrest]
  refine FunA.callD hP hT (c_spec_AlternatingWord (w.getD (k + 1) 0) (w.getD k 0) m (by omega)) (by simp only [AW6, simprocAttr]) ?_
  rintro rs o ⟨rfl, rfl⟩
  (try simp only [AW6, simprocAttr, hX]); (repeat (with_reducible refine And.intro ?_ ?_); exact vc0)
  refine FunA.callD hP hT (c_spec_ConcatWords (w.take k) (altI (w.getD (k + 1) 0) (w.getD k 0) m) (by simp; omega) (by omega)) (by simp only [AW6, simprocAttr]) ?_
  rintro rs o ⟨rfl, rfl⟩
  (try simp only [AW6, simprocAttr, hX]); (repeat (with_reducible refine And.intro ?_ ?_); exact vc0)
  refine FunA.callD hP hT (c_spec_ConcatWords (w.take k ++ altI (w.getD (k + 1) 0) (w.getD k 0) m) (w.drop (k + m)) (by rw [List.length_append, hlA, List.length_take]; omega) (by rw [List.length_drop]; omega)) (by simp only [AW6, simprocAttr]) ?_
  rintro rs o ⟨rfl, rfl⟩
  (try simp only [AW6, simprocAttr, hX]); (repeat (with_reducible refine And.intro ?_ ?_); exact vc0)
  (repeat (with_reducible refine And.intro ?_ ?_); exact vc0); refine hK _ ?_; clear hK K; refine Run.nq ?_
  refine Run.reK hpin [6, 7] [2] (by decide) (by simp) ?_; simp only [AR, AW6, simprocAttr]
  refine Run.retW [6, 7] (by decide) (by rw [hfn]; rfl) (by simp only [AW6, simprocAttr, hX]; rfl) (by simp only [AW6, simprocAttr, hX]) (hfin _ _ rfl rfl ?_)
  rw [show byL c w k = bmX c w k from if_pos hyes, decide_eq_true hyes]
  refine ⟨rfl, ?_⟩
  unfold bmX
  rw [hgm]

def bpT (c : List (List Int)) (w : List Int) (n : Nat) : List Int := ((List.range n).filter fun k => decide (bmP c w k)).map Int.ofNat
theorem bpT_snoc (c : List (List Int)) (w : List Int) (n : Nat) : bpT c w (n + 1) = if bmP c w n then bpT c w n ++ [(n : Int)] else bpT c w n := by
  unfold bpT
  rw [List.range_succ, List.filter_append, List.map_append]
  by_cases h : bmP c w n
  · rw [if_pos h]; simp only [List.filter_cons, List.filter_nil, decide_eq_true h, if_true, List.map_cons, List.map_nil]; rfl
  · rw [if_neg h]; simp only [List.filter_cons, List.filter_nil, decide_eq_false h, List.append_nil]; simp
theorem bpT_len (c : List (List Int)) (w : List Int) (n : Nat) : (bpT c w n).length ≤ n := by
  unfold bpT
  have := List.length_filter_le (fun k => decide (bmP c w k)) (List.range n)
  simp at this ⊢
  exact this
def bpL (c : List (List Int)) (w : List Int) : List Int := bpT c w w.length
theorem bpL_mem {c : List (List Int)} {w : List Int} {i : Int} : i ∈ bpL c w ↔ ∃ k : Nat, i = k ∧ k < w.length ∧ bmP c w k := by
  unfold bpL bpT
  simp only [List.mem_map, List.mem_filter, List.mem_range, decide_eq_true_eq]
  constructor
  · rintro ⟨k, ⟨h1, h2⟩, rfl⟩; exact ⟨k, rfl, h1, h2⟩
  · rintro ⟨k, rfl, h1, h2⟩; exact ⟨k, ⟨h1, h2⟩, rfl⟩

theorem c_spec_BraidPlaces (c : List (List Int)) (w : List Int) (hW : WordP c w) : FunA B 98 [.sl false (.row false) c, .sl false .int w] (fun rs o => rs = [.own 0 0] ∧ o = [.arr .int (bpL c w) 0 true]) := by
  have hl := hW.2.1
  refine FunA.walk B_ok (fn := Try.f98) (fun vs w => Try.call98 vs w) Try.func98 rfl (by rw [Try.ntmps98]; simp) (fun C hC hP hT hΓ hbt hfn hpin hfin => ?_); have hX := BX; rw [← hΓ, ← hbt.1, ← hbt.2] at hX; rw [Try.ntmps98]; simp only [AW6, simprocAttr, hX]
  refine Run.nq ?_; refine Run.regionW hC (fun K hK => ?_); simp only [AW6, simprocAttr, hX]; (repeat (with_reducible refine And.intro ?_ ?_); exact vc0); refine hK _ ?_; clear hK K; refine Run.nq ?_
  refine Run.nq ?_; refine Run.regionW hC (fun K hK => ?_); simp only [AW6, simprocAttr, hX]; (repeat (with_reducible refine And.intro ?_ ?_); exact vc0); refine hK _ ?_; clear hK K; refine Run.nq ?_
  refine Run.nq ?_; refine Run.regionW hC (fun K hK => ?_); simp only [AW6, simprocAttr, hX]; (repeat (with_reducible refine And.intro ?_ ?_); exact vc0); refine hK _ ?_; clear hK K; refine Run.nq ?_
  refine Run.reK hpin [0, 1, 5, 6] [0] (by decide) (by simp) ?_; simp only [AR, AW6, simprocAttr]
  refine Run.loopI (X := Nat) (fun k => ⟨29, [(0, true, .v (.sl false (.row false) (c))), (1, true, .v (.sl false .int (w))), (5, true, .v (.own 0 0)), (6, true, .v (.int .i64 (k)))], [.arr .int ((bpT c w k)) 0 true]⟩) (fun k => k ≤ w.length) (fun k => w.length - k) (0) (Nat.zero_le _) ?_ ?_
  · exact Le.sub (by first | rfl | simp) (by simp only [AW6, simprocAttr, hX]; try simp <;> try (first | rfl | exact ⟨rfl, rfl⟩ | exact ⟨rfl, rfl, rfl⟩))
  rintro k hk ih
  try simp only []
  have hbl := bpT_len c w k
  refine Run.nq ?_; refine Run.regionW hC (fun K hK => ?_); simp only [AW6, simprocAttr, hX]; (repeat (with_reducible refine And.intro ?_ ?_); exact vc0); refine hK _ ?_; clear hK K; refine Run.nq ?_
  refine Run.nq ?_; refine Run.condW (by simp only [AW6, simprocAttr, hX]; rfl) (by simp only [AW6, simprocAttr, hX]) ?_ ?_
  rotate_left
  · intro h
    have h : k = w.length := by rw [decide_eq_false_iff_not] at h; omega
    subst h
    refine Run.exit rfl ?_; refine Run.nq ?_
    refine Run.nq ?_; refine Run.regionW hC (fun K hK => ?_); simp only [AW6, simprocAttr, hX]; (repeat (with_reducible refine And.intro ?_ ?_); exact vc0); refine hK _ ?_; clear hK K; refine Run.nq ?_
    refine Run.reK hpin [4] [0] (by decide) (by simp) ?_; simp only [AR, AW6, simprocAttr]
    refine Run.retW [4] (by decide) (by rw [hfn]; rfl) (by simp only [AW6, simprocAttr, hX]; rfl) (by simp only [AW6, simprocAttr, hX]) (hfin _ _ rfl rfl ?_)
    exact ⟨rfl, rfl⟩
  intro h
  have h : k < w.length := by rw [decide_eq_true_eq] at h; omega
  have hs := bpT_snoc c w k
  refine Run.nq ?_; refine Run.regionW hC (fun K hK => ?_); simp only [AW6, simprocAttr, hX]; (repeat (with_reducible refine And.intro ?_ ?_); exact vc0)
  refine FunA.callW hP hT (c_spec_BraidAt c w k hW h) (by simp only [AW6, simprocAttr]) ?_
  rintro rs o ⟨rfl, rfl⟩
  (try simp only [AW6, simprocAttr, hX]); (repeat (with_reducible refine And.intro ?_ ?_); exact vc0)
  (repeat (with_reducible refine And.intro ?_ ?_); exact vc0); refine hK _ ?_; clear hK K; refine Run.nq ?_
  refine Run.nq ?_; refine Run.regionW hC (fun K hK => ?_); simp only [AW6, simprocAttr, hX]; (repeat (with_reducible refine And.intro ?_ ?_); exact vc0); refine hK _ ?_; clear hK K; refine Run.nq ?_
  refine Run.nq ?_; refine Run.condW (by simp only [AW6, simprocAttr, hX]; rfl) (by simp only [AW6, simprocAttr, hX]) ?_ ?_
  · intro h2
    have h2 : bmP c w k := of_decide_eq_true h2
    rw [if_pos h2] at hs
    refine Run.nq ?_; refine Run.regionW hC (fun K hK => ?_); simp only [AW6, simprocAttr, hX]; (repeat (with_reducible refine And.intro ?_ ?_); exact vc0); refine hK _ ?_; clear hK K; refine Run.nq ?_
    rw [← hs]
    refine Run.reK hpin [0, 1, 5, 6] [0] (by decide) (by simp) ?_; simp only [AR, AW6, simprocAttr]
    refine Run.nq ?_; refine Run.regionW hC (fun K hK => ?_); simp (disch := omega) only [wrap_id, AW6, simprocAttr, hX]; (repeat (with_reducible refine And.intro ?_ ?_); exact vc0); refine hK _ ?_; clear hK K; refine Run.nq ?_
    refine Run.le ?_ (ih (k + 1) (h) (by (try simp only [List.length_append, List.length_cons, List.length_nil]); omega))
    exact Le.sub (by rfl) (by simp only [AW6, simprocAttr]; try simp)
  intro h2
  have h2 : ¬ bmP c w k := of_decide_eq_false h2
  rw [if_neg h2] at hs
  rw [← hs]
  refine Run.reK hpin [0, 1, 5, 6] [0] (by decide) (by simp) ?_; simp only [AR, AW6, simprocAttr]
  refine Run.nq ?_; refine Run.regionW hC (fun K hK => ?_); simp (disch := omega) only [wrap_id, AW6, simprocAttr, hX]; (repeat (with_reducible refine And.intro ?_ ?_); exact vc0); refine hK _ ?_; clear hK K; refine Run.nq ?_
  refine Run.le ?_ (ih (k + 1) (h) (by (try simp only [List.length_append, List.length_cons, List.length_nil]); omega))
  exact Le.sub (by rfl) (by simp only [AW6, simprocAttr]; try simp)
end Go.Proofs.Ytnhiamdnghgboaa
