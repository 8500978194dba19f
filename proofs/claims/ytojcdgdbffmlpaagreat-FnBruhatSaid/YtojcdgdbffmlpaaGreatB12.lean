/- Images and normal forms: what the functions of both sides do. -/
import Derived.Test.YtojcdgdbffmlpaaGreatB11
import Derived.Test.YtojcdgdbffmlpaaGreatB7
set_option linter.unusedVariables false
set_option linter.unusedSimpArgs false
namespace Go.Proofs.YtojcdgdbffmlpaaGreat
open Go Go.Aw Go.Cox
theorem reflL_snoc (c : List (List Int)) (i : Int) (v : List Int) (m : Nat) (h : m < v.length) : (reflL c i v).take m ++ [v.getD m 0 - v.getD i.toNat 0 * ent c m i.toNat] = (reflL c i v).take (m + 1) := by
  rw [← take_snoc 0 _ m (by rw [reflL_length]; exact h), reflL_get c i v m h]
theorem c_spec_l6Reflect (c : List (List Int)) (i : Int) (v : List Int) (hc : CartanP c) (hv : v.length = c.length) (hi : 0 ≤ i ∧ i < c.length) (hB : Bd 9223372036854775807 (reflL c i v)) :
    FunA B 183 [.sl false (.row false) c, .int .i64 i, .sl false .int v] (fun rs o => rs = [.own 0 0] ∧ o = [.arr .int (reflL c i v) 0 true]) := by
  have hn := hc.2.1
  have hrow := hc.2.2.1
  have hrl := reflL_length c i v
  refine FunA.walk B_ok (fn := Tryz.f183) (fun vs w => Tryz.call183 vs w) Tryz.func183 rfl (by rw [Tryz.ntmps183]; simp) (fun C hC hP hT hΓ hbt hfn hpin hfin => ?_); have hX := BX; rw [← hΓ, ← hbt.1, ← hbt.2] at hX; rw [Tryz.ntmps183]; simp only [AW7, simprocAttr, hX]
  refine Run.nq ?_; refine Run.regionW hC (fun K hK => ?_); simp only [AW7, simprocAttr, hX]; (repeat (with_reducible refine And.intro ?_ ?_); exact vc0); refine hK _ ?_; clear hK K; refine Run.nq ?_
  refine Run.nq ?_; refine Run.regionW hC (fun K hK => ?_); simp only [AW7, simprocAttr, hX]; (repeat (with_reducible refine And.intro ?_ ?_); exact vc0); refine hK _ ?_; clear hK K; refine Run.nq ?_
  refine Run.nq ?_; refine Run.regionW hC (fun K hK => ?_); simp only [AW7, simprocAttr, hX]; (repeat (with_reducible refine And.intro ?_ ?_); exact vc0); refine hK _ ?_; clear hK K; refine Run.nq ?_
  refine Run.loopI (X := Nat) (fun m => ⟨37, [(0, true, .v (.sl false (.row false) c)), (1, true, .v (.int .i64 i)), (2, true, .v (.sl false .int v)), (6, true, .v .nils), (7, true, .v (.own 0 m)), (8, true, .v (.int .i64 m))], [.arr .int ((reflL c i v).take m) m true]⟩) (fun m => m ≤ v.length) (fun m => v.length - m) 0 (Nat.zero_le _) ?_ ?_
  · exact Le.sub (by rfl) (by simp only [AW7, simprocAttr, hX]; try simp)
  rintro m hm ih
  have hll : ((reflL c i v).take m).length = m := by simp; omega
  refine Run.nq ?_; refine Run.regionW hC (fun K hK => ?_); simp only [AW7, simprocAttr, hX]; (repeat (with_reducible refine And.intro ?_ ?_); exact vc0); refine hK _ ?_; clear hK K; refine Run.nq ?_
  refine Run.nq ?_; refine Run.condW (by simp only [AW7, simprocAttr, hX]; rfl) (by simp only [AW7, simprocAttr, hX]) ?_ ?_
  · intro h
    have h : m < v.length := by simpa using h
    have hrm := hrow m (by omega)
    refine Run.keep [0, 1, 2, 6, 7, 8] ?_; simp only [AK, Nat.reduceBEq]
    refine Run.nq ?_
    refine Run.regionD hC true [0,1,2,3,4,5,6,7,8,9,10,11,12,13,14,15,16,17,18,19,20] (by kernel_rfl) (fun K hK => ?_)
    simp only [AW7, simprocAttr, hX]
    (repeat (with_reducible refine And.intro ?_ ?_); exact vc0)
    (repeat (with_reducible refine And.intro ?_ ?_); exact vc0); refine hK _ ?_; clear hK K; refine Run.nq ?_
    have e1 : IntKind.i64.wrap (v.getD m 0 - IntKind.i64.wrap (v.getD i.toNat 0 * ent c m i.toNat)) = v.getD m 0 - v.getD i.toNat 0 * ent c m i.toNat := by
      rw [wrap_sub_wrap]
      have := hB m
      rw [reflL_get c i v m h] at this
      exact wrap_id (by omega)
    simp only [e1]
    refine Run.nq ?_; refine Run.regionW hC (fun K hK => ?_); simp (disch := omega) only [wrap_id, AW7, simprocAttr, hX]; (repeat (with_reducible refine And.intro ?_ ?_); exact vc0); refine hK _ ?_; clear hK K; refine Run.nq ?_
    refine Run.le ?_ (ih (m + 1) h (by omega))
    refine Le.cut0 hpin [_] (by rw [← reflL_snoc c i v m h]; rfl) ?_ rfl
    simp only [AW7, simprocAttr]; try simp
  · intro h
    have h : m = v.length := by simp at h; omega
    subst h
    refine Run.exit rfl ?_; refine Run.nq ?_
    refine Run.nq ?_; refine Run.regionW hC (fun K hK => ?_); simp only [AW7, simprocAttr, hX]; (repeat (with_reducible refine And.intro ?_ ?_); exact vc0); refine hK _ ?_; clear hK K; refine Run.nq ?_
    refine Run.le (Le.re (obs' := [.arr .int (reflL c i v) 0 true]) hpin [0] [(6, true, .own 0 0)] rfl (by simp [leOs, leO_arr, oAt, ← hrl]) (by refine ⟨⟨_, rfl, ?_⟩, trivial⟩; simp [leAV, oAt, genO])) ?_
    simp only [frV_cons, frV_nil]
    refine Run.retW [6] (by decide) (by rw [hfn]; rfl) (by simp only [AW7, simprocAttr, hX]; rfl) (by simp only [AW7, simprocAttr, hX]) (hfin _ _ rfl rfl ?_)
    exact ⟨rfl, rfl⟩
theorem actL_drop (c : List (List Int)) (w v : List Int) (j : Nat) (h : j < w.length) : actL c (w.drop j) v = reflL c (w.getD j 0) (actL c (w.drop (j + 1)) v) := by
  rw [List.drop_eq_getElem_cons h, show w.getD j 0 = w[j] from by simp [h]]
  rfl
theorem c_impl_acted (c : List (List Int)) (w v : List Int) (hc : CartanP c) (hw : letters c.length w) (hv : v.length = c.length) (hB : ∀ j, Bd 9223372036854775807 (actL c (w.drop j) v)) (hl : w.length ≤ 1048576) :
    FunA B 179 [.sl false (.row false) c, .sl false .int w, .sl false .int v] (fun rs o => rs = [.own 0 0] ∧ o = [.arr .int (actL c w v) 0 true]) := by
  have hn := hc.2.1
  refine FunA.walk B_ok (fn := Tryz.f179) (fun vs w => Tryz.call179 vs w) Tryz.func179 rfl (by rw [Tryz.ntmps179]; simp) (fun C hC hP hT hΓ hbt hfn hpin hfin => ?_); have hX := BX; rw [← hΓ, ← hbt.1, ← hbt.2] at hX; rw [Tryz.ntmps179]; simp only [AW7, simprocAttr, hX]
  refine Run.nq ?_; refine Run.regionW hC (fun K hK => ?_); simp only [AW7, simprocAttr, hX]; (repeat (with_reducible refine And.intro ?_ ?_); exact vc0); refine hK _ ?_; clear hK K; refine Run.nq ?_
  refine Run.nq ?_; refine Run.regionW hC (fun K hK => ?_); simp only [AW7, simprocAttr, hX]; (repeat (with_reducible refine And.intro ?_ ?_); exact vc0); refine hK _ ?_; clear hK K; refine Run.nq ?_
  refine Run.le (Le.re (obs' := [.arr .int v 0 true]) hpin [0] [(0, true, .sl false (.row false) c), (1, true, .sl false .int w), (6, true, .nils), (7, true, .own 0 0)] rfl (by simp [leOs, leO_arr, oAt]) (by refine ⟨⟨_, rfl, ?_⟩, ⟨_, rfl, ?_⟩, ⟨_, rfl, ?_⟩, ⟨_, rfl, ?_⟩, trivial⟩ <;> simp [leAV, oAt, genO])) ?_
  simp only [frV_cons, frV_nil]
  refine Run.nq ?_; refine Run.regionW hC (fun K hK => ?_); simp (disch := omega) only [wrap_id, AW7, simprocAttr, hX]; (repeat (with_reducible refine And.intro ?_ ?_); exact vc0); refine hK _ ?_; clear hK K; refine Run.nq ?_
  refine Run.loopI (X := Nat) (fun m => ⟨27, [(0, true, .v (.sl false (.row false) c)), (1, true, .v (.sl false .int w)), (6, true, .v .nils), (7, true, .v (.own 0 0)), (8, true, .v (.int .i64 ((w.length : Int) - 1 - m)))], [.arr .int (actL c (w.drop (w.length - m)) v) 0 true]⟩) (fun m => m ≤ w.length) (fun m => w.length - m) 0 (Nat.zero_le _) ?_ ?_
  · exact Le.sub (by simp [actL]) (by simp only [AW7, simprocAttr, hX]; try simp)
  rintro m hm ih
  refine Run.nq ?_; refine Run.regionW hC (fun K hK => ?_); simp only [AW7, simprocAttr, hX]; (repeat (with_reducible refine And.intro ?_ ?_); exact vc0); refine hK _ ?_; clear hK K; refine Run.nq ?_
  refine Run.nq ?_; refine Run.condW (by simp only [AW7, simprocAttr, hX]; rfl) (by simp only [AW7, simprocAttr, hX]) ?_ ?_
  · intro h
    have h : m < w.length := by simp at h; omega
    have e1 : ((w.length : Int) - 1 - m).toNat = w.length - (m + 1) := by omega
    have e2 : w.length - (m + 1) + 1 = w.length - m := by omega
    have hd := actL_drop c w v (w.length - (m + 1)) (by omega)
    rw [e2] at hd
    have hlet := letters_getD.1 hw (w.length - (m + 1)) (by omega)
    have hB' := hB (w.length - (m + 1))
    rw [hd] at hB'
    refine Run.nq ?_; refine Run.regionW hC (fun K hK => ?_); simp only [AW7, simprocAttr, hX]; (repeat (with_reducible refine And.intro ?_ ?_); exact vc0)
    simp only [e1]
    refine FunM.call hP hT (c_impl_reflected c (w.getD (w.length - (m + 1)) 0) (actL c (w.drop (w.length - m)) v) hc (by rw [actL_length, hv]) hlet hB') 0 0 (by simp only [AW7, simprocAttr]; rfl) (by simp) rfl (by simp only [AW7, simprocAttr]; try simp) ?_
    rintro rs o' obs' ⟨rfl, h⟩
    obtain ⟨rfl, rfl⟩ := List.cons.inj h
    (try simp only [AW7, simprocAttr, hX]); (repeat (with_reducible refine And.intro ?_ ?_); exact vc0)
    (repeat (with_reducible refine And.intro ?_ ?_); exact vc0); refine hK _ ?_; clear hK K; refine Run.nq ?_
    refine Run.nq ?_; refine Run.regionW hC (fun K hK => ?_); simp (disch := omega) only [wrap_id, AW7, simprocAttr, hX]; (repeat (with_reducible refine And.intro ?_ ?_); exact vc0); refine hK _ ?_; clear hK K; refine Run.nq ?_
    refine Run.le ?_ (ih (m + 1) (by omega) (by omega))
    refine Le.sub (by rw [hd]) ?_
    simp only [AW7, simprocAttr]; try simp; omega
  · intro h
    have h : m = w.length := by simp at h; omega
    subst h
    rw [show w.length - w.length = 0 from by omega, List.drop_zero]
    refine Run.exit rfl ?_; refine Run.nq ?_
    refine Run.nq ?_; refine Run.regionW hC (fun K hK => ?_); simp only [AW7, simprocAttr, hX]; (repeat (with_reducible refine And.intro ?_ ?_); exact vc0); refine hK _ ?_; clear hK K; refine Run.nq ?_
    refine Run.keep [6] ?_; simp only [AK, Nat.reduceBEq]
    refine Run.retW [6] (by decide) (by rw [hfn]; rfl) (by simp only [AW7, simprocAttr, hX]; rfl) (by simp only [AW7, simprocAttr, hX]) (hfin _ _ rfl rfl ?_)
    exact ⟨rfl, rfl⟩
theorem image_bd {c : List (List Int)} (hc : CartanP c) {w : List Int} (hw : letters c.length w) (hl : w.length ≤ 31) : Bd 4611686018427387904 (imageL c w) := by
  refine (Bd.image hc w hw).mono ?_
  have h : ((4 : Int) ^ w.length) ≤ 4 ^ 31 := pow4_le hl
  have e : ((4 : Int) ^ 31) = 4611686018427387904 := by decide
  rw [e] at h
  exact h
theorem letters_drop {n : Nat} {w : List Int} (h : letters n w) (j : Nat) : letters n (w.drop j) := fun i hi => h i (List.mem_of_mem_drop hi)
theorem letters_take {n : Nat} {w : List Int} (h : letters n w) (j : Nat) : letters n (w.take j) := fun i hi => h i (List.mem_of_mem_take hi)
theorem c_impl_image (c : List (List Int)) (w : List Int) (hc : CartanP c) (hw : letters c.length w) (hl : w.length ≤ 31) :
    FunA B 112 [.sl false (.row false) c, .sl false .int w] (fun rs o => rs = [.own 0 0] ∧ o = [.arr .int (imageL c w) 0 true]) := by
  have hn := hc.2.1
  refine FunA.walk B_ok (fn := Tryz.f112) (fun vs w => Tryz.call112 vs w) Tryz.func112 rfl (by rw [Tryz.ntmps112]; simp) (fun C hC hP hT hΓ hbt hfn hpin hfin => ?_); have hX := BX; rw [← hΓ, ← hbt.1, ← hbt.2] at hX; rw [Tryz.ntmps112]; simp only [AW7, simprocAttr, hX]
  refine Run.nq ?_; refine Run.regionW hC (fun K hK => ?_); simp only [AW7, simprocAttr, hX]; (repeat (with_reducible refine And.intro ?_ ?_); exact vc0); refine hK _ ?_; clear hK K; refine Run.nq ?_
  refine Run.nq ?_; refine Run.regionW hC (fun K hK => ?_); simp only [AW7, simprocAttr, hX]; (repeat (with_reducible refine And.intro ?_ ?_); exact vc0)
  refine FunA.callW hP hT (c_impl_ones c.length (by omega)) (by simp only [AW7, simprocAttr]) ?_
  rintro rs o ⟨rfl, rfl⟩
  (try simp only [AW7, simprocAttr, hX]); (repeat (with_reducible refine And.intro ?_ ?_); exact vc0)
  refine FunA.callW hP hT (c_impl_acted c w (ones c.length) hc hw (ones_length _) (fun j => (image_bd hc (letters_drop hw j) (by simp; omega)).mono (by decide)) (by omega)) (by simp only [AW7, simprocAttr]) ?_
  rintro rs o ⟨rfl, rfl⟩
  (try simp only [AW7, simprocAttr, hX]); (repeat (with_reducible refine And.intro ?_ ?_); exact vc0)
  (repeat (with_reducible refine And.intro ?_ ?_); exact vc0); refine hK _ ?_; clear hK K; refine Run.nq ?_
  refine Run.le (Le.re (obs' := [.arr .int (imageL c w) 0 true]) hpin [1] [(4, true, .own 0 0)] rfl (by simp [leOs, leO_arr, oAt, imageL]) (by refine ⟨⟨_, rfl, ?_⟩, trivial⟩; simp [leAV, oAt, genO])) ?_
  simp only [frV_cons, frV_nil]
  refine Run.retW [4] (by decide) (by rw [hfn]; rfl) (by simp only [AW7, simprocAttr, hX]; rfl) (by simp only [AW7, simprocAttr, hX]) (hfin _ _ rfl rfl ?_)
  exact ⟨rfl, rfl⟩
theorem c_spec_l8Image (c : List (List Int)) (w : List Int) (hc : CartanP c) (hw : letters c.length w) (hl : w.length ≤ 31) :
    FunA B 114 [.sl false (.row false) c, .sl false .int w] (fun rs o => rs = [.own 0 0] ∧ o = [.arr .int (imageL c w) 0 true]) := by
  have hn := hc.2.1
  refine FunA.walk B_ok (fn := Tryz.f114) (fun vs w => Tryz.call114 vs w) Tryz.func114 rfl (by rw [Tryz.ntmps114]; simp) (fun C hC hP hT hΓ hbt hfn hpin hfin => ?_); have hX := BX; rw [← hΓ, ← hbt.1, ← hbt.2] at hX; rw [Tryz.ntmps114]; simp only [AW7, simprocAttr, hX]
  refine Run.nq ?_; refine Run.regionW hC (fun K hK => ?_); simp only [AW7, simprocAttr, hX]; (repeat (with_reducible refine And.intro ?_ ?_); exact vc0); refine hK _ ?_; clear hK K; refine Run.nq ?_
  refine Run.nq ?_; refine Run.regionW hC (fun K hK => ?_); simp only [AW7, simprocAttr, hX]; (repeat (with_reducible refine And.intro ?_ ?_); exact vc0)
  refine FunA.callW hP hT (c_spec_RhoOf c hc) (by simp only [AW7, simprocAttr]) ?_
  rintro rs o ⟨rfl, rfl⟩
  (try simp only [AW7, simprocAttr, hX]); (repeat (with_reducible refine And.intro ?_ ?_); exact vc0)
  (repeat (with_reducible refine And.intro ?_ ?_); exact vc0); refine hK _ ?_; clear hK K; refine Run.nq ?_
  refine Run.nq ?_; refine Run.regionW hC (fun K hK => ?_); simp (disch := omega) only [wrap_id, AW7, simprocAttr, hX]; (repeat (with_reducible refine And.intro ?_ ?_); exact vc0); refine hK _ ?_; clear hK K; refine Run.nq ?_
  refine Run.loopI (X := Nat) (fun m => ⟨24, [(0, true, .v (.sl false (.row false) c)), (1, true, .v (.sl false .int w)), (4, true, .v .nils), (5, true, .v (.own 0 0)), (6, true, .v (.int .i64 ((w.length : Int) - 1 - m)))], [.arr .int (imageL c (w.drop (w.length - m))) 0 true]⟩) (fun m => m ≤ w.length) (fun m => w.length - m) 0 (Nat.zero_le _) ?_ ?_
  · exact Le.sub (by simp [imageL, actL]) (by simp only [AW7, simprocAttr, hX]; try simp)
  rintro m hm ih
  refine Run.nq ?_; refine Run.regionW hC (fun K hK => ?_); simp only [AW7, simprocAttr, hX]; (repeat (with_reducible refine And.intro ?_ ?_); exact vc0); refine hK _ ?_; clear hK K; refine Run.nq ?_
  refine Run.nq ?_; refine Run.condW (by simp only [AW7, simprocAttr, hX]; rfl) (by simp only [AW7, simprocAttr, hX]) ?_ ?_
  · intro h
    have h : m < w.length := by simp at h; omega
    have e1 : ((w.length : Int) - 1 - m).toNat = w.length - (m + 1) := by omega
    have e2 : w.length - (m + 1) + 1 = w.length - m := by omega
    have hd := actL_drop c w (ones c.length) (w.length - (m + 1)) (by omega)
    rw [e2] at hd
    have hlet := letters_getD.1 hw (w.length - (m + 1)) (by omega)
    have hB' : Bd 9223372036854775807 (imageL c (w.drop (w.length - (m + 1)))) := (image_bd hc (letters_drop hw _) (by simp; omega)).mono (by decide)
    have hd' : imageL c (w.drop (w.length - (m + 1))) = reflL c (w.getD (w.length - (m + 1)) 0) (imageL c (w.drop (w.length - m))) := hd
    rw [hd'] at hB'
    refine Run.nq ?_; refine Run.regionW hC (fun K hK => ?_); simp only [AW7, simprocAttr, hX]; (repeat (with_reducible refine And.intro ?_ ?_); exact vc0)
    simp only [e1]
    refine FunA.callW hP hT (c_spec_l6Reflect c (w.getD (w.length - (m + 1)) 0) (imageL c (w.drop (w.length - m))) hc (imageL_length ..) hlet hB') (by simp only [AW7, simprocAttr]) ?_
    rintro rs o ⟨rfl, rfl⟩
    (try simp only [AW7, simprocAttr, hX]); (repeat (with_reducible refine And.intro ?_ ?_); exact vc0)
    (repeat (with_reducible refine And.intro ?_ ?_); exact vc0); refine hK _ ?_; clear hK K; refine Run.nq ?_
    refine Run.nq ?_; refine Run.regionW hC (fun K hK => ?_); simp (disch := omega) only [wrap_id, AW7, simprocAttr, hX]; (repeat (with_reducible refine And.intro ?_ ?_); exact vc0); refine hK _ ?_; clear hK K; refine Run.nq ?_
    refine Run.le ?_ (ih (m + 1) (by omega) (by omega))
    refine Le.re (obs' := [.arr .int (imageL c (w.drop (w.length - (m + 1)))) 0 true]) hpin [1] [(0, true, .sl false (.row false) c), (1, true, .sl false .int w), (4, true, .nils), (5, true, .own 0 0), (6, true, .int .i64 ((w.length : Int) - 1 - ((m + 1 : Nat) : Int)))] rfl (by simp [leOs, leO_arr, oAt, hd']) ?_
    refine ⟨⟨_, rfl, ?_⟩, ⟨_, rfl, ?_⟩, ⟨_, rfl, ?_⟩, ⟨_, rfl, ?_⟩, ⟨_, rfl, ?_⟩, trivial⟩ <;> simp [leAV, oAt, genO]
    omega
  · intro h
    have h : m = w.length := by simp at h; omega
    subst h
    rw [show w.length - w.length = 0 from by omega, List.drop_zero]
    refine Run.exit rfl ?_; refine Run.nq ?_
    refine Run.nq ?_; refine Run.regionW hC (fun K hK => ?_); simp only [AW7, simprocAttr, hX]; (repeat (with_reducible refine And.intro ?_ ?_); exact vc0); refine hK _ ?_; clear hK K; refine Run.nq ?_
    refine Run.keep [4] ?_; simp only [AK, Nat.reduceBEq]
    refine Run.retW [4] (by decide) (by rw [hfn]; rfl) (by simp only [AW7, simprocAttr, hX]; rfl) (by simp only [AW7, simprocAttr, hX]) (hfin _ _ rfl rfl ?_)
    exact ⟨rfl, rfl⟩
end Go.Proofs.YtojcdgdbffmlpaaGreat
namespace Go.Proofs.YtojcdgdbffmlpaaGreat
open Go Go.Aw Go.Cox
theorem firstNeg_more (v : List Int) : ∀ n m, n ≤ m → 0 ≤ firstNeg v n → firstNeg v m = firstNeg v n := by
  intro n m h h0
  induction m with
  | zero => have : n = 0 := by omega
            subst this; rfl
  | succ m ih =>
    by_cases hn : n = m + 1
    · subst hn; rfl
    · have := ih (by omega)
      simp only [firstNeg]
      rw [if_neg (by omega), this]
theorem c_impl_firstDescent (v : List Int) (hl : v.length ≤ 1048576) : FunA B 178 [.sl false .int v] (fun rs o => rs = [.int .i64 (fstN v)] ∧ o = []) := by
  refine FunA.walk B_ok (fn := Tryz.f178) (fun vs w => Tryz.call178 vs w) Tryz.func178 rfl (by rw [Tryz.ntmps178]; simp) (fun C hC hP hT hΓ hbt hfn hpin hfin => ?_); have hX := BX; rw [← hΓ, ← hbt.1, ← hbt.2] at hX; rw [Tryz.ntmps178]; simp only [AW7, simprocAttr, hX]
  refine Run.nq ?_; refine Run.regionW hC (fun K hK => ?_); simp only [AW7, simprocAttr, hX]; (repeat (with_reducible refine And.intro ?_ ?_); exact vc0); refine hK _ ?_; clear hK K; refine Run.nq ?_
  refine Run.nq ?_; refine Run.regionW hC (fun K hK => ?_); simp only [AW7, simprocAttr, hX]; (repeat (with_reducible refine And.intro ?_ ?_); exact vc0); refine hK _ ?_; clear hK K; refine Run.nq ?_
  refine Run.loopI (X := Nat) (fun i => ⟨16, [(2, true, .v (.int .i64 0)), (5, true, .v (.sl false .int v)), (6, true, .v (.int .i64 v.length)), (7, true, .v (.int .i64 i))], []⟩) (fun i => i ≤ v.length ∧ firstNeg v i < 0) (fun i => v.length - i) 0 ⟨Nat.zero_le _, by simp [firstNeg]⟩ ?_ ?_
  · exact Le.sub (by simp only [AW7, simprocAttr]) (by simp only [AW7, simprocAttr]; try simp)
  rintro i ⟨hi, hf⟩ ih
  refine Run.nq ?_; refine Run.regionW hC (fun K hK => ?_); simp only [AW7, simprocAttr, hX]; (repeat (with_reducible refine And.intro ?_ ?_); exact vc0); refine hK _ ?_; clear hK K; refine Run.nq ?_
  refine Run.nq ?_; refine Run.condW (by simp only [AW7, simprocAttr, hX]; rfl) (by simp only [AW7, simprocAttr, hX]) ?_ ?_
  · intro h
    have h : i < v.length := by simpa using h
    refine Run.nq ?_; refine Run.regionW hC (fun K hK => ?_); simp only [AW7, simprocAttr, hX]; (repeat (with_reducible refine And.intro ?_ ?_); exact vc0); refine hK _ ?_; clear hK K; refine Run.nq ?_
    refine Run.nq ?_; refine Run.regionW hC (fun K hK => ?_); simp only [AW7, simprocAttr, hX]; (repeat (with_reducible refine And.intro ?_ ?_); exact vc0); refine hK _ ?_; clear hK K; refine Run.nq ?_
    have hs : firstNeg v (i + 1) = if v.getD i 0 < 0 then (i : Int) else -1 := by simp only [firstNeg]; rw [if_pos hf]
    refine Run.nq ?_; refine Run.condW (by simp only [AW7, simprocAttr, hX]; rfl) (by simp only [AW7, simprocAttr, hX]) ?_ ?_
    · intro hx
      have hx : v.getD i 0 < 0 := by simpa using hx
      refine Run.nq ?_; refine Run.regionW hC (fun K hK => ?_); simp only [AW7, simprocAttr, hX]; (repeat (with_reducible refine And.intro ?_ ?_); exact vc0); refine hK _ ?_; clear hK K; refine Run.nq ?_
      refine Run.retW [2] (by decide) (by rw [hfn]; rfl) (by simp only [AW7, simprocAttr, hX]; rfl) (by simp only [AW7, simprocAttr, hX]) (hfin _ _ rfl rfl ?_)
      refine ⟨?_, rfl⟩
      rw [if_pos hx] at hs
      unfold fstN
      rw [firstNeg_more v (i + 1) v.length h (by omega), hs]
    · intro hx
      have hx : ¬ v.getD i 0 < 0 := by simpa using hx
      refine Run.nq ?_; refine Run.regionW hC (fun K hK => ?_); simp (disch := omega) only [wrap_id, AW7, simprocAttr, hX]; (repeat (with_reducible refine And.intro ?_ ?_); exact vc0); refine hK _ ?_; clear hK K; refine Run.nq ?_
      refine Run.le ?_ (ih (i + 1) ⟨h, by rw [hs, if_neg hx]; decide⟩ (by omega))
      exact Le.sub (by simp only [AW7, simprocAttr]) (by simp only [AW7, simprocAttr, Option.some.injEq, Prod.mk.injEq, Sl.v.injEq, AV.int.injEq, AV.own.injEq, AV.bool.injEq]; try (repeat' apply And.intro); all_goals omega)
  · intro h
    have h : i = v.length := by simp at h; omega
    subst h
    refine Run.exit rfl ?_; refine Run.nq ?_
    refine Run.nq ?_; refine Run.regionW hC (fun K hK => ?_); simp only [AW7, simprocAttr, hX]; (repeat (with_reducible refine And.intro ?_ ?_); exact vc0); refine hK _ ?_; clear hK K; refine Run.nq ?_
    refine Run.retW [2] (by decide) (by rw [hfn]; rfl) (by simp only [AW7, simprocAttr, hX]; rfl) (by simp only [AW7, simprocAttr, hX]) (hfin _ _ rfl rfl ?_)
    refine ⟨?_, rfl⟩
    have : fstN v = -1 := by
      unfold fstN
      rcases firstNeg_spec v v.length with ⟨h1, _⟩ | ⟨i, h1, _⟩
      · exact h1
      · rw [h1] at hf; omega
    rw [this]
theorem nf_letters {c : List (List Int)} (hc : CartanP c) : ∀ (f L : Nat) {v : List Int}, Far c L v → L ≤ f → ∀ j, j < L → fstN (imageL c ((nfL c f v).drop j)) = (nfL c f v).getD j 0
  | 0, L, v, h, hf, j, hj => by omega
  | f + 1, L, v, h, hf, j, hj => by
    obtain ⟨k1, k2, k3⟩ := nfL_far hc (f + 1) L h hf
    rcases fst_of_far hc h with ⟨h1, h2⟩ | ⟨h1, h2, h3, M, h4, h5⟩
    · omega
    · have e : nfL c (f + 1) v = fstN v :: nfL c f (reflL c (fstN v) v) := by simp only [nfL]; rw [if_neg (by omega)]
      cases j with
      | zero => rw [List.drop_zero, k3, e]; rfl
      | succ j =>
        rw [e, List.drop_succ_cons]
        have := nf_letters hc f M h5 (by omega) j (by omega)
        rw [this]
        simp
theorem nf_steps {c : List (List Int)} (hc : CartanP c) {L : Nat} {v : List Int} (h : Far c L v) (hL : L ≤ 31) :
    (nfL c 31 v).length = L ∧ letters c.length (nfL c 31 v) ∧ imageL c (nfL c 31 v) = v ∧
    (∀ j, j < L → fstN (imageL c ((nfL c 31 v).drop j)) = (nfL c 31 v).getD j 0 ∧ reflL c ((nfL c 31 v).getD j 0) (imageL c ((nfL c 31 v).drop j)) = imageL c ((nfL c 31 v).drop (j + 1))) ∧
    fstN (imageL c ((nfL c 31 v).drop L)) < 0 ∧ ∀ j, Far c (L - j) (imageL c ((nfL c 31 v).drop j)) := by
  obtain ⟨k1, k2, k3⟩ := nfL_far hc 31 L h hL
  have hfar : ∀ j, Far c (L - j) (imageL c ((nfL c 31 v).drop j)) := by
    intro j
    induction j with
    | zero => rw [List.drop_zero, k3]; exact h
    | succ j ih =>
      by_cases hj : j < L
      · have hlet := nf_letters hc 31 L h hL j hj
        have hd := actL_drop c (nfL c 31 v) (ones c.length) j (by omega)
        have hg := letters_getD.1 k2 j (by omega)
        rcases fst_of_far hc ih with ⟨_, h2⟩ | ⟨_, _, _, M, h4, h5⟩
        · omega
        · rw [hlet] at h5
          have e : reflL c ((nfL c 31 v).getD j 0) (imageL c ((nfL c 31 v).drop j)) = imageL c ((nfL c 31 v).drop (j + 1)) := by
            show reflL c _ (actL c _ _) = actL c _ _
            rw [hd]
            exact refl2 hc hg (imageL_length c _)
          rw [e] at h5
          rw [show L - (j + 1) = M from by omega]
          exact h5
      · rw [List.drop_eq_nil_of_le (by omega), show L - (j + 1) = 0 from by omega]
        exact Far.ones c
  refine ⟨k1, k2, k3, fun j hj => ⟨nf_letters hc 31 L h hL j hj, ?_⟩, ?_, hfar⟩
  · have hd := actL_drop c (nfL c 31 v) (ones c.length) j (by omega)
    show reflL c _ (actL c _ _) = actL c _ _
    rw [hd]
    exact refl2 hc (letters_getD.1 k2 j (by omega)) (imageL_length c _)
  · have := hfar L
    rw [Nat.sub_self] at this
    exact (fst_zero hc this).2 rfl
theorem c_impl_normal (c : List (List Int)) (v : List Int) (L : Nat) (hc : CartanP c) (hF : Far c L v) (hL : L ≤ 31) :
    FunA B 181 [.sl false (.row false) c, .sl false .int v] (fun rs o => rs = [.own 0 0] ∧ o = [.arr .int (nfL c 31 v) 0 true]) := by
  have hn := hc.2.1
  have hvl : v.length = c.length := hF.1
  obtain ⟨s1, s2, s3, s4, s5, s6⟩ := nf_steps hc hF hL
  obtain ⟨r, hr⟩ : ∃ r, r = nfL c 31 v := ⟨_, rfl⟩
  rw [← hr] at s1 s2 s3 s4 s5 s6 ⊢
  have hbd : ∀ j, Bd 9223372036854775807 (imageL c (r.drop j)) := fun j => (image_bd hc (letters_drop s2 j) (by simp; omega)).mono (by decide)
  refine FunA.walk B_ok (fn := Tryz.f181) (fun vs w => Tryz.call181 vs w) Tryz.func181 rfl (by rw [Tryz.ntmps181]; simp) (fun C hC hP hT hΓ hbt hfn hpin hfin => ?_); have hX := BX; rw [← hΓ, ← hbt.1, ← hbt.2] at hX; rw [Tryz.ntmps181]; simp only [AW7, simprocAttr, hX]
  refine Run.nq ?_; refine Run.regionW hC (fun K hK => ?_); simp only [AW7, simprocAttr, hX]; (repeat (with_reducible refine And.intro ?_ ?_); exact vc0); refine hK _ ?_; clear hK K; refine Run.nq ?_
  refine Run.nq ?_; refine Run.regionW hC (fun K hK => ?_); simp only [AW7, simprocAttr, hX]; (repeat (with_reducible refine And.intro ?_ ?_); exact vc0); refine hK _ ?_; clear hK K; refine Run.nq ?_
  refine Run.le (Le.re (obs' := [.arr .int v 0 true]) hpin [0] [(0, true, .sl false (.row false) c), (1, true, .own 0 0), (4, true, .nils)] rfl (by simp [leOs, leO_arr, oAt]) (by refine ⟨⟨_, rfl, ?_⟩, ⟨_, rfl, ?_⟩, ⟨_, rfl, ?_⟩, trivial⟩ <;> simp [leAV, oAt, genO])) ?_
  simp only [frV_cons, frV_nil]
  refine Run.nq ?_; refine Run.regionW hC (fun K hK => ?_); simp only [AW7, simprocAttr, hX]; (repeat (with_reducible refine And.intro ?_ ?_); exact vc0); refine hK _ ?_; clear hK K; refine Run.nq ?_
  refine Run.loopI (X := Nat) (fun j => ⟨24, [(0, true, .v (.sl false (.row false) c)), (1, true, .v (.own 0 0)), (4, true, .v .nils), (5, true, .v (.own 1 j))], [.arr .int (imageL c (r.drop j)) 0 true, .arr .int (r.take j) j true]⟩) (fun j => j ≤ L) (fun j => L - j) 0 (Nat.zero_le _) ?_ ?_
  · exact Le.sub (by rw [List.drop_zero, s3]; rfl) (by simp only [AW7, simprocAttr, hX]; try simp)
  rintro j hj ih
  have hil := imageL_length c (r.drop j)
  have htl : (r.take j).length = j := by simp; omega
  refine Run.nq ?_; refine Run.regionW hC (fun K hK => ?_); simp only [AW7, simprocAttr, hX]; (repeat (with_reducible refine And.intro ?_ ?_); exact vc0)
  refine FunA.callW hP hT (c_impl_firstDescent (imageL c (r.drop j)) (by omega)) (by simp only [AW7, simprocAttr]) ?_
  rintro rs o ⟨rfl, rfl⟩
  (try simp only [AW7, simprocAttr, hX]); (repeat (with_reducible refine And.intro ?_ ?_); exact vc0)
  (repeat (with_reducible refine And.intro ?_ ?_); exact vc0); refine hK _ ?_; clear hK K; refine Run.nq ?_
  refine Run.nq ?_; refine Run.regionW hC (fun K hK => ?_); simp only [AW7, simprocAttr, hX]; (repeat (with_reducible refine And.intro ?_ ?_); exact vc0); refine hK _ ?_; clear hK K; refine Run.nq ?_
  refine Run.nq ?_; refine Run.condW (by simp only [AW7, simprocAttr, hX]; rfl) (by simp only [AW7, simprocAttr, hX]) ?_ ?_
  · intro h
    have h : fstN (imageL c (r.drop j)) < 0 := by simpa using h
    have hjL : j = L := by
      have := (fst_zero hc (s6 j)).1 h
      omega
    subst hjL
    refine Run.nq ?_; refine Run.regionW hC (fun K hK => ?_); simp only [AW7, simprocAttr, hX]; (repeat (with_reducible refine And.intro ?_ ?_); exact vc0); refine hK _ ?_; clear hK K; refine Run.nq ?_
    refine Run.le (Le.re (obs' := [.arr .int r 0 true]) hpin [1] [(4, true, .own 0 0)] rfl (by simp [leOs, leO_arr, oAt, ← s1]) (by refine ⟨⟨_, rfl, ?_⟩, trivial⟩; simp [leAV, oAt, genO])) ?_
    simp only [frV_cons, frV_nil]
    refine Run.retW [4] (by decide) (by rw [hfn]; rfl) (by simp only [AW7, simprocAttr, hX]; rfl) (by simp only [AW7, simprocAttr, hX]) (hfin _ _ rfl rfl ?_)
    exact ⟨rfl, rfl⟩
  · intro h
    have h : ¬ fstN (imageL c (r.drop j)) < 0 := by simpa using h
    have hjL : j < L := by
      refine Classical.byContradiction fun hn => h ?_
      rw [show j = L from by omega]; exact s5
    obtain ⟨q1, q2⟩ := s4 j hjL
    rw [q1]
    have hB' := hbd (j + 1)
    rw [← q2] at hB'
    refine Run.nq ?_; refine Run.regionW hC (fun K hK => ?_); simp only [AW7, simprocAttr, hX]; (repeat (with_reducible refine And.intro ?_ ?_); exact vc0); refine hK _ ?_; clear hK K; refine Run.nq ?_
    refine Run.le (Le.cut0 hpin [_] (fr' := [(0, true, .v (.sl false (.row false) c)), (1, true, .v (.own 0 0)), (4, true, .v .nils), (5, true, .v (.own 1 (j + 1))), (6, true, .v (.int .i64 (r.getD j 0)))]) (obs' := [.arr .int (imageL c (r.drop j)) 0 true, .arr .int (r.take j ++ [r.getD j 0]) (j + 1) true]) rfl (by simp only [AW7, simprocAttr]; try simp) rfl) ?_
    rw [take_snoc 0 r j (by omega)]
    refine Run.nq ?_; refine Run.regionW hC (fun K hK => ?_); simp only [AW7, simprocAttr, hX]; (repeat (with_reducible refine And.intro ?_ ?_); exact vc0)
    refine FunM.call hP hT (c_impl_reflected c (r.getD j 0) (imageL c (r.drop j)) hc hil (letters_getD.1 s2 j (by omega)) hB') 0 0 (by simp only [AW7, simprocAttr]; rfl) (by simp) rfl (by simp only [AW7, simprocAttr]; try simp) ?_
    rintro rs o' obs' ⟨rfl, h⟩
    obtain ⟨rfl, rfl⟩ := List.cons.inj h
    (try simp only [AW7, simprocAttr, hX]); (repeat (with_reducible refine And.intro ?_ ?_); exact vc0)
    (repeat (with_reducible refine And.intro ?_ ?_); exact vc0); refine hK _ ?_; clear hK K; refine Run.nq ?_
    refine Run.le ?_ (ih (j + 1) hjL (by omega))
    exact Le.sub (by rw [q2]) (by simp only [AW7, simprocAttr]; try simp)
theorem fst_pos {c : List (List Int)} (hc : CartanP c) {M : Nat} {v : List Int} (h : Far c M v) {k : Nat} (hk : k < c.length) (hpre : ∀ q, q < k → 0 < v.getD q 0) (hv : ¬ 0 < v.getD k 0) : fstN v = k := by
  have hz := h.nz hc k hk
  rcases firstNeg_spec v v.length with ⟨_, h2⟩ | ⟨i, h1, h2, h3, h4⟩
  · have := h2 k (by rw [h.1]; exact hk); omega
  · have e : fstN v = i := h1
    rw [e]
    by_cases hik : i < k
    · have := hpre i hik; omega
    · by_cases hki : k < i
      · have := h4 k hki; omega
      · omega
theorem fst_none {c : List (List Int)} (hc : CartanP c) {M : Nat} {v : List Int} (h : Far c M v) (hpre : ∀ q, q < c.length → 0 < v.getD q 0) : M = 0 := by
  rcases fst_of_far hc h with ⟨_, h2⟩ | ⟨h1, h2, h3, _⟩
  · exact h2
  · have := hpre (fstN v).toNat (by omega); omega
theorem c_spec_l8Form (c : List (List Int)) (v : List Int) (L : Nat) (hc : CartanP c) (hF : Far c L v) (hL : L ≤ 31) :
    FunA B 167 [.sl false (.row false) c, .sl false .int v] (fun rs o => rs = [.own 0 0] ∧ o = [.arr .int (nfL c 31 v) 0 true]) := by
  have hn := hc.2.1
  have hvl : v.length = c.length := hF.1
  obtain ⟨s1, s2, s3, s4, s5, s6⟩ := nf_steps hc hF hL
  obtain ⟨r, hr⟩ : ∃ r, r = nfL c 31 v := ⟨_, rfl⟩
  rw [← hr] at s1 s2 s3 s4 s5 s6 ⊢
  have hbd : ∀ j, Bd 9223372036854775807 (imageL c (r.drop j)) := fun j => (image_bd hc (letters_drop s2 j) (by simp; omega)).mono (by decide)
  refine FunA.walk B_ok (fn := Tryz.f167) (fun vs w => Tryz.call167 vs w) Tryz.func167 rfl (by rw [Tryz.ntmps167]; simp) (fun C hC hP hT hΓ hbt hfn hpin hfin => ?_); have hX := BX; rw [← hΓ, ← hbt.1, ← hbt.2] at hX; rw [Tryz.ntmps167]; simp only [AW7, simprocAttr, hX]
  refine Run.nq ?_; refine Run.regionW hC (fun K hK => ?_); simp only [AW7, simprocAttr, hX]; (repeat (with_reducible refine And.intro ?_ ?_); exact vc0); refine hK _ ?_; clear hK K; refine Run.nq ?_
  refine Run.nq ?_; refine Run.regionW hC (fun K hK => ?_); simp only [AW7, simprocAttr, hX]; (repeat (with_reducible refine And.intro ?_ ?_); exact vc0); refine hK _ ?_; clear hK K; refine Run.nq ?_
  refine Run.nq ?_; refine Run.regionW hC (fun K hK => ?_); simp only [AW7, simprocAttr, hX]; (repeat (with_reducible refine And.intro ?_ ?_); exact vc0); refine hK _ ?_; clear hK K; refine Run.nq ?_
  refine Run.keep [0, 1, 4, 5, 6] ?_; simp only [AK, Nat.reduceBEq]
  have fin : ∀ j, j = L → r.take j = r := fun j hj => by rw [hj, ← s1, List.take_length]
  refine Run.loopI (X := Nat × Bool) (fun x => ⟨40, [(0, true, .v (.sl false (.row false) c)), (1, true, .v (.sl x.2 .int (imageL c (r.drop x.1)))), (4, true, .v .nils), (5, true, .v (.own 0 x.1)), (6, true, .v (.int .i64 x.1))], [.arr .int (r.take x.1) x.1 true]⟩) (fun x => x.1 ≤ L) (fun x => 32 - x.1) (0, false) (by simp) ?_ ?_
  · exact Le.sub (by rfl) (by simp only [AW7, simprocAttr, hX]; try simp [s3])
  rintro ⟨j, fl⟩ hj ih
  simp only [] at hj ⊢
  have hil := imageL_length c (r.drop j)
  have htl : (r.take j).length = j := by simp; omega
  refine Run.nq ?_; refine Run.regionW hC (fun K hK => ?_); simp only [AW7, simprocAttr, hX]; (repeat (with_reducible refine And.intro ?_ ?_); exact vc0); refine hK _ ?_; clear hK K; refine Run.nq ?_
  refine Run.keep [0, 1, 4, 5, 6, 10] ?_; simp only [AK, Nat.reduceBEq]
  refine Run.nq ?_; refine Run.condW (by simp only [AW7, simprocAttr, hX]; rfl) (by simp only [AW7, simprocAttr, hX]) ?_ ?_
  · intro h
    refine Run.nq ?_; refine Run.regionW hC (fun K hK => ?_); simp only [AW7, simprocAttr, hX]; (repeat (with_reducible refine And.intro ?_ ?_); exact vc0); refine hK _ ?_; clear hK K; refine Run.nq ?_
    refine Run.keep [0, 1, 4, 5, 6, 7] ?_; simp only [AK, Nat.reduceBEq]
    refine Run.loopI (X := Nat) (fun k => ⟨40, [(0, true, .v (.sl false (.row false) c)), (1, true, .v (.sl fl .int (imageL c (r.drop j)))), (4, true, .v .nils), (5, true, .v (.own 0 j)), (6, true, .v (.int .i64 j)), (7, true, .v (.int .i64 k))], [.arr .int (r.take j) j true]⟩) (fun k => k ≤ c.length ∧ ∀ q, q < k → 0 < (imageL c (r.drop j)).getD q 0) (fun k => c.length - k) 0 ⟨Nat.zero_le _, by omega⟩ ?_ ?_
    · exact Le.sub (by rfl) (by simp only [AW7, simprocAttr, hX]; try simp)
    rintro k ⟨hk, hpre⟩ ihk
    refine Run.nq ?_; refine Run.regionW hC (fun K hK => ?_); simp only [AW7, simprocAttr, hX]; (repeat (with_reducible refine And.intro ?_ ?_); exact vc0); refine hK _ ?_; clear hK K; refine Run.nq ?_
    refine Run.keep [0, 1, 4, 5, 6, 7, 23] ?_; simp only [AK, Nat.reduceBEq]
    refine Run.nq ?_; refine Run.condW (by simp only [AW7, simprocAttr, hX]; rfl) (by simp only [AW7, simprocAttr, hX]) ?_ ?_
    · intro h2
      have h2 : k < c.length ∧ 0 < (imageL c (r.drop j)).getD k 0 := by
        rw [hil] at h2
        by_cases hq : k < c.length
        · have hq' : (k : Int) < c.length := by omega
          simp only [hq', decide_true, cond_true, decide_eq_true_eq] at h2
          exact ⟨hq, h2⟩
        · have hq' : ¬ (k : Int) < c.length := by omega
          simp [hq'] at h2
      refine Run.nq ?_; refine Run.regionW hC (fun K hK => ?_); simp (disch := omega) only [wrap_id, AW7, simprocAttr, hX]; (repeat (with_reducible refine And.intro ?_ ?_); exact vc0); refine hK _ ?_; clear hK K; refine Run.nq ?_
      refine Run.le ?_ (ihk (k + 1) ⟨h2.1, fun q hq => ?_⟩ (by omega))
      · exact Le.sub (by simp only [AW7, simprocAttr]) (by simp only [AW7, simprocAttr, Option.some.injEq, Prod.mk.injEq, Sl.v.injEq, AV.int.injEq, AV.own.injEq, AV.bool.injEq]; try (repeat' apply And.intro); all_goals omega)
      · rcases Nat.lt_succ_iff_lt_or_eq.1 hq with h | rfl
        · exact hpre q h
        · exact h2.2
    · intro h2
      refine Run.exit rfl ?_; refine Run.nq ?_
      refine Run.nq ?_; refine Run.regionW hC (fun K hK => ?_); simp only [AW7, simprocAttr, hX]; (repeat (with_reducible refine And.intro ?_ ?_); exact vc0); refine hK _ ?_; clear hK K; refine Run.nq ?_
      refine Run.keep [0, 1, 4, 5, 6, 7, 29] ?_; simp only [AK, Nat.reduceBEq]
      refine Run.nq ?_; refine Run.condW (by simp only [AW7, simprocAttr, hX]; rfl) (by simp only [AW7, simprocAttr, hX]) ?_ ?_
      · intro h3
        have h3 : k = c.length := by rw [hil] at h3; simp at h3; omega
        subst h3
        have hz := fst_none hc (s6 j) hpre
        refine Run.nq ?_; refine Run.regionW hC (fun K hK => ?_); simp only [AW7, simprocAttr, hX]; (repeat (with_reducible refine And.intro ?_ ?_); exact vc0); refine hK _ ?_; clear hK K; refine Run.nq ?_
        refine Run.le (Le.re (obs' := [.arr .int r 0 true]) hpin [0] [(4, true, .own 0 0)] rfl (by rw [fin j (by omega)]; simp [leOs, leO_arr, oAt]) (by refine ⟨⟨_, rfl, ?_⟩, trivial⟩; simp [leAV, oAt, genO])) ?_
        simp only [frV_cons, frV_nil]
        refine Run.retW [4] (by decide) (by rw [hfn]; rfl) (by simp only [AW7, simprocAttr, hX]; rfl) (by simp only [AW7, simprocAttr, hX]) (hfin _ _ rfl rfl ?_)
        exact ⟨rfl, rfl⟩
      · intro h3
        have h3 : k < c.length := by
          have : ¬ k = c.length := by rw [hil] at h3; intro hk; subst hk; simp at h3
          omega
        have hnp : ¬ 0 < (imageL c (r.drop j)).getD k 0 := by
          intro hp
          rw [hil] at h2
          have hq' : (k : Int) < c.length := by omega
          simp only [hq', decide_true, cond_true, decide_eq_false_iff_not] at h2
          exact h2 hp
        have hfk := fst_pos hc (s6 j) h3 hpre hnp
        have hjL : j < L := by
          refine Classical.byContradiction fun hn2 => ?_
          have : j = L := by omega
          rw [this] at hfk
          omega
        obtain ⟨q1, q2⟩ := s4 j hjL
        rw [hfk] at q1
        have hB' := hbd (j + 1)
        rw [← q2] at hB'
        have hlet := letters_getD.1 s2 j (by omega)
        rw [q1]
        refine Run.nq ?_; refine Run.regionW hC (fun K hK => ?_); simp only [AW7, simprocAttr, hX]; (repeat (with_reducible refine And.intro ?_ ?_); exact vc0); refine hK _ ?_; clear hK K; refine Run.nq ?_
        refine Run.le (Le.cut0 hpin [_] (fr' := [(0, true, .v (.sl false (.row false) c)), (1, true, .v (.sl fl .int (imageL c (r.drop j)))), (4, true, .v .nils), (5, true, .v (.own 0 (j + 1))), (6, true, .v (.int .i64 j)), (7, true, .v (.int .i64 (r.getD j 0)))]) (obs' := [.arr .int (r.take j ++ [r.getD j 0]) (j + 1) true]) rfl (by simp only [AW7, simprocAttr]; try simp) rfl) ?_
        rw [take_snoc 0 r j (by omega)]
        refine Run.nq ?_; refine Run.regionW hC (fun K hK => ?_); simp only [AW7, simprocAttr, hX]; (repeat (with_reducible refine And.intro ?_ ?_); exact vc0)
        refine FunA.callW hP hT (c_spec_l6Reflect c (r.getD j 0) (imageL c (r.drop j)) hc hil hlet hB') (by simp only [AW7, simprocAttr]) ?_
        rintro rs o ⟨rfl, rfl⟩
        (try simp only [AW7, simprocAttr, hX]); (repeat (with_reducible refine And.intro ?_ ?_); exact vc0)
        (repeat (with_reducible refine And.intro ?_ ?_); exact vc0); refine hK _ ?_; clear hK K; refine Run.nq ?_
        refine Run.nq ?_; refine Run.regionW hC (fun K hK => ?_); simp (disch := omega) only [wrap_id, AW7, simprocAttr, hX]; (repeat (with_reducible refine And.intro ?_ ?_); exact vc0); refine hK _ ?_; clear hK K; refine Run.nq ?_
        refine Run.le (Le.letgo 1 [(0, true, .sl false (.row false) c), (1, true, .sl true .int (reflL c (r.getD j 0) (imageL c (r.drop j)))), (4, true, .nils), (5, true, .own 0 (j + 1)), (6, true, .int .i64 ((j : Int) + 1))] rfl ?_) ?_
        · exact ⟨.inl rfl, .inr ⟨rfl, rfl⟩, .inl rfl, .inl rfl, .inl rfl, trivial⟩
        simp only [frV_cons, frV_nil, q2]
        refine Run.le ?_ (ih (j + 1, true) hjL (by simp only []; omega))
        exact Le.cut0 hpin [.dead] (by rfl) (by simp only [AW7, simprocAttr]; try simp) rfl
  · intro h
    have h : ¬ (j : Int) ≤ 30 := by simpa using h
    refine Run.exit rfl ?_; refine Run.nq ?_
    refine Run.nq ?_; refine Run.regionW hC (fun K hK => ?_); simp only [AW7, simprocAttr, hX]; (repeat (with_reducible refine And.intro ?_ ?_); exact vc0); refine hK _ ?_; clear hK K; refine Run.nq ?_
    refine Run.le (Le.re (obs' := [.arr .int r 0 true]) hpin [0] [(4, true, .own 0 0)] rfl (by rw [fin j (by omega)]; simp [leOs, leO_arr, oAt]) (by refine ⟨⟨_, rfl, ?_⟩, trivial⟩; simp [leAV, oAt, genO])) ?_
    simp only [frV_cons, frV_nil]
    refine Run.retW [4] (by decide) (by rw [hfn]; rfl) (by simp only [AW7, simprocAttr, hX]; rfl) (by simp only [AW7, simprocAttr, hX]) (hfin _ _ rfl rfl ?_)
    exact ⟨rfl, rfl⟩
end Go.Proofs.YtojcdgdbffmlpaaGreat
namespace Go.Proofs.YtojcdgdbffmlpaaGreat
open Go Go.Aw Go.Cox
theorem c_impl_reduced (c : List (List Int)) (w : List Int) (hc : CartanP c) (hw : letters c.length w) (hl : w.length ≤ 31) :
    FunA B 113 [.sl false (.row false) c, .sl false .int w] (fun rs o => rs = [.own 0 0] ∧ o = [.arr .int (redL c w) 0 true]) := by
  obtain ⟨L, h1, h2, h3⟩ := Far.image hc hw
  have hn := hc.2.1
  refine FunA.walk B_ok (fn := Tryz.f113) (fun vs w => Tryz.call113 vs w) Tryz.func113 rfl (by rw [Tryz.ntmps113]; simp) (fun C hC hP hT hΓ hbt hfn hpin hfin => ?_); have hX := BX; rw [← hΓ, ← hbt.1, ← hbt.2] at hX; rw [Tryz.ntmps113]; simp only [AW7, simprocAttr, hX]
  refine Run.nq ?_; refine Run.regionW hC (fun K hK => ?_); simp only [AW7, simprocAttr, hX]; (repeat (with_reducible refine And.intro ?_ ?_); exact vc0); refine hK _ ?_; clear hK K; refine Run.nq ?_
  refine Run.nq ?_; refine Run.regionW hC (fun K hK => ?_); simp only [AW7, simprocAttr, hX]; (repeat (with_reducible refine And.intro ?_ ?_); exact vc0)
  refine FunA.callW hP hT (c_impl_image c w hc hw hl) (by simp only [AW7, simprocAttr]) ?_
  rintro rs o ⟨rfl, rfl⟩
  (try simp only [AW7, simprocAttr, hX]); (repeat (with_reducible refine And.intro ?_ ?_); exact vc0)
  refine FunA.callW hP hT (c_impl_normal c (imageL c w) L hc h3 (by omega)) (by simp only [AW7, simprocAttr]) ?_
  rintro rs o ⟨rfl, rfl⟩
  (try simp only [AW7, simprocAttr, hX]); (repeat (with_reducible refine And.intro ?_ ?_); exact vc0)
  (repeat (with_reducible refine And.intro ?_ ?_); exact vc0); refine hK _ ?_; clear hK K; refine Run.nq ?_
  refine Run.le (Le.re (obs' := [.arr .int (redL c w) 0 true]) hpin [1] [(4, true, .own 0 0)] rfl (by simp [leOs, leO_arr, oAt, redL]) (by refine ⟨⟨_, rfl, ?_⟩, trivial⟩; simp [leAV, oAt, genO])) ?_
  simp only [frV_cons, frV_nil]
  refine Run.retW [4] (by decide) (by rw [hfn]; rfl) (by simp only [AW7, simprocAttr, hX]; rfl) (by simp only [AW7, simprocAttr, hX]) (hfin _ _ rfl rfl ?_)
  exact ⟨rfl, rfl⟩
theorem c_spec_l8Normal (c : List (List Int)) (w : List Int) (hc : CartanP c) (hw : letters c.length w) (hl : w.length ≤ 31) :
    FunA B 108 [.sl false (.row false) c, .sl false .int w] (fun rs o => rs = [.own 0 0] ∧ o = [.arr .int (redL c w) 0 true]) := by
  obtain ⟨L, h1, h2, h3⟩ := Far.image hc hw
  have hn := hc.2.1
  refine FunA.walk B_ok (fn := Tryz.f108) (fun vs w => Tryz.call108 vs w) Tryz.func108 rfl (by rw [Tryz.ntmps108]; simp) (fun C hC hP hT hΓ hbt hfn hpin hfin => ?_); have hX := BX; rw [← hΓ, ← hbt.1, ← hbt.2] at hX; rw [Tryz.ntmps108]; simp only [AW7, simprocAttr, hX]
  refine Run.nq ?_; refine Run.regionW hC (fun K hK => ?_); simp only [AW7, simprocAttr, hX]; (repeat (with_reducible refine And.intro ?_ ?_); exact vc0); refine hK _ ?_; clear hK K; refine Run.nq ?_
  refine Run.nq ?_; refine Run.regionW hC (fun K hK => ?_); simp only [AW7, simprocAttr, hX]; (repeat (with_reducible refine And.intro ?_ ?_); exact vc0)
  refine FunA.callW hP hT (c_spec_l8Image c w hc hw hl) (by simp only [AW7, simprocAttr]) ?_
  rintro rs o ⟨rfl, rfl⟩
  (try simp only [AW7, simprocAttr, hX]); (repeat (with_reducible refine And.intro ?_ ?_); exact vc0)
  refine FunA.callW hP hT (c_spec_l8Form c (imageL c w) L hc h3 (by omega)) (by simp only [AW7, simprocAttr]) ?_
  rintro rs o ⟨rfl, rfl⟩
  (try simp only [AW7, simprocAttr, hX]); (repeat (with_reducible refine And.intro ?_ ?_); exact vc0)
  (repeat (with_reducible refine And.intro ?_ ?_); exact vc0); refine hK _ ?_; clear hK K; refine Run.nq ?_
  refine Run.le (Le.re (obs' := [.arr .int (redL c w) 0 true]) hpin [1] [(4, true, .own 0 0)] rfl (by simp [leOs, leO_arr, oAt, redL]) (by refine ⟨⟨_, rfl, ?_⟩, trivial⟩; simp [leAV, oAt, genO])) ?_
  simp only [frV_cons, frV_nil]
  refine Run.retW [4] (by decide) (by rw [hfn]; rfl) (by simp only [AW7, simprocAttr, hX]; rfl) (by simp only [AW7, simprocAttr, hX]) (hfin _ _ rfl rfl ?_)
  exact ⟨rfl, rfl⟩
noncomputable def nfW (c : List (List Int)) (w : List Int) : List Int := if wordB c w then redL c w else []
theorem c_spec_NormalForm (c : List (List Int)) (w : List Int) (hcl : c.length ≤ 1048576) :
    FunA B 17 [.sl false (.row false) c, .sl false .int w] (fun rs o => rs = [.own 0 0, .bool (wordB c w)] ∧ o = [.arr .int (nfW c w) 0 true]) := by
  refine FunA.walk B_ok (fn := Tryz.f17) (fun vs w => Tryz.call17 vs w) Tryz.func17 rfl (by rw [Tryz.ntmps17]; simp) (fun C hC hP hT hΓ hbt hfn hpin hfin => ?_); have hX := BX; rw [← hΓ, ← hbt.1, ← hbt.2] at hX; rw [Tryz.ntmps17]; simp only [AW7, simprocAttr, hX]
  refine Run.nq ?_; refine Run.regionW hC (fun K hK => ?_); simp only [AW7, simprocAttr, hX]; (repeat (with_reducible refine And.intro ?_ ?_); exact vc0); refine hK _ ?_; clear hK K; refine Run.nq ?_
  refine Run.nq ?_; refine Run.regionW hC (fun K hK => ?_); simp only [AW7, simprocAttr, hX]; (repeat (with_reducible refine And.intro ?_ ?_); exact vc0)
  refine FunA.callW hP hT (c_spec_IsWord c w hcl) (by simp only [AW7, simprocAttr]) ?_
  rintro rs o ⟨rfl, rfl⟩
  (try simp only [AW7, simprocAttr, hX]); (repeat (with_reducible refine And.intro ?_ ?_); exact vc0)
  (repeat (with_reducible refine And.intro ?_ ?_); exact vc0); refine hK _ ?_; clear hK K; refine Run.nq ?_
  refine Run.nq ?_; refine Run.condW (by simp only [AW7, simprocAttr, hX]; rfl) (by simp only [AW7, simprocAttr, hX]) ?_ ?_
  · intro hb
    have hb : wordB c w = false := by simpa using hb
    refine Run.nq ?_; refine Run.regionW hC (fun K hK => ?_); simp only [AW7, simprocAttr, hX]; (repeat (with_reducible refine And.intro ?_ ?_); exact vc0); refine hK _ ?_; clear hK K; refine Run.nq ?_
    refine Run.retW [4, 5] (by decide) (by rw [hfn]; rfl) (by simp only [AW7, simprocAttr, hX]; rfl) (by simp only [AW7, simprocAttr, hX]) (hfin _ _ rfl rfl ?_)
    simp [nfW, hb]
  · intro hb
    have hb : wordB c w = true := by simpa using hb
    obtain ⟨h1, h2, h3⟩ := wordB_iff.1 hb
    refine Run.nq ?_; refine Run.regionW hC (fun K hK => ?_); simp only [AW7, simprocAttr, hX]; (repeat (with_reducible refine And.intro ?_ ?_); exact vc0)
    refine FunA.callW hP hT (c_spec_l8Normal c w h1 h3 (by omega)) (by simp only [AW7, simprocAttr]) ?_
    rintro rs o ⟨rfl, rfl⟩
    (try simp only [AW7, simprocAttr, hX]); (repeat (with_reducible refine And.intro ?_ ?_); exact vc0)
    (repeat (with_reducible refine And.intro ?_ ?_); exact vc0); refine hK _ ?_; clear hK K; refine Run.nq ?_
    refine Run.retW [4, 5] (by decide) (by rw [hfn]; rfl) (by simp only [AW7, simprocAttr, hX]; rfl) (by simp only [AW7, simprocAttr, hX]) (hfin _ _ rfl rfl ?_)
    simp [nfW, hb]
theorem c_spec_ConcatWords (a b : List Int) (ha : a.length ≤ 1048576) (hb : b.length ≤ 1048576) :
    FunA B 115 [.sl false .int a, .sl false .int b] (fun rs o => rs = [.own 0 0] ∧ o = [.arr .int (a ++ b) 0 true]) := by
  refine FunA.walk B_ok (fn := Tryz.f115) (fun vs w => Tryz.call115 vs w) Tryz.func115 rfl (by rw [Tryz.ntmps115]; simp) (fun C hC hP hT hΓ hbt hfn hpin hfin => ?_); have hX := BX; rw [← hΓ, ← hbt.1, ← hbt.2] at hX; rw [Tryz.ntmps115]; simp only [AW7, simprocAttr, hX]
  refine Run.nq ?_; refine Run.regionW hC (fun K hK => ?_); simp only [AW7, simprocAttr, hX]; (repeat (with_reducible refine And.intro ?_ ?_); exact vc0); refine hK _ ?_; clear hK K; refine Run.nq ?_
  refine Run.nq ?_; refine Run.regionW hC (fun K hK => ?_); simp only [AW7, simprocAttr, hX]; (repeat (with_reducible refine And.intro ?_ ?_); exact vc0); refine hK _ ?_; clear hK K; refine Run.nq ?_
  refine Run.le (Le.re (obs' := [.arr .int (a ++ b) 0 true]) hpin [0] [(4, true, .own 0 0)] rfl (by simp [leOs, leO_arr, oAt]) (by refine ⟨⟨_, rfl, ?_⟩, trivial⟩; simp [leAV, oAt, genO])) ?_
  simp only [frV_cons, frV_nil]
  refine Run.retW [4] (by decide) (by rw [hfn]; rfl) (by simp only [AW7, simprocAttr, hX]; rfl) (by simp only [AW7, simprocAttr, hX]) (hfin _ _ rfl rfl ?_)
  exact ⟨rfl, rfl⟩
theorem rev_snoc (w : List Int) (m : Nat) (h : m < w.length) : w.reverse.take m ++ [w.getD (w.length - 1 - m) 0] = w.reverse.take (m + 1) := by
  have : w.getD (w.length - 1 - m) 0 = w.reverse.getD m 0 := by
    simp only [List.getD_eq_getElem?_getD]
    rw [List.getElem?_reverse h]
  rw [this]
  exact take_snoc 0 _ m (by simpa using h)
theorem c_spec_ReverseWord (w : List Int) (hl : w.length ≤ 1048576) :
    FunA B 15 [.sl false .int w] (fun rs o => rs = [.own 0 0] ∧ o = [.arr .int w.reverse 0 true]) := by
  refine FunA.walk B_ok (fn := Tryz.f15) (fun vs w => Tryz.call15 vs w) Tryz.func15 rfl (by rw [Tryz.ntmps15]; simp) (fun C hC hP hT hΓ hbt hfn hpin hfin => ?_); have hX := BX; rw [← hΓ, ← hbt.1, ← hbt.2] at hX; rw [Tryz.ntmps15]; simp only [AW7, simprocAttr, hX]
  refine Run.nq ?_; refine Run.regionW hC (fun K hK => ?_); simp only [AW7, simprocAttr, hX]; (repeat (with_reducible refine And.intro ?_ ?_); exact vc0); refine hK _ ?_; clear hK K; refine Run.nq ?_
  refine Run.nq ?_; refine Run.regionW hC (fun K hK => ?_); simp only [AW7, simprocAttr, hX]; (repeat (with_reducible refine And.intro ?_ ?_); exact vc0); refine hK _ ?_; clear hK K; refine Run.nq ?_
  refine Run.nq ?_; refine Run.regionW hC (fun K hK => ?_); simp (disch := omega) only [wrap_id, AW7, simprocAttr, hX]; (repeat (with_reducible refine And.intro ?_ ?_); exact vc0); refine hK _ ?_; clear hK K; refine Run.nq ?_
  refine Run.loopI (X := Nat) (fun m => ⟨21, [(0, true, .v (.sl false .int w)), (2, true, .v .nils), (3, true, .v (.own 0 m)), (4, true, .v (.int .i64 ((w.length : Int) - 1 - m)))], [.arr .int (w.reverse.take m) m true]⟩) (fun m => m ≤ w.length) (fun m => w.length - m) 0 (Nat.zero_le _) ?_ ?_
  · exact Le.sub (by rfl) (by simp only [AW7, simprocAttr, hX]; try simp)
  rintro m hm ih
  have hll : (w.reverse.take m).length = m := by simp; omega
  refine Run.nq ?_; refine Run.regionW hC (fun K hK => ?_); simp only [AW7, simprocAttr, hX]; (repeat (with_reducible refine And.intro ?_ ?_); exact vc0); refine hK _ ?_; clear hK K; refine Run.nq ?_
  refine Run.nq ?_; refine Run.condW (by simp only [AW7, simprocAttr, hX]; rfl) (by simp only [AW7, simprocAttr, hX]) ?_ ?_
  · intro h
    have h : m < w.length := by simp at h; omega
    have e1 : ((w.length : Int) - 1 - m).toNat = w.length - 1 - m := by omega
    refine Run.nq ?_; refine Run.regionW hC (fun K hK => ?_); simp only [AW7, simprocAttr, hX]; (repeat (with_reducible refine And.intro ?_ ?_); exact vc0)
    simp only [e1]
    (repeat (with_reducible refine And.intro ?_ ?_); exact vc0); refine hK _ ?_; clear hK K; refine Run.nq ?_
    refine Run.nq ?_; refine Run.regionW hC (fun K hK => ?_); simp (disch := omega) only [wrap_id, AW7, simprocAttr, hX]; (repeat (with_reducible refine And.intro ?_ ?_); exact vc0); refine hK _ ?_; clear hK K; refine Run.nq ?_
    refine Run.le ?_ (ih (m + 1) (by omega) (by omega))
    refine Le.cut0 hpin [_] (by rw [← rev_snoc w m h]; rfl) ?_ rfl
    simp only [AW7, simprocAttr]; try simp; omega
  · intro h
    have h : m = w.length := by simp at h; omega
    subst h
    refine Run.exit rfl ?_; refine Run.nq ?_
    refine Run.nq ?_; refine Run.regionW hC (fun K hK => ?_); simp only [AW7, simprocAttr, hX]; (repeat (with_reducible refine And.intro ?_ ?_); exact vc0); refine hK _ ?_; clear hK K; refine Run.nq ?_
    refine Run.le (Le.re (obs' := [.arr .int w.reverse 0 true]) hpin [0] [(2, true, .own 0 0)] rfl (by rw [List.take_of_length_le (by simp)]; simp [leOs, leO_arr, oAt]) (by refine ⟨⟨_, rfl, ?_⟩, trivial⟩; simp [leAV, oAt, genO])) ?_
    simp only [frV_cons, frV_nil]
    refine Run.retW [2] (by decide) (by rw [hfn]; rfl) (by simp only [AW7, simprocAttr, hX]; rfl) (by simp only [AW7, simprocAttr, hX]) (hfin _ _ rfl rfl ?_)
    exact ⟨rfl, rfl⟩
end Go.Proofs.YtojcdgdbffmlpaaGreat
