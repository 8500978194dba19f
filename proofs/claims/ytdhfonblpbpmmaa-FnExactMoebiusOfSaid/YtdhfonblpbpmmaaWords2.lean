/- Images and normal forms: what the functions of both sides do. -/
import Derived.Test.YtdhfonblpbpmmaaWords1
set_option linter.unusedVariables false
set_option linter.unusedSimpArgs false
namespace Go.Proofs.Ytdhfonblpbpmmaa
open Go Go.Aw Go.Cox

theorem reflL_snoc (c : List (List Int)) (i : Int) (v : List Int) (m : Nat) (h : m < v.length) : (reflL c i v).take m ++ [v.getD m 0 - v.getD i.toNat 0 * ent c m i.toNat] = (reflL c i v).take (m + 1) := by
  rw [← take_snoc 0 _ m (by rw [reflL_length]; exact h), reflL_get c i v m h]

theorem c_spec_l6Reflect (c : List (List Int)) (i : Int) (v : List Int) (hc : CartanP c) (hv : v.length = c.length) (hi : 0 ≤ i ∧ i < c.length) (hB : Bd 9223372036854775807 (reflL c i v)) :
    FunA B 83 [.sl false (.row false) c, .int .i64 i, .sl false .int v] (fun rs o => rs = [.own 0 0] ∧ o = [.arr .int (reflL c i v) 0 true]) := by
  have hn := hc.2.1
  have hrow := hc.2.2.1
  have hrl := reflL_length c i v
  refine FunA.walk B_ok (fn := Try.f83) (fun vs w => Try.call83 vs w) Try.func83 rfl (by rw [Try.ntmps83]; simp) (fun C hC hP hT hΓ hbt hfn hpin hfin => ?_); have hX := BX; rw [← hΓ, ← hbt.1, ← hbt.2] at hX; rw [Try.ntmps83]; simp only [AW7, simprocAttr, hX]
  refine Run.nq ?_; refine Run.regionW hC (fun K hK => ?_); simp only [AW7, simprocAttr, hX]; (repeat (with_reducible refine And.intro ?_ ?_); exact vc0); refine hK _ ?_; clear hK K; refine Run.nq ?_
  refine Run.nq ?_; refine Run.regionW hC (fun K hK => ?_); simp only [AW7, simprocAttr, hX]; (repeat (with_reducible refine And.intro ?_ ?_); exact vc0); refine hK _ ?_; clear hK K; refine Run.nq ?_
  refine Run.nq ?_; refine Run.regionW hC (fun K hK => ?_); simp only [AW7, simprocAttr, hX]; (repeat (with_reducible refine And.intro ?_ ?_); exact vc0); refine hK _ ?_; clear hK K; refine Run.nq ?_
  refine Run.loopI (X := Nat) (fun m => ⟨37, [(0, true, .v (.sl false (.row false) c)), (1, true, .v (.int .i64 i)), (2, true, .v (.sl false .int v)), (6, true, .v .nils), (7, true, .v (.own 0 m)), (8, true, .v (.int .i64 m))], [.arr .int ((reflL c i v).take m) m true]⟩) (fun m => m ≤ v.length) (fun m => v.length - m) 0 (Nat.zero_le _) ?_ ?_
  · exact Le.sub (by rfl) (by simp only [AW7, simprocAttr, hX]; try simp)
  rintro m hm ih
  have hll : ((reflL c i v).take m).length = m := by simp; omega
  refine Run.nq ?_; refine Run.regionW hC (fun K hK => ?_); simp only [AW7, simprocAttr, hX]; (repeat (with_reducible refine And.intro ?_ ?_); exact vc0); refine hK _ ?_; clear hK K; refine Run.nq ?_
  refine Run.nq ?_; refine Run.condW (by simp only [AW7, simprocAttr, hX]; rfl) (by simp only [AW7, simprocAttr, hX]) ?_ ?_
  · intro h
    have h : m < v.length := by simpa using h
    have hrm := hrow m (by omega)
    refine Run.keep [0, 1, 2, 6, 7, 8] ?_; simp only [AK, Nat.reduceBEq]
    refine Run.nq ?_
    refine Run.regionD hC true [0,1,2,3,4,5,6,7,8,9,10,11,12,13,14,15,16,17,18,19,20] (by kernel_rfl) (fun K hK => ?_)
    simp only [AW7, simprocAttr, hX]
    (repeat (with_reducible refine And.intro ?_ ?_); exact vc0)
    (repeat (with_reducible refine And.intro ?_ ?_); exact vc0); refine hK _ ?_; clear hK K; refine Run.nq ?_
    have e1 : IntKind.i64.wrap (v.getD m 0 - IntKind.i64.wrap (v.getD i.toNat 0 * ent c m i.toNat)) = v.getD m 0 - v.getD i.toNat 0 * ent c m i.toNat := by
      rw [wrap_sub_wrap]
      have := hB m
      rw [reflL_get c i v m h] at this
      exact wrap_id (by omega)
    simp only [e1]
    refine Run.nq ?_; refine Run.regionW hC (fun K hK => ?_); simp (disch := omega) only [wrap_id, AW7, simprocAttr, hX]; (repeat (with_reducible refine And.intro ?_ ?_); exact vc0); refine hK _ ?_; clear hK K; refine Run.nq ?_
    refine Run.le ?_ (ih (m + 1) h (by omega))
    refine Le.cut0 hpin [_] (by rw [← reflL_snoc c i v m h]; rfl) ?_ rfl
    simp only [AW7, simprocAttr]; try simp
  · intro h
    have h : m = v.length := by simp at h; omega
    subst h
    refine Run.exit rfl ?_; refine Run.nq ?_
    refine Run.nq ?_; refine Run.regionW hC (fun K hK => ?_); simp only [AW7, simprocAttr, hX]; (repeat (with_reducible refine And.intro ?_ ?_); exact vc0); refine hK _ ?_; clear hK K; refine Run.nq ?_
    refine Run.le (Le.re (obs' := [.arr .int (reflL c i v) 0 true]) hpin [0] [(6, true, .own 0 0)] rfl (by simp [leOs, leO_arr, oAt, ← hrl]) (by refine ⟨⟨_, rfl, ?_⟩, trivial⟩; simp [leAV, oAt, genO])) ?_
    simp only [frV_cons, frV_nil]
    refine Run.retW [6] (by decide) (by rw [hfn]; rfl) (by simp only [AW7, simprocAttr, hX]; rfl) (by simp only [AW7, simprocAttr, hX]) (hfin _ _ rfl rfl ?_)
    exact ⟨rfl, rfl⟩

/-- The last letters act, as many as have been read. -/
theorem actL_drop (c : List (List Int)) (w v : List Int) (j : Nat) (h : j < w.length) : actL c (w.drop j) v = reflL c (w.getD j 0) (actL c (w.drop (j + 1)) v) := by
  rw [List.drop_eq_getElem_cons h, show w.getD j 0 = w[j] from by simp [h]]
  rfl

theorem c_impl_acted (c : List (List Int)) (w v : List Int) (hc : CartanP c) (hw : letters c.length w) (hv : v.length = c.length) (hB : ∀ j, Bd 9223372036854775807 (actL c (w.drop j) v)) (hl : w.length ≤ 1048576) :
    FunA B 89 [.sl false (.row false) c, .sl false .int w, .sl false .int v] (fun rs o => rs = [.own 0 0] ∧ o = [.arr .int (actL c w v) 0 true]) := by
  have hn := hc.2.1
  refine FunA.walk B_ok (fn := Try.f89) (fun vs w => Try.call89 vs w) Try.func89 rfl (by rw [Try.ntmps89]; simp) (fun C hC hP hT hΓ hbt hfn hpin hfin => ?_); have hX := BX; rw [← hΓ, ← hbt.1, ← hbt.2] at hX; rw [Try.ntmps89]; simp only [AW7, simprocAttr, hX]
  refine Run.nq ?_; refine Run.regionW hC (fun K hK => ?_); simp only [AW7, simprocAttr, hX]; (repeat (with_reducible refine And.intro ?_ ?_); exact vc0); refine hK _ ?_; clear hK K; refine Run.nq ?_
  refine Run.nq ?_; refine Run.regionW hC (fun K hK => ?_); simp only [AW7, simprocAttr, hX]; (repeat (with_reducible refine And.intro ?_ ?_); exact vc0); refine hK _ ?_; clear hK K; refine Run.nq ?_
  refine Run.le (Le.re (obs' := [.arr .int v 0 true]) hpin [0] [(0, true, .sl false (.row false) c), (1, true, .sl false .int w), (6, true, .nils), (7, true, .own 0 0)] rfl (by simp [leOs, leO_arr, oAt]) (by refine ⟨⟨_, rfl, ?_⟩, ⟨_, rfl, ?_⟩, ⟨_, rfl, ?_⟩, ⟨_, rfl, ?_⟩, trivial⟩ <;> simp [leAV, oAt, genO])) ?_
  simp only [frV_cons, frV_nil]
  refine Run.nq ?_; refine Run.regionW hC (fun K hK => ?_); simp (disch := omega) only [wrap_id, AW7, simprocAttr, hX]; (repeat (with_reducible refine And.intro ?_ ?_); exact vc0); refine hK _ ?_; clear hK K; refine Run.nq ?_
  refine Run.loopI (X := Nat) (fun m => ⟨27, [(0, true, .v (.sl false (.row false) c)), (1, true, .v (.sl false .int w)), (6, true, .v .nils), (7, true, .v (.own 0 0)), (8, true, .v (.int .i64 ((w.length : Int) - 1 - m)))], [.arr .int (actL c (w.drop (w.length - m)) v) 0 true]⟩) (fun m => m ≤ w.length) (fun m => w.length - m) 0 (Nat.zero_le _) ?_ ?_
  · exact Le.sub (by simp [actL]) (by simp only [AW7, simprocAttr, hX]; try simp)
  rintro m hm ih
  refine Run.nq ?_; refine Run.regionW hC (fun K hK => ?_); simp only [AW7, simprocAttr, hX]; (repeat (with_reducible refine And.intro ?_ ?_); exact vc0); refine hK _ ?_; clear hK K; refine Run.nq ?_
  refine Run.nq ?_; refine Run.condW (by simp only [AW7, simprocAttr, hX]; rfl) (by simp only [AW7, simprocAttr, hX]) ?_ ?_
  · intro h
    have h : m < w.length := by simp at h; omega
    have e1 : ((w.length : Int) - 1 - m).toNat = w.length - (m + 1) := by omega
    have e2 : w.length - (m + 1) + 1 = w.length - m := by omega
    have hd := actL_drop c w v (w.length - (m + 1)) (by omega)
    rw [e2] at hd
    have hlet := letters_getD.1 hw (w.length - (m + 1)) (by omega)
    have hB' := hB (w.length - (m + 1))
    rw [hd] at hB'
    refine Run.nq ?_; refine Run.regionW hC (fun K hK => ?_); simp only [AW7, simprocAttr, hX]; (repeat (with_reducible refine And.intro ?_ ?_); exact vc0)
    simp only [e1]
    refine FunM.call hP hT (c_impl_reflected c (w.getD (w.length - (m + 1)) 0) (actL c (w.drop (w.length - m)) v) hc (by rw [actL_length, hv]) hlet hB') 0 0 (by simp only [AW7, simprocAttr]; rfl) (by simp) rfl (by simp only [AW7, simprocAttr]; try simp) ?_
    rintro rs o' obs' ⟨rfl, h⟩
    obtain ⟨rfl, rfl⟩ := List.cons.inj h
    (try simp only [AW7, simprocAttr, hX]); (repeat (with_reducible refine And.intro ?_ ?_); exact vc0)
    (repeat (with_reducible refine And.intro ?_ ?_); exact vc0); refine hK _ ?_; clear hK K; refine Run.nq ?_
    refine Run.nq ?_; refine Run.regionW hC (fun K hK => ?_); simp (disch := omega) only [wrap_id, AW7, simprocAttr, hX]; (repeat (with_reducible refine And.intro ?_ ?_); exact vc0); refine hK _ ?_; clear hK K; refine Run.nq ?_
    refine Run.le ?_ (ih (m + 1) (by omega) (by omega))
    refine Le.sub (by rw [hd]) ?_
    simp only [AW7, simprocAttr]; try simp; omega
  · intro h
    have h : m = w.length := by simp at h; omega
    subst h
    rw [show w.length - w.length = 0 from by omega, List.drop_zero]
    refine Run.exit rfl ?_; refine Run.nq ?_
    refine Run.nq ?_; refine Run.regionW hC (fun K hK => ?_); simp only [AW7, simprocAttr, hX]; (repeat (with_reducible refine And.intro ?_ ?_); exact vc0); refine hK _ ?_; clear hK K; refine Run.nq ?_
    refine Run.keep [6] ?_; simp only [AK, Nat.reduceBEq]
    refine Run.retW [6] (by decide) (by rw [hfn]; rfl) (by simp only [AW7, simprocAttr, hX]; rfl) (by simp only [AW7, simprocAttr, hX]) (hfin _ _ rfl rfl ?_)
    exact ⟨rfl, rfl⟩

theorem image_bd {c : List (List Int)} (hc : CartanP c) {w : List Int} (hw : letters c.length w) (hl : w.length ≤ 31) : Bd 4611686018427387904 (imageL c w) := by
  refine (Bd.image hc w hw).mono ?_
  have h : ((4 : Int) ^ w.length) ≤ 4 ^ 31 := pow4_le hl
  have e : ((4 : Int) ^ 31) = 4611686018427387904 := by decide
  rw [e] at h
  exact h
theorem letters_drop {n : Nat} {w : List Int} (h : letters n w) (j : Nat) : letters n (w.drop j) := fun i hi => h i (List.mem_of_mem_drop hi)
theorem letters_take {n : Nat} {w : List Int} (h : letters n w) (j : Nat) : letters n (w.take j) := fun i hi => h i (List.mem_of_mem_take hi)

theorem c_impl_image (c : List (List Int)) (w : List Int) (hc : CartanP c) (hw : letters c.length w) (hl : w.length ≤ 31) :
    FunA B 71 [.sl false (.row false) c, .sl false .int w] (fun rs o => rs = [.own 0 0] ∧ o = [.arr .int (imageL c w) 0 true]) := by
  have hn := hc.2.1
  refine FunA.walk B_ok (fn := Try.f71) (fun vs w => Try.call71 vs w) Try.func71 rfl (by rw [Try.ntmps71]; simp) (fun C hC hP hT hΓ hbt hfn hpin hfin => ?_); have hX := BX; rw [← hΓ, ← hbt.1, ← hbt.2] at hX; rw [Try.ntmps71]; simp only [AW7, simprocAttr, hX]
  refine Run.nq ?_; refine Run.regionW hC (fun K hK => ?_); simp only [AW7, simprocAttr, hX]; (repeat (with_reducible refine And.intro ?_ ?_); exact vc0); refine hK _ ?_; clear hK K; refine Run.nq ?_
  refine Run.nq ?_; refine Run.regionW hC (fun K hK => ?_); simp only [AW7, simprocAttr, hX]; (repeat (with_reducible refine And.intro ?_ ?_); exact vc0)
  refine FunA.callW hP hT (c_impl_ones c.length (by omega)) (by simp only [AW7, simprocAttr]) ?_
  rintro rs o ⟨rfl, rfl⟩
  (try simp only [AW7, simprocAttr, hX]); (repeat (with_reducible refine And.intro ?_ ?_); exact vc0)
  refine FunA.callW hP hT (c_impl_acted c w (ones c.length) hc hw (ones_length _) (fun j => (image_bd hc (letters_drop hw j) (by simp; omega)).mono (by decide)) (by omega)) (by simp only [AW7, simprocAttr]) ?_
  rintro rs o ⟨rfl, rfl⟩
  (try simp only [AW7, simprocAttr, hX]); (repeat (with_reducible refine And.intro ?_ ?_); exact vc0)
  (repeat (with_reducible refine And.intro ?_ ?_); exact vc0); refine hK _ ?_; clear hK K; refine Run.nq ?_
  refine Run.le (Le.re (obs' := [.arr .int (imageL c w) 0 true]) hpin [1] [(4, true, .own 0 0)] rfl (by simp [leOs, leO_arr, oAt, imageL]) (by refine ⟨⟨_, rfl, ?_⟩, trivial⟩; simp [leAV, oAt, genO])) ?_
  simp only [frV_cons, frV_nil]
  refine Run.retW [4] (by decide) (by rw [hfn]; rfl) (by simp only [AW7, simprocAttr, hX]; rfl) (by simp only [AW7, simprocAttr, hX]) (hfin _ _ rfl rfl ?_)
  exact ⟨rfl, rfl⟩

theorem c_spec_l8Image (c : List (List Int)) (w : List Int) (hc : CartanP c) (hw : letters c.length w) (hl : w.length ≤ 31) :
    FunA B 67 [.sl false (.row false) c, .sl false .int w] (fun rs o => rs = [.own 0 0] ∧ o = [.arr .int (imageL c w) 0 true]) := by
  have hn := hc.2.1
  refine FunA.walk B_ok (fn := Try.f67) (fun vs w => Try.call67 vs w) Try.func67 rfl (by rw [Try.ntmps67]; simp) (fun C hC hP hT hΓ hbt hfn hpin hfin => ?_); have hX := BX; rw [← hΓ, ← hbt.1, ← hbt.2] at hX; rw [Try.ntmps67]; simp only [AW7, simprocAttr, hX]
  refine Run.nq ?_; refine Run.regionW hC (fun K hK => ?_); simp only [AW7, simprocAttr, hX]; (repeat (with_reducible refine And.intro ?_ ?_); exact vc0); refine hK _ ?_; clear hK K; refine Run.nq ?_
  refine Run.nq ?_; refine Run.regionW hC (fun K hK => ?_); simp only [AW7, simprocAttr, hX]; (repeat (with_reducible refine And.intro ?_ ?_); exact vc0)
  refine FunA.callW hP hT (c_spec_RhoOf c hc) (by simp only [AW7, simprocAttr]) ?_
  rintro rs o ⟨rfl, rfl⟩
  (try simp only [AW7, simprocAttr, hX]); (repeat (with_reducible refine And.intro ?_ ?_); exact vc0)
  (repeat (with_reducible refine And.intro ?_ ?_); exact vc0); refine hK _ ?_; clear hK K; refine Run.nq ?_
  refine Run.nq ?_; refine Run.regionW hC (fun K hK => ?_); simp (disch := omega) only [wrap_id, AW7, simprocAttr, hX]; (repeat (with_reducible refine And.intro ?_ ?_); exact vc0); refine hK _ ?_; clear hK K; refine Run.nq ?_
  refine Run.loopI (X := Nat) (fun m => ⟨24, [(0, true, .v (.sl false (.row false) c)), (1, true, .v (.sl false .int w)), (4, true, .v .nils), (5, true, .v (.own 0 0)), (6, true, .v (.int .i64 ((w.length : Int) - 1 - m)))], [.arr .int (imageL c (w.drop (w.length - m))) 0 true]⟩) (fun m => m ≤ w.length) (fun m => w.length - m) 0 (Nat.zero_le _) ?_ ?_
  · exact Le.sub (by simp [imageL, actL]) (by simp only [AW7, simprocAttr, hX]; try simp)
  rintro m hm ih
  refine Run.nq ?_; refine Run.regionW hC (fun K hK => ?_); simp only [AW7, simprocAttr, hX]; (repeat (with_reducible refine And.intro ?_ ?_); exact vc0); refine hK _ ?_; clear hK K; refine Run.nq ?_
  refine Run.nq ?_; refine Run.condW (by simp only [AW7, simprocAttr, hX]; rfl) (by simp only [AW7, simprocAttr, hX]) ?_ ?_
  · intro h
    have h : m < w.length := by simp at h; omega
    have e1 : ((w.length : Int) - 1 - m).toNat = w.length - (m + 1) := by omega
    have e2 : w.length - (m + 1) + 1 = w.length - m := by omega
    have hd := actL_drop c w (ones c.length) (w.length - (m + 1)) (by omega)
    rw [e2] at hd
    have hlet := letters_getD.1 hw (w.length - (m + 1)) (by omega)
    have hB' : Bd 9223372036854775807 (imageL c (w.drop (w.length - (m + 1)))) := (image_bd hc (letters_drop hw _) (by simp; omega)).mono (by decide)
    have hd' : imageL c (w.drop (w.length - (m + 1))) = reflL c (w.getD (w.length - (m + 1)) 0) (imageL c (w.drop (w.length - m))) := hd
    rw [hd'] at hB'
    refine Run.nq ?_; refine Run.regionW hC (fun K hK => ?_); simp only [AW7, simprocAttr, hX]; (repeat (with_reducible refine And.intro ?_ ?_); exact vc0)
    simp only [e1]
    refine FunA.callW hP hT (c_spec_l6Reflect c (w.getD (w.length - (m + 1)) 0) (imageL c (w.drop (w.length - m))) hc (imageL_length ..) hlet hB') (by simp only [AW7, simprocAttr]) ?_
    rintro rs o ⟨rfl, rfl⟩
    (try simp only [AW7, simprocAttr, hX]); (repeat (with_reducible refine And.intro ?_ ?_); exact vc0)
    (repeat (with_reducible refine And.intro ?_ ?_); exact vc0); refine hK _ ?_; clear hK K; refine Run.nq ?_
    refine Run.nq ?_; refine Run.regionW hC (fun K hK => ?_); simp (disch := omega) only [wrap_id, AW7, simprocAttr, hX]; (repeat (with_reducible refine And.intro ?_ ?_); exact vc0); refine hK _ ?_; clear hK K; refine Run.nq ?_
    refine Run.le ?_ (ih (m + 1) (by omega) (by omega))
    refine Le.re (obs' := [.arr .int (imageL c (w.drop (w.length - (m + 1)))) 0 true]) hpin [1] [(0, true, .sl false (.row false) c), (1, true, .sl false .int w), (4, true, .nils), (5, true, .own 0 0), (6, true, .int .i64 ((w.length : Int) - 1 - ((m + 1 : Nat) : Int)))] rfl (by simp [leOs, leO_arr, oAt, hd']) ?_
    refine ⟨⟨_, rfl, ?_⟩, ⟨_, rfl, ?_⟩, ⟨_, rfl, ?_⟩, ⟨_, rfl, ?_⟩, ⟨_, rfl, ?_⟩, trivial⟩ <;> simp [leAV, oAt, genO]
    omega
  · intro h
    have h : m = w.length := by simp at h; omega
    subst h
    rw [show w.length - w.length = 0 from by omega, List.drop_zero]
    refine Run.exit rfl ?_; refine Run.nq ?_
    refine Run.nq ?_; refine Run.regionW hC (fun K hK => ?_); simp only [AW7, simprocAttr, hX]; (repeat (with_reducible refine And.intro ?_ ?_); exact vc0); refine hK _ ?_; clear hK K; refine Run.nq ?_
    refine Run.keep [4] ?_; simp only [AK, Nat.reduceBEq]
    refine Run.retW [4] (by decide) (by rw [hfn]; rfl) (by simp only [AW7, simprocAttr, hX]; rfl) (by simp only [AW7, simprocAttr, hX]) (hfin _ _ rfl rfl ?_)
    exact ⟨rfl, rfl⟩
end Go.Proofs.Ytdhfonblpbpmmaa
