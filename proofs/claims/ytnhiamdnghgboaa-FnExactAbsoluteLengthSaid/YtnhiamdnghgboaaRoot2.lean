/- Root vectors reflected: what the functions of both sides do. -/
import Derived.Test.YtnhiamdnghgboaaRoot
set_option linter.unusedVariables false
set_option linter.unusedSimpArgs false
namespace Go.Proofs.Ytnhiamdnghgboaa
open Go Go.Aw Go.Cox

theorem dot_append : ∀ (a b x y : List Int), a.length = x.length → dotL (a ++ b) (x ++ y) = dotL a x + dotL b y
  | [], b, [], y, _ => by simp [dotL]
  | p :: a, b, q :: x, y, h => by simp [dotL, dot_append a b x y (by simpa using h)]; omega
theorem dot_snoc (a r : List Int) (k : Nat) (ha : k < a.length) (hr : k < r.length) : dotL (a.take (k + 1)) (r.take (k + 1)) = dotL (a.take k) (r.take k) + a.getD k 0 * r.getD k 0 := by
  rw [← take_snoc 0 a k ha, ← take_snoc 0 r k hr, dot_append _ _ _ _ (by simp; omega)]
  simp [dotL]
theorem mul3 {a x M : Int} (ha : -3 ≤ a ∧ a ≤ 3) (hx : -M ≤ x ∧ x ≤ M) : -(3 * M) ≤ a * x ∧ a * x ≤ 3 * M := by
  have : a = -3 ∨ a = -2 ∨ a = -1 ∨ a = 0 ∨ a = 1 ∨ a = 2 ∨ a = 3 := by omega
  rcases this with rfl | rfl | rfl | rfl | rfl | rfl | rfl <;> omega
theorem dot_pre {a r : List Int} {M : Int} (ha : Bnd 3 a) (hr : Bnd M r) (hl : a.length = r.length) (hM : 0 ≤ M) : ∀ k, k ≤ r.length → -(3 * M * k) ≤ dotL (a.take k) (r.take k) ∧ dotL (a.take k) (r.take k) ≤ 3 * M * k
  | 0, _ => by simp [dotL]
  | k + 1, h => by
    have ih := dot_pre ha hr hl hM k (by omega)
    rw [dot_snoc a r k (by omega) (by omega)]
    have := mul3 (ha.get (k := k) (by omega)) (hr.get (k := k) (by omega))
    have e : 3 * M * ((k + 1 : Nat) : Int) = 3 * M * k + 3 * M := by push_cast; grind
    rw [e]; omega
theorem dot_le {a r : List Int} {M : Int} (ha : Bnd 3 a) (hr : Bnd M r) (hl : a.length = r.length) (h4 : r.length ≤ 4) (hM : 0 ≤ M) (k : Nat) (hk : k ≤ r.length) : -(12 * M) ≤ dotL (a.take k) (r.take k) ∧ dotL (a.take k) (r.take k) ≤ 12 * M := by
  have h1 := dot_pre ha hr hl hM k hk
  have h2 : 3 * M * (k : Int) ≤ 12 * M := by
    have : (3 * M) * (k : Int) ≤ (3 * M) * 4 := Int.mul_le_mul_of_nonneg_left (by omega) (by omega)
    omega
  omega
theorem row_bnd {c : List (List Int)} (hc : CartanP c) {i : Nat} (hi : i < c.length) : Bnd 3 (c.getD i []) ∧ (c.getD i []).length = c.length := by
  have hl := hc.2.2.1 i hi
  refine ⟨fun x hx => ?_, hl⟩
  obtain ⟨k, hk, rfl⟩ := List.getElem_of_mem hx
  have := ent_le hc i k hi (by omega)
  have e : ent c i k = (c.getD i [])[k] := by unfold ent; generalize c.getD i [] = q at hk; simp [hk]
  rw [e] at this
  omega

theorem c_impl_pairing (a r : List Int) (ha : Bnd 3 a) (hr : Bnd 100000000000000000 r) (hl : a.length = r.length) (h4 : r.length ≤ 4) : FunA B 117 [.sl false .int a, .sl false .int r] (fun rs o => rs = [.int .i64 (dotL a r)] ∧ o = []) := by
  refine FunA.walk B_ok (fn := Try.f117) (fun vs w => Try.call117 vs w) Try.func117 rfl (by rw [Try.ntmps117]; simp) (fun C hC hP hT hΓ hbt hfn hpin hfin => ?_); have hX := BX; rw [← hΓ, ← hbt] at hX; rw [Try.ntmps117]; simp only [AW5, simprocAttr, hX]
  refine Run.nq ?_; refine Run.regionW hC (fun K hK => ?_); simp only [AW5, simprocAttr, hX]; (repeat (with_reducible refine And.intro ?_ ?_); exact vc0); refine hK _ ?_; clear hK K; refine Run.nq ?_
  refine Run.nq ?_; refine Run.regionW hC (fun K hK => ?_); simp only [AW5, simprocAttr, hX]; (repeat (with_reducible refine And.intro ?_ ?_); exact vc0); refine hK _ ?_; clear hK K; refine Run.nq ?_
  refine Run.nq ?_; refine Run.regionW hC (fun K hK => ?_); simp only [AW5, simprocAttr, hX]; (repeat (with_reducible refine And.intro ?_ ?_); exact vc0); refine hK _ ?_; clear hK K; refine Run.nq ?_
  refine Run.loopI (X := Nat) (fun k => ⟨25, [(0, true, .v (.sl false .int (a))), (1, true, .v (.sl false .int (r))), (4, true, .v (.int .i64 (0))), (5, true, .v (.int .i64 ((dotL (a.take k) (r.take k))))), (8, true, .v (.sl false .int (r))), (9, true, .v (.int .i64 (r.length))), (10, true, .v (.int .i64 (k)))], []⟩) (fun k => k ≤ r.length) (fun k => r.length - k) (0) (Nat.zero_le _) ?_ ?_
  · exact Le.sub (by first | rfl | simp) (by simp only [AW5, simprocAttr, hX]; try simp <;> try (first | rfl | exact ⟨rfl, rfl⟩ | exact ⟨rfl, rfl, rfl⟩))
  rintro k hk ih
  try simp only []
  refine Run.nq ?_; refine Run.regionW hC (fun K hK => ?_); simp only [AW5, simprocAttr, hX]; (repeat (with_reducible refine And.intro ?_ ?_); exact vc0); refine hK _ ?_; clear hK K; refine Run.nq ?_
  refine Run.nq ?_; refine Run.condW (by simp only [AW5, simprocAttr, hX]; rfl) (by simp only [AW5, simprocAttr, hX]) ?_ ?_
  · intro hc
    have hc : k < r.length := by simpa using hc
    have hs := dot_snoc a r k (by omega) hc
    have h0 := dot_le ha hr hl h4 (by omega) k hk
    have h1 := dot_le ha hr hl h4 (by omega) (k + 1) (by omega)
    have h2 := mul3 (ha.get (k := k) (by omega)) (hr.get hc)
    rw [hs] at h1
    refine Run.nq ?_; refine Run.regionW hC (fun K hK => ?_); simp only [AW5, simprocAttr, hX]; (repeat (with_reducible refine And.intro ?_ ?_); exact vc0); refine hK _ ?_; clear hK K; refine Run.nq ?_
    refine Run.nq ?_; refine Run.regionW hC (fun K hK => ?_); simp (disch := omega) only [wrap_id, AW5, simprocAttr, hX]; (repeat (with_reducible refine And.intro ?_ ?_); exact vc0); refine hK _ ?_; clear hK K; refine Run.nq ?_
    rw [← hs]
    refine Run.nq ?_; refine Run.regionW hC (fun K hK => ?_); simp (disch := omega) only [wrap_id, AW5, simprocAttr, hX]; (repeat (with_reducible refine And.intro ?_ ?_); exact vc0); refine hK _ ?_; clear hK K; refine Run.nq ?_
    refine Run.le ?_ (ih (k + 1) (by omega) (by (try simp only [List.length_append, List.length_cons, List.length_nil]); omega))
    exact Le.sub (by rfl) (by simp only [AW5, simprocAttr]; try simp)
  · intro hc
    have hc : k = r.length := by simp at hc; omega
    subst hc
    rw [List.take_length, List.take_of_length_le (by omega)]
    refine Run.exit rfl ?_; refine Run.nq ?_
    refine Run.nq ?_; refine Run.regionW hC (fun K hK => ?_); simp only [AW5, simprocAttr, hX]; (repeat (with_reducible refine And.intro ?_ ?_); exact vc0); refine hK _ ?_; clear hK K; refine Run.nq ?_
    refine Run.retW [4] (by decide) (by rw [hfn]; rfl) (by simp only [AW5, simprocAttr, hX]; rfl) (by simp only [AW5, simprocAttr, hX]) (hfin _ _ rfl rfl ?_)
    exact ⟨rfl, rfl⟩

theorem mir_len (c : List (List Int)) (i : Int) (r : List Int) : (mirL c i r).length = r.length := by simp [mirL]
theorem mir_bnd {c : List (List Int)} (hc : CartanP c) {i : Int} (hi : 0 ≤ i ∧ i < c.length) {r : List Int} (hl : r.length = c.length) {M : Int} (hM : 0 ≤ M) (hr : Bnd M r) : Bnd (13 * M) (mirL c i r) := by
  intro x hx
  unfold mirL at hx
  rcases List.mem_or_eq_of_mem_set hx with h | h
  · have := hr x h; omega
  · obtain ⟨h1, h2⟩ := row_bnd hc (i := i.toNat) (by omega)
    have h3 := dot_le h1 hr (by omega) (by have := hc.2.1; omega) hM r.length (Nat.le_refl _)
    rw [List.take_length, List.take_of_length_le (by omega)] at h3
    have h4 := hr.get (k := i.toNat) (by omega)
    rw [h]; omega

theorem c_impl_mirrored (c : List (List Int)) (i : Int) (r : List Int) (hc : CartanP c) (hi : 0 ≤ i ∧ i < c.length) (hl : r.length = c.length) (hr : Bnd 100000000000000000 r) :
    FunA B 78 [.sl false (.row false) c, .int .i64 i, .sl false .int r] (fun rs o => rs = [.own 0 0] ∧ o = [.arr .int (mirL c i r) 0 true]) := by
  have hn := hc.2.1
  obtain ⟨b1, b2⟩ := row_bnd hc (i := i.toNat) (by omega)
  have h3 := dot_le b1 hr (by omega) (by omega) (by omega) r.length (Nat.le_refl _)
  rw [List.take_length, List.take_of_length_le (by omega)] at h3
  have h4 := hr.get (k := i.toNat) (by omega)
  refine FunA.walk B_ok (fn := Try.f78) (fun vs w => Try.call78 vs w) Try.func78 rfl (by rw [Try.ntmps78]; simp) (fun C hC hP hT hΓ hbt hfn hpin hfin => ?_); have hX := BX; rw [← hΓ, ← hbt] at hX; rw [Try.ntmps78]; simp only [AW5, simprocAttr, hX]
  refine Run.nq ?_; refine Run.regionW hC (fun K hK => ?_); simp only [AW5, simprocAttr, hX]; (repeat (with_reducible refine And.intro ?_ ?_); exact vc0); refine hK _ ?_; clear hK K; refine Run.nq ?_
  refine Run.nq ?_; refine Run.regionW hC (fun K hK => ?_); simp only [AW5, simprocAttr, hX]; (repeat (with_reducible refine And.intro ?_ ?_); exact vc0); refine hK _ ?_; clear hK K; refine Run.nq ?_
  refine Run.reK hpin [0, 1, 2, 6, 7] [0] (by decide) (by simp) ?_; simp only [AR, AW5, simprocAttr]
  refine Run.nq ?_; refine Run.regionD hC true [0,1,2,3,4,5,6,7,8,9,10,11,12] (by kernel_rfl) (fun K hK => ?_); simp (disch := omega) only [wrap_id, AW5, simprocAttr, hX]; (repeat (with_reducible refine And.intro ?_ ?_); exact vc0)
  refine FunA.callD hP hT (c_impl_pairing (c.getD i.toNat []) r b1 hr (by omega) (by omega)) (by simp only [AW5, simprocAttr]) ?_
  rintro rs o ⟨rfl, rfl⟩
  simp (disch := omega) only [wrap_id, AW5, simprocAttr, hX]
  (repeat (with_reducible refine And.intro ?_ ?_); exact vc0)
  (repeat (with_reducible refine And.intro ?_ ?_); exact vc0); refine hK _ ?_; clear hK K; refine Run.nq ?_
  refine Run.nq ?_; refine Run.regionW hC (fun K hK => ?_); simp only [AW5, simprocAttr, hX]; (repeat (with_reducible refine And.intro ?_ ?_); exact vc0); refine hK _ ?_; clear hK K; refine Run.nq ?_
  refine Run.reK hpin [6] [0] (by decide) (by simp) ?_; simp only [AR, AW5, simprocAttr]
  refine Run.retW [6] (by decide) (by rw [hfn]; rfl) (by simp only [AW5, simprocAttr, hX]; rfl) (by simp only [AW5, simprocAttr, hX]) (hfin _ _ rfl rfl ?_)
  exact ⟨rfl, rfl⟩

theorem c_spec_l7Reflect (c : List (List Int)) (i : Int) (r : List Int) (hc : CartanP c) (hi : 0 ≤ i ∧ i < c.length) (hl : r.length = c.length) (hr : Bnd 100000000000000000 r) :
    FunA B 74 [.sl false (.row false) c, .int .i64 i, .sl false .int r] (fun rs o => rs = [.own 0 0] ∧ o = [.arr .int (mirL c i r) 0 true]) := by
  have hn := hc.2.1
  obtain ⟨b1, b2⟩ := row_bnd hc (i := i.toNat) (by omega)
  have h3 := dot_le b1 hr (by omega) (by omega) (by omega) r.length (Nat.le_refl _)
  rw [List.take_length, List.take_of_length_le (by omega)] at h3
  have h4 := hr.get (k := i.toNat) (by omega)
  refine FunA.walk B_ok (fn := Try.f74) (fun vs w => Try.call74 vs w) Try.func74 rfl (by rw [Try.ntmps74]; simp) (fun C hC hP hT hΓ hbt hfn hpin hfin => ?_); have hX := BX; rw [← hΓ, ← hbt] at hX; rw [Try.ntmps74]; simp only [AW5, simprocAttr, hX]
  refine Run.nq ?_; refine Run.regionW hC (fun K hK => ?_); simp only [AW5, simprocAttr, hX]; (repeat (with_reducible refine And.intro ?_ ?_); exact vc0); refine hK _ ?_; clear hK K; refine Run.nq ?_
  refine Run.nq ?_; refine Run.regionW hC (fun K hK => ?_); simp only [AW5, simprocAttr, hX]; (repeat (with_reducible refine And.intro ?_ ?_); exact vc0); refine hK _ ?_; clear hK K; refine Run.nq ?_
  refine Run.nq ?_; refine Run.regionW hC (fun K hK => ?_); simp only [AW5, simprocAttr, hX]; (repeat (with_reducible refine And.intro ?_ ?_); exact vc0); refine hK _ ?_; clear hK K; refine Run.nq ?_
  refine Run.nq ?_; refine Run.regionW hC (fun K hK => ?_); simp only [AW5, simprocAttr, hX]; (repeat (with_reducible refine And.intro ?_ ?_); exact vc0); refine hK _ ?_; clear hK K; refine Run.nq ?_
  refine Run.reK hpin [0, 1, 2, 6, 7, 8, 9] [0] (by decide) (by simp) ?_; simp only [AR, AW5, simprocAttr]
  refine Run.loopI (X := Nat) (fun k => ⟨43, [(0, true, .v (.sl false (.row false) (c))), (1, true, .v (.int .i64 (i))), (2, true, .v (.sl false .int (r))), (6, true, .v (.nils)), (7, true, .v (.own 0 0)), (8, true, .v (.int .i64 ((dotL ((c.getD i.toNat []).take k) (r.take k))))), (9, true, .v (.int .i64 (k)))], [.arr .int (r) 0 true]⟩) (fun k => k ≤ r.length) (fun k => r.length - k) (0) (Nat.zero_le _) ?_ ?_
  · exact Le.sub (by first | rfl | simp) (by simp only [AW5, simprocAttr, hX]; try simp <;> try (first | rfl | exact ⟨rfl, rfl⟩ | exact ⟨rfl, rfl, rfl⟩))
  rintro k hk ih
  try simp only []
  refine Run.nq ?_; refine Run.regionW hC (fun K hK => ?_); simp only [AW5, simprocAttr, hX]; (repeat (with_reducible refine And.intro ?_ ?_); exact vc0); refine hK _ ?_; clear hK K; refine Run.nq ?_
  refine Run.nq ?_; refine Run.condW (by simp only [AW5, simprocAttr, hX]; rfl) (by simp only [AW5, simprocAttr, hX]) ?_ ?_
  · intro h
    have h : k < r.length := by simpa using h
    have hs := dot_snoc (c.getD i.toNat []) r k (by omega) h
    have h0 := dot_le b1 hr (by omega) (by omega) (by omega) k hk
    have h1 := dot_le b1 hr (by omega) (by omega) (by omega) (k + 1) (by omega)
    have h2 := mul3 (b1.get (k := k) (by omega)) (hr.get h)
    rw [hs] at h1
    refine Run.nq ?_; refine Run.regionD hC true [0,1,2,3,4,5,6,7,8,9,10,11,12,13,14] (by kernel_rfl) (fun K hK => ?_); simp (disch := omega) only [wrap_id, AW5, simprocAttr, hX]; (repeat (with_reducible refine And.intro ?_ ?_); exact vc0)
    (repeat (with_reducible refine And.intro ?_ ?_); exact vc0); refine hK _ ?_; clear hK K; refine Run.nq ?_
    rw [← hs]
    refine Run.nq ?_; refine Run.regionW hC (fun K hK => ?_); simp (disch := omega) only [wrap_id, AW5, simprocAttr, hX]; (repeat (with_reducible refine And.intro ?_ ?_); exact vc0); refine hK _ ?_; clear hK K; refine Run.nq ?_
    refine Run.le ?_ (ih (k + 1) (by omega) (by (try simp only [List.length_append, List.length_cons, List.length_nil]); omega))
    exact Le.sub (by rfl) (by simp only [AW5, simprocAttr]; try simp)
  · intro h
    have h : k = r.length := by simp at h; omega
    subst h
    rw [List.take_length, List.take_of_length_le (by omega)]
    refine Run.exit rfl ?_; refine Run.nq ?_
    refine Run.nq ?_; refine Run.regionW hC (fun K hK => ?_); simp (disch := omega) only [wrap_id, AW5, simprocAttr, hX]; (repeat (with_reducible refine And.intro ?_ ?_); exact vc0); refine hK _ ?_; clear hK K; refine Run.nq ?_
    refine Run.nq ?_; refine Run.regionW hC (fun K hK => ?_); simp only [AW5, simprocAttr, hX]; (repeat (with_reducible refine And.intro ?_ ?_); exact vc0); refine hK _ ?_; clear hK K; refine Run.nq ?_
    refine Run.reK hpin [6] [0] (by decide) (by simp) ?_; simp only [AR, AW5, simprocAttr]
    refine Run.retW [6] (by decide) (by rw [hfn]; rfl) (by simp only [AW5, simprocAttr, hX]; rfl) (by simp only [AW5, simprocAttr, hX]) (hfin _ _ rfl rfl ?_)
    exact ⟨rfl, rfl⟩

theorem c_impl_simple (n : Nat) (i : Int) (hn : n ≤ 1048576) (hi : 0 ≤ i ∧ i < n) : FunA B 59 [.int .i64 n, .int .i64 i] (fun rs o => rs = [.own 0 0] ∧ o = [.arr .int (simL n i.toNat) 0 true]) := by
  refine FunA.walk B_ok (fn := Try.f59) (fun vs w => Try.call59 vs w) Try.func59 rfl (by rw [Try.ntmps59]; simp) (fun C hC hP hT hΓ hbt hfn hpin hfin => ?_); have hX := BX; rw [← hΓ, ← hbt] at hX; rw [Try.ntmps59]; simp only [AW5, simprocAttr, hX]
  refine Run.nq ?_; refine Run.regionW hC (fun K hK => ?_); simp only [AW5, simprocAttr, hX]; (repeat (with_reducible refine And.intro ?_ ?_); exact vc0); refine hK _ ?_; clear hK K; refine Run.nq ?_
  refine Run.nq ?_; refine Run.regionW hC (fun K hK => ?_); simp only [AW5, simprocAttr, hX]; (repeat (with_reducible refine And.intro ?_ ?_); exact vc0); refine hK _ ?_; clear hK K; refine Run.nq ?_
  refine Run.nq ?_; refine Run.regionW hC (fun K hK => ?_); simp only [AW5, simprocAttr, hX]; (repeat (with_reducible refine And.intro ?_ ?_); exact vc0); refine hK _ ?_; clear hK K; refine Run.nq ?_
  refine Run.nq ?_; refine Run.regionW hC (fun K hK => ?_); simp only [AW5, simprocAttr, hX]; (repeat (with_reducible refine And.intro ?_ ?_); exact vc0); refine hK _ ?_; clear hK K; refine Run.nq ?_
  refine Run.reK hpin [4] [0] (by decide) (by simp) ?_; simp only [AR, AW5, simprocAttr]
  refine Run.retW [4] (by decide) (by rw [hfn]; rfl) (by simp only [AW5, simprocAttr, hX]; rfl) (by simp only [AW5, simprocAttr, hX]) (hfin _ _ rfl rfl ?_)
  exact ⟨rfl, rfl⟩
theorem c_spec_SimpleRoot (c : List (List Int)) (i : Int) (hc : CartanP c) (hi : 0 ≤ i ∧ i < c.length) : FunA B 53 [.sl false (.row false) c, .int .i64 i] (fun rs o => rs = [.own 0 0] ∧ o = [.arr .int (simL c.length i.toNat) 0 true]) := by
  have hb := isC_true hc
  have hn := hc.2.1
  have hin : inB i 0 ((c.length : Int) - 1) = true := inB_iff.2 (by omega)
  refine FunA.walk B_ok (fn := Try.f53) (fun vs w => Try.call53 vs w) Try.func53 rfl (by rw [Try.ntmps53]; simp) (fun C hC hP hT hΓ hbt hfn hpin hfin => ?_); have hX := BX; rw [← hΓ, ← hbt] at hX; rw [Try.ntmps53]; simp only [AW5, simprocAttr, hX]
  refine Run.nq ?_; refine Run.regionW hC (fun K hK => ?_); simp only [AW5, simprocAttr, hX]; (repeat (with_reducible refine And.intro ?_ ?_); exact vc0); refine hK _ ?_; clear hK K; refine Run.nq ?_
  refine Run.nq ?_; refine Run.regionW hC (fun K hK => ?_); simp only [AW5, simprocAttr, hX]; (repeat (with_reducible refine And.intro ?_ ?_); exact vc0)
  refine FunA.callW hP hT (c_spec_IsCartan c) (by simp only [AW5, simprocAttr]) ?_
  rintro rs o ⟨rfl, rfl⟩
  simp only [hb]
  simp (disch := omega) only [wrap_id, AW5, simprocAttr, hX]
  refine .inr ⟨rfl, ?_⟩
  refine FunA.callW hP hT (c_spec_l1In i 0 ((c.length : Int) - 1)) (by simp only [AW5, simprocAttr]) ?_
  rintro rs o ⟨rfl, rfl⟩
  simp only [hin]
  (try simp only [AW5, simprocAttr, hX]); (repeat (with_reducible refine And.intro ?_ ?_); exact vc0)
  (repeat (with_reducible refine And.intro ?_ ?_); exact vc0); refine hK _ ?_; clear hK K; refine Run.nq ?_
  refine Run.nq ?_; refine Run.condW (by simp only [AW5, simprocAttr, hX]; rfl) (by simp only [AW5, simprocAttr, hX]) ?_ ?_
  · intro h; cases h
  intro h
  refine Run.nq ?_; refine Run.regionW hC (fun K hK => ?_); simp only [AW5, simprocAttr, hX]; (repeat (with_reducible refine And.intro ?_ ?_); exact vc0); refine hK _ ?_; clear hK K; refine Run.nq ?_
  refine Run.nq ?_; refine Run.regionW hC (fun K hK => ?_); simp only [AW5, simprocAttr, hX]; (repeat (with_reducible refine And.intro ?_ ?_); exact vc0); refine hK _ ?_; clear hK K; refine Run.nq ?_
  refine Run.nq ?_; refine Run.regionW hC (fun K hK => ?_); simp only [AW5, simprocAttr, hX]; (repeat (with_reducible refine And.intro ?_ ?_); exact vc0); refine hK _ ?_; clear hK K; refine Run.nq ?_
  refine Run.reK hpin [4] [0] (by decide) (by simp) ?_; simp only [AR, AW5, simprocAttr]
  refine Run.retW [4] (by decide) (by rw [hfn]; rfl) (by simp only [AW5, simprocAttr, hX]; rfl) (by simp only [AW5, simprocAttr, hX]) (hfin _ _ rfl rfl ?_)
  exact ⟨rfl, rfl⟩
end Go.Proofs.Ytnhiamdnghgboaa
