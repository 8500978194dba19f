/- Matrices of sets of points, determinants: what the program's functions do. -/
import Derived.Test.YtdhfonblpbpmmaaDet
set_option linter.unusedVariables false
set_option linter.unusedSimpArgs false
namespace Go.Proofs.Ytdhfonblpbpmmaa
open Go Go.Aw Go.Cox

def rowP (c : List (List Int)) (s : List Int) (i : Int) : List Int := s.map fun j => ent c i.toNat j.toNat
theorem pick_eq (c : List (List Int)) (s : List Int) : pick c s = s.map (rowP c s) := rfl
theorem map_snoc {α β : Type} (f : α → β) (s : List α) (d : α) (k : Nat) (h : k < s.length) : (s.take k).map f ++ [f (s.getD k d)] = (s.take (k + 1)).map f := by
  rw [← take_snoc d s k h]; simp
theorem letters_mem {n : Nat} {s : List Int} (h : letters n s) {k : Nat} (hk : k < s.length) : 0 ≤ s.getD k 0 ∧ s.getD k 0 < n := h _ (getD_mem hk)

theorem c_impl_picked (c : List (List Int)) (s : List Int) (hcl : c.length ≤ 4) (hc : ∀ i, i < c.length → (c.getD i []).length = c.length) (hs : letters c.length s) (hl : s.length ≤ 1048576) :
    FunA B 106 [.sl false (.row false) c, .sl false .int s] (fun rs o => rs = [.own 0 0] ∧ ∃ ys, ys.map (·.2) = pick c s ∧ o = [.arr .lrow ys 0 true]) := by
  refine FunA.walk B_ok (fn := Try.f106) (fun vs w => Try.call106 vs w) Try.func106 rfl (by rw [Try.ntmps106]; simp) (fun C hC hP hT hΓ hbt hfn hpin hfin => ?_); have hX := BX; rw [← hΓ, ← hbt.1, ← hbt.2] at hX; rw [Try.ntmps106]; simp only [AW6, simprocAttr, hX]
  refine Run.nq ?_; refine Run.regionW hC (fun K hK => ?_); simp only [AW6, simprocAttr, hX]; (repeat (with_reducible refine And.intro ?_ ?_); exact vc0); refine hK _ ?_; clear hK K; refine Run.nq ?_
  refine Run.nq ?_; refine Run.regionW hC (fun K hK => ?_); simp only [AW6, simprocAttr, hX]; (repeat (with_reducible refine And.intro ?_ ?_); exact vc0); refine hK _ ?_; clear hK K; refine Run.nq ?_
  refine Run.nq ?_; refine Run.regionW hC (fun K hK => ?_); simp only [AW6, simprocAttr, hX]; (repeat (with_reducible refine And.intro ?_ ?_); exact vc0); refine hK _ ?_; clear hK K; refine Run.nq ?_
  refine Run.loopI (X := Nat × List (Nat × List Int)) (fun m => ⟨42, [(0, true, .v (.sl false (.row false) (c))), (1, true, .v (.sl false .int (s))), (4, true, .v (.nils)), (5, true, .v (.own 0 0)), (12, true, .v (.sl false .int (s))), (13, true, .v (.int .i64 (s.length))), (14, true, .v (.int .i64 (m.1)))], [.arr .lrow (m.2) 0 true]⟩) (fun m => m.1 ≤ s.length ∧ m.2.map (·.2) = (s.take m.1).map (rowP c s)) (fun m => s.length - m.1) ((0, [])) (⟨Nat.zero_le _, rfl⟩) ?_ ?_
  · exact Le.sub (by first | rfl | simp) (by simp only [AW6, simprocAttr, hX]; try simp <;> try (first | rfl | exact ⟨rfl, rfl⟩ | exact ⟨rfl, rfl, rfl⟩))
  rintro ⟨m, ys⟩ ⟨hm, hy⟩ ih
  try simp only []
  simp only [] at hm hy
  have hyl : ys.length = m := by have := congrArg List.length hy; simpa [hm] using this
  refine Run.nq ?_; refine Run.regionW hC (fun K hK => ?_); simp only [AW6, simprocAttr, hX]; (repeat (with_reducible refine And.intro ?_ ?_); exact vc0); refine hK _ ?_; clear hK K; refine Run.nq ?_
  refine Run.nq ?_; refine Run.condW (by simp only [AW6, simprocAttr, hX]; rfl) (by simp only [AW6, simprocAttr, hX]) ?_ ?_
  · intro h
    have h : m < s.length := by simpa using h
    obtain ⟨a1, a2⟩ := letters_mem hs h
    have hr := hc (s.getD m 0).toNat (by omega)
    refine Run.nq ?_; refine Run.regionW hC (fun K hK => ?_); simp only [AW6, simprocAttr, hX]; (repeat (with_reducible refine And.intro ?_ ?_); exact vc0); refine hK _ ?_; clear hK K; refine Run.nq ?_
    refine Run.nq ?_; refine Run.regionW hC (fun K hK => ?_); simp only [AW6, simprocAttr, hX]; (repeat (with_reducible refine And.intro ?_ ?_); exact vc0); refine hK _ ?_; clear hK K; refine Run.nq ?_
    refine Run.nq ?_; refine Run.regionW hC (fun K hK => ?_); simp only [AW6, simprocAttr, hX]; (repeat (with_reducible refine And.intro ?_ ?_); exact vc0); refine hK _ ?_; clear hK K; refine Run.nq ?_
    refine Run.reK hpin [0, 1, 4, 5, 7, 8, 12, 13, 14, 19, 20, 21] [0, 1] (by decide) (by simp) ?_; simp only [AR, AW6, simprocAttr]
    refine Run.loopI (X := Nat) (fun k => ⟨42, [(0, true, .v (.sl false (.row false) (c))), (1, true, .v (.sl false .int (s))), (4, true, .v (.nils)), (5, true, .v (.own 0 0)), (7, true, .v (.int .i64 ((s.getD m 0)))), (8, true, .v (.own 1 0)), (12, true, .v (.sl false .int (s))), (13, true, .v (.int .i64 (s.length))), (14, true, .v (.int .i64 (m))), (19, true, .v (.sl false .int (s))), (20, true, .v (.int .i64 (s.length))), (21, true, .v (.int .i64 (k)))], [.arr .lrow (ys) 0 true, .arr .int (((s.take k).map fun j => ent c (s.getD m 0).toNat j.toNat)) 0 true]⟩) (fun k => k ≤ s.length) (fun k => s.length - k) (0) (Nat.zero_le _) ?_ ?_
    · exact Le.sub (by first | rfl | simp) (by simp only [AW6, simprocAttr, hX]; try simp <;> try (first | rfl | exact ⟨rfl, rfl⟩ | exact ⟨rfl, rfl, rfl⟩))
    rintro k hk ih2
    try simp only []
    refine Run.nq ?_; refine Run.regionW hC (fun K hK => ?_); simp only [AW6, simprocAttr, hX]; (repeat (with_reducible refine And.intro ?_ ?_); exact vc0); refine hK _ ?_; clear hK K; refine Run.nq ?_
    refine Run.nq ?_; refine Run.condW (by simp only [AW6, simprocAttr, hX]; rfl) (by simp only [AW6, simprocAttr, hX]) ?_ ?_
    · intro h2
      have h2 : k < s.length := by simpa using h2
      obtain ⟨b1, b2⟩ := letters_mem hs h2
      have hsn := map_snoc (fun j => ent c (s.getD m 0).toNat j.toNat) s 0 k h2
      refine Run.nq ?_; refine Run.regionW hC (fun K hK => ?_); simp only [AW6, simprocAttr, hX]; (repeat (with_reducible refine And.intro ?_ ?_); exact vc0); refine hK _ ?_; clear hK K; refine Run.nq ?_
      refine Run.nq ?_; refine Run.regionW hC (fun K hK => ?_); simp only [AW6, simprocAttr, hX]; (repeat (with_reducible refine And.intro ?_ ?_); exact vc0); refine hK _ ?_; clear hK K; refine Run.nq ?_
      refine Run.nq ?_; refine Run.regionW hC (fun K hK => ?_); simp (disch := omega) only [wrap_id, AW6, simprocAttr, hX]; (repeat (with_reducible refine And.intro ?_ ?_); exact vc0); refine hK _ ?_; clear hK K; refine Run.nq ?_
      refine Run.reK hpin [0, 1, 4, 5, 7, 8, 12, 13, 14, 19, 20, 21] [0, 1] (by decide) (by simp) ?_; simp only [AR, AW6, simprocAttr]
      refine Run.le ?_ (ih2 (k + 1) (by omega) (by omega))
      exact Le.sub (by rw [← hsn]) (by simp only [AW6, simprocAttr]; try simp)
    · intro h2
      have h2 : k = s.length := by simp at h2; omega
      subst h2
      rw [List.take_length]
      refine Run.exit rfl ?_; refine Run.nq ?_
      refine Run.nq ?_; refine Run.regionW hC (fun K hK => ?_); simp only [AW6, simprocAttr, hX]; (repeat (with_reducible refine And.intro ?_ ?_); exact vc0)
      intro l hl
      (try simp only [AW6, simprocAttr, hX]); (repeat (with_reducible refine And.intro ?_ ?_); exact vc0)
      (repeat (with_reducible refine And.intro ?_ ?_); exact vc0); refine hK _ ?_; clear hK K; refine Run.nq ?_
      refine Run.nq ?_; refine Run.regionW hC (fun K hK => ?_); simp (disch := omega) only [wrap_id, AW6, simprocAttr, hX]; (repeat (with_reducible refine And.intro ?_ ?_); exact vc0); refine hK _ ?_; clear hK K; refine Run.nq ?_
      refine Run.reK hpin [0, 1, 4, 5, 12, 13, 14] [0] (by decide) (by simp) ?_; simp only [AR, AW6, simprocAttr]
      refine Run.le ?_ (ih (m + 1, ys ++ [(l, rowP c s (s.getD m 0))]) ⟨h, by simp only [List.map_append, hy, List.map_cons, List.map_nil]; exact map_snoc (rowP c s) s 0 m h⟩ (by simp only []; omega))
      exact Le.sub (by rfl) (by simp only [AW6, simprocAttr]; try simp)
  · intro h
    have h : m = s.length := by simp at h; omega
    subst h
    rw [List.take_length] at hy
    refine Run.exit rfl ?_; refine Run.nq ?_
    refine Run.nq ?_; refine Run.regionW hC (fun K hK => ?_); simp only [AW6, simprocAttr, hX]; (repeat (with_reducible refine And.intro ?_ ?_); exact vc0); refine hK _ ?_; clear hK K; refine Run.nq ?_
    refine Run.retW [4] (by decide) (by rw [hfn]; rfl) (by simp only [AW6, simprocAttr, hX]; rfl) (by simp only [AW6, simprocAttr, hX]) (hfin _ _ rfl rfl ?_)
    exact ⟨rfl, ys, hy, rfl⟩

def bnd : Nat → Int
  | 0 => 1
  | n + 1 => 3 * (n + 1) * bnd n
theorem bnd_pos : ∀ n, 0 ≤ bnd n
  | 0 => by decide
  | n + 1 => by have := bnd_pos n; unfold bnd; have : (0 : Int) ≤ 3 * (n + 1) := by omega
                exact Int.mul_nonneg this (bnd_pos n)
/-- A square matrix of small entries. -/
def Sq (n : Nat) (m : List (List Int)) : Prop := m.length = n ∧ ∀ r ∈ m, r.length = n ∧ ∀ x ∈ r, -3 ≤ x ∧ x ≤ 3
theorem Sq.minor {n : Nat} {m : List (List Int)} (h : Sq (n + 1) m) (j : Nat) (hj : j < n + 1) : Sq n (minorL m j) := by
  refine ⟨by simp [minorL, h.1], fun r hr => ?_⟩
  simp only [minorL, List.mem_map] at hr
  obtain ⟨r0, h0, rfl⟩ := hr
  obtain ⟨h1, h2⟩ := h.2 r0 (List.mem_of_mem_drop h0)
  refine ⟨by simp [h1]; omega, fun x hx => ?_⟩
  rcases List.mem_append.1 hx with hx | hx
  · exact h2 x (List.mem_of_mem_take hx)
  · exact h2 x (List.mem_of_mem_drop hx)
def sgn (j : Nat) : Int := if j % 2 = 1 then -1 else 1
def detS (n : Nat) (m : List (List Int)) (j : Nat) : Int := (List.range j).foldl (fun s j => s + sgn j * (m.getD 0 []).getD j 0 * detN n (minorL m j)) 0
theorem detS_succ (n : Nat) (m : List (List Int)) (j : Nat) : detS n m (j + 1) = detS n m j + sgn j * (m.getD 0 []).getD j 0 * detN n (minorL m j) := by
  simp [detS, List.range_succ]
theorem detN_eq (n : Nat) (m : List (List Int)) : detN (n + 1) m = detS n m (n + 1) := rfl
theorem sgn_cases (j : Nat) : sgn j = 1 ∨ sgn j = -1 := by unfold sgn; split <;> simp
theorem sgn_succ (j : Nat) : sgn (j + 1) = -sgn j := by unfold sgn; rcases Nat.mod_two_eq_zero_or_one j with h | h <;> simp [h, Nat.add_mod]
theorem abs_mul3 {x d b : Int} (hx : -3 ≤ x ∧ x ≤ 3) (hd : -b ≤ d ∧ d ≤ b) : -(3 * b) ≤ x * d ∧ x * d ≤ 3 * b := by
  obtain ⟨h1, h2⟩ := hx
  have : x = -3 ∨ x = -2 ∨ x = -1 ∨ x = 0 ∨ x = 1 ∨ x = 2 ∨ x = 3 := by omega
  rcases this with rfl | rfl | rfl | rfl | rfl | rfl | rfl <;> omega
theorem det_le : ∀ (n : Nat) (m : List (List Int)), Sq n m → -bnd n ≤ detN n m ∧ detN n m ≤ bnd n
  | 0, m, _ => by simp [detN, bnd]
  | n + 1, m, h => by
    have key : ∀ j, j ≤ n + 1 → -(3 * j * bnd n) ≤ detS n m j ∧ detS n m j ≤ 3 * j * bnd n := by
      intro j
      induction j with
      | zero => intro _; simp [detS]
      | succ j ih =>
        intro hj
        obtain ⟨i1, i2⟩ := ih (by omega)
        have hd := det_le n _ (h.minor j (by omega))
        have hr : m.getD 0 [] ∈ m := by
          have : 0 < m.length := by rw [h.1]; omega
          simp [List.getD_eq_getElem?_getD, this]
        obtain ⟨r1, r2⟩ := h.2 _ hr
        have hx := r2 _ (getD_mem (w := m.getD 0 []) (i := j) (by omega))
        have h3 := abs_mul3 hx hd
        rw [detS_succ]
        have e : (3 : Int) * ((j + 1 : Nat) : Int) * bnd n = 3 * j * bnd n + 3 * bnd n := by push_cast; grind
        rw [e]
        rcases sgn_cases j with hs | hs <;> rw [hs]
        · rw [Int.one_mul]; omega
        · rw [Int.neg_mul, Int.one_mul, Int.neg_mul]; omega
    have := key (n + 1) (Nat.le_refl _)
    rw [detN_eq]
    simpa [bnd] using this
theorem bnd_le : ∀ n : Nat, n ≤ 4 → bnd n ≤ 1944 := by decide
theorem detS_le {n : Nat} {m : List (List Int)} (h : Sq (n + 1) m) (hn : n + 1 ≤ 4) : ∀ j, j ≤ n + 1 → -7776 ≤ detS n m j ∧ detS n m j ≤ 7776 := by
  intro j
  have hb := bnd_le n (by omega)
  have hb0 := bnd_pos n
  have key : ∀ j, j ≤ n + 1 → -((j : Int) * 1944) ≤ detS n m j ∧ detS n m j ≤ (j : Int) * 1944 := by
    have hbn : 3 * bnd n ≤ 1944 := by
      have : ∀ n : Nat, n ≤ 3 → 3 * bnd n ≤ 1944 := by decide
      exact this n (by omega)
    intro j
    induction j with
    | zero => intro _; simp [detS]
    | succ j ih =>
      intro hj
      obtain ⟨i1, i2⟩ := ih (by omega)
      have hd := det_le n _ (h.minor j (by omega))
      have hr : m.getD 0 [] ∈ m := by
        have : 0 < m.length := by rw [h.1]; omega
        simp [List.getD_eq_getElem?_getD, this]
      obtain ⟨r1, r2⟩ := h.2 _ hr
      have hx := r2 _ (getD_mem (w := m.getD 0 []) (i := j) (by omega))
      have h3 := abs_mul3 hx hd
      rw [detS_succ]
      rcases sgn_cases j with hs | hs <;> rw [hs]
      · rw [Int.one_mul]; push_cast; omega
      · rw [Int.neg_mul, Int.one_mul, Int.neg_mul]; push_cast; omega
  intro hj
  have := key j hj
  omega
theorem det_term {n : Nat} {m : List (List Int)} (h : Sq (n + 1) m) (hn : n + 1 ≤ 4) (j : Nat) (hj : j < n + 1) : (-3 ≤ (m.getD 0 []).getD j 0 ∧ (m.getD 0 []).getD j 0 ≤ 3) ∧ (-1944 ≤ detN n (minorL m j) ∧ detN n (minorL m j) ≤ 1944) ∧
    (-1944 ≤ (m.getD 0 []).getD j 0 * detN n (minorL m j) ∧ (m.getD 0 []).getD j 0 * detN n (minorL m j) ≤ 1944) ∧ (m.getD 0 []).length = n + 1 := by
  have hr : m.getD 0 [] ∈ m := by
    have : 0 < m.length := by rw [h.1]; omega
    simp [List.getD_eq_getElem?_getD, this]
  obtain ⟨r1, r2⟩ := h.2 _ hr
  have hx := r2 _ (getD_mem (w := m.getD 0 []) (i := j) (by omega))
  have hd := det_le n _ (h.minor j hj)
  have hb : 3 * bnd n ≤ 1944 := by
    have : ∀ n : Nat, n ≤ 3 → 3 * bnd n ≤ 1944 := by decide
    exact this n (by omega)
  have hb0 := bnd_pos n
  have h3 := abs_mul3 hx hd
  exact ⟨hx, by omega, by omega, r1⟩

theorem c_impl_determinant (n : Nat) : ∀ (m : List (List Int)), n ≤ 4 → Sq n m → FunA B 105 [.sl false (.row false) m] (fun rs o => rs = [.int .i64 (detN n m)] ∧ o = []) := by
  induction n with
  | zero =>
    intro m _ hm
    have hm0 : m = [] := List.eq_nil_of_length_eq_zero hm.1
    subst hm0
    refine FunA.walk B_ok (fn := Try.f105) (fun vs w => Try.call105 vs w) Try.func105 rfl (by rw [Try.ntmps105]; simp) (fun C hC hP hT hΓ hbt hfn hpin hfin => ?_); have hX := BX; rw [← hΓ, ← hbt.1, ← hbt.2] at hX; rw [Try.ntmps105]; simp only [AW6, simprocAttr, hX]
    refine Run.nq ?_; refine Run.regionW hC (fun K hK => ?_); simp only [AW6, simprocAttr, hX]; (repeat (with_reducible refine And.intro ?_ ?_); exact vc0); refine hK _ ?_; clear hK K; refine Run.nq ?_
    refine Run.nq ?_; refine Run.regionW hC (fun K hK => ?_); simp only [AW6, simprocAttr, hX]; (repeat (with_reducible refine And.intro ?_ ?_); exact vc0); refine hK _ ?_; clear hK K; refine Run.nq ?_
    refine Run.nq ?_; refine Run.condW (by simp only [AW6, simprocAttr, hX]; rfl) (by simp only [AW6, simprocAttr, hX]) ?_ ?_
    · intro h
      refine Run.nq ?_; refine Run.regionW hC (fun K hK => ?_); simp only [AW6, simprocAttr, hX]; (repeat (with_reducible refine And.intro ?_ ?_); exact vc0); refine hK _ ?_; clear hK K; refine Run.nq ?_
      refine Run.retW [2] (by decide) (by rw [hfn]; rfl) (by simp only [AW6, simprocAttr, hX]; rfl) (by simp only [AW6, simprocAttr, hX]) (hfin _ _ rfl rfl ?_)
      exact ⟨rfl, rfl⟩
    · intro h
      simp at h
  | succ n ihn =>
    intro m hn hm
    have hml := hm.1
    refine FunA.walk B_ok (fn := Try.f105) (fun vs w => Try.call105 vs w) Try.func105 rfl (by rw [Try.ntmps105]; simp) (fun C hC hP hT hΓ hbt hfn hpin hfin => ?_); have hX := BX; rw [← hΓ, ← hbt.1, ← hbt.2] at hX; rw [Try.ntmps105]; simp only [AW6, simprocAttr, hX]
    refine Run.nq ?_; refine Run.regionW hC (fun K hK => ?_); simp only [AW6, simprocAttr, hX]; (repeat (with_reducible refine And.intro ?_ ?_); exact vc0); refine hK _ ?_; clear hK K; refine Run.nq ?_
    refine Run.nq ?_; refine Run.regionW hC (fun K hK => ?_); simp only [AW6, simprocAttr, hX]; (repeat (with_reducible refine And.intro ?_ ?_); exact vc0); refine hK _ ?_; clear hK K; refine Run.nq ?_
    refine Run.nq ?_; refine Run.condW (by simp only [AW6, simprocAttr, hX]; rfl) (by simp only [AW6, simprocAttr, hX]) ?_ ?_
    · intro h
      simp [hml] at h
      omega
    intro h
    clear h
    have hr0 := (det_term hm hn 0 (by omega)).2.2.2
    have hS0 : detS n m 0 = 0 := rfl
    have hg0 : sgn 0 = 1 := rfl
    refine Run.nq ?_; refine Run.regionW hC (fun K hK => ?_); simp only [AW6, simprocAttr, hX]; (repeat (with_reducible refine And.intro ?_ ?_); exact vc0); refine hK _ ?_; clear hK K; refine Run.nq ?_
    refine Run.nq ?_; refine Run.regionW hC (fun K hK => ?_); simp only [AW6, simprocAttr, hX]; (repeat (with_reducible refine And.intro ?_ ?_); exact vc0); refine hK _ ?_; clear hK K; refine Run.nq ?_
    rw [show ((m.getD 0 []).length : Int) = ((n + 1 : Nat) : Int) from by rw [hr0]]
    refine Run.le (Le.sub (fr' := [(0, true, .v (.sl false (.row false) m)), (2, true, .v (.int .i64 0)), (3, true, .v (.int .i64 (detS n m 0))), (4, true, .v (.int .i64 (sgn 0))), (15, true, .v (.sl false .int (m.getD 0 []))), (16, true, .v (.int .i64 (n + 1 : Nat))), (17, true, .v (.int .i64 (0 : Nat)))]) rfl (by simp only [AW6, simprocAttr]; simp [hS0, hg0])) ?_
    refine Run.loopI (X := Nat) (fun j => ⟨58, [(0, true, .v (.sl false (.row false) (m))), (2, true, .v (.int .i64 (0))), (3, true, .v (.int .i64 ((detS n m j)))), (4, true, .v (.int .i64 ((sgn j)))), (15, true, .v (.sl false .int ((m.getD 0 [])))), (16, true, .v (.int .i64 (((n + 1 : Nat))))), (17, true, .v (.int .i64 (j)))], []⟩) (fun j => j ≤ n + 1) (fun j => n + 1 - j) (0) (Nat.zero_le _) ?_ ?_
    · exact Le.sub (by first | rfl | simp) (by simp only [AW6, simprocAttr, hX]; try simp <;> try (first | rfl | exact ⟨rfl, rfl⟩ | exact ⟨rfl, rfl, rfl⟩))
    rintro j hj ih
    try simp only []
    refine Run.nq ?_; refine Run.regionW hC (fun K hK => ?_); simp only [AW6, simprocAttr, hX]; (repeat (with_reducible refine And.intro ?_ ?_); exact vc0); refine hK _ ?_; clear hK K; refine Run.nq ?_
    refine Run.nq ?_; refine Run.condW (by simp only [AW6, simprocAttr, hX]; rfl) (by simp only [AW6, simprocAttr, hX]) ?_ ?_
    · intro h
      have h : j < n + 1 := by simp at h; omega
      obtain ⟨t1, t2, t3, t4⟩ := det_term hm hn j h
      obtain ⟨d1, d2⟩ := detS_le hm hn j (by omega)
      obtain ⟨e1, e2⟩ := detS_le hm hn (j + 1) (by omega)
      have hsn := detS_succ n m j
      have hss := sgn_succ j
      have hsq := hm.minor j h
      have hsc := sgn_cases j
      have hp1 : -3 ≤ sgn j * (m.getD 0 []).getD j 0 ∧ sgn j * (m.getD 0 []).getD j 0 ≤ 3 := by rcases hsc with hs | hs <;> rw [hs] <;> omega
      refine Run.nq ?_; refine Run.regionW hC (fun K hK => ?_); simp only [AW6, simprocAttr, hX]; (repeat (with_reducible refine And.intro ?_ ?_); exact vc0); refine hK _ ?_; clear hK K; refine Run.nq ?_
      refine Run.nq ?_; refine Run.regionW hC (fun K hK => ?_); simp only [AW6, simprocAttr, hX]; (repeat (with_reducible refine And.intro ?_ ?_); exact vc0); refine hK _ ?_; clear hK K; refine Run.nq ?_
      refine Run.nq ?_; refine Run.condW (by simp only [AW6, simprocAttr, hX]; rfl) (by simp only [AW6, simprocAttr, hX]) ?_ ?_
      · intro hx
        have hx : (m.getD 0 []).getD j 0 ≠ 0 := by simpa using hx
        refine Run.nq ?_; refine Run.regionW hC (fun K hK => ?_); simp only [AW6, simprocAttr, hX]; (repeat (with_reducible refine And.intro ?_ ?_); exact vc0); refine hK _ ?_; clear hK K; refine Run.nq ?_
        refine Run.nq ?_; refine Run.regionW hC (fun K hK => ?_); simp only [AW6, simprocAttr, hX]; (repeat (with_reducible refine And.intro ?_ ?_); exact vc0); refine hK _ ?_; clear hK K; refine Run.nq ?_
        have htl : List.take (m.length - 1) (m.drop 1) = m.drop 1 := List.take_of_length_le (by simp)
        have htn : (m.drop 1).length = n := by simp [hml]
        have ht2 : List.take n m.tail = m.tail := List.take_of_length_le (by simp [hml])
        refine Run.keep [0, 2, 3, 4, 5, 6, 7, 15, 16, 17, 26, 27, 28] ?_; simp only [AK, Nat.reduceBEq]
        refine Run.le (Le.sub (fr' := [(0, true, .v (.sl false (.row false) m)), (2, true, .v (.int .i64 0)), (3, true, .v (.int .i64 (detS n m j))), (4, true, .v (.int .i64 (sgn j))), (5, true, .v (.int .i64 j)), (6, true, .v (.int .i64 ((m.getD 0 []).getD j 0))), (7, true, .v (.own 0 0)), (15, true, .v (.sl false .int (m.getD 0 []))), (16, true, .v (.int .i64 (n + 1 : Nat))), (17, true, .v (.int .i64 j)), (26, true, .v (.sl false (.row false) (m.drop 1))), (27, true, .v (.int .i64 n)), (28, true, .v (.int .i64 (0 : Nat)))]) rfl (by simp only [AW6, simprocAttr]; simp [htl, htn, hml, ht2])) ?_
        refine Run.loopI (X := Nat × List (Nat × List Int)) (fun k => ⟨58, [(0, true, .v (.sl false (.row false) (m))), (2, true, .v (.int .i64 (0))), (3, true, .v (.int .i64 ((detS n m j)))), (4, true, .v (.int .i64 ((sgn j)))), (5, true, .v (.int .i64 (j))), (6, true, .v (.int .i64 (((m.getD 0 []).getD j 0)))), (7, true, .v (.own 0 0)), (15, true, .v (.sl false .int ((m.getD 0 [])))), (16, true, .v (.int .i64 (((n + 1 : Nat))))), (17, true, .v (.int .i64 (j))), (26, true, .v (.sl false (.row false) ((m.drop 1)))), (27, true, .v (.int .i64 (n))), (28, true, .v (.int .i64 (k.1)))], [.arr .lrow (k.2) 0 true]⟩) (fun k => k.1 ≤ n ∧ k.2.map (·.2) = ((m.drop 1).take k.1).map (fun r => r.take j ++ r.drop (j + 1))) (fun k => n - k.1) ((0, [])) (⟨Nat.zero_le _, rfl⟩) ?_ ?_
        · exact Le.sub (by first | rfl | simp) (by simp only [AW6, simprocAttr, hX]; try simp <;> try (first | rfl | exact ⟨rfl, rfl⟩ | exact ⟨rfl, rfl, rfl⟩))
        rintro ⟨k, ys⟩ ⟨hk, hy⟩ ih2
        try simp only []
        simp only [] at hk hy
        have hyl : ys.length = k := by have := congrArg List.length hy; simp at this; omega
        refine Run.nq ?_; refine Run.regionW hC (fun K hK => ?_); simp only [AW6, simprocAttr, hX]; (repeat (with_reducible refine And.intro ?_ ?_); exact vc0); refine hK _ ?_; clear hK K; refine Run.nq ?_
        refine Run.nq ?_; refine Run.condW (by simp only [AW6, simprocAttr, hX]; rfl) (by simp only [AW6, simprocAttr, hX]) ?_ ?_
        · intro h2
          have h2 : k < n := by simp at h2; omega
          have hmem : (m.drop 1).getD k [] ∈ m := by
            have : (m.drop 1).getD k [] = m.getD (k + 1) [] := by simp [List.getD_eq_getElem?_getD, List.getElem?_drop, Nat.add_comm]
            rw [this]
            simp [List.getD_eq_getElem?_getD, show k + 1 < m.length by omega]
          have hrl := (hm.2 _ hmem).1
          refine Run.nq ?_; refine Run.regionW hC (fun K hK => ?_); simp only [AW6, simprocAttr, hX]; (repeat (with_reducible refine And.intro ?_ ?_); exact vc0); refine hK _ ?_; clear hK K; refine Run.nq ?_
          refine Run.keep [0, 2, 3, 4, 5, 6, 7, 9, 15, 16, 17, 26, 27, 28] ?_; simp only [AK, Nat.reduceBEq]
          refine Run.nq ?_; refine Run.regionD hC true [0,2,3,4,6,7,8,9,1,5,10,11,12,13] (by kernel_rfl) (fun K hK => ?_); simp (disch := omega) only [wrap_id, AW6, simprocAttr, hX]; (repeat (with_reducible refine And.intro ?_ ?_); exact vc0)
          intro l hl
          (repeat (with_reducible refine And.intro ?_ ?_); exact vc0)
          (repeat (with_reducible refine And.intro ?_ ?_); exact vc0); refine hK _ ?_; clear hK K; refine Run.nq ?_
          refine Run.nq ?_; refine Run.regionW hC (fun K hK => ?_); simp (disch := omega) only [wrap_id, AW6, simprocAttr, hX]; (repeat (with_reducible refine And.intro ?_ ?_); exact vc0); refine hK _ ?_; clear hK K; refine Run.nq ?_
          refine Run.reK hpin [0, 2, 3, 4, 5, 6, 7, 15, 16, 17, 26, 27, 28] [0] (by decide) (by simp) ?_; simp only [AR, AW6, simprocAttr]
          refine Run.le ?_ (ih2 (k + 1, ys ++ [(l, ((m.drop 1).getD k []).take j ++ ((m.drop 1).getD k []).drop (j + 1))]) ⟨h2, by simp only [List.map_append, hy, List.map_cons, List.map_nil]; exact map_snoc (fun r : List Int => r.take j ++ r.drop (j + 1)) (m.drop 1) [] k (by omega)⟩ (by simp only []; omega))
          have e1 : List.take (j - 0) (List.drop 0 ((List.drop 1 m).getD k [])) ++ List.take (List.length ((List.drop 1 m).getD k []) - ((j : Int) + 1).toNat) (List.drop ((j : Int) + 1).toNat ((List.drop 1 m).getD k [])) = ((m.drop 1).getD k []).take j ++ ((m.drop 1).getD k []).drop (j + 1) := by
            rw [Nat.sub_zero, List.drop_zero, show ((j : Int) + 1).toNat = j + 1 by omega, List.take_of_length_le (l := List.drop (j + 1) _) (by simp)]
          exact Le.sub (by rw [e1]) (by simp only [AW6, simprocAttr]; try simp)
        · intro h2
          have h2 : k = n := by simp at h2; omega
          rw [List.take_of_length_le (by omega)] at hy
          have hy : ys.map (·.2) = minorL m j := hy
          refine Run.exit rfl ?_; refine Run.nq ?_
          refine Run.nq ?_; refine Run.regionW hC (fun K hK => ?_); simp only [AW6, simprocAttr, hX]; (repeat (with_reducible refine And.intro ?_ ?_); exact vc0)
          refine FunA.callW hP hT (ihn (minorL m j) (by omega) hsq) (by simp only [AW6, simprocAttr]; exact hy.symm) ?_
          rintro rs o ⟨rfl, rfl⟩
          simp (disch := omega) only [wrap_id, AW6, simprocAttr, hX]
          (repeat (with_reducible refine And.intro ?_ ?_); exact vc0)
          (repeat (with_reducible refine And.intro ?_ ?_); exact vc0); refine hK _ ?_; clear hK K; refine Run.nq ?_
          rw [← hsn]
          refine Run.keep [0, 2, 3, 4, 15, 16, 17] ?_; simp only [AK, Nat.reduceBEq]
          refine Run.nq ?_; refine Run.regionW hC (fun K hK => ?_); simp (disch := omega) only [wrap_id, AW6, simprocAttr, hX]; (repeat (with_reducible refine And.intro ?_ ?_); exact vc0); refine hK _ ?_; clear hK K; refine Run.nq ?_
          refine Run.nq ?_; refine Run.regionW hC (fun K hK => ?_); simp (disch := omega) only [wrap_id, AW6, simprocAttr, hX]; (repeat (with_reducible refine And.intro ?_ ?_); exact vc0); refine hK _ ?_; clear hK K; refine Run.nq ?_
          refine Run.reK hpin [0, 2, 3, 4, 15, 16, 17] [] (by decide) (by simp) ?_; simp only [AR, AW6, simprocAttr]
          refine Run.le ?_ (ih (j + 1) (by omega) (by omega))
          exact Le.sub (by rfl) (by rw [hss]; simp only [AW6, simprocAttr]; simp)
      · intro hx
        have hx : (m.getD 0 []).getD j 0 = 0 := by simpa using hx
        rw [hx] at hsn
        simp only [Int.mul_zero, Int.zero_mul, Int.add_zero] at hsn
        refine Run.nq ?_; refine Run.regionW hC (fun K hK => ?_); simp (disch := omega) only [wrap_id, AW6, simprocAttr, hX]; (repeat (with_reducible refine And.intro ?_ ?_); exact vc0); refine hK _ ?_; clear hK K; refine Run.nq ?_
        refine Run.nq ?_; refine Run.regionW hC (fun K hK => ?_); simp (disch := omega) only [wrap_id, AW6, simprocAttr, hX]; (repeat (with_reducible refine And.intro ?_ ?_); exact vc0); refine hK _ ?_; clear hK K; refine Run.nq ?_
        refine Run.le ?_ (ih (j + 1) (by omega) (by omega))
        exact Le.sub (by rfl) (by rw [hss, hsn]; simp only [AW6, simprocAttr]; simp)
    · intro h
      have h : j = n + 1 := by simp at h; omega
      subst h
      refine Run.exit rfl ?_; refine Run.nq ?_
      refine Run.nq ?_; refine Run.regionW hC (fun K hK => ?_); simp only [AW6, simprocAttr, hX]; (repeat (with_reducible refine And.intro ?_ ?_); exact vc0); refine hK _ ?_; clear hK K; refine Run.nq ?_
      refine Run.retW [2] (by decide) (by rw [hfn]; rfl) (by simp only [AW6, simprocAttr, hX]; rfl) (by simp only [AW6, simprocAttr, hX]) (hfin _ _ rfl rfl ?_)
      exact ⟨rfl, rfl⟩
end Go.Proofs.Ytdhfonblpbpmmaa
