/- The rank: the program's walk, in place. -/
import Derived.Test.YtnhiamdnghgboaaRank
set_option linter.unusedVariables false
set_option linter.unusedSimpArgs false
namespace Go.Proofs.Ytnhiamdnghgboaa
open Go Go.Aw Go.Cox

def InjL (hs : List Nat) : Prop := ∀ i j, i < hs.length → j < hs.length → hs.getD i 0 = hs.getD j 0 → i = j
theorem map_getD (F : Nat → List Int) (hs : List Nat) {k : Nat} (h : k < hs.length) : (hs.map F).getD k [] = F (hs.getD k 0) := by
  simp [List.getD, List.getElem?_eq_getElem h]
theorem map_upd {F F2 : Nat → List Int} {hs : List Nat} (hi : InjL hs) {k : Nat} (hk : k < hs.length) (h : ∀ q, q ≠ hs.getD k 0 → F2 q = F q) : hs.map F2 = (hs.map F).set k (F2 (hs.getD k 0)) := by
  apply List.ext_getElem
  · simp
  · intro i h1 h2
    simp only [List.length_map] at h1
    rw [List.getElem_map, List.getElem_set]
    by_cases e : k = i
    · subst e; rw [if_pos rfl, getD_eq h1]
    · rw [if_neg e, List.getElem_map]
      apply h
      intro q
      rw [← getD_eq (d := 0) h1] at q
      exact e (hi _ _ h1 hk q).symm
theorem map_swp (F : Nat → List Int) (hs : List Nat) {r a : Nat} (hr : r < hs.length) (ha : a < hs.length) : ((hs.set r (hs.getD a 0)).set a (hs.getD r 0)).map F = swp (hs.map F) r a := by
  unfold swp
  rw [map_getD F hs ha, map_getD F hs hr, List.map_set, List.map_set]
theorem nset_get (M : List Nat) (k j : Nat) (x : Nat) (hk : k < M.length) : (M.set k x).getD j 0 = if j = k then x else M.getD j 0 := by
  simp only [List.getD, List.getElem?_set]
  by_cases h : k = j
  · subst h; simp [hk]
  · rw [if_neg h, if_neg (Ne.symm h)]
theorem inj_swp {hs : List Nat} (hi : InjL hs) {r a : Nat} (hr : r < hs.length) (ha : a < hs.length) : InjL ((hs.set r (hs.getD a 0)).set a (hs.getD r 0)) := by
  have key : ∀ i, i < hs.length → ((hs.set r (hs.getD a 0)).set a (hs.getD r 0)).getD i 0 = hs.getD (if i = a then r else if i = r then a else i) 0 := fun i h => by
    rw [nset_get _ _ _ _ (by simpa using ha), nset_get _ _ _ _ hr]
    split
    · rfl
    · split <;> rfl
  intro i j h1 h2 h3
  simp only [List.length_set] at h1 h2
  rw [key i h1, key j h2] at h3
  have := hi _ _ (by split <;> (try split) <;> omega) (by split <;> (try split) <;> omega) h3
  split at this <;> split at this <;> (try split at this) <;> (try split at this) <;> omega

theorem set_self (M : List (List Int)) (k : Nat) : M.set k (M.getD k []) = M := by
  apply List.ext_getElem?
  intro i
  rw [List.getElem?_set]
  by_cases h : k = i
  · subst h
    by_cases hk : k < M.length <;> simp [hk]
  · rw [if_neg h]

def Gd (D : List Nat) (n : Nat) (A : List (List Int)) (F : Nat → List Int) (hs : List Nat) (r c : Nat) : Prop :=
  InjL hs ∧ (∀ h ∈ hs, h ∈ D) ∧ OKM n (beta r) (hs.map F) ∧ r ≤ n ∧ c ≤ n ∧ rkG rowI (n - c) (hs.map F) r c = rkG rowI n A 0 0

theorem gdM {hs : List Nat} {k : Nat} (h : k < hs.length) : hs.getD k 0 ∈ hs := by rw [getD_eq h]; exact List.getElem_mem h

/-- A row half done. -/
def half (x z : List Int) (j : Nat) : List Int := z.take j ++ x.drop j
theorem half_len {x z : List Int} (h : z.length = x.length) (j : Nat) : (half x z j).length = x.length := by simp [half]; omega
theorem half_get {x z : List Int} (h : z.length = x.length) {j : Nat} (hj : j < x.length) : (half x z j).getD j 0 = x.getD j 0 := by
  have : (z.take j).length = j := by simp; omega
  simp [half, List.getD, List.getElem?_append, this, List.getElem?_drop]
theorem half_set {x z : List Int} (h : z.length = x.length) {j : Nat} (hj : j < x.length) : (half x z j).set j (z.getD j 0) = half x z (j + 1) := by
  have h1 : (z.take j).length = j := by simp; omega
  unfold half
  rw [List.set_append_right _ _ (by omega), h1, Nat.sub_self, List.drop_eq_getElem_cons hj, List.set_cons_zero, getD_eq (by omega : j < z.length)]
  rw [List.take_succ_eq_append_getElem (by omega : j < z.length), List.append_assoc]; rfl
theorem half_zero (x z : List Int) : half x z 0 = x := by simp [half]
theorem half_all {x z : List Int} (h : z.length = x.length) : half x z x.length = z := by simp [half, ← h]

theorem Mid.skip {n r k : Nat} {M : List (List Int)} (h : Mid n r k M) (_ : k < n) : Mid n r (k + 1) M :=
  ⟨h.1, fun j hj hjk => h.2 j hj (by omega)⟩

set_option maxHeartbeats 4000000 in
theorem c_impl_rankOf (n : Nat) (D : List Nat) (F : Nat → List Int) (hs : List Nat) (A : List (List Int)) (hA : hs.map F = A) (hin : InjL hs) (hsub : ∀ h ∈ hs, h ∈ D) (hn : n ≤ 4) (hok : OKM n 8 A) (nn : Bool) :
    FunO B 60 [.own 0 0] (.gm D F hs 0 nn) (fun rs o => rs = [.int .i64 (rkG rowI n A 0 0 : Nat)] ∧ ∃ F' hs', o = [.gm D F' hs' 0 nn]) := by
  have hG0 : Gd D n A F hs 0 0 := ⟨hin, hsub, by rw [hA]; exact hok, by omega, by omega, by rw [hA]; rfl⟩
  refine FunO.walk B_ok (fn := Try.f60) (fun vs w => Try.call60 vs w) Try.func60 rfl (by rw [Try.ntmps60]; simp) (fun C hC hP hT hΓ hbt hfn hpin hfin => ?_); have hX := BX; rw [← hΓ, ← hbt] at hX; rw [Try.ntmps60]; simp only [AW5, simprocAttr, hX]
  refine Run.nq ?_; refine Run.regionW hC (fun K hK => ?_); simp only [AW5, simprocAttr, hX]; (repeat (with_reducible refine And.intro ?_ ?_); exact vc0); refine hK _ ?_; clear hK K; refine Run.nq ?_
  refine Run.nq ?_; refine Run.regionW hC (fun K hK => ?_); simp only [AW5, simprocAttr, hX]; (repeat (with_reducible refine And.intro ?_ ?_); exact vc0); refine hK _ ?_; clear hK K; refine Run.nq ?_
  refine Run.nq ?_; refine Run.regionW hC (fun K hK => ?_); simp only [AW5, simprocAttr, hX]; (repeat (with_reducible refine And.intro ?_ ?_); exact vc0); refine hK _ ?_; clear hK K; refine Run.nq ?_
  refine Run.loopI (X := (Nat → List Int) × List Nat × Nat × Nat) (fun x => ⟨118, [(0, true, .v (.own 0 0)), (3, true, .v (.int .i64 (x.2.2.1))), (4, true, .v (.int .i64 (x.2.2.2)))], [.gm D x.1 x.2.1 0 nn]⟩) (fun x => Gd D n A x.1 x.2.1 x.2.2.1 x.2.2.2) (fun x => n - x.2.2.2) ((F, hs, 0, 0)) (hG0) ?_ ?_
  · exact Le.sub (by first | rfl | simp) (by simp only [AW5, simprocAttr, hX]; try simp <;> try (first | rfl | exact ⟨rfl, rfl⟩ | exact ⟨rfl, rfl, rfl⟩))
  rintro ⟨G, hs1, r, c⟩ hG ihO
  try simp only []
  simp only [] at hG
  clear hok hsub hin hA hG0
  obtain ⟨hin, hsub, hok, hr, hcn, hE⟩ := hG
  have hl : hs1.length = n := by simpa using hok.1
  by_cases hc : c < n
  rotate_left
  · have hcc : decide ((c : Int) < hs1.length) = false := by rw [decide_eq_false_iff_not]; omega
    refine Run.nq ?_; refine Run.regionW hC (fun K hK => ?_); simp only [AW5, simprocAttr, hX]; (repeat (with_reducible refine And.intro ?_ ?_); exact vc0)
    simp only [hcc]
    (try simp only [AW5, simprocAttr, hX]); (repeat (with_reducible refine And.intro ?_ ?_); exact vc0)
    (repeat (with_reducible refine And.intro ?_ ?_); exact vc0); refine hK _ ?_; clear hK K; refine Run.nq ?_
    refine Run.nq ?_; refine Run.condW (by simp only [AW5, simprocAttr, hX]; rfl) (by simp only [AW5, simprocAttr, hX]) ?_ ?_
    · intro h; cases h
    intro _
    refine Run.exit rfl ?_; refine Run.nq ?_
    refine Run.nq ?_; refine Run.regionW hC (fun K hK => ?_); simp only [AW5, simprocAttr, hX]; (repeat (with_reducible refine And.intro ?_ ?_); exact vc0); refine hK _ ?_; clear hK K; refine Run.nq ?_
    rw [show n - c = 0 by omega] at hE
    refine Run.retW [2] (by decide) (by rw [hfn]; rfl) (by simp only [AW5, simprocAttr, hX]; rfl) (by simp only [AW5, simprocAttr, hX]) (hfin _ _ _ rfl rfl ⟨rfl, _, _, _, rfl⟩ ?_)
    rw [← hE]; exact ⟨rfl, _, _, rfl⟩
  have hcc : decide ((c : Int) < hs1.length) = true := by rw [decide_eq_true_eq]; omega
  by_cases hrn : r < n
  rotate_left
  · have hrr : decide ((r : Int) < hs1.length) = false := by rw [decide_eq_false_iff_not]; omega
    refine Run.nq ?_; refine Run.regionW hC (fun K hK => ?_); simp only [AW5, simprocAttr, hX]; (repeat (with_reducible refine And.intro ?_ ?_); exact vc0)
    simp only [hcc, hrr]
    (try simp only [AW5, simprocAttr, hX]); (repeat (with_reducible refine And.intro ?_ ?_); exact vc0)
    (repeat (with_reducible refine And.intro ?_ ?_); exact vc0); refine hK _ ?_; clear hK K; refine Run.nq ?_
    refine Run.nq ?_; refine Run.condW (by simp only [AW5, simprocAttr, hX]; rfl) (by simp only [AW5, simprocAttr, hX]) ?_ ?_
    · intro h; cases h
    intro _
    refine Run.exit rfl ?_; refine Run.nq ?_
    refine Run.nq ?_; refine Run.regionW hC (fun K hK => ?_); simp only [AW5, simprocAttr, hX]; (repeat (with_reducible refine And.intro ?_ ?_); exact vc0); refine hK _ ?_; clear hK K; refine Run.nq ?_
    have hrr : r = (hs1.map G).length := by simp; omega
    have hE2 := hE
    rw [hrr, rkG_top, ← hrr] at hE2
    refine Run.retW [2] (by decide) (by rw [hfn]; rfl) (by simp only [AW5, simprocAttr, hX]; rfl) (by simp only [AW5, simprocAttr, hX]) (hfin _ _ _ rfl rfl ⟨rfl, _, _, _, rfl⟩ ?_)
    rw [← hE2]; exact ⟨rfl, _, _, rfl⟩
  have hrr : decide ((r : Int) < hs1.length) = true := by rw [decide_eq_true_eq]; omega
  refine Run.nq ?_; refine Run.regionW hC (fun K hK => ?_); simp only [AW5, simprocAttr, hX]; (repeat (with_reducible refine And.intro ?_ ?_); exact vc0)
  simp only [hcc, hrr]
  (try simp only [AW5, simprocAttr, hX]); (repeat (with_reducible refine And.intro ?_ ?_); exact vc0)
  (repeat (with_reducible refine And.intro ?_ ?_); exact vc0); refine hK _ ?_; clear hK K; refine Run.nq ?_
  refine Run.nq ?_; refine Run.condW (by simp only [AW5, simprocAttr, hX]; rfl) (by simp only [AW5, simprocAttr, hX]) ?_ ?_
  rotate_left
  · intro h; cases h
  intro _
  have hget : ∀ k, k < n → hs1.getD k 0 ∈ D ∧ (G (hs1.getD k 0)).length = n ∧ (hs1.map G).getD k [] = G (hs1.getD k 0) := fun k hk => by
    have e := map_getD G hs1 (k := k) (by omega)
    exact ⟨hsub _ (gdM (by omega)), by rw [← e]; exact (hok.2 k hk).1, e⟩
  refine Run.nq ?_; refine Run.regionW hC (fun K hK => ?_); simp only [AW5, simprocAttr, hX]; (repeat (with_reducible refine And.intro ?_ ?_); exact vc0); refine hK _ ?_; clear hK K; refine Run.nq ?_
  refine Run.loopI (X := Nat) (fun a => ⟨118, [(0, true, .v (.own 0 0)), (3, true, .v (.int .i64 (r))), (4, true, .v (.int .i64 (c))), (5, true, .v (.int .i64 (a)))], [.gm D G hs1 0 nn]⟩) (fun a => r ≤ a ∧ a ≤ n ∧ pvt (hs1.map G) c (n - a) a = pvt (hs1.map G) c (n - r) r) (fun a => n - a) (r) (⟨by omega, by omega, rfl⟩) ?_ ?_
  · exact Le.sub (by first | rfl | simp) (by simp only [AW5, simprocAttr, hX]; try simp <;> try (first | rfl | exact ⟨rfl, rfl⟩ | exact ⟨rfl, rfl, rfl⟩))
  rintro a ⟨hra, han, hpv⟩ ih
  try simp only []
  by_cases ha : a < n
  · obtain ⟨m1, m2, m3⟩ := hget a ha
    have haa : decide ((a : Int) < hs1.length) = true := by rw [decide_eq_true_eq]; omega
    refine Run.nq ?_; refine Run.regionW hC (fun K hK => ?_); simp only [AW5, simprocAttr, hX]; (repeat (with_reducible refine And.intro ?_ ?_); exact vc0)
    simp only [haa]
    (try simp only [AW5, simprocAttr, hX]); (repeat (with_reducible refine And.intro ?_ ?_); exact vc0)
    (repeat (with_reducible refine And.intro ?_ ?_); exact vc0); refine hK _ ?_; clear hK K; refine Run.nq ?_
    refine Run.nq ?_; refine Run.condW (by simp only [AW5, simprocAttr, hX]; rfl) (by simp only [AW5, simprocAttr, hX]) ?_ ?_
    · intro h
      have h0 : ((hs1.map G).getD a []).getD c 0 = 0 := by rw [m3]; simpa using h
      refine Run.nq ?_; refine Run.regionW hC (fun K hK => ?_); simp (disch := omega) only [wrap_id, AW5, simprocAttr, hX]; (repeat (with_reducible refine And.intro ?_ ?_); exact vc0); refine hK _ ?_; clear hK K; refine Run.nq ?_
      have hpv2 : pvt (hs1.map G) c (n - (a + 1)) (a + 1) = pvt (hs1.map G) c (n - r) r := by
        rw [← hpv, show n - a = (n - (a + 1)) + 1 by omega]
        simp only [pvt]
        rw [if_pos h0]
      refine Run.le ?_ (ih (a + 1) (⟨by omega, by omega, hpv2⟩) (by (try simp only [List.length_append, List.length_cons, List.length_nil]); omega))
      exact Le.sub (by rfl) (by simp only [AW5, simprocAttr]; try simp)
    intro h
    have h0 : ((hs1.map G).getD a []).getD c 0 ≠ 0 := by rw [m3]; simpa using h
    have hpa : pvt (hs1.map G) c (n - r) r = a := by
      rw [← hpv, show n - a = (n - (a + 1)) + 1 by omega]
      simp only [pvt]
      rw [if_neg h0]
    refine Run.exit rfl ?_; refine Run.nq ?_
    refine Run.nq ?_; refine Run.regionW hC (fun K hK => ?_); simp only [AW5, simprocAttr, hX]; (repeat (with_reducible refine And.intro ?_ ?_); exact vc0); refine hK _ ?_; clear hK K; refine Run.nq ?_
    refine Run.nq ?_; refine Run.condW (by simp only [AW5, simprocAttr, hX]; rfl) (by simp only [AW5, simprocAttr, hX]) ?_ ?_
    · intro h; exfalso; simp at h; omega
    intro _
    obtain ⟨p1, p2, p3⟩ := hget r hrn
    refine Run.nq ?_; refine Run.regionD hC true [0,1,2,3,4,5,6,7,8,9,10,11,12,13,14,15] (by kernel_rfl) (fun K hK => ?_); simp only [AW5, simprocAttr, hX]; (repeat (with_reducible refine And.intro ?_ ?_); exact vc0)
    (repeat (with_reducible refine And.intro ?_ ?_); exact vc0); refine hK _ ?_; clear hK K; refine Run.nq ?_
    refine Run.nq ?_; refine Run.regionW hC (fun K hK => ?_); simp (disch := omega) only [wrap_id, AW5, simprocAttr, hX]; (repeat (with_reducible refine And.intro ?_ ?_); exact vc0); refine hK _ ?_; clear hK K; refine Run.nq ?_
    have hmw := map_swp G hs1 (r := r) (a := a) (by omega) (by omega)
    have hin2 := inj_swp hin (r := r) (a := a) (by omega) (by omega)
    have hl2 : ((hs1.set r (hs1.getD a 0)).set a (hs1.getD r 0)).length = n := by simp [hl]
    have hsub2 : ∀ h ∈ (hs1.set r (hs1.getD a 0)).set a (hs1.getD r 0), h ∈ D := fun h hh => by
      rcases List.mem_or_eq_of_mem_set hh with hh | rfl
      · rcases List.mem_or_eq_of_mem_set hh with hh | rfl
        · exact hsub _ hh
        · exact m1
      · exact p1
    have hok2 : OKM n (beta r) (((hs1.set r (hs1.getD a 0)).set a (hs1.getD r 0)).map G) := by rw [hmw]; exact hok.swp hrn ha
    have hE2 : rkG rowI (n - (c + 1)) (elim (fun N k => rowI N r c k) (n - (r + 1)) (r + 1) (((hs1.set r (hs1.getD a 0)).set a (hs1.getD r 0)).map G)) (r + 1) (c + 1) = rkG rowI n A 0 0 := by
      rw [← hE, show n - c = (n - (c + 1)) + 1 by omega, hmw]
      simp only [rkG]
      rw [hok.1, hpa, if_neg (by omega)]
    generalize hh2 : (hs1.set r (hs1.getD a 0)).set a (hs1.getD r 0) = hs2 at *
    refine Run.keep [0, 3, 4, 6] ?_; simp only [AK, Nat.reduceBEq]
    refine Run.loopI (X := (Nat → List Int) × Nat) (fun x => ⟨118, [(0, true, .v (.own 0 0)), (3, true, .v (.int .i64 (r))), (4, true, .v (.int .i64 (c))), (6, true, .v (.int .i64 (x.2)))], [.gm D x.1 hs2 0 nn]⟩) (fun x => (r < x.2 ∧ x.2 ≤ n) ∧ Mid n r x.2 (hs2.map x.1) ∧ elim (fun N k => rowI N r c k) (n - x.2) x.2 (hs2.map x.1) = elim (fun N k => rowI N r c k) (n - (r + 1)) (r + 1) (hs2.map G)) (fun x => n - x.2) ((G, r + 1)) (⟨by omega, Mid.start hok2 _, rfl⟩) ?_ ?_
    · exact Le.sub (by first | rfl | simp) (by simp only [AW5, simprocAttr, hX]; try simp <;> try (first | rfl | exact ⟨rfl, rfl⟩ | exact ⟨rfl, rfl, rfl⟩))
    rintro ⟨H, k⟩ ⟨⟨hrk, hkn⟩, hmid, hel⟩ ihK
    try simp only []
    simp only [] at hrk hkn hmid hel
    clear ih hget m1 m2 m3 haa h h0 hpa p1 p2 p3 hh2 hmw hcc hrr hE hok hsub hin
    have hget : ∀ k, k < n → hs2.getD k 0 ∈ D ∧ (H (hs2.getD k 0)).length = n ∧ (hs2.map H).getD k [] = H (hs2.getD k 0) := fun k hk => by
      have e := map_getD H hs2 (k := k) (by omega)
      exact ⟨hsub2 _ (gdM (by omega)), by rw [← e]; exact (hmid.1.2 k hk).1, e⟩
    refine Run.nq ?_; refine Run.regionW hC (fun K hK => ?_); simp only [AW5, simprocAttr, hX]; (repeat (with_reducible refine And.intro ?_ ?_); exact vc0); refine hK _ ?_; clear hK K; refine Run.nq ?_
    refine Run.nq ?_; refine Run.condW (by simp only [AW5, simprocAttr, hX]; rfl) (by simp only [AW5, simprocAttr, hX]) ?_ ?_
    rotate_left
    · intro h
      have hkk : k = n := by simp at h; omega
      refine Run.exit rfl ?_; refine Run.nq ?_
      refine Run.nq ?_; refine Run.regionW hC (fun K hK => ?_); simp (disch := omega) only [wrap_id, AW5, simprocAttr, hX]; (repeat (with_reducible refine And.intro ?_ ?_); exact vc0); refine hK _ ?_; clear hK K; refine Run.nq ?_
      refine Run.nq ?_; refine Run.regionW hC (fun K hK => ?_); simp (disch := omega) only [wrap_id, AW5, simprocAttr, hX]; (repeat (with_reducible refine And.intro ?_ ?_); exact vc0); refine hK _ ?_; clear hK K; refine Run.nq ?_
      rw [hkk, Nat.sub_self] at hel
      simp only [elim] at hel
      rw [← hel] at hE2
      refine Run.le ?_ (ihO ((H, hs2, r + 1, c + 1)) (⟨hin2, hsub2, hmid.1, hrn, hc, hE2⟩) (by (try simp only [List.length_append, List.length_cons, List.length_nil]); omega))
      exact Le.sub (by rfl) (by simp only [AW5, simprocAttr]; try simp)
    intro h
    have hk : k < n := by simp at h; omega
    obtain ⟨p1, p2, p3⟩ := hget r hrn
    obtain ⟨q1, q2, q3⟩ := hget k hk
    refine Run.nq ?_; refine Run.regionD hC true [0,1,2,3,4,5,6,7,8,9,10,11,12,13,14,15] (by kernel_rfl) (fun K hK => ?_); simp only [AW5, simprocAttr, hX]; (repeat (with_reducible refine And.intro ?_ ?_); exact vc0)
    (repeat (with_reducible refine And.intro ?_ ?_); exact vc0); refine hK _ ?_; clear hK K; refine Run.nq ?_
    refine Run.nq ?_; refine Run.regionW hC (fun K hK => ?_); simp only [AW5, simprocAttr, hX]; (repeat (with_reducible refine And.intro ?_ ?_); exact vc0); refine hK _ ?_; clear hK K; refine Run.nq ?_
    refine Run.nq ?_; refine Run.condW (by simp only [AW5, simprocAttr, hX]; rfl) (by simp only [AW5, simprocAttr, hX]) ?_ ?_
    · intro h
      have h0 : ((hs2.map H).getD k []).getD c 0 = 0 := by rw [q3]; simpa using h
      refine Run.exit rfl ?_; refine Run.nq ?_
      refine Run.nq ?_; refine Run.regionW hC (fun K hK => ?_); simp (disch := omega) only [wrap_id, AW5, simprocAttr, hX]; (repeat (with_reducible refine And.intro ?_ ?_); exact vc0); refine hK _ ?_; clear hK K; refine Run.nq ?_
      have hel2 : elim (fun N k => rowI N r c k) (n - (k + 1)) (k + 1) (hs2.map H) = elim (fun N k => rowI N r c k) (n - (r + 1)) (r + 1) (hs2.map G) := by
        rw [← hel, show n - k = (n - (k + 1)) + 1 by omega]
        simp only [elim]
        unfold rowI
        rw [if_pos h0, set_self]
      refine Run.le ?_ (ihK ((H, k + 1)) (⟨⟨by omega, by omega⟩, hmid.skip hk, hel2⟩) (by (try simp only [List.length_append, List.length_cons, List.length_nil]); omega))
      exact Le.sub (by rfl) (by simp only [AW5, simprocAttr]; try simp)
    intro h
    have h0 : ((hs2.map H).getD k []).getD c 0 ≠ 0 := by rw [q3]; simpa using h
    have hrow := hmid.row (c := c) hk hrk hn
    have hel2 : elim (fun N k => rowI N r c k) (n - (k + 1)) (k + 1) ((hs2.map H).set k (rowS (hs2.map H) r c k)) = elim (fun N k => rowI N r c k) (n - (r + 1)) (r + 1) (hs2.map G) := by
      rw [← hel, show n - k = (n - (k + 1)) + 1 by omega]
      simp only [elim]
      unfold rowI
      rw [if_neg h0]
    refine Run.nq ?_; refine Run.regionW hC (fun K hK => ?_); simp only [AW5, simprocAttr, hX]; (repeat (with_reducible refine And.intro ?_ ?_); exact vc0); refine hK _ ?_; clear hK K; refine Run.nq ?_
    refine Run.keep [0, 3, 4, 6, 7, 8, 85, 86] ?_; simp only [AK, Nat.reduceBEq]
    have hZ : ∀ j, j < n → (rowS (hs2.map H) r c k).getD j 0 = (H (hs2.getD r 0)).getD c 0 * (H (hs2.getD k 0)).getD j 0 - (H (hs2.getD k 0)).getD c 0 * (H (hs2.getD r 0)).getD j 0 := fun j hj => by
      unfold rowS; rw [p3, q3, lin_get _ _ _ _ (by omega) (by omega)]
    have hrb := hmid.2 r hrn (.inl (Nat.le_refl _))
    have hkb := hmid.2 k hk (.inr (Nat.le_refl _))
    have b0 := beta_pos r
    have bq := beta_sq (r := r) (by omega)
    have b1 := beta_pos (r + 1)
    rw [p3] at hrb
    rw [q3] at hkb
    have hne : hs2.getD r 0 ≠ hs2.getD k 0 := fun e => by have := hin2 r k (by omega) (by omega) e; omega
    generalize hzz : rowS (hs2.map H) r c k = Z at *
    refine Run.loopI (X := (Nat → List Int) × Nat) (fun x => ⟨118, [(0, true, .v (.own 0 0)), (3, true, .v (.int .i64 (r))), (4, true, .v (.int .i64 (c))), (6, true, .v (.int .i64 (k))), (7, true, .v (.int .i64 ((H (hs2.getD r 0)).getD c 0))), (8, true, .v (.int .i64 ((H (hs2.getD k 0)).getD c 0))), (85, true, .v (.int .i64 ((H (hs2.getD k 0)).length))), (86, true, .v (.int .i64 (x.2)))], [.gm D x.1 hs2 0 nn]⟩) (fun x => x.2 ≤ n ∧ (∀ q, q ≠ hs2.getD k 0 → x.1 q = H q) ∧ x.1 (hs2.getD k 0) = half (H (hs2.getD k 0)) Z x.2) (fun x => n - x.2) ((H, 0)) (⟨by omega, fun _ _ => rfl, by rw [half_zero]⟩) ?_ ?_
    · exact Le.sub (by first | rfl | simp) (by simp only [AW5, simprocAttr, hX]; try simp <;> try (first | rfl | exact ⟨rfl, rfl⟩ | exact ⟨rfl, rfl, rfl⟩))
    rintro ⟨J, j⟩ ⟨hjn, hJ1, hJ2⟩ ihJ
    try simp only []
    simp only [] at hjn hJ1 hJ2
    have l1 : (J (hs2.getD k 0)).length = n := by rw [hJ2, half_len (by omega), q2]
    have l2 : (J (hs2.getD r 0)).length = n := by rw [hJ1 _ hne, p2]
    refine Run.nq ?_; refine Run.regionW hC (fun K hK => ?_); simp only [AW5, simprocAttr, hX]; (repeat (with_reducible refine And.intro ?_ ?_); exact vc0); refine hK _ ?_; clear hK K; refine Run.nq ?_
    refine Run.nq ?_; refine Run.condW (by simp only [AW5, simprocAttr, hX]; rfl) (by simp only [AW5, simprocAttr, hX]) ?_ ?_
    rotate_left
    · intro h
      have hjj : j = n := by rw [decide_eq_false_iff_not] at h; omega
      refine Run.exit rfl ?_; refine Run.nq ?_
      refine Run.nq ?_; refine Run.regionW hC (fun K hK => ?_); simp (disch := omega) only [wrap_id, AW5, simprocAttr, hX]; (repeat (with_reducible refine And.intro ?_ ?_); exact vc0); refine hK _ ?_; clear hK K; refine Run.nq ?_
      rw [hjj, ← q2, half_all (by omega)] at hJ2
      have hmp := map_upd hin2 (F2 := J) (F := H) (k := k) (by omega) hJ1
      rw [hJ2] at hmp
      have hm2 := hmid.put hk hrk hrow
      rw [← hmp] at hm2 hel2
      refine Run.le ?_ (ihK ((J, k + 1)) (⟨⟨by omega, by omega⟩, hm2, hel2⟩) (by (try simp only [List.length_append, List.length_cons, List.length_nil]); omega))
      exact Le.sub (by rfl) (by simp only [AW5, simprocAttr]; try simp)
    intro h
    have hj : j < n := by rw [decide_eq_true_eq] at h; omega
    refine Run.nq ?_; refine Run.regionW hC (fun K hK => ?_); simp only [AW5, simprocAttr, hX]; (repeat (with_reducible refine And.intro ?_ ?_); exact vc0); refine hK _ ?_; clear hK K; refine Run.nq ?_
    refine Run.nq ?_; refine Run.regionD hC true [0,1,2,3,4,5,6,7,8,9,10,11,12,13,14,15,16,17,18,19,20,21,22,23,24,25] (by kernel_rfl) (fun K hK => ?_); simp only [AW5, simprocAttr, hX]; (repeat (with_reducible refine And.intro ?_ ?_); exact vc0)
    (repeat (with_reducible refine And.intro ?_ ?_); exact vc0); refine hK _ ?_; clear hK K; refine Run.nq ?_
    have e1 : IntKind.i64.wrap (IntKind.i64.wrap ((H (hs2.getD r 0)).getD c 0 * (J (hs2.getD k 0)).getD j 0) - IntKind.i64.wrap ((H (hs2.getD k 0)).getD c 0 * (J (hs2.getD r 0)).getD j 0)) = Z.getD j 0 := by
      rw [hJ2, half_get (by omega) (by omega), hJ1 _ hne, hZ j hj]
      have m1 := mul_bnd (hrb.at' (by omega) c) (hkb.at' (by omega) j)
      have m2 := mul_bnd (hkb.at' (by omega) c) (hrb.at' (by omega) j)
      have w1 := wrap_id (n := (H (hs2.getD r 0)).getD c 0 * (H (hs2.getD k 0)).getD j 0) (by omega)
      have w2 := wrap_id (n := (H (hs2.getD k 0)).getD c 0 * (H (hs2.getD r 0)).getD j 0) (by omega)
      rw [w1, w2, wrap_id (by omega)]
    simp only [e1]
    refine Run.nq ?_; refine Run.regionW hC (fun K hK => ?_); simp (disch := omega) only [wrap_id, AW5, simprocAttr, hX]; (repeat (with_reducible refine And.intro ?_ ?_); exact vc0); refine hK _ ?_; clear hK K; refine Run.nq ?_
    have hJ3 : ∀ q, q ≠ hs2.getD k 0 → updF J (hs2.getD k 0) j (Z.getD j 0) q = H q := fun q hq => by
      unfold updF; rw [if_neg hq]; exact hJ1 q hq
    have hJ4 : updF J (hs2.getD k 0) j (Z.getD j 0) (hs2.getD k 0) = half (H (hs2.getD k 0)) Z (j + 1) := by
      unfold updF; rw [if_pos rfl, hJ2, half_set (by omega) (by omega)]
    refine Run.le ?_ (ihJ ((updF J (hs2.getD k 0) j (Z.getD j 0), j + 1)) (⟨by omega, hJ3, hJ4⟩) (by (try simp only [List.length_append, List.length_cons, List.length_nil]); omega))
    exact Le.sub (by rfl) (by simp only [AW5, simprocAttr]; try simp)
  · have haa : decide ((a : Int) < hs1.length) = false := by rw [decide_eq_false_iff_not]; omega
    have hae : a = n := by omega
    refine Run.nq ?_; refine Run.regionW hC (fun K hK => ?_); simp only [AW5, simprocAttr, hX]; (repeat (with_reducible refine And.intro ?_ ?_); exact vc0)
    simp only [haa]
    (try simp only [AW5, simprocAttr, hX]); (repeat (with_reducible refine And.intro ?_ ?_); exact vc0)
    (repeat (with_reducible refine And.intro ?_ ?_); exact vc0); refine hK _ ?_; clear hK K; refine Run.nq ?_
    refine Run.nq ?_; refine Run.condW (by simp only [AW5, simprocAttr, hX]; rfl) (by simp only [AW5, simprocAttr, hX]) ?_ ?_
    · intro h; cases h
    intro _
    refine Run.exit rfl ?_; refine Run.nq ?_
    refine Run.nq ?_; refine Run.regionW hC (fun K hK => ?_); simp only [AW5, simprocAttr, hX]; (repeat (with_reducible refine And.intro ?_ ?_); exact vc0); refine hK _ ?_; clear hK K; refine Run.nq ?_
    refine Run.nq ?_; refine Run.condW (by simp only [AW5, simprocAttr, hX]; rfl) (by simp only [AW5, simprocAttr, hX]) ?_ ?_
    rotate_left
    · intro h; exfalso; simp at h; omega
    intro _
    refine Run.exit rfl ?_; refine Run.nq ?_
    refine Run.nq ?_; refine Run.regionW hC (fun K hK => ?_); simp (disch := omega) only [wrap_id, AW5, simprocAttr, hX]; (repeat (with_reducible refine And.intro ?_ ?_); exact vc0); refine hK _ ?_; clear hK K; refine Run.nq ?_
    have hpv : pvt (hs1.map G) c (n - r) r = n := by rw [← hpv, hae, Nat.sub_self]; rfl
    have hE2 := hE
    rw [show n - c = (n - (c + 1)) + 1 by omega] at hE2
    simp only [rkG] at hE2
    rw [hok.1, if_pos hpv] at hE2
    refine Run.le ?_ (ihO ((G, hs1, r, c + 1)) (⟨hin, hsub, hok, hr, hc, hE2⟩) (by (try simp only [List.length_append, List.length_cons, List.length_nil]); omega))
    exact Le.sub (by rfl) (by simp only [AW5, simprocAttr]; try simp)
end Go.Proofs.Ytnhiamdnghgboaa
