/- Root vectors: sums, signs, reflections: what the functions of both sides do. -/
import Derived.Test.YtnhiamdnghgboaaDet
import Derived.Test.YtnhiamdnghgboaaGrow2
import Derived.Test.YtnhiamdnghgboaaWeak
set_option linter.unusedVariables false
set_option linter.unusedSimpArgs false
namespace Go.Proofs.Ytnhiamdnghgboaa
open Go Go.Aw Go.Cox

def hgt : List Int → Int
  | [] => 0
  | x :: r => x + hgt r
theorem hgt_append : ∀ a b : List Int, hgt (a ++ b) = hgt a + hgt b
  | [], b => by simp [hgt]
  | x :: a, b => by simp [hgt, hgt_append a b]; omega
theorem hgt_snoc (r : List Int) (k : Nat) (h : k < r.length) : hgt (r.take (k + 1)) = hgt (r.take k) + r.getD k 0 := by
  rw [← take_snoc 0 r k h, hgt_append]; simp [hgt]
def Bnd (M : Int) (r : List Int) : Prop := ∀ x ∈ r, -M ≤ x ∧ x ≤ M
theorem hgt_bnd {M : Int} : ∀ {r : List Int}, Bnd M r → -(M * r.length) ≤ hgt r ∧ hgt r ≤ M * r.length
  | [], _ => by simp [hgt]
  | x :: r, h => by
    have h1 := h x (List.mem_cons_self ..)
    have h2 := hgt_bnd (r := r) (fun y hy => h y (List.mem_cons_of_mem _ hy))
    simp only [hgt, List.length_cons]
    have e : M * ((r.length + 1 : Nat) : Int) = M * r.length + M := by push_cast; grind
    rw [e]; omega
theorem Bnd.take {M : Int} {r : List Int} (h : Bnd M r) (k : Nat) : Bnd M (r.take k) := fun x hx => h x (List.mem_of_mem_take hx)
theorem Bnd.get {M : Int} {r : List Int} (h : Bnd M r) {k : Nat} (hk : k < r.length) : -M ≤ r.getD k 0 ∧ r.getD k 0 ≤ M := h _ (getD_mem hk)
theorem hgt_pre {r : List Int} (h : Bnd 1000000000000000000 r) (hl : r.length ≤ 4) (k : Nat) : -4000000000000000000 ≤ hgt (r.take k) ∧ hgt (r.take k) ≤ 4000000000000000000 := by
  have := hgt_bnd (h.take k)
  have hk : (r.take k).length ≤ 4 := by simp; omega
  omega

theorem c_impl_HeightOf (r : List Int) (h : Bnd 1000000000000000000 r) (hl : r.length ≤ 4) : FunA B 77 [.sl false .int r] (fun rs o => rs = [.int .i64 (hgt r)] ∧ o = []) := by
  refine FunA.walk B_ok (fn := Try.f77) (fun vs w => Try.call77 vs w) Try.func77 rfl (by rw [Try.ntmps77]; simp) (fun C hC hP hT hΓ hbt hfn hpin hfin => ?_); have hX := BX; rw [← hΓ, ← hbt] at hX; rw [Try.ntmps77]; simp only [AW5, simprocAttr, hX]
  refine Run.nq ?_; refine Run.regionW hC (fun K hK => ?_); simp only [AW5, simprocAttr, hX]; (repeat (with_reducible refine And.intro ?_ ?_); exact vc0); refine hK _ ?_; clear hK K; refine Run.nq ?_
  refine Run.nq ?_; refine Run.regionW hC (fun K hK => ?_); simp only [AW5, simprocAttr, hX]; (repeat (with_reducible refine And.intro ?_ ?_); exact vc0); refine hK _ ?_; clear hK K; refine Run.nq ?_
  refine Run.nq ?_; refine Run.regionW hC (fun K hK => ?_); simp only [AW5, simprocAttr, hX]; (repeat (with_reducible refine And.intro ?_ ?_); exact vc0); refine hK _ ?_; clear hK K; refine Run.nq ?_
  refine Run.loopI (X := Nat) (fun k => ⟨17, [(0, true, .v (.sl false .int (r))), (2, true, .v (.int .i64 (0))), (3, true, .v (.int .i64 ((hgt (r.take k))))), (6, true, .v (.sl false .int (r))), (7, true, .v (.int .i64 (r.length))), (8, true, .v (.int .i64 (k)))], []⟩) (fun k => k ≤ r.length) (fun k => r.length - k) (0) (Nat.zero_le _) ?_ ?_
  · exact Le.sub (by first | rfl | simp) (by simp only [AW5, simprocAttr, hX]; try simp <;> try (first | rfl | exact ⟨rfl, rfl⟩ | exact ⟨rfl, rfl, rfl⟩))
  rintro k hk ih
  try simp only []
  refine Run.nq ?_; refine Run.regionW hC (fun K hK => ?_); simp only [AW5, simprocAttr, hX]; (repeat (with_reducible refine And.intro ?_ ?_); exact vc0); refine hK _ ?_; clear hK K; refine Run.nq ?_
  refine Run.nq ?_; refine Run.condW (by simp only [AW5, simprocAttr, hX]; rfl) (by simp only [AW5, simprocAttr, hX]) ?_ ?_
  · intro hc
    have hc : k < r.length := by simpa using hc
    have hs := hgt_snoc r k hc
    have h1 := hgt_pre h hl (k + 1)
    rw [hs] at h1
    refine Run.nq ?_; refine Run.regionW hC (fun K hK => ?_); simp only [AW5, simprocAttr, hX]; (repeat (with_reducible refine And.intro ?_ ?_); exact vc0); refine hK _ ?_; clear hK K; refine Run.nq ?_
    refine Run.nq ?_; refine Run.regionW hC (fun K hK => ?_); simp (disch := omega) only [wrap_id, AW5, simprocAttr, hX]; (repeat (with_reducible refine And.intro ?_ ?_); exact vc0); refine hK _ ?_; clear hK K; refine Run.nq ?_
    rw [← hs]
    refine Run.nq ?_; refine Run.regionW hC (fun K hK => ?_); simp (disch := omega) only [wrap_id, AW5, simprocAttr, hX]; (repeat (with_reducible refine And.intro ?_ ?_); exact vc0); refine hK _ ?_; clear hK K; refine Run.nq ?_
    refine Run.le ?_ (ih (k + 1) (by omega) (by (try simp only [List.length_append, List.length_cons, List.length_nil]); omega))
    exact Le.sub (by rfl) (by simp only [AW5, simprocAttr]; try simp)
  · intro hc
    have hc : k = r.length := by simp at hc; omega
    subst hc
    rw [List.take_length]
    refine Run.exit rfl ?_; refine Run.nq ?_
    refine Run.nq ?_; refine Run.regionW hC (fun K hK => ?_); simp only [AW5, simprocAttr, hX]; (repeat (with_reducible refine And.intro ?_ ?_); exact vc0); refine hK _ ?_; clear hK K; refine Run.nq ?_
    refine Run.retW [2] (by decide) (by rw [hfn]; rfl) (by simp only [AW5, simprocAttr, hX]; rfl) (by simp only [AW5, simprocAttr, hX]) (hfin _ _ rfl rfl ?_)
    exact ⟨rfl, rfl⟩

theorem c_spec_HeightOf (r : List Int) (h : Bnd 1000000000000000000 r) (hl : r.length ≤ 4) : FunA B 73 [.sl false .int r] (fun rs o => rs = [.int .i64 (hgt r)] ∧ o = []) := by
  refine FunA.walk B_ok (fn := Try.f73) (fun vs w => Try.call73 vs w) Try.func73 rfl (by rw [Try.ntmps73]; simp) (fun C hC hP hT hΓ hbt hfn hpin hfin => ?_); have hX := BX; rw [← hΓ, ← hbt] at hX; rw [Try.ntmps73]; simp only [AW5, simprocAttr, hX]
  refine Run.nq ?_; refine Run.regionW hC (fun K hK => ?_); simp only [AW5, simprocAttr, hX]; (repeat (with_reducible refine And.intro ?_ ?_); exact vc0); refine hK _ ?_; clear hK K; refine Run.nq ?_
  refine Run.nq ?_; refine Run.regionW hC (fun K hK => ?_); simp only [AW5, simprocAttr, hX]; (repeat (with_reducible refine And.intro ?_ ?_); exact vc0); refine hK _ ?_; clear hK K; refine Run.nq ?_
  refine Run.nq ?_; refine Run.regionW hC (fun K hK => ?_); simp only [AW5, simprocAttr, hX]; (repeat (with_reducible refine And.intro ?_ ?_); exact vc0); refine hK _ ?_; clear hK K; refine Run.nq ?_
  refine Run.loopI (X := Nat) (fun k => ⟨18, [(0, true, .v (.sl false .int (r))), (2, true, .v (.int .i64 (0))), (3, true, .v (.int .i64 ((hgt (r.take k))))), (4, true, .v (.int .i64 (k)))], []⟩) (fun k => k ≤ r.length) (fun k => r.length - k) (0) (Nat.zero_le _) ?_ ?_
  · exact Le.sub (by first | rfl | simp) (by simp only [AW5, simprocAttr, hX]; try simp <;> try (first | rfl | exact ⟨rfl, rfl⟩ | exact ⟨rfl, rfl, rfl⟩))
  rintro k hk ih
  try simp only []
  refine Run.nq ?_; refine Run.regionW hC (fun K hK => ?_); simp only [AW5, simprocAttr, hX]; (repeat (with_reducible refine And.intro ?_ ?_); exact vc0); refine hK _ ?_; clear hK K; refine Run.nq ?_
  refine Run.nq ?_; refine Run.condW (by simp only [AW5, simprocAttr, hX]; rfl) (by simp only [AW5, simprocAttr, hX]) ?_ ?_
  · intro hc
    have hc : k < r.length := by simpa using hc
    have hs := hgt_snoc r k hc
    have h1 := hgt_pre h hl (k + 1)
    rw [hs] at h1
    refine Run.nq ?_; refine Run.regionW hC (fun K hK => ?_); simp (disch := omega) only [wrap_id, AW5, simprocAttr, hX]; (repeat (with_reducible refine And.intro ?_ ?_); exact vc0); refine hK _ ?_; clear hK K; refine Run.nq ?_
    rw [← hs]
    refine Run.nq ?_; refine Run.regionW hC (fun K hK => ?_); simp (disch := omega) only [wrap_id, AW5, simprocAttr, hX]; (repeat (with_reducible refine And.intro ?_ ?_); exact vc0); refine hK _ ?_; clear hK K; refine Run.nq ?_
    refine Run.le ?_ (ih (k + 1) (by omega) (by (try simp only [List.length_append, List.length_cons, List.length_nil]); omega))
    exact Le.sub (by rfl) (by simp only [AW5, simprocAttr]; try simp)
  · intro hc
    have hc : k = r.length := by simp at hc; omega
    subst hc
    rw [List.take_length]
    refine Run.exit rfl ?_; refine Run.nq ?_
    refine Run.nq ?_; refine Run.regionW hC (fun K hK => ?_); simp only [AW5, simprocAttr, hX]; (repeat (with_reducible refine And.intro ?_ ?_); exact vc0); refine hK _ ?_; clear hK K; refine Run.nq ?_
    refine Run.retW [2] (by decide) (by rw [hfn]; rfl) (by simp only [AW5, simprocAttr, hX]; rfl) (by simp only [AW5, simprocAttr, hX]) (hfin _ _ rfl rfl ?_)
    exact ⟨rfl, rfl⟩

/-! ### Signs -/
def posA (r : List Int) : Bool := r.any fun x => decide (0 < x)
def negA (r : List Int) : Bool := r.any fun x => decide (x < 0)
def sgnR (r : List Int) : Int := bif posA r && !negA r then 1 else bif negA r && !posA r then -1 else 0
theorem any_snoc (p : Int → Bool) (w : List Int) (i : Nat) (h : i < w.length) : (w.take (i + 1)).any p = ((w.take i).any p || p (w.getD i 0)) := by
  rw [← take_snoc 0 w i h]; simp
theorem sgnR_one {r : List Int} : sgnR r = 1 ↔ posA r = true ∧ negA r = false := by
  unfold sgnR; cases posA r <;> cases negA r <;> simp
theorem sgnR_pos {r : List Int} : sgnR r ≤ 0 ↔ ¬ sgnR r = 1 := by
  unfold sgnR; cases posA r <;> cases negA r <;> simp

theorem c_impl_RootSign (r : List Int) : FunA B 76 [.sl false .int r] (fun rs o => rs = [.int .i64 (sgnR r)] ∧ o = []) := by
  refine FunA.walk B_ok (fn := Try.f76) (fun vs w => Try.call76 vs w) Try.func76 rfl (by rw [Try.ntmps76]; simp) (fun C hC hP hT hΓ hbt hfn hpin hfin => ?_); have hX := BX; rw [← hΓ, ← hbt] at hX; rw [Try.ntmps76]; simp only [AW5, simprocAttr, hX]
  refine Run.len 0 rfl (fun hl => ?_)
  refine Run.nq ?_; refine Run.regionW hC (fun K hK => ?_); simp only [AW5, simprocAttr, hX]; (repeat (with_reducible refine And.intro ?_ ?_); exact vc0); refine hK _ ?_; clear hK K; refine Run.nq ?_
  refine Run.nq ?_; refine Run.regionW hC (fun K hK => ?_); simp only [AW5, simprocAttr, hX]; (repeat (with_reducible refine And.intro ?_ ?_); exact vc0); refine hK _ ?_; clear hK K; refine Run.nq ?_
  refine Run.nq ?_; refine Run.regionW hC (fun K hK => ?_); simp only [AW5, simprocAttr, hX]; (repeat (with_reducible refine And.intro ?_ ?_); exact vc0); refine hK _ ?_; clear hK K; refine Run.nq ?_
  refine Run.loopI (X := Nat) (fun k => ⟨36, [(0, true, .v (.sl false .int (r))), (2, true, .v (.int .i64 (0))), (3, true, .v (.bool ((posA (r.take k))))), (4, true, .v (.bool ((negA (r.take k))))), (7, true, .v (.sl false .int (r))), (8, true, .v (.int .i64 (r.length))), (9, true, .v (.int .i64 (k)))], []⟩) (fun k => k ≤ r.length) (fun k => r.length - k) (0) (Nat.zero_le _) ?_ ?_
  · exact Le.sub (by first | rfl | simp) (by simp only [AW5, simprocAttr, hX]; try simp <;> try (first | rfl | exact ⟨rfl, rfl⟩ | exact ⟨rfl, rfl, rfl⟩))
  rintro k hk ih
  try simp only []
  refine Run.nq ?_; refine Run.regionW hC (fun K hK => ?_); simp only [AW5, simprocAttr, hX]; (repeat (with_reducible refine And.intro ?_ ?_); exact vc0); refine hK _ ?_; clear hK K; refine Run.nq ?_
  refine Run.nq ?_; refine Run.condW (by simp only [AW5, simprocAttr, hX]; rfl) (by simp only [AW5, simprocAttr, hX]) ?_ ?_
  · intro hc
    have hc : k < r.length := by simpa using hc
    have h1 : posA (r.take (k + 1)) = (posA (r.take k) || decide (0 < r.getD k 0)) := any_snoc _ r k hc
    have h2 : negA (r.take (k + 1)) = (negA (r.take k) || decide (r.getD k 0 < 0)) := any_snoc _ r k hc
    refine Run.nq ?_; refine Run.regionW hC (fun K hK => ?_); simp only [AW5, simprocAttr, hX]; (repeat (with_reducible refine And.intro ?_ ?_); exact vc0); refine hK _ ?_; clear hK K; refine Run.nq ?_
    refine Run.nq ?_; refine Run.regionW hC (fun K hK => ?_); simp only [AW5, simprocAttr, hX]; (repeat (with_reducible refine And.intro ?_ ?_); exact vc0); refine hK _ ?_; clear hK K; refine Run.nq ?_
    refine Run.nq ?_; refine Run.regionW hC (fun K hK => ?_); simp only [AW5, simprocAttr, hX]; (repeat (with_reducible refine And.intro ?_ ?_); exact vc0); refine hK _ ?_; clear hK K; refine Run.nq ?_
    refine Run.nq ?_; refine Run.regionW hC (fun K hK => ?_); simp (disch := omega) only [wrap_id, AW5, simprocAttr, hX]; (repeat (with_reducible refine And.intro ?_ ?_); exact vc0); refine hK _ ?_; clear hK K; refine Run.nq ?_
    refine Run.le ?_ (ih (k + 1) (by omega) (by omega))
    exact Le.sub (by rfl) (by rw [h1, h2]; simp only [AW5, simprocAttr]; simp)
  · intro hc
    have hc : k = r.length := by simp at hc; omega
    subst hc
    rw [List.take_length]
    refine Run.exit rfl ?_; refine Run.nq ?_
    refine Run.nq ?_; refine Run.regionW hC (fun K hK => ?_); simp only [AW5, simprocAttr, hX]; (repeat (with_reducible refine And.intro ?_ ?_); exact vc0); refine hK _ ?_; clear hK K; refine Run.nq ?_
    refine Run.nq ?_; refine Run.condW (by simp only [AW5, simprocAttr, hX]; rfl) (by simp only [AW5, simprocAttr, hX]) ?_ ?_
    · intro h1
      have h1 : posA r = true ∧ negA r = false := by revert h1; cases posA r <;> cases negA r <;> simp
      refine Run.nq ?_; refine Run.regionW hC (fun K hK => ?_); simp only [AW5, simprocAttr, hX]; (repeat (with_reducible refine And.intro ?_ ?_); exact vc0); refine hK _ ?_; clear hK K; refine Run.nq ?_
      refine Run.retW [2] (by decide) (by rw [hfn]; rfl) (by simp only [AW5, simprocAttr, hX]; rfl) (by simp only [AW5, simprocAttr, hX]) (hfin _ _ rfl rfl ?_)
      exact ⟨by rw [sgnR_one.2 h1], rfl⟩
    · intro h1
      refine Run.nq ?_; refine Run.regionW hC (fun K hK => ?_); simp only [AW5, simprocAttr, hX]; (repeat (with_reducible refine And.intro ?_ ?_); exact vc0); refine hK _ ?_; clear hK K; refine Run.nq ?_
      refine Run.nq ?_; refine Run.condW (by simp only [AW5, simprocAttr, hX]; rfl) (by simp only [AW5, simprocAttr, hX]) ?_ ?_
      · intro h2
        refine Run.nq ?_; refine Run.regionW hC (fun K hK => ?_); simp only [AW5, simprocAttr, hX]; (repeat (with_reducible refine And.intro ?_ ?_); exact vc0); refine hK _ ?_; clear hK K; refine Run.nq ?_
        refine Run.retW [2] (by decide) (by rw [hfn]; rfl) (by simp only [AW5, simprocAttr, hX]; rfl) (by simp only [AW5, simprocAttr, hX]) (hfin _ _ rfl rfl ?_)
        refine ⟨?_, rfl⟩
        revert h1 h2
        unfold sgnR
        cases posA r <;> cases negA r <;> simp
      · intro h2
        refine Run.nq ?_; refine Run.regionW hC (fun K hK => ?_); simp only [AW5, simprocAttr, hX]; (repeat (with_reducible refine And.intro ?_ ?_); exact vc0); refine hK _ ?_; clear hK K; refine Run.nq ?_
        refine Run.retW [2] (by decide) (by rw [hfn]; rfl) (by simp only [AW5, simprocAttr, hX]; rfl) (by simp only [AW5, simprocAttr, hX]) (hfin _ _ rfl rfl ?_)
        refine ⟨?_, rfl⟩
        revert h1 h2
        unfold sgnR
        cases posA r <;> cases negA r <;> simp

theorem c_spec_RootSign (r : List Int) : FunA B 69 [.sl false .int r] (fun rs o => rs = [.int .i64 (sgnR r)] ∧ o = []) := by
  refine FunA.walk B_ok (fn := Try.f69) (fun vs w => Try.call69 vs w) Try.func69 rfl (by rw [Try.ntmps69]; simp) (fun C hC hP hT hΓ hbt hfn hpin hfin => ?_); have hX := BX; rw [← hΓ, ← hbt] at hX; rw [Try.ntmps69]; simp only [AW5, simprocAttr, hX]
  refine Run.len 0 rfl (fun hl => ?_)
  refine Run.nq ?_; refine Run.regionW hC (fun K hK => ?_); simp only [AW5, simprocAttr, hX]; (repeat (with_reducible refine And.intro ?_ ?_); exact vc0); refine hK _ ?_; clear hK K; refine Run.nq ?_
  refine Run.nq ?_; refine Run.regionW hC (fun K hK => ?_); simp only [AW5, simprocAttr, hX]; (repeat (with_reducible refine And.intro ?_ ?_); exact vc0); refine hK _ ?_; clear hK K; refine Run.nq ?_
  refine Run.nq ?_; refine Run.regionW hC (fun K hK => ?_); simp only [AW5, simprocAttr, hX]; (repeat (with_reducible refine And.intro ?_ ?_); exact vc0); refine hK _ ?_; clear hK K; refine Run.nq ?_
  refine Run.nq ?_; refine Run.regionW hC (fun K hK => ?_); simp only [AW5, simprocAttr, hX]; (repeat (with_reducible refine And.intro ?_ ?_); exact vc0); refine hK _ ?_; clear hK K; refine Run.nq ?_
  refine Run.loopI (X := Nat) (fun k => ⟨32, [(0, true, .v (.sl false .int (r))), (2, true, .v (.int .i64 (0))), (3, true, .v (.bool ((posA (r.take k))))), (4, true, .v (.bool ((negA (r.take k))))), (5, true, .v (.int .i64 (k)))], []⟩) (fun k => k ≤ r.length) (fun k => r.length - k) (0) (Nat.zero_le _) ?_ ?_
  · exact Le.sub (by first | rfl | simp) (by simp only [AW5, simprocAttr, hX]; try simp <;> try (first | rfl | exact ⟨rfl, rfl⟩ | exact ⟨rfl, rfl, rfl⟩))
  rintro k hk ih
  try simp only []
  refine Run.nq ?_; refine Run.regionW hC (fun K hK => ?_); simp only [AW5, simprocAttr, hX]; (repeat (with_reducible refine And.intro ?_ ?_); exact vc0); refine hK _ ?_; clear hK K; refine Run.nq ?_
  refine Run.nq ?_; refine Run.condW (by simp only [AW5, simprocAttr, hX]; rfl) (by simp only [AW5, simprocAttr, hX]) ?_ ?_
  · intro hc
    have hc : k < r.length := by simpa using hc
    have h1 : posA (r.take (k + 1)) = (posA (r.take k) || decide (0 < r.getD k 0)) := any_snoc _ r k hc
    have h2 : negA (r.take (k + 1)) = (negA (r.take k) || decide (r.getD k 0 < 0)) := any_snoc _ r k hc
    refine Run.nq ?_; refine Run.regionW hC (fun K hK => ?_); simp only [AW5, simprocAttr, hX]; (repeat (with_reducible refine And.intro ?_ ?_); exact vc0); refine hK _ ?_; clear hK K; refine Run.nq ?_
    refine Run.nq ?_; refine Run.regionW hC (fun K hK => ?_); simp only [AW5, simprocAttr, hX]; (repeat (with_reducible refine And.intro ?_ ?_); exact vc0); refine hK _ ?_; clear hK K; refine Run.nq ?_
    refine Run.nq ?_; refine Run.regionW hC (fun K hK => ?_); simp (disch := omega) only [wrap_id, AW5, simprocAttr, hX]; (repeat (with_reducible refine And.intro ?_ ?_); exact vc0); refine hK _ ?_; clear hK K; refine Run.nq ?_
    refine Run.le ?_ (ih (k + 1) (by omega) (by omega))
    exact Le.sub (by rfl) (by rw [h1, h2]; simp only [AW5, simprocAttr]; simp)
  · intro hc
    have hc : k = r.length := by simp at hc; omega
    subst hc
    rw [List.take_length]
    refine Run.exit rfl ?_; refine Run.nq ?_
    refine Run.nq ?_; refine Run.regionW hC (fun K hK => ?_); simp only [AW5, simprocAttr, hX]; (repeat (with_reducible refine And.intro ?_ ?_); exact vc0); refine hK _ ?_; clear hK K; refine Run.nq ?_
    refine Run.nq ?_; refine Run.condW (by simp only [AW5, simprocAttr, hX]; rfl) (by simp only [AW5, simprocAttr, hX]) ?_ ?_
    · intro h1
      refine Run.nq ?_; refine Run.regionW hC (fun K hK => ?_); simp only [AW5, simprocAttr, hX]; (repeat (with_reducible refine And.intro ?_ ?_); exact vc0); refine hK _ ?_; clear hK K; refine Run.nq ?_
      refine Run.retW [2] (by decide) (by rw [hfn]; rfl) (by simp only [AW5, simprocAttr, hX]; rfl) (by simp only [AW5, simprocAttr, hX]) (hfin _ _ rfl rfl ?_)
      refine ⟨?_, rfl⟩
      revert h1
      unfold sgnR
      cases posA r <;> cases negA r <;> simp
    · intro h1
      refine Run.nq ?_; refine Run.regionW hC (fun K hK => ?_); simp only [AW5, simprocAttr, hX]; (repeat (with_reducible refine And.intro ?_ ?_); exact vc0); refine hK _ ?_; clear hK K; refine Run.nq ?_
      refine Run.nq ?_; refine Run.condW (by simp only [AW5, simprocAttr, hX]; rfl) (by simp only [AW5, simprocAttr, hX]) ?_ ?_
      · intro h2
        refine Run.nq ?_; refine Run.regionW hC (fun K hK => ?_); simp only [AW5, simprocAttr, hX]; (repeat (with_reducible refine And.intro ?_ ?_); exact vc0); refine hK _ ?_; clear hK K; refine Run.nq ?_
        refine Run.retW [2] (by decide) (by rw [hfn]; rfl) (by simp only [AW5, simprocAttr, hX]; rfl) (by simp only [AW5, simprocAttr, hX]) (hfin _ _ rfl rfl ?_)
        refine ⟨?_, rfl⟩
        revert h1 h2
        unfold sgnR
        cases posA r <;> cases negA r <;> simp
      · intro h2
        refine Run.nq ?_; refine Run.regionW hC (fun K hK => ?_); simp only [AW5, simprocAttr, hX]; (repeat (with_reducible refine And.intro ?_ ?_); exact vc0); refine hK _ ?_; clear hK K; refine Run.nq ?_
        refine Run.retW [2] (by decide) (by rw [hfn]; rfl) (by simp only [AW5, simprocAttr, hX]; rfl) (by simp only [AW5, simprocAttr, hX]) (hfin _ _ rfl rfl ?_)
        refine ⟨?_, rfl⟩
        revert h1 h2
        unfold sgnR
        cases posA r <;> cases negA r <;> simp
end Go.Proofs.Ytnhiamdnghgboaa
