/- What the laws' helpers on matrices do. -/
import Derived.Test.YtdhfonblpbpmmaaBase
set_option linter.unusedVariables false
set_option linter.unusedSimpArgs false
namespace Go.Proofs.Ytdhfonblpbpmmaa
open Go Go.Aw

def szI (p : List Int) (l : Int) : Int := if l - p.length < 0 then -1 else l - p.length
def szR : List (List Int) → Int → Int
  | [], l => l
  | r :: rs, l => if szI r l < 0 then -1 else szR rs (szI r l)
def szII (rows : List (List Int)) (l : Int) : Int := if l - rows.length < 0 then -1 else szR rows (l - rows.length)

theorem szR_le : ∀ (rows : List (List Int)) (l : Int), 0 ≤ l → 0 ≤ szR rows l → szR rows l ≤ l ∧ ∀ r ∈ rows, (r.length : Int) ≤ l
  | [], l, _, _ => ⟨Int.le_refl _, by simp⟩
  | r :: rs, l, h0, h => by
    simp only [szR] at h ⊢
    by_cases hs : szI r l < 0
    · rw [if_pos hs] at h; omega
    · rw [if_neg hs] at h ⊢
      have h1 : 0 ≤ szI r l := by omega
      have h2 : szI r l = l - r.length := by unfold szI at h1 ⊢; split <;> simp_all
      obtain ⟨h3, h4⟩ := szR_le rs _ h1 h
      refine ⟨by omega, fun q hq => ?_⟩
      rcases List.mem_cons.1 hq with rfl | hq
      · omega
      · have := h4 q hq; omega
theorem szII_le (rows : List (List Int)) (l : Int) (h0 : 0 ≤ l) (h : 0 ≤ szII rows l) : (rows.length : Int) ≤ l ∧ ∀ r ∈ rows, (r.length : Int) ≤ l := by
  unfold szII at h
  split at h
  · omega
  · obtain ⟨h1, h2⟩ := szR_le rows (l - rows.length) (by omega) h
    exact ⟨by omega, fun r hr => by have := h2 r hr; omega⟩

theorem c_szIntS (p : List Int) (l : Int) (hl : 0 ≤ l ∧ l ≤ 1048576) : FunA B 30 [.sl false .int p, .int .i64 l] (fun rs o => rs = [.int .i64 (szI p l)] ∧ o = []) := by
  refine FunA.walk B_ok (fn := Try.f30) (fun vs w => Try.call30 vs w) Try.func30 rfl (by rw [Try.ntmps30]; simp) (fun C hC hP hT hΓ hbt hfn hpin hfin => ?_); have hX := BX; rw [← hΓ, ← hbt.1, ← hbt.2] at hX; rw [Try.ntmps30]; simp only [AW7, simprocAttr, hX]
  refine Run.len 0 rfl fun hlen => ?_
  refine Run.nq ?_; refine Run.regionW hC (fun K hK => ?_); simp only [AW7, simprocAttr, hX]; (repeat (with_reducible refine And.intro ?_ ?_); exact vc0); refine hK _ ?_; clear hK K; refine Run.nq ?_
  refine Run.nq ?_; refine Run.regionW hC (fun K hK => ?_); simp (disch := omega) only [wrap_id, AW7, simprocAttr, hX]; (repeat (with_reducible refine And.intro ?_ ?_); exact vc0); refine hK _ ?_; clear hK K; refine Run.nq ?_
  refine Run.nq ?_; refine Run.regionW hC (fun K hK => ?_); simp only [AW7, simprocAttr, hX]; (repeat (with_reducible refine And.intro ?_ ?_); exact vc0); refine hK _ ?_; clear hK K; refine Run.nq ?_
  refine Run.nq ?_; refine Run.condW (by simp only [AW7, simprocAttr, hX]; rfl) (by simp only [AW7, simprocAttr, hX]) ?_ ?_
  · intro hc
    refine Run.nq ?_; refine Run.regionW hC (fun K hK => ?_); simp only [AW7, simprocAttr, hX]; (repeat (with_reducible refine And.intro ?_ ?_); exact vc0); refine hK _ ?_; clear hK K; refine Run.nq ?_
    refine Run.retW [4] (by decide) (by rw [hfn]; rfl) (by simp only [AW7, simprocAttr, hX]; rfl) (by simp only [AW7, simprocAttr, hX]) (hfin _ _ rfl rfl ?_)
    simp [szI] at hc ⊢; omega
  · intro hc
    refine Run.nq ?_; refine Run.regionW hC (fun K hK => ?_); simp only [AW7, simprocAttr, hX]; (repeat (with_reducible refine And.intro ?_ ?_); exact vc0); refine hK _ ?_; clear hK K; refine Run.nq ?_
    refine Run.retW [4] (by decide) (by rw [hfn]; rfl) (by simp only [AW7, simprocAttr, hX]; rfl) (by simp only [AW7, simprocAttr, hX]) (hfin _ _ rfl rfl ?_)
    simp [szI] at hc ⊢; omega

theorem szR_snoc {rows : List (List Int)} {i : Nat} (h : i < rows.length) (l : Int) : szR (rows.drop i) l = if szI (rows.getD i []) l < 0 then -1 else szR (rows.drop (i + 1)) (szI (rows.getD i []) l) := by
  rw [List.drop_eq_getElem_cons h, show rows.getD i [] = rows[i] from by simp [h]]
  rfl

theorem c_szIntSS (rows : List (List Int)) (l : Int) (hl : 0 ≤ l ∧ l ≤ 1048576) : FunA B 9 [.sl false (.row false) rows, .int .i64 l] (fun rs o => rs = [.int .i64 (szII rows l)] ∧ o = []) := by
  refine FunA.walk B_ok (fn := Try.f9) (fun vs w => Try.call9 vs w) Try.func9 rfl (by rw [Try.ntmps9]; simp) (fun C hC hP hT hΓ hbt hfn hpin hfin => ?_); have hX := BX; rw [← hΓ, ← hbt.1, ← hbt.2] at hX; rw [Try.ntmps9]; simp only [AW7, simprocAttr, hX]
  refine Run.len 0 rfl fun hlen => ?_
  refine Run.nq ?_; refine Run.regionW hC (fun K hK => ?_); simp only [AW7, simprocAttr, hX]; (repeat (with_reducible refine And.intro ?_ ?_); exact vc0); refine hK _ ?_; clear hK K; refine Run.nq ?_
  refine Run.nq ?_; refine Run.regionW hC (fun K hK => ?_); simp (disch := omega) only [wrap_id, AW7, simprocAttr, hX]; (repeat (with_reducible refine And.intro ?_ ?_); exact vc0); refine hK _ ?_; clear hK K; refine Run.nq ?_
  refine Run.nq ?_; refine Run.regionW hC (fun K hK => ?_); simp only [AW7, simprocAttr, hX]; (repeat (with_reducible refine And.intro ?_ ?_); exact vc0); refine hK _ ?_; clear hK K; refine Run.nq ?_
  refine Run.nq ?_; refine Run.condW (by simp only [AW7, simprocAttr, hX]; rfl) (by simp only [AW7, simprocAttr, hX]) ?_ ?_
  · intro hc
    refine Run.nq ?_; refine Run.regionW hC (fun K hK => ?_); simp only [AW7, simprocAttr, hX]; (repeat (with_reducible refine And.intro ?_ ?_); exact vc0); refine hK _ ?_; clear hK K; refine Run.nq ?_
    refine Run.retW [4] (by decide) (by rw [hfn]; rfl) (by simp only [AW7, simprocAttr, hX]; rfl) (by simp only [AW7, simprocAttr, hX]) (hfin _ _ rfl rfl ?_)
    have hc : l - rows.length < 0 := by simpa using hc
    simp [szII, hc]
  intro hc
  have hc : ¬ l - rows.length < 0 := by simpa using hc
  refine Run.nq ?_; refine Run.regionW hC (fun K hK => ?_); simp only [AW7, simprocAttr, hX]; (repeat (with_reducible refine And.intro ?_ ?_); exact vc0); refine hK _ ?_; clear hK K; refine Run.nq ?_
  refine Run.keep [0, 1, 4, 5] ?_; simp only [AK, Nat.reduceBEq]
  refine Run.loopI (X := Nat × Int) (fun x => ⟨27, [(0, true, .v (.sl false (.row false) rows)), (1, true, .v (.int .i64 x.2)), (4, true, .v (.int .i64 0)), (5, true, .v (.int .i64 x.1))], []⟩) (fun x => x.1 ≤ rows.length ∧ 0 ≤ x.2 ∧ x.2 ≤ 1048576 ∧ szII rows l = szR (rows.drop x.1) x.2) (fun x => rows.length - x.1) (0, l - rows.length) ⟨Nat.zero_le _, by simp only []; omega, by simp only []; omega, by simp [szII, hc]⟩ ?_ ?_
  · exact Le.sub (by simp only [AW7, simprocAttr]) (by simp only [AW7, simprocAttr]; try simp)
  rintro ⟨i, l2⟩ ⟨hi, hl2, hl3, hz⟩ ih
  simp only [] at hi hl2 hl3 hz ⊢
  refine Run.nq ?_; refine Run.regionW hC (fun K hK => ?_); simp only [AW7, simprocAttr, hX]; (repeat (with_reducible refine And.intro ?_ ?_); exact vc0); refine hK _ ?_; clear hK K; refine Run.nq ?_
  refine Run.nq ?_; refine Run.condW (by simp only [AW7, simprocAttr, hX]; rfl) (by simp only [AW7, simprocAttr, hX]) ?_ ?_
  · intro hc2
    have hc2 : i < rows.length := by simpa using hc2
    rw [szR_snoc hc2] at hz
    refine Run.nq ?_; refine Run.regionW hC (fun K hK => ?_); simp only [AW7, simprocAttr, hX]; (repeat (with_reducible refine And.intro ?_ ?_); exact vc0)
    refine FunA.callW hP hT (c_szIntS (rows.getD i []) l2 ⟨hl2, hl3⟩) (by simp only [AW7, simprocAttr]) ?_
    rintro rs o ⟨rfl, rfl⟩
    (try simp only [AW7, simprocAttr, hX]); (repeat (with_reducible refine And.intro ?_ ?_); exact vc0)
    (repeat (with_reducible refine And.intro ?_ ?_); exact vc0); refine hK _ ?_; clear hK K; refine Run.nq ?_
    refine Run.nq ?_; refine Run.regionW hC (fun K hK => ?_); simp only [AW7, simprocAttr, hX]; (repeat (with_reducible refine And.intro ?_ ?_); exact vc0); refine hK _ ?_; clear hK K; refine Run.nq ?_
    refine Run.nq ?_; refine Run.condW (by simp only [AW7, simprocAttr, hX]; rfl) (by simp only [AW7, simprocAttr, hX]) ?_ ?_
    · intro hc3
      have hc3 : szI (rows.getD i []) l2 < 0 := by simpa using hc3
      rw [if_pos hc3] at hz
      refine Run.nq ?_; refine Run.regionW hC (fun K hK => ?_); simp only [AW7, simprocAttr, hX]; (repeat (with_reducible refine And.intro ?_ ?_); exact vc0); refine hK _ ?_; clear hK K; refine Run.nq ?_
      refine Run.retW [4] (by decide) (by rw [hfn]; rfl) (by simp only [AW7, simprocAttr, hX]; rfl) (by simp only [AW7, simprocAttr, hX]) (hfin _ _ rfl rfl ?_)
      simp [hz]
    · intro hc3
      have hc3 : ¬ szI (rows.getD i []) l2 < 0 := by simpa using hc3
      rw [if_neg hc3] at hz
      refine Run.nq ?_; refine Run.regionW hC (fun K hK => ?_); simp (disch := omega) only [wrap_id, AW7, simprocAttr, hX]; (repeat (with_reducible refine And.intro ?_ ?_); exact vc0); refine hK _ ?_; clear hK K; refine Run.nq ?_
      refine Run.le ?_ (ih (i + 1, szI (rows.getD i []) l2) ⟨hc2, by simp only []; omega, ?_, hz⟩ (by simp only []; omega))
      · exact Le.sub (by simp only [AW7, simprocAttr]) (by simp only [AW7, simprocAttr, Option.some.injEq, Prod.mk.injEq, Sl.v.injEq, AV.int.injEq, AV.own.injEq, AV.bool.injEq]; try (repeat' apply And.intro); all_goals omega)
      · simp only []
        unfold szI
        split <;> omega
  · intro hc2
    have hc2 : i = rows.length := by simp at hc2; omega
    subst hc2
    refine Run.exit rfl ?_; refine Run.nq ?_
    refine Run.nq ?_; refine Run.regionW hC (fun K hK => ?_); simp only [AW7, simprocAttr, hX]; (repeat (with_reducible refine And.intro ?_ ?_); exact vc0); refine hK _ ?_; clear hK K; refine Run.nq ?_
    refine Run.retW [4] (by decide) (by rw [hfn]; rfl) (by simp only [AW7, simprocAttr, hX]; rfl) (by simp only [AW7, simprocAttr, hX]) (hfin _ _ rfl rfl ?_)
    simp [hz, szR]

theorem set_fillG {α : Type} (z : α) (p : List α) (i : Nat) (h : i < p.length) : (p.take i ++ List.replicate (p.length - i) z).set i (p.getD i z) = p.take (i + 1) ++ List.replicate (p.length - (i + 1)) z := by
  obtain ⟨m, hm⟩ : ∃ m, p.length - i = m + 1 := ⟨p.length - i - 1, by omega⟩
  have hl : (p.take i).length = i := by simp; omega
  rw [hm, List.replicate_succ, List.set_append, hl, if_neg (by omega), Nat.sub_self, List.set_cons_zero, ← take_snoc z p i h, show p.length - (i + 1) = m from by omega]
  simp

theorem c_toIntSS (rows : List (List Int)) (hr : rows.length ≤ 1048576) (hrr : ∀ r ∈ rows, r.length ≤ 1048576) :
    FunA B 11 [.sl false (.row false) rows] (fun rs o => rs = [.own 0 0] ∧ ∃ hs : List (Option Nat), hs.length = rows.length ∧ o = [.mat hs rows 0 true]) := by
  refine FunA.walk B_ok (fn := Try.f11) (fun vs w => Try.call11 vs w) Try.func11 rfl (by rw [Try.ntmps11]; simp) (fun C hC hP hT hΓ hbt hfn hpin hfin => ?_); have hX := BX; rw [← hΓ, ← hbt.1, ← hbt.2] at hX; rw [Try.ntmps11]; simp only [AW7, simprocAttr, hX]
  refine Run.nq ?_; refine Run.regionW hC (fun K hK => ?_); simp only [AW7, simprocAttr, hX]; (repeat (with_reducible refine And.intro ?_ ?_); exact vc0); refine hK _ ?_; clear hK K; refine Run.nq ?_
  refine Run.nq ?_; refine Run.regionW hC (fun K hK => ?_); simp only [AW7, simprocAttr, hX]; (repeat (with_reducible refine And.intro ?_ ?_); exact vc0); refine hK _ ?_; clear hK K; refine Run.nq ?_
  refine Run.nq ?_; refine Run.regionW hC (fun K hK => ?_); simp only [AW7, simprocAttr, hX]; (repeat (with_reducible refine And.intro ?_ ?_); exact vc0); refine hK _ ?_; clear hK K; refine Run.nq ?_
  refine Run.keep [0, 2, 3, 4] ?_; simp only [AK, Nat.reduceBEq]
  refine Run.loopI (X := Nat × List (Option Nat)) (fun x => ⟨23, [(0, true, .v (.sl false (.row false) rows)), (2, true, .v .nils), (3, true, .v (.own 0 0)), (4, true, .v (.int .i64 x.1))], [.mat x.2 (rows.take x.1 ++ List.replicate (rows.length - x.1) []) 0 true]⟩) (fun x => x.1 ≤ rows.length ∧ x.2.length = rows.length) (fun x => rows.length - x.1) (0, List.replicate rows.length none) ⟨Nat.zero_le _, by simp⟩ ?_ ?_
  · refine Le.sub (by simp) ?_
    simp only [AW7, simprocAttr, hX]; try simp
  rintro ⟨i, hs⟩ ⟨hi, hh⟩ ih
  simp only [] at hi hh ⊢
  refine Run.nq ?_; refine Run.regionW hC (fun K hK => ?_); simp only [AW7, simprocAttr, hX]; (repeat (with_reducible refine And.intro ?_ ?_); exact vc0); refine hK _ ?_; clear hK K; refine Run.nq ?_
  refine Run.nq ?_; refine Run.condW (by simp only [AW7, simprocAttr, hX]; rfl) (by simp only [AW7, simprocAttr, hX]) ?_ ?_
  · intro hc
    have hc : i < rows.length := by simpa using hc
    refine Run.nq ?_; refine Run.regionW hC (fun K hK => ?_); simp only [AW7, simprocAttr, hX]; (repeat (with_reducible refine And.intro ?_ ?_); exact vc0)
    refine FunA.callW hP hT (c_toIntS (rows.getD i []) (by rw [show rows.getD i [] = rows[i] from by simp [hc]]; exact hrr _ (by simp))) (by simp only [AW7, simprocAttr]) ?_
    rintro rs o ⟨rfl, rfl⟩
    simp only [AW7, simprocAttr, hX]
    refine ⟨⟨by omega, by simp; omega⟩, fun l => hK _ ?_⟩
    clear hK K
    refine Run.nq ?_
    refine Run.nq ?_; refine Run.regionW hC (fun K hK => ?_); simp (disch := omega) only [wrap_id, AW7, simprocAttr, hX]; (repeat (with_reducible refine And.intro ?_ ?_); exact vc0); refine hK _ ?_; clear hK K; refine Run.nq ?_
    refine Run.le ?_ (ih (i + 1, hs.set i (some l)) ⟨hc, by simpa using hh⟩ (by simp only []; omega))
    refine Le.cut0 hpin [_] (by rw [← set_fillG [] rows i hc]; rfl) ?_ rfl
    simp only [AW7, simprocAttr]; try simp
  · intro hc
    have hc : i = rows.length := by simp at hc; omega
    subst hc
    refine Run.exit rfl ?_; refine Run.nq ?_
    refine Run.nq ?_; refine Run.regionW hC (fun K hK => ?_); simp only [AW7, simprocAttr, hX]; (repeat (with_reducible refine And.intro ?_ ?_); exact vc0); refine hK _ ?_; clear hK K; refine Run.nq ?_
    refine Run.retW [2] (by decide) (by rw [hfn]; rfl) (by simp only [AW7, simprocAttr, hX]; rfl) (by simp only [AW7, simprocAttr, hX]) (hfin _ _ rfl rfl ?_)
    refine ⟨rfl, hs, hh, ?_⟩
    simp

theorem c_eqIntSS (a b : List (List Int)) (ha : a.length ≤ 4503599627370496) (hr : ∀ r ∈ a, r.length ≤ 4503599627370496) : FunA B 14 [.sl false (.row false) a, .sl false (.row false) b] (fun rs o => rs = [.bool (a == b)] ∧ o = []) := by
  refine FunA.walk B_ok (fn := Try.f14) (fun vs w => Try.call14 vs w) Try.func14 rfl (by rw [Try.ntmps14]; simp) (fun C hC hP hT hΓ hbt hfn hpin hfin => ?_); have hX := BX; rw [← hΓ, ← hbt.1, ← hbt.2] at hX; rw [Try.ntmps14]; simp only [AW7, simprocAttr, hX]
  refine Run.nq ?_; refine Run.regionW hC (fun K hK => ?_); simp only [AW7, simprocAttr, hX]; (repeat (with_reducible refine And.intro ?_ ?_); exact vc0); refine hK _ ?_; clear hK K; refine Run.nq ?_
  refine Run.nq ?_; refine Run.regionW hC (fun K hK => ?_); simp only [AW7, simprocAttr, hX]; (repeat (with_reducible refine And.intro ?_ ?_); exact vc0); refine hK _ ?_; clear hK K; refine Run.nq ?_
  refine Run.nq ?_; refine Run.condW (by simp only [AW7, simprocAttr, hX]; rfl) (by simp only [AW7, simprocAttr, hX]) ?_ ?_
  · intro hc
    refine Run.nq ?_; refine Run.regionW hC (fun K hK => ?_); simp only [AW7, simprocAttr, hX]; (repeat (with_reducible refine And.intro ?_ ?_); exact vc0); refine hK _ ?_; clear hK K; refine Run.nq ?_
    refine Run.retW [4] (by decide) (by rw [hfn]; rfl) (by simp only [AW7, simprocAttr, hX]; rfl) (by simp only [AW7, simprocAttr, hX]) (hfin _ _ rfl rfl ?_)
    have : a ≠ b := fun h => by simp [h] at hc
    simpa using this
  intro hc
  have hl : a.length = b.length := by simp at hc; omega
  refine Run.nq ?_; refine Run.regionW hC (fun K hK => ?_); simp only [AW7, simprocAttr, hX]; (repeat (with_reducible refine And.intro ?_ ?_); exact vc0); refine hK _ ?_; clear hK K; refine Run.nq ?_
  refine Run.loopI (X := Nat) (fun i => ⟨27, [(0, true, .v (.sl false (.row false) a)), (1, true, .v (.sl false (.row false) b)), (4, true, .v (.bool false)), (5, true, .v (.int .i64 i))], []⟩) (fun i => i ≤ a.length ∧ a.take i = b.take i) (fun i => a.length - i) 0 (by simp) ?_ ?_
  · exact Le.sub (by simp only [AW7, simprocAttr]) (by simp only [AW7, simprocAttr]; try simp)
  rintro i ⟨hi, ht⟩ ih
  refine Run.nq ?_; refine Run.regionW hC (fun K hK => ?_); simp only [AW7, simprocAttr, hX]; (repeat (with_reducible refine And.intro ?_ ?_); exact vc0); refine hK _ ?_; clear hK K; refine Run.nq ?_
  refine Run.nq ?_; refine Run.condW (by simp only [AW7, simprocAttr, hX]; rfl) (by simp only [AW7, simprocAttr, hX]) ?_ ?_
  · intro hc2
    have hc2 : i < a.length := by simpa using hc2
    have hra : (a.getD i []).length ≤ 4503599627370496 := by rw [show a.getD i [] = a[i] from by simp [hc2]]; exact hr _ (by simp)
    refine Run.nq ?_
    refine Run.regionD hC true [0,1,2,3,4,5,6,7,8,9] (by kernel_rfl) (fun K hK => ?_)
    simp only [AW7, simprocAttr, hX]
    (repeat (with_reducible refine And.intro ?_ ?_); exact vc0)
    refine FunA.callD hP hT (c_eqIntS (a.getD i []) (b.getD i []) hra) (by simp only [AW7, simprocAttr]) ?_
    rintro rs o ⟨rfl, rfl⟩
    (try simp only [AW7, simprocAttr, hX]); (repeat (with_reducible refine And.intro ?_ ?_); exact vc0)
    (repeat (with_reducible refine And.intro ?_ ?_); exact vc0); refine hK _ ?_; clear hK K; refine Run.nq ?_
    refine Run.nq ?_; refine Run.condW (by simp only [AW7, simprocAttr, hX]; rfl) (by simp only [AW7, simprocAttr, hX]) ?_ ?_
    · intro hne
      refine Run.nq ?_; refine Run.regionW hC (fun K hK => ?_); simp only [AW7, simprocAttr, hX]; (repeat (with_reducible refine And.intro ?_ ?_); exact vc0); refine hK _ ?_; clear hK K; refine Run.nq ?_
      refine Run.retW [4] (by decide) (by rw [hfn]; rfl) (by simp only [AW7, simprocAttr, hX]; rfl) (by simp only [AW7, simprocAttr, hX]) (hfin _ _ rfl rfl ?_)
      have : a ≠ b := fun h => by simp [h] at hne
      simpa using this
    · intro he
      have he : a.getD i [] = b.getD i [] := by
        revert he
        cases h : (a.getD i [] == b.getD i []) with
        | true => intro _; simpa using h
        | false => intro he; cases he
      refine Run.nq ?_; refine Run.regionW hC (fun K hK => ?_); simp (disch := omega) only [wrap_id, AW7, simprocAttr, hX]; (repeat (with_reducible refine And.intro ?_ ?_); exact vc0); refine hK _ ?_; clear hK K; refine Run.nq ?_
      refine Run.le ?_ (ih (i + 1) ⟨hc2, ?_⟩ (by omega))
      · exact Le.sub (by simp only [AW7, simprocAttr]) (by simp only [AW7, simprocAttr, Option.some.injEq, Prod.mk.injEq, Sl.v.injEq, AV.int.injEq, AV.own.injEq, AV.bool.injEq]; try (repeat' apply And.intro); all_goals omega)
      · rw [← take_snoc [] a i hc2, ← take_snoc [] b i (by omega), ht, he]
  · intro hc2
    have hc2 : i = a.length := by simp at hc2; omega
    refine Run.exit rfl ?_; refine Run.nq ?_
    refine Run.nq ?_; refine Run.regionW hC (fun K hK => ?_); simp only [AW7, simprocAttr, hX]; (repeat (with_reducible refine And.intro ?_ ?_); exact vc0); refine hK _ ?_; clear hK K; refine Run.nq ?_
    refine Run.retW [4] (by decide) (by rw [hfn]; rfl) (by simp only [AW7, simprocAttr, hX]; rfl) (by simp only [AW7, simprocAttr, hX]) (hfin _ _ rfl rfl ?_)
    have : a = b := by rw [hc2, List.take_length, hl, List.take_length] at ht; exact ht
    simp [this]
end Go.Proofs.Ytdhfonblpbpmmaa
