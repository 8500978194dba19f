/- The least element of a double coset. -/
import Derived.Test.YtbeeblhmgpgkjaaParts2
set_option linter.unusedVariables false
set_option linter.unusedSimpArgs false
namespace Go.Proofs.Ytbeeblhmgpgkjaa
open Go Go.Aw Go.Cox

noncomputable def itF (c : List (List Int)) (a b y : List Int) : Nat → List Int
  | 0 => y
  | n + 1 => Lf c a (Rf c b (itF c a b y n))
noncomputable def dblB (c : List (List Int)) (a w b : List Int) : Bool := leftB c a w && isSetB c b
noncomputable def dblM (c : List (List Int)) (a w b : List Int) : List Int := if dblB c a w b then itF c a b (Lf c a w) 16 else []
theorem isSet_setP {c : List (List Int)} {b : List Int} (h : isSetB c b = true) : setP c.length b := by
  unfold isSetB at h; simp only [Bool.and_eq_true] at h; exact setB_iff.1 h.2

structure Good (c : List (List Int)) (a y : List Int) : Prop where
  red : Red c y
  len : y.length ≤ 15
  nf : redL c y = y
  idem : Lf c a y = y

section
variable {c : List (List Int)} (hc : CartanP c) {a b : List Int} (ha : setP c.length a) (hb : setP c.length b)
include hc ha
theorem Good.of {w : List Int} (hw : letters c.length w) (hl : w.length ≤ 15) : Good c a (Lf c a w) := by
  obtain ⟨k1, k2⟩ := Lf_spec hc ha hw (by omega)
  exact ⟨k1, by omega, Lf_nf hc ha hw (by omega), Lf_idem hc ha hw (by omega)⟩
include hb
theorem Good.next {y : List Int} (h : Good c a y) : Good c a (Lf c a (Rf c b y)) ∧ (Lf c a (Rf c b y)).length ≤ (Rf c b y).length ∧ (Rf c b y).length ≤ y.length ∧ ((Rf c b y).length = y.length → Rf c b y = y ∧ Lf c a (Rf c b y) = y) := by
  have hl := h.len
  obtain ⟨k1, k2, k3⟩ := Rf_spec hc hb h.red.1 (by omega)
  obtain ⟨m1, m2⟩ := Lf_spec hc ha k1.1 (by omega)
  refine ⟨Good.of hc ha k1.1 (by omega), m2, k2, fun he => ?_⟩
  have e := Rf_eq hc hb h.red.1 (by omega) he
  rw [h.nf] at e
  exact ⟨e, by rw [e]; exact h.idem⟩
theorem itF_good {y : List Int} (h : Good c a y) : ∀ n, Good c a (itF c a b y n)
  | 0 => h
  | n + 1 => ((itF_good h n).next hc ha hb).1
theorem itF_len {y : List Int} (h : Good c a y) : ∀ k, (∀ j, j < k → itF c a b y (j + 1) ≠ itF c a b y j) → (itF c a b y k).length + k ≤ 15
  | 0, _ => by have := h.len; simpa [itF] using this
  | k + 1, hk => by
    have ih := itF_len h k (fun j hj => hk j (by omega))
    obtain ⟨_, g2, g3, g4⟩ := (itF_good hc ha hb h k).next hc ha hb
    have hne := hk k (by omega)
    have : (Rf c b (itF c a b y k)).length ≠ (itF c a b y k).length := fun he => hne (g4 he).2
    show (Lf c a (Rf c b (itF c a b y k))).length + (k + 1) ≤ 15
    omega
omit hc ha hb in
theorem itF_fix {y : List Int} {k : Nat} (h : itF c a b y (k + 1) = itF c a b y k) : ∀ m, itF c a b y (k + m) = itF c a b y k
  | 0 => rfl
  | m + 1 => by
    show Lf c a (Rf c b (itF c a b y (k + m))) = _
    rw [itF_fix h m]; exact h
end

theorem dblM_le (c : List (List Int)) (a w b : List Int) : (dblM c a w b).length ≤ 15 := by
  unfold dblM
  split
  · rename_i h
    simp only [dblB, Bool.and_eq_true] at h
    obtain ⟨⟨hc, h2, h3⟩, hs⟩ := leftB_iff.1 h.1
    exact (itF_good hc hs (isSet_setP h.2) (Good.of hc hs h3 (by omega)) 16).len
  · simp

theorem c_spec_DoubleMinimal (c : List (List Int)) (a w b : List Int) (hcl : c.length ≤ 1048576) :
    FunA B 46 [.sl false (.row false) c, .sl false .int a, .sl false .int w, .sl false .int b] (fun rs o => rs = [.own 0 0, .bool (dblB c a w b)] ∧ o = [.arr .int (dblM c a w b) 0 true]) := by
  refine FunA.walk B_ok (fn := Try.f46) (fun vs w => Try.call46 vs w) Try.func46 rfl (by rw [Try.ntmps46]; simp) (fun C hC hP hT hΓ hbt hfn hpin hfin => ?_); have hX := BX; rw [← hΓ, ← hbt] at hX; rw [Try.ntmps46]; simp only [AW1, simprocAttr, Int.toNat_natCast, beq_self_eq_true, hX]
  (repeat (first | refine Run.seq ?_ | refine Run.skip ?_ | refine Run.label ?_ | refine Run.block ?_ | refine Run.unblock ?_)); refine Run.regionW hC (fun K hK => ?_); simp only [AW1, simprocAttr, Int.toNat_natCast, beq_self_eq_true, hX]; (repeat (with_reducible refine And.intro ?_ ?_); focus (first | omega | (intros; simp_all; done) | (intro h; simp only [VB] at h; omega) | (intros; simp_all; omega))); refine hK _ ?_; clear hK K; (repeat (first | refine Run.seq ?_ | refine Run.skip ?_ | refine Run.label ?_ | refine Run.block ?_ | refine Run.unblock ?_))
  (repeat (first | refine Run.seq ?_ | refine Run.skip ?_ | refine Run.label ?_ | refine Run.block ?_ | refine Run.unblock ?_)); refine Run.regionW hC (fun K hK => ?_); simp only [AW1, simprocAttr, Int.toNat_natCast, beq_self_eq_true, hX]; (repeat (with_reducible refine And.intro ?_ ?_); focus (first | omega | (intros; simp_all; done) | (intro h; simp only [VB] at h; omega) | (intros; simp_all; omega)))
  refine FunA.callW hP hT (c_spec_LeftParts c a w hcl) (by simp only [AW1, simprocAttr, Int.toNat_natCast, beq_self_eq_true]) ?_
  rintro rs o ⟨rfl, rfl⟩
  (try simp only [AW1, simprocAttr, Int.toNat_natCast, beq_self_eq_true, hX]); (repeat (with_reducible refine And.intro ?_ ?_); focus (first | omega | (intros; simp_all; done) | (intro h; simp only [VB] at h; omega) | (intros; simp_all; omega)))
  (repeat (with_reducible refine And.intro ?_ ?_); focus (first | omega | (intros; simp_all; done) | (intro h; simp only [VB] at h; omega) | (intros; simp_all; omega))); refine hK _ ?_; clear hK K; (repeat (first | refine Run.seq ?_ | refine Run.skip ?_ | refine Run.label ?_ | refine Run.block ?_ | refine Run.unblock ?_))
  (repeat (first | refine Run.seq ?_ | refine Run.skip ?_ | refine Run.label ?_ | refine Run.block ?_ | refine Run.unblock ?_)); refine Run.regionW hC (fun K hK => ?_); simp only [AW1, simprocAttr, Int.toNat_natCast, beq_self_eq_true, hX]; (repeat (with_reducible refine And.intro ?_ ?_); focus (first | omega | (intros; simp_all; done) | (intro h; simp only [VB] at h; omega) | (intros; simp_all; omega)))
  refine .inl (FunA.callG hP hT (c_spec_l3Set c b hcl) (fun _ => rfl) (fun _ => by simp only [AW1, simprocAttr, Int.toNat_natCast, beq_self_eq_true]) ?_)
  (try simp only [AW1, simprocAttr, Int.toNat_natCast, beq_self_eq_true, hX]); (repeat (with_reducible refine And.intro ?_ ?_); focus (first | omega | (intros; simp_all; done) | (intro h; simp only [VB] at h; omega) | (intros; simp_all; omega)))
  (repeat (with_reducible refine And.intro ?_ ?_); focus (first | omega | (intros; simp_all; done) | (intro h; simp only [VB] at h; omega) | (intros; simp_all; omega))); refine hK _ ?_; clear hK K; (repeat (first | refine Run.seq ?_ | refine Run.skip ?_ | refine Run.label ?_ | refine Run.block ?_ | refine Run.unblock ?_))
  (repeat (first | refine Run.seq ?_ | refine Run.skip ?_ | refine Run.label ?_ | refine Run.block ?_ | refine Run.unblock ?_)); refine Run.condW (by simp only [AW1, simprocAttr, Int.toNat_natCast, beq_self_eq_true, hX]; rfl) (by simp only [AW1, simprocAttr, Int.toNat_natCast, beq_self_eq_true, hX]) ?_ ?_
  · intro h
    have h : dblB c a w b = false := by
      revert h
      cases hw : leftB c a w <;> cases hi : isSetB c b <;> simp [dblB, hw, hi]
    (repeat (first | refine Run.seq ?_ | refine Run.skip ?_ | refine Run.label ?_ | refine Run.block ?_ | refine Run.unblock ?_)); refine Run.regionW hC (fun K hK => ?_); simp only [AW1, simprocAttr, Int.toNat_natCast, beq_self_eq_true, hX]; (repeat (with_reducible refine And.intro ?_ ?_); focus (first | omega | (intros; simp_all; done) | (intro h; simp only [VB] at h; omega) | (intros; simp_all; omega))); refine hK _ ?_; clear hK K; (repeat (first | refine Run.seq ?_ | refine Run.skip ?_ | refine Run.label ?_ | refine Run.block ?_ | refine Run.unblock ?_))
    refine Run.le (Le.re (obs' := [.arr .int [] 0 true]) hpin [2] [(8, true, .own 0 0), (9, true, .bool false)] rfl (by simp [leOs, leO_arr, oAt]) (by refine ⟨⟨_, rfl, ?_⟩, ⟨_, rfl, ?_⟩, trivial⟩ <;> simp [leAV, oAt, genO])) ?_; simp only [frV_cons, frV_nil]
    refine Run.retW [8, 9] (by decide) (by rw [hfn]; rfl) (by simp only [AW1, simprocAttr, Int.toNat_natCast, beq_self_eq_true, hX]; rfl) (by simp only [AW1, simprocAttr, Int.toNat_natCast, beq_self_eq_true, hX]) (hfin _ _ rfl rfl ?_)
    simp [dblM, h]
  · intro h
    have hd : dblB c a w b = true := by
      revert h
      cases hw : leftB c a w <;> cases hi : isSetB c b <;> simp [dblB, hw, hi]
    have hd2 := hd
    simp only [dblB, Bool.and_eq_true] at hd2
    obtain ⟨⟨hc, h2, h3⟩, hs⟩ := leftB_iff.1 hd2.1
    have hsb := isSet_setP hd2.2
    have hG := Good.of hc hs h3 (by omega)
    obtain ⟨y, hy⟩ : ∃ y, y = Lf c a w := ⟨_, rfl⟩
    have hle : leftY c a w = y := by unfold leftY; rw [if_pos hd2.1, hy]; rfl
    rw [← hy] at hG
    rw [hle]
    (repeat (first | refine Run.seq ?_ | refine Run.skip ?_ | refine Run.label ?_ | refine Run.block ?_ | refine Run.unblock ?_)); refine Run.regionW hC (fun K hK => ?_); simp only [AW1, simprocAttr, Int.toNat_natCast, beq_self_eq_true, hX]; (repeat (with_reducible refine And.intro ?_ ?_); focus (first | omega | (intros; simp_all; done) | (intro h; simp only [VB] at h; omega) | (intros; simp_all; omega))); refine hK _ ?_; clear hK K; (repeat (first | refine Run.seq ?_ | refine Run.skip ?_ | refine Run.label ?_ | refine Run.block ?_ | refine Run.unblock ?_))
    refine Run.le (Le.re (obs' := [.arr .int y 0 true]) hpin [1] [(0, true, .sl false (.row false) c), (1, true, .sl false .int a), (3, true, .sl false .int b), (8, true, .nils), (9, true, .bool false), (11, true, .own 0 0), (13, true, .int .i64 0)] rfl (by simp [leOs, leO_arr, oAt]) (by refine ⟨⟨_, rfl, ?_⟩, ⟨_, rfl, ?_⟩, ⟨_, rfl, ?_⟩, ⟨_, rfl, ?_⟩, ⟨_, rfl, ?_⟩, ⟨_, rfl, ?_⟩, ⟨_, rfl, ?_⟩, trivial⟩ <;> simp [leAV, oAt, genO])) ?_; simp only [frV_cons, frV_nil]
    refine Run.loopI (X := Nat) (fun k => ⟨63, [(0, true, .v (.sl false (.row false) c)), (1, true, .v (.sl false .int a)), (3, true, .v (.sl false .int b)), (8, true, .v .nils), (9, true, .v (.bool false)), (11, true, .v (.own 0 0)), (13, true, .v (.int .i64 k))], [.arr .int (itF c a b y k) 0 true]⟩) (fun k => ∀ j, j < k → itF c a b y (j + 1) ≠ itF c a b y j) (fun k => 16 - k) 0 (by omega) ?_ ?_
    · exact Le.sub (by rfl) (by simp only [AW1, simprocAttr, Int.toNat_natCast, beq_self_eq_true, hX]; try simp)
    rintro k hk ih
    have hkl := itF_len hc hs hsb hG k hk
    have hGk := itF_good hc hs hsb hG k
    obtain ⟨g1, g2, g3, g4⟩ := hGk.next hc hs hsb
    obtain ⟨r1, r2, r3⟩ := Rf_spec hc hsb hGk.red.1 (by omega)
    have hb1 : leftB c b (itF c a b y k) = true := leftB_iff.2 ⟨⟨hc, hGk.len, hGk.red.1⟩, hsb⟩
    have eX : rightX c b (itF c a b y k) = Rf c b (itF c a b y k) := by unfold rightX; rw [if_pos hb1]
    have hb2 : leftB c a (Rf c b (itF c a b y k)) = true := leftB_iff.2 ⟨⟨hc, by omega, r1.1⟩, hs⟩
    have eY : leftY c a (Rf c b (itF c a b y k)) = itF c a b y (k + 1) := by unfold leftY; rw [if_pos hb2]; rfl
    have hk1 := (itF_good hc hs hsb hG (k + 1)).len
    (repeat (first | refine Run.seq ?_ | refine Run.skip ?_ | refine Run.label ?_ | refine Run.block ?_ | refine Run.unblock ?_)); refine Run.regionW hC (fun K hK => ?_); simp only [AW1, simprocAttr, Int.toNat_natCast, beq_self_eq_true, hX]; (repeat (with_reducible refine And.intro ?_ ?_); focus (first | omega | (intros; simp_all; done) | (intro h; simp only [VB] at h; omega) | (intros; simp_all; omega))); refine hK _ ?_; clear hK K; (repeat (first | refine Run.seq ?_ | refine Run.skip ?_ | refine Run.label ?_ | refine Run.block ?_ | refine Run.unblock ?_))
    (repeat (first | refine Run.seq ?_ | refine Run.skip ?_ | refine Run.label ?_ | refine Run.block ?_ | refine Run.unblock ?_)); refine Run.condW (by simp only [AW1, simprocAttr, Int.toNat_natCast, beq_self_eq_true, hX]; rfl) (by simp only [AW1, simprocAttr, Int.toNat_natCast, beq_self_eq_true, hX]) ?_ ?_
    · intro _
      (repeat (first | refine Run.seq ?_ | refine Run.skip ?_ | refine Run.label ?_ | refine Run.block ?_ | refine Run.unblock ?_)); refine Run.regionW hC (fun K hK => ?_); simp only [AW1, simprocAttr, Int.toNat_natCast, beq_self_eq_true, hX]; (repeat (with_reducible refine And.intro ?_ ?_); focus (first | omega | (intros; simp_all; done) | (intro h; simp only [VB] at h; omega) | (intros; simp_all; omega)))
      refine FunA.callW hP hT (c_spec_RightParts c b (itF c a b y k) hcl (by omega)) (by simp only [AW1, simprocAttr, Int.toNat_natCast, beq_self_eq_true]) ?_
      rintro rs o ⟨rfl, rfl⟩
      rw [eX]
      (try simp only [AW1, simprocAttr, Int.toNat_natCast, beq_self_eq_true, hX]); (repeat (with_reducible refine And.intro ?_ ?_); focus (first | omega | (intros; simp_all; done) | (intro h; simp only [VB] at h; omega) | (intros; simp_all; omega)))
      (repeat (with_reducible refine And.intro ?_ ?_); focus (first | omega | (intros; simp_all; done) | (intro h; simp only [VB] at h; omega) | (intros; simp_all; omega))); refine hK _ ?_; clear hK K; (repeat (first | refine Run.seq ?_ | refine Run.skip ?_ | refine Run.label ?_ | refine Run.block ?_ | refine Run.unblock ?_))
      (repeat (first | refine Run.seq ?_ | refine Run.skip ?_ | refine Run.label ?_ | refine Run.block ?_ | refine Run.unblock ?_)); refine Run.regionW hC (fun K hK => ?_); simp only [AW1, simprocAttr, Int.toNat_natCast, beq_self_eq_true, hX]; (repeat (with_reducible refine And.intro ?_ ?_); focus (first | omega | (intros; simp_all; done) | (intro h; simp only [VB] at h; omega) | (intros; simp_all; omega)))
      refine FunA.callW hP hT (c_spec_LeftParts c a (Rf c b (itF c a b y k)) hcl) (by simp only [AW1, simprocAttr, Int.toNat_natCast, beq_self_eq_true]) ?_
      rintro rs o ⟨rfl, rfl⟩
      rw [eY]
      (try simp only [AW1, simprocAttr, Int.toNat_natCast, beq_self_eq_true, hX]); (repeat (with_reducible refine And.intro ?_ ?_); focus (first | omega | (intros; simp_all; done) | (intro h; simp only [VB] at h; omega) | (intros; simp_all; omega)))
      (repeat (with_reducible refine And.intro ?_ ?_); focus (first | omega | (intros; simp_all; done) | (intro h; simp only [VB] at h; omega) | (intros; simp_all; omega))); refine hK _ ?_; clear hK K; (repeat (first | refine Run.seq ?_ | refine Run.skip ?_ | refine Run.label ?_ | refine Run.block ?_ | refine Run.unblock ?_))
      (repeat (first | refine Run.seq ?_ | refine Run.skip ?_ | refine Run.label ?_ | refine Run.block ?_ | refine Run.unblock ?_)); refine Run.regionW hC (fun K hK => ?_); simp only [AW1, simprocAttr, Int.toNat_natCast, beq_self_eq_true, hX]; (repeat (with_reducible refine And.intro ?_ ?_); focus (first | omega | (intros; simp_all; done) | (intro h; simp only [VB] at h; omega) | (intros; simp_all; omega)))
      refine FunA.callW hP hT (c_spec_EqualWords (itF c a b y (k + 1)) (itF c a b y k) (by omega)) (by simp only [AW1, simprocAttr, Int.toNat_natCast, beq_self_eq_true]) ?_
      rintro rs o ⟨rfl, rfl⟩
      (try simp only [AW1, simprocAttr, Int.toNat_natCast, beq_self_eq_true, hX]); (repeat (with_reducible refine And.intro ?_ ?_); focus (first | omega | (intros; simp_all; done) | (intro h; simp only [VB] at h; omega) | (intros; simp_all; omega)))
      (repeat (with_reducible refine And.intro ?_ ?_); focus (first | omega | (intros; simp_all; done) | (intro h; simp only [VB] at h; omega) | (intros; simp_all; omega))); refine hK _ ?_; clear hK K; (repeat (first | refine Run.seq ?_ | refine Run.skip ?_ | refine Run.label ?_ | refine Run.block ?_ | refine Run.unblock ?_))
      (repeat (first | refine Run.seq ?_ | refine Run.skip ?_ | refine Run.label ?_ | refine Run.block ?_ | refine Run.unblock ?_)); refine Run.condW (by simp only [AW1, simprocAttr, Int.toNat_natCast, beq_self_eq_true, hX]; rfl) (by simp only [AW1, simprocAttr, Int.toNat_natCast, beq_self_eq_true, hX]) ?_ ?_
      · intro he
        have he : itF c a b y (k + 1) = itF c a b y k := by simpa using he
        have hm : dblM c a w b = itF c a b y k := by
          unfold dblM
          rw [if_pos hd, ← hy, show 16 = k + (16 - k) by omega]
          exact itF_fix he _
        (repeat (first | refine Run.seq ?_ | refine Run.skip ?_ | refine Run.label ?_ | refine Run.block ?_ | refine Run.unblock ?_)); refine Run.regionW hC (fun K hK => ?_); simp only [AW1, simprocAttr, Int.toNat_natCast, beq_self_eq_true, hX]; (repeat (with_reducible refine And.intro ?_ ?_); focus (first | omega | (intros; simp_all; done) | (intro h; simp only [VB] at h; omega) | (intros; simp_all; omega))); refine hK _ ?_; clear hK K; (repeat (first | refine Run.seq ?_ | refine Run.skip ?_ | refine Run.label ?_ | refine Run.block ?_ | refine Run.unblock ?_))
        refine Run.le (Le.re (obs' := [.arr .int (dblM c a w b) 0 true]) hpin [0] [(8, true, .own 0 0), (9, true, .bool true)] rfl (by simp [leOs, leO_arr, oAt, hm]) (by refine ⟨⟨_, rfl, ?_⟩, ⟨_, rfl, ?_⟩, trivial⟩ <;> simp [leAV, oAt, genO, hm])) ?_; simp only [frV_cons, frV_nil]
        refine Run.retW [8, 9] (by decide) (by rw [hfn]; rfl) (by simp only [AW1, simprocAttr, Int.toNat_natCast, beq_self_eq_true, hX]; rfl) (by simp only [AW1, simprocAttr, Int.toNat_natCast, beq_self_eq_true, hX]) (hfin _ _ rfl rfl ?_)
        simp [hd]
      · intro he
        have he : itF c a b y (k + 1) ≠ itF c a b y k := by simpa using he
        (repeat (first | refine Run.seq ?_ | refine Run.skip ?_ | refine Run.label ?_ | refine Run.block ?_ | refine Run.unblock ?_)); refine Run.regionW hC (fun K hK => ?_); simp only [AW1, simprocAttr, Int.toNat_natCast, beq_self_eq_true, hX]; (repeat (with_reducible refine And.intro ?_ ?_); focus (first | omega | (intros; simp_all; done) | (intro h; simp only [VB] at h; omega) | (intros; simp_all; omega))); refine hK _ ?_; clear hK K; (repeat (first | refine Run.seq ?_ | refine Run.skip ?_ | refine Run.label ?_ | refine Run.block ?_ | refine Run.unblock ?_))
        refine Run.le (Le.re (obs' := [.arr .int (itF c a b y (k + 1)) 0 true]) hpin [4] [(0, true, .sl false (.row false) c), (1, true, .sl false .int a), (3, true, .sl false .int b), (8, true, .nils), (9, true, .bool false), (11, true, .own 0 0), (13, true, .int .i64 k)] rfl (by simp [leOs, leO_arr, oAt]) (by refine ⟨⟨_, rfl, ?_⟩, ⟨_, rfl, ?_⟩, ⟨_, rfl, ?_⟩, ⟨_, rfl, ?_⟩, ⟨_, rfl, ?_⟩, ⟨_, rfl, ?_⟩, ⟨_, rfl, ?_⟩, trivial⟩ <;> simp [leAV, oAt, genO])) ?_; simp only [frV_cons, frV_nil]
        (repeat (first | refine Run.seq ?_ | refine Run.skip ?_ | refine Run.label ?_ | refine Run.block ?_ | refine Run.unblock ?_)); refine Run.regionW hC (fun K hK => ?_); simp (disch := omega) only [wrap_id, AW1, simprocAttr, Int.toNat_natCast, beq_self_eq_true, hX]; (repeat (with_reducible refine And.intro ?_ ?_); focus (first | omega | (intros; simp_all; done) | (intro h; simp only [VB] at h; omega) | (intros; simp_all; omega))); refine hK _ ?_; clear hK K; (repeat (first | refine Run.seq ?_ | refine Run.skip ?_ | refine Run.label ?_ | refine Run.block ?_ | refine Run.unblock ?_))
        refine Run.le ?_ (ih (k + 1) (fun j hj => ?_) (by omega))
        · exact Le.sub (by rfl) (by simp only [AW1, simprocAttr, Int.toNat_natCast, beq_self_eq_true]; try simp)
        · rcases Nat.lt_succ_iff_lt_or_eq.1 hj with h | rfl
          · exact hk j h
          · exact he
    · intro h
      simp at h
      omega

theorem c_impl_DoubleMinimal (c : List (List Int)) (a w b : List Int) (hcl : c.length ≤ 1048576) :
    FunA B 47 [.sl false (.row false) c, .sl false .int a, .sl false .int w, .sl false .int b] (fun rs o => rs = [.own 0 0, .bool (dblB c a w b)] ∧ o = [.arr .int (dblM c a w b) 0 true]) := by
  refine FunA.walk B_ok (fn := Try.f47) (fun vs w => Try.call47 vs w) Try.func47 rfl (by rw [Try.ntmps47]; simp) (fun C hC hP hT hΓ hbt hfn hpin hfin => ?_); have hX := BX; rw [← hΓ, ← hbt] at hX; rw [Try.ntmps47]; simp only [AW1, simprocAttr, Int.toNat_natCast, beq_self_eq_true, hX]
  (repeat (first | refine Run.seq ?_ | refine Run.skip ?_ | refine Run.label ?_ | refine Run.block ?_ | refine Run.unblock ?_)); refine Run.regionW hC (fun K hK => ?_); simp only [AW1, simprocAttr, Int.toNat_natCast, beq_self_eq_true, hX]; (repeat (with_reducible refine And.intro ?_ ?_); focus (first | omega | (intros; simp_all; done) | (intro h; simp only [VB] at h; omega) | (intros; simp_all; omega))); refine hK _ ?_; clear hK K; (repeat (first | refine Run.seq ?_ | refine Run.skip ?_ | refine Run.label ?_ | refine Run.block ?_ | refine Run.unblock ?_))
  (repeat (first | refine Run.seq ?_ | refine Run.skip ?_ | refine Run.label ?_ | refine Run.block ?_ | refine Run.unblock ?_)); refine Run.regionW hC (fun K hK => ?_); simp only [AW1, simprocAttr, Int.toNat_natCast, beq_self_eq_true, hX]; (repeat (with_reducible refine And.intro ?_ ?_); focus (first | omega | (intros; simp_all; done) | (intro h; simp only [VB] at h; omega) | (intros; simp_all; omega)))
  refine FunA.callW hP hT (c_impl_IsWord c w) (by simp only [AW1, simprocAttr, Int.toNat_natCast, beq_self_eq_true]) ?_
  rintro rs o ⟨rfl, rfl⟩
  (try simp only [AW1, simprocAttr, Int.toNat_natCast, beq_self_eq_true, hX]); (repeat (with_reducible refine And.intro ?_ ?_); focus (first | omega | (intros; simp_all; done) | (intro h; simp only [VB] at h; omega) | (intros; simp_all; omega)))
  refine .inl (FunA.callG hP hT (c_impl_IsSet c a hcl) (fun _ => rfl) (fun _ => by simp only [AW1, simprocAttr, Int.toNat_natCast, beq_self_eq_true]) ?_)
  (try simp only [AW1, simprocAttr, Int.toNat_natCast, beq_self_eq_true, hX]); (repeat (with_reducible refine And.intro ?_ ?_); focus (first | omega | (intros; simp_all; done) | (intro h; simp only [VB] at h; omega) | (intros; simp_all; omega)))
  refine .inl (FunA.callG hP hT (c_impl_IsSet c b hcl) (fun _ => rfl) (fun _ => by simp only [AW1, simprocAttr, Int.toNat_natCast, beq_self_eq_true]) ?_)
  (try simp only [AW1, simprocAttr, Int.toNat_natCast, beq_self_eq_true, hX]); (repeat (with_reducible refine And.intro ?_ ?_); focus (first | omega | (intros; simp_all; done) | (intro h; simp only [VB] at h; omega) | (intros; simp_all; omega)))
  (repeat (with_reducible refine And.intro ?_ ?_); focus (first | omega | (intros; simp_all; done) | (intro h; simp only [VB] at h; omega) | (intros; simp_all; omega))); refine hK _ ?_; clear hK K; (repeat (first | refine Run.seq ?_ | refine Run.skip ?_ | refine Run.label ?_ | refine Run.block ?_ | refine Run.unblock ?_))
  (repeat (first | refine Run.seq ?_ | refine Run.skip ?_ | refine Run.label ?_ | refine Run.block ?_ | refine Run.unblock ?_)); refine Run.condW (by simp only [AW1, simprocAttr, Int.toNat_natCast, beq_self_eq_true, hX]; rfl) (by simp only [AW1, simprocAttr, Int.toNat_natCast, beq_self_eq_true, hX]) ?_ ?_
  · intro h
    have h : dblB c a w b = false := by
      revert h
      cases hw : wordB c w <;> cases hi : isSetB c a <;> cases hj : isSetB c b <;> simp [dblB, leftB, hw, hi, hj]
    (repeat (first | refine Run.seq ?_ | refine Run.skip ?_ | refine Run.label ?_ | refine Run.block ?_ | refine Run.unblock ?_)); refine Run.regionW hC (fun K hK => ?_); simp only [AW1, simprocAttr, Int.toNat_natCast, beq_self_eq_true, hX]; (repeat (with_reducible refine And.intro ?_ ?_); focus (first | omega | (intros; simp_all; done) | (intro h; simp only [VB] at h; omega) | (intros; simp_all; omega))); refine hK _ ?_; clear hK K; (repeat (first | refine Run.seq ?_ | refine Run.skip ?_ | refine Run.label ?_ | refine Run.block ?_ | refine Run.unblock ?_))
    refine Run.retW [8, 9] (by decide) (by rw [hfn]; rfl) (by simp only [AW1, simprocAttr, Int.toNat_natCast, beq_self_eq_true, hX]; rfl) (by simp only [AW1, simprocAttr, Int.toNat_natCast, beq_self_eq_true, hX]) (hfin _ _ rfl rfl ?_)
    simp [dblM, h]
  · intro h
    have hd : dblB c a w b = true := by
      revert h
      cases hw : wordB c w <;> cases hi : isSetB c a <;> cases hj : isSetB c b <;> simp [dblB, leftB, hw, hi, hj]
    have hd2 := hd
    simp only [dblB, Bool.and_eq_true] at hd2
    obtain ⟨⟨hc, h2, h3⟩, hs⟩ := leftB_iff.1 hd2.1
    have hsb := isSet_setP hd2.2
    have hG := Good.of hc hs h3 (by omega)
    obtain ⟨y, hy⟩ : ∃ y, y = Lf c a w := ⟨_, rfl⟩
    rw [← hy] at hG
    refine Run.keep [0, 1, 2, 3, 8, 9] ?_; simp only [AK, Nat.reduceBEq]
    (repeat (first | refine Run.seq ?_ | refine Run.skip ?_ | refine Run.label ?_ | refine Run.block ?_ | refine Run.unblock ?_))
    refine Run.loopI (X := Nat × List Int × Bool) (fun x => ⟨52, [(0, true, .v (.sl false (.row false) c)), (1, true, .v (.sl false .int a)), (2, true, .v (.sl x.2.2 .int x.2.1)), (3, true, .v (.sl false .int b)), (8, true, .v .nils), (9, true, .v (.bool false))], []⟩) (fun x => Lf c a x.2.1 = itF c a b y x.1 ∧ letters c.length x.2.1 ∧ x.2.1.length + x.1 ≤ 15) (fun x => x.2.1.length) (0, w, false) ⟨hy.symm, h3, by simpa using h2⟩ ?_ ?_
    · exact Le.sub (by rfl) (by simp only [AW1, simprocAttr, Int.toNat_natCast, beq_self_eq_true, hX]; try simp)
    rintro ⟨k, x, fl⟩ ⟨hx, hlx, hxk⟩ ih
    simp only [] at hx hlx hxk ⊢
    have hGk := itF_good hc hs hsb hG k
    obtain ⟨g1, g2, g3, g4⟩ := hGk.next hc hs hsb
    have hGl := hGk.len
    obtain ⟨r1, r2, r3⟩ := Rf_spec hc hsb hGk.red.1 (by omega)
    obtain ⟨_, l2⟩ := Lf_spec hc hs hlx (by omega)
    rw [hx] at l2
    (repeat (first | refine Run.seq ?_ | refine Run.skip ?_ | refine Run.label ?_ | refine Run.block ?_ | refine Run.unblock ?_)); refine Run.regionW hC (fun K hK => ?_); simp only [AW1, simprocAttr, Int.toNat_natCast, beq_self_eq_true, hX]; (repeat (with_reducible refine And.intro ?_ ?_); focus (first | omega | (intros; simp_all; done) | (intro h; simp only [VB] at h; omega) | (intros; simp_all; omega)))
    refine FunA.callW hP hT (c_impl_leftParts c a x hc hs hlx (by omega)) (by simp only [AW1, simprocAttr, Int.toNat_natCast, beq_self_eq_true]) ?_
    rintro rs o ⟨rfl, rfl⟩
    rw [show nfL c 31 (lpL c a 31 (imageL c x)).2 = itF c a b y k from hx]
    (try simp only [AW1, simprocAttr, Int.toNat_natCast, beq_self_eq_true, hX]); (repeat (with_reducible refine And.intro ?_ ?_); focus (first | omega | (intros; simp_all; done) | (intro h; simp only [VB] at h; omega) | (intros; simp_all; omega)))
    (repeat (with_reducible refine And.intro ?_ ?_); focus (first | omega | (intros; simp_all; done) | (intro h; simp only [VB] at h; omega) | (intros; simp_all; omega))); refine hK _ ?_; clear hK K; (repeat (first | refine Run.seq ?_ | refine Run.skip ?_ | refine Run.label ?_ | refine Run.block ?_ | refine Run.unblock ?_))
    (repeat (first | refine Run.seq ?_ | refine Run.skip ?_ | refine Run.label ?_ | refine Run.block ?_ | refine Run.unblock ?_)); refine Run.regionW hC (fun K hK => ?_); simp only [AW1, simprocAttr, Int.toNat_natCast, beq_self_eq_true, hX]; (repeat (with_reducible refine And.intro ?_ ?_); focus (first | omega | (intros; simp_all; done) | (intro h; simp only [VB] at h; omega) | (intros; simp_all; omega)))
    refine FunA.callW hP hT (c_impl_rightParts c b (itF c a b y k) hc hsb hGk.red.1 (by omega)) (by simp only [AW1, simprocAttr, Int.toNat_natCast, beq_self_eq_true]) ?_
    rintro rs o ⟨rfl, rfl⟩
    (try simp only [AW1, simprocAttr, Int.toNat_natCast, beq_self_eq_true, hX]); (repeat (with_reducible refine And.intro ?_ ?_); focus (first | omega | (intros; simp_all; done) | (intro h; simp only [VB] at h; omega) | (intros; simp_all; omega)))
    (repeat (with_reducible refine And.intro ?_ ?_); focus (first | omega | (intros; simp_all; done) | (intro h; simp only [VB] at h; omega) | (intros; simp_all; omega))); refine hK _ ?_; clear hK K; (repeat (first | refine Run.seq ?_ | refine Run.skip ?_ | refine Run.label ?_ | refine Run.block ?_ | refine Run.unblock ?_))
    (repeat (first | refine Run.seq ?_ | refine Run.skip ?_ | refine Run.label ?_ | refine Run.block ?_ | refine Run.unblock ?_)); refine Run.regionW hC (fun K hK => ?_); simp only [AW1, simprocAttr, Int.toNat_natCast, beq_self_eq_true, hX]; (repeat (with_reducible refine And.intro ?_ ?_); focus (first | omega | (intros; simp_all; done) | (intro h; simp only [VB] at h; omega) | (intros; simp_all; omega))); refine hK _ ?_; clear hK K; (repeat (first | refine Run.seq ?_ | refine Run.skip ?_ | refine Run.label ?_ | refine Run.block ?_ | refine Run.unblock ?_))
    (repeat (first | refine Run.seq ?_ | refine Run.skip ?_ | refine Run.label ?_ | refine Run.block ?_ | refine Run.unblock ?_)); refine Run.condW (by simp only [AW1, simprocAttr, Int.toNat_natCast, beq_self_eq_true, hX]; rfl) (by simp only [AW1, simprocAttr, Int.toNat_natCast, beq_self_eq_true, hX]) ?_ ?_
    · intro he
      have he : (Rf c b (itF c a b y k)).length = x.length := by simp at he; omega
      obtain ⟨e1, e2⟩ := g4 (by omega)
      have hm : dblM c a w b = itF c a b y k := by
        unfold dblM
        rw [if_pos hd, ← hy, show 16 = k + (16 - k) by omega]
        exact itF_fix e2 _
      (repeat (first | refine Run.seq ?_ | refine Run.skip ?_ | refine Run.label ?_ | refine Run.block ?_ | refine Run.unblock ?_)); refine Run.regionW hC (fun K hK => ?_); simp only [AW1, simprocAttr, Int.toNat_natCast, beq_self_eq_true, hX]; (repeat (with_reducible refine And.intro ?_ ?_); focus (first | omega | (intros; simp_all; done) | (intro h; simp only [VB] at h; omega) | (intros; simp_all; omega))); refine hK _ ?_; clear hK K; (repeat (first | refine Run.seq ?_ | refine Run.skip ?_ | refine Run.label ?_ | refine Run.block ?_ | refine Run.unblock ?_))
      refine Run.le (Le.re (obs' := [.arr .int (dblM c a w b) 0 true]) hpin [2] [(8, true, .own 0 0), (9, true, .bool true)] rfl (by simp [leOs, leO_arr, oAt, hm, e1]) (by refine ⟨⟨_, rfl, ?_⟩, ⟨_, rfl, ?_⟩, trivial⟩ <;> simp [leAV, oAt, genO, hm, e1])) ?_; simp only [frV_cons, frV_nil]
      refine Run.retW [8, 9] (by decide) (by rw [hfn]; rfl) (by simp only [AW1, simprocAttr, Int.toNat_natCast, beq_self_eq_true, hX]; rfl) (by simp only [AW1, simprocAttr, Int.toNat_natCast, beq_self_eq_true, hX]) (hfin _ _ rfl rfl ?_)
      simp [hd]
    · intro he
      have he : (Rf c b (itF c a b y k)).length ≠ x.length := by intro k; apply absurd he; simp [k]
      (repeat (first | refine Run.seq ?_ | refine Run.skip ?_ | refine Run.label ?_ | refine Run.block ?_ | refine Run.unblock ?_)); refine Run.regionW hC (fun K hK => ?_); simp only [AW1, simprocAttr, Int.toNat_natCast, beq_self_eq_true, hX]; (repeat (with_reducible refine And.intro ?_ ?_); focus (first | omega | (intros; simp_all; done) | (intro h; simp only [VB] at h; omega) | (intros; simp_all; omega))); refine hK _ ?_; clear hK K; (repeat (first | refine Run.seq ?_ | refine Run.skip ?_ | refine Run.label ?_ | refine Run.block ?_ | refine Run.unblock ?_))
      refine Run.le (Le.letgo 2 [(0, true, .sl false (.row false) c), (1, true, .sl false .int a), (2, true, .sl true .int (Rf c b (itF c a b y k))), (3, true, .sl false .int b), (8, true, .nils), (9, true, .bool false)] rfl ?_) ?_
      · exact ⟨.inl rfl, .inl rfl, .inr ⟨rfl, rfl⟩, .inl rfl, .inl rfl, .inl rfl, trivial⟩
      simp only [frV_cons, frV_nil]
      refine Run.le ?_ (ih (k + 1, Rf c b (itF c a b y k), true) ⟨rfl, r1.1, by simp only []; omega⟩ (by simp only []; omega))
      exact Le.cut0 hpin [_, _, _, _] (by rfl) (by simp only [AW1, simprocAttr, Int.toNat_natCast, beq_self_eq_true]; try simp) rfl
end Go.Proofs.Ytbeeblhmgpgkjaa
