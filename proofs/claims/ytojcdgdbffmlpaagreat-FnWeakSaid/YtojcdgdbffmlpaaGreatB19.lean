/- A function that is lent a slice, called with a nil one. -/
import Derived.Test.YtojcdgdbffmlpaaGreatB6
import Derived.Test.YtojcdgdbffmlpaaGreatB14
import Derived.Test.YtojcdgdbffmlpaaGreatB13
set_option linter.unusedVariables false
set_option linter.unusedSimpArgs false
namespace Go.Aw
open Go
def nilA : AV → AV
  | .own _ _ => .nils
  | x => x
def nilOk : AV → Bool
  | .own id g => id == 0 && g == 0
  | x => plainAV x
theorem FunM.nil {B : Ctx} {f : FuncId} {args : List AV} {e : E} {post : List AV → List O → Prop} (h : FunM B f args e [] false post) (hok : args.all nilOk = true) (hp : ∀ rs o, post rs o → o.all freshO = true) :
    FunA B f (args.map nilA) post := by
  refine ⟨h.1, fun w L vs hG hl ha => ?_⟩
  have hM : (fun b => fpo (.slice none 0 0) (.arr e ([] : List e.D) 0 false) b) = fun _ => False := by
    funext b
    simp [fpo, Value.ownBlock]
  have hV : ∀ (w' : World) (obs : List O) (ρ : Nat → Value), (B.lentB w L (.arr e [] 0 false) (.slice none 0 0)).V w' obs ρ = (B.bareL w L).V w' obs ρ := by
    intro w' obs ρ
    simp only [Ctx.V, Ctx.lentB, Ctx.lent, Ctx.enterL, Ctx.bareL, Ctx.Fr, Ctx.Wr]
    rw [hM]
    rfl
  have hWr : ∀ b, (B.lentB w L (.arr e [] 0 false) (.slice none 0 0)).Wr b ↔ (B.bareL w L).Wr b := by
    intro b
    simp only [Ctx.lentB, Ctx.lent, Ctx.enterL, Ctx.bareL, Ctx.Wr]
    rw [show fpo (.slice none 0 0) (.arr e ([] : List e.D) 0 false) b = False from congrFun hM b]
  have hmask : ∀ (w' : World), mask w' [] (fun _ => undef) = mask w' [.arr e ([] : List e.D) 0 false] (fun _ => .slice none 0 0) := by
    intro w'
    funext b
    unfold mask
    have h1 : ¬ Own [] (fun _ => undef) b := by rintro ⟨id, o, ho, _⟩; simp at ho
    have h2 : ¬ Own [.arr e ([] : List e.D) 0 false] (fun _ => .slice none 0 0) b := by
      rintro ⟨id, o, ho, hf⟩
      cases id with
      | zero => simp at ho; subst ho; simp [fpo, Value.ownBlock] at hf
      | succ id => simp at ho
    rw [if_neg h1, if_neg h2]
  have hH : ((B.lentB w L (.arr e [] 0 false) (.slice none 0 0)).V w [.arr e [] 0 false] (fun _ => .slice none 0 0)).H = ((B.bareL w L).V w [] (fun _ => undef)).H := (hmask w).symm
  refine (h.2 w L (.slice none 0 0) vs ?_ (by simpa using hl) fun i x v hx hv => ?_).mono ?_
  · refine ⟨fun id o ho => ?_, fun i j o o' b hi hj hf _ => ?_, fun b ⟨id, o, ho, hf⟩ => ?_, rfl, rfl, rfl, Nat.le_refl _, Nat.le_refl _, fun _ _ _ => rfl, fun g hg => ⟨fun k => (show False from (congrFun hM g).mp k), (hG g hg).2⟩⟩
    · cases id with
      | zero =>
        simp at ho
        subst ho
        refine ⟨[], ⟨by simp, .inl ⟨rfl, rfl⟩⟩, ⟨by simp, fun i hi => by simp at hi⟩, by simp, by simp⟩
      | succ id => simp at ho
    · cases i with
      | zero => simp at hi; subst hi; simp [fpo, Value.ownBlock] at hf
      | succ i => simp at hi
    · cases id with
      | zero => simp at ho; subst ho; simp [fpo, Value.ownBlock] at hf
      | succ id => simp at ho
  · have hx2 : (args.map nilA)[i]? = some (nilA x) := by simp [hx]
    have hk := List.all_eq_true.1 hok x (List.mem_of_getElem? hx)
    have h3 := ha i (nilA x) v hx2 hv
    cases x with
    | own id g =>
      simp [nilOk] at hk
      obtain ⟨rfl, rfl⟩ := hk
      have h3 : v = .slice none 0 0 := h3
      exact ⟨by simp, fun c hc => ⟨Nat.zero_le _, fun _ => h3⟩⟩
    | sl f e2 xs =>
      have h3 : SlRel _ f e2 xs v := h3
      have h4 : SlRel ((B.lentB w L (.arr e [] 0 false) (.slice none 0 0)).V w [.arr e [] 0 false] (fun _ => .slice none 0 0)) f e2 xs v := by
        have := plain_rel hH (x := .sl f e2 xs) hk (v := v) h3
        exact this
      exact h4
    | _ => first | exact h3 | (simp [nilOk, plainAV] at hk)
  · rintro en w' ⟨us, hen, rs, o', obs', ρ', hpost, hul, hu, hw, hfr, _, _⟩
    refine ⟨us, hen, rs, o' :: obs', ρ', hpost, hul, fun i x v hx hv => ?_, ?_, hfr, hp _ _ hpost⟩
    · have := hu i x v hx hv
      rwa [hV] at this
    · exact ⟨fun id o ho => by have := hw.os id o ho; rwa [hV] at this, hw.dis, fun b hb => (hWr b).1 (hw.own b hb), hw.os0, hw.tape, hw.output, hw.grow, hw.drawn, fun b hb hnm => hw.kept b hb (by
        show ¬ (fun b => fpo (.slice none 0 0) (.arr e ([] : List e.D) 0 false) b) b
        rw [hM]; exact fun h => h), fun g hg => ⟨fun h => h, (hw.gl g hg).2⟩⟩
def mvA : AV → AV
  | .own 0 g => .own 1 g
  | .own _ _ => .junk
  | .elt .. => .junk
  | x => x
def mvC (s : Nat) : Option (Bool × Sl) → List (Nat × Bool × AV) → List (Nat × Bool × AV)
  | some (ex, .v x), l => (s, ex, mvA x) :: l
  | _, l => l
def mvF (fr : List (Nat × Bool × Sl)) : List Nat → List (Nat × Bool × AV)
  | [] => []
  | s :: ks => mvC s (look s fr) (mvF fr ks)
theorem mvF_look {fr : List (Nat × Bool × Sl)} : ∀ {ks : List Nat} {s : Nat} {ex : Bool} {x : Sl}, look s (frV (mvF fr ks)) = some (ex, x) → ∃ y, look s fr = some (ex, .v y) ∧ x = .v (mvA y)
  | [], s, ex, x, h => by simp [look, mvF, frV] at h
  | t :: ks, s, ex, x, h => by
    simp only [mvF] at h
    cases hl : look t fr with
    | none => rw [hl] at h; exact mvF_look h
    | some p =>
      obtain ⟨e2, y⟩ := p
      rw [hl] at h
      cases y with
      | t l => exact mvF_look h
      | v y =>
        simp only [mvC, frV, List.map_cons, look] at h
        split at h
        · rename_i ht
          have : s = t := by simpa using ht
          subst this
          cases h
          exact ⟨y, hl, rfl⟩
        · exact mvF_look h
theorem Run.mv0 {C : Ctx} {k : List Item} (ks : List Nat) {n : Nat} {fr : List (Nat × Bool × Sl)} {e : E} {xs : List e.D} {nn : Bool} (h : Run C k ⟨n, frV (mvF fr ks), [.dead, .arr e xs 0 nn]⟩) : Run C k ⟨n, fr, [.arr e xs 0 nn]⟩ := by
  intro a w ρ r
  have hOwn : ∀ b, Own [.dead, .arr e xs 0 nn] (fun i => if i = 1 then ρ 0 else ρ i) b ↔ Own [.arr e xs 0 nn] ρ b := by
    intro b
    constructor
    · rintro ⟨id, o, ho, hf⟩
      match id, ho with
      | 0, ho => simp at ho; subst ho; exact hf.elim
      | 1, ho => simp at ho; subst ho; exact ⟨0, _, rfl, hf⟩
      | id + 2, ho => simp at ho
    · rintro ⟨id, o, ho, hf⟩
      match id, ho with
      | 0, ho => simp at ho; subst ho; exact ⟨1, _, rfl, hf⟩
      | id + 1, ho => simp at ho
  have hV : C.V w [.dead, .arr e xs 0 nn] (fun i => if i = 1 then ρ 0 else ρ i) = C.V w [.arr e xs 0 nn] ρ := by
    have : mask w [.dead, .arr e xs 0 nn] (fun i => if i = 1 then ρ 0 else ρ i) = mask w [.arr e xs 0 nn] ρ := by
      funext b
      unfold mask
      by_cases hb : Own [.arr e xs 0 nn] ρ b
      · rw [if_pos hb, if_pos ((hOwn b).2 hb)]
      · rw [if_neg hb, if_neg (fun k => hb ((hOwn b).1 k))]
    simp only [Ctx.V, this]
  refine h a w (fun i => if i = 1 then ρ 0 else ρ i) ⟨r.defers, r.size, fun s ex x hl => ?_, ?_, fun j v hj => ?_⟩
  · obtain ⟨y, h1, rfl⟩ := mvF_look hl
    obtain ⟨k1, k2⟩ := r.fr s ex _ h1
    refine ⟨fun he => ?_, k2⟩
    have h2 : AVRel (C.V w [.arr e xs 0 nn] ρ) [.arr e xs 0 nn] ρ y (a.tmps.getD s undef) := k1 he
    show AVRel _ _ _ (mvA y) _
    cases y with
    | own i g =>
      match i, h2 with
      | 0, h2 =>
        refine ⟨by simp, fun c hc => ?_⟩
        obtain ⟨q1, q2⟩ := h2.2 c hc
        exact ⟨q1, fun e => q2 e⟩
      | i + 1, _ => trivial
    | elt i g s k => trivial
    | sl f e xs => rw [hV]; exact h2
    | lr l xs => rw [hV]; exact h2
    | relt f e d => rw [hV]; exact h2
    | _ => exact h2
  · refine ⟨fun id o ho => ?_, fun i j o o' b hi hj b1 b2 => ?_, fun b hb => r.w.own b ((hOwn b).1 hb), r.w.os0, r.w.tape, r.w.output, r.w.grow, r.w.drawn, r.w.kept, r.w.gl⟩
    · rw [hV]
      match id, ho with
      | 0, ho => simp at ho; subst ho; trivial
      | 1, ho => simp at ho; subst ho; exact r.w.os 0 _ rfl
      | id + 2, ho => simp at ho
    · match i, j, hi, hj with
      | 0, _, hi, _ => simp at hi; subst hi; exact b1.elim
      | _, 0, _, hj => simp at hj; subst hj; exact b2.elim
      | 1, 1, _, _ => rfl
      | 1, j + 2, _, hj => simp at hj
      | i + 2, _, hi, _ => simp at hi
  · obtain ⟨k1, k2⟩ := r.pin j v hj
    refine ⟨by simp at k1 ⊢; omega, fun hg => ?_⟩
    have : j = 0 := by simp at k1; exact k1
    subst this
    cases hg
theorem mvA_own0 (g : Nat) : mvA (.own 0 g) = .own 1 g := rfl
theorem mvA_int (k : IntKind) (n : Int) : mvA (.int k n) = .int k n := rfl
theorem mvA_bool (b : Bool) : mvA (.bool b) = .bool b := rfl
theorem mvA_sl (f : Bool) (e : E) (xs : List e.D) : mvA (.sl f e xs) = .sl f e xs := rfl
theorem mvA_nils : mvA .nils = .nils := rfl
theorem mvC_some (s : Nat) (ex : Bool) (x : AV) (l : List (Nat × Bool × AV)) : mvC s (some (ex, .v x)) l = (s, ex, mvA x) :: l := rfl
theorem mvF_nil (fr : List (Nat × Bool × Sl)) : mvF fr [] = [] := rfl
theorem mvF_cons (fr : List (Nat × Bool × Sl)) (s : Nat) (ks : List Nat) : mvF fr (s :: ks) = mvC s (look s fr) (mvF fr ks) := rfl
theorem AMV : type_of% @mvA_own0 ∧ type_of% @mvA_int ∧ type_of% @mvA_bool ∧ type_of% @mvA_sl ∧ type_of% @mvA_nils ∧ type_of% @mvC_some ∧ type_of% @mvF_nil ∧ type_of% @mvF_cons := ⟨@mvA_own0, @mvA_int, @mvA_bool, @mvA_sl, @mvA_nils, @mvC_some, @mvF_nil, @mvF_cons⟩
theorem FunA.frozenE {B : Ctx} {f : FuncId} {args : List AV} {e : E} {xs : List e.D} {g : Nat} (he : freshE e = true) (h : FunA B f args (fun rs o => ∃ nn, rs = [.own 0 g] ∧ o = [.arr e xs g nn])) : FunA B f args (fun rs o => rs = [.sl true e xs] ∧ o = []) := by
  refine ⟨h.1, fun w L vs hG hl ha => (h.2 w L vs hG hl ha).mono ?_⟩
  rintro en w' ⟨us, hen, rs, o, ρ', ⟨nn, rfl, rfl⟩, hul, hu, hw, _, _⟩
  obtain ⟨hst, hsl⟩ := letgo_sl hw (id := 0) (g := g) (e := e) (xs := xs) (nn := nn) rfl
  match us, hul with
  | [u], _ =>
    have hu0 : u = ρ' 0 := ((hu 0 (.own 0 g) u rfl rfl).2 g rfl).2 rfl
    have hno : ∀ b (ρ : Nat → Value), ¬ Own ([] : List O) ρ b := fun b ρ ⟨id, o, ho, _⟩ => by simp at ho
    have hle : ((B.bareL w L).V w' [.dead] (fun i => if i = 0 then ρ' 0 else ρ' i)).le ((B.bareL w L).V w' [] ρ') := by
      refine ⟨fun b o hb => ?_, fun _ hb => hb, rfl⟩
      simp only [Ctx.V, mask] at hb ⊢
      rw [if_neg (hno b ρ')]
      split at hb
      · cases hb
      · exact hb
    refine ⟨[u], hen, [.sl true e xs], [], ρ', ⟨rfl, rfl⟩, rfl, fun i x v hx hv => ?_, ⟨fun id o ho => by simp at ho, fun i j o o' b hi => by simp at hi, fun b hb => (hno b _ hb).elim, hw.os0, hw.tape, hw.output, hw.grow, hw.drawn, hw.kept, hw.gl⟩, by simp [freshAV, he], rfl⟩
    match i, hx, hv with
    | 0, hx, hv =>
      simp at hx hv
      subst hx hv
      rw [hu0]
      exact SlRel.mono hle hsl
end Go.Aw
namespace Go.Proofs.YtojcdgdbffmlpaaGreat
open Go Go.Aw Go.Cox
def desT (v : List Int) (n : Nat) : List Int := ((List.range n).filter fun k => decide (v.getD k 0 < 0)).map Int.ofNat
theorem desT_snoc (v : List Int) (n : Nat) : desT v (n + 1) = if v.getD n 0 < 0 then desT v n ++ [(n : Int)] else desT v n := by
  unfold desT
  rw [List.range_succ, List.filter_append, List.map_append]
  by_cases h : v.getD n 0 < 0
  · rw [if_pos h]; simp only [List.filter_cons, List.filter_nil, decide_eq_true h, if_true, List.map_cons, List.map_nil]; rfl
  · rw [if_neg h]; simp only [List.filter_cons, List.filter_nil, decide_eq_false h, List.map_nil, List.append_nil]; simp
theorem desT_len (v : List Int) (n : Nat) : (desT v n).length ≤ n := by
  unfold desT
  have := List.length_filter_le (fun k => decide (v.getD k 0 < 0)) (List.range n)
  simp at this ⊢
  exact this
theorem desT_full (v : List Int) : desT v v.length = desL v := rfl
theorem c_impl_descents (v : List Int) (hv : v.length ≤ 1048576) : FunA B 227 [.sl false .int v] (fun rs o => rs = [.own 0 0] ∧ o = [.arr .int (desL v) 0 true]) := by
  refine FunA.walk B_ok (fn := Tryz.f227) (fun vs w => Tryz.call227 vs w) Tryz.func227 rfl (by rw [Tryz.ntmps227]; simp) (fun C hC hP hT hΓ hbt hfn hpin hfin => ?_); have hX := BX; rw [← hΓ, ← hbt.1, ← hbt.2] at hX; rw [Tryz.ntmps227]; simp only [AW7, simprocAttr, hX]
  refine Run.R ?_
  refine Run.R ?_
  refine Run.R ?_
  refine Run.reK hpin [0, 3, 7, 8, 9] [0] (by decide) (by simp) ?_; simp only [AR, AW7, simprocAttr]
  refine Run.loopI (X := Nat) (fun k => ⟨22, [(0, true, .v (.sl false .int (v))), (3, true, .v (.own 0 0)), (7, true, .v (.sl false .int (v))), (8, true, .v (.int .i64 (v.length))), (9, true, .v (.int .i64 (k)))], [.arr .int ((desT v k)) 0 true]⟩) (fun k => k ≤ v.length) (fun k => v.length - k) (0) (Nat.zero_le _) ?_ ?_
  · exact Le.sub (by first | rfl | simp) (by simp only [AW7, simprocAttr, hX]; try simp <;> try (first | rfl | exact ⟨rfl, rfl⟩ | exact ⟨rfl, rfl, rfl⟩))
  rintro k hk ih
  try simp only []
  have hdl := desT_len v k
  refine Run.R ?_
  refine Run.nq ?_; refine Run.cW ?_ ?_
  rotate_left
  · intro h
    have h : k = v.length := by rw [decide_eq_false_iff_not] at h; omega
    subst h
    refine Run.exit rfl ?_; refine Run.nq ?_
    refine Run.R ?_
    refine Run.reK hpin [2] [0] (by decide) (by simp) ?_; simp only [AR, AW7, simprocAttr]
    refine Run.rW [2] (hfin _ _ rfl rfl ?_)
    exact ⟨rfl, rfl⟩
  intro h
  have h : k < v.length := by rw [decide_eq_true_eq] at h; omega
  have hs := desT_snoc v k
  refine Run.R ?_
  refine Run.R ?_
  refine Run.nq ?_; refine Run.cW ?_ ?_
  · intro h2
    have h2 : v.getD k 0 < 0 := by simpa using h2
    rw [if_pos h2] at hs
    refine Run.R ?_
    rw [← hs]
    refine Run.reK hpin [0, 3, 7, 8, 9] [0] (by decide) (by simp) ?_; simp only [AR, AW7, simprocAttr]
    refine Run.RW ?_
    refine Run.le ?_ (ih (k + 1) (h) (by (try simp only [List.length_append, List.length_cons, List.length_nil]); omega))
    exact Le.sub (by rfl) (by simp only [AW7, simprocAttr]; try simp)
  intro h2
  have h2 : ¬ v.getD k 0 < 0 := by simpa using h2
  rw [if_neg h2] at hs
  rw [← hs]
  refine Run.reK hpin [0, 3, 7, 8, 9] [0] (by decide) (by simp) ?_; simp only [AR, AW7, simprocAttr]
  refine Run.RW ?_
  refine Run.le ?_ (ih (k + 1) (h) (by (try simp only [List.length_append, List.length_cons, List.length_nil]); omega))
  exact Le.sub (by rfl) (by simp only [AW7, simprocAttr]; try simp)
def nS (c : List (List Int)) (f : Nat) (v : List Int) (k : Nat) : Nat := (((desL v).take k).map fun i => nW c f (reflL c i v)).sum
theorem nS_succ (c : List (List Int)) (f : Nat) (v : List Int) (k : Nat) (h : k < (desL v).length) : nS c f v (k + 1) = nS c f v k + nW c f (reflL c ((desL v).getD k 0) v) := by
  unfold nS
  rw [← take_snoc 0 (desL v) k h]
  simp
theorem nS_full (c : List (List Int)) (f : Nat) (v : List Int) : nS c f v (desL v).length = ((desL v).map fun i => nW c f (reflL c i v)).sum := by simp [nS]
theorem nS_mono (c : List (List Int)) (f : Nat) (v : List Int) : ∀ {k : Nat}, k ≤ (desL v).length → nS c f v k ≤ nS c f v (desL v).length := by
  intro k hk
  obtain ⟨d, hd⟩ : ∃ d, (desL v).length = k + d := ⟨(desL v).length - k, by omega⟩
  have : ∀ d, k + d ≤ (desL v).length → nS c f v k ≤ nS c f v (k + d) := by
    intro d
    induction d with
    | zero => intro _; exact Nat.le_refl _
    | succ d ih =>
      intro h
      have := nS_succ c f v (k + d) (by omega)
      have := ih (by omega)
      rw [show k + (d + 1) = k + d + 1 by omega]
      omega
  have := this d (by omega)
  rw [← hd] at this
  exact this
theorem c_CloneF (w : List Int) (hl : w.length ≤ 1048576) : FunA B 121 [.sl false .int w] (fun rs o => rs = [.sl true .int w] ∧ o = []) := FunA.frozenE rfl (c_slices_Clone w hl)
theorem c_impl_spelled (c : List (List Int)) (hc : CartanP c) : ∀ (L : Nat) (v head : List Int) (ys : List (List Int)) (nn : Bool), L ≤ 31 → Far c L v → head.length + L ≤ 100 → ys.length ≤ 120 →
    FunM B 194 [.sl false (.row false) c, .sl false .int v, .sl false .int head, .own 0 0, .int .i64 120] (.row true) ys nn (fun rs o => ∃ (ys' : List (List Int)) (n2 : Bool), ys'.length = min (ys.length + nW c L v) 121 ∧ rs = [.own 1 0] ∧ o = [.dead, .arr (.row true) ys' 0 n2]) := by
  have hn := hc.2.1
  intro L
  induction L with
  | zero =>
    intro v head ys nn hL hf hh hy
    have hd := (des_far hc hf).2 rfl
    have hvl := hf.1
    refine FunM.walk B_ok (fn := Tryz.f194) (fun vs w => Tryz.call194 vs w) Tryz.func194 rfl (by rw [Tryz.ntmps194]; simp) (fun C hC hP hT hΓ hbt hfn hpin hfin => ?_); have hX := BX; rw [← hΓ, ← hbt.1, ← hbt.2] at hX; rw [Tryz.ntmps194]; simp only [AW7, simprocAttr, hX]
    refine Run.R ?_
    refine Run.nq ?_; refine Run.regionW hC (fun K hK => ?_); refine wW ?_
    refine FunA.cW hP hT (c_impl_descents v (by omega)) ?_
    rintro rs o ⟨rfl, rfl⟩
    refine wW ?_
    refine wE ?_; clear hK K
    rw [hd]
    refine Run.R ?_
    refine Run.nq ?_; refine Run.cW ?_ ?_
    rotate_left
    · intro h; simp at h
    intro _
    refine Run.reKP hpin [0, 1, 2, 3, 4] [0] rfl (by simp [oAt, gen0]) (by decide) (by simp) ?_; simp only [AR, AW7, simprocAttr]
    refine Run.mv0 [0, 1, 2, 3, 4] ?_
    simp only [AMV, frV_cons, frV_nil, AW6, simprocAttr]
    refine Run.nq ?_; refine Run.regionW hC (fun K hK => ?_); refine wW ?_
    refine FunA.cW hP hT (c_CloneF head (by omega)) ?_
    rintro rs o ⟨rfl, rfl⟩
    refine wW ?_
    refine wE ?_; clear hK K
    refine Run.reKP hpin [10] [0, 1] rfl (by simp [oAt, gen0]) (by decide) (by simp) ?_; simp only [AR, AW7, simprocAttr]
    refine Run.rW [10] (hfin _ _ _ rfl rfl rfl ?_)
    exact ⟨_, _, by simp [nW]; omega, rfl, rfl⟩
  | succ L IH =>
    intro v head ys nn hL hf hh hy
    have hd : desL v ≠ [] := fun e => by have := (des_far hc hf).1 e; omega
    have hvl := hf.1
    have hW : nW c (L + 1) v = nS c L v (desL v).length := by rw [nS_full]; simp only [nW, if_neg hd]
    have hdl := desT_len v v.length
    rw [desT_full] at hdl
    refine FunM.walk B_ok (fn := Tryz.f194) (fun vs w => Tryz.call194 vs w) Tryz.func194 rfl (by rw [Tryz.ntmps194]; simp) (fun C hC hP hT hΓ hbt hfn hpin hfin => ?_); have hX := BX; rw [← hΓ, ← hbt.1, ← hbt.2] at hX; rw [Tryz.ntmps194]; simp only [AW7, simprocAttr, hX]
    refine Run.R ?_
    refine Run.nq ?_; refine Run.regionW hC (fun K hK => ?_); refine wW ?_
    refine FunA.cW hP hT (c_impl_descents v (by omega)) ?_
    rintro rs o ⟨rfl, rfl⟩
    refine wW ?_
    refine wE ?_; clear hK K
    have hd0 : 0 < (desL v).length := List.length_pos_iff.2 hd
    refine Run.R ?_
    refine Run.nq ?_; refine Run.cW ?_ ?_
    · intro h
      have h : ((desL v).length : Int) = 0 := by simpa using h
      omega
    intro _
    refine Run.R ?_
    generalize hgd : desL v = ds at *
    have hdm : ∀ j, j < ds.length → 0 ≤ ds.getD j 0 ∧ (ds.getD j 0).toNat < v.length ∧ v.getD (ds.getD j 0).toNat 0 < 0 := fun j hj => by
      have := getD_mem hj
      rw [← hgd] at this
      exact hgd ▸ des_mem.1 this
    refine Run.letgoK 1 [0, 1, 2, 3, 4, 25, 26, 27] rfl ?_; simp only [AL, frV_cons, frV_nil, AW7, simprocAttr]
    refine Run.reKP hpin [0, 1, 2, 3, 4, 25, 26, 27] [0] rfl (by simp [oAt, gen0]) (by decide) (by simp) ?_; simp only [AR, AW7, simprocAttr]
    refine Run.mv0 [0, 1, 2, 3, 4, 25, 26, 27] ?_
    simp only [AMV, frV_cons, frV_nil, AW6, simprocAttr]
    refine Run.loopI (X := List (List Int) × Bool × Nat) (fun s => ⟨54, [(0, true, .v (.sl false (.row false) (c))), (1, true, .v (.sl false .int (v))), (2, true, .v (.sl false .int (head))), (3, true, .v (.own 1 0)), (4, true, .v (.int .i64 (120))), (25, true, .v (.sl true .int (ds))), (26, true, .v (.int .i64 (ds.length))), (27, true, .v (.int .i64 (s.2.2)))], [.dead, .arr (.row true) s.1 0 s.2.1]⟩) (fun s => s.2.2 ≤ ds.length ∧ s.1.length = min (ys.length + nS c L v s.2.2) 121) (fun s => ds.length - s.2.2) ((ys, nn, 0)) (⟨Nat.zero_le _, by simp [nS]; omega⟩) ?_ ?_
    · exact Le.sub (by first | rfl | simp) (by simp only [AW7, simprocAttr, hX]; try simp <;> try (first | rfl | exact ⟨rfl, rfl⟩ | exact ⟨rfl, rfl, rfl⟩))
    rintro ⟨zs, n3, k⟩ ⟨hk, hz⟩ ih
    try simp only []
    simp only [] at hk hz
    have hmono := nS_mono c L v (k := k) (by rw [hgd]; exact hk)
    rw [hgd] at hmono
    refine Run.R ?_
    refine Run.nq ?_; refine Run.cW ?_ ?_
    rotate_left
    · intro h
      have h : k = ds.length := by rw [decide_eq_false_iff_not] at h; omega
      refine Run.exit rfl ?_; refine Run.nq ?_
      refine Run.R ?_
      refine Run.reKP hpin [10] [0, 1] rfl (by simp [oAt, gen0]) (by decide) (by simp) ?_; simp only [AR, AW7, simprocAttr]
      refine Run.rW [10] (hfin _ _ _ rfl rfl rfl ?_)
      exact ⟨zs, _, by rw [hW, hz, h], rfl, rfl⟩
    intro h
    have h : k < ds.length := by rw [decide_eq_true_eq] at h; omega
    obtain ⟨d1, d2, d3⟩ := hdm k h
    have hsS := nS_succ c L v k (by rw [hgd]; exact h)
    rw [hgd] at hsS
    refine Run.R ?_
    refine Run.R ?_
    refine Run.nq ?_; refine Run.cW ?_ ?_
    · intro h2
      have h2 : 120 < zs.length := by rw [decide_eq_true_eq] at h2; omega
      refine Run.exit rfl ?_; refine Run.nq ?_
      refine Run.R ?_
      refine Run.reKP hpin [10] [0, 1] rfl (by simp [oAt, gen0]) (by decide) (by simp) ?_; simp only [AR, AW7, simprocAttr]
      refine Run.rW [10] (hfin _ _ _ rfl rfl rfl ?_)
      exact ⟨zs, _, by rw [hW, hz]; omega, rfl, rfl⟩
    intro h2
    have h2 : zs.length ≤ 120 := by rw [decide_eq_false_iff_not] at h2; omega
    generalize hgi : ds.getD k 0 = i at *
    obtain ⟨M, m1, m2⟩ := hf.down hc (i := i) ⟨d1, by omega⟩ d3
    have hML : M = L := by omega
    subst hML
    have hBd := far_bd hc m2 (by omega)
    refine Run.R ?_
    refine Run.nq ?_; refine Run.regionW hC (fun K hK => ?_); refine wW ?_
    refine FunM.call hP hT (c_impl_reflected c i v hc hvl ⟨d1, by omega⟩ hBd) 2 1 (by simp only [AW7, simprocAttr]; rfl) (by simp) rfl (by simp only [AW7, simprocAttr]; try simp) ?_
    rintro rs o o2 ⟨rfl, h9⟩
    obtain ⟨rfl, rfl⟩ := List.cons.inj h9
    refine wW ?_
    refine wE ?_; clear hK K
    refine Run.nq ?_; refine Run.regionW hC (fun K hK => ?_); refine wW ?_
    refine FunA.cW hP hT (c_slices_Clone head (by omega)) ?_
    rintro rs o ⟨n4, rfl, rfl⟩
    refine wW ?_
    refine FunM.call hP hT (IH (reflL c i v) (head ++ [i]) zs n3 (by omega) m2 (by simp; omega) h2) 1 0 (by simp only [AW7, simprocAttr]; rfl) (by simp) rfl (by simp only [AW7, simprocAttr]; try simp) ?_
    rintro rs o o2 ⟨ws, n5, hws, rfl, h9⟩
    obtain ⟨rfl, rfl⟩ := List.cons.inj h9
    refine wW ?_
    refine wE ?_; clear hK K
    refine Run.reKP hpin [0, 1, 2, 3, 4, 25, 26, 27] [0, 5] rfl (by simp [oAt, gen0]) (by decide) (by simp) ?_; simp only [AR, AW7, simprocAttr]
    refine Run.RW ?_
    refine Run.le ?_ (ih ((ws, n5, k + 1)) (⟨h, by rw [hws, hz, hsS]; omega⟩) (by (try simp only [List.length_append, List.length_cons, List.length_nil]); omega))
    exact Le.sub (by rfl) (by simp only [AW7, simprocAttr]; try simp)
end Go.Proofs.YtojcdgdbffmlpaaGreat
namespace Go.Proofs.YtojcdgdbffmlpaaGreat
open Go Go.Aw Go.Cox
theorem c_impl_spelled0 (c : List (List Int)) (hc : CartanP c) (L : Nat) (v head : List Int) (hL : L ≤ 31) (hf : Far c L v) (hh : head.length + L ≤ 100) :
    FunA B 194 [.sl false (.row false) c, .sl false .int v, .sl false .int head, .nils, .int .i64 120] (fun rs o => ∃ (ys' : List (List Int)) (n2 : Bool), ys'.length = min (nW c L v) 121 ∧ rs = [.own 1 0] ∧ o = [.dead, .arr (.row true) ys' 0 n2]) :=
  (FunM.nil (c_impl_spelled c hc L v head [] false hL hf hh (by simp)) (by rfl) (by rintro rs o ⟨ys', n2, _, _, rfl⟩; rfl)).mono fun rs o ⟨ys', n2, h1, h2, h3⟩ => ⟨ys', n2, by simpa using h1, h2, h3⟩
def cnN (c : List (List Int)) (w : List Int) : Nat := nW c (redL c w).length (imageL c w)
noncomputable def cnB (c : List (List Int)) (w : List Int) : Bool := wordB c w && decide (cnN c w ≤ 120)
noncomputable def cnZ (c : List (List Int)) (w : List Int) : Int := if cnB c w then (cnN c w : Int) else -1
theorem c_impl_ReducedWords (c : List (List Int)) (w : List Int) :
    FunA B 142 [.sl false (.row false) c, .sl false .int w] (fun rs o => (cnB c w = false ∧ rs = [.own 0 0, .bool false] ∧ o = [.arr .lrow [] 0 true]) ∨ (cnB c w = true ∧ ∃ (ys : List (List Int)) (nn : Bool), ys.length = cnN c w ∧ rs = [.own 0 0, .bool true] ∧ o = [.arr (.row true) ys 0 nn])) := by
  refine FunA.walk B_ok (fn := Tryz.f142) (fun vs w => Tryz.call142 vs w) Tryz.func142 rfl (by rw [Tryz.ntmps142]; simp) (fun C hC hP hT hΓ hbt hfn hpin hfin => ?_); have hX := BX; rw [← hΓ, ← hbt.1, ← hbt.2] at hX; rw [Tryz.ntmps142]; simp only [AW7, simprocAttr, hX]
  refine Run.R ?_
  refine Run.nq ?_; refine Run.regionW hC (fun K hK => ?_); refine wW ?_
  refine FunA.cW hP hT (c_impl_IsWord c w) ?_
  rintro rs o ⟨rfl, rfl⟩
  refine wW ?_
  refine wE ?_; clear hK K
  refine Run.nq ?_; refine Run.cW ?_ ?_
  · intro h
    have h : wordB c w = false := by simpa using h
    refine Run.R ?_
    refine Run.reK hpin [4, 5] [0] (by decide) (by simp) ?_; simp only [AR, AW7, simprocAttr]
    refine Run.rW [4, 5] (hfin _ _ rfl rfl ?_)
    exact .inl ⟨by simp [cnB, h], rfl, rfl⟩
  intro h
  have hwb : wordB c w = true := by simpa using h
  obtain ⟨hc, h2, h3⟩ := wordB_iff.1 hwb
  have hn := hc.2.1
  obtain ⟨a1, a2, a3, a4, a5⟩ := red_spec hc h3 (by omega)
  refine Run.nq ?_; refine Run.regionW hC (fun K hK => ?_); refine wW ?_
  refine FunA.cW hP hT (c_impl_image c w hc h3 (by omega)) ?_
  rintro rs o ⟨rfl, rfl⟩
  refine wW ?_
  refine FunA.cW hP hT (c_impl_spelled0 c hc (redL c w).length (imageL c w) [] (by omega) a5 (by simp; omega)) ?_
  rintro rs o ⟨ys, n2, hys, rfl, rfl⟩
  refine wW ?_
  refine wE ?_; clear hK K
  refine Run.R ?_
  refine Run.nq ?_; refine Run.cW ?_ ?_
  · intro h4
    have h4 : 120 < ys.length := by rw [decide_eq_true_eq] at h4; omega
    refine Run.R ?_
    refine Run.reK hpin [4, 5] [4] (by decide) (by simp) ?_; simp only [AR, AW7, simprocAttr]
    refine Run.rW [4, 5] (hfin _ _ rfl rfl ?_)
    refine .inl ⟨?_, rfl, rfl⟩
    have : ¬ cnN c w ≤ 120 := by unfold cnN; omega
    simp [cnB, this]
  intro h4
  have h4 : ys.length ≤ 120 := by rw [decide_eq_false_iff_not] at h4; omega
  refine Run.R ?_
  refine Run.reK hpin [4, 5] [3] (by decide) (by simp) ?_; simp only [AR, AW7, simprocAttr]
  refine Run.rW [4, 5] (hfin _ _ rfl rfl ?_)
  have h5 : cnN c w ≤ 120 := by unfold cnN; omega
  exact .inr ⟨by simp [cnB, hwb, h5], ys, n2, by rw [hys]; unfold cnN at h5 ⊢; omega, rfl, rfl⟩
theorem c_impl_CountChains (c : List (List Int)) (w : List Int) (hcl : c.length ≤ 1048576) :
    FunA B 50 [.sl false (.row false) c, .sl false .int w] (fun rs o => rs = [.int .i64 (cnZ c w)] ∧ o = []) := by
  refine FunA.walk B_ok (fn := Tryz.f50) (fun vs w => Tryz.call50 vs w) Tryz.func50 rfl (by rw [Tryz.ntmps50]; simp) (fun C hC hP hT hΓ hbt hfn hpin hfin => ?_); have hX := BX; rw [← hΓ, ← hbt.1, ← hbt.2] at hX; rw [Tryz.ntmps50]; simp only [AW7, simprocAttr, hX]
  refine Run.R ?_
  refine Run.nq ?_; refine Run.regionW hC (fun K hK => ?_); refine wW ?_
  refine FunA.cW hP hT (c_impl_ReducedWords c w) ?_
  rintro rs o (⟨hb, rfl, rfl⟩ | ⟨hb, ys, nn, hys, rfl, rfl⟩)
  · refine wW ?_
    refine wE ?_; clear hK K
    refine Run.R ?_
    refine Run.nq ?_; refine Run.cW ?_ ?_
    rotate_left
    · intro h; simp at h
    intro _
    refine Run.R ?_
    refine Run.reK hpin [4] [] (by decide) (by simp) ?_; simp only [AR, AW7, simprocAttr]
    refine Run.rW [4] (hfin _ _ rfl rfl ?_)
    simp [cnZ, hb]
  · refine wW ?_
    refine wE ?_; clear hK K
    refine Run.R ?_
    refine Run.nq ?_; refine Run.cW ?_ ?_
    · intro h; simp at h
    intro _
    refine Run.R ?_
    refine Run.reK hpin [4] [] (by decide) (by simp) ?_; simp only [AR, AW7, simprocAttr]
    refine Run.rW [4] (hfin _ _ rfl rfl ?_)
    simp [cnZ, hb, hys]
end Go.Proofs.YtojcdgdbffmlpaaGreat
namespace Go.Proofs.YtojcdgdbffmlpaaGreat
open Go Go.Aw Go.Cox
theorem c_spec_AlternatingWord (i j : Int) (n : Nat) (hn : n ≤ 15) : FunA B 229 [.int .i64 i, .int .i64 j, .int .i64 n] (fun rs o => rs = [.own 0 0] ∧ o = [.arr .int (altI i j n) 0 true]) := by
  refine FunA.walk B_ok (fn := Tryz.f229) (fun vs w => Tryz.call229 vs w) Tryz.func229 rfl (by rw [Tryz.ntmps229]; simp) (fun C hC hP hT hΓ hbt hfn hpin hfin => ?_); have hX := BX; rw [← hΓ, ← hbt.1, ← hbt.2] at hX; rw [Tryz.ntmps229]; simp only [AW7, simprocAttr, hX]
  refine Run.R ?_
  refine Run.R ?_
  refine Run.R ?_
  refine Run.reK hpin [0, 1, 2, 7, 8] [0] (by decide) (by simp) ?_; simp only [AR, AW7, simprocAttr]
  refine Run.loopI (X := Nat) (fun k => ⟨31, [(0, true, .v (.int .i64 (i))), (1, true, .v (.int .i64 (j))), (2, true, .v (.int .i64 (n))), (7, true, .v (.own 0 0)), (8, true, .v (.int .i64 (k)))], [.arr .int ((altI i j k)) 0 true]⟩) (fun k => k ≤ n) (fun k => n - k) (0) (Nat.zero_le _) ?_ ?_
  · exact Le.sub (by first | rfl | simp) (by simp only [AW7, simprocAttr, hX]; try simp <;> try (first | rfl | exact ⟨rfl, rfl⟩ | exact ⟨rfl, rfl, rfl⟩))
  rintro k hk ih
  try simp only []
  have hl := altI_len i j k
  refine Run.R ?_
  refine Run.nq ?_; refine Run.cW ?_ ?_
  rotate_left
  · intro h
    have h : k = n := by
      by_cases e : (k : Int) < n
      · rw [decide_eq_true e, decide_eq_true (by omega : (k : Int) < 15)] at h; cases h
      · omega
    subst h
    refine Run.exit rfl ?_; refine Run.nq ?_
    refine Run.R ?_
    refine Run.reK hpin [6] [0] (by decide) (by simp) ?_; simp only [AR, AW7, simprocAttr]
    refine Run.rW [6] (hfin _ _ rfl rfl ?_)
    exact ⟨rfl, rfl⟩
  intro h
  have h : k < n := by
    by_cases e : (k : Int) < n
    · omega
    · rw [decide_eq_false e] at h; cases h
  have hs := altI_succ i j k
  have hk2 : ((k : Int).tmod 2 == 0) = decide (k % 2 = 0) := by
    have h : (k : Int).tmod 2 = ((k % 2 : Nat) : Int) := rfl
    rw [h]
    rcases Nat.mod_two_eq_zero_or_one k with h | h <;> rw [h] <;> rfl
  refine Run.R ?_
  rw [hk2]
  refine Run.nq ?_; refine Run.cW ?_ ?_
  · intro h2
    have h2 : k % 2 = 0 := by simpa using h2
    rw [if_pos h2] at hs
    refine Run.R ?_
    rw [← hs]
    refine Run.reK hpin [0, 1, 2, 7, 8] [0] (by decide) (by simp) ?_; simp only [AR, AW7, simprocAttr]
    refine Run.RW ?_
    refine Run.le ?_ (ih (k + 1) (h) (by (try simp only [List.length_append, List.length_cons, List.length_nil]); omega))
    exact Le.sub (by rfl) (by simp only [AW7, simprocAttr]; try simp)
  intro h2
  have h2 : ¬ k % 2 = 0 := by simpa using h2
  rw [if_neg h2] at hs
  refine Run.R ?_
  rw [← hs]
  refine Run.reK hpin [0, 1, 2, 7, 8] [0] (by decide) (by simp) ?_; simp only [AR, AW7, simprocAttr]
  refine Run.RW ?_
  refine Run.le ?_ (ih (k + 1) (h) (by (try simp only [List.length_append, List.length_cons, List.length_nil]); omega))
  exact Le.sub (by rfl) (by simp only [AW7, simprocAttr]; try simp)
theorem ent_prod {c : List (List Int)} (hc : CartanP c) (i j : Nat) (hi : i < c.length) (hj : j < c.length) : -9 ≤ ent c i j * ent c j i ∧ ent c i j * ent c j i ≤ 9 := by
  have h1 := ent_le hc i j hi hj
  have h2 := ent_le hc j i hj hi
  generalize ent c i j = a at *
  generalize ent c j i = b at *
  have ha : a = -3 ∨ a = -2 ∨ a = -1 ∨ a = 0 ∨ a = 1 ∨ a = 2 := by omega
  rcases ha with rfl | rfl | rfl | rfl | rfl | rfl <;> omega
theorem c_spec_BondOf (c : List (List Int)) (i j : Int) (hc : CartanP c) (hi : 0 ≤ i ∧ i < c.length) (hj : 0 ≤ j ∧ j < c.length) (hij : i ≠ j) :
    FunA B 228 [.sl false (.row false) c, .int .i64 i, .int .i64 j] (fun rs o => rs = [.int .i64 (bond (matA c) i.toNat j.toNat : Nat)] ∧ o = []) := by
  have hn := hc.2.1
  have hrow := hc.2.2.1
  have hIC : isC c = true := isC_iff.2 hc
  have l1 : inB i 0 ((c.length : Int) - 1) = true := by unfold inB; simp; omega
  have l2 : inB j 0 ((c.length : Int) - 1) = true := by unfold inB; simp; omega
  have hri := hrow i.toNat (by omega)
  have hrj := hrow j.toNat (by omega)
  have hp := ent_prod hc i.toNat j.toNat (by omega) (by omega)
  refine FunA.walk B_ok (fn := Tryz.f228) (fun vs w => Tryz.call228 vs w) Tryz.func228 rfl (by rw [Tryz.ntmps228]; simp) (fun C hC hP hT hΓ hbt hfn hpin hfin => ?_); have hX := BX; rw [← hΓ, ← hbt.1, ← hbt.2] at hX; rw [Tryz.ntmps228]; simp only [AW7, simprocAttr, hX]
  refine Run.R ?_
  refine Run.nq ?_; refine Run.regionW hC (fun K hK => ?_); refine wW ?_
  refine FunA.cW hP hT (c_spec_IsCartan c) ?_
  rintro rs o ⟨rfl, rfl⟩
  rw [hIC]
  refine wWW ?_
  refine .inl (FunA.callG hP hT (c_spec_l1In i 0 ((c.length : Int) - 1)) (fun _ => rfl) (fun _ => by simp only [AW7, simprocAttr]) ?_)
  rw [l1]
  refine wWW ?_
  refine .inl (FunA.callG hP hT (c_spec_l1In j 0 ((c.length : Int) - 1)) (fun _ => rfl) (fun _ => by simp only [AW7, simprocAttr]) ?_)
  rw [l2]
  refine wWW ?_
  refine wE ?_; clear hK K
  refine Run.nq ?_; refine Run.cW ?_ ?_
  · intro h; simp at h
  intro _
  refine Run.R ?_
  refine Run.nq ?_; refine Run.cW ?_ ?_
  · intro h
    have h : i = j := by simpa using h
    exact (hij h).elim
  intro _
  have hw : IntKind.i64.wrap ((c.getD i.toNat []).getD j.toNat 0 * (c.getD j.toNat []).getD i.toNat 0) = ent c i.toNat j.toNat * ent c j.toNat i.toNat := by
    have hp2 : -9 ≤ (c.getD i.toNat []).getD j.toNat 0 * (c.getD j.toNat []).getD i.toNat 0 ∧ (c.getD i.toNat []).getD j.toNat 0 * (c.getD j.toNat []).getD i.toNat 0 ≤ 9 := hp
    exact wrap_id (by omega)
  have hb : bond (matA c) i.toNat j.toNat = if ent c i.toNat j.toNat * ent c j.toNat i.toNat = 0 then 2 else if ent c i.toNat j.toNat * ent c j.toNat i.toNat = 1 then 3 else if ent c i.toNat j.toNat * ent c j.toNat i.toNat = 2 then 4 else if ent c i.toNat j.toNat * ent c j.toNat i.toNat = 3 then 6 else 0 := rfl
  refine Run.nq ?_; refine Run.regionD hC true [0,1,2,3,4,5,6,7,8,9,10,11,12,13,14] (by kernel_rfl) (fun K hK => ?_); simp (disch := omega) only [wrap_id, AW7, simprocAttr, hX]; (repeat (with_reducible refine And.intro ?_ ?_); exact vc0)
  refine wE ?_; clear hK K
  rw [hw]
  generalize ent c i.toNat j.toNat * ent c j.toNat i.toNat = p at *
  refine Run.reK hpin [0, 6, 43] [] (by decide) (by simp) ?_; simp only [AR, AW7, simprocAttr]
  refine Run.R ?_
  refine Run.nq ?_; refine Run.cW ?_ ?_
  · intro h
    have h : p = 0 := by simpa using h
    refine Run.R ?_
    refine Run.reK hpin [6] [] (by decide) (by simp) ?_; simp only [AR, AW7, simprocAttr]
    refine Run.rW [6] (hfin _ _ rfl rfl ?_)
    exact ⟨by rw [hb, if_pos h]; rfl, rfl⟩
  intro h
  have h0 : ¬ p = 0 := by simpa using h
  refine Run.R ?_
  refine Run.nq ?_; refine Run.cW ?_ ?_
  · intro h
    have h : p = 1 := by simpa using h
    refine Run.R ?_
    refine Run.reK hpin [6] [] (by decide) (by simp) ?_; simp only [AR, AW7, simprocAttr]
    refine Run.rW [6] (hfin _ _ rfl rfl ?_)
    exact ⟨by rw [hb, if_neg h0, if_pos h]; rfl, rfl⟩
  intro h
  have h1 : ¬ p = 1 := by simpa using h
  refine Run.R ?_
  refine Run.nq ?_; refine Run.cW ?_ ?_
  · intro h
    have h : p = 2 := by simpa using h
    refine Run.R ?_
    refine Run.reK hpin [6] [] (by decide) (by simp) ?_; simp only [AR, AW7, simprocAttr]
    refine Run.rW [6] (hfin _ _ rfl rfl ?_)
    exact ⟨by rw [hb, if_neg h0, if_neg h1, if_pos h]; rfl, rfl⟩
  intro h
  have h2 : ¬ p = 2 := by simpa using h
  refine Run.R ?_
  refine Run.nq ?_; refine Run.cW ?_ ?_
  · intro h
    have h : p = 3 := by simpa using h
    refine Run.R ?_
    refine Run.reK hpin [6] [] (by decide) (by simp) ?_; simp only [AR, AW7, simprocAttr]
    refine Run.rW [6] (hfin _ _ rfl rfl ?_)
    exact ⟨by rw [hb, if_neg h0, if_neg h1, if_neg h2, if_pos h]; rfl, rfl⟩
  intro h
  have h3 : ¬ p = 3 := by simpa using h
  refine Run.R ?_
  refine Run.reK hpin [6] [] (by decide) (by simp) ?_; simp only [AR, AW7, simprocAttr]
  refine Run.rW [6] (hfin _ _ rfl rfl ?_)
  exact ⟨by rw [hb, if_neg h0, if_neg h1, if_neg h2, if_neg h3]; rfl, rfl⟩
theorem c_spec_AltF (i j : Int) (n : Nat) (hn : n ≤ 15) : FunA B 229 [.int .i64 i, .int .i64 j, .int .i64 n] (fun rs o => rs = [.sl true .int (altI i j n)] ∧ o = []) := FunA.frozen rfl (c_spec_AlternatingWord i j n hn)
theorem c_spec_BraidAt (c : List (List Int)) (w : List Int) (k : Nat) (hW : WordP c w) (hk : k < w.length) :
    FunA B 196 [.sl false (.row false) c, .sl false .int w, .int .i64 k] (fun rs o => rs = [.own 0 0, .bool (decide (bmP c w k))] ∧ o = [.arr .int (byL c w k) 0 true]) := by
  obtain ⟨hc, h2, h3⟩ := hW
  have hn := hc.2.1
  have hwb : wordB c w = true := wordB_iff.2 ⟨hc, h2, h3⟩
  refine FunA.walk B_ok (fn := Tryz.f196) (fun vs w => Tryz.call196 vs w) Tryz.func196 rfl (by rw [Tryz.ntmps196]; simp) (fun C hC hP hT hΓ hbt hfn hpin hfin => ?_); have hX := BX; rw [← hΓ, ← hbt.1, ← hbt.2] at hX; rw [Tryz.ntmps196]; simp only [AW7, simprocAttr, hX]
  refine Run.R ?_
  by_cases hk1 : k + 1 < w.length
  case neg =>
    have hno : ¬ bmP c w k := fun h => hk1 h.1
    have hin : inB (k : Int) 0 ((w.length : Int) - 2) = false := by unfold inB; simp; omega
    refine Run.nq ?_; refine Run.regionD hC true [0,1,2,3,4,5,6,7,8,9,10,11,12,13,14,15,16,17,18,19,20,21,22,23] (by kernel_rfl) (fun K hK => ?_); simp (disch := omega) only [wrap_id, AW7, simprocAttr, hX]; (repeat (with_reducible refine And.intro ?_ ?_); exact vc0)
    refine FunA.callD hP hT (c_spec_IsWord c w (by omega)) (by simp only [AW7, simprocAttr]) ?_
    rintro rs o ⟨rfl, rfl⟩
    rw [hwb]
    refine wWW ?_
    refine .inl (FunA.callG hP hT (c_spec_l1In (k : Int) 0 ((w.length : Int) - 2)) (fun _ => rfl) (fun _ => by simp only [AW7, simprocAttr]) ?_)
    rw [hin]
    refine wWW ?_
    refine wE ?_; clear hK K
    refine Run.nq ?_; refine Run.cW ?_ ?_
    rotate_left
    · intro h; simp at h
    intro _
    refine Run.R ?_
    refine Run.reK hpin [6, 7] [0] (by decide) (by simp) ?_; simp only [AR, AW7, simprocAttr]
    refine Run.rW [6, 7] (hfin _ _ rfl rfl ?_)
    rw [show byL c w k = w from if_neg hno, decide_eq_false hno]
    exact ⟨rfl, rfl⟩
  have hin : inB (k : Int) 0 ((w.length : Int) - 2) = true := by unfold inB; simp; omega
  have ek : ((k : Int) + 1).toNat = k + 1 := by omega
  refine Run.nq ?_; refine Run.regionD hC true [0,1,2,3,4,5,6,7,8,9,10,11,12,13,14,15,16,17,18,19,20,21,22,23] (by kernel_rfl) (fun K hK => ?_); simp (disch := omega) only [wrap_id, AW7, simprocAttr, hX]; (repeat (with_reducible refine And.intro ?_ ?_); exact vc0)
  refine FunA.callD hP hT (c_spec_IsWord c w (by omega)) (by simp only [AW7, simprocAttr]) ?_
  rintro rs o ⟨rfl, rfl⟩
  rw [hwb]
  refine wWW ?_
  refine .inl (FunA.callG hP hT (c_spec_l1In (k : Int) 0 ((w.length : Int) - 2)) (fun _ => rfl) (fun _ => by simp only [AW7, simprocAttr]) ?_)
  rw [hin]
  refine wWW ?_
  simp only [Int.toNat_natCast, ek]
  (repeat (with_reducible refine And.intro ?_ ?_); exact vc0)
  refine wE ?_; clear hK K
  refine Run.nq ?_; refine Run.cW ?_ ?_
  · intro h
    have h : w.getD k 0 = w.getD (k + 1) 0 := by simpa using h
    have hno : ¬ bmP c w k := fun hh => hh.2.1 h
    refine Run.R ?_
    refine Run.reK hpin [6, 7] [0] (by decide) (by simp) ?_; simp only [AR, AW7, simprocAttr]
    refine Run.rW [6, 7] (hfin _ _ rfl rfl ?_)
    rw [show byL c w k = w from if_neg hno, decide_eq_false hno]
    exact ⟨rfl, rfl⟩
  intro h
  have hne : w.getD k 0 ≠ w.getD (k + 1) 0 := by simpa using h
  have hwi := h3 _ (getD_mem (w := w) (i := k) (by omega))
  have hwj := h3 _ (getD_mem (w := w) (i := k + 1) hk1)
  refine Run.reK hpin [0, 1, 2, 6, 7] [] (by decide) (by simp) ?_; simp only [AR, AW7, simprocAttr]
  refine Run.nq ?_; refine Run.regionD hC true [0,1,2,3,4,5,6,7,8,9,10,11] (by kernel_rfl) (fun K hK => ?_); simp (disch := omega) only [wrap_id, AW7, simprocAttr, hX]; (repeat (with_reducible refine And.intro ?_ ?_); exact vc0)
  simp only [Int.toNat_natCast, ek]
  (repeat (with_reducible refine And.intro ?_ ?_); exact vc0)
  refine FunA.callD hP hT (c_spec_BondOf c (w.getD k 0) (w.getD (k + 1) 0) hc hwi hwj hne) (by simp only [AW7, simprocAttr]) ?_
  rintro rs o ⟨rfl, rfl⟩
  refine wW ?_
  refine wE ?_; clear hK K
  have hm6 := bond_le (matA c) (w.getD k 0).toNat (w.getD (k + 1) 0).toNat
  have hmM : bmM c w k = bond (matA c) (w.getD k 0).toNat (w.getD (k + 1) 0).toNat := rfl
  rw [← hmM] at hm6
  rw [← hmM]
  refine Run.reK hpin [0, 1, 2, 6, 7, 8] [] (by decide) (by simp) ?_; simp only [AR, AW7, simprocAttr]
  generalize hgm : bmM c w k = m at *
  have ekm : ((k : Int) + (m : Int)).toNat - k = m := by omega
  have hbe : byL c w k = if bmP c w k then bmX c w k else w := rfl
  refine Run.nq ?_; refine Run.regionD hC true [0,1,2,3,4,5,6,7,8,9,10,11,12,13,14,15,16,17,18,19,20,21,22,23,24,25,26,27,28,29,30] (by kernel_rfl) (fun K hK => ?_); simp (disch := omega) only [wrap_id, AW7, simprocAttr, hX]; (repeat (with_reducible refine And.intro ?_ ?_); exact vc0)
  simp only [ek, ekm]
  refine .inl (FunA.callG hP hT (c_spec_AltF (w.getD k 0) (w.getD (k + 1) 0) m (by omega)) (fun _ => rfl) (fun _ => by simp only [AW7, simprocAttr]) ?_)
  refine wW ?_
  refine .inl (FunA.callG hP hT (c_spec_EqualWords ((w.drop k).take m) (altI (w.getD k 0) (w.getD (k + 1) 0) m) (by simp; omega)) (fun _ => rfl) (fun _ => by simp only [AW7, simprocAttr]) ?_)
  refine wW ?_
  refine wE ?_; clear hK K
  have hiff : bmP c w k ↔ ¬ (m : Int) < 2 ∧ ¬ (w.length : Int) - k < m ∧ (w.drop k).take m = altI (w.getD k 0) (w.getD (k + 1) 0) m := by
    unfold bmP
    rw [hgm]
    constructor
    · rintro ⟨_, _, q1, q2, q3⟩; exact ⟨by omega, by omega, q3⟩
    · rintro ⟨q1, q2, q3⟩; exact ⟨hk1, hne, by omega, by omega, q3⟩
  refine Run.nq ?_; refine Run.cW ?_ ?_
  · intro h5
    have hno : ¬ bmP c w k := by
      rw [hiff]
      rintro ⟨q1, q2, q3⟩
      rw [decide_eq_false q1, decide_eq_false q2, q3] at h5
      simp at h5
    refine Run.R ?_
    refine Run.reK hpin [6, 7] [0] (by decide) (by simp) ?_; simp only [AR, AW7, simprocAttr]
    refine Run.rW [6, 7] (hfin _ _ rfl rfl ?_)
    rw [show byL c w k = w from if_neg hno, decide_eq_false hno]
    exact ⟨rfl, rfl⟩
  intro h5
  have hyes : bmP c w k := by
    rw [hiff]
    refine Classical.byContradiction fun hn => ?_
    by_cases q1 : (m : Int) < 2
    · rw [decide_eq_true q1] at h5; simp at h5
    by_cases q2 : (w.length : Int) - k < m
    · rw [decide_eq_false q1, decide_eq_true q2] at h5; simp at h5
    have q3 : ¬ (w.drop k).take m = altI (w.getD k 0) (w.getD (k + 1) 0) m := fun e => hn ⟨q1, q2, e⟩
    rw [decide_eq_false q1, decide_eq_false q2, beq_eq_false_iff_ne.2 q3] at h5
    simp at h5
  have hm2 : m ≤ w.length - k := by have := hyes.2.2.2.1; rw [hgm] at this; exact this
  have ekm2 : ((k : Int) + (m : Int)).toNat = k + m := by omega
  have hlA := altI_len (w.getD (k + 1) 0) (w.getD k 0) m
  refine Run.reK hpin [0, 1, 2, 6, 7, 8] [] (by decide) (by simp) ?_; simp only [AR, AW7, simprocAttr]
  have hrest : List.take (w.length - (k + m)) (List.drop (k + m) w) = w.drop (k + m) := List.take_of_length_le (by simp)
  refine Run.nq ?_; refine Run.regionD hC true [0,1,2,3,4,5,6,7,8,9,10,11,12,15,16,17,18,19,13,14,20,21,22] (by kernel_rfl) (fun K hK => ?_); simp (disch := omega) only [wrap_id, AW7, simprocAttr, hX]; (repeat (with_reducible refine And.intro ?_ ?_); exact vc0)
  simp only [ek, ekm2, Nat.sub_zero, List.drop_zero, hrest]
  refine FunA.callD hP hT (c_spec_AlternatingWord (w.getD (k + 1) 0) (w.getD k 0) m (by omega)) (by simp only [AW7, simprocAttr]) ?_
  rintro rs o ⟨rfl, rfl⟩
  refine wW ?_
  refine FunA.callD hP hT (c_spec_ConcatWords (w.take k) (altI (w.getD (k + 1) 0) (w.getD k 0) m) (by simp; omega) (by omega)) (by simp only [AW7, simprocAttr]) ?_
  rintro rs o ⟨rfl, rfl⟩
  refine wW ?_
  refine FunA.callD hP hT (c_spec_ConcatWords (w.take k ++ altI (w.getD (k + 1) 0) (w.getD k 0) m) (w.drop (k + m)) (by rw [List.length_append, hlA, List.length_take]; omega) (by rw [List.length_drop]; omega)) (by simp only [AW7, simprocAttr]) ?_
  rintro rs o ⟨rfl, rfl⟩
  refine wW ?_
  refine wE ?_; clear hK K
  refine Run.reK hpin [6, 7] [2] (by decide) (by simp) ?_; simp only [AR, AW7, simprocAttr]
  refine Run.rW [6, 7] (hfin _ _ rfl rfl ?_)
  rw [show byL c w k = bmX c w k from if_pos hyes, decide_eq_true hyes]
  refine ⟨rfl, ?_⟩
  unfold bmX
  rw [hgm]
def bpT (c : List (List Int)) (w : List Int) (n : Nat) : List Int := ((List.range n).filter fun k => decide (bmP c w k)).map Int.ofNat
theorem bpT_snoc (c : List (List Int)) (w : List Int) (n : Nat) : bpT c w (n + 1) = if bmP c w n then bpT c w n ++ [(n : Int)] else bpT c w n := by
  unfold bpT
  rw [List.range_succ, List.filter_append, List.map_append]
  by_cases h : bmP c w n
  · rw [if_pos h]; simp only [List.filter_cons, List.filter_nil, decide_eq_true h, if_true, List.map_cons, List.map_nil]; rfl
  · rw [if_neg h]; simp only [List.filter_cons, List.filter_nil, decide_eq_false h, List.append_nil]; simp
theorem bpT_len (c : List (List Int)) (w : List Int) (n : Nat) : (bpT c w n).length ≤ n := by
  unfold bpT
  have := List.length_filter_le (fun k => decide (bmP c w k)) (List.range n)
  simp at this ⊢
  exact this
def bpL (c : List (List Int)) (w : List Int) : List Int := bpT c w w.length
theorem bpL_mem {c : List (List Int)} {w : List Int} {i : Int} : i ∈ bpL c w ↔ ∃ k : Nat, i = k ∧ k < w.length ∧ bmP c w k := by
  unfold bpL bpT
  simp only [List.mem_map, List.mem_filter, List.mem_range, decide_eq_true_eq]
  constructor
  · rintro ⟨k, ⟨h1, h2⟩, rfl⟩; exact ⟨k, rfl, h1, h2⟩
  · rintro ⟨k, rfl, h1, h2⟩; exact ⟨k, ⟨h1, h2⟩, rfl⟩
theorem c_spec_BraidPlaces (c : List (List Int)) (w : List Int) (hW : WordP c w) : FunA B 195 [.sl false (.row false) c, .sl false .int w] (fun rs o => rs = [.own 0 0] ∧ o = [.arr .int (bpL c w) 0 true]) := by
  have hl := hW.2.1
  refine FunA.walk B_ok (fn := Tryz.f195) (fun vs w => Tryz.call195 vs w) Tryz.func195 rfl (by rw [Tryz.ntmps195]; simp) (fun C hC hP hT hΓ hbt hfn hpin hfin => ?_); have hX := BX; rw [← hΓ, ← hbt.1, ← hbt.2] at hX; rw [Tryz.ntmps195]; simp only [AW7, simprocAttr, hX]
  refine Run.R ?_
  refine Run.R ?_
  refine Run.R ?_
  refine Run.reK hpin [0, 1, 5, 6] [0] (by decide) (by simp) ?_; simp only [AR, AW7, simprocAttr]
  refine Run.loopI (X := Nat) (fun k => ⟨29, [(0, true, .v (.sl false (.row false) (c))), (1, true, .v (.sl false .int (w))), (5, true, .v (.own 0 0)), (6, true, .v (.int .i64 (k)))], [.arr .int ((bpT c w k)) 0 true]⟩) (fun k => k ≤ w.length) (fun k => w.length - k) (0) (Nat.zero_le _) ?_ ?_
  · exact Le.sub (by first | rfl | simp) (by simp only [AW7, simprocAttr, hX]; try simp <;> try (first | rfl | exact ⟨rfl, rfl⟩ | exact ⟨rfl, rfl, rfl⟩))
  rintro k hk ih
  try simp only []
  have hbl := bpT_len c w k
  refine Run.R ?_
  refine Run.nq ?_; refine Run.cW ?_ ?_
  rotate_left
  · intro h
    have h : k = w.length := by rw [decide_eq_false_iff_not] at h; omega
    subst h
    refine Run.exit rfl ?_; refine Run.nq ?_
    refine Run.R ?_
    refine Run.reK hpin [4] [0] (by decide) (by simp) ?_; simp only [AR, AW7, simprocAttr]
    refine Run.rW [4] (hfin _ _ rfl rfl ?_)
    exact ⟨rfl, rfl⟩
  intro h
  have h : k < w.length := by rw [decide_eq_true_eq] at h; omega
  have hs := bpT_snoc c w k
  refine Run.nq ?_; refine Run.regionW hC (fun K hK => ?_); refine wW ?_
  refine FunA.cW hP hT (c_spec_BraidAt c w k hW h) ?_
  rintro rs o ⟨rfl, rfl⟩
  refine wW ?_
  refine wE ?_; clear hK K
  refine Run.R ?_
  refine Run.nq ?_; refine Run.cW ?_ ?_
  · intro h2
    have h2 : bmP c w k := of_decide_eq_true h2
    rw [if_pos h2] at hs
    refine Run.R ?_
    rw [← hs]
    refine Run.reK hpin [0, 1, 5, 6] [0] (by decide) (by simp) ?_; simp only [AR, AW7, simprocAttr]
    refine Run.RW ?_
    refine Run.le ?_ (ih (k + 1) (h) (by (try simp only [List.length_append, List.length_cons, List.length_nil]); omega))
    exact Le.sub (by rfl) (by simp only [AW7, simprocAttr]; try simp)
  intro h2
  have h2 : ¬ bmP c w k := of_decide_eq_false h2
  rw [if_neg h2] at hs
  rw [← hs]
  refine Run.reK hpin [0, 1, 5, 6] [0] (by decide) (by simp) ?_; simp only [AR, AW7, simprocAttr]
  refine Run.RW ?_
  refine Run.le ?_ (ih (k + 1) (h) (by (try simp only [List.length_append, List.length_cons, List.length_nil]); omega))
  exact Le.sub (by rfl) (by simp only [AW7, simprocAttr]; try simp)
end Go.Proofs.YtojcdgdbffmlpaaGreat
