/- A region that draws its order: the rule of the walk. -/
import Derived.Test.YtbeeblhmgpgkjaaAw18
set_option linter.unusedVariables false
set_option linter.unusedSimpArgs false
namespace Go.Aw
open Go

def edgesOf (o : Oper) : List Nat := (o.after.toList.filter (Region.binds .any)).map (·.on)
def edgesAt (l : List Oper) (i : Nat) : List Nat := match l[i]? with
  | some o => edgesOf o
  | none => []

/-- x comes before i by the edges. -/
def pathB (l : List Oper) : Nat → Nat → Nat → Bool
  | 0, _, _ => false
  | f + 1, x, i => (edgesAt l i).any fun y => y == x || pathB l f x y

def disj (d : Option Nat) (L : List Nat) : Bool := match d with
  | some d => !L.contains d
  | none => true
def maySwapB (rg : Rg) (i j : Oper) : Bool :=
  roOp i.op && disj i.dst (reads rg.ds j) && disj j.dst (reads rg.ds i) && (i.dst == none || i.dst != j.dst) && (roOp j.op || pureOp i.op || (rg.kp && keepOp j.op))
def swapAt (rg : Rg) (l : List Oper) (x i : Nat) : Bool := match l[x]?, l[i]? with
  | some a, some b => maySwapB rg a b
  | _, _ => false
def pwB (f : Nat → Nat → Bool) : List Nat → Bool
  | [] => true
  | x :: r => r.all (f x) && pwB f r
def pairB (kp : Bool) (l : List Oper) (x i : Nat) : Bool := (pathB l l.length x i || swapAt ⟨l.map (·.dst), kp⟩ l x i) && (!(edgesAt l x).contains i) && (x != i)
/-- What is checked of a region and of an order of its operations. -/
def ordOK (kp : Bool) (l : List Oper) (c : List Nat) : Bool :=
  pwB (pairB kp l) c && c.all (fun x => decide (x < l.length) && (edgesAt l x).all fun y => decide (y < l.length) && y != x) && (List.range l.length).all fun i => c.contains i

theorem pwB_pw {f : Nat → Nat → Bool} : ∀ {l : List Nat}, pwB f l = true → l.Pairwise fun x y => f x y = true
  | [], _ => .nil
  | x :: r, h => by
    simp only [pwB, Bool.and_eq_true, List.all_eq_true] at h
    exact .cons h.1 (pwB_pw h.2)

theorem disj_spec {d : Option Nat} {L : List Nat} (h : disj d L = true) : ∀ s ∈ L, d ≠ some s := by
  intro s hs e
  subst e
  simp [disj, hs] at h

theorem maySwapB_spec {rg : Rg} {i j : Oper} (h : maySwapB rg i j = true) : MaySwap rg i j := by
  simp only [maySwapB, Bool.and_eq_true, Bool.or_eq_true, beq_iff_eq, bne_iff_ne] at h
  obtain ⟨⟨⟨⟨h1, h2⟩, h3⟩, h4⟩, h5⟩ := h
  refine ⟨h1, disj_spec h2, disj_spec h3, ?_, ?_⟩
  · exact h4
  · rcases h5 with (h | h) | h
    · exact .inl h
    · exact .inr (.inl h)
    · exact .inr (.inr h)

def nthO : List Oper → Nat → Oper
  | [], _ => ⟨none, .move (.func 0), 0, "", #[], none⟩
  | o :: r, i => bif i == 0 then o else nthO r (i - 1)
def pickO (l : List Oper) : List Nat → List Oper
  | [] => []
  | i :: c => nthO l i :: pickO l c
theorem nthO_eq : ∀ {l : List Oper} {i : Nat} {o : Oper}, l[i]? = some o → nthO l i = o
  | [], _, _, h => by simp at h
  | o :: r, i, p, h => by
    cases i with
    | zero => simpa [nthO] using h
    | succ i => simpa [nthO] using nthO_eq (l := r) (i := i) (by simpa using h)
theorem nthO_cons (o : Oper) (r : List Oper) (i : Nat) : nthO (o :: r) i = bif i == 0 then o else nthO r (i - 1) := rfl
theorem pickO_nil (l : List Oper) : pickO l [] = [] := rfl
theorem pickO_cons (l : List Oper) (i : Nat) (c : List Nat) : pickO l (i :: c) = nthO l i :: pickO l c := rfl

section
variable {C : Ctx} {l : List Oper} {kp : Bool}

/-- What is known of the order that is left: c. -/
structure LeftOk (kp : Bool) (l : List Oper) (c : List Nat) (listed : Array Bool) : Prop where
  pw : c.Pairwise fun x y => pairB kp l x y = true
  lt : ∀ x ∈ c, x < l.length
  ed : ∀ x ∈ c, ∀ y ∈ edgesAt l x, y < l.length ∧ y ≠ x
  size : listed.size = l.length
  un : ∀ i, listed.getD i true = false ↔ i ∈ c
  closed : ∀ i, listed.getD i false = true → ∀ y ∈ edgesAt l i, listed.getD y false = true

theorem listed_not {listed : Array Bool} {i : Nat} (h1 : listed.getD i false = true) (h2 : listed.getD i true = false) : False := by
  rcases Nat.lt_or_ge i listed.size with h | h
  · simp [h] at h1 h2; rw [h1] at h2; cases h2
  · simp [Array.getElem?_eq_none h] at h1

theorem path_listed {listed : Array Bool} (hc : ∀ i, listed.getD i false = true → ∀ y ∈ edgesAt l i, listed.getD y false = true) : ∀ (f x i : Nat), pathB l f x i = true → (∀ y ∈ edgesAt l i, listed.getD y false = true) → listed.getD x false = true
  | 0, _, _, h, _ => by simp [pathB] at h
  | f + 1, x, i, h, hi => by
    simp only [pathB, List.any_eq_true, Bool.or_eq_true, beq_iff_eq] at h
    obtain ⟨y, hy, h⟩ := h
    rcases h with rfl | h
    · exact hi _ hy
    · exact path_listed hc f x y h (hc y (hi y hy))

theorem ready_edges {listed : Array Bool} {i : Nat} (h : i ∈ Region.ready .any l.toArray listed) : listed.getD i true = false ∧ ∀ y ∈ edgesAt l i, listed.getD y false = true := by
  obtain ⟨h1, o, ho, hall⟩ := mem_ready.1 h
  refine ⟨h1, fun y hy => ?_⟩
  rw [List.getElem?_toArray] at ho
  simp only [edgesAt, ho, edgesOf, List.mem_map, List.mem_filter] at hy
  obtain ⟨e, ⟨he, hb⟩, rfl⟩ := hy
  exact hall e (by simpa using he) hb

theorem edges_ready {listed : Array Bool} {i : Nat} (hi : i < l.length) (h1 : listed.getD i true = false) (h2 : ∀ y ∈ edgesAt l i, listed.getD y false = true) : i ∈ Region.ready .any l.toArray listed := by
  refine mem_ready.2 ⟨h1, l[i], by rw [List.getElem?_toArray]; exact List.getElem?_eq_getElem hi, fun e he hb => h2 e.on ?_⟩
  simp only [edgesAt, List.getElem?_eq_getElem hi, edgesOf, List.mem_map, List.mem_filter]
  exact ⟨e, ⟨by simpa using he, hb⟩, rfl⟩

theorem any_of_aexec (hC : C.Ok) {K : St → Prop} (hK : Resp K) {Q : Exit → Act → World → Prop} (hQ : ∀ σ' a' w' ρ', K σ' → Rel C σ' a' w' ρ' → Q .normal a' w') :
    ∀ (m : Nat) (c : List Nat) (listed : Array Bool) (σ : St) (a : Act) (w : World) (ρ : Nat → Value), c.length = m → LeftOk kp l c listed →
      aexec C ⟨l.map (·.dst), kp⟩ (pickO l c) σ K → Rel C σ a w ρ → wpAny C.P .any l.toArray Q m listed a w
  | 0, c, listed, σ, a, w, ρ, hm, hl, h, r => by
    have hc : c = [] := List.eq_nil_of_length_eq_zero hm
    subst hc
    refine ⟨?_, hQ σ a w ρ h r⟩
    apply List.eq_nil_iff_forall_not_mem.2
    intro i hi
    have := (hl.un i).1 (ready_edges hi).1
    simp at this
  | m + 1, c, listed, σ, a, w, ρ, hm, hl, h, r => by
    refine ⟨fun hr => ?_, fun i hi => ?_⟩
    · exfalso
      match c, hm with
      | x :: c', _ =>
        have hx : x ∈ Region.ready .any l.toArray listed := by
          refine edges_ready (hl.lt x List.mem_cons_self) ((hl.un x).2 List.mem_cons_self) fun y hy => ?_
          obtain ⟨h1, h2⟩ := hl.ed x List.mem_cons_self y hy
          have hnc : y ∉ x :: c' := by
            intro hm
            rcases List.mem_cons.1 hm with e | hm
            · exact h2 e
            · have := (List.pairwise_cons.1 hl.pw).1 y hm
              simp [pairB] at this
              exact this.1.2 hy
          have h3 : ¬ listed.getD y true = false := fun e => hnc ((hl.un y).1 e)
          have hlt : y < listed.size := by rw [hl.size]; exact h1
          simp [hlt] at h3 ⊢
          exact h3
        rw [hr] at hx
        cases hx
    · obtain ⟨hi1, hi2⟩ := ready_edges hi
      have hic := (hl.un i).1 hi1
      obtain ⟨c1, c2, rfl⟩ := List.append_of_mem hic
      have hlt := hl.lt i hic
      have hget : l[i]? = some l[i] := List.getElem?_eq_getElem hlt
      have hsub : (c1 ++ c2).Sublist (c1 ++ i :: c2) := List.Sublist.append_left (List.sublist_cons_self i c2) c1
      have hpw := hl.pw
      rw [List.pairwise_append] at hpw
      obtain ⟨p1, p2, p3⟩ := hpw
      have hpick : ∀ c1 : List Nat, pickO l (c1 ++ i :: c2) = pickO l c1 ++ l[i] :: pickO l c2 := by
        intro c1
        induction c1 with
        | nil => simp only [List.nil_append, pickO, nthO_eq hget]
        | cons x c1 ih => simp only [List.cons_append, pickO, ih]
      have hpick2 : ∀ c1 : List Nat, pickO l c1 ++ pickO l c2 = pickO l (c1 ++ c2) := by
        intro c1
        induction c1 with
        | nil => rfl
        | cons x c1 ih => simp only [List.cons_append, pickO, ih]
      rw [hpick] at h
      have hmem : ∀ o ∈ pickO l c1, ∃ x ∈ c1, l[x]? = some o := by
        have : ∀ c : List Nat, (∀ x ∈ c, x < l.length) → ∀ o ∈ pickO l c, ∃ x ∈ c, l[x]? = some o := by
          intro c
          induction c with
          | nil => intro _ o ho; simp [pickO] at ho
          | cons x c ih =>
            intro hx o ho
            simp only [pickO, List.mem_cons] at ho
            rcases ho with e | ho
            · refine ⟨x, List.mem_cons_self, ?_⟩
              have := List.getElem?_eq_getElem (hx x List.mem_cons_self)
              rw [e, nthO_eq this]; exact this
            · obtain ⟨y, hy, h'⟩ := ih (fun z hz => hx z (List.mem_cons_of_mem _ hz)) o ho
              exact ⟨y, List.mem_cons_of_mem _ hy, h'⟩
        exact this c1 fun x hx => hl.lt x (List.mem_append_left _ hx)
      have hsw : ∀ o ∈ pickO l c1, MaySwap ⟨l.map (·.dst), kp⟩ o l[i] := by
        intro o ho
        obtain ⟨x, hx, hxo⟩ := hmem o ho
        have hp := p3 x hx i List.mem_cons_self
        simp only [pairB, Bool.and_eq_true, Bool.or_eq_true] at hp
        rcases hp.1.1 with hp | hp
        · exact (listed_not (path_listed hl.closed _ x i hp hi2) ((hl.un x).2 (List.mem_append_left _ hx))).elim
        · simp only [swapAt, hxo, hget] at hp
          exact maySwapB_spec hp
      have h2 := aexec_front hK hsw h
      refine aone_wp hC (K2 := wpAny C.P .any l.toArray Q m (listed.setIfInBounds i true)) (fun σ' a' w' ρ' h' r' => ?_) hget h2 r
      rw [hpick2] at h'
      have hil : i < listed.size := by rw [hl.size]; exact hlt
      refine any_of_aexec hC hK hQ m (c1 ++ c2) (listed.setIfInBounds i true) σ' a' w' ρ' ?_ ⟨hl.pw.sublist hsub, fun x hx => hl.lt x (hsub.subset hx), fun x hx => hl.ed x (hsub.subset hx), by rw [Array.size_setIfInBounds]; exact hl.size, fun j => ?_, fun j hj y hy => ?_⟩ h' r'
      · simp at hm ⊢; omega
      · by_cases hij : i = j
        · subst hij
          have hno : i ∉ c1 ++ c2 := by
            intro hmm
            rcases List.mem_append.1 hmm with k | k
            · have := p3 i k i List.mem_cons_self
              simp [pairB] at this
            · have := (List.pairwise_cons.1 p2).1 i k
              simp [pairB] at this
          simp [hil, hno]
        · rw [getD_set_ne true hij, hl.un j]
          simp only [List.mem_append, List.mem_cons]
          constructor
          · rintro (h | h | h)
            · exact .inl h
            · exact absurd h.symm hij
            · exact .inr h
          · rintro (h | h)
            · exact .inl h
            · exact .inr (.inr h)
      · by_cases hij : i = j
        · subst hij
          exact getD_set_true (hi2 y hy)
        · rw [getD_set_ne false hij] at hj
          exact getD_set_true (hl.closed j hj y hy)

theorem Run.resp {k : List Item} : Resp (Run C k) := by
  intro σ σ' he h a w ρ r b cs
  exact h a w ρ ⟨r.defers, r.size.trans he.1.symm, fun s ex x hs => by
    rw [he.2.2 s] at hs
    rw [he.2.1]
    exact r.fr s ex x hs, by rw [he.2.1]; exact r.w, by rw [he.2.1]; exact r.pin⟩ b cs

theorem Run.regionD (hC : C.Ok) (kp : Bool) (c : List Nat) {k : List Item} {σ : St} {id : Nat} {l : List Oper} (hB : ordOK kp l c = true)
    (h : ∀ K : St → Prop, (∀ σ', Run C k σ' → K σ') → aexec C ⟨dstL l, kp⟩ (pickO l c) σ K) : Run C (.code (.region id l.toArray true) :: k) σ := by
  intro a w ρ r b cs
  have h1 := h (fun σ' => Run C k σ') (fun _ hr => hr)
  rw [dstL_eq] at h1
  simp only [ordOK, Bool.and_eq_true, List.all_eq_true, List.mem_range] at hB
  obtain ⟨⟨hp, ha⟩, hr⟩ := hB
  have hcl : c.length = l.length := by
    have hpw := pwB_pw hp
    have hnd : c.Nodup := hpw.imp (fun {x y} h => by simp [pairB] at h; exact h.2)
    have hperm : c.Perm (List.range l.length) := by
      refine (List.perm_ext_iff_of_nodup hnd List.nodup_range).2 fun i => ?_
      rw [List.mem_range]
      constructor
      · intro hi
        have := ha i hi
        simp at this
        exact this.1
      · intro hi
        simpa using hr i hi
    simpa using hperm.length_eq
  have hst : Step C w { w with drawn := w.drawn + 1 } σ.obs σ.obs ρ ρ := (Turn.none r.w (Ext.drew _ w)).step r.w
  have hrel : Rel C σ a { w with drawn := w.drawn + 1 } ρ := hst.rel r
  have hw : (Code.region id l.toArray true).wp C.P (fun e a' w' => e = .normal ∧ ∃ σ' ρ', Run C k σ' ∧ Rel C σ' a' w' ρ') a w := by
    refine wp_region_any hC.mixed ?_
    simp only [List.size_toArray]
    refine any_of_aexec (kp := kp) hC Run.resp (fun σ' a' w' ρ' hk hr => ⟨rfl, σ', ρ', hk, hr⟩) l.length c (Array.replicate l.length false) σ a _ ρ hcl ⟨pwB_pw hp, fun x hx => ?_, fun x hx y hy => ?_, by simp, fun i => ?_, fun i hi => ?_⟩ h1 hrel
    · have := ha x hx; simp at this; exact this.1
    · have := ha x hx; simp at this; exact this.2 y hy
    · rcases Nat.lt_or_ge i l.length with hi | hi
      · have := hr i hi
        simp at this
        simp [hi, this]
      · simp [hi]
        intro hic
        have := ha i hic
        simp at this
        omega
    · rcases Nat.lt_or_ge i l.length with hh | hh
      · simp [hh] at hi
      · simp [hh] at hi
  obtain ⟨e, a', w', ⟨rfl, σ', ρ', hk, hr⟩, harr⟩ := hw b k cs
  obtain ⟨e2, a2, w2, hp, harr2⟩ := hk a' w' ρ' hr b cs
  exact ⟨e2, a2, w2, hp, .of_steps harr harr2⟩

end

/-- Contracts, used at a call: behind it the walk goes on. -/
theorem FunA.callW {B C : Ctx} (hP : B.P = C.P) (hT : B.tid = C.tid) {f : FuncId} {args0 : List AV} {post : List AV → List O → Prop} (h : FunA B f args0 post) {obs : List O} {args : List AV} (ha : argsOk obs args args0)
    {K : Sl → List O → Prop} (hk : ∀ xs obs', post xs obs' → K (resSl obs.length xs) (obs ++ obs')) : ACall C obs f args fun x o => Later (K x o) := FunA.call hP hT h ha hk
theorem FunA.callD {B C : Ctx} (hP : B.P = C.P) (hT : B.tid = C.tid) {f : FuncId} {args0 : List AV} {post : List AV → List O → Prop} (h : FunA B f args0 post) {obs : List O} {args : List AV} (ha : argsOk obs args args0)
    {K : Sl → List O → Prop} (hk : ∀ xs obs', post xs obs' → K (resSl obs.length xs) (obs ++ obs')) : ACall C obs f args fun x o => Keeps obs o ∧ Later (K x o) := FunA.call hP hT h ha fun xs obs' hp => ⟨Keeps.app _ _, hk xs obs' hp⟩
theorem argsOk_nil (obs : List O) : argsOk obs [] [] = True := rfl
theorem argsOk_cons (obs : List O) (x y : AV) (l r : List AV) : argsOk obs (x :: l) (y :: r) = (argOk obs x y ∧ argsOk obs l r) := rfl
theorem argOk_int (obs : List O) (x : AV) (k : IntKind) (n : Int) : argOk obs x (.int k n) = (x = .int k n) := by cases x <;> rfl
theorem argOk_bool (obs : List O) (x : AV) (n : Bool) : argOk obs x (.bool n) = (x = .bool n) := by cases x <;> rfl
theorem argOk_str (obs : List O) (x : AV) (n : List UInt8) : argOk obs x (.str n) = (x = .str n) := by cases x <;> rfl
theorem argOk_fn (obs : List O) (x : AV) (n : Nat) : argOk obs x (.fn n) = (x = .fn n) := by cases x <;> rfl
theorem argOk_vec (obs : List O) (x : AV) (n : List Int) : argOk obs x (.vec n) = (x = .vec n) := by cases x <;> rfl
theorem argOk_nil (obs : List O) (x : AV) : argOk obs x .nils = (x = .nils) := by cases x <;> rfl
theorem argOk_sl (obs : List O) (f : Bool) (e e' : E) (xs : List e.D) (ys : List e'.D) : argOk obs (.sl f e' ys) (.sl false e xs) = convV e e' ys xs := rfl
theorem argOk_lr (obs : List O) (e : E) (xs : List e.D) (l : Nat) (ys : List Int) : argOk obs (.lr l ys) (.sl false e xs) = convV e .int ys xs := rfl
theorem argOk_nils (obs : List O) (e : E) (xs : List e.D) : argOk obs .nils (.sl false e xs) = (xs = []) := rfl
def argO (g : Nat) (e : E) (xs : List e.D) : O → Prop
  | .arr e' ys g' _ => g = g' ∧ convV e e' ys xs
  | .mat _ rows g' _ => g = g' ∧ convV e (.row true) rows xs
  | .dead => False
theorem argOk_own (obs : List O) (e : E) (xs : List e.D) (id g : Nat) : argOk obs (.own id g) (.sl false e xs) = argO g e xs (oAt obs id) := by
  rw [at_arr]
  simp only [argOk]
  cases h : obs[id]? with
  | none => simp [argO]
  | some o => cases o <;> rfl
theorem argO_arr (g g' : Nat) (e e' : E) (xs : List e.D) (ys : List e'.D) (nn : Bool) : argO g e xs (.arr e' ys g' nn) = (g = g' ∧ convV e e' ys xs) := rfl
theorem argO_mat (g g' : Nat) (e : E) (xs : List e.D) (hs : List (Option Nat)) (rows : List (List Int)) (nn : Bool) : argO g e xs (.mat hs rows g' nn) = (g = g' ∧ convV e (.row true) rows xs) := rfl
theorem cvV_int (ys zs : List Int) : convV .int .int ys zs = (zs = ys) := rfl
theorem cvV_byte (ys zs : List Int) : convV .byte .byte ys zs = (zs = ys) := rfl
theorem cvV_bool (ys zs : List Bool) : convV .bool .bool ys zs = (zs = ys) := rfl
theorem cvV_str (ys zs : List (List UInt8)) : convV .str .str ys zs = (zs = ys) := rfl
theorem cvV_row (f : Bool) (ys zs : List (List Int)) : convV (.row false) (.row f) ys zs = (zs = ys) := rfl
theorem cvV_lrow (ys : List (Nat × List Int)) (zs : List (List Int)) : convV (.row false) .lrow ys zs = (zs = ys.map (·.2)) := rfl
theorem AZ : type_of% @AY ∧ type_of% @nthO_cons ∧ type_of% @pickO_nil ∧ type_of% @pickO_cons ∧ (∀ p : Prop, (false = true → p) = True) ∧ (∀ p : Prop, (true = true → p) = p) ∧ type_of% @argsOk_nil ∧ type_of% @argsOk_cons ∧ type_of% @argOk_int ∧ type_of% @argOk_bool ∧ type_of% @argOk_str ∧ type_of% @argOk_fn ∧ type_of% @argOk_vec ∧ type_of% @argOk_nil ∧
    type_of% @argOk_sl ∧ type_of% @argOk_lr ∧ type_of% @argOk_nils ∧ type_of% @argOk_own ∧ type_of% @argO_arr ∧ type_of% @cvV_int ∧ type_of% @cvV_byte ∧ type_of% @cvV_bool ∧ type_of% @cvV_str ∧ type_of% @cvV_row ∧ type_of% @cvV_lrow ∧ (∀ k n, St.n ⟨k, n, ([] : List O)⟩ = k) := by
  refine ⟨AY, nthO_cons, pickO_nil, pickO_cons, ?_, ?_, argsOk_nil, argsOk_cons, argOk_int, argOk_bool, argOk_str, argOk_fn, argOk_vec, argOk_nil, argOk_sl, argOk_lr, argOk_nils, argOk_own, argO_arr, cvV_int, cvV_byte, cvV_bool, cvV_str, cvV_row, cvV_lrow, fun _ _ => rfl⟩ <;> simp
end Go.Aw
