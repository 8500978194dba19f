/- From a contract to a law's statement: the arguments opened, the end shut. -/
import Derived.Test.YtbeeblhmgpgkjaaAw3
import Derived.WalkKit
import Derived.ProofKit
import Derived.OpenShut
import Derived.Carry
import Derived.Deep.Matrix
import Derived.ChangeSlices
set_option linter.unusedVariables false
set_option linter.unusedSimpArgs false
namespace Go.Aw
open Go Go.ChangeShapes Go.WideShapes Go.ChangeAt Go.RowKit Go.Deep

section
variable {H : Type} {enc : TypeId × Value → H} {P : Program}

theorem trodAll_below (hl : laidOutB P = true) {W W' : World} (hb : Below W.heap.size W W') : ∀ {ts : List TypeId} {vs : List Value} {ds : List (DataW H)} {ps : List MemPlace}, ts.all (fun t => P.readableRec t && decide (t < P.types.size)) = true →
    DataW.TrodAll enc P W 0 (fun _ => true) true ts vs ds ps → (∀ x ∈ ps, x.block < W.heap.size) → DataW.TrodAll enc P W' 0 (fun b => decide (b < W.heap.size)) true ts vs ds ps
  | [], vs, ds, ps, _, h, _ => by
    obtain ⟨rfl, rfl, rfl⟩ := trodAll_nil h
    exact trodAll_mk0
  | t :: ts, vs, ds, ps, hr, h, hlt => by
    simp only [List.all_cons, Bool.and_eq_true, decide_eq_true_eq] at hr
    obtain ⟨v, vs', d, ds', p, q, rfl, rfl, rfl, hd, hrest⟩ := trodAll_cons h
    exact trodAll_cons_mk (Below.trod hl hr.1.1 hr.1.2 hd hb fun x hx => hlt x (List.mem_append_left _ hx)) (trodAll_below hl hb hr.2 hrest fun x hx => hlt x (List.mem_append_right _ hx))

variable {B : Ctx} {W : World}

theorem cell_bare' {a : Addr} {v : Value} (h : W.cell? a = some v) : ((B.bare W).V W [] (fun _ => undef)).cell a = some v := cell_bare h

/-- An argument of type []int. -/
theorem arg_ints {t e : TypeId} {v : Value} {d : DataW H} {p : List MemPlace} {base : Nat} (ht : P.underlying t = some (.slice e)) (he : P.underlying e = some (.int .i64)) (hc : P.cellsOf e = 1)
    (hval : Value.okWide P W .any base t v) (h : DataW.Trod enc P W 0 (fun _ => true) true t v d p) :
    ∃ xs : List Int, (∀ n ∈ xs, (Lit.int .i64 n).wf = true) ∧ AVRel ((B.bare W).V W [] (fun _ => undef)) [] (fun _ => undef) (.sl false .int xs) v := by
  obtain ⟨a0, len, cap, rfl⟩ := okWide_slice ht hval
  obtain ⟨fuel, hf⟩ := h
  rcases open_ints ht he hc hf with ⟨hcs, hx⟩ | ⟨a, len', cap', zs, hcs, _, hl, hm, hz, hx, hcell, hwz⟩
  · simp [Value.cells] at hcs
    obtain ⟨rfl, rfl, rfl⟩ := hcs
    exact ⟨[], by simp, none, 0, rfl, by simp, by simp, fun i hi => by simp at hi⟩
  · simp [Value.cells] at hcs
    obtain ⟨rfl, rfl, rfl⟩ := hcs
    simp only [if_true] at hz
    have hlen : (zs.take len).length = len := by simp; omega
    refine ⟨zs.take len, fun n hn => hwz n (List.mem_of_mem_take hn), some a, cap, by rw [hlen], by omega, hm, fun i hi => ⟨a, .int .i64 (zs.take len)[i], rfl, by simp, rfl, fun j hj => ?_⟩⟩
    simp only [E.size] at hj
    have hj0 : j = 0 := by omega
    subst hj0
    have h1 := hcell i (by omega)
    simp only [E.size, Nat.mul_one, Nat.add_zero]
    rw [cell_bare' h1]
    have : i < zs.length := by omega
    simp [Value.cells, List.getD, this]

/-- An argument of type []byte. -/
theorem arg_bytes {t e : TypeId} {v : Value} {d : DataW H} {p : List MemPlace} {base : Nat} (ht : P.underlying t = some (.slice e)) (he : P.underlying e = some (.int .u8)) (hc : P.cellsOf e = 1)
    (hval : Value.okWide P W .any base t v) (h : DataW.Trod enc P W 0 (fun _ => true) true t v d p) :
    ∃ xs : List Int, (∀ n ∈ xs, (Lit.int .u8 n).wf = true) ∧ AVRel ((B.bare W).V W [] (fun _ => undef)) [] (fun _ => undef) (.sl false .byte xs) v := by
  obtain ⟨a0, len, cap, rfl⟩ := okWide_slice ht hval
  obtain ⟨fuel, hf⟩ := h
  rcases open_ints ht he hc hf with ⟨hcs, hx⟩ | ⟨a, len', cap', zs, hcs, _, hl, hm, hz, hx, hcell, hwz⟩
  · simp [Value.cells] at hcs
    obtain ⟨rfl, rfl, rfl⟩ := hcs
    exact ⟨[], by simp, none, 0, rfl, by simp, by simp, fun i hi => by simp at hi⟩
  · simp [Value.cells] at hcs
    obtain ⟨rfl, rfl, rfl⟩ := hcs
    simp only [if_true] at hz
    have hlen : (zs.take len).length = len := by simp; omega
    refine ⟨zs.take len, fun n hn => hwz n (List.mem_of_mem_take hn), some a, cap, by rw [hlen], by omega, hm, fun i hi => ⟨a, .int .u8 (zs.take len)[i], rfl, by simp, rfl, fun j hj => ?_⟩⟩
    simp only [E.size] at hj
    have hj0 : j = 0 := by omega
    subst hj0
    have h1 := hcell i (by omega)
    simp only [E.size, Nat.mul_one, Nat.add_zero]
    rw [cell_bare' h1]
    have : i < zs.length := by omega
    simp [Value.cells, List.getD, this]

/-- An argument of type int. -/
theorem arg_int {t : TypeId} {v : Value} {d : DataW H} {p : List MemPlace} {base : Nat} (ht : P.underlying t = some (.int .i64)) (hval : Value.okWide P W .any base t v) (h : DataW.Trod enc P W 0 (fun _ => true) true t v d p) :
    ∃ n : Int, (Lit.int .i64 n).wf = true ∧ AVRel ((B.bare W).V W [] (fun _ => undef)) [] (fun _ => undef) (.int .i64 n) v := by
  obtain ⟨n, rfl, _, _, hw⟩ := open_int ht hval h
  exact ⟨n, hw, rfl⟩

/-- The call of a law, as its statement wants it. -/
theorem FunA.law {f : FuncId} {args : List AV} (h : FunA B f args fun rs _ => rs = [.bool true]) {vs : List Value} (hl : vs.length = args.length)
    (ha : ∀ (i : Nat) (x : AV) (v : Value), args[i]? = some x → vs[i]? = some v → AVRel ((B.bare W).V W [] (fun _ => undef)) [] (fun _ => undef) x v) :
    Calls B.P f vs.toArray W fun e W' => e = .returned (.bool true) ∧ Below W.heap.size W W' := by
  refine (h.2 W (fun _ => False) vs hl ha).mono fun e W' ⟨us, he, xs, obs', ρ', hp, hul, hu, hw, _, _⟩ => ?_
  subst hp
  match us, hul with
  | [u], _ =>
    have : u = .bool true := hu 0 (.bool true) u rfl rfl
    subst this
    exact ⟨he, hw.os0, hw.tape, hw.output, hw.grow, fun k hk => hw.kept k hk (fun m => m)⟩

theorem args1 {V : Vw} {x : AV} {v : Value} (h : AVRel V [] (fun _ => undef) x v) : ∀ (i : Nat) (y : AV) (u : Value), [x][i]? = some y → [v][i]? = some u → AVRel V [] (fun _ => undef) y u := by
  intro i y u hy hu
  match i, hy, hu with
  | 0, hy, hu => simp at hy hu; subst hy hu; exact h
theorem args2 {V : Vw} {x x1 : AV} {v v1 : Value} (h : AVRel V [] (fun _ => undef) x v) (h1 : AVRel V [] (fun _ => undef) x1 v1) : ∀ (i : Nat) (y : AV) (u : Value), [x, x1][i]? = some y → [v, v1][i]? = some u → AVRel V [] (fun _ => undef) y u := by
  intro i y u hy hu
  match i, hy, hu with
  | 0, hy, hu => simp at hy hu; subst hy hu; exact h
  | 1, hy, hu => simp at hy hu; subst hy hu; exact h1
theorem args3 {V : Vw} {x x1 x2 : AV} {v v1 v2 : Value} (h : AVRel V [] (fun _ => undef) x v) (h1 : AVRel V [] (fun _ => undef) x1 v1) (h2 : AVRel V [] (fun _ => undef) x2 v2) : ∀ (i : Nat) (y : AV) (u : Value), [x, x1, x2][i]? = some y → [v, v1, v2][i]? = some u → AVRel V [] (fun _ => undef) y u := by
  intro i y u hy hu
  match i, hy, hu with
  | 0, hy, hu => simp at hy hu; subst hy hu; exact h
  | 1, hy, hu => simp at hy hu; subst hy hu; exact h1
  | 2, hy, hu => simp at hy hu; subst hy hu; exact h2
end
end Go.Aw

/- Contracts with results that are only read; calls under a guard. -/
namespace Go.Aw
open Go

theorem FunA.frozen {B : Ctx} {f : FuncId} {args : List AV} {e : E} {xs : List e.D} {g : Nat} {nn : Bool} (he : freshE e = true) (h : FunA B f args (fun rs o => rs = [.own 0 g] ∧ o = [.arr e xs g nn])) : FunA B f args (fun rs o => rs = [.sl true e xs] ∧ o = []) := by
  refine ⟨h.1, fun w L vs hl ha => (h.2 w L vs hl ha).mono ?_⟩
  rintro en w' ⟨us, hen, rs, o, ρ', ⟨rfl, rfl⟩, hul, hu, hw, _, _⟩
  obtain ⟨hst, hsl⟩ := letgo_sl hw (id := 0) (g := g) (e := e) (xs := xs) (nn := nn) rfl
  match us, hul with
  | [u], _ =>
    have hu0 : u = ρ' 0 := ((hu 0 (.own 0 g) u rfl rfl).2 g rfl).2 rfl
    have hno : ∀ b (ρ : Nat → Value), ¬ Own ([] : List O) ρ b := fun b ρ ⟨id, o, ho, _⟩ => by simp at ho
    have hle : ((B.bareL w L).V w' [.dead] (fun i => if i = 0 then ρ' 0 else ρ' i)).le ((B.bareL w L).V w' [] ρ') := by
      refine ⟨fun b o hb => ?_, fun _ hb => hb, rfl⟩
      simp only [Ctx.V, mask] at hb ⊢
      rw [if_neg (hno b ρ')]
      split at hb
      · cases hb
      · exact hb
    refine ⟨[u], hen, [.sl true e xs], [], ρ', ⟨rfl, rfl⟩, rfl, fun i x v hx hv => ?_, ⟨fun id o ho => by simp at ho, fun i j o o' b hi => by simp at hi, fun b hb => (hno b _ hb).elim, hw.os0, hw.tape, hw.output, hw.grow, hw.kept⟩, by simp [freshAV, he], rfl⟩
    match i, hx, hv with
    | 0, hx, hv =>
      simp at hx hv
      subst hx hv
      rw [hu0]
      exact SlRel.mono hle hsl

theorem FunA.callG {B C : Ctx} (hP : B.P = C.P) (hT : B.tid = C.tid) {f : FuncId} {args0 : List AV} {x : AV} (h : FunA B f args0 (fun rs o => rs = [x] ∧ o = [])) (hx : ∀ n, shiftAV n x = x) {obs : List O} {args : List AV} {ex : Bool} (ha : ex = true → argsOk obs args args0)
    {K : AV → Prop} (hk : K x) : CallG C obs f args ex fun y => Later (K y) :=
  ⟨x, fun he => FunA.call hP hT h (ha he) fun rs o ⟨h1, h2⟩ => by subst h1 h2; exact ⟨by simp [resSl, hx], by simp⟩, hk⟩
/-- The slots that are still wanted. -/
def consO (s : Nat) : Option (Bool × Sl) → List (Nat × Bool × Sl) → List (Nat × Bool × Sl)
  | some x, l => (s, x) :: l
  | none, l => l
def keepF (fr : List (Nat × Bool × Sl)) : List Nat → List (Nat × Bool × Sl)
  | [] => []
  | s :: ks => consO s (look s fr) (keepF fr ks)
theorem keepF_sub (fr : List (Nat × Bool × Sl)) : ∀ ks : List Nat, subF fr (keepF fr ks)
  | [] => trivial
  | s :: ks => by
    simp only [keepF]
    cases h : look s fr with
    | none => exact keepF_sub fr ks
    | some x => exact ⟨h, keepF_sub fr ks⟩
theorem Run.keep {C : Ctx} {k : List Item} (ks : List Nat) {n : Nat} {fr : List (Nat × Bool × Sl)} {obs : List O} (h : Run C k ⟨n, keepF fr ks, obs⟩) : Run C k ⟨n, fr, obs⟩ := Run.le (Le.sub rfl (keepF_sub fr ks)) h
theorem consO_some (s : Nat) (x : Bool × Sl) (l : List (Nat × Bool × Sl)) : consO s (some x) l = (s, x) :: l := rfl
theorem consO_none (s : Nat) (l : List (Nat × Bool × Sl)) : consO s none l = l := rfl
theorem keepF_nil (fr : List (Nat × Bool × Sl)) : keepF fr [] = [] := rfl
theorem keepF_cons (fr : List (Nat × Bool × Sl)) (s : Nat) (ks : List Nat) : keepF fr (s :: ks) = consO s (look s fr) (keepF fr ks) := rfl
theorem AK : type_of% @consO_some ∧ type_of% @consO_none ∧ type_of% @keepF_nil ∧ type_of% @keepF_cons ∧ type_of% @look_nil ∧ type_of% @look_cons ∧ (∀ (α : Type) (a b : α), (bif true then a else b) = a) ∧ (∀ (α : Type) (a b : α), (bif false then a else b) = b) :=
  ⟨consO_some, consO_none, keepF_nil, keepF_cons, look_nil, look_cons, fun _ _ _ => rfl, fun _ _ _ => rfl⟩
end Go.Aw

/- Objects at the end that nobody needs any more are dropped. -/
namespace Go.Aw
open Go

/-- What a value of the abstract state names lies among the first n objects. -/
def idAV (n : Nat) : AV → Bool
  | .own id _ => decide (id < n)
  | .elt id _ _ _ => decide (id < n)
  | _ => true
def idSl (n : Nat) : Sl → Bool
  | .v x => idAV n x
  | .t l => l.all (idAV n)
def idFr (n : Nat) : List (Nat × Bool × Sl) → Bool
  | [] => true
  | p :: r => idSl n p.2.2 && idFr n r

theorem idFr_look {n : Nat} : ∀ {fr : List (Nat × Bool × Sl)}, idFr n fr = true → ∀ {s : Nat} {ex : Bool} {x : Sl}, look s fr = some (ex, x) → idSl n x = true
  | [], _, s, ex, x, h => by simp [look] at h
  | (t, ey, y) :: r, hs, s, ex, x, h => by
    simp only [idFr, Bool.and_eq_true] at hs
    simp only [look] at h
    split at h
    · cases h; exact hs.1
    · exact idFr_look hs.2 h

theorem AVRel.cut {V V' : Vw} {obs rest : List O} {ρ : Nat → Value} (hV : V.le V') {x : AV} {v : Value} (hi : idAV obs.length x = true) (h : AVRel V (obs ++ rest) ρ x v) : AVRel V' obs ρ x v := by
  have hg : ∀ id, id < obs.length → genOf (obs ++ rest) id = genOf obs id := fun id hid => by
    unfold genOf; rw [List.getElem?_append_left hid]
  cases x with
  | junk => trivial
  | int k n => exact h
  | bool b => exact h
  | str s => exact h
  | sl f e xs => exact SlRel.mono hV h
  | lr l xs => exact LRowRel.mono hV h
  | vec xs => exact h
  | nils => exact h
  | own id g =>
    have hid : id < obs.length := by simpa [idAV] using hi
    exact ⟨hid, fun c hc => h.2 c (by rw [hg id hid]; exact hc)⟩
  | elt id g s k =>
    have hid : id < obs.length := by simpa [idAV] using hi
    exact ⟨hid, fun c hc => h.2 c (by rw [hg id hid]; exact hc)⟩
  | relt f e d =>
    obtain ⟨a, u, hv, hf, hr, hc⟩ := h
    refine ⟨a, u, hv, fun k => hV.Fr _ (hf k), hr.mono hV, fun j hj => ?_⟩
    have hsz := hr.cells.1
    have h3 := hc j hj
    rw [Array.getElem?_eq_getElem (by omega)] at h3 ⊢
    exact hV.cell h3
  | hdr h' n => exact h
  | emp b => exact h
  | fn f => exact h

theorem Le.cut {C : Ctx} {n : Nat} {fr fr' : List (Nat × Bool × Sl)} {obs obs' : List O} (rest : List O) (hp : C.pin.length ≤ obs'.length) (ho : obs = obs' ++ rest) (h : subF fr fr') (hi : idFr obs'.length fr' = true) :
    Le C ⟨n, fr, obs⟩ ⟨n, fr', obs'⟩ := by
  subst ho
  intro a w ρ r
  have hown : ∀ b, Own obs' ρ b → Own (obs' ++ rest) ρ b := by
    rintro b ⟨id, o, ho, hb⟩
    exact ⟨id, o, by rw [List.getElem?_append_left (List.getElem?_eq_some_iff.1 ho).1]; exact ho, hb⟩
  have hle : (C.V w (obs' ++ rest) ρ).le (C.V w obs' ρ) := by
    refine ⟨fun b o hb => ?_, fun _ hb => hb, rfl⟩
    simp only [Ctx.V, mask] at hb ⊢
    split at hb
    · cases hb
    · rename_i hnn
      rw [if_neg (fun k => hnn (hown b k))]
      exact hb
  have up : ∀ id o, obs'[id]? = some o → (obs' ++ rest)[id]? = some o := fun id o ho => by rw [List.getElem?_append_left (List.getElem?_eq_some_iff.1 ho).1]; exact ho
  have hw : WRel C obs' w ρ := ⟨fun id o ho => (r.w.os id o (up id o ho)).kept hle (Ext.refl (fun _ => False) w) (fun _ _ k => k), fun i j o o' b hi hj bi bj => r.w.dis i j o o' b (up i o hi) (up j o' hj) bi bj,
    fun b hb => r.w.own b (hown b hb), r.w.os0, r.w.tape, r.w.output, r.w.grow, r.w.kept⟩
  refine ⟨ρ, r.defers, r.size, fun s ex x hl => ?_, hw, fun j v hj => ?_⟩
  · obtain ⟨k1, k2⟩ := r.fr s ex x (subF_look h hl)
    refine ⟨fun he => ?_, k2⟩
    have hid := idFr_look hi hl
    have k := k1 he
    cases x with
    | v x => exact AVRel.cut hle hid k
    | t l =>
      obtain ⟨vs, q1, q2, q3⟩ := k
      refine ⟨vs, q1, q2, fun i x y hx hy => AVRel.cut hle ?_ (q3 i x y hx hy)⟩
      exact List.all_eq_true.1 hid _ (List.mem_of_getElem? hx)
  · have hlt := (List.getElem?_eq_some_iff.1 hj).1
    obtain ⟨k1, k2⟩ := r.pin j v hj
    refine ⟨by show j < obs'.length; omega, fun hg => k2 ?_⟩
    unfold genOf at hg ⊢
    rw [List.getElem?_append_left (by omega)]
    exact hg

theorem Le.cut0 {C : Ctx} (hp : C.pin = []) {n : Nat} {fr fr' : List (Nat × Bool × Sl)} {obs obs' : List O} (rest : List O) (ho : obs = obs' ++ rest) (h : subF fr fr') (hi : idFr obs'.length fr' = true) :
    Le C ⟨n, fr, obs⟩ ⟨n, fr', obs'⟩ := Le.cut rest (by rw [hp]; simp) ho h hi

end Go.Aw

/- Arguments that are rows of rows; a contract used on one row of an owned matrix. -/
namespace Go.Aw
open Go Go.ChangeShapes Go.WideShapes Go.ChangeAt Go.RowKit Go.Deep

section
variable {H : Type} {enc : TypeId × Value → H} {P : Program} {B : Ctx} {W : World}

/-- An argument of type [][]int. -/
theorem arg_rows {t e q : TypeId} {v : Value} {d : DataW H} {p : List MemPlace} {base : Nat} (ht : P.underlying t = some (.slice e)) (he : P.underlying e = some (.slice q)) (hq : P.underlying q = some (.int .i64)) (ce : P.cellsOf e = 1) (cq : P.cellsOf q = 1)
    (hval : Value.okWide P W .any base t v) (h : DataW.Trod enc P W 0 (fun _ => true) true t v d p) :
    ∃ xs : List (List Int), (∀ r ∈ xs, ∀ n ∈ r, (Lit.int .i64 n).wf = true) ∧ AVRel ((B.bare W).V W [] (fun _ => undef)) [] (fun _ => undef) (.sl false (.row false) xs) v := by
  obtain ⟨a0, len, cap, rfl⟩ := okWide_slice ht hval
  obtain ⟨fuel, hf⟩ := h
  rcases open_int_rows ht he hq ce cq hf with ⟨hcs, hx⟩ | ⟨a, len', cap', A, L, K, Z, hcs, _, hl, hm, hx, hrow⟩
  · simp [Value.cells] at hcs
    obtain ⟨rfl, rfl, rfl⟩ := hcs
    exact ⟨[], by simp, none, 0, rfl, by simp, by simp, fun i hi => by simp at hi⟩
  · simp [Value.cells] at hcs
    obtain ⟨rfl, rfl, rfl⟩ := hcs
    refine ⟨(List.range len).map fun r => (Z r).take (L r), fun r hr n hn => ?_, some a, cap, by simp, by simpa using hl, hm, fun i hi => ?_⟩
    · obtain ⟨j, hj, rfl⟩ := List.mem_map.1 hr
      have := List.mem_range.1 hj
      exact (hrow j (by omega)).2.2.2.2.1 n (List.mem_of_mem_take hn)
    · simp at hi
      obtain ⟨h1, h2, h3, h4, h5, h6, h7⟩ := hrow i (by omega)
      have hlen : ((Z i).take (L i)).length = L i := by simp; omega
      have hrr : RowRel ((B.bare W).V W [] (fun _ => undef)) false ((Z i).take (L i)) (.slice (A i) (L i) (K i)) := by
        refine ⟨A i, K i, by rw [hlen], by omega, h3, fun j hj => ?_⟩
        rw [hlen] at hj
        cases hA : A i with
        | none => have := h6 hA; omega
        | some b =>
          obtain ⟨_, h8⟩ := h7 b hA
          refine ⟨b, rfl, by simp, ?_⟩
          rw [cell_bare' (h8 j (by omega))]
          have : j < (Z i).length := by omega
          simp [List.getD, this]
      refine ⟨a, .slice (A i) (L i) (K i), rfl, by simp, by simpa [ElRel] using hrr, fun j hj => ?_⟩
      have : j = 0 := by simp [E.size] at hj; omega
      subst this
      simp only [E.size, Nat.mul_one, Nat.add_zero]
      rw [cell_bare' h1]
      rfl
end

/-! ### One row of an owned matrix, lent -/

/-- The row's head stands for the callee's object; other arguments read no memory. -/
def argOkR (h : Option Nat) (n : Nat) : (actual formal : AV) → Prop
  | x, .own 0 0 => x = .hdr h n
  | x, .int k m => x = .int k m
  | x, .bool b => x = .bool b
  | _, _ => False
def argsOkR (h : Option Nat) (n : Nat) : List AV → List AV → Prop
  | [], [] => True
  | x :: l, y :: r => argOkR h n x y ∧ argsOkR h n l r
  | _, _ => False
theorem argsOkR_nil (h : Option Nat) (n : Nat) : argsOkR h n [] [] = True := rfl
theorem argsOkR_cons (h : Option Nat) (n : Nat) (x y : AV) (l r : List AV) : argsOkR h n (x :: l) (y :: r) = (argOkR h n x y ∧ argsOkR h n l r) := rfl
theorem argOkR_own (h : Option Nat) (n : Nat) (x : AV) : argOkR h n x (.own 0 0) = (x = .hdr h n) := by cases x <;> rfl
theorem argOkR_int (h : Option Nat) (n : Nat) (x : AV) (k : IntKind) (m : Int) : argOkR h n x (.int k m) = (x = .int k m) := by cases x <;> rfl
theorem argOkR_bool (h : Option Nat) (n : Nat) (x : AV) (b : Bool) : argOkR h n x (.bool b) = (x = .bool b) := by cases x <;> rfl

/-- Results that name no memory. -/
def flatAV : AV → Bool
  | .int .. => true
  | .bool .. => true
  | _ => false

theorem argsOkR_sound {V V' : Vw} {obs obs' : List O} {ρ ρ' : Nat → Value} {h : Option Nat} {n : Nat} {u : Value} (hu : ∀ v, AVRel V obs ρ (.hdr h n) v → v = u) (hown : AVRel V' obs' ρ' (.own 0 0) u) :
    ∀ {l r : List AV} {vs : List Value}, argsOkR h n l r → vs.length = l.length → (∀ (i : Nat) (x : AV) (v : Value), l[i]? = some x → vs[i]? = some v → AVRel V obs ρ x v) →
    vs.length = r.length ∧ ∀ (i : Nat) (x : AV) (v : Value), r[i]? = some x → vs[i]? = some v → AVRel V' obs' ρ' x v
  | [], [], vs, _, hl, _ => ⟨hl, fun i x v h => by simp at h⟩
  | x :: l, y :: r, vs, ha, hl, hx => by
    cases vs with
    | nil => simp at hl
    | cons v vs =>
      obtain ⟨h1, h2⟩ := argsOkR_sound (vs := vs) hu hown ha.2 (by simpa using hl) (fun i x v hx' hv => hx (i + 1) x v (by simpa using hx') (by simpa using hv))
      refine ⟨by simp [h1], fun i x' v' hx' hv' => ?_⟩
      cases i with
      | succ i => exact h2 i x' v' (by simpa using hx') (by simpa using hv')
      | zero =>
        simp at hx' hv'
        subst hx' hv'
        have h0 := hx 0 x v rfl rfl
        have h3 := ha.1
        unfold argOkR at h3
        split at h3
        · subst h3; rw [hu v h0]; exact hown
        · subst h3; exact h0
        · subst h3; exact h0
        · exact h3.elim
  | [], _ :: _, _, h, _, _ => h.elim
  | _ :: _, [], _, h, _, _ => h.elim

theorem pack_rel {V : Vw} {obs : List O} {ρ : Nat → Value} : ∀ {rs : List AV} {us : List Value}, us.length = rs.length → (∀ (j : Nat) (x : AV) (v : Value), rs[j]? = some x → us[j]? = some v → AVRel V obs ρ (shiftAV 0 x) v) → SlotRel V obs ρ (resSl 0 rs) (pack us)
  | [], [], _, _ => ⟨[], rfl, rfl, by simp⟩
  | [x], [u], _, each => each 0 x u rfl rfl
  | x :: y :: l, u :: u2 :: us, hul, each => by
    refine ⟨u :: u2 :: us, by simp [pack], by simpa using hul, fun j a b ha hb => ?_⟩
    rw [List.getElem?_map, Option.map_eq_some_iff] at ha
    obtain ⟨z, hz, rfl⟩ := ha
    exact each j z b hz hb

theorem FunM.callRow {B C : Ctx} (hP : B.P = C.P) (hT : B.tid = C.tid) {f : FuncId} {args0 : List AV} {xs : List Int} {post : List AV → List O → Prop} (h : FunM B f args0 .int xs false post) {obs : List O} {args : List AV} (id g i : Nat) {hs : List (Option Nat)} {rows : List (List Int)} {nn : Bool}
    (ho : oAt obs id = .mat hs rows g nn) (hi : i < rows.length) (hx : rows.getD i [] = xs) (ha : argsOkR (hs.getD i none) xs.length args args0)
    {K : Sl → List O → Prop} (hk : ∀ rs o' obs', post rs (o' :: obs') → ∃ ys, o' = .arr .int ys 0 false ∧ ys.length = xs.length ∧ rs.all flatAV = true ∧ K (resSl 0 rs) (oSet obs id (.mat hs (rows.set i ys) g nn))) :
    ACall C obs f args fun x o => Later (K x o) := by
  have hid : obs[id]? = some (.mat hs rows g nn) := oAt_lt ho rfl
  refine ⟨fun vs w => by rw [← hP]; exact h.1 vs w, fun w ρ vs rr hl hvs => ?_⟩
  have hM := rr.os id _ hid
  obtain ⟨cs, hown, hhl, hrow, hnd, hout, hnn, hml⟩ := hM
  have hcl : cs.length = rows.length := by have := hown.1; omega
  have e1 : hs.getD i none = hs[i] := by simp [show i < hs.length by omega]
  have e2 : rows.getD i [] = rows[i] := by simp [hi]
  have hm := hrow i hs[i] rows[i] cs[i] (by simp) (by simp) (by simp)
  rw [← e1, ← e2, hx] at hm
  -- the row as an object of its own
  have hti : B.tid .int = C.tid .int := congrFun hT .int
  have hrowO : w.ownsRow 0 (B.tid .int) 1 cs[i] xs.length (xs.map (Value.int .i64)) := by
    cases hh : hs.getD i none with
    | none => rw [hh] at hm; obtain ⟨h1, h2⟩ := hm; subst h2; exact ⟨by simp, .inl ⟨h1, rfl⟩⟩
    | some q =>
      rw [hh] at hm
      obtain ⟨h1, cur, h2, h3, h4, h5, h6⟩ := hm
      exact ⟨by simp, .inr ⟨hdB q, hdC q, cur, h1, Nat.zero_le _, by rw [hti]; exact h2, h3, h4, by simpa using h5, by simpa using h6⟩⟩
  have hlm : xs.length ≤ maxLen := by
    rcases hrowO.2 with ⟨_, h0⟩ | ⟨_, cap, _, _, _, _, h3, h4, _⟩
    · omega
    · omega
  have hblk : ∀ b, cs[i].ownBlock = some b → fpo (ρ id) (.mat hs rows g nn) b := by
    intro b hb
    cases hh : hs.getD i none with
    | none => rw [hh] at hm; rw [hm.1] at hb; simp [Value.ownBlock] at hb
    | some q =>
      rw [hh] at hm
      rw [hm.1] at hb
      simp [Value.ownBlock] at hb
      refine .inr ⟨q, ?_, hb⟩
      rw [← hh, e1]
      simp
  have henc : ∀ V : Vw, Enc V .int xs (xs.map (Value.int .i64)) := fun V => ints_enc xs
  have hstart : WRel (B.lentB w (fun _ => False) (.arr .int xs 0 false) cs[i]) [.arr .int xs 0 false] w (fun _ => cs[i]) := by
    refine ⟨fun id o hh => ?_, fun i j o o' b hi' hj' _ _ => ?_, fun b ⟨id, o, hh, hf⟩ => ?_, rfl, rfl, rfl, Nat.le_refl _, fun _ _ _ => rfl⟩
    · cases id with
      | zero => simp at hh; subst hh; exact ⟨_, hrowO, henc _, by simp, hlm⟩
      | succ id => simp at hh
    · cases i with
      | zero =>
        cases j with
        | zero => rfl
        | succ j => simp at hj'
      | succ i => simp at hi'
    · cases id with
      | zero => simp at hh; subst hh; exact .inr hf
      | succ id => simp at hh
  have hu : ∀ v, AVRel (C.V w obs ρ) obs ρ (.hdr (hs.getD i none) xs.length) v → v = cs[i] := by
    intro v hv
    cases hh : hs.getD i none with
    | none => rw [hh] at hm hv; exact (show v = _ from hv).trans hm.1.symm
    | some q => rw [hh] at hm hv; exact (show v = _ from hv).trans hm.1.symm
  obtain ⟨h1, h2⟩ := argsOkR_sound (V' := (B.lentB w (fun _ => False) (.arr .int xs 0 false) cs[i]).V w [.arr .int xs 0 false] (fun _ => cs[i])) (obs' := [.arr .int xs 0 false]) (ρ' := fun _ => cs[i]) hu
    ⟨by simp, fun c hc => ⟨Nat.zero_le _, fun _ => rfl⟩⟩ ha hl hvs
  rw [← hP]
  refine (h.2 w (fun _ => False) cs[i] vs hstart h1 h2).mono fun en w' ⟨us, hen, rs, o', obs', ρ', hp, hul, hus, hw', hf1, hf2, hb⟩ => ?_
  obtain ⟨ys, rfl, hyl, hrs, hK⟩ := hk rs o' obs' hp
  have hρ0 := hb.2 rfl
  have hext : Ext (fun b => cs[i].ownBlock = some b) w w' := ⟨hw'.os0, hw'.tape, hw'.output, hw'.grow, fun b hb hS => hw'.kept b hb hS⟩
  have hext2 : Ext (fun b => fpo (ρ id) (.mat hs rows g nn) b) w w' := hext.mono fun b hb => hblk b hb
  have hnew := hw'.os 0 _ rfl
  rw [hρ0] at hnew
  obtain ⟨cs2, ho2, henc2, _, _⟩ := hnew
  have hcs2 := enc_ints henc2
  subst hcs2
  have T := Turn.one rr id (.mat hs rows g nn) (.mat hs (rows.set i ys) g nn) (ρ id) hid hext2
    (by
      refine ⟨cs, ?_, by simpa using hhl, fun i1 h1 xs1 u1 q1 q2 q3 => ?_, hnd, hout, hnn, by simpa using hml⟩
      · rw [List.length_set]
        refine ownsRow_kept hown fun b hb => hext.block b ((rr.os id _ hid).lt (b := b) (.inl hb)) fun hc => ?_
        cases hh : hs.getD i none with
        | none => rw [hh] at hm; rw [hm.1] at hc; simp [Value.ownBlock] at hc
        | some q =>
          rw [hh] at hm
          rw [hm.1] at hc
          simp [Value.ownBlock] at hc
          refine hout q (by rw [← hh, e1]; simp) ?_
          rw [hb, hc]
      · rcases get_set q2 with ⟨a1, a2⟩ | ⟨a1, a2⟩
        · subst a1
          subst a2
          have hh1 : hs.getD i1 none = h1 := by simp [q1]
          have hu1 : u1 = cs[i1] := by simpa [show i1 < cs.length by omega] using q3.symm
          subst hu1
          rw [hh1] at hm
          cases h1 with
          | none =>
            obtain ⟨m1, m2⟩ := hm
            refine ⟨m1, ?_⟩
            subst m2
            exact List.eq_nil_of_length_eq_zero (by simpa using hyl)
          | some q =>
            obtain ⟨m1, cur, m2, m3, m4, m5, m6⟩ := hm
            rcases ho2.2 with ⟨hz, _⟩ | ⟨b3, cap3, cur3, hv3, _, hg3, n1, n2, n3, n4⟩
            · rw [m1] at hz; cases hz
            · rw [m1] at hv3
              have ev := Value.slice.inj hv3
              have eb : hdB q = b3 := congrArg Addr.block (Option.some.inj ev.1)
              have ec : hdC q = cap3 := ev.2.2
              refine ⟨by rw [hyl]; exact m1, cur3, ?_, by rw [ec]; exact n1, m4, by rw [ec]; simpa [E.size] using n3, by simpa [E.size] using n4⟩
              rw [eb, ← hti]
              exact hg3
        · refine (hrow i1 h1 xs1 u1 q1 a2 q3).kept fun x hx => ?_
          subst hx
          have hmem : some x ∈ hs := List.mem_of_getElem? q1
          refine hext.block _ ((rr.os id _ hid).lt (b := hdB x) (.inr ⟨x, hmem, rfl⟩)) fun hc => ?_
          cases hh : hs.getD i none with
          | none => rw [hh] at hm; rw [hm.1] at hc; simp [Value.ownBlock] at hc
          | some q =>
            rw [hh] at hm
            rw [hm.1] at hc
            simp [Value.ownBlock] at hc
            exact a1 (hnd i1 i x q q1 (by rw [← hh, e1]; simp) hc.symm))
    (fun b hb => .inl hb) (fun c' hc' => ⟨g, rfl, .inl ⟨by simp [O.gen] at hc'; exact hc'.symm, rfl⟩⟩)
  have hρe : (fun j => if j = id then ρ id else ρ j) = ρ := by funext j; split <;> simp_all
  rw [hρe, ← oSet_eq] at T
  refine ⟨pack us, hen, resSl 0 rs, _, ρ, T.step rr, ?_, hK⟩
  have each : ∀ (j : Nat) (x : AV) (v : Value), rs[j]? = some x → us[j]? = some v → AVRel (C.V w' (oSet obs id (.mat hs (rows.set i ys) g nn)) ρ) (oSet obs id (.mat hs (rows.set i ys) g nn)) ρ (shiftAV 0 x) v := fun j x v hx hv => by
    have k1 := List.all_eq_true.1 hrs _ (List.mem_of_getElem? hx)
    have k2 := hus j x v hx hv
    cases x <;> first | exact k2 | (cases k1; done)
  exact pack_rel hul each

theorem AW1 : type_of% @AW ∧ type_of% @argsOkR_nil ∧ type_of% @argsOkR_cons ∧ type_of% @argOkR_own ∧ type_of% @argOkR_int ∧ type_of% @argOkR_bool ∧ type_of% @Q_nil_sl ∧ type_of% @Q_nil_emp ∧ type_of% @Q_nil_nil ∧ type_of% @Q_len_emp ∧ type_of% @Q_src_emp := ⟨AW, argsOkR_nil, argsOkR_cons, argOkR_own, argOkR_int, argOkR_bool, Q_nil_sl, Q_nil_emp, Q_nil_nil, Q_len_emp, Q_src_emp⟩
end Go.Aw

/- The numbers game of a Cartan matrix: firing negative numbers ends in one way only, in one number of steps. -/
namespace Go.Cox

abbrev Vec := Nat → Int
abbrev Mat := Nat → Nat → Int

/-- A vector reflected. -/
def refl (A : Mat) (i : Nat) (v : Vec) : Vec := fun k => v k - v i * A k i
/-- All letters of a word, the last one first. -/
def act (A : Mat) (w : List Nat) (v : Vec) : Vec := w.foldr (refl A) v
/-- All letters of a word, the first one first. -/
def run (A : Mat) (w : List Nat) (v : Vec) : Vec := w.foldl (fun v i => refl A i v) v

structure Cartan (A : Mat) (n : Nat) : Prop where
  diag : ∀ i, i < n → A i i = 2
  nonpos : ∀ i j, i < n → j < n → i ≠ j → A i j ≤ 0
  zero : ∀ i j, i < n → j < n → A i j = 0 → A j i = 0

theorem act_nil (A : Mat) (v : Vec) : act A [] v = v := rfl
theorem act_cons (A : Mat) (i : Nat) (w : List Nat) (v : Vec) : act A (i :: w) v = refl A i (act A w v) := rfl
theorem act_append (A : Mat) (a b : List Nat) (v : Vec) : act A (a ++ b) v = act A a (act A b v) := by simp [act, List.foldr_append]
theorem run_nil (A : Mat) (v : Vec) : run A [] v = v := rfl
theorem run_cons (A : Mat) (i : Nat) (w : List Nat) (v : Vec) : run A (i :: w) v = run A w (refl A i v) := rfl
theorem run_append (A : Mat) (a b : List Nat) (v : Vec) : run A (a ++ b) v = run A b (run A a v) := by simp [run, List.foldl_append]
theorem run_reverse (A : Mat) (w : List Nat) (v : Vec) : run A w.reverse v = act A w v := by simp [run, act, List.foldl_reverse]
theorem act_reverse (A : Mat) (w : List Nat) (v : Vec) : act A w.reverse v = run A w v := by simp [run, act, List.foldr_reverse]

variable {A : Mat} {n : Nat}

theorem refl_refl {i : Nat} (h : A i i = 2) (v : Vec) : refl A i (refl A i v) = v := by
  funext k; simp only [refl, h]; grind

theorem refl_self {i : Nat} (h : A i i = 2) (v : Vec) : refl A i v i = -(v i) := by
  simp only [refl, h]; omega

theorem act_run (hA : Cartan A n) : ∀ (w : List Nat), (∀ i ∈ w, i < n) → ∀ v, act A w (run A w v) = v
  | [], _, _ => rfl
  | i :: w, h, v => by
    rw [run_cons, act_cons, act_run hA w (fun j hj => h j (List.mem_cons_of_mem _ hj)), refl_refl (hA.diag i (h i (List.mem_cons_self ..)))]

theorem run_act (hA : Cartan A n) (w : List Nat) (h : ∀ i ∈ w, i < n) (v : Vec) : run A w (act A w v) = v := by
  have := act_run hA w.reverse (fun i hi => h i (by simpa using hi)) v
  rwa [run_reverse, act_reverse] at this

/-- Two letters in turn. -/
def alt (i j : Nat) : Nat → List Nat
  | 0 => []
  | m + 1 => i :: alt j i m

theorem alt_length (i j : Nat) : ∀ m, (alt i j m).length = m := by
  intro m
  induction m generalizing i j with
  | zero => rfl
  | succ m ih => simp [alt, ih]

/-- The order of the product of two letters, 0 if there is none. -/
def bond (A : Mat) (i j : Nat) : Nat :=
  if A i j * A j i = 0 then 2 else if A i j * A j i = 1 then 3 else if A i j * A j i = 2 then 4 else if A i j * A j i = 3 then 6 else 0

theorem bond_symm (i j : Nat) : bond A i j = bond A j i := by simp [bond, Int.mul_comm]

/-- Words that turn into each other by braid moves. -/
inductive Br (A : Mat) (n : Nat) : List Nat → List Nat → Prop
  | refl (w : List Nat) : Br A n w w
  | trans {a b c : List Nat} : Br A n a b → Br A n b c → Br A n a c
  | cons (i : Nat) {a b : List Nat} : Br A n a b → Br A n (i :: a) (i :: b)
  | braid (i j : Nat) (t : List Nat) : i < n → j < n → i ≠ j → bond A i j ≠ 0 → Br A n (alt i j (bond A i j) ++ t) (alt j i (bond A i j) ++ t)

theorem Br.symm {a b : List Nat} (h : Br A n a b) : Br A n b a := by
  induction h with
  | refl w => exact .refl w
  | trans _ _ h1 h2 => exact .trans h2 h1
  | cons i _ h => exact .cons i h
  | braid i j t hi hj hij hb =>
    rw [bond_symm i j] at hb ⊢
    exact .braid j i t hj hi (Ne.symm hij) hb

theorem Br.length {a b : List Nat} (h : Br A n a b) : a.length = b.length := by
  induction h with
  | refl w => rfl
  | trans _ _ h1 h2 => exact h1.trans h2
  | cons i _ h => simp [h]
  | braid i j t => simp [alt_length]

theorem Br.pre {a b : List Nat} (t : List Nat) (h : Br A n a b) : Br A n (t ++ a) (t ++ b) := by
  induction t with
  | nil => exact h
  | cons i t ih => exact .cons i ih

/-- Six cases of two bound letters. -/
theorem bonds (hA : Cartan A n) {i j : Nat} (hi : i < n) (hj : j < n) (hij : i ≠ j) :
    (A i j = 0 ∧ A j i = 0) ∨ (A i j = -1 ∧ A j i = -1) ∨ (A i j = -1 ∧ A j i = -2) ∨ (A i j = -2 ∧ A j i = -1) ∨ (A i j = -1 ∧ A j i = -3) ∨ (A i j = -3 ∧ A j i = -1) ∨
      (A i j < 0 ∧ A j i < 0 ∧ 4 ≤ A i j * A j i) := by
  have h1 := hA.nonpos i j hi hj hij
  have h2 := hA.nonpos j i hj hi (Ne.symm hij)
  have h3 := hA.zero i j hi hj
  have h4 := hA.zero j i hj hi
  generalize A i j = a at *
  generalize A j i = b at *
  by_cases ha : a = 0
  · exact .inl ⟨ha, h3 ha⟩
  have hb : b ≠ 0 := fun h => ha (h4 h)
  by_cases h : 4 ≤ a * b
  · exact .inr (.inr (.inr (.inr (.inr (.inr ⟨by omega, by omega, h⟩)))))
  obtain ⟨x, rfl⟩ : ∃ x : Nat, a = -(x : Int) - 1 := ⟨(-a - 1).toNat, by omega⟩
  obtain ⟨y, rfl⟩ : ∃ y : Nat, b = -(y : Int) - 1 := ⟨(-b - 1).toNat, by omega⟩
  have e : (-(x : Int) - 1) * (-(y : Int) - 1) = ((x * y + x + y + 1 : Nat) : Int) := by push_cast; grind
  rw [e] at h
  have h5 : x * y + x + y + 1 < 4 := by omega
  have hx : x ≤ 2 := by omega
  have hy : y ≤ 2 := by omega
  match x, y, hx, hy with
  | 0, 0, _, _ => simp
  | 0, 1, _, _ => simp
  | 0, 2, _, _ => simp
  | 1, 0, _, _ => simp
  | 2, 0, _, _ => simp
  | 1, 1, _, _ => omega
  | 1, 2, _, _ => omega
  | 2, 1, _, _ => omega
  | 2, 2, _, _ => omega

theorem run_braid (hA : Cartan A n) {i j : Nat} (hi : i < n) (hj : j < n) (hij : i ≠ j) (v : Vec) : run A (alt i j (bond A i j)) v = run A (alt j i (bond A i j)) v := by
  have d1 := hA.diag i hi
  have d2 := hA.diag j hj
  funext k
  rcases bonds hA hi hj hij with ⟨h1, h2⟩ | ⟨h1, h2⟩ | ⟨h1, h2⟩ | ⟨h1, h2⟩ | ⟨h1, h2⟩ | ⟨h1, h2⟩ | ⟨h1, h2, h3⟩
  all_goals first
    | (have hb : bond A i j = 2 := by simp [bond, h1, h2]
       rw [hb]; simp only [alt, run, List.foldl_cons, List.foldl_nil, refl, d1, d2, h1, h2]; grind)
    | (have hb : bond A i j = 3 := by simp [bond, h1, h2]
       rw [hb]; simp only [alt, run, List.foldl_cons, List.foldl_nil, refl, d1, d2, h1, h2]; grind)
    | (have hb : bond A i j = 4 := by simp [bond, h1, h2]
       rw [hb]; simp only [alt, run, List.foldl_cons, List.foldl_nil, refl, d1, d2, h1, h2]; grind)
    | (have hb : bond A i j = 6 := by simp [bond, h1, h2]
       rw [hb]; simp only [alt, run, List.foldl_cons, List.foldl_nil, refl, d1, d2, h1, h2]; grind)
    | (have hb : bond A i j = 0 := by
         unfold bond
         rw [if_neg (by omega), if_neg (by omega), if_neg (by omega), if_neg (by omega)]
       rw [hb]; rfl)

theorem run_br (hA : Cartan A n) {a b : List Nat} (h : Br A n a b) : ∀ v, run A a v = run A b v := by
  induction h with
  | refl w => exact fun _ => rfl
  | trans _ _ h1 h2 => exact fun v => (h1 v).trans (h2 v)
  | cons i _ h => exact fun v => h _
  | braid i j t hi hj hij _ => intro v; rw [run_append, run_append, run_braid hA hi hj hij]

theorem alt_mem {i j : Nat} : ∀ {m k : Nat}, k ∈ alt i j m → k = i ∨ k = j := by
  intro m
  induction m generalizing i j with
  | zero => intro k h; simp [alt] at h
  | succ m ih =>
    intro k h
    simp only [alt, List.mem_cons] at h
    rcases h with h | h
    · exact .inl h
    · exact (ih h).symm

theorem Br.mem {a b : List Nat} (h : Br A n a b) : (∀ i ∈ a, i < n) → ∀ i ∈ b, i < n := by
  induction h with
  | refl w => exact fun h => h
  | trans _ _ h1 h2 => exact fun h => h2 (h1 h)
  | cons i _ ih =>
    intro h k hk
    rcases List.mem_cons.1 hk with rfl | hk
    · exact h _ (List.mem_cons_self ..)
    · exact ih (fun k hk => h k (List.mem_cons_of_mem _ hk)) k hk
  | braid i j t hi hj =>
    intro h k hk
    rcases List.mem_append.1 hk with hk | hk
    · rcases alt_mem hk with rfl | rfl
      · exact hj
      · exact hi
    · exact h k (List.mem_append_right _ hk)

theorem act_br (hA : Cartan A n) {a b : List Nat} (h : Br A n a b) (ha : ∀ i ∈ a, i < n) (v : Vec) : act A a v = act A b v := by
  have hb := h.mem ha
  have e : v = run A a (act A a v) := (run_act hA a ha v).symm
  have e2 : act A b v = act A b (run A b (act A a v)) := by rw [← run_br hA h, ← e]
  rw [e2, act_run hA b hb]

/-- Negative numbers are fired in turn. -/
inductive Play (A : Mat) (n : Nat) : Vec → List Nat → Vec → Prop
  | nil (v : Vec) : Play A n v [] v
  | cons {v u : Vec} {i : Nat} {w : List Nat} : i < n → v i < 0 → Play A n (refl A i v) w u → Play A n v (i :: w) u

theorem Play.run {v u : Vec} {w : List Nat} (h : Play A n v w u) : u = run A w v := by
  induction h with
  | nil v => rfl
  | cons _ _ _ ih => exact ih

theorem Play.mem {v u : Vec} {w : List Nat} (h : Play A n v w u) : ∀ i ∈ w, i < n := by
  induction h with
  | nil v => simp
  | cons hi _ _ ih => intro k hk; rcases List.mem_cons.1 hk with rfl | hk; exact hi; exact ih k hk

theorem Play.append {v u x : Vec} {a b : List Nat} (h : Play A n v a u) (k : Play A n u b x) : Play A n v (a ++ b) x := by
  induction h with
  | nil v => exact k
  | cons hi hv _ ih => exact .cons hi hv (ih k)

theorem Play.back (hA : Cartan A n) {v u : Vec} {w : List Nat} (h : Play A n v w u) : v = act A w u := by
  rw [h.run, act_run hA w h.mem]

/-- Two letters in turn, without end. -/
theorem endless (hA : Cartan A n) : ∀ (N : Nat) {i j : Nat}, i < n → j < n → i ≠ j → A i j < 0 → A j i < 0 → 4 ≤ A i j * A j i → ∀ v : Vec, v i < 0 → -(A j i) * v i + 2 * v j ≤ 0 →
    ∃ u, Play A n v (alt i j N) u
  | 0, _, _, _, _, _, _, _, _, v, _, _ => ⟨v, .nil v⟩
  | N + 1, i, j, hi, hj, hij, ha, hb, hab, v, hv, hI => by
    have h1 : refl A i v j = v j - v i * A j i := rfl
    have h2 : refl A i v i = -(v i) := refl_self (hA.diag i hi) v
    have hp : 0 < v i * A j i := Int.mul_pos_of_neg_of_neg hv hb
    have hc : -(A j i) * v i = -(v i * A j i) := by grind
    rw [hc] at hI
    obtain ⟨u, hu⟩ := endless hA N hj hi (Ne.symm hij) hb ha (by rw [Int.mul_comm]; exact hab) (refl A i v) (by rw [h1]; omega) (by
      rw [h1, h2]
      have e : 2 * (-(A i j) * (v j - v i * A j i) + 2 * -(v i)) = -(A i j) * (2 * v j - v i * A j i) + (A i j * A j i - 4) * v i := by grind
      have k1 : -(A i j) * (2 * v j - v i * A j i) ≤ 0 := Int.mul_nonpos_of_nonneg_of_nonpos (by omega) (by omega)
      have k2 : (A i j * A j i - 4) * v i ≤ 0 := Int.mul_nonpos_of_nonneg_of_nonpos (by omega) (by omega)
      omega)
    exact ⟨u, .cons hi hv hu⟩

/-- Two letters in turn, up to the last but one step: the next number is the second one that there was. -/
theorem ladder (hA : Cartan A n) {i j : Nat} (hi : i < n) (hj : j < n) (hij : i ≠ j) (hb : bond A i j ≠ 0) (v : Vec) (hv : v i < 0) (hw : v j ≤ 0) :
    ∃ k u, k + 1 = bond A i j ∧ 0 < k ∧ Play A n v (alt i j k) u ∧ ((k % 2 = 0 ∧ u i = v j) ∨ (k % 2 = 1 ∧ u j = v j)) := by
  have d1 := hA.diag i hi
  have d2 := hA.diag j hj
  rcases bonds hA hi hj hij with ⟨h1, h2⟩ | ⟨h1, h2⟩ | ⟨h1, h2⟩ | ⟨h1, h2⟩ | ⟨h1, h2⟩ | ⟨h1, h2⟩ | ⟨h1, h2, h3⟩
  · refine ⟨1, _, by simp [bond, h1], by omega, .cons hi hv (.nil _), .inr ⟨rfl, ?_⟩⟩
    simp only [refl, d1, d2, h1, h2]; omega
  · refine ⟨2, _, by simp [bond, h1, h2], by omega, .cons hi hv (.cons hj ?_ (.nil _)), .inl ⟨rfl, ?_⟩⟩
    · simp only [refl, d1, d2, h1, h2]; omega
    · simp only [refl, d1, d2, h1, h2]; omega
  · refine ⟨3, _, by simp [bond, h1, h2], by omega, .cons hi hv (.cons hj ?_ (.cons hi ?_ (.nil _))), .inr ⟨rfl, ?_⟩⟩
    all_goals (simp only [refl, d1, d2, h1, h2]; omega)
  · refine ⟨3, _, by simp [bond, h1, h2], by omega, .cons hi hv (.cons hj ?_ (.cons hi ?_ (.nil _))), .inr ⟨rfl, ?_⟩⟩
    all_goals (simp only [refl, d1, d2, h1, h2]; omega)
  · refine ⟨5, _, by simp [bond, h1, h2], by omega, .cons hi hv (.cons hj ?_ (.cons hi ?_ (.cons hj ?_ (.cons hi ?_ (.nil _))))), .inr ⟨rfl, ?_⟩⟩
    all_goals (simp only [refl, d1, d2, h1, h2]; omega)
  · refine ⟨5, _, by simp [bond, h1, h2], by omega, .cons hi hv (.cons hj ?_ (.cons hi ?_ (.cons hj ?_ (.cons hi ?_ (.nil _))))), .inr ⟨rfl, ?_⟩⟩
    all_goals (simp only [refl, d1, d2, h1, h2]; omega)
  · exact absurd (by unfold bond; rw [if_neg (by omega), if_neg (by omega), if_neg (by omega), if_neg (by omega)]) hb

theorem alt_snoc (i j : Nat) : ∀ k, alt i j (k + 1) = alt i j k ++ [if k % 2 = 0 then i else j] := by
  intro k
  induction k generalizing i j with
  | zero => rfl
  | succ k ih =>
    rw [alt, ih j i]
    simp only [alt, List.cons_append, List.cons.injEq, true_and, List.append_cancel_left_eq, and_true]
    rcases Nat.mod_two_eq_zero_or_one k with h | h
    · rw [if_pos h, if_neg (by omega)]
    · rw [if_neg (by omega), if_pos (by omega)]

theorem polygon (hA : Cartan A n) {i j : Nat} (hi : i < n) (hj : j < n) (hij : i ≠ j) (hb : bond A i j ≠ 0) (v : Vec) (hv : v i < 0) (hw : v j < 0) :
    Play A n v (alt i j (bond A i j)) (run A (alt i j (bond A i j)) v) := by
  obtain ⟨k, u, hk, _, hp, hl⟩ := ladder hA hi hj hij hb v hv (by omega)
  have : Play A n v (alt i j k ++ [if k % 2 = 0 then i else j]) (refl A (if k % 2 = 0 then i else j) u) := by
    refine hp.append (.cons ?_ ?_ (.nil _))
    · split <;> assumption
    · rcases hl with ⟨h1, h2⟩ | ⟨h1, h2⟩
      · rw [if_pos h1, h2]; exact hw
      · rw [if_neg (by omega), h2]; exact hw
  rw [← alt_snoc, hk] at this
  rw [← this.run]
  exact this

/-- Every play can be continued to the end, which is one, and is braid-equal to every other one. -/
theorem conv (hA : Cartan A n) : ∀ (L : Nat) {v u : Vec} {w : List Nat}, w.length = L → Play A n v w u → (∀ i, i < n → 0 ≤ u i) →
    ∀ {w' : List Nat} {u' : Vec}, Play A n v w' u' → ∃ t, Play A n u' t u ∧ Br A n w (w' ++ t) := by
  intro L
  induction L using Nat.strongRecOn with
  | _ L ih =>
    intro v u w hL hp hu w' u' hp'
    cases hp' with
    | nil => exact ⟨w, hp, .refl _⟩
    | @cons _ _ j t' hj hvj hp' =>
      cases hp with
      | nil => exact absurd (hu j hj) (by omega)
      | @cons _ _ i t hi hvi hp =>
        simp only [List.length_cons] at hL
        by_cases hij : i = j
        · subst hij
          obtain ⟨r, hr, hb⟩ := ih t.length (by omega) rfl hp hu hp'
          exact ⟨r, hr, .cons _ hb⟩
        · by_cases hb : bond A i j = 0
          · exfalso
            have h3 : A i j < 0 ∧ A j i < 0 ∧ 4 ≤ A i j * A j i := by
              rcases bonds hA hi hj hij with ⟨h1, h2⟩ | ⟨h1, h2⟩ | ⟨h1, h2⟩ | ⟨h1, h2⟩ | ⟨h1, h2⟩ | ⟨h1, h2⟩ | h
              · simp [bond, h1, h2] at hb
              · simp [bond, h1, h2] at hb
              · simp [bond, h1, h2] at hb
              · simp [bond, h1, h2] at hb
              · simp [bond, h1, h2] at hb
              · simp [bond, h1, h2] at hb
              · exact h
            have hpos : 0 < v i * A j i := Int.mul_pos_of_neg_of_neg hvi h3.2.1
            have hc : -(A j i) * v i = -(v i * A j i) := by grind
            obtain ⟨x, hx⟩ := endless hA (L + 1) hi hj hij h3.1 h3.2.1 h3.2.2 v hvi (by rw [hc]; omega)
            cases hx with
            | cons _ _ hx =>
              obtain ⟨r, _, hbr⟩ := ih t.length (by omega) rfl hp hu hx
              have := hbr.length
              simp [alt_length] at this
              omega
          · have p1 := polygon hA hi hj hij hb v hvi hvj
            have p2 := polygon hA hj hi (Ne.symm hij) (by rwa [bond_symm]) v hvj hvi
            obtain ⟨m, hm⟩ : ∃ m, bond A i j = m + 1 := ⟨bond A i j - 1, by omega⟩
            have hm' : bond A j i = m + 1 := by rw [bond_symm]; exact hm
            have hend : run A (alt i j (bond A i j)) v = run A (alt j i (bond A j i)) v := by rw [run_braid hA hi hj hij, bond_symm j i]
            have hbr0 := Br.braid (A := A) (n := n) i j
            rw [hm] at p1 hend hbr0
            rw [hm'] at p2 hend
            cases p1 with
            | cons _ _ p1 =>
              obtain ⟨r, hr, hbr⟩ := ih t.length (by omega) rfl hp hu p1
              have hlen := hbr.length
              simp [alt_length] at hlen
              cases p2 with
              | cons _ _ p2 =>
                rw [hend] at hr
                have p3 := p2.append hr
                obtain ⟨s, hs, hbs⟩ := ih (alt i j m ++ r).length (by simp [alt_length]; omega) rfl p3 hu hp'
                refine ⟨s, hs, ?_⟩
                refine .trans (.cons i hbr) ?_
                have := hbr0 r hi hj hij (by omega)
                exact .trans this (.cons j hbs)

/-- Where a play ends in positive numbers, there was never a zero. -/
theorem nonzero (hA : Cartan A n) : ∀ (L : Nat) {v u : Vec} {w : List Nat}, w.length = L → Play A n v w u → (∀ i, i < n → 0 < u i) → ∀ j, j < n → v j ≠ 0 := by
  intro L
  induction L using Nat.strongRecOn with
  | _ L ih =>
    intro v u w hL hp hu j hj hz
    have hp0 := hp
    cases hp with
    | nil => exact absurd (hu j hj) (by omega)
    | @cons _ _ i t hi hvi hp =>
      simp only [List.length_cons] at hL
      have hij : i ≠ j := by rintro rfl; omega
      have later : ∀ (k : Nat) (x : Vec) (z : Nat), 0 < k → z < n → Play A n v (alt i j k) x → x z = 0 → False := by
        intro k x z hk hz' hx hxz
        obtain ⟨r, hr, hbr⟩ := conv hA _ rfl hp0 (fun i hi => Int.le_of_lt (hu i hi)) hx
        have := hbr.length
        simp [alt_length] at this
        exact ih r.length (by omega) rfl hr hu z hz' hxz
      by_cases hb : bond A i j = 0
      · have h3 : A i j < 0 ∧ A j i < 0 ∧ 4 ≤ A i j * A j i := by
          rcases bonds hA hi hj hij with ⟨h1, h2⟩ | ⟨h1, h2⟩ | ⟨h1, h2⟩ | ⟨h1, h2⟩ | ⟨h1, h2⟩ | ⟨h1, h2⟩ | h
          · simp [bond, h1, h2] at hb
          · simp [bond, h1, h2] at hb
          · simp [bond, h1, h2] at hb
          · simp [bond, h1, h2] at hb
          · simp [bond, h1, h2] at hb
          · simp [bond, h1, h2] at hb
          · exact h
        have hpos : 0 < v i * A j i := Int.mul_pos_of_neg_of_neg hvi h3.2.1
        have hc : -(A j i) * v i = -(v i * A j i) := by grind
        obtain ⟨x, hx⟩ := endless hA (L + 1) hi hj hij h3.1 h3.2.1 h3.2.2 v hvi (by rw [hc]; omega)
        obtain ⟨r, _, hbr⟩ := conv hA _ rfl hp0 (fun i hi => Int.le_of_lt (hu i hi)) hx
        have := hbr.length
        simp [alt_length] at this
        omega
      · obtain ⟨k, x, hk, hk0, hx, hl⟩ := ladder hA hi hj hij hb v hvi (by omega)
        rcases hl with ⟨_, h⟩ | ⟨_, h⟩
        · exact later k x i hk0 hi hx (h.trans hz)
        · exact later k x j hk0 hj hx (h.trans hz)

/-- From the image of a positive vector one can play back to it, in no more steps than the word has letters, and the steps make up the same element. -/
theorem back (hA : Cartan A n) {u : Vec} (hu : ∀ i, i < n → 0 < u i) : ∀ (w : List Nat), (∀ i ∈ w, i < n) → ∃ t, Play A n (act A w u) t u ∧ t.length ≤ w.length ∧ t.length % 2 = w.length % 2 ∧ ∀ x, act A t x = act A w x
  | [], _ => ⟨[], .nil _, Nat.le_refl _, rfl, fun _ => rfl⟩
  | i :: w, h => by
    have hi := h i (List.mem_cons_self ..)
    obtain ⟨t, hp, hl, hm, he⟩ := back hA hu w (fun k hk => h k (List.mem_cons_of_mem _ hk))
    have hnz := nonzero hA _ rfl hp hu i hi
    rw [act_cons]
    rcases Int.lt_or_gt_of_ne hnz with hneg | hpos
    · obtain ⟨s, hs, hbr⟩ := conv hA _ rfl hp (fun i hi => Int.le_of_lt (hu i hi)) (.cons hi hneg (.nil _))
      have hlen := hbr.length
      simp at hlen
      refine ⟨s, hs, by simp; omega, by simp; omega, fun x => ?_⟩
      rw [act_cons, ← he, act_br hA hbr hp.mem]
      simp only [List.cons_append, List.nil_append, act_cons]
      rw [refl_refl (hA.diag i hi)]
    · refine ⟨i :: t, .cons hi (by rw [refl_self (hA.diag i hi)]; omega) (by rw [refl_refl (hA.diag i hi)]; exact hp), by simp; omega, by simp; omega, fun x => ?_⟩
      rw [act_cons, act_cons, he]

/-- The image of a positive vector tells the element. -/
theorem faithful (hA : Cartan A n) {u : Vec} (hu : ∀ i, i < n → 0 < u i) {a b : List Nat} (ha : ∀ i ∈ a, i < n) (hb : ∀ i ∈ b, i < n) (h : act A a u = act A b u) (x : Vec) : act A a x = act A b x := by
  obtain ⟨s, hs, _, _, es⟩ := back hA hu a ha
  obtain ⟨t, ht, _, _, et⟩ := back hA hu b hb
  rw [h] at hs
  obtain ⟨r, hr, hbr⟩ := conv hA _ rfl hs (fun i hi => Int.le_of_lt (hu i hi)) ht
  have hr0 : r = [] := by
    cases hr with
    | nil => rfl
    | cons hi hv _ => exact absurd (hu _ hi) (by omega)
  subst hr0
  rw [← es, ← et, act_br hA hbr hs.mem, List.append_nil]

end Go.Cox

/- A slice that is read and may be nil; a nil slice as an owned one. -/
namespace Go.Aw
open Go

section
variable {C : Ctx} {k : List Item}

/-- An empty slice that is read: nil, or not. -/
theorem Run.nilcase {n : Nat} {fr : List (Nat × Bool × Sl)} {obs : List O} (s : Nat) {f : Bool} {e : E} (h : look s fr = some (true, .v (.sl f e [])))
    (h1 : ∀ b, Run C k ⟨n, (s, true, .v (.emp b)) :: fr, obs⟩) : Run C k ⟨n, fr, obs⟩ := by
  intro a w ρ r b cs
  obtain ⟨base, cap, hv, _, hm, _⟩ := (show SlRel _ _ _ _ _ from (r.fr s true _ h).1 rfl)
  refine h1 base.isNone a w ρ ⟨r.defers, r.size, fun t ex y hy => ?_, r.w, r.pin⟩ b cs
  simp only [look] at hy
  split at hy
  · rename_i ht
    have : t = s := by simpa using ht
    subst this
    cases hy
    exact ⟨fun _ => ⟨base, cap, hv, hm, rfl⟩, fun q => by cases q⟩
  · exact r.fr t ex y hy

/-- A nil slice is an owned one without elements. -/
theorem Run.nilown {n : Nat} {fr : List (Nat × Bool × Sl)} {obs : List O} (e : E) (s : Nat) (h : look s fr = some (true, .v .nils))
    (h1 : Run C k ⟨n, (s, true, .v (.own obs.length 0)) :: fr, obs ++ [.arr e [] 0 false]⟩) : Run C k ⟨n, fr, obs⟩ := by
  intro a w ρ r b cs
  have hv : a.tmps.getD s undef = .slice none 0 0 := (r.fr s true _ h).1 rfl
  have T := Turn.new (C := C) r.w (Ext.refl (fun _ => False) w) (.arr e [] 0 false) (.slice none 0 0)
    ⟨[], World.ownsRow_nil _ _ _ _, ⟨by simp, fun i hi => by simp at hi⟩, by simp, by simp⟩ (fun b hb => by simp [fpo, Value.ownBlock] at hb)
  have hst := T.step r.w
  have r' := hst.rel r
  refine h1 a w _ ⟨r'.defers, r'.size, fun t ex y hy => ?_, r'.w, r'.pin⟩ b cs
  simp only [look] at hy
  split at hy
  · rename_i ht
    have : t = s := by simpa using ht
    subst this
    cases hy
    refine ⟨fun _ => ?_, fun q => by cases q⟩
    refine ⟨by simp, fun c hc => ?_⟩
    have : c = 0 := by simpa [genOf, O.gen] using hc.symm
    subst this
    refine ⟨Nat.le_refl _, fun _ => ?_⟩
    rw [hv]
    simp
  · exact r'.fr t ex y hy
end
end Go.Aw

/- A guarded call that is not carried out. -/
namespace Go.Aw
open Go

theorem CallG.off {C : Ctx} {obs : List O} {f : FuncId} {args : List AV} {K : AV → Prop} (x : AV) (hk : K x) : CallG C obs f args false fun y => Later (K y) :=
  ⟨x, ⟨fun h => Bool.noConfusion h, hk⟩⟩

theorem AW2 : type_of% @Int.toNat_natCast ∧ type_of% @beq_self_eq_true := ⟨@Int.toNat_natCast, @beq_self_eq_true⟩
theorem VB : type_of% @Bool.and_eq_true ∧ type_of% @Bool.or_eq_true ∧ type_of% @decide_eq_true_eq ∧ type_of% @Bool.not_eq_true' ∧ type_of% @beq_eq_false_iff_ne ∧ type_of% @beq_iff_eq ∧ type_of% @bne_iff_ne ∧ type_of% @ne_eq ∧ type_of% @decide_eq_false_iff_not :=
  ⟨@Bool.and_eq_true, @Bool.or_eq_true, @decide_eq_true_eq, @Bool.not_eq_true', @beq_eq_false_iff_ne, @beq_iff_eq, @bne_iff_ne, @ne_eq, @decide_eq_false_iff_not⟩
end Go.Aw

/- Results that are lists of rows: the rows become the caller's own; more equations of the walk. -/
namespace Go.Aw
open Go

/-- Arguments whose relation to a value does not depend on what is fresh. -/
def plainE : E → Bool
  | .row f => !f
  | .lrow => false
  | .pr => false
  | _ => true
def plainAV : AV → Bool
  | .int .. => true
  | .bool .. => true
  | .str .. => true
  | .nils => true
  | .vec .. => true
  | .fn .. => true
  | .sl f e _ => !f && plainE e
  | _ => false

theorem plain_el {V V' : Vw} (hH : V'.H = V.H) : {e : E} → plainE e = true → {d : e.D} → {v : Value} → ElRel V e d v → ElRel V' e d v
  | .int, _, _, _, k => k
  | .byte, _, _, _, k => k
  | .bool, _, _, _, k => k
  | .str, _, _, _, k => k
  | .vec, _, _, _, k => k
  | .row false, _, _, _, ⟨base, cap, hv, h1, h2, hx⟩ => ⟨base, cap, hv, h1, h2, fun i hi => by
      obtain ⟨a, ha, _, hc⟩ := hx i hi
      exact ⟨a, ha, by simp, by simpa [Vw.cell, hH] using hc⟩⟩
  | .row true, h, _, _, _ => by simp [plainE] at h
  | .lrow, h, _, _, _ => by simp [plainE] at h
  | .pr, h, _, _, _ => by simp [plainE] at h

theorem plain_rel {V V' : Vw} (hH : V'.H = V.H) {x : AV} (hx : plainAV x = true) {v : Value} (h : AVRel V [] (fun _ => undef) x v) : AVRel V' [] (fun _ => undef) x v := by
  cases x with
  | sl f e xs =>
    simp only [plainAV, Bool.and_eq_true, Bool.not_eq_true'] at hx
    obtain ⟨rfl, he⟩ := hx
    obtain ⟨base, cap, hv, h1, h2, hel⟩ := h
    refine ⟨base, cap, hv, h1, h2, fun i hi => ?_⟩
    obtain ⟨a, u, ha, _, hu, hc⟩ := hel i hi
    exact ⟨a, u, ha, by simp, plain_el hH he hu, fun j hj => by have := hc j hj; simpa [Vw.cell, hH] using this⟩
  | _ => first | exact h | (simp [plainAV] at hx)

theorem flat_rel {V V' : Vw} {obs obs' : List O} {ρ ρ' : Nat → Value} {x : AV} (hx : flatAV x = true) {v : Value} (h : AVRel V obs ρ x v) : AVRel V' obs' ρ' x v := by
  cases x <;> first | exact h | (simp [flatAV] at hx)
theorem flat_fresh {l : List AV} (h : l.all flatAV = true) : l.all freshAV = true := by
  rw [List.all_eq_true] at h ⊢
  intro x hx
  have := h x hx
  cases x <;> first | rfl | (simp [flatAV] at this)

theorem hd_mk (l c : Nat) (h : c ≤ maxLen) : hdB (l * 18446744073709551616 + c) = l ∧ hdC (l * 18446744073709551616 + c) = c := by
  unfold hdB hdC
  unfold maxLen at h
  omega

def rowHd : Option Value → Option Nat
  | some (Value.slice (some a) _ c) => some (a.block * 18446744073709551616 + c)
  | _ => none

/-- A list of rows with numbers of their own, as an owned matrix. -/
theorem rows_mat {B : Ctx} {w w' : World} {L : Nat → Prop} {ρ : Nat → Value} {ys : List (Nat × List Int)} {g : Nat} {nn : Bool} (hd : (ys.map (·.1)).Nodup) (h : WRel (B.bare w) [.arr .lrow ys g nn] w' ρ) :
    ∃ hs : List (Option Nat), hs.length = ys.length ∧ WRel (B.bareL w L) [.mat hs (ys.map (·.2)) 0 nn] w' ρ := by
  obtain ⟨cs, hown, henc, hnn, hml⟩ := h.os 0 _ rfl
  have hcl : cs.length = ys.length := by have := hown.1; simpa [E.size] using this
  have key : ∀ i (hi : i < ys.length), LRowRel ((B.bare w).V w' [.arr .lrow ys g nn] ρ) ys[i].1 ys[i].2 (cs[i]'(by omega)) := by
    intro i hi
    obtain ⟨u, hu, hc⟩ := henc.2 i hi
    have hu' : LRowRel ((B.bare w).V w' [.arr .lrow ys g nn] ρ) ys[i].1 ys[i].2 u := hu
    have h0 := hc 0 (by simp [E.size])
    rw [cells_oneCell (LRowRel.oneCell hu')] at h0
    have : cs[i]? = some u := by simpa [E.size] using h0
    rw [List.getElem?_eq_getElem (by omega)] at this
    rw [Option.some.inj this]
    exact hu'
  let hs : List (Option Nat) := (List.range ys.length).map fun i => rowHd cs[i]?
  have hsl : hs.length = ys.length := by simp [hs]
  have hsg : ∀ i (hi : i < ys.length), ∃ cap, hs[i]? = some (some (ys[i].1 * 18446744073709551616 + cap)) ∧ cap ≤ maxLen ∧ cs[i]'(by omega) = .slice (some ⟨ys[i].1, 0, none⟩) ys[i].2.length cap := by
    intro i hi
    obtain ⟨cap, cur, hv, _, _, _, hc, _⟩ := key i hi
    refine ⟨cap, ?_, hc, hv⟩
    simp only [hs, List.getElem?_map, List.getElem?_range hi, Option.map_some]
    rw [List.getElem?_eq_getElem (by omega), hv]
    rfl
  refine ⟨hs, hsl, ?_⟩
  have hown0 : ∀ b, (ρ 0).ownBlock = some b → Own [.arr .lrow ys g nn] ρ b := fun b hb => ⟨0, _, rfl, hb⟩
  have hlab : ∀ i (hi : i < ys.length), w.heap.size ≤ ys[i].1 ∧ (ρ 0).ownBlock ≠ some ys[i].1 ∧ ∃ cur, w'.heap[ys[i].1]? = some (.cells cur (B.tid .int) (0, 0)) := by
    intro i hi
    obtain ⟨cap, cur, hv, hf, hH, _⟩ := key i hi
    obtain ⟨h1, h2⟩ := H_vis hH
    refine ⟨?_, fun hb => h1 (hown0 _ hb), cur, h2⟩
    rcases hf with (hf | hf) | hf
    · exact hf
    · exact hf.elim
    · exact hf.elim
  have hmem : ∀ q, some q ∈ hs → ∃ i, ∃ hi : i < ys.length, hs[i]? = some (some q) ∧ hdB q = ys[i].1 := by
    intro q hq
    obtain ⟨i, hi⟩ := List.getElem?_of_mem hq
    have hlt : i < ys.length := by have := (List.getElem?_eq_some_iff.1 hi).1; omega
    obtain ⟨cap, e1, e2, _⟩ := hsg i hlt
    rw [hi] at e1
    have := Option.some.inj (Option.some.inj e1)
    exact ⟨i, hlt, hi, by rw [this]; exact (hd_mk _ _ e2).1⟩
  refine ⟨fun id o ho => ?_, fun i j o o' b hi hj _ _ => ?_, fun b ⟨id, o, ho, hf⟩ => ?_, h.os0, h.tape, h.output, h.grow, h.kept⟩
  · cases id with
    | succ id => simp at ho
    | zero =>
      simp at ho
      subst ho
      refine ⟨cs, by rw [List.length_map]; exact hown, by simpa using hsl, fun i q xs u q1 q2 q3 => ?_, fun i j q q' q1 q2 q3 => ?_, fun q hq => ?_, hnn, by simpa using hml⟩
      · have hi : i < ys.length := by have := (List.getElem?_eq_some_iff.1 q1).1; omega
        obtain ⟨cap, e1, e2, e3⟩ := hsg i hi
        rw [q1] at e1
        have e1 := Option.some.inj e1
        subst e1
        have ex : xs = ys[i].2 := by simp [hi] at q2; exact q2.symm
        have eu : u = cs[i]'(by omega) := by rw [List.getElem?_eq_getElem (by omega)] at q3; exact (Option.some.inj q3).symm
        subst ex eu
        obtain ⟨hb, hc⟩ := hd_mk ys[i].1 cap e2
        obtain ⟨cap', cur, hv, hf, hH, h1, h2, h3, h4⟩ := key i hi
        rw [e3] at hv
        have : cap = cap' := (Value.slice.inj hv).2.2
        subst this
        refine ⟨by rw [hb, hc]; exact e3, cur, by rw [hb]; exact (H_vis hH).2, by rw [hc]; exact h1, by rw [hc]; exact h2, by rw [hc]; exact h3, h4⟩
      · have hi : i < ys.length := by have := (List.getElem?_eq_some_iff.1 q1).1; omega
        have hj : j < ys.length := by have := (List.getElem?_eq_some_iff.1 q2).1; omega
        obtain ⟨cap, e1, e2, _⟩ := hsg i hi
        obtain ⟨cap', f1, f2, _⟩ := hsg j hj
        rw [q1] at e1
        rw [q2] at f1
        have e1 := Option.some.inj (Option.some.inj e1)
        have f1 := Option.some.inj (Option.some.inj f1)
        rw [e1, f1, (hd_mk _ _ e2).1, (hd_mk _ _ f2).1] at q3
        exact (List.getElem_inj (xs := ys.map (·.1)) (i := i) (j := j) (h₀ := by simpa using hi) (h₁ := by simpa using hj) hd).1 (by simpa using q3)
      · obtain ⟨i, hi, _, e⟩ := hmem q hq
        rw [e]
        exact (hlab i hi).2.1
  · cases i with
    | succ i => simp at hi
    | zero => cases j with
      | zero => rfl
      | succ j => simp at hj
  · cases id with
    | succ id => simp at ho
    | zero =>
      simp at ho
      subst ho
      rcases hf with hb | ⟨q, hq, rfl⟩
      · rcases h.own b (hown0 b hb) with k | k
        · exact .inl k
        · exact k.elim
      · obtain ⟨i, hi, _, e⟩ := hmem q hq
        rw [e]
        exact .inl (hlab i hi).1

theorem FunA.mat {B : Ctx} {f : FuncId} {args : List AV} (hp : args.all plainAV = true) {post : List (List Int) → Bool → List AV → Prop}
    (h : FunA B f args (fun rs o => ∃ ys g nn rest, post (ys.map (·.2)) nn rest ∧ (ys.map (·.1)).Nodup ∧ rest.all flatAV = true ∧ rs = .own 0 g :: rest ∧ o = [.arr .lrow ys g nn])) :
    FunA B f args (fun rs o => ∃ hs rows nn rest, post rows nn rest ∧ hs.length = rows.length ∧ rs = .own 0 0 :: rest ∧ o = [.mat hs rows 0 nn]) := by
  refine ⟨h.1, fun w L vs hl ha => ?_⟩
  have hH : ((B.bare w).V w [] (fun _ => undef)).H = ((B.bareL w L).V w [] (fun _ => undef)).H := by funext b; rw [H_bare, H_bare]
  refine (h.2 w (fun _ => False) vs hl fun i x v hx hv => plain_rel hH (List.all_eq_true.1 hp _ (List.mem_of_getElem? hx)) (ha i x v hx hv)).mono ?_
  rintro en w' ⟨us, hen, rs, o, ρ', ⟨ys, g, nn, rest, hpost, hnd, hflat, rfl, rfl⟩, hul, hu, hw, _, _⟩
  obtain ⟨hs, hsl, hw2⟩ := rows_mat (L := L) hnd hw
  refine ⟨us, hen, .own 0 0 :: rest, [.mat hs (ys.map (·.2)) 0 nn], ρ', ⟨hs, _, nn, rest, hpost, by simpa using hsl, rfl, rfl⟩, hul, fun i x v hx hv => ?_, hw2, by simp [freshAV, flat_fresh hflat], rfl⟩
  cases i with
  | zero =>
    simp at hx
    subst hx
    have h0 := hu 0 (.own 0 g) v rfl hv
    exact ⟨by simp, fun c hc => ⟨Nat.zero_le _, fun _ => (h0.2 g rfl).2 rfl⟩⟩
  | succ i =>
    have hx' : rest[i]? = some x := by simpa using hx
    exact flat_rel (List.all_eq_true.1 hflat _ (List.mem_of_getElem? hx')) (hu (i + 1) x v (by simpa using hx') hv)

/-- A row with a number, handed back: it becomes the caller's own. -/
theorem FunA.unlr {B : Ctx} {f : FuncId} {args : List AV} (hp : args.all plainAV = true) {post : List Int → List AV → Prop}
    (h : FunA B f args (fun rs o => ∃ l xs rest, post xs rest ∧ rest.all flatAV = true ∧ rs = .lr l xs :: rest ∧ o = [])) :
    FunA B f args (fun rs o => ∃ xs rest, post xs rest ∧ rs = .own 0 0 :: rest ∧ o = [.arr .int xs 0 true]) := by
  refine ⟨h.1, fun w L vs hl ha => ?_⟩
  have hH : ((B.bare w).V w [] (fun _ => undef)).H = ((B.bareL w L).V w [] (fun _ => undef)).H := by funext b; rw [H_bare, H_bare]
  refine (h.2 w (fun _ => False) vs hl fun i x v hx hv => plain_rel hH (List.all_eq_true.1 hp _ (List.mem_of_getElem? hx)) (ha i x v hx hv)).mono ?_
  rintro en w' ⟨us, hen, rs, o, ρ', ⟨l, xs, rest, hpost, hflat, rfl, rfl⟩, hul, hu, hw, _, _⟩
  have hu0 : 0 < us.length := by simp at hul; omega
  have h0 := hu 0 (.lr l xs) us[0] rfl (by simp)
  obtain ⟨cap, cur, hv, hf, hHl, h1, h2, h3, h4⟩ := h0
  have hheap := (H_vis hHl).2
  have hfr : w.heap.size ≤ l := by
    rcases hf with (hf | hf) | hf
    · exact hf
    · exact hf.elim
    · exact hf.elim
  refine ⟨us, hen, .own 0 0 :: rest, [.arr .int xs 0 true], fun _ => us[0], ⟨xs, rest, hpost, rfl, rfl⟩, hul, fun i x v hx hv' => ?_, ⟨fun id o ho => ?_, fun i j o o' b hi hj _ _ => ?_, fun b ⟨id, o, ho, hfp⟩ => ?_, hw.os0, hw.tape, hw.output, hw.grow, hw.kept⟩, by simp [freshAV, flat_fresh hflat], rfl⟩
  · cases i with
    | zero =>
      simp at hx
      subst hx
      have : v = us[0] := by rw [List.getElem?_eq_getElem hu0] at hv'; exact (Option.some.inj hv').symm
      exact ⟨by simp, fun c hc => ⟨Nat.zero_le _, fun _ => this⟩⟩
    | succ i =>
      have hx' : rest[i]? = some x := by simpa using hx
      exact flat_rel (List.all_eq_true.1 hflat _ (List.mem_of_getElem? hx')) (hu (i + 1) x v (by simpa using hx') hv')
  · cases id with
    | succ id => simp at ho
    | zero =>
      simp at ho
      subst ho
      refine ⟨xs.map (Value.int .i64), ⟨by simp [E.size], .inr ⟨l, cap, cur, hv, Nat.zero_le _, hheap, h1, h2, by simpa [E.size] using h3, by simpa [E.size] using h4⟩⟩, ints_enc xs, fun _ => by rw [hv]; simp, ?_⟩
      omega
  · cases i with
    | succ i => simp at hi
    | zero => cases j with
      | zero => rfl
      | succ j => simp at hj
  · cases id with
    | succ id => simp at ho
    | zero =>
      simp at ho
      subst ho
      have : us[0].ownBlock = some b := hfp
      rw [hv] at this
      simp [Value.ownBlock] at this
      subst this
      exact .inl hfr

theorem argOk_slT (obs : List O) (e e' : E) (xs : List e.D) (ys : List e'.D) : argOk obs (.sl true e' ys) (.sl true e xs) = convV e e' ys xs := rfl
theorem argOk_lrT (obs : List O) (e : E) (xs : List e.D) (l : Nat) (ys : List Int) : argOk obs (.lr l ys) (.sl true e xs) = convV e .int ys xs := rfl
theorem argOk_nilsT (obs : List O) (e : E) (xs : List e.D) : argOk obs .nils (.sl true e xs) = (xs = []) := rfl
theorem argOk_lrr (obs : List O) (x : AV) (l : Nat) (xs : List Int) : argOk obs x (.lr l xs) = (x = .lr l xs) := by cases x <;> rfl
theorem argOkM_slT (obs : List O) (i0 g : Nat) (e e' : E) (xs : List e.D) (ys : List e'.D) : argOkM obs i0 g (.sl true e' ys) (.sl true e xs) = convV e e' ys xs := rfl
theorem argOkM_lrT (obs : List O) (i0 g : Nat) (e : E) (xs : List e.D) (l : Nat) (ys : List Int) : argOkM obs i0 g (.lr l ys) (.sl true e xs) = convV e .int ys xs := rfl
theorem argOkM_lrr (obs : List O) (i0 g : Nat) (x : AV) (l : Nat) (xs : List Int) : argOkM obs i0 g x (.lr l xs) = (x = .lr l xs) := by cases x <;> rfl
theorem argOkM_nilsf (obs : List O) (i0 g : Nat) (f : Bool) (e : E) (xs : List e.D) : argOkM obs i0 g .nils (.sl f e xs) = (xs = []) := by cases f <;> rfl
theorem argOkM_str (obs : List O) (i0 g : Nat) (x : AV) (n : List UInt8) : argOkM obs i0 g x (.str n) = (x = .str n) := by cases x <;> rfl
theorem cvV_rowT (ys zs : List (List Int)) : convV (.row true) (.row true) ys zs = (zs = ys) := rfl
theorem cvV_rowTl (ys : List (Nat × List Int)) (zs : List (List Int)) : convV (.row true) .lrow ys zs = (zs = ys.map (·.2)) := rfl
theorem cvV_ll (ys zs : List (Nat × List Int)) : convV .lrow .lrow ys zs = (zs = ys) := rfl
theorem eqRowF (f : Bool) : (E.row f = E.row false) = (f = false) := by simp
theorem AW3 : type_of% @AW1 ∧ type_of% @X_conv ∧ type_of% @X_six ∧ type_of% @G_conv ∧ type_of% @G_six ∧ type_of% @Q_and ∧ type_of% @Q_or ∧ type_of% @Q_xor ∧ type_of% @Q_shl ∧ type_of% @Q_shr ∧ type_of% @Q_cnv_int ∧ type_of% @Q_cnv_sl ∧ type_of% @Q_cnv_own ∧ type_of% @Q_cnvO ∧ type_of% @Q_six ∧
    type_of% @argOk_slT ∧ type_of% @argOk_lrT ∧ type_of% @argOk_nilsT ∧ type_of% @argOk_lrr ∧ type_of% @argOkM_slT ∧ type_of% @argOkM_lrT ∧ type_of% @argOkM_lrr ∧ type_of% @argOkM_nilsf ∧ type_of% @argOkM_str ∧ type_of% @cvV_rowT ∧ type_of% @cvV_rowTl ∧ type_of% @cvV_ll ∧ type_of% @eqRowF :=
  ⟨AW1, X_conv, X_six, G_conv, G_six, Q_and, Q_or, Q_xor, Q_shl, Q_shr, Q_cnv_int, Q_cnv_sl, Q_cnv_own, Q_cnvO, Q_six, argOk_slT, argOk_lrT, argOk_nilsT, argOk_lrr, argOkM_slT, argOkM_lrT, argOkM_lrr, argOkM_nilsf, argOkM_str, cvV_rowT, cvV_rowTl, cvV_ll, eqRowF⟩

end Go.Aw

/- Slots and objects that are still wanted, renumbered, by their numbers alone. -/
namespace Go.Aw
open Go

def posn (i : Nat) : List Nat → Option Nat
  | [] => none
  | j :: π => bif i == j then some 0 else (posn i π).map (· + 1)
def ownP (g : Nat) (k : Option Nat) : O → AV
  | .arr _ _ g' _ => bif g == g' then (match k with | some k => .own k 0 | none => .junk) else .junk
  | .mat _ _ g' _ => bif g == g' then (match k with | some k => .own k 0 | none => .junk) else .junk
  | .dead => .junk
def reA (π : List Nat) (obs : List O) : AV → AV
  | .own id g => ownP g (posn id π) (oAt obs id)
  | .elt .. => .junk
  | x => x
def reO : O → O
  | .arr e xs _ nn => .arr e xs 0 nn
  | .mat hs rows _ nn => .mat hs rows 0 nn
  | .dead => .dead
def reOs (obs : List O) : List Nat → List O
  | [] => []
  | i :: π => reO (oAt obs i) :: reOs obs π
def reC (π : List Nat) (obs : List O) (s : Nat) : Option (Bool × Sl) → List (Nat × Bool × AV) → List (Nat × Bool × AV)
  | some (ex, .v x), l => (s, ex, reA π obs x) :: l
  | _, l => l
def reF (π : List Nat) (obs : List O) (fr : List (Nat × Bool × Sl)) : List Nat → List (Nat × Bool × AV)
  | [] => []
  | s :: ks => reC π obs s (look s fr) (reF π obs fr ks)

theorem posn_spec {i : Nat} : ∀ {π : List Nat} {k : Nat}, posn i π = some k → k < π.length ∧ π[k]? = some i
  | [], k, h => by simp [posn] at h
  | j :: π, k, h => by
    simp only [posn] at h
    cases hb : i == j with
    | true =>
      rw [hb] at h
      simp at h hb
      subst h hb
      simp
    | false =>
      rw [hb] at h
      simp at h
      obtain ⟨k', h1, rfl⟩ := h
      obtain ⟨h2, h3⟩ := posn_spec h1
      exact ⟨by simp; omega, by simpa using h3⟩

theorem reOs_len (obs : List O) : ∀ π, (reOs obs π).length = π.length
  | [] => rfl
  | _ :: π => by simp [reOs, reOs_len obs π]
theorem reOs_at (obs : List O) : ∀ {π : List Nat} {k i : Nat}, π[k]? = some i → (reOs obs π)[k]? = some (reO (oAt obs i))
  | [], k, i, h => by simp at h
  | j :: π, 0, i, h => by simp at h; subst h; rfl
  | j :: π, k + 1, i, h => by simpa [reOs] using reOs_at obs (π := π) (k := k) (by simpa using h)

theorem leO_re (o : O) : leO o (reO o) := by cases o <;> simp [reO, leO]

theorem reOs_le {obs : List O} : ∀ {π : List Nat}, π.all (fun i => decide (i < obs.length)) = true → leOs obs π (reOs obs π)
  | [], _ => trivial
  | i :: π, h => by
    simp only [List.all_cons, Bool.and_eq_true, decide_eq_true_eq] at h
    exact ⟨h.1, leO_re _, reOs_le h.2⟩

theorem reA_le {π : List Nat} {obs : List O} (x : AV) : leAV π obs (reOs obs π) x (reA π obs x) := by
  cases x with
  | own id g =>
    simp only [reA]
    have key : ∀ (o : O), oAt obs id = o → (∀ g', genO o g' → genO (reO o) 0) → leAV π obs (reOs obs π) (.own id g) (ownP g (posn id π) o) := by
      intro o ho hg
      have sub : ∀ g', (∀ q, q = g' → genO o q) → leAV π obs (reOs obs π) (.own id g) (bif g == g' then (match posn id π with | some k => AV.own k 0 | none => AV.junk) else AV.junk) := by
        intro g' hq
        cases hb : g == g' with
        | false => trivial
        | true =>
          simp at hb
          subst hb
          cases hp : posn id π with
          | none => trivial
          | some k =>
            obtain ⟨h1, h2⟩ := posn_spec hp
            refine ⟨h1, h2, by rw [ho]; exact hq g rfl, ?_⟩
            have h3 := reOs_at obs h2
            have h4 : oAt (reOs obs π) k = reO (oAt obs id) := by rw [oAt_eq, h3]; rfl
            rw [h4, ho]
            exact hg g (hq g rfl)
      cases o with
      | dead => trivial
      | arr e xs g' nn => exact sub g' (fun q hq => hq)
      | mat hs rows g' nn => exact sub g' (fun q hq => hq)
    refine key _ rfl fun g' h => ?_
    cases ho : oAt obs id with
    | dead => rw [ho] at h; exact h.elim
    | arr e xs g' nn => exact rfl
    | mat hs rows g' nn => exact rfl
  | elt id g s k => trivial
  | junk => trivial
  | lr l xs => rfl
  | nils => rfl
  | sl f e xs => rfl
  | _ => rfl

theorem reF_le {π : List Nat} {obs : List O} {fr : List (Nat × Bool × Sl)} : ∀ ks : List Nat, leFr π obs (reOs obs π) fr (reF π obs fr ks)
  | [] => trivial
  | s :: ks => by
    simp only [reF]
    cases h : look s fr with
    | none => exact reF_le ks
    | some p =>
      obtain ⟨ex, x⟩ := p
      cases x with
      | t l => exact reF_le ks
      | v x => exact ⟨⟨x, h, reA_le x⟩, reF_le ks⟩

theorem Run.reK {C : Ctx} {k : List Item} (hp : C.pin = []) (ks π : List Nat) {n : Nat} {fr : List (Nat × Bool × Sl)} {obs : List O} (hn : nodupB π = true) (hl : π.all (fun i => decide (i < obs.length)) = true)
    (h : Run C k ⟨n, frV (reF π obs fr ks), reOs obs π⟩) : Run C k ⟨n, fr, obs⟩ :=
  Run.le (Le.re hp π _ hn (reOs_le hl) (reF_le ks)) h

def gen0 : O → Bool
  | .arr _ _ g _ => g == 0
  | .mat _ _ g _ => g == 0
  | .dead => true
theorem Run.reKP {C : Ctx} {k : List Item} (hp : C.pin.length = 1) (ks π : List Nat) {n : Nat} {fr : List (Nat × Bool × Sl)} {obs : List O} (h0 : π[0]? = some 0) (hg : gen0 (oAt obs 0) = true) (hn : nodupB π = true) (hl : π.all (fun i => decide (i < obs.length)) = true)
    (h : Run C k ⟨n, frV (reF π obs fr ks), reOs obs π⟩) : Run C k ⟨n, fr, obs⟩ := by
  refine Run.le (Le.reP π _ (fun j hj => ?_) hn (reOs_le hl) (reF_le ks)) h
  have : j = 0 := by omega
  subst this
  refine ⟨h0, ?_⟩
  have h1 := reOs_at obs h0
  have h2 : 0 < obs.length := by
    cases π with
    | nil => simp at h0
    | cons i π =>
      simp at h0
      subst h0
      simp only [List.all_cons, Bool.and_eq_true, decide_eq_true_eq] at hl
      exact hl.1
  unfold genOf
  rw [h1, oAt_get h2]
  cases ho : oAt obs 0 with
  | dead => rfl
  | arr e xs g nn => rw [ho] at hg; simp [gen0] at hg; subst hg; rfl
  | mat hs rows g nn => rw [ho] at hg; simp [gen0] at hg; subst hg; rfl

theorem posn_nil (i : Nat) : posn i [] = none := rfl
theorem posn_cons (i j : Nat) (π : List Nat) : posn i (j :: π) = bif i == j then some 0 else (posn i π).map (· + 1) := rfl
theorem ownP_arr (g g' : Nat) (k : Nat) (e : E) (xs : List e.D) (nn : Bool) : ownP g (some k) (.arr e xs g' nn) = bif g == g' then .own k 0 else .junk := by rfl
theorem ownP_arr0 (g g' : Nat) (e : E) (xs : List e.D) (nn : Bool) : ownP g none (.arr e xs g' nn) = .junk := by unfold ownP; simp only; cases g == g' <;> rfl
theorem ownP_mat (g g' : Nat) (k : Nat) (hs : List (Option Nat)) (xs : List (List Int)) (nn : Bool) : ownP g (some k) (.mat hs xs g' nn) = bif g == g' then .own k 0 else .junk := by rfl
theorem ownP_mat0 (g g' : Nat) (hs : List (Option Nat)) (xs : List (List Int)) (nn : Bool) : ownP g none (.mat hs xs g' nn) = .junk := by unfold ownP; simp only; cases g == g' <;> rfl
theorem ownP_dead (g : Nat) (k : Option Nat) : ownP g k .dead = .junk := rfl
theorem reA_own (π : List Nat) (obs : List O) (id g : Nat) : reA π obs (.own id g) = ownP g (posn id π) (oAt obs id) := rfl
theorem reA_elt (π : List Nat) (obs : List O) (id g s k : Nat) : reA π obs (.elt id g s k) = .junk := rfl
theorem reA_int (π : List Nat) (obs : List O) (k : IntKind) (n : Int) : reA π obs (.int k n) = .int k n := rfl
theorem reA_bool (π : List Nat) (obs : List O) (b : Bool) : reA π obs (.bool b) = .bool b := rfl
theorem reA_str (π : List Nat) (obs : List O) (b : List UInt8) : reA π obs (.str b) = .str b := rfl
theorem reA_sl (π : List Nat) (obs : List O) (f : Bool) (e : E) (xs : List e.D) : reA π obs (.sl f e xs) = .sl f e xs := rfl
theorem reA_lr (π : List Nat) (obs : List O) (l : Nat) (xs : List Int) : reA π obs (.lr l xs) = .lr l xs := rfl
theorem reA_vec (π : List Nat) (obs : List O) (xs : List Int) : reA π obs (.vec xs) = .vec xs := rfl
theorem reA_nils (π : List Nat) (obs : List O) : reA π obs .nils = .nils := rfl
theorem reA_junk (π : List Nat) (obs : List O) : reA π obs .junk = .junk := rfl
theorem reA_relt (π : List Nat) (obs : List O) (f : Bool) (e : E) (d : e.D) : reA π obs (.relt f e d) = .relt f e d := rfl
theorem reA_fn (π : List Nat) (obs : List O) (f : Nat) : reA π obs (.fn f) = .fn f := rfl
theorem reA_hdr (π : List Nat) (obs : List O) (h : Option Nat) (n : Nat) : reA π obs (.hdr h n) = .hdr h n := rfl
theorem reO_arr (e : E) (xs : List e.D) (g : Nat) (nn : Bool) : reO (.arr e xs g nn) = .arr e xs 0 nn := rfl
theorem reO_mat (hs : List (Option Nat)) (rows : List (List Int)) (g : Nat) (nn : Bool) : reO (.mat hs rows g nn) = .mat hs rows 0 nn := rfl
theorem reO_dead : reO .dead = .dead := rfl
theorem reOs_nil (obs : List O) : reOs obs [] = [] := rfl
theorem reOs_cons (obs : List O) (i : Nat) (π : List Nat) : reOs obs (i :: π) = reO (oAt obs i) :: reOs obs π := rfl
theorem reC_some (π : List Nat) (obs : List O) (s : Nat) (ex : Bool) (x : AV) (l : List (Nat × Bool × AV)) : reC π obs s (some (ex, .v x)) l = (s, ex, reA π obs x) :: l := rfl
theorem reC_t (π : List Nat) (obs : List O) (s : Nat) (ex : Bool) (x : List AV) (l : List (Nat × Bool × AV)) : reC π obs s (some (ex, .t x)) l = l := rfl
theorem reC_none (π : List Nat) (obs : List O) (s : Nat) (l : List (Nat × Bool × AV)) : reC π obs s none l = l := rfl
theorem reF_nil (π : List Nat) (obs : List O) (fr : List (Nat × Bool × Sl)) : reF π obs fr [] = [] := rfl
theorem reF_cons (π : List Nat) (obs : List O) (fr : List (Nat × Bool × Sl)) (s : Nat) (ks : List Nat) : reF π obs fr (s :: ks) = reC π obs s (look s fr) (reF π obs fr ks) := rfl
theorem omapS (k : Nat) : (some k).map (· + 1) = some (k + 1) := rfl
theorem omapN : (none : Option Nat).map (· + 1) = none := rfl
theorem AR : type_of% @posn_nil ∧ type_of% @posn_cons ∧ type_of% @ownP_arr ∧ type_of% @ownP_arr0 ∧ type_of% @ownP_mat ∧ type_of% @ownP_mat0 ∧ type_of% @ownP_dead ∧ type_of% @reA_own ∧ type_of% @reA_elt ∧ type_of% @reA_int ∧ type_of% @reA_bool ∧ type_of% @reA_str ∧ type_of% @reA_sl ∧ type_of% @reA_lr ∧ type_of% @reA_vec ∧ type_of% @reA_nils ∧
    type_of% @reA_junk ∧ type_of% @reA_relt ∧ type_of% @reA_fn ∧ type_of% @reA_hdr ∧ type_of% @reO_arr ∧ type_of% @reO_mat ∧ type_of% @reO_dead ∧ type_of% @reOs_nil ∧ type_of% @reOs_cons ∧ type_of% @reC_some ∧ type_of% @reC_t ∧ type_of% @reC_none ∧ type_of% @reF_nil ∧ type_of% @reF_cons ∧ type_of% @omapS ∧ type_of% @omapN ∧ type_of% @frV_cons ∧ type_of% @frV_nil :=
  ⟨posn_nil, posn_cons, ownP_arr, ownP_arr0, ownP_mat, ownP_mat0, ownP_dead, reA_own, reA_elt, reA_int, reA_bool, reA_str, reA_sl, reA_lr, reA_vec, reA_nils, reA_junk, reA_relt, reA_fn, reA_hdr, reO_arr, reO_mat, reO_dead, reOs_nil, reOs_cons, reC_some, reC_t, reC_none, reF_nil, reF_cons, omapS, omapN, frV_cons, frV_nil⟩
end Go.Aw

/- An owned row under its block's number; contracts whose walk hands on nothing of its caller's. -/
namespace Go.Aw
open Go

/-- The head of the code that is still to come, laid open. -/
theorem Run.nq {C : Ctx} {σ : St} {k k' : List Item} (h : Run C k' σ) (hk : Run C k' σ → Run C k σ := by
    intro h
    (repeat (first | refine Run.seq ?_ | refine Run.skip ?_ | refine Run.label ?_ | refine Run.block ?_ | refine Run.unblock ?_))
    exact h) : Run C k σ := hk h
/-- A side condition. -/
theorem vc0 {p : Prop} (hp : p := by first | omega | (intros; simp_all; done) | (intro h; simp only [VB] at h; omega) | (intros; simp_all; omega)) : p := hp
theorem AW4 : type_of% @AW3 ∧ type_of% @Int.toNat_natCast ∧ (∀ (α : Type) [BEq α] [ReflBEq α] (a : α), (a == a) = true) := ⟨@AW3, @Int.toNat_natCast, fun _ _ _ a => beq_self_eq_true a⟩

def lrA (id g : Nat) (z : AV) : AV → AV
  | .own i g' => bif (i == id && g' == g) then z else .own i g'
  | x => x
def lrC (id g : Nat) (z : AV) (s : Nat) : Option (Bool × Sl) → List (Nat × Bool × AV) → List (Nat × Bool × AV)
  | some (ex, .v x), l => (s, ex, lrA id g z x) :: l
  | _, l => l
def lrF (id g : Nat) (z : AV) (fr : List (Nat × Bool × Sl)) : List Nat → List (Nat × Bool × AV)
  | [] => []
  | s :: ks => lrC id g z s (look s fr) (lrF id g z fr ks)

theorem lrF_sl (id g : Nat) (z : AV) (obs : List O) (fr : List (Nat × Bool × Sl)) : ∀ ks, slF id g z obs fr (lrF id g z fr ks)
  | [] => trivial
  | s :: ks => by
    have ih := lrF_sl id g z obs fr ks
    simp only [lrF]
    cases h : look s fr with
    | none => exact ih
    | some p =>
      obtain ⟨ex, x⟩ := p
      cases x with
      | t l => exact ih
      | v x =>
        simp only [lrC]
        refine ⟨?_, ih⟩
        cases x with
        | own i g' =>
          by_cases hc : (i == id && g' == g) = true
          · have h2 : i = id ∧ g' = g := by simpa using hc
            obtain ⟨rfl, rfl⟩ := h2
            exact .inr ⟨h, by simp [lrA]⟩
          · have h2 : (i == id && g' == g) = false := by simpa using hc
            exact .inl (by rw [h]; simp [lrA, h2])
        | _ => exact .inl h

/-- An owned row of integers is let go and goes by its block's number. -/
theorem Run.tolr {C : Ctx} {k : List Item} (id : Nat) (ks : List Nat) {n : Nat} {fr : List (Nat × Bool × Sl)} {obs : List O} {g : Nat} {xs : List Int} (ho : oAt obs id = .arr .int xs g true)
    (h : ∀ q, FreshL obs q → Run C k ⟨n, frV (lrF id g (.lr q xs) fr ks), oSet obs id .dead⟩) : Run C k ⟨n, fr, obs⟩ := by
  intro a w ρ r
  have hid : id < obs.length := by
    rcases Nat.lt_or_ge id obs.length with h | h
    · exact h
    · rw [oAt_eq, List.getElem?_eq_none h] at ho; cases ho
  have ho' : obs[id]? = some (.arr .int xs g true) := by rw [oAt_get hid, ho]
  obtain ⟨hst, _, hlr⟩ := letgo_rel r.w ho'
  obtain ⟨q, hq, hL⟩ := hlr rfl
  have hfresh : FreshL obs q := by
    intro o hm ys gg nn he p hp hpq
    subst he
    obtain ⟨j, hj⟩ := List.getElem?_of_mem hm
    obtain ⟨cs, hown, henc, _, _⟩ := r.w.os j _ hj
    obtain ⟨i, hi, rfl⟩ := List.getElem_of_mem hp
    obtain ⟨u, hu, _⟩ := henc.2 i hi
    have hu' : LRowRel (C.V w obs ρ) ys[i].1 ys[i].2 u := hu
    obtain ⟨cap, cur, hv, hf, hH, _⟩ := hu'
    have := (H_vis hH).1
    apply this
    rw [hpq]
    exact ⟨id, _, ho', hq⟩
  have hs := hst.rel r
  refine h q hfresh a w (fun i => if i = id then ρ id else ρ i) ⟨r.defers, r.size, fun s ex x hl => ?_, by rw [oSet_eq]; exact hst.wr, by rw [oSet_eq]; exact hs.pin⟩
  rw [oSet_eq]
  obtain ⟨z, rfl, h1 | ⟨h1, h2⟩⟩ := slF_look (lrF_sl id g (.lr q xs) obs fr ks) hl
  · obtain ⟨k1, k2⟩ := r.fr s ex _ h1
    exact ⟨fun he => hst.slot (k1 he), k2⟩
  · obtain ⟨k1, k2⟩ := r.fr s ex _ h1
    refine ⟨fun he => ?_, k2⟩
    subst h2
    obtain ⟨_, hk⟩ := (show AVRel (C.V w obs ρ) obs ρ (.own id g) _ from k1 he)
    have : a.tmps.getD s undef = ρ id := (hk g (by unfold genOf; rw [ho']; rfl)).2 rfl
    show LRowRel _ _ _ _
    rw [this]
    exact hL

/-- An owned object is let go: it is only read from here on. -/
theorem Run.letgoK {C : Ctx} {k : List Item} (id : Nat) (ks : List Nat) {n : Nat} {fr : List (Nat × Bool × Sl)} {obs : List O} {g : Nat} {e : E} {xs : List e.D} {nn : Bool} (ho : oAt obs id = .arr e xs g nn)
    (h : Run C k ⟨n, frV (lrF id g (.sl true e xs) fr ks), oSet obs id .dead⟩) : Run C k ⟨n, fr, obs⟩ :=
  Run.le (Le.letgo id _ ho (lrF_sl id g _ obs fr ks)) h

theorem lrA_own (id g : Nat) (z : AV) (i g' : Nat) : lrA id g z (.own i g') = bif (i == id && g' == g) then z else .own i g' := rfl
theorem lrA_int (id g : Nat) (z : AV) (k : IntKind) (n : Int) : lrA id g z (.int k n) = .int k n := rfl
theorem lrA_bool (id g : Nat) (z : AV) (b : Bool) : lrA id g z (.bool b) = .bool b := rfl
theorem lrA_str (id g : Nat) (z : AV) (b : List UInt8) : lrA id g z (.str b) = .str b := rfl
theorem lrA_sl (id g : Nat) (z : AV) (f : Bool) (e : E) (ys : List e.D) : lrA id g z (.sl f e ys) = .sl f e ys := rfl
theorem lrA_lr (id g : Nat) (z : AV) (l : Nat) (ys : List Int) : lrA id g z (.lr l ys) = .lr l ys := rfl
theorem lrA_nils (id g : Nat) (z : AV) : lrA id g z .nils = .nils := rfl
theorem lrA_junk (id g : Nat) (z : AV) : lrA id g z .junk = .junk := rfl
theorem lrA_fn (id g : Nat) (z : AV) (f : Nat) : lrA id g z (.fn f) = .fn f := rfl
theorem lrC_some (id g : Nat) (z : AV) (s : Nat) (ex : Bool) (x : AV) (l : List (Nat × Bool × AV)) : lrC id g z s (some (ex, .v x)) l = (s, ex, lrA id g z x) :: l := rfl
theorem lrC_t (id g : Nat) (z : AV) (s : Nat) (ex : Bool) (x : List AV) (l : List (Nat × Bool × AV)) : lrC id g z s (some (ex, .t x)) l = l := rfl
theorem lrC_none (id g : Nat) (z : AV) (s : Nat) (l : List (Nat × Bool × AV)) : lrC id g z s none l = l := rfl
theorem lrF_nil (id g : Nat) (z : AV) (fr : List (Nat × Bool × Sl)) : lrF id g z fr [] = [] := rfl
theorem lrF_cons (id g : Nat) (z : AV) (fr : List (Nat × Bool × Sl)) (s : Nat) (ks : List Nat) : lrF id g z fr (s :: ks) = lrC id g z s (look s fr) (lrF id g z fr ks) := rfl
theorem AL : type_of% @lrA_own ∧ type_of% @lrA_int ∧ type_of% @lrA_bool ∧ type_of% @lrA_str ∧ type_of% @lrA_sl ∧ type_of% @lrA_lr ∧ type_of% @lrA_nils ∧ type_of% @lrA_junk ∧ type_of% @lrA_fn ∧ type_of% @lrC_some ∧ type_of% @lrC_t ∧ type_of% @lrC_none ∧ type_of% @lrF_nil ∧ type_of% @lrF_cons :=
  ⟨@lrA_own, @lrA_int, @lrA_bool, @lrA_str, @lrA_sl, @lrA_lr, @lrA_nils, @lrA_junk, @lrA_fn, @lrC_some, @lrC_t, @lrC_none, @lrF_nil, @lrF_cons⟩

/-! ### Walks that hand on nothing of their caller's -/

theorem bare_le {B : Ctx} {w w' : World} {L : Nat → Prop} {obs : List O} {ρ : Nat → Value} : ((B.bareL w (fun _ => False)).V w' obs ρ).le ((B.bareL w L).V w' obs ρ) :=
  ⟨fun _ _ h => h, fun _ h => h.elim .inl (fun k => k.elim), rfl⟩

theorem bare_up {B : Ctx} {w w' : World} {L : Nat → Prop} {obs : List O} {ρ : Nat → Value} (h : WRel (B.bareL w (fun _ => False)) obs w' ρ) : WRel (B.bareL w L) obs w' ρ :=
  ⟨fun id o ho => (h.os id o ho).kept bare_le (Ext.refl (fun _ => False) w') (fun _ _ k => k), h.dis, h.own, h.os0, h.tape, h.output, h.grow, h.kept⟩

/-- The opening of a walk that takes nothing of its caller's for its own: the arguments are plain. -/
theorem FunA.walk0 {B : Ctx} (hB : B.Ok) {f : FuncId} {fn : Func} {c : Code} {args : List AV} {post : List AV → List O → Prop} (hcall : ∀ (vs : Array Value) (w : World), (callFunc f vs).run B.P w = .ok (.enter f vs) w)
    (hf : B.P.funcs[f]? = some fn) (hb : fn.body = some c) (hn : args.length ≤ fn.ntmps) (hp : args.all plainAV = true)
    (h : ∀ C : Ctx, C.Ok → B.P = C.P → B.tid = C.tid → C.Γ = B.Γ → C.bt = B.bt → C.fn = fn → C.pin = [] → (∀ b, ¬ C.L b) → (∀ xs obs, xs.all freshAV = true → obs.all freshO = true → post xs obs → Fin C xs obs) → Run C [.code c] (entry args fn.ntmps)) : FunA B f args post := by
  refine ⟨hcall, fun w L vs hl ha => ?_⟩
  have hH : ((B.bareL w (fun _ => False)).V w [] (fun _ => undef)).H = ((B.bareL w L).V w [] (fun _ => undef)).H := by funext b; rw [H_bare, H_bare]
  have ha0 : ∀ (i : Nat) (x : AV) (v : Value), args[i]? = some x → vs[i]? = some v → AVRel ((B.bareL w (fun _ => False)).V w [] (fun _ => undef)) [] (fun _ => undef) x v := fun i x v hx hv =>
    plain_rel hH (List.all_eq_true.1 hp _ (List.mem_of_getElem? hx)) (ha i x v hx hv)
  have hw := wrel_start B w (fun _ => False) (fun _ => undef)
  have hr := h (B.enterL fn (RA B w (fun _ => False) post) w (fun _ => False) (fun _ => False)) (hB.enterL fn _ w _ _) rfl rfl rfl rfl rfl rfl (fun _ k => k) (fun _ _ h1 h2 hp => FunA.fin hp h1 h2)
  have key := calls_of_run (C := B.enterL fn (RA B w (fun _ => False) post) w (fun _ => False) (fun _ => False)) (ρ := fun _ => undef) (args := vs.toArray) (w := w) hf hb hr ⟨rfl, by simp [entry, Ctx.enterL]; omega, ?_, ⟨hw.os, hw.dis, hw.own, hw.os0, hw.tape, hw.output, hw.grow, hw.kept⟩, fun j v hj => by simp [Ctx.enterL] at hj⟩
  · refine key.mono fun e w' ⟨us, he, xs, obs', ρ', hpost, hul, hu, hwr, h1, h2⟩ => ⟨us, he, xs, obs', ρ', hpost, hul, fun i x v hx hv => ?_, bare_up hwr, h1, h2⟩
    exact AVRel.carry bare_le (Nat.le_refl _) (fun id c' _ hc => ⟨c', hc, .inl ⟨rfl, rfl⟩⟩) (hu i x v hx hv)
  · intro s ex x hx
    obtain ⟨k, y, h1, h2, rfl, rfl⟩ := look_zip args s 0 ex x hx
    refine ⟨fun _ => ?_, by simp⟩
    have hk : k < args.length := (List.getElem?_eq_some_iff.1 h2).1
    have hkv : k < vs.length := by omega
    have hs : s = k := by omega
    subst hs
    have hg : ((vs.toArray ++ Array.replicate ((B.enterL fn (RA B w (fun _ => False) post) w (fun _ => False) (fun _ => False)).fn.ntmps - vs.toArray.size) undef).getD s undef) = vs[s] := by
      simp [Array.getD_eq_getD_getElem?, Array.getElem?_append, hkv]
    rw [hg]
    exact ha0 s y vs[s] h2 (by simp)
end Go.Aw
