/- From a contract to a law's statement: the arguments opened, the end shut. -/
import Derived.Test.YtbeeblhmgpgkjaaAw21
import Derived.WalkKit
import Derived.ProofKit
import Derived.OpenShut
import Derived.Carry
import Derived.Deep.Matrix
import Derived.ChangeSlices
set_option linter.unusedVariables false
set_option linter.unusedSimpArgs false
namespace Go.Aw
open Go Go.ChangeShapes Go.WideShapes Go.ChangeAt Go.RowKit Go.Deep

section
variable {H : Type} {enc : TypeId × Value → H} {P : Program}

theorem trodAll_below (hl : laidOutB P = true) {W W' : World} (hb : Below W.heap.size W W') : ∀ {ts : List TypeId} {vs : List Value} {ds : List (DataW H)} {ps : List MemPlace}, ts.all (fun t => P.readableRec t && decide (t < P.types.size)) = true →
    DataW.TrodAll enc P W 0 (fun _ => true) true ts vs ds ps → (∀ x ∈ ps, x.block < W.heap.size) → DataW.TrodAll enc P W' 0 (fun b => decide (b < W.heap.size)) true ts vs ds ps
  | [], vs, ds, ps, _, h, _ => by
    obtain ⟨rfl, rfl, rfl⟩ := trodAll_nil h
    exact trodAll_mk0
  | t :: ts, vs, ds, ps, hr, h, hlt => by
    simp only [List.all_cons, Bool.and_eq_true, decide_eq_true_eq] at hr
    obtain ⟨v, vs', d, ds', p, q, rfl, rfl, rfl, hd, hrest⟩ := trodAll_cons h
    exact trodAll_cons_mk (Below.trod hl hr.1.1 hr.1.2 hd hb fun x hx => hlt x (List.mem_append_left _ hx)) (trodAll_below hl hb hr.2 hrest fun x hx => hlt x (List.mem_append_right _ hx))

variable {B : Ctx} {W : World}

theorem cell_bare' {a : Addr} {v : Value} (h : W.cell? a = some v) : ((B.bare W).V W [] (fun _ => undef)).cell a = some v := cell_bare h

/-- An argument of type []int. -/
theorem arg_ints {t e : TypeId} {v : Value} {d : DataW H} {p : List MemPlace} {base : Nat} (ht : P.underlying t = some (.slice e)) (he : P.underlying e = some (.int .i64)) (hc : P.cellsOf e = 1)
    (hval : Value.okWide P W .any base t v) (h : DataW.Trod enc P W 0 (fun _ => true) true t v d p) :
    ∃ xs : List Int, (∀ n ∈ xs, (Lit.int .i64 n).wf = true) ∧ AVRel ((B.bare W).V W [] (fun _ => undef)) [] (fun _ => undef) (.sl false .int xs) v := by
  obtain ⟨a0, len, cap, rfl⟩ := okWide_slice ht hval
  obtain ⟨fuel, hf⟩ := h
  rcases open_ints ht he hc hf with ⟨hcs, hx⟩ | ⟨a, len', cap', zs, hcs, _, hl, hm, hz, hx, hcell, hwz⟩
  · simp [Value.cells] at hcs
    obtain ⟨rfl, rfl, rfl⟩ := hcs
    exact ⟨[], by simp, none, 0, rfl, by simp, by simp, fun i hi => by simp at hi⟩
  · simp [Value.cells] at hcs
    obtain ⟨rfl, rfl, rfl⟩ := hcs
    simp only [if_true] at hz
    have hlen : (zs.take len).length = len := by simp; omega
    refine ⟨zs.take len, fun n hn => hwz n (List.mem_of_mem_take hn), some a, cap, by rw [hlen], by omega, hm, fun i hi => ⟨a, .int .i64 (zs.take len)[i], rfl, by simp, rfl, fun j hj => ?_⟩⟩
    simp only [E.size] at hj
    have hj0 : j = 0 := by omega
    subst hj0
    have h1 := hcell i (by omega)
    simp only [E.size, Nat.mul_one, Nat.add_zero]
    rw [cell_bare' h1]
    have : i < zs.length := by omega
    simp [Value.cells, List.getD, this]

/-- An argument of type []byte. -/
theorem arg_bytes {t e : TypeId} {v : Value} {d : DataW H} {p : List MemPlace} {base : Nat} (ht : P.underlying t = some (.slice e)) (he : P.underlying e = some (.int .u8)) (hc : P.cellsOf e = 1)
    (hval : Value.okWide P W .any base t v) (h : DataW.Trod enc P W 0 (fun _ => true) true t v d p) :
    ∃ xs : List Int, (∀ n ∈ xs, (Lit.int .u8 n).wf = true) ∧ AVRel ((B.bare W).V W [] (fun _ => undef)) [] (fun _ => undef) (.sl false .byte xs) v := by
  obtain ⟨a0, len, cap, rfl⟩ := okWide_slice ht hval
  obtain ⟨fuel, hf⟩ := h
  rcases open_ints ht he hc hf with ⟨hcs, hx⟩ | ⟨a, len', cap', zs, hcs, _, hl, hm, hz, hx, hcell, hwz⟩
  · simp [Value.cells] at hcs
    obtain ⟨rfl, rfl, rfl⟩ := hcs
    exact ⟨[], by simp, none, 0, rfl, by simp, by simp, fun i hi => by simp at hi⟩
  · simp [Value.cells] at hcs
    obtain ⟨rfl, rfl, rfl⟩ := hcs
    simp only [if_true] at hz
    have hlen : (zs.take len).length = len := by simp; omega
    refine ⟨zs.take len, fun n hn => hwz n (List.mem_of_mem_take hn), some a, cap, by rw [hlen], by omega, hm, fun i hi => ⟨a, .int .u8 (zs.take len)[i], rfl, by simp, rfl, fun j hj => ?_⟩⟩
    simp only [E.size] at hj
    have hj0 : j = 0 := by omega
    subst hj0
    have h1 := hcell i (by omega)
    simp only [E.size, Nat.mul_one, Nat.add_zero]
    rw [cell_bare' h1]
    have : i < zs.length := by omega
    simp [Value.cells, List.getD, this]

/-- An argument of type int. -/
theorem arg_int {t : TypeId} {v : Value} {d : DataW H} {p : List MemPlace} {base : Nat} (ht : P.underlying t = some (.int .i64)) (hval : Value.okWide P W .any base t v) (h : DataW.Trod enc P W 0 (fun _ => true) true t v d p) :
    ∃ n : Int, (Lit.int .i64 n).wf = true ∧ AVRel ((B.bare W).V W [] (fun _ => undef)) [] (fun _ => undef) (.int .i64 n) v := by
  obtain ⟨n, rfl, _, _, hw⟩ := open_int ht hval h
  exact ⟨n, hw, rfl⟩

/-- The call of a law, as its statement wants it. -/
theorem FunA.law {f : FuncId} {args : List AV} (h : FunA B f args fun rs _ => rs = [.bool true]) {vs : List Value} (hl : vs.length = args.length)
    (ha : ∀ (i : Nat) (x : AV) (v : Value), args[i]? = some x → vs[i]? = some v → AVRel ((B.bare W).V W [] (fun _ => undef)) [] (fun _ => undef) x v) :
    Calls B.P f vs.toArray W fun e W' => e = .returned (.bool true) ∧ Below W.heap.size W W' := by
  refine (h.2 W vs hl ha).mono fun e W' ⟨us, he, xs, obs', ρ', hp, hul, hu, hw, _, _⟩ => ?_
  subst hp
  match us, hul with
  | [u], _ =>
    have : u = .bool true := hu 0 (.bool true) u rfl rfl
    subst this
    exact ⟨he, hw.os0, hw.tape, hw.output, hw.grow, fun k hk => hw.kept k hk (fun m => m)⟩

theorem args1 {V : Vw} {x : AV} {v : Value} (h : AVRel V [] (fun _ => undef) x v) : ∀ (i : Nat) (y : AV) (u : Value), [x][i]? = some y → [v][i]? = some u → AVRel V [] (fun _ => undef) y u := by
  intro i y u hy hu
  match i, hy, hu with
  | 0, hy, hu => simp at hy hu; subst hy hu; exact h
theorem args2 {V : Vw} {x x1 : AV} {v v1 : Value} (h : AVRel V [] (fun _ => undef) x v) (h1 : AVRel V [] (fun _ => undef) x1 v1) : ∀ (i : Nat) (y : AV) (u : Value), [x, x1][i]? = some y → [v, v1][i]? = some u → AVRel V [] (fun _ => undef) y u := by
  intro i y u hy hu
  match i, hy, hu with
  | 0, hy, hu => simp at hy hu; subst hy hu; exact h
  | 1, hy, hu => simp at hy hu; subst hy hu; exact h1
theorem args3 {V : Vw} {x x1 x2 : AV} {v v1 v2 : Value} (h : AVRel V [] (fun _ => undef) x v) (h1 : AVRel V [] (fun _ => undef) x1 v1) (h2 : AVRel V [] (fun _ => undef) x2 v2) : ∀ (i : Nat) (y : AV) (u : Value), [x, x1, x2][i]? = some y → [v, v1, v2][i]? = some u → AVRel V [] (fun _ => undef) y u := by
  intro i y u hy hu
  match i, hy, hu with
  | 0, hy, hu => simp at hy hu; subst hy hu; exact h
  | 1, hy, hu => simp at hy hu; subst hy hu; exact h1
  | 2, hy, hu => simp at hy hu; subst hy hu; exact h2
end
end Go.Aw
