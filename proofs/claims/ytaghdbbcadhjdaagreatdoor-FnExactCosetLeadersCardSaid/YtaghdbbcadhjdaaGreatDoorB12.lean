/- The key of a list of numbers: walked by the kit's own tactics. -/
import Derived.Test.YtaghdbbcadhjdaaGreatDoorB6
import Derived.WalkKit
import Derived.Deep.QuietTactic
import Derived.BigQuiet
import Derived.Test.YtaghdbbcadhjdaaGreatDoorB7
import Derived.Test.YtaghdbbcadhjdaaGreatDoorB9
import Derived.Test.YtaghdbbcadhjdaaGreatDoorB11
set_option linter.unusedVariables false
set_option linter.unusedSimpArgs false
namespace Go.Proofs.YtaghdbbcadhjdaaGreatDoor
open Go
def zero4 : Array Value := #[.int .i64 0, .int .i64 0, .int .i64 0, .int .i64 0]
def key4 (xs : List Int) : List Int := [xs.getD 0 0, xs.getD 1 0, xs.getD 2 0, xs.getD 3 0]
def vec4 (xs : List Int) : Array Value := #[.int .i64 (xs.getD 0 0), .int .i64 (xs.getD 1 0), .int .i64 (xs.getD 2 0), .int .i64 (xs.getD 3 0)]
theorem alloc2_new (w : World) (o1 o2 : Obj) : ((w.alloc o1).alloc o2).heap[w.heap.size + 1]? = some o2 := by
  show ((w.heap.push o1).push o2)[w.heap.size + 1]? = _
  rw [Array.getElem?_push, if_pos (by simp)]
theorem alloc2_fst (w : World) (o1 o2 : Obj) : ((w.alloc o1).alloc o2).heap[w.heap.size]? = some o1 := by
  show ((w.heap.push o1).push o2)[w.heap.size]? = _
  rw [Array.getElem?_push, if_neg (by simp), Array.getElem?_push, if_pos rfl]
theorem alloc2_old (w : World) (o1 o2 : Obj) {b : Nat} (h : b < w.heap.size) : ((w.alloc o1).alloc o2).heap[b]? = w.heap[b]? := by
  show ((w.heap.push o1).push o2)[b]? = _
  rw [Array.getElem?_push, if_neg (by simp; omega), Array.getElem?_push, if_neg (by omega)]
theorem vec_copy (a : Addr) (cap : Nat) (xs : List Int) (w : World) (h1 : 1 ≤ xs.length) (hl : xs.length ≤ 4) (hr : ∀ k (hk : k < xs.length), w.cell? (a.add k) = some (.int .i64 xs[k])) (t : TypeId) :
    (Builtin.copy_ #[27, 27] 3 #[.slice (some ⟨w.heap.size + 1, 0, none⟩) 4 4, .slice (some a) xs.length cap]).run Tryz.prog ((w.alloc (.cells zero4 t)).alloc (.cells zero4 t)) =
      .ok (.int .i64 xs.length) (((w.alloc (.cells zero4 t)).alloc (.cells zero4 t)).setRow (w.heap.size + 1) (vec4 xs)) := by
  have hr2 : ∀ k (hk : k < xs.length), ((w.alloc (.cells zero4 t)).alloc (.cells zero4 t)).cell? (a.add k) = some (.int .i64 xs[k]) := fun k hk => by
    have h0 := hr k hk
    have hlt : a.block < w.heap.size := by
      unfold World.cell? at h0
      rw [Go.Aw.add_block] at h0
      cases hb : w.heap[a.block]? with
      | none => rw [hb] at h0; simp at h0
      | some o => exact (Array.getElem?_eq_some_iff.1 hb).1
    rw [← h0]
    unfold World.cell?
    rw [Go.Aw.add_block, alloc2_old _ _ _ hlt]
  have hmin : Nat.min xs.length 4 = xs.length := Nat.min_eq_left hl
  have h := run_copy_row (P := Tryz.prog) ((w.alloc (.cells zero4 t)).alloc (.cells zero4 t)) 27 27 3 3 (w.heap.size + 1) 0 4 4 a xs.length cap _ t (xs.map (Value.int .i64)) Tryz.underlying27 (by kernel_rfl) (alloc2_new _ _ _) (by rw [List.length_map, hmin])
    (fun j v hv => by
      obtain ⟨hj, rfl⟩ := List.getElem?_eq_some_iff.1 hv
      simpa using hr2 j (by simpa using hj)) (by rw [List.length_map, Nat.zero_add]; exact hl) (by simp [Value.oneCell'])
  simp only [hmin, List.take_zero, List.nil_append, Nat.zero_add, List.length_map] at h
  have e : ((xs.map (Value.int .i64)) ++ (zero4.toList.drop xs.length)).toArray = vec4 xs := by
    match xs, h1, hl with
    | [_], _, _ => rfl
    | [_, _], _, _ => rfl
    | [_, _, _], _, _ => rfl
    | [_, _, _, _], _, _ => rfl
  rw [e] at h
  exact h
structure Kp (n : Nat) (w w' : World) : Prop where
  os : w'.os = w.os
  tape : w'.tape = w.tape
  output : w'.output = w.output
  size : w.heap.size ≤ w'.heap.size
  drawn : w.drawn ≤ w'.drawn
  block : ∀ b, b < n → w'.heap[b]? = w.heap[b]?
theorem Kp.refl (n : Nat) (w : World) : Kp n w w := ⟨rfl, rfl, rfl, Nat.le_refl _, Nat.le_refl _, fun _ _ => rfl⟩
theorem Kp.cell {n : Nat} {w w' : World} (h : Kp n w w') (b j : Nat) (v : Value) (hb : n ≤ b) : Kp n w (w'.setCell ⟨b, j, none⟩ v) :=
  ⟨h.os, h.tape, h.output, by simpa [World.setCell] using h.size, h.drawn, fun c hc => by
    rw [← h.block c hc]
    unfold World.setCell
    simp [Array.getElem?_modify, show ¬ b = c by omega]⟩
theorem Kp.row {n : Nat} {w w' : World} (h : Kp n w w') (b : Nat) (cs : Array Value) (hb : n ≤ b) : Kp n w (w'.setRow b cs) :=
  ⟨h.os, h.tape, h.output, by simpa [World.setRow] using h.size, h.drawn, fun c hc => by rw [setRow_other _ _ _ _ (by omega)]; exact h.block c hc⟩
theorem Kp.alloc {n : Nat} {w w' : World} (h : Kp n w w') (o : Obj) (hn : n ≤ w'.heap.size) : Kp n w (w'.alloc o) :=
  ⟨h.os, h.tape, h.output, by have := h.size; simp; omega, h.drawn, fun c hc => by
    rw [← h.block c hc]
    show (w'.heap.push o)[c]? = _
    rw [Array.getElem?_push, if_neg (by omega)]⟩
theorem vec_frame (w : World) (o1 o2 : Obj) (cs : Array Value) (v0 v1 v2 v3 : Value) :
    Kp w.heap.size w (((((((w.alloc o1).alloc o2).setRow (w.heap.size + 1) cs).setCell ⟨w.heap.size, 0, none⟩ v0).setCell ⟨w.heap.size, 1, none⟩ v1).setCell ⟨w.heap.size, 2, none⟩ v2).setCell ⟨w.heap.size, 3, none⟩ v3) :=
  (((((((Kp.refl _ w).alloc o1 (Nat.le_refl _)).alloc o2 (by simp)).row _ cs (by omega)).cell _ _ _ (Nat.le_refl _)).cell _ _ _ (Nat.le_refl _)).cell _ _ _ (Nat.le_refl _)).cell _ _ _ (Nat.le_refl _)
set_option maxRecDepth 100000 in
theorem w_vectorOf (a : Addr) (cap : Nat) (xs : List Int) (w : World) (h1 : 1 ≤ xs.length) (hl : xs.length ≤ 4) (hr : ∀ k (hk : k < xs.length), w.cell? (a.add k) = some (.int .i64 xs[k])) :
    Calls Tryz.prog 101 #[.slice (some a) xs.length cap] w fun e w' => e = .returned (.agg #[.int .i64 (xs.getD 0 0), .int .i64 (xs.getD 1 0), .int .i64 (xs.getD 2 0), .int .i64 (xs.getD 3 0)]) ∧ Kp w.heap.size w w' := by
  have hcp := vec_copy a cap xs w h1 hl hr 71
  have g3 : (((w.alloc (.cells zero4 71)).alloc (.cells zero4 71)).setRow (w.heap.size + 1) (vec4 xs)).heap[w.heap.size + 1]? = some (.cells (vec4 xs) 71 (0, 0)) := setRow_heap _ _ _ _ _ _ (alloc2_new _ _ _)
  have c0 : (((w.alloc (.cells zero4 71)).alloc (.cells zero4 71)).setRow (w.heap.size + 1) (vec4 xs)).cell? ⟨w.heap.size + 1, 0, none⟩ = some (.int .i64 (xs.getD 0 0)) := by simp only [World.cell?, g3]; rfl
  have c1 : (((w.alloc (.cells zero4 71)).alloc (.cells zero4 71)).setRow (w.heap.size + 1) (vec4 xs)).cell? ⟨w.heap.size + 1, 1, none⟩ = some (.int .i64 (xs.getD 1 0)) := by simp only [World.cell?, g3]; rfl
  have c2 : (((w.alloc (.cells zero4 71)).alloc (.cells zero4 71)).setRow (w.heap.size + 1) (vec4 xs)).cell? ⟨w.heap.size + 1, 2, none⟩ = some (.int .i64 (xs.getD 2 0)) := by simp only [World.cell?, g3]; rfl
  have c3 : (((w.alloc (.cells zero4 71)).alloc (.cells zero4 71)).setRow (w.heap.size + 1) (vec4 xs)).cell? ⟨w.heap.size + 1, 3, none⟩ = some (.int .i64 (xs.getD 3 0)) := by simp only [World.cell?, g3]; rfl
  have g2 : (((w.alloc (.cells zero4 71)).alloc (.cells zero4 71)).setRow (w.heap.size + 1) (vec4 xs)).heap[w.heap.size]? = some (.cells zero4 71 (0, 0)) := by rw [setRow_other _ _ _ _ (by omega)]; exact alloc2_fst _ _ _
  have d0 : (((w.alloc (.cells zero4 71)).alloc (.cells zero4 71)).setRow (w.heap.size + 1) (vec4 xs)).cell? ⟨w.heap.size, 0, none⟩ = some (.int .i64 0) := by simp only [World.cell?, g2]; rfl
  have z0 : (((w.alloc (.cells zero4 71)).alloc (.cells zero4 71)).setRow (w.heap.size + 1) (vec4 xs)).frozen? ⟨w.heap.size, 0, none⟩ = false := by simp only [World.frozen?, g2]; rfl
  have d1 : (((w.alloc (.cells zero4 71)).alloc (.cells zero4 71)).setRow (w.heap.size + 1) (vec4 xs)).cell? ⟨w.heap.size, 1, none⟩ = some (.int .i64 0) := by simp only [World.cell?, g2]; rfl
  have z1 : (((w.alloc (.cells zero4 71)).alloc (.cells zero4 71)).setRow (w.heap.size + 1) (vec4 xs)).frozen? ⟨w.heap.size, 1, none⟩ = false := by simp only [World.frozen?, g2]; rfl
  have d2 : (((w.alloc (.cells zero4 71)).alloc (.cells zero4 71)).setRow (w.heap.size + 1) (vec4 xs)).cell? ⟨w.heap.size, 2, none⟩ = some (.int .i64 0) := by simp only [World.cell?, g2]; rfl
  have z2 : (((w.alloc (.cells zero4 71)).alloc (.cells zero4 71)).setRow (w.heap.size + 1) (vec4 xs)).frozen? ⟨w.heap.size, 2, none⟩ = false := by simp only [World.frozen?, g2]; rfl
  have d3 : (((w.alloc (.cells zero4 71)).alloc (.cells zero4 71)).setRow (w.heap.size + 1) (vec4 xs)).cell? ⟨w.heap.size, 3, none⟩ = some (.int .i64 0) := by simp only [World.cell?, g2]; rfl
  have z3 : (((w.alloc (.cells zero4 71)).alloc (.cells zero4 71)).setRow (w.heap.size + 1) (vec4 xs)).frozen? ⟨w.heap.size, 3, none⟩ = false := by simp only [World.frozen?, g2]; rfl
  clear g3 g2
  unfold zero4 at hcp c0 c1 c2 c3 d0 d1 d2 d3 z0 z1 z2 z3
  go_enter Tryz.func101, Tryz.ntmps101
  go_wp2
  have hres : Tryz.f101.results = #[.cell 2 71] := rfl
  generalize hw3 : (((w.alloc (.cells #[.int .i64 0, .int .i64 0, .int .i64 0, .int .i64 0] 71)).alloc (.cells #[.int .i64 0, .int .i64 0, .int .i64 0, .int .i64 0] 71)).setRow (w.heap.size + 1) (vec4 xs)) = w3 at *
  have hld := Go.Aw.run_wload (C := B) (t := 71) (e := .vec) (a := ⟨w.heap.size, 0, none⟩) (d := key4 xs) (w := (((w3.setCell ⟨w.heap.size, 0, none⟩ (.int .i64 (xs.getD 0 0))).setCell ⟨w.heap.size, 1, none⟩ (.int .i64 (xs.getD 1 0))).setCell ⟨w.heap.size, 2, none⟩ (.int .i64 (xs.getD 2 0))).setCell ⟨w.heap.size, 3, none⟩ (.int .i64 (xs.getD 3 0))) B_ok rfl rfl (fun j hj => by
    rw [Go.Aw.add_plain, Nat.zero_add]
    match j, hj with
    | 0, _ =>
      rw [World.cell?_setCell_other _ _ _ _ (by simp), World.cell?_setCell_other _ _ _ _ (by simp), World.cell?_setCell_other _ _ _ _ (by simp), World.cell?_setCell_same _ _ _ d0]; rfl
    | 1, _ =>
      rw [World.cell?_setCell_other _ _ _ _ (by simp), World.cell?_setCell_other _ _ _ _ (by simp), World.cell?_setCell_same (u := .int .i64 0) _ _ _ (by rw [World.cell?_setCell_other _ _ _ _ (by simp)]; exact d1)]; rfl
    | 2, _ =>
      rw [World.cell?_setCell_other _ _ _ _ (by simp), World.cell?_setCell_same (u := .int .i64 0) _ _ _ (by rw [World.cell?_setCell_other _ _ _ _ (by simp), World.cell?_setCell_other _ _ _ _ (by simp)]; exact d2)]; rfl
    | 3, _ =>
      rw [World.cell?_setCell_same (u := .int .i64 0) _ _ _ (by rw [World.cell?_setCell_other _ _ _ _ (by simp), World.cell?_setCell_other _ _ _ _ (by simp), World.cell?_setCell_other _ _ _ _ (by simp)]; exact d3)]; rfl)
  simp only [List.getD_eq_getElem?_getD] at hld
  refine ⟨rfl, .agg ((key4 xs).map (Value.int .i64)).toArray, ?_, ?_⟩
  · unfold results
    rw [hres]
    simp only [Instr.loadAt, Instr.sureAddr, Sem.run_bind, Sem.run_pure, Result.andThen_ok] at hld
    simp [asAddr]
    exact hld
  · refine ⟨by simp [key4], ?_⟩
    rw [← hw3]
    exact vec_frame w _ _ _ _ _ _ _
open Go.Aw
theorem key4_inj {xs ys : List Int} (hx : xs.length ≤ 4) (h : xs.length = ys.length) (e : key4 xs = key4 ys) : xs = ys := by
  simp only [key4, List.cons.injEq, and_true] at e
  obtain ⟨e0, e1, e2, e3⟩ := e
  apply List.ext_getElem h
  intro i h1 h2
  have : xs.getD i 0 = ys.getD i 0 := by
    match i, (show i < 4 by omega) with
    | 0, _ => exact e0
    | 1, _ => exact e1
    | 2, _ => exact e2
    | 3, _ => exact e3
  simpa [List.getD_eq_getElem?_getD, h1, h2] using this
theorem key4_take {xs : List Int} (h : xs.length ≤ 4) : (key4 xs).take xs.length = xs := by
  match xs, h with
  | [], _ => rfl
  | [_], _ => rfl
  | [_, _], _ => rfl
  | [_, _, _], _ => rfl
  | [_, _, _, _], _ => rfl
theorem c_impl_vectorOf (xs : List Int) (h1 : 1 ≤ xs.length) (hl : xs.length ≤ 4) : FunA B 101 [.sl false .int xs] (fun rs o => rs = [.vec (key4 xs)] ∧ o = []) := by
  refine ⟨fun vs w => Tryz.call101 vs w, fun w L vs hG hv ha => ?_⟩
  match vs, hv with
  | [s], _ =>
  have hs : SlRel ((B.bareL w L).V w [] (fun _ => undef)) false .int xs s := ha 0 _ s rfl rfl
  obtain ⟨base, cap, hv', hc, hcm, hx⟩ := hs
  obtain ⟨a, _, hb, _⟩ := hx 0 (by omega)
  subst hb hv'
  have hcell : ∀ k (hk : k < xs.length), w.cell? (a.add k) = some (.int .i64 xs[k]) := fun k hk => by
    obtain ⟨a', u, e, _, hu, hq⟩ := hx k hk
    cases e
    cases hu
    have h0 := hq 0 (by simp [E.size])
    simp only [E.size, Nat.mul_one, Nat.add_zero] at h0
    exact V_cell (by simpa [Value.cells] using h0)
  refine (w_vectorOf a cap xs w h1 hl hcell).mono ?_
  rintro e w' ⟨rfl, hk⟩
  refine ⟨[.agg ((key4 xs).map (Value.int .i64)).toArray], rfl, [.vec (key4 xs)], [], fun _ => undef, ⟨rfl, rfl⟩, rfl, fun i x v hx hv => ?_, ⟨fun id o h => by simp at h, fun i j o o' b h => by simp at h, fun b ⟨id, o, h, _⟩ => by simp at h, hk.os, hk.tape, hk.output, hk.size, fun _ => hk.drawn, fun b hb _ => hk.block b hb, hG⟩, rfl, rfl⟩
  match i with
  | 0 => simp at hx hv; subst hx hv; exact ⟨rfl, rfl⟩
  | i + 1 => simp at hx
end Go.Proofs.YtaghdbbcadhjdaaGreatDoor
namespace Go.Proofs.YtaghdbbcadhjdaaGreatDoor
open Go Go.Aw
theorem c_impl_list (xs : List Int) (n : Nat) (h4 : xs.length = 4) (hn : n ≤ 4) : FunA B 102 [.vec xs, .int .i64 n] (fun rs o => rs = [.own 0 0] ∧ o = [.arr .int (xs.take n) 0 true]) := by
  refine FunA.walk B_ok (fn := Tryz.f102) (fun vs w => Tryz.call102 vs w) Tryz.func102 rfl (by rw [Tryz.ntmps102]; simp) (fun C hC hP hT hΓ hbt hfn hpin hfin => ?_); have hX := BX; rw [← hΓ, ← hbt.1, ← hbt.2.1, ← hbt.2.2.1] at hX; rw [hT] at hX; rw [Tryz.ntmps102]; simp only [AW7, simprocAttr, hX]
  refine Run.R ?_
  refine Run.R ?_
  refine Run.reK hpin [4] [0] (by decide) (by simp) ?_; simp only [AR, AW7, simprocAttr]
  refine Run.rW [4] (hfin _ _ rfl rfl ?_)
  exact ⟨rfl, rfl⟩
end Go.Proofs.YtaghdbbcadhjdaaGreatDoor
namespace Go.Proofs.YtaghdbbcadhjdaaGreatDoor
open Go
end Go.Proofs.YtaghdbbcadhjdaaGreatDoor
namespace Go.Proofs.YtaghdbbcadhjdaaGreatDoor
open Go Go.RowKit
end Go.Proofs.YtaghdbbcadhjdaaGreatDoor
namespace Go.Aw
open Go
end Go.Aw
namespace Go.Proofs.YtaghdbbcadhjdaaGreatDoor
open Go Go.Aw
end Go.Proofs.YtaghdbbcadhjdaaGreatDoor
namespace Go.Proofs.YtaghdbbcadhjdaaGreatDoor
open Go Go.Aw
end Go.Proofs.YtaghdbbcadhjdaaGreatDoor
namespace Go.Aw
open Go
theorem Run.matfact {C : Ctx} {k : List Item} (id : Nat) {n : Nat} {fr : List (Nat × Bool × Sl)} {obs : List O} {g : Nat} {hs : List (Option Nat)} {rows : List (List Int)} {nn : Bool} (ho : oAt obs id = .mat hs rows g nn)
    (h : hs.length = rows.length → (∀ (i j q : Nat), hs[i]? = some (some q) → hs[j]? = some (some q) → i = j) → (∀ i : Nat, hs[i]? = some none → rows.getD i [] = []) → Run C k ⟨n, fr, obs⟩) : Run C k ⟨n, fr, obs⟩ := by
  refine Run.fact (p := hs.length = rows.length ∧ (∀ (i j q : Nat), hs[i]? = some (some q) → hs[j]? = some (some q) → i = j) ∧ (∀ i : Nat, hs[i]? = some none → rows.getD i [] = [])) (fun a w ρ r => ?_) fun hh => h hh.1 hh.2.1 hh.2.2
  have hid : id < obs.length := by
    rcases Nat.lt_or_ge id obs.length with h | h
    · exact h
    · rw [oAt_eq, List.getElem?_eq_none h] at ho; cases ho
  have ho' : obs[id]? = some (.mat hs rows g nn) := by rw [oAt_get hid, ho]
  obtain ⟨cs, k1, k2, k3, k4, k5, k6, k7⟩ := r.w.os id _ ho'
  refine ⟨k2, fun i j q h1 h2 => k4 i j q q h1 h2 rfl, fun i hi => ?_⟩
  have hcl : cs.length = rows.length := by have := k1.1; omega
  have hlt : i < hs.length := (List.getElem?_eq_some_iff.1 hi).1
  have := k3 i none rows[i] cs[i] hi (by simp) (by simp)
  rw [List.getD_eq_getElem?_getD, List.getElem?_eq_getElem (by omega)]
  exact this.2
theorem mat_head {hs : List (Option Nat)} {rows : List (List Int)} (hl : hs.length = rows.length) (h1 : ∀ (i j q : Nat), hs[i]? = some (some q) → hs[j]? = some (some q) → i = j) (h2 : ∀ i : Nat, hs[i]? = some none → rows.getD i [] = [])
    {i : Nat} (hi : i < rows.length) (hr : 0 < (rows.getD i []).length) : ∃ q, hs.getD i none = some q ∧ some q ∈ hs ∧ hs.idxOf (some q) = i := by
  have hi' : i < hs.length := by omega
  have e : hs[i]? = some hs[i] := List.getElem?_eq_getElem hi'
  cases hq : hs[i] with
  | none =>
    rw [hq] at e
    rw [h2 i e] at hr
    simp at hr
  | some q =>
    rw [hq] at e
    have hm : some q ∈ hs := List.mem_of_getElem? e
    refine ⟨q, by rw [List.getD_eq_getElem?_getD, e]; rfl, hm, ?_⟩
    have hlt := List.idxOf_lt_length_iff.2 hm
    have e2 : hs[hs.idxOf (some q)]? = some (some q) := by rw [List.getElem?_eq_getElem hlt]; simp
    exact h1 _ _ q e2 e
end Go.Aw
namespace Go.Proofs.YtaghdbbcadhjdaaGreatDoor
open Go Go.Aw
def chR (n i : Nat) : List Int := (List.range n).map fun j => if j = i then 2 else if j + 1 = i ∨ i + 1 = j then -1 else 0
def chL (n : Nat) : List (List Int) := (List.range n).map (chR n)
theorem chR_eq (n i : Nat) (hi : i < n) : (if i + 1 < n then (if 0 < i then ((List.replicate n (0:Int)).set i 2).set (i - 1) (-1) else (List.replicate n (0:Int)).set i 2).set (i + 1) (-1) else (if 0 < i then ((List.replicate n (0:Int)).set i 2).set (i - 1) (-1) else (List.replicate n (0:Int)).set i 2)) = chR n i := by
  apply List.ext_getElem?
  intro j
  unfold chR
  by_cases hj : j < n
  · by_cases h1 : i + 1 < n <;> by_cases h2 : 0 < i <;> simp only [h1, h2, if_true, if_false, List.getElem?_set, List.length_set, List.length_replicate, List.getElem?_map, List.getElem?_range hj, Option.map_some, List.getElem?_replicate, hj] <;> (repeat' split) <;> first | rfl | omega | (simp; omega) | simp_all
  · rw [List.getElem?_eq_none, List.getElem?_eq_none]
    · simp; omega
    · split <;> split <;> simp <;> omega
theorem chL_snoc (n i : Nat) : (List.range (i + 1)).map (chR n) = (List.range i).map (chR n) ++ [chR n i] := by rw [List.range_succ]; simp
theorem c_l2ChainR (n : Nat) (hn : n ≤ 8) : FunA B 171 [.int .i64 n] (fun rs o => ∃ ys g nn rest, (rw2 ys = chL n ∧ nn = true ∧ rest = []) ∧ (lb1 ys).Nodup ∧ rest.all flatAV = true ∧ rs = .own 0 g :: rest ∧ o = [.arr .lrow ys g nn]) := by
  refine FunA.walk B_ok (fn := Tryz.f171) (fun vs w => Tryz.call171 vs w) Tryz.func171 rfl (by rw [Tryz.ntmps171]; simp) (fun C hC hP hT hΓ hbt hfn hpin hfin => ?_); have hX := BX; rw [← hΓ, ← hbt.1, ← hbt.2.1, ← hbt.2.2.1] at hX; rw [hT] at hX; rw [Tryz.ntmps171]; simp only [AW7, simprocAttr, hX]
  refine Run.R ?_
  refine Run.R ?_
  refine Run.R ?_
  refine Run.loopI (X := List (Nat × List Int) × Nat) (fun y => ⟨36, [(0, true, .v (.int .i64 (n))), (3, true, .v (.own 0 0)), (4, true, .v (.int .i64 (y.2)))], [.arr .lrow (y.1) 0 true]⟩) (fun y => y.2 ≤ n ∧ rw2 y.1 = (List.range y.2).map (chR n) ∧ (lb1 y.1).Nodup) (fun y => n - y.2) (([], 0)) (⟨Nat.zero_le _, rfl, by simp [lb1]⟩) ?_ ?_
  · exact Le.sub (by first | rfl | simp) (by simp only [AW7, simprocAttr, hX]; try simp <;> try (first | rfl | exact ⟨rfl, rfl⟩ | exact ⟨rfl, rfl, rfl⟩))
  rintro ⟨ys, i⟩ ⟨hi, hE, hN⟩ ih
  try simp only []
  simp only [] at hi hE hN
  refine Run.R ?_
  refine Run.nq ?_; refine Run.cW ?_ ?_
  rotate_left
  · intro h
    have h : i = n := by rw [decide_eq_false_iff_not] at h; omega
    subst h
    refine Run.exit rfl ?_; refine Run.nq ?_
    refine Run.R ?_
    refine Run.rW [2] (hfin _ _ rfl rfl ?_)
    exact ⟨ys, 0, true, [], ⟨hE, rfl, rfl⟩, hN, rfl, rfl, rfl⟩
  intro h
  have h : i < n := by rw [decide_eq_true_eq] at h; omega
  have e1 : ((i : Int) - 1).toNat = i - 1 := by omega
  have e2 : ((i : Int) + 1).toNat = i + 1 := by omega
  have hyl : ys.length = i := by have : (rw2 ys).length = ys.length := by simp [rw2]
                                 rw [hE] at this; simpa using this.symm
  have hch := chR_eq n i h
  refine Run.R ?_
  refine Run.R ?_
  refine Run.R ?_
  refine Run.nq ?_; refine Run.cW ?_ ?_
  · intro h1
    have h1 : 0 < i := by rw [decide_eq_true_eq] at h1; omega
    refine Run.RW ?_
    refine Run.RW ?_
    refine Run.nq ?_; refine Run.cW ?_ ?_
    · intro h2
      have h2 : i + 1 < n := by rw [decide_eq_true_eq] at h2; omega
      rw [if_pos h2, if_pos h1] at hch
      refine Run.RW ?_
      rw [e1, e2, hch]
      refine Run.reK hpin [0, 3, 4, 5] [0, 1] (by decide) (by simp) ?_; simp only [AR, AW7, simprocAttr]
      refine Run.tolr 1 [0, 3, 4, 5] rfl (fun q hq => ?_); simp only [AL, frV_cons, frV_nil, AW7, simprocAttr]
      refine Run.R ?_
      refine Run.reK hpin [0, 3, 4] [0] (by decide) (by simp) ?_; simp only [AR, AW7, simprocAttr]
      have hnd2 : (lb1 (ys ++ [(q, chR n i)])).Nodup := by
        rw [lb1_app, List.nodup_append]
        refine ⟨hN, by simp [lb1], fun a ha b hb => ?_⟩
        simp [lb1] at hb
        subst hb
        obtain ⟨p, hp, rfl⟩ := List.mem_map.1 ha
        exact hq _ (List.mem_cons_self ..) _ _ _ rfl p hp
      have hE2 : rw2 (ys ++ [(q, chR n i)]) = (List.range (i + 1)).map (chR n) := by
        rw [chL_snoc, ← hE]; simp [rw2]
      refine Run.RW ?_
      refine Run.le ?_ (ih ((ys ++ [(q, chR n i)], i + 1)) (⟨h, hE2, hnd2⟩) (by (try simp only [List.length_append, List.length_cons, List.length_nil]); omega))
      exact Le.sub (by rfl) (by simp only [AW7, simprocAttr]; try simp)
    intro h2
    have h2 : ¬ i + 1 < n := by rw [decide_eq_false_iff_not] at h2; omega
    rw [if_neg h2, if_pos h1] at hch
    rw [e1, hch]
    refine Run.reK hpin [0, 3, 4, 5] [0, 1] (by decide) (by simp) ?_; simp only [AR, AW7, simprocAttr]
    refine Run.tolr 1 [0, 3, 4, 5] rfl (fun q hq => ?_); simp only [AL, frV_cons, frV_nil, AW7, simprocAttr]
    refine Run.R ?_
    refine Run.reK hpin [0, 3, 4] [0] (by decide) (by simp) ?_; simp only [AR, AW7, simprocAttr]
    have hnd2 : (lb1 (ys ++ [(q, chR n i)])).Nodup := by
      rw [lb1_app, List.nodup_append]
      refine ⟨hN, by simp [lb1], fun a ha b hb => ?_⟩
      simp [lb1] at hb
      subst hb
      obtain ⟨p, hp, rfl⟩ := List.mem_map.1 ha
      exact hq _ (List.mem_cons_self ..) _ _ _ rfl p hp
    have hE2 : rw2 (ys ++ [(q, chR n i)]) = (List.range (i + 1)).map (chR n) := by
      rw [chL_snoc, ← hE]; simp [rw2]
    refine Run.RW ?_
    refine Run.le ?_ (ih ((ys ++ [(q, chR n i)], i + 1)) (⟨h, hE2, hnd2⟩) (by (try simp only [List.length_append, List.length_cons, List.length_nil]); omega))
    exact Le.sub (by rfl) (by simp only [AW7, simprocAttr]; try simp)
  intro h1
  have h1 : ¬ 0 < i := by rw [decide_eq_false_iff_not] at h1; omega
  refine Run.RW ?_
  refine Run.nq ?_; refine Run.cW ?_ ?_
  · intro h2
    have h2 : i + 1 < n := by rw [decide_eq_true_eq] at h2; omega
    rw [if_pos h2, if_neg h1] at hch
    refine Run.RW ?_
    rw [e2, hch]
    refine Run.reK hpin [0, 3, 4, 5] [0, 1] (by decide) (by simp) ?_; simp only [AR, AW7, simprocAttr]
    refine Run.tolr 1 [0, 3, 4, 5] rfl (fun q hq => ?_); simp only [AL, frV_cons, frV_nil, AW7, simprocAttr]
    refine Run.R ?_
    refine Run.reK hpin [0, 3, 4] [0] (by decide) (by simp) ?_; simp only [AR, AW7, simprocAttr]
    have hnd2 : (lb1 (ys ++ [(q, chR n i)])).Nodup := by
      rw [lb1_app, List.nodup_append]
      refine ⟨hN, by simp [lb1], fun a ha b hb => ?_⟩
      simp [lb1] at hb
      subst hb
      obtain ⟨p, hp, rfl⟩ := List.mem_map.1 ha
      exact hq _ (List.mem_cons_self ..) _ _ _ rfl p hp
    have hE2 : rw2 (ys ++ [(q, chR n i)]) = (List.range (i + 1)).map (chR n) := by
      rw [chL_snoc, ← hE]; simp [rw2]
    refine Run.RW ?_
    refine Run.le ?_ (ih ((ys ++ [(q, chR n i)], i + 1)) (⟨h, hE2, hnd2⟩) (by (try simp only [List.length_append, List.length_cons, List.length_nil]); omega))
    exact Le.sub (by rfl) (by simp only [AW7, simprocAttr]; try simp)
  intro h2
  have h2 : ¬ i + 1 < n := by rw [decide_eq_false_iff_not] at h2; omega
  rw [if_neg h2, if_neg h1] at hch
  rw [hch]
  refine Run.reK hpin [0, 3, 4, 5] [0, 1] (by decide) (by simp) ?_; simp only [AR, AW7, simprocAttr]
  refine Run.tolr 1 [0, 3, 4, 5] rfl (fun q hq => ?_); simp only [AL, frV_cons, frV_nil, AW7, simprocAttr]
  refine Run.R ?_
  refine Run.reK hpin [0, 3, 4] [0] (by decide) (by simp) ?_; simp only [AR, AW7, simprocAttr]
  have hnd2 : (lb1 (ys ++ [(q, chR n i)])).Nodup := by
    rw [lb1_app, List.nodup_append]
    refine ⟨hN, by simp [lb1], fun a ha b hb => ?_⟩
    simp [lb1] at hb
    subst hb
    obtain ⟨p, hp, rfl⟩ := List.mem_map.1 ha
    exact hq _ (List.mem_cons_self ..) _ _ _ rfl p hp
  have hE2 : rw2 (ys ++ [(q, chR n i)]) = (List.range (i + 1)).map (chR n) := by
    rw [chL_snoc, ← hE]; simp [rw2]
  refine Run.RW ?_
  refine Run.le ?_ (ih ((ys ++ [(q, chR n i)], i + 1)) (⟨h, hE2, hnd2⟩) (by (try simp only [List.length_append, List.length_cons, List.length_nil]); omega))
  exact Le.sub (by rfl) (by simp only [AW7, simprocAttr]; try simp)
theorem c_l2Chain (n : Nat) (hn : n ≤ 8) : FunA B 171 [.int .i64 n] (fun rs o => rs = [.own 0 0] ∧ ∃ hs, o = [.mat hs (chL n) 0 true]) :=
  (FunA.mat (by rfl) (post := fun rows nn rest => rows = chL n ∧ nn = true ∧ rest = []) (c_l2ChainR n hn)).mono fun rs o ⟨hs, rows, nn, rest, ⟨h1, h2, h3⟩, h4, h5, h6⟩ => by subst h1 h2 h3; exact ⟨h5, hs, h6⟩
theorem c_l2CopyR (c : List (List Int)) (hc : c.length ≤ 100) (hr : ∀ r ∈ c, r.length ≤ 100) : FunA B 187 [.sl false (.row false) c] (fun rs o => ∃ ys g nn rest, (rw2 ys = c ∧ nn = true ∧ rest = []) ∧ (lb1 ys).Nodup ∧ rest.all flatAV = true ∧ rs = .own 0 g :: rest ∧ o = [.arr .lrow ys g nn]) := by
  refine FunA.walk B_ok (fn := Tryz.f187) (fun vs w => Tryz.call187 vs w) Tryz.func187 rfl (by rw [Tryz.ntmps187]; simp) (fun C hC hP hT hΓ hbt hfn hpin hfin => ?_); have hX := BX; rw [← hΓ, ← hbt.1, ← hbt.2.1, ← hbt.2.2.1] at hX; rw [hT] at hX; rw [Tryz.ntmps187]; simp only [AW7, simprocAttr, hX]
  refine Run.R ?_
  refine Run.R ?_
  refine Run.R ?_
  refine Run.loopI (X := List (Nat × List Int) × Nat) (fun y => ⟨22, [(0, true, .v (.sl false (.row false) (c))), (3, true, .v (.own 0 0)), (4, true, .v (.int .i64 (y.2)))], [.arr .lrow (y.1) 0 true]⟩) (fun y => y.2 ≤ c.length ∧ rw2 y.1 = c.take y.2 ∧ (lb1 y.1).Nodup) (fun y => c.length - y.2) (([], 0)) (⟨Nat.zero_le _, rfl, by simp [lb1]⟩) ?_ ?_
  · exact Le.sub (by first | rfl | simp) (by simp only [AW7, simprocAttr, hX]; try simp <;> try (first | rfl | exact ⟨rfl, rfl⟩ | exact ⟨rfl, rfl, rfl⟩))
  rintro ⟨ys, i⟩ ⟨hi, hE, hN⟩ ih
  try simp only []
  simp only [] at hi hE hN
  refine Run.R ?_
  refine Run.nq ?_; refine Run.cW ?_ ?_
  rotate_left
  · intro h
    have h : i = c.length := by rw [decide_eq_false_iff_not] at h; omega
    subst h
    refine Run.exit rfl ?_; refine Run.nq ?_
    refine Run.R ?_
    refine Run.rW [2] (hfin _ _ rfl rfl ?_)
    exact ⟨ys, 0, true, [], ⟨by rw [hE, List.take_length], rfl, rfl⟩, hN, rfl, rfl, rfl⟩
  intro h
  have h : i < c.length := by rw [decide_eq_true_eq] at h; omega
  have hyl : ys.length = i := by
    have : (rw2 ys).length = ys.length := by simp [rw2]
    rw [hE] at this
    simp at this
    omega
  have hrl : (c.getD i []).length ≤ 100 := by
    rw [List.getD_eq_getElem?_getD, List.getElem?_eq_getElem h]
    exact hr _ (List.getElem_mem h)
  refine Run.nq ?_; refine Run.regionW hC (fun K hK => ?_); refine wW ?_
  refine ⟨by simp only [List.length_nil]; omega, fun q hq => ⟨by simp only [List.length_cons, List.length_nil]; omega, ?_⟩⟩
  refine wE ?_; clear hK K
  refine Run.reK hpin [0, 3, 4] [0] (by decide) (by simp) ?_; simp only [AR, AW7, simprocAttr]
  have hnd2 : (lb1 (ys ++ [(q, c.getD i [])])).Nodup := by
    rw [lb1_app, List.nodup_append]
    refine ⟨hN, by simp [lb1], fun a ha b hb => ?_⟩
    simp [lb1] at hb
    subst hb
    obtain ⟨p, hp, rfl⟩ := List.mem_map.1 ha
    exact hq _ (List.mem_cons_self ..) _ _ _ rfl p hp
  have hE2 : rw2 (ys ++ [(q, c.getD i [])]) = c.take (i + 1) := by
    rw [← take_snoc [] c i h, ← hE]; simp [rw2]
  refine Run.RW ?_
  refine Run.le ?_ (ih ((ys ++ [(q, c.getD i [])], i + 1)) (⟨h, hE2, hnd2⟩) (by (try simp only [List.length_append, List.length_cons, List.length_nil]); omega))
  exact Le.sub (by rfl) (by simp only [AW7, simprocAttr]; try simp)
theorem c_l2Copy (c : List (List Int)) (hc : c.length ≤ 100) (hr : ∀ r ∈ c, r.length ≤ 100) : FunA B 187 [.sl false (.row false) c] (fun rs o => rs = [.own 0 0] ∧ ∃ hs, o = [.mat hs c 0 true]) :=
  (FunA.mat (by rfl) (post := fun rows nn rest => rows = c ∧ nn = true ∧ rest = []) (c_l2CopyR c hc hr)).mono fun rs o ⟨hs, rows, nn, rest, ⟨h1, h2, h3⟩, h4, h5, h6⟩ => by subst h1 h2 h3; exact ⟨h5, hs, h6⟩
def set1 (c : List (List Int)) (i j : Nat) (a : Int) : List (List Int) := c.set i ((c.getD i []).set j a)
theorem set1_len (c : List (List Int)) (i j : Nat) (a : Int) : (set1 c i j a).length = c.length := by simp [set1]
theorem set1_row (c : List (List Int)) (i j k : Nat) (a : Int) : ((set1 c i j a).getD k []).length = (c.getD k []).length := by
  unfold set1
  simp only [List.getD_eq_getElem?_getD]
  by_cases h : i = k
  · subst h
    by_cases hi : i < c.length
    · rw [List.getElem?_set_self hi]; simp
    · rw [List.set_eq_of_length_le (by omega)]
  · rw [List.getElem?_set_ne h]
theorem c_l2Set (c : List (List Int)) (i j : Nat) (a b : Int) (hc : c.length ≤ 100) (hr : ∀ r ∈ c, r.length ≤ 100) (hi : i < c.length) (hj : j < c.length) (h1 : j < (c.getD i []).length) (h2 : i < (c.getD j []).length) :
    FunA B 172 [.sl false (.row false) c, .int .i64 i, .int .i64 j, .int .i64 a, .int .i64 b] (fun rs o => rs = [.own 0 0] ∧ ∃ hs, o = [.mat hs (set1 (set1 c i j a) j i b) 0 true]) := by
  refine FunA.walk B_ok (fn := Tryz.f172) (fun vs w => Tryz.call172 vs w) Tryz.func172 rfl (by rw [Tryz.ntmps172]; simp) (fun C hC hP hT hΓ hbt hfn hpin hfin => ?_); have hX := BX; rw [← hΓ, ← hbt.1, ← hbt.2.1, ← hbt.2.2.1] at hX; rw [hT] at hX; rw [Tryz.ntmps172]; simp only [AW7, simprocAttr, hX]
  refine Run.R ?_
  refine Run.nq ?_; refine Run.regionW hC (fun K hK => ?_); refine wW ?_
  refine FunA.cW hP hT (c_l2Copy c hc hr) ?_
  rintro rs o ⟨rfl, hs, rfl⟩
  refine wW ?_
  refine wE ?_; clear hK K
  refine Run.matfact 0 rfl fun hl hd hz => ?_
  obtain ⟨q1, e1, m1, x1⟩ := mat_head hl hd hz hi (by omega)
  have hl2 : hs.length = (set1 c i j a).length := by rw [set1_len]; exact hl
  have hv1 : j < (c.getD (hs.idxOf (some q1)) []).length := by rw [x1]; exact h1
  have hs1 : setM hs c q1 j a = set1 c i j a := by unfold setM set1; rw [x1]
  refine Run.nq ?_; refine Run.regionW hC (fun K hK => ?_); refine wW ?_
  rw [e1]
  refine wW ?_
  refine wE ?_; clear hK K
  rw [hs1]
  refine Run.reK hpin [0, 1, 2, 3, 4, 11] [0] (by decide) (by simp) ?_; simp only [AR, AW7, simprocAttr]
  refine Run.matfact 0 rfl fun hl hd hz => ?_
  obtain ⟨q2, e2, m2, x2⟩ := mat_head (i := j) hl hd hz (by rw [set1_len]; exact hj) (by rw [set1_row]; omega)
  have hv2 : i < ((set1 c i j a).getD (hs.idxOf (some q2)) []).length := by rw [x2, set1_row]; exact h2
  have hs2 : setM hs (set1 c i j a) q2 i b = set1 (set1 c i j a) j i b := by unfold setM; rw [x2]; rfl
  have h2' := h2
  rw [← set1_row c i j j a] at h2'
  have hj' : j < (set1 c i j a).length := by rw [set1_len]; exact hj
  refine Run.nq ?_; refine Run.regionW hC (fun K hK => ?_); refine wW ?_
  rw [e2]
  refine wW ?_
  refine wE ?_; clear hK K
  rw [hs2]
  refine Run.R ?_
  refine Run.reK hpin [10] [0] (by decide) (by simp) ?_; simp only [AR, AW7, simprocAttr]
  refine Run.rW [10] (hfin _ _ rfl rfl ?_)
  exact ⟨rfl, hs, rfl⟩
end Go.Proofs.YtaghdbbcadhjdaaGreatDoor
namespace Go.Proofs.YtaghdbbcadhjdaaGreatDoor
open Go Go.Aw
def tcM : List UInt8 → List (List Int)
  | [65, 49] => chL 1
  | [65, 50] => chL 2
  | [65, 51] => chL 3
  | [65, 52] => chL 4
  | [66, 50] => set1 (set1 (chL 2) 0 1 (-1)) 1 0 (-2)
  | [66, 51] => set1 (set1 (chL 3) 1 2 (-1)) 2 1 (-2)
  | [66, 52] => set1 (set1 (chL 4) 2 3 (-1)) 3 2 (-2)
  | [67, 51] => set1 (set1 (chL 3) 1 2 (-2)) 2 1 (-1)
  | [67, 52] => set1 (set1 (chL 4) 2 3 (-2)) 3 2 (-1)
  | [68, 52] => set1 (set1 (set1 (set1 (chL 4) 2 3 (0)) 3 2 (0)) 1 3 (-1)) 3 1 (-1)
  | [70, 52] => set1 (set1 (chL 4) 1 2 (-1)) 2 1 (-2)
  | [71, 50] => set1 (set1 (chL 2) 0 1 (-1)) 1 0 (-3)
  | [65, 49, 126] => set1 (set1 (chL 2) 0 1 (-2)) 1 0 (-2)
  | [65, 50, 126] => set1 (set1 (chL 3) 0 2 (-1)) 2 0 (-1)
  | [65, 51, 126] => set1 (set1 (chL 4) 0 3 (-1)) 3 0 (-1)
  | [67, 50, 126] => set1 (set1 (set1 (set1 (chL 3) 0 1 (-1)) 1 0 (-2)) 1 2 (-2)) 2 1 (-1)
  | [71, 50, 126] => set1 (set1 (chL 3) 1 2 (-1)) 2 1 (-3)
  | _ => []
def tcN : List (List UInt8) := [[65, 49], [65, 50], [65, 51], [65, 52], [66, 50], [66, 51], [66, 52], [67, 51], [67, 52], [68, 52], [70, 52], [71, 50], [65, 49, 126], [65, 50, 126], [65, 51, 126], [67, 50, 126], [71, 50, 126]]
set_option maxHeartbeats 1000000 in
theorem c_TypeCartan (nm : List UInt8) (hm : nm ∈ tcN) : FunA B 148 [.str nm] (fun rs o => rs = [.own 0 0, .bool true] ∧ ∃ hs, o = [.mat hs (tcM nm) 0 true]) := by
  refine FunA.walk B_ok (fn := Tryz.f148) (fun vs w => Tryz.call148 vs w) Tryz.func148 rfl (by rw [Tryz.ntmps148]; simp) (fun C hC hP hT hΓ hbt hfn hpin hfin => ?_); have hX := BX; rw [← hΓ, ← hbt.1, ← hbt.2.1, ← hbt.2.2.1] at hX; rw [hT] at hX; rw [Tryz.ntmps148]; simp only [AW7, simprocAttr, hX]
  refine Run.R ?_
  refine Run.R ?_
  refine Run.R ?_
  refine Run.nq ?_; refine Run.cW ?_ ?_
  · intro h
    have h : nm = [65, 49] := by simpa using h
    subst h
    refine Run.nq ?_; refine Run.cW ?_ ?_
    rotate_left
    · intro h; exact absurd h (by decide)
    intro _
    refine Run.nq ?_; refine Run.regionW hC (fun K hK => ?_); refine wW ?_
    refine FunA.callW hP hT (c_l2Chain 1 (by omega)) (by simp only [AW7, simprocAttr]; first | rfl | trivial) ?_
    rintro rs o ⟨rfl, hs, rfl⟩
    refine wW ?_
    refine wE ?_; clear hK K
    refine Run.reK hpin [2, 3] [0] (by decide) (by simp) ?_; simp only [AR, AW7, simprocAttr]
    refine Run.rW [2, 3] (hfin _ _ rfl rfl ?_)
    exact ⟨rfl, hs, rfl⟩
  intro n0
  have n0 : ¬ nm = [65, 49] := by simpa using n0
  refine Run.R ?_
  refine Run.nq ?_; refine Run.cW ?_ ?_
  · intro h
    have h : nm = [65, 50] := by simpa using h
    subst h
    refine Run.nq ?_; refine Run.cW ?_ ?_
    rotate_left
    · intro h; exact absurd h (by decide)
    intro _
    refine Run.nq ?_; refine Run.regionW hC (fun K hK => ?_); refine wW ?_
    refine FunA.callW hP hT (c_l2Chain 2 (by omega)) (by simp only [AW7, simprocAttr]; first | rfl | trivial) ?_
    rintro rs o ⟨rfl, hs, rfl⟩
    refine wW ?_
    refine wE ?_; clear hK K
    refine Run.reK hpin [2, 3] [0] (by decide) (by simp) ?_; simp only [AR, AW7, simprocAttr]
    refine Run.rW [2, 3] (hfin _ _ rfl rfl ?_)
    exact ⟨rfl, hs, rfl⟩
  intro n1
  have n1 : ¬ nm = [65, 50] := by simpa using n1
  refine Run.R ?_
  refine Run.nq ?_; refine Run.cW ?_ ?_
  · intro h
    have h : nm = [65, 51] := by simpa using h
    subst h
    refine Run.nq ?_; refine Run.cW ?_ ?_
    rotate_left
    · intro h; exact absurd h (by decide)
    intro _
    refine Run.nq ?_; refine Run.regionW hC (fun K hK => ?_); refine wW ?_
    refine FunA.callW hP hT (c_l2Chain 3 (by omega)) (by simp only [AW7, simprocAttr]; first | rfl | trivial) ?_
    rintro rs o ⟨rfl, hs, rfl⟩
    refine wW ?_
    refine wE ?_; clear hK K
    refine Run.reK hpin [2, 3] [0] (by decide) (by simp) ?_; simp only [AR, AW7, simprocAttr]
    refine Run.rW [2, 3] (hfin _ _ rfl rfl ?_)
    exact ⟨rfl, hs, rfl⟩
  intro n2
  have n2 : ¬ nm = [65, 51] := by simpa using n2
  refine Run.R ?_
  refine Run.nq ?_; refine Run.cW ?_ ?_
  · intro h
    have h : nm = [65, 52] := by simpa using h
    subst h
    refine Run.nq ?_; refine Run.regionW hC (fun K hK => ?_); refine wW ?_
    refine FunA.callW hP hT (c_l2Chain 4 (by omega)) (by simp only [AW7, simprocAttr]; first | rfl | trivial) ?_
    rintro rs o ⟨rfl, hs, rfl⟩
    refine wW ?_
    refine wE ?_; clear hK K
    refine Run.reK hpin [2, 3] [0] (by decide) (by simp) ?_; simp only [AR, AW7, simprocAttr]
    refine Run.rW [2, 3] (hfin _ _ rfl rfl ?_)
    exact ⟨rfl, hs, rfl⟩
  intro n3
  have n3 : ¬ nm = [65, 52] := by simpa using n3
  refine Run.R ?_
  refine Run.nq ?_; refine Run.cW ?_ ?_
  · intro h
    have h : nm = [66, 50] := by simpa using h
    subst h
    refine Run.nq ?_; refine Run.regionW hC (fun K hK => ?_); refine wW ?_
    refine FunA.cW hP hT (c_l2Chain 2 (by omega)) ?_
    rintro rs o ⟨rfl, hs, rfl⟩
    refine wW ?_
    refine FunA.cW hP hT (c_l2Set (chL 2) 0 1 (-1) (-2) (by decide) (by decide) (by decide) (by decide) (by decide) (by decide)) ?_
    rintro rs o ⟨rfl, hs1, rfl⟩
    refine wW ?_
    refine wE ?_; clear hK K
    refine Run.reK hpin [2, 3] [1] (by decide) (by simp) ?_; simp only [AR, AW7, simprocAttr]
    refine Run.rW [2, 3] (hfin _ _ rfl rfl ?_)
    exact ⟨rfl, hs1, rfl⟩
  intro n4
  have n4 : ¬ nm = [66, 50] := by simpa using n4
  refine Run.R ?_
  refine Run.nq ?_; refine Run.cW ?_ ?_
  · intro h
    have h : nm = [66, 51] := by simpa using h
    subst h
    refine Run.nq ?_; refine Run.regionW hC (fun K hK => ?_); refine wW ?_
    refine FunA.cW hP hT (c_l2Chain 3 (by omega)) ?_
    rintro rs o ⟨rfl, hs, rfl⟩
    refine wW ?_
    refine FunA.cW hP hT (c_l2Set (chL 3) 1 2 (-1) (-2) (by decide) (by decide) (by decide) (by decide) (by decide) (by decide)) ?_
    rintro rs o ⟨rfl, hs1, rfl⟩
    refine wW ?_
    refine wE ?_; clear hK K
    refine Run.reK hpin [2, 3] [1] (by decide) (by simp) ?_; simp only [AR, AW7, simprocAttr]
    refine Run.rW [2, 3] (hfin _ _ rfl rfl ?_)
    exact ⟨rfl, hs1, rfl⟩
  intro n5
  have n5 : ¬ nm = [66, 51] := by simpa using n5
  refine Run.R ?_
  refine Run.nq ?_; refine Run.cW ?_ ?_
  · intro h
    have h : nm = [66, 52] := by simpa using h
    subst h
    refine Run.nq ?_; refine Run.regionW hC (fun K hK => ?_); refine wW ?_
    refine FunA.cW hP hT (c_l2Chain 4 (by omega)) ?_
    rintro rs o ⟨rfl, hs, rfl⟩
    refine wW ?_
    refine FunA.cW hP hT (c_l2Set (chL 4) 2 3 (-1) (-2) (by decide) (by decide) (by decide) (by decide) (by decide) (by decide)) ?_
    rintro rs o ⟨rfl, hs1, rfl⟩
    refine wW ?_
    refine wE ?_; clear hK K
    refine Run.reK hpin [2, 3] [1] (by decide) (by simp) ?_; simp only [AR, AW7, simprocAttr]
    refine Run.rW [2, 3] (hfin _ _ rfl rfl ?_)
    exact ⟨rfl, hs1, rfl⟩
  intro n6
  have n6 : ¬ nm = [66, 52] := by simpa using n6
  refine Run.R ?_
  refine Run.nq ?_; refine Run.cW ?_ ?_
  · intro h
    have h : nm = [67, 51] := by simpa using h
    subst h
    refine Run.nq ?_; refine Run.regionW hC (fun K hK => ?_); refine wW ?_
    refine FunA.cW hP hT (c_l2Chain 3 (by omega)) ?_
    rintro rs o ⟨rfl, hs, rfl⟩
    refine wW ?_
    refine FunA.cW hP hT (c_l2Set (chL 3) 1 2 (-2) (-1) (by decide) (by decide) (by decide) (by decide) (by decide) (by decide)) ?_
    rintro rs o ⟨rfl, hs1, rfl⟩
    refine wW ?_
    refine wE ?_; clear hK K
    refine Run.reK hpin [2, 3] [1] (by decide) (by simp) ?_; simp only [AR, AW7, simprocAttr]
    refine Run.rW [2, 3] (hfin _ _ rfl rfl ?_)
    exact ⟨rfl, hs1, rfl⟩
  intro n7
  have n7 : ¬ nm = [67, 51] := by simpa using n7
  refine Run.R ?_
  refine Run.nq ?_; refine Run.cW ?_ ?_
  · intro h
    have h : nm = [67, 52] := by simpa using h
    subst h
    refine Run.nq ?_; refine Run.regionW hC (fun K hK => ?_); refine wW ?_
    refine FunA.cW hP hT (c_l2Chain 4 (by omega)) ?_
    rintro rs o ⟨rfl, hs, rfl⟩
    refine wW ?_
    refine FunA.cW hP hT (c_l2Set (chL 4) 2 3 (-2) (-1) (by decide) (by decide) (by decide) (by decide) (by decide) (by decide)) ?_
    rintro rs o ⟨rfl, hs1, rfl⟩
    refine wW ?_
    refine wE ?_; clear hK K
    refine Run.reK hpin [2, 3] [1] (by decide) (by simp) ?_; simp only [AR, AW7, simprocAttr]
    refine Run.rW [2, 3] (hfin _ _ rfl rfl ?_)
    exact ⟨rfl, hs1, rfl⟩
  intro n8
  have n8 : ¬ nm = [67, 52] := by simpa using n8
  refine Run.R ?_
  refine Run.nq ?_; refine Run.cW ?_ ?_
  · intro h
    have h : nm = [68, 52] := by simpa using h
    subst h
    refine Run.nq ?_; refine Run.regionW hC (fun K hK => ?_); refine wW ?_
    refine FunA.cW hP hT (c_l2Chain 4 (by omega)) ?_
    rintro rs o ⟨rfl, hs, rfl⟩
    refine wW ?_
    refine FunA.cW hP hT (c_l2Set (chL 4) 2 3 (0) (0) (by decide) (by decide) (by decide) (by decide) (by decide) (by decide)) ?_
    rintro rs o ⟨rfl, hs1, rfl⟩
    refine wW ?_
    refine FunA.cW hP hT (c_l2Set (set1 (set1 (chL 4) 2 3 (0)) 3 2 (0)) 1 3 (-1) (-1) (by decide) (by decide) (by decide) (by decide) (by decide) (by decide)) ?_
    rintro rs o ⟨rfl, hs2, rfl⟩
    refine wW ?_
    refine wE ?_; clear hK K
    refine Run.reK hpin [2, 3] [2] (by decide) (by simp) ?_; simp only [AR, AW7, simprocAttr]
    refine Run.rW [2, 3] (hfin _ _ rfl rfl ?_)
    exact ⟨rfl, hs2, rfl⟩
  intro n9
  have n9 : ¬ nm = [68, 52] := by simpa using n9
  refine Run.R ?_
  refine Run.nq ?_; refine Run.cW ?_ ?_
  · intro h
    have h : nm = [70, 52] := by simpa using h
    subst h
    refine Run.nq ?_; refine Run.regionW hC (fun K hK => ?_); refine wW ?_
    refine FunA.cW hP hT (c_l2Chain 4 (by omega)) ?_
    rintro rs o ⟨rfl, hs, rfl⟩
    refine wW ?_
    refine FunA.cW hP hT (c_l2Set (chL 4) 1 2 (-1) (-2) (by decide) (by decide) (by decide) (by decide) (by decide) (by decide)) ?_
    rintro rs o ⟨rfl, hs1, rfl⟩
    refine wW ?_
    refine wE ?_; clear hK K
    refine Run.reK hpin [2, 3] [1] (by decide) (by simp) ?_; simp only [AR, AW7, simprocAttr]
    refine Run.rW [2, 3] (hfin _ _ rfl rfl ?_)
    exact ⟨rfl, hs1, rfl⟩
  intro n10
  have n10 : ¬ nm = [70, 52] := by simpa using n10
  refine Run.R ?_
  refine Run.nq ?_; refine Run.cW ?_ ?_
  · intro h
    have h : nm = [71, 50] := by simpa using h
    subst h
    refine Run.nq ?_; refine Run.regionW hC (fun K hK => ?_); refine wW ?_
    refine FunA.cW hP hT (c_l2Chain 2 (by omega)) ?_
    rintro rs o ⟨rfl, hs, rfl⟩
    refine wW ?_
    refine FunA.cW hP hT (c_l2Set (chL 2) 0 1 (-1) (-3) (by decide) (by decide) (by decide) (by decide) (by decide) (by decide)) ?_
    rintro rs o ⟨rfl, hs1, rfl⟩
    refine wW ?_
    refine wE ?_; clear hK K
    refine Run.reK hpin [2, 3] [1] (by decide) (by simp) ?_; simp only [AR, AW7, simprocAttr]
    refine Run.rW [2, 3] (hfin _ _ rfl rfl ?_)
    exact ⟨rfl, hs1, rfl⟩
  intro n11
  have n11 : ¬ nm = [71, 50] := by simpa using n11
  refine Run.R ?_
  refine Run.nq ?_; refine Run.cW ?_ ?_
  · intro h
    have h : nm = [65, 49, 126] := by simpa using h
    subst h
    refine Run.nq ?_; refine Run.regionW hC (fun K hK => ?_); refine wW ?_
    refine FunA.cW hP hT (c_l2Chain 2 (by omega)) ?_
    rintro rs o ⟨rfl, hs, rfl⟩
    refine wW ?_
    refine FunA.cW hP hT (c_l2Set (chL 2) 0 1 (-2) (-2) (by decide) (by decide) (by decide) (by decide) (by decide) (by decide)) ?_
    rintro rs o ⟨rfl, hs1, rfl⟩
    refine wW ?_
    refine wE ?_; clear hK K
    refine Run.reK hpin [2, 3] [1] (by decide) (by simp) ?_; simp only [AR, AW7, simprocAttr]
    refine Run.rW [2, 3] (hfin _ _ rfl rfl ?_)
    exact ⟨rfl, hs1, rfl⟩
  intro n12
  have n12 : ¬ nm = [65, 49, 126] := by simpa using n12
  refine Run.R ?_
  refine Run.nq ?_; refine Run.cW ?_ ?_
  · intro h
    have h : nm = [65, 50, 126] := by simpa using h
    subst h
    refine Run.nq ?_; refine Run.regionW hC (fun K hK => ?_); refine wW ?_
    refine FunA.cW hP hT (c_l2Chain 3 (by omega)) ?_
    rintro rs o ⟨rfl, hs, rfl⟩
    refine wW ?_
    refine FunA.cW hP hT (c_l2Set (chL 3) 0 2 (-1) (-1) (by decide) (by decide) (by decide) (by decide) (by decide) (by decide)) ?_
    rintro rs o ⟨rfl, hs1, rfl⟩
    refine wW ?_
    refine wE ?_; clear hK K
    refine Run.reK hpin [2, 3] [1] (by decide) (by simp) ?_; simp only [AR, AW7, simprocAttr]
    refine Run.rW [2, 3] (hfin _ _ rfl rfl ?_)
    exact ⟨rfl, hs1, rfl⟩
  intro n13
  have n13 : ¬ nm = [65, 50, 126] := by simpa using n13
  refine Run.R ?_
  refine Run.nq ?_; refine Run.cW ?_ ?_
  · intro h
    have h : nm = [65, 51, 126] := by simpa using h
    subst h
    refine Run.nq ?_; refine Run.regionW hC (fun K hK => ?_); refine wW ?_
    refine FunA.cW hP hT (c_l2Chain 4 (by omega)) ?_
    rintro rs o ⟨rfl, hs, rfl⟩
    refine wW ?_
    refine FunA.cW hP hT (c_l2Set (chL 4) 0 3 (-1) (-1) (by decide) (by decide) (by decide) (by decide) (by decide) (by decide)) ?_
    rintro rs o ⟨rfl, hs1, rfl⟩
    refine wW ?_
    refine wE ?_; clear hK K
    refine Run.reK hpin [2, 3] [1] (by decide) (by simp) ?_; simp only [AR, AW7, simprocAttr]
    refine Run.rW [2, 3] (hfin _ _ rfl rfl ?_)
    exact ⟨rfl, hs1, rfl⟩
  intro n14
  have n14 : ¬ nm = [65, 51, 126] := by simpa using n14
  refine Run.R ?_
  refine Run.nq ?_; refine Run.cW ?_ ?_
  · intro h
    have h : nm = [67, 50, 126] := by simpa using h
    subst h
    refine Run.nq ?_; refine Run.regionW hC (fun K hK => ?_); refine wW ?_
    refine FunA.cW hP hT (c_l2Chain 3 (by omega)) ?_
    rintro rs o ⟨rfl, hs, rfl⟩
    refine wW ?_
    refine FunA.cW hP hT (c_l2Set (chL 3) 0 1 (-1) (-2) (by decide) (by decide) (by decide) (by decide) (by decide) (by decide)) ?_
    rintro rs o ⟨rfl, hs1, rfl⟩
    refine wW ?_
    refine FunA.cW hP hT (c_l2Set (set1 (set1 (chL 3) 0 1 (-1)) 1 0 (-2)) 1 2 (-2) (-1) (by decide) (by decide) (by decide) (by decide) (by decide) (by decide)) ?_
    rintro rs o ⟨rfl, hs2, rfl⟩
    refine wW ?_
    refine wE ?_; clear hK K
    refine Run.reK hpin [2, 3] [2] (by decide) (by simp) ?_; simp only [AR, AW7, simprocAttr]
    refine Run.rW [2, 3] (hfin _ _ rfl rfl ?_)
    exact ⟨rfl, hs2, rfl⟩
  intro n15
  have n15 : ¬ nm = [67, 50, 126] := by simpa using n15
  refine Run.R ?_
  refine Run.nq ?_; refine Run.cW ?_ ?_
  · intro h
    have h : nm = [71, 50, 126] := by simpa using h
    subst h
    refine Run.nq ?_; refine Run.regionW hC (fun K hK => ?_); refine wW ?_
    refine FunA.cW hP hT (c_l2Chain 3 (by omega)) ?_
    rintro rs o ⟨rfl, hs, rfl⟩
    refine wW ?_
    refine FunA.cW hP hT (c_l2Set (chL 3) 1 2 (-1) (-3) (by decide) (by decide) (by decide) (by decide) (by decide) (by decide)) ?_
    rintro rs o ⟨rfl, hs1, rfl⟩
    refine wW ?_
    refine wE ?_; clear hK K
    refine Run.reK hpin [2, 3] [1] (by decide) (by simp) ?_; simp only [AR, AW7, simprocAttr]
    refine Run.rW [2, 3] (hfin _ _ rfl rfl ?_)
    exact ⟨rfl, hs1, rfl⟩
  intro n16
  have n16 : ¬ nm = [71, 50, 126] := by simpa using n16
  exact absurd hm (by simp [tcN, n0, n1, n2, n3, n4, n5, n6, n7, n8, n9, n10, n11, n12, n13, n14, n15, n16])
end Go.Proofs.YtaghdbbcadhjdaaGreatDoor
namespace Go.Proofs.YtaghdbbcadhjdaaGreatDoor
open Go Go.Aw Go.Cox
def badB (c : List (List Int)) (i j : Nat) : Bool := bif i == j then !decide (ent c i j = 2) else decide (ent c i j < -3) || decide (0 < ent c i j) || (decide (ent c i j = 0) != decide (ent c j i = 0))
def ctB (c : List (List Int)) : Bool := Nat.ble 1 c.length && Nat.ble c.length 4 && (List.range c.length).all (fun i => (c.getD i []).length == c.length) && (List.range c.length).all fun i => (List.range c.length).all fun j => !badB c i j
theorem badB_iff (c : List (List Int)) (i j : Nat) : badB c i j = true ↔ badE c i j := by
  unfold badB badE
  by_cases h : i = j
  · subst h; simp
  · have : (i == j) = false := by simpa using h
    rw [this]
    simp only [cond_false, h, false_and, false_or, ne_eq, not_false_eq_true, true_and, Bool.or_eq_true, decide_eq_true_eq, bne_iff_ne, or_assoc]
    constructor
    · rintro (h1 | h1 | h1)
      · exact .inl h1
      · exact .inr (.inl h1)
      · refine .inr (.inr fun h2 => h1 ?_)
        rw [Bool.eq_iff_iff, decide_eq_true_eq, decide_eq_true_eq]; exact h2
    · rintro (h1 | h1 | h1)
      · exact .inl h1
      · exact .inr (.inl h1)
      · refine .inr (.inr fun h2 => h1 ?_)
        rw [Bool.eq_iff_iff, decide_eq_true_eq, decide_eq_true_eq] at h2; exact h2
theorem ctB_eq (c : List (List Int)) : isC c = ctB c := by
  rw [Bool.eq_iff_iff, isC_iff]
  simp only [ctB, CartanP, Bool.and_eq_true, List.all_eq_true, List.mem_range, Bool.not_eq_true', beq_iff_eq, Nat.ble_eq]
  constructor
  · rintro ⟨h1, h2, h3, h4⟩
    refine ⟨⟨⟨h1, h2⟩, h3⟩, fun i hi j hj => ?_⟩
    rw [Bool.eq_false_iff]
    exact fun e => h4 i j hi hj ((badB_iff c i j).1 e)
  · rintro ⟨⟨⟨h1, h2⟩, h3⟩, h4⟩
    refine ⟨h1, h2, h3, fun i j hi hj e => ?_⟩
    have := h4 i hi j hj
    rw [(badB_iff c i j).2 e] at this
    cases this
def nbI (c : List (List Int)) (i : Nat) : List Int := ((List.range c.length).filter fun j => !(j == i) && !(ent c i j == 0)).map Int.ofNat
def stJ (p : List Bool × List Int) (j : Int) : List Bool × List Int := bif p.1.getD j.toNat false then p else (p.1.set j.toNat true, p.2 ++ [j])
def grP (c : List (List Int)) : Nat → Nat → List Bool × List Int → List Bool × List Int
  | 0, _, p => p
  | f + 1, k, p => bif Nat.blt k p.2.length then grP c f (k + 1) ((nbI c (p.2.getD k 0).toNat).foldl stJ p) else p
def insI (x : Int) : List Int → List Int
  | [] => [x]
  | y :: l => bif decide (x ≤ y) then x :: y :: l else y :: insI x l
def sortI (l : List Int) : List Int := l.foldr insI []
def ptS (c : List (List Int)) (p : List Bool × List (List Int)) (i : Nat) : List Bool × List (List Int) :=
  bif p.1.getD i false then p else ((grP c (c.length + 1) 0 (p.1.set i true, [(i : Int)])).1, p.2 ++ [sortI (grP c (c.length + 1) 0 (p.1.set i true, [(i : Int)])).2])
def partsI (c : List (List Int)) : List (List Int) := ((List.range c.length).foldl (ptS c) (List.replicate c.length false, [])).2
def partS (c : List (List Int)) (i : Nat) : List Int := ((List.range c.length).filter fun (k : Nat) => (grP c (c.length + 1) 0 ((List.replicate c.length false).set i true, [(i : Int)])).1.getD k false).map Int.ofNat
def partsS (c : List (List Int)) : List (List Int) := ((List.range c.length).map (partS c)).zipIdx.filterMap fun p => bif p.1.getD 0 0 == (p.2 : Int) then some p.1 else none
def tyL : List (List UInt8 × List (List Int) × Nat) := [
  ([65, 49], [[2]], 2), ([65, 50], [[2, -1], [-1, 2]], 6), ([65, 51], [[2, -1, 0], [-1, 2, -1], [0, -1, 2]], 24), ([65, 52], [[2, -1, 0, 0], [-1, 2, -1, 0], [0, -1, 2, -1], [0, 0, -1, 2]], 120),
  ([66, 50], [[2, -1], [-2, 2]], 8), ([66, 51], [[2, -1, 0], [-1, 2, -1], [0, -2, 2]], 48), ([66, 52], [[2, -1, 0, 0], [-1, 2, -1, 0], [0, -1, 2, -1], [0, 0, -2, 2]], 384),
  ([67, 51], [[2, -1, 0], [-1, 2, -2], [0, -1, 2]], 48), ([67, 52], [[2, -1, 0, 0], [-1, 2, -1, 0], [0, -1, 2, -2], [0, 0, -1, 2]], 384),
  ([68, 52], [[2, -1, 0, 0], [-1, 2, -1, -1], [0, -1, 2, 0], [0, -1, 0, 2]], 192), ([70, 52], [[2, -1, 0, 0], [-1, 2, -1, 0], [0, -2, 2, -1], [0, 0, -1, 2]], 1152), ([71, 50], [[2, -1], [-3, 2]], 12),
  ([65, 49, 126], [[2, -2], [-2, 2]], 0), ([65, 50, 126], [[2, -1, -1], [-1, 2, -1], [-1, -1, 2]], 0), ([65, 51, 126], [[2, -1, 0, -1], [-1, 2, -1, 0], [0, -1, 2, -1], [-1, 0, -1, 2]], 0),
  ([67, 50, 126], [[2, -1, 0], [-2, 2, -2], [0, -1, 2]], 0), ([71, 50, 126], [[2, -1, 0], [-1, 2, -1], [0, -3, 2]], 0)]
def fitM (a b : List (List Int)) (order : List Int) (i : Nat) : Bool := order.zipIdx.all fun p => decide (ent a i p.1.toNat = ent b order.length p.2) && decide (ent a p.1.toNat i = ent b p.2 order.length)
def mtL (a b : List (List Int)) (rec : List Int → Int → List (List Int)) (order : List Int) (most : Int) : List Nat → List (List Int) → List (List Int)
  | [], out => out
  | i :: r, out => bif decide ((i : Int) ∈ order) then mtL a b rec order most r out else
      bif decide (most ≤ ((out ++ (bif fitM a b order i then rec (order ++ [(i : Int)]) (most - out.length) else [])).length : Int)) then out ++ (bif fitM a b order i then rec (order ++ [(i : Int)]) (most - out.length) else [])
      else mtL a b rec order most r (out ++ (bif fitM a b order i then rec (order ++ [(i : Int)]) (most - out.length) else []))
def mtI (a b : List (List Int)) : Nat → List Int → Int → List (List Int)
  | 0, order, _ => [order]
  | f + 1, order, most => mtL a b (mtI a b f) order most (List.range a.length) []
def isoI (a b : List (List Int)) : Bool := a.length == b.length && (ctB a && ctB b && !(mtI a b b.length [] 1).isEmpty)
def firstT (iso : List (List Int) → List (List Int) → Bool) (a : List (List Int)) : List (List UInt8 × List (List Int) × Nat) → List UInt8
  | [] => [63]
  | t :: l => bif iso a t.2.1 then t.1 else firstT iso a l
def nameI (a : List (List Int)) : List UInt8 := bif ctB a && (partsI a).length == 1 then firstT isoI a tyL else []
def ordN (n : Nat) : Nat → List (List Int)
  | 0 => [[]]
  | k + 1 => (ordN n k).flatMap fun o => ((List.range n).filter fun (x : Nat) => !decide ((x : Int) ∈ o)).map fun (x : Nat) => o ++ [(x : Int)]
def isoS (a b : List (List Int)) : Bool := a.length == b.length && (ctB a && ctB b && (ordN a.length a.length).any fun o => decide (pick a o = b))
def nameS (a : List (List Int)) : List UInt8 := firstT isoS a tyL
def joinX : List (List UInt8) → List UInt8
  | [] => []
  | [x] => x
  | x :: y :: l => x ++ [120] ++ joinX (y :: l)
def cutX : List UInt8 → List UInt8 → List (List UInt8)
  | p, [] => [p]
  | p, b :: l => bif b == 120 then p :: cutX [] l else cutX (p ++ [b]) l
def sizeT (s : List UInt8) : Nat := match tyL.find? (fun t => t.1 == s) with
  | some t => t.2.2
  | none => 0
def sizeL (l : List (List UInt8)) : Int := bif Nat.ble l.length 4 then l.foldl (fun n p => n * (sizeT p : Int)) 1 else 0
def sizeI (c : List (List Int)) : Int := sizeL (cutX [] (joinX ((partsI c).map fun p => nameI (pick c p))))
def sizeS (c : List (List Int)) : Int := sizeL (cutX [] (joinX ((partsS c).map fun p => nameS (pick c p))))
def rf1 (a : Int) : List Int → List Int → List Int
  | x :: v, y :: col => Int.sub x (Int.mul a y) :: rf1 a v col
  | _, _ => []
def posI : Int → Bool
  | .ofNat 0 => false
  | .ofNat (_ + 1) => true
  | .negSucc _ => false
def nngI : Int → Bool
  | .ofNat _ => true
  | .negSucc _ => false
def preI : Nat → List Int → Bool
  | 0, _ => true
  | i + 1, y :: l => nngI y && preI i l
  | _, [] => true
def nxC (x : List Int) : Nat → List Int → List (List Int) → List (List Int)
  | i, a :: r, col :: cs => bif posI a then (bif preI i (rf1 a x col) then rf1 a x col :: nxC x (i + 1) r cs else nxC x (i + 1) r cs) else nxC x (i + 1) r cs
  | _, _, _ => []
def colsI (c : List (List Int)) : List (List Int) := (List.range c.length).map fun i => (List.range c.length).map fun k => ent c k i
def cntG (cols : List (List Int)) : Nat → List (List Int) → Nat
  | 0, _ => 0
  | f + 1, sh => bif sh.isEmpty then 0 else sh.length + cntG cols f (sh.flatMap fun x => nxC x 0 x cols)
def cntN (c : List (List Int)) : Nat := cntG (colsI c) 25 [ones c.length]
def chkN (c : List (List Int)) : Bool := decide (sizeI c = sizeS c) && decide (0 < sizeI c) && (decide (200 < sizeI c) || decide ((cntN c : Int) = sizeI c))
end Go.Proofs.YtaghdbbcadhjdaaGreatDoor
