/- Contracts: what a call of a function comes to, on abstract values; how a walk proves one and how a walk uses one. -/
import Derived.Test.YtbeeblhmgpgkjaaAw9
set_option linter.unusedVariables false
set_option linter.unusedSimpArgs false
namespace Go.Aw
open Go

/-- The same tables, another call. -/
def Ctx.enter (B : Ctx) (fn : Func) (R : Ending → World → Prop) (w0 : World) (M : Nat → Prop) : Ctx := { B with fn := fn, R := R, w0 := w0, M := M, pin := [] }

theorem Ctx.Ok.enter {B : Ctx} (h : B.Ok) (fn : Func) (R : Ending → World → Prop) (w0 : World) (M : Nat → Prop) : (B.enter fn R w0 M).Ok := ⟨h.sl, h.slc, h.bt, h.same, h.mixed⟩

def pack (us : List Value) : Value := if h : us.length = 1 then us[0] else .tuple us.toArray

/-- Kinds whose contents lie in memory of the call's own making. -/
def freshE : E → Bool
  | .row f => f
  | _ => true

def freshAV : AV → Bool
  | .sl f e _ => f && freshE e
  | .relt .. => false
  | .elt .. => false
  | .hdr .. => false
  | .emp .. => false
  | _ => true

def freshO : O → Bool
  | .dead => true
  | .arr e _ _ _ => freshE e
  | .mat .. => true

/-- The ground of a call that owns nothing at its start. -/
def Ctx.bare (B : Ctx) (w : World) : Ctx := B.enter default (fun _ _ => True) w (fun _ => False)

/-- A call that only reads what it is handed. -/
def FunA (B : Ctx) (f : FuncId) (args : List AV) (post : List AV → List O → Prop) : Prop :=
  (∀ (vs : Array Value) (w : World), (callFunc f vs).run B.P w = .ok (.enter f vs) w) ∧
  ∀ w (vs : List Value), vs.length = args.length → (∀ (i : Nat) (x : AV) (v : Value), args[i]? = some x → vs[i]? = some v → AVRel ((B.bare w).V w [] (fun _ => undef)) [] (fun _ => undef) x v) →
    Calls B.P f vs.toArray w fun e w' => ∃ us : List Value, e = .returned (pack us) ∧ ∃ xs obs' ρ', post xs obs' ∧ us.length = xs.length ∧
      (∀ (i : Nat) (x : AV) (v : Value), xs[i]? = some x → us[i]? = some v → AVRel ((B.bare w).V w' obs' ρ') obs' ρ' x v) ∧ WRel (B.bare w) obs' w' ρ' ∧ xs.all freshAV = true ∧ obs'.all freshO = true

theorem FunA.mono {B : Ctx} {f : FuncId} {args : List AV} {post post' : List AV → List O → Prop} (h : FunA B f args post) (hp : ∀ x o, post x o → post' x o) : FunA B f args post' :=
  ⟨h.1, fun w vs hl ha => (h.2 w vs hl ha).mono fun _ _ ⟨us, he, xs, o, ρ', k, r⟩ => ⟨us, he, xs, o, ρ', hp _ _ k, r⟩⟩

/-- The frame as a call begins. -/
def entry (args : List AV) (n : Nat) : St := ⟨n, (args.zipIdx).map (fun p => (p.2, true, .v p.1)), []⟩

/-- The walk's own R. -/
def RA (B : Ctx) (w : World) (post : List AV → List O → Prop) : Ending → World → Prop := fun e w' => ∃ us : List Value, e = .returned (pack us) ∧ ∃ xs obs' ρ', post xs obs' ∧ us.length = xs.length ∧
      (∀ (i : Nat) (x : AV) (v : Value), xs[i]? = some x → us[i]? = some v → AVRel ((B.bare w).V w' obs' ρ') obs' ρ' x v) ∧ WRel (B.bare w) obs' w' ρ' ∧ xs.all freshAV = true ∧ obs'.all freshO = true

theorem look_zip (args : List AV) : ∀ (s i : Nat) (ex : Bool) (x : Sl), look s ((args.zipIdx i).map (fun p => (p.2, true, Sl.v p.1))) = some (ex, x) → ∃ k y, s = i + k ∧ args[k]? = some y ∧ ex = true ∧ x = .v y := by
  induction args with
  | nil => intro s i ex x h; simp [look] at h
  | cons a l ih =>
    intro s i ex x h
    simp only [List.zipIdx_cons, List.map_cons, look] at h
    split at h
    · rename_i hs
      have hs : s = i := by simpa using hs
      cases h
      exact ⟨0, a, by omega, rfl, rfl, rfl⟩
    · obtain ⟨k, y, h1, h2, h3⟩ := ih s (i + 1) ex x h
      exact ⟨k + 1, y, by omega, by simpa using h2, h3⟩

theorem V_bare {B : Ctx} {fn : Func} {R : Ending → World → Prop} {w0 w : World} {obs : List O} {ρ : Nat → Value} : (B.enter fn R w0 (fun _ => False)).V w obs ρ = (B.bare w0).V w obs ρ := rfl

theorem WRel_bare {B : Ctx} {fn : Func} {R : Ending → World → Prop} {w0 w : World} {obs : List O} {ρ : Nat → Value} (h : WRel (B.enter fn R w0 (fun _ => False)) obs w ρ) : WRel (B.bare w0) obs w ρ :=
  ⟨h.os, h.dis, h.own, h.os0, h.tape, h.output, h.grow, h.kept⟩

/-- A call whose walk goes through from its first frame. -/
theorem calls_of_run {C : Ctx} {f : FuncId} {c : Code} {σ : St} {args : Array Value} {w : World} {ρ : Nat → Value} (hf : C.P.funcs[f]? = some C.fn) (hb : C.fn.body = some c)
    (h : Run C [.code c] σ) (hr : Rel C σ { tmps := args ++ Array.replicate (C.fn.ntmps - args.size) undef, defers := [] } w ρ) : Calls C.P f args w C.R := by
  intro cs
  let b : Frame := { (default : Frame) with fn := f, kind := .normal }
  have henter : Frame.enter C.P f args .normal = b.at { tmps := args ++ Array.replicate (C.fn.ntmps - args.size) undef, defers := [] } [.code c] := by
    simp [Frame.enter, Frame.at, hf, hb, b]
  obtain ⟨e, a', w', hq, harr⟩ := h _ w ρ hr b cs
  rw [← henter] at harr
  cases e with
  | normal =>
    obtain ⟨hd, v, hv, hR⟩ := hq
    exact ⟨.returned v, w', _, hR, Steps.trans harr (.one step_end), rfl, rfl, hd, rfl, C.fn, hf, hv⟩
  | ret =>
    obtain ⟨hd, v, hv, hR⟩ := hq
    obtain ⟨todo, hs⟩ := harr
    exact ⟨.returned v, w', _, hR, hs, rfl, rfl, hd, rfl, C.fn, hf, hv⟩
  | panic chain =>
    obtain ⟨hd, hR⟩ := hq
    obtain ⟨todo, hs⟩ := harr
    exact ⟨.panicked chain, w', _, hR, hs, rfl, rfl, hd, C.fn, hf⟩
  | exit id => exact hq.elim
  | goto l => exact hq.elim
  | outgrown => exact ⟨.outgrown, w', b, hq, harr.resolve_left (by simp [b]), rfl, trivial⟩

theorem AVRel.nil_obs {V : Vw} {ρ ρ' : Nat → Value} {x : AV} {v : Value} (h : AVRel V [] ρ x v) : AVRel V [] ρ' x v := by
  cases x <;> first | exact h | (exact absurd h.1 (by simp))

theorem wrel_start (B : Ctx) (w : World) (ρ : Nat → Value) : WRel (B.bare w) [] w ρ where
  os := fun id o h => by simp at h
  dis := fun i j o o' b h => by simp at h
  own := fun b ⟨id, o, h, _⟩ => by simp at h
  os0 := rfl
  tape := rfl
  output := rfl
  grow := Nat.le_refl _
  kept := fun _ _ _ => rfl

theorem FunA.enter {B : Ctx} {f : FuncId} {fn : Func} {c : Code} {args : List AV} {post : List AV → List O → Prop} (hcall : ∀ (vs : Array Value) (w : World), (callFunc f vs).run B.P w = .ok (.enter f vs) w)
    (hf : B.P.funcs[f]? = some fn) (hb : fn.body = some c) (hn : args.length ≤ fn.ntmps)
    (h : ∀ w, Run (B.enter fn (RA B w post) w (fun _ => False)) [.code c] (entry args fn.ntmps)) : FunA B f args post := by
  refine ⟨hcall, fun w vs hl ha => ?_⟩
  have hw := wrel_start B w (fun _ => undef)
  refine calls_of_run (C := B.enter fn (RA B w post) w (fun _ => False)) (ρ := fun _ => undef) hf hb (h w) ⟨rfl, ?_, ?_, ⟨hw.os, hw.dis, hw.own, hw.os0, hw.tape, hw.output, hw.grow, hw.kept⟩, fun j v hj => by simp [Ctx.enter] at hj⟩
  · simp [entry, Ctx.enter]
    omega
  · intro s ex x hx
    obtain ⟨k, y, h1, h2, rfl, rfl⟩ := look_zip args s 0 ex x hx
    refine ⟨fun _ => ?_, by simp⟩
    have hk : k < args.length := (List.getElem?_eq_some_iff.1 h2).1
    have hkv : k < vs.length := by omega
    have hs : s = k := by omega
    subst hs
    have hg : ((vs.toArray ++ Array.replicate ((B.enter fn (RA B w post) w (fun _ => False)).fn.ntmps - vs.toArray.size) undef).getD s undef) = vs[s] := by
      simp [Array.getD_eq_getD_getElem?, Array.getElem?_append, hkv]
    rw [hg]
    exact ha s y vs[s] h2 (by simp)

/-! ### The end of a walk -/

theorem FunA.fin {B : Ctx} {fn : Func} {w : World} {post : List AV → List O → Prop} {xs : List AV} {obs : List O} (hp : post xs obs) (h1 : xs.all freshAV = true) (h2 : obs.all freshO = true) :
    Fin (B.enter fn (RA B w post) w (fun _ => False)) xs obs := by
  intro w' ρ vs hr _ hl ha
  exact ⟨vs, rfl, xs, obs, ρ, hp, hl, ha, WRel_bare hr, h1, h2⟩

/-! ### A call, used -/

/-- An argument as the callee reads it. -/
def convV : (e' e : E) → List e.D → List e'.D → Prop
  | .row false, .row _, ys, zs => zs = ys
  | .row false, .lrow, ys, zs => zs = ys.map (·.2)
  | .int, .int, ys, zs => zs = ys
  | .byte, .byte, ys, zs => zs = ys
  | .bool, .bool, ys, zs => zs = ys
  | .str, .str, ys, zs => zs = ys
  | .vec, .vec, ys, zs => zs = ys
  | _, _, _, _ => False

def argOk (obs : List O) : (actual formal : AV) → Prop
  | x, .int k n => x = .int k n
  | x, .bool b => x = .bool b
  | x, .str s => x = .str s
  | x, .fn f => x = .fn f
  | x, .vec l => x = .vec l
  | x, .nils => x = .nils
  | x, .sl false e xs => match x with
    | .sl _ e' ys => convV e e' ys xs
    | .lr _ ys => convV e .int ys xs
    | .nils => xs = []
    | .emp _ => xs = []
    | .own id g => match obs[id]? with
      | some (.arr e' ys g' _) => g = g' ∧ convV e e' ys xs
      | some (.mat _ rows g' _) => g = g' ∧ convV e (.row true) rows xs
      | _ => False
    | _ => False
  | _, _ => False

def argsOk (obs : List O) : List AV → List AV → Prop
  | [], [] => True
  | x :: l, y :: r => argOk obs x y ∧ argsOk obs l r
  | _, _ => False

/-- The callee's new objects in the caller's numbering. -/
def shiftAV (n : Nat) : AV → AV
  | .own id g => .own (n + id) g
  | x => x

def resSl (n : Nat) : List AV → Sl
  | [x] => .v (shiftAV n x)
  | l => .t (l.map (shiftAV n))

/-- Every cell of the world is seen at a call's start. -/
theorem cell_bare {B : Ctx} {w : World} {a : Addr} {v : Value} (h : w.cell? a = some v) : ((B.bare w).V w [] (fun _ => undef)).cell a = some v := by
  have hn : ¬ Own [] (fun _ => undef) a.block := by rintro ⟨id, o, ho, _⟩; simp at ho
  simp only [Vw.cell, Ctx.V, mask, if_neg hn]
  unfold World.cell? at h
  cases hb : w.heap[a.block]? with
  | none => rw [hb] at h; simp at h
  | some o => rw [hb] at h; cases o <;> simp at h ⊢; exact h

theorem row_bare {B C : Ctx} {obs : List O} {w : World} {ρ : Nat → Value} {f : Bool} {xs : List Int} {v : Value} (h : RowRel (C.V w obs ρ) f xs v) : RowRel ((B.bare w).V w [] (fun _ => undef)) false xs v := by
  obtain ⟨base, cap, hv, h1, h2, hx⟩ := h
  exact ⟨base, cap, hv, h1, h2, fun i hi => let ⟨a, ha, _, hc⟩ := hx i hi; ⟨a, ha, by simp, cell_bare (V_cell hc)⟩⟩

theorem conv_len {e' e : E} {ys : List e.D} {zs : List e'.D} (h : convV e' e ys zs) : zs.length = ys.length ∧ e'.size = e.size := by
  unfold convV at h
  split at h <;> first | (subst h; exact ⟨by simp, rfl⟩) | exact h.elim

theorem conv_el {B C : Ctx} {obs : List O} {w : World} {ρ : Nat → Value} {e' e : E} {ys : List e.D} {zs : List e'.D} (h : convV e' e ys zs) {i : Nat} (hi : i < ys.length) (hi' : i < zs.length) {u : Value} (hu : ElRel (C.V w obs ρ) e ys[i] u) :
    ElRel ((B.bare w).V w [] (fun _ => undef)) e' zs[i] u := by
  unfold convV at h
  split at h <;> first | exact h.elim | subst h
  · exact row_bare hu
  · have k := row_bare (B := B) (LRowRel.toRow hu)
    simpa [ElRel] using k
  · exact hu
  · exact hu
  · exact hu
  · exact hu
  · exact hu

theorem sl_bare {B C : Ctx} {obs : List O} {w : World} {ρ : Nat → Value} {f : Bool} {e' e : E} {ys : List e.D} {zs : List e'.D} {v : Value} (hc : convV e' e ys zs) (h : SlRel (C.V w obs ρ) f e ys v) :
    SlRel ((B.bare w).V w [] (fun _ => undef)) false e' zs v := by
  obtain ⟨base, cap, hv, h1, h2, hx⟩ := h
  obtain ⟨hl, hs⟩ := conv_len hc
  refine ⟨base, cap, by rw [hl]; exact hv, by omega, h2, fun i hi => ?_⟩
  obtain ⟨a, u, ha, _, hu, hcell⟩ := hx i (by omega)
  refine ⟨a, u, ha, by simp, conv_el hc (by omega) hi hu, fun j hj => ?_⟩
  have hsz := hu.cells.1
  have h3 := hcell j (by omega)
  rw [hs, Array.getElem?_eq_getElem (by omega)] at *
  exact cell_bare (V_cell h3)

theorem own_bare {B C : Ctx} {obs : List O} {w : World} {ρ : Nat → Value} {e' e : E} {ys : List e.D} {zs : List e'.D} {v : Value} {cs : List Value} {ti : TypeId} (hc : convV e' e ys zs) (hown : w.ownsRow 0 ti e.size v ys.length cs) (henc : Enc (C.V w obs ρ) e ys cs) :
    SlRel ((B.bare w).V w [] (fun _ => undef)) false e' zs v := by
  obtain ⟨hl, hs⟩ := conv_len hc
  rcases hown.2 with ⟨hv, hz⟩ | ⟨b, cap, cur, hv, _, hg, h1, h2, h3, h4⟩
  · exact ⟨none, 0, by rw [hl, hz]; exact hv, by omega, by omega, fun i hi => by omega⟩
  · refine ⟨some ⟨b, 0, none⟩, cap, by rw [hl]; exact hv, by omega, h2, fun i hi => ?_⟩
    obtain ⟨u, hu, hcell⟩ := henc.2 i (by omega)
    refine ⟨⟨b, 0, none⟩, u, rfl, by simp, conv_el hc (by omega) hi hu, fun j hj => ?_⟩
    have hsz := hu.cells.1
    have h5 := hcell j (by omega)
    rw [Array.getElem?_eq_getElem (by omega)] at h5 ⊢
    rw [hs]
    exact cell_bare (hown.cells (g := b) (by rw [hv]; rfl) _ _ h5)

/-- An owned matrix, read. -/
theorem mat_rows {tid : E → TypeId} {w : World} {V V' : Vw} (hV : ∀ a x, w.cell? a = some x → V'.cell a = some x) {v : Value} {hs : List (Option Nat)} {rows : List (List Int)} {g : Nat} {nn : Bool} (k : ORel tid w V v (.mat hs rows g nn)) :
    SlRel V' false (.row false) rows v := by
  obtain ⟨cs, k1, k2, k3, _⟩ := k
  have hcl : cs.length = rows.length := by have := k1.1; omega
  have key : ∀ i (hi : i < rows.length), RowRel V' false rows[i] cs[i] := by
    intro i hi
    have := k3 i hs[i] rows[i] cs[i] (by simp) (by simp) (by simp)
    cases hh : hs[i] with
    | none =>
      rw [hh] at this
      obtain ⟨h1, h2⟩ := this
      rw [h1, h2]
      exact ⟨none, 0, rfl, by simp, by simp, fun i hi => by simp at hi⟩
    | some h =>
      rw [hh] at this
      obtain ⟨h1, cur, hg, h2, h3, h4, h5⟩ := this
      refine ⟨some ⟨hdB h, 0, none⟩, hdC h, h1, h2, h3, fun j hj => ⟨⟨hdB h, 0, none⟩, rfl, by simp, hV _ _ ?_⟩⟩
      rw [add_plain]
      have : (cur.toList.take rows[i].length)[j]? = (rows[i].map (Value.int .i64))[j]? := by rw [h5]
      rw [List.getElem?_take, if_pos hj] at this
      simp [World.cell?, hg]
      simpa [hj] using this
  rcases k1.2 with ⟨hv, hz⟩ | ⟨b, cap, cur, hv, _, hg, h1, h2, h3, h4⟩
  · exact ⟨none, 0, by rw [hz]; exact hv, by omega, by omega, fun i hi => by omega⟩
  · refine ⟨some ⟨b, 0, none⟩, cap, hv, h1, h2, fun i hi => ?_⟩
    refine ⟨⟨b, 0, none⟩, cs[i], rfl, by simp, key i hi, fun j hj => ?_⟩
    have : j = 0 := by simp [E.size] at hj; omega
    subst this
    rw [cells_oneCell (RowRel.oneCell (key i hi))]
    simp only [E.size, Nat.mul_one, Nat.add_zero]
    exact hV _ _ (k1.cells (g := b) (by rw [hv]; rfl) i cs[i] (by simp))

theorem mat_bare {C : Ctx} {obs : List O} {w : World} {ρ : Nat → Value} {e' : E} {rows : List (List Int)} {zs : List e'.D} {v : Value} {hs : List (Option Nat)} {g : Nat} {nn : Bool} {V' : Vw} (hc : convV e' (.row true) rows zs)
    (hV : ∀ a x, w.cell? a = some x → V'.cell a = some x) (k : ORel C.tid w (C.V w obs ρ) v (.mat hs rows g nn)) : SlRel V' false e' zs v := by
  cases e' with
  | row f =>
    cases f with
    | false => have hc : zs = rows := hc
               subst hc; exact mat_rows hV k
    | true => exact hc.elim
  | _ => exact hc.elim

theorem emp_rel {V : Vw} {e : E} {a : Option Addr} {c : Nat} {v : Value} (hv : v = .slice a 0 c) (hc : c ≤ maxLen := by assumption) : SlRel V false e [] v :=
  ⟨a, c, hv, by simp, hc, fun i hi => by simp at hi⟩

theorem argOk_sound {B C : Ctx} {obs : List O} {w : World} {ρ : Nat → Value} (rr : WRel C obs w ρ) {x y : AV} {v : Value} (h : argOk obs x y) (hx : AVRel (C.V w obs ρ) obs ρ x v) :
    AVRel ((B.bare w).V w [] (fun _ => undef)) [] (fun _ => undef) y v := by
  unfold argOk at h
  split at h
  · subst h; exact hx
  · subst h; exact hx
  · subst h; exact hx
  · subst h; exact hx
  · subst h; exact hx
  · subst h; exact hx
  · split at h
    · exact sl_bare h hx
    · exact sl_bare h (LRowRel.toRow hx).toSl
    · subst h
      exact ⟨none, 0, hx, by simp, by simp, fun i hi => by simp at hi⟩
    · subst h
      obtain ⟨a, c, hv, hc, _⟩ := hx
      exact emp_rel hv hc
    · split at h
      · rename_i ho
        obtain ⟨hg, hc⟩ := h
        subst hg
        obtain ⟨_, cs, hown, henc, _, _⟩ := own_arr rr ho hx
        exact own_bare hc hown henc
      · rename_i ho
        obtain ⟨hg, hc⟩ := h
        subst hg
        have h1 : v = ρ _ := (hx.2 _ (by simp [genOf, ho, O.gen])).2 rfl
        subst h1
        exact mat_bare hc (fun a x h => cell_bare h) (rr.os _ _ ho)
      · exact h.elim
    · exact h.elim
  · exact h.elim

theorem argsOk_sound {B C : Ctx} {obs : List O} {w : World} {ρ : Nat → Value} (rr : WRel C obs w ρ) : ∀ {l r : List AV} {vs : List Value}, argsOk obs l r → vs.length = l.length →
    (∀ (i : Nat) (x : AV) (v : Value), l[i]? = some x → vs[i]? = some v → AVRel (C.V w obs ρ) obs ρ x v) →
    vs.length = r.length ∧ ∀ (i : Nat) (x : AV) (v : Value), r[i]? = some x → vs[i]? = some v → AVRel ((B.bare w).V w [] (fun _ => undef)) [] (fun _ => undef) x v
  | [], [], vs, _, hl, _ => ⟨hl, fun i x v h => by simp at h⟩
  | x :: l, y :: r, vs, h, hl, ha => by
    cases vs with
    | nil => simp at hl
    | cons v vs =>
      obtain ⟨h1, h2⟩ := argsOk_sound rr h.2 (by simpa using hl) (fun i x v hx hv => ha (i + 1) x v (by simpa using hx) (by simpa using hv))
      refine ⟨by simp [h1], fun i x' v' hx' hv' => ?_⟩
      cases i with
      | zero => simp at hx' hv'; subst hx' hv'; exact argOk_sound rr h.1 (ha 0 x v rfl rfl)
      | succ i => exact h2 i x' v' (by simpa using hx') (by simpa using hv')
  | [], _ :: _, _, h, _, _ => h.elim
  | _ :: _, [], _, h, _, _ => h.elim

/-- What is fresh is seen by whoever sees the new blocks. -/
theorem RowRel.fresh {V V' : Vw} (hH : ∀ b o, V.Fr b → V.H b = some o → V'.H b = some o) (hF : ∀ b, V.Fr b → V'.Fr b) {xs : List Int} {v : Value} (h : RowRel V true xs v) : RowRel V' true xs v := by
  obtain ⟨base, cap, hv, h1, h2, hx⟩ := h
  refine ⟨base, cap, hv, h1, h2, fun i hi => ?_⟩
  obtain ⟨a, ha, hf, hc⟩ := hx i hi
  refine ⟨a, ha, fun k => hF _ (hf k), ?_⟩
  unfold Vw.cell at hc ⊢
  rw [add_block] at hc ⊢
  cases hb : V.H a.block with
  | none => rw [hb] at hc; simp at hc
  | some o => rw [hb] at hc; rw [hH _ _ (hf rfl) hb]; exact hc

theorem LRowRel.fresh {V V' : Vw} (hH : ∀ b o, V.Fr b → V.H b = some o → V'.H b = some o) (hF : ∀ b, V.Fr b → V'.Fr b) (ht : V'.ti = V.ti) {l : Nat} {xs : List Int} {v : Value} (h : LRowRel V l xs v) : LRowRel V' l xs v := by
  obtain ⟨cap, cur, hv, hf, hb, rest⟩ := h
  exact ⟨cap, cur, hv, hF _ hf, by rw [ht]; exact hH _ _ hf hb, rest⟩

theorem ElRel.fresh {V V' : Vw} (hH : ∀ b o, V.Fr b → V.H b = some o → V'.H b = some o) (hF : ∀ b, V.Fr b → V'.Fr b) (ht : V'.ti = V.ti) : {e : E} → freshE e = true → {d : e.D} → {v : Value} → ElRel V e d v → ElRel V' e d v
  | .int, _, _, _, k => k
  | .byte, _, _, _, k => k
  | .bool, _, _, _, k => k
  | .str, _, _, _, k => k
  | .row true, _, _, _, k => RowRel.fresh hH hF k
  | .row false, h, _, _, _ => by simp [freshE] at h
  | .lrow, _, (_, _), _, k => LRowRel.fresh hH hF ht k
  | .vec, _, _, _, k => k
  | .pr, _, ((_, _), (_, _)), _, ⟨u1, u2, hv, h1, h2⟩ => ⟨u1, u2, hv, LRowRel.fresh hH hF ht h1, LRowRel.fresh hH hF ht h2⟩

theorem SlRel.fresh {V V' : Vw} (hH : ∀ b o, V.Fr b → V.H b = some o → V'.H b = some o) (hF : ∀ b, V.Fr b → V'.Fr b) (ht : V'.ti = V.ti) {e : E} (he : freshE e = true) {xs : List e.D} {v : Value} (h : SlRel V true e xs v) : SlRel V' true e xs v := by
  obtain ⟨base, cap, hv, h1, h2, hx⟩ := h
  refine ⟨base, cap, hv, h1, h2, fun i hi => ?_⟩
  obtain ⟨a, u, ha, hf, hu, hc⟩ := hx i hi
  refine ⟨a, u, ha, fun k => hF _ (hf k), hu.fresh hH hF ht he, fun j hj => ?_⟩
  have hsz := hu.cells.1
  have h3 := hc j hj
  rw [Array.getElem?_eq_getElem (by omega)] at h3 ⊢
  unfold Vw.cell at h3 ⊢
  rw [add_block] at h3 ⊢
  cases hb : V.H a.block with
  | none => rw [hb] at h3; simp at h3
  | some o => rw [hb] at h3; rw [hH _ _ (hf rfl) hb]; exact h3

theorem Enc.fresh {V V' : Vw} (hH : ∀ b o, V.Fr b → V.H b = some o → V'.H b = some o) (hF : ∀ b, V.Fr b → V'.Fr b) (ht : V'.ti = V.ti) {e : E} (he : freshE e = true) {xs : List e.D} {cs : List Value} (h : Enc V e xs cs) : Enc V' e xs cs :=
  ⟨h.1, fun i hi => let ⟨u, h1, h2⟩ := h.2 i hi; ⟨u, h1.fresh hH hF ht he, h2⟩⟩

theorem ORel.mat_tid {tid tid' : E → TypeId} {w : World} {V V' : Vw} {v : Value} {hs : List (Option Nat)} {rows : List (List Int)} {g g' : Nat} {nn : Bool} (h1 : tid .lrow = tid' .lrow) (h2 : tid .int = tid' .int)
    (k : ORel tid w V v (.mat hs rows g nn)) : ORel tid' w V' v (.mat hs rows g' nn) := by
  obtain ⟨cs, k1, k2, k3, k4⟩ := k
  exact ⟨cs, by rw [← h1]; exact k1, k2, fun i h xs u a b c => by rw [← h2]; exact k3 i h xs u a b c, k4⟩

/-- The callee's new objects join the caller's. -/
theorem join {B C : Ctx} (hP : B.tid = C.tid) {obs obs' : List O} {w w' : World} {ρ ρ' : Nat → Value} (rr : WRel C obs w ρ) (r' : WRel (B.bare w) obs' w' ρ') (hf : obs'.all freshO = true) :
    ∃ ρ2, Step C w w' obs (obs ++ obs') ρ ρ2 ∧ ∀ (x : AV) (v : Value), freshAV x = true → AVRel ((B.bare w).V w' obs' ρ') obs' ρ' x v → AVRel (C.V w' (obs ++ obs') ρ2) (obs ++ obs') ρ2 (shiftAV obs.length x) v := by
  let ρ2 : Nat → Value := fun i => if i < obs.length then ρ i else ρ' (i - obs.length)
  have hext : Ext (fun _ => False) w w' := ⟨r'.os0, r'.tape, r'.output, r'.grow, fun b hb _ => r'.kept b hb (fun k => k)⟩
  have ho' : ∀ b, Own obs' ρ' b → w.heap.size ≤ b := fun b hb => (r'.own b hb).resolve_right (fun k => k)
  have split : ∀ b, Own (obs ++ obs') ρ2 b → Own obs ρ b ∨ Own obs' ρ' b := by
    rintro b ⟨id, o, ho, hfp⟩
    rw [List.getElem?_append] at ho
    split at ho
    · rename_i hlt
      exact .inl ⟨id, o, ho, by simpa [ρ2, hlt] using hfp⟩
    · rename_i hlt
      exact .inr ⟨id - obs.length, o, ho, by simpa [ρ2, hlt] using hfp⟩
  have hV : (C.V w obs ρ).le (C.V w' (obs ++ obs') ρ2) := by
    refine ⟨fun b x hx => ?_, fun _ h => h, rfl⟩
    simp only [Ctx.V, mask] at hx ⊢
    split at hx
    · cases hx
    · rename_i hn
      have hlt := (Array.getElem?_eq_some_iff.1 hx).1
      have hn' : ¬ Own (obs ++ obs') ρ2 b := fun k => by
        rcases split b k with k | k
        · exact hn k
        · have := ho' b k; omega
      rw [if_neg hn', hext.block b hlt (fun k => k)]
      exact hx
  have hH : ∀ b o, ((B.bare w).V w' obs' ρ').Fr b → ((B.bare w).V w' obs' ρ').H b = some o → (C.V w' (obs ++ obs') ρ2).H b = some o := by
    intro b o hfr hx
    have hge : w.heap.size ≤ b := hfr.resolve_right (fun k => k)
    simp only [Ctx.V, mask] at hx ⊢
    split at hx
    · cases hx
    · rename_i hn
      have hn' : ¬ Own (obs ++ obs') ρ2 b := fun k => by
        rcases split b k with ⟨id, o', k1, k2⟩ | k
        · have := (rr.os id o' k1).lt k2; omega
        · exact hn k
      rw [if_neg hn']
      exact hx
  have hF : ∀ b, ((B.bare w).V w' obs' ρ').Fr b → (C.V w' (obs ++ obs') ρ2).Fr b := fun b hfr => .inl (Nat.le_trans rr.grow (hfr.resolve_right (fun k => k)))
  have ht : (C.V w' (obs ++ obs') ρ2).ti = ((B.bare w).V w' obs' ρ').ti := by show C.tid .int = B.tid .int; rw [hP]
  have hwr : WRel C (obs ++ obs') w' ρ2 := by
    refine ⟨fun id o ho => ?_, fun i j o o2 b hi hj bi bj => ?_, fun b hb => ?_, hext.os.trans rr.os0, hext.tape.trans rr.tape, hext.output.trans rr.output, Nat.le_trans rr.grow hext.size, fun b hb hM => ?_⟩
    · rw [List.getElem?_append] at ho
      split at ho
      · rename_i hlt
        have : ρ2 id = ρ id := by simp [ρ2, hlt]
        rw [this]
        exact (rr.os id o ho).kept hV hext (fun _ _ k => k)
      · rename_i hlt
        have : ρ2 id = ρ' (id - obs.length) := by simp [ρ2, hlt]
        rw [this]
        have k := r'.os _ o ho
        cases o with
        | dead => trivial
        | arr e xs g nn =>
          obtain ⟨cs, h1, h2, h3⟩ := k
          have hfo : freshE e = true := by
            have := List.all_eq_true.1 hf _ (List.mem_of_getElem? ho)
            simpa [freshO] using this
          exact ⟨cs, by have : (B.bare w).tid e = C.tid e := congrFun hP e; rw [← this]; exact h1, h2.fresh hH hF ht hfo, h3⟩
        | mat hs rows g nn => exact ORel.mat_tid (tid := (B.bare w).tid) (congrFun hP .lrow) (congrFun hP .int) k
    · rw [List.getElem?_append] at hi hj
      split at hi <;> split at hj
      · rename_i h1 h2
        exact rr.dis i j o o2 b hi hj (by simpa [ρ2, h1] using bi) (by simpa [ρ2, h2] using bj)
      · rename_i h1 h2
        have k1 := (rr.os i o hi).lt (b := b) (by simpa [ρ2, h1] using bi)
        have k2 := ho' b ⟨_, o2, hj, by simpa [ρ2, h2] using bj⟩
        omega
      · rename_i h1 h2
        have k1 := (rr.os j o2 hj).lt (b := b) (by simpa [ρ2, h2] using bj)
        have k2 := ho' b ⟨_, o, hi, by simpa [ρ2, h1] using bi⟩
        omega
      · rename_i h1 h2
        have := r'.dis _ _ o o2 b hi hj (by simpa [ρ2, h1] using bi) (by simpa [ρ2, h2] using bj)
        omega
    · rcases split b hb with k | k
      · exact rr.own b k
      · exact .inl (Nat.le_trans rr.grow (ho' b k))
    · rw [hext.block b (Nat.lt_of_lt_of_le hb rr.grow) (fun k => k)]
      exact rr.kept b hb hM
  refine ⟨ρ2, ⟨hwr, hV, by simp, fun id c' hid hc => ⟨c', ?_, .inl ⟨rfl, by simp [ρ2, hid]⟩⟩⟩, fun x v hfx hx => ?_⟩
  · unfold genOf at hc ⊢
    rw [List.getElem?_append_left hid] at hc
    exact hc
  · cases x with
    | junk => trivial
    | int k n => exact hx
    | bool b => exact hx
    | str s => exact hx
    | sl f e xs =>
      simp [freshAV] at hfx
      obtain ⟨rfl, hfe⟩ := hfx
      exact SlRel.fresh hH hF ht hfe hx
    | lr l xs => exact LRowRel.fresh hH hF ht hx
    | vec xs => exact hx
    | nils => exact hx
    | own id g =>
      refine ⟨by have := hx.1; simp; omega, fun c hc => ?_⟩
      have e1 : genOf (obs ++ obs') (obs.length + id) = genOf obs' id := by unfold genOf; rw [List.getElem?_append_right (by omega)]; simp
      rw [e1] at hc
      have h3 := hx.2 c hc
      have e2 : ρ2 (obs.length + id) = ρ' id := by
        show (if obs.length + id < obs.length then ρ (obs.length + id) else ρ' (obs.length + id - obs.length)) = ρ' id
        rw [if_neg (by omega), Nat.add_sub_cancel_left]
      rw [e2]
      exact h3
    | elt id g s k => simp [freshAV] at hfx
    | relt f e d => simp [freshAV] at hfx
    | hdr h n => simp [freshAV] at hfx
    | emp b => simp [freshAV] at hfx
    | fn f => exact hx

/-- A contract, used at a call. -/
theorem FunA.call {B C : Ctx} (hP : B.P = C.P) (hT : B.tid = C.tid) {f : FuncId} {args0 : List AV} {post : List AV → List O → Prop} (h : FunA B f args0 post) {obs : List O} {args : List AV} (ha : argsOk obs args args0)
    {K : Sl → List O → Prop} (hk : ∀ xs obs', post xs obs' → K (resSl obs.length xs) (obs ++ obs')) : ACall C obs f args K := by
  refine ⟨fun vs w => by rw [← hP]; exact h.1 vs w, fun w ρ vs rr hl hx => ?_⟩
  obtain ⟨h1, h2⟩ := argsOk_sound (B := B) rr ha hl hx
  rw [← hP]
  refine (h.2 w vs h1 h2).mono fun e w' ⟨us, he, xs, obs', ρ', hp, hul, hu, hw', hf1, hf2⟩ => ?_
  obtain ⟨ρ2, hst, hav⟩ := join hT rr hw' hf2
  refine ⟨pack us, he, resSl obs.length xs, obs ++ obs', ρ2, hst, ?_, hk xs obs' hp⟩
  have each : ∀ (i : Nat) (x : AV) (v : Value), xs[i]? = some x → us[i]? = some v → AVRel (C.V w' (obs ++ obs') ρ2) (obs ++ obs') ρ2 (shiftAV obs.length x) v := fun i x v hx hv =>
    hav x v (List.all_eq_true.1 hf1 _ (List.mem_of_getElem? hx)) (hu i x v hx hv)
  match xs, us, hul with
  | [], [], _ => exact ⟨[], rfl, rfl, by simp⟩
  | [x], [u], _ => exact each 0 x u rfl rfl
  | x :: y :: l, u :: u2 :: us, hul =>
    refine ⟨u :: u2 :: us, by simp [pack], by simpa using hul, fun i a b ha hb => ?_⟩
    rw [List.getElem?_map, Option.map_eq_some_iff] at ha
    obtain ⟨z, hz, rfl⟩ := ha
    exact each i z b hz hb

end Go.Aw
