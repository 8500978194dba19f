/- Arguments that are rows of rows; a contract used on one row of an owned matrix. -/
import Derived.Test.YtbeeblhmgpgkjaaAw24
set_option linter.unusedVariables false
set_option linter.unusedSimpArgs false
namespace Go.Aw
open Go Go.ChangeShapes Go.WideShapes Go.ChangeAt Go.RowKit Go.Deep

section
variable {H : Type} {enc : TypeId × Value → H} {P : Program} {B : Ctx} {W : World}

/-- An argument of type [][]int. -/
theorem arg_rows {t e q : TypeId} {v : Value} {d : DataW H} {p : List MemPlace} {base : Nat} (ht : P.underlying t = some (.slice e)) (he : P.underlying e = some (.slice q)) (hq : P.underlying q = some (.int .i64)) (ce : P.cellsOf e = 1) (cq : P.cellsOf q = 1)
    (hval : Value.okWide P W .any base t v) (h : DataW.Trod enc P W 0 (fun _ => true) true t v d p) :
    ∃ xs : List (List Int), (∀ r ∈ xs, ∀ n ∈ r, (Lit.int .i64 n).wf = true) ∧ AVRel ((B.bare W).V W [] (fun _ => undef)) [] (fun _ => undef) (.sl false (.row false) xs) v := by
  obtain ⟨a0, len, cap, rfl⟩ := okWide_slice ht hval
  obtain ⟨fuel, hf⟩ := h
  rcases open_int_rows ht he hq ce cq hf with ⟨hcs, hx⟩ | ⟨a, len', cap', A, L, K, Z, hcs, _, hl, hm, hx, hrow⟩
  · simp [Value.cells] at hcs
    obtain ⟨rfl, rfl, rfl⟩ := hcs
    exact ⟨[], by simp, none, 0, rfl, by simp, by simp, fun i hi => by simp at hi⟩
  · simp [Value.cells] at hcs
    obtain ⟨rfl, rfl, rfl⟩ := hcs
    refine ⟨(List.range len).map fun r => (Z r).take (L r), fun r hr n hn => ?_, some a, cap, by simp, by simpa using hl, hm, fun i hi => ?_⟩
    · obtain ⟨j, hj, rfl⟩ := List.mem_map.1 hr
      have := List.mem_range.1 hj
      exact (hrow j (by omega)).2.2.2.2.1 n (List.mem_of_mem_take hn)
    · simp at hi
      obtain ⟨h1, h2, h3, h4, h5, h6, h7⟩ := hrow i (by omega)
      have hlen : ((Z i).take (L i)).length = L i := by simp; omega
      have hrr : RowRel ((B.bare W).V W [] (fun _ => undef)) false ((Z i).take (L i)) (.slice (A i) (L i) (K i)) := by
        refine ⟨A i, K i, by rw [hlen], by omega, h3, fun j hj => ?_⟩
        rw [hlen] at hj
        cases hA : A i with
        | none => have := h6 hA; omega
        | some b =>
          obtain ⟨_, h8⟩ := h7 b hA
          refine ⟨b, rfl, by simp, ?_⟩
          rw [cell_bare' (h8 j (by omega))]
          have : j < (Z i).length := by omega
          simp [List.getD, this]
      refine ⟨a, .slice (A i) (L i) (K i), rfl, by simp, by simpa [ElRel] using hrr, fun j hj => ?_⟩
      have : j = 0 := by simp [E.size] at hj; omega
      subst this
      simp only [E.size, Nat.mul_one, Nat.add_zero]
      rw [cell_bare' h1]
      rfl
end

/-! ### One row of an owned matrix, lent -/

/-- The row's head stands for the callee's object; other arguments read no memory. -/
def argOkR (h : Option Nat) (n : Nat) : (actual formal : AV) → Prop
  | x, .own 0 0 => x = .hdr h n
  | x, .int k m => x = .int k m
  | x, .bool b => x = .bool b
  | _, _ => False
def argsOkR (h : Option Nat) (n : Nat) : List AV → List AV → Prop
  | [], [] => True
  | x :: l, y :: r => argOkR h n x y ∧ argsOkR h n l r
  | _, _ => False
theorem argsOkR_nil (h : Option Nat) (n : Nat) : argsOkR h n [] [] = True := rfl
theorem argsOkR_cons (h : Option Nat) (n : Nat) (x y : AV) (l r : List AV) : argsOkR h n (x :: l) (y :: r) = (argOkR h n x y ∧ argsOkR h n l r) := rfl
theorem argOkR_own (h : Option Nat) (n : Nat) (x : AV) : argOkR h n x (.own 0 0) = (x = .hdr h n) := by cases x <;> rfl
theorem argOkR_int (h : Option Nat) (n : Nat) (x : AV) (k : IntKind) (m : Int) : argOkR h n x (.int k m) = (x = .int k m) := by cases x <;> rfl
theorem argOkR_bool (h : Option Nat) (n : Nat) (x : AV) (b : Bool) : argOkR h n x (.bool b) = (x = .bool b) := by cases x <;> rfl

/-- Results that name no memory. -/
def flatAV : AV → Bool
  | .int .. => true
  | .bool .. => true
  | _ => false

theorem argsOkR_sound {V V' : Vw} {obs obs' : List O} {ρ ρ' : Nat → Value} {h : Option Nat} {n : Nat} {u : Value} (hu : ∀ v, AVRel V obs ρ (.hdr h n) v → v = u) (hown : AVRel V' obs' ρ' (.own 0 0) u) :
    ∀ {l r : List AV} {vs : List Value}, argsOkR h n l r → vs.length = l.length → (∀ (i : Nat) (x : AV) (v : Value), l[i]? = some x → vs[i]? = some v → AVRel V obs ρ x v) →
    vs.length = r.length ∧ ∀ (i : Nat) (x : AV) (v : Value), r[i]? = some x → vs[i]? = some v → AVRel V' obs' ρ' x v
  | [], [], vs, _, hl, _ => ⟨hl, fun i x v h => by simp at h⟩
  | x :: l, y :: r, vs, ha, hl, hx => by
    cases vs with
    | nil => simp at hl
    | cons v vs =>
      obtain ⟨h1, h2⟩ := argsOkR_sound (vs := vs) hu hown ha.2 (by simpa using hl) (fun i x v hx' hv => hx (i + 1) x v (by simpa using hx') (by simpa using hv))
      refine ⟨by simp [h1], fun i x' v' hx' hv' => ?_⟩
      cases i with
      | succ i => exact h2 i x' v' (by simpa using hx') (by simpa using hv')
      | zero =>
        simp at hx' hv'
        subst hx' hv'
        have h0 := hx 0 x v rfl rfl
        have h3 := ha.1
        unfold argOkR at h3
        split at h3
        · subst h3; rw [hu v h0]; exact hown
        · subst h3; exact h0
        · subst h3; exact h0
        · exact h3.elim
  | [], _ :: _, _, h, _, _ => h.elim
  | _ :: _, [], _, h, _, _ => h.elim

theorem pack_rel {V : Vw} {obs : List O} {ρ : Nat → Value} : ∀ {rs : List AV} {us : List Value}, us.length = rs.length → (∀ (j : Nat) (x : AV) (v : Value), rs[j]? = some x → us[j]? = some v → AVRel V obs ρ (shiftAV 0 x) v) → SlotRel V obs ρ (resSl 0 rs) (pack us)
  | [], [], _, _ => ⟨[], rfl, rfl, by simp⟩
  | [x], [u], _, each => each 0 x u rfl rfl
  | x :: y :: l, u :: u2 :: us, hul, each => by
    refine ⟨u :: u2 :: us, by simp [pack], by simpa using hul, fun j a b ha hb => ?_⟩
    rw [List.getElem?_map, Option.map_eq_some_iff] at ha
    obtain ⟨z, hz, rfl⟩ := ha
    exact each j z b hz hb

theorem FunM.callRow {B C : Ctx} (hP : B.P = C.P) (hT : B.tid = C.tid) {f : FuncId} {args0 : List AV} {xs : List Int} {post : List AV → List O → Prop} (h : FunM B f args0 .int xs false post) {obs : List O} {args : List AV} (id g i : Nat) {hs : List (Option Nat)} {rows : List (List Int)} {nn : Bool}
    (ho : oAt obs id = .mat hs rows g nn) (hi : i < rows.length) (hx : rows.getD i [] = xs) (ha : argsOkR (hs.getD i none) xs.length args args0)
    {K : Sl → List O → Prop} (hk : ∀ rs o' obs', post rs (o' :: obs') → ∃ ys, o' = .arr .int ys 0 false ∧ ys.length = xs.length ∧ rs.all flatAV = true ∧ K (resSl 0 rs) (oSet obs id (.mat hs (rows.set i ys) g nn))) :
    ACall C obs f args fun x o => Later (K x o) := by
  have hid : obs[id]? = some (.mat hs rows g nn) := oAt_lt ho rfl
  refine ⟨fun vs w => by rw [← hP]; exact h.1 vs w, fun w ρ vs rr hl hvs => ?_⟩
  have hM := rr.os id _ hid
  obtain ⟨cs, hown, hhl, hrow, hnd, hout, hnn, hml⟩ := hM
  have hcl : cs.length = rows.length := by have := hown.1; omega
  have e1 : hs.getD i none = hs[i] := by simp [show i < hs.length by omega]
  have e2 : rows.getD i [] = rows[i] := by simp [hi]
  have hm := hrow i hs[i] rows[i] cs[i] (by simp) (by simp) (by simp)
  rw [← e1, ← e2, hx] at hm
  -- the row as an object of its own
  have hti : B.tid .int = C.tid .int := congrFun hT .int
  have hrowO : w.ownsRow 0 (B.tid .int) 1 cs[i] xs.length (xs.map (Value.int .i64)) := by
    cases hh : hs.getD i none with
    | none => rw [hh] at hm; obtain ⟨h1, h2⟩ := hm; subst h2; exact ⟨by simp, .inl ⟨h1, rfl⟩⟩
    | some q =>
      rw [hh] at hm
      obtain ⟨h1, cur, h2, h3, h4, h5, h6⟩ := hm
      exact ⟨by simp, .inr ⟨hdB q, hdC q, cur, h1, Nat.zero_le _, by rw [hti]; exact h2, h3, h4, by simpa using h5, by simpa using h6⟩⟩
  have hlm : xs.length ≤ maxLen := by
    rcases hrowO.2 with ⟨_, h0⟩ | ⟨_, cap, _, _, _, _, h3, h4, _⟩
    · omega
    · omega
  have hblk : ∀ b, cs[i].ownBlock = some b → fpo (ρ id) (.mat hs rows g nn) b := by
    intro b hb
    cases hh : hs.getD i none with
    | none => rw [hh] at hm; rw [hm.1] at hb; simp [Value.ownBlock] at hb
    | some q =>
      rw [hh] at hm
      rw [hm.1] at hb
      simp [Value.ownBlock] at hb
      refine .inr ⟨q, ?_, hb⟩
      rw [← hh, e1]
      simp
  have henc : ∀ V : Vw, Enc V .int xs (xs.map (Value.int .i64)) := fun V => ints_enc xs
  have hstart : WRel (B.lentB w (.arr .int xs 0 false) cs[i]) [.arr .int xs 0 false] w (fun _ => cs[i]) := by
    refine ⟨fun id o hh => ?_, fun i j o o' b hi' hj' _ _ => ?_, fun b ⟨id, o, hh, hf⟩ => ?_, rfl, rfl, rfl, Nat.le_refl _, fun _ _ _ => rfl⟩
    · cases id with
      | zero => simp at hh; subst hh; exact ⟨_, hrowO, henc _, by simp, hlm⟩
      | succ id => simp at hh
    · cases i with
      | zero =>
        cases j with
        | zero => rfl
        | succ j => simp at hj'
      | succ i => simp at hi'
    · cases id with
      | zero => simp at hh; subst hh; exact .inr hf
      | succ id => simp at hh
  have hu : ∀ v, AVRel (C.V w obs ρ) obs ρ (.hdr (hs.getD i none) xs.length) v → v = cs[i] := by
    intro v hv
    cases hh : hs.getD i none with
    | none => rw [hh] at hm hv; exact (show v = _ from hv).trans hm.1.symm
    | some q => rw [hh] at hm hv; exact (show v = _ from hv).trans hm.1.symm
  obtain ⟨h1, h2⟩ := argsOkR_sound (V' := (B.lentB w (.arr .int xs 0 false) cs[i]).V w [.arr .int xs 0 false] (fun _ => cs[i])) (obs' := [.arr .int xs 0 false]) (ρ' := fun _ => cs[i]) hu
    ⟨by simp, fun c hc => ⟨Nat.zero_le _, fun _ => rfl⟩⟩ ha hl hvs
  rw [← hP]
  refine (h.2 w cs[i] vs hstart h1 h2).mono fun en w' ⟨us, hen, rs, o', obs', ρ', hp, hul, hus, hw', hf1, hf2, hb⟩ => ?_
  obtain ⟨ys, rfl, hyl, hrs, hK⟩ := hk rs o' obs' hp
  obtain ⟨_, _, hρ0, _⟩ := hb
  have hext : Ext (fun b => cs[i].ownBlock = some b) w w' := ⟨hw'.os0, hw'.tape, hw'.output, hw'.grow, fun b hb hS => hw'.kept b hb hS⟩
  have hext2 : Ext (fun b => fpo (ρ id) (.mat hs rows g nn) b) w w' := hext.mono fun b hb => hblk b hb
  have hnew := hw'.os 0 _ rfl
  rw [hρ0] at hnew
  obtain ⟨cs2, ho2, henc2, _, _⟩ := hnew
  have hcs2 := enc_ints henc2
  subst hcs2
  have T := Turn.one rr id (.mat hs rows g nn) (.mat hs (rows.set i ys) g nn) (ρ id) hid hext2
    (by
      refine ⟨cs, ?_, by simpa using hhl, fun i1 h1 xs1 u1 q1 q2 q3 => ?_, hnd, hout, hnn, by simpa using hml⟩
      · rw [List.length_set]
        refine ownsRow_kept hown fun b hb => hext.block b ((rr.os id _ hid).lt (b := b) (.inl hb)) fun hc => ?_
        cases hh : hs.getD i none with
        | none => rw [hh] at hm; rw [hm.1] at hc; simp [Value.ownBlock] at hc
        | some q =>
          rw [hh] at hm
          rw [hm.1] at hc
          simp [Value.ownBlock] at hc
          refine hout q (by rw [← hh, e1]; simp) ?_
          rw [hb, hc]
      · rcases get_set q2 with ⟨a1, a2⟩ | ⟨a1, a2⟩
        · subst a1
          subst a2
          have hh1 : hs.getD i1 none = h1 := by simp [q1]
          have hu1 : u1 = cs[i1] := by simpa [show i1 < cs.length by omega] using q3.symm
          subst hu1
          rw [hh1] at hm
          cases h1 with
          | none =>
            obtain ⟨m1, m2⟩ := hm
            refine ⟨m1, ?_⟩
            subst m2
            exact List.eq_nil_of_length_eq_zero (by simpa using hyl)
          | some q =>
            obtain ⟨m1, cur, m2, m3, m4, m5, m6⟩ := hm
            rcases ho2.2 with ⟨hz, _⟩ | ⟨b3, cap3, cur3, hv3, _, hg3, n1, n2, n3, n4⟩
            · rw [m1] at hz; cases hz
            · rw [m1] at hv3
              have ev := Value.slice.inj hv3
              have eb : hdB q = b3 := congrArg Addr.block (Option.some.inj ev.1)
              have ec : hdC q = cap3 := ev.2.2
              refine ⟨by rw [hyl]; exact m1, cur3, ?_, by rw [ec]; exact n1, m4, by rw [ec]; simpa [E.size] using n3, by simpa [E.size] using n4⟩
              rw [eb, ← hti]
              exact hg3
        · refine (hrow i1 h1 xs1 u1 q1 a2 q3).kept fun x hx => ?_
          subst hx
          have hmem : some x ∈ hs := List.mem_of_getElem? q1
          refine hext.block _ ((rr.os id _ hid).lt (b := hdB x) (.inr ⟨x, hmem, rfl⟩)) fun hc => ?_
          cases hh : hs.getD i none with
          | none => rw [hh] at hm; rw [hm.1] at hc; simp [Value.ownBlock] at hc
          | some q =>
            rw [hh] at hm
            rw [hm.1] at hc
            simp [Value.ownBlock] at hc
            exact a1 (hnd i1 i x q q1 (by rw [← hh, e1]; simp) hc.symm))
    (fun b hb => .inl hb) (fun c' hc' => ⟨g, rfl, .inl ⟨by simp [O.gen] at hc'; exact hc'.symm, rfl⟩⟩)
  have hρe : (fun j => if j = id then ρ id else ρ j) = ρ := by funext j; split <;> simp_all
  rw [hρe, ← oSet_eq] at T
  refine ⟨pack us, hen, resSl 0 rs, _, ρ, T.step rr, ?_, hK⟩
  have each : ∀ (j : Nat) (x : AV) (v : Value), rs[j]? = some x → us[j]? = some v → AVRel (C.V w' (oSet obs id (.mat hs (rows.set i ys) g nn)) ρ) (oSet obs id (.mat hs (rows.set i ys) g nn)) ρ (shiftAV 0 x) v := fun j x v hx hv => by
    have k1 := List.all_eq_true.1 hrs _ (List.mem_of_getElem? hx)
    have k2 := hus j x v hx hv
    cases x <;> first | exact k2 | (cases k1; done)
  exact pack_rel hul each

theorem AW1 : type_of% @AW ∧ type_of% @argsOkR_nil ∧ type_of% @argsOkR_cons ∧ type_of% @argOkR_own ∧ type_of% @argOkR_int ∧ type_of% @argOkR_bool ∧ type_of% @Q_nil_sl ∧ type_of% @Q_nil_emp ∧ type_of% @Q_nil_nil ∧ type_of% @Q_len_emp ∧ type_of% @Q_src_emp := ⟨AW, argsOkR_nil, argsOkR_cons, argOkR_own, argOkR_int, argOkR_bool, Q_nil_sl, Q_nil_emp, Q_nil_nil, Q_len_emp, Q_src_emp⟩
end Go.Aw
