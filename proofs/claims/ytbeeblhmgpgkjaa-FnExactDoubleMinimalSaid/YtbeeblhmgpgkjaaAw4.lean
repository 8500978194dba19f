/- One operation on the abstract state: what it is worth, and that the model's operation does just that. -/
import Derived.Test.YtbeeblhmgpgkjaaAw3
import Derived.Laws.Strings
import Derived.Laws.Concat
import Derived.Laws.Small
set_option linter.unusedVariables false
set_option linter.unusedSimpArgs false
namespace Go.Aw
open Go

/-- What an operation comes to. -/
inductive Res where
  | bad
  | ok (vc : Prop) (x : AV) (obs : List O)
  | skip (vc : Prop) (obs : List O)
  | all (p : Nat → Prop) (x : AV) (obs : Nat → List O)

def E.dflt : (e : E) → e.D
  | .int => (0 : Int)
  | .byte => (0 : Int)
  | .bool => false
  | .str => []
  | .row _ => []
  | .lrow => (0, [])
  | .vec => [0, 0, 0, 0]
  | .pr => ((0, []), (0, []))

/-- A loaded element. -/
def ofE : (e : E) → e.D → AV
  | .int, n => .int .i64 n
  | .byte, n => .int .u8 n
  | .bool, b => .bool b
  | .str, s => .str s
  | .row g, xs => .sl g .int xs
  | .lrow, (l, xs) => .lr l xs
  | .vec, xs => .vec xs
  | .pr, _ => .junk

def w64 (n : Int) : Int := IntKind.i64.wrap n

def arith (op : BinOp) (k : IntKind) (x y : Int) : Option Int :=
  match op with
  | .add => some (k.wrap (x + y))
  | .sub => some (k.wrap (x - y))
  | .mul => some (k.wrap (x * y))
  | _ => none

def cmpi (op : BinOp) (x y : Int) : Option Bool :=
  match op with
  | .eql => some (x == y)
  | .neq => some (x != y)
  | .lss => some (decide (x < y))
  | .leq => some (decide (x ≤ y))
  | .gtr => some (decide (x > y))
  | .geq => some (decide (x ≥ y))
  | _ => none

def binV (op : BinOp) (x y : AV) (obs : List O) : Res :=
  match x, y with
  | .int k a, .int k' b =>
    if k = k' then
      match arith op k a b with
      | some n => .ok True (.int k n) obs
      | none => match cmpi op a b with
        | some t => .ok True (.bool t) obs
        | none => match op with
          | .quo => .ok (b ≠ 0) (.int k (k.wrap (a.tdiv b))) obs
          | .rem => .ok (b ≠ 0) (.int k (a.tmod b)) obs
          | _ => .bad
    else .bad
  | .bool a, .bool b => match op with
    | .eql => .ok True (.bool (a == b)) obs
    | .neq => .ok True (.bool (a != b)) obs
    | _ => .bad
  | .str a, .str b => match op with
    | .eql => .ok True (.bool (a == b)) obs
    | .neq => .ok True (.bool (a != b)) obs
    | .add => .ok (a.length + b.length ≤ maxLen) (.str (a ++ b)) obs
    | _ => .bad
  | .sl _ _ xs, .nils => match op with
    | .eql => .ok (xs ≠ []) (.bool false) obs
    | .neq => .ok (xs ≠ []) (.bool true) obs
    | _ => .bad
  | .emp b, .nils => match op with
    | .eql => .ok True (.bool b) obs
    | .neq => .ok True (.bool !b) obs
    | _ => .bad
  | .nils, .nils => match op with
    | .eql => .ok True (.bool true) obs
    | .neq => .ok True (.bool false) obs
    | _ => .bad
  | _, _ => .bad

def lenV (x : AV) (obs : List O) : Res :=
  match x with
  | .sl _ _ xs => .ok True (.int .i64 xs.length) obs
  | .lr _ xs => .ok True (.int .i64 xs.length) obs
  | .nils => .ok True (.int .i64 0) obs
  | .emp _ => .ok True (.int .i64 0) obs
  | .str s => .ok True (.int .i64 s.length) obs
  | .own id g => match obs[id]? with
    | some (.arr _ xs g' _) => if g = g' then .ok True (.int .i64 xs.length) obs else .bad
    | some (.mat _ rows g' _) => if g = g' then .ok True (.int .i64 rows.length) obs else .bad
    | _ => .bad
  | _ => .bad

def idxV (e? : Option E) (x i : AV) (obs : List O) : Res :=
  match e?, x, i with
  | some e2, .sl f e xs, .int _ n => if e.size = e2.size then .ok (0 ≤ n ∧ n < xs.length) (.relt f e (xs.getD n.toNat e.dflt)) obs else .bad
  | some e2, .lr _ xs, .int _ n => if e2.size = 1 then .ok (0 ≤ n ∧ n < xs.length) (.relt true .int (xs.getD n.toNat 0)) obs else .bad
  | some e2, .own id g, .int _ n => match obs[id]? with
    | some (.arr e xs g' _) => if g = g' ∧ e.size = e2.size then .ok (0 ≤ n ∧ n < xs.length) (.elt id g e.size n.toNat) obs else .bad
    | some (.mat _ rows g' _) => if g = g' ∧ e2.size = 1 then .ok (0 ≤ n ∧ n < rows.length) (.elt id g 1 n.toNat) obs else .bad
    | _ => .bad
  | _, _, _ => .bad

def loadV (sc : Bool) (x : AV) (obs : List O) : Res :=
  match x with
  | .relt f e d => if sc = true ∧ e.size = 1 then .ok True (ofE e d) obs else .bad
  | .elt id g s k => match obs[id]? with
    | some (.arr e xs g' _) => if g = g' ∧ s = e.size ∧ sc = true ∧ e.size = 1 then .ok True (ofE e (xs.getD k e.dflt)) obs else .bad
    | some (.mat hs rows g' _) => if g = g' ∧ s = 1 ∧ sc = true then .ok True (.hdr (hs.getD k none) (rows.getD k []).length) obs else .bad
    | _ => .bad
  | _ => .bad

/-- An abstract value as an element. -/
def toE : (e : E) → AV → Option e.D
  | .int, .int .i64 n => some n
  | .byte, .int .u8 n => some n
  | .bool, .bool b => some b
  | .str, .str s => some s
  | .row true, .sl true .int xs => some xs
  | .row true, .lr _ xs => some xs
  | .row false, .sl _ .int xs => some xs
  | .row false, .lr _ xs => some xs
  | .lrow, .lr l xs => some (l, xs)
  | _, _ => none

def storeV (sc : Bool) (x y : AV) (obs : List O) : Res :=
  match x with
  | .elt id g s k => match obs[id]? with
    | some (.arr e xs g' nn) => if g = g' ∧ s = e.size ∧ sc = true ∧ e.size = 1 then
        match toE e y with
        | some d => .skip True (obs.set id (.arr e (xs.set k d) g nn))
        | none => .bad
        else .bad
    | some (.mat hs rows g' nn) => if g = g' ∧ s = 1 ∧ sc = true then
        match y with
        | .own id2 g2 => match obs[id2]? with
          | some (.arr .int xs g2' true) => if g2 = g2' then .all (fun _ => True) .junk (fun h => (obs.set id2 .dead).set id (.mat (hs.set k (some h)) (rows.set k xs) g nn)) else .bad
          | _ => .bad
        | _ => .bad
        else .bad
    | _ => .bad
  | _ => .bad

section sound
variable {C : Ctx} {obs : List O} {w : World} {ρ : Nat → Value}

theorem run_equalIn_nil {P : Program} {t e : TypeId} (d : Nat) (ht : P.underlying t = some (.slice e)) (b : Option Addr) (n c : Nat) (w : World) : (Op.equalIn (d + 1) t (.slice b n c) (.slice none 0 0)).run P w = .ok b.isNone w := by
  cases b <;> simp [Op.equalIn, run_underlying ht]
theorem run_equal_nil {P : Program} {t e : TypeId} (ht : P.underlying t = some (.slice e)) (b : Option Addr) (n c : Nat) (w : World) : (Op.equal t (.slice b n c) (.slice none 0 0)).run P w = .ok b.isNone w := run_equalIn_nil 9999 ht b n c w
theorem run_nil_eql {P : Program} {t e : TypeId} (ht : P.underlying t = some (.slice e)) (b : Option Addr) (n c : Nat) (w : World) : (binOp .eql t (.slice b n c) (.slice none 0 0)).run P w = .ok (.bool b.isNone) w := by
  simp only [binOp]
  simp [run_equal_nil ht b n c w]
theorem run_nil_neq {P : Program} {t e : TypeId} (ht : P.underlying t = some (.slice e)) (b : Option Addr) (n c : Nat) (w : World) : (binOp .neq t (.slice b n c) (.slice none 0 0)).run P w = .ok (.bool !b.isNone) w := by
  simp only [binOp]
  simp [run_equal_nil ht b n c w]

theorem sl_base {V : Vw} {f : Bool} {e : E} {xs : List e.D} {v : Value} (h : SlRel V f e xs v) (hx : xs ≠ []) : ∃ a n c, v = .slice (some a) n c := by
  obtain ⟨base, cap, hv, _, _, hel⟩ := h
  obtain ⟨a, _, hb, _⟩ := hel 0 (List.length_pos_iff.2 hx)
  exact ⟨a, _, _, by rw [hv, hb]⟩

theorem binV_sound {op : BinOp} {t : TypeId} {x y : AV} {vc : Prop} {r : AV} {o : List O} (hsl : (∀ s, x ≠ .str s) → (∀ b, x ≠ .bool b) → (∀ k n, x ≠ .int k n) → ∃ e, C.P.underlying t = some (.slice e)) (hb : (∃ a, x = .bool a) → C.P.underlying t = some .bool)
    {u v : Value} (hx : AVRel (C.V w obs ρ) obs ρ x u) (hy : AVRel (C.V w obs ρ) obs ρ y v) (h : binV op x y obs = .ok vc r o) (hv : vc) (ox oy : Operand) :
    o = obs ∧ ∃ z, AVRel (C.V w obs ρ) obs ρ r z ∧ ∀ w', ((do eqGuard op t ox oy u v; binOp op t u v) : Sem Value).run C.P w' = .ok z w' := by
  unfold binV at h
  split at h
  · simp only [AVRel] at hx hy
    subst hx hy
    split at h
    · rename_i hk
      subst hk
      split at h
      · rename_i n hn
        cases h
        refine ⟨rfl, _, rfl, fun w' => ?_⟩
        unfold arith at hn
        split at hn <;> simp at hn <;> subst hn <;> simp [eqGuard, binOp, Op.intArith]
      · rename_i hn
        split at h
        · rename_i tt hc
          cases h
          refine ⟨rfl, _, rfl, fun w' => ?_⟩
          unfold cmpi at hc
          split at hc <;> simp at hc <;> subst hc <;> simp [eqGuard, binOp, Op.intCmp]
        · split at h
          · cases h
            refine ⟨rfl, _, rfl, fun w' => ?_⟩
            simp [eqGuard, binOp, Op.intDiv, hv]
          · cases h
            refine ⟨rfl, _, rfl, fun w' => ?_⟩
            simp [eqGuard, binOp, Op.intDiv, hv]
          · cases h
    · cases h
  · simp only [AVRel] at hx hy
    subst hx hy
    have hu := hb ⟨_, rfl⟩
    split at h <;> cases h
    · refine ⟨rfl, _, rfl, fun w' => ?_⟩
      have := run_eql_bool (P := C.P) w' t
      simp [eqGuard, this _ _ hu]
    · refine ⟨rfl, _, rfl, fun w' => ?_⟩
      have := run_neq_bool (P := C.P) w' t
      simp [eqGuard, this _ _ hu, bne]
  · simp only [AVRel] at hx hy
    subst hx hy
    split at h <;> cases h
    · refine ⟨rfl, _, rfl, fun w' => ?_⟩
      simp [eqGuard, binOp, Op.stringOp, ByteArray.toList_eq]
    · refine ⟨rfl, _, rfl, fun w' => ?_⟩
      simp [eqGuard, binOp, Op.stringOp, ByteArray.toList_eq, bne]
    · rename_i a b _
      refine ⟨rfl, _, rfl, fun w' => ?_⟩
      have := run_string_add_sum (P := C.P) w' ⟨a.toArray⟩ ⟨b.toArray⟩ (by simp [ByteArray.size]; simp [maxLen] at hv; exact hv)
      rw [ByteArray.mk_append_mk] at this
      simp [eqGuard, binOp, this]
  · simp only [AVRel] at hy
    subst hy
    obtain ⟨e, he⟩ := hsl (by simp) (by simp) (by simp)
    split at h <;> cases h
    · obtain ⟨a, n, c, rfl⟩ := sl_base hx hv
      exact ⟨rfl, _, rfl, fun w' => by simp [eqGuard, run_nil_eql he]⟩
    · obtain ⟨a, n, c, rfl⟩ := sl_base hx hv
      exact ⟨rfl, _, rfl, fun w' => by simp [eqGuard, run_nil_neq he]⟩
  · simp only [AVRel] at hy
    subst hy
    obtain ⟨e, he⟩ := hsl (by simp) (by simp) (by simp)
    obtain ⟨a, c, rfl, _, rfl⟩ := hx
    split at h <;> cases h
    · exact ⟨rfl, _, rfl, fun w' => by simp [eqGuard, run_nil_eql he]⟩
    · exact ⟨rfl, _, rfl, fun w' => by simp [eqGuard, run_nil_neq he]⟩
  · simp only [AVRel] at hx hy
    subst hx hy
    obtain ⟨e, he⟩ := hsl (by simp) (by simp) (by simp)
    split at h <;> cases h
    · exact ⟨rfl, _, rfl, fun w' => by simp [eqGuard, run_nil_eql he]⟩
    · exact ⟨rfl, _, rfl, fun w' => by simp [eqGuard, run_nil_neq he]⟩
  · cases h

theorem own_arr {id g : Nat} {e : E} {xs : List e.D} {nn : Bool} {v : Value} (r : WRel C obs w ρ) (ho : obs[id]? = some (.arr e xs g nn)) (h : AVRel (C.V w obs ρ) obs ρ (.own id g) v) :
    v = ρ id ∧ ∃ cs, w.ownsRow 0 (C.tid e) e.size v xs.length cs ∧ Enc (C.V w obs ρ) e xs cs ∧ (nn = true → v ≠ .slice none 0 0) ∧ xs.length ≤ maxLen := by
  have h1 : v = ρ id := (h.2 g (by simp [genOf, ho, O.gen])).2 rfl
  subst h1
  exact ⟨rfl, r.os id _ ho⟩

theorem own_mat {id g : Nat} {hs : List (Option Nat)} {rows : List (List Int)} {nn : Bool} {v : Value} (r : WRel C obs w ρ) (ho : obs[id]? = some (.mat hs rows g nn)) (h : AVRel (C.V w obs ρ) obs ρ (.own id g) v) :
    v = ρ id ∧ ORel C.tid w (C.V w obs ρ) v (.mat hs rows g nn) := by
  have h1 : v = ρ id := (h.2 g (by simp [genOf, ho, O.gen])).2 rfl
  subst h1
  exact ⟨rfl, r.os id _ ho⟩

theorem ownsRow_len {base e size : Nat} {v : Value} {n : Nat} {cs : List Value} (h : w.ownsRow base e size v n cs) : ∃ a cap, v = .slice a n cap := by
  rcases h.2 with ⟨rfl, rfl⟩ | ⟨g, cap, cur, rfl, _⟩
  · exact ⟨_, _, rfl⟩
  · exact ⟨_, _, rfl⟩

theorem lenV_sound {t ty : TypeId} {x : AV} {vc : Prop} {r : AV} {o : List O} (hs : ∀ s, x = .str s → C.P.underlying t = some .string) (hl : (∀ s, x ≠ .str s) → ∃ e, C.P.underlying t = some (.slice e))
    (rr : WRel C obs w ρ) {u : Value} (hx : AVRel (C.V w obs ρ) obs ρ x u) (h : lenV x obs = .ok vc r o) :
    o = obs ∧ ∃ z, AVRel (C.V w obs ρ) obs ρ r z ∧ ∀ w', (Builtin.len_ #[t] ty #[u]).run C.P w' = .ok z w' := by
  have sl : ∀ a n c, (∃ e, C.P.underlying t = some (.slice e)) → u = .slice a n c → ∀ w', (Builtin.len_ #[t] ty #[u]).run C.P w' = .ok (.int .i64 n) w' := by
    intro a n c ⟨e, he⟩ hu w'
    subst hu
    simp [Builtin.len_, run_underlying he, goInt]
  unfold lenV at h
  split at h
  · cases h
    obtain ⟨b, c, hv, _⟩ := hx
    exact ⟨rfl, _, rfl, sl _ _ _ (hl (by simp)) hv⟩
  · cases h
    obtain ⟨c, cur, hv, _⟩ := hx
    exact ⟨rfl, _, rfl, sl _ _ _ (hl (by simp)) hv⟩
  · cases h
    exact ⟨rfl, _, rfl, sl _ _ _ (hl (by simp)) hx⟩
  · cases h
    obtain ⟨a, c, hv, _⟩ := hx
    exact ⟨rfl, _, rfl, sl _ _ _ (hl (by simp)) hv⟩
  · cases h
    rename_i s
    have hu := hs s rfl
    simp only [AVRel] at hx
    subst hx
    refine ⟨rfl, _, rfl, fun w' => ?_⟩
    have e1 : (⟨s.toArray⟩ : ByteArray).size = s.length := by simp [ByteArray.size]
    simp only [Builtin.len_]
    simp [run_underlying hu, goInt, e1]
  · rename_i id g
    split at h
    · rename_i e xs g' nn ho
      split at h
      · rename_i hg
        subst hg
        cases h
        obtain ⟨_, cs, h1, _⟩ := own_arr rr ho hx
        obtain ⟨a, c, hv⟩ := ownsRow_len h1
        exact ⟨rfl, _, rfl, sl _ _ _ (hl (by simp)) hv⟩
      · cases h
    · rename_i hs rows g' nn ho
      split at h
      · rename_i hg
        subst hg
        cases h
        obtain ⟨_, cs, h1, _⟩ := own_mat rr ho hx
        obtain ⟨a, c, hv⟩ := ownsRow_len h1
        exact ⟨rfl, _, rfl, sl _ _ _ (hl (by simp)) hv⟩
      · cases h
    · cases h
  · cases h

theorem getD_eq {α : Type} {l : List α} {k : Nat} {d : α} (h : k < l.length) : l.getD k d = l[k] := by
  simp [List.getD, List.getElem?_eq_getElem h]

theorem idxV_sound (hC : C.Ok) {t : TypeId} {e? : Option E} (he : e? = C.Γ t) {x i : AV} {vc : Prop} {r : AV} {o : List O} (rr : WRel C obs w ρ) {u j : Value}
    (hx : AVRel (C.V w obs ρ) obs ρ x u) (hi : AVRel (C.V w obs ρ) obs ρ i j) (h : idxV e? x i obs = .ok vc r o) (hv : vc) :
    o = obs ∧ ∃ z, AVRel (C.V w obs ρ) obs ρ r z ∧ ∀ w', (Instr.indexAt t u j).run C.P w' = .ok z w' := by
  have sl : ∀ e, C.Γ t = some e → ∀ a len cap k (n : Int), u = .slice (some a) len cap → j = .int k n → 0 ≤ n → n < len → ∀ w', (Instr.indexAt t u j).run C.P w' = .ok (.pointer (some (a.add (n.toNat * e.size)))) w' := by
    intro e he a len cap k n hu hj h0 h1 w'
    obtain ⟨ht, i, hinf, _, hs, _⟩ := hC.sl t e he
    subst hu hj
    simp [Instr.indexAt, run_underlying ht, asIntOf, h0, h1, sizeOf, typeInfo, hinf, hs]
  unfold idxV at h
  split at h
  · rename_i _ e2 f e xs k n
    split at h
    case isFalse => cases h
    rename_i hse
    cases h
    obtain ⟨h0, h1⟩ := hv
    simp only [AVRel] at hi
    obtain ⟨base, cap, hu, h2, h3, hel⟩ := hx
    have hlt : n.toNat < xs.length := by omega
    obtain ⟨a, z, hb, hf, hr, hc⟩ := hel n.toNat hlt
    subst hb
    refine ⟨rfl, _, ⟨a.add (n.toNat * e.size), z, rfl, by rw [add_block]; exact hf, by rw [getD_eq hlt]; exact hr, fun q hq => ?_⟩, fun w' => ?_⟩
    · rw [add_add]; exact hc q hq
    · rw [hse]; exact sl e2 he.symm _ _ _ _ _ hu hi h0 h1 w'
  · rename_i _ e2 l xs k n
    split at h
    case isFalse => cases h
    rename_i hse
    cases h
    obtain ⟨h0, h1⟩ := hv
    simp only [AVRel] at hi
    have hx2 := LRowRel.toRow hx
    obtain ⟨base, cap, hu, h2, h3, hel⟩ := hx2
    have hlt : n.toNat < xs.length := by omega
    obtain ⟨a, hb, hf, hc⟩ := hel n.toNat hlt
    subst hb
    refine ⟨rfl, _, ⟨a.add n.toNat, .int .i64 xs[n.toNat], rfl, by rw [add_block]; exact hf, by rw [getD_eq hlt]; rfl, fun q hq => ?_⟩, fun w' => ?_⟩
    · have : q = 0 := by simp [E.size] at hq; omega
      subst this
      rw [add_add]
      simpa [Value.cells] using hc
    · have := sl e2 he.symm _ _ _ _ _ hu hi h0 h1 w'
      rw [hse, Nat.mul_one] at this
      exact this
  · rename_i _ e2 id g k n
    split at h
    · rename_i e xs g' nn ho
      split at h
      · rename_i hg
        obtain ⟨hg, hse⟩ := hg
        subst hg
        cases h
        obtain ⟨h0, h1⟩ := hv
        simp only [AVRel] at hi
        obtain ⟨hρ, cs, hown, _⟩ := own_arr rr ho hx
        have hn : 0 < xs.length := by omega
        rcases hown.2 with ⟨_, hz⟩ | ⟨b, cap, cur, hu, _⟩
        · omega
        · refine ⟨rfl, .pointer (some ((⟨b, 0, none⟩ : Addr).add (n.toNat * e.size))), ⟨hx.1, fun c hc => ?_⟩, fun w' => ?_⟩
          · have : c = g := by simp [genOf, ho, O.gen] at hc; exact hc.symm
            subst this
            exact ⟨Nat.le_refl _, fun _ => ⟨⟨b, 0, none⟩, xs.length, cap, by rw [← hρ]; exact hu, by omega, rfl⟩⟩
          · rw [hse]; exact sl e2 he.symm _ _ _ _ _ hu hi h0 h1 w'
      · cases h
    · rename_i hs rows g' nn ho
      split at h
      · rename_i hg
        obtain ⟨hg, hse⟩ := hg
        subst hg
        cases h
        obtain ⟨h0, h1⟩ := hv
        simp only [AVRel] at hi
        obtain ⟨hρ, cs, hown, _⟩ := own_mat rr ho hx
        have hn : 0 < rows.length := by omega
        rcases hown.2 with ⟨_, hz⟩ | ⟨b, cap, cur, hu, _⟩
        · omega
        · refine ⟨rfl, .pointer (some ((⟨b, 0, none⟩ : Addr).add (n.toNat * 1))), ⟨hx.1, fun c hc => ?_⟩, fun w' => ?_⟩
          · have : c = g := by simp [genOf, ho, O.gen] at hc; exact hc.symm
            subst this
            exact ⟨Nat.le_refl _, fun _ => ⟨⟨b, 0, none⟩, rows.length, cap, by rw [← hρ]; exact hu, by omega, rfl⟩⟩
          · have := sl e2 he.symm _ _ _ _ _ hu hi h0 h1 w'; rw [hse] at this; exact this
      · cases h
    · cases h
  · cases h

theorem sc_plain (hC : C.Ok) {t : TypeId} (h : C.sc t = true) : (∀ w', (isAgg t).run C.P w' = .ok false w') ∧ ∃ i, C.P.info? t = some i ∧ i.size = 1 := by
  unfold Ctx.sc at h
  rcases Bool.or_eq_true _ _ ▸ h with h | h
  · obtain ⟨b, hb⟩ := Option.isSome_iff_exists.1 h
    obtain ⟨h1, h2⟩ := hC.bt t b hb
    refine ⟨fun w' => ?_, h2⟩
    cases b <;> simp [isAgg, run_underlying h1, BT.desc]
  · obtain ⟨e, he⟩ := Option.isSome_iff_exists.1 h
    obtain ⟨h1, _⟩ := hC.sl t e he
    exact ⟨fun w' => by simp [isAgg, run_underlying h1], hC.slc t e he⟩

theorem ofE_rel {V : Vw} {e : E} (h1 : e.size = 1) {d : e.D} {u : Value} (h : ElRel V e d u) : AVRel V obs ρ (ofE e d) u := by
  cases e with
  | int => exact h
  | byte => exact h
  | bool => exact h
  | str => exact h.1
  | row f => exact RowRel.toSl h
  | lrow => exact h
  | vec => simp [E.size] at h1
  | pr => simp [E.size] at h1

theorem one_cells {V : Vw} {e : E} (h1 : e.size = 1) {d : e.D} {u : Value} (h : ElRel V e d u) : u.cells = #[u] ∧ u.oneCell' = true := by
  cases e with
  | int => cases h; exact ⟨rfl, rfl⟩
  | byte => cases h; exact ⟨rfl, rfl⟩
  | bool => cases h; exact ⟨rfl, rfl⟩
  | str => obtain ⟨rfl, _⟩ := h; exact ⟨rfl, rfl⟩
  | row f => exact ⟨cells_oneCell (RowRel.oneCell h), RowRel.oneCell h⟩
  | lrow => exact ⟨cells_oneCell (LRowRel.oneCell h), LRowRel.oneCell h⟩
  | vec => simp [E.size] at h1
  | pr => simp [E.size] at h1

/-- The view's cells are the world's. -/
theorem V_cell {a : Addr} {v : Value} (h : (C.V w obs ρ).cell a = some v) : w.cell? a = some v := by
  simp only [Vw.cell, Ctx.V, mask] at h
  unfold World.cell?
  split at h
  · rename_i c t f hm
    split at hm
    · cases hm
    · rw [hm]; exact h
  · cases h

/-- The same in every later world in which nothing that is read has turned. -/
theorem loadV_sound (hC : C.Ok) {t : TypeId} {x : AV} {vc : Prop} {r : AV} {o : List O} (rr : WRel C obs w ρ) {u : Value}
    (hx : AVRel (C.V w obs ρ) obs ρ x u) (h : loadV (C.sc t) x obs = .ok vc r o) :
    o = obs ∧ ∃ z, AVRel (C.V w obs ρ) obs ρ r z ∧ (Instr.loadAt t u).run C.P w = .ok z w := by
  unfold loadV at h
  split at h
  · rename_i f e d
    split at h
    case isFalse => cases h
    rename_i hc
    cases h
    obtain ⟨a, z, hu, hf, hr, hcell⟩ := hx
    subst hu
    have h0 := hcell 0 (by omega)
    rw [(one_cells hc.2 hr).1] at h0
    simp [Addr.add] at h0
    have h1 := V_cell h0
    refine ⟨rfl, z, ofE_rel hc.2 hr, ?_⟩
    simp [Instr.loadAt, Instr.sureAddr, loadVar, (sc_plain hC hc.1).1 w, h1]
  · rename_i id g s k
    split at h
    case h_3 => cases h
    case h_2 =>
      rename_i hs rows g' nn ho
      split at h
      case isFalse => cases h
      rename_i hc
      obtain ⟨hg, hss, hsc⟩ := hc
      subst hg hss
      cases h
      obtain ⟨a, len, cap, hρ, hk, hu⟩ := (hx.2 g (by simp [genOf, ho, O.gen])).2 rfl
      subst hu
      obtain ⟨cs, hown, hhl, hrow, _⟩ := rr.os id _ ho
      rw [hρ] at hown
      have hlen : len = rows.length := by
        rcases hown.2 with ⟨hh, _⟩ | ⟨b, c2, cur, hh, _⟩
        · cases hh
        · cases hh; rfl
      subst hlen
      have hcl : cs.length = rows.length := by have := hown.1; omega
      have hm := hrow k hs[k] rows[k] cs[k] (by simp) (by simp) (by simp)
      have hcell := hown.cells (g := a.block) (by simp [Value.ownBlock]) k cs[k] (by simp)
      have ha : a = ⟨a.block, 0, none⟩ := by
        rcases hown.2 with ⟨hh, _⟩ | ⟨b, c2, cur, hh, _⟩
        · cases hh
        · cases hh; rfl
      rw [← ha] at hcell
      refine ⟨rfl, cs[k], ?_, by simp [Instr.loadAt, Instr.sureAddr, loadVar, (sc_plain hC hsc).1 w, hcell]⟩
      have e1 : hs.getD k none = hs[k] := by simp [show k < hs.length by omega]
      have e2 : rows.getD k [] = rows[k] := by simp [hk]
      rw [e1, e2]
      cases hh : hs[k] with
      | none => rw [hh] at hm; exact hm.1
      | some h => rw [hh] at hm; exact hm.1
    rename_i e xs g' nn ho
    split at h
    case isFalse => cases h
    rename_i hc
    obtain ⟨hg, hs, hsc, h1⟩ := hc
    subst hg hs
    cases h
    obtain ⟨a, len, cap, hρ, hk, hu⟩ := (hx.2 g (by simp [genOf, ho, O.gen])).2 rfl
    subst hu
    obtain ⟨cs, hown, henc, _⟩ := rr.os id _ ho
    rw [hρ] at hown
    have hlen : len = xs.length := by
      rcases hown.2 with ⟨hh, _⟩ | ⟨b, c2, cur, hh, _⟩
      · cases hh
      · cases hh; rfl
    subst hlen
    obtain ⟨z, hr, hz⟩ := henc.2 k hk
    have h0 := hz 0 (by omega)
    rw [(one_cells h1 hr).1] at h0
    simp [h1] at h0
    have hcell := hown.cells (g := a.block) (by simp [Value.ownBlock]) k z h0
    have ha : a = ⟨a.block, 0, none⟩ := by
      rcases hown.2 with ⟨hh, _⟩ | ⟨b, c2, cur, hh, _⟩
      · cases hh
      · cases hh; rfl
    rw [← ha] at hcell
    refine ⟨rfl, z, by rw [getD_eq hk]; exact ofE_rel h1 hr, ?_⟩
    simp [Instr.loadAt, Instr.sureAddr, loadVar, (sc_plain hC hsc).1 w, h1, hcell]
  · cases h

end sound
end Go.Aw
