/- Operations that make or write memory: make, a literal slice, append, a store, a piece of a slice. -/
import Derived.Test.YtbeeblhmgpgkjaaAw4
import Derived.Laws.AppendOwnNone
set_option linter.unusedVariables false
set_option linter.unusedSimpArgs false
namespace Go.Aw
open Go

theorem maxLen_num : maxLen = 9223372036854775807 := rfl

def E.fam : E → E
  | .row _ => .lrow
  | e => e

/-- What make makes of a slice of slices: rows that are nil yet. -/
def E.made : E → E
  | .lrow => .row true
  | e => e

def E.zeroD : (e : E) → Option e.D
  | .int => some (0 : Int)
  | .byte => some (0 : Int)
  | .bool => some false
  | .str => some []
  | .row _ => some []
  | .lrow => none
  | .vec => some [0, 0, 0, 0]
  | .pr => none

/-- make([]T, n) -/
def makeV (e? : Option E) (l c : AV) (obs : List O) : Res :=
  match e?, l, c with
  | some .lrow, .int _ n, .int _ m => .ok (n = m ∧ 0 ≤ n ∧ 24 * n ≤ 281474976710656) (.own obs.length 0) (obs ++ [.mat (List.replicate n.toNat none) (List.replicate n.toNat []) 0 true])
  | some e, .int _ n, .int _ m =>
    match e.made.zeroD with
    | some z => .ok (n = m ∧ 0 ≤ n ∧ e.bytes * n ≤ 281474976710656) (.own obs.length 0) (obs ++ [.arr e.made (List.replicate n.toNat z) 0 true])
    | none => .bad
  | _, _, _ => .bad

def allE (e : E) : List AV → Option (List e.D)
  | [] => some []
  | x :: r => match toE e x, allE e r with
    | some d, some l => some (d :: l)
    | _, _ => none

/-- Rows that a literal slice of slices borrows: owned ones among them are let go. -/
def rowsOf : List AV → List O → Option (List (List Int) × List O)
  | [], obs => some ([], obs)
  | .sl _ .int xs :: r, obs => (rowsOf r obs).map fun p => (xs :: p.1, p.2)
  | .lr _ xs :: r, obs => (rowsOf r obs).map fun p => (xs :: p.1, p.2)
  | .own id g :: r, obs => match obs[id]? with
    | some (.arr .int xs g' _) => if g = g' then (rowsOf r (obs.set id .dead)).map fun p => (xs :: p.1, p.2) else none
    | _ => none
  | _, _ => none

/-- A number that no labelled row bears. -/
def FreshL (obs : List O) (l : Nat) : Prop := ∀ o ∈ obs, ∀ ys gg nn, o = .arr .lrow ys gg nn → ∀ p ∈ ys, p.1 ≠ l

/-- A slice written out. -/
def buildV (e? : Option E) (n : Nat) (parts : List (Nat × AV)) (obs : List O) : Res :=
  match e? with
  | some e =>
    if parts.map (·.1) = List.range n ∧ n ≤ 1000 ∧ e.size = 1 then
      if e = .lrow then
        match parts with
        | [] => .ok True (.own obs.length 0) (obs ++ [.arr .lrow [] 0 true])
        | [(_, .lr l xs)] => .ok True (.own obs.length 0) (obs ++ [.arr .lrow [(l, xs)] 0 true])
        | [(_, .sl true .int xs)] => .ok True (.own obs.length 0) (obs ++ [.arr (.row true) [xs] 0 true])
        | [(_, .own id g)] => match obs[id]? with
          | some (.arr .int xs g' true) => if g = g' then
              .all (FreshL obs) (.own obs.length 0) (fun l => obs.set id .dead ++ [.arr .lrow [(l, xs)] 0 true])
            else .bad
          | _ => .bad
        | _ => match rowsOf (parts.map (·.2)) obs with
          | some (l, obs') => .ok True (.own obs.length 0) (obs' ++ [.arr (.row false) l 0 true])
          | none => .bad
      else
        match allE e (parts.map (·.2)) with
        | some l => .ok (∀ s, AV.str s ∈ parts.map (·.2) → s.length ≤ maxLen) (.own obs.length 0) (obs ++ [.arr e l 0 true])
        | none => .bad
    else .bad
  | none => .bad

def convL : (e' e : E) → List e.D → Option (List e'.D)
  | .int, .int, ys => some ys
  | .byte, .byte, ys => some ys
  | .bool, .bool, ys => some ys
  | .str, .str, ys => some ys
  | .row true, .row true, ys => some ys
  | .row true, .lrow, ys => some (ys.map (·.2))
  | .row false, .row _, ys => some ys
  | .row false, .lrow, ys => some (ys.map (·.2))
  | .lrow, .lrow, ys => some ys
  | .vec, .vec, ys => some ys
  | .pr, .pr, ys => some ys
  | _, _, _ => none

/-- The elements of an append's source. -/
def srcL (e' : E) (x : AV) (obs : List O) (not : Option Nat) : Option (List e'.D) :=
  match x with
  | .sl _ e ys => convL e' e ys
  | .lr _ ys => convL e' .int ys
  | .nils => some []
  | .emp _ => some []
  | .own id g => if not = some id then none else match obs[id]? with
    | some (.arr e ys g' _) => if g = g' then convL e' e ys else none
    | _ => none
  | _ => none

def appendV (e? : Option E) (s x : AV) (obs : List O) : Res :=
  match e?, s with
  | some e, .own id g => match obs[id]? with
    | some (.arr e' xs g' nn) =>
      if g = g' ∧ e'.fam = e.fam then
        match srcL e' x obs (some id) with
        | some ys => .ok ((xs.length + ys.length) * e.bytes ≤ 140737488355328) (.own id (g + 1)) (obs.set id (.arr e' (xs ++ ys) (g + 1) (nn || !ys.isEmpty)))
        | none => .bad
      else .bad
    | _ => .bad
  | some e, .nils => match srcL e x obs none with
    | some ys => .ok (ys.length * e.bytes ≤ 140737488355328) (.own obs.length 0) (obs ++ [.arr e ys 0 (!ys.isEmpty)])
    | none => .bad
  | _, _ => .bad

def bnd (d : Int) : Option AV → Option Int
  | none => some d
  | some (.int _ n) => some n
  | _ => none

/-- A piece of what is only read. -/
def sliceV (x : AV) (lo hi : Option AV) (obs : List O) : Res :=
  match x with
  | .sl f e xs => match bnd 0 lo, bnd xs.length hi with
    | some l, some h => .ok (0 ≤ l ∧ l ≤ h ∧ h ≤ xs.length) (.sl f e ((xs.drop l.toNat).take (h.toNat - l.toNat))) obs
    | _, _ => .bad
  | .lr _ xs => match bnd 0 lo, bnd xs.length hi with
    | some l, some h => .ok (0 ≤ l ∧ l ≤ h ∧ h ≤ xs.length) (.sl true .int ((xs.drop l.toNat).take (h.toNat - l.toNat))) obs
    | _, _ => .bad
  | .str s => match bnd 0 lo, bnd s.length hi with
    | some l, some h => .ok (0 ≤ l ∧ l ≤ h ∧ h ≤ s.length) (.str ((s.drop l.toNat).take (h.toNat - l.toNat))) obs
    | _, _ => .bad
  | _ => .bad

section sound
variable {C : Ctx} {obs : List O} {w : World} {ρ : Nat → Value}

theorem le_one {w' : World} {id : Nat} {o o' : O} {v : Value} (ho : obs[id]? = some o) (h : Ext (fun b => fpo (ρ id) o b) w w')
    (hb : ∀ b, fpo v o' b → fpo (ρ id) o b ∨ w.heap.size ≤ b) : (C.V w obs ρ).le (C.V w' (obs.set id o') (fun i => if i = id then v else ρ i)) := by
  refine ⟨fun b x hx => ?_, fun _ h => h, rfl⟩
  simp only [Ctx.V, mask] at hx ⊢
  split at hx
  · cases hx
  · rename_i hn
    have hlt := (Array.getElem?_eq_some_iff.1 hx).1
    have hS : ¬ fpo (ρ id) o b := fun hh => hn ⟨id, o, ho, hh⟩
    have hn' : ¬ Own (obs.set id o') (fun i => if i = id then v else ρ i) b := by
      rintro ⟨j, oj, hj, hf⟩
      by_cases hji : id = j
      · subst hji
        rw [List.getElem?_set_self (List.getElem?_eq_some_iff.1 ho).1] at hj
        cases hj
        rcases hb b (by simpa using hf) with hh | hh
        · exact hS hh
        · omega
      · rw [List.getElem?_set_ne hji] at hj
        exact hn ⟨j, oj, hj, by simpa [Ne.symm hji] using hf⟩
    rw [if_neg hn', h.block b hlt hS]
    exact hx

theorem le_new {w' : World} {o : O} {v : Value} (h : Ext (fun _ => False) w w')
    (hb : ∀ b, fpo v o b → w.heap.size ≤ b) : (C.V w obs ρ).le (C.V w' (obs ++ [o]) (fun i => if i = obs.length then v else ρ i)) := by
  refine ⟨fun b x hx => ?_, fun _ h => h, rfl⟩
  simp only [Ctx.V, mask] at hx ⊢
  split at hx
  · cases hx
  · rename_i hn
    have hlt := (Array.getElem?_eq_some_iff.1 hx).1
    have hn' : ¬ Own (obs ++ [o]) (fun i => if i = obs.length then v else ρ i) b := by
      rintro ⟨j, oj, hj, hf⟩
      rw [List.getElem?_append] at hj
      split at hj
      · rename_i hl
        exact hn ⟨j, oj, hj, by simpa [Nat.ne_of_lt hl] using hf⟩
      · have hj0 : j = obs.length := by
          rcases Nat.lt_or_ge obs.length j with k | k
          · rw [List.getElem?_eq_none (by simp; omega)] at hj; cases hj
          · omega
        subst hj0
        simp at hj
        subst hj
        have := hb b (by simpa using hf)
        omega
    rw [if_neg hn', h.block b hlt (fun k => k)]
    exact hx

/-! ### A store -/

theorem toE_rel {V : Vw} {e : E} {x : AV} {d : e.D} {u : Value} (h : toE e x = some d) (hs : ∀ s, x = .str s → s.length ≤ maxLen) (hx : AVRel V obs ρ x u) : ElRel V e d u := by
  unfold toE at h
  split at h <;> simp at h
  · subst h; exact hx
  · subst h; exact hx
  · subst h; exact hx
  · subst h; exact ⟨hx, hs _ rfl⟩
  · subst h; exact SlRel.toRow hx
  · subst h; exact LRowRel.toRow hx
  · subst h; exact (SlRel.toRow hx).weaken
  · subst h; exact (LRowRel.toRow hx).weaken
  · subst h; exact hx

theorem enc_set {V : Vw} {e : E} (h1 : e.size = 1) {xs : List e.D} {cs : List Value} (h : Enc V e xs cs) {k : Nat} {d : e.D} {u : Value} (hd : ElRel V e d u) : Enc V e (xs.set k d) (cs.set k u) := by
  refine ⟨by simpa using h.1, fun i hi => ?_⟩
  simp at hi
  by_cases hk : k = i
  · subst hk
    refine ⟨u, by simpa using hd, fun j hj => ?_⟩
    have : j = 0 := by omega
    subst this
    have hl : k < cs.length := by have := h.1; rw [h1] at this; omega
    rw [(one_cells h1 hd).1]
    simp [h1, hl]
  · obtain ⟨z, hz, hc⟩ := h.2 i hi
    refine ⟨z, by simpa [hk] using hz, fun j hj => ?_⟩
    have : j = 0 := by omega
    subst this
    rw [← hc 0 hj]
    simp [h1, List.getElem?_set_ne hk]

theorem storeV_sound (hC : C.Ok) {t : TypeId} {x y : AV} {vc : Prop} {o : List O} (rr : WRel C obs w ρ) {u v : Value}
    (hx : AVRel (C.V w obs ρ) obs ρ x u) (hy : AVRel (C.V w obs ρ) obs ρ y v) (hs : ∀ s, y = .str s → s.length ≤ maxLen) (h : storeV (C.sc t) x y obs = .skip vc o) :
    ∃ w', (Instr.storeAt t u v).run C.P w = .ok () w' ∧ Step C w w' obs o ρ ρ := by
  unfold storeV at h
  split at h
  case h_2 => cases h
  rename_i id g s k
  split at h
  case h_3 => cases h
  case h_2 =>
    split at h
    case isFalse => cases h
    split at h
    case h_2 => cases h
    split at h
    case h_2 => cases h
    split at h <;> cases h
  rename_i e xs g' nn ho
  split at h
  case isFalse => cases h
  rename_i hc
  obtain ⟨hg, hss, hsc, h1⟩ := hc
  subst hg hss
  split at h
  case h_2 => cases h
  rename_i d hd
  cases h
  have hel := toE_rel hd hs hy
  obtain ⟨a, len, cap, hρ, hk, hu⟩ := (hx.2 g (by simp [genOf, ho, O.gen])).2 rfl
  subst hu
  obtain ⟨cs, hown, henc, hnn, hml⟩ := rr.os id _ ho
  rw [hρ] at hown
  obtain ⟨b, ha, hlen⟩ : ∃ b, a = ⟨b, 0, none⟩ ∧ len = xs.length := by
    rcases hown.2 with ⟨hh, _⟩ | ⟨b, c2, cur, hh, _⟩
    · cases hh
    · cases hh; exact ⟨b, rfl, rfl⟩
  subst ha hlen
  have hcl : cs.length = xs.length := by have := henc.1; rw [h1] at this; omega
  have hcell := hown.cellAt k (by rw [h1]; omega)
  have hfr := hown.frozenAt k
  obtain ⟨hst, hgr⟩ := hown.stored k v
  rw [List.getElem?_eq_getElem (by omega)] at hcell
  obtain ⟨i, hi, hi1⟩ := (sc_plain hC hsc).2
  have hv1 := one_cells h1 hel
  have hrun : (Instr.storeAt t (.pointer (some ((⟨b, 0, none⟩ : Addr).add (k * e.size)))) v).run C.P w = .ok () (w.setCell ⟨b, k, none⟩ v) := by
    rw [add_plain, h1]
    simp only [Nat.mul_one, Nat.zero_add, Instr.storeAt, Instr.sureAddr, storeVar, Sem.run_bind, Sem.run_pure, Result.andThen_ok]
    simp [sizeOf, typeInfo, hi, hi1, hv1.1, storeCells, run_store _ _ _ _ _ hv1.2, Addr.add, hcell, hfr]
  have hfp : fpo (ρ id) (.arr e xs g nn) b := by simp [fpo, hρ, Value.ownBlock]
  have hρe : (fun i => if i = id then ρ id else ρ i) = ρ := by funext i; split <;> simp_all
  refine ⟨_, hrun, ?_⟩
  have hext : Ext (fun b' => fpo (ρ id) (.arr e xs g nn) b') w (w.setCell ⟨b, k, none⟩ v) := (Ext.grownBy hgr).mono fun x hx => by cases hx; exact hfp
  have hb : ∀ b', fpo (ρ id) (.arr e (xs.set k d) g nn) b' → fpo (ρ id) (.arr e xs g nn) b' ∨ w.heap.size ≤ b' := fun b' hb' => .inl hb'
  have hV := le_one (C := C) ho hext hb
  have T := Turn.one rr id (.arr e xs g nn) (.arr e (xs.set k d) g nn) (ρ id) ho hext (w' := w.setCell ⟨b, k, none⟩ v)
    (by
      rw [hρe] at hV ⊢
      refine ⟨cs.set k v, ?_, enc_set h1 (henc.mono hV) (hel.mono hV), hnn, by simpa using hml⟩
      rw [hρ]
      simpa using hst) hb
    (by
      intro c' hc'
      simp [O.gen] at hc'
      exact ⟨g, by simp [O.gen], .inl ⟨hc'.symm, rfl⟩⟩)
  rw [hρe] at T
  exact T.step rr

theorem hd_of (l cap : Nat) (h : cap ≤ maxLen) : hdB (l * 18446744073709551616 + cap) = l ∧ hdC (l * 18446744073709551616 + cap) = cap := by
  rw [maxLen_num] at h
  unfold hdB hdC
  constructor <;> omega

theorem get_set {α : Type} {l : List α} {i k : Nat} {a b : α} (h : (l.set k a)[i]? = some b) : (i = k ∧ b = a) ∨ (i ≠ k ∧ l[i]? = some b) := by
  by_cases hk : k = i
  · subst hk
    rw [List.getElem?_set_self' ] at h
    cases hh : l[k]? with
    | none => rw [hh] at h; cases h
    | some c => rw [hh] at h; cases h; exact .inl ⟨rfl, rfl⟩
  · rw [List.getElem?_set_ne hk] at h
    exact .inr ⟨fun e => hk e.symm, h⟩

/-- An owned row is put into an owned matrix. -/
theorem storeM_sound (hC : C.Ok) {t : TypeId} {x y : AV} {p : Nat → Prop} {r : AV} {o : Nat → List O} (rr : WRel C obs w ρ) {u v : Value}
    (hx : AVRel (C.V w obs ρ) obs ρ x u) (hy : AVRel (C.V w obs ρ) obs ρ y v) (h : storeV (C.sc t) x y obs = .all p r o) :
    ∃ w' l, p l ∧ (Instr.storeAt t u v).run C.P w = .ok () w' ∧ r = .junk ∧ Step C w w' obs (o l) ρ ρ := by
  unfold storeV at h
  split at h
  case h_2 => cases h
  rename_i id g s k
  split at h
  case h_3 => cases h
  case h_1 =>
    split at h
    case isFalse => cases h
    split at h <;> cases h
  rename_i hs rows g' nn ho
  split at h
  case isFalse => cases h
  rename_i hc
  obtain ⟨hg, hss, hsc⟩ := hc
  subst hg hss
  split at h
  case h_2 => cases h
  rename_i id2 g2
  split at h
  case h_2 => cases h
  rename_i xs g2' ho2
  split at h
  case isFalse => cases h
  rename_i hg2
  subst hg2
  cases h
  have hne : id2 ≠ id := fun e => by subst e; rw [ho] at ho2; cases ho2
  obtain ⟨a, len, cap, hρ, hk, hu⟩ := (hx.2 g (by simp [genOf, ho, O.gen])).2 rfl
  subst hu
  have hM := rr.os id _ ho
  obtain ⟨cs, hown, hhl, hrow, hnd, hout, hnn, hml⟩ := hM
  rw [hρ] at hown
  obtain ⟨b, ha, hlen⟩ : ∃ b, a = ⟨b, 0, none⟩ ∧ len = rows.length := by
    rcases hown.2 with ⟨hh, _⟩ | ⟨b, c2, cur, hh, _⟩
    · cases hh
    · cases hh; exact ⟨b, rfl, rfl⟩
  subst ha hlen
  have hcl : cs.length = rows.length := by have := hown.1; omega
  obtain ⟨hv2, cs2, hown2, henc2, hnn2, hml2⟩ := own_arr rr ho2 hy
  have hcs2 : cs2 = xs.map (Value.int .i64) := by
    apply List.ext_getElem?
    intro i
    have hl := henc2.1
    simp only [E.size, Nat.mul_one] at hl
    by_cases hi : i < xs.length
    · obtain ⟨u, hu, hc⟩ := henc2.2 i hi
      have h0 := hc 0 (by simp [E.size])
      cases hu
      simp [E.size, Value.cells] at h0
      rw [h0]
      simp [hi]
    · rw [List.getElem?_eq_none (by omega), List.getElem?_eq_none (by simp; omega)]
  subst hcs2
  rcases hown2.2 with ⟨hvn, _⟩ | ⟨l2, cap2, cur2, hvv, _, hg2, m1, m2, m3, m4⟩
  · exact absurd hvn (hv2 ▸ hnn2 rfl)
  have hfp2 : fpo (ρ id2) (.arr .int xs g2 true) l2 := by rw [← hv2]; simp [fpo, hvv, Value.ownBlock]
  have hfpb : fpo (ρ id) (.mat hs rows g nn) b := .inl (by rw [hρ]; rfl)
  have hl2b : l2 ≠ b := fun e => hne (rr.dis id2 id _ _ l2 ho2 ho hfp2 (e ▸ hfpb))
  have hcell := hown.cellAt k (by omega)
  have hfr := hown.frozenAt k
  obtain ⟨hst, hgr⟩ := hown.stored k v
  rw [List.getElem?_eq_getElem (by omega)] at hcell
  obtain ⟨i, hi, hi1⟩ := (sc_plain hC hsc).2
  have hone : v.oneCell' = true := by rw [hvv]; rfl
  have hrun : (Instr.storeAt t (.pointer (some ((⟨b, 0, none⟩ : Addr).add (k * 1)))) v).run C.P w = .ok () (w.setCell ⟨b, k, none⟩ v) := by
    rw [add_plain]
    simp only [Nat.mul_one, Nat.zero_add, Instr.storeAt, Instr.sureAddr, storeVar, Sem.run_bind, Sem.run_pure, Result.andThen_ok]
    simp [sizeOf, typeInfo, hi, hi1, cells_oneCell hone, storeCells, run_store _ _ _ _ _ hone, Addr.add, hcell, hfr]
  obtain ⟨e1, e2⟩ := hd_of l2 cap2 m2
  have hlt : id < obs.length := (List.getElem?_eq_some_iff.1 ho).1
  have hlt2 : id2 < obs.length := (List.getElem?_eq_some_iff.1 ho2).1
  have hext0 : Ext (fun b' => b' = b) w (w.setCell ⟨b, k, none⟩ v) := (Ext.grownBy hgr).mono fun x hx => by cases hx; rfl
  refine ⟨_, l2 * 18446744073709551616 + cap2, trivial, hrun, rfl, ?_⟩
  have T : Turn C w (w.setCell ⟨b, k, none⟩ v) obs ((obs.set id2 .dead).set id (.mat (hs.set k (some (l2 * 18446744073709551616 + cap2))) (rows.set k xs) g nn)) ρ ρ
      (fun b' => fpo (ρ id) (.mat hs rows g nn) b' ∨ fpo (ρ id2) (.arr .int xs g2 true) b') := by
    have get : ∀ (j : Nat) (o1 : O), ((obs.set id2 .dead).set id (.mat (hs.set k (some (l2 * 18446744073709551616 + cap2))) (rows.set k xs) g nn))[j]? = some o1 →
        (id = j ∧ o1 = .mat (hs.set k (some (l2 * 18446744073709551616 + cap2))) (rows.set k xs) g nn) ∨ (id2 = j ∧ o1 = .dead) ∨ (j ≠ id ∧ j ≠ id2 ∧ obs[j]? = some o1) := by
      intro j o1 hj
      rcases get_set hj with ⟨h1, h2⟩ | ⟨h1, h2⟩
      · exact .inl ⟨h1.symm, h2⟩
      · rcases get_set h2 with ⟨h3, h4⟩ | ⟨h3, h4⟩
        · exact .inr (.inl ⟨h3.symm, h4⟩)
        · exact .inr (.inr ⟨h1, h3, h4⟩)
    have newfp : ∀ b', fpo (ρ id) (.mat (hs.set k (some (l2 * 18446744073709551616 + cap2))) (rows.set k xs) g nn) b' → fpo (ρ id) (.mat hs rows g nn) b' ∨ fpo (ρ id2) (.arr .int xs g2 true) b' := by
      rintro b' (h | ⟨h, hm, rfl⟩)
      · exact .inl (.inl h)
      · obtain ⟨j, hj⟩ := List.getElem?_of_mem hm
        rcases get_set hj with ⟨_, h2⟩ | ⟨_, h2⟩
        · cases h2; rw [e1]; exact .inr hfp2
        · exact .inl (.inr ⟨h, List.mem_of_getElem? h2, rfl⟩)
    refine ⟨hext0.mono fun x hx => by cases hx; exact .inl hfpb, by simp, fun b' hb' => ?_, fun j o1 hj => ?_, fun i1 j o1 o2 b' hi1' hj bi bj hS => ?_⟩
    · rcases hb' with h | h
      · exact ⟨id, _, ho, h⟩
      · exact ⟨id2, _, ho2, h⟩
    · rcases get j o1 hj with ⟨rfl, rfl⟩ | ⟨rfl, rfl⟩ | ⟨n1, n2, h3⟩
      · refine .inr ⟨?_, fun b' hb' => .inl (newfp b' hb'), fun _ c' hc' => ⟨g, by simp [genOf, ho, O.gen], .inl ⟨by simp [O.gen] at hc'; exact hc'.symm, rfl⟩⟩⟩
        refine ⟨cs.set k v, by rw [hρ]; simpa using hst, by simpa using hhl, fun i1 h1 xs1 u1 q1 q2 q3 => ?_, fun i1 j1 h1 h2 q1 q2 q3 => ?_, fun h1 q1 => ?_, hnn, by simpa using hml⟩
        · rcases get_set q1 with ⟨a1, a2⟩ | ⟨a1, a2⟩
          · subst a1 a2
            rcases get_set q2 with ⟨_, b2⟩ | ⟨b1, _⟩
            · rcases get_set q3 with ⟨_, c2⟩ | ⟨c1, _⟩
              · subst b2 c2
                refine ⟨by rw [e1, e2]; exact hvv, cur2, ?_, by rw [e2]; exact m1, by rw [e2]; exact m2, by rw [e2]; simpa [E.size] using m3, by simpa [E.size] using m4⟩
                rw [e1, hext0.block l2 (Array.getElem?_eq_some_iff.1 hg2).1 hl2b]
                exact hg2
              · exact absurd rfl c1
            · exact absurd rfl b1
          · rcases get_set q2 with ⟨b1, _⟩ | ⟨_, b2⟩
            · exact absurd b1 a1
            · rcases get_set q3 with ⟨c1, _⟩ | ⟨_, c2⟩
              · exact absurd c1 a1
              · refine (hrow i1 h1 xs1 u1 a2 b2 c2).kept fun x hx => ?_
                subst hx
                have hmem : some x ∈ hs := List.mem_of_getElem? a2
                refine hext0.block _ ((rr.os id _ ho).lt (b := hdB x) (.inr ⟨x, hmem, rfl⟩)) fun e => ?_
                exact hout x hmem (by rw [hρ, e]; rfl)
        · have other : ∀ (n1 : Nat) (hh : Nat), hs[n1]? = some (some hh) → hdB hh ≠ l2 := fun n1 hh q e =>
            hne (rr.dis id2 id _ _ l2 ho2 ho hfp2 (.inr ⟨hh, List.mem_of_getElem? q, e⟩))
          rcases get_set q1 with ⟨a1, a2⟩ | ⟨a1, a2⟩ <;> rcases get_set q2 with ⟨b1, b2⟩ | ⟨b1, b2⟩
          · exact a1.trans b1.symm
          · cases a2; rw [e1] at q3; exact absurd q3.symm (other j1 h2 b2)
          · cases b2; rw [e1] at q3; exact absurd q3 (other i1 h1 a2)
          · exact hnd i1 j1 h1 h2 a2 b2 q3
        · obtain ⟨j1, q2⟩ := List.getElem?_of_mem q1
          rcases get_set q2 with ⟨a1, a2⟩ | ⟨a1, a2⟩
          · cases a2; rw [e1, hρ]; intro hh; simp [Value.ownBlock] at hh; exact hl2b hh.symm
          · exact hout h1 (List.mem_of_getElem? a2)
      · exact .inr ⟨trivial, fun b' hb' => hb'.elim, fun _ c' hc' => by simp [O.gen] at hc'⟩
      · refine .inl ⟨h3, rfl, fun b' hb' hh => ?_⟩
        rcases hh with hh | hh
        · exact n1 (rr.dis j id _ _ b' h3 ho hb' hh)
        · exact n2 (rr.dis j id2 _ _ b' h3 ho2 hb' hh)
    · have key : ∀ (i1 : Nat) (o1 : O), ((obs.set id2 .dead).set id (.mat (hs.set k (some (l2 * 18446744073709551616 + cap2))) (rows.set k xs) g nn))[i1]? = some o1 → fpo (ρ i1) o1 b' → i1 = id := by
        intro i1 o1 h1 h2
        rcases get i1 o1 h1 with ⟨h, _⟩ | ⟨rfl, rfl⟩ | ⟨n1, n2, h3⟩
        · exact h.symm
        · exact h2.elim
        · exfalso
          rcases hS with (hh | hh) | hh
          · exact n1 (rr.dis i1 id _ _ b' h3 ho h2 hh)
          · exact n2 (rr.dis i1 id2 _ _ b' h3 ho2 h2 hh)
          · have := (rr.os i1 o1 h3).lt h2; omega
      rw [key i1 o1 hi1' bi, key j o2 hj bj]
  exact T.step rr

/-! ### make -/

theorem enc_replicate {V : Vw} {e : E} {z : e.D} {u : Value} (hz : ElRel V e z u) {n : Nat} {cs : List Value} (hl : cs.length = n * e.size) (hc : ∀ j, j < n * e.size → cs[j]? = u.cells[j % e.size]?) :
    Enc V e (List.replicate n z) cs := by
  refine ⟨by simpa using hl, fun i hi => ⟨u, by simpa using hz, fun j hj => ?_⟩⟩
  simp at hi
  have hlt : i * e.size + j < n * e.size := by
    have : (i + 1) * e.size ≤ n * e.size := Nat.mul_le_mul_right _ hi
    rw [Nat.add_mul] at this
    omega
  rw [hc _ hlt]
  congr 1
  rw [Nat.mul_comm, Nat.mul_add_mod, Nat.mod_eq_of_lt hj]

theorem zeroD_rel {V : Vw} {e : E} {z : e.D} (h : e.zeroD = some z) : ElRel V e z e.zero := by
  cases e <;> simp [E.zeroD] at h <;> subst h
  · rfl
  · rfl
  · rfl
  · exact ⟨rfl, by simp⟩
  · exact ⟨none, 0, rfl, by simp, by simp, fun i hi => by simp at hi⟩
  · exact ⟨rfl, rfl⟩

theorem zero_fam (e : E) : e.made.zero = e.zero ∧ e.made.size = e.size := by
  cases e <;> simp [E.zero, E.size, E.made]

theorem tid_fam (hC : C.Ok) (e : E) : C.tid e.made = C.tid e := by
  cases e <;> first | rfl | exact hC.same true

theorem madeCells_get (z : Array Value) (n j : Nat) (h : j < n) (hz : 0 < z.size) : (madeCells z n).toList[j]? = z[j % z.size]? := by
  have hm : j % z.size < z.size := Nat.mod_lt _ hz
  simp [madeCells, h, hm, getElem!_pos]

theorem E.size_pos (e : E) : 0 < e.size := by cases e <;> simp [E.size]

theorem makeV_sound (hC : C.Ok) {t : TypeId} {x y : AV} {vc : Prop} {r : AV} {o : List O} (rr : WRel C obs w ρ) {u v : Value}
    (hx : AVRel (C.V w obs ρ) obs ρ x u) (hy : AVRel (C.V w obs ρ) obs ρ y v) (h : makeV (C.Γ t) x y obs = .ok vc r o) (hv : vc) :
    ∃ z w' ρ', (Instr.makeSlice t u v).run C.P w = .ok z w' ∧ Step C w w' obs o ρ ρ' ∧ AVRel (C.V w' o ρ') o ρ' r z := by
  unfold makeV at h
  split at h
  case h_3 => cases h
  case h_1 =>
    rename_i k n k2 m he
    cases h
    obtain ⟨rfl, h0, hb⟩ := hv
    simp only [AVRel] at hx hy
    subst hx hy
    obtain ⟨ht, i, hi, hzero, hsize, hbytes⟩ := hC.sl t .lrow he
    obtain ⟨q, rfl⟩ := Int.eq_ofNat_of_zero_le h0
    have hbq : 24 * q ≤ 281474976710656 := by omega
    have hq : q ≤ maxLen := by rw [maxLen_num]; omega
    obtain ⟨w', hrun, hown, hgr⟩ := run_make_full (P := C.P) w 0 t (C.tid .lrow) i (E.zero .lrow) 1 ht hi hzero hsize k k2 q (by rw [hbytes]; exact hbq) hq (Nat.zero_le _)
    have hext : Ext (fun _ => False) w w' := (Ext.grownBy hgr).mono fun x hx => by cases hx
    have hfb : ∀ b, fpo (.slice (some ⟨w.heap.size, 0, none⟩) q q) (.mat (List.replicate (q : Int).toNat none) (List.replicate (q : Int).toNat []) 0 true) b → w.heap.size ≤ b := by
      rintro b (hb | ⟨h, hm, _⟩)
      · simp [Value.ownBlock] at hb
        omega
      · simp at hm
    refine ⟨_, w', _, hrun, (Turn.new rr hext _ (.slice (some ⟨w.heap.size, 0, none⟩) q q) ?_ hfb).step rr, ?_⟩
    · refine ⟨_, by simpa using hown, by simp, fun i1 h1 xs1 u1 q1 q2 q3 => ?_, fun i1 j1 h1 h2 q1 => ?_, fun h1 q1 => by simp at q1, by simp, by simpa using hq⟩
      · have hlt : i1 < q := by
          have := (List.getElem?_eq_some_iff.1 q1).1
          simpa using this
        rw [List.getElem?_replicate] at q1 q2
        rw [if_pos (by simpa using hlt)] at q1 q2
        cases q1
        cases q2
        have h3 := madeCells_get (E.zero .lrow).cells (q * 1) i1 (by omega) (by decide)
        rw [Nat.mul_one, q3] at h3
        have h4 : i1 % (E.zero .lrow).cells.size = 0 := Nat.mod_one _
        rw [h4] at h3
        refine ⟨?_, rfl⟩
        simpa [E.zero, Value.cells] using h3
      · rw [List.getElem?_replicate] at q1
        split at q1 <;> cases q1
    · refine ⟨by simp, fun c hc => ?_⟩
      have : c = 0 := by simpa [genOf, O.gen] using hc.symm
      subst this
      simp
  rename_i _ e k n k2 m _ he
  split at h
  case h_2 => cases h
  rename_i z hz
  cases h
  obtain ⟨rfl, h0, hb⟩ := hv
  simp only [AVRel] at hx hy
  subst hx hy
  obtain ⟨ht, i, hi, hzero, hsize, hbytes⟩ := hC.sl t e he
  obtain ⟨q, rfl⟩ := Int.eq_ofNat_of_zero_le h0
  have hbq : e.bytes * q ≤ 281474976710656 := by
    have : ((e.bytes * q : Nat) : Int) ≤ 281474976710656 := by rw [Int.natCast_mul]; exact hb
    omega
  have hbp : 0 < e.bytes := by cases e <;> simp [E.bytes]
  have hq : q ≤ maxLen := by
    have : q ≤ e.bytes * q := Nat.le_mul_of_pos_left q hbp
    rw [maxLen_num]; omega
  have hzs : e.zero.cells.size = e.size := by cases e <;> rfl
  obtain ⟨w', hrun, hown, hgr⟩ := run_make_full (P := C.P) w 0 t (C.tid e) i e.zero e.size ht hi hzero hsize k k2 q (by rw [hbytes]; exact hbq) hq (Nat.zero_le _)
  have hext : Ext (fun _ => False) w w' := (Ext.grownBy hgr).mono fun x hx => by cases hx
  obtain ⟨hzf, hsf⟩ := zero_fam e
  have hfb : ∀ b, fpo (.slice (some ⟨w.heap.size, 0, none⟩) q q) (.arr e.made (List.replicate (q : Int).toNat z) 0 true) b → w.heap.size ≤ b := by
    intro b hb
    simp [fpo, Value.ownBlock] at hb
    omega
  have hV := le_new (C := C) (obs := obs) (ρ := ρ) hext hfb
  refine ⟨_, w', _, hrun, (Turn.new rr hext _ (.slice (some ⟨w.heap.size, 0, none⟩) q q) ?_ hfb).step rr, ?_⟩
  · refine ⟨_, ?_, enc_replicate (u := e.zero) (n := q) (by have := zeroD_rel (V := C.V w' (obs ++ [.arr e.made (List.replicate (q : Int).toNat z) 0 true]) (fun i => if i = obs.length then .slice (some ⟨w.heap.size, 0, none⟩) q q else ρ i)) hz; rw [hzf] at this; exact this) (by rw [hsf]; exact hown.1) ?_, by simp, by simpa using hq⟩
    · rw [tid_fam hC, hsf]
      simpa using hown
    · intro j hj
      rw [hsf] at hj ⊢
      rw [madeCells_get _ _ _ hj (by rw [hzs]; exact e.size_pos), hzs]
  · refine ⟨by simp, fun c hc => ?_⟩
    have : c = 0 := by simpa [genOf, O.gen] using hc.symm
    subst this
    simp

/-! ### append -/

theorem convL_rel {V : Vw} {e' e : E} {ys : List e.D} {zs : List e'.D} (h : convL e' e ys = some zs) {i : Nat} (hi : i < ys.length) :
    ∃ hi' : i < zs.length, e'.size = e.size ∧ ∀ u, ElRel V e ys[i] u → ElRel V e' zs[i] u := by
  unfold convL at h
  split at h <;> simp at h <;> subst h
  · exact ⟨hi, rfl, fun u k => k⟩
  · exact ⟨hi, rfl, fun u k => k⟩
  · exact ⟨hi, rfl, fun u k => k⟩
  · exact ⟨hi, rfl, fun u k => k⟩
  · exact ⟨hi, rfl, fun u k => k⟩
  · exact ⟨by simpa using hi, rfl, fun u k => by have k2 := LRowRel.toRow k; simpa [ElRel] using k2⟩
  · exact ⟨hi, rfl, fun u k => RowRel.weaken k⟩
  · exact ⟨by simpa using hi, rfl, fun u k => by have k2 := (LRowRel.toRow k).weaken; simpa [ElRel] using k2⟩
  · exact ⟨hi, rfl, fun u k => k⟩
  · exact ⟨hi, rfl, fun u k => k⟩
  · exact ⟨hi, rfl, fun u k => k⟩

theorem convL_len {e' e : E} {ys : List e.D} {zs : List e'.D} (h : convL e' e ys = some zs) : zs.length = ys.length := by
  unfold convL at h
  split at h <;> simp at h <;> subst h <;> simp

/-- An append's source as the model reads it. -/
def SrcCells (w : World) (V : Vw) (e : E) (zs : List e.D) (v : Value) : Prop :=
  (zs = [] ∧ ∃ b c, v = .slice b 0 c) ∨
  ∃ a c news, v = .slice (some a) zs.length c ∧ (∀ j u, news[j]? = some u → w.cell? (a.add j) = some u) ∧ (∀ u ∈ news, u.oneCell' = true) ∧ Enc V e zs news

theorem Enc.conv {V : Vw} {e' e : E} {ys : List e.D} {zs : List e'.D} (h : convL e' e ys = some zs) {cs : List Value} (k : Enc V e ys cs) : Enc V e' zs cs := by
  have hl := convL_len h
  by_cases hz : ys.length = 0
  · have h1 := k.1
    rw [hz] at h1 hl
    exact ⟨by rw [hl]; simpa using h1, fun i hi => by omega⟩
  · have hs : e'.size = e.size := (convL_rel (V := V) h (i := 0) (by omega)).2.1
    refine ⟨by rw [hl, hs]; exact k.1, fun i hi => ?_⟩
    obtain ⟨u, hu, hc⟩ := k.2 i (by omega)
    obtain ⟨_, _, hr⟩ := convL_rel (V := V) h (i := i) (by omega)
    exact ⟨u, hr u hu, fun j hj => by rw [hs] at hj ⊢; exact hc j hj⟩

theorem SlRel.src {f : Bool} {e : E} {ys : List e.D} {v : Value} (h : SlRel (C.V w obs ρ) f e ys v) {e' : E} {zs : List e'.D} (hc : convL e' e ys = some zs) : SrcCells w (C.V w obs ρ) e' zs v := by
  obtain ⟨base, cap, hv, h1, h2, hx⟩ := h
  have hl := convL_len hc
  by_cases hz : ys.length = 0
  · exact .inl ⟨List.eq_nil_of_length_eq_zero (by omega), base, cap, by rw [hv, hz]⟩
  · obtain ⟨a, _, ha, _⟩ := hx 0 (by omega)
    have cellOf : ∀ j, j < ys.length * e.size → ∃ i k, j = i * e.size + k ∧ i < ys.length ∧ k < e.size := by
      intro j hj
      have hp := e.size_pos
      refine ⟨j / e.size, j % e.size, (Nat.div_add_mod' j e.size).symm, ?_, Nat.mod_lt _ hp⟩
      exact Nat.div_lt_of_lt_mul (by rw [Nat.mul_comm]; exact hj)
    have each : ∀ j, j < ys.length * e.size → ∃ u, w.cell? (a.add j) = some u ∧ u.oneCell' = true := by
      intro j hj
      obtain ⟨i, k, rfl, hi, hk⟩ := cellOf j hj
      obtain ⟨a', u, ha', _, hr, hcell⟩ := hx i hi
      rw [ha] at ha'
      cases ha'
      have hsz := hr.cells
      have hck := hcell k hk
      rw [Array.getElem?_eq_getElem (by omega)] at hck
      exact ⟨_, V_cell hck, hsz.2 _ (by simp)⟩
    refine .inr ⟨a, cap, (List.range (ys.length * e.size)).map (fun j => (w.cell? (a.add j)).getD undef), by rw [hv, ha, hl], ?_, ?_, ?_⟩
    · intro j u hj
      have hlt : j < ys.length * e.size := by
        rcases Nat.lt_or_ge j (ys.length * e.size) with h | h
        · exact h
        · rw [List.getElem?_eq_none (by simpa using h)] at hj; cases hj
      obtain ⟨u', hu', _⟩ := each j hlt
      simp [hlt, hu'] at hj
      rw [hu', hj]
    · intro u hu
      obtain ⟨j, hj, rfl⟩ := List.mem_map.1 hu
      obtain ⟨u', hu', h1⟩ := each j (List.mem_range.1 hj)
      simpa [hu'] using h1
    · refine Enc.conv hc ⟨by simp, fun i hi => ?_⟩
      obtain ⟨a', u, ha', _, hr, hcell⟩ := hx i hi
      rw [ha] at ha'
      cases ha'
      refine ⟨u, hr, fun k hk => ?_⟩
      have hlt : i * e.size + k < ys.length * e.size := by
        have : (i + 1) * e.size ≤ ys.length * e.size := Nat.mul_le_mul_right _ hi
        rw [Nat.add_mul] at this
        omega
      have hsz := hr.cells
      have hck := hcell k hk
      rw [Array.getElem?_eq_getElem (by omega)] at hck ⊢
      have := V_cell hck
      simp [hlt, this]

theorem srcL_sound {e' : E} {x : AV} {no : Option Nat} {zs : List e'.D} (rr : WRel C obs w ρ) {v : Value} (hx : AVRel (C.V w obs ρ) obs ρ x v) (h : srcL e' x obs no = some zs) :
    SrcCells w (C.V w obs ρ) e' zs v := by
  unfold srcL at h
  split at h
  · exact SlRel.src hx h
  · exact SlRel.src (LRowRel.toRow hx).toSl h
  · simp at h
    subst h
    exact .inl ⟨rfl, none, 0, hx⟩
  · simp at h
    subst h
    obtain ⟨a, c, hv, _⟩ := hx
    exact .inl ⟨rfl, a, c, hv⟩
  · rename_i id g
    split at h
    · cases h
    split at h
    case h_2 => cases h
    rename_i e ys g' nn ho
    split at h
    case isFalse => cases h
    rename_i hg
    subst hg
    obtain ⟨hρ, cs, hown, henc, hnn, hml⟩ := own_arr rr ho hx
    have hl := convL_len h
    have henc' := henc.conv h
    rcases hown.2 with ⟨hv, hz⟩ | ⟨b, cap, cur, hv, rest⟩
    · exact .inl ⟨List.eq_nil_of_length_eq_zero (by omega), none, 0, hv⟩
    · refine .inr ⟨⟨b, 0, none⟩, cap, cs, by rw [hv, hl], fun j u hj => hown.cells (g := b) (by rw [hv]; rfl) j u hj, fun u hu => ?_, henc'⟩
      obtain ⟨j, hj⟩ := List.getElem?_of_mem hu
      have hjl : j < cs.length := (List.getElem?_eq_some_iff.1 hj).1
      have hp := e.size_pos
      have hdiv : j / e.size < ys.length := Nat.div_lt_of_lt_mul (by rw [Nat.mul_comm]; have := henc.1; omega)
      obtain ⟨z, hz, hc⟩ := henc.2 (j / e.size) hdiv
      have hk := hc (j % e.size) (Nat.mod_lt _ hp)
      rw [Nat.div_add_mod', hj] at hk
      have hsz := hz.cells
      rw [Array.getElem?_eq_getElem (by rw [hsz.1]; exact Nat.mod_lt _ hp)] at hk
      have hk2 := Option.some.inj hk
      rw [hk2]
      exact hsz.2 _ (by simp)
  · cases h

theorem enc_append {V : Vw} {e : E} {xs ys : List e.D} {cs ds : List Value} (h : Enc V e xs cs) (k : Enc V e ys ds) : Enc V e (xs ++ ys) (cs ++ ds) := by
  refine ⟨by rw [List.length_append, List.length_append, h.1, k.1, Nat.add_mul], fun i hi => ?_⟩
  by_cases hlt : i < xs.length
  · obtain ⟨u, hu, hc⟩ := h.2 i hlt
    refine ⟨u, by rw [List.getElem_append_left hlt]; exact hu, fun j hj => ?_⟩
    rw [List.getElem?_append_left, hc j hj]
    rw [h.1]
    have : (i + 1) * e.size ≤ xs.length * e.size := Nat.mul_le_mul_right _ hlt
    rw [Nat.add_mul] at this
    omega
  · simp at hi
    obtain ⟨u, hu, hc⟩ := k.2 (i - xs.length) (by omega)
    refine ⟨u, by rw [List.getElem_append_right (by omega)]; exact hu, fun j hj => ?_⟩
    have h1 : xs.length * e.size ≤ i * e.size := Nat.mul_le_mul_right _ (by omega)
    rw [List.getElem?_append_right (by rw [h.1]; omega), ← hc j hj, h.1]
    congr 1
    rw [Nat.sub_mul]
    omega

theorem run_append_zero {t ty e : TypeId} {i : TypeInfo} (ht : C.P.underlying t = some (.slice e)) (hi : C.P.info? e = some i) {v : Value} {n : Nat} {cs : List Value} {size : Nat} (hown : w.ownsRow 0 e size v n cs) (b : Option Addr) (c : Nat) :
    (Builtin.append_ #[t, t] ty #[v, .slice b 0 c]).run C.P w = .ok v w := by
  rcases hown.2 with ⟨rfl, rfl⟩ | ⟨g, cap, cur, rfl, _, _, hnc, _⟩
  · cases b <;> simp [Builtin.append_, run_underlying ht, sizeOf, typeInfo, hi, Builtin.lenOf, Builtin.firstCells, loadCells, loadCellsFrom]
  · cases b <;> simp [Builtin.append_, run_underlying ht, sizeOf, typeInfo, hi, Builtin.lenOf, Builtin.firstCells, hnc, storeCells, loadCells, loadCellsFrom]

theorem append_core {t ty : TypeId} {e0 e : E} (hC : C.Ok) (he : C.Γ t = some e0) (hf : e.fam = e0.fam) {v u : Value} {xs zs : List e.D} {cs : List Value} (hown : w.ownsRow 0 (C.tid e) e.size v xs.length cs)
    (hb : (xs.length + zs.length) * e0.bytes ≤ 140737488355328) (hsrc : SrcCells w (C.V w obs ρ) e zs u) :
    ∃ v' w' ds, (Builtin.append_ #[t, t] ty #[v, u]).run C.P w = .ok v' w' ∧ w'.ownsRow 0 (C.tid e) e.size v' (xs ++ zs).length (cs ++ ds) ∧ Enc (C.V w obs ρ) e zs ds ∧ w.grownBy w' v.ownBlock ∧
      (zs.isEmpty = false → v' ≠ .slice none 0 0) ∧ (v ≠ .slice none 0 0 → v' ≠ .slice none 0 0) ∧ (∀ b, v'.ownBlock = some b → v.ownBlock = some b ∨ w.heap.size ≤ b) ∧ (xs ++ zs).length ≤ maxLen := by
  obtain ⟨ht, i0, hi0, hz0, hs0, hb0⟩ := hC.sl t e0 he
  have htid : C.tid e = C.tid e0 := by
    cases e <;> cases e0 <;> simp [E.fam] at hf <;> first | rfl | (rename_i f; exact hC.same f) | (rename_i f; exact (hC.same f).symm) | (rename_i f g; exact (hC.same f).trans (hC.same g).symm)
  have hsz : e.size = e0.size := by cases e <;> cases e0 <;> simp [E.fam] at hf <;> rfl
  have hbp : 0 < e0.bytes := by cases e0 <;> simp [E.bytes]
  have hlen : (xs ++ zs).length = xs.length + zs.length := List.length_append
  have hmax : xs.length + zs.length ≤ maxLen := by
    have : xs.length + zs.length ≤ (xs.length + zs.length) * e0.bytes := Nat.le_mul_of_pos_right _ hbp
    rw [maxLen_num]; omega
  rcases hsrc with ⟨rfl, b, c, rfl⟩ | ⟨a, c, news, rfl, h1, h2, h3⟩
  · refine ⟨v, w, [], run_append_zero ht hi0 (by rw [← htid]; exact hown) b c, by simpa using hown, ⟨by simp, fun i hi => by simp at hi⟩, ⟨rfl, rfl, rfl, Nat.le_refl _, fun _ _ _ => rfl⟩, by simp, fun h => h, fun b h => .inl h, by rw [hlen]; exact hmax⟩
  · rw [htid, hsz] at hown
    have hl : news.length = zs.length * e0.size := by rw [← hsz]; exact h3.1
    obtain ⟨v', w', hrun, hown', hgr, hnil⟩ := run_append_own (P := C.P) w 0 t ty (C.tid e0) i0 e0.zero e0.size e0.bytes ht hi0 hz0 hs0 hb0 (by cases e0 <;> rfl) e0.size_pos v xs.length cs hown a zs.length c news hl h1 h2 hmax hb (Nat.zero_le _)
    refine ⟨v', w', news, hrun, by rw [hlen, htid, hsz]; exact hown', h3, hgr, ?_, fun h k => h (hnil.1 k).1, ?_, by rw [hlen]; exact hmax⟩
    · intro hz k
      have := (hnil.1 k).2
      have : zs = [] := List.eq_nil_of_length_eq_zero this
      subst this
      simp at hz
    · intro bb hbb
      by_cases hz : zs.length = 0
      · have hzz : zs = [] := List.eq_nil_of_length_eq_zero hz
        subst hzz
        have hr0 := run_append_zero (C := C) (ty := ty) ht hi0 hown (some a) c
        rw [hz] at hrun
        rw [hr0] at hrun
        cases hrun
        exact .inl hbb
      · have hpos : 0 < zs.length := Nat.pos_of_ne_zero hz
        have hmax' := hmax
        rw [maxLen_num] at hmax'
        rcases hown.2 with ⟨rfl, h0⟩ | ⟨g, cap, cur, rfl, _, hg, hnc, hcm, hcs, htake⟩
        · have hr0 := run_append_nil (P := C.P) w t ty (C.tid e0) i0 e0.zero ht hi0 hz0 a zs.length c news (by rw [hs0]; exact hl) h1 hpos (by omega) (by rw [hb0]; have := hb; rw [Nat.add_mul] at this; omega)
          rw [hr0] at hrun
          cases hrun
          simp [Value.ownBlock] at hbb
          exact .inr (by omega)
        · by_cases hroom : xs.length + zs.length ≤ cap
          · have hfit : xs.length * i0.size + news.length ≤ cur.size := by rw [hl, hcs, hs0, ← Nat.add_mul]; exact Nat.mul_le_mul_right _ hroom
            have hr0 := run_append_room (P := C.P) w t ty (C.tid e0) i0 ht hi0 g xs.length cap cur hg a zs.length c news (by rw [hs0]; exact hl) h1 h2 hroom hfit
            rw [hr0] at hrun
            cases hrun
            exact .inl hbb
          · have hr0 := run_append_grow (P := C.P) w t ty (C.tid e0) i0 e0.zero ht hi0 hz0 ⟨g, 0, none⟩ xs.length cap cs (by rw [hs0]; exact hown.1) (hown.cells (g := g) rfl) a zs.length c news (by rw [hs0]; exact hl) h1 (by omega) (by omega)
              (growslice_fits (by omega) (by rw [hb0]; exact hb))
            rw [hr0] at hrun
            cases hrun
            simp [Value.ownBlock] at hbb
            exact .inr (by omega)

theorem appendV_sound (hC : C.Ok) {t ty : TypeId} {x y : AV} {vc : Prop} {r : AV} {o : List O} (rr : WRel C obs w ρ) {u v : Value}
    (hx : AVRel (C.V w obs ρ) obs ρ x u) (hy : AVRel (C.V w obs ρ) obs ρ y v) (h : appendV (C.Γ t) x y obs = .ok vc r o) (hv : vc) :
    ∃ z w' ρ', (Builtin.append_ #[t, t] ty #[u, v]).run C.P w = .ok z w' ∧ Step C w w' obs o ρ ρ' ∧ AVRel (C.V w' o ρ') o ρ' r z := by
  unfold appendV at h
  split at h
  · rename_i _ e id g he
    split at h
    case h_2 => cases h
    rename_i e' xs g' nn ho
    split at h
    case isFalse => cases h
    rename_i hc
    obtain ⟨hg, hf⟩ := hc
    subst hg
    split at h
    case h_2 => cases h
    rename_i zs hz
    cases h
    obtain ⟨hρ, cs, hown, henc, hnn, hml⟩ := own_arr rr ho hx
    have hsrc := srcL_sound rr hy hz
    obtain ⟨v', w', ds, hrun, hown', hds, hgr, hn1, hn2, hblk, hmax⟩ := append_core (ty := ty) hC he hf hown hv hsrc
    have hext : Ext (fun b => fpo (ρ id) (.arr e' xs g nn) b) w w' := (Ext.grownBy hgr).mono fun b hb => by rw [fpo, ← hρ]; exact hb
    have hb : ∀ b, fpo v' (.arr e' (xs ++ zs) (g + 1) (nn || !zs.isEmpty)) b → fpo (ρ id) (.arr e' xs g nn) b ∨ w.heap.size ≤ b := by
      intro b hb
      rw [fpo, ← hρ]
      exact hblk b hb
    have hV := le_one (C := C) ho hext hb
    have hlt : id < obs.length := (List.getElem?_eq_some_iff.1 ho).1
    refine ⟨v', w', _, hrun, (Turn.one rr id (.arr e' xs g nn) (.arr e' (xs ++ zs) (g + 1) (nn || !zs.isEmpty)) v' ho hext ?_ hb ?_).step rr, ?_⟩
    · refine ⟨cs ++ ds, hown', enc_append (henc.mono hV) (hds.mono hV), fun hnz => ?_, hmax⟩
      rcases Bool.or_eq_true _ _ ▸ hnz with k | k
      · exact hn2 (hnn k)
      · exact hn1 (by simpa using k)
    · intro c' hc'
      simp [O.gen] at hc'
      exact ⟨g, by simp [O.gen], .inr (by omega)⟩
    · refine ⟨by simpa using hlt, fun c hc => ?_⟩
      have : c = g + 1 := by simpa [genOf, hlt, O.gen] using hc.symm
      subst this
      simp
  · rename_i _ e he
    split at h
    case h_2 => cases h
    rename_i zs hz
    cases h
    simp only [AVRel] at hx
    subst hx
    have hsrc := srcL_sound rr hy hz
    have hown : w.ownsRow 0 (C.tid e) e.size (.slice none 0 0) ([] : List e.D).length [] := World.ownsRow_nil _ _ _ _
    obtain ⟨v', w', ds, hrun, hown', hds, hgr, hn1, hn2, hblk, hmax⟩ := append_core (ty := ty) (xs := []) hC he rfl hown (by simpa using hv) hsrc
    have hext : Ext (fun _ => False) w w' := (Ext.grownBy hgr).mono fun b hb => by simp [Value.ownBlock] at hb
    have hb : ∀ b, fpo v' (.arr e zs 0 (!zs.isEmpty)) b → w.heap.size ≤ b := by
      intro b hb
      rcases hblk b hb with k | k
      · simp [Value.ownBlock] at k
      · exact k
    have hV := le_new (C := C) (obs := obs) (ρ := ρ) hext hb
    refine ⟨v', w', _, hrun, (Turn.new rr hext _ v' ?_ hb).step rr, ?_⟩
    · exact ⟨ds, by simpa using hown', hds.mono hV, fun hnz => hn1 (by simpa using hnz), by simpa using hmax⟩
    · refine ⟨by simp, fun c hc => ?_⟩
      have : c = 0 := by simpa [genOf, O.gen] using hc.symm
      subst this
      simp
  · cases h

end sound
end Go.Aw
