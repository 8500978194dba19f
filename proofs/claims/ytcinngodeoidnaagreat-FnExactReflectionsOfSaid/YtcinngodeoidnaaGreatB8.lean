/- Steps of a walk with their own proofs of what is left to show: they look up 'hC', 'hX', 'hK', 'hfn' where they are used. -/
import Derived.Test.YtcinngodeoidnaaGreatAw7
import Derived.Test.YtcinngodeoidnaaGreatProg
import Derived.KernelRfl
set_option linter.unusedVariables false
set_option linter.unusedSimpArgs false
namespace Go.Aw
open Go
structure Hid (q : Prop) : Prop where
  out : q
theorem ACall.letgo {C : Ctx} {obs : List O} {f : FuncId} {args : List AV} {K : Sl → List O → Prop} (id : Nat) {g : Nat} {e : E} {xs : List e.D} {nn : Bool} (ho : oAt obs id = .arr e xs g nn)
    (h : ACall C (oSet obs id .dead) f (args.map (lrA id g (.sl true e xs))) K) : ACall C obs f args K := by
  refine ⟨h.1, fun w ρ vs rr hl ha => ?_⟩
  have ho' : obs[id]? = some (.arr e xs g nn) := oAt_lt ho rfl
  obtain ⟨hst, hsl⟩ := letgo_sl rr ho'
  rw [← oSet_eq] at hst hsl
  refine (h.2 w _ vs hst.wr (by simpa using hl) (fun i x v hx hv => ?_)).mono fun e w' ⟨v, he, x, o, ρ', h1, h2, h3⟩ => ⟨v, he, x, o, ρ', hst.trans h1, h2, h3⟩
  rw [List.getElem?_map, Option.map_eq_some_iff] at hx
  obtain ⟨y, hy, rfl⟩ := hx
  have hv' := ha i y v hy hv
  have mvd : ∀ y, AVRel (C.V w obs ρ) obs ρ y v → AVRel (C.V w (oSet obs id .dead) (fun i => if i = id then ρ id else ρ i)) (oSet obs id .dead) (fun i => if i = id then ρ id else ρ i) y v := fun y h => hst.slot (x := .v y) h
  cases y with
  | own i' g' =>
    by_cases hc : (i' == id && g' == g) = true
    · obtain ⟨rfl, rfl⟩ : i' = id ∧ g' = g := by simpa using hc
      have hvρ : v = ρ i' := (hv'.2 g' (by simp [genOf, ho', O.gen])).2 rfl
      simp only [lrA, hc, cond_true]
      rw [hvρ]
      exact hsl
    · have hc2 : (i' == id && g' == g) = false := by simpa using hc
      simp only [lrA, hc2, cond_false]
      exact mvd _ hv'
  | _ => exact mvd _ hv'
theorem Run.torows {C : Ctx} (hC : C.Ok) {k : List Item} (id : Nat) {n : Nat} {fr : List (Nat × Bool × Sl)} {obs : List O} {g : Nat} {nn : Bool} (ho : oAt obs id = .arr .lrow [] g nn)
    (h : Run C k ⟨n, fr, oSet obs id (.arr (.row true) [] g nn)⟩) : Run C k ⟨n, fr, obs⟩ := by
  refine Run.le (fun a w ρ r => ?_) h
  have ho' : obs[id]? = some (.arr .lrow [] g nn) := oAt_lt ho rfl
  have hρe : (fun i => if i = id then ρ id else ρ i) = ρ := by funext i; split <;> simp_all
  have T := Turn.one r.w id (.arr .lrow [] g nn) (.arr (.row true) [] g nn) (ρ id) ho' (Ext.refl _ w) (by
    obtain ⟨cs, h1, h2, h3, h4⟩ := r.w.os id _ ho'
    refine ⟨cs, by rw [hC.same]; exact h1, ⟨by simpa using h2.1, fun i hi => by simp at hi⟩, h3, by simp [maxLen]⟩) (fun b hb => .inl hb) (by
      intro c' hc'
      simp [O.gen] at hc'
      exact ⟨g, by simp [O.gen], .inl ⟨hc'.symm, rfl⟩⟩)
  have hst := T.step r.w
  rw [← oSet_eq] at hst
  exact ⟨_, hst.rel r⟩
theorem Run.R {C : Ctx} {σ σ' : St} {k k' : List Item} (rest : Run C k' σ') (h : Hid (Run C k' σ') → Run C k σ := by
    intro hHid
    refine Run.nq ?_
    refine Run.regionW hC (fun K hK => ?_)
    simp only [AW7, simprocAttr, hX]
    (repeat (with_reducible refine And.intro ?_ ?_); exact vc0)
    refine hK _ ?_
    clear hK K
    refine Run.nq ?_
    exact hHid.out) : Run C k σ := h ⟨rest⟩
theorem Run.RW {C : Ctx} {σ σ' : St} {k k' : List Item} (rest : Run C k' σ') (h : Hid (Run C k' σ') → Run C k σ := by
    intro hHid
    refine Run.nq ?_
    refine Run.regionW hC (fun K hK => ?_)
    simp (disch := omega) only [wrap_id, AW7, simprocAttr, hX]
    (repeat (with_reducible refine And.intro ?_ ?_); exact vc0)
    refine hK _ ?_
    clear hK K
    refine Run.nq ?_
    exact hHid.out) : Run C k σ := h ⟨rest⟩
theorem wW {p q : Prop} (rest : q) (h : Hid q → p := by
    intro hHid
    (try simp only [AW7, simprocAttr, hX])
    (repeat (with_reducible refine And.intro ?_ ?_); exact vc0)
    exact hHid.out) : p := h ⟨rest⟩
theorem wWW {p q : Prop} (rest : q) (h : Hid q → p := by
    intro hHid
    simp (disch := omega) only [wrap_id, AW7, simprocAttr, hX]
    (repeat (with_reducible refine And.intro ?_ ?_); exact vc0)
    exact hHid.out) : p := h ⟨rest⟩
theorem wE {p q : Prop} (rest : q) (h : Hid q → p := by
    intro hHid
    (repeat (with_reducible refine And.intro ?_ ?_); exact vc0)
    refine hK _ ?_
    refine Run.nq ?_
    exact hHid.out) : p := h ⟨rest⟩
theorem Run.cW {C : Ctx} {σ : St} {c : Operand} {x y : Code} {t : Bool} {k : List Item} (ht : t = true → Run C (.code x :: k) σ) (hf : t = false → Run C (.code y :: k) σ)
    (hc : σ.ev c = .bool t := by simp only [AW7, simprocAttr, hX]; rfl) (hh : σ.has c := by simp only [AW7, simprocAttr, hX]) : Run C (.code (.cond c x y) :: k) σ := Run.cond hc hh ht hf
theorem Run.rW {C : Ctx} {σ : St} {k : List Item} (ts : List Nat) {xs : List AV} (h : Fin C xs σ.obs) (hl : ts.length ≤ 4 := by decide) (hres : C.fn.results = (ts.map ResultVar.tmp).toArray := by rw [hfn]; rfl)
    (hx : evT σ ts = xs := by simp only [AW7, simprocAttr, hX]; rfl) (hh : hasT σ ts := by simp only [AW7, simprocAttr, hX]) : Run C (.code .ret :: k) σ := Run.retW ts hl hres hx hh h
theorem FunA.cW {B C : Ctx} [DrLe B C] (hP : B.P = C.P) (hT : B.tid = C.tid) {f : FuncId} {args0 : List AV} {post : List AV → List O → Prop} (h : FunA B f args0 post) {obs : List O} {args : List AV}
    {K : Sl → List O → Prop} (hk : ∀ xs obs', post xs obs' → K (resSl obs.length xs) (obs ++ obs')) (ha : argsOk obs args args0 := by simp only [AW7, simprocAttr]) : ACall C obs f args fun x o => Later (K x o) := FunA.callW hP hT h ha hk
end Go.Aw
namespace Go.Proofs.YtcinngodeoidnaaGreat
open Go Go.Aw
def Btid : E → Nat
  | .int => 3
  | .byte => 5
  | .bool => 4
  | .str => 9
  | .row _ => 25
  | .lrow => 25
  | .vec => 90
  | .pr => 92
def BG (t : Nat) : Option E := if t = 25 then some .int else if t = 24 then some .lrow else if t = 100 then some .str else if t = 22 then some .byte else if t = 117 then some .bool else if t = 88 then some .pr else none
def Bbt (t : Nat) : Option BT := if t = 3 then some (.int .i64) else if t = 4 then some .bool else if t = 9 then some .str else if t = 5 then some (.int .u8) else none
def BM (t : Nat) : Option MT := if t = 89 then some ⟨true, false⟩ else none
def BW (t : Nat) : Option E := if t = 90 then some .vec else none
def Bpt (t : Nat) : Bool := t == 92
noncomputable def B : Ctx := ⟨Tryz.prog, default, (fun _ _ => True), default, (fun _ => False), Btid, BG, Bbt, BM, [], (fun _ => False), BW, true, Bpt⟩
instance : DrT B := ⟨rfl⟩
set_option maxRecDepth 100000 in
theorem B_ok : B.Ok := by
  refine ⟨fun t e h => ?_, fun t e h => ?_, fun t b h => ?_, fun f => rfl, by kernel_rfl, fun t h => ?_, fun t m h => ?_, fun t e h => ?_, ?_, fun t e h => ?_, fun t m h => ?_, fun t h => ?_⟩
  · simp only [B, BG] at h
    (repeat' split at h) <;> first | (cases h; done) | (cases h; subst_vars; first | exact ⟨Tryz.underlying25, _, rfl, rfl, rfl, rfl⟩ | exact ⟨Tryz.underlying24, _, rfl, rfl, rfl, rfl⟩ | exact ⟨Tryz.underlying100, _, rfl, rfl, rfl, rfl⟩ | exact ⟨Tryz.underlying22, _, rfl, rfl, rfl, rfl⟩ | exact ⟨Tryz.underlying117, _, rfl, rfl, rfl, rfl⟩ | exact ⟨Tryz.underlying88, _, rfl, rfl, rfl, rfl⟩)
  · simp only [B, BG] at h
    (repeat' split at h) <;> first | (cases h; done) | (cases h; subst_vars; exact ⟨_, rfl, rfl⟩)
  · simp only [B, Bbt] at h
    (repeat' split at h) <;> first | (cases h; done) | (cases h; subst_vars; first | exact ⟨Tryz.underlying3, _, rfl, rfl⟩ | exact ⟨Tryz.underlying4, _, rfl, rfl⟩ | exact ⟨Tryz.underlying9, _, rfl, rfl⟩ | exact ⟨Tryz.underlying5, _, rfl, rfl⟩)
  · exact Tryz.underlying5
  · simp only [B, BM] at h
    (repeat' split at h) <;> first | (cases h; done) | (cases h; subst_vars; first | exact ⟨_, _, Tryz.underlying89, fun h => (by cases h), fun _ => ⟨_, Tryz.underlying90, Tryz.underlying3, _, rfl, rfl⟩, Tryz.zeroValue4⟩ | (cases h; done))
  · simp only [B, BW] at h
    split at h
    · cases h; subst_vars; exact ⟨rfl, rfl, _, Tryz.underlying90, Tryz.underlying3, ⟨_, rfl, rfl⟩, _, rfl, rfl, rfl⟩
    · cases h
  · exact ⟨_, rfl, rfl, rfl⟩
  · simp only [B, BG] at h
    (repeat' split at h) <;> first | (cases h; done) | (cases h; subst_vars; exact ⟨_, rfl, rfl⟩)
  · simp only [B, BM] at h
    (repeat' split at h) <;> first | (cases h; done) | (cases h; subst_vars; exact ⟨_, _, rfl, rfl, rfl, rfl⟩)
  · simp only [B, Bpt, beq_iff_eq] at h
    subst h; exact ⟨rfl, _, _, Tryz.underlying92, rfl, rfl, ⟨_, rfl, rfl⟩, ⟨_, rfl, rfl⟩, _, rfl, rfl, rfl⟩
theorem BX : B.tid .lrow = 25 ∧ B.Γ 25 = some .int ∧ B.Γ 24 = some .lrow ∧ B.Γ 100 = some .str ∧ B.Γ 22 = some .byte ∧ B.Γ 117 = some .bool ∧ B.Γ 88 = some .pr ∧ B.bt 3 = some (.int .i64) ∧ B.bt 4 = some .bool ∧ B.bt 9 = some .str ∧ B.bt 5 = some (.int .u8) ∧ B.bt 25 = none ∧ B.bt 24 = none ∧ B.bt 100 = none ∧ B.bt 22 = none ∧ B.bt 117 = none ∧ B.bt 88 = none ∧ B.Γ 3 = none ∧ B.Γ 4 = none ∧ B.Γ 9 = none ∧ B.Γ 5 = none ∧ B.mt 0 = none ∧ B.mt 89 = some ⟨true, false⟩ ∧ B.wt 25 = none ∧ B.wt 24 = none ∧ B.wt 100 = none ∧ B.wt 22 = none ∧ B.wt 117 = none ∧ B.wt 88 = none ∧ B.wt 3 = none ∧ B.wt 4 = none ∧ B.wt 9 = none ∧ B.wt 5 = none ∧ B.wt 0 = none ∧ B.wt 90 = some .vec ∧ B.Γ 90 = none ∧ B.bt 90 = none ∧ B.pt 25 = false ∧ B.pt 24 = false ∧ B.pt 100 = false ∧ B.pt 22 = false ∧ B.pt 117 = false ∧ B.pt 88 = false ∧ B.pt 3 = false ∧ B.pt 4 = false ∧ B.pt 9 = false ∧ B.pt 5 = false ∧ B.pt 89 = false ∧ B.pt 0 = false ∧ B.pt 90 = false ∧ B.wt 89 = none ∧ B.Γ 89 = none ∧ B.bt 89 = none ∧ B.mt 25 = none ∧ B.mt 24 = none ∧ B.mt 100 = none ∧ B.mt 22 = none ∧ B.mt 117 = none ∧ B.mt 88 = none ∧ B.mt 3 = none ∧ B.mt 4 = none ∧ B.mt 9 = none ∧ B.mt 5 = none ∧ B.pt 92 = true := ⟨rfl, rfl, rfl, rfl, rfl, rfl, rfl, rfl, rfl, rfl, rfl, rfl, rfl, rfl, rfl, rfl, rfl, rfl, rfl, rfl, rfl, rfl, rfl, rfl, rfl, rfl, rfl, rfl, rfl, rfl, rfl, rfl, rfl, rfl, rfl, rfl, rfl, rfl, rfl, rfl, rfl, rfl, rfl, rfl, rfl, rfl, rfl, rfl, rfl, rfl, rfl, rfl, rfl, rfl, rfl, rfl, rfl, rfl, rfl, rfl, rfl, rfl, rfl, rfl⟩
end Go.Proofs.YtcinngodeoidnaaGreat
namespace Go.Proofs.YtcinngodeoidnaaGreat
open Go Go.Aw
theorem take_snoc {α : Type} (d : α) (p : List α) (i : Nat) (h : i < p.length) : p.take i ++ [p.getD i d] = p.take (i + 1) := by
  rw [List.take_add_one]
  simp [h]
theorem set_fill (p : List Int) (i : Nat) (h : i < p.length) (z : Int) : (p.take i ++ List.replicate (p.length - i) z).set i (p.getD i 0) = p.take (i + 1) ++ List.replicate (p.length - (i + 1)) z := by
  obtain ⟨m, hm⟩ : ∃ m, p.length - i = m + 1 := ⟨p.length - i - 1, by omega⟩
  have hl : (p.take i).length = i := by simp; omega
  rw [hm, List.replicate_succ, List.set_append, hl, if_neg (by omega), Nat.sub_self, List.set_cons_zero, ← take_snoc 0 p i h, show p.length - (i + 1) = m from by omega]
  simp
theorem c_toIntS (p : List Int) (hp : p.length ≤ 1048576) : FunA B 68 [.sl false .int p] (fun rs o => rs = [.own 0 0] ∧ o = [.arr .int p 0 true]) := by
  refine FunA.walk B_ok (fn := Tryz.f68) (fun vs w => Tryz.call68 vs w) Tryz.func68 rfl (by rw [Tryz.ntmps68]; simp) (fun C hC hP hT hΓ hbt hfn hpin hfin => ?_); have hX := BX; rw [← hΓ, ← hbt.1, ← hbt.2.1, ← hbt.2.2.1, ← hbt.2.2.2.2] at hX; rw [hT] at hX; rw [Tryz.ntmps68]; simp only [AW7, simprocAttr, hX]
  refine Run.R ?_
  refine Run.R ?_
  refine Run.R ?_
  refine Run.loopI (X := Nat) (fun i => ⟨22, [(0, true, .v (.sl false .int p)), (4, true, .v (.int .i64 i)), (3, true, .v (.own 0 0))], [.arr .int (p.take i ++ List.replicate (p.length - i) 0) 0 true]⟩) (fun i => i ≤ p.length) (fun i => p.length - i) 0 (Nat.zero_le _) ?_ ?_
  · refine Le.sub (by simp) ?_
    simp only [AW7, simprocAttr, hX]; try simp
  rintro i hi ih
  refine Run.R ?_
  refine Run.nq ?_; refine Run.cW ?_ ?_
  · intro hc
    have hc : i < p.length := by simpa using hc
    refine Run.R ?_
    refine Run.RW ?_
    refine Run.le ?_ (ih (i + 1) hc (by omega))
    refine Le.sub ?_ ?_
    · rw [← set_fill p i hc]
    · simp only [AW7, simprocAttr]; try simp
  · intro hc
    have hc : i = p.length := by simp at hc; omega
    refine Run.exit rfl ?_; refine Run.nq ?_
    refine Run.R ?_
    subst hc
    refine Run.rW [2] (hfin _ _ rfl rfl ?_)
    simp
theorem c_eqIntS (p q : List Int) (hp : p.length ≤ 4503599627370496) : FunA B 69 [.sl false .int p, .sl false .int q] (fun rs o => rs = [.bool (p == q)] ∧ o = []) := by
  refine FunA.walk B_ok (fn := Tryz.f69) (fun vs w => Tryz.call69 vs w) Tryz.func69 rfl (by rw [Tryz.ntmps69]; simp) (fun C hC hP hT hΓ hbt hfn hpin hfin => ?_); have hX := BX; rw [← hΓ, ← hbt.1, ← hbt.2.1, ← hbt.2.2.1, ← hbt.2.2.2.2] at hX; rw [hT] at hX; rw [Tryz.ntmps69]; simp only [AW7, simprocAttr, hX]
  refine Run.R ?_
  refine Run.R ?_
  refine Run.nq ?_; refine Run.cW ?_ ?_
  · intro hc
    refine Run.R ?_
    refine Run.rW [4] (hfin _ _ rfl rfl ?_)
    have : p ≠ q := fun h => by simp [h] at hc
    simpa using this
  intro hc
  have hl : p.length = q.length := by simp at hc; omega
  refine Run.R ?_
  refine Run.loopI (X := Nat) (fun i => ⟨26, [(0, true, .v (.sl false .int p)), (1, true, .v (.sl false .int q)), (5, true, .v (.int .i64 i)), (4, true, .v (.bool false))], []⟩) (fun i => i ≤ p.length ∧ p.take i = q.take i) (fun i => p.length - i) 0 (by simp) ?_ ?_
  · exact Le.sub (by simp only [AW7, simprocAttr]) (by simp only [AW7, simprocAttr]; try simp)
  rintro i ⟨hi, ht⟩ ih
  refine Run.R ?_
  refine Run.nq ?_; refine Run.cW ?_ ?_
  · intro hc2
    have hc2 : i < p.length := by simpa using hc2
    refine Run.nq ?_; refine Run.regionD hC true [0,1,2,3,4,5,6,7,8] (by kernel_rfl) (fun K hK => ?_); simp only [AW7, simprocAttr, hX]; (repeat (with_reducible refine And.intro ?_ ?_); exact vc0); refine wE ?_; clear hK K
    refine Run.nq ?_; refine Run.cW ?_ ?_
    · intro hne
      refine Run.R ?_
      refine Run.rW [4] (hfin _ _ rfl rfl ?_)
      have : p ≠ q := fun h => by simp [h] at hne
      simpa using this
    · intro he
      have he : p.getD i 0 = q.getD i 0 := by simpa using he
      refine Run.RW ?_
      refine Run.le ?_ (ih (i + 1) ⟨hc2, ?_⟩ (by omega))
      · exact Le.sub (by simp only [AW7, simprocAttr]) (by simp only [AW7, simprocAttr, Option.some.injEq, Prod.mk.injEq, Sl.v.injEq, AV.int.injEq, AV.own.injEq, AV.bool.injEq]; try (repeat' apply And.intro); all_goals omega)
      · rw [← take_snoc 0 p i hc2, ← take_snoc 0 q i (by omega), ht, he]
  · intro hc2
    have hc2 : i = p.length := by simp at hc2; omega
    refine Run.exit rfl ?_; refine Run.nq ?_
    refine Run.R ?_
    refine Run.rW [4] (hfin _ _ rfl rfl ?_)
    have : p = q := by rw [hc2, List.take_length, hl, List.take_length] at ht; exact ht
    simp [this]
def iota (k : Int) : Nat → List Int
  | 0 => []
  | n + 1 => iota k n ++ [k + n]
theorem iota_length (k : Int) : ∀ n, (iota k n).length = n
  | 0 => rfl
  | n + 1 => by simp [iota, iota_length k n]
theorem iota_getD (k : Int) : ∀ n i : Nat, i < n → (iota k n).getD i 0 = k + i
  | n + 1, i, h => by
    simp only [iota, List.getD_eq_getElem?_getD]
    by_cases hi : i < n
    · rw [List.getElem?_append_left (by rw [iota_length]; exact hi), ← List.getD_eq_getElem?_getD]
      exact iota_getD k n i hi
    · have : i = n := by omega
      subst this
      rw [List.getElem?_append_right (by rw [iota_length]; exact Nat.le_refl _)]
      simp [iota_length]
theorem set_mark (k : Int) (p : List Int) (i : Nat) (h : i < p.length) : (iota k i ++ p.drop i).set i (k + i) = iota k (i + 1) ++ p.drop (i + 1) := by
  rw [List.set_append, iota_length, if_neg (by omega), Nat.sub_self, List.drop_eq_getElem_cons h, List.set_cons_zero]
  simp [iota]
theorem c_markIntS (p : List Int) (k : Int) (hp : p.length ≤ 4503599627370496) (hk : 0 ≤ k ∧ k ≤ 4503599627370496) (nn : Bool) :
    FunM B 70 [.own 0 0, .int .i64 k] .int p nn (fun rs o => rs = [.int .i64 (k + p.length)] ∧ o = [.arr .int (iota k p.length) 0 nn]) := by
  refine FunM.walk B_ok (fn := Tryz.f70) (fun vs w => Tryz.call70 vs w) Tryz.func70 rfl (by rw [Tryz.ntmps70]; simp) (fun C hC hP hT hΓ hbt hfn hpin hfin => ?_); have hX := BX; rw [← hΓ, ← hbt.1, ← hbt.2.1, ← hbt.2.2.1, ← hbt.2.2.2.2] at hX; rw [hT] at hX; rw [Tryz.ntmps70]; simp only [AW7, simprocAttr, hX]
  refine Run.R ?_
  refine Run.R ?_
  refine Run.loopI (X := Nat) (fun i => ⟨19, [(0, true, .v (.own 0 0)), (1, true, .v (.int .i64 (k + i))), (5, true, .v (.int .i64 i)), (4, true, .v (.int .i64 0))], [.arr .int (iota k i ++ p.drop i) 0 nn]⟩) (fun i => i ≤ p.length) (fun i => p.length - i) 0 (by simp) ?_ ?_
  · refine Le.sub (by simp [iota]) ?_
    simp only [AW7, simprocAttr, hX]; try simp
  rintro i hi ih
  have hlen : (iota k i ++ p.drop i).length = p.length := by simp [iota_length]; omega
  refine Run.R ?_
  refine Run.nq ?_; refine Run.cW ?_ ?_
  · intro hc2
    have hc2 : i < p.length := by rw [hlen] at hc2; simpa using hc2
    refine Run.R ?_
    refine Run.RW ?_
    refine Run.RW ?_
    refine Run.le ?_ (ih (i + 1) hc2 (by omega))
    refine Le.sub ?_ ?_
    · rw [← set_mark k p i hc2]
    · simp only [AW7, simprocAttr, Option.some.injEq, Prod.mk.injEq, Sl.v.injEq, AV.int.injEq, AV.own.injEq, AV.bool.injEq]; simp; omega
  · intro hc2
    have hc2 : i = p.length := by rw [hlen] at hc2; simp at hc2; omega
    refine Run.exit rfl ?_; refine Run.nq ?_
    refine Run.R ?_
    subst hc2
    refine Run.rW [4] (hfin _ _ _ rfl rfl rfl ?_)
    simp
theorem c_heldIntS (p : List Int) (k : Int) (hp : p.length ≤ 4503599627370496) (hk : 0 ≤ k ∧ k ≤ 4503599627370496) :
    FunA B 124 [.sl false .int p, .int .i64 k] (fun rs o => rs = [.int .i64 (if p = iota k p.length then k + p.length else -1)] ∧ o = []) := by
  refine FunA.walk B_ok (fn := Tryz.f124) (fun vs w => Tryz.call124 vs w) Tryz.func124 rfl (by rw [Tryz.ntmps124]; simp) (fun C hC hP hT hΓ hbt hfn hpin hfin => ?_); have hX := BX; rw [← hΓ, ← hbt.1, ← hbt.2.1, ← hbt.2.2.1, ← hbt.2.2.2.2] at hX; rw [hT] at hX; rw [Tryz.ntmps124]; simp only [AW7, simprocAttr, hX]
  refine Run.R ?_
  refine Run.R ?_
  refine Run.loopI (X := Nat) (fun i => ⟨21, [(0, true, .v (.sl false .int p)), (1, true, .v (.int .i64 (k + i))), (5, true, .v (.int .i64 i)), (4, true, .v (.int .i64 0))], []⟩) (fun i => i ≤ p.length ∧ p.take i = iota k i) (fun i => p.length - i) 0 (by simp [iota]) ?_ ?_
  · refine Le.sub rfl ?_
    simp only [AW7, simprocAttr, hX]; try simp
  rintro i ⟨hi, ht⟩ ih
  refine Run.R ?_
  refine Run.nq ?_; refine Run.cW ?_ ?_
  · intro hc2
    have hc2 : i < p.length := by simpa using hc2
    refine Run.R ?_
    refine Run.nq ?_; refine Run.cW ?_ ?_
    · intro hne
      refine Run.R ?_
      refine Run.rW [4] (hfin _ _ rfl rfl ?_)
      have : p ≠ iota k p.length := by
        intro h
        have h1 : p.getD i 0 = k + i := by
          have h2 := iota_getD k p.length i hc2
          rwa [← h] at h2
        have hne : p.getD i 0 ≠ k + i := by simpa using hne
        exact hne h1
      simp [this]
    · intro he
      have he : p.getD i 0 = k + i := by simpa using he
      refine Run.RW ?_
      refine Run.RW ?_
      refine Run.le ?_ (ih (i + 1) ⟨hc2, ?_⟩ (by omega))
      · refine Le.sub rfl ?_
        simp only [AW7, simprocAttr, Option.some.injEq, Prod.mk.injEq, Sl.v.injEq, AV.int.injEq, AV.own.injEq, AV.bool.injEq]; simp; omega
      · rw [← take_snoc 0 p i hc2, ht, he]; rfl
  · intro hc2
    have hc2 : i = p.length := by simp at hc2; omega
    refine Run.exit rfl ?_; refine Run.nq ?_
    refine Run.R ?_
    subst hc2
    refine Run.rW [4] (hfin _ _ rfl rfl ?_)
    rw [List.take_length] at ht
    simp [← ht]
end Go.Proofs.YtcinngodeoidnaaGreat
namespace Go.Proofs.YtcinngodeoidnaaGreat
open Go Go.Aw
def szI (p : List Int) (l : Int) : Int := if l - p.length < 0 then -1 else l - p.length
def szR : List (List Int) → Int → Int
  | [], l => l
  | r :: rs, l => if szI r l < 0 then -1 else szR rs (szI r l)
def szII (rows : List (List Int)) (l : Int) : Int := if l - rows.length < 0 then -1 else szR rows (l - rows.length)
theorem szR_le : ∀ (rows : List (List Int)) (l : Int), 0 ≤ l → 0 ≤ szR rows l → szR rows l ≤ l ∧ ∀ r ∈ rows, (r.length : Int) ≤ l
  | [], l, _, _ => ⟨Int.le_refl _, by simp⟩
  | r :: rs, l, h0, h => by
    simp only [szR] at h ⊢
    by_cases hs : szI r l < 0
    · rw [if_pos hs] at h; omega
    · rw [if_neg hs] at h ⊢
      have h1 : 0 ≤ szI r l := by omega
      have h2 : szI r l = l - r.length := by unfold szI at h1 ⊢; split <;> simp_all
      obtain ⟨h3, h4⟩ := szR_le rs _ h1 h
      refine ⟨by omega, fun q hq => ?_⟩
      rcases List.mem_cons.1 hq with rfl | hq
      · omega
      · have := h4 q hq; omega
theorem szII_le (rows : List (List Int)) (l : Int) (h0 : 0 ≤ l) (h : 0 ≤ szII rows l) : (rows.length : Int) ≤ l ∧ ∀ r ∈ rows, (r.length : Int) ≤ l := by
  unfold szII at h
  split at h
  · omega
  · obtain ⟨h1, h2⟩ := szR_le rows (l - rows.length) (by omega) h
    exact ⟨by omega, fun r hr => by have := h2 r hr; omega⟩
theorem c_szIntS (p : List Int) (l : Int) (hl : 0 ≤ l ∧ l ≤ 1048576) : FunA B 123 [.sl false .int p, .int .i64 l] (fun rs o => rs = [.int .i64 (szI p l)] ∧ o = []) := by
  refine FunA.walk B_ok (fn := Tryz.f123) (fun vs w => Tryz.call123 vs w) Tryz.func123 rfl (by rw [Tryz.ntmps123]; simp) (fun C hC hP hT hΓ hbt hfn hpin hfin => ?_); have hX := BX; rw [← hΓ, ← hbt.1, ← hbt.2.1, ← hbt.2.2.1, ← hbt.2.2.2.2] at hX; rw [hT] at hX; rw [Tryz.ntmps123]; simp only [AW7, simprocAttr, hX]
  refine Run.len 0 rfl fun hlen => ?_
  refine Run.R ?_
  refine Run.RW ?_
  refine Run.R ?_
  refine Run.nq ?_; refine Run.cW ?_ ?_
  · intro hc
    refine Run.R ?_
    refine Run.rW [4] (hfin _ _ rfl rfl ?_)
    simp [szI] at hc ⊢; omega
  · intro hc
    refine Run.R ?_
    refine Run.rW [4] (hfin _ _ rfl rfl ?_)
    simp [szI] at hc ⊢; omega
theorem szR_snoc {rows : List (List Int)} {i : Nat} (h : i < rows.length) (l : Int) : szR (rows.drop i) l = if szI (rows.getD i []) l < 0 then -1 else szR (rows.drop (i + 1)) (szI (rows.getD i []) l) := by
  rw [List.drop_eq_getElem_cons h, show rows.getD i [] = rows[i] from by simp [h]]
  rfl
theorem c_szIntSS (rows : List (List Int)) (l : Int) (hl : 0 ≤ l ∧ l ≤ 1048576) : FunA B 63 [.sl false (.row false) rows, .int .i64 l] (fun rs o => rs = [.int .i64 (szII rows l)] ∧ o = []) := by
  refine FunA.walk B_ok (fn := Tryz.f63) (fun vs w => Tryz.call63 vs w) Tryz.func63 rfl (by rw [Tryz.ntmps63]; simp) (fun C hC hP hT hΓ hbt hfn hpin hfin => ?_); have hX := BX; rw [← hΓ, ← hbt.1, ← hbt.2.1, ← hbt.2.2.1, ← hbt.2.2.2.2] at hX; rw [hT] at hX; rw [Tryz.ntmps63]; simp only [AW7, simprocAttr, hX]
  refine Run.len 0 rfl fun hlen => ?_
  refine Run.R ?_
  refine Run.RW ?_
  refine Run.R ?_
  refine Run.nq ?_; refine Run.cW ?_ ?_
  · intro hc
    refine Run.R ?_
    refine Run.rW [4] (hfin _ _ rfl rfl ?_)
    have hc : l - rows.length < 0 := by simpa using hc
    simp [szII, hc]
  intro hc
  have hc : ¬ l - rows.length < 0 := by simpa using hc
  refine Run.R ?_
  refine Run.keep [0, 1, 4, 5] ?_; simp only [AK, Nat.reduceBEq]
  refine Run.loopI (X := Nat × Int) (fun x => ⟨27, [(0, true, .v (.sl false (.row false) rows)), (1, true, .v (.int .i64 x.2)), (4, true, .v (.int .i64 0)), (5, true, .v (.int .i64 x.1))], []⟩) (fun x => x.1 ≤ rows.length ∧ 0 ≤ x.2 ∧ x.2 ≤ 1048576 ∧ szII rows l = szR (rows.drop x.1) x.2) (fun x => rows.length - x.1) (0, l - rows.length) ⟨Nat.zero_le _, by simp only []; omega, by simp only []; omega, by simp [szII, hc]⟩ ?_ ?_
  · exact Le.sub (by simp only [AW7, simprocAttr]) (by simp only [AW7, simprocAttr]; try simp)
  rintro ⟨i, l2⟩ ⟨hi, hl2, hl3, hz⟩ ih
  simp only [] at hi hl2 hl3 hz ⊢
  refine Run.R ?_
  refine Run.nq ?_; refine Run.cW ?_ ?_
  · intro hc2
    have hc2 : i < rows.length := by simpa using hc2
    rw [szR_snoc hc2] at hz
    refine Run.nq ?_; refine Run.regionW hC (fun K hK => ?_); refine wW ?_
    refine FunA.cW hP hT (c_szIntS (rows.getD i []) l2 ⟨hl2, hl3⟩) ?_
    rintro rs o ⟨rfl, rfl⟩
    refine wW ?_
    refine wE ?_; clear hK K
    refine Run.R ?_
    refine Run.nq ?_; refine Run.cW ?_ ?_
    · intro hc3
      have hc3 : szI (rows.getD i []) l2 < 0 := by simpa using hc3
      rw [if_pos hc3] at hz
      refine Run.R ?_
      refine Run.rW [4] (hfin _ _ rfl rfl ?_)
      simp [hz]
    · intro hc3
      have hc3 : ¬ szI (rows.getD i []) l2 < 0 := by simpa using hc3
      rw [if_neg hc3] at hz
      refine Run.RW ?_
      refine Run.le ?_ (ih (i + 1, szI (rows.getD i []) l2) ⟨hc2, by simp only []; omega, ?_, hz⟩ (by simp only []; omega))
      · exact Le.sub (by simp only [AW7, simprocAttr]) (by simp only [AW7, simprocAttr, Option.some.injEq, Prod.mk.injEq, Sl.v.injEq, AV.int.injEq, AV.own.injEq, AV.bool.injEq]; try (repeat' apply And.intro); all_goals omega)
      · simp only []
        unfold szI
        split <;> omega
  · intro hc2
    have hc2 : i = rows.length := by simp at hc2; omega
    subst hc2
    refine Run.exit rfl ?_; refine Run.nq ?_
    refine Run.R ?_
    refine Run.rW [4] (hfin _ _ rfl rfl ?_)
    simp [hz, szR]
theorem set_fillG {α : Type} (z : α) (p : List α) (i : Nat) (h : i < p.length) : (p.take i ++ List.replicate (p.length - i) z).set i (p.getD i z) = p.take (i + 1) ++ List.replicate (p.length - (i + 1)) z := by
  obtain ⟨m, hm⟩ : ∃ m, p.length - i = m + 1 := ⟨p.length - i - 1, by omega⟩
  have hl : (p.take i).length = i := by simp; omega
  rw [hm, List.replicate_succ, List.set_append, hl, if_neg (by omega), Nat.sub_self, List.set_cons_zero, ← take_snoc z p i h, show p.length - (i + 1) = m from by omega]
  simp
theorem c_toIntSS (rows : List (List Int)) (hr : rows.length ≤ 1048576) (hrr : ∀ r ∈ rows, r.length ≤ 1048576) :
    FunA B 64 [.sl false (.row false) rows] (fun rs o => rs = [.own 0 0] ∧ ∃ hs : List (Option Nat), hs.length = rows.length ∧ o = [.mat hs rows 0 true]) := by
  refine FunA.walk B_ok (fn := Tryz.f64) (fun vs w => Tryz.call64 vs w) Tryz.func64 rfl (by rw [Tryz.ntmps64]; simp) (fun C hC hP hT hΓ hbt hfn hpin hfin => ?_); have hX := BX; rw [← hΓ, ← hbt.1, ← hbt.2.1, ← hbt.2.2.1, ← hbt.2.2.2.2] at hX; rw [hT] at hX; rw [Tryz.ntmps64]; simp only [AW7, simprocAttr, hX]
  refine Run.R ?_
  refine Run.R ?_
  refine Run.R ?_
  refine Run.keep [0, 2, 3, 4] ?_; simp only [AK, Nat.reduceBEq]
  refine Run.loopI (X := Nat × List (Option Nat)) (fun x => ⟨23, [(0, true, .v (.sl false (.row false) rows)), (2, true, .v .nils), (3, true, .v (.own 0 0)), (4, true, .v (.int .i64 x.1))], [.mat x.2 (rows.take x.1 ++ List.replicate (rows.length - x.1) []) 0 true]⟩) (fun x => x.1 ≤ rows.length ∧ x.2.length = rows.length) (fun x => rows.length - x.1) (0, List.replicate rows.length none) ⟨Nat.zero_le _, by simp⟩ ?_ ?_
  · refine Le.sub (by simp) ?_
    simp only [AW7, simprocAttr, hX]; try simp
  rintro ⟨i, hs⟩ ⟨hi, hh⟩ ih
  simp only [] at hi hh ⊢
  refine Run.R ?_
  refine Run.nq ?_; refine Run.cW ?_ ?_
  · intro hc
    have hc : i < rows.length := by simpa using hc
    refine Run.nq ?_; refine Run.regionW hC (fun K hK => ?_); refine wW ?_
    refine FunA.cW hP hT (c_toIntS (rows.getD i []) (by rw [show rows.getD i [] = rows[i] from by simp [hc]]; exact hrr _ (by simp))) ?_
    rintro rs o ⟨rfl, rfl⟩
    simp only [AW7, simprocAttr, hX]
    refine ⟨⟨by omega, by simp; omega⟩, fun l => hK _ ?_⟩
    clear hK K
    refine Run.nq ?_
    refine Run.RW ?_
    refine Run.le ?_ (ih (i + 1, hs.set i (some l)) ⟨hc, by simpa using hh⟩ (by simp only []; omega))
    refine Le.cut0 hpin [_] (by rw [← set_fillG [] rows i hc]; rfl) ?_ rfl
    simp only [AW7, simprocAttr]; try simp
  · intro hc
    have hc : i = rows.length := by simp at hc; omega
    subst hc
    refine Run.exit rfl ?_; refine Run.nq ?_
    refine Run.R ?_
    refine Run.rW [2] (hfin _ _ rfl rfl ?_)
    refine ⟨rfl, hs, hh, ?_⟩
    simp
theorem c_eqIntSS (a b : List (List Int)) (ha : a.length ≤ 4503599627370496) (hr : ∀ r ∈ a, r.length ≤ 4503599627370496) : FunA B 65 [.sl false (.row false) a, .sl false (.row false) b] (fun rs o => rs = [.bool (a == b)] ∧ o = []) := by
  refine FunA.walk B_ok (fn := Tryz.f65) (fun vs w => Tryz.call65 vs w) Tryz.func65 rfl (by rw [Tryz.ntmps65]; simp) (fun C hC hP hT hΓ hbt hfn hpin hfin => ?_); have hX := BX; rw [← hΓ, ← hbt.1, ← hbt.2.1, ← hbt.2.2.1, ← hbt.2.2.2.2] at hX; rw [hT] at hX; rw [Tryz.ntmps65]; simp only [AW7, simprocAttr, hX]
  refine Run.R ?_
  refine Run.R ?_
  refine Run.nq ?_; refine Run.cW ?_ ?_
  · intro hc
    refine Run.R ?_
    refine Run.rW [4] (hfin _ _ rfl rfl ?_)
    have : a ≠ b := fun h => by simp [h] at hc
    simpa using this
  intro hc
  have hl : a.length = b.length := by simp at hc; omega
  refine Run.R ?_
  refine Run.loopI (X := Nat) (fun i => ⟨27, [(0, true, .v (.sl false (.row false) a)), (1, true, .v (.sl false (.row false) b)), (4, true, .v (.bool false)), (5, true, .v (.int .i64 i))], []⟩) (fun i => i ≤ a.length ∧ a.take i = b.take i) (fun i => a.length - i) 0 (by simp) ?_ ?_
  · exact Le.sub (by simp only [AW7, simprocAttr]) (by simp only [AW7, simprocAttr]; try simp)
  rintro i ⟨hi, ht⟩ ih
  refine Run.R ?_
  refine Run.nq ?_; refine Run.cW ?_ ?_
  · intro hc2
    have hc2 : i < a.length := by simpa using hc2
    have hra : (a.getD i []).length ≤ 4503599627370496 := by rw [show a.getD i [] = a[i] from by simp [hc2]]; exact hr _ (by simp)
    refine Run.nq ?_
    refine Run.regionD hC true [0,1,2,3,4,5,6,7,8,9] (by kernel_rfl) (fun K hK => ?_)
    simp only [AW7, simprocAttr, hX]
    (repeat (with_reducible refine And.intro ?_ ?_); exact vc0)
    refine FunA.callD hP hT (c_eqIntS (a.getD i []) (b.getD i []) hra) (by simp only [AW7, simprocAttr]) ?_
    rintro rs o ⟨rfl, rfl⟩
    refine wW ?_
    refine wE ?_; clear hK K
    refine Run.nq ?_; refine Run.cW ?_ ?_
    · intro hne
      refine Run.R ?_
      refine Run.rW [4] (hfin _ _ rfl rfl ?_)
      have : a ≠ b := fun h => by simp [h] at hne
      simpa using this
    · intro he
      have he : a.getD i [] = b.getD i [] := by
        revert he
        cases h : (a.getD i [] == b.getD i []) with
        | true => intro _; simpa using h
        | false => intro he; cases he
      refine Run.RW ?_
      refine Run.le ?_ (ih (i + 1) ⟨hc2, ?_⟩ (by omega))
      · exact Le.sub (by simp only [AW7, simprocAttr]) (by simp only [AW7, simprocAttr, Option.some.injEq, Prod.mk.injEq, Sl.v.injEq, AV.int.injEq, AV.own.injEq, AV.bool.injEq]; try (repeat' apply And.intro); all_goals omega)
      · rw [← take_snoc [] a i hc2, ← take_snoc [] b i (by omega), ht, he]
  · intro hc2
    have hc2 : i = a.length := by simp at hc2; omega
    refine Run.exit rfl ?_; refine Run.nq ?_
    refine Run.R ?_
    refine Run.rW [4] (hfin _ _ rfl rfl ?_)
    have : a = b := by rw [hc2, List.take_length, hl, List.take_length] at ht; exact ht
    simp [this]
end Go.Proofs.YtcinngodeoidnaaGreat
namespace Go.Proofs.YtcinngodeoidnaaGreat
open Go Go.Aw
abbrev ent (c : List (List Int)) (i j : Nat) : Int := (c.getD i []).getD j 0
def badE (c : List (List Int)) (i j : Nat) : Prop := (i = j ∧ ent c i j ≠ 2) ∨ (i ≠ j ∧ (ent c i j < -3 ∨ ent c i j > 0 ∨ ¬ (ent c i j = 0 ↔ ent c j i = 0)))
def CartanP (c : List (List Int)) : Prop := 1 ≤ c.length ∧ c.length ≤ 4 ∧ (∀ i, i < c.length → (c.getD i []).length = c.length) ∧ ∀ i j, i < c.length → j < c.length → ¬ badE c i j
open Classical in
noncomputable def isC (c : List (List Int)) : Bool := decide (CartanP c)
theorem isC_iff {c : List (List Int)} : isC c = true ↔ CartanP c := by simp [isC]
theorem isC_false {c : List (List Int)} (h : ¬ CartanP c) : isC c = false := by simp [isC, h]
theorem isC_true {c : List (List Int)} (h : CartanP c) : isC c = true := isC_iff.2 h
theorem badE_impl (c : List (List Int)) (i j : Nat) : (bif bif (i : Int) == (j : Int) then ent c i j != 2 else false then true
                else
                  bif (i : Int) != (j : Int) then
                    bif
                        bif decide (ent c i j < -3) then true
                        else decide (0 < ent c i j) then
                      true
                    else (ent c i j == 0) != (ent c j i == 0)
                  else false) = true ↔ badE c i j := by
  unfold badE
  have e : ((i : Int) == (j : Int)) = decide (i = j) := by
    rw [Bool.eq_iff_iff]; simp; omega
  have e2 : ((i : Int) != (j : Int)) = !decide (i = j) := by rw [← e]; rfl
  rw [e, e2]
  generalize ent c i j = x
  generalize ent c j i = y
  have e3 : (x == 0) = decide (x = 0) := by rw [Bool.eq_iff_iff]; simp
  have e4 : (y == 0) = decide (y = 0) := by rw [Bool.eq_iff_iff]; simp
  rw [e3, e4]
  by_cases h : i = j
  · simp [h]
  · simp only [h, decide_false, cond_false, Bool.not_false, cond_true, false_and, ne_eq, not_false_eq_true, true_and, false_or]
    by_cases h1 : x < -3
    · simp [h1]
    · by_cases h2 : 0 < x
      · simp [h2]
      · simp only [h1, h2, decide_false, cond_false, false_or]
        by_cases h3 : x = 0 <;> by_cases h4 : y = 0 <;> simp [h3, h4]
theorem c_impl_IsCartan (c : List (List Int)) : FunA B 107 [.sl false (.row false) c] (fun rs o => rs = [.bool (isC c)] ∧ o = []) := by
  refine FunA.walk B_ok (fn := Tryz.f107) (fun vs w => Tryz.call107 vs w) Tryz.func107 rfl (by rw [Tryz.ntmps107]; simp) (fun C hC hP hT hΓ hbt hfn hpin hfin => ?_); have hX := BX; rw [← hΓ, ← hbt.1, ← hbt.2.1, ← hbt.2.2.1, ← hbt.2.2.2.2] at hX; rw [hT] at hX; rw [Tryz.ntmps107]; simp only [AW7, simprocAttr, hX]
  refine Run.len 0 rfl fun hlen => ?_
  refine Run.R ?_
  refine Run.R ?_
  refine Run.R ?_
  refine Run.keep [0, 2, 3, 16] ?_; simp only [AK, Nat.reduceBEq]
  refine Run.nq ?_; refine Run.cW ?_ ?_
  · intro hc
    refine Run.R ?_
    refine Run.rW [2] (hfin _ _ rfl rfl ?_)
    refine ⟨?_, rfl⟩
    rw [isC_false fun h => ?_]
    obtain ⟨h1, h2, _⟩ := h
    by_cases h3 : (c.length : Int) < 1
    · omega
    · simp [h3] at hc; omega
  intro hc
  have hn : 1 ≤ c.length ∧ c.length ≤ 4 := by
    by_cases h3 : (c.length : Int) < 1
    · simp [h3] at hc
    · simp [h3] at hc; omega
  refine Run.R ?_
  refine Run.keep [0, 2, 3, 17, 18, 19] ?_; simp only [AK, Nat.reduceBEq]
  refine Run.loopI (X := Nat) (fun i => ⟨78, [(0, true, .v (.sl false (.row false) c)), (2, true, .v (.bool false)), (3, true, .v (.int .i64 c.length)), (17, true, .v (.sl false (.row false) c)), (18, true, .v (.int .i64 c.length)), (19, true, .v (.int .i64 i))], []⟩) (fun i => i ≤ c.length ∧ ∀ k, k < i → (c.getD k []).length = c.length) (fun i => c.length - i) 0 ⟨Nat.zero_le _, by omega⟩ ?_ ?_
  · exact Le.sub (by simp only [AW7, simprocAttr]) (by simp only [AW7, simprocAttr]; try simp)
  rintro i ⟨hi, hrow⟩ ih
  refine Run.R ?_
  refine Run.nq ?_; refine Run.cW ?_ ?_
  · intro hc2
    have hc2 : i < c.length := by simpa using hc2
    refine Run.R ?_
    refine Run.R ?_
    refine Run.nq ?_; refine Run.cW ?_ ?_
    · intro hne
      refine Run.R ?_
      refine Run.rW [2] (hfin _ _ rfl rfl ?_)
      refine ⟨?_, rfl⟩
      rw [isC_false fun h => ?_]
      have := h.2.2.1 i hc2
      have hne : ¬ (c.getD i []).length = c.length := by simp [-List.getD_eq_getElem?_getD] at hne; omega
      exact hne this
    · intro heq
      have heq : (c.getD i []).length = c.length := by simp [-List.getD_eq_getElem?_getD] at heq; omega
      refine Run.RW ?_
      refine Run.le ?_ (ih (i + 1) ⟨hc2, fun k hk => ?_⟩ (by omega))
      · exact Le.sub (by simp only [AW7, simprocAttr]) (by simp only [AW7, simprocAttr, Option.some.injEq, Prod.mk.injEq, Sl.v.injEq, AV.int.injEq, AV.own.injEq, AV.bool.injEq]; try (repeat' apply And.intro); all_goals omega)
      · rcases Nat.lt_succ_iff_lt_or_eq.1 hk with h | rfl
        · exact hrow k h
        · exact heq
  intro hc2
  have hc2 : i = c.length := by simp at hc2; omega
  subst hc2
  refine Run.exit rfl ?_; refine Run.nq ?_
  refine Run.R ?_
  refine Run.keep [0, 2, 3, 28, 29] ?_; simp only [AK, Nat.reduceBEq]
  refine Run.loopI (X := Nat) (fun i => ⟨78, [(0, true, .v (.sl false (.row false) c)), (2, true, .v (.bool false)), (3, true, .v (.int .i64 c.length)), (28, true, .v (.int .i64 c.length)), (29, true, .v (.int .i64 i))], []⟩) (fun i => i ≤ c.length ∧ ∀ k j, k < i → j < c.length → ¬ badE c k j) (fun i => c.length - i) 0 ⟨Nat.zero_le _, by omega⟩ ?_ ?_
  · exact Le.sub (by simp only [AW7, simprocAttr]) (by simp only [AW7, simprocAttr]; try simp)
  clear ih
  rintro i ⟨hi, hcel⟩ ih
  refine Run.R ?_
  refine Run.nq ?_; refine Run.cW ?_ ?_
  · intro hc2
    have hc2 : i < c.length := by simpa using hc2
    have hri := hrow i hc2
    refine Run.R ?_
    refine Run.R ?_
    refine Run.keep [0, 2, 3, 28, 29, 6, 32, 33] ?_; simp only [AK, Nat.reduceBEq]
    refine Run.loopI (X := Nat) (fun j => ⟨78, [(0, true, .v (.sl false (.row false) c)), (2, true, .v (.bool false)), (3, true, .v (.int .i64 c.length)), (28, true, .v (.int .i64 c.length)), (29, true, .v (.int .i64 i)), (6, true, .v (.int .i64 i)), (32, true, .v (.int .i64 c.length)), (33, true, .v (.int .i64 j))], []⟩) (fun j => j ≤ c.length ∧ ∀ q, q < j → ¬ badE c i q) (fun j => c.length - j) 0 ⟨Nat.zero_le _, by omega⟩ ?_ ?_
    · exact Le.sub (by simp only [AW7, simprocAttr]) (by simp only [AW7, simprocAttr]; try simp)
    rintro j ⟨hj, hcj⟩ ihj
    refine Run.R ?_
    refine Run.nq ?_; refine Run.cW ?_ ?_
    · intro hc3
      have hc3 : j < c.length := by simpa using hc3
      have hrj := hrow j hc3
      refine Run.R ?_
      refine Run.R ?_
      refine Run.R ?_
      refine Run.keep [0, 2, 3, 28, 29, 6, 32, 33, 75] ?_; simp only [AK, Nat.reduceBEq]
      refine Run.nq ?_; refine Run.cW ?_ ?_
      · intro hb
        have hb := (badE_impl c i j).1 hb
        refine Run.R ?_
        refine Run.rW [2] (hfin _ _ rfl rfl ?_)
        refine ⟨?_, rfl⟩
        rw [isC_false fun h => h.2.2.2 i j hc2 hc3 hb]
      · intro hb
        have hb : ¬ badE c i j := fun h => by
          have := (badE_impl c i j).2 h
          rw [this] at hb
          cases hb
        refine Run.RW ?_
        refine Run.le ?_ (ihj (j + 1) ⟨hc3, fun q hq => ?_⟩ (by omega))
        · exact Le.sub (by simp only [AW7, simprocAttr]) (by simp only [AW7, simprocAttr, Option.some.injEq, Prod.mk.injEq, Sl.v.injEq, AV.int.injEq, AV.own.injEq, AV.bool.injEq]; try (repeat' apply And.intro); all_goals omega)
        · rcases Nat.lt_succ_iff_lt_or_eq.1 hq with h | rfl
          · exact hcj q h
          · exact hb
    · intro hc3
      have hc3 : j = c.length := by simp at hc3; omega
      subst hc3
      refine Run.exit rfl ?_; refine Run.nq ?_
      refine Run.RW ?_
      refine Run.le ?_ (ih (i + 1) ⟨hc2, fun k q hk hq => ?_⟩ (by omega))
      · exact Le.sub (by simp only [AW7, simprocAttr]) (by simp only [AW7, simprocAttr, Option.some.injEq, Prod.mk.injEq, Sl.v.injEq, AV.int.injEq, AV.own.injEq, AV.bool.injEq]; try (repeat' apply And.intro); all_goals omega)
      · rcases Nat.lt_succ_iff_lt_or_eq.1 hk with h | rfl
        · exact hcel k q h hq
        · exact hcj q hq
  · intro hc2
    have hc2 : i = c.length := by simp at hc2; omega
    subst hc2
    refine Run.exit rfl ?_; refine Run.nq ?_
    refine Run.R ?_
    refine Run.rW [2] (hfin _ _ rfl rfl ?_)
    refine ⟨?_, rfl⟩
    rw [isC_true ⟨hn.1, hn.2, hrow, fun k q hk hq => hcel k q hk hq⟩]
def inB (x lo hi : Int) : Bool := bif decide (x ≥ lo) then decide (x ≤ hi) else false
theorem inB_iff {x lo hi : Int} : inB x lo hi = true ↔ lo ≤ x ∧ x ≤ hi := by
  unfold inB
  by_cases h : x ≥ lo <;> simp [h] <;> omega
theorem c_spec_l1In (x lo hi : Int) : FunA B 110 [.int .i64 x, .int .i64 lo, .int .i64 hi] (fun rs o => rs = [.bool (inB x lo hi)] ∧ o = []) := by
  refine FunA.walk B_ok (fn := Tryz.f110) (fun vs w => Tryz.call110 vs w) Tryz.func110 rfl (by rw [Tryz.ntmps110]; simp) (fun C hC hP hT hΓ hbt hfn hpin hfin => ?_); have hX := BX; rw [← hΓ, ← hbt.1, ← hbt.2.1, ← hbt.2.2.1, ← hbt.2.2.2.2] at hX; rw [hT] at hX; rw [Tryz.ntmps110]; simp only [AW7, simprocAttr, hX]
  refine Run.R ?_
  refine Run.R ?_
  refine Run.rW [6] (hfin _ _ rfl rfl ?_)
  exact ⟨rfl, rfl⟩
theorem badE_spec (c : List (List Int)) (i j : Nat) : (bif bif (i : Int) == (j : Int) then ent c i j != 2 else false then true
                else
                  bif (i : Int) != (j : Int) then
                    bif !inB (ent c i j) (-3) 0 then true
                    else (ent c i j == 0) != (ent c j i == 0)
                  else false) = true ↔ badE c i j := by
  rw [← badE_impl]
  have : (!inB (ent c i j) (-3) 0) = (bif decide (ent c i j < -3) then true else decide (0 < ent c i j)) := by
    generalize ent c i j = x
    unfold inB
    by_cases h1 : x < -3
    · have : ¬ x ≥ -3 := by omega
      simp [h1, this]
    · have : x ≥ -3 := by omega
      by_cases h2 : 0 < x
      · have h3 : ¬ x ≤ 0 := by omega
        simp [h1, this, h2, h3]
      · have h3 : x ≤ 0 := by omega
        simp [h1, this, h2, h3]
  rw [this]
theorem c_spec_IsCartan (c : List (List Int)) : FunA B 109 [.sl false (.row false) c] (fun rs o => rs = [.bool (isC c)] ∧ o = []) := by
  refine FunA.walk B_ok (fn := Tryz.f109) (fun vs w => Tryz.call109 vs w) Tryz.func109 rfl (by rw [Tryz.ntmps109]; simp) (fun C hC hP hT hΓ hbt hfn hpin hfin => ?_); have hX := BX; rw [← hΓ, ← hbt.1, ← hbt.2.1, ← hbt.2.2.1, ← hbt.2.2.2.2] at hX; rw [hT] at hX; rw [Tryz.ntmps109]; simp only [AW7, simprocAttr, hX]
  refine Run.len 0 rfl fun hlen => ?_
  refine Run.R ?_
  refine Run.R ?_
  refine Run.loopI (X := Nat) (fun i => ⟨83, [(0, true, .v (.sl false (.row false) c)), (2, true, .v (.bool false)), (3, true, .v (.int .i64 i))], []⟩) (fun i => i ≤ c.length ∧ ∀ k, k < i → (c.getD k []).length = c.length) (fun i => c.length - i) 0 ⟨Nat.zero_le _, by omega⟩ ?_ ?_
  · exact Le.sub (by simp only [AW7, simprocAttr]) (by simp only [AW7, simprocAttr]; try simp)
  rintro i ⟨hi, hrow⟩ ih
  refine Run.R ?_
  refine Run.nq ?_; refine Run.cW ?_ ?_
  · intro hc2
    have hc2 : i < c.length := by simpa using hc2
    refine Run.R ?_
    refine Run.nq ?_; refine Run.cW ?_ ?_
    · intro hne
      refine Run.R ?_
      refine Run.rW [2] (hfin _ _ rfl rfl ?_)
      refine ⟨?_, rfl⟩
      rw [isC_false fun h => ?_]
      have := h.2.2.1 i hc2
      have hne : ¬ (c.getD i []).length = c.length := by simp [-List.getD_eq_getElem?_getD] at hne; omega
      exact hne this
    · intro heq
      have heq : (c.getD i []).length = c.length := by simp [-List.getD_eq_getElem?_getD] at heq; omega
      refine Run.RW ?_
      refine Run.le ?_ (ih (i + 1) ⟨hc2, fun k hk => ?_⟩ (by omega))
      · exact Le.sub (by simp only [AW7, simprocAttr]) (by simp only [AW7, simprocAttr, Option.some.injEq, Prod.mk.injEq, Sl.v.injEq, AV.int.injEq, AV.own.injEq, AV.bool.injEq]; try (repeat' apply And.intro); all_goals omega)
      · rcases Nat.lt_succ_iff_lt_or_eq.1 hk with h | rfl
        · exact hrow k h
        · exact heq
  intro hc2
  have hc2 : i = c.length := by simp at hc2; omega
  subst hc2
  refine Run.exit rfl ?_; refine Run.nq ?_
  refine Run.R ?_
  refine Run.keep [0, 2, 4] ?_; simp only [AK, Nat.reduceBEq]
  refine Run.loopI (X := Nat) (fun i => ⟨83, [(0, true, .v (.sl false (.row false) c)), (2, true, .v (.bool false)), (4, true, .v (.int .i64 i))], []⟩) (fun i => i ≤ c.length ∧ ∀ k j, k < i → j < c.length → ¬ badE c k j) (fun i => c.length - i) 0 ⟨Nat.zero_le _, by omega⟩ ?_ ?_
  · exact Le.sub (by simp only [AW7, simprocAttr]) (by simp only [AW7, simprocAttr]; try simp)
  clear ih
  rintro i ⟨hi, hcel⟩ ih
  refine Run.R ?_
  refine Run.nq ?_; refine Run.cW ?_ ?_
  · intro hc2
    have hc2 : i < c.length := by simpa using hc2
    have hri := hrow i hc2
    refine Run.R ?_
    refine Run.keep [0, 2, 4, 5] ?_; simp only [AK, Nat.reduceBEq]
    refine Run.loopI (X := Nat) (fun j => ⟨83, [(0, true, .v (.sl false (.row false) c)), (2, true, .v (.bool false)), (4, true, .v (.int .i64 i)), (5, true, .v (.int .i64 j))], []⟩) (fun j => j ≤ c.length ∧ ∀ q, q < j → ¬ badE c i q) (fun j => c.length - j) 0 ⟨Nat.zero_le _, by omega⟩ ?_ ?_
    · exact Le.sub (by simp only [AW7, simprocAttr]) (by simp only [AW7, simprocAttr]; try simp)
    rintro j ⟨hj, hcj⟩ ihj
    refine Run.R ?_
    refine Run.nq ?_; refine Run.cW ?_ ?_
    · intro hc3
      have hc3 : j < c.length := by simpa using hc3
      have hrj := hrow j hc3
      refine Run.keep [0, 2, 4, 5] ?_; simp only [AK, Nat.reduceBEq]
      refine Run.nq ?_
      refine Run.regionD hC true [0,1,2,3,4,5,6,7,8,9,10,11,12,13,14,15,16,17,18,19,20,21,22,23,24,25,26,27,28,29,30,31,32,33,34,35,36,37,38,39,40,41,42,43,44,45,46,47] (by kernel_rfl) (fun K hK => ?_)
      simp only [AW7, simprocAttr, hX]
      (repeat (with_reducible refine And.intro ?_ ?_); exact vc0)
      refine .inl (FunA.callG hP hT (c_spec_l1In (ent c i j) (-3) 0) (fun _ => rfl) (fun _ => by simp only [AW7, simprocAttr]) ?_)
      refine wW ?_
      refine hK _ ?_
      clear hK K
      refine Run.nq ?_
      refine Run.nq ?_; refine Run.cW ?_ ?_
      · intro hb
        have hb := (badE_spec c i j).1 hb
        refine Run.R ?_
        refine Run.rW [2] (hfin _ _ rfl rfl ?_)
        refine ⟨?_, rfl⟩
        rw [isC_false fun h => h.2.2.2 i j hc2 hc3 hb]
      · intro hb
        have hb : ¬ badE c i j := fun h => by
          have := (badE_spec c i j).2 h
          rw [this] at hb
          cases hb
        refine Run.keep [0, 2, 4, 5] ?_; simp only [AK, Nat.reduceBEq]
        refine Run.RW ?_
        refine Run.le ?_ (ihj (j + 1) ⟨hc3, fun q hq => ?_⟩ (by omega))
        · exact Le.sub (by simp only [AW7, simprocAttr]) (by simp only [AW7, simprocAttr, Option.some.injEq, Prod.mk.injEq, Sl.v.injEq, AV.int.injEq, AV.own.injEq, AV.bool.injEq]; try (repeat' apply And.intro); all_goals omega)
        · rcases Nat.lt_succ_iff_lt_or_eq.1 hq with h | rfl
          · exact hcj q h
          · exact hb
    · intro hc3
      have hc3 : j = c.length := by simp at hc3; omega
      subst hc3
      refine Run.exit rfl ?_; refine Run.nq ?_
      refine Run.RW ?_
      refine Run.le ?_ (ih (i + 1) ⟨hc2, fun k q hk hq => ?_⟩ (by omega))
      · exact Le.sub (by simp only [AW7, simprocAttr]) (by simp only [AW7, simprocAttr, Option.some.injEq, Prod.mk.injEq, Sl.v.injEq, AV.int.injEq, AV.own.injEq, AV.bool.injEq]; try (repeat' apply And.intro); all_goals omega)
      · rcases Nat.lt_succ_iff_lt_or_eq.1 hk with h | rfl
        · exact hcel k q h hq
        · exact hcj q hq
  · intro hc2
    have hc2 : i = c.length := by simp at hc2; omega
    subst hc2
    refine Run.exit rfl ?_; refine Run.nq ?_
    refine Run.nq ?_; refine Run.regionW hC (fun K hK => ?_); refine wW ?_
    refine FunA.cW hP hT (c_spec_l1In (c.length : Int) 1 4) ?_
    rintro rs o ⟨rfl, rfl⟩
    refine wW ?_
    refine wE ?_; clear hK K
    refine Run.rW [2] (hfin _ _ rfl rfl ?_)
    refine ⟨?_, rfl⟩
    have : isC c = inB c.length 1 4 := by
      rw [Bool.eq_iff_iff, isC_iff, inB_iff]
      constructor
      · intro h; have h1 := h.1; have h2 := h.2.1; omega
      · intro h; exact ⟨by omega, by omega, hrow, fun k q hk hq => hcel k q hk hq⟩
    rw [this]
end Go.Proofs.YtcinngodeoidnaaGreat
