/- Rows of one's own that are written in place: a pool of rows. -/
import Derived.Test.YtbbnfljaojfmaaaDoorAw5
import Derived.Test.YtbbnfljaojfmaaaDoorProg
import Derived.KernelRfl
set_option linter.unusedVariables false
set_option linter.unusedSimpArgs false
namespace Go.Aw
open Go
theorem regO_gm (g g' : Nat) (D : List Nat) (F : Nat → List Int) (hs : List Nat) (nn : Bool) : regO g (.gm D F hs g' nn) = .gm D F hs (g + g') nn := rfl
theorem AW5 : type_of% @AW4 ∧ type_of% @Q_lenG ∧ type_of% @Q_idxG ∧ type_of% @Q_loadG ∧ type_of% @Q_storeG ∧ type_of% @Q_stH ∧ type_of% @Q_st_hdr ∧ type_of% @Q_len_hdr ∧ type_of% @Q_idx_hdr ∧ type_of% @Q_load_hp ∧ type_of% @Q_store_hp ∧ type_of% @Q_len_lenv ∧ type_of% @regO_gm ∧ type_of% @X_callT ∧ type_of% @leO_gm :=
  ⟨@AW4, @Q_lenG, @Q_idxG, @Q_loadG, @Q_storeG, @Q_stH, @Q_st_hdr, @Q_len_hdr, @Q_idx_hdr, @Q_load_hp, @Q_store_hp, @Q_len_lenv, @regO_gm, @X_callT, @leO_gm⟩
theorem regO_mp (g g' : Nat) (m : MT) (l : List (MK × MV)) : regO g (.mp m l g') = .mp m l (g + g') := rfl
theorem Q_mlkB (gg g' : Nat) (k : MK) (l : List (MK × MV)) (obs : List O) : mlkO ⟨false, false⟩ gg k obs (.mp ⟨false, false⟩ l g') = bif gg == g' then .ok True (.bool (mgetB l k)) obs else .bad := by
  cases h : gg == g' <;> simp [mlkO, h]
theorem Q_mlkI (gg g' : Nat) (k : MK) (l : List (MK × MV)) (obs : List O) : mlkO ⟨false, true⟩ gg k obs (.mp ⟨false, true⟩ l g') = bif gg == g' then .ok True (.int .i64 (mgetI l k)) obs else .bad := by
  cases h : gg == g' <;> simp [mlkO, h]
theorem Q_mupO (b : Bool) (id gg g' : Nat) (k : MK) (v : MV) (l : List (MK × MV)) (obs : List O) : mupO ⟨false, b⟩ id gg k v obs (.mp ⟨false, b⟩ l g') = bif gg == g' then .skip True (oSet obs id (.mp ⟨false, b⟩ (mput l k v) gg)) else .bad := by
  cases h : gg == g' <;> simp [mupO, h]
theorem Q_mmake (m : MT) (obs : List O) : mmakeV (some m) obs = .ok True (.own obs.length 0) (obs ++ [.mp m [] 0]) := rfl
theorem AW6 : type_of% @AW5 ∧ type_of% @regO_mp ∧ type_of% @Q_mlkB ∧ type_of% @Q_mlkI ∧ type_of% @Q_mupO ∧ type_of% @Q_mmake ∧ type_of% @X_lookup ∧ type_of% @X_mupd ∧ type_of% @X_insert ∧ type_of% @X_mmake ∧ type_of% @G_lookup ∧ type_of% @mlookV_own ∧ type_of% @mupdV_bool ∧ type_of% @mupdV_int ∧ type_of% @leO_mp :=
  ⟨@AW5, @regO_mp, @Q_mlkB, @Q_mlkI, @Q_mupO, @Q_mmake, @X_lookup, @X_mupd, @X_insert, @X_mmake, @G_lookup, @mlookV_own, @mupdV_bool, @mupdV_int, @leO_mp⟩
end Go.Aw
namespace Go.Aw
open Go
section
variable {C : Ctx} {ds : Rg} {rest : List Oper} {n : Nat} {fr : List (Nat × Bool × Sl)} {obs : List O} {K : St → Prop} {ty : TypeId} {p : String} {af : Array Edge}
theorem X_slice3 (dd : Option Nat) (t : TypeId) (x : Operand) (lo hi : Option Operand) (m : Operand) : aexec C ds (⟨dd, .slice t x lo hi (some m), ty, p, af, none⟩ :: rest) ⟨n, fr, obs⟩ K =
    aS C ds rest n fr K (St.has ⟨n, fr, obs⟩ x ∧ hasO ⟨n, fr, obs⟩ lo ∧ hasO ⟨n, fr, obs⟩ hi ∧ St.has ⟨n, fr, obs⟩ m) (slice3V (C.Γ t) (St.ev ⟨n, fr, obs⟩ x) (lo.map (St.ev ⟨n, fr, obs⟩)) (hi.map (St.ev ⟨n, fr, obs⟩)) (St.ev ⟨n, fr, obs⟩ m) obs) dd :=
  plain_eq C ds rest n fr obs K ty p af rfl (by simp only [hasAll, hasO_eq]) rfl dd
end
def sl3O (g : Nat) (n m : Int) (obs : List O) : O → Res
  | .ap q ys true g' _ => bif g == g' then .ok (n = ys.length ∧ m = ys.length) (.hdr (some q) ys.length) obs else .bad
  | _ => .bad
theorem slice3V_own (e : E) (id g : Nat) (k k' : IntKind) (n m : Int) (obs : List O) : slice3V (some e) (.own id g) none (some (.int k n)) (.int k' m) obs = sl3O g n m obs (oAt obs id) := by
  rw [at_arr]; simp only [slice3V]
  cases h : obs[id]? with
  | none => rfl
  | some o => cases o with
    | ap q ys fr g' nn => cases fr <;> first | rfl | (by_cases hg : g = g' <;> simp [sl3O, hg, Bool.cond_eq_ite])
    | _ => rfl
theorem Q_sl3 (gg g' : Nat) (n m : Int) (obs : List O) (q : Nat) (ys : List (Nat × List Int)) (nn : Bool) : sl3O gg n m obs (.ap q ys true g' nn) = bif gg == g' then .ok (n = ys.length ∧ m = ys.length) (.hdr (some q) ys.length) obs else .bad := rfl
theorem Q_lenA (q : Nat) (ys : List (Nat × List Int)) (fr : Bool) (gg g' : Nat) (nn : Bool) (obs : List O) : lenO gg obs (.ap q ys fr g' nn) = bif gg == g' then .ok True (.int .i64 ys.length) obs else .bad := rfl
theorem Q_apOA (e : E) (id gg g' : Nat) (x : AV) (obs : List O) (q : Nat) (ys : List (Nat × List Int)) (fr nn : Bool) : apO e id gg x obs (.ap q ys fr g' nn) = bif gg == g' && decide (E.lrow.fam = e.fam) then apA id gg nn q e ys obs (srcQ .lrow x obs (some id)) else .bad := rfl
theorem Q_apA (e : E) (id gg : Nat) (obs : List O) (q : Nat) (ys zs : List (Nat × List Int)) (nn : Bool) : apA id gg nn q e ys obs (.yes zs) = .ok ((ys.length + zs.length) * e.bytes ≤ 140737488355328) (.own id (gg + 1)) (oSet obs id (.ap q (ys ++ zs) false (gg + 1) (nn || !zs.isEmpty))) := rfl
theorem Q_load_hpA (h k q : Nat) (ys : List (Nat × List Int)) (fr : Bool) (gg : Nat) (nn : Bool) (r : List O) : loadV true (.hp h k) (.ap q ys fr gg nn :: r) = .ok (h = q ∧ k < hdC q) (.lr (ys.getD k (0, [])).1 (ys.getD k (0, [])).2) (.ap q ys fr gg nn :: r) := rfl
theorem Q_store_hpM (h k : Nat) (n : Int) (hs : List (Option Nat)) (rows : List (List Int)) (gg : Nat) (nn : Bool) (r : List O) : storeV true (.hp h k) (.int .i64 n) (.mat hs rows gg nn :: r) = .skip (some h ∈ hs ∧ k < (rows.getD (hs.idxOf (some h)) []).length) (.mat hs (setM hs rows h k n) gg nn :: r) := rfl
theorem Q_store_hpC (h k : Nat) (n : Int) (s : Value) (g1 : Nat) (hs : List (Option Nat)) (rows : List (List Int)) (gg : Nat) (nn : Bool) (r : List O) : storeV true (.hp h k) (.int .i64 n) (.cur s g1 :: .mat hs rows gg nn :: r) = .skip (some h ∈ hs ∧ k < (rows.getD (hs.idxOf (some h)) []).length) (.cur s g1 :: .mat hs (setM hs rows h k n) gg nn :: r) := rfl
def zapO (id g : Nat) (m : Int) (obs : List O) : O → Res
  | .arr .int xs g' _ => bif g == g' then .ok (0 < m ∧ m ≤ 1000000 ∧ 0 < xs.length ∧ xs.length ≤ 1000000) (.own id (g + 1)) (oSet obs id (.arr .int (xs ++ List.replicate m.toNat 0) (g + 1) true)) else .bad
  | _ => .bad
theorem X_appz {C : Ctx} {ds : Rg} {rest : List Oper} {n : Nat} {fr : List (Nat × Bool × Sl)} {obs : List O} {K : St → Prop} {ty : TypeId} {p : String} {af : Array Edge} (dd : Option Nat) (x y : Operand) (t t2 : TypeId) (h : (t == t2) = false) : aexec C ds (⟨dd, .call ⟨.builtin .append, List.toArray [x, y], List.toArray [t, t2]⟩, ty, p, af, none⟩ :: rest) ⟨n, fr, obs⟩ K =
    aS C ds rest n fr K (hasL ⟨n, fr, obs⟩ [x, y]) (zapV (C.Γ t) (C.bt t2) (St.ev ⟨n, fr, obs⟩ x) (St.ev ⟨n, fr, obs⟩ y) obs) dd := plain_eq C ds rest n fr obs K ty p af rfl (by simp only [hasAll, hasL_eq]) (by have h' : t ≠ t2 := by { simpa using h }; simp [astep, h']) dd
theorem Q_zap (id g : Nat) (m : Int) (obs : List O) : zapV (some .int) (some (.int .i64)) (.own id g) (.int .i64 m) obs = zapO id g m obs (oAt obs id) := by
  rw [at_arr]; simp only [zapV]
  cases h : obs[id]? with
  | none => rfl
  | some o => cases o with
    | arr e xs g' nn => cases e <;> first | rfl | (by_cases hg : g = g' <;> simp [zapO, hg, oSet_eq, Bool.cond_eq_ite])
    | _ => rfl
theorem Q_zapO (id g g' : Nat) (m : Int) (xs : List Int) (nn : Bool) (obs : List O) : zapO id g m obs (.arr .int xs g' nn) = bif g == g' then .ok (0 < m ∧ m ≤ 1000000 ∧ 0 < xs.length ∧ xs.length ≤ 1000000) (.own id (g + 1)) (oSet obs id (.arr .int (xs ++ List.replicate m.toNat 0) (g + 1) true)) else .bad := rfl
theorem AW7 : type_of% @AW6 ∧ type_of% @X_slice3 ∧ type_of% @slice3V_own ∧ type_of% @Q_sl3 ∧ type_of% @Q_lenA ∧ type_of% @Q_apOA ∧ type_of% @Q_apA ∧ type_of% @Q_load_hpA ∧ type_of% @leO_ap ∧ type_of% @leO_apa ∧ type_of% @leO_cur ∧ type_of% @regO_cur ∧ type_of% @Q_store_hpM ∧ type_of% @Q_store_hpC ∧ type_of% @X_appz ∧ type_of% @Q_zap ∧ type_of% @Q_zapO := ⟨@AW6, @X_slice3, @slice3V_own, @Q_sl3, @Q_lenA, @Q_apOA, @Q_apA, @Q_load_hpA, @leO_ap, @leO_apa, @leO_cur, @regO_cur, @Q_store_hpM, @Q_store_hpC, @X_appz, @Q_zap, @Q_zapO⟩
end Go.Aw
namespace Go.Aw
open Go
structure Hid (q : Prop) : Prop where
  out : q
theorem Run.R {C : Ctx} {σ σ' : St} {k k' : List Item} (rest : Run C k' σ') (h : Hid (Run C k' σ') → Run C k σ := by
    intro hHid
    refine Run.nq ?_
    refine Run.regionW hC (fun K hK => ?_)
    simp only [AW7, simprocAttr, hX]
    (repeat (with_reducible refine And.intro ?_ ?_); exact vc0)
    refine hK _ ?_
    clear hK K
    refine Run.nq ?_
    exact hHid.out) : Run C k σ := h ⟨rest⟩
theorem Run.RW {C : Ctx} {σ σ' : St} {k k' : List Item} (rest : Run C k' σ') (h : Hid (Run C k' σ') → Run C k σ := by
    intro hHid
    refine Run.nq ?_
    refine Run.regionW hC (fun K hK => ?_)
    simp (disch := omega) only [wrap_id, AW7, simprocAttr, hX]
    (repeat (with_reducible refine And.intro ?_ ?_); exact vc0)
    refine hK _ ?_
    clear hK K
    refine Run.nq ?_
    exact hHid.out) : Run C k σ := h ⟨rest⟩
theorem wW {p q : Prop} (rest : q) (h : Hid q → p := by
    intro hHid
    (try simp only [AW7, simprocAttr, hX])
    (repeat (with_reducible refine And.intro ?_ ?_); exact vc0)
    exact hHid.out) : p := h ⟨rest⟩
theorem wWW {p q : Prop} (rest : q) (h : Hid q → p := by
    intro hHid
    simp (disch := omega) only [wrap_id, AW7, simprocAttr, hX]
    (repeat (with_reducible refine And.intro ?_ ?_); exact vc0)
    exact hHid.out) : p := h ⟨rest⟩
theorem wE {p q : Prop} (rest : q) (h : Hid q → p := by
    intro hHid
    (repeat (with_reducible refine And.intro ?_ ?_); exact vc0)
    refine hK _ ?_
    refine Run.nq ?_
    exact hHid.out) : p := h ⟨rest⟩
theorem Run.cW {C : Ctx} {σ : St} {c : Operand} {x y : Code} {t : Bool} {k : List Item} (ht : t = true → Run C (.code x :: k) σ) (hf : t = false → Run C (.code y :: k) σ)
    (hc : σ.ev c = .bool t := by simp only [AW7, simprocAttr, hX]; rfl) (hh : σ.has c := by simp only [AW7, simprocAttr, hX]) : Run C (.code (.cond c x y) :: k) σ := Run.cond hc hh ht hf
theorem Run.rW {C : Ctx} {σ : St} {k : List Item} (ts : List Nat) {xs : List AV} (h : Fin C xs σ.obs) (hl : ts.length ≤ 4 := by decide) (hres : C.fn.results = (ts.map ResultVar.tmp).toArray := by rw [hfn]; rfl)
    (hx : evT σ ts = xs := by simp only [AW7, simprocAttr, hX]; rfl) (hh : hasT σ ts := by simp only [AW7, simprocAttr, hX]) : Run C (.code .ret :: k) σ := Run.retW ts hl hres hx hh h
theorem FunA.cW {B C : Ctx} (hP : B.P = C.P) (hT : B.tid = C.tid) {f : FuncId} {args0 : List AV} {post : List AV → List O → Prop} (h : FunA B f args0 post) {obs : List O} {args : List AV}
    {K : Sl → List O → Prop} (hk : ∀ xs obs', post xs obs' → K (resSl obs.length xs) (obs ++ obs')) (ha : argsOk obs args args0 := by simp only [AW7, simprocAttr]) : ACall C obs f args fun x o => Later (K x o) := FunA.callW hP hT h ha hk
end Go.Aw
namespace Go.Proofs.YtbbnfljaojfmaaaDoor
open Go Go.Aw
def Btid : E → Nat
  | .int => 3
  | .byte => 5
  | .bool => 4
  | .str => 9
  | .row _ => 22
  | .lrow => 22
  | .vec => 0
  | .pr => 0
def BG (t : Nat) : Option E := if t = 22 then some .int else if t = 27 then some .byte else none
def Bbt (t : Nat) : Option BT := if t = 3 then some (.int .i64) else if t = 4 then some .bool else if t = 9 then some .str else if t = 5 then some (.int .u8) else none
def BM (t : Nat) : Option MT := none
noncomputable def B : Ctx := ⟨Tryd.prog, default, (fun _ _ => True), default, (fun _ => False), Btid, BG, Bbt, BM, [], (fun _ => False)⟩
set_option maxRecDepth 100000 in
theorem B_ok : B.Ok := by
  refine ⟨fun t e h => ?_, fun t e h => ?_, fun t b h => ?_, fun f => rfl, by kernel_rfl, fun t h => ?_, fun t m h => ?_⟩
  · simp only [B, BG] at h
    (repeat' split at h) <;> first | (cases h; done) | (cases h; subst_vars; first | exact ⟨Tryd.underlying22, _, rfl, rfl, rfl, rfl⟩ | exact ⟨Tryd.underlying27, _, rfl, rfl, rfl, rfl⟩)
  · simp only [B, BG] at h
    (repeat' split at h) <;> first | (cases h; done) | (cases h; subst_vars; exact ⟨_, rfl, rfl⟩)
  · simp only [B, Bbt] at h
    (repeat' split at h) <;> first | (cases h; done) | (cases h; subst_vars; first | exact ⟨Tryd.underlying3, _, rfl, rfl⟩ | exact ⟨Tryd.underlying4, _, rfl, rfl⟩ | exact ⟨Tryd.underlying9, _, rfl, rfl⟩ | exact ⟨Tryd.underlying5, _, rfl, rfl⟩)
  · exact Tryd.underlying5
  · simp only [B, BM] at h; cases h
theorem BX : B.Γ 22 = some .int ∧ B.Γ 27 = some .byte ∧ B.bt 3 = some (.int .i64) ∧ B.bt 4 = some .bool ∧ B.bt 9 = some .str ∧ B.bt 5 = some (.int .u8) ∧ B.bt 22 = none ∧ B.bt 27 = none ∧ B.Γ 3 = none ∧ B.Γ 4 = none ∧ B.Γ 9 = none ∧ B.Γ 5 = none ∧ B.mt 0 = none := ⟨rfl, rfl, rfl, rfl, rfl, rfl, rfl, rfl, rfl, rfl, rfl, rfl, rfl⟩
end Go.Proofs.YtbbnfljaojfmaaaDoor
namespace Go.Proofs.YtbbnfljaojfmaaaDoor
open Go Go.Aw
theorem take_snoc {α : Type} (d : α) (p : List α) (i : Nat) (h : i < p.length) : p.take i ++ [p.getD i d] = p.take (i + 1) := by
  rw [List.take_add_one]
  simp [h]
end Go.Proofs.YtbbnfljaojfmaaaDoor
namespace Go.Proofs.YtbbnfljaojfmaaaDoor
open Go Go.Aw
def trimN (p : List Int) : Nat → Nat
  | 0 => 0
  | n + 1 => if p.getD n 0 = 0 then trimN p n else n + 1
theorem trimN_le (p : List Int) : ∀ n, trimN p n ≤ n
  | 0 => Nat.le_refl _
  | n + 1 => by
    simp only [trimN]
    split
    · exact Nat.le_succ_of_le (trimN_le p n)
    · exact Nat.le_refl _
def trim (p : List Int) : List Int := p.take (trimN p p.length)
theorem trim_length (p : List Int) : (trim p).length = trimN p p.length := by
  have := trimN_le p p.length
  simp [trim]; omega
theorem trim_le (p : List Int) : (trim p).length ≤ p.length := by rw [trim_length]; exact trimN_le p _
theorem c_spec_TrimPoly (p : List Int) (hp : p.length ≤ 1048700) : FunA B 23 [.sl false .int p] (fun rs o => rs = [.own 0 1] ∧ o = [.arr .int (trim p) 1 true]) := by
  refine FunA.walk B_ok (fn := Tryd.f23) (fun vs w => Tryd.call23 vs w) Tryd.func23 rfl (by rw [Tryd.ntmps23]; simp) (fun C hC hP hT hΓ hbt hfn hpin hfin => ?_); have hX := BX; rw [← hΓ, ← hbt.1, ← hbt.2] at hX; rw [Tryd.ntmps23]; simp only [AW7, simprocAttr, hX]
  refine Run.R ?_
  refine Run.R ?_
  refine Run.nq ?_
  refine Run.loopI (X := Nat) (fun n => ⟨23, [(0, true, .v (.sl false .int p)), (3, true, .v (.int .i64 n)), (2, true, .v .nils)], []⟩) (fun n => n ≤ p.length ∧ trimN p p.length = trimN p n) id p.length ⟨Nat.le_refl _, rfl⟩ ?_ ?_
  · exact Le.sub (by simp only [AW7, simprocAttr]) (by simp only [AW7, simprocAttr]; try simp)
  rintro n ⟨hn, ht⟩ ih
  refine Run.RW ?_
  refine Run.nq ?_; refine Run.cW ?_ ?_
  · intro hc
    obtain ⟨m, rfl⟩ : ∃ m, n = m + 1 := ⟨n - 1, by simp at hc; omega⟩
    refine Run.RW ?_
    refine Run.le ?_ (ih m ⟨by omega, ?_⟩ (by simp))
    · exact Le.sub (by simp only [AW7, simprocAttr]) (by simp only [AW7, simprocAttr, Option.some.injEq, Prod.mk.injEq, Sl.v.injEq, AV.int.injEq, AV.own.injEq, AV.bool.injEq]; try (repeat' apply And.intro); all_goals omega)
    · rw [ht]
      simp at hc
      simp [trimN, hc]
  · intro hc
    refine Run.exit rfl ?_; refine Run.nq ?_
    refine Run.RW ?_
    refine Run.rW [2] (hfin _ _ rfl rfl ?_)
    have h0 : trimN p p.length = n := by
      rw [ht]
      cases n with
      | zero => rfl
      | succ m =>
        have e : ((m : Int) + 1 - 1).toNat = m := by omega
        simp at hc
        simp only [trimN]
        rw [if_neg (by simpa using hc)]
    simp [trim, h0]
theorem c_impl_TrimPoly (p : List Int) (hp : p.length ≤ 1048700) : FunA B 33 [.sl false .int p] (fun rs o => rs = [.own 0 1] ∧ o = [.arr .int (trim p) 1 true]) := by
  refine FunA.walk B_ok (fn := Tryd.f33) (fun vs w => Tryd.call33 vs w) Tryd.func33 rfl (by rw [Tryd.ntmps33]; simp) (fun C hC hP hT hΓ hbt hfn hpin hfin => ?_); have hX := BX; rw [← hΓ, ← hbt.1, ← hbt.2] at hX; rw [Tryd.ntmps33]; simp only [AW7, simprocAttr, hX]
  refine Run.R ?_
  refine Run.R ?_
  refine Run.nq ?_
  refine Run.loopI (X := Nat) (fun n => ⟨23, [(0, true, .v (.sl false .int p)), (3, true, .v (.int .i64 n)), (2, true, .v .nils)], []⟩) (fun n => n ≤ p.length ∧ trimN p p.length = trimN p n) id p.length ⟨Nat.le_refl _, rfl⟩ ?_ ?_
  · exact Le.sub (by simp only [AW7, simprocAttr]) (by simp only [AW7, simprocAttr]; try simp)
  rintro n ⟨hn, ht⟩ ih
  refine Run.RW ?_
  refine Run.nq ?_; refine Run.cW ?_ ?_
  · intro hc
    obtain ⟨m, rfl⟩ : ∃ m, n = m + 1 := ⟨n - 1, by simp at hc; omega⟩
    refine Run.RW ?_
    refine Run.le ?_ (ih m ⟨by omega, ?_⟩ (by simp))
    · exact Le.sub (by simp only [AW7, simprocAttr]) (by simp only [AW7, simprocAttr, Option.some.injEq, Prod.mk.injEq, Sl.v.injEq, AV.int.injEq, AV.own.injEq, AV.bool.injEq]; try (repeat' apply And.intro); all_goals omega)
    · rw [ht]
      simp at hc
      simp [trimN, hc]
  · intro hc
    refine Run.exit rfl ?_; refine Run.nq ?_
    refine Run.RW ?_
    refine Run.rW [2] (hfin _ _ rfl rfl ?_)
    have h0 : trimN p p.length = n := by
      rw [ht]
      cases n with
      | zero => rfl
      | succ m =>
        have e : ((m : Int) + 1 - 1).toNat = m := by omega
        simp at hc
        simp only [trimN]
        rw [if_neg (by simpa using hc)]
    simp [trim, h0]
theorem c_spec_IsPoly (p : List Int) (hp : p.length ≤ 1048576) : FunA B 32 [.sl false .int p] (fun rs o => rs = [.bool (decide (p.length ≤ 61) && decide ((trim p).length = p.length))] ∧ o = []) := by
  refine FunA.walk B_ok (fn := Tryd.f32) (fun vs w => Tryd.call32 vs w) Tryd.func32 rfl (by rw [Tryd.ntmps32]; simp) (fun C hC hP hT hΓ hbt hfn hpin hfin => ?_); have hX := BX; rw [← hΓ, ← hbt.1, ← hbt.2] at hX; rw [Tryd.ntmps32]; simp only [AW7, simprocAttr, hX]
  refine Run.R ?_
  refine Run.nq ?_; refine Run.regionW hC (fun K hK => ?_); refine wW ?_
  refine .inl (FunA.callG hP hT (FunA.frozen rfl (c_spec_TrimPoly p (by omega))) (fun _ => rfl) (fun _ => by simp only [AW7, simprocAttr]) ?_)
  refine wW ?_
  refine wE ?_; clear hK K
  refine Run.rW [2] (hfin _ _ rfl rfl ?_)
  simp
  by_cases h : (p.length : Int) ≤ 61 <;> simp [h]
  · have : p.length ≤ 61 := by omega
    simp [this]
    rw [Bool.eq_iff_iff]; simp; omega
  · have : ¬ p.length ≤ 61 := by omega
    simp [this]
end Go.Proofs.YtbbnfljaojfmaaaDoor
namespace Go.Proofs.YtbbnfljaojfmaaaDoor
open Go Go.Aw
theorem c_slices_Equal (p q : List Int) (hp : p.length ≤ 4503599627370496) : FunA B 41 [.sl false .int p, .sl false .int q] (fun rs o => rs = [.bool (p == q)] ∧ o = []) := by
  refine FunA.walk B_ok (fn := Tryd.f41) (fun vs w => Tryd.call41 vs w) Tryd.func41 rfl (by rw [Tryd.ntmps41]; simp) (fun C hC hP hT hΓ hbt hfn hpin hfin => ?_); have hX := BX; rw [← hΓ, ← hbt.1, ← hbt.2] at hX; rw [Tryd.ntmps41]; simp only [AW7, simprocAttr, hX]
  refine Run.R ?_
  refine Run.R ?_
  refine Run.nq ?_; refine Run.cW ?_ ?_
  · intro hc
    refine Run.R ?_
    refine Run.rW [4] (hfin _ _ rfl rfl ?_)
    have : p ≠ q := fun h => by simp [h] at hc
    simpa using this
  intro hc
  have hl : p.length = q.length := by simp at hc; omega
  refine Run.R ?_
  refine Run.loopI (X := Nat) (fun i => ⟨26, [(0, true, .v (.sl false .int p)), (1, true, .v (.sl false .int q)), (12, true, .v (.int .i64 p.length)), (13, true, .v (.int .i64 i)), (4, true, .v (.bool false))], []⟩) (fun i => i ≤ p.length ∧ p.take i = q.take i) (fun i => p.length - i) 0 (by simp) ?_ ?_
  · exact Le.sub (by simp only [AW7, simprocAttr]) (by simp only [AW7, simprocAttr]; try simp)
  rintro i ⟨hi, ht⟩ ih
  refine Run.R ?_
  refine Run.nq ?_; refine Run.cW ?_ ?_
  · intro hc2
    have hc2 : i < p.length := by simpa using hc2
    refine Run.R ?_
    refine Run.nq ?_; refine Run.regionD hC true [0,1,2,3,4,5,6,7,8] (by kernel_rfl) (fun K hK => ?_); simp only [AW7, simprocAttr, hX]; (repeat (with_reducible refine And.intro ?_ ?_); exact vc0); refine wE ?_; clear hK K
    refine Run.nq ?_; refine Run.cW ?_ ?_
    · intro hne
      refine Run.R ?_
      refine Run.rW [4] (hfin _ _ rfl rfl ?_)
      have : p ≠ q := fun h => by simp [h] at hne
      simpa using this
    · intro he
      have he : p.getD i 0 = q.getD i 0 := by simpa using he
      refine Run.RW ?_
      refine Run.le ?_ (ih (i + 1) ⟨hc2, ?_⟩ (by omega))
      · exact Le.sub (by simp only [AW7, simprocAttr]) (by simp only [AW7, simprocAttr, Option.some.injEq, Prod.mk.injEq, Sl.v.injEq, AV.int.injEq, AV.own.injEq, AV.bool.injEq]; try (repeat' apply And.intro); all_goals omega)
      · rw [← take_snoc 0 p i hc2, ← take_snoc 0 q i (by omega), ht, he]
  · intro hc2
    have hc2 : i = p.length := by simp at hc2; omega
    refine Run.exit rfl ?_; refine Run.nq ?_
    refine Run.R ?_
    refine Run.rW [4] (hfin _ _ rfl rfl ?_)
    have : p = q := by rw [hc2, List.take_length, hl, List.take_length] at ht; exact ht
    simp [this]
def cmpN (p q : List Int) : Nat → Nat → Int
  | 0, _ => 0
  | n + 1, i => if p.getD i 0 < q.getD i 0 then -1 else if p.getD i 0 > q.getD i 0 then 1 else cmpN p q n (i + 1)
def cmpW (p q : List Int) : Int := if p.length < q.length then -1 else if p.length > q.length then 1 else cmpN p q p.length 0
theorem cmpN_zero (p q : List Int) (hl : p.length = q.length) : ∀ n i, i + n = p.length → p.take i = q.take i → (cmpN p q n i = 0 ↔ p = q)
  | 0, i, hi, ht => by
    have : p = q := by
      have h1 : p.take i = p := List.take_of_length_le (by omega)
      have h2 : q.take i = q := List.take_of_length_le (by omega)
      rw [← h1, ← h2, ht]
    simp [cmpN, this]
  | n + 1, i, hi, ht => by
    simp only [cmpN]
    split
    · rename_i h
      constructor
      · intro k; cases k
      · intro k; rw [k] at h; omega
    · split
      · rename_i h
        constructor
        · intro k; cases k
        · intro k; rw [k] at h; omega
      · rename_i h1 h2
        have he : p.getD i 0 = q.getD i 0 := by omega
        exact cmpN_zero p q hl n (i + 1) (by omega) (by rw [← take_snoc 0 p i (by omega), ← take_snoc 0 q i (by omega), ht, he])
theorem cmpW_zero (p q : List Int) : cmpW p q = 0 ↔ p = q := by
  unfold cmpW
  split
  · rename_i h
    constructor
    · intro k; cases k
    · intro k; rw [k] at h; omega
  · split
    · rename_i h
      constructor
      · intro k; cases k
      · intro k; rw [k] at h; omega
    · exact cmpN_zero p q (by omega) p.length 0 (by omega) (by simp)
theorem c_spec_CompareWords (p q : List Int) (hp : p.length ≤ 4503599627370496) : FunA B 47 [.sl false .int p, .sl false .int q] (fun rs o => rs = [.int .i64 (cmpW p q)] ∧ o = []) := by
  refine FunA.walk B_ok (fn := Tryd.f47) (fun vs w => Tryd.call47 vs w) Tryd.func47 rfl (by rw [Tryd.ntmps47]; simp) (fun C hC hP hT hΓ hbt hfn hpin hfin => ?_); have hX := BX; rw [← hΓ, ← hbt.1, ← hbt.2] at hX; rw [Tryd.ntmps47]; simp only [AW7, simprocAttr, hX]
  refine Run.R ?_
  refine Run.R ?_
  refine Run.nq ?_; refine Run.cW ?_ ?_
  · intro hc
    refine Run.R ?_
    refine Run.nq ?_; refine Run.cW ?_ ?_
    · intro hl
      refine Run.R ?_
      refine Run.rW [4] (hfin _ _ rfl rfl ?_)
      have hl : p.length < q.length := by simpa using hl
      simp [cmpW, hl]
    · intro hl
      refine Run.R ?_
      refine Run.rW [4] (hfin _ _ rfl rfl ?_)
      have hl : ¬ p.length < q.length := by simpa using hl
      have hc : ¬ (p.length : Int) = q.length := by simpa using hc
      have : q.length < p.length := by omega
      simp [cmpW, hl, this]
  intro hc
  have hl : p.length = q.length := by simp at hc; omega
  refine Run.R ?_
  refine Run.loopI (X := Nat) (fun i => ⟨40, [(0, true, .v (.sl false .int p)), (1, true, .v (.sl false .int q)), (5, true, .v (.int .i64 i)), (4, true, .v (.int .i64 0))], []⟩) (fun i => i ≤ p.length ∧ cmpN p q p.length 0 = cmpN p q (p.length - i) i) (fun i => p.length - i) 0 (by simp) ?_ ?_
  · exact Le.sub (by simp only [AW7, simprocAttr]) (by simp only [AW7, simprocAttr]; try simp)
  rintro i ⟨hi, ht⟩ ih
  have hw : cmpW p q = cmpN p q (p.length - i) i := by simp [cmpW, ← hl, ht]
  refine Run.R ?_
  refine Run.nq ?_; refine Run.cW ?_ ?_
  · intro hc2
    have hc2 : i < p.length := by simpa using hc2
    obtain ⟨m, hm⟩ : ∃ m, p.length - i = m + 1 := ⟨p.length - i - 1, by omega⟩
    refine Run.nq ?_; refine Run.regionD hC true [0,1,2,3,4,5,6,7,8] (by kernel_rfl) (fun K hK => ?_); simp only [AW7, simprocAttr, hX]; (repeat (with_reducible refine And.intro ?_ ?_); exact vc0); refine wE ?_; clear hK K
    refine Run.nq ?_; refine Run.cW ?_ ?_
    · intro hlt
      have hlt : p.getD i 0 < q.getD i 0 := by simpa using hlt
      refine Run.R ?_
      refine Run.rW [4] (hfin _ _ rfl rfl ?_)
      rw [hw, hm]
      simp only [cmpN]
      rw [if_pos hlt]
      simp
    · intro hlt
      have hlt : ¬ p.getD i 0 < q.getD i 0 := by simpa using hlt
      refine Run.nq ?_; refine Run.regionD hC true [0,1,2,3,4,5,6,7,8] (by kernel_rfl) (fun K hK => ?_); simp only [AW7, simprocAttr, hX]; (repeat (with_reducible refine And.intro ?_ ?_); exact vc0); refine wE ?_; clear hK K
      refine Run.nq ?_; refine Run.cW ?_ ?_
      · intro hgt
        have hgt : q.getD i 0 < p.getD i 0 := by simpa using hgt
        refine Run.R ?_
        refine Run.rW [4] (hfin _ _ rfl rfl ?_)
        rw [hw, hm]
        simp only [cmpN]
        rw [if_neg hlt, if_pos hgt]
        simp
      · intro hgt
        have hgt : ¬ q.getD i 0 < p.getD i 0 := by simpa using hgt
        refine Run.RW ?_
        refine Run.le ?_ (ih (i + 1) ⟨hc2, ?_⟩ (by omega))
        · exact Le.sub (by simp only [AW7, simprocAttr]) (by simp only [AW7, simprocAttr, Option.some.injEq, Prod.mk.injEq, Sl.v.injEq, AV.int.injEq, AV.own.injEq, AV.bool.injEq]; try (repeat' apply And.intro); all_goals omega)
        · rw [ht, hm]
          simp only [cmpN]
          rw [if_neg hlt, if_neg hgt, show p.length - (i + 1) = m from by omega]
  · intro hc2
    have hc2 : i = p.length := by simp at hc2; omega
    refine Run.exit rfl ?_; refine Run.nq ?_
    refine Run.R ?_
    refine Run.rW [4] (hfin _ _ rfl rfl ?_)
    rw [hw, hc2, Nat.sub_self]
    simp [cmpN]
theorem c_spec_EqualWords (p q : List Int) (hp : p.length ≤ 4503599627370496) : FunA B 42 [.sl false .int p, .sl false .int q] (fun rs o => rs = [.bool (p == q)] ∧ o = []) := by
  refine FunA.walk B_ok (fn := Tryd.f42) (fun vs w => Tryd.call42 vs w) Tryd.func42 rfl (by rw [Tryd.ntmps42]; simp) (fun C hC hP hT hΓ hbt hfn hpin hfin => ?_); have hX := BX; rw [← hΓ, ← hbt.1, ← hbt.2] at hX; rw [Tryd.ntmps42]; simp only [AW7, simprocAttr, hX]
  refine Run.R ?_
  refine Run.nq ?_; refine Run.regionW hC (fun K hK => ?_); refine wW ?_
  refine FunA.cW hP hT (c_spec_CompareWords p q hp) ?_
  rintro rs o ⟨rfl, rfl⟩
  refine wW ?_
  refine wE ?_; clear hK K
  refine Run.rW [4] (hfin _ _ rfl rfl ?_)
  have := cmpW_zero p q
  refine ⟨?_, rfl⟩
  rw [show (cmpW p q == 0) = (p == q) from by rw [Bool.eq_iff_iff, beq_iff_eq, beq_iff_eq]; exact this]
end Go.Proofs.YtbbnfljaojfmaaaDoor
namespace Go.Proofs.YtbbnfljaojfmaaaDoor
open Go Go.Aw
theorem c_impl_IsPoly (p : List Int) (hp : p.length ≤ 1048576) : FunA B 31 [.sl false .int p] (fun rs o => rs = [.bool (decide (p.length ≤ 61) && decide ((trim p).length = p.length))] ∧ o = []) := by
  refine FunA.walk B_ok (fn := Tryd.f31) (fun vs w => Tryd.call31 vs w) Tryd.func31 rfl (by rw [Tryd.ntmps31]; simp) (fun C hC hP hT hΓ hbt hfn hpin hfin => ?_); have hX := BX; rw [← hΓ, ← hbt.1, ← hbt.2] at hX; rw [Tryd.ntmps31]; simp only [AW7, simprocAttr, hX]
  have hv1 : (decide ((p.length : Int) ≤ 61) && !((p.length : Int) == 0)) = true → 0 ≤ (p.length : Int) - 1 ∧ (p.length : Int) - 1 < p.length := by
    intro h
    rw [Bool.and_eq_true, Bool.not_eq_true', beq_eq_false_iff_ne] at h
    omega
  have hv2 : decide ((p.length : Int) ≤ 61) = true → ((p.length : Int) == 0) = false → (decide ((p.length : Int) ≤ 61) && !((p.length : Int) == 0)) = true := by
    intro h1 h2; rw [h1, h2]; rfl
  refine Run.R ?_
  refine Run.RW ?_
  refine Run.rW [2] (hfin _ _ rfl rfl ?_)
  have key : (trim p).length = p.length ↔ p.length = 0 ∨ p.getD (p.length - 1) 0 ≠ 0 := by
    rw [trim_length]
    cases hn : p.length with
    | zero => simp [trimN]
    | succ m =>
      simp only [trimN, Nat.add_sub_cancel]
      have := trimN_le p m
      split
      · rename_i h0
        constructor
        · intro h; omega
        · rintro (h | h)
          · omega
          · exact absurd h0 h
      · rename_i h0
        simp only [true_iff]
        exact .inr h0
  have e : ((p.length : Int) - 1).toNat = p.length - 1 := by omega
  refine ⟨?_, rfl⟩
  rw [e]
  have key2 : decide ((trim p).length = p.length) = (p.length == 0 || p.getD (p.length - 1) 0 != 0) := by
    rw [Bool.eq_iff_iff]
    simp only [decide_eq_true_eq, Bool.or_eq_true, beq_iff_eq, bne_iff_ne]
    exact key
  rw [key2]
  by_cases h : p.length ≤ 61
  · have h' : (p.length : Int) ≤ 61 := by omega
    by_cases h0 : p.length = 0
    · simp [h0]
    · have h0' : ((p.length : Int) == 0) = false := by simpa using h0
      have h0'' : (p.length == 0) = false := by simpa using h0
      simp only [h, h', h0', h0'', decide_true, cond_true, cond_false, Bool.true_and, Bool.false_or]
  · have h' : ¬ (p.length : Int) ≤ 61 := by omega
    simp [h, h']
def evalN (p : List Int) (x : Int) : Nat → Int
  | 0 => 0
  | k + 1 => IntKind.i64.wrap (IntKind.i64.wrap (evalN p x k * x) + p.getD (p.length - 1 - k) 0)
theorem c_spec_EvalPoly (p : List Int) (x : Int) (hp : p.length ≤ 1048576) : FunA B 19 [.sl false .int p, .int .i64 x] (fun rs o => rs = [.int .i64 (evalN p x p.length)] ∧ o = []) := by
  refine FunA.walk B_ok (fn := Tryd.f19) (fun vs w => Tryd.call19 vs w) Tryd.func19 rfl (by rw [Tryd.ntmps19]; simp) (fun C hC hP hT hΓ hbt hfn hpin hfin => ?_); have hX := BX; rw [← hΓ, ← hbt.1, ← hbt.2] at hX; rw [Tryd.ntmps19]; simp only [AW7, simprocAttr, hX]
  refine Run.R ?_
  refine Run.R ?_
  refine Run.RW ?_
  refine Run.nq ?_
  refine Run.loopI (X := Nat) (fun k => ⟨23, [(0, true, .v (.sl false .int p)), (1, true, .v (.int .i64 x)), (6, true, .v (.int .i64 ((p.length : Int) - 1 - (k : Int)))), (5, true, .v (.int .i64 (evalN p x k))), (4, true, .v (.int .i64 0))], []⟩) (fun k => k ≤ p.length) (fun k => p.length - k) 0 (by simp) ?_ ?_
  · refine Le.sub rfl ?_
    simp only [AW7, simprocAttr, hX]; try simp [evalN]
  rintro k hk ih
  refine Run.R ?_
  refine Run.nq ?_; refine Run.cW ?_ ?_
  · intro hc
    have hc : k < p.length := by simp at hc; omega
    refine Run.R ?_
    refine Run.RW ?_
    refine Run.le ?_ (ih (k + 1) hc (by omega))
    refine Le.sub rfl ?_
    simp only [AW7, simprocAttr, hX, Option.some.injEq, Prod.mk.injEq, Sl.v.injEq, AV.int.injEq, AV.own.injEq, AV.bool.injEq]
    have e : ((p.length : Int) - 1 - (k : Int)).toNat = p.length - 1 - k := by omega
    rw [e]
    refine ⟨by simp; omega, rfl⟩
  · intro hc
    have hc : k = p.length := by simp at hc; omega
    refine Run.exit rfl ?_; refine Run.nq ?_
    refine Run.R ?_
    subst hc
    refine Run.rW [4] (hfin _ _ rfl rfl ?_)
    exact ⟨rfl, rfl⟩
theorem c_impl_EvalPoly (p : List Int) (x : Int) (hp : p.length ≤ 1048576) : FunA B 18 [.sl false .int p, .int .i64 x] (fun rs o => rs = [.int .i64 (evalN p x p.length)] ∧ o = []) := by
  refine FunA.walk B_ok (fn := Tryd.f18) (fun vs w => Tryd.call18 vs w) Tryd.func18 rfl (by rw [Tryd.ntmps18]; simp) (fun C hC hP hT hΓ hbt hfn hpin hfin => ?_); have hX := BX; rw [← hΓ, ← hbt.1, ← hbt.2] at hX; rw [Tryd.ntmps18]; simp only [AW7, simprocAttr, hX]
  refine Run.R ?_
  refine Run.R ?_
  refine Run.RW ?_
  refine Run.nq ?_
  refine Run.loopI (X := Nat) (fun k => ⟨23, [(0, true, .v (.sl false .int p)), (1, true, .v (.int .i64 x)), (6, true, .v (.int .i64 ((p.length : Int) - 1 - (k : Int)))), (5, true, .v (.int .i64 (evalN p x k))), (4, true, .v (.int .i64 0))], []⟩) (fun k => k ≤ p.length) (fun k => p.length - k) 0 (by simp) ?_ ?_
  · refine Le.sub rfl ?_
    simp only [AW7, simprocAttr, hX]; try simp [evalN]
  rintro k hk ih
  refine Run.R ?_
  refine Run.nq ?_; refine Run.cW ?_ ?_
  · intro hc
    have hc : k < p.length := by simp at hc; omega
    refine Run.R ?_
    refine Run.RW ?_
    refine Run.le ?_ (ih (k + 1) hc (by omega))
    refine Le.sub rfl ?_
    simp only [AW7, simprocAttr, hX, Option.some.injEq, Prod.mk.injEq, Sl.v.injEq, AV.int.injEq, AV.own.injEq, AV.bool.injEq]
    have e : ((p.length : Int) - 1 - (k : Int)).toNat = p.length - 1 - k := by omega
    rw [e]
    refine ⟨by simp; omega, rfl⟩
  · intro hc
    have hc : k = p.length := by simp at hc; omega
    refine Run.exit rfl ?_; refine Run.nq ?_
    refine Run.R ?_
    subst hc
    refine Run.rW [4] (hfin _ _ rfl rfl ?_)
    exact ⟨rfl, rfl⟩
theorem c_spec_EqualPolys (p q : List Int) (hp : p.length ≤ 1048576) (hq : q.length ≤ 1048576) : FunA B 30 [.sl false .int p, .sl false .int q] (fun rs o => rs = [.bool (trim p == trim q)] ∧ o = [.arr .int (trim p) 1 true, .arr .int (trim q) 1 true]) := by
  refine FunA.walk B_ok (fn := Tryd.f30) (fun vs w => Tryd.call30 vs w) Tryd.func30 rfl (by rw [Tryd.ntmps30]; simp) (fun C hC hP hT hΓ hbt hfn hpin hfin => ?_); have hX := BX; rw [← hΓ, ← hbt.1, ← hbt.2] at hX; rw [Tryd.ntmps30]; simp only [AW7, simprocAttr, hX]
  refine Run.R ?_
  refine Run.nq ?_; refine Run.regionW hC (fun K hK => ?_); refine wW ?_
  refine FunA.cW hP hT (c_spec_TrimPoly p (by omega)) ?_
  rintro rs o ⟨rfl, rfl⟩
  refine wW ?_
  refine FunA.cW hP hT (c_spec_TrimPoly q (by omega)) ?_
  rintro rs o ⟨rfl, rfl⟩
  refine wW ?_
  refine FunA.cW hP hT (c_spec_EqualWords (trim p) (trim q) (by have := trim_le p; omega)) ?_
  rintro rs o ⟨rfl, rfl⟩
  refine wW ?_
  refine wE ?_; clear hK K
  refine Run.rW [4] (hfin _ _ rfl rfl ?_)
  exact ⟨rfl, rfl⟩
theorem c_impl_EqualPolys (p q : List Int) (hp : p.length ≤ 1048576) (hq : q.length ≤ 1048576) : FunA B 29 [.sl false .int p, .sl false .int q] (fun rs o => rs = [.bool (trim p == trim q)] ∧ o = [.arr .int (trim p) 1 true, .arr .int (trim q) 1 true]) := by
  refine FunA.walk B_ok (fn := Tryd.f29) (fun vs w => Tryd.call29 vs w) Tryd.func29 rfl (by rw [Tryd.ntmps29]; simp) (fun C hC hP hT hΓ hbt hfn hpin hfin => ?_); have hX := BX; rw [← hΓ, ← hbt.1, ← hbt.2] at hX; rw [Tryd.ntmps29]; simp only [AW7, simprocAttr, hX]
  refine Run.R ?_
  refine Run.nq ?_; refine Run.regionW hC (fun K hK => ?_); refine wW ?_
  refine FunA.cW hP hT (c_impl_TrimPoly p (by omega)) ?_
  rintro rs o ⟨rfl, rfl⟩
  refine wW ?_
  refine FunA.cW hP hT (c_impl_TrimPoly q (by omega)) ?_
  rintro rs o ⟨rfl, rfl⟩
  refine wW ?_
  refine FunA.cW hP hT (c_slices_Equal (trim p) (trim q) (by have := trim_le p; omega)) ?_
  rintro rs o ⟨rfl, rfl⟩
  refine wW ?_
  refine wE ?_; clear hK K
  refine Run.rW [4] (hfin _ _ rfl rfl ?_)
  exact ⟨rfl, rfl⟩
end Go.Proofs.YtbbnfljaojfmaaaDoor
namespace Go.Proofs.YtbbnfljaojfmaaaDoor
open Go Go.Aw
theorem trimN_z {p : List Int} {n : Nat} (h : p.getD n 0 = 0) : trimN p (n + 1) = trimN p n := by simp only [trimN]; rw [if_pos h]
theorem trimN_nz {p : List Int} {n : Nat} (h : ¬ p.getD n 0 = 0) : trimN p (n + 1) = n + 1 := by simp only [trimN]; rw [if_neg h]
theorem trimN_append (a p : List Int) : ∀ n, trimN (a ++ p) (a.length + n) = if trimN p n = 0 then trimN (a ++ p) a.length else a.length + trimN p n
  | 0 => by simp [trimN]
  | n + 1 => by
    have e : a.length + (n + 1) = (a.length + n) + 1 := by omega
    have hg : (a ++ p).getD (a.length + n) 0 = p.getD n 0 := by
      simp only [List.getD_eq_getElem?_getD]
      rw [List.getElem?_append_right (by omega)]
      congr 2
      omega
    rw [e]
    by_cases h0 : p.getD n 0 = 0
    · rw [trimN_z (by rw [hg]; exact h0), trimN_z h0]
      exact trimN_append a p n
    · rw [trimN_nz (by rw [hg]; exact h0), trimN_nz h0, if_neg (by omega)]
      omega
theorem trimN_zeros (k : Nat) (p : List Int) : ∀ n, n ≤ k → trimN (List.replicate k 0 ++ p) n = 0
  | 0, _ => rfl
  | n + 1, h => by
    have hg : (List.replicate k (0 : Int) ++ p).getD n 0 = 0 := by
      have hn : n < k := by omega
      simp [List.getElem?_append, hn]
    rw [trimN_z hg]
    exact trimN_zeros k p n (by omega)
theorem trim_zeros (k : Nat) (p : List Int) : trim (List.replicate k 0 ++ p) = if trim p = [] then [] else List.replicate k 0 ++ trim p := by
  have h := trimN_append (List.replicate k 0) p p.length
  have hz := trimN_zeros k p k (Nat.le_refl _)
  simp only [List.length_replicate] at h
  have hl : (List.replicate k (0 : Int) ++ p).length = k + p.length := by simp
  have ht : trim p = [] ↔ trimN p p.length = 0 := by
    rw [← List.length_eq_zero_iff, trim_length]
  unfold trim at ht ⊢
  rw [hl, h, hz]
  by_cases h0 : trimN p p.length = 0
  · rw [if_pos h0, if_pos (ht.2 h0)]; rfl
  · rw [if_neg h0, if_neg (fun k => h0 (ht.1 k))]
    rw [List.take_append, List.take_of_length_le (by simp)]
    simp
def shiftP (p : List Int) (k : Int) : List Int := if k < 0 ∨ k > 60 then trim p else trim (List.replicate k.toNat 0 ++ p)
theorem shiftP_le (p : List Int) (k : Int) : (shiftP p k).length ≤ p.length + 60 := by
  unfold shiftP
  split
  · have := trim_le p; omega
  · have := trim_le (List.replicate k.toNat 0 ++ p)
    simp at this
    omega
theorem c_spec_ShiftPoly (p : List Int) (k : Int) (hp : p.length ≤ 1048576) : FunA B 28 [.sl false .int p, .int .i64 k] (fun rs o => rs = [.own 0 1] ∧ o = [.arr .int (shiftP p k) 1 true]) := by
  refine FunA.walk B_ok (fn := Tryd.f28) (fun vs w => Tryd.call28 vs w) Tryd.func28 rfl (by rw [Tryd.ntmps28]; simp) (fun C hC hP hT hΓ hbt hfn hpin hfin => ?_); have hX := BX; rw [← hΓ, ← hbt.1, ← hbt.2] at hX; rw [Tryd.ntmps28]; simp only [AW7, simprocAttr, hX]
  refine Run.R ?_
  refine Run.R ?_
  refine Run.nq ?_; refine Run.cW ?_ ?_
  · intro hc
    refine Run.nq ?_; refine Run.regionW hC (fun K hK => ?_); refine wW ?_
    refine FunA.cW hP hT (c_spec_TrimPoly p (by omega)) ?_
    rintro rs o ⟨rfl, rfl⟩
    refine wW ?_
    refine wE ?_; clear hK K
    refine Run.rW [4] (hfin _ _ rfl rfl ?_)
    refine ⟨rfl, ?_⟩
    have : trim p = shiftP p k := by
      unfold shiftP
      split
      · rfl
      · rename_i hk
        have hk1 : ¬ k < 0 := fun h => hk (.inl h)
        have hk2 : ¬ 60 < k := fun h => hk (.inr h)
        simp [hk1, hk2] at hc
        subst hc
        rw [trim_zeros]
        simp [trim, trimN]
    rw [this]
  · intro hc
    have hk : 0 ≤ k ∧ k ≤ 60 := by
      by_cases h1 : k < 0
      · simp [h1] at hc
      · by_cases h2 : 60 < k
        · simp [h1, h2] at hc
        · omega
    refine Run.nq ?_; refine Run.regionW hC (fun K hK => ?_); refine wW ?_
    refine FunA.cW hP hT (c_spec_TrimPoly (List.replicate k.toNat 0 ++ p) (by simp; omega)) ?_
    rintro rs o ⟨rfl, rfl⟩
    refine wW ?_
    refine wE ?_; clear hK K
    refine Run.le (Le.re (obs' := [.arr .int (trim (List.replicate k.toNat 0 ++ p)) 1 true]) hpin [1] [(4, true, .own 0 1)] rfl (by simp [leOs, leO_arr, oAt]) (by refine ⟨⟨_, rfl, ?_⟩, trivial⟩; simp [leAV, oAt, genO])) ?_
    simp only [frV_cons, frV_nil]
    refine Run.rW [4] (hfin _ _ rfl rfl ?_)
    refine ⟨rfl, ?_⟩
    rw [show trim (List.replicate k.toNat 0 ++ p) = shiftP p k from by
      unfold shiftP
      rw [if_neg (by omega)]]
theorem c_impl_shifted (p : List Int) (k : Int) (hp : p.length ≤ 1048576) (hk : 0 ≤ k ∧ k ≤ 60) : FunA B 40 [.sl false .int p, .int .i64 k] (fun rs o => rs = [.own 0 1] ∧ o = [.arr .int (shiftP p k) 1 true]) := by
  have hs : shiftP p k = if trim p = [] then [] else List.replicate k.toNat 0 ++ trim p := by
    unfold shiftP
    rw [if_neg (by omega), trim_zeros]
  refine FunA.walk B_ok (fn := Tryd.f40) (fun vs w => Tryd.call40 vs w) Tryd.func40 rfl (by rw [Tryd.ntmps40]; simp) (fun C hC hP hT hΓ hbt hfn hpin hfin => ?_); have hX := BX; rw [← hΓ, ← hbt.1, ← hbt.2] at hX; rw [Tryd.ntmps40]; simp only [AW7, simprocAttr, hX]
  refine Run.R ?_
  refine Run.nq ?_; refine Run.regionW hC (fun K hK => ?_); refine wW ?_
  refine FunA.cW hP hT (c_impl_TrimPoly p (by omega)) ?_
  rintro rs o ⟨rfl, rfl⟩
  refine wW ?_
  refine wE ?_; clear hK K
  refine Run.R ?_
  refine Run.nq ?_; refine Run.cW ?_ ?_
  · intro hc
    refine Run.R ?_
    refine Run.rW [4] (hfin _ _ rfl rfl ?_)
    have h0 : trim p = [] := by simpa using hc
    rw [hs, if_pos h0, h0]
    simp
  · intro hc
    have h0 : trim p ≠ [] := by simpa using hc
    have := trim_le p
    refine Run.R ?_
    refine Run.le (Le.re (obs' := [.arr .int (List.replicate k.toNat 0 ++ trim p) 1 true]) hpin [1] [(4, true, .own 0 1)] rfl (by simp [leOs, leO_arr, oAt]) (by refine ⟨⟨_, rfl, ?_⟩, trivial⟩; simp [leAV, oAt, genO])) ?_
    simp only [frV_cons, frV_nil]
    refine Run.rW [4] (hfin _ _ rfl rfl ?_)
    rw [hs, if_neg h0]
    simp
theorem c_impl_ShiftPoly (p : List Int) (k : Int) (hp : p.length ≤ 1048576) : FunA B 27 [.sl false .int p, .int .i64 k] (fun rs o => rs = [.own 0 1] ∧ o = [.arr .int (shiftP p k) 1 true]) := by
  refine FunA.walk B_ok (fn := Tryd.f27) (fun vs w => Tryd.call27 vs w) Tryd.func27 rfl (by rw [Tryd.ntmps27]; simp) (fun C hC hP hT hΓ hbt hfn hpin hfin => ?_); have hX := BX; rw [← hΓ, ← hbt.1, ← hbt.2] at hX; rw [Tryd.ntmps27]; simp only [AW7, simprocAttr, hX]
  refine Run.R ?_
  refine Run.R ?_
  refine Run.nq ?_; refine Run.cW ?_ ?_
  · intro hc
    refine Run.nq ?_; refine Run.regionW hC (fun K hK => ?_); refine wW ?_
    refine FunA.cW hP hT (c_impl_TrimPoly p (by omega)) ?_
    rintro rs o ⟨rfl, rfl⟩
    refine wW ?_
    refine wE ?_; clear hK K
    refine Run.rW [4] (hfin _ _ rfl rfl ?_)
    refine ⟨rfl, ?_⟩
    have : trim p = shiftP p k := by
      unfold shiftP
      rw [if_pos]
      by_cases h1 : k < 0
      · exact .inl h1
      · simp [h1] at hc
        exact .inr hc
    rw [this]
  · intro hc
    have hk : 0 ≤ k ∧ k ≤ 60 := by
      by_cases h1 : k < 0
      · simp [h1] at hc
      · by_cases h2 : 60 < k
        · simp [h1, h2] at hc
        · omega
    refine Run.nq ?_; refine Run.regionW hC (fun K hK => ?_); refine wW ?_
    refine FunA.cW hP hT (c_impl_shifted p k hp hk) ?_
    rintro rs o ⟨rfl, rfl⟩
    refine wW ?_
    refine wE ?_; clear hK K
    refine Run.rW [4] (hfin _ _ rfl rfl ?_)
    exact ⟨rfl, rfl⟩
end Go.Proofs.YtbbnfljaojfmaaaDoor
namespace Go.Proofs.YtbbnfljaojfmaaaDoor
open Go Go.Aw
def revN (t : List Int) (n : Nat) : Nat → List Int
  | 0 => List.replicate (n + 1) 0
  | i + 1 => (revN t n i).set (n - i) (t.getD i 0)
theorem revN_length (t : List Int) (n : Nat) : ∀ i, (revN t n i).length = n + 1
  | 0 => by simp [revN]
  | i + 1 => by simp [revN, revN_length t n i]
def revP (p : List Int) (n : Int) : List Int := if n < 0 ∨ n > 60 ∨ (trim p).length > n + 1 then [] else trim (revN (trim p) n.toNat (trim p).length)
def revB (p : List Int) (n : Int) : Bool := decide (¬ (n < 0 ∨ n > 60 ∨ (trim p).length > n + 1))
theorem revP_le (p : List Int) (n : Int) : (revP p n).length ≤ 61 := by
  unfold revP
  split
  · simp
  · have := trim_le (revN (trim p) n.toNat (trim p).length)
    rw [revN_length] at this
    omega
theorem c_spec_ReversePoly (p : List Int) (n : Int) (hp : p.length ≤ 1048576) : FunA B 22 [.sl false .int p, .int .i64 n] (fun rs o => rs = [.own 0 1, .bool (revB p n)] ∧ o = [.arr .int (revP p n) 1 true]) := by
  refine FunA.walk B_ok (fn := Tryd.f22) (fun vs w => Tryd.call22 vs w) Tryd.func22 rfl (by rw [Tryd.ntmps22]; simp) (fun C hC hP hT hΓ hbt hfn hpin hfin => ?_); have hX := BX; rw [← hΓ, ← hbt.1, ← hbt.2] at hX; rw [Tryd.ntmps22]; simp only [AW7, simprocAttr, hX]
  refine Run.R ?_
  refine Run.nq ?_; refine Run.regionW hC (fun K hK => ?_); refine wW ?_
  refine FunA.cW hP hT (c_spec_TrimPoly p (by omega)) ?_
  rintro rs o ⟨rfl, rfl⟩
  refine wW ?_
  refine wE ?_; clear hK K
  have htl := trim_le p
  refine Run.RW ?_
  refine Run.keep [0, 1, 4, 5, 6, 23] ?_; simp only [AK, Nat.reduceBEq]
  refine Run.nq ?_; refine Run.cW ?_ ?_
  · intro hc
    have hcond : n < 0 ∨ n > 60 ∨ (trim p).length > n + 1 := by
      by_cases h1 : n < 0
      · exact .inl h1
      · by_cases h2 : 60 < n
        · exact .inr (.inl h2)
        · simp [h1, h2] at hc
          rw [wrap_id (by omega)] at hc
          exact .inr (.inr hc)
    refine Run.R ?_
    refine Run.le (Le.re (obs' := [.arr .int [] 1 true]) hpin [1] [(4, true, .own 0 1), (5, true, .bool false)] rfl (by simp [leOs, leO_arr, oAt]) (by refine ⟨⟨_, rfl, ?_⟩, ⟨_, rfl, ?_⟩, trivial⟩ <;> simp [leAV, oAt, genO])) ?_
    simp only [frV_cons, frV_nil]
    refine Run.rW [4, 5] (hfin _ _ rfl rfl ?_)
    simp only [revP, revB, if_pos hcond]
    simp [hcond]
  · intro hc
    have hn : 0 ≤ n ∧ n ≤ 60 := by
      by_cases h1 : n < 0
      · simp [h1] at hc
      · by_cases h2 : 60 < n
        · simp [h1, h2] at hc
        · omega
    have ht : (trim p).length ≤ n + 1 := by
      have h1 : ¬ n < 0 := by omega
      have h2 : ¬ 60 < n := by omega
      simp [h1, h2] at hc
      rw [wrap_id (by omega)] at hc
      exact hc
    obtain ⟨m, rfl⟩ : ∃ m : Nat, n = m := ⟨n.toNat, by omega⟩
    refine Run.RW ?_
    refine Run.R ?_
    refine Run.keep [0, 1, 4, 5, 6, 7, 8] ?_; simp only [AK, Nat.reduceBEq]
    refine Run.loopI (X := Nat) (fun i => ⟨45, [(0, true, .v (.sl false .int p)), (1, true, .v (.int .i64 m)), (4, true, .v .nils), (5, true, .v (.bool false)), (6, true, .v (.own 0 1)), (7, true, .v (.own 1 0)), (8, true, .v (.int .i64 i))], [.arr .int (trim p) 1 true, .arr .int (revN (trim p) m i) 0 true]⟩) (fun i => i ≤ (trim p).length) (fun i => (trim p).length - i) 0 (Nat.zero_le _) ?_ ?_
    · refine Le.sub (by simp [revN]) ?_
      simp only [AW7, simprocAttr, hX]; try simp
    rintro i hi ih
    have hrl := revN_length (trim p) m i
    refine Run.R ?_
    refine Run.nq ?_; refine Run.cW ?_ ?_
    · intro hc2
      have hc2 : i < (trim p).length := by simpa using hc2
      refine Run.RW ?_
      refine Run.RW ?_
      refine Run.le ?_ (ih (i + 1) hc2 (by omega))
      refine Le.sub ?_ ?_
      · have e : ((m : Int) - (i : Int)).toNat = m - i := by omega
        simp [revN, e]
      · simp only [AW7, simprocAttr]; try simp
    · intro hc2
      have hc2 : i = (trim p).length := by simp at hc2; omega
      subst hc2
      refine Run.exit rfl ?_; refine Run.nq ?_
      refine Run.nq ?_; refine Run.regionW hC (fun K hK => ?_); refine wW ?_
      refine FunA.cW hP hT (c_spec_TrimPoly (revN (trim p) m (trim p).length) (by rw [revN_length]; omega)) ?_
      rintro rs o ⟨rfl, rfl⟩
      refine wW ?_
      refine wE ?_; clear hK K
      refine Run.le (Le.re (obs' := [.arr .int (trim (revN (trim p) m (trim p).length)) 1 true]) hpin [2] [(4, true, .own 0 1), (5, true, .bool true)] rfl (by simp [leOs, leO_arr, oAt]) (by refine ⟨⟨_, rfl, ?_⟩, ⟨_, rfl, ?_⟩, trivial⟩ <;> simp [leAV, oAt, genO])) ?_
      simp only [frV_cons, frV_nil]
      refine Run.rW [4, 5] (hfin _ _ rfl rfl ?_)
      have hcond : ¬ ((m : Int) < 0 ∨ (m : Int) > 60 ∨ (trim p).length > (m : Int) + 1) := by omega
      simp only [revP, revB, if_neg hcond]
      simp [hcond]
theorem c_impl_ReversePoly (p : List Int) (n : Int) (hp : p.length ≤ 1048576) : FunA B 21 [.sl false .int p, .int .i64 n] (fun rs o => rs = [.own 0 1, .bool (revB p n)] ∧ o = [.arr .int (revP p n) 1 true]) := by
  refine FunA.walk B_ok (fn := Tryd.f21) (fun vs w => Tryd.call21 vs w) Tryd.func21 rfl (by rw [Tryd.ntmps21]; simp) (fun C hC hP hT hΓ hbt hfn hpin hfin => ?_); have hX := BX; rw [← hΓ, ← hbt.1, ← hbt.2] at hX; rw [Tryd.ntmps21]; simp only [AW7, simprocAttr, hX]
  refine Run.R ?_
  refine Run.nq ?_; refine Run.regionW hC (fun K hK => ?_); refine wW ?_
  refine FunA.cW hP hT (c_impl_TrimPoly p (by omega)) ?_
  rintro rs o ⟨rfl, rfl⟩
  refine wW ?_
  refine wE ?_; clear hK K
  have htl := trim_le p
  refine Run.RW ?_
  refine Run.keep [0, 1, 4, 5, 6, 24] ?_; simp only [AK, Nat.reduceBEq]
  refine Run.nq ?_; refine Run.cW ?_ ?_
  · intro hc
    have hcond : n < 0 ∨ n > 60 ∨ (trim p).length > n + 1 := by
      by_cases h1 : n < 0
      · exact .inl h1
      · by_cases h2 : 60 < n
        · exact .inr (.inl h2)
        · simp [h1, h2] at hc
          rw [wrap_id (by omega)] at hc
          exact .inr (.inr hc)
    refine Run.R ?_
    refine Run.le (Le.re (obs' := [.arr .int [] 1 true]) hpin [1] [(4, true, .own 0 1), (5, true, .bool false)] rfl (by simp [leOs, leO_arr, oAt]) (by refine ⟨⟨_, rfl, ?_⟩, ⟨_, rfl, ?_⟩, trivial⟩ <;> simp [leAV, oAt, genO])) ?_
    simp only [frV_cons, frV_nil]
    refine Run.rW [4, 5] (hfin _ _ rfl rfl ?_)
    simp only [revP, revB, if_pos hcond]
    simp [hcond]
  · intro hc
    have hn : 0 ≤ n ∧ n ≤ 60 := by
      by_cases h1 : n < 0
      · simp [h1] at hc
      · by_cases h2 : 60 < n
        · simp [h1, h2] at hc
        · omega
    have ht : (trim p).length ≤ n + 1 := by
      have h1 : ¬ n < 0 := by omega
      have h2 : ¬ 60 < n := by omega
      simp [h1, h2] at hc
      rw [wrap_id (by omega)] at hc
      exact hc
    obtain ⟨m, rfl⟩ : ∃ m : Nat, n = m := ⟨n.toNat, by omega⟩
    refine Run.RW ?_
    refine Run.R ?_
    refine Run.keep [0, 1, 4, 5, 7, 29, 30, 31] ?_; simp only [AK, Nat.reduceBEq]
    refine Run.loopI (X := Nat) (fun i => ⟨45, [(0, true, .v (.sl false .int p)), (1, true, .v (.int .i64 m)), (4, true, .v .nils), (5, true, .v (.bool false)), (7, true, .v (.own 1 0)), (29, true, .v (.own 0 1)), (30, true, .v (.int .i64 (trim p).length)), (31, true, .v (.int .i64 i))], [.arr .int (trim p) 1 true, .arr .int (revN (trim p) m i) 0 true]⟩) (fun i => i ≤ (trim p).length) (fun i => (trim p).length - i) 0 (Nat.zero_le _) ?_ ?_
    · refine Le.sub (by simp [revN]) ?_
      simp only [AW7, simprocAttr, hX]; try simp
    rintro i hi ih
    have hrl := revN_length (trim p) m i
    refine Run.R ?_
    refine Run.nq ?_; refine Run.cW ?_ ?_
    · intro hc2
      have hc2 : i < (trim p).length := by simpa using hc2
      refine Run.R ?_
      refine Run.RW ?_
      refine Run.RW ?_
      refine Run.le ?_ (ih (i + 1) hc2 (by omega))
      refine Le.sub ?_ ?_
      · have e : ((m : Int) - (i : Int)).toNat = m - i := by omega
        simp [revN, e]
      · simp only [AW7, simprocAttr]; try simp
    · intro hc2
      have hc2 : i = (trim p).length := by simp at hc2; omega
      subst hc2
      refine Run.exit rfl ?_; refine Run.nq ?_
      refine Run.nq ?_; refine Run.regionW hC (fun K hK => ?_); refine wW ?_
      refine FunA.cW hP hT (c_impl_TrimPoly (revN (trim p) m (trim p).length) (by rw [revN_length]; omega)) ?_
      rintro rs o ⟨rfl, rfl⟩
      refine wW ?_
      refine wE ?_; clear hK K
      refine Run.le (Le.re (obs' := [.arr .int (trim (revN (trim p) m (trim p).length)) 1 true]) hpin [2] [(4, true, .own 0 1), (5, true, .bool true)] rfl (by simp [leOs, leO_arr, oAt]) (by refine ⟨⟨_, rfl, ?_⟩, ⟨_, rfl, ?_⟩, trivial⟩ <;> simp [leAV, oAt, genO])) ?_
      simp only [frV_cons, frV_nil]
      refine Run.rW [4, 5] (hfin _ _ rfl rfl ?_)
      have hcond : ¬ ((m : Int) < 0 ∨ (m : Int) > 60 ∨ (trim p).length > (m : Int) + 1) := by omega
      simp only [revP, revB, if_neg hcond]
      simp [hcond]
end Go.Proofs.YtbbnfljaojfmaaaDoor
