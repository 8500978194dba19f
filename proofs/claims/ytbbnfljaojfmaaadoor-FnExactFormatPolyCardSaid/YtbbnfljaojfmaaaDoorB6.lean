/- Rows of one's own that are written in place: a pool of rows. -/
import Derived.Test.YtbbnfljaojfmaaaDoorAw5
import Derived.Test.YtbbnfljaojfmaaaDoorProg
import Derived.KernelRfl
import Derived.Lib.ItoaNum
import Derived.Lib.ItoaLen
import Derived.Shelf.LaysM
import Derived.Shelf.Strconv.Itoa3
set_option linter.unusedVariables false
set_option linter.unusedSimpArgs false
namespace Go.Aw
open Go
theorem regO_gm (g g' : Nat) (D : List Nat) (F : Nat → List Int) (hs : List Nat) (nn : Bool) : regO g (.gm D F hs g' nn) = .gm D F hs (g + g') nn := rfl
theorem AW5 : type_of% @AW4 ∧ type_of% @Q_lenG ∧ type_of% @Q_idxG ∧ type_of% @Q_loadG ∧ type_of% @Q_storeG ∧ type_of% @Q_stH ∧ type_of% @Q_st_hdr ∧ type_of% @Q_len_hdr ∧ type_of% @Q_idx_hdr ∧ type_of% @Q_load_hp ∧ type_of% @Q_store_hp ∧ type_of% @Q_len_lenv ∧ type_of% @regO_gm ∧ type_of% @X_callT ∧ type_of% @leO_gm :=
  ⟨@AW4, @Q_lenG, @Q_idxG, @Q_loadG, @Q_storeG, @Q_stH, @Q_st_hdr, @Q_len_hdr, @Q_idx_hdr, @Q_load_hp, @Q_store_hp, @Q_len_lenv, @regO_gm, @X_callT, @leO_gm⟩
theorem regO_mp (g g' : Nat) (m : MT) (l : List (MK × MV)) : regO g (.mp m l g') = .mp m l (g + g') := rfl
theorem Q_mlkB (gg g' : Nat) (k : MK) (l : List (MK × MV)) (obs : List O) : mlkO ⟨false, false⟩ gg k obs (.mp ⟨false, false⟩ l g') = bif gg == g' then .ok True (.bool (mgetB l k)) obs else .bad := by
  cases h : gg == g' <;> simp [mlkO, h]
theorem Q_mlkI (gg g' : Nat) (k : MK) (l : List (MK × MV)) (obs : List O) : mlkO ⟨false, true⟩ gg k obs (.mp ⟨false, true⟩ l g') = bif gg == g' then .ok True (.int .i64 (mgetI l k)) obs else .bad := by
  cases h : gg == g' <;> simp [mlkO, h]
theorem Q_mupO (b : Bool) (id gg g' : Nat) (k : MK) (v : MV) (l : List (MK × MV)) (obs : List O) : mupO ⟨false, b⟩ id gg k v obs (.mp ⟨false, b⟩ l g') = bif gg == g' then .skip True (oSet obs id (.mp ⟨false, b⟩ (mput l k v) gg)) else .bad := by
  cases h : gg == g' <;> simp [mupO, h]
theorem Q_mmake (m : MT) (obs : List O) : mmakeV (some m) obs = .ok True (.own obs.length 0) (obs ++ [.mp m [] 0]) := rfl
theorem AW6 : type_of% @AW5 ∧ type_of% @regO_mp ∧ type_of% @Q_mlkB ∧ type_of% @Q_mlkI ∧ type_of% @Q_mupO ∧ type_of% @Q_mmake ∧ type_of% @X_lookup ∧ type_of% @X_mupd ∧ type_of% @X_insert ∧ type_of% @X_mmake ∧ type_of% @G_lookup ∧ type_of% @mlookV_own ∧ type_of% @mupdV_bool ∧ type_of% @mupdV_int ∧ type_of% @leO_mp :=
  ⟨@AW5, @regO_mp, @Q_mlkB, @Q_mlkI, @Q_mupO, @Q_mmake, @X_lookup, @X_mupd, @X_insert, @X_mmake, @G_lookup, @mlookV_own, @mupdV_bool, @mupdV_int, @leO_mp⟩
end Go.Aw
namespace Go.Aw
open Go
section
variable {C : Ctx} {ds : Rg} {rest : List Oper} {n : Nat} {fr : List (Nat × Bool × Sl)} {obs : List O} {K : St → Prop} {ty : TypeId} {p : String} {af : Array Edge}
theorem X_slice3 (dd : Option Nat) (t : TypeId) (x : Operand) (lo hi : Option Operand) (m : Operand) : aexec C ds (⟨dd, .slice t x lo hi (some m), ty, p, af, none⟩ :: rest) ⟨n, fr, obs⟩ K =
    aS C ds rest n fr K (St.has ⟨n, fr, obs⟩ x ∧ hasO ⟨n, fr, obs⟩ lo ∧ hasO ⟨n, fr, obs⟩ hi ∧ St.has ⟨n, fr, obs⟩ m) (slice3V (C.Γ t) (St.ev ⟨n, fr, obs⟩ x) (lo.map (St.ev ⟨n, fr, obs⟩)) (hi.map (St.ev ⟨n, fr, obs⟩)) (St.ev ⟨n, fr, obs⟩ m) obs) dd :=
  plain_eq C ds rest n fr obs K ty p af rfl (by simp only [hasAll, hasO_eq]) rfl dd
end
def sl3O (g : Nat) (n m : Int) (obs : List O) : O → Res
  | .ap q ys true g' _ => bif g == g' then .ok (n = ys.length ∧ m = ys.length) (.hdr (some q) ys.length) obs else .bad
  | _ => .bad
theorem slice3V_own (e : E) (id g : Nat) (k k' : IntKind) (n m : Int) (obs : List O) : slice3V (some e) (.own id g) none (some (.int k n)) (.int k' m) obs = sl3O g n m obs (oAt obs id) := by
  rw [at_arr]; simp only [slice3V]
  cases h : obs[id]? with
  | none => rfl
  | some o => cases o with
    | ap q ys fr g' nn => cases fr <;> first | rfl | (by_cases hg : g = g' <;> simp [sl3O, hg, Bool.cond_eq_ite])
    | _ => rfl
theorem Q_sl3 (gg g' : Nat) (n m : Int) (obs : List O) (q : Nat) (ys : List (Nat × List Int)) (nn : Bool) : sl3O gg n m obs (.ap q ys true g' nn) = bif gg == g' then .ok (n = ys.length ∧ m = ys.length) (.hdr (some q) ys.length) obs else .bad := rfl
theorem Q_lenA (q : Nat) (ys : List (Nat × List Int)) (fr : Bool) (gg g' : Nat) (nn : Bool) (obs : List O) : lenO gg obs (.ap q ys fr g' nn) = bif gg == g' then .ok True (.int .i64 ys.length) obs else .bad := rfl
theorem Q_apOA (e : E) (id gg g' : Nat) (x : AV) (obs : List O) (q : Nat) (ys : List (Nat × List Int)) (fr nn : Bool) : apO e id gg x obs (.ap q ys fr g' nn) = bif gg == g' && decide (E.lrow.fam = e.fam) then apA id gg nn q e ys obs (srcQ .lrow x obs (some id)) else .bad := rfl
theorem Q_apA (e : E) (id gg : Nat) (obs : List O) (q : Nat) (ys zs : List (Nat × List Int)) (nn : Bool) : apA id gg nn q e ys obs (.yes zs) = .ok ((ys.length + zs.length) * e.bytes ≤ 140737488355328) (.own id (gg + 1)) (oSet obs id (.ap q (ys ++ zs) false (gg + 1) (nn || !zs.isEmpty))) := rfl
theorem Q_load_hpA (h k q : Nat) (ys : List (Nat × List Int)) (fr : Bool) (gg : Nat) (nn : Bool) (r : List O) : loadV true (.hp h k) (.ap q ys fr gg nn :: r) = .ok (h = q ∧ k < hdC q) (.lr (ys.getD k (0, [])).1 (ys.getD k (0, [])).2) (.ap q ys fr gg nn :: r) := rfl
theorem Q_store_hpM (h k : Nat) (n : Int) (hs : List (Option Nat)) (rows : List (List Int)) (gg : Nat) (nn : Bool) (r : List O) : storeV true (.hp h k) (.int .i64 n) (.mat hs rows gg nn :: r) = .skip (some h ∈ hs ∧ k < (rows.getD (hs.idxOf (some h)) []).length) (.mat hs (setM hs rows h k n) gg nn :: r) := rfl
theorem Q_store_hpC (h k : Nat) (n : Int) (s : Value) (g1 : Nat) (hs : List (Option Nat)) (rows : List (List Int)) (gg : Nat) (nn : Bool) (r : List O) : storeV true (.hp h k) (.int .i64 n) (.cur s g1 :: .mat hs rows gg nn :: r) = .skip (some h ∈ hs ∧ k < (rows.getD (hs.idxOf (some h)) []).length) (.cur s g1 :: .mat hs (setM hs rows h k n) gg nn :: r) := rfl
def zapO (id g : Nat) (m : Int) (obs : List O) : O → Res
  | .arr .int xs g' _ => bif g == g' then .ok (0 < m ∧ m ≤ 1000000 ∧ 0 < xs.length ∧ xs.length ≤ 1000000) (.own id (g + 1)) (oSet obs id (.arr .int (xs ++ List.replicate m.toNat 0) (g + 1) true)) else .bad
  | _ => .bad
theorem X_appz {C : Ctx} {ds : Rg} {rest : List Oper} {n : Nat} {fr : List (Nat × Bool × Sl)} {obs : List O} {K : St → Prop} {ty : TypeId} {p : String} {af : Array Edge} (dd : Option Nat) (x y : Operand) (t t2 : TypeId) (h : (t == t2) = false) : aexec C ds (⟨dd, .call ⟨.builtin .append, List.toArray [x, y], List.toArray [t, t2]⟩, ty, p, af, none⟩ :: rest) ⟨n, fr, obs⟩ K =
    aS C ds rest n fr K (hasL ⟨n, fr, obs⟩ [x, y]) (zapV (C.Γ t) (C.bt t2) (St.ev ⟨n, fr, obs⟩ x) (St.ev ⟨n, fr, obs⟩ y) obs) dd := plain_eq C ds rest n fr obs K ty p af rfl (by simp only [hasAll, hasL_eq]) (by have h' : t ≠ t2 := by { simpa using h }; simp [astep, h']) dd
theorem Q_zap (id g : Nat) (m : Int) (obs : List O) : zapV (some .int) (some (.int .i64)) (.own id g) (.int .i64 m) obs = zapO id g m obs (oAt obs id) := by
  rw [at_arr]; simp only [zapV]
  cases h : obs[id]? with
  | none => rfl
  | some o => cases o with
    | arr e xs g' nn => cases e <;> first | rfl | (by_cases hg : g = g' <;> simp [zapO, hg, oSet_eq, Bool.cond_eq_ite])
    | _ => rfl
theorem Q_zapO (id g g' : Nat) (m : Int) (xs : List Int) (nn : Bool) (obs : List O) : zapO id g m obs (.arr .int xs g' nn) = bif g == g' then .ok (0 < m ∧ m ≤ 1000000 ∧ 0 < xs.length ∧ xs.length ≤ 1000000) (.own id (g + 1)) (oSet obs id (.arr .int (xs ++ List.replicate m.toNat 0) (g + 1) true)) else .bad := rfl
theorem AW7 : type_of% @AW6 ∧ type_of% @X_slice3 ∧ type_of% @slice3V_own ∧ type_of% @Q_sl3 ∧ type_of% @Q_lenA ∧ type_of% @Q_apOA ∧ type_of% @Q_apA ∧ type_of% @Q_load_hpA ∧ type_of% @leO_ap ∧ type_of% @leO_apa ∧ type_of% @leO_cur ∧ type_of% @regO_cur ∧ type_of% @Q_store_hpM ∧ type_of% @Q_store_hpC ∧ type_of% @X_appz ∧ type_of% @Q_zap ∧ type_of% @Q_zapO := ⟨@AW6, @X_slice3, @slice3V_own, @Q_sl3, @Q_lenA, @Q_apOA, @Q_apA, @Q_load_hpA, @leO_ap, @leO_apa, @leO_cur, @regO_cur, @Q_store_hpM, @Q_store_hpC, @X_appz, @Q_zap, @Q_zapO⟩
end Go.Aw
namespace Go.Aw
open Go
structure Hid (q : Prop) : Prop where
  out : q
theorem Run.R {C : Ctx} {σ σ' : St} {k k' : List Item} (rest : Run C k' σ') (h : Hid (Run C k' σ') → Run C k σ := by
    intro hHid
    refine Run.nq ?_
    refine Run.regionW hC (fun K hK => ?_)
    simp only [AW7, simprocAttr, hX]
    (repeat (with_reducible refine And.intro ?_ ?_); exact vc0)
    refine hK _ ?_
    clear hK K
    refine Run.nq ?_
    exact hHid.out) : Run C k σ := h ⟨rest⟩
theorem Run.RW {C : Ctx} {σ σ' : St} {k k' : List Item} (rest : Run C k' σ') (h : Hid (Run C k' σ') → Run C k σ := by
    intro hHid
    refine Run.nq ?_
    refine Run.regionW hC (fun K hK => ?_)
    simp (disch := omega) only [wrap_id, AW7, simprocAttr, hX]
    (repeat (with_reducible refine And.intro ?_ ?_); exact vc0)
    refine hK _ ?_
    clear hK K
    refine Run.nq ?_
    exact hHid.out) : Run C k σ := h ⟨rest⟩
theorem wW {p q : Prop} (rest : q) (h : Hid q → p := by
    intro hHid
    (try simp only [AW7, simprocAttr, hX])
    (repeat (with_reducible refine And.intro ?_ ?_); exact vc0)
    exact hHid.out) : p := h ⟨rest⟩
theorem wE {p q : Prop} (rest : q) (h : Hid q → p := by
    intro hHid
    (repeat (with_reducible refine And.intro ?_ ?_); exact vc0)
    refine hK _ ?_
    refine Run.nq ?_
    exact hHid.out) : p := h ⟨rest⟩
theorem Run.cW {C : Ctx} {σ : St} {c : Operand} {x y : Code} {t : Bool} {k : List Item} (ht : t = true → Run C (.code x :: k) σ) (hf : t = false → Run C (.code y :: k) σ)
    (hc : σ.ev c = .bool t := by simp only [AW7, simprocAttr, hX]; rfl) (hh : σ.has c := by simp only [AW7, simprocAttr, hX]) : Run C (.code (.cond c x y) :: k) σ := Run.cond hc hh ht hf
theorem Run.rW {C : Ctx} {σ : St} {k : List Item} (ts : List Nat) {xs : List AV} (h : Fin C xs σ.obs) (hl : ts.length ≤ 4 := by decide) (hres : C.fn.results = (ts.map ResultVar.tmp).toArray := by rw [hfn]; rfl)
    (hx : evT σ ts = xs := by simp only [AW7, simprocAttr, hX]; rfl) (hh : hasT σ ts := by simp only [AW7, simprocAttr, hX]) : Run C (.code .ret :: k) σ := Run.retW ts hl hres hx hh h
theorem FunA.cW {B C : Ctx} (hP : B.P = C.P) (hT : B.tid = C.tid) {f : FuncId} {args0 : List AV} {post : List AV → List O → Prop} (h : FunA B f args0 post) {obs : List O} {args : List AV}
    {K : Sl → List O → Prop} (hk : ∀ xs obs', post xs obs' → K (resSl obs.length xs) (obs ++ obs')) (ha : argsOk obs args args0 := by simp only [AW7, simprocAttr]) : ACall C obs f args fun x o => Later (K x o) := FunA.callW hP hT h ha hk
end Go.Aw
namespace Go.Proofs.YtbbnfljaojfmaaaDoor
open Go Go.Aw
def Btid : E → Nat
  | .int => 3
  | .byte => 5
  | .bool => 4
  | .str => 9
  | .row _ => 22
  | .lrow => 22
  | .vec => 0
  | .pr => 0
def BG (t : Nat) : Option E := if t = 22 then some .int else if t = 27 then some .byte else none
def Bbt (t : Nat) : Option BT := if t = 3 then some (.int .i64) else if t = 4 then some .bool else if t = 9 then some .str else if t = 5 then some (.int .u8) else none
def BM (t : Nat) : Option MT := none
noncomputable def B : Ctx := ⟨Tryd.prog, default, (fun _ _ => True), default, (fun _ => False), Btid, BG, Bbt, BM, [], (fun _ => False)⟩
set_option maxRecDepth 100000 in
theorem B_ok : B.Ok := by
  refine ⟨fun t e h => ?_, fun t e h => ?_, fun t b h => ?_, fun f => rfl, by kernel_rfl, fun t h => ?_, fun t m h => ?_⟩
  · simp only [B, BG] at h
    (repeat' split at h) <;> first | (cases h; done) | (cases h; subst_vars; first | exact ⟨Tryd.underlying22, _, rfl, rfl, rfl, rfl⟩ | exact ⟨Tryd.underlying27, _, rfl, rfl, rfl, rfl⟩)
  · simp only [B, BG] at h
    (repeat' split at h) <;> first | (cases h; done) | (cases h; subst_vars; exact ⟨_, rfl, rfl⟩)
  · simp only [B, Bbt] at h
    (repeat' split at h) <;> first | (cases h; done) | (cases h; subst_vars; first | exact ⟨Tryd.underlying3, _, rfl, rfl⟩ | exact ⟨Tryd.underlying4, _, rfl, rfl⟩ | exact ⟨Tryd.underlying9, _, rfl, rfl⟩ | exact ⟨Tryd.underlying5, _, rfl, rfl⟩)
  · exact Tryd.underlying5
  · simp only [B, BM] at h; cases h
theorem BX : B.Γ 22 = some .int ∧ B.Γ 27 = some .byte ∧ B.bt 3 = some (.int .i64) ∧ B.bt 4 = some .bool ∧ B.bt 9 = some .str ∧ B.bt 5 = some (.int .u8) ∧ B.bt 22 = none ∧ B.bt 27 = none ∧ B.Γ 3 = none ∧ B.Γ 4 = none ∧ B.Γ 9 = none ∧ B.Γ 5 = none ∧ B.mt 0 = none := ⟨rfl, rfl, rfl, rfl, rfl, rfl, rfl, rfl, rfl, rfl, rfl, rfl, rfl⟩
end Go.Proofs.YtbbnfljaojfmaaaDoor
namespace Go.Proofs.YtbbnfljaojfmaaaDoor
open Go Go.Aw
theorem take_snoc {α : Type} (d : α) (p : List α) (i : Nat) (h : i < p.length) : p.take i ++ [p.getD i d] = p.take (i + 1) := by
  rw [List.take_add_one]
  simp [h]
theorem set_fill (p : List Int) (i : Nat) (h : i < p.length) (z : Int) : (p.take i ++ List.replicate (p.length - i) z).set i (p.getD i 0) = p.take (i + 1) ++ List.replicate (p.length - (i + 1)) z := by
  obtain ⟨m, hm⟩ : ∃ m, p.length - i = m + 1 := ⟨p.length - i - 1, by omega⟩
  have hl : (p.take i).length = i := by simp; omega
  rw [hm, List.replicate_succ, List.set_append, hl, if_neg (by omega), Nat.sub_self, List.set_cons_zero, ← take_snoc 0 p i h, show p.length - (i + 1) = m from by omega]
  simp
theorem c_toIntS (p : List Int) (hp : p.length ≤ 1048576) : FunA B 6 [.sl false .int p] (fun rs o => rs = [.own 0 0] ∧ o = [.arr .int p 0 true]) := by
  refine FunA.walk B_ok (fn := Tryd.f6) (fun vs w => Tryd.call6 vs w) Tryd.func6 rfl (by rw [Tryd.ntmps6]; simp) (fun C hC hP hT hΓ hbt hfn hpin hfin => ?_); have hX := BX; rw [← hΓ, ← hbt.1, ← hbt.2] at hX; rw [Tryd.ntmps6]; simp only [AW7, simprocAttr, hX]
  refine Run.R ?_
  refine Run.R ?_
  refine Run.R ?_
  refine Run.loopI (X := Nat) (fun i => ⟨22, [(0, true, .v (.sl false .int p)), (4, true, .v (.int .i64 i)), (3, true, .v (.own 0 0))], [.arr .int (p.take i ++ List.replicate (p.length - i) 0) 0 true]⟩) (fun i => i ≤ p.length) (fun i => p.length - i) 0 (Nat.zero_le _) ?_ ?_
  · refine Le.sub (by simp) ?_
    simp only [AW7, simprocAttr, hX]; try simp
  rintro i hi ih
  refine Run.R ?_
  refine Run.nq ?_; refine Run.cW ?_ ?_
  · intro hc
    have hc : i < p.length := by simpa using hc
    refine Run.R ?_
    refine Run.RW ?_
    refine Run.le ?_ (ih (i + 1) hc (by omega))
    refine Le.sub ?_ ?_
    · rw [← set_fill p i hc]
    · simp only [AW7, simprocAttr]; try simp
  · intro hc
    have hc : i = p.length := by simp at hc; omega
    refine Run.exit rfl ?_; refine Run.nq ?_
    refine Run.R ?_
    subst hc
    refine Run.rW [2] (hfin _ _ rfl rfl ?_)
    simp
theorem c_eqIntS (p q : List Int) (hp : p.length ≤ 4503599627370496) : FunA B 8 [.sl false .int p, .sl false .int q] (fun rs o => rs = [.bool (p == q)] ∧ o = []) := by
  refine FunA.walk B_ok (fn := Tryd.f8) (fun vs w => Tryd.call8 vs w) Tryd.func8 rfl (by rw [Tryd.ntmps8]; simp) (fun C hC hP hT hΓ hbt hfn hpin hfin => ?_); have hX := BX; rw [← hΓ, ← hbt.1, ← hbt.2] at hX; rw [Tryd.ntmps8]; simp only [AW7, simprocAttr, hX]
  refine Run.R ?_
  refine Run.R ?_
  refine Run.nq ?_; refine Run.cW ?_ ?_
  · intro hc
    refine Run.R ?_
    refine Run.rW [4] (hfin _ _ rfl rfl ?_)
    have : p ≠ q := fun h => by simp [h] at hc
    simpa using this
  intro hc
  have hl : p.length = q.length := by simp at hc; omega
  refine Run.R ?_
  refine Run.loopI (X := Nat) (fun i => ⟨26, [(0, true, .v (.sl false .int p)), (1, true, .v (.sl false .int q)), (5, true, .v (.int .i64 i)), (4, true, .v (.bool false))], []⟩) (fun i => i ≤ p.length ∧ p.take i = q.take i) (fun i => p.length - i) 0 (by simp) ?_ ?_
  · exact Le.sub (by simp only [AW7, simprocAttr]) (by simp only [AW7, simprocAttr]; try simp)
  rintro i ⟨hi, ht⟩ ih
  refine Run.R ?_
  refine Run.nq ?_; refine Run.cW ?_ ?_
  · intro hc2
    have hc2 : i < p.length := by simpa using hc2
    refine Run.nq ?_; refine Run.regionD hC true [0,1,2,3,4,5,6,7,8] (by kernel_rfl) (fun K hK => ?_); simp only [AW7, simprocAttr, hX]; (repeat (with_reducible refine And.intro ?_ ?_); exact vc0); refine wE ?_; clear hK K
    refine Run.nq ?_; refine Run.cW ?_ ?_
    · intro hne
      refine Run.R ?_
      refine Run.rW [4] (hfin _ _ rfl rfl ?_)
      have : p ≠ q := fun h => by simp [h] at hne
      simpa using this
    · intro he
      have he : p.getD i 0 = q.getD i 0 := by simpa using he
      refine Run.RW ?_
      refine Run.le ?_ (ih (i + 1) ⟨hc2, ?_⟩ (by omega))
      · exact Le.sub (by simp only [AW7, simprocAttr]) (by simp only [AW7, simprocAttr, Option.some.injEq, Prod.mk.injEq, Sl.v.injEq, AV.int.injEq, AV.own.injEq, AV.bool.injEq]; try (repeat' apply And.intro); all_goals omega)
      · rw [← take_snoc 0 p i hc2, ← take_snoc 0 q i (by omega), ht, he]
  · intro hc2
    have hc2 : i = p.length := by simp at hc2; omega
    refine Run.exit rfl ?_; refine Run.nq ?_
    refine Run.R ?_
    refine Run.rW [4] (hfin _ _ rfl rfl ?_)
    have : p = q := by rw [hc2, List.take_length, hl, List.take_length] at ht; exact ht
    simp [this]
end Go.Proofs.YtbbnfljaojfmaaaDoor
namespace Go.Proofs.YtbbnfljaojfmaaaDoor
open Go Go.Aw
end Go.Proofs.YtbbnfljaojfmaaaDoor
namespace Go.Proofs.YtbbnfljaojfmaaaDoor
open Go Go.Aw
def fpSg (s : List UInt8) (x : Int) : List UInt8 := if x < 0 then [45] else if s = [] then [] else [43]
def fpNm (k : Nat) (x : Int) : List UInt8 := if k = 0 ∨ x.natAbs ≠ 1 then Lib.decDigits x.natAbs else []
def fpQ (k : Nat) : List UInt8 := if k = 0 then [] else if k = 1 then [113] else 113 :: 94 :: Lib.decDigits k
def fpT (s : List UInt8) (k : Nat) (x : Int) : List UInt8 := if x = 0 then s else s ++ fpSg s x ++ fpNm k x ++ fpQ k
def fpL : List Int → Nat → List UInt8
  | _, 0 => []
  | p, n + 1 => fpT (fpL p n) n (p.getD n 0)
def fmtP (p : List Int) : List UInt8 := if fpL p p.length = [] then [48] else fpL p p.length
theorem dg_pos (u : Nat) : Lib.decDigits u ≠ [] := by
  rw [Lib.decDigits]
  split <;> simp
theorem dg_one (u : Nat) : Lib.decDigits u = [49] ↔ u = 1 := by
  constructor
  · intro h
    rw [Lib.decDigits] at h
    split at h
    · rename_i hu
      have h := List.cons.inj h
      have := congrArg UInt8.toNat h.1
      simp at this
      omega
    · rename_i hu
      have := dg_pos (u / 10)
      have hl := congrArg List.length h
      simp at hl
      exact absurd hl this
  · rintro rfl
    rw [Lib.decDigits]
    rfl
theorem dg_ne (u : Nat) : ∀ b ∈ Lib.decDigits u, b ≠ 45 := by
  induction u using Nat.strongRecOn with
  | ind u ih =>
    intro b hb
    rw [Lib.decDigits] at hb
    split at hb
    · simp at hb
      rintro rfl
      have := congrArg UInt8.toNat hb
      simp at this
      omega
    · rw [List.mem_append] at hb
      rcases hb with hb | hb
      · exact ih (u / 10) (by omega) b hb
      · simp at hb
        rintro rfl
        have := congrArg UInt8.toNat hb
        simp at this
        omega
theorem dg_len {u : Nat} (h : u ≤ 9223372036854775808) : (Lib.decDigits u).length ≤ 20 := by
  have := Lib.itoa_length_le (-(u : Int)) (by omega) (by omega)
  unfold Lib.itoa at this
  split at this
  · simp at this; omega
  · have : u = 0 := by omega
    subst this
    rw [Lib.decDigits]
    decide
theorem itoa_pos {x : Int} (h : 0 ≤ x) : Lib.itoa x = Lib.decDigits x.natAbs := by
  unfold Lib.itoa
  rw [if_neg (by omega)]
  congr 1
  omega
theorem itoa_neg {x : Int} (h : x < 0) : Lib.itoa x = 45 :: Lib.decDigits x.natAbs := by
  unfold Lib.itoa
  rw [if_pos h]
def pwS (a : Int) (k : Nat) : List UInt8 := if k = 0 then Lib.itoa a else if a = 1 then fpQ k else Lib.itoa a ++ fpQ k
theorem pw_pos {a : Int} (h : 0 < a) (k : Nat) : pwS a k = fpNm k a ++ fpQ k := by
  unfold pwS fpNm
  rw [itoa_pos (by omega)]
  by_cases hk : k = 0
  · subst hk; simp [fpQ]
  · rw [if_neg hk]
    by_cases ha : a = 1
    · subst ha; simp [hk]
    · rw [if_neg ha, if_pos (by right; omega)]
theorem fp_pos {s : List UInt8} {x : Int} (h : 0 < x) (k : Nat) : fpT s k x = if s = [] then pwS x k else s ++ ([43] ++ pwS x k) := by
  unfold fpT fpSg
  rw [if_neg (by omega), if_neg (by omega), pw_pos h]
  by_cases hs : s = []
  · simp [hs]
  · simp [hs]
theorem fp_neg {s : List UInt8} {x : Int} (h : x < 0) (k : Nat) : fpT s k x = s ++ ([45] ++ pwS (-x) k) := by
  unfold fpT fpSg
  rw [if_neg (by omega), if_pos h, pw_pos (by omega)]
  have : fpNm k (-x) = fpNm k x := by unfold fpNm; rw [Int.natAbs_neg]
  rw [this]
  simp
theorem fp_min {s : List UInt8} {x : Int} (h : x = -9223372036854775808) (k : Nat) : fpT s k x = s ++ pwS x k := by
  rw [fp_neg (by omega), pw_pos (by omega)]
  unfold pwS
  rw [itoa_neg (by omega)]
  have e : fpNm k (-x) = Lib.decDigits x.natAbs := by unfold fpNm; rw [Int.natAbs_neg, if_pos (by right; omega)]
  rw [e]
  by_cases hk : k = 0
  · subst hk; simp [fpQ]
  · rw [if_neg hk, if_neg (by omega)]; simp
theorem fp_zero (s : List UInt8) (k : Nat) : fpT s k 0 = s := by simp [fpT]
theorem fpQ_len {k : Nat} (h : k ≤ 1048576) : (fpQ k).length ≤ 22 := by
  unfold fpQ
  have := dg_len (u := k) (by omega)
  split
  · simp
  · split
    · simp
    · simp; omega
theorem fpT_len (s : List UInt8) {k : Nat} (hk : k ≤ 1048576) {x : Int} (h0 : -9223372036854775808 ≤ x) (h1 : x ≤ 9223372036854775807) : (fpT s k x).length ≤ s.length + 50 := by
  unfold fpT
  split
  · omega
  · have h2 := fpQ_len hk
    have h3 := dg_len (u := x.natAbs) (by omega)
    have h4 : (fpSg s x).length ≤ 1 := by unfold fpSg; split <;> (try split) <;> simp
    have h5 : (fpNm k x).length ≤ 20 := by unfold fpNm; split <;> first | omega | simp
    simp only [List.length_append]
    omega
theorem fpL_len {p : List Int} (hp : ∀ i, -9223372036854775808 ≤ p.getD i 0 ∧ p.getD i 0 ≤ 9223372036854775807) : ∀ n, n ≤ 1048576 → (fpL p n).length ≤ 50 * n
  | 0, _ => by simp [fpL]
  | n + 1, h => by
    have ih := fpL_len hp n (by omega)
    have := fpT_len (fpL p n) (k := n) (by omega) (hp n).1 (hp n).2
    simp only [fpL]
    omega
theorem dg_step {u : Nat} {out : List UInt8} {N : Nat} (h : Lib.decDigits u ++ out = Lib.decDigits N) (hu : 10 ≤ u) : Lib.decDigits (u / 10) ++ (UInt8.ofNat (48 + u % 10) :: out) = Lib.decDigits N := by
  rw [Lib.decDigits, dif_neg (by omega)] at h
  rw [← h]; simp
theorem dg_last {u : Nat} {out : List UInt8} {N : Nat} (h : Lib.decDigits u ++ out = Lib.decDigits N) (hu : u < 10) : UInt8.ofNat (48 + u % 10) :: out = Lib.decDigits N := by
  rw [Lib.decDigits, dif_pos hu] at h
  rw [← h, Nat.mod_eq_of_lt hu]; rfl
end Go.Proofs.YtbbnfljaojfmaaaDoor
namespace Go.Proofs.YtbbnfljaojfmaaaDoor
open Go Go.Aw
set_option maxRecDepth 100000
def itoaL_ren : Go.Shelf.Ren := ⟨fun | 171 => 35 | 243 => 44 | 246 => 48 | 283 => 50 | 284 => 51 | 285 => 52 | 286 => 53 | 129 => 55 | 317 => 54 | 318 => 56 | 319 => 57 | 320 => 58 | 337 => 59 | 338 => 60 | n => n, fun | 3 => 3 | 9 => 9 | 2 => 2 | 4 => 4 | 171 => 52 | 0 => 0 | 53 => 53 | 37 => 27 | 5 => 5 | 173 => 56 | 212 => 61 | 51 => 62 | 20 => 20 | 213 => 63 | 46 => 58 | 232 => 67 | 233 => 68 | n => n, fun | 17 => 0 | 18 => 1 | 19 => 2 | n => n⟩
theorem itoaL : LaysM.n171 Tryd.prog itoaL_ren where
  mixed := by kernel_rfl
  f129 := Tryd.func55.trans (congrArg some (by kernel_rfl))
  f171 := Tryd.func35.trans (congrArg some (by kernel_rfl))
  f243 := Tryd.func44.trans (congrArg some (by kernel_rfl))
  f246 := Tryd.func48.trans (congrArg some (by kernel_rfl))
  f283 := Tryd.func50.trans (congrArg some (by kernel_rfl))
  f284 := Tryd.func51.trans (congrArg some (by kernel_rfl))
  f285 := Tryd.func52.trans (congrArg some (by kernel_rfl))
  f286 := Tryd.func53.trans (congrArg some (by kernel_rfl))
  f317 := Tryd.func54.trans (congrArg some (by kernel_rfl))
  f318 := Tryd.func56.trans (congrArg some (by kernel_rfl))
  f319 := Tryd.func57.trans (congrArg some (by kernel_rfl))
  f320 := Tryd.func58.trans (congrArg some (by kernel_rfl))
  f337 := Tryd.func59.trans (congrArg some (by kernel_rfl))
  f338 := Tryd.func60.trans (congrArg some (by kernel_rfl))
  t0 := Tryd.underlying0
  a0 := Tryd.isAgg0
  z0 := Tryd.sizeOf0
  v0 := Tryd.zeroValue0
  t2 := Tryd.underlying2
  a2 := Tryd.isAgg2
  z2 := Tryd.sizeOf2
  v2 := Tryd.zeroValue2
  t3 := Tryd.underlying3
  a3 := Tryd.isAgg3
  z3 := Tryd.sizeOf3
  v3 := Tryd.zeroValue3
  t4 := Tryd.underlying4
  a4 := Tryd.isAgg4
  z4 := Tryd.sizeOf4
  v4 := Tryd.zeroValue4
  t5 := Tryd.underlying5
  a5 := Tryd.isAgg5
  z5 := Tryd.sizeOf5
  v5 := Tryd.zeroValue5
  t9 := Tryd.underlying9
  a9 := Tryd.isAgg9
  z9 := Tryd.sizeOf9
  v9 := Tryd.zeroValue9
  t20 := Tryd.underlying20
  a20 := Tryd.isAgg20
  z20 := Tryd.sizeOf20
  v20 := Tryd.zeroValue20
  t37 := Tryd.underlying27
  a37 := Tryd.isAgg27
  z37 := Tryd.sizeOf27
  v37 := Tryd.zeroValue27
  t46 := Tryd.underlying58
  a46 := Tryd.isAgg58
  z46 := Tryd.sizeOf58
  v46 := Tryd.zeroValue58
  t51 := Tryd.underlying62
  a51 := Tryd.isAgg62
  z51 := Tryd.sizeOf62
  v51 := Tryd.zeroValue62
  t53 := Tryd.underlying53
  a53 := Tryd.isAgg53
  z53 := Tryd.sizeOf53
  v53 := Tryd.zeroValue53
  t171 := Tryd.underlying52
  a171 := Tryd.isAgg52
  z171 := Tryd.sizeOf52
  v171 := Tryd.zeroValue52
  t173 := Tryd.underlying56
  a173 := Tryd.isAgg56
  z173 := Tryd.sizeOf56
  v173 := Tryd.zeroValue56
  t212 := Tryd.underlying61
  a212 := Tryd.isAgg61
  z212 := Tryd.sizeOf61
  v212 := Tryd.zeroValue61
  t213 := Tryd.underlying63
  a213 := Tryd.isAgg63
  z213 := Tryd.sizeOf63
  t232 := Tryd.underlying67
  a232 := Tryd.isAgg67
  z232 := Tryd.sizeOf67
  v232 := Tryd.zeroValue67
  t233 := Tryd.underlying68
  a233 := Tryd.isAgg68
  z233 := Tryd.sizeOf68
  v233 := Tryd.zeroValue68
  g17 := by kernel_rfl
  g18 := by kernel_rfl
  g19 := by kernel_rfl
  i0 := by kernel_rfl
  i2 := by kernel_rfl
  i3 := by kernel_rfl
  i4 := by kernel_rfl
  i5 := by kernel_rfl
  i9 := by kernel_rfl
  i20 := by kernel_rfl
  i37 := by kernel_rfl
  i46 := by kernel_rfl
  i51 := by kernel_rfl
  i53 := by kernel_rfl
  i171 := by kernel_rfl
  i173 := by kernel_rfl
  i212 := by kernel_rfl
  i232 := by kernel_rfl
  i233 := by kernel_rfl
  m17 := by kernel_rfl
  m18 := by kernel_rfl
  m19 := by kernel_rfl
theorem c_Itoa (n : Int) (h0 : -9223372036854775808 ≤ n) (h1 : n ≤ 9223372036854775807) (hg : (B.P.globalNamed tabN).isSome = true) : FunA B 35 [.int .i64 n] (fun rs o => rs = [.str (Lib.itoa n)] ∧ o = []) := by
  refine ⟨fun vs w => Tryd.call35 vs w, fun w L vs hG hl ha => ?_⟩
  match vs, hl with
  | [u], _ =>
  have hu : u = .int .i64 n := ha 0 _ _ rfl rfl
  subst hu
  obtain ⟨g, hg⟩ := Option.isSome_iff_exists.1 hg
  have r0 := wrel_start B w L (fun _ => undef) hG
  refine (Any.strconv_Itoa itoaL n h0 h1 w (hG g hg).2).mono ?_
  rintro e w' ⟨he, k, os, rfl⟩
  have hext : Ext (fun _ => False) w (Go.Sort.grow (w.drewN k) os) :=
    ⟨rfl, rfl, rfl, by show _ ≤ (w.heap ++ os).size; simp, Nat.le_add_right _ _, fun b hb _ => by show (w.heap ++ os)[b]? = _; rw [Array.getElem?_append, if_pos hb]⟩
  refine ⟨[.string ⟨(Lib.itoa n).toArray⟩], he, [.str (Lib.itoa n)], [], _, ⟨rfl, rfl⟩, rfl, fun i y u hy hu => ?_, ((Turn.none r0 hext).step r0).wr, rfl, rfl⟩
  match i, hy, hu with
  | 0, hy, hu =>
    simp at hy hu
    subst hy hu
    rfl
end Go.Proofs.YtbbnfljaojfmaaaDoor
namespace Go.Proofs.YtbbnfljaojfmaaaDoor
open Go Go.Aw
theorem joinK {C : Ctx} {k k' : List Item} {σ σ' : St} (rest : Run C k' σ') (h : Run C k' σ' → Run C k σ) : Run C k σ := h rest
theorem dg48 (d : Nat) (h : d < 10) : bytesOf [IntKind.u8.wrap (48 + (d : Int))] = [UInt8.ofNat (48 + d)] := by
  have e : IntKind.u8.wrap (48 + (d : Int)) = 48 + (d : Int) := by
    simp [IntKind.wrap, IntKind.bits, IntKind.signed]; omega
  rw [e]
  unfold bytesOf
  simp only [List.map_cons, List.map_nil]
  congr 2
theorem tmod_abs (m : Int) : (m.tmod 10).natAbs = m.natAbs % 10 := by
  rw [Int.natAbs_tmod]; rfl
theorem tdiv_abs (m : Int) : (m.tdiv 10).natAbs = m.natAbs / 10 := by
  rw [Int.natAbs_tdiv]; rfl
set_option maxHeartbeats 1000000 in
theorem c_FormatInt (n : Int) (h0 : -9223372036854775808 ≤ n) (h1 : n ≤ 9223372036854775807) : FunA B 43 [.int .i64 n] (fun rs o => rs = [.str (Lib.itoa n)] ∧ o = []) := by
  have hNl := dg_len (u := n.natAbs) (by omega)
  refine FunA.walk B_ok (fn := Tryd.f43) (fun vs w => Tryd.call43 vs w) Tryd.func43 rfl (by rw [Tryd.ntmps43]; simp) (fun C hC hP hT hΓ hbt hfn hpin hfin => ?_); have hX := BX; rw [← hΓ, ← hbt.1, ← hbt.2] at hX; rw [Tryd.ntmps43]; simp only [AW7, simprocAttr, hX]
  refine Run.R ?_
  refine Run.R ?_
  refine Run.nq ?_; refine Run.cW ?_ ?_
  · intro h
    have h : n = 0 := by simpa using h
    refine Run.R ?_
    refine Run.rW [2] (hfin _ _ rfl rfl ?_)
    exact ⟨by rw [h, itoa_pos (by omega), Int.natAbs_zero, Lib.decDigits]; rfl, rfl⟩
  intro h
  have h : n ≠ 0 := by simpa using h
  refine Run.R ?_
  refine Run.R ?_
  refine Run.loopI (X := Int × List UInt8) (fun x => ⟨31, [(0, true, .v (.int .i64 (x.1))), (3, true, .v (.str (x.2))), (4, true, .v (.bool ((decide (n < 0)))))], []⟩) (fun x => -9223372036854775808 ≤ x.1 ∧ x.1 ≤ 9223372036854775807 ∧ (if x.1 = 0 then x.2 = Lib.decDigits n.natAbs else Lib.decDigits x.1.natAbs ++ x.2 = Lib.decDigits n.natAbs)) (fun x => x.1.natAbs) ((n, [])) (⟨h0, h1, by rw [if_neg h]; simp⟩) ?_ ?_
  · exact Le.sub (by first | rfl | simp) (by simp only [AW7, simprocAttr, hX]; try simp <;> try (first | rfl | exact ⟨rfl, rfl⟩ | exact ⟨rfl, rfl, rfl⟩))
  rintro ⟨m, out⟩ ⟨m0, m1, m4⟩ ih
  try simp only []
  simp only [] at m0 m1 m4
  have m3 : out.length ≤ 20 := by
    split at m4
    · rw [m4]; exact hNl
    · rw [← m4] at hNl; simp at hNl; omega
  refine Run.R ?_
  refine Run.nq ?_; refine Run.cW ?_ ?_
  rotate_left
  · intro hm
    have hm : m = 0 := by simpa using hm
    rw [if_pos hm] at m4
    have hml : [(45 : UInt8)].length + out.length ≤ maxLen := by simp [maxLen]; omega
    refine Run.exit rfl ?_; refine Run.nq ?_
    refine Run.R ?_
    refine Run.nq ?_; refine Run.cW ?_ ?_
    · intro hn
      have hn : n < 0 := by simpa using hn
      refine Run.R ?_
      refine Run.rW [2] (hfin _ _ rfl rfl ?_)
      exact ⟨by rw [itoa_neg hn, m4]; rfl, rfl⟩
    intro hn
    have hn : ¬ n < 0 := by simpa using hn
    refine Run.R ?_
    refine Run.rW [2] (hfin _ _ rfl rfl ?_)
    exact ⟨by rw [itoa_pos (by omega), m4], rfl⟩
  intro hm
  have hm : m ≠ 0 := by simpa using hm
  rw [if_neg hm] at m4
  have ta := tmod_abs m
  have td := tdiv_abs m
  have hd := Nat.mod_lt m.natAbs (by decide : 0 < 10)
  have hnx : -9223372036854775808 ≤ m.tdiv 10 ∧ m.tdiv 10 ≤ 9223372036854775807 := by omega
  have hml : (bytesOf [IntKind.u8.wrap (48 + ((m.natAbs % 10 : Nat) : Int))]).length + out.length ≤ maxLen := by simp [bytesOf, maxLen]; omega
  have hst : if m.tdiv 10 = 0 then bytesOf [IntKind.u8.wrap (48 + ((m.natAbs % 10 : Nat) : Int))] ++ out = Lib.decDigits n.natAbs else Lib.decDigits (m.tdiv 10).natAbs ++ (bytesOf [IntKind.u8.wrap (48 + ((m.natAbs % 10 : Nat) : Int))] ++ out) = Lib.decDigits n.natAbs := by
    rw [dg48 _ hd, td]
    split
    · exact dg_last m4 (by omega)
    · exact dg_step m4 (by omega)
  refine Run.RW ?_
  refine Run.R ?_
  refine Run.nq ?_; refine Run.cW ?_ ?_
  · intro hn
    have hn : m.tmod 10 < 0 := by simpa using hn
    have e1 : 0 - m.tmod 10 = ((m.natAbs % 10 : Nat) : Int) := by omega
    refine Run.RW ?_
    rw [e1]
    refine Run.RW ?_
    refine Run.reK hpin [0, 3, 4] [] (by decide) (by simp) ?_; simp only [AR, AW7, simprocAttr]
    refine Run.RW ?_
    refine Run.le ?_ (ih ((m.tdiv 10, bytesOf [IntKind.u8.wrap (48 + ((m.natAbs % 10 : Nat) : Int))] ++ out)) (⟨hnx.1, hnx.2, hst⟩) (by (try simp only [List.length_append, List.length_cons, List.length_nil]); omega))
    exact Le.sub (by rfl) (by simp only [AW7, simprocAttr]; try simp)
  intro hn
  have hn : ¬ m.tmod 10 < 0 := by simpa using hn
  have e1 : m.tmod 10 = ((m.natAbs % 10 : Nat) : Int) := by omega
  rw [e1]
  refine Run.RW ?_
  refine Run.reK hpin [0, 3, 4] [] (by decide) (by simp) ?_; simp only [AR, AW7, simprocAttr]
  refine Run.RW ?_
  refine Run.le ?_ (ih ((m.tdiv 10, bytesOf [IntKind.u8.wrap (48 + ((m.natAbs % 10 : Nat) : Int))] ++ out)) (⟨hnx.1, hnx.2, hst⟩) (by (try simp only [List.length_append, List.length_cons, List.length_nil]); omega))
  exact Le.sub (by rfl) (by simp only [AW7, simprocAttr]; try simp)
end Go.Proofs.YtbbnfljaojfmaaaDoor
namespace Go.Proofs.YtbbnfljaojfmaaaDoor
open Go Go.Aw
theorem c_l19Power (a : Int) (k : Nat) (h0 : -9223372036854775808 ≤ a) (h1 : a ≤ 9223372036854775807) (hk : k ≤ 1048576) : FunA B 34 [.int .i64 a, .int .i64 k] (fun rs o => rs = [.str (pwS a k)] ∧ o = []) := by
  have hq := fpQ_len hk
  have ha := Lib.itoa_length_le a h0 h1
  have hkd := Lib.itoa_length_le (k : Int) (by omega) (by omega)
  refine FunA.walk B_ok (fn := Tryd.f34) (fun vs w => Tryd.call34 vs w) Tryd.func34 rfl (by rw [Tryd.ntmps34]; simp) (fun C hC hP hT hΓ hbt hfn hpin hfin => ?_); have hX := BX; rw [← hΓ, ← hbt.1, ← hbt.2] at hX; rw [Tryd.ntmps34]; simp only [AW7, simprocAttr, hX]
  refine Run.R ?_
  refine Run.R ?_
  refine Run.nq ?_; refine Run.cW ?_ ?_
  · intro h
    have h : k = 0 := by
      have h : (k : Int) = 0 := by simpa using h
      omega
    refine Run.nq ?_; refine Run.regionW hC (fun K hK => ?_); refine wW ?_
    refine FunA.cW hP hT (c_FormatInt a h0 h1) ?_
    rintro rs o ⟨rfl, rfl⟩
    refine wW ?_
    refine wE ?_; clear hK K
    refine Run.rW [4] (hfin _ _ rfl rfl ?_)
    exact ⟨by simp [pwS, h], rfl⟩
  intro h
  have h : k ≠ 0 := by
    have h : (k : Int) ≠ 0 := by simpa using h
    omega
  refine Run.R ?_
  refine Run.R ?_
  apply joinK (σ' := ⟨22, [(0, true, .v (.int .i64 a)), (5, true, .v (.str (fpQ k)))], []⟩)
  case h =>
    intro rest
    refine Run.nq ?_; refine Run.cW ?_ ?_
    · intro h2
      have h2 : 1 < k := by rw [decide_eq_true_eq] at h2; omega
      have hml : [(113 : UInt8), 94].length + (Lib.itoa k).length ≤ maxLen := by simp [maxLen]; omega
      have e : [(113 : UInt8), 94] ++ Lib.itoa (k : Int) = fpQ k := by
        unfold fpQ
        rw [if_neg h, if_neg (by omega), itoa_pos (by omega)]; rfl
      refine Run.nq ?_; refine Run.regionW hC (fun K hK => ?_); refine wW ?_
      refine FunA.cW hP hT (c_FormatInt k (by omega) (by omega)) ?_
      rintro rs o ⟨rfl, rfl⟩
      refine wW ?_
      refine wE ?_; clear hK K
      rw [e]
      refine Run.reK hpin [0, 5] [] (by decide) (by simp) ?_; simp only [AR, AW7, simprocAttr]
      refine Run.nq ?_
      exact rest
    intro h2
    have h2 : k = 1 := by rw [decide_eq_false_iff_not] at h2; omega
    have e : [(113 : UInt8)] = fpQ k := by rw [h2]; rfl
    rw [e]
    refine Run.reK hpin [0, 5] [] (by decide) (by simp) ?_; simp only [AR, AW7, simprocAttr]
    refine Run.nq ?_
    exact rest
  refine Run.R ?_
  refine Run.nq ?_; refine Run.cW ?_ ?_
  · intro h2
    have h2 : a = 1 := by simpa using h2
    refine Run.R ?_
    refine Run.rW [4] (hfin _ _ rfl rfl ?_)
    exact ⟨by simp [pwS, h, h2], rfl⟩
  intro h2
  have h2 : a ≠ 1 := by simpa using h2
  have hml : (Lib.itoa a).length + (fpQ k).length ≤ maxLen := by simp [maxLen]; omega
  refine Run.nq ?_; refine Run.regionW hC (fun K hK => ?_); refine wW ?_
  refine FunA.cW hP hT (c_FormatInt a h0 h1) ?_
  rintro rs o ⟨rfl, rfl⟩
  refine wW ?_
  refine wE ?_; clear hK K
  refine Run.rW [4] (hfin _ _ rfl rfl ?_)
  exact ⟨by simp [pwS, h, h2], rfl⟩
theorem wf_bnd {p : List Int} (h : ∀ n ∈ p, (Lit.int .i64 n).wf = true) (i : Nat) : -9223372036854775808 ≤ p.getD i 0 ∧ p.getD i 0 ≤ 9223372036854775807 := by
  by_cases hi : i < p.length
  · have hw := h (p.getD i 0) (by rw [getD_eq hi]; exact List.getElem_mem hi)
    generalize p.getD i 0 = z at hw
    have e1 : IntKind.i64.min = -9223372036854775808 := by decide
    have e2 : IntKind.i64.max = 9223372036854775807 := by decide
    simp only [Lit.wf, Bool.and_eq_true, decide_eq_true_eq, e1, e2] at hw
    exact hw
  · rw [List.getD_eq_getElem?_getD, List.getElem?_eq_none (by omega)]
    decide
theorem pwS_len {a : Int} (h0 : -9223372036854775808 ≤ a) (h1 : a ≤ 9223372036854775807) {k : Nat} (hk : k ≤ 1048576) : (pwS a k).length ≤ 43 := by
  have hq := fpQ_len hk
  have ha := Lib.itoa_length_le a h0 h1
  unfold pwS
  split
  · omega
  · split <;> simp <;> omega
set_option maxHeartbeats 2000000 in
theorem c_spec_FormatPoly (p : List Int) (hp : ∀ n ∈ p, (Lit.int .i64 n).wf = true) (hl : p.length ≤ 1048576) : FunA B 5 [.sl false .int p] (fun rs o => rs = [.str (fmtP p)] ∧ o = []) := by
  have hb := wf_bnd hp
  refine FunA.walk B_ok (fn := Tryd.f5) (fun vs w => Tryd.call5 vs w) Tryd.func5 rfl (by rw [Tryd.ntmps5]; simp) (fun C hC hP hT hΓ hbt hfn hpin hfin => ?_); have hX := BX; rw [← hΓ, ← hbt.1, ← hbt.2] at hX; rw [Tryd.ntmps5]; simp only [AW7, simprocAttr, hX]
  refine Run.R ?_
  refine Run.R ?_
  refine Run.R ?_
  refine Run.loopI (X := Nat) (fun i => ⟨83, [(0, true, .v (.sl false .int (p))), (3, true, .v (.str ((fpL p i)))), (4, true, .v (.int .i64 (i)))], []⟩) (fun i => i ≤ p.length) (fun i => p.length - i) (0) (Nat.zero_le _) ?_ ?_
  · exact Le.sub (by first | rfl | simp) (by simp only [AW7, simprocAttr, hX]; try simp <;> try (first | rfl | exact ⟨rfl, rfl⟩ | exact ⟨rfl, rfl, rfl⟩))
  rintro i hi ih
  try simp only []
  refine Run.R ?_
  refine Run.nq ?_; refine Run.cW ?_ ?_
  rotate_left
  · intro h
    have h : i = p.length := by rw [decide_eq_false_iff_not] at h; omega
    refine Run.exit rfl ?_; refine Run.nq ?_
    refine Run.R ?_
    refine Run.nq ?_; refine Run.cW ?_ ?_
    · intro h2
      have h2 : fpL p i = [] := by simpa using h2
      refine Run.R ?_
      refine Run.rW [2] (hfin _ _ rfl rfl ?_)
      exact ⟨by unfold fmtP; rw [← h, if_pos h2], rfl⟩
    intro h2
    have h2 : fpL p i ≠ [] := by simpa using h2
    refine Run.R ?_
    refine Run.rW [2] (hfin _ _ rfl rfl ?_)
    exact ⟨by unfold fmtP; rw [← h, if_neg h2], rfl⟩
  intro h
  have h : i < p.length := by rw [decide_eq_true_eq] at h; omega
  have hs := fpL_len hb i (by omega)
  have hx := hb i
  have hn : fpL p (i + 1) = fpT (fpL p i) i (p.getD i 0) := rfl
  generalize fpL p i = s at *
  generalize hxe : p.getD i 0 = x at *
  have hsl : s.length ≤ 52428800 := by omega
  refine Run.R ?_
  rw [hxe]
  refine Run.nq ?_; refine Run.cW ?_ ?_
  · intro h2
    have h2 : 0 < x ∧ s = [] := by
      revert h2
      by_cases k1 : 0 < x <;> by_cases k2 : s = [] <;> simp [k1, k2]
    rw [fp_pos h2.1, if_pos h2.2] at hn
    refine Run.nq ?_; refine Run.regionW hC (fun K hK => ?_); refine wW ?_
    rw [hxe]
    refine FunA.cW hP hT (c_l19Power x i hx.1 hx.2 (by omega)) ?_
    rintro rs o ⟨rfl, rfl⟩
    refine wW ?_
    refine wE ?_; clear hK K
    rw [← hn]
    refine Run.reK hpin [0, 3, 4] [] (by decide) (by simp) ?_; simp only [AR, AW7, simprocAttr]
    refine Run.RW ?_
    refine Run.le ?_ (ih (i + 1) (h) (by (try simp only [List.length_append, List.length_cons, List.length_nil]); omega))
    exact Le.sub (by rfl) (by simp only [AW7, simprocAttr]; try simp)
  intro h2
  have h2 : 0 < x → s ≠ [] := by
    intro k1 k2
    rw [k2, decide_eq_true k1] at h2
    exact absurd h2 (by simp)
  refine Run.R ?_
  rw [hxe]
  refine Run.nq ?_; refine Run.cW ?_ ?_
  · intro h3
    have h3 : 0 < x := by simpa using h3
    rw [fp_pos h3, if_neg (h2 h3)] at hn
    have hpl := pwS_len hx.1 hx.2 (k := i) (by omega)
    have hm1 : s.length + [(43 : UInt8)].length ≤ maxLen := by simp [maxLen]; omega
    have hm2 : (s ++ [(43 : UInt8)]).length + (pwS x i).length ≤ maxLen := by simp [maxLen]; omega
    refine Run.nq ?_; refine Run.regionW hC (fun K hK => ?_); refine wW ?_
    rw [hxe]
    refine FunA.cW hP hT (c_l19Power x i hx.1 hx.2 (by omega)) ?_
    rintro rs o ⟨rfl, rfl⟩
    refine wW ?_
    refine wE ?_; clear hK K
    rw [List.append_assoc, ← hn]
    refine Run.reK hpin [0, 3, 4] [] (by decide) (by simp) ?_; simp only [AR, AW7, simprocAttr]
    refine Run.RW ?_
    refine Run.le ?_ (ih (i + 1) (h) (by (try simp only [List.length_append, List.length_cons, List.length_nil]); omega))
    exact Le.sub (by rfl) (by simp only [AW7, simprocAttr]; try simp)
  intro h3
  have h3 : ¬ 0 < x := by simpa using h3
  by_cases hmin : x = -9223372036854775808
  · subst hmin
    rw [fp_min rfl] at hn
    have hpl := pwS_len hx.1 hx.2 (k := i) (by omega)
    have hm1 : s.length + (pwS (-9223372036854775808) i).length ≤ maxLen := by simp [maxLen]; omega
    refine Run.R ?_
    rw [hxe]
    refine Run.nq ?_; refine Run.cW ?_ ?_
    rotate_left
    · intro h4; exact absurd h4 (by decide)
    intro _
    refine Run.nq ?_; refine Run.regionW hC (fun K hK => ?_); refine wW ?_
    rw [hxe]
    refine FunA.cW hP hT (c_l19Power (-9223372036854775808) i hx.1 hx.2 (by omega)) ?_
    rintro rs o ⟨rfl, rfl⟩
    refine wW ?_
    refine wE ?_; clear hK K
    rw [← hn]
    refine Run.reK hpin [0, 3, 4] [] (by decide) (by simp) ?_; simp only [AR, AW7, simprocAttr]
    refine Run.RW ?_
    refine Run.le ?_ (ih (i + 1) (h) (by (try simp only [List.length_append, List.length_cons, List.length_nil]); omega))
    exact Le.sub (by rfl) (by simp only [AW7, simprocAttr]; try simp)
  have hwr : IntKind.i64.wrap (0 - x) = 0 - x := wrap_id (by omega)
  refine Run.R ?_
  rw [hxe, hwr]
  refine Run.nq ?_; refine Run.cW ?_ ?_
  · intro h4
    exfalso
    by_cases k1 : x < 0
    · rw [decide_eq_true k1, decide_eq_false (by omega : ¬ 0 - x < 0)] at h4
      exact absurd h4 (by simp)
    · rw [decide_eq_false k1] at h4
      exact absurd h4 (by simp)
  intro _
  refine Run.R ?_
  rw [hxe]
  refine Run.nq ?_; refine Run.cW ?_ ?_
  · intro h5
    have h5 : x < 0 := by simpa using h5
    rw [fp_neg h5] at hn
    have hpl := pwS_len (a := -x) (by omega) (by omega) (k := i) (by omega)
    have hm1 : s.length + [(45 : UInt8)].length ≤ maxLen := by simp [maxLen]; omega
    have hm2 : (s ++ [(45 : UInt8)]).length + (pwS (-x) i).length ≤ maxLen := by simp [maxLen]; omega
    refine Run.nq ?_; refine Run.regionW hC (fun K hK => ?_); refine wW ?_
    rw [hxe, hwr, Int.zero_sub]
    refine FunA.cW hP hT (c_l19Power (-x) i (by omega) (by omega) (by omega)) ?_
    rintro rs o ⟨rfl, rfl⟩
    refine wW ?_
    refine wE ?_; clear hK K
    rw [List.append_assoc, ← hn]
    refine Run.reK hpin [0, 3, 4] [] (by decide) (by simp) ?_; simp only [AR, AW7, simprocAttr]
    refine Run.RW ?_
    refine Run.le ?_ (ih (i + 1) (h) (by (try simp only [List.length_append, List.length_cons, List.length_nil]); omega))
    exact Le.sub (by rfl) (by simp only [AW7, simprocAttr]; try simp)
  intro h5
  have h5 : ¬ x < 0 := by simpa using h5
  have h6 : x = 0 := by omega
  rw [h6, fp_zero] at hn
  rw [← hn]
  refine Run.reK hpin [0, 3, 4] [] (by decide) (by simp) ?_; simp only [AR, AW7, simprocAttr]
  refine Run.RW ?_
  refine Run.le ?_ (ih (i + 1) (h) (by (try simp only [List.length_append, List.length_cons, List.length_nil]); omega))
  exact Le.sub (by rfl) (by simp only [AW7, simprocAttr]; try simp)
end Go.Proofs.YtbbnfljaojfmaaaDoor
namespace Go.Proofs.YtbbnfljaojfmaaaDoor
open Go Go.Aw
theorem dg_head (u : Nat) : (Lib.decDigits u).getD 0 0 ≠ 45 ∧ 0 < (Lib.decDigits u).length := by
  have h1 := dg_pos u
  have h2 := dg_ne u
  cases h : Lib.decDigits u with
  | nil => exact absurd h h1
  | cons b l => exact ⟨by simp only [List.getD_cons_zero]; exact h2 b (by rw [h]; exact List.mem_cons_self ..), by simp⟩
theorem tabHas : (B.P.globalNamed tabN).isSome = true := by
  show (Tryd.prog.globalNamed tabN).isSome = true
  kernel_rfl
set_option maxHeartbeats 2000000 in
theorem c_impl_FormatPoly (p : List Int) (hp : ∀ n ∈ p, (Lit.int .i64 n).wf = true) (hl : p.length ≤ 1048576) : FunA B 7 [.sl false .int p] (fun rs o => rs = [.str (fmtP p)] ∧ o = []) := by
  have hb := wf_bnd hp
  refine FunA.walk B_ok (fn := Tryd.f7) (fun vs w => Tryd.call7 vs w) Tryd.func7 rfl (by rw [Tryd.ntmps7]; simp) (fun C hC hP hT hΓ hbt hfn hpin hfin => ?_); have hX := BX; rw [← hΓ, ← hbt.1, ← hbt.2] at hX; rw [Tryd.ntmps7]; simp only [AW7, simprocAttr, hX]
  refine Run.R ?_
  refine Run.R ?_
  refine Run.R ?_
  refine Run.loopI (X := Nat) (fun i => ⟨57, [(3, true, .v (.str ((fpL p i)))), (7, true, .v (.sl false .int (p))), (8, true, .v (.int .i64 (p.length))), (9, true, .v (.int .i64 (i)))], []⟩) (fun i => i ≤ p.length) (fun i => p.length - i) (0) (Nat.zero_le _) ?_ ?_
  · exact Le.sub (by first | rfl | simp) (by simp only [AW7, simprocAttr, hX]; try simp <;> try (first | rfl | exact ⟨rfl, rfl⟩ | exact ⟨rfl, rfl, rfl⟩))
  rintro i hi ih
  try simp only []
  refine Run.R ?_
  refine Run.nq ?_; refine Run.cW ?_ ?_
  rotate_left
  · intro h
    have h : i = p.length := by rw [decide_eq_false_iff_not] at h; omega
    refine Run.exit rfl ?_; refine Run.nq ?_
    refine Run.R ?_
    refine Run.nq ?_; refine Run.cW ?_ ?_
    · intro h2
      have h2 : fpL p i = [] := by simpa using h2
      refine Run.R ?_
      refine Run.rW [2] (hfin _ _ rfl rfl ?_)
      exact ⟨by unfold fmtP; rw [← h, if_pos h2], rfl⟩
    intro h2
    have h2 : fpL p i ≠ [] := by simpa using h2
    refine Run.R ?_
    refine Run.rW [2] (hfin _ _ rfl rfl ?_)
    exact ⟨by unfold fmtP; rw [← h, if_neg h2], rfl⟩
  intro h
  have h : i < p.length := by rw [decide_eq_true_eq] at h; omega
  have hs := fpL_len hb i (by omega)
  have hx := hb i
  have hn : fpL p (i + 1) = fpT (fpL p i) i (p.getD i 0) := rfl
  generalize fpL p i = s at *
  generalize hxe : p.getD i 0 = x at *
  have hsl : s.length ≤ 52428800 := by omega
  refine Run.R ?_
  rw [hxe]
  refine Run.R ?_
  refine Run.nq ?_; refine Run.cW ?_ ?_
  · intro h2
    have h2 : x = 0 := by simpa using h2
    rw [h2, fp_zero] at hn
    refine Run.exit rfl ?_; refine Run.nq ?_
    rw [← hn]
    refine Run.reK hpin [3, 7, 8, 9] [] (by decide) (by simp) ?_; simp only [AR, AW7, simprocAttr]
    refine Run.RW ?_
    refine Run.le ?_ (ih (i + 1) (h) (by (try simp only [List.length_append, List.length_cons, List.length_nil]); omega))
    exact Le.sub (by rfl) (by simp only [AW7, simprocAttr]; try simp)
  intro h2
  have h2 : x ≠ 0 := by simpa using h2
  have hdl := dg_len (u := x.natAbs) (by omega)
  have hdi := dg_len (u := i) (by omega)
  obtain ⟨hd1, hd2⟩ := dg_head x.natAbs
  have hgl : (fpSg s x).length ≤ 1 := by unfold fpSg; split <;> (try split) <;> simp
  have hnl : (fpNm i x).length ≤ 20 := by unfold fpNm; split <;> first | omega | simp
  have hn : fpL p (i + 1) = s ++ fpSg s x ++ fpNm i x ++ fpQ i := by rw [hn, fpT, if_neg h2]
  refine Run.nq ?_; refine Run.regionW hC (fun K hK => ?_); refine wW ?_
  refine FunA.cW hP hT (c_Itoa x hx.1 hx.2 tabHas) ?_
  rintro rs o ⟨rfl, rfl⟩
  refine wW ?_
  refine wE ?_; clear hK K
  apply joinK (σ' := ⟨57, [(3, true, .v (.str (s ++ fpSg s x))), (4, true, .v (.int .i64 i)), (6, true, .v (.str (Lib.decDigits x.natAbs))), (7, true, .v (.sl false .int p)), (8, true, .v (.int .i64 p.length)), (9, true, .v (.int .i64 i))], []⟩)
  case h =>
    intro rest
    by_cases hneg : x < 0
    · have hm1 : s.length + [(45 : UInt8)].length ≤ maxLen := by simp [maxLen]; omega
      have e1 : fpSg s x = [45] := by simp [fpSg, hneg]
      rw [itoa_neg hneg]
      rw [e1] at rest
      refine Run.R ?_
      refine Run.nq ?_; refine Run.cW ?_ ?_
      rotate_left
      · intro h4; exact absurd h4 (by simp)
      intro _
      refine Run.R ?_
      refine Run.R ?_
      rw [show List.take ((45 :: Lib.decDigits x.natAbs).length - 1) (List.drop 1 (45 :: Lib.decDigits x.natAbs)) = Lib.decDigits x.natAbs by simp]
      refine Run.reK hpin [3, 4, 6, 7, 8, 9] [] (by decide) (by simp) ?_; simp only [AR, AW7, simprocAttr]
      refine Run.nq ?_
      exact rest
    rw [itoa_pos (by omega)]
    refine Run.R ?_
    refine Run.nq ?_; refine Run.cW ?_ ?_
    · intro h4
      exfalso
      apply hd1
      have h4 : (((Lib.decDigits x.natAbs).getD 0 0).toNat : Int) = 45 := by simpa using h4
      apply UInt8.toNat.inj
      have : (45 : UInt8).toNat = 45 := rfl
      omega
    intro _
    refine Run.R ?_
    refine Run.nq ?_; refine Run.cW ?_ ?_
    · intro h4
      have h4 : s ≠ [] := by simpa using h4
      have e1 : fpSg s x = [43] := by simp [fpSg, hneg, h4]
      have hm1 : s.length + [(43 : UInt8)].length ≤ maxLen := by simp [maxLen]; omega
      rw [e1] at rest
      refine Run.R ?_
      refine Run.reK hpin [3, 4, 6, 7, 8, 9] [] (by decide) (by simp) ?_; simp only [AR, AW7, simprocAttr]
      refine Run.nq ?_
      exact rest
    intro h4
    have h4 : s = [] := by simpa using h4
    have e1 : s ++ fpSg s x = s := by simp [fpSg, hneg, h4]
    rw [e1] at rest
    refine Run.reK hpin [3, 4, 6, 7, 8, 9] [] (by decide) (by simp) ?_; simp only [AR, AW7, simprocAttr]
    refine Run.nq ?_
    exact rest
  have hm2 : (s ++ fpSg s x).length + (Lib.decDigits x.natAbs).length ≤ maxLen := by simp [maxLen]; omega
  apply joinK (σ' := ⟨57, [(3, true, .v (.str (s ++ fpSg s x ++ fpNm i x))), (4, true, .v (.int .i64 i)), (7, true, .v (.sl false .int p)), (8, true, .v (.int .i64 p.length)), (9, true, .v (.int .i64 i))], []⟩)
  case h =>
    intro rest
    refine Run.R ?_
    refine Run.nq ?_; refine Run.cW ?_ ?_
    · intro h4
      have h4 : i = 0 ∨ x.natAbs ≠ 1 := by
        by_cases k1 : i = 0
        · exact .inl k1
        · refine .inr fun k2 => ?_
          rw [(dg_one _).2 k2] at h4
          have k3 : ((i : Int) == 0) = false := by rw [beq_eq_false_iff_ne]; omega
          rw [k3] at h4
          exact absurd h4 (by simp)
      have e1 : fpNm i x = Lib.decDigits x.natAbs := by unfold fpNm; rw [if_pos h4]
      rw [e1] at rest
      refine Run.R ?_
      refine Run.reK hpin [3, 4, 7, 8, 9] [] (by decide) (by simp) ?_; simp only [AR, AW7, simprocAttr]
      refine Run.nq ?_
      exact rest
    intro h4
    have h4 : ¬ (i = 0 ∨ x.natAbs ≠ 1) := by
      rintro (k | k)
      · subst k; exact absurd h4 (by simp)
      · have k3 : (Lib.decDigits x.natAbs != [49]) = true := by
          rw [bne_iff_ne]; exact fun e => k ((dg_one _).1 e)
        rw [k3] at h4
        exact absurd h4 (by cases ((i : Int) == 0) <;> simp)
    have e1 : s ++ fpSg s x ++ fpNm i x = s ++ fpSg s x := by unfold fpNm; rw [if_neg h4, List.append_nil]
    rw [e1] at rest
    refine Run.reK hpin [3, 4, 7, 8, 9] [] (by decide) (by simp) ?_; simp only [AR, AW7, simprocAttr]
    refine Run.nq ?_
    exact rest
  have hm3 : (s ++ fpSg s x ++ fpNm i x).length + [(113 : UInt8)].length ≤ maxLen := by simp [maxLen]; omega
  have hm4 : [(113 : UInt8), 94].length + (Lib.itoa i).length ≤ maxLen := by rw [itoa_pos (by omega)]; simp [maxLen]; omega
  have hm5 : (s ++ fpSg s x ++ fpNm i x).length + ([(113 : UInt8), 94] ++ Lib.itoa i).length ≤ maxLen := by rw [itoa_pos (by omega)]; simp [maxLen]; omega
  refine Run.R ?_
  refine Run.nq ?_; refine Run.cW ?_ ?_
  · intro h4
    have h4 : i = 1 := by
      have h4 : (i : Int) = 1 := by simpa using h4
      omega
    have e1 : s ++ fpSg s x ++ fpNm i x ++ [(113 : UInt8)] = fpL p (i + 1) := by rw [hn]; subst h4; rfl
    refine Run.R ?_
    rw [e1]
    refine Run.reK hpin [3, 7, 8, 9] [] (by decide) (by simp) ?_; simp only [AR, AW7, simprocAttr]
    refine Run.RW ?_
    refine Run.le ?_ (ih (i + 1) (h) (by (try simp only [List.length_append, List.length_cons, List.length_nil]); omega))
    exact Le.sub (by rfl) (by simp only [AW7, simprocAttr]; try simp)
  intro h4
  have h4 : i ≠ 1 := by
    have h4 : (i : Int) ≠ 1 := by simpa using h4
    omega
  refine Run.R ?_
  refine Run.nq ?_; refine Run.cW ?_ ?_
  · intro h5
    have h5 : 1 < i := by rw [decide_eq_true_eq] at h5; omega
    have e1 : s ++ fpSg s x ++ fpNm i x ++ ([(113 : UInt8), 94] ++ Lib.itoa i) = fpL p (i + 1) := by
      rw [hn, fpQ, if_neg (by omega), if_neg h4, itoa_pos (by omega)]; rfl
    refine Run.nq ?_; refine Run.regionW hC (fun K hK => ?_); refine wW ?_
    refine FunA.cW hP hT (c_Itoa i (by omega) (by omega) tabHas) ?_
    rintro rs o ⟨rfl, rfl⟩
    refine wW ?_
    refine wE ?_; clear hK K
    rw [e1]
    refine Run.reK hpin [3, 7, 8, 9] [] (by decide) (by simp) ?_; simp only [AR, AW7, simprocAttr]
    refine Run.RW ?_
    refine Run.le ?_ (ih (i + 1) (h) (by (try simp only [List.length_append, List.length_cons, List.length_nil]); omega))
    exact Le.sub (by rfl) (by simp only [AW7, simprocAttr]; try simp)
  intro h5
  have h5 : i = 0 := by rw [decide_eq_false_iff_not] at h5; omega
  have e1 : s ++ fpSg s x ++ fpNm i x = fpL p (i + 1) := by rw [hn, fpQ, if_pos h5, List.append_nil]
  rw [e1]
  refine Run.reK hpin [3, 7, 8, 9] [] (by decide) (by simp) ?_; simp only [AR, AW7, simprocAttr]
  refine Run.RW ?_
  refine Run.le ?_ (ih (i + 1) (h) (by (try simp only [List.length_append, List.length_cons, List.length_nil]); omega))
  exact Le.sub (by rfl) (by simp only [AW7, simprocAttr]; try simp)
theorem c_FnExactFormatPoly (p : List Int) (hp : ∀ n ∈ p, (Lit.int .i64 n).wf = true) : FunA B 3 [.sl false .int p] (fun rs _ => rs = [.bool true]) := by
  refine FunA.walk B_ok (fn := Tryd.f3) (fun vs w => Tryd.call3 vs w) Tryd.func3 rfl (by rw [Tryd.ntmps3]; simp) (fun C hC hP hT hΓ hbt hfn hpin hfin => ?_); have hX := BX; rw [← hΓ, ← hbt.1, ← hbt.2] at hX; rw [Tryd.ntmps3]; simp only [AW7, simprocAttr, hX]
  refine Run.R ?_
  refine Run.R ?_
  refine Run.nq ?_; refine Run.cW ?_ ?_
  · intro _
    refine Run.R ?_
    refine Run.rW [2] (hfin _ _ rfl rfl ?_)
    rfl
  intro h
  have hl : p.length ≤ 1048576 := by simp at h; omega
  refine Run.nq ?_; refine Run.regionW hC (fun K hK => ?_); refine wW ?_
  refine FunA.cW hP hT (c_toIntS p hl) ?_
  rintro rs o ⟨rfl, rfl⟩
  refine wW ?_
  refine FunA.cW hP hT (c_spec_FormatPoly p hp hl) ?_
  rintro rs o ⟨rfl, rfl⟩
  refine wW ?_
  refine wE ?_; clear hK K
  refine Run.nq ?_; refine Run.regionW hC (fun K hK => ?_); refine wW ?_
  refine FunA.cW hP hT (c_toIntS p hl) ?_
  rintro rs o ⟨rfl, rfl⟩
  refine wW ?_
  refine wE ?_; clear hK K
  refine Run.nq ?_; refine Run.regionW hC (fun K hK => ?_); refine wW ?_
  refine FunA.cW hP hT (c_impl_FormatPoly p hp hl) ?_
  rintro rs o ⟨rfl, rfl⟩
  refine wW ?_
  refine wE ?_; clear hK K
  refine Run.R ?_
  refine Run.nq ?_; refine Run.cW ?_ ?_
  · intro h2; exact absurd h2 (by simp)
  intro _
  refine Run.nq ?_; refine Run.regionW hC (fun K hK => ?_); refine wW ?_
  refine FunA.cW hP hT (c_toIntS p hl) ?_
  rintro rs o ⟨rfl, rfl⟩
  refine wW ?_
  refine FunA.cW hP hT (c_eqIntS p p (by omega)) ?_
  rintro rs o ⟨rfl, rfl⟩
  refine wW ?_
  refine wE ?_; clear hK K
  refine Run.nq ?_; refine Run.cW ?_ ?_
  · intro h2; exact absurd h2 (by simp)
  intro _
  refine Run.R ?_
  refine Run.rW [2] (hfin _ _ rfl rfl ?_)
  rfl
end Go.Proofs.YtbbnfljaojfmaaaDoor
