/- Rows of one's own that are written in place: a pool of rows. -/
import Derived.Test.YtojcdgdbffmlpaaGreatAw5
import Derived.Test.YtojcdgdbffmlpaaGreatProg
import Derived.KernelRfl
import Derived.WalkKit
import Derived.Deep.QuietTactic
import Derived.BigQuiet
set_option linter.unusedVariables false
set_option linter.unusedSimpArgs false
namespace Go.Aw
open Go
theorem regO_gm (g g' : Nat) (D : List Nat) (F : Nat → List Int) (hs : List Nat) (nn : Bool) : regO g (.gm D F hs g' nn) = .gm D F hs (g + g') nn := rfl
theorem AW5 : type_of% @AW4 ∧ type_of% @Q_lenG ∧ type_of% @Q_idxG ∧ type_of% @Q_loadG ∧ type_of% @Q_storeG ∧ type_of% @Q_stH ∧ type_of% @Q_st_hdr ∧ type_of% @Q_len_hdr ∧ type_of% @Q_idx_hdr ∧ type_of% @Q_load_hp ∧ type_of% @Q_store_hp ∧ type_of% @Q_len_lenv ∧ type_of% @regO_gm ∧ type_of% @X_callT ∧ type_of% @leO_gm :=
  ⟨@AW4, @Q_lenG, @Q_idxG, @Q_loadG, @Q_storeG, @Q_stH, @Q_st_hdr, @Q_len_hdr, @Q_idx_hdr, @Q_load_hp, @Q_store_hp, @Q_len_lenv, @regO_gm, @X_callT, @leO_gm⟩
theorem regO_mp (g g' : Nat) (m : MT) (l : List (MK × MV)) : regO g (.mp m l g') = .mp m l (g + g') := rfl
theorem Q_mlkB (gg g' : Nat) (k : MK) (l : List (MK × MV)) (obs : List O) : mlkO ⟨false, false⟩ gg k obs (.mp ⟨false, false⟩ l g') = bif gg == g' then .ok True (.bool (mgetB l k)) obs else .bad := by
  cases h : gg == g' <;> simp [mlkO, h]
theorem Q_mlkI (gg g' : Nat) (k : MK) (l : List (MK × MV)) (obs : List O) : mlkO ⟨false, true⟩ gg k obs (.mp ⟨false, true⟩ l g') = bif gg == g' then .ok True (.int .i64 (mgetI l k)) obs else .bad := by
  cases h : gg == g' <;> simp [mlkO, h]
theorem Q_mupO (b : Bool) (id gg g' : Nat) (k : MK) (v : MV) (l : List (MK × MV)) (obs : List O) : mupO ⟨false, b⟩ id gg k v obs (.mp ⟨false, b⟩ l g') = bif gg == g' then .skip True (oSet obs id (.mp ⟨false, b⟩ (mput l k v) gg)) else .bad := by
  cases h : gg == g' <;> simp [mupO, h]
theorem Q_mmake (m : MT) (obs : List O) : mmakeV (some m) obs = .ok True (.own obs.length 0) (obs ++ [.mp m [] 0]) := rfl
theorem AW6 : type_of% @AW5 ∧ type_of% @regO_mp ∧ type_of% @Q_mlkB ∧ type_of% @Q_mlkI ∧ type_of% @Q_mupO ∧ type_of% @Q_mmake ∧ type_of% @X_lookup ∧ type_of% @X_mupd ∧ type_of% @X_insert ∧ type_of% @X_mmake ∧ type_of% @G_lookup ∧ type_of% @mlookV_own ∧ type_of% @mupdV_bool ∧ type_of% @mupdV_int ∧ type_of% @leO_mp :=
  ⟨@AW5, @regO_mp, @Q_mlkB, @Q_mlkI, @Q_mupO, @Q_mmake, @X_lookup, @X_mupd, @X_insert, @X_mmake, @G_lookup, @mlookV_own, @mupdV_bool, @mupdV_int, @leO_mp⟩
theorem mfindI_shift (k : MK) : ∀ (l : List (MK × MV)) (i j : Nat), (mfindI l k (i + j)) = (mfindI l k i).map fun q => (q.1 + j, q.2)
  | [], i, j => rfl
  | p :: l, i, j => by
    simp only [mfindI]
    by_cases h : k = p.1
    · rw [if_pos h, if_pos h]; rfl
    · rw [if_neg h, if_neg h, show i + j + 1 = (i + 1) + j by omega, mfindI_shift k l (i + 1) j]
theorem mfind_cons (p : MK × MV) (l : List (MK × MV)) (k : MK) : mfind (p :: l) k = if k = p.1 then some p.2 else mfind l k := by
  unfold mfind
  simp only [mfindI]
  by_cases h : k = p.1
  · rw [if_pos h, if_pos h]; rfl
  · rw [if_neg h, if_neg h, mfindI_shift k l 0 1, Option.map_map]; rfl
theorem mput_cons (p : MK × MV) (l : List (MK × MV)) (k : MK) (v : MV) : mput (p :: l) k v = if k = p.1 then (k, v) :: l else p :: mput l k v := by
  unfold mput
  simp only [mfindI]
  by_cases h : k = p.1
  · rw [if_pos h, if_pos h]; rfl
  · rw [if_neg h, if_neg h, mfindI_shift k l 0 1]
    cases mfindI l k 0 with
    | none => rfl
    | some q => rfl
theorem mfind_put (k k' : MK) (v : MV) : ∀ l : List (MK × MV), mfind (mput l k v) k' = if k' = k then some v else mfind l k'
  | [] => by
    show mfind [(k, v)] k' = _
    rw [mfind_cons]
  | p :: l => by
    rw [mput_cons]
    by_cases h : k = p.1
    · rw [if_pos h, mfind_cons, mfind_cons]
      by_cases h2 : k' = k
      · rw [if_pos h2, if_pos h2]
      · rw [if_neg h2, if_neg h2, if_neg (fun e => h2 (e.trans h.symm))]
    · rw [if_neg h, mfind_cons, mfind_put k k' v l, mfind_cons]
      by_cases h2 : k' = p.1
      · rw [if_pos h2, if_pos h2, if_neg (fun e => h (e.symm.trans h2))]
      · rw [if_neg h2, if_neg h2]
theorem mgetB_put (l : List (MK × MV)) (k k' : MK) (b : Bool) : mgetB (mput l k (.bool b)) k' = if k' = k then b else mgetB l k' := by
  unfold mgetB
  rw [mfind_put]
  by_cases h : k' = k
  · rw [if_pos h, if_pos h]
  · rw [if_neg h, if_neg h]
theorem mgetB_nil (k : MK) : mgetB [] k = false := rfl
end Go.Aw
namespace Go.Aw
open Go
section
variable {C : Ctx} {ds : Rg} {rest : List Oper} {n : Nat} {fr : List (Nat × Bool × Sl)} {obs : List O} {K : St → Prop} {ty : TypeId} {p : String} {af : Array Edge}
theorem X_slice3 (dd : Option Nat) (t : TypeId) (x : Operand) (lo hi : Option Operand) (m : Operand) : aexec C ds (⟨dd, .slice t x lo hi (some m), ty, p, af, none⟩ :: rest) ⟨n, fr, obs⟩ K =
    aS C ds rest n fr K (St.has ⟨n, fr, obs⟩ x ∧ hasO ⟨n, fr, obs⟩ lo ∧ hasO ⟨n, fr, obs⟩ hi ∧ St.has ⟨n, fr, obs⟩ m) (slice3V (C.Γ t) (St.ev ⟨n, fr, obs⟩ x) (lo.map (St.ev ⟨n, fr, obs⟩)) (hi.map (St.ev ⟨n, fr, obs⟩)) (St.ev ⟨n, fr, obs⟩ m) obs) dd :=
  plain_eq C ds rest n fr obs K ty p af rfl (by simp only [hasAll, hasO_eq]) rfl dd
end
def sl3O (g : Nat) (n m : Int) (obs : List O) : O → Res
  | .ap q ys true g' _ => bif g == g' then .ok (n = ys.length ∧ m = ys.length) (.hdr (some q) ys.length) obs else .bad
  | _ => .bad
theorem slice3V_own (e : E) (id g : Nat) (k k' : IntKind) (n m : Int) (obs : List O) : slice3V (some e) (.own id g) none (some (.int k n)) (.int k' m) obs = sl3O g n m obs (oAt obs id) := by
  rw [at_arr]; simp only [slice3V]
  cases h : obs[id]? with
  | none => rfl
  | some o => cases o with
    | ap q ys fr g' nn => cases fr <;> first | rfl | (by_cases hg : g = g' <;> simp [sl3O, hg, Bool.cond_eq_ite])
    | _ => rfl
theorem Q_sl3 (gg g' : Nat) (n m : Int) (obs : List O) (q : Nat) (ys : List (Nat × List Int)) (nn : Bool) : sl3O gg n m obs (.ap q ys true g' nn) = bif gg == g' then .ok (n = ys.length ∧ m = ys.length) (.hdr (some q) ys.length) obs else .bad := rfl
theorem Q_lenA (q : Nat) (ys : List (Nat × List Int)) (fr : Bool) (gg g' : Nat) (nn : Bool) (obs : List O) : lenO gg obs (.ap q ys fr g' nn) = bif gg == g' then .ok True (.int .i64 ys.length) obs else .bad := rfl
theorem Q_apOA (e : E) (id gg g' : Nat) (x : AV) (obs : List O) (q : Nat) (ys : List (Nat × List Int)) (fr nn : Bool) : apO e id gg x obs (.ap q ys fr g' nn) = bif gg == g' && decide (E.lrow.fam = e.fam) then apA id gg nn q e ys obs (srcQ .lrow x obs (some id)) else .bad := rfl
theorem Q_apA (e : E) (id gg : Nat) (obs : List O) (q : Nat) (ys zs : List (Nat × List Int)) (nn : Bool) : apA id gg nn q e ys obs (.yes zs) = .ok ((ys.length + zs.length) * e.bytes ≤ 140737488355328) (.own id (gg + 1)) (oSet obs id (.ap q (ys ++ zs) false (gg + 1) (nn || !zs.isEmpty))) := rfl
theorem Q_load_hpA (h k q : Nat) (ys : List (Nat × List Int)) (fr : Bool) (gg : Nat) (nn : Bool) (r : List O) : loadV true (.hp h k) (.ap q ys fr gg nn :: r) = .ok (h = q ∧ k < hdC q) (.lr (ys.getD k (0, [])).1 (ys.getD k (0, [])).2) (.ap q ys fr gg nn :: r) := rfl
theorem Q_store_hpM (h k : Nat) (n : Int) (hs : List (Option Nat)) (rows : List (List Int)) (gg : Nat) (nn : Bool) (r : List O) : storeV true (.hp h k) (.int .i64 n) (.mat hs rows gg nn :: r) = .skip (some h ∈ hs ∧ k < (rows.getD (hs.idxOf (some h)) []).length) (.mat hs (setM hs rows h k n) gg nn :: r) := rfl
theorem Q_store_hpC (h k : Nat) (n : Int) (s : Value) (g1 : Nat) (hs : List (Option Nat)) (rows : List (List Int)) (gg : Nat) (nn : Bool) (r : List O) : storeV true (.hp h k) (.int .i64 n) (.cur s g1 :: .mat hs rows gg nn :: r) = .skip (some h ∈ hs ∧ k < (rows.getD (hs.idxOf (some h)) []).length) (.cur s g1 :: .mat hs (setM hs rows h k n) gg nn :: r) := rfl
def zapO (id g : Nat) (m : Int) (obs : List O) : O → Res
  | .arr .int xs g' _ => bif g == g' then .ok (0 < m ∧ m ≤ 1000000 ∧ 0 < xs.length ∧ xs.length ≤ 1000000) (.own id (g + 1)) (oSet obs id (.arr .int (xs ++ List.replicate m.toNat 0) (g + 1) true)) else .bad
  | _ => .bad
theorem X_appz {C : Ctx} {ds : Rg} {rest : List Oper} {n : Nat} {fr : List (Nat × Bool × Sl)} {obs : List O} {K : St → Prop} {ty : TypeId} {p : String} {af : Array Edge} (dd : Option Nat) (x y : Operand) (t t2 : TypeId) (h : (t == t2) = false) : aexec C ds (⟨dd, .call ⟨.builtin .append, List.toArray [x, y], List.toArray [t, t2]⟩, ty, p, af, none⟩ :: rest) ⟨n, fr, obs⟩ K =
    aS C ds rest n fr K (hasL ⟨n, fr, obs⟩ [x, y]) (zapV (C.Γ t) (C.bt t2) (St.ev ⟨n, fr, obs⟩ x) (St.ev ⟨n, fr, obs⟩ y) obs) dd := plain_eq C ds rest n fr obs K ty p af rfl (by simp only [hasAll, hasL_eq]) (by have h' : t ≠ t2 := by { simpa using h }; simp [astep, h']) dd
theorem Q_zap (id g : Nat) (m : Int) (obs : List O) : zapV (some .int) (some (.int .i64)) (.own id g) (.int .i64 m) obs = zapO id g m obs (oAt obs id) := by
  rw [at_arr]; simp only [zapV]
  cases h : obs[id]? with
  | none => rfl
  | some o => cases o with
    | arr e xs g' nn => cases e <;> first | rfl | (by_cases hg : g = g' <;> simp [zapO, hg, oSet_eq, Bool.cond_eq_ite])
    | _ => rfl
theorem Q_zapO (id g g' : Nat) (m : Int) (xs : List Int) (nn : Bool) (obs : List O) : zapO id g m obs (.arr .int xs g' nn) = bif g == g' then .ok (0 < m ∧ m ≤ 1000000 ∧ 0 < xs.length ∧ xs.length ≤ 1000000) (.own id (g + 1)) (oSet obs id (.arr .int (xs ++ List.replicate m.toNat 0) (g + 1) true)) else .bad := rfl
theorem Q_src_cur {hs : List (Option Nat)} {rows : List (List Int)} {q n : Nat} (h1 : some q ∈ hs) (h2 : n = (rows.getD (hs.idxOf (some q)) []).length) (s : Value) (g1 g : Nat) (nn : Bool) (r : List O) (no : Option Nat) :
    srcQ .int (.hdr (some q) n) (.cur s g1 :: .mat hs rows g nn :: r) no = .yes (rows.getD (hs.idxOf (some q)) []) := by
  simp only [srcQ, srcL, hdrL, if_pos (And.intro h1 h2)]; rfl
theorem AW7 : type_of% @AW6 ∧ type_of% @X_slice3 ∧ type_of% @slice3V_own ∧ type_of% @Q_sl3 ∧ type_of% @Q_lenA ∧ type_of% @Q_apOA ∧ type_of% @Q_apA ∧ type_of% @Q_load_hpA ∧ type_of% @leO_ap ∧ type_of% @leO_apa ∧ type_of% @leO_cur ∧ type_of% @regO_cur ∧ type_of% @Q_store_hpM ∧ type_of% @Q_store_hpC ∧ type_of% @X_appz ∧ type_of% @Q_zap ∧ type_of% @Q_zapO := ⟨@AW6, @X_slice3, @slice3V_own, @Q_sl3, @Q_lenA, @Q_apOA, @Q_apA, @Q_load_hpA, @leO_ap, @leO_apa, @leO_cur, @regO_cur, @Q_store_hpM, @Q_store_hpC, @X_appz, @Q_zap, @Q_zapO⟩
end Go.Aw
namespace Go.Aw
open Go
structure Hid (q : Prop) : Prop where
  out : q
theorem Run.R {C : Ctx} {σ σ' : St} {k k' : List Item} (rest : Run C k' σ') (h : Hid (Run C k' σ') → Run C k σ := by
    intro hHid
    refine Run.nq ?_
    refine Run.regionW hC (fun K hK => ?_)
    simp only [AW7, simprocAttr, hX]
    (repeat (with_reducible refine And.intro ?_ ?_); exact vc0)
    refine hK _ ?_
    clear hK K
    refine Run.nq ?_
    exact hHid.out) : Run C k σ := h ⟨rest⟩
theorem Run.RW {C : Ctx} {σ σ' : St} {k k' : List Item} (rest : Run C k' σ') (h : Hid (Run C k' σ') → Run C k σ := by
    intro hHid
    refine Run.nq ?_
    refine Run.regionW hC (fun K hK => ?_)
    simp (disch := omega) only [wrap_id, AW7, simprocAttr, hX]
    (repeat (with_reducible refine And.intro ?_ ?_); exact vc0)
    refine hK _ ?_
    clear hK K
    refine Run.nq ?_
    exact hHid.out) : Run C k σ := h ⟨rest⟩
theorem wW {p q : Prop} (rest : q) (h : Hid q → p := by
    intro hHid
    (try simp only [AW7, simprocAttr, hX])
    (repeat (with_reducible refine And.intro ?_ ?_); exact vc0)
    exact hHid.out) : p := h ⟨rest⟩
theorem wWW {p q : Prop} (rest : q) (h : Hid q → p := by
    intro hHid
    simp (disch := omega) only [wrap_id, AW7, simprocAttr, hX]
    (repeat (with_reducible refine And.intro ?_ ?_); exact vc0)
    exact hHid.out) : p := h ⟨rest⟩
theorem wE {p q : Prop} (rest : q) (h : Hid q → p := by
    intro hHid
    (repeat (with_reducible refine And.intro ?_ ?_); exact vc0)
    refine hK _ ?_
    refine Run.nq ?_
    exact hHid.out) : p := h ⟨rest⟩
theorem Run.cW {C : Ctx} {σ : St} {c : Operand} {x y : Code} {t : Bool} {k : List Item} (ht : t = true → Run C (.code x :: k) σ) (hf : t = false → Run C (.code y :: k) σ)
    (hc : σ.ev c = .bool t := by simp only [AW7, simprocAttr, hX]; rfl) (hh : σ.has c := by simp only [AW7, simprocAttr, hX]) : Run C (.code (.cond c x y) :: k) σ := Run.cond hc hh ht hf
theorem Run.rW {C : Ctx} {σ : St} {k : List Item} (ts : List Nat) {xs : List AV} (h : Fin C xs σ.obs) (hl : ts.length ≤ 4 := by decide) (hres : C.fn.results = (ts.map ResultVar.tmp).toArray := by rw [hfn]; rfl)
    (hx : evT σ ts = xs := by simp only [AW7, simprocAttr, hX]; rfl) (hh : hasT σ ts := by simp only [AW7, simprocAttr, hX]) : Run C (.code .ret :: k) σ := Run.retW ts hl hres hx hh h
theorem FunA.cW {B C : Ctx} (hP : B.P = C.P) (hT : B.tid = C.tid) {f : FuncId} {args0 : List AV} {post : List AV → List O → Prop} (h : FunA B f args0 post) {obs : List O} {args : List AV}
    {K : Sl → List O → Prop} (hk : ∀ xs obs', post xs obs' → K (resSl obs.length xs) (obs ++ obs')) (ha : argsOk obs args args0 := by simp only [AW7, simprocAttr]) : ACall C obs f args fun x o => Later (K x o) := FunA.callW hP hT h ha hk
end Go.Aw
namespace Go.Proofs.YtojcdgdbffmlpaaGreat
open Go Go.Aw
def Btid : E → Nat
  | .int => 3
  | .byte => 5
  | .bool => 4
  | .str => 9
  | .row _ => 25
  | .lrow => 25
  | .vec => 103
  | .pr => 0
def BG (t : Nat) : Option E := if t = 25 then some .int else if t = 24 then some .lrow else if t = 123 then some .str else if t = 22 then some .byte else if t = 129 then some .bool else none
def Bbt (t : Nat) : Option BT := if t = 3 then some (.int .i64) else if t = 4 then some .bool else if t = 9 then some .str else if t = 5 then some (.int .u8) else none
def BM (t : Nat) : Option MT := if t = 66 then some ⟨false, false⟩ else none
noncomputable def B : Ctx := ⟨Tryz.prog, default, (fun _ _ => True), default, (fun _ => False), Btid, BG, Bbt, BM, [], (fun _ => False)⟩
set_option maxRecDepth 100000 in
theorem B_ok : B.Ok := by
  refine ⟨fun t e h => ?_, fun t e h => ?_, fun t b h => ?_, fun f => rfl, by kernel_rfl, fun t h => ?_, fun t m h => ?_⟩
  · simp only [B, BG] at h
    (repeat' split at h) <;> first | (cases h; done) | (cases h; subst_vars; first | exact ⟨Tryz.underlying25, _, rfl, rfl, rfl, rfl⟩ | exact ⟨Tryz.underlying24, _, rfl, rfl, rfl, rfl⟩ | exact ⟨Tryz.underlying123, _, rfl, rfl, rfl, rfl⟩ | exact ⟨Tryz.underlying22, _, rfl, rfl, rfl, rfl⟩ | exact ⟨Tryz.underlying129, _, rfl, rfl, rfl, rfl⟩)
  · simp only [B, BG] at h
    (repeat' split at h) <;> first | (cases h; done) | (cases h; subst_vars; exact ⟨_, rfl, rfl⟩)
  · simp only [B, Bbt] at h
    (repeat' split at h) <;> first | (cases h; done) | (cases h; subst_vars; first | exact ⟨Tryz.underlying3, _, rfl, rfl⟩ | exact ⟨Tryz.underlying4, _, rfl, rfl⟩ | exact ⟨Tryz.underlying9, _, rfl, rfl⟩ | exact ⟨Tryz.underlying5, _, rfl, rfl⟩)
  · exact Tryz.underlying5
  · simp only [B, BM] at h
    (repeat' split at h) <;> first | (cases h; done) | (cases h; subst_vars; first | exact ⟨_, _, Tryz.underlying66, fun _ => Tryz.underlying9, fun h => (by cases h), Tryz.zeroValue4⟩ | (cases h; done))
theorem BX : B.Γ 25 = some .int ∧ B.Γ 24 = some .lrow ∧ B.Γ 123 = some .str ∧ B.Γ 22 = some .byte ∧ B.Γ 129 = some .bool ∧ B.bt 3 = some (.int .i64) ∧ B.bt 4 = some .bool ∧ B.bt 9 = some .str ∧ B.bt 5 = some (.int .u8) ∧ B.bt 25 = none ∧ B.bt 24 = none ∧ B.bt 123 = none ∧ B.bt 22 = none ∧ B.bt 129 = none ∧ B.Γ 3 = none ∧ B.Γ 4 = none ∧ B.Γ 9 = none ∧ B.Γ 5 = none ∧ B.mt 0 = none ∧ B.mt 66 = some ⟨false, false⟩ := ⟨rfl, rfl, rfl, rfl, rfl, rfl, rfl, rfl, rfl, rfl, rfl, rfl, rfl, rfl, rfl, rfl, rfl, rfl, rfl, rfl⟩
end Go.Proofs.YtojcdgdbffmlpaaGreat
namespace Go.Proofs.YtojcdgdbffmlpaaGreat
open Go
theorem and255 (n : Int) : 0 ≤ bits .and .i64 n 255 ∧ bits .and .i64 n 255 < 256 := by
  have h255 : (BitVec.ofInt 64 255).toNat = 2 ^ 8 - 1 := by decide
  have key : (BitVec.ofInt 64 n &&& BitVec.ofInt 64 255).toNat = (n % ((2 ^ 64 : Nat) : Int)).toNat % 2 ^ 8 := by
    rw [BitVec.toNat_and, BitVec.toNat_ofInt, h255, Nat.and_two_pow_sub_one_eq_mod]
  have e : bits .and .i64 n 255 = IntKind.i64.wrap ((BitVec.ofInt 64 n &&& BitVec.ofInt 64 255).toNat : Nat) := rfl
  rw [e, key, IntKind.wrap_i64]
  omega
theorem drew2 (w : World) (a b : Nat) : (w.drewN a).drewN b = w.drewN (a + b) := by simp [World.drewN, Nat.add_assoc]
set_option maxRecDepth 100000 in
theorem w_byte1 (b : Nat) (a : Addr) (len cap : Nat) (i h n : Int) (w : World) (g0 : w.cell? ⟨b, 0, none⟩ = some (.slice (some a) len cap)) (g1 : w.cell? ⟨b, 1, none⟩ = some (.int .i64 i)) (g2 : w.cell? ⟨b, 2, none⟩ = some (.int .i64 h))
    (z1 : w.frozen? ⟨b, 1, none⟩ = false) (z2 : w.frozen? ⟨b, 2, none⟩ = false) (h0 : 0 ≤ i) (h1 : i < (len : Int)) (hl : len ≤ 9223372036854775807) (hr : w.cell? (a.add i.toNat) = some (.int .u8 n)) (hne : a.block ≠ b) :
    Calls Tryz.prog 201 #[.pointer (some ⟨b, 0, none⟩)] w fun e w' => ∃ x h' : Int, e = .returned (.int .i64 x) ∧ 0 ≤ x ∧ x < 256 ∧ -9223372036854775808 ≤ h' ∧ h' ≤ 9223372036854775807 ∧ ∃ k, w' = ((w.setCell ⟨b, 2, none⟩ (.int .i64 h')).drewN k).setCell ⟨b, 1, none⟩ (.int .i64 (i + 1)) := by
  go_enter Tryz.func201, Tryz.ntmps201
  go_wp2
  have hwr := RowKit.wrap64_wf (RowKit.wrap64 (h * 6364136223846793005) + 1442695040888963407)
  generalize RowKit.wrap64 (RowKit.wrap64 (h * 6364136223846793005) + 1442695040888963407) = h' at *
  have e0 : (w.setCell ⟨b, 2, none⟩ (.int .i64 h')).cell? ⟨b, 0, none⟩ = some (.slice (some a) len cap) := by rw [World.cell?_setCell_other _ _ _ _ (by simp)]; exact g0
  have e1 : (w.setCell ⟨b, 2, none⟩ (.int .i64 h')).cell? ⟨b, 1, none⟩ = some (.int .i64 i) := by rw [World.cell?_setCell_other _ _ _ _ (by simp)]; exact g1
  have e2 : (w.setCell ⟨b, 2, none⟩ (.int .i64 h')).cell? ⟨b, 2, none⟩ = some (.int .i64 h') := World.cell?_setCell_same w ⟨b, 2, none⟩ _ g2
  have e3 : (w.setCell ⟨b, 2, none⟩ (.int .i64 h')).cell? (a.add i.toNat) = some (.int .u8 n) := by
    rw [World.cell?_setCell_other _ _ _ _ (fun e => hne ((Go.Aw.add_block a i.toNat).symm.trans (congrArg Addr.block e).symm))]; exact hr
  have e4 : (w.setCell ⟨b, 2, none⟩ (.int .i64 h')).frozen? ⟨b, 1, none⟩ = false := by simpa using z1
  generalize hw2 : w.setCell ⟨b, 2, none⟩ (.int .i64 h') = w2 at *
  go_quiet (fail)
  go_wp2
  generalize bits BinOp.and IntKind.i64 (bits BinOp.xor IntKind.i64 (h' / 8589934592) (h' / 35184372088832)) 255 = y
  go_quiet (fail)
  go_wp2
  go_quiet (fail)
  go_wp2
  go_ret
  obtain ⟨k1, k2⟩ := and255 (RowKit.wrap64 (y + RowKit.wrap64 n))
  have hwr : -9223372036854775808 ≤ h' ∧ h' ≤ 9223372036854775807 := by
    have e : IntKind.i64.min = -9223372036854775808 := by decide
    simpa [Lit.wf, e] using hwr
  exact ⟨_, h', rfl, k1, k2, hwr.1, hwr.2, _, (by rw [hw2] : World.setCell (w2.drewN _) _ _ = _)⟩
set_option maxRecDepth 100000 in
theorem w_byte2 (b : Nat) (base : Option Addr) (len cap : Nat) (i h : Int) (w : World) (g0 : w.cell? ⟨b, 0, none⟩ = some (.slice base len cap)) (g1 : w.cell? ⟨b, 1, none⟩ = some (.int .i64 i)) (g2 : w.cell? ⟨b, 2, none⟩ = some (.int .i64 h))
    (z1 : w.frozen? ⟨b, 1, none⟩ = false) (z2 : w.frozen? ⟨b, 2, none⟩ = false) (h1 : ¬ i < (len : Int)) :
    Calls Tryz.prog 201 #[.pointer (some ⟨b, 0, none⟩)] w fun e w' => ∃ x h' : Int, e = .returned (.int .i64 x) ∧ 0 ≤ x ∧ x < 256 ∧ -9223372036854775808 ≤ h' ∧ h' ≤ 9223372036854775807 ∧ ∃ k, w' = (w.setCell ⟨b, 2, none⟩ (.int .i64 h')).drewN k := by
  go_enter Tryz.func201, Tryz.ntmps201
  go_wp2
  have hwr := RowKit.wrap64_wf (RowKit.wrap64 (h * 6364136223846793005) + 1442695040888963407)
  generalize RowKit.wrap64 (RowKit.wrap64 (h * 6364136223846793005) + 1442695040888963407) = h' at *
  have e0 : (w.setCell ⟨b, 2, none⟩ (.int .i64 h')).cell? ⟨b, 0, none⟩ = some (.slice base len cap) := by rw [World.cell?_setCell_other _ _ _ _ (by simp)]; exact g0
  have e1 : (w.setCell ⟨b, 2, none⟩ (.int .i64 h')).cell? ⟨b, 1, none⟩ = some (.int .i64 i) := by rw [World.cell?_setCell_other _ _ _ _ (by simp)]; exact g1
  have e2 : (w.setCell ⟨b, 2, none⟩ (.int .i64 h')).cell? ⟨b, 2, none⟩ = some (.int .i64 h') := World.cell?_setCell_same w ⟨b, 2, none⟩ _ g2
  generalize hw2 : w.setCell ⟨b, 2, none⟩ (.int .i64 h') = w2 at *
  have hd : decide (i < (len : Int)) = false := by simp; omega
  go_quiet (fail)
  go_wp2
  obtain ⟨k1, k2⟩ := and255 (bits BinOp.xor IntKind.i64 (h' / 8589934592) (h' / 35184372088832))
  generalize bits BinOp.and IntKind.i64 (bits BinOp.xor IntKind.i64 (h' / 8589934592) (h' / 35184372088832)) 255 = y at *
  go_quiet (fail)
  go_wp2
  go_ret
  have hwr : -9223372036854775808 ≤ h' ∧ h' ≤ 9223372036854775807 := by
    have e : IntKind.i64.min = -9223372036854775808 := by decide
    simpa [Lit.wf, e] using hwr
  exact ⟨y, h', rfl, k1, k2, hwr.1, hwr.2, _, (drew2 _ _ _).trans (by rw [hw2])⟩
def CurTo (b : Nat) (s : Value) (len : Nat) (t : TypeId) (w : World) (e : Ending) (w' : World) : Prop :=
  (∃ x : Int, e = .returned (.int .i64 x) ∧ 0 ≤ x ∧ x < 256) ∧ (∃ i h : Int, w'.heap[b]? = some (.cells #[s, .int .i64 i, .int .i64 h] t (0, 0)) ∧ 0 ≤ i ∧ i ≤ len ∧ -9223372036854775808 ≤ h ∧ h ≤ 9223372036854775807) ∧
    Go.Aw.Ext (fun c => c = b) w w'
theorem heap_setCell (w : World) (b k : Nat) (v : Value) (c : Array Value) (t : TypeId) (f : Nat × Nat) (h : w.heap[b]? = some (.cells c t f)) : (w.setCell ⟨b, k, none⟩ v).heap[b]? = some (.cells (c.setIfInBounds k v) t f) := by
  simp [World.setCell, Array.getElem?_modify, h]
theorem heap_setCell_ne (w : World) (b k c : Nat) (v : Value) (h : c ≠ b) : (w.setCell ⟨b, k, none⟩ v).heap[c]? = w.heap[c]? := by
  simp [World.setCell, Array.getElem?_modify, Ne.symm h]
theorem ext_setCell (w : World) (b k : Nat) (v : Value) : Go.Aw.Ext (fun c => c = b) w (w.setCell ⟨b, k, none⟩ v) :=
  ⟨rfl, rfl, rfl, by simp [World.setCell], Nat.le_refl _, fun c _ hc => heap_setCell_ne w b k c v hc⟩
theorem ext_drewN (w : World) (n : Nat) : Go.Aw.Ext (fun _ => False) w (w.drewN n) := ⟨rfl, rfl, rfl, Nat.le_refl _, Nat.le_add_right _ _, fun _ _ _ => rfl⟩
theorem byte_to (b : Nat) (t : TypeId) (base : Option Addr) (len cap : Nat) (i h : Int) (w : World) (hb : w.heap[b]? = some (.cells #[.slice base len cap, .int .i64 i, .int .i64 h] t (0, 0))) (h0 : 0 ≤ i) (h1 : i ≤ len) (hl : len ≤ 9223372036854775807)
    (hr : ∀ k, k < len → ∃ a n, base = some a ∧ a.block ≠ b ∧ w.cell? (a.add k) = some (.int .u8 n)) :
    Calls Tryz.prog 201 #[.pointer (some ⟨b, 0, none⟩)] w (CurTo b (.slice base len cap) len t w) := by
  have g0 : w.cell? ⟨b, 0, none⟩ = some (.slice base len cap) := by simp [World.cell?, hb]
  have g1 : w.cell? ⟨b, 1, none⟩ = some (.int .i64 i) := by simp [World.cell?, hb]
  have g2 : w.cell? ⟨b, 2, none⟩ = some (.int .i64 h) := by simp [World.cell?, hb]
  have z : ∀ k, w.frozen? ⟨b, k, none⟩ = false := fun k => by simp [World.frozen?, hb]
  by_cases hi : i < (len : Int)
  · obtain ⟨a, n, rfl, hne, hc⟩ := hr i.toNat (by omega)
    refine (w_byte1 b a len cap i h n w g0 g1 g2 (z 1) (z 2) h0 hi hl hc hne).mono ?_
    rintro e w' ⟨x, h', rfl, k1, k2, k3, k4, k, rfl⟩
    refine ⟨⟨x, rfl, k1, k2⟩, ⟨i + 1, h', ?_, by omega, by omega, k3, k4⟩, ((ext_setCell w b 2 _).trans ((ext_drewN _ _).mono fun _ h => h.elim)).trans (ext_setCell _ b 1 _)⟩
    have e1 := heap_setCell w b 2 (.int .i64 h') _ _ _ hb
    have e2 : ((w.setCell ⟨b, 2, none⟩ (.int .i64 h')).drewN k).heap[b]? = _ := e1
    exact heap_setCell _ b 1 (.int .i64 (i + 1)) _ _ _ e2
  · refine (w_byte2 b base len cap i h w g0 g1 g2 (z 1) (z 2) hi).mono ?_
    rintro e w' ⟨x, h', rfl, k1, k2, k3, k4, k, rfl⟩
    refine ⟨⟨x, rfl, k1, k2⟩, ⟨i, h', heap_setCell w b 2 (.int .i64 h') _ _ _ hb, h0, h1, k3, k4⟩, (ext_setCell w b 2 _).trans ((ext_drewN _ _).mono fun _ h => h.elim)⟩
end Go.Proofs.YtojcdgdbffmlpaaGreat
namespace Go.Proofs.YtojcdgdbffmlpaaGreat
open Go Go.RowKit
theorem and30 (n : Int) : 0 ≤ bits .and .i64 n 1073741823 ∧ bits .and .i64 n 1073741823 < 1073741824 := by
  have h255 : (BitVec.ofInt 64 1073741823).toNat = 2 ^ 30 - 1 := by decide
  have key : (BitVec.ofInt 64 n &&& BitVec.ofInt 64 1073741823).toNat = (n % ((2 ^ 64 : Nat) : Int)).toNat % 2 ^ 30 := by
    rw [BitVec.toNat_and, BitVec.toNat_ofInt, h255, Nat.and_two_pow_sub_one_eq_mod]
  have e : bits .and .i64 n 1073741823 = IntKind.i64.wrap ((BitVec.ofInt 64 n &&& BitVec.ofInt 64 1073741823).toNat : Nat) := rfl
  rw [e, key, IntKind.wrap_i64]
  omega
set_option maxRecDepth 100000 in
theorem w_new (base : Option Addr) (len cap : Nat) (ns : Nat → Int) (w : World) (hl : len ≤ 4611686018427387904) (hr : ∀ k, k < len → ∃ a, base = some a ∧ w.cell? (a.add k) = some (.int .u8 (ns k))) :
    Calls Tryz.prog 133 #[.slice base len cap] w fun e w' => ∃ (h : Int) (t : TypeId), e = .returned (.pointer (some ⟨w.heap.size, 0, none⟩)) ∧ -9223372036854775808 ≤ h ∧ h ≤ 9223372036854775807 ∧ w' = w.alloc (.cells #[.slice base len cap, .int .i64 0, .int .i64 h] t) := by
  go_enter Tryz.func133, Tryz.ntmps133
  go_wp2
  go_loop [3, 4] (fun h i => ∃ (k : Nat) (z : Int), k ≤ len ∧ i = .int .i64 k ∧ h = .int .i64 z ∧ -9223372036854775808 ≤ z ∧ z ≤ 9223372036854775807) (fun _ i => len - (intOf i).toNat)
  case atStart => exact ⟨0, _, Nat.zero_le _, rfl, rfl, by omega, by omega⟩
  case round =>
    obtain ⟨k, z, hk, rfl, rfl, z1, z2⟩ := hrel
    rcases Nat.lt_or_ge k len with hlt | hge
    · obtain ⟨a, rfl, hc⟩ := hr k hlt
      have hd : decide ((k : Int) < (len : Int)) = true := by simp; omega
      obtain ⟨y1, y2⟩ := and30 (wrap64 (wrap64 (wrap64 (z * 131) + wrap64 (ns k)) + 7))
      go_wp2
      · exact ⟨⟨k + 1, _, by omega, by simp, rfl, by omega, by omega⟩, by simp [intOf]; omega⟩
      · go_ret
        exact ⟨rfl, z, z1, z2, _, rfl⟩
    · have : k = len := by omega
      subst this
      have hd : decide ((k : Int) < (k : Int)) = false := by simp
      go_wp2
      go_ret
      exact ⟨rfl, z, z1, z2, _, rfl⟩
end Go.Proofs.YtojcdgdbffmlpaaGreat
namespace Go.Proofs.YtojcdgdbffmlpaaGreat
open Go Go.Aw
theorem take_snoc {α : Type} (d : α) (p : List α) (i : Nat) (h : i < p.length) : p.take i ++ [p.getD i d] = p.take (i + 1) := by
  rw [List.take_add_one]
  simp [h]
end Go.Proofs.YtojcdgdbffmlpaaGreat
namespace Go.Aw
open Go
theorem Run.unmat {C : Ctx} {k : List Item} (hC : C.Ok) (id : Nat) {n : Nat} {fr : List (Nat × Bool × Sl)} {obs : List O} {g : Nat} {hs : List (Option Nat)} {rows : List (List Int)} {nn : Bool} (ho : oAt obs id = .mat hs rows g nn)
    (h : Run C k ⟨n, fr, oSet obs id (.arr (.row true) rows g nn)⟩) : Run C k ⟨n, fr, obs⟩ := by
  intro a w ρ r
  have hid : id < obs.length := by
    rcases Nat.lt_or_ge id obs.length with h | h
    · exact h
    · rw [oAt_eq, List.getElem?_eq_none h] at ho; cases ho
  have ho' : obs[id]? = some (.mat hs rows g nn) := by rw [oAt_get hid, ho]
  have hset : ∀ (j : Nat) (o : O), (obs.set id (.arr (.row true) rows g nn))[j]? = some o → (j = id ∧ o = .arr (.row true) rows g nn) ∨ (j ≠ id ∧ obs[j]? = some o) := fun j o hj => by
    by_cases e : j = id
    · subst e
      rw [List.getElem?_set_self hid] at hj
      exact .inl ⟨rfl, (Option.some.inj hj).symm⟩
    · rw [List.getElem?_set_ne (Ne.symm e)] at hj
      exact .inr ⟨e, hj⟩
  have hgen : ∀ j, genOf (obs.set id (.arr (.row true) rows g nn)) j = genOf obs j := fun j => by
    unfold genOf
    by_cases e : j = id
    · subst e
      rw [List.getElem?_set_self hid, ho']; rfl
    · rw [List.getElem?_set_ne (Ne.symm e)]
  have hOwn : ∀ b', Own (obs.set id (.arr (.row true) rows g nn)) ρ b' → Own obs ρ b' := fun b' => by
    rintro ⟨j, o, hj, hb⟩
    rcases hset j o hj with ⟨rfl, rfl⟩ | ⟨_, hj⟩
    · exact ⟨_, _, ho', .inl hb⟩
    · exact ⟨j, o, hj, hb⟩
  have hV : (C.V w obs ρ).le (C.V w (obs.set id (.arr (.row true) rows g nn)) ρ) := by
    refine ⟨fun b o hb => ?_, fun _ hb => hb, rfl⟩
    simp only [Ctx.V, mask] at hb ⊢
    split at hb
    · cases hb
    · rename_i hnn
      rw [if_neg (fun k => hnn (hOwn b k))]
      exact hb
  have hav : ∀ (x : AV) (v : Value), AVRel (C.V w obs ρ) obs ρ x v → AVRel (C.V w (obs.set id (.arr (.row true) rows g nn)) ρ) (obs.set id (.arr (.row true) rows g nn)) ρ x v := fun x v hx =>
    AVRel.carry hV (by simp) (fun i c' _ hc => ⟨c', by rw [← hgen]; exact hc, .inl ⟨rfl, rfl⟩⟩) hx
  refine h a w ρ ⟨r.defers, r.size, fun s ex x hl => ?_, ?_, fun j v hj => ?_⟩
  · rw [oSet_eq]
    obtain ⟨k1, k2⟩ := r.fr s ex x hl
    refine ⟨fun he => ?_, k2⟩
    have h2 := k1 he
    cases x with
    | v x => exact hav x _ h2
    | t l =>
      obtain ⟨vs, e1, e2, e3⟩ := h2
      exact ⟨vs, e1, e2, fun i x v hx hv => hav x v (e3 i x v hx hv)⟩
  · rw [oSet_eq]
    refine ⟨fun j o hj => ?_, fun i j o o' b' hi hj bi bj => ?_, fun b' hb => r.w.own b' (hOwn b' hb), r.w.os0, r.w.tape, r.w.output, r.w.grow, r.w.drawn, r.w.kept, r.w.gl⟩
    · rcases hset j o hj with ⟨rfl, rfl⟩ | ⟨_, hj⟩
      · have hmat := r.w.os _ _ ho'
        obtain ⟨cs, k1, k2, k3, k4, k5, k6, k7⟩ := hmat
        have hcl : cs.length = rows.length := by have := k1.1; omega
        have hrow : ∀ i (hi : i < rows.length), RowRel (C.V w (obs.set j (.arr (.row true) rows g nn)) ρ) true rows[i] cs[i] := by
          intro i hi
          have := k3 i hs[i] rows[i] cs[i] (by simp) (by simp) (by simp)
          cases hh : hs[i] with
          | none =>
            rw [hh] at this
            obtain ⟨h1, h2⟩ := this
            rw [h1, h2]
            exact ⟨none, 0, rfl, by simp, by simp, fun i hi => by simp at hi⟩
          | some q =>
            rw [hh] at this
            obtain ⟨h1, cur, hg, h2, h3, h4, h5⟩ := this
            have hq : some q ∈ hs := by rw [← hh]; simp
            have hownq : fpo (ρ j) (.mat hs rows g nn) (hdB q) := .inr ⟨q, hq, rfl⟩
            have hnot : ¬ Own (obs.set j (.arr (.row true) rows g nn)) ρ (hdB q) := by
              rintro ⟨i', o', hi', hb'⟩
              rcases hset i' o' hi' with ⟨e1, rfl⟩ | ⟨hne, hi2⟩
              · rw [e1] at hb'
                exact k5 q hq hb'
              · exact hne (r.w.dis i' _ o' _ (hdB q) hi2 ho' hb' hownq)
            refine ⟨some ⟨hdB q, 0, none⟩, hdC q, h1, h2, h3, fun j hj => ⟨⟨hdB q, 0, none⟩, rfl, fun _ => .inl (r.w.own _ ⟨_, _, ho', hownq⟩), ?_⟩⟩
            have : (cur.toList.take rows[i].length)[j]? = (rows[i].map (Value.int .i64))[j]? := by rw [h5]
            rw [List.getElem?_take, if_pos hj] at this
            rw [add_plain]
            simp only [Vw.cell, Ctx.V, mask, if_neg hnot, hg]
            simpa [hj] using this
        refine ⟨cs, by rw [hC.same]; exact k1, ⟨by simp [E.size, hcl], fun i hi => ⟨cs[i], hrow i hi, fun j hj => ?_⟩⟩, k6, k7⟩
        have : j = 0 := by simp [E.size] at hj; omega
        subst this
        rw [cells_oneCell (RowRel.oneCell (hrow i hi))]
        simp [E.size, hcl, hi]
      · exact (r.w.os j o hj).kept hV (Ext.refl (fun _ => False) w) (fun _ _ k => k)
    · rcases hset i o hi with ⟨e1, rfl⟩ | ⟨_, hi2⟩ <;> rcases hset j o' hj with ⟨e2, rfl⟩ | ⟨_, hj2⟩
      · rw [e1, e2]
      · rw [e1] at bi ⊢; exact r.w.dis _ _ _ _ b' ho' hj2 (.inl bi) bj
      · rw [e2] at bj ⊢; exact r.w.dis _ _ _ _ b' hi2 ho' bi (.inl bj)
      · exact r.w.dis i j o o' b' hi2 hj2 bi bj
  · rw [oSet_eq]
    obtain ⟨k1, k2⟩ := r.pin j v hj
    exact ⟨by simpa using k1, fun hg => k2 (by rw [← hgen]; exact hg)⟩
end Go.Aw
namespace Go.Proofs.YtojcdgdbffmlpaaGreat
open Go Go.Aw
theorem bytes_cells {V : Vw} {f : Bool} {xs : List Int} {s : Value} (h : SlRel V f .byte xs s) : ∃ base cap, s = .slice base xs.length cap ∧ xs.length ≤ maxLen ∧ ∀ k (hk : k < xs.length), ∃ a, base = some a ∧ V.cell (a.add k) = some (.int .u8 xs[k]) := by
  obtain ⟨base, cap, hv, h1, h2, hx⟩ := h
  refine ⟨base, cap, hv, by omega, fun k hk => ?_⟩
  obtain ⟨a, u, ha, _, hr, hc⟩ := hx k hk
  cases hr
  have h0 := hc 0 (by simp [E.size])
  simp [E.size, Value.cells] at h0
  exact ⟨a, ha, h0⟩
theorem cell_of_V {C : Ctx} {obs : List O} {w : World} {ρ : Nat → Value} {a : Addr} {v : Value} (h : (C.V w obs ρ).cell a = some v) : ¬ Own obs ρ a.block ∧ w.cell? a = some v := by
  unfold Vw.cell at h
  cases hb : (C.V w obs ρ).H a.block with
  | none => rw [hb] at h; cases h
  | some o =>
    obtain ⟨h1, h2⟩ := H_vis hb
    refine ⟨h1, ?_⟩
    rw [hb] at h
    unfold World.cell?
    rw [h2]
    cases o <;> first | exact h | cases h
theorem ACall.new {C : Ctx} (hP : B.P = C.P) {obs : List O} {f : Bool} {xs : List Int} (hm : xs.length ≤ 4611686018427387904) {K : Sl → List O → Prop} (hk : ∀ s, K (.v (.own obs.length 0)) (obs ++ [.cur s 0])) :
    ACall C obs 133 [.sl f .byte xs] fun x o => Later (K x o) := by
  refine ⟨fun vs w => by rw [← hP]; exact Tryz.call133 vs w, fun w ρ vs rr hl hx => ?_⟩
  match vs, hl with
  | [s], _ =>
  have hs : SlRel (C.V w obs ρ) f .byte xs s := hx 0 _ s rfl rfl
  obtain ⟨base, cap, hv, hlen, hc⟩ := bytes_cells hs
  rw [← hP]
  subst hv
  refine (w_new base xs.length cap (fun k => xs.getD k 0) w hm fun k hk => ?_).mono ?_
  · obtain ⟨a, ha, hc⟩ := hc k hk
    refine ⟨a, ha, ?_⟩
    rw [(cell_of_V hc).2]
    simp [List.getD_eq_getElem?_getD, hk]
  rintro e w' ⟨h, t, rfl, h1, h2, rfl⟩
  have hext := Ext.alloc (fun _ => False) w (.cells #[.slice base xs.length cap, .int .i64 0, .int .i64 h] t)
  have hgr : (w.alloc (.cells #[.slice base xs.length cap, .int .i64 0, .int .i64 h] t)).heap[w.heap.size]? = some (.cells #[.slice base xs.length cap, .int .i64 0, .int .i64 h] t (0, 0)) := by
    show (w.heap.push _)[_]? = _
    simp
  have hle : (C.V w obs ρ).le (C.V (w.alloc (.cells #[.slice base xs.length cap, .int .i64 0, .int .i64 h] t)) (obs ++ [.cur (.slice base xs.length cap) 0]) (fun i => if i = obs.length then .pointer (some ⟨w.heap.size, 0, none⟩) else ρ i)) := by
    refine ⟨fun b o hb => ?_, fun _ hb => hb, rfl⟩
    obtain ⟨n1, n2⟩ := H_vis hb
    have hlt : b < w.heap.size := (Array.getElem?_eq_some_iff.1 n2).1
    have hn : ¬ Own (obs ++ [.cur (.slice base xs.length cap) 0]) (fun i => if i = obs.length then .pointer (some ⟨w.heap.size, 0, none⟩) else ρ i) b := by
      rintro ⟨j, o', hj, hf⟩
      rw [List.getElem?_append] at hj
      split at hj
      · rename_i hlj
        simp only [if_neg (show ¬ j = obs.length by omega)] at hf
        exact n1 ⟨j, o', hj, hf⟩
      · rename_i hlj
        have hj0 : j = obs.length := by
          rcases Nat.lt_or_ge obs.length j with k | k
          · rw [List.getElem?_eq_none (by simp; omega)] at hj; cases hj
          · omega
        subst hj0
        simp at hj
        subst hj
        simp only [if_true] at hf
        have hf : Value.pointer (some ⟨w.heap.size, 0, none⟩) = .pointer (some ⟨b, 0, none⟩) := hf
        injection hf with hf
        injection hf with hf
        injection hf with hf _ _
        omega
    simp only [Ctx.V, mask, if_neg hn]
    rw [hext.block b hlt (fun k => k)]
    exact n2
  have T := Turn.new rr hext (.cur (.slice base xs.length cap) 0) (.pointer (some ⟨w.heap.size, 0, none⟩))
    ⟨w.heap.size, t, 0, h, rfl, hgr, by omega, ⟨xs, (SlRel.weaken hs).mono hle, by omega⟩, h1, h2⟩
    (fun b hb => by
      have hf : Value.pointer (some ⟨w.heap.size, 0, none⟩) = .pointer (some ⟨b, 0, none⟩) := hb
      injection hf with hf
      injection hf with hf
      injection hf with hf _ _
      omega)
  refine ⟨_, rfl, .v (.own obs.length 0), _, _, T.step rr, ?_, hk _⟩
  exact ⟨by simp, fun c _ => ⟨Nat.zero_le _, fun _ => by simp⟩⟩
theorem c_l1Byte (s : Value) : FunO B 201 [.own 0 0] (.cur s 0) (fun rs o => ∃ x : Int, rs = [.int .i64 x] ∧ 0 ≤ x ∧ x < 256 ∧ o = [.cur s 0]) := by
  refine ⟨fun vs w => Tryz.call201 vs w, fun w L v vs hw hl ha => ?_⟩
  match vs, hl with
  | [u], _ =>
  have hu : u = v := ((ha 0 _ u rfl rfl).2 0 rfl).2 rfl
  subst hu
  obtain ⟨b, t, i, h, hv, hb, hi0, ⟨xs, hs, hi1⟩, h1, h2⟩ := hw.os 0 _ rfl
  obtain ⟨base, cap, hsv, hlen, hc⟩ := bytes_cells hs
  subst hsv
  have hv : u = .pointer (some ⟨b, 0, none⟩) := hv
  subst hv
  have hown : Own [.cur (.slice base xs.length cap) 0] (fun _ => Value.pointer (some ⟨b, 0, none⟩)) b := ⟨0, _, rfl, rfl⟩
  refine (byte_to b t base xs.length cap i h w hb hi0 hi1 hlen fun k hk => ?_).mono ?_
  · obtain ⟨a, ha, hc⟩ := hc k hk
    obtain ⟨n1, n2⟩ := cell_of_V hc
    exact ⟨a, xs[k], ha, fun e => n1 (by rw [add_block, e]; exact hown), n2⟩
  rintro e w' ⟨⟨x, rfl, x1, x2⟩, ⟨i', h', g1, g2, g3, g4, g5⟩, hext⟩
  have hOwn : ∀ c, Own [.cur (.slice base xs.length cap) 0] (fun _ => Value.pointer (some ⟨b, 0, none⟩)) c → c = b := by
    rintro c ⟨j, o, hj, hf⟩
    cases j with
    | succ j => simp at hj
    | zero =>
      simp at hj; subst hj
      have hf : Value.pointer (some ⟨b, 0, none⟩) = .pointer (some ⟨c, 0, none⟩) := hf
      injection hf with hf
      injection hf with hf
      injection hf with hf _ _
      exact hf.symm
  have hle : ((B.lentB w L (.cur (.slice base xs.length cap) 0) (.pointer (some ⟨b, 0, none⟩))).V w [.cur (.slice base xs.length cap) 0] (fun _ => .pointer (some ⟨b, 0, none⟩))).le
      ((B.lentB w L (.cur (.slice base xs.length cap) 0) (.pointer (some ⟨b, 0, none⟩))).V w' [.cur (.slice base xs.length cap) 0] (fun _ => .pointer (some ⟨b, 0, none⟩))) := by
    refine ⟨fun c o hc => ?_, fun _ hb => hb, rfl⟩
    obtain ⟨n1, n2⟩ := H_vis hc
    simp only [Ctx.V, mask, if_neg n1]
    rw [hext.block c (Array.getElem?_eq_some_iff.1 n2).1 (fun e => n1 (e ▸ hown))]
    exact n2
  refine ⟨[.int .i64 x], rfl, [.int .i64 x], .cur (.slice base xs.length cap) 0, [], fun _ => .pointer (some ⟨b, 0, none⟩), ⟨x, rfl, x1, x2, rfl⟩, rfl, fun i y u' hy hu' => ?_, ?_, rfl, rfl, ⟨rfl, rfl, rfl⟩⟩
  · cases i with
    | succ i => simp at hy
    | zero => simp at hy hu'; subst hy hu'; rfl
  · refine ⟨fun id o ho => ?_, fun i j o o' c hi hj _ _ => ?_, fun c hc => hw.own c hc, hext.os.trans hw.os0, hext.tape.trans hw.tape, hext.output.trans hw.output, Nat.le_trans hw.grow hext.size, Nat.le_trans hw.drawn hext.drawn, fun c hc hM => ?_, hw.gl⟩
    · cases id with
      | succ id => simp at ho
      | zero =>
        simp at ho; subst ho
        exact ⟨b, t, i', h', rfl, g1, g2, ⟨xs, hs.mono hle, g3⟩, g4, g5⟩
    · cases i with
      | succ i => simp at hi
      | zero => cases j with
        | zero => rfl
        | succ j => simp at hj
    · rw [hext.block c (Nat.lt_of_lt_of_le hc hw.grow) (fun e => hM (by rw [e]; rfl))]
      exact hw.kept c hc hM
end Go.Proofs.YtojcdgdbffmlpaaGreat
namespace Go.Proofs.YtojcdgdbffmlpaaGreat
open Go Go.Aw
theorem c_l1Below (s : Value) (n : Int) (hn0 : -1000 ≤ n) (hn : n ≤ 256) : FunO B 162 [.own 0 0, .int .i64 n] (.cur s 0) (fun rs o => ∃ x : Int, rs = [.int .i64 x] ∧ 0 ≤ x ∧ (0 < n → x < n) ∧ o = [.cur s 0]) := by
  refine FunO.walk B_ok (fn := Tryz.f162) (fun vs w => Tryz.call162 vs w) Tryz.func162 rfl (by rw [Tryz.ntmps162]; simp) (fun C hC hP hT hΓ hbt hfn hpin hfin => ?_); have hX := BX; rw [← hΓ, ← hbt.1, ← hbt.2] at hX; rw [Tryz.ntmps162]; simp only [AW7, simprocAttr, hX]
  refine Run.R ?_
  refine Run.R ?_
  refine Run.nq ?_; refine Run.cW ?_ ?_
  · intro h
    have h : n ≤ 0 := by simpa using h
    refine Run.R ?_
    refine Run.rW [4] (hfin _ _ _ rfl rfl ⟨rfl, rfl⟩ ?_)
    exact ⟨0, rfl, by omega, by omega, rfl⟩
  intro h
  have h : 0 < n := by
    have : ¬ n ≤ 0 := by simpa using h
    omega
  refine Run.R ?_
  refine Run.nq ?_; refine Run.cW ?_ ?_
  rotate_left
  · intro h2
    have h2 : ¬ n ≤ 256 := by simpa using h2
    exact absurd hn h2
  intro _
  refine Run.nq ?_; refine Run.regionW hC (fun K hK => ?_); refine wW ?_
  refine FunO.callCur hP hT (c_l1Byte s) 0 0 (by first | rfl | (simp only [AW7, simprocAttr]; done) | (simp only [AW7, simprocAttr]; rfl)) (by simp only [AW7, simprocAttr]) ?_
  rintro rs o' obs' ⟨x, rfl, x0, x1, ho⟩
  injection ho with ho1 ho2; subst ho1 ho2
  have hm : x.tmod n = x % n := Int.tmod_eq_emod_of_nonneg x0
  have hm0 := Int.emod_nonneg x (by omega : n ≠ 0)
  have hm1 := Int.emod_lt_of_pos x h
  refine wWW ?_
  refine wE ?_; clear hK K
  refine Run.rW [4] (hfin _ _ _ rfl rfl ⟨rfl, rfl⟩ ?_)
  exact ⟨_, rfl, by omega, by omega, rfl⟩
theorem c_l1Once (s : Value) (n : Int) (hn0 : -1000 ≤ n) (hn : n ≤ 256) : FunO B 175 [.own 0 0, .int .i64 n] (.cur s 0) (fun rs o => ∃ x : Bool, rs = [.bool x] ∧ o = [.cur s 0]) := by
  refine FunO.walk B_ok (fn := Tryz.f175) (fun vs w => Tryz.call175 vs w) Tryz.func175 rfl (by rw [Tryz.ntmps175]; simp) (fun C hC hP hT hΓ hbt hfn hpin hfin => ?_); have hX := BX; rw [← hΓ, ← hbt.1, ← hbt.2] at hX; rw [Tryz.ntmps175]; simp only [AW7, simprocAttr, hX]
  refine Run.R ?_
  refine Run.nq ?_; refine Run.regionW hC (fun K hK => ?_); refine wW ?_
  refine FunO.callCur hP hT (c_l1Below s n hn0 hn) 0 0 (by first | rfl | (simp only [AW7, simprocAttr]; done) | (simp only [AW7, simprocAttr]; rfl)) (by simp only [AW7, simprocAttr]) ?_
  rintro rs o' obs' ⟨x, rfl, x0, x1, ho⟩
  injection ho with ho1 ho2; subst ho1 ho2
  refine wWW ?_
  refine wE ?_; clear hK K
  refine Run.rW [4] (hfin _ _ _ rfl rfl ⟨rfl, rfl⟩ ?_)
  exact ⟨_, rfl, rfl⟩
theorem c_l1PickInt (s : Value) (l : List Int) (h0 : 0 < l.length) (hl : l.length ≤ 256) : FunO B 190 [.own 0 0, .sl false .int l] (.cur s 0) (fun rs o => ∃ x : Int, rs = [.int .i64 x] ∧ x ∈ l ∧ o = [.cur s 0]) := by
  refine FunO.walk B_ok (fn := Tryz.f190) (fun vs w => Tryz.call190 vs w) Tryz.func190 rfl (by rw [Tryz.ntmps190]; simp) (fun C hC hP hT hΓ hbt hfn hpin hfin => ?_); have hX := BX; rw [← hΓ, ← hbt.1, ← hbt.2] at hX; rw [Tryz.ntmps190]; simp only [AW7, simprocAttr, hX]
  refine Run.R ?_
  refine Run.nq ?_; refine Run.regionW hC (fun K hK => ?_); refine wW ?_
  refine FunO.callCur hP hT (c_l1Below s l.length (by omega) (by omega)) 0 0 (by first | rfl | (simp only [AW7, simprocAttr]; done) | (simp only [AW7, simprocAttr]; rfl)) (by simp only [AW7, simprocAttr]) ?_
  rintro rs o' obs' ⟨x, rfl, x0, x1, ho⟩
  injection ho with ho1 ho2; subst ho1 ho2
  have x1 := x1 (by omega)
  refine wWW ?_
  refine wE ?_; clear hK K
  refine Run.rW [4] (hfin _ _ _ rfl rfl ⟨rfl, rfl⟩ ?_)
  refine ⟨_, rfl, ?_, rfl⟩
  rw [List.getD_eq_getElem?_getD, List.getElem?_eq_getElem (by omega)]
  simp
end Go.Proofs.YtojcdgdbffmlpaaGreat
namespace Go.Aw
open Go
theorem Run.matfact {C : Ctx} {k : List Item} (id : Nat) {n : Nat} {fr : List (Nat × Bool × Sl)} {obs : List O} {g : Nat} {hs : List (Option Nat)} {rows : List (List Int)} {nn : Bool} (ho : oAt obs id = .mat hs rows g nn)
    (h : hs.length = rows.length → (∀ (i j q : Nat), hs[i]? = some (some q) → hs[j]? = some (some q) → i = j) → (∀ i : Nat, hs[i]? = some none → rows.getD i [] = []) → Run C k ⟨n, fr, obs⟩) : Run C k ⟨n, fr, obs⟩ := by
  refine Run.fact (p := hs.length = rows.length ∧ (∀ (i j q : Nat), hs[i]? = some (some q) → hs[j]? = some (some q) → i = j) ∧ (∀ i : Nat, hs[i]? = some none → rows.getD i [] = [])) (fun a w ρ r => ?_) fun hh => h hh.1 hh.2.1 hh.2.2
  have hid : id < obs.length := by
    rcases Nat.lt_or_ge id obs.length with h | h
    · exact h
    · rw [oAt_eq, List.getElem?_eq_none h] at ho; cases ho
  have ho' : obs[id]? = some (.mat hs rows g nn) := by rw [oAt_get hid, ho]
  obtain ⟨cs, k1, k2, k3, k4, k5, k6, k7⟩ := r.w.os id _ ho'
  refine ⟨k2, fun i j q h1 h2 => k4 i j q q h1 h2 rfl, fun i hi => ?_⟩
  have hcl : cs.length = rows.length := by have := k1.1; omega
  have hlt : i < hs.length := (List.getElem?_eq_some_iff.1 hi).1
  have := k3 i none rows[i] cs[i] hi (by simp) (by simp)
  rw [List.getD_eq_getElem?_getD, List.getElem?_eq_getElem (by omega)]
  exact this.2
theorem mat_head {hs : List (Option Nat)} {rows : List (List Int)} (hl : hs.length = rows.length) (h1 : ∀ (i j q : Nat), hs[i]? = some (some q) → hs[j]? = some (some q) → i = j) (h2 : ∀ i : Nat, hs[i]? = some none → rows.getD i [] = [])
    {i : Nat} (hi : i < rows.length) (hr : 0 < (rows.getD i []).length) : ∃ q, hs.getD i none = some q ∧ some q ∈ hs ∧ hs.idxOf (some q) = i := by
  have hi' : i < hs.length := by omega
  have e : hs[i]? = some hs[i] := List.getElem?_eq_getElem hi'
  cases hq : hs[i] with
  | none =>
    rw [hq] at e
    rw [h2 i e] at hr
    simp at hr
  | some q =>
    rw [hq] at e
    have hm : some q ∈ hs := List.mem_of_getElem? e
    refine ⟨q, by rw [List.getD_eq_getElem?_getD, e]; rfl, hm, ?_⟩
    have hlt := List.idxOf_lt_length_iff.2 hm
    have e2 : hs[hs.idxOf (some q)]? = some (some q) := by rw [List.getElem?_eq_getElem hlt]; simp
    exact h1 _ _ q e2 e
end Go.Aw
namespace Go.Proofs.YtojcdgdbffmlpaaGreat
open Go Go.Aw
def cmpN (p q : List Int) : Nat → Nat → Int
  | 0, _ => 0
  | n + 1, i => if p.getD i 0 < q.getD i 0 then -1 else if p.getD i 0 > q.getD i 0 then 1 else cmpN p q n (i + 1)
def cmpW (p q : List Int) : Int := if p.length < q.length then -1 else if p.length > q.length then 1 else cmpN p q p.length 0
theorem cmpN_zero (p q : List Int) (hl : p.length = q.length) : ∀ n i, i + n = p.length → p.take i = q.take i → (cmpN p q n i = 0 ↔ p = q)
  | 0, i, hi, ht => by
    have : p = q := by
      have h1 : p.take i = p := List.take_of_length_le (by omega)
      have h2 : q.take i = q := List.take_of_length_le (by omega)
      rw [← h1, ← h2, ht]
    simp [cmpN, this]
  | n + 1, i, hi, ht => by
    simp only [cmpN]
    split
    · rename_i h
      constructor
      · intro k; cases k
      · intro k; rw [k] at h; omega
    · split
      · rename_i h
        constructor
        · intro k; cases k
        · intro k; rw [k] at h; omega
      · rename_i h1 h2
        have he : p.getD i 0 = q.getD i 0 := by omega
        exact cmpN_zero p q hl n (i + 1) (by omega) (by rw [← take_snoc 0 p i (by omega), ← take_snoc 0 q i (by omega), ht, he])
theorem cmpW_zero (p q : List Int) : cmpW p q = 0 ↔ p = q := by
  unfold cmpW
  split
  · rename_i h
    constructor
    · intro k; cases k
    · intro k; rw [k] at h; omega
  · split
    · rename_i h
      constructor
      · intro k; cases k
      · intro k; rw [k] at h; omega
    · exact cmpN_zero p q (by omega) p.length 0 (by omega) (by simp)
theorem c_spec_CompareWords (p q : List Int) (hp : p.length ≤ 4503599627370496) : FunA B 184 [.sl false .int p, .sl false .int q] (fun rs o => rs = [.int .i64 (cmpW p q)] ∧ o = []) := by
  refine FunA.walk B_ok (fn := Tryz.f184) (fun vs w => Tryz.call184 vs w) Tryz.func184 rfl (by rw [Tryz.ntmps184]; simp) (fun C hC hP hT hΓ hbt hfn hpin hfin => ?_); have hX := BX; rw [← hΓ, ← hbt.1, ← hbt.2] at hX; rw [Tryz.ntmps184]; simp only [AW7, simprocAttr, hX]
  refine Run.R ?_
  refine Run.R ?_
  refine Run.nq ?_; refine Run.cW ?_ ?_
  · intro hc
    refine Run.R ?_
    refine Run.nq ?_; refine Run.cW ?_ ?_
    · intro hl
      refine Run.R ?_
      refine Run.rW [4] (hfin _ _ rfl rfl ?_)
      have hl : p.length < q.length := by simpa using hl
      simp [cmpW, hl]
    · intro hl
      refine Run.R ?_
      refine Run.rW [4] (hfin _ _ rfl rfl ?_)
      have hl : ¬ p.length < q.length := by simpa using hl
      have hc : ¬ (p.length : Int) = q.length := by simpa using hc
      have : q.length < p.length := by omega
      simp [cmpW, hl, this]
  intro hc
  have hl : p.length = q.length := by simp at hc; omega
  refine Run.R ?_
  refine Run.loopI (X := Nat) (fun i => ⟨40, [(0, true, .v (.sl false .int p)), (1, true, .v (.sl false .int q)), (5, true, .v (.int .i64 i)), (4, true, .v (.int .i64 0))], []⟩) (fun i => i ≤ p.length ∧ cmpN p q p.length 0 = cmpN p q (p.length - i) i) (fun i => p.length - i) 0 (by simp) ?_ ?_
  · exact Le.sub (by simp only [AW7, simprocAttr]) (by simp only [AW7, simprocAttr]; try simp)
  rintro i ⟨hi, ht⟩ ih
  have hw : cmpW p q = cmpN p q (p.length - i) i := by simp [cmpW, ← hl, ht]
  refine Run.R ?_
  refine Run.nq ?_; refine Run.cW ?_ ?_
  · intro hc2
    have hc2 : i < p.length := by simpa using hc2
    obtain ⟨m, hm⟩ : ∃ m, p.length - i = m + 1 := ⟨p.length - i - 1, by omega⟩
    refine Run.nq ?_; refine Run.regionD hC true [0,1,2,3,4,5,6,7,8] (by kernel_rfl) (fun K hK => ?_); simp only [AW7, simprocAttr, hX]; (repeat (with_reducible refine And.intro ?_ ?_); exact vc0); refine wE ?_; clear hK K
    refine Run.nq ?_; refine Run.cW ?_ ?_
    · intro hlt
      have hlt : p.getD i 0 < q.getD i 0 := by simpa using hlt
      refine Run.R ?_
      refine Run.rW [4] (hfin _ _ rfl rfl ?_)
      rw [hw, hm]
      simp only [cmpN]
      rw [if_pos hlt]
      simp
    · intro hlt
      have hlt : ¬ p.getD i 0 < q.getD i 0 := by simpa using hlt
      refine Run.nq ?_; refine Run.regionD hC true [0,1,2,3,4,5,6,7,8] (by kernel_rfl) (fun K hK => ?_); simp only [AW7, simprocAttr, hX]; (repeat (with_reducible refine And.intro ?_ ?_); exact vc0); refine wE ?_; clear hK K
      refine Run.nq ?_; refine Run.cW ?_ ?_
      · intro hgt
        have hgt : q.getD i 0 < p.getD i 0 := by simpa using hgt
        refine Run.R ?_
        refine Run.rW [4] (hfin _ _ rfl rfl ?_)
        rw [hw, hm]
        simp only [cmpN]
        rw [if_neg hlt, if_pos hgt]
        simp
      · intro hgt
        have hgt : ¬ q.getD i 0 < p.getD i 0 := by simpa using hgt
        refine Run.RW ?_
        refine Run.le ?_ (ih (i + 1) ⟨hc2, ?_⟩ (by omega))
        · exact Le.sub (by simp only [AW7, simprocAttr]) (by simp only [AW7, simprocAttr, Option.some.injEq, Prod.mk.injEq, Sl.v.injEq, AV.int.injEq, AV.own.injEq, AV.bool.injEq]; try (repeat' apply And.intro); all_goals omega)
        · rw [ht, hm]
          simp only [cmpN]
          rw [if_neg hlt, if_neg hgt, show p.length - (i + 1) = m from by omega]
  · intro hc2
    have hc2 : i = p.length := by simp at hc2; omega
    refine Run.exit rfl ?_; refine Run.nq ?_
    refine Run.R ?_
    refine Run.rW [4] (hfin _ _ rfl rfl ?_)
    rw [hw, hc2, Nat.sub_self]
    simp [cmpN]
theorem c_spec_EqualWords (p q : List Int) (hp : p.length ≤ 4503599627370496) : FunA B 116 [.sl false .int p, .sl false .int q] (fun rs o => rs = [.bool (p == q)] ∧ o = []) := by
  refine FunA.walk B_ok (fn := Tryz.f116) (fun vs w => Tryz.call116 vs w) Tryz.func116 rfl (by rw [Tryz.ntmps116]; simp) (fun C hC hP hT hΓ hbt hfn hpin hfin => ?_); have hX := BX; rw [← hΓ, ← hbt.1, ← hbt.2] at hX; rw [Tryz.ntmps116]; simp only [AW7, simprocAttr, hX]
  refine Run.R ?_
  refine Run.nq ?_; refine Run.regionW hC (fun K hK => ?_); refine wW ?_
  refine FunA.cW hP hT (c_spec_CompareWords p q hp) ?_
  rintro rs o ⟨rfl, rfl⟩
  refine wW ?_
  refine wE ?_; clear hK K
  refine Run.rW [4] (hfin _ _ rfl rfl ?_)
  have := cmpW_zero p q
  refine ⟨?_, rfl⟩
  rw [show (cmpW p q == 0) = (p == q) from by rw [Bool.eq_iff_iff, beq_iff_eq, beq_iff_eq]; exact this]
end Go.Proofs.YtojcdgdbffmlpaaGreat
