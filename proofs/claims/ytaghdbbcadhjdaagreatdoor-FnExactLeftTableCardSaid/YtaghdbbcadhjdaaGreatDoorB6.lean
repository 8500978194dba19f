/- Rows of one's own that are written in place: a pool of rows. -/
import Derived.Test.YtaghdbbcadhjdaaGreatDoorAw5
import Derived.Test.YtaghdbbcadhjdaaGreatDoorProg
import Derived.KernelRfl
set_option linter.unusedVariables false
set_option linter.unusedSimpArgs false
namespace Go.Aw
open Go
theorem regO_gm (g g' : Nat) (D : List Nat) (F : Nat → List Int) (hs : List Nat) (nn : Bool) : regO g (.gm D F hs g' nn) = .gm D F hs (g + g') nn := rfl
theorem AW5 : type_of% @AW4 ∧ type_of% @Q_lenG ∧ type_of% @Q_idxG ∧ type_of% @Q_loadG ∧ type_of% @Q_storeG ∧ type_of% @Q_stH ∧ type_of% @Q_st_hdr ∧ type_of% @Q_len_hdr ∧ type_of% @Q_idx_hdr ∧ type_of% @Q_load_hp ∧ type_of% @Q_store_hp ∧ type_of% @Q_len_lenv ∧ type_of% @regO_gm ∧ type_of% @X_callT ∧ type_of% @leO_gm :=
  ⟨@AW4, @Q_lenG, @Q_idxG, @Q_loadG, @Q_storeG, @Q_stH, @Q_st_hdr, @Q_len_hdr, @Q_idx_hdr, @Q_load_hp, @Q_store_hp, @Q_len_lenv, @regO_gm, @X_callT, @leO_gm⟩
theorem regO_mp (g g' : Nat) (m : MT) (l : List (MK × MV)) : regO g (.mp m l g') = .mp m l (g + g') := rfl
theorem Q_mlkB (gg g' : Nat) (k : MK) (l : List (MK × MV)) (obs : List O) : mlkO ⟨false, false⟩ gg k obs (.mp ⟨false, false⟩ l g') = bif gg == g' then .ok True (.bool (mgetB l k)) obs else .bad := by
  cases h : gg == g' <;> simp [mlkO, h]
theorem Q_mlkI (gg g' : Nat) (k : MK) (l : List (MK × MV)) (obs : List O) : mlkO ⟨false, true⟩ gg k obs (.mp ⟨false, true⟩ l g') = bif gg == g' then .ok True (.int .i64 (mgetI l k)) obs else .bad := by
  cases h : gg == g' <;> simp [mlkO, h]
theorem Q_mupO (b : Bool) (id gg g' : Nat) (k : MK) (v : MV) (l : List (MK × MV)) (obs : List O) : mupO ⟨false, b⟩ id gg k v obs (.mp ⟨false, b⟩ l g') = bif gg == g' then .skip True (oSet obs id (.mp ⟨false, b⟩ (mput l k v) gg)) else .bad := by
  cases h : gg == g' <;> simp [mupO, h]
theorem Q_mmake (m : MT) (obs : List O) : mmakeV (some m) obs = .ok True (.own obs.length 0) (obs ++ [.mp m [] 0]) := rfl
theorem AW6 : type_of% @AW5 ∧ type_of% @regO_mp ∧ type_of% @Q_mlkB ∧ type_of% @Q_mlkI ∧ type_of% @Q_mupO ∧ type_of% @Q_mmake ∧ type_of% @X_lookup ∧ type_of% @X_mupd ∧ type_of% @X_insert ∧ type_of% @X_mmake ∧ type_of% @G_lookup ∧ type_of% @mlookV_own ∧ type_of% @mupdV_bool ∧ type_of% @mupdV_int ∧ type_of% @leO_mp :=
  ⟨@AW5, @regO_mp, @Q_mlkB, @Q_mlkI, @Q_mupO, @Q_mmake, @X_lookup, @X_mupd, @X_insert, @X_mmake, @G_lookup, @mlookV_own, @mupdV_bool, @mupdV_int, @leO_mp⟩
theorem mfindI_shift (k : MK) : ∀ (l : List (MK × MV)) (i j : Nat), (mfindI l k (i + j)) = (mfindI l k i).map fun q => (q.1 + j, q.2)
  | [], i, j => rfl
  | p :: l, i, j => by
    simp only [mfindI]
    by_cases h : k = p.1
    · rw [if_pos h, if_pos h]; rfl
    · rw [if_neg h, if_neg h, show i + j + 1 = (i + 1) + j by omega, mfindI_shift k l (i + 1) j]
theorem mfind_cons (p : MK × MV) (l : List (MK × MV)) (k : MK) : mfind (p :: l) k = if k = p.1 then some p.2 else mfind l k := by
  unfold mfind
  simp only [mfindI]
  by_cases h : k = p.1
  · rw [if_pos h, if_pos h]; rfl
  · rw [if_neg h, if_neg h, mfindI_shift k l 0 1, Option.map_map]; rfl
theorem mput_cons (p : MK × MV) (l : List (MK × MV)) (k : MK) (v : MV) : mput (p :: l) k v = if k = p.1 then (k, v) :: l else p :: mput l k v := by
  unfold mput
  simp only [mfindI]
  by_cases h : k = p.1
  · rw [if_pos h, if_pos h]; rfl
  · rw [if_neg h, if_neg h, mfindI_shift k l 0 1]
    cases mfindI l k 0 with
    | none => rfl
    | some q => rfl
theorem mfind_put (k k' : MK) (v : MV) : ∀ l : List (MK × MV), mfind (mput l k v) k' = if k' = k then some v else mfind l k'
  | [] => by
    show mfind [(k, v)] k' = _
    rw [mfind_cons]
  | p :: l => by
    rw [mput_cons]
    by_cases h : k = p.1
    · rw [if_pos h, mfind_cons, mfind_cons]
      by_cases h2 : k' = k
      · rw [if_pos h2, if_pos h2]
      · rw [if_neg h2, if_neg h2, if_neg (fun e => h2 (e.trans h.symm))]
    · rw [if_neg h, mfind_cons, mfind_put k k' v l, mfind_cons]
      by_cases h2 : k' = p.1
      · rw [if_pos h2, if_pos h2, if_neg (fun e => h (e.symm.trans h2))]
      · rw [if_neg h2, if_neg h2]
theorem mgetB_put (l : List (MK × MV)) (k k' : MK) (b : Bool) : mgetB (mput l k (.bool b)) k' = if k' = k then b else mgetB l k' := by
  unfold mgetB
  rw [mfind_put]
  by_cases h : k' = k
  · rw [if_pos h, if_pos h]
  · rw [if_neg h, if_neg h]
theorem mgetI_put (l : List (MK × MV)) (k k' : MK) (n : Int) : mgetI (mput l k (.int n)) k' = if k' = k then n else mgetI l k' := by
  unfold mgetI
  rw [mfind_put]
  by_cases h : k' = k
  · rw [if_pos h, if_pos h]
  · rw [if_neg h, if_neg h]
theorem mgetB_nil (k : MK) : mgetB [] k = false := rfl
end Go.Aw
namespace Go.Aw
open Go
section
variable {C : Ctx} {ds : Rg} {rest : List Oper} {n : Nat} {fr : List (Nat × Bool × Sl)} {obs : List O} {K : St → Prop} {ty : TypeId} {p : String} {af : Array Edge}
theorem X_slice3 (dd : Option Nat) (t : TypeId) (x : Operand) (lo hi : Option Operand) (m : Operand) : aexec C ds (⟨dd, .slice t x lo hi (some m), ty, p, af, none⟩ :: rest) ⟨n, fr, obs⟩ K =
    aS C ds rest n fr K (St.has ⟨n, fr, obs⟩ x ∧ hasO ⟨n, fr, obs⟩ lo ∧ hasO ⟨n, fr, obs⟩ hi ∧ St.has ⟨n, fr, obs⟩ m) (slice3V (C.Γ t) (St.ev ⟨n, fr, obs⟩ x) (lo.map (St.ev ⟨n, fr, obs⟩)) (hi.map (St.ev ⟨n, fr, obs⟩)) (St.ev ⟨n, fr, obs⟩ m) obs) dd :=
  plain_eq C ds rest n fr obs K ty p af rfl (by simp only [hasAll, hasO_eq]) rfl dd
end
def sl3O (g : Nat) (n m : Int) (obs : List O) : O → Res
  | .ap q ys true g' _ => bif g == g' then .ok (n = ys.length ∧ m = ys.length) (.hdr (some q) ys.length) obs else .bad
  | _ => .bad
theorem slice3V_own (e : E) (id g : Nat) (k k' : IntKind) (n m : Int) (obs : List O) : slice3V (some e) (.own id g) none (some (.int k n)) (.int k' m) obs = sl3O g n m obs (oAt obs id) := by
  rw [at_arr]; simp only [slice3V]
  cases h : obs[id]? with
  | none => rfl
  | some o => cases o with
    | ap q ys fr g' nn => cases fr <;> first | rfl | (by_cases hg : g = g' <;> simp [sl3O, hg, Bool.cond_eq_ite])
    | _ => rfl
theorem Q_sl3 (gg g' : Nat) (n m : Int) (obs : List O) (q : Nat) (ys : List (Nat × List Int)) (nn : Bool) : sl3O gg n m obs (.ap q ys true g' nn) = bif gg == g' then .ok (n = ys.length ∧ m = ys.length) (.hdr (some q) ys.length) obs else .bad := rfl
theorem Q_lenA (q : Nat) (ys : List (Nat × List Int)) (fr : Bool) (gg g' : Nat) (nn : Bool) (obs : List O) : lenO gg obs (.ap q ys fr g' nn) = bif gg == g' then .ok True (.int .i64 ys.length) obs else .bad := rfl
theorem Q_apOA (e : E) (id gg g' : Nat) (x : AV) (obs : List O) (q : Nat) (ys : List (Nat × List Int)) (fr nn : Bool) : apO e id gg x obs (.ap q ys fr g' nn) = bif gg == g' && decide (E.lrow.fam = e.fam) then apA id gg nn q e ys obs (srcQ .lrow x obs (some id)) else .bad := rfl
theorem Q_apA (e : E) (id gg : Nat) (obs : List O) (q : Nat) (ys zs : List (Nat × List Int)) (nn : Bool) : apA id gg nn q e ys obs (.yes zs) = .ok ((ys.length + zs.length) * e.bytes ≤ 140737488355328) (.own id (gg + 1)) (oSet obs id (.ap q (ys ++ zs) false (gg + 1) (nn || !zs.isEmpty))) := rfl
theorem Q_load_hpA (h k q : Nat) (ys : List (Nat × List Int)) (fr : Bool) (gg : Nat) (nn : Bool) (r : List O) : loadV true (.hp h k) (.ap q ys fr gg nn :: r) = .ok (h = q ∧ k < hdC q) (.lr (ys.getD k (0, [])).1 (ys.getD k (0, [])).2) (.ap q ys fr gg nn :: r) := rfl
theorem Q_store_hpM (h k : Nat) (n : Int) (hs : List (Option Nat)) (rows : List (List Int)) (gg : Nat) (nn : Bool) (r : List O) : storeV true (.hp h k) (.int .i64 n) (.mat hs rows gg nn :: r) = .skip (some h ∈ hs ∧ k < (rows.getD (hs.idxOf (some h)) []).length) (.mat hs (setM hs rows h k n) gg nn :: r) := rfl
theorem Q_store_hpC (h k : Nat) (n : Int) (s : Value) (g1 : Nat) (hs : List (Option Nat)) (rows : List (List Int)) (gg : Nat) (nn : Bool) (r : List O) : storeV true (.hp h k) (.int .i64 n) (.cur s g1 :: .mat hs rows gg nn :: r) = .skip (some h ∈ hs ∧ k < (rows.getD (hs.idxOf (some h)) []).length) (.cur s g1 :: .mat hs (setM hs rows h k n) gg nn :: r) := rfl
def zapO (id g : Nat) (m : Int) (obs : List O) : O → Res
  | .arr .int xs g' _ => bif g == g' then .ok (0 < m ∧ m ≤ 1000000 ∧ 0 < xs.length ∧ xs.length ≤ 1000000) (.own id (g + 1)) (oSet obs id (.arr .int (xs ++ List.replicate m.toNat 0) (g + 1) true)) else .bad
  | _ => .bad
theorem X_appz {C : Ctx} {ds : Rg} {rest : List Oper} {n : Nat} {fr : List (Nat × Bool × Sl)} {obs : List O} {K : St → Prop} {ty : TypeId} {p : String} {af : Array Edge} (dd : Option Nat) (x y : Operand) (t t2 : TypeId) (h : (t == t2) = false) : aexec C ds (⟨dd, .call ⟨.builtin .append, List.toArray [x, y], List.toArray [t, t2]⟩, ty, p, af, none⟩ :: rest) ⟨n, fr, obs⟩ K =
    aS C ds rest n fr K (hasL ⟨n, fr, obs⟩ [x, y]) (zapV (C.Γ t) (C.bt t2) (St.ev ⟨n, fr, obs⟩ x) (St.ev ⟨n, fr, obs⟩ y) obs) dd := plain_eq C ds rest n fr obs K ty p af rfl (by simp only [hasAll, hasL_eq]) (by have h' : t ≠ t2 := by { simpa using h }; simp [astep, h']) dd
theorem Q_zap (id g : Nat) (m : Int) (obs : List O) : zapV (some .int) (some (.int .i64)) (.own id g) (.int .i64 m) obs = zapO id g m obs (oAt obs id) := by
  rw [at_arr]; simp only [zapV]
  cases h : obs[id]? with
  | none => rfl
  | some o => cases o with
    | arr e xs g' nn => cases e <;> first | rfl | (by_cases hg : g = g' <;> simp [zapO, hg, oSet_eq, Bool.cond_eq_ite])
    | _ => rfl
theorem Q_zapO (id g g' : Nat) (m : Int) (xs : List Int) (nn : Bool) (obs : List O) : zapO id g m obs (.arr .int xs g' nn) = bif g == g' then .ok (0 < m ∧ m ≤ 1000000 ∧ 0 < xs.length ∧ xs.length ≤ 1000000) (.own id (g + 1)) (oSet obs id (.arr .int (xs ++ List.replicate m.toNat 0) (g + 1) true)) else .bad := rfl
theorem buildQ_vec (n : Nat) (parts : List (Nat × AV)) (obs : List O) : buildQ .vec n parts obs = bif seqF 0 parts n && (Nat.ble n 1000) then allQ .vec obs (strOk (partV parts)) (allEQ .vec (partV parts)) else .bad := by
  simp [buildQ]
theorem Q_toE_vec (n : List Int) : toQ .vec (.vec n) = .yes n := rfl
theorem strOk_vec (x : List Int) (l : List AV) : strOk (.vec x :: l) = strOk l := rfl
theorem fresh_vec (s : List Int) (l : List AV) : (AV.vec s :: l).all freshAV = l.all freshAV := rfl
theorem dfl_vec : E.dflt .vec = ([0, 0, 0, 0] : List Int) := rfl
theorem Run.letgoA {C : Ctx} {k : List Item} (id s0 : Nat) {n : Nat} {fr : List (Nat × Bool × Sl)} {obs : List O} {g : Nat} {ys : List Int} {nn : Bool} (ho : oAt obs id = .arr .vec [ys] g nn) (hs : look s0 fr = some (true, .v (.elt id g 4 0)))
    (h : Run C k ⟨n, (s0, true, .v (.relt true .vec ys)) :: fr, oSet obs id .dead⟩) : Run C k ⟨n, fr, obs⟩ := by
  refine Run.le (fun a w ρ r => ?_) h
  have ho' : obs[id]? = some (.arr .vec [ys] g nn) := oAt_lt ho rfl
  obtain ⟨hst, hsl⟩ := letgo_sl r.w ho'
  rw [oSet_eq]
  have hs2 := hst.rel r
  refine ⟨_, r.defers, r.size, fun s ex x hl => ?_, hst.wr, hs2.pin⟩
  simp only [look] at hl
  split at hl
  · rename_i he
    have he : s = s0 := by simpa using he
    cases hl
    subst he
    refine ⟨fun _ => ?_, by simp⟩
    obtain ⟨k1, _⟩ := r.fr s true _ hs
    obtain ⟨_, hk⟩ := (show AVRel (C.V w obs ρ) obs ρ (.elt id g 4 0) _ from k1 rfl)
    obtain ⟨a0, len, cap, hρ, hlt, hv⟩ := (hk g (by unfold genOf; rw [ho']; rfl)).2 rfl
    obtain ⟨base, cap', e1, _, _, hx⟩ := hsl
    obtain ⟨b, u, hb, hf, hr, hc⟩ := hx 0 (by simp)
    rw [hρ] at e1
    injection e1 with e1 _ _
    rw [hb] at e1
    cases e1
    show AVRel (C.V w (obs.set id .dead) (fun i => if i = id then ρ id else ρ i)) (obs.set id .dead) (fun i => if i = id then ρ id else ρ i) (.relt true .vec ys) _
    refine ⟨a0.add 0, u, by rw [hv, Nat.zero_mul], fun _ => by rw [add_block]; exact hf rfl, by simpa using hr, fun j hj => ?_⟩
    have := hc j hj
    rw [add_add, Nat.zero_add]
    simpa using this
  · obtain ⟨k1, k2⟩ := r.fr s ex _ hl
    exact ⟨fun he => hst.slot (k1 he), k2⟩
theorem mlookV_vec (vi : Bool) (id g : Nat) (s : List Int) (obs : List O) : mlookV (some ⟨true, vi⟩) (.own id g) (.vec s) obs = mlkO ⟨true, vi⟩ g (.vec s) obs (oAt obs id) := by
  rw [at_arr]; simp only [mlookV, keyV, if_true]
  cases h : obs[id]? with
  | none => rfl
  | some o => cases o with
    | mp m' l g' =>
      simp only [mlkO]
      rw [show (g == g' && (true == m'.kv) && (vi == m'.vi)) = _ from cnd3 g g' ⟨true, vi⟩ m']
      by_cases hP : g = g' ∧ (⟨true, vi⟩ : MT).kv = m'.kv ∧ (⟨true, vi⟩ : MT).vi = m'.vi
      · rw [if_pos hP, decide_eq_true hP]; simp only [mgetV, cond_true]; cases vi <;> rfl
      · rw [if_neg hP, decide_eq_false hP]; rfl
    | _ => rfl
theorem mupdV_vec (id g : Nat) (s : List Int) (b : Bool) (obs : List O) : mupdV (some ⟨true, false⟩) (.own id g) (.vec s) (.bool b) obs = mupO ⟨true, false⟩ id g (.vec s) (.bool b) obs (oAt obs id) := by
  rw [at_arr]; simp only [mupdV, keyV, valV, if_true]
  cases h : obs[id]? with
  | none => rfl
  | some o => cases o with
    | mp m' l g' =>
      simp only [mupO]
      rw [show (g == g' && (true == m'.kv) && (false == m'.vi)) = _ from cnd3 g g' ⟨true, false⟩ m']
      by_cases hP : g = g' ∧ (⟨true, false⟩ : MT).kv = m'.kv ∧ (⟨true, false⟩ : MT).vi = m'.vi
      · rw [if_pos hP, decide_eq_true hP, oSet_eq]; rfl
      · rw [if_neg hP, decide_eq_false hP]; rfl
    | _ => rfl
theorem Q_mlkV (gg g' : Nat) (k : MK) (l : List (MK × MV)) (obs : List O) : mlkO ⟨true, false⟩ gg k obs (.mp ⟨true, false⟩ l g') = bif gg == g' then .ok True (.bool (mgetB l k)) obs else .bad := by
  cases h : gg == g' <;> simp [mlkO, h]
theorem Q_mupV (id gg g' : Nat) (k : MK) (v : MV) (l : List (MK × MV)) (obs : List O) : mupO ⟨true, false⟩ id gg k v obs (.mp ⟨true, false⟩ l g') = bif gg == g' then .skip True (oSet obs id (.mp ⟨true, false⟩ (mput l k v) gg)) else .bad := by
  cases h : gg == g' <;> simp [mupO, h]
theorem keyVec : type_of% @mlookV_vec ∧ type_of% @mupdV_vec ∧ type_of% @Q_mlkV ∧ type_of% @Q_mupV := ⟨mlookV_vec, mupdV_vec, Q_mlkV, Q_mupV⟩
theorem AXV : type_of% @AXW ∧ type_of% @X_alloc ∧ type_of% @X_box ∧ type_of% @buildQ_vec ∧ type_of% @Q_toE_vec ∧ type_of% @strOk_vec ∧ type_of% @fresh_vec ∧ type_of% @dfl_vec ∧ type_of% @keyVec := ⟨AXW, @X_alloc, @X_box, @buildQ_vec, @Q_toE_vec, @strOk_vec, @fresh_vec, @dfl_vec, @keyVec⟩
theorem AW7 : type_of% @AW6 ∧ type_of% @AXV ∧ type_of% @X_slice3 ∧ type_of% @slice3V_own ∧ type_of% @Q_sl3 ∧ type_of% @Q_lenA ∧ type_of% @Q_apOA ∧ type_of% @Q_apA ∧ type_of% @Q_load_hpA ∧ type_of% @leO_ap ∧ type_of% @leO_apa ∧ type_of% @leO_cur ∧ type_of% @regO_cur ∧ type_of% @Q_store_hpM ∧ type_of% @Q_store_hpC ∧ type_of% @X_appz ∧ type_of% @Q_zap ∧ type_of% @Q_zapO := ⟨@AW6, @AXV, @X_slice3, @slice3V_own, @Q_sl3, @Q_lenA, @Q_apOA, @Q_apA, @Q_load_hpA, @leO_ap, @leO_apa, @leO_cur, @regO_cur, @Q_store_hpM, @Q_store_hpC, @X_appz, @Q_zap, @Q_zapO⟩
end Go.Aw
namespace Go.Aw
open Go
structure Hid (q : Prop) : Prop where
  out : q
theorem Run.R {C : Ctx} {σ σ' : St} {k k' : List Item} (rest : Run C k' σ') (h : Hid (Run C k' σ') → Run C k σ := by
    intro hHid
    refine Run.nq ?_
    refine Run.regionW hC (fun K hK => ?_)
    simp only [AW7, simprocAttr, hX]
    (repeat (with_reducible refine And.intro ?_ ?_); exact vc0)
    refine hK _ ?_
    clear hK K
    refine Run.nq ?_
    exact hHid.out) : Run C k σ := h ⟨rest⟩
theorem Run.RW {C : Ctx} {σ σ' : St} {k k' : List Item} (rest : Run C k' σ') (h : Hid (Run C k' σ') → Run C k σ := by
    intro hHid
    refine Run.nq ?_
    refine Run.regionW hC (fun K hK => ?_)
    simp (disch := omega) only [wrap_id, AW7, simprocAttr, hX]
    (repeat (with_reducible refine And.intro ?_ ?_); exact vc0)
    refine hK _ ?_
    clear hK K
    refine Run.nq ?_
    exact hHid.out) : Run C k σ := h ⟨rest⟩
theorem wW {p q : Prop} (rest : q) (h : Hid q → p := by
    intro hHid
    (try simp only [AW7, simprocAttr, hX])
    (repeat (with_reducible refine And.intro ?_ ?_); exact vc0)
    exact hHid.out) : p := h ⟨rest⟩
theorem wWW {p q : Prop} (rest : q) (h : Hid q → p := by
    intro hHid
    simp (disch := omega) only [wrap_id, AW7, simprocAttr, hX]
    (repeat (with_reducible refine And.intro ?_ ?_); exact vc0)
    exact hHid.out) : p := h ⟨rest⟩
theorem wE {p q : Prop} (rest : q) (h : Hid q → p := by
    intro hHid
    (repeat (with_reducible refine And.intro ?_ ?_); exact vc0)
    refine hK _ ?_
    refine Run.nq ?_
    exact hHid.out) : p := h ⟨rest⟩
theorem Run.cW {C : Ctx} {σ : St} {c : Operand} {x y : Code} {t : Bool} {k : List Item} (ht : t = true → Run C (.code x :: k) σ) (hf : t = false → Run C (.code y :: k) σ)
    (hc : σ.ev c = .bool t := by simp only [AW7, simprocAttr, hX]; rfl) (hh : σ.has c := by simp only [AW7, simprocAttr, hX]) : Run C (.code (.cond c x y) :: k) σ := Run.cond hc hh ht hf
theorem Run.rW {C : Ctx} {σ : St} {k : List Item} (ts : List Nat) {xs : List AV} (h : Fin C xs σ.obs) (hl : ts.length ≤ 4 := by decide) (hres : C.fn.results = (ts.map ResultVar.tmp).toArray := by rw [hfn]; rfl)
    (hx : evT σ ts = xs := by simp only [AW7, simprocAttr, hX]; rfl) (hh : hasT σ ts := by simp only [AW7, simprocAttr, hX]) : Run C (.code .ret :: k) σ := Run.retW ts hl hres hx hh h
theorem FunA.cW {B C : Ctx} [DrLe B C] (hP : B.P = C.P) (hT : B.tid = C.tid) {f : FuncId} {args0 : List AV} {post : List AV → List O → Prop} (h : FunA B f args0 post) {obs : List O} {args : List AV}
    {K : Sl → List O → Prop} (hk : ∀ xs obs', post xs obs' → K (resSl obs.length xs) (obs ++ obs')) (ha : argsOk obs args args0 := by simp only [AW7, simprocAttr]) : ACall C obs f args fun x o => Later (K x o) := FunA.callW hP hT h ha hk
end Go.Aw
namespace Go.Proofs.YtaghdbbcadhjdaaGreatDoor
open Go Go.Aw
def Btid : E → Nat
  | .int => 3
  | .byte => 5
  | .bool => 4
  | .str => 9
  | .row _ => 27
  | .lrow => 27
  | .vec => 71
  | .pr => 0
def BG (t : Nat) : Option E := if t = 27 then some .int else if t = 22 then some .lrow else if t = 92 then some .str else if t = 56 then some .byte else if t = 50 then some .bool else if t = 73 then some .vec else none
def Bbt (t : Nat) : Option BT := if t = 3 then some (.int .i64) else if t = 4 then some .bool else if t = 9 then some .str else if t = 5 then some (.int .u8) else none
def BM (t : Nat) : Option MT := if t = 42 then some ⟨false, true⟩ else if t = 74 then some ⟨true, false⟩ else none
def BW (t : Nat) : Option E := if t = 71 then some .vec else none
noncomputable def B : Ctx := ⟨Tryz.prog, default, (fun _ _ => True), default, (fun _ => False), Btid, BG, Bbt, BM, [], (fun _ => False), BW, true⟩
instance : DrT B := ⟨rfl⟩
noncomputable def BJ : Ctx := { B with dr := false }
set_option maxRecDepth 100000 in
theorem B_ok : B.Ok := by
  refine ⟨fun t e h => ?_, fun t e h => ?_, fun t b h => ?_, fun f => rfl, by kernel_rfl, fun t h => ?_, fun t m h => ?_, fun t e h => ?_⟩
  · simp only [B, BG] at h
    (repeat' split at h) <;> first | (cases h; done) | (cases h; subst_vars; first | exact ⟨Tryz.underlying27, _, rfl, rfl, rfl, rfl⟩ | exact ⟨Tryz.underlying22, _, rfl, rfl, rfl, rfl⟩ | exact ⟨Tryz.underlying92, _, rfl, rfl, rfl, rfl⟩ | exact ⟨Tryz.underlying56, _, rfl, rfl, rfl, rfl⟩ | exact ⟨Tryz.underlying50, _, rfl, rfl, rfl, rfl⟩ | exact ⟨Tryz.underlying73, _, rfl, rfl, rfl, rfl⟩)
  · simp only [B, BG] at h
    (repeat' split at h) <;> first | (cases h; done) | (cases h; subst_vars; exact ⟨_, rfl, rfl⟩)
  · simp only [B, Bbt] at h
    (repeat' split at h) <;> first | (cases h; done) | (cases h; subst_vars; first | exact ⟨Tryz.underlying3, _, rfl, rfl⟩ | exact ⟨Tryz.underlying4, _, rfl, rfl⟩ | exact ⟨Tryz.underlying9, _, rfl, rfl⟩ | exact ⟨Tryz.underlying5, _, rfl, rfl⟩)
  · exact Tryz.underlying5
  · simp only [B, BM] at h
    (repeat' split at h) <;> first | (cases h; done) | (cases h; subst_vars; first | exact ⟨_, _, Tryz.underlying42, fun _ => Tryz.underlying9, fun h => (by cases h), Tryz.zeroValue3⟩ | exact ⟨_, _, Tryz.underlying74, fun h => (by cases h), fun _ => ⟨_, Tryz.underlying71, Tryz.underlying3, _, rfl, rfl⟩, Tryz.zeroValue4⟩ | (cases h; done))
  · simp only [B, BW] at h
    split at h
    · cases h; subst_vars; exact ⟨rfl, rfl, _, Tryz.underlying71, Tryz.underlying3, ⟨_, rfl, rfl⟩, _, rfl, rfl, rfl⟩
    · cases h
theorem BX : B.Γ 27 = some .int ∧ B.Γ 22 = some .lrow ∧ B.Γ 92 = some .str ∧ B.Γ 56 = some .byte ∧ B.Γ 50 = some .bool ∧ B.Γ 73 = some .vec ∧ B.bt 3 = some (.int .i64) ∧ B.bt 4 = some .bool ∧ B.bt 9 = some .str ∧ B.bt 5 = some (.int .u8) ∧ B.bt 27 = none ∧ B.bt 22 = none ∧ B.bt 92 = none ∧ B.bt 56 = none ∧ B.bt 50 = none ∧ B.bt 73 = none ∧ B.Γ 3 = none ∧ B.Γ 4 = none ∧ B.Γ 9 = none ∧ B.Γ 5 = none ∧ B.mt 0 = none ∧ B.mt 42 = some ⟨false, true⟩ ∧ B.mt 74 = some ⟨true, false⟩ ∧ B.wt 27 = none ∧ B.wt 22 = none ∧ B.wt 92 = none ∧ B.wt 56 = none ∧ B.wt 50 = none ∧ B.wt 73 = none ∧ B.wt 3 = none ∧ B.wt 4 = none ∧ B.wt 9 = none ∧ B.wt 5 = none ∧ B.wt 0 = none ∧ B.wt 71 = some .vec ∧ B.Γ 71 = none ∧ B.bt 71 = none := ⟨rfl, rfl, rfl, rfl, rfl, rfl, rfl, rfl, rfl, rfl, rfl, rfl, rfl, rfl, rfl, rfl, rfl, rfl, rfl, rfl, rfl, rfl, rfl, rfl, rfl, rfl, rfl, rfl, rfl, rfl, rfl, rfl, rfl, rfl, rfl, rfl, rfl⟩
theorem BJ_ok : BJ.Ok := ⟨B_ok.sl, B_ok.slc, B_ok.bt, B_ok.same, B_ok.mixed, B_ok.u8, B_ok.mt, B_ok.wt⟩
theorem BXJ : BJ.Γ 27 = some .int ∧ BJ.Γ 22 = some .lrow ∧ BJ.Γ 92 = some .str ∧ BJ.Γ 56 = some .byte ∧ BJ.Γ 50 = some .bool ∧ BJ.Γ 73 = some .vec ∧ BJ.bt 3 = some (.int .i64) ∧ BJ.bt 4 = some .bool ∧ BJ.bt 9 = some .str ∧ BJ.bt 5 = some (.int .u8) ∧ BJ.bt 27 = none ∧ BJ.bt 22 = none ∧ BJ.bt 92 = none ∧ BJ.bt 56 = none ∧ BJ.bt 50 = none ∧ BJ.bt 73 = none ∧ BJ.Γ 3 = none ∧ BJ.Γ 4 = none ∧ BJ.Γ 9 = none ∧ BJ.Γ 5 = none ∧ BJ.mt 0 = none ∧ BJ.mt 42 = some ⟨false, true⟩ ∧ BJ.mt 74 = some ⟨true, false⟩ ∧ BJ.wt 27 = none ∧ BJ.wt 22 = none ∧ BJ.wt 92 = none ∧ BJ.wt 56 = none ∧ BJ.wt 50 = none ∧ BJ.wt 73 = none ∧ BJ.wt 3 = none ∧ BJ.wt 4 = none ∧ BJ.wt 9 = none ∧ BJ.wt 5 = none ∧ BJ.wt 0 = none ∧ BJ.wt 71 = some .vec ∧ BJ.Γ 71 = none ∧ BJ.bt 71 = none := ⟨rfl, rfl, rfl, rfl, rfl, rfl, rfl, rfl, rfl, rfl, rfl, rfl, rfl, rfl, rfl, rfl, rfl, rfl, rfl, rfl, rfl, rfl, rfl, rfl, rfl, rfl, rfl, rfl, rfl, rfl, rfl, rfl, rfl, rfl, rfl, rfl, rfl⟩
end Go.Proofs.YtaghdbbcadhjdaaGreatDoor
namespace Go.Proofs.YtaghdbbcadhjdaaGreatDoor
open Go Go.Aw
theorem take_snoc {α : Type} (d : α) (p : List α) (i : Nat) (h : i < p.length) : p.take i ++ [p.getD i d] = p.take (i + 1) := by
  rw [List.take_add_one]
  simp [h]
theorem set_fill (p : List Int) (i : Nat) (h : i < p.length) (z : Int) : (p.take i ++ List.replicate (p.length - i) z).set i (p.getD i 0) = p.take (i + 1) ++ List.replicate (p.length - (i + 1)) z := by
  obtain ⟨m, hm⟩ : ∃ m, p.length - i = m + 1 := ⟨p.length - i - 1, by omega⟩
  have hl : (p.take i).length = i := by simp; omega
  rw [hm, List.replicate_succ, List.set_append, hl, if_neg (by omega), Nat.sub_self, List.set_cons_zero, ← take_snoc 0 p i h, show p.length - (i + 1) = m from by omega]
  simp
theorem c_toIntS (p : List Int) (hp : p.length ≤ 1048576) : FunA B 17 [.sl false .int p] (fun rs o => rs = [.own 0 0] ∧ o = [.arr .int p 0 true]) := by
  refine FunA.walk B_ok (fn := Tryz.f17) (fun vs w => Tryz.call17 vs w) Tryz.func17 rfl (by rw [Tryz.ntmps17]; simp) (fun C hC hP hT hΓ hbt hfn hpin hfin => ?_); have hX := BX; rw [← hΓ, ← hbt.1, ← hbt.2.1, ← hbt.2.2.1] at hX; rw [Tryz.ntmps17]; simp only [AW7, simprocAttr, hX]
  refine Run.R ?_
  refine Run.R ?_
  refine Run.R ?_
  refine Run.loopI (X := Nat) (fun i => ⟨22, [(0, true, .v (.sl false .int p)), (4, true, .v (.int .i64 i)), (3, true, .v (.own 0 0))], [.arr .int (p.take i ++ List.replicate (p.length - i) 0) 0 true]⟩) (fun i => i ≤ p.length) (fun i => p.length - i) 0 (Nat.zero_le _) ?_ ?_
  · refine Le.sub (by simp) ?_
    simp only [AW7, simprocAttr, hX]; try simp
  rintro i hi ih
  refine Run.R ?_
  refine Run.nq ?_; refine Run.cW ?_ ?_
  · intro hc
    have hc : i < p.length := by simpa using hc
    refine Run.R ?_
    refine Run.RW ?_
    refine Run.le ?_ (ih (i + 1) hc (by omega))
    refine Le.sub ?_ ?_
    · rw [← set_fill p i hc]
    · simp only [AW7, simprocAttr]; try simp
  · intro hc
    have hc : i = p.length := by simp at hc; omega
    refine Run.exit rfl ?_; refine Run.nq ?_
    refine Run.R ?_
    subst hc
    refine Run.rW [2] (hfin _ _ rfl rfl ?_)
    simp
theorem c_eqIntS (p q : List Int) (hp : p.length ≤ 4503599627370496) : FunA B 19 [.sl false .int p, .sl false .int q] (fun rs o => rs = [.bool (p == q)] ∧ o = []) := by
  refine FunA.walk B_ok (fn := Tryz.f19) (fun vs w => Tryz.call19 vs w) Tryz.func19 rfl (by rw [Tryz.ntmps19]; simp) (fun C hC hP hT hΓ hbt hfn hpin hfin => ?_); have hX := BX; rw [← hΓ, ← hbt.1, ← hbt.2.1, ← hbt.2.2.1] at hX; rw [Tryz.ntmps19]; simp only [AW7, simprocAttr, hX]
  refine Run.R ?_
  refine Run.R ?_
  refine Run.nq ?_; refine Run.cW ?_ ?_
  · intro hc
    refine Run.R ?_
    refine Run.rW [4] (hfin _ _ rfl rfl ?_)
    have : p ≠ q := fun h => by simp [h] at hc
    simpa using this
  intro hc
  have hl : p.length = q.length := by simp at hc; omega
  refine Run.R ?_
  refine Run.loopI (X := Nat) (fun i => ⟨26, [(0, true, .v (.sl false .int p)), (1, true, .v (.sl false .int q)), (5, true, .v (.int .i64 i)), (4, true, .v (.bool false))], []⟩) (fun i => i ≤ p.length ∧ p.take i = q.take i) (fun i => p.length - i) 0 (by simp) ?_ ?_
  · exact Le.sub (by simp only [AW7, simprocAttr]) (by simp only [AW7, simprocAttr]; try simp)
  rintro i ⟨hi, ht⟩ ih
  refine Run.R ?_
  refine Run.nq ?_; refine Run.cW ?_ ?_
  · intro hc2
    have hc2 : i < p.length := by simpa using hc2
    refine Run.nq ?_; refine Run.regionD hC true [0,1,2,3,4,5,6,7,8] (by kernel_rfl) (fun K hK => ?_); simp only [AW7, simprocAttr, hX]; (repeat (with_reducible refine And.intro ?_ ?_); exact vc0); refine wE ?_; clear hK K
    refine Run.nq ?_; refine Run.cW ?_ ?_
    · intro hne
      refine Run.R ?_
      refine Run.rW [4] (hfin _ _ rfl rfl ?_)
      have : p ≠ q := fun h => by simp [h] at hne
      simpa using this
    · intro he
      have he : p.getD i 0 = q.getD i 0 := by simpa using he
      refine Run.RW ?_
      refine Run.le ?_ (ih (i + 1) ⟨hc2, ?_⟩ (by omega))
      · exact Le.sub (by simp only [AW7, simprocAttr]) (by simp only [AW7, simprocAttr, Option.some.injEq, Prod.mk.injEq, Sl.v.injEq, AV.int.injEq, AV.own.injEq, AV.bool.injEq]; try (repeat' apply And.intro); all_goals omega)
      · rw [← take_snoc 0 p i hc2, ← take_snoc 0 q i (by omega), ht, he]
  · intro hc2
    have hc2 : i = p.length := by simp at hc2; omega
    refine Run.exit rfl ?_; refine Run.nq ?_
    refine Run.R ?_
    refine Run.rW [4] (hfin _ _ rfl rfl ?_)
    have : p = q := by rw [hc2, List.take_length, hl, List.take_length] at ht; exact ht
    simp [this]
def iota (k : Int) : Nat → List Int
  | 0 => []
  | n + 1 => iota k n ++ [k + n]
theorem iota_length (k : Int) : ∀ n, (iota k n).length = n
  | 0 => rfl
  | n + 1 => by simp [iota, iota_length k n]
theorem iota_getD (k : Int) : ∀ n i : Nat, i < n → (iota k n).getD i 0 = k + i
  | n + 1, i, h => by
    simp only [iota, List.getD_eq_getElem?_getD]
    by_cases hi : i < n
    · rw [List.getElem?_append_left (by rw [iota_length]; exact hi), ← List.getD_eq_getElem?_getD]
      exact iota_getD k n i hi
    · have : i = n := by omega
      subst this
      rw [List.getElem?_append_right (by rw [iota_length]; exact Nat.le_refl _)]
      simp [iota_length]
theorem set_mark (k : Int) (p : List Int) (i : Nat) (h : i < p.length) : (iota k i ++ p.drop i).set i (k + i) = iota k (i + 1) ++ p.drop (i + 1) := by
  rw [List.set_append, iota_length, if_neg (by omega), Nat.sub_self, List.drop_eq_getElem_cons h, List.set_cons_zero]
  simp [iota]
theorem c_markIntS (p : List Int) (k : Int) (hp : p.length ≤ 4503599627370496) (hk : 0 ≤ k ∧ k ≤ 4503599627370496) (nn : Bool) :
    FunM B 20 [.own 0 0, .int .i64 k] .int p nn (fun rs o => rs = [.int .i64 (k + p.length)] ∧ o = [.arr .int (iota k p.length) 0 nn]) := by
  refine FunM.walk B_ok (fn := Tryz.f20) (fun vs w => Tryz.call20 vs w) Tryz.func20 rfl (by rw [Tryz.ntmps20]; simp) (fun C hC hP hT hΓ hbt hfn hpin hfin => ?_); have hX := BX; rw [← hΓ, ← hbt.1, ← hbt.2.1, ← hbt.2.2.1] at hX; rw [Tryz.ntmps20]; simp only [AW7, simprocAttr, hX]
  refine Run.R ?_
  refine Run.R ?_
  refine Run.loopI (X := Nat) (fun i => ⟨19, [(0, true, .v (.own 0 0)), (1, true, .v (.int .i64 (k + i))), (5, true, .v (.int .i64 i)), (4, true, .v (.int .i64 0))], [.arr .int (iota k i ++ p.drop i) 0 nn]⟩) (fun i => i ≤ p.length) (fun i => p.length - i) 0 (by simp) ?_ ?_
  · refine Le.sub (by simp [iota]) ?_
    simp only [AW7, simprocAttr, hX]; try simp
  rintro i hi ih
  have hlen : (iota k i ++ p.drop i).length = p.length := by simp [iota_length]; omega
  refine Run.R ?_
  refine Run.nq ?_; refine Run.cW ?_ ?_
  · intro hc2
    have hc2 : i < p.length := by rw [hlen] at hc2; simpa using hc2
    refine Run.R ?_
    refine Run.RW ?_
    refine Run.RW ?_
    refine Run.le ?_ (ih (i + 1) hc2 (by omega))
    refine Le.sub ?_ ?_
    · rw [← set_mark k p i hc2]
    · simp only [AW7, simprocAttr, Option.some.injEq, Prod.mk.injEq, Sl.v.injEq, AV.int.injEq, AV.own.injEq, AV.bool.injEq]; simp; omega
  · intro hc2
    have hc2 : i = p.length := by rw [hlen] at hc2; simp at hc2; omega
    refine Run.exit rfl ?_; refine Run.nq ?_
    refine Run.R ?_
    subst hc2
    refine Run.rW [4] (hfin _ _ _ rfl rfl rfl ?_)
    simp
theorem c_heldIntS (p : List Int) (k : Int) (hp : p.length ≤ 4503599627370496) (hk : 0 ≤ k ∧ k ≤ 4503599627370496) :
    FunA B 25 [.sl false .int p, .int .i64 k] (fun rs o => rs = [.int .i64 (if p = iota k p.length then k + p.length else -1)] ∧ o = []) := by
  refine FunA.walk B_ok (fn := Tryz.f25) (fun vs w => Tryz.call25 vs w) Tryz.func25 rfl (by rw [Tryz.ntmps25]; simp) (fun C hC hP hT hΓ hbt hfn hpin hfin => ?_); have hX := BX; rw [← hΓ, ← hbt.1, ← hbt.2.1, ← hbt.2.2.1] at hX; rw [Tryz.ntmps25]; simp only [AW7, simprocAttr, hX]
  refine Run.R ?_
  refine Run.R ?_
  refine Run.loopI (X := Nat) (fun i => ⟨21, [(0, true, .v (.sl false .int p)), (1, true, .v (.int .i64 (k + i))), (5, true, .v (.int .i64 i)), (4, true, .v (.int .i64 0))], []⟩) (fun i => i ≤ p.length ∧ p.take i = iota k i) (fun i => p.length - i) 0 (by simp [iota]) ?_ ?_
  · refine Le.sub rfl ?_
    simp only [AW7, simprocAttr, hX]; try simp
  rintro i ⟨hi, ht⟩ ih
  refine Run.R ?_
  refine Run.nq ?_; refine Run.cW ?_ ?_
  · intro hc2
    have hc2 : i < p.length := by simpa using hc2
    refine Run.R ?_
    refine Run.nq ?_; refine Run.cW ?_ ?_
    · intro hne
      refine Run.R ?_
      refine Run.rW [4] (hfin _ _ rfl rfl ?_)
      have : p ≠ iota k p.length := by
        intro h
        have h1 : p.getD i 0 = k + i := by
          have h2 := iota_getD k p.length i hc2
          rwa [← h] at h2
        have hne : p.getD i 0 ≠ k + i := by simpa using hne
        exact hne h1
      simp [this]
    · intro he
      have he : p.getD i 0 = k + i := by simpa using he
      refine Run.RW ?_
      refine Run.RW ?_
      refine Run.le ?_ (ih (i + 1) ⟨hc2, ?_⟩ (by omega))
      · refine Le.sub rfl ?_
        simp only [AW7, simprocAttr, Option.some.injEq, Prod.mk.injEq, Sl.v.injEq, AV.int.injEq, AV.own.injEq, AV.bool.injEq]; simp; omega
      · rw [← take_snoc 0 p i hc2, ht, he]; rfl
  · intro hc2
    have hc2 : i = p.length := by simp at hc2; omega
    refine Run.exit rfl ?_; refine Run.nq ?_
    refine Run.R ?_
    subst hc2
    refine Run.rW [4] (hfin _ _ rfl rfl ?_)
    rw [List.take_length] at ht
    simp [← ht]
end Go.Proofs.YtaghdbbcadhjdaaGreatDoor
namespace Go.Proofs.YtaghdbbcadhjdaaGreatDoor
open Go Go.Aw
def szI (p : List Int) (l : Int) : Int := if l - p.length < 0 then -1 else l - p.length
def szR : List (List Int) → Int → Int
  | [], l => l
  | r :: rs, l => if szI r l < 0 then -1 else szR rs (szI r l)
def szII (rows : List (List Int)) (l : Int) : Int := if l - rows.length < 0 then -1 else szR rows (l - rows.length)
theorem szR_le : ∀ (rows : List (List Int)) (l : Int), 0 ≤ l → 0 ≤ szR rows l → szR rows l ≤ l ∧ ∀ r ∈ rows, (r.length : Int) ≤ l
  | [], l, _, _ => ⟨Int.le_refl _, by simp⟩
  | r :: rs, l, h0, h => by
    simp only [szR] at h ⊢
    by_cases hs : szI r l < 0
    · rw [if_pos hs] at h; omega
    · rw [if_neg hs] at h ⊢
      have h1 : 0 ≤ szI r l := by omega
      have h2 : szI r l = l - r.length := by unfold szI at h1 ⊢; split <;> simp_all
      obtain ⟨h3, h4⟩ := szR_le rs _ h1 h
      refine ⟨by omega, fun q hq => ?_⟩
      rcases List.mem_cons.1 hq with rfl | hq
      · omega
      · have := h4 q hq; omega
theorem szII_le (rows : List (List Int)) (l : Int) (h0 : 0 ≤ l) (h : 0 ≤ szII rows l) : (rows.length : Int) ≤ l ∧ ∀ r ∈ rows, (r.length : Int) ≤ l := by
  unfold szII at h
  split at h
  · omega
  · obtain ⟨h1, h2⟩ := szR_le rows (l - rows.length) (by omega) h
    exact ⟨by omega, fun r hr => by have := h2 r hr; omega⟩
theorem c_szIntS (p : List Int) (l : Int) (hl : 0 ≤ l ∧ l ≤ 1048576) : FunA B 30 [.sl false .int p, .int .i64 l] (fun rs o => rs = [.int .i64 (szI p l)] ∧ o = []) := by
  refine FunA.walk B_ok (fn := Tryz.f30) (fun vs w => Tryz.call30 vs w) Tryz.func30 rfl (by rw [Tryz.ntmps30]; simp) (fun C hC hP hT hΓ hbt hfn hpin hfin => ?_); have hX := BX; rw [← hΓ, ← hbt.1, ← hbt.2.1, ← hbt.2.2.1] at hX; rw [Tryz.ntmps30]; simp only [AW7, simprocAttr, hX]
  refine Run.len 0 rfl fun hlen => ?_
  refine Run.R ?_
  refine Run.RW ?_
  refine Run.R ?_
  refine Run.nq ?_; refine Run.cW ?_ ?_
  · intro hc
    refine Run.R ?_
    refine Run.rW [4] (hfin _ _ rfl rfl ?_)
    simp [szI] at hc ⊢; omega
  · intro hc
    refine Run.R ?_
    refine Run.rW [4] (hfin _ _ rfl rfl ?_)
    simp [szI] at hc ⊢; omega
theorem szR_snoc {rows : List (List Int)} {i : Nat} (h : i < rows.length) (l : Int) : szR (rows.drop i) l = if szI (rows.getD i []) l < 0 then -1 else szR (rows.drop (i + 1)) (szI (rows.getD i []) l) := by
  rw [List.drop_eq_getElem_cons h, show rows.getD i [] = rows[i] from by simp [h]]
  rfl
theorem c_szIntSS (rows : List (List Int)) (l : Int) (hl : 0 ≤ l ∧ l ≤ 1048576) : FunA B 9 [.sl false (.row false) rows, .int .i64 l] (fun rs o => rs = [.int .i64 (szII rows l)] ∧ o = []) := by
  refine FunA.walk B_ok (fn := Tryz.f9) (fun vs w => Tryz.call9 vs w) Tryz.func9 rfl (by rw [Tryz.ntmps9]; simp) (fun C hC hP hT hΓ hbt hfn hpin hfin => ?_); have hX := BX; rw [← hΓ, ← hbt.1, ← hbt.2.1, ← hbt.2.2.1] at hX; rw [Tryz.ntmps9]; simp only [AW7, simprocAttr, hX]
  refine Run.len 0 rfl fun hlen => ?_
  refine Run.R ?_
  refine Run.RW ?_
  refine Run.R ?_
  refine Run.nq ?_; refine Run.cW ?_ ?_
  · intro hc
    refine Run.R ?_
    refine Run.rW [4] (hfin _ _ rfl rfl ?_)
    have hc : l - rows.length < 0 := by simpa using hc
    simp [szII, hc]
  intro hc
  have hc : ¬ l - rows.length < 0 := by simpa using hc
  refine Run.R ?_
  refine Run.keep [0, 1, 4, 5] ?_; simp only [AK, Nat.reduceBEq]
  refine Run.loopI (X := Nat × Int) (fun x => ⟨27, [(0, true, .v (.sl false (.row false) rows)), (1, true, .v (.int .i64 x.2)), (4, true, .v (.int .i64 0)), (5, true, .v (.int .i64 x.1))], []⟩) (fun x => x.1 ≤ rows.length ∧ 0 ≤ x.2 ∧ x.2 ≤ 1048576 ∧ szII rows l = szR (rows.drop x.1) x.2) (fun x => rows.length - x.1) (0, l - rows.length) ⟨Nat.zero_le _, by simp only []; omega, by simp only []; omega, by simp [szII, hc]⟩ ?_ ?_
  · exact Le.sub (by simp only [AW7, simprocAttr]) (by simp only [AW7, simprocAttr]; try simp)
  rintro ⟨i, l2⟩ ⟨hi, hl2, hl3, hz⟩ ih
  simp only [] at hi hl2 hl3 hz ⊢
  refine Run.R ?_
  refine Run.nq ?_; refine Run.cW ?_ ?_
  · intro hc2
    have hc2 : i < rows.length := by simpa using hc2
    rw [szR_snoc hc2] at hz
    refine Run.nq ?_; refine Run.regionW hC (fun K hK => ?_); refine wW ?_
    refine FunA.cW hP hT (c_szIntS (rows.getD i []) l2 ⟨hl2, hl3⟩) ?_
    rintro rs o ⟨rfl, rfl⟩
    refine wW ?_
    refine wE ?_; clear hK K
    refine Run.R ?_
    refine Run.nq ?_; refine Run.cW ?_ ?_
    · intro hc3
      have hc3 : szI (rows.getD i []) l2 < 0 := by simpa using hc3
      rw [if_pos hc3] at hz
      refine Run.R ?_
      refine Run.rW [4] (hfin _ _ rfl rfl ?_)
      simp [hz]
    · intro hc3
      have hc3 : ¬ szI (rows.getD i []) l2 < 0 := by simpa using hc3
      rw [if_neg hc3] at hz
      refine Run.RW ?_
      refine Run.le ?_ (ih (i + 1, szI (rows.getD i []) l2) ⟨hc2, by simp only []; omega, ?_, hz⟩ (by simp only []; omega))
      · exact Le.sub (by simp only [AW7, simprocAttr]) (by simp only [AW7, simprocAttr, Option.some.injEq, Prod.mk.injEq, Sl.v.injEq, AV.int.injEq, AV.own.injEq, AV.bool.injEq]; try (repeat' apply And.intro); all_goals omega)
      · simp only []
        unfold szI
        split <;> omega
  · intro hc2
    have hc2 : i = rows.length := by simp at hc2; omega
    subst hc2
    refine Run.exit rfl ?_; refine Run.nq ?_
    refine Run.R ?_
    refine Run.rW [4] (hfin _ _ rfl rfl ?_)
    simp [hz, szR]
theorem set_fillG {α : Type} (z : α) (p : List α) (i : Nat) (h : i < p.length) : (p.take i ++ List.replicate (p.length - i) z).set i (p.getD i z) = p.take (i + 1) ++ List.replicate (p.length - (i + 1)) z := by
  obtain ⟨m, hm⟩ : ∃ m, p.length - i = m + 1 := ⟨p.length - i - 1, by omega⟩
  have hl : (p.take i).length = i := by simp; omega
  rw [hm, List.replicate_succ, List.set_append, hl, if_neg (by omega), Nat.sub_self, List.set_cons_zero, ← take_snoc z p i h, show p.length - (i + 1) = m from by omega]
  simp
theorem c_toIntSS (rows : List (List Int)) (hr : rows.length ≤ 1048576) (hrr : ∀ r ∈ rows, r.length ≤ 1048576) :
    FunA B 11 [.sl false (.row false) rows] (fun rs o => rs = [.own 0 0] ∧ ∃ hs : List (Option Nat), hs.length = rows.length ∧ o = [.mat hs rows 0 true]) := by
  refine FunA.walk B_ok (fn := Tryz.f11) (fun vs w => Tryz.call11 vs w) Tryz.func11 rfl (by rw [Tryz.ntmps11]; simp) (fun C hC hP hT hΓ hbt hfn hpin hfin => ?_); have hX := BX; rw [← hΓ, ← hbt.1, ← hbt.2.1, ← hbt.2.2.1] at hX; rw [Tryz.ntmps11]; simp only [AW7, simprocAttr, hX]
  refine Run.R ?_
  refine Run.R ?_
  refine Run.R ?_
  refine Run.keep [0, 2, 3, 4] ?_; simp only [AK, Nat.reduceBEq]
  refine Run.loopI (X := Nat × List (Option Nat)) (fun x => ⟨23, [(0, true, .v (.sl false (.row false) rows)), (2, true, .v .nils), (3, true, .v (.own 0 0)), (4, true, .v (.int .i64 x.1))], [.mat x.2 (rows.take x.1 ++ List.replicate (rows.length - x.1) []) 0 true]⟩) (fun x => x.1 ≤ rows.length ∧ x.2.length = rows.length) (fun x => rows.length - x.1) (0, List.replicate rows.length none) ⟨Nat.zero_le _, by simp⟩ ?_ ?_
  · refine Le.sub (by simp) ?_
    simp only [AW7, simprocAttr, hX]; try simp
  rintro ⟨i, hs⟩ ⟨hi, hh⟩ ih
  simp only [] at hi hh ⊢
  refine Run.R ?_
  refine Run.nq ?_; refine Run.cW ?_ ?_
  · intro hc
    have hc : i < rows.length := by simpa using hc
    refine Run.nq ?_; refine Run.regionW hC (fun K hK => ?_); refine wW ?_
    refine FunA.cW hP hT (c_toIntS (rows.getD i []) (by rw [show rows.getD i [] = rows[i] from by simp [hc]]; exact hrr _ (by simp))) ?_
    rintro rs o ⟨rfl, rfl⟩
    simp only [AW7, simprocAttr, hX]
    refine ⟨⟨by omega, by simp; omega⟩, fun l => hK _ ?_⟩
    clear hK K
    refine Run.nq ?_
    refine Run.RW ?_
    refine Run.le ?_ (ih (i + 1, hs.set i (some l)) ⟨hc, by simpa using hh⟩ (by simp only []; omega))
    refine Le.cut0 hpin [_] (by rw [← set_fillG [] rows i hc]; rfl) ?_ rfl
    simp only [AW7, simprocAttr]; try simp
  · intro hc
    have hc : i = rows.length := by simp at hc; omega
    subst hc
    refine Run.exit rfl ?_; refine Run.nq ?_
    refine Run.R ?_
    refine Run.rW [2] (hfin _ _ rfl rfl ?_)
    refine ⟨rfl, hs, hh, ?_⟩
    simp
theorem c_eqIntSS (a b : List (List Int)) (ha : a.length ≤ 4503599627370496) (hr : ∀ r ∈ a, r.length ≤ 4503599627370496) : FunA B 13 [.sl false (.row false) a, .sl false (.row false) b] (fun rs o => rs = [.bool (a == b)] ∧ o = []) := by
  refine FunA.walk B_ok (fn := Tryz.f13) (fun vs w => Tryz.call13 vs w) Tryz.func13 rfl (by rw [Tryz.ntmps13]; simp) (fun C hC hP hT hΓ hbt hfn hpin hfin => ?_); have hX := BX; rw [← hΓ, ← hbt.1, ← hbt.2.1, ← hbt.2.2.1] at hX; rw [Tryz.ntmps13]; simp only [AW7, simprocAttr, hX]
  refine Run.R ?_
  refine Run.R ?_
  refine Run.nq ?_; refine Run.cW ?_ ?_
  · intro hc
    refine Run.R ?_
    refine Run.rW [4] (hfin _ _ rfl rfl ?_)
    have : a ≠ b := fun h => by simp [h] at hc
    simpa using this
  intro hc
  have hl : a.length = b.length := by simp at hc; omega
  refine Run.R ?_
  refine Run.loopI (X := Nat) (fun i => ⟨27, [(0, true, .v (.sl false (.row false) a)), (1, true, .v (.sl false (.row false) b)), (4, true, .v (.bool false)), (5, true, .v (.int .i64 i))], []⟩) (fun i => i ≤ a.length ∧ a.take i = b.take i) (fun i => a.length - i) 0 (by simp) ?_ ?_
  · exact Le.sub (by simp only [AW7, simprocAttr]) (by simp only [AW7, simprocAttr]; try simp)
  rintro i ⟨hi, ht⟩ ih
  refine Run.R ?_
  refine Run.nq ?_; refine Run.cW ?_ ?_
  · intro hc2
    have hc2 : i < a.length := by simpa using hc2
    have hra : (a.getD i []).length ≤ 4503599627370496 := by rw [show a.getD i [] = a[i] from by simp [hc2]]; exact hr _ (by simp)
    refine Run.nq ?_
    refine Run.regionD hC true [0,1,2,3,4,5,6,7,8,9] (by kernel_rfl) (fun K hK => ?_)
    simp only [AW7, simprocAttr, hX]
    (repeat (with_reducible refine And.intro ?_ ?_); exact vc0)
    refine FunA.callD hP hT (c_eqIntS (a.getD i []) (b.getD i []) hra) (by simp only [AW7, simprocAttr]) ?_
    rintro rs o ⟨rfl, rfl⟩
    refine wW ?_
    refine wE ?_; clear hK K
    refine Run.nq ?_; refine Run.cW ?_ ?_
    · intro hne
      refine Run.R ?_
      refine Run.rW [4] (hfin _ _ rfl rfl ?_)
      have : a ≠ b := fun h => by simp [h] at hne
      simpa using this
    · intro he
      have he : a.getD i [] = b.getD i [] := by
        revert he
        cases h : (a.getD i [] == b.getD i []) with
        | true => intro _; simpa using h
        | false => intro he; cases he
      refine Run.RW ?_
      refine Run.le ?_ (ih (i + 1) ⟨hc2, ?_⟩ (by omega))
      · exact Le.sub (by simp only [AW7, simprocAttr]) (by simp only [AW7, simprocAttr, Option.some.injEq, Prod.mk.injEq, Sl.v.injEq, AV.int.injEq, AV.own.injEq, AV.bool.injEq]; try (repeat' apply And.intro); all_goals omega)
      · rw [← take_snoc [] a i hc2, ← take_snoc [] b i (by omega), ht, he]
  · intro hc2
    have hc2 : i = a.length := by simp at hc2; omega
    refine Run.exit rfl ?_; refine Run.nq ?_
    refine Run.R ?_
    refine Run.rW [4] (hfin _ _ rfl rfl ?_)
    have : a = b := by rw [hc2, List.take_length, hl, List.take_length] at ht; exact ht
    simp [this]
end Go.Proofs.YtaghdbbcadhjdaaGreatDoor
