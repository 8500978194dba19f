/- Rows of one's own that are written in place: a pool of rows. -/
import Derived.Test.YtnhiamdnghgboaaAw4
set_option linter.unusedVariables false
set_option linter.unusedSimpArgs false
namespace Go.Aw
open Go

theorem regO_gm (g g' : Nat) (D : List Nat) (F : Nat → List Int) (hs : List Nat) (nn : Bool) : regO g (.gm D F hs g' nn) = .gm D F hs (g + g') nn := rfl

/-- A pool of one's own, lent. -/
theorem FunO.callGm {B C : Ctx} (hP : B.P = C.P) (hT : B.tid = C.tid) {f : FuncId} {args0 : List AV} {D : List Nat} {F : Nat → List Int} {hs : List Nat} {nn : Bool} {post : List AV → List O → Prop} (h : FunO B f args0 (.gm D F hs 0 nn) post) {obs : List O} {args : List AV} (i0 g : Nat) {nn' : Bool}
    (ho : oAt obs i0 = .gm D F hs g nn') (hnn : nn = true → nn' = true) (ha : argsOkM obs i0 g args args0)
    {K : Sl → List O → Prop} (hk : ∀ rs o' obs', post rs (o' :: obs') → K (resM i0 g obs.length rs) (oSet obs i0 (regO g o') ++ obs')) : ACall C obs f args fun x o => Later (K x o) :=
  FunO.callX hP hT h i0 g ho rfl rfl (fun _ _ => Iff.rfl) (fun w V V' v _ k => by
    have h1 : ORel B.tid w V' v (.gm D F hs 0 nn') := ORel.gm_tid (congrFun hT .lrow).symm (congrFun hT .int).symm k
    obtain ⟨cs, k1, k2, k3, k4, k5, k6, k7⟩ := h1
    exact ⟨cs, k1, k2, k3, k4, k5, fun k => k6 (hnn k), k7⟩) ha hk

def gmA : AV → AV
  | .sl _ _ xs => .lenv xs.length
  | .lr _ xs => .lenv xs.length
  | .relt .. => .junk
  | .elt .. => .junk
  | x => x
def gmC (s : Nat) : Option (Bool × Sl) → List (Nat × Bool × AV) → List (Nat × Bool × AV)
  | some (ex, .v x), l => (s, ex, gmA x) :: l
  | _, l => l
def gmF (fr : List (Nat × Bool × Sl)) : List Nat → List (Nat × Bool × AV)
  | [] => []
  | s :: ks => gmC s (look s fr) (gmF fr ks)

theorem gmF_look {fr : List (Nat × Bool × Sl)} : ∀ {ks : List Nat} {s : Nat} {ex : Bool} {x : Sl}, look s (frV (gmF fr ks)) = some (ex, x) → ∃ y, look s fr = some (ex, .v y) ∧ x = .v (gmA y)
  | [], s, ex, x, h => by simp [look, gmF, frV] at h
  | t :: ks, s, ex, x, h => by
    simp only [gmF] at h
    cases hl : look t fr with
    | none => rw [hl] at h; exact gmF_look h
    | some p =>
      obtain ⟨e2, y⟩ := p
      rw [hl] at h
      cases y with
      | t l => exact gmF_look h
      | v y =>
        simp only [gmC, frV, List.map_cons, look] at h
        split at h
        · rename_i ht
          have : s = t := by simpa using ht
          subst this
          cases h
          exact ⟨y, hl, rfl⟩
        · exact gmF_look h

def flatOb : O → Bool
  | .dead => true
  | .arr .int _ _ _ => true
  | _ => false
def flatBut (id : Nat) : Nat → List O → Bool
  | _, [] => true
  | k, o :: r => (k == id || flatOb o) && flatBut id (k + 1) r
theorem flatBut_at {id : Nat} : ∀ {obs : List O} {k : Nat}, flatBut id k obs = true → ∀ {j : Nat} {o : O}, obs[j]? = some o → k + j ≠ id → flatOb o = true
  | [], k, h, j, o, ho, hj => by simp at ho
  | o' :: r, k, h, 0, o, ho, hj => by
    simp only [flatBut, Bool.and_eq_true, Bool.or_eq_true, beq_iff_eq] at h
    simp at ho; subst ho
    exact h.1.resolve_left hj
  | o' :: r, k, h, j + 1, o, ho, hj => by
    simp only [flatBut, Bool.and_eq_true] at h
    exact flatBut_at h.2 (j := j) (by simpa using ho) (by omega)

/-- Rows that one owns, under their blocks' numbers, are written in place from here on. -/
theorem Run.togm {C : Ctx} {k : List Item} (id : Nat) (ks : List Nat) {n : Nat} {fr : List (Nat × Bool × Sl)} {obs : List O} {g : Nat} {ys : List (Nat × List Int)} {nn : Bool} (ho : oAt obs id = .arr .lrow ys g nn)
    (hL : ∀ b, ¬ C.L b) (hn : (ys.map (·.1)).Nodup) (hf : flatBut id 0 obs = true)
    (h : ∀ (hs : List Nat) (F : Nat → List Int), hs.Nodup → hs.map F = ys.map (·.2) → Run C k ⟨n, frV (gmF fr ks), oSet obs id (.gm hs F hs g nn)⟩) : Run C k ⟨n, fr, obs⟩ := by
  intro a w ρ r
  have hid : id < obs.length := by
    rcases Nat.lt_or_ge id obs.length with h | h
    · exact h
    · rw [oAt_eq, List.getElem?_eq_none h] at ho; cases ho
  have ho' : obs[id]? = some (.arr .lrow ys g nn) := by rw [oAt_get hid, ho]
  obtain ⟨cs, hown, henc, hnn, hml⟩ := r.w.os id _ ho'
  have hlen : cs.length = ys.length := by simpa [E.size] using henc.1
  have hrow : ∀ i (hi : i < ys.length), ∃ cap cur, cs[i]? = some (.slice (some ⟨ys[i].1, 0, none⟩) ys[i].2.length cap) ∧ (C.V w obs ρ).Fr ys[i].1 ∧ (C.V w obs ρ).H ys[i].1 = some (.cells cur (C.tid .int) (0, 0)) ∧ ys[i].2.length ≤ cap ∧ cap ≤ maxLen ∧ cur.size = cap ∧ cur.toList.take ys[i].2.length = ys[i].2.map (Value.int .i64) := by
    intro i hi
    obtain ⟨u, hu, hc⟩ := henc.2 i hi
    have hu' : LRowRel (C.V w obs ρ) ys[i].1 ys[i].2 u := hu
    obtain ⟨cap, cur, hv, h1, h2, h3, h4, h5, h6⟩ := hu'
    have hc0 := hc 0 (by simp [E.size])
    simp only [E.size, Nat.mul_one, Nat.add_zero] at hc0
    refine ⟨cap, cur, ?_, h1, h2, h3, h4, h5, h6⟩
    rw [hc0, cells_oneCell (by rw [hv]; rfl), hv]
    simp
  let hs : List Nat := cs.map fun u => (rowHd (some u)).getD 0
  have hhs : ∀ i (hi : i < ys.length), ∃ cap, cap ≤ maxLen ∧ hs[i]? = some (ys[i].1 * 18446744073709551616 + cap) ∧ cs[i]? = some (.slice (some ⟨ys[i].1, 0, none⟩) ys[i].2.length cap) := by
    intro i hi
    obtain ⟨cap, cur, h1, _, _, _, h4, _⟩ := hrow i hi
    exact ⟨cap, h4, by simp only [hs, List.getElem?_map, h1]; rfl, h1⟩
  have hsl : hs.length = ys.length := by simp [hs, hlen]
  have hB : ∀ i (hi : i < ys.length), hdB (hs[i]'(by omega)) = ys[i].1 := fun i hi => by
    obtain ⟨cap, h1, h2, _⟩ := hhs i hi
    rw [List.getElem?_eq_getElem (by omega)] at h2
    rw [Option.some.inj h2]
    exact (hd_mk _ _ h1).1
  have hlab : ∀ i j (hi : i < ys.length) (hj : j < ys.length), ys[i].1 = ys[j].1 → i = j := fun i j hi hj e => by
    have hp := List.pairwise_iff_getElem.1 hn
    rcases Nat.lt_trichotomy i j with h1 | h1 | h1
    · exact (hp i j (by simpa using hi) (by simpa using hj) h1 (by simpa using e)).elim
    · exact h1
    · exact (hp j i (by simpa using hj) (by simpa using hi) h1 (by simpa using e.symm)).elim
  have hnd : hs.Nodup := by
    refine List.pairwise_iff_getElem.2 fun i j hi hj hij e => ?_
    have h1 := hB i (by omega)
    have h2 := hB j (by omega)
    have := hlab i j (by omega) (by omega) (by rw [← h1, ← h2, e])
    omega
  let F : Nat → List Int := fun q => (ys.getD (hs.idxOf q) (0, [])).2
  have hF : ∀ i (hi : i < ys.length), F (hs[i]'(by omega)) = ys[i].2 := fun i hi => by
    simp only [F]
    rw [List.Nodup.idxOf_getElem hnd]
    simp [List.getD, List.getElem?_eq_getElem hi]
  have hmap : hs.map F = ys.map (·.2) := by
    apply List.ext_getElem
    · simp [hsl]
    · intro i h1 h2
      simp only [List.getElem_map]
      exact hF i (by simpa using h2)
  have vis : ∀ i (hi : i < ys.length), ¬ Own obs ρ ys[i].1 ∧ ∃ cur, w.heap[ys[i].1]? = some (.cells cur (C.tid .int) (0, 0)) := fun i hi => by
    obtain ⟨cap, cur, _, _, h2, _⟩ := hrow i hi
    exact ⟨(H_vis h2).1, cur, (H_vis h2).2⟩
  have mem : ∀ q, q ∈ hs → ∃ i, ∃ (hi : i < ys.length), q = hs[i]'(by omega) ∧ hdB q = ys[i].1 := fun q hq => by
    obtain ⟨i, hi, e⟩ := List.getElem_of_mem hq
    exact ⟨i, by omega, e.symm, by rw [← e]; exact hB i (by omega)⟩
  have hset : ∀ (j : Nat) (o : O), (obs.set id (.gm hs F hs g nn))[j]? = some o → (j = id ∧ o = .gm hs F hs g nn) ∨ (j ≠ id ∧ obs[j]? = some o) := fun j o hj => by
    by_cases e : j = id
    · subst e
      rw [List.getElem?_set_self hid] at hj
      exact .inl ⟨rfl, (Option.some.inj hj).symm⟩
    · rw [List.getElem?_set_ne (Ne.symm e)] at hj
      exact .inr ⟨e, hj⟩
  have hgen : ∀ j, genOf (obs.set id (.gm hs F hs g nn)) j = genOf obs j := fun j => by
    unfold genOf
    by_cases e : j = id
    · subst e
      rw [List.getElem?_set_self hid, ho']; rfl
    · rw [List.getElem?_set_ne (Ne.symm e)]
  have hidb : ∀ b, (ρ id).ownBlock = some b → Own obs ρ b := fun b hb => ⟨id, _, ho', hb⟩
  refine h hs F hnd hmap a w ρ ⟨r.defers, r.size, fun s ex x hl => ?_, ?_, ?_⟩
  · rw [oSet_eq]
    obtain ⟨y, h1, rfl⟩ := gmF_look hl
    obtain ⟨k1, k2⟩ := r.fr s ex _ h1
    refine ⟨fun he => ?_, k2⟩
    have h2 : AVRel (C.V w obs ρ) obs ρ y (a.tmps.getD s undef) := k1 he
    show AVRel _ _ ρ (gmA y) _
    cases y with
    | sl f e xs => obtain ⟨b, c, hv, _⟩ := h2; exact ⟨b, c, hv⟩
    | lr l xs => obtain ⟨c, cur, hv, _⟩ := h2; exact ⟨_, c, hv⟩
    | relt f e d => trivial
    | elt i g s k => trivial
    | own i g' => exact ⟨by simpa using h2.1, fun c hc => h2.2 c (by rw [← hgen]; exact hc)⟩
    | _ => exact h2
  · rw [oSet_eq]
    refine ⟨fun j o hj => ?_, fun i j o o' b hi hj bi bj => ?_, fun b ⟨j, o, hj, hb⟩ => ?_, r.w.os0, r.w.tape, r.w.output, r.w.grow, r.w.drawn, r.w.kept⟩
    · rcases hset j o hj with ⟨rfl, rfl⟩ | ⟨hne, hj⟩
      · refine ⟨cs, by rw [hsl]; exact hown, fun i q u hq hu => ?_, fun q hq => ?_, fun q q' hq hq' e => ?_, fun q hq e => ?_, hnn, by rw [hsl]; exact hml⟩
        · have hi : i < hs.length := (List.getElem?_eq_some_iff.1 hq).1
          have hi2 : i < ys.length := by omega
          obtain ⟨cap, h1, h2, h3⟩ := hhs i hi2
          rw [h3] at hu
          rw [h2] at hq
          have e1 := Option.some.inj hq
          subst e1
          have hFi := hF i hi2
          rw [List.getElem?_eq_getElem hi] at h2
          rw [Option.some.inj h2] at hFi
          exact ⟨by rw [← Option.some.inj h2]; exact List.getElem_mem _, by rw [← Option.some.inj hu, hFi, (hd_mk _ _ h1).1, (hd_mk _ _ h1).2]⟩
        · obtain ⟨i, hi, rfl, e2⟩ := mem q hq
          obtain ⟨cap, cur, h1, _, h2, h3, h4, h5, h6⟩ := hrow i hi
          obtain ⟨cap', g1, g2, g3⟩ := hhs i hi
          rw [g3] at h1
          cases h1
          rw [List.getElem?_eq_getElem (by omega)] at g2
          have e3 := Option.some.inj g2
          refine ⟨rfl, cur, ?_, ?_, ?_, ?_, ?_⟩
          · rw [e2]; exact (H_vis h2).2
          · rw [hF i hi, e3, (hd_mk _ _ g1).2]; exact h3
          · rw [e3, (hd_mk _ _ g1).2]; exact g1
          · rw [e3, (hd_mk _ _ g1).2]; exact h5
          · rw [hF i hi]; exact h6
        · obtain ⟨i, hi, e1, e2⟩ := mem q hq
          obtain ⟨j, hj, e3, e4⟩ := mem q' hq'
          have := hlab i j hi hj (by rw [← e2, ← e4, e])
          subst this
          rw [e1, e3]
        · obtain ⟨i, hi, e1, e2⟩ := mem q hq
          exact (vis i hi).1 (hidb _ (by rw [← e2]; exact e))
      · have hfl := flatBut_at hf hj (by omega)
        have hold := r.w.os j o hj
        cases o with
        | dead => trivial
        | arr e xs g' nn' =>
          cases e <;> first | (simp [flatOb] at hfl; done) | skip
          obtain ⟨cs, q1, q2, q3, q4⟩ := hold
          exact ⟨cs, q1, ⟨q2.1, fun i hi => q2.2 i hi⟩, q3, q4⟩
        | mat _ _ _ _ => simp [flatOb] at hfl
        | gm _ _ _ _ _ => simp [flatOb] at hfl
    · have cross : ∀ (i j : Nat) (o : O), i ≠ j → obs[i]? = some (.arr .lrow ys g nn) → obs[j]? = some o → fpo (ρ i) (.gm hs F hs g nn) b → fpo (ρ j) o b → i = id → False := by
        intro i j o hij hi hj b1 b2 e
        rcases b1 with b1 | ⟨q, hq, b1⟩
        · exact hij (r.w.dis i j _ o b hi hj b1 b2)
        · obtain ⟨k, hk, _, e2⟩ := mem q hq
          exact (vis k hk).1 ⟨j, o, hj, by rw [← e2, b1]; exact b2⟩
      rcases hset i o hi with ⟨e1, rfl⟩ | ⟨hne, hi⟩
      · rcases hset j o' hj with ⟨e2, rfl⟩ | ⟨hne2, hj⟩
        · rw [e1, e2]
        · exact (cross i j o' (by rw [e1]; exact Ne.symm hne2) (by rw [e1]; exact ho') hj bi bj e1).elim
      · rcases hset j o' hj with ⟨e2, rfl⟩ | ⟨hne2, hj⟩
        · exact (cross j i o (by rw [e2]; exact Ne.symm hne) (by rw [e2]; exact ho') hi bj bi e2).elim
        · exact r.w.dis i j o o' b hi hj bi bj
    · rcases hset j o hj with ⟨e1, rfl⟩ | ⟨hne, hj⟩
      · rcases hb with hb | ⟨q, hq, hb⟩
        · exact r.w.own b (hidb b (by rw [← e1]; exact hb))
        · obtain ⟨i, hi, _, e2⟩ := mem q hq
          obtain ⟨cap, cur, _, hF2, _⟩ := hrow i hi
          have : C.Fr ys[i].1 := hF2
          rw [← e2, hb] at this
          exact this.elim (fun k => k) (fun k => (hL _ k).elim)
      · exact r.w.own b ⟨j, o, hj, hb⟩
  · intro j v hj
    rw [oSet_eq]
    obtain ⟨k1, k2⟩ := r.pin j v hj
    exact ⟨by simpa using k1, fun hg => k2 (by rw [← hgen]; exact hg)⟩

theorem gmA_own (id g : Nat) : gmA (.own id g) = .own id g := rfl
theorem gmA_int (k : IntKind) (n : Int) : gmA (.int k n) = .int k n := rfl
theorem gmA_bool (b : Bool) : gmA (.bool b) = .bool b := rfl
theorem gmA_sl (f : Bool) (e : E) (xs : List e.D) : gmA (.sl f e xs) = .lenv xs.length := rfl
theorem gmA_lr (l : Nat) (xs : List Int) : gmA (.lr l xs) = .lenv xs.length := rfl
theorem gmC_some (s : Nat) (ex : Bool) (x : AV) (l : List (Nat × Bool × AV)) : gmC s (some (ex, .v x)) l = (s, ex, gmA x) :: l := rfl
theorem gmC_none (s : Nat) (l : List (Nat × Bool × AV)) : gmC s none l = l := rfl
theorem gmF_nil (fr : List (Nat × Bool × Sl)) : gmF fr [] = [] := rfl
theorem gmF_cons (fr : List (Nat × Bool × Sl)) (s : Nat) (ks : List Nat) : gmF fr (s :: ks) = gmC s (look s fr) (gmF fr ks) := rfl
theorem AG : type_of% @gmA_own ∧ type_of% @gmA_int ∧ type_of% @gmA_bool ∧ type_of% @gmA_sl ∧ type_of% @gmA_lr ∧ type_of% @gmC_some ∧ type_of% @gmC_none ∧ type_of% @gmF_nil ∧ type_of% @gmF_cons := ⟨@gmA_own, @gmA_int, @gmA_bool, @gmA_sl, @gmA_lr, @gmC_some, @gmC_none, @gmF_nil, @gmF_cons⟩
theorem AW5 : type_of% @AW4 ∧ type_of% @Q_lenG ∧ type_of% @Q_idxG ∧ type_of% @Q_loadG ∧ type_of% @Q_storeG ∧ type_of% @Q_stH ∧ type_of% @Q_st_hdr ∧ type_of% @Q_len_hdr ∧ type_of% @Q_idx_hdr ∧ type_of% @Q_load_hp ∧ type_of% @Q_store_hp ∧ type_of% @Q_len_lenv ∧ type_of% @regO_gm ∧ type_of% @X_callT ∧ type_of% @leO_gm :=
  ⟨@AW4, @Q_lenG, @Q_idxG, @Q_loadG, @Q_storeG, @Q_stH, @Q_st_hdr, @Q_len_hdr, @Q_idx_hdr, @Q_load_hp, @Q_store_hp, @Q_len_lenv, @regO_gm, @X_callT, @leO_gm⟩
end Go.Aw
