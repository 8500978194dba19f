/- The classes of conjugate elements: the program's side. -/
import Derived.Test.YtaghdbbcadhjdaaGreatDoorB18
import Derived.Test.YtaghdbbcadhjdaaGreatDoorB10
import Derived.Test.YtaghdbbcadhjdaaGreatDoorB15
import Derived.HandedShaped
import Derived.Handed
import Derived.Shelf.Vars
set_option linter.unusedVariables false
set_option linter.unusedSimpArgs false
namespace Go.Proofs.YtaghdbbcadhjdaaGreatDoor
open Go Go.Aw Go.Cox
section
variable {c : List (List Int)} (hF : FinP c)
include hF
theorem cj_mem {k : Int} (hk : 0 ≤ k ∧ k < (allL c).length) {s : Nat} (hs : s < c.length) : redL c ([(s : Int)] ++ (allL c).getD k.toNat [] ++ [(s : Int)]) ∈ allL c ∧ letters c.length ([(s : Int)] ++ (allL c).getD k.toNat [] ++ [(s : Int)]) ∧ ([(s : Int)] ++ (allL c).getD k.toNat [] ++ [(s : Int)]).length ≤ 26 := by
  have hall := allL_spec hF
  have hm : (allL c).getD k.toNat [] ∈ allL c := by rw [List.getD_eq_getElem?_getD, List.getElem?_eq_getElem (by omega)]; exact List.getElem_mem _
  have hnf := (hall.2 _).1 hm
  have h24 := fin_len hF _ (hnf.far hF.1)
  have hl : letters c.length ([(s : Int)] ++ (allL c).getD k.toNat [] ++ [(s : Int)]) := letters_append.2 ⟨letters_append.2 ⟨letter1 hs, hnf.1⟩, letter1 hs⟩
  have hln : ([(s : Int)] ++ (allL c).getD k.toNat [] ++ [(s : Int)]).length ≤ 26 := by simp only [List.length_append, List.length_cons, List.length_nil]; omega
  obtain ⟨L, _, _, hfar⟩ := Far.image hF.1 hl
  have hL := fin_len hF _ hfar
  obtain ⟨h1, _⟩ := red_far hF.1 hfar (by omega)
  exact ⟨(hall.2 _).2 (nf_red hF.1 hl (by omega) (by omega)), hl, hln⟩
theorem ccS_good {k : Int} (hk : 0 ≤ k ∧ k < (allL c).length) {s : Nat} (hs : s < c.length) {st : List Bool × List Int} (h : GoodC (allL c).length st) : GoodC (allL c).length (ccS c (allL c) k st s) := by
  obtain ⟨h1, h2, _⟩ := ixL_mem (cj_mem hF hk hs).1
  unfold ccS
  cases e : st.1.getD (cjI c (allL c) k s).toNat false
  · rw [if_neg (by decide)]; exact h.put ⟨h1, h2⟩ e
  · rw [if_pos rfl]; exact h
end
theorem getD_appL {a b : List Int} {n : Nat} (h : n < a.length) : (a ++ b).getD n 0 = a.getD n 0 := by
  simp [List.getD_eq_getElem?_getD, List.getElem?_append, h]
set_option maxHeartbeats 1000000 in
theorem c_impl_ConjugacyClassesR (c : List (List Int)) : FunA BJ 27 [.sl false (.row false) c] (fun rs o => ∃ ys g nn rest, (rw2 ys = ccX c ∧ nn = true ∧ rest = [.bool (elsB c 48)]) ∧ (lb1 ys).Nodup ∧ rest.all flatAV = true ∧ rs = .own 0 g :: rest ∧ o = [.arr .lrow ys g nn]) := by
  refine FunA.walk BJ_ok (fn := Tryz.f27) (fun vs w => Tryz.call27 vs w) Tryz.func27 rfl (by rw [Tryz.ntmps27]; simp) (fun C hC hP hT hΓ hbt hfn hpin hfin => ?_); haveI hDJ : DrLe BJ C := ⟨fun h => by rw [hbt.2.2.2] at h; cases h⟩; have hPJ := hP; have hTJ := hT; replace hP : B.P = C.P := hP; replace hT : B.tid = C.tid := hT; have hX := BXJ; rw [← hΓ, ← hbt.1, ← hbt.2.1, ← hbt.2.2.1] at hX; rw [hTJ] at hX; rw [Tryz.ntmps27]; simp only [AW7, simprocAttr, hX]
  refine Run.R ?_
  cases he : elsB c 48 with
  | false =>
    refine Run.nq ?_; refine Run.regionW hC (fun K hK => ?_); refine wW ?_
    refine FunA.cW hPJ hTJ (c_impl_few0 c he) ?_
    rintro rs o ⟨rfl, rfl⟩
    refine wW ?_
    refine wE ?_; clear hK K
    refine Run.R ?_
    refine Run.nq ?_; refine Run.cW ?_ ?_
    rotate_left
    · intro h; cases h
    intro _
    refine Run.R ?_
    refine Run.reK hpin [2, 3] [0] (by decide) (by simp) ?_; simp only [AR, AW7, simprocAttr]
    refine Run.rW [2, 3] (hfin _ _ rfl rfl ?_)
    exact ⟨[], 0, true, [.bool (elsB c 48)], ⟨by unfold ccX; rw [he]; rfl, rfl, rfl⟩, by simp [lb1], rfl, by rw [he], rfl⟩
  | true =>
    obtain ⟨hF, _, hl200, _⟩ := elsB_fin he (by omega)
    have hc := hF.1
    have hn := hc.2.1
    have hall := allL_spec hF
    have hand : (allL c).Nodup := List.Pairwise.imp (fun {a b} h e => by rw [e, cmpW_self] at h; omega) hall.1
    have hal : ∀ r ∈ allL c, letters 4 r ∧ r.length ≤ 100 := fun r hr => by
      have h1 := (hall.2 r).1 hr
      exact ⟨fun x hx => by have := h1.1 x hx; omega, by have := h1.2.2; omega⟩
    have hccx : ccX c = ccL c (allL c) := by unfold ccX; rw [he]; rfl
    refine Run.nq ?_; refine Run.regionW hC (fun K hK => ?_); refine wW ?_
    refine FunA.cW hPJ hTJ (c_impl_few1 c he) ?_
    rintro rs o ⟨zs, ⟨hz, _⟩, rfl, rfl⟩
    have hzl : zs.length = (allL c).length := by rw [← hz, rwl]
    have hmap : zs.map (·.2) = allL c := hz
    refine wW ?_
    refine wE ?_; clear hK K
    refine Run.R ?_
    refine Run.nq ?_; refine Run.cW ?_ ?_
    · intro h; cases h
    intro _
    refine Run.nq ?_; refine Run.regionW hC (fun K hK => ?_); refine wW ?_
    refine FunA.cW hP hT (c_impl_places (zs.map (·.2)) (by rw [hmap]; exact hal) (by rw [hmap]; exact hand) (by rw [hmap]; omega)) ?_
    rintro rs o ⟨rfl, m, hm, rfl⟩
    rw [hmap] at hm
    refine wW ?_
    refine wE ?_; clear hK K
    refine Run.R ?_
    refine Run.R ?_
    refine Run.R ?_
    refine Run.reK hpin [0, 4, 6, 7, 8, 29, 30] [0, 1, 2] (by decide) (by simp) ?_; simp only [AR, AW7, simprocAttr]
    refine Run.loopI (X := Nat × List Bool × List (Nat × List Int)) (fun x => ⟨92, [(0, true, .v (.sl false (.row false) (c))), (4, true, .v (.sl true .lrow (zs))), (6, true, .v (.own 0 0)), (7, true, .v (.own 1 0)), (8, true, .v (.own 2 0)), (29, true, .v (.int .i64 ((zs.length : Nat)))), (30, true, .v (.int .i64 (x.1)))], [.mp ⟨false, true⟩ m 0, .arr .bool (x.2.1) 0 true, .arr .lrow (x.2.2) 0 true]⟩) (fun x => (x.1 ≤ zs.length ∧ x.2.2.length ≤ x.1) ∧ (List.range x.1).foldl (ccO c (allL c)) (List.replicate (allL c).length false, []) = (x.2.1, rw2 x.2.2) ∧ (lb1 x.2.2).Nodup ∧ x.2.1.length = (allL c).length) (fun x => zs.length - x.1) ((0, List.replicate zs.length false, [])) (⟨⟨Nat.zero_le _, Nat.le_refl _⟩, by simp only [List.range_zero, List.foldl_nil, hzl, rw2, List.map_nil], by simp [lb1], by simp [hzl]⟩) ?_ ?_
    · exact Le.sub (by first | rfl | simp) (by simp only [AW7, simprocAttr, hX]; try simp <;> try (first | rfl | exact ⟨rfl, rfl⟩ | exact ⟨rfl, rfl, rfl⟩))
    rintro ⟨k, seen, ys⟩ ⟨⟨hk, hyk⟩, hE, hN, hsl⟩ ihO
    try simp only []
    simp only [] at hk hyk hE hN hsl
    refine Run.R ?_
    refine Run.nq ?_; refine Run.cW ?_ ?_
    rotate_left
    · intro h
      have h : k = zs.length := by rw [decide_eq_false_iff_not] at h; omega
      refine Run.exit rfl ?_; refine Run.nq ?_
      refine Run.R ?_
      refine Run.reK hpin [2, 3] [2] (by decide) (by simp) ?_; simp only [AR, AW7, simprocAttr]
      refine Run.rW [2, 3] (hfin _ _ rfl rfl ?_)
      refine ⟨ys, 0, true, [.bool (elsB c 48)], ⟨?_, rfl, rfl⟩, hN, rfl, by rw [he], rfl⟩
      rw [hccx]
      unfold ccL
      rw [show (allL c).length = k by omega] at hE ⊢
      rw [hE]
    intro h
    have h : k < zs.length := by rw [decide_eq_true_eq] at h; omega
    have hstO := foldl_rs (ccO c (allL c)) (List.replicate (allL c).length false, []) k
    rw [hE] at hstO
    refine Run.R ?_
    refine Run.R ?_
    refine Run.nq ?_; refine Run.cW ?_ ?_
    · intro h2
      rw [ccO_seen (st := (seen, rw2 ys)) h2] at hstO
      refine Run.exit rfl ?_; refine Run.nq ?_
      refine Run.RW ?_
      refine Run.reK hpin [0, 4, 6, 7, 8, 29, 30] [0, 1, 2] (by decide) (by simp) ?_; simp only [AR, AW7, simprocAttr]
      refine Run.le ?_ (ihO ((k + 1, seen, ys)) (⟨⟨h, by simp only []; omega⟩, hstO, hN, hsl⟩) (by (try simp only [List.length_append, List.length_cons, List.length_nil]); omega))
      exact Le.sub (by rfl) (by simp only [AW7, simprocAttr]; try simp)
    intro h2
    rw [ccO_new (st := (seen, rw2 ys)) h2] at hstO
    simp only [] at hstO
    have hg0 : GoodC (allL c).length (seen.set k true, [(k : Int)]) := by
      refine ⟨by simpa using hsl, by simp, fun x hx => ?_⟩
      simp at hx; subst hx
      exact ⟨by omega, by omega, by rw [Int.toNat_natCast, getD_setB _ _ _ (by omega), if_pos rfl]⟩
    generalize hR : ccW c (allL c) (allL c).length 0 (seen.set k true, [(k : Int)]) = R at hstO
    refine Run.R ?_
    refine Run.R ?_
    refine Run.R ?_
    refine Run.reK hpin [0, 4, 6, 7, 8, 29, 30, 10, 11] [0, 1, 2, 3] (by decide) (by simp) ?_; simp only [AR, AW7, simprocAttr]
    refine Run.loopI (X := Nat × List Bool × List Int) (fun y => ⟨92, [(0, true, .v (.sl false (.row false) (c))), (4, true, .v (.sl true .lrow (zs))), (6, true, .v (.own 0 0)), (7, true, .v (.own 1 0)), (8, true, .v (.own 2 0)), (29, true, .v (.int .i64 ((zs.length : Nat)))), (30, true, .v (.int .i64 (k))), (10, true, .v (.own 3 0)), (11, true, .v (.int .i64 (y.1)))], [.mp ⟨false, true⟩ m 0, .arr .bool (y.2.1) 0 true, .arr .lrow (ys) 0 true, .arr .int (y.2.2) 0 true]⟩) (fun y => GoodC (allL c).length y.2 ∧ y.1 ≤ y.2.2.length ∧ ccW c (allL c) ((allL c).length - y.1) y.1 y.2 = R) (fun y => (allL c).length - y.1) ((0, seen.set k true, [(k : Int)])) (⟨hg0, Nat.zero_le _, by simp only [Nat.sub_zero]; exact hR⟩) ?_ ?_
    · exact Le.sub (by first | rfl | simp) (by simp only [AW7, simprocAttr, hX]; try simp <;> try (first | rfl | exact ⟨rfl, rfl⟩ | exact ⟨rfl, rfl, rfl⟩))
    rintro ⟨n, sn, cl⟩ ⟨hG, hn2, hW⟩ ihK
    try simp only []
    simp only [] at hG hn2 hW
    have hcl := hG.len
    simp only [] at hcl
    refine Run.R ?_
    refine Run.nq ?_; refine Run.cW ?_ ?_
    rotate_left
    · intro h3
      have h3 : n = cl.length := by rw [decide_eq_false_iff_not] at h3; omega
      have hRe : R = (sn, cl) := by rw [← hW]; exact ccW_stop c (allL c) _ _ _ (by simp only []; omega)
      rw [hRe] at hstO
      simp only [] at hstO
      have hcb : cl.length ≤ 1048576 := by omega
      have hzb : (ys.length + 1) * 24 ≤ 140737488355328 := by omega
      have hsl2 : sn.length = (allL c).length := hG.l
      refine Run.exit rfl ?_; refine Run.nq ?_
      refine Run.nq ?_; refine Run.regionW hC (fun K hK => ?_); refine wW ?_
      refine ACall.sortI hPJ hTJ sortIL rfl (fun vs w => Tryz.call55 vs w) 3 0 rfl hcb ?_
      refine wW ?_
      refine wE ?_; clear hK K
      refine Run.nq ?_; refine Run.regionW hC (fun K hK => ?_); refine wW ?_
      intro q hq
      refine wW ?_
      refine wE ?_; clear hK K
      refine Run.RW ?_
      refine Run.reK hpin [0, 4, 6, 7, 8, 29, 30] [0, 1, 2] (by decide) (by simp) ?_; simp only [AR, AW7, simprocAttr]
      refine Run.le ?_ (ihO ((k + 1, sn, ys ++ [(q, Go.Proofs.YtaghdbbcadhjdaaGreatDoor.sortI cl)])) (⟨⟨h, by simp only [List.length_append, List.length_cons, List.length_nil]; omega⟩, by rw [hstO]; simp [rw2], row_fresh hN (fun p hp => hq _ (List.mem_cons_of_mem _ (List.mem_cons_of_mem _ (List.mem_cons_self ..))) _ _ _ rfl p hp), hsl2⟩) (by (try simp only [List.length_append, List.length_cons, List.length_nil]); omega))
      exact Le.sub (by rfl) (by simp only [AW7, simprocAttr]; try simp)
    intro h3
    have h3 : n < cl.length := by rw [decide_eq_true_eq] at h3; omega
    rw [show (allL c).length - n = ((allL c).length - (n + 1)) + 1 by omega] at hW
    unfold ccW at hW
    rw [if_pos (by simp only []; exact h3)] at hW
    have hkm : cl.getD n 0 ∈ cl := by rw [List.getD_eq_getElem?_getD, List.getElem?_eq_getElem h3]; exact List.getElem_mem _
    obtain ⟨hk1, hk2, _⟩ := hG.mem _ hkm
    unfold ccK at hW
    simp only [] at hW hk1 hk2
    refine Run.R ?_
    refine Run.reK hpin [0, 4, 6, 7, 8, 29, 30, 10, 11, 49, 50] [0, 1, 2, 3] (by decide) (by simp) ?_; simp only [AR, AW7, simprocAttr]
    refine Run.loopI (X := Nat × List Bool × List Int) (fun z => ⟨92, [(0, true, .v (.sl false (.row false) (c))), (4, true, .v (.sl true .lrow (zs))), (6, true, .v (.own 0 0)), (7, true, .v (.own 1 0)), (8, true, .v (.own 2 0)), (29, true, .v (.int .i64 ((zs.length : Nat)))), (30, true, .v (.int .i64 (k))), (10, true, .v (.own 3 0)), (11, true, .v (.int .i64 (n))), (49, true, .v (.int .i64 ((c.length : Nat)))), (50, true, .v (.int .i64 (z.1)))], [.mp ⟨false, true⟩ m 0, .arr .bool (z.2.1) 0 true, .arr .lrow (ys) 0 true, .arr .int (z.2.2) 0 true]⟩) (fun z => z.1 ≤ c.length ∧ GoodC (allL c).length z.2 ∧ (List.range z.1).foldl (ccS c (allL c) (cl.getD n 0)) (sn, cl) = z.2 ∧ n < z.2.2.length ∧ z.2.2.getD n 0 = cl.getD n 0) (fun z => c.length - z.1) ((0, sn, cl)) (⟨Nat.zero_le _, hG, rfl, h3, rfl⟩) ?_ ?_
    · exact Le.sub (by first | rfl | simp) (by simp only [AW7, simprocAttr, hX]; try simp <;> try (first | rfl | exact ⟨rfl, rfl⟩ | exact ⟨rfl, rfl, rfl⟩))
    rintro ⟨i, s2, c2⟩ ⟨hi, hG2, hS, hn3, hkk⟩ ihJ
    try simp only []
    simp only [] at hi hG2 hS hn3 hkk
    refine Run.R ?_
    refine Run.nq ?_; refine Run.cW ?_ ?_
    rotate_left
    · intro h4
      have h4 : i = c.length := by rw [decide_eq_false_iff_not] at h4; omega
      subst h4
      rw [hS] at hW
      refine Run.exit rfl ?_; refine Run.nq ?_
      refine Run.RW ?_
      refine Run.reK hpin [0, 4, 6, 7, 8, 29, 30, 10, 11] [0, 1, 2, 3] (by decide) (by simp) ?_; simp only [AR, AW7, simprocAttr]
      refine Run.le ?_ (ihK ((n + 1, s2, c2)) (⟨hG2, hn3, hW⟩) (by (try simp only [List.length_append, List.length_cons, List.length_nil]); omega))
      exact Le.sub (by rfl) (by simp only [AW7, simprocAttr]; try simp)
    intro h4
    have h4 : i < c.length := by rw [decide_eq_true_eq] at h4; omega
    have hsS := foldl_rs (ccS c (allL c) (cl.getD n 0)) (sn, cl) i
    rw [hS] at hsS
    have hgS := ccS_good hF ⟨hk1, hk2⟩ h4 hG2
    rw [← hsS] at hgS
    obtain ⟨hxm, hxl, hxn⟩ := cj_mem hF ⟨hk1, hk2⟩ h4
    obtain ⟨hx1, hx2, _⟩ := ixL_mem hxm
    have hat := hm.at hand hxm
    obtain ⟨hf1, hf2⟩ := hal _ hxm
    have hcI : cjI c (allL c) (cl.getD n 0) i = ixL (allL c) (redL c ([(i : Int)] ++ (allL c).getD (cl.getD n 0).toNat [] ++ [(i : Int)])) := rfl
    have hgw := rwg zs (cl.getD n 0).toNat
    rw [hz] at hgw
    have hcr := c_impl_reduced c ([(i : Int)] ++ (allL c).getD (cl.getD n 0).toNat [] ++ [(i : Int)]) hc hxl (by omega)
    generalize hw : (allL c).getD (cl.getD n 0).toNat [] = w at *
    have hfl : ([[(i : Int)], w, [(i : Int)]] : List (List Int)).flatten = [(i : Int)] ++ w ++ [(i : Int)] := by simp
    have hwl : w.length ≤ 26 := by simp only [List.length_append] at hxn; omega
    rw [← hfl] at hcr hxm hat hf1 hf2 hcI hx1 hx2
    generalize redL c ([[(i : Int)], w, [(i : Int)]] : List (List Int)).flatten = xw at hcr hxm hat hf1 hf2 hcI hx1 hx2
    generalize hv : ixL (allL c) xw = v at hat hcI hx1 hx2
    have hkl : (cl.getD n 0).toNat < zs.length := by omega
    have hs2l : s2.length = (allL c).length := hG2.l
    have hc2l := hG2.len
    simp only [] at hc2l
    have hzb2 : (c2.length + [v].length) * 8 ≤ 140737488355328 := by simp only [List.length_cons, List.length_nil]; omega
    refine Run.R ?_
    refine Run.nq ?_; refine Run.regionW hC (fun K hK => ?_); refine wW ?_
    rw [hkk]
    refine wW ?_
    try simp only [hgw]
    refine FunA.cW hP hT (c_slices_Concat [[(i : Int)], w, [(i : Int)]] (by simp [sumL]; omega) (by simp)) ?_
    rintro rs o ⟨nn, rfl, rfl⟩
    refine wW ?_
    refine FunA.cW hP hT (hcr) ?_
    rintro rs o ⟨rfl, rfl⟩
    refine wW ?_
    refine FunA.cW hP hT (c_impl_FormatWord xw hf1 (by omega)) ?_
    rintro rs o ⟨rfl, rfl⟩
    refine wW ?_
    rw [hat]
    refine wW ?_
    refine wE ?_; clear hK K
    refine Run.reK hpin [0, 4, 6, 7, 8, 29, 30, 10, 11, 49, 50, 12, 13] [0, 1, 2, 3] (by decide) (by simp) ?_; simp only [AR, AW7, simprocAttr]
    refine Run.R ?_
    refine Run.nq ?_; refine Run.cW ?_ ?_
    · intro h5
      have h5 : s2.getD v.toNat false = false := by simpa [-List.getD_eq_getElem?_getD] using h5
      rw [ccS_new (st := (s2, c2)) hcI h5] at hsS
      rw [hsS] at hgS
      simp only [] at hsS
      refine Run.R ?_
      refine Run.R ?_
      refine Run.RW ?_
      refine Run.reK hpin [0, 4, 6, 7, 8, 29, 30, 10, 11, 49, 50] [0, 1, 2, 3] (by decide) (by simp) ?_; simp only [AR, AW7, simprocAttr]
      refine Run.le ?_ (ihJ ((i + 1, s2.set v.toNat true, c2 ++ [v])) (⟨h4, hgS, hsS, by simp only [List.length_append]; omega, by rw [← hkk]; exact getD_appL hn3⟩) (by (try simp only [List.length_append, List.length_cons, List.length_nil]); omega))
      exact Le.sub (by rfl) (by simp only [AW7, simprocAttr]; try simp)
    · intro h5
      have h5 : s2.getD v.toNat false = true := by simpa [-List.getD_eq_getElem?_getD] using h5
      rw [ccS_seen (st := (s2, c2)) hcI h5] at hsS
      rw [hsS] at hgS
      refine Run.RW ?_
      refine Run.reK hpin [0, 4, 6, 7, 8, 29, 30, 10, 11, 49, 50] [0, 1, 2, 3] (by decide) (by simp) ?_; simp only [AR, AW7, simprocAttr]
      refine Run.le ?_ (ihJ ((i + 1, s2, c2)) (⟨h4, hgS, hsS, hn3, hkk⟩) (by (try simp only [List.length_append, List.length_cons, List.length_nil]); omega))
      exact Le.sub (by rfl) (by simp only [AW7, simprocAttr]; try simp)
end Go.Proofs.YtaghdbbcadhjdaaGreatDoor
namespace Go.Proofs.YtaghdbbcadhjdaaGreatDoor
open Go Go.Aw Go.Cox
theorem fold_snoc {α : Type} (f : α → Int → α) (a : α) (l : List Int) (j : Nat) (h : j < l.length) : (l.take (j + 1)).foldl f a = f ((l.take j).foldl f a) (l.getD j 0) := by
  have e : l.take (j + 1) = l.take j ++ [l.getD j 0] := by
    rw [List.take_add_one, List.getD_eq_getElem?_getD, List.getElem?_eq_getElem h]; rfl
  rw [e, List.foldl_append]; rfl
set_option maxHeartbeats 1000000 in
theorem c_spec_ConjugacyClassesR (c : List (List Int)) : FunA B 26 [.sl false (.row false) c] (fun rs o => ∃ ys g nn rest, (rw2 ys = ccX c ∧ nn = true ∧ rest = [.bool (elsB c 48)]) ∧ (lb1 ys).Nodup ∧ rest.all flatAV = true ∧ rs = .own 0 g :: rest ∧ o = [.arr .lrow ys g nn]) := by
  refine FunA.walk B_ok (fn := Tryz.f26) (fun vs w => Tryz.call26 vs w) Tryz.func26 rfl (by rw [Tryz.ntmps26]; simp) (fun C hC hP hT hΓ hbt hfn hpin hfin => ?_); have hX := BX; rw [← hΓ, ← hbt.1, ← hbt.2.1, ← hbt.2.2.1] at hX; rw [hT] at hX; rw [Tryz.ntmps26]; simp only [AW7, simprocAttr, hX]
  refine Run.R ?_
  refine Run.R ?_
  refine Run.nq ?_; refine Run.regionW hC (fun K hK => ?_); refine wW ?_
  refine FunA.cW hP hT (c_spec_l18Small c) ?_
  rintro rs o ⟨rfl, zs, ⟨hz, _⟩, rfl⟩
  have hzl : zs.length = (if elsB c 48 then allL c else []).length := by rw [← hz, rwl]
  refine wW ?_
  refine wE ?_; clear hK K
  have hccx : ccX c = ccL c (rw2 zs) := by unfold ccX; rw [← hz]
  have hzn : (rw2 zs).length = zs.length := rwl zs
  have hz200 : zs.length ≤ 200 := by
    rw [hzl]
    split
    · rename_i h; exact (elsB_fin h (by omega)).2.2.1
    · simp
  refine Run.R ?_
  refine Run.R ?_
  refine Run.reK hpin [0, 4, 5, 6, 7, 8] [0, 1, 2] (by decide) (by simp) ?_; simp only [AR, AW7, simprocAttr]
  refine Run.loopI (X := Nat × List Bool × List (Nat × List Int)) (fun x => ⟨103, [(0, true, .v (.sl false (.row false) (c))), (4, true, .v (.own 0 0)), (5, true, .v (.own 1 0)), (6, true, .v (.bool ((elsB c 48)))), (7, true, .v (.own 2 0)), (8, true, .v (.int .i64 (x.1)))], [.arr .lrow (x.2.2) 0 true, .arr .lrow (zs) 0 true, .arr .bool (x.2.1) 0 true]⟩) (fun x => (x.1 ≤ zs.length ∧ x.2.2.length ≤ x.1) ∧ (List.range x.1).foldl (ccO c (rw2 zs)) (List.replicate (rw2 zs).length false, []) = (x.2.1, rw2 x.2.2) ∧ (lb1 x.2.2).Nodup ∧ x.2.1.length = zs.length) (fun x => zs.length - x.1) ((0, List.replicate zs.length false, [])) (⟨⟨Nat.zero_le _, Nat.le_refl _⟩, by simp only [List.range_zero, List.foldl_nil, hzn]; simp [rw2], by simp [lb1], by simp⟩) ?_ ?_
  · exact Le.sub (by first | rfl | simp) (by simp only [AW7, simprocAttr, hX]; try simp <;> try (first | rfl | exact ⟨rfl, rfl⟩ | exact ⟨rfl, rfl, rfl⟩))
  rintro ⟨k, seen, ys⟩ ⟨⟨hk, hyk⟩, hE, hN, hsl⟩ ihO
  try simp only []
  simp only [] at hk hyk hE hN hsl
  refine Run.R ?_
  refine Run.nq ?_; refine Run.cW ?_ ?_
  rotate_left
  · intro h
    have h : k = zs.length := by rw [decide_eq_false_iff_not] at h; omega
    refine Run.exit rfl ?_; refine Run.nq ?_
    refine Run.R ?_
    refine Run.reK hpin [2, 3] [0] (by decide) (by simp) ?_; simp only [AR, AW7, simprocAttr]
    refine Run.rW [2, 3] (hfin _ _ rfl rfl ?_)
    refine ⟨ys, 0, true, [.bool (elsB c 48)], ⟨?_, rfl, rfl⟩, hN, rfl, rfl, rfl⟩
    rw [hccx]
    unfold ccL
    rw [show (rw2 zs).length = k by omega] at hE ⊢
    rw [hE]
  intro h
  have h : k < zs.length := by rw [decide_eq_true_eq] at h; omega
  have he : elsB c 48 = true := by
    cases he : elsB c 48
    · exfalso; rw [he] at hzl; have : zs.length = 0 := hzl; omega
    · rfl
  have hza : rw2 zs = allL c := by rw [hz, he, if_pos rfl]
  obtain ⟨hF, _, hl200, _⟩ := elsB_fin he (by omega)
  have hc := hF.1
  have hn := hc.2.1
  have hall := allL_spec hF
  have hrl : ∀ r ∈ zs.map (·.2), r.length ≤ 1048576 := fun r hr => by
    have hr : r ∈ rw2 zs := hr
    rw [hza] at hr
    have := ((hall.2 r).1 hr).2.2; omega
  have hmap : zs.map (·.2) = allL c := hza
  rw [hza] at hzn hE hccx ihO
  have hstO := foldl_rs (ccO c (allL c)) (List.replicate (allL c).length false, []) k
  rw [hE] at hstO
  refine Run.R ?_
  refine Run.nq ?_; refine Run.cW ?_ ?_
  · intro h2
    rw [ccO_seen (st := (seen, rw2 ys)) h2] at hstO
    refine Run.exit rfl ?_; refine Run.nq ?_
    refine Run.RW ?_
    refine Run.reK hpin [0, 4, 5, 6, 7, 8] [0, 1, 2] (by decide) (by simp) ?_; simp only [AR, AW7, simprocAttr]
    refine Run.le ?_ (ihO ((k + 1, seen, ys)) (⟨⟨h, by simp only []; omega⟩, hstO, hN, hsl⟩) (by (try simp only [List.length_append, List.length_cons, List.length_nil]); omega))
    exact Le.sub (by rfl) (by simp only [AW7, simprocAttr]; try simp)
  intro h2
  rw [ccO_new (st := (seen, rw2 ys)) h2] at hstO
  simp only [] at hstO
  have hg0 : GoodC (allL c).length (seen.set k true, [(k : Int)]) := by
    refine ⟨by rw [hzn]; simpa using hsl, by simp, fun x hx => ?_⟩
    simp at hx; subst hx
    exact ⟨by omega, by omega, by rw [Int.toNat_natCast, getD_setB _ _ _ (by omega), if_pos rfl]⟩
  generalize hR : ccW c (allL c) (allL c).length 0 (seen.set k true, [(k : Int)]) = R at hstO
  refine Run.R ?_
  refine Run.R ?_
  refine Run.R ?_
  refine Run.reK hpin [0, 4, 5, 6, 7, 8, 9, 10] [0, 1, 2, 3] (by decide) (by simp) ?_; simp only [AR, AW7, simprocAttr]
  refine Run.loopI (X := Nat × List Bool × List Int) (fun y => ⟨103, [(0, true, .v (.sl false (.row false) (c))), (4, true, .v (.own 0 0)), (5, true, .v (.own 1 0)), (6, true, .v (.bool ((elsB c 48)))), (7, true, .v (.own 2 0)), (8, true, .v (.int .i64 (k))), (9, true, .v (.own 3 0)), (10, true, .v (.int .i64 (y.1)))], [.arr .lrow (ys) 0 true, .arr .lrow (zs) 0 true, .arr .bool (y.2.1) 0 true, .arr .int (y.2.2) 0 true]⟩) (fun y => GoodC (allL c).length y.2 ∧ y.1 ≤ y.2.2.length ∧ ccW c (allL c) ((allL c).length - y.1) y.1 y.2 = R) (fun y => (allL c).length - y.1) ((0, seen.set k true, [(k : Int)])) (⟨hg0, Nat.zero_le _, by simp only [Nat.sub_zero]; exact hR⟩) ?_ ?_
  · exact Le.sub (by first | rfl | simp) (by simp only [AW7, simprocAttr, hX]; try simp <;> try (first | rfl | exact ⟨rfl, rfl⟩ | exact ⟨rfl, rfl, rfl⟩))
  rintro ⟨n, sn, cl⟩ ⟨hG, hn2, hW⟩ ihK
  try simp only []
  simp only [] at hG hn2 hW
  have hcl := hG.len
  simp only [] at hcl
  refine Run.R ?_
  refine Run.nq ?_; refine Run.cW ?_ ?_
  rotate_left
  · intro h3
    have h3 : n = cl.length := by rw [decide_eq_false_iff_not] at h3; omega
    have hRe : R = (sn, cl) := by rw [← hW]; exact ccW_stop c (allL c) _ _ _ (by simp only []; omega)
    rw [hRe] at hstO
    simp only [] at hstO
    have hzb : (ys.length + 1) * 24 ≤ 140737488355328 := by omega
    have hsl2 : sn.length = zs.length := by rw [← hzn]; exact hG.l
    refine Run.exit rfl ?_; refine Run.nq ?_
    refine Run.R ?_
    refine Run.R ?_
    refine Run.reK hpin [0, 4, 5, 6, 7, 8, 9, 13, 14] [0, 1, 2, 3, 4] (by decide) (by simp) ?_; simp only [AR, AW7, simprocAttr]
    refine Run.loopI (X := Nat × List Int) (fun y => ⟨103, [(0, true, .v (.sl false (.row false) (c))), (4, true, .v (.own 0 0)), (5, true, .v (.own 1 0)), (6, true, .v (.bool ((elsB c 48)))), (7, true, .v (.own 2 0)), (8, true, .v (.int .i64 (k))), (9, true, .v (.own 3 0)), (13, true, .v (.own 4 0)), (14, true, .v (.int .i64 (y.1)))], [.arr .lrow (ys) 0 true, .arr .lrow (zs) 0 true, .arr .bool (sn) 0 true, .arr .int (cl) 0 true, .arr .int (y.2) 0 true]⟩) (fun y => y.1 ≤ cl.length ∧ (cl.take y.1).foldl (fun a x => l5P x false a) [] = y.2 ∧ y.2.length ≤ y.1) (fun y => cl.length - y.1) ((0, [])) (⟨Nat.zero_le _, rfl, Nat.le_refl _⟩) ?_ ?_
    · exact Le.sub (by first | rfl | simp) (by simp only [AW7, simprocAttr, hX]; try simp <;> try (first | rfl | exact ⟨rfl, rfl⟩ | exact ⟨rfl, rfl, rfl⟩))
    rintro ⟨j, so⟩ ⟨hj, hS, hso⟩ ihJ
    try simp only []
    simp only [] at hj hS hso
    refine Run.R ?_
    refine Run.nq ?_; refine Run.cW ?_ ?_
    rotate_left
    · intro h5
      have h5 : j = cl.length := by rw [decide_eq_false_iff_not] at h5; omega
      rw [h5, List.take_length, l5P_sort hG.nd] at hS
      rw [hS] at hstO
      refine Run.exit rfl ?_; refine Run.nq ?_
      refine Run.nq ?_; refine Run.regionW hC (fun K hK => ?_); refine wW ?_
      intro q hq
      refine wW ?_
      refine wE ?_; clear hK K
      refine Run.RW ?_
      refine Run.reK hpin [0, 4, 5, 6, 7, 8] [0, 1, 2] (by decide) (by simp) ?_; simp only [AR, AW7, simprocAttr]
      refine Run.le ?_ (ihO (k + 1, sn, ys ++ [(q, so)]) ⟨⟨h, by simp only [List.length_append, List.length_cons, List.length_nil]; omega⟩, by rw [hstO]; simp [rw2], row_fresh hN (fun p hp => hq _ (List.mem_cons_self ..) _ _ _ rfl p hp), hsl2⟩ (by simp only []; omega))
      exact Le.sub (by first | rfl | simp) (by simp only [AW7, simprocAttr]; try simp)
    intro h5
    have h5 : j < cl.length := by rw [decide_eq_true_eq] at h5; omega
    have hsn := fold_snoc (fun a x => l5P x false a) [] cl j h5
    rw [hS] at hsn
    have hll := l5P_len (cl.getD j 0) false so
    generalize hcj : cl.getD j 0 = x at hsn hll
    refine Run.nq ?_; refine Run.regionW hC (fun K hK => ?_); refine wW ?_
    try rw [hcj]
    refine FunA.cW hP hT (c_spec_l5Put so x (by omega)) ?_
    rintro rs o ⟨rfl, rfl⟩
    refine wW ?_
    refine wE ?_; clear hK K
    refine Run.RW ?_
    refine Run.reK hpin [0, 4, 5, 6, 7, 8, 9, 13, 14] [0, 1, 2, 3, 5] (by decide) (by simp) ?_; simp only [AR, AW7, simprocAttr]
    refine Run.le ?_ (ihJ (j + 1, l5P x false so) ⟨h5, hsn, by simp only []; omega⟩ (by simp only []; omega))
    exact Le.sub (by first | rfl | simp) (by simp only [AW7, simprocAttr]; try simp)
  intro h3
  have h3 : n < cl.length := by rw [decide_eq_true_eq] at h3; omega
  rw [show (allL c).length - n = ((allL c).length - (n + 1)) + 1 by omega] at hW
  unfold ccW at hW
  rw [if_pos (by simp only []; exact h3)] at hW
  have hkm : cl.getD n 0 ∈ cl := by rw [List.getD_eq_getElem?_getD, List.getElem?_eq_getElem h3]; exact List.getElem_mem _
  obtain ⟨hk1, hk2, _⟩ := hG.mem _ hkm
  unfold ccK at hW
  simp only [] at hW hk1 hk2
  refine Run.R ?_
  refine Run.reK hpin [0, 4, 5, 6, 7, 8, 9, 10, 11] [0, 1, 2, 3] (by decide) (by simp) ?_; simp only [AR, AW7, simprocAttr]
  refine Run.loopI (X := Nat × List Bool × List Int) (fun z => ⟨103, [(0, true, .v (.sl false (.row false) (c))), (4, true, .v (.own 0 0)), (5, true, .v (.own 1 0)), (6, true, .v (.bool ((elsB c 48)))), (7, true, .v (.own 2 0)), (8, true, .v (.int .i64 (k))), (9, true, .v (.own 3 0)), (10, true, .v (.int .i64 (n))), (11, true, .v (.int .i64 (z.1)))], [.arr .lrow (ys) 0 true, .arr .lrow (zs) 0 true, .arr .bool (z.2.1) 0 true, .arr .int (z.2.2) 0 true]⟩) (fun z => z.1 ≤ c.length ∧ GoodC (allL c).length z.2 ∧ (List.range z.1).foldl (ccS c (allL c) (cl.getD n 0)) (sn, cl) = z.2 ∧ n < z.2.2.length ∧ z.2.2.getD n 0 = cl.getD n 0) (fun z => c.length - z.1) ((0, sn, cl)) (⟨Nat.zero_le _, hG, rfl, h3, rfl⟩) ?_ ?_
  · exact Le.sub (by first | rfl | simp) (by simp only [AW7, simprocAttr, hX]; try simp <;> try (first | rfl | exact ⟨rfl, rfl⟩ | exact ⟨rfl, rfl, rfl⟩))
  rintro ⟨i, s2, c2⟩ ⟨hi, hG2, hS, hn3, hkk⟩ ihJ
  try simp only []
  simp only [] at hi hG2 hS hn3 hkk
  refine Run.R ?_
  refine Run.nq ?_; refine Run.cW ?_ ?_
  rotate_left
  · intro h4
    have h4 : i = c.length := by rw [decide_eq_false_iff_not] at h4; omega
    subst h4
    rw [hS] at hW
    refine Run.exit rfl ?_; refine Run.nq ?_
    refine Run.RW ?_
    refine Run.reK hpin [0, 4, 5, 6, 7, 8, 9, 10] [0, 1, 2, 3] (by decide) (by simp) ?_; simp only [AR, AW7, simprocAttr]
    refine Run.le ?_ (ihK ((n + 1, s2, c2)) (⟨hG2, hn3, hW⟩) (by (try simp only [List.length_append, List.length_cons, List.length_nil]); omega))
    exact Le.sub (by rfl) (by simp only [AW7, simprocAttr]; try simp)
  intro h4
  have h4 : i < c.length := by rw [decide_eq_true_eq] at h4; omega
  have hsS := foldl_rs (ccS c (allL c) (cl.getD n 0)) (sn, cl) i
  rw [hS] at hsS
  have hgS := ccS_good hF ⟨hk1, hk2⟩ h4 hG2
  rw [← hsS] at hgS
  obtain ⟨hxm, hxl, hxn⟩ := cj_mem hF ⟨hk1, hk2⟩ h4
  obtain ⟨hx1, hx2, _⟩ := ixL_mem hxm
  have hcI : cjI c (allL c) (cl.getD n 0) i = ixL (allL c) (redL c ([(i : Int)] ++ (allL c).getD (cl.getD n 0).toNat [] ++ [(i : Int)])) := rfl
  have hgw := rwg zs (cl.getD n 0).toNat
  rw [hza] at hgw
  have hcr := c_spec_l8Normal c ([(i : Int)] ++ (allL c).getD (cl.getD n 0).toNat [] ++ [(i : Int)]) hc hxl (by omega)
  have hxw30 : (redL c ([(i : Int)] ++ (allL c).getD (cl.getD n 0).toNat [] ++ [(i : Int)])).length ≤ 30 := ((hall.2 _).1 hxm).2.2
  generalize hw : (allL c).getD (cl.getD n 0).toNat [] = w at *
  have hwl : w.length ≤ 26 := by simp only [List.length_append] at hxn; omega
  generalize redL c ([(i : Int)] ++ w ++ [(i : Int)]) = xw at hcr hxm hcI hx1 hx2 hxw30
  generalize hv : ixL (allL c) xw = v at hcI hx1 hx2
  have hkl : (cl.getD n 0).toNat < zs.length := by omega
  have hs2l : s2.length = (allL c).length := hG2.l
  have hc2l := hG2.len
  simp only [] at hc2l
  have hzb2 : (c2.length + [v].length) * 8 ≤ 140737488355328 := by simp only [List.length_cons, List.length_nil]; omega
  refine Run.nq ?_; refine Run.regionW hC (fun K hK => ?_); refine wW ?_
  rw [hkk]
  refine wW ?_
  try simp only [hgw]
  refine FunA.cW hP hT (c_spec_ConcatWords [(i : Int)] w (by simp) (by omega)) ?_
  rintro rs o ⟨rfl, rfl⟩
  refine wW ?_
  refine FunA.cW hP hT (c_spec_ConcatWords ([(i : Int)] ++ w) [(i : Int)] (by simp; omega) (by simp)) ?_
  rintro rs o ⟨rfl, rfl⟩
  refine wW ?_
  refine FunA.cW hP hT (hcr) ?_
  rintro rs o ⟨rfl, rfl⟩
  refine wW ?_
  refine FunA.cW hP hT (c_spec_IndexOfElement (zs.map (·.2)) xw hrl (by simp; omega)) ?_
  rintro rs o ⟨rfl, rfl⟩
  rw [hmap, hv]
  refine wW ?_
  refine wE ?_; clear hK K
  refine Run.reK hpin [0, 4, 5, 6, 7, 8, 9, 10, 11, 12] [0, 1, 2, 3] (by decide) (by simp) ?_; simp only [AR, AW7, simprocAttr]
  refine Run.R ?_
  have hv0 : decide (0 ≤ v) = true := by rw [decide_eq_true_eq]; exact hx1
  rw [hv0]
  refine Run.nq ?_; refine Run.cW ?_ ?_
  · intro h5
    have h5 : s2.getD v.toNat false = false := by simpa [-List.getD_eq_getElem?_getD] using h5
    rw [ccS_new (st := (s2, c2)) hcI h5] at hsS
    rw [hsS] at hgS
    simp only [] at hsS
    refine Run.R ?_
    refine Run.R ?_
    refine Run.RW ?_
    refine Run.reK hpin [0, 4, 5, 6, 7, 8, 9, 10, 11] [0, 1, 2, 3] (by decide) (by simp) ?_; simp only [AR, AW7, simprocAttr]
    refine Run.le ?_ (ihJ ((i + 1, s2.set v.toNat true, c2 ++ [v])) (⟨h4, hgS, hsS, by simp only [List.length_append]; omega, by rw [← hkk]; exact getD_appL hn3⟩) (by (try simp only [List.length_append, List.length_cons, List.length_nil]); omega))
    exact Le.sub (by rfl) (by simp only [AW7, simprocAttr]; try simp)
  · intro h5
    have h5 : s2.getD v.toNat false = true := by simpa [-List.getD_eq_getElem?_getD] using h5
    rw [ccS_seen (st := (s2, c2)) hcI h5] at hsS
    rw [hsS] at hgS
    refine Run.RW ?_
    refine Run.reK hpin [0, 4, 5, 6, 7, 8, 9, 10, 11] [0, 1, 2, 3] (by decide) (by simp) ?_; simp only [AR, AW7, simprocAttr]
    refine Run.le ?_ (ihJ ((i + 1, s2, c2)) (⟨h4, hgS, hsS, hn3, hkk⟩) (by (try simp only [List.length_append, List.length_cons, List.length_nil]); omega))
    exact Le.sub (by rfl) (by simp only [AW7, simprocAttr]; try simp)
end Go.Proofs.YtaghdbbcadhjdaaGreatDoor
namespace Go.Proofs.YtaghdbbcadhjdaaGreatDoor
open Go Go.Aw Go.Cox
section
variable {c : List (List Int)} (hF : FinP c)
include hF
theorem ccK_good {st : List Bool × List Int} (h : GoodC (allL c).length st) {n : Nat} (hn : n < st.2.length) : GoodC (allL c).length (ccK c (allL c) st n) := by
  have hm : st.2.getD n 0 ∈ st.2 := by rw [List.getD_eq_getElem?_getD, List.getElem?_eq_getElem hn]; exact List.getElem_mem _
  obtain ⟨h1, h2, _⟩ := h.mem _ hm
  unfold ccK
  generalize st.2.getD n 0 = k at h1 h2
  have key : ∀ m, m ≤ c.length → GoodC (allL c).length ((List.range m).foldl (ccS c (allL c) k) st) := by
    intro m
    induction m with
    | zero => intro _; exact h
    | succ m ih => intro hm; rw [foldl_rs]; exact ccS_good hF ⟨h1, h2⟩ (by omega) (ih (by omega))
  exact key _ (Nat.le_refl _)
theorem ccW_good : ∀ (f n : Nat) (st : List Bool × List Int), GoodC (allL c).length st → GoodC (allL c).length (ccW c (allL c) f n st)
  | 0, _, _, h => h
  | f + 1, n, st, h => by
    unfold ccW
    split
    · rename_i hn; exact ccW_good f (n + 1) _ (ccK_good hF h hn)
    · exact h
theorem ccO_inv : ∀ k, k ≤ (allL c).length → ∀ st, (List.range k).foldl (ccO c (allL c)) (List.replicate (allL c).length false, []) = st → st.1.length = (allL c).length ∧ st.2.length ≤ k ∧ ∀ r ∈ st.2, r.length ≤ (allL c).length := by
  intro k
  induction k with
  | zero =>
    intro _ st h
    simp only [List.range_zero, List.foldl_nil] at h
    rw [← h]
    simp only [List.length_replicate, List.length_nil, Nat.le_refl, true_and]
    intro r hr; cases hr
  | succ k ih =>
    intro hk st h
    rw [← h]
    obtain ⟨h1, h2, h3⟩ := ih (by omega) _ rfl
    rw [foldl_rs]
    generalize (List.range k).foldl (ccO c (allL c)) (List.replicate (allL c).length false, []) = st at h1 h2 h3 ⊢
    cases hs : st.1.getD k false with
    | true => rw [ccO_seen hs]; exact ⟨h1, by omega, h3⟩
    | false =>
      rw [ccO_new hs]
      have hg0 : GoodC (allL c).length (st.1.set k true, [(k : Int)]) := by
        refine ⟨by simpa using h1, by simp, fun x hx => ?_⟩
        simp at hx; subst hx
        exact ⟨by omega, by omega, by rw [Int.toNat_natCast, getD_setB _ _ _ (by omega), if_pos rfl]⟩
      have hg := ccW_good hF (allL c).length 0 _ hg0
      generalize ccW c (allL c) (allL c).length 0 (st.1.set k true, [(k : Int)]) = R at hg ⊢
      refine ⟨hg.l, by simp only [List.length_append, List.length_cons, List.length_nil]; omega, fun r hr => ?_⟩
      simp only [] at hr
      rcases List.mem_append.1 hr with hr | hr
      · exact h3 r hr
      · rw [List.mem_singleton] at hr; rw [hr]
        rw [sortI_len]; exact hg.len
end
theorem ccX_len (c : List (List Int)) : (ccX c).length ≤ 200 := by
  unfold ccX
  cases he : elsB c 48 with
  | true =>
    obtain ⟨hF, _, hl, _⟩ := elsB_fin he (by omega)
    have := (ccO_inv hF _ (Nat.le_refl _) _ rfl).2.1
    rw [if_pos rfl]
    unfold ccL; omega
  | false => simp [ccL]
theorem ccX_rows (c : List (List Int)) : ∀ r ∈ ccX c, r.length ≤ 200 := by
  unfold ccX
  cases he : elsB c 48 with
  | true =>
    obtain ⟨hF, _, hl, _⟩ := elsB_fin he (by omega)
    rw [if_pos rfl]
    intro r hr
    have := (ccO_inv hF _ (Nat.le_refl _) _ rfl).2.2 r hr
    omega
  | false => simp [ccL]
theorem c_impl_ConjugacyClasses (c : List (List Int)) : FunA BJ 27 [.sl false (.row false) c] (fun rs o => rs = [.own 0 0, .bool (elsB c 48)] ∧ ∃ hs, hs.length = (ccX c).length ∧ o = [.mat hs (ccX c) 0 true]) :=
  (FunA.mat (by rfl) (post := fun rows nn rest => rows = ccX c ∧ nn = true ∧ rest = [.bool (elsB c 48)]) (c_impl_ConjugacyClassesR c)).mono fun rs o ⟨hs, rows, nn, rest, ⟨h1, h2, h3⟩, h4, h5, h6⟩ => by subst h1 h2 h3; exact ⟨h5, hs, h4, h6⟩
theorem c_spec_ConjugacyClasses (c : List (List Int)) : FunA B 26 [.sl false (.row false) c] (fun rs o => rs = [.own 0 0, .bool (elsB c 48)] ∧ ∃ hs, hs.length = (ccX c).length ∧ o = [.mat hs (ccX c) 0 true]) :=
  (FunA.mat (by rfl) (post := fun rows nn rest => rows = ccX c ∧ nn = true ∧ rest = [.bool (elsB c 48)]) (c_spec_ConjugacyClassesR c)).mono fun rs o ⟨hs, rows, nn, rest, ⟨h1, h2, h3⟩, h4, h5, h6⟩ => by subst h1 h2 h3; exact ⟨h5, hs, h4, h6⟩
end Go.Proofs.YtaghdbbcadhjdaaGreatDoor
namespace Go.Proofs.YtaghdbbcadhjdaaGreatDoor
open Go Go.Aw
theorem sumL_le {rows : List (List Int)} {n m : Nat} (h : rows.length ≤ n) (hr : ∀ r ∈ rows, r.length ≤ m) : sumL rows ≤ n * m := by
  have key : ∀ l : List (List Int), (∀ r ∈ l, r.length ≤ m) → sumL l ≤ l.length * m := by
    intro l
    induction l with
    | nil => intro _; simp [sumL]
    | cons r l ih =>
      intro hl
      have h1 := hl r (by simp)
      have h2 := ih fun x hx => hl x (List.mem_cons_of_mem _ hx)
      simp only [sumL, List.length_cons, Nat.add_mul]
      omega
  exact Nat.le_trans (key rows hr) (Nat.mul_le_mul_right m h)
theorem c_heldIotaR (k : Int) (rows : List (List Int)) (hr : rows.length ≤ 4503599627370496) (hrr : ∀ r ∈ rows, r.length ≤ 4503599627370496) (hk : 0 ≤ k ∧ k + sumL rows ≤ 4503599627370496) :
    FunA B 15 [.sl false (.row false) (iotaR k rows), .int .i64 k] (fun rs o => rs = [.int .i64 (k + sumL rows)] ∧ o = []) := by
  have hlen := iotaR_length k rows
  refine FunA.walk B_ok (fn := Tryz.f15) (fun vs w => Tryz.call15 vs w) Tryz.func15 rfl (by rw [Tryz.ntmps15]; simp) (fun C hC hP hT hΓ hbt hfn hpin hfin => ?_); have hX := BX; rw [← hΓ, ← hbt.1, ← hbt.2.1, ← hbt.2.2.1] at hX; rw [hT] at hX; rw [Tryz.ntmps15]; simp only [AW7, simprocAttr, hX]
  refine Run.R ?_
  refine Run.R ?_
  refine Run.loopI (X := Nat) (fun i => ⟨21, [(0, true, .v (.sl false (.row false) (iotaR k rows))), (1, true, .v (.int .i64 (k + sumL (rows.take i)))), (4, true, .v (.int .i64 0)), (5, true, .v (.int .i64 i))], []⟩) (fun i => i ≤ rows.length) (fun i => rows.length - i) 0 (Nat.zero_le _) ?_ ?_
  · refine Le.sub rfl ?_
    simp only [AW7, simprocAttr, hX]; try simp [sumL]
  rintro i hi ih
  have hst := sumL_take rows i
  refine Run.R ?_
  rw [hlen]
  refine Run.nq ?_; refine Run.cW ?_ ?_
  · intro hc
    have hc : i < rows.length := by simpa using hc
    have hsn := sumL_snoc rows i hc
    have hst2 := sumL_take rows (i + 1)
    have hget : (iotaR k rows).getD i [] = iota (k + sumL (rows.take i)) (rows.getD i []).length := by
      have h1 : iotaR k rows = iotaR k (rows.take (i + 1)) ++ iotaR (k + sumL (rows.take (i + 1))) (rows.drop (i + 1)) := by rw [← iotaR_append, List.take_append_drop]
      rw [h1, iotaR_snoc k rows i hc, List.append_assoc, List.getD_eq_getElem?_getD, List.getElem?_append_right (by rw [iotaR_length]; simp; omega)]
      rw [iotaR_length]
      simp [show min i rows.length = i by omega]
    have hrl := hrr (rows.getD i []) (by rw [List.getD_eq_getElem?_getD]; simp [hc])
    refine Run.nq ?_; refine Run.regionW hC (fun K hK => ?_); refine wW ?_
    rw [hget]
    refine FunA.cW hP hT (c_heldIota (k + sumL (rows.take i)) (rows.getD i []).length hrl (by omega)) ?_
    rintro rs o ⟨rfl, rfl⟩
    refine wW ?_
    refine wE ?_; clear hK K
    refine Run.R ?_
    refine Run.nq ?_; refine Run.cW ?_ ?_
    · intro h2; simp at h2; omega
    intro h2
    refine Run.RW ?_
    rw [show k + (sumL (rows.take i) : Int) + ((rows.getD i []).length : Nat) = k + (sumL (rows.take (i + 1)) : Nat) by rw [hsn]; omega]
    refine Run.le ?_ (ih (i + 1) (by omega) (by (try simp only [List.length_append, List.length_cons, List.length_nil]); omega))
    exact Le.sub (by rfl) (by simp only [AW7, simprocAttr]; try simp)
  · intro hc
    have hc : i = rows.length := by simp at hc; omega
    subst hc
    rw [List.take_length]
    refine Run.exit rfl ?_; refine Run.nq ?_
    refine Run.R ?_
    refine Run.rW [4] (hfin _ _ rfl rfl ?_)
    exact ⟨rfl, rfl⟩
end Go.Proofs.YtaghdbbcadhjdaaGreatDoor
namespace Go.Proofs.YtaghdbbcadhjdaaGreatDoor
open Go Go.Aw
theorem c_FnExactConjugacyClasses (c : List (List Int)) (_ : ∀ r ∈ c, ∀ n ∈ r, (Lit.int .i64 n).wf = true) : FunA BJ 7 [.sl false (.row false) c] (fun rs _ => rs = [.bool true]) := by
  refine FunA.walk BJ_ok (fn := Tryz.f7) (fun vs w => Tryz.call7 vs w) Tryz.func7 rfl (by rw [Tryz.ntmps7]; simp) (fun C hC hP hT hΓ hbt hfn hpin hfin => ?_); haveI hDJ : DrLe BJ C := ⟨fun h => by rw [hbt.2.2.2] at h; cases h⟩; have hPJ := hP; have hTJ := hT; replace hP : B.P = C.P := hP; replace hT : B.tid = C.tid := hT; have hX := BXJ; rw [← hΓ, ← hbt.1, ← hbt.2.1, ← hbt.2.2.1] at hX; rw [hTJ] at hX; rw [Tryz.ntmps7]; simp only [AW7, simprocAttr, hX]
  refine Run.R ?_
  refine Run.keep [0, 2] ?_; simp only [AK, Nat.reduceBEq]
  refine Run.R ?_
  refine Run.keep [0, 2, 3] ?_; simp only [AK, Nat.reduceBEq]
  refine Run.nq ?_; refine Run.regionW hC (fun K hK => ?_); refine wW ?_
  refine FunA.cW hP hT (c_szIntSS c (1048576) ⟨by omega, by omega⟩) ?_
  rintro rs o ⟨rfl, rfl⟩
  refine wW ?_
  refine wE ?_; clear hK K
  refine Run.keep [0, 2, 3] ?_; simp only [AK, Nat.reduceBEq]
  refine Run.R ?_
  refine Run.keep [0, 2, 3, 18] ?_; simp only [AK, Nat.reduceBEq]
  refine Run.nq ?_; refine Run.cW ?_ ?_
  · intro hc
    refine Run.R ?_
    refine Run.rW [2] (hfin _ _ rfl rfl ?_)
    rfl
  intro hc
  have hzc : 0 ≤ szII c (1048576) := by simp at hc; omega
  clear hc
  have hbc := szII_all c (1048576) ⟨by omega, by omega⟩ hzc
  obtain ⟨hcn, hcr, hcs, hcl⟩ := hbc
  refine Run.nq ?_; refine Run.regionW hC (fun K hK => ?_); refine wW ?_
  refine FunA.cW hP hT (c_toIntSS c hcn hcr) ?_
  rintro rs o ⟨rfl, hs1, hs1l, rfl⟩
  refine wW ?_
  refine FunA.cW hP hT (c_spec_ConjugacyClasses c) ?_
  rintro rs o ⟨rfl, hs2, hs2l, rfl⟩
  refine wW ?_
  refine wE ?_; clear hK K
  refine Run.keep [0, 2, 3, 4, 5] ?_; simp only [AK, Nat.reduceBEq]
  refine Run.nq ?_; refine Run.regionW hC (fun K hK => ?_); refine wW ?_
  refine FunA.cW hP hT (c_toIntSS c hcn hcr) ?_
  rintro rs o ⟨rfl, hs3, hs3l, rfl⟩
  refine wW ?_
  refine wE ?_; clear hK K
  refine Run.keep [0, 2, 3, 4, 5, 6] ?_; simp only [AK, Nat.reduceBEq]
  refine Run.nq ?_; refine Run.regionW hC (fun K hK => ?_); refine wW ?_
  refine FunA.cW hPJ hTJ (c_impl_ConjugacyClasses c) ?_
  rintro rs o ⟨rfl, hs4, hs4l, rfl⟩
  refine wW ?_
  refine wE ?_; clear hK K
  refine Run.keep [0, 2, 3, 4, 5, 6, 7, 8] ?_; simp only [AK, Nat.reduceBEq]
  refine Run.nq ?_; refine Run.regionW hC (fun K hK => ?_); refine wW ?_
  refine FunA.cW hP hT (c_eqIntSS (ccX c) (ccX c) (by have := ccX_len c; omega) (fun r hr => by have := ccX_rows c r hr; omega)) ?_
  rintro rs o ⟨rfl, rfl⟩
  refine wW ?_
  refine wE ?_; clear hK K
  refine Run.keep [0, 2, 3, 4, 5, 6, 7, 8, 40] ?_; simp only [AK, Nat.reduceBEq]
  refine Run.nq ?_; refine Run.cW ?_ ?_
  · intro hc
    exfalso
    simp [iota_length, sumL_iotaR] at hc <;> omega
  intro hc0; clear hc0
  refine Run.nq ?_; refine Run.regionW hC (fun K hK => ?_); refine wW ?_
  refine FunA.cW hP hT (c_toIntSS c hcn hcr) ?_
  rintro rs o ⟨rfl, hs5, hs5l, rfl⟩
  refine wW ?_
  refine FunA.cW hP hT (c_eqIntSS (c) (c) (by omega) (fun r hr => by have := hcr r hr; omega)) ?_
  rintro rs o ⟨rfl, rfl⟩
  refine wW ?_
  refine wE ?_; clear hK K
  refine Run.keep [0, 2, 3, 4, 5, 6, 7, 8, 45] ?_; simp only [AK, Nat.reduceBEq]
  refine Run.nq ?_; refine Run.cW ?_ ?_
  · intro hc
    exfalso
    simp [iota_length, sumL_iotaR] at hc <;> omega
  intro hc0; clear hc0
  refine Run.R ?_
  refine Run.keep [0, 2, 3, 4, 5, 6, 7, 8, 9] ?_; simp only [AK, Nat.reduceBEq]
  refine Run.nq ?_; refine Run.regionW hC (fun K hK => ?_); refine wW ?_
  refine FunO.callMat hP hT (c_markIntSS hs3 (c) 1 (by omega) (by omega) true) 2 0 (by simp only [AW7, simprocAttr]; rfl) (by simp) (by simp only [AW7, simprocAttr]) ?_
  rintro rs o o2 ⟨rfl, h⟩; obtain ⟨rfl, rfl⟩ := List.cons.inj h
  refine wW ?_
  refine wE ?_; clear hK K
  refine Run.keep [0, 2, 3, 4, 5, 6, 7, 8, 9] ?_; simp only [AK, Nat.reduceBEq]
  refine Run.nq ?_; refine Run.regionW hC (fun K hK => ?_); refine wW ?_
  refine .inl (FunA.callG hP hT (c_eqIntSS (ccX c) (ccX c) (by have := ccX_len c; omega) (fun r hr => by have := ccX_rows c r hr; omega)) (fun _ => rfl) (fun _ => by simp only [AW7, simprocAttr]) ?_)
  refine wW ?_
  refine wE ?_; clear hK K
  refine Run.keep [0, 2, 3, 4, 5, 6, 7, 8, 9, 61] ?_; simp only [AK, Nat.reduceBEq]
  refine Run.nq ?_; refine Run.cW ?_ ?_
  · intro hc
    exfalso
    simp [iota_length, sumL_iotaR] at hc <;> omega
  intro hc0; clear hc0
  refine Run.R ?_
  refine Run.keep [0, 2, 3, 4, 5, 6, 7, 8, 9, 10] ?_; simp only [AK, Nat.reduceBEq]
  refine Run.nq ?_; refine Run.regionW hC (fun K hK => ?_); refine wW ?_
  refine FunO.callMat hP hT (c_markIntSS hs4 (ccX c) 1 (by have := ccX_len c; omega) (by have := sumL_le (ccX_len c) (ccX_rows c); omega) true) 3 0 (by simp only [AW7, simprocAttr]; rfl) (by simp) (by simp only [AW7, simprocAttr]) ?_
  rintro rs o o2 ⟨rfl, h⟩; obtain ⟨rfl, rfl⟩ := List.cons.inj h
  refine wW ?_
  refine wE ?_; clear hK K
  refine Run.keep [0, 2, 3, 4, 5, 6, 7, 8, 9, 10] ?_; simp only [AK, Nat.reduceBEq]
  refine Run.R ?_
  refine Run.keep [0, 2, 3, 4, 5, 6, 7, 8, 9, 10, 11] ?_; simp only [AK, Nat.reduceBEq]
  refine Run.nq ?_; refine Run.regionW hC (fun K hK => ?_); refine wW ?_
  refine FunA.cW hP hT (c_heldIotaR 1 (ccX c) (by have := ccX_len c; omega) (fun r hr => by have := ccX_rows c r hr; omega) (by have := sumL_le (ccX_len c) (ccX_rows c); omega)) ?_
  rintro rs o ⟨rfl, rfl⟩
  refine wW ?_
  refine wE ?_; clear hK K
  refine Run.keep [0, 2, 3, 4, 5, 6, 7, 8, 9, 10, 11] ?_; simp only [AK, Nat.reduceBEq]
  refine Run.R ?_
  refine Run.keep [0, 2, 3, 4, 5, 6, 7, 8, 9, 10, 11, 69] ?_; simp only [AK, Nat.reduceBEq]
  refine Run.nq ?_; refine Run.cW ?_ ?_
  · intro hc
    exfalso
    simp [iota_length, sumL_iotaR] at hc <;> omega
  intro hc0; clear hc0
  refine Run.R ?_
  refine Run.keep [0, 2, 3, 4, 5, 6, 7, 8, 9, 10, 11, 72] ?_; simp only [AK, Nat.reduceBEq]
  refine Run.nq ?_; refine Run.cW ?_ ?_
  · intro hc
    exfalso
    simp [iota_length, sumL_iotaR] at hc <;> omega
  intro hc0; clear hc0
  refine Run.nq ?_; refine Run.regionW hC (fun K hK => ?_); refine wW ?_
  refine FunA.cW hP hT (c_toIntSS c hcn hcr) ?_
  rintro rs o ⟨rfl, hs6, hs6l, rfl⟩
  refine wW ?_
  refine FunA.cW hPJ hTJ (c_impl_ConjugacyClasses c) ?_
  rintro rs o ⟨rfl, hs7, hs7l, rfl⟩
  refine wW ?_
  refine wE ?_; clear hK K
  refine Run.keep [0, 2, 3, 4, 5, 6, 7, 8, 9, 10, 11, 12, 13] ?_; simp only [AK, Nat.reduceBEq]
  refine Run.nq ?_; refine Run.regionW hC (fun K hK => ?_); refine wW ?_
  refine FunA.cW hP hT (c_eqIntSS (ccX c) (ccX c) (by have := ccX_len c; omega) (fun r hr => by have := ccX_rows c r hr; omega)) ?_
  rintro rs o ⟨rfl, rfl⟩
  refine wW ?_
  refine wE ?_; clear hK K
  refine Run.keep [0, 2, 3, 4, 5, 6, 7, 8, 9, 10, 11, 12, 13, 87] ?_; simp only [AK, Nat.reduceBEq]
  refine Run.nq ?_; refine Run.cW ?_ ?_
  · intro hc
    exfalso
    simp [iota_length, sumL_iotaR] at hc <;> omega
  intro hc0; clear hc0
  refine Run.R ?_
  refine Run.keep [0, 2, 3, 4, 5, 6, 7, 8, 9, 10, 11, 12, 13] ?_; simp only [AK, Nat.reduceBEq]
  refine Run.nq ?_; refine Run.regionW hC (fun K hK => ?_); refine wW ?_
  refine FunA.cW hP hT (c_heldIotaR 1 (ccX c) (by have := ccX_len c; omega) (fun r hr => by have := ccX_rows c r hr; omega) (by have := sumL_le (ccX_len c) (ccX_rows c); omega)) ?_
  rintro rs o ⟨rfl, rfl⟩
  refine wW ?_
  refine wE ?_; clear hK K
  refine Run.keep [0, 2, 3, 4, 5, 6, 7, 8, 9, 10, 11, 12, 13] ?_; simp only [AK, Nat.reduceBEq]
  refine Run.R ?_
  refine Run.keep [0, 2, 3, 4, 5, 6, 7, 8, 9, 10, 11, 12, 13, 92] ?_; simp only [AK, Nat.reduceBEq]
  refine Run.nq ?_; refine Run.cW ?_ ?_
  · intro hc
    exfalso
    simp [iota_length, sumL_iotaR] at hc <;> omega
  intro hc0; clear hc0
  refine Run.R ?_
  refine Run.keep [0, 2, 3, 4, 5, 6, 7, 8, 9, 10, 11, 12, 13, 95] ?_; simp only [AK, Nat.reduceBEq]
  refine Run.nq ?_; refine Run.cW ?_ ?_
  · intro hc
    exfalso
    simp [iota_length, sumL_iotaR] at hc <;> omega
  intro hc0; clear hc0
  refine Run.R ?_
  refine Run.keep [0, 2, 3, 4, 5, 6, 7, 8, 9, 10, 11, 12, 13] ?_; simp only [AK, Nat.reduceBEq]
  refine Run.rW [2] (hfin _ _ rfl rfl ?_)
  rfl
end Go.Proofs.YtaghdbbcadhjdaaGreatDoor
namespace Go.Proofs.YtaghdbbcadhjdaaGreatDoor
open Go Go.Aw
theorem maxGl : Tryz.prog.globalNamed maxN = some (spltL_ren.g 1) := by kernel_rfl
theorem laidS {W : World} (hS : W.ShapedOpen Tryz.prog) : Laid Tryz.prog W (fun _ => False) :=
  ⟨fun g hg => (nomatch ((show Tryz.prog.globalNamed tabN = none by kernel_rfl).symm.trans hg)), fun g hg => ⟨fun k => k, by
    rw [← Option.some.inj (maxGl.symm.trans hg)]
    exact cell_of_shapedOpen_int (zero := #[.int .i64 0]) (t := 3) hS (of_decide_eq_true (by kernel_rfl)) (by kernel_rfl) (by kernel_rfl) (by kernel_rfl) (by kernel_rfl) Tryz.underlying3⟩⟩
end Go.Proofs.YtaghdbbcadhjdaaGreatDoor
namespace Go
variable {H : Type} {enc : TypeId × Value → H}
theorem handed_and_shaped {a : Assume} {C : Checked} {os : Os} {f : FuncId} {fn : Func} {s : ChangeSpec} {conds : List PathCond} {apart fresh handsOn again : Bool} {X : World → Array Value → Prop}
    (hX : ∀ (w w' : World) (args : Array Value), w.heap = w'.heap → X w args → X w' args)
    (own : ownKnob C.prog.godebug = none) (started : os.Started) (noInit : C.prog.inits.idxOf? f = none) (hfn : C.prog.funcs[f]? = some fn)
    (witness : ∃ (w : World) (tape : Tape) (i : Input), w.os = os ∧ (w.forCall tape i).Shaped C.prog ∧ i.vars = [] ∧ Input.okWide C.prog (w.forCall tape i) .any w.heap.size f i ∧
      ((s.pre enc C.prog fn conds apart (w.forCall tape i).memory i.args ∧ X (w.forCall tape i).memory i.args) ∧ sizedMet enc C.prog fn (OpenSpec.ofChange s) apart (w.forCall tape i).memory i.args) ∧ a.holds C.prog (lone (Frame.enter C.prog f i.args .normal) [] (w.forCall tape i)))
    (contract : ∀ (W : World) (base : Nat) (args : Array Value) (ds gs : List (DataW H)) (before : List MemPlace),
      (∀ (j : Nat) t v, fn.params[j]? = some t → args[j]? = some v → Value.okWide C.prog W .any base t v) →
      DataW.Whole enc C.prog fn.params.toList s.vars apart W args.toList ds gs before →
      conds.all (PathCond.test C.prog ⟨fn.params.toList, ds, s.plain.varTypes C.prog, gs⟩) = true →
      (DataW.weightsEach C.prog (fn.params.toList ++ s.plain.varTypes C.prog) (ds ++ gs)).all (· ≤ reachBytes) = true → X W args → W.ShapedOpen C.prog →
      a.holds C.prog (lone (Frame.enter C.prog f args .normal) [] W) →
      Calls C.prog f args W fun e W' => ∃ v, e = .returned v ∧ s.post enc C.prog fn apart fresh handsOn again W args v W') :
    ReturnsInHanded a C os f .any (fun w args => (s.pre enc C.prog fn conds apart w args ∧ X w args) ∧ sizedMet enc C.prog fn (OpenSpec.ofChange s) apart w args) (s.post enc C.prog fn apart fresh handsOn again) := by
  refine returnsInHanded_of_calls own started noInit witness ?_
  intro w tape i _ hsh _ hok hpre hholds
  obtain ⟨_, _, _, fn', hfn', _, _, _, _, hval⟩ := hok
  have e : fn' = fn := Option.some.inj (hfn'.symm.trans hfn)
  subst e
  obtain ⟨⟨⟨ds, gs, before, hw, hc⟩, hx⟩, hz⟩ := hpre
  have hw' := DataW.Whole.of_heap (w' := w.forCall tape i) (by rfl) hw
  refine (contract (w.forCall tape i) w.heap.size i.args ds gs before hval hw' hc (hz.weights hw) (hX _ _ _ (by rfl) hx) hsh hholds).mono fun e W' ⟨v, he, hp⟩ => ?_
  subst he
  exact ChangeSpec.post_blind hp
end Go
