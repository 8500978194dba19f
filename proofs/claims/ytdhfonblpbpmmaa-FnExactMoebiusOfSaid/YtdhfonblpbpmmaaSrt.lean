/- A row of rows, sorted: slices.SortFunc at a call. -/
import Derived.Test.YtdhfonblpbpmmaaTab
import Derived.Shelf.SlSortCmp.Whole1
set_option linter.unusedVariables false
set_option linter.unusedSimpArgs false
namespace Go.Proofs.Ytdhfonblpbpmmaa
open Go Go.Aw

theorem world_grow {w w' : World} (h1 : w'.os = w.os) (h2 : w'.tape = w.tape) (h3 : w'.output = w.output) (h4 : w.drawn ≤ w'.drawn) (h5 : w.heap.size ≤ w'.heap.size) (h6 : ∀ b, b < w.heap.size → w'.heap[b]? = w.heap[b]?) :
    w' = Go.Sort.grow (w.drewN (w'.drawn - w.drawn)) (w'.heap.extract w.heap.size w'.heap.size) := by
  have hh : w'.heap = w.heap ++ w'.heap.extract w.heap.size w'.heap.size := by
    apply Array.ext_getElem?
    intro i
    rw [Array.getElem?_append]
    split
    · rename_i hi; exact h6 i hi
    · rename_i hi
      rw [Array.getElem?_extract]
      split
      · congr 1; omega
      · rename_i h; rw [Array.getElem?_eq_none]; omega
  have hd : w.drawn + (w'.drawn - w.drawn) = w'.drawn := by omega
  unfold Go.Sort.grow World.drewN
  obtain ⟨H', t', d', o', u'⟩ := w'
  simp only at h1 h2 h3 hh hd ⊢
  subst h1 h2 h3
  rw [← hh, hd]

theorem sw_heap {α : Type} [Inhabited α] (enc : α → Value) (w : World) (blk off m : Nat) (d : Array α) (os : Array Obj) (b : Nat) (hb : b < w.heap.size) :
    (sortWorld enc w blk off m d os).heap[b]? = if b = blk then (w.heap[b]?).map (Go.Sort.onCells (Go.Sort.putCells enc off d)) else w.heap[b]? := by
  show ((w.heap.modify blk (Go.Sort.onCells (Go.Sort.putCells enc off d))) ++ os)[b]? = _
  rw [Array.getElem?_append, if_pos (by simpa using hb), Array.getElem?_modify]
  by_cases h : b = blk
  · rw [if_pos h, if_pos h.symm]
  · rw [if_neg h, if_neg (Ne.symm h)]
theorem sw_size {α : Type} [Inhabited α] (enc : α → Value) (w : World) (blk off m : Nat) (d : Array α) (os : Array Obj) : w.heap.size ≤ (sortWorld enc w blk off m d os).heap.size := by
  show _ ≤ ((w.heap.modify blk (Go.Sort.onCells (Go.Sort.putCells enc off d))) ++ os).size
  simp

theorem ACall.sort {B C : Ctx} (hP : B.P = C.P) (hT : B.tid = C.tid) {ρs : Go.Shelf.Ren} (L : SlLaysF.n6 B.P ρs) {f g : FuncId} (hf : ρs.f 6 = f) {cf : List Int → List Int → Int} (hO : Go.Sort.SWO (ltOf cf)) {obs : List O} (id gg : Nat) {ys : List (Nat × List Int)}
    (ho : oAt obs id = .arr .lrow ys gg true) (hyb : ys.length ≤ 1048576) (hcmp : ∀ a b, (a = [] ∨ a ∈ ys.map (·.2)) → (b = [] ∨ b ∈ ys.map (·.2)) → FunA B g [.sl false .int a, .sl false .int b] (fun rs o => rs = [.int .i64 (cf a b)] ∧ o = [])) {K : Sl → List O → Prop}
    (hk : ∀ ys', ys'.Perm ys → ys'.Pairwise (fun p q => ¬ cf q.2 p.2 < 0) → K (.t []) (oSet obs id (.arr .lrow ys' gg true))) : ACall C obs f [.own id gg, .fn g] fun x o => Later (K x o) := by
  refine ⟨fun vs w => by rw [← hP, ← hf]; exact L.f6.enters rfl vs w, fun w ρ vs rr hl hx => ?_⟩
  have hid : id < obs.length := by
    rcases Nat.lt_or_ge id obs.length with h | h
    · exact h
    · rw [oAt_eq, List.getElem?_eq_none h] at ho; cases ho
  have ho' : obs[id]? = some (.arr .lrow ys gg true) := by rw [oAt_get hid, ho]
  match vs, hl with
  | [u1, u2], _ =>
  have a1 := hx 0 _ u1 rfl rfl
  have a2 : u2 = .func (.func g) #[] #[] := hx 1 _ u2 rfl rfl
  obtain ⟨_, a1⟩ := (show AVRel (C.V w obs ρ) obs ρ (.own id gg) u1 from a1)
  have hu1 : u1 = ρ id := (a1 gg (by unfold genOf; rw [ho']; rfl)).2 rfl
  obtain ⟨cs, hown, henc, hnn, hml⟩ := rr.os id _ ho'
  have hcl : cs.length = ys.length := by simpa [E.size] using henc.1
  rcases hown.2 with ⟨hv, _⟩ | ⟨b, cap, cur, hv, _, hg, h1, h2, h3, h4⟩
  · exact (hnn rfl hv).elim
  have hrow : ∀ i (hi : i < ys.length), ∃ u, cs[i]? = some u ∧ LRowRel (C.V w obs ρ) ys[i].1 ys[i].2 u := by
    intro i hi
    obtain ⟨u, hu, hc⟩ := henc.2 i hi
    have hu' : LRowRel (C.V w obs ρ) ys[i].1 ys[i].2 u := hu
    have hc0 := hc 0 (by simp [E.size])
    simp only [E.size, Nat.mul_one, Nat.add_zero] at hc0
    refine ⟨u, ?_, hu'⟩
    rw [hc0, cells_oneCell hu'.oneCell]
    rfl
  have hob : Own obs ρ b := ⟨id, _, ho', by simp [fpo, hv, Value.ownBlock]⟩
  -- the values, by their places
  let nil : Value := .slice none 0 0
  let enc : Fin (ys.length + 1) → Value := fun i => cs.getD i.1 nil
  let row : Fin (ys.length + 1) → List Int := fun i => (ys.map (·.2)).getD i.1 []
  let cf' : Fin (ys.length + 1) → Fin (ys.length + 1) → Int := fun i j => cf (row i) (row j)
  let d : Array (Fin (ys.length + 1)) := Array.ofFn fun i : Fin ys.length => i.castSucc
  have hds : d.size = ys.length := Array.size_ofFn
  have hd : ∀ j, j < ys.length → (d[j]!).1 = j := fun j hj => by
    rw [getElem!_pos d j (by rw [hds]; exact hj)]
    simp [d]
  have henc' : ∀ i : Fin (ys.length + 1), (∃ h : i.1 < ys.length, cs[i.1]? = some (enc i) ∧ row i = ys[i.1].2 ∧ LRowRel (C.V w obs ρ) ys[i.1].1 (row i) (enc i)) ∨ (enc i = nil ∧ row i = []) := by
    intro i
    by_cases hi : i.1 < ys.length
    · obtain ⟨u, hu, hr⟩ := hrow i.1 hi
      have e1 : enc i = u := by show cs.getD i.1 nil = u; simp [List.getD, hu]
      have e2 : row i = ys[i.1].2 := by show (ys.map (·.2)).getD i.1 [] = _; simp [List.getD, hi]
      exact .inl ⟨hi, by rw [e1]; exact hu, e2, by rw [e1, e2]; exact hr⟩
    · right
      exact ⟨by show cs.getD i.1 nil = nil; simp [List.getD, List.getElem?_eq_none (by omega : cs.length ≤ i.1)], by show (ys.map (·.2)).getD i.1 [] = []; simp [List.getD, List.getElem?_eq_none (by simp; omega : (ys.map (·.2)).length ≤ i.1)]⟩
  have hone : OneCell enc := fun i => by
    rcases henc' i with ⟨_, _, _, h⟩ | ⟨h, _⟩
    · exact h.oneCell
    · rw [h]; rfl
  have hmem : ∀ i, row i = [] ∨ row i ∈ ys.map (·.2) := fun i => by
    rcases henc' i with ⟨h, _, h2, _⟩ | ⟨_, h⟩
    · right; rw [h2]; exact List.mem_map.2 ⟨_, List.getElem_mem h, rfl⟩
    · exact .inl h
  have hblk : b < w.heap.size := (Array.getElem?_eq_some_iff.1 hg).1
  have hcc : ∀ i, i < ys.length → cur[i]? = cs[i]? := fun i hi => by
    rw [← h4]
    simp only [E.size, Nat.mul_one]
    rw [List.getElem?_take_of_lt hi]
    simp
  have hH : Go.Sort.Holds enc w b 0 d := fun j hj => by
    rw [hds] at hj
    refine ⟨?_, ?_⟩
    · have hj' := hd j hj
      simp only [World.cell?, hg, Nat.zero_add]
      show cur[j]? = some (enc d[j]!)
      rw [hcc j hj]
      rcases henc' (d[j]!) with ⟨_, h, _⟩ | ⟨h, _⟩
      · rw [hj'] at h; exact h
      · have : enc d[j]! = cs.getD j nil := by show cs.getD (d[j]!).1 nil = _; rw [hj']
        rw [this]
        simp [List.getD, List.getElem?_eq_getElem (by omega : j < cs.length)]
    · simp [World.frozen?, hg]
  have hvis : ∀ l o, (C.V w obs ρ).H l = some o → l ≠ b ∧ w.heap[l]? = some o := fun l o h => by
    obtain ⟨k1, k2⟩ := H_vis h
    exact ⟨fun e => k1 (e ▸ hob), k2⟩
  have hC : CmpLays1 B.P g #[] enc cf' b 0 d.size w := by
    intro m os dk _ x y
    have hrel : ∀ z, AVRel ((B.bareL (sortWorld enc w b 0 m dk os) (fun _ => False)).V (sortWorld enc w b 0 m dk os) [] (fun _ => undef)) [] (fun _ => undef) (.sl false .int (row z)) (enc z) := fun z => by
      rcases henc' z with ⟨_, _, _, cap, cur, hv, _, hH, hc⟩ | ⟨hz, hr⟩
      · obtain ⟨k1, k2⟩ := hvis _ _ hH
        have k3 := sw_heap enc w b 0 m dk os _ (Array.getElem?_eq_some_iff.1 k2).1
        rw [if_neg k1, k2] at k3
        have hl : LRowRel ((B.bareL (sortWorld enc w b 0 m dk os) (fun _ => True)).V (sortWorld enc w b 0 m dk os) [] (fun _ => undef)) _ (row z) (enc z) :=
          ⟨cap, cur, hv, .inr trivial, by rw [H_bare, k3]; show _ = some (Obj.cells cur (B.tid .int) (0, 0)); rw [hT]; rfl, hc⟩
        have hs := hl.toRow.weaken.toSl
        obtain ⟨base, cap', q1, q2, q3, q4⟩ := hs
        refine ⟨base, cap', q1, q2, q3, fun i hi => ?_⟩
        obtain ⟨a, u, r1, _, r3, r4⟩ := q4 i hi
        refine ⟨a, u, r1, by simp, r3, fun j hj => ?_⟩
        have := r4 j hj
        simpa [Vw.cell, H_bare] using this
      · rw [hz, hr]
        exact ⟨none, 0, rfl, by simp, by simp, fun i hi => by simp at hi⟩
    have key := (hcmp (row x) (row y) (hmem x) (hmem y)).2 (sortWorld enc w b 0 m dk os) (fun _ => False) [enc x, enc y] rfl (fun i a v hi hv => by
      match i with
      | 0 => simp at hi hv; subst hi hv; exact hrel x
      | 1 => simp at hi hv; subst hi hv; exact hrel y
      | i + 2 => simp at hi)
    refine key.mono fun e w' ⟨us, he, xs, obs', ρ', ⟨hxs, hobs⟩, hul, hu, hw', _, _⟩ => ?_
    subst hxs hobs
    match us, hul with
    | [v], _ =>
    have hv : v = .int .i64 (cf (row x) (row y)) := hu 0 _ v rfl rfl
    refine ⟨by rw [he, hv]; rfl, _, _, world_grow hw'.os0 hw'.tape hw'.output hw'.drawn hw'.grow (fun b hb => hw'.kept b hb (fun k => k))⟩
  have hsz : d.size < 4611686018427387904 := by rw [hds]; omega
  have hO' : Go.Sort.SWO (ltOf cf') := ⟨fun x => hO.irrefl _, fun x y z => hO.trans _ _ _, fun x y z => hO.ntrans _ _ _⟩
  have main := Any.slices_SortFunc L enc hone cf' hO' g #[] b 0 cap d w (hcmp [] [] (.inl rfl) (.inl rfl)).1 hC hH hblk hsz
  rw [hf, hP, hds] at main
  subst a2 hu1
  rw [hv]
  refine main.mono fun e w' ⟨he, d', n, os, hperm, hsort, hw'⟩ => ⟨.tuple #[], he, .t [], ?_⟩
  obtain ⟨hps, _, hpp⟩ := hperm
  rw [hds] at hps
  have hpl : d'.toList.Perm d.toList := by
    have e1 : d'.extract 0 ys.length = d' := (congrArg (fun k => d'.extract 0 k) hps.symm).trans Array.extract_size
    have e2 : d.extract 0 ys.length = d := (congrArg (fun k => d.extract 0 k) hds.symm).trans Array.extract_size
    rw [e1, e2] at hpp
    exact hpp
  have hdl : ∀ x ∈ d'.toList, x.1 < ys.length := fun x hx => by
    have := hpl.mem_iff.1 hx
    simp only [d, Array.toList_ofFn, List.mem_ofFn] at this
    obtain ⟨i, rfl⟩ := this
    exact i.2
  let nth : Fin (ys.length + 1) → Nat × List Int := fun i => ys.getD i.1 (0, [])
  have hnth : ∀ i : Fin (ys.length + 1), i.1 < ys.length → row i = (nth i).2 := fun i hi => by
    show (ys.map (·.2)).getD i.1 [] = (ys.getD i.1 (0, [])).2
    simp [List.getD, hi]
  let ys' := d'.toList.map nth
  have hyl : ys'.length = ys.length := by simp [ys', hps]
  have hyp : ys'.Perm ys := by
    have e : d.toList.map nth = ys := by
      apply List.ext_getElem
      · simp [hds]
      · intro i q1 q2
        simp only [List.getElem_map, Array.getElem_toList]
        have := hd i q2
        rw [getElem!_pos d i (by rw [hds]; exact q2)] at this
        show ys.getD (d[i]'_).1 (0, []) = _
        rw [this]
        simp [List.getD, q2]
    rw [← e]
    exact hpl.map _
  have hget : ∀ i (hi : i < ys.length), d'[i]! = d'[i]'(by omega) := fun i hi => getElem!_pos d' i (by omega)
  have hys : ys'.Pairwise (fun p q => ¬ cf q.2 p.2 < 0) := by
    refine List.pairwise_iff_getElem.2 fun i j hi hj hij => ?_
    rw [hyl] at hi hj
    have hso := hsort i j (Nat.zero_le _) hij hj
    rw [hget i hi, hget j hj] at hso
    have hlt : ¬ cf (row (d'[j]'(by omega))) (row (d'[i]'(by omega))) < 0 := by
      have : decide (cf (row (d'[j]'(by omega))) (row (d'[i]'(by omega))) < 0) = false := hso
      simpa using this
    have m1 := hdl (d'[i]'(by omega)) (by simp)
    have m2 := hdl (d'[j]'(by omega)) (by simp)
    rw [hnth _ m1, hnth _ m2] at hlt
    simpa [ys'] using hlt
  -- the world
  have hheap := fun b' (hb : b' < w.heap.size) => sw_heap enc w b 0 n d' os b' hb
  have hext : Ext (fun b' => fpo (ρ id) (.arr .lrow ys gg true) b') w w' := by
    rw [hw']
    refine ⟨rfl, rfl, rfl, sw_size .., Nat.le_add_right _ _, fun b' hb' hS => ?_⟩
    rw [hheap b' hb', if_neg]
    intro e
    subst e
    exact hS (by simp [fpo, hv, Value.ownBlock])
  have hfb : ∀ b', fpo (ρ id) (.arr .lrow ys' gg true) b' → fpo (ρ id) (.arr .lrow ys gg true) b' ∨ w.heap.size ≤ b' := fun b' hb' => .inl hb'
  have hle := le_one (C := C) (o' := .arr .lrow ys' gg true) (v := ρ id) ho' hext hfb
  have T := Turn.one rr id (.arr .lrow ys gg true) (.arr .lrow ys' gg true) (ρ id) ho' hext (w' := w') ?_ hfb (fun c' hc => ⟨gg, rfl, .inl ⟨(by cases hc; rfl), rfl⟩⟩)
  · have hst := T.step rr
    refine ⟨obs.set id (.arr .lrow ys' gg true), _, hst, ⟨[], rfl, rfl, by simp⟩, ?_⟩
    have := hk ys' hyp hys
    rw [oSet_eq] at this
    exact this
  · refine ⟨d'.toList.map enc, ⟨by simp [hps, hyl, E.size], .inr ⟨b, cap, Go.Sort.putCells enc 0 d' cur, by rw [hyl]; exact hv, Nat.zero_le _, ?_, by rw [hyl]; exact h1, h2, by simpa [Go.Sort.putCells] using h3, ?_⟩⟩, ⟨by simp [hps, hyl, E.size], fun i hi => ?_⟩, fun _ => by rw [hv]; simp, by rw [hyl]; exact hml⟩
    · rw [hw', hheap b hblk, if_pos rfl, hg]
      rfl
    · rw [hyl]
      apply List.ext_getElem?
      intro i
      simp only [E.size, Nat.mul_one]
      by_cases hi : i < ys.length
      · rw [List.getElem?_take_of_lt hi]
        have hic : i < cur.size := by rw [h3]; simp only [E.size, Nat.mul_one]; omega
        have hput : (Go.Sort.putCells enc 0 d' cur)[i]? = some (enc (d'[i]'(by omega))) := by
          unfold Go.Sort.putCells
          rw [Array.getElem?_mapIdx, Array.getElem?_eq_getElem hic]
          simp only [Option.map_some]
          rw [if_pos (by omega), Nat.sub_zero, hget i hi]
        rw [Array.getElem?_toList, hput]
        simp [hps, hi]
      · rw [List.getElem?_eq_none (by simp; omega), List.getElem?_eq_none (by simp [hps]; omega)]
    · rw [hyl] at hi
      have hm := hdl (d'[i]'(by omega)) (by simp)
      have hyi : ys'[i]'(by omega) = nth (d'[i]'(by omega)) := by simp [ys']
      rcases henc' (d'[i]'(by omega)) with ⟨q1, q2, q3, q4⟩ | ⟨q1, q2⟩
      · refine ⟨enc (d'[i]'(by omega)), ?_, fun j hj => ?_⟩
        · rw [hyi]
          show LRowRel _ (nth (d'[i]'(by omega))).1 (nth (d'[i]'(by omega))).2 _
          rw [← hnth _ hm]
          have : (nth (d'[i]'(by omega))).1 = ys[(d'[i]'(by omega)).1].1 := by
            show (ys.getD _ (0, [])).1 = _
            simp [List.getD, q1]
          rw [this]
          exact q4.mono hle
        · have : j = 0 := by simp [E.size] at hj; omega
          subst this
          rw [cells_oneCell (hone _)]
          simp [E.size, hps, hi]
      · exfalso
        obtain ⟨u, r1, r2⟩ := hrow (d'[i]'(by omega)).1 hm
        obtain ⟨c1, c2, r3, _⟩ := r2
        have : enc (d'[i]'(by omega)) = u := by show cs.getD _ nil = u; simp [List.getD, r1]
        rw [q1, r3] at this
        simp [nil] at this
end Go.Proofs.Ytdhfonblpbpmmaa
