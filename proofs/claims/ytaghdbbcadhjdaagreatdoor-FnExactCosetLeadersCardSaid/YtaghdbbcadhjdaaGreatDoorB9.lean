/- A row of rows, sorted: slices.SortFunc at a call. -/
import Derived.Test.YtaghdbbcadhjdaaGreatDoorB6
import Derived.Shelf.SlSortCmp.Whole1
import Derived.Test.YtaghdbbcadhjdaaGreatDoorB8
set_option linter.unusedVariables false
set_option linter.unusedSimpArgs false
namespace Go.Proofs.YtaghdbbcadhjdaaGreatDoor
open Go Go.Aw
theorem world_grow {w w' : World} (h1 : w'.os = w.os) (h2 : w'.tape = w.tape) (h3 : w'.output = w.output) (h4 : w.drawn ≤ w'.drawn) (h5 : w.heap.size ≤ w'.heap.size) (h6 : ∀ b, b < w.heap.size → w'.heap[b]? = w.heap[b]?) :
    w' = Go.Sort.grow (w.drewN (w'.drawn - w.drawn)) (w'.heap.extract w.heap.size w'.heap.size) := by
  have hh : w'.heap = w.heap ++ w'.heap.extract w.heap.size w'.heap.size := by
    apply Array.ext_getElem?
    intro i
    rw [Array.getElem?_append]
    split
    · rename_i hi; exact h6 i hi
    · rename_i hi
      rw [Array.getElem?_extract]
      split
      · congr 1; omega
      · rename_i h; rw [Array.getElem?_eq_none]; omega
  have hd : w.drawn + (w'.drawn - w.drawn) = w'.drawn := by omega
  unfold Go.Sort.grow World.drewN
  obtain ⟨H', t', d', o', u'⟩ := w'
  simp only at h1 h2 h3 hh hd ⊢
  subst h1 h2 h3
  rw [← hh, hd]
theorem sw_heap {α : Type} [Inhabited α] (enc : α → Value) (w : World) (blk off m : Nat) (d : Array α) (os : Array Obj) (b : Nat) (hb : b < w.heap.size) :
    (sortWorld enc w blk off m d os).heap[b]? = if b = blk then (w.heap[b]?).map (Go.Sort.onCells (Go.Sort.putCells enc off d)) else w.heap[b]? := by
  show ((w.heap.modify blk (Go.Sort.onCells (Go.Sort.putCells enc off d))) ++ os)[b]? = _
  rw [Array.getElem?_append, if_pos (by simpa using hb), Array.getElem?_modify]
  by_cases h : b = blk
  · rw [if_pos h, if_pos h.symm]
  · rw [if_neg h, if_neg (Ne.symm h)]
theorem sw_size {α : Type} [Inhabited α] (enc : α → Value) (w : World) (blk off m : Nat) (d : Array α) (os : Array Obj) : w.heap.size ≤ (sortWorld enc w blk off m d os).heap.size := by
  show _ ≤ ((w.heap.modify blk (Go.Sort.onCells (Go.Sort.putCells enc off d))) ++ os).size
  simp
theorem ACall.sort {B C : Ctx} [DrT B] (hP : B.P = C.P) (hT : B.tid = C.tid) {ρs : Go.Shelf.Ren} (L : SlLaysF.n6 B.P ρs) {f g : FuncId} (hf : ρs.f 6 = f) {cf : List Int → List Int → Int} (hO : Go.Sort.SWO (ltOf cf)) {obs : List O} (id gg : Nat) {ys : List (Nat × List Int)}
    (ho : oAt obs id = .arr .lrow ys gg true) (hyb : ys.length ≤ 1048576) (hcmp : ∀ a b, (a = [] ∨ a ∈ ys.map (·.2)) → (b = [] ∨ b ∈ ys.map (·.2)) → FunA B g [.sl false .int a, .sl false .int b] (fun rs o => rs = [.int .i64 (cf a b)] ∧ o = [])) {K : Sl → List O → Prop}
    (hk : ∀ ys', ys'.Perm ys → ys'.Pairwise (fun p q => ¬ cf q.2 p.2 < 0) → K (.t []) (oSet obs id (.arr .lrow ys' gg true))) : ACall C obs f [.own id gg, .fn g] fun x o => Later (K x o) := by
  refine ⟨fun vs w => by rw [← hP, ← hf]; exact L.f6.enters rfl vs w, fun w ρ vs rr hl hx => ?_⟩
  have hid : id < obs.length := by
    rcases Nat.lt_or_ge id obs.length with h | h
    · exact h
    · rw [oAt_eq, List.getElem?_eq_none h] at ho; cases ho
  have ho' : obs[id]? = some (.arr .lrow ys gg true) := by rw [oAt_get hid, ho]
  match vs, hl with
  | [u1, u2], _ =>
  have a1 := hx 0 _ u1 rfl rfl
  have a2 : u2 = .func (.func g) #[] #[] := hx 1 _ u2 rfl rfl
  obtain ⟨_, a1⟩ := (show AVRel (C.V w obs ρ) obs ρ (.own id gg) u1 from a1)
  have hu1 : u1 = ρ id := (a1 gg (by unfold genOf; rw [ho']; rfl)).2 rfl
  obtain ⟨cs, hown, henc, hnn, hml⟩ := rr.os id _ ho'
  have hcl : cs.length = ys.length := by simpa [E.size] using henc.1
  rcases hown.2 with ⟨hv, _⟩ | ⟨b, cap, cur, hv, _, hg, h1, h2, h3, h4⟩
  · exact (hnn rfl hv).elim
  have hrow : ∀ i (hi : i < ys.length), ∃ u, cs[i]? = some u ∧ LRowRel (C.V w obs ρ) ys[i].1 ys[i].2 u := by
    intro i hi
    obtain ⟨u, hu, hc⟩ := henc.2 i hi
    have hu' : LRowRel (C.V w obs ρ) ys[i].1 ys[i].2 u := hu
    have hc0 := hc 0 (by simp [E.size])
    simp only [E.size, Nat.mul_one, Nat.add_zero] at hc0
    refine ⟨u, ?_, hu'⟩
    rw [hc0, cells_oneCell hu'.oneCell]
    rfl
  have hob : Own obs ρ b := ⟨id, _, ho', by simp [fpo, hv, Value.ownBlock]⟩
  let nil : Value := .slice none 0 0
  let enc : Fin (ys.length + 1) → Value := fun i => cs.getD i.1 nil
  let row : Fin (ys.length + 1) → List Int := fun i => (ys.map (·.2)).getD i.1 []
  let cf' : Fin (ys.length + 1) → Fin (ys.length + 1) → Int := fun i j => cf (row i) (row j)
  let d : Array (Fin (ys.length + 1)) := Array.ofFn fun i : Fin ys.length => i.castSucc
  have hds : d.size = ys.length := Array.size_ofFn
  have hd : ∀ j, j < ys.length → (d[j]!).1 = j := fun j hj => by
    rw [getElem!_pos d j (by rw [hds]; exact hj)]
    simp [d]
  have henc' : ∀ i : Fin (ys.length + 1), (∃ h : i.1 < ys.length, cs[i.1]? = some (enc i) ∧ row i = ys[i.1].2 ∧ LRowRel (C.V w obs ρ) ys[i.1].1 (row i) (enc i)) ∨ (enc i = nil ∧ row i = []) := by
    intro i
    by_cases hi : i.1 < ys.length
    · obtain ⟨u, hu, hr⟩ := hrow i.1 hi
      have e1 : enc i = u := by show cs.getD i.1 nil = u; simp [List.getD, hu]
      have e2 : row i = ys[i.1].2 := by show (ys.map (·.2)).getD i.1 [] = _; simp [List.getD, hi]
      exact .inl ⟨hi, by rw [e1]; exact hu, e2, by rw [e1, e2]; exact hr⟩
    · right
      exact ⟨by show cs.getD i.1 nil = nil; simp [List.getD, List.getElem?_eq_none (by omega : cs.length ≤ i.1)], by show (ys.map (·.2)).getD i.1 [] = []; simp [List.getD, List.getElem?_eq_none (by simp; omega : (ys.map (·.2)).length ≤ i.1)]⟩
  have hone : OneCell enc := fun i => by
    rcases henc' i with ⟨_, _, _, h⟩ | ⟨h, _⟩
    · exact h.oneCell
    · rw [h]; rfl
  have hmem : ∀ i, row i = [] ∨ row i ∈ ys.map (·.2) := fun i => by
    rcases henc' i with ⟨h, _, h2, _⟩ | ⟨_, h⟩
    · right; rw [h2]; exact List.mem_map.2 ⟨_, List.getElem_mem h, rfl⟩
    · exact .inl h
  have hblk : b < w.heap.size := (Array.getElem?_eq_some_iff.1 hg).1
  have hcc : ∀ i, i < ys.length → cur[i]? = cs[i]? := fun i hi => by
    rw [← h4]
    simp only [E.size, Nat.mul_one]
    rw [List.getElem?_take_of_lt hi]
    simp
  have hH : Go.Sort.Holds enc w b 0 d := fun j hj => by
    rw [hds] at hj
    refine ⟨?_, ?_⟩
    · have hj' := hd j hj
      simp only [World.cell?, hg, Nat.zero_add]
      show cur[j]? = some (enc d[j]!)
      rw [hcc j hj]
      rcases henc' (d[j]!) with ⟨_, h, _⟩ | ⟨h, _⟩
      · rw [hj'] at h; exact h
      · have : enc d[j]! = cs.getD j nil := by show cs.getD (d[j]!).1 nil = _; rw [hj']
        rw [this]
        simp [List.getD, List.getElem?_eq_getElem (by omega : j < cs.length)]
    · simp [World.frozen?, hg]
  have hvis : ∀ l o, (C.V w obs ρ).H l = some o → l ≠ b ∧ w.heap[l]? = some o := fun l o h => by
    obtain ⟨k1, k2⟩ := H_vis h
    exact ⟨fun e => k1 (e ▸ hob), k2⟩
  have hC : CmpLays1 B.P g #[] enc cf' b 0 d.size w := by
    intro m os dk _ x y
    have hrel : ∀ z, AVRel ((B.bareL (sortWorld enc w b 0 m dk os) (fun _ => False)).V (sortWorld enc w b 0 m dk os) [] (fun _ => undef)) [] (fun _ => undef) (.sl false .int (row z)) (enc z) := fun z => by
      rcases henc' z with ⟨_, _, _, cap, cur, hv, _, hH, hc⟩ | ⟨hz, hr⟩
      · obtain ⟨k1, k2⟩ := hvis _ _ hH
        have k3 := sw_heap enc w b 0 m dk os _ (Array.getElem?_eq_some_iff.1 k2).1
        rw [if_neg k1, k2] at k3
        have hl : LRowRel ((B.bareL (sortWorld enc w b 0 m dk os) (fun _ => True)).V (sortWorld enc w b 0 m dk os) [] (fun _ => undef)) _ (row z) (enc z) :=
          ⟨cap, cur, hv, .inr trivial, by rw [H_bare, k3]; show _ = some (Obj.cells cur (B.tid .int) (0, 0)); rw [hT]; rfl, hc⟩
        have hs := hl.toRow.weaken.toSl
        obtain ⟨base, cap', q1, q2, q3, q4⟩ := hs
        refine ⟨base, cap', q1, q2, q3, fun i hi => ?_⟩
        obtain ⟨a, u, r1, _, r3, r4⟩ := q4 i hi
        refine ⟨a, u, r1, by simp, r3, fun j hj => ?_⟩
        have := r4 j hj
        simpa [Vw.cell, H_bare] using this
      · rw [hz, hr]
        exact ⟨none, 0, rfl, by simp, by simp, fun i hi => by simp at hi⟩
    have key := (hcmp (row x) (row y) (hmem x) (hmem y)).2 (sortWorld enc w b 0 m dk os) (fun _ => False) [enc x, enc y] (by rw [hP]; exact rr.laid.up (fun c hc hno => by rw [sw_heap enc w b 0 m dk os c hc, if_neg (fun e : c = b => hno (e ▸ hob))]) (fun _ _ _ k => k)) rfl (fun i a v hi hv => by
      match i with
      | 0 => simp at hi hv; subst hi hv; exact hrel x
      | 1 => simp at hi hv; subst hi hv; exact hrel y
      | i + 2 => simp at hi)
    refine key.mono fun e w' ⟨us, he, xs, obs', ρ', ⟨hxs, hobs⟩, hul, hu, hw', _, _⟩ => ?_
    subst hxs hobs
    match us, hul with
    | [v], _ =>
    have hv : v = .int .i64 (cf (row x) (row y)) := hu 0 _ v rfl rfl
    refine ⟨by rw [he, hv]; rfl, _, _, world_grow hw'.os0 hw'.tape hw'.output (hw'.drawn (DrT.h (B := B))) hw'.grow (fun b hb => hw'.kept b hb (fun k => k))⟩
  have hsz : d.size < 4611686018427387904 := by rw [hds]; omega
  have hO' : Go.Sort.SWO (ltOf cf') := ⟨fun x => hO.irrefl _, fun x y z => hO.trans _ _ _, fun x y z => hO.ntrans _ _ _⟩
  have main := Any.slices_SortFunc L enc hone cf' hO' g #[] b 0 cap d w (hcmp [] [] (.inl rfl) (.inl rfl)).1 hC hH hblk hsz
  rw [hf, hP, hds] at main
  subst a2 hu1
  rw [hv]
  refine main.mono fun e w' ⟨he, d', n, os, hperm, hsort, hw'⟩ => ⟨.tuple #[], he, .t [], ?_⟩
  obtain ⟨hps, _, hpp⟩ := hperm
  rw [hds] at hps
  have hpl : d'.toList.Perm d.toList := by
    have e1 : d'.extract 0 ys.length = d' := (congrArg (fun k => d'.extract 0 k) hps.symm).trans Array.extract_size
    have e2 : d.extract 0 ys.length = d := (congrArg (fun k => d.extract 0 k) hds.symm).trans Array.extract_size
    rw [e1, e2] at hpp
    exact hpp
  have hdl : ∀ x ∈ d'.toList, x.1 < ys.length := fun x hx => by
    have := hpl.mem_iff.1 hx
    simp only [d, Array.toList_ofFn, List.mem_ofFn] at this
    obtain ⟨i, rfl⟩ := this
    exact i.2
  let nth : Fin (ys.length + 1) → Nat × List Int := fun i => ys.getD i.1 (0, [])
  have hnth : ∀ i : Fin (ys.length + 1), i.1 < ys.length → row i = (nth i).2 := fun i hi => by
    show (ys.map (·.2)).getD i.1 [] = (ys.getD i.1 (0, [])).2
    simp [List.getD, hi]
  let ys' := d'.toList.map nth
  have hyl : ys'.length = ys.length := by simp [ys', hps]
  have hyp : ys'.Perm ys := by
    have e : d.toList.map nth = ys := by
      apply List.ext_getElem
      · simp [hds]
      · intro i q1 q2
        simp only [List.getElem_map, Array.getElem_toList]
        have := hd i q2
        rw [getElem!_pos d i (by rw [hds]; exact q2)] at this
        show ys.getD (d[i]'_).1 (0, []) = _
        rw [this]
        simp [List.getD, q2]
    rw [← e]
    exact hpl.map _
  have hget : ∀ i (hi : i < ys.length), d'[i]! = d'[i]'(by omega) := fun i hi => getElem!_pos d' i (by omega)
  have hys : ys'.Pairwise (fun p q => ¬ cf q.2 p.2 < 0) := by
    refine List.pairwise_iff_getElem.2 fun i j hi hj hij => ?_
    rw [hyl] at hi hj
    have hso := hsort i j (Nat.zero_le _) hij hj
    rw [hget i hi, hget j hj] at hso
    have hlt : ¬ cf (row (d'[j]'(by omega))) (row (d'[i]'(by omega))) < 0 := by
      have : decide (cf (row (d'[j]'(by omega))) (row (d'[i]'(by omega))) < 0) = false := hso
      simpa using this
    have m1 := hdl (d'[i]'(by omega)) (by simp)
    have m2 := hdl (d'[j]'(by omega)) (by simp)
    rw [hnth _ m1, hnth _ m2] at hlt
    simpa [ys'] using hlt
  have hheap := fun b' (hb : b' < w.heap.size) => sw_heap enc w b 0 n d' os b' hb
  have hext : Ext (fun b' => fpo (ρ id) (.arr .lrow ys gg true) b') w w' := by
    rw [hw']
    refine ⟨rfl, rfl, rfl, sw_size .., Nat.le_add_right _ _, fun b' hb' hS => ?_⟩
    rw [hheap b' hb', if_neg]
    intro e
    subst e
    exact hS (by simp [fpo, hv, Value.ownBlock])
  have hfb : ∀ b', fpo (ρ id) (.arr .lrow ys' gg true) b' → fpo (ρ id) (.arr .lrow ys gg true) b' ∨ w.heap.size ≤ b' := fun b' hb' => .inl hb'
  have hle := le_one (C := C) (o' := .arr .lrow ys' gg true) (v := ρ id) ho' hext hfb
  have T := Turn.one rr id (.arr .lrow ys gg true) (.arr .lrow ys' gg true) (ρ id) ho' hext (w' := w') ?_ hfb (fun c' hc => ⟨gg, rfl, .inl ⟨(by cases hc; rfl), rfl⟩⟩)
  · have hst := T.step rr
    refine ⟨obs.set id (.arr .lrow ys' gg true), _, hst, ⟨[], rfl, rfl, by simp⟩, ?_⟩
    have := hk ys' hyp hys
    rw [oSet_eq] at this
    exact this
  · refine ⟨d'.toList.map enc, ⟨by simp [hps, hyl, E.size], .inr ⟨b, cap, Go.Sort.putCells enc 0 d' cur, by rw [hyl]; exact hv, Nat.zero_le _, ?_, by rw [hyl]; exact h1, h2, by simpa [Go.Sort.putCells] using h3, ?_⟩⟩, ⟨by simp [hps, hyl, E.size], fun i hi => ?_⟩, fun _ => by rw [hv]; simp, by rw [hyl]; exact hml⟩
    · rw [hw', hheap b hblk, if_pos rfl, hg]
      rfl
    · rw [hyl]
      apply List.ext_getElem?
      intro i
      simp only [E.size, Nat.mul_one]
      by_cases hi : i < ys.length
      · rw [List.getElem?_take_of_lt hi]
        have hic : i < cur.size := by rw [h3]; simp only [E.size, Nat.mul_one]; omega
        have hput : (Go.Sort.putCells enc 0 d' cur)[i]? = some (enc (d'[i]'(by omega))) := by
          unfold Go.Sort.putCells
          rw [Array.getElem?_mapIdx, Array.getElem?_eq_getElem hic]
          simp only [Option.map_some]
          rw [if_pos (by omega), Nat.sub_zero, hget i hi]
        rw [Array.getElem?_toList, hput]
        simp [hps, hi]
      · rw [List.getElem?_eq_none (by simp; omega), List.getElem?_eq_none (by simp [hps]; omega)]
    · rw [hyl] at hi
      have hm := hdl (d'[i]'(by omega)) (by simp)
      have hyi : ys'[i]'(by omega) = nth (d'[i]'(by omega)) := by simp [ys']
      rcases henc' (d'[i]'(by omega)) with ⟨q1, q2, q3, q4⟩ | ⟨q1, q2⟩
      · refine ⟨enc (d'[i]'(by omega)), ?_, fun j hj => ?_⟩
        · rw [hyi]
          show LRowRel _ (nth (d'[i]'(by omega))).1 (nth (d'[i]'(by omega))).2 _
          rw [← hnth _ hm]
          have : (nth (d'[i]'(by omega))).1 = ys[(d'[i]'(by omega)).1].1 := by
            show (ys.getD _ (0, [])).1 = _
            simp [List.getD, q1]
          rw [this]
          exact q4.mono hle
        · have : j = 0 := by simp [E.size] at hj; omega
          subst this
          rw [cells_oneCell (hone _)]
          simp [E.size, hps, hi]
      · exfalso
        obtain ⟨u, r1, r2⟩ := hrow (d'[i]'(by omega)).1 hm
        obtain ⟨c1, c2, r3, _⟩ := r2
        have : enc (d'[i]'(by omega)) = u := by show cs.getD _ nil = u; simp [List.getD, r1]
        rw [q1, r3] at this
        simp [nil] at this
end Go.Proofs.YtaghdbbcadhjdaaGreatDoor
namespace Go.Proofs.YtaghdbbcadhjdaaGreatDoor
open Go Go.Aw
def srtL_ren : Go.Shelf.Ren := ⟨fun | 6 => 104 | 15 => 85 | 14 => 134 | 28 => 117 | 29 => 118 | 20 => 160 | 21 => 161 | 22 => 162 | 23 => 163 | 24 => 164 | 25 => 165 | 26 => 166 | 27 => 167 | 46 => 184 | 47 => 141 | 48 => 142 | 49 => 185 | 50 => 186 | 57 => 197 | n => n, fun | 22 => 22 | 24 => 27 | 25 => 59 | 3 => 3 | 39 => 65 | 0 => 0 | 53 => 88 | 55 => 90 | 4 => 4 | 46 => 80 | 45 => 79 | 50 => 85 | 5 => 5 | 9 => 9 | 66 => 100 | 70 => 104 | 76 => 126 | 77 => 127 | n => n, fun n => n⟩
theorem srtL : SlLaysF.n6 Tryz.prog srtL_ren where
  mixed := by kernel_rfl
  f6 := ⟨Tryz.f104.name, by decide, Tryz.func104.trans (congrArg some (by kernel_rfl))⟩
  f14 := ⟨Tryz.f134.name, by decide, Tryz.func134.trans (congrArg some (by kernel_rfl))⟩
  f15 := Tryz.func85.trans (congrArg some (by kernel_rfl))
  f20 := ⟨Tryz.f160.name, by decide, Tryz.func160.trans (congrArg some (by kernel_rfl))⟩
  f21 := ⟨Tryz.f161.name, by decide, Tryz.func161.trans (congrArg some (by kernel_rfl))⟩
  f22 := ⟨Tryz.f162.name, by decide, Tryz.func162.trans (congrArg some (by kernel_rfl))⟩
  f23 := ⟨Tryz.f163.name, by decide, Tryz.func163.trans (congrArg some (by kernel_rfl))⟩
  f24 := ⟨Tryz.f164.name, by decide, Tryz.func164.trans (congrArg some (by kernel_rfl))⟩
  f25 := ⟨Tryz.f165.name, by decide, Tryz.func165.trans (congrArg some (by kernel_rfl))⟩
  f26 := ⟨Tryz.f166.name, by decide, Tryz.func166.trans (congrArg some (by kernel_rfl))⟩
  f27 := ⟨Tryz.f167.name, by decide, Tryz.func167.trans (congrArg some (by kernel_rfl))⟩
  f28 := Tryz.func117.trans (congrArg some (by kernel_rfl))
  f29 := Tryz.func118.trans (congrArg some (by kernel_rfl))
  f46 := ⟨Tryz.f184.name, by decide, Tryz.func184.trans (congrArg some (by kernel_rfl))⟩
  f47 := Tryz.func141.trans (congrArg some (by kernel_rfl))
  f48 := Tryz.func142.trans (congrArg some (by kernel_rfl))
  f49 := ⟨Tryz.f185.name, by decide, Tryz.func185.trans (congrArg some (by kernel_rfl))⟩
  f50 := ⟨Tryz.f186.name, by decide, Tryz.func186.trans (congrArg some (by kernel_rfl))⟩
  f57 := ⟨Tryz.f197.name, by decide, Tryz.func197.trans (congrArg some (by kernel_rfl))⟩
  t0 := Tryz.underlying0
  a0 := Tryz.isAgg0
  z0 := Tryz.sizeOf0
  v0 := Tryz.zeroValue0
  t3 := Tryz.underlying3
  a3 := Tryz.isAgg3
  z3 := Tryz.sizeOf3
  v3 := Tryz.zeroValue3
  t4 := Tryz.underlying4
  a4 := Tryz.isAgg4
  z4 := Tryz.sizeOf4
  v4 := Tryz.zeroValue4
  t5 := Tryz.underlying5
  a5 := Tryz.isAgg5
  z5 := Tryz.sizeOf5
  v5 := Tryz.zeroValue5
  t9 := Tryz.underlying9
  a9 := Tryz.isAgg9
  z9 := Tryz.sizeOf9
  v9 := Tryz.zeroValue9
  t22 := Tryz.underlying22
  a22 := Tryz.isAgg22
  z22 := Tryz.sizeOf22
  v22 := Tryz.zeroValue22
  a24 := Tryz.isAgg27
  z24 := Tryz.sizeOf27
  t25 := Tryz.underlying59
  a25 := Tryz.isAgg59
  z25 := Tryz.sizeOf59
  v25 := Tryz.zeroValue59
  t39 := Tryz.underlying65
  a39 := Tryz.isAgg65
  z39 := Tryz.sizeOf65
  v39 := Tryz.zeroValue65
  t45 := Tryz.underlying79
  a45 := Tryz.isAgg79
  z45 := Tryz.sizeOf79
  v45 := Tryz.zeroValue79
  t46 := Tryz.underlying80
  a46 := Tryz.isAgg80
  z46 := Tryz.sizeOf80
  v46 := Tryz.zeroValue80
  t50 := Tryz.underlying85
  a50 := Tryz.isAgg85
  z50 := Tryz.sizeOf85
  v50 := Tryz.zeroValue85
  t53 := Tryz.underlying88
  a53 := Tryz.isAgg88
  z53 := Tryz.sizeOf88
  v53 := Tryz.zeroValue88
  t55 := Tryz.underlying90
  a55 := Tryz.isAgg90
  z55 := Tryz.sizeOf90
  v55 := Tryz.zeroValue90
  t66 := Tryz.underlying100
  a66 := Tryz.isAgg100
  z66 := Tryz.sizeOf100
  v66 := Tryz.zeroValue100
  t70 := Tryz.underlying104
  a70 := Tryz.isAgg104
  z70 := Tryz.sizeOf104
  v70 := Tryz.zeroValue104
  t76 := Tryz.underlying126
  a76 := Tryz.isAgg126
  z76 := Tryz.sizeOf126
  v76 := Tryz.zeroValue126
  t77 := Tryz.underlying127
  a77 := Tryz.isAgg127
  z77 := Tryz.sizeOf127
  v77 := Tryz.zeroValue127
end Go.Proofs.YtaghdbbcadhjdaaGreatDoor
namespace Go.Proofs.YtaghdbbcadhjdaaGreatDoor
open Go Go.Aw
theorem cmpN_lt_trans (p q r : List Int) : ∀ n i, cmpN p q n i < 0 → cmpN q r n i < 0 → cmpN p r n i < 0
  | 0, i, h, _ => by simp [cmpN] at h
  | n + 1, i, h1, h2 => by
    have ih := cmpN_lt_trans p q r n (i + 1)
    simp only [cmpN] at h1 h2 ⊢
    split at h1 <;> split at h2 <;> (try split at h1) <;> (try split at h2) <;> (try split) <;> (try split) <;> first | omega | (exact ih h1 h2) | (exfalso; omega)
theorem cmpN_ge_trans (p q r : List Int) : ∀ n i, 0 ≤ cmpN p q n i → 0 ≤ cmpN q r n i → 0 ≤ cmpN p r n i
  | 0, i, _, _ => by simp [cmpN]
  | n + 1, i, h1, h2 => by
    have ih := cmpN_ge_trans p q r n (i + 1)
    simp only [cmpN] at h1 h2 ⊢
    split at h1 <;> split at h2 <;> (try split at h1) <;> (try split at h2) <;> (try split) <;> (try split) <;> first | omega | (exact ih h1 h2) | (exfalso; omega)
theorem cmpN_self (p : List Int) : ∀ n i, cmpN p p n i = 0
  | 0, i => rfl
  | n + 1, i => by simp only [cmpN]; rw [if_neg (by omega), if_neg (by omega)]; exact cmpN_self p n (i + 1)
theorem cmpW_self (p : List Int) : cmpW p p = 0 := by unfold cmpW; rw [if_neg (by omega), if_neg (by omega)]; exact cmpN_self p _ 0
theorem cmpW_lt_trans {p q r : List Int} (h1 : cmpW p q < 0) (h2 : cmpW q r < 0) : cmpW p r < 0 := by
  unfold cmpW at *
  have ih := cmpN_lt_trans p q r p.length 0
  split at h1
  · split at h2
    · rw [if_pos (by omega)]; omega
    · split at h2
      · omega
      · rw [if_pos (by omega)]; omega
  · split at h1
    · omega
    · have e : p.length = q.length := by omega
      split at h2
      · rw [if_pos (by omega)]; omega
      · split at h2
        · omega
        · rw [if_neg (by omega), if_neg (by omega)]; rw [← e] at h2; exact ih h1 h2
theorem cmpW_ge_trans {p q r : List Int} (h1 : 0 ≤ cmpW p q) (h2 : 0 ≤ cmpW q r) : 0 ≤ cmpW p r := by
  unfold cmpW at *
  have ih := cmpN_ge_trans p q r p.length 0
  split at h1
  · omega
  · split at h1
    · split at h2
      · omega
      · split at h2
        · rw [if_neg (by omega), if_pos (by omega)]; omega
        · rw [if_neg (by omega), if_pos (by omega)]; omega
    · have e : p.length = q.length := by omega
      split at h2
      · omega
      · split at h2
        · rw [if_neg (by omega), if_pos (by omega)]; omega
        · rw [if_neg (by omega), if_neg (by omega)]; rw [← e] at h2; exact ih h1 h2
theorem cmpW_swo : Go.Sort.SWO (ltOf cmpW) := by
  refine ⟨fun x => ?_, fun x y z h1 h2 => ?_, fun x y z h1 h2 => ?_⟩
  · unfold ltOf; rw [cmpW_self]; rfl
  · unfold ltOf at *
    rw [decide_eq_true_eq] at *
    exact cmpW_lt_trans h1 h2
  · unfold ltOf at *
    rw [decide_eq_false_iff_not] at *
    have := cmpW_ge_trans (p := x) (q := y) (r := z) (by omega) (by omega)
    omega
def cmpI (a b : Int) : Int := if a < b then -1 else if a > b then 1 else 0
theorem c_isNaN (a : Int) : FunA B 145 [.int .i64 a] (fun rs o => rs = [.bool false] ∧ o = []) := by
  refine FunA.walk B_ok (fn := Tryz.f145) (fun vs w => Tryz.call145 vs w) Tryz.func145 rfl (by rw [Tryz.ntmps145]; simp) (fun C hC hP hT hΓ hbt hfn hpin hfin => ?_); have hX := BX; rw [← hΓ, ← hbt.1, ← hbt.2.1, ← hbt.2.2.1] at hX; rw [hT] at hX; rw [Tryz.ntmps145]; simp only [AW7, simprocAttr, hX]
  refine Run.R ?_
  refine Run.R ?_
  refine Run.rW [2] (hfin _ _ rfl rfl ?_)
  exact ⟨by simp, rfl⟩
theorem c_cmpCompare (a b : Int) : FunA B 136 [.int .i64 a, .int .i64 b] (fun rs o => rs = [.int .i64 (cmpI a b)] ∧ o = []) := by
  refine FunA.walk B_ok (fn := Tryz.f136) (fun vs w => Tryz.call136 vs w) Tryz.func136 rfl (by rw [Tryz.ntmps136]; simp) (fun C hC hP hT hΓ hbt hfn hpin hfin => ?_); have hX := BX; rw [← hΓ, ← hbt.1, ← hbt.2.1, ← hbt.2.2.1] at hX; rw [hT] at hX; rw [Tryz.ntmps136]; simp only [AW7, simprocAttr, hX]
  refine Run.R ?_
  refine Run.nq ?_; refine Run.regionW hC (fun K hK => ?_); refine wW ?_
  refine FunA.cW hP hT (c_isNaN a) ?_
  rintro rs o ⟨rfl, rfl⟩
  refine wW ?_
  refine wE ?_; clear hK K
  refine Run.nq ?_; refine Run.regionW hC (fun K hK => ?_); refine wW ?_
  refine FunA.cW hP hT (c_isNaN b) ?_
  rintro rs o ⟨rfl, rfl⟩
  refine wW ?_
  refine wE ?_; clear hK K
  refine Run.R ?_
  refine Run.nq ?_; refine Run.cW ?_ ?_
  · intro h; cases h
  intro _
  refine Run.R ?_
  refine Run.nq ?_; refine Run.cW ?_ ?_
  · intro h; cases h
  intro _
  refine Run.R ?_
  refine Run.nq ?_; refine Run.cW ?_ ?_
  · intro h
    rw [decide_eq_true_eq] at h
    refine Run.R ?_
    refine Run.rW [4] (hfin _ _ rfl rfl ?_)
    unfold cmpI; rw [if_pos h]; exact ⟨rfl, rfl⟩
  intro h1
  rw [decide_eq_false_iff_not] at h1
  refine Run.R ?_
  refine Run.nq ?_; refine Run.cW ?_ ?_
  · intro h
    rw [decide_eq_true_eq] at h
    refine Run.R ?_
    refine Run.rW [4] (hfin _ _ rfl rfl ?_)
    unfold cmpI; rw [if_neg h1, if_pos h]; exact ⟨rfl, rfl⟩
  intro h2
  rw [decide_eq_false_iff_not] at h2
  refine Run.R ?_
  refine Run.rW [4] (hfin _ _ rfl rfl ?_)
  unfold cmpI; rw [if_neg h1, if_neg h2]; exact ⟨rfl, rfl⟩
theorem c_slicesCompare (p q : List Int) (hp : p.length ≤ 1048576) : FunA B 137 [.sl false .int p, .sl false .int q] (fun rs o => (∃ v, rs = [.int .i64 v] ∧ (p.length = q.length → v = cmpN p q p.length 0)) ∧ o = []) := by
  refine FunA.walk B_ok (fn := Tryz.f137) (fun vs w => Tryz.call137 vs w) Tryz.func137 rfl (by rw [Tryz.ntmps137]; simp) (fun C hC hP hT hΓ hbt hfn hpin hfin => ?_); have hX := BX; rw [← hΓ, ← hbt.1, ← hbt.2.1, ← hbt.2.2.1] at hX; rw [hT] at hX; rw [Tryz.ntmps137]; simp only [AW7, simprocAttr, hX]
  refine Run.R ?_
  refine Run.R ?_
  refine Run.loopI (X := Nat) (fun i => ⟨36, [(0, true, .v (.sl false .int (p))), (1, true, .v (.sl false .int (q))), (9, true, .v (.sl false .int (p))), (10, true, .v (.int .i64 (p.length))), (11, true, .v (.int .i64 (i)))], []⟩) (fun i => i ≤ p.length ∧ cmpN p q (p.length - i) i = cmpN p q p.length 0) (fun i => p.length - i) (0) (⟨by omega, rfl⟩) ?_ ?_
  · exact Le.sub (by first | rfl | simp) (by simp only [AW7, simprocAttr, hX]; try simp <;> try (first | rfl | exact ⟨rfl, rfl⟩ | exact ⟨rfl, rfl, rfl⟩))
  rintro i ⟨hi, he⟩ ih
  try simp only []
  refine Run.R ?_
  refine Run.nq ?_; refine Run.cW ?_ ?_
  rotate_left
  · intro h
    rw [decide_eq_false_iff_not] at h
    refine Run.exit rfl ?_; refine Run.nq ?_
    refine Run.R ?_
    rw [show p.length - i = 0 by omega] at he
    refine Run.nq ?_; refine Run.cW ?_ ?_
    · intro h2
      rw [decide_eq_true_eq] at h2
      refine Run.R ?_
      refine Run.rW [4] (hfin _ _ rfl rfl ?_)
      exact ⟨⟨_, rfl, fun e => by omega⟩, rfl⟩
    intro h2
    refine Run.R ?_
    refine Run.rW [4] (hfin _ _ rfl rfl ?_)
    exact ⟨⟨_, rfl, fun e => he⟩, rfl⟩
  intro h
  rw [decide_eq_true_eq] at h
  refine Run.R ?_
  refine Run.R ?_
  refine Run.nq ?_; refine Run.cW ?_ ?_
  · intro h2
    rw [decide_eq_true_eq] at h2
    refine Run.R ?_
    refine Run.rW [4] (hfin _ _ rfl rfl ?_)
    exact ⟨⟨_, rfl, fun e => by omega⟩, rfl⟩
  intro h2
  rw [decide_eq_false_iff_not] at h2
  have hs : p.length - i = (p.length - (i + 1)) + 1 := by omega
  rw [hs] at he
  simp only [cmpN] at he
  refine Run.R ?_
  refine Run.nq ?_; refine Run.regionW hC (fun K hK => ?_); refine wW ?_
  refine FunA.cW hP hT (c_cmpCompare (p.getD i 0) (q.getD i 0)) ?_
  rintro rs o ⟨rfl, rfl⟩
  refine wW ?_
  refine wE ?_; clear hK K
  refine Run.R ?_
  refine Run.nq ?_; refine Run.cW ?_ ?_
  · intro h3
    have h3 : cmpI (p.getD i 0) (q.getD i 0) ≠ 0 := by simpa using h3
    have e2 : cmpI (p.getD i 0) (q.getD i 0) = cmpN p q p.length 0 := by
      rw [← he]; unfold cmpI at *
      by_cases k1 : p.getD i 0 < q.getD i 0
      · rw [if_pos k1, if_pos k1]
      · by_cases k2 : p.getD i 0 > q.getD i 0
        · rw [if_neg k1, if_pos k2, if_neg k1, if_pos k2]
        · rw [if_neg k1, if_neg k2] at h3; omega
    refine Run.R ?_
    refine Run.rW [4] (hfin _ _ rfl rfl ?_)
    exact ⟨⟨_, rfl, fun _ => e2⟩, rfl⟩
  intro h3
  have h3 : cmpI (p.getD i 0) (q.getD i 0) = 0 := by simpa using h3
  have e3 : cmpN p q (p.length - (i + 1)) (i + 1) = cmpN p q p.length 0 := by
    rw [← he]; unfold cmpI at h3
    split at h3
    · omega
    · split at h3
      · omega
      · rename_i k1 k2; rw [if_neg k1, if_neg k2]
  refine Run.RW ?_
  refine Run.le ?_ (ih (i + 1) (⟨by omega, e3⟩) (by (try simp only [List.length_append, List.length_cons, List.length_nil]); omega))
  exact Le.sub (by rfl) (by simp only [AW7, simprocAttr]; try simp)
def orL : List Int → Int
  | [] => 0
  | x :: l => if x = 0 then orL l else x
theorem orL_drop (xs : List Int) {i : Nat} (h : i < xs.length) : orL (xs.drop i) = if xs.getD i 0 = 0 then orL (xs.drop (i + 1)) else xs.getD i 0 := by
  rw [List.drop_eq_getElem_cons h, getD_eq h]; rfl
theorem c_cmpOr (xs : List Int) (hl : xs.length ≤ 1048576) : FunA B 135 [.sl false .int xs] (fun rs o => rs = [.int .i64 (orL xs)] ∧ o = []) := by
  refine FunA.walk B_ok (fn := Tryz.f135) (fun vs w => Tryz.call135 vs w) Tryz.func135 rfl (by rw [Tryz.ntmps135]; simp) (fun C hC hP hT hΓ hbt hfn hpin hfin => ?_); have hX := BX; rw [← hΓ, ← hbt.1, ← hbt.2.1, ← hbt.2.2.1] at hX; rw [hT] at hX; rw [Tryz.ntmps135]; simp only [AW7, simprocAttr, hX]
  refine Run.R ?_
  refine Run.R ?_
  refine Run.R ?_
  refine Run.loopI (X := Nat) (fun i => ⟨18, [(0, true, .v (.sl false .int (xs))), (3, true, .v (.int .i64 (0))), (6, true, .v (.sl false .int (xs))), (7, true, .v (.int .i64 (xs.length))), (8, true, .v (.int .i64 (i)))], []⟩) (fun i => i ≤ xs.length ∧ orL (xs.drop i) = orL xs) (fun i => xs.length - i) (0) (⟨by omega, rfl⟩) ?_ ?_
  · exact Le.sub (by first | rfl | simp) (by simp only [AW7, simprocAttr, hX]; try simp <;> try (first | rfl | exact ⟨rfl, rfl⟩ | exact ⟨rfl, rfl, rfl⟩))
  rintro i ⟨hi, he⟩ ih
  try simp only []
  refine Run.R ?_
  refine Run.nq ?_; refine Run.cW ?_ ?_
  rotate_left
  · intro h
    rw [decide_eq_false_iff_not] at h
    refine Run.exit rfl ?_; refine Run.nq ?_
    refine Run.R ?_
    refine Run.rW [2] (hfin _ _ rfl rfl ?_)
    rw [List.drop_eq_nil_of_le (by omega)] at he
    exact ⟨by rw [← he]; rfl, rfl⟩
  intro h
  rw [decide_eq_true_eq] at h
  rw [orL_drop xs (by omega)] at he
  refine Run.R ?_
  refine Run.R ?_
  refine Run.nq ?_; refine Run.cW ?_ ?_
  · intro h2
    have h2 : xs.getD i 0 ≠ 0 := by simpa using h2
    rw [if_neg h2] at he
    refine Run.R ?_
    refine Run.rW [2] (hfin _ _ rfl rfl ?_)
    exact ⟨by rw [he], rfl⟩
  intro h2
  have h2 : xs.getD i 0 = 0 := by simpa using h2
  rw [if_pos h2] at he
  refine Run.RW ?_
  refine Run.le ?_ (ih (i + 1) (⟨by omega, he⟩) (by (try simp only [List.length_append, List.length_cons, List.length_nil]); omega))
  exact Le.sub (by rfl) (by simp only [AW7, simprocAttr]; try simp)
theorem c_impl_CompareWords (p q : List Int) (hp : p.length ≤ 1048576) : FunA B 105 [.sl false .int p, .sl false .int q] (fun rs o => rs = [.int .i64 (cmpW p q)] ∧ o = []) := by
  refine FunA.walk B_ok (fn := Tryz.f105) (fun vs w => Tryz.call105 vs w) Tryz.func105 rfl (by rw [Tryz.ntmps105]; simp) (fun C hC hP hT hΓ hbt hfn hpin hfin => ?_); have hX := BX; rw [← hΓ, ← hbt.1, ← hbt.2.1, ← hbt.2.2.1] at hX; rw [hT] at hX; rw [Tryz.ntmps105]; simp only [AW7, simprocAttr, hX]
  refine Run.R ?_
  refine Run.nq ?_; refine Run.regionW hC (fun K hK => ?_); refine wW ?_
  refine FunA.cW hP hT (c_cmpCompare (p.length : Int) (q.length : Int)) ?_
  rintro rs o ⟨rfl, rfl⟩
  refine wW ?_
  refine FunA.cW hP hT (c_slicesCompare p q hp) ?_
  rintro rs o ⟨⟨v, rfl, hv⟩, rfl⟩
  refine wW ?_
  refine FunA.cW hP hT (c_cmpOr [cmpI p.length q.length, v] (by simp)) ?_
  rintro rs o ⟨rfl, rfl⟩
  refine wW ?_
  refine wE ?_; clear hK K
  have e : orL [cmpI p.length q.length, v] = cmpW p q := by
    simp only [orL]
    unfold cmpI cmpW
    by_cases k1 : p.length < q.length
    · rw [if_pos (by omega : (p.length : Int) < q.length), if_pos k1]; rfl
    · by_cases k2 : p.length > q.length
      · rw [if_neg (by omega : ¬ (p.length : Int) < q.length), if_pos (by omega : (p.length : Int) > q.length), if_neg k1, if_pos k2]; rfl
      · rw [if_neg (by omega : ¬ (p.length : Int) < q.length), if_neg (by omega : ¬ (p.length : Int) > q.length), if_neg k1, if_neg k2, if_pos rfl, ← hv (by omega)]
        split
        · rename_i h; exact h.symm
        · rfl
  refine Run.reK hpin [4] [] (by decide) (by simp) ?_; simp only [AR, AW7, simprocAttr]
  refine Run.rW [4] (hfin _ _ rfl rfl ?_)
  rw [e]; exact ⟨rfl, rfl⟩
end Go.Proofs.YtaghdbbcadhjdaaGreatDoor
namespace Go.Proofs.YtaghdbbcadhjdaaGreatDoor
open Go Go.Aw
def putS (w : List Int) : Bool → List (List Int) → List (List Int)
  | b, [] => if b then [] else [w]
  | b, x :: l => if cmpW w x < 0 ∧ b = false then w :: x :: putS w true l else x :: putS w (b || cmpW w x == 0) l
def rw2 (ys : List (Nat × List Int)) : List (List Int) := ys.map (·.2)
def lb1 (ys : List (Nat × List Int)) : List Nat := ys.map (·.1)
theorem rw2_app (a b : List (Nat × List Int)) : rw2 (a ++ b) = rw2 a ++ rw2 b := by simp [rw2]
theorem lb1_app (a b : List (Nat × List Int)) : lb1 (a ++ b) = lb1 a ++ lb1 b := by simp [lb1]
theorem drop_cons' (ys : List (Nat × List Int)) {i : Nat} (h : i < ys.length) : ys.drop i = ys.getD i (0, []) :: ys.drop (i + 1) := by
  rw [List.drop_eq_getElem_cons h, getD_eq h]
theorem lb_step {zs ys : List (Nat × List Int)} {i : Nat} (h : i < ys.length) (hn : (lb1 zs ++ lb1 (ys.drop i)).Nodup) : (lb1 (zs ++ [((ys.getD i (0, [])).1, (ys.getD i (0, [])).2)]) ++ lb1 (ys.drop (i + 1))).Nodup := by
  rw [drop_cons' ys h] at hn
  have e : lb1 (ys.getD i (0, []) :: ys.drop (i + 1)) = [(ys.getD i (0, [])).1] ++ lb1 (ys.drop (i + 1)) := rfl
  rw [e, ← List.append_assoc] at hn
  rw [lb1_app]
  exact hn
theorem lb_ins {zs ys : List (Nat × List Int)} {i q : Nat} {w : List Int} (hn : (lb1 zs ++ lb1 (ys.drop i)).Nodup) (h1 : ∀ p ∈ zs, p.1 ≠ q) (h2 : ∀ p ∈ ys, p.1 ≠ q) : (lb1 (zs ++ [(q, w)]) ++ lb1 (ys.drop i)).Nodup := by
  rw [lb1_app, List.append_assoc]
  rw [List.nodup_append] at hn ⊢
  obtain ⟨n1, n2, n3⟩ := hn
  refine ⟨n1, ?_, fun a ha b hb => ?_⟩
  · show (q :: lb1 (ys.drop i)).Nodup
    rw [List.nodup_cons]
    refine ⟨fun hm => ?_, n2⟩
    obtain ⟨p, hp, e⟩ := List.mem_map.1 hm
    exact h2 p (List.mem_of_mem_drop hp) e
  · rcases List.mem_append.1 hb with hb | hb
    · simp [lb1] at hb
      obtain ⟨p, hp, rfl⟩ := List.mem_map.1 ha
      rw [hb]; exact h1 p hp
    · exact n3 a ha b hb
set_option maxHeartbeats 1000000 in
theorem c_spec_l11Put (ys : List (Nat × List Int)) (w : List Int) (hnd : (lb1 ys).Nodup) (hyl : ys.length ≤ 100000) (hw : w.length ≤ 1048576) (nn : Bool) :
    FunM B 95 [.own 0 0, .sl false .int w] .lrow ys nn (fun rs o => rs = [.own 1 0] ∧ ∃ ys', rw2 ys' = putS w false (rw2 ys) ∧ (lb1 ys').Nodup ∧ o = [.arr .lrow ys 0 nn, .arr .lrow ys' 0 true]) := by
  refine FunM.walk B_ok (fn := Tryz.f95) (fun vs w => Tryz.call95 vs w) Tryz.func95 rfl (by rw [Tryz.ntmps95]; simp) (fun C hC hP hT hΓ hbt hfn hpin hfin => ?_); have hX := BX; rw [← hΓ, ← hbt.1, ← hbt.2.1, ← hbt.2.2.1] at hX; rw [hT] at hX; rw [Tryz.ntmps95]; simp only [AW7, simprocAttr, hX]
  refine Run.R ?_
  refine Run.R ?_
  refine Run.R ?_
  refine Run.R ?_
  refine Run.reKP hpin [0, 1, 5, 6, 7] [0, 1] rfl (by simp [oAt, gen0]) (by decide) (by simp) ?_; simp only [AR, AW7, simprocAttr]
  refine Run.loopI (X := List (Nat × List Int) × Bool × Nat) (fun x => ⟨52, [(0, true, .v (.own 0 0)), (1, true, .v (.sl false .int (w))), (5, true, .v (.own 1 0)), (6, true, .v (.bool (x.2.1))), (7, true, .v (.int .i64 (x.2.2)))], [.arr .lrow ys 0 nn, .arr .lrow (x.1) 0 true]⟩) (fun x => x.2.2 ≤ ys.length ∧ x.1.length ≤ 2 * x.2.2 ∧ rw2 x.1 ++ putS w x.2.1 (rw2 (ys.drop x.2.2)) = putS w false (rw2 ys) ∧ (lb1 x.1 ++ lb1 (ys.drop x.2.2)).Nodup) (fun x => ys.length - x.2.2) (([], false, 0)) (⟨Nat.zero_le _, by simp, rfl, hnd⟩) ?_ ?_
  · exact Le.sub (by first | rfl | simp) (by simp only [AW7, simprocAttr, hX]; try simp <;> try (first | rfl | exact ⟨rfl, rfl⟩ | exact ⟨rfl, rfl, rfl⟩))
  rintro ⟨zs, b, i⟩ ⟨hi, hzl, hE, hN⟩ ih
  try simp only []
  simp only [] at hi hzl hE hN
  refine Run.R ?_
  refine Run.nq ?_; refine Run.cW ?_ ?_
  rotate_left
  · intro h
    have hie : i = ys.length := by rw [decide_eq_false_iff_not] at h; omega
    refine Run.exit rfl ?_; refine Run.nq ?_
    refine Run.R ?_
    refine Run.nq ?_; refine Run.cW ?_ ?_
    · intro hb
      have hb : b = false := by simpa using hb
      subst hb
      refine Run.nq ?_; refine Run.regionW hC (fun K hK => ?_); refine wW ?_
      intro q hq
      have hN3 := lb_ins (w := w) hN (hq (.arr .lrow zs 0 true) (.tail _ (.head _)) _ _ _ rfl) (hq (.arr .lrow ys 0 nn) (.head _) _ _ _ rfl)
      rw [hie, List.drop_length] at hE hN3
      have e0 : lb1 ([] : List (Nat × List Int)) = [] := rfl
      rw [e0, List.append_nil] at hN3
      (repeat (with_reducible refine And.intro ?_ ?_); exact vc0)
      refine wE ?_; clear hK K
      refine Run.R ?_
      refine Run.reKP hpin [4] [0, 1] rfl (by simp [oAt, gen0]) (by decide) (by simp) ?_; simp only [AR, AW7, simprocAttr]
      refine Run.retW [4] (by decide) (by rw [hfn]; rfl) (by simp only [AW7, simprocAttr, hX]; rfl) (by simp only [AW7, simprocAttr, hX]) (hfin _ _ _ rfl rfl rfl ?_)
      exact ⟨rfl, _, by rw [← hE, rw2_app]; simp [putS, rw2], hN3, rfl⟩
    intro hb
    have hb : b = true := by simpa using hb
    subst hb
    refine Run.R ?_
    refine Run.reKP hpin [4] [0, 1] rfl (by simp [oAt, gen0]) (by decide) (by simp) ?_; simp only [AR, AW7, simprocAttr]
    rw [hie, List.drop_length] at hE hN
    have e0 : lb1 ([] : List (Nat × List Int)) = [] := rfl
    rw [e0, List.append_nil] at hN
    refine Run.retW [4] (by decide) (by rw [hfn]; rfl) (by simp only [AW7, simprocAttr, hX]; rfl) (by simp only [AW7, simprocAttr, hX]) (hfin _ _ _ rfl rfl rfl ?_)
    exact ⟨rfl, zs, by rw [← hE]; simp [putS, rw2], hN, rfl⟩
  intro h
  have h : i < ys.length := by rw [decide_eq_true_eq] at h; omega
  refine Run.nq ?_; refine Run.regionW hC (fun K hK => ?_); refine wW ?_
  refine FunA.cW hP hT (c_spec_CompareWords w (ys.getD i (0, [])).2 (by omega)) ?_
  rintro rs o ⟨rfl, rfl⟩
  refine wW ?_
  refine wE ?_; clear hK K
  have hd : rw2 (ys.drop i) = (ys.getD i (0, [])).2 :: rw2 (ys.drop (i + 1)) := by rw [drop_cons' ys h]; rfl
  rw [hd] at hE
  simp only [putS] at hE
  have hN2 := lb_step h hN
  refine Run.R ?_
  refine Run.nq ?_; refine Run.cW ?_ ?_
  · intro h0
    have h0 : cmpW w (ys.getD i (0, [])).2 = 0 := by simpa using h0
    rw [if_neg (by omega), h0] at hE
    simp only [h0]
    refine Run.R ?_
    refine Run.R ?_
    refine Run.nq ?_; refine Run.cW ?_ ?_
    · intro h; cases h
    intro _
    refine Run.R ?_
    refine Run.reKP hpin [0, 1, 5, 6, 7] [0, 1] rfl (by simp [oAt, gen0]) (by decide) (by simp) ?_; simp only [AR, AW7, simprocAttr]
    refine Run.RW ?_
    refine Run.le ?_ (ih ((zs ++ [((ys.getD i (0, [])).1, (ys.getD i (0, [])).2)], true, i + 1)) (⟨h, by simp; omega, by rw [rw2_app, List.append_assoc, ← hE]; simp [rw2], hN2⟩) (by (try simp only [List.length_append, List.length_cons, List.length_nil]); omega))
    exact Le.sub (by rfl) (by simp only [AW7, simprocAttr]; try simp)
  intro h0
  have h0 : (cmpW w (ys.getD i (0, [])).2 == 0) = false := h0
  rw [h0, Bool.or_false] at hE
  refine Run.R ?_
  refine Run.nq ?_; refine Run.cW ?_ ?_
  · intro hlt
    have hlt : cmpW w (ys.getD i (0, [])).2 < 0 ∧ b = false := by simpa using hlt
    obtain ⟨hl1, rfl⟩ := hlt
    rw [if_pos ⟨hl1, rfl⟩] at hE
    refine Run.nq ?_; refine Run.regionW hC (fun K hK => ?_); refine wW ?_
    intro q hq
    have hN3 := lb_ins (w := w) hN (hq (.arr .lrow zs 0 true) (.tail _ (.head _)) _ _ _ rfl) (hq (.arr .lrow ys 0 nn) (.head _) _ _ _ rfl)
    (repeat (with_reducible refine And.intro ?_ ?_); exact vc0)
    refine wE ?_; clear hK K
    refine Run.R ?_
    refine Run.R ?_
    have hN4 := lb_step h hN3
    refine Run.reKP hpin [0, 1, 5, 6, 7] [0, 1] rfl (by simp [oAt, gen0]) (by decide) (by simp) ?_; simp only [AR, AW7, simprocAttr]
    refine Run.RW ?_
    refine Run.le ?_ (ih ((zs ++ [(q, w)] ++ [((ys.getD i (0, [])).1, (ys.getD i (0, [])).2)], true, i + 1)) (⟨h, by simp only [List.length_append, List.length_cons, List.length_nil]; omega, by rw [rw2_app, rw2_app, List.append_assoc, List.append_assoc, ← hE]; simp [rw2], hN4⟩) (by (try simp only [List.length_append, List.length_cons, List.length_nil]); omega))
    exact Le.sub (by rfl) (by simp only [AW7, simprocAttr]; try simp)
  intro hlt
  have hlt : ¬ (cmpW w (ys.getD i (0, [])).2 < 0 ∧ b = false) := by intro ⟨k1, k2⟩; rw [k2, decide_eq_true k1] at hlt; cases hlt
  rw [if_neg hlt] at hE
  refine Run.R ?_
  refine Run.reKP hpin [0, 1, 5, 6, 7] [0, 1] rfl (by simp [oAt, gen0]) (by decide) (by simp) ?_; simp only [AR, AW7, simprocAttr]
  refine Run.RW ?_
  refine Run.le ?_ (ih ((zs ++ [((ys.getD i (0, [])).1, (ys.getD i (0, [])).2)], b, i + 1)) (⟨h, by simp; omega, by rw [rw2_app, List.append_assoc, ← hE]; simp [rw2], hN2⟩) (by (try simp only [List.length_append, List.length_cons, List.length_nil]); omega))
  exact Le.sub (by rfl) (by simp only [AW7, simprocAttr]; try simp)
end Go.Proofs.YtaghdbbcadhjdaaGreatDoor
namespace Go.Proofs.YtaghdbbcadhjdaaGreatDoor
open Go Go.Aw
theorem cmpN_neg (p q : List Int) : ∀ n i, cmpN q p n i = - cmpN p q n i
  | 0, i => rfl
  | n + 1, i => by
    have ih := cmpN_neg p q n (i + 1)
    simp only [cmpN]
    by_cases h1 : p.getD i 0 < q.getD i 0
    · rw [if_pos h1, if_neg (by omega), if_pos (by omega)]; rfl
    · by_cases h2 : p.getD i 0 > q.getD i 0
      · have h3 : q.getD i 0 < p.getD i 0 := h2
        simp only [h1, h2, h3, if_true, if_false]
      · rw [if_neg h1, if_neg h2, if_neg (by omega), if_neg (by omega)]; exact ih
theorem cmpW_neg (p q : List Int) : cmpW q p = - cmpW p q := by
  unfold cmpW
  by_cases h1 : p.length < q.length
  · rw [if_pos h1, if_neg (by omega), if_pos (by omega)]; rfl
  · by_cases h2 : p.length > q.length
    · have h3 : q.length < p.length := h2
      simp only [h1, h2, h3, if_true, if_false]
    · rw [if_neg h1, if_neg h2, if_neg (by omega), if_neg (by omega), show q.length = p.length by omega]; exact cmpN_neg p q _ 0
def StrictW (l : List (List Int)) : Prop := l.Pairwise fun p q => cmpW p q < 0
theorem StrictW.nil : StrictW [] := List.Pairwise.nil
theorem strict_ext : ∀ {a b : List (List Int)}, StrictW a → StrictW b → (∀ x, x ∈ a ↔ x ∈ b) → a = b
  | [], [], _, _, _ => rfl
  | [], y :: b, _, _, h => by have := (h y).2 (List.mem_cons_self ..); simp at this
  | x :: a, [], _, _, h => by have := (h x).1 (List.mem_cons_self ..); simp at this
  | x :: a, y :: b, ha, hb, h => by
    obtain ⟨ha1, ha2⟩ := List.pairwise_cons.1 ha
    obtain ⟨hb1, hb2⟩ := List.pairwise_cons.1 hb
    have hxy : x = y := by
      rcases List.mem_cons.1 ((h x).1 (List.mem_cons_self ..)) with e | e
      · exact e
      · rcases List.mem_cons.1 ((h y).2 (List.mem_cons_self ..)) with e2 | e2
        · exact e2.symm
        · have h1 := hb1 x e
          have h2 := ha1 y e2
          have := cmpW_neg x y
          omega
    subst hxy
    have nx : ∀ {l : List (List Int)}, (∀ z ∈ l, cmpW x z < 0) → x ∉ l := fun {l} hl hx => by
      have := hl x hx
      rw [cmpW_self] at this
      omega
    rw [strict_ext ha2 hb2 fun z => ⟨fun hz => ?_, fun hz => ?_⟩]
    · rcases List.mem_cons.1 ((h z).1 (List.mem_cons_of_mem _ hz)) with e | e
      · rw [e] at hz; exact (nx ha1 hz).elim
      · exact e
    · rcases List.mem_cons.1 ((h z).2 (List.mem_cons_of_mem _ hz)) with e | e
      · rw [e] at hz; exact (nx hb1 hz).elim
      · exact e
theorem putS_true (w : List Int) : ∀ l, putS w true l = l
  | [] => rfl
  | x :: l => by simp only [putS]; rw [if_neg (by simp), Bool.true_or, putS_true w l]
theorem putS_mem (w : List Int) : ∀ (l : List (List Int)) (z : List Int), z ∈ putS w false l ↔ z = w ∨ z ∈ l
  | [], z => by simp [putS]
  | x :: l, z => by
    simp only [putS]
    by_cases h : cmpW w x < 0
    · rw [if_pos ⟨h, trivial⟩, putS_true]; simp
    · rw [if_neg (by simp [h])]
      by_cases h0 : cmpW w x = 0
      · have e := (cmpW_zero w x).1 h0
        rw [show (false || cmpW w x == 0) = true by simp [h0], putS_true, e]; simp
      · rw [show (false || cmpW w x == 0) = false by simp [h0]]
        simp only [List.mem_cons, putS_mem w l z]
        constructor
        · rintro (h | h | h) <;> simp [h]
        · rintro (h | h | h) <;> simp [h]
theorem putS_strict (w : List Int) : ∀ {l : List (List Int)}, StrictW l → StrictW (putS w false l)
  | [], _ => by unfold StrictW; simp [putS]
  | x :: l, hl => by
    obtain ⟨h1, h2⟩ := List.pairwise_cons.1 hl
    simp only [putS]
    by_cases h : cmpW w x < 0
    · rw [if_pos ⟨h, trivial⟩, putS_true]
      refine List.pairwise_cons.2 ⟨fun z hz => ?_, hl⟩
      rcases List.mem_cons.1 hz with rfl | hz
      · exact h
      · exact cmpW_lt_trans h (h1 z hz)
    · rw [if_neg (by simp [h])]
      by_cases h0 : cmpW w x = 0
      · rw [show (false || cmpW w x == 0) = true by simp [h0], putS_true]; exact hl
      · rw [show (false || cmpW w x == 0) = false by simp [h0]]
        refine List.pairwise_cons.2 ⟨fun z hz => ?_, putS_strict w h2⟩
        rcases (putS_mem w l z).1 hz with rfl | hz
        · have := cmpW_neg z x; omega
        · exact h1 z hz
def srtL' (l0 L : List (List Int)) : List (List Int) := L.foldl (fun l w => putS w false l) l0
def srt (L : List (List Int)) : List (List Int) := srtL' [] L
theorem srt_spec (L : List (List Int)) : StrictW (srt L) ∧ ∀ z, z ∈ srt L ↔ z ∈ L := by
  have key : ∀ (L l0 : List (List Int)), StrictW l0 → StrictW (srtL' l0 L) ∧ ∀ z, z ∈ srtL' l0 L ↔ z ∈ l0 ∨ z ∈ L := by
    intro L
    induction L with
    | nil => intro l0 h; exact ⟨h, fun z => by simp [srtL']⟩
    | cons w L ih =>
      intro l0 h
      obtain ⟨h1, h2⟩ := ih (putS w false l0) (putS_strict w h)
      refine ⟨h1, fun z => ?_⟩
      show z ∈ srtL' (putS w false l0) L ↔ _
      rw [h2 z, putS_mem]
      simp only [List.mem_cons]
      constructor
      · rintro ((h | h) | h) <;> simp [h]
      · rintro (h | h | h) <;> simp [h]
  obtain ⟨h1, h2⟩ := key L [] StrictW.nil
  exact ⟨h1, fun z => by rw [show srt L = srtL' [] L from rfl, h2 z]; simp⟩
theorem sorted_srt {L : List (List Int)} (hn : L.Nodup) {a : List (List Int)} (hp : a.Perm L) (hs : a.Pairwise fun p q => ¬ cmpW q p < 0) : a = srt L := by
  obtain ⟨h1, h2⟩ := srt_spec L
  refine strict_ext ?_ h1 fun z => (hp.mem_iff).trans (h2 z).symm
  have hna : a.Nodup := hp.nodup_iff.2 hn
  refine List.Pairwise.imp₂ ?_ hs hna
  intro p q h1 h2
  have h3 := cmpW_neg p q
  have h4 := cmpW_zero p q
  rcases Int.lt_trichotomy (cmpW p q) 0 with h | h | h
  · exact h
  · exact absurd (h4.1 h) h2
  · omega
theorem srt_nil : srt [] = [] := rfl
end Go.Proofs.YtaghdbbcadhjdaaGreatDoor
