/- One letter taken out of a word: slices.Delete at a call, and DeleteAt. -/
import Derived.Test.YtojcdgdbffmlpaaGreatB7
import Derived.Test.YtojcdgdbffmlpaaGreatB12
import Derived.Shelf.Slices.Delete
import Derived.Test.YtojcdgdbffmlpaaGreatB15
set_option linter.unusedVariables false
set_option linter.unusedSimpArgs false
namespace Go.Proofs.YtojcdgdbffmlpaaGreat
open Go Go.Aw
def delL_ren : Go.Shelf.Ren := ⟨fun | 23 => 191 | n => n, fun | 22 => 25 | 3 => 3 | 4 => 4 | 0 => 0 | n => n, fun n => n⟩
theorem delL : Lays2.n23 Tryz.prog delL_ren where
  mixed := by kernel_rfl
  f23 := Tryz.func191.trans (congrArg some (by kernel_rfl))
  t0 := Tryz.underlying0
  a0 := Tryz.isAgg0
  z0 := Tryz.sizeOf0
  v0 := Tryz.zeroValue0
  t3 := Tryz.underlying3
  a3 := Tryz.isAgg3
  z3 := Tryz.sizeOf3
  v3 := Tryz.zeroValue3
  t4 := Tryz.underlying4
  a4 := Tryz.isAgg4
  z4 := Tryz.sizeOf4
  v4 := Tryz.zeroValue4
  t22 := Tryz.underlying25
  a22 := Tryz.isAgg25
  z22 := Tryz.sizeOf25
  v22 := Tryz.zeroValue25
  i3 := by kernel_rfl
theorem ACall.delete {B C : Ctx} (hP : B.P = C.P) {ρs : Go.Shelf.Ren} (L : Lays2.n23 B.P ρs) {f : FuncId} (hf : ρs.f 23 = f) {obs : List O} (id gg : Nat) {xs : List Int}
    (ho : oAt obs id = .arr .int xs gg true) {i j : Int} (i' j' : Nat) (hi : i = i') (hj : j = j') (hij : i' ≤ j') (hjl : j' ≤ xs.length) {K : Sl → List O → Prop}
    (hk : K (.v (.own id (gg + 1))) (oSet obs id (.arr .int (xs.take i' ++ xs.drop j') (gg + 1) true))) : ACall C obs f [.own id gg, .int .i64 i, .int .i64 j] fun x o => Later (K x o) := by
  subst hi hj
  have hen : (∀ (vs : Array Value) (w : World), (callFunc f vs).run B.P w = .ok (.enter f vs) w) := by
    rw [← hf]; exact enters_of L.f23 (by kernel_rfl) rfl
  refine ⟨fun vs w => by rw [← hP]; exact hen vs w, fun w ρ vs rr hl hx => ?_⟩
  have hid : id < obs.length := by
    rcases Nat.lt_or_ge id obs.length with h | h
    · exact h
    · rw [oAt_eq, List.getElem?_eq_none h] at ho; cases ho
  have ho' : obs[id]? = some (.arr .int xs gg true) := by rw [oAt_get hid, ho]
  match vs, hl with
  | [u1, u2, u3], _ =>
  have a1 := hx 0 _ u1 rfl rfl
  have a2 : u2 = .int .i64 i' := hx 1 _ u2 rfl rfl
  have a3 : u3 = .int .i64 j' := hx 2 _ u3 rfl rfl
  obtain ⟨_, a1⟩ := (show AVRel (C.V w obs ρ) obs ρ (.own id gg) u1 from a1)
  have hu1 : u1 = ρ id := (a1 gg (by unfold genOf; rw [ho']; rfl)).2 rfl
  obtain ⟨cs, hown, henc, hnn, hml⟩ := rr.os id _ ho'
  rcases hown.2 with ⟨hv, _⟩ | ⟨b, cap, cur, hv, _, hg, h1, h2, h3, h4⟩
  · exact (hnn rfl hv).elim
  have hcs : cs = xs.map (Value.int .i64) := by
    apply List.ext_getElem?
    intro k
    have hl := henc.1
    simp only [E.size, Nat.mul_one] at hl
    by_cases hi : k < xs.length
    · obtain ⟨u, hu, hc⟩ := henc.2 k hi
      have h0 := hc 0 (by simp [E.size])
      cases hu
      simp [E.size, Value.cells] at h0
      rw [h0]
      simp [hi]
    · rw [List.getElem?_eq_none (by omega), List.getElem?_eq_none (by simp; omega)]
  subst hcs
  simp only [E.size, Nat.mul_one] at h3 h4
  have hblk : b < w.heap.size := (Array.getElem?_eq_some_iff.1 hg).1
  have hcell : ∀ k, k < xs.length → cur[k]? = some (.int .i64 (xs.toArray[k]!)) := fun k hk => by
    have e : cur.toList[k]? = (xs.map (Value.int .i64))[k]? := by rw [← h4, List.getElem?_take_of_lt hk]
    rw [Array.getElem?_toList] at e
    rw [e, getElem!_pos xs.toArray k (by simpa using hk)]
    simp [hk]
  have hH : Go.Sort.Holds (Value.int .i64) w b 0 xs.toArray := fun k hk => by
    have hk : k < xs.length := by simpa using hk
    refine ⟨?_, by simp [World.frozen?, hg]⟩
    simp only [World.cell?, hg, Nat.zero_add]
    exact hcell k hk
  have main := Any.slices_Delete_int L b 0 cap i' j' xs w hH h1 h2 hij hjl
  rw [hf, hP] at main
  subst a2 a3 hu1
  rw [hv]
  refine main.mono fun e w' ⟨he, q, hw'⟩ => ⟨_, he, .v (.own id (gg + 1)), ?_⟩
  have hln : (xs.take i' ++ xs.drop j').length = xs.length - (j' - i') := by simp; omega
  have hheap : ∀ b', b' < w.heap.size → w'.heap[b']? = if b' = b then some (Obj.cells (Go.Sort.putCells (Value.int .i64) 0 (xs.take i' ++ xs.drop j' ++ List.replicate (j' - i') 0).toArray cur) (C.tid .int) (0, 0)) else w.heap[b']? := fun b' hb => by
    rw [hw']
    show (w.heap.modify b _)[b']? = _
    rw [Array.getElem?_modify]
    by_cases e : b' = b
    · subst e; rw [if_pos rfl, if_pos rfl, hg]; rfl
    · rw [if_neg (Ne.symm e), if_neg e]
  have hsz : w'.heap.size = w.heap.size := by
    rw [hw']
    show (w.heap.modify b _).size = _
    simp
  have hext : Ext (fun b' => fpo (ρ id) (.arr .int xs gg true) b') w w' := by
    refine ⟨by rw [hw']; rfl, by rw [hw']; rfl, by rw [hw']; rfl, by omega, by rw [hw']; exact Nat.le_add_right _ _, fun b' hb' hS => ?_⟩
    rw [hheap b' hb', if_neg]
    intro e
    subst e
    exact hS (by simp [fpo, hv, Value.ownBlock])
  have hfb : ∀ b', fpo (.slice (some ⟨b, 0, none⟩) (xs.length - (j' - i')) cap) (.arr .int (xs.take i' ++ xs.drop j') (gg + 1) true) b' → fpo (ρ id) (.arr .int xs gg true) b' ∨ w.heap.size ≤ b' := fun b' hb' => .inl (by
    simp only [fpo, hv, Value.ownBlock] at hb' ⊢; exact hb')
  have T := Turn.one rr id (.arr .int xs gg true) (.arr .int (xs.take i' ++ xs.drop j') (gg + 1) true) (.slice (some ⟨b, 0, none⟩) (xs.length - (j' - i')) cap) ho' hext (w' := w') ?_ hfb (fun c' hc => ⟨gg, rfl, .inr (by cases hc; exact Nat.lt_succ_self _)⟩)
  · have hst := T.step rr
    refine ⟨obs.set id (.arr .int (xs.take i' ++ xs.drop j') (gg + 1) true), _, hst, ?_, ?_⟩
    · refine ⟨by simpa using hid, fun c' hc' => ?_⟩
      unfold genOf at hc'
      rw [List.getElem?_set_self hid] at hc'
      cases hc'
      exact ⟨Nat.le_refl _, fun _ => by simp⟩
    · rw [oSet_eq] at hk; exact hk
  · refine ⟨(xs.take i' ++ xs.drop j').map (Value.int .i64), ⟨by simp [E.size], .inr ⟨b, cap, _, by rw [hln], Nat.zero_le _, (hheap b hblk).trans (if_pos rfl), by rw [hln]; omega, h2, by simpa [Go.Sort.putCells, E.size] using h3, ?_⟩⟩, ⟨by simp [E.size], fun k hk => ⟨.int .i64 (xs.take i' ++ xs.drop j')[k], rfl, fun m hm => ?_⟩⟩, fun _ => by simp, by rw [hln]; omega⟩
    · apply List.ext_getElem?
      intro k
      simp only [E.size, Nat.mul_one]
      rw [hln]
      by_cases hk : k < xs.length - (j' - i')
      · rw [List.getElem?_take_of_lt hk, Array.getElem?_toList]
        have hkc : k < cur.size := by omega
        have hk2 : k < (xs.take i' ++ xs.drop j').length := by omega
        have hput : (Go.Sort.putCells (Value.int .i64) 0 (xs.take i' ++ xs.drop j' ++ List.replicate (j' - i') 0).toArray cur)[k]? = some (.int .i64 ((xs.take i' ++ xs.drop j')[k])) := by
          unfold Go.Sort.putCells
          rw [Array.getElem?_mapIdx, Array.getElem?_eq_getElem hkc]
          simp only [Option.map_some]
          rw [if_pos (by simp; omega), Nat.sub_zero, getElem!_pos _ k (by simp; omega)]
          simp only [List.getElem_toArray]
          rw [List.getElem_append_left (by omega : k < (xs.take i' ++ xs.drop j').length)]
        rw [hput, List.getElem?_map, List.getElem?_eq_getElem hk2]; rfl
      · rw [List.getElem?_eq_none (by simp; omega), List.getElem?_eq_none (by rw [List.length_map, hln]; omega)]
    · have : m = 0 := by simp [E.size] at hm; omega
      subst this
      simp only [E.size, Nat.mul_one, Nat.add_zero, Value.cells, List.getElem?_map, List.getElem?_eq_getElem hk]
      rfl
theorem c_impl_DeleteAt (w : List Int) (k : Nat) (hk : k < w.length) (hl : w.length ≤ 1048576) :
    FunA B 128 [.sl false .int w, .int .i64 k] (fun rs o => rs = [.own 0 0] ∧ o = [.arr .int (w.take k ++ w.drop (k + 1)) 0 true]) := by
  refine FunA.walk B_ok (fn := Tryz.f128) (fun vs w => Tryz.call128 vs w) Tryz.func128 rfl (by rw [Tryz.ntmps128]; simp) (fun C hC hP hT hΓ hbt hfn hpin hfin => ?_); have hX := BX; rw [← hΓ, ← hbt.1, ← hbt.2] at hX; rw [Tryz.ntmps128]; simp only [AW7, simprocAttr, hX]
  refine Run.nq ?_; refine Run.regionW hC (fun K hK => ?_); simp only [AW7, simprocAttr, hX]; (repeat (with_reducible refine And.intro ?_ ?_); exact vc0); refine hK _ ?_; clear hK K; refine Run.nq ?_
  refine Run.nq ?_; refine Run.regionW hC (fun K hK => ?_); simp only [AW7, simprocAttr, hX]; (repeat (with_reducible refine And.intro ?_ ?_); exact vc0); refine hK _ ?_; clear hK K; refine Run.nq ?_
  refine Run.nq ?_; refine Run.regionW hC (fun K hK => ?_); simp only [AW7, simprocAttr, hX]; (repeat (with_reducible refine And.intro ?_ ?_); exact vc0); refine hK _ ?_; clear hK K; refine Run.nq ?_
  refine Run.nq ?_; refine Run.condW (by simp only [AW7, simprocAttr, hX]; rfl) (by simp only [AW7, simprocAttr, hX]) ?_ ?_
  · intro h
    exfalso
    simp at h
    omega
  intro _
  refine Run.nq ?_; refine Run.regionW hC (fun K hK => ?_); simp (disch := omega) only [wrap_id, AW7, simprocAttr, hX]; (repeat (with_reducible refine And.intro ?_ ?_); exact vc0)
  refine ACall.delete hP delL rfl 0 1 rfl k (k + 1) rfl (by omega) (by omega) (by omega) ?_
  (try simp only [AW7, simprocAttr, hX]); (repeat (with_reducible refine And.intro ?_ ?_); exact vc0)
  (repeat (with_reducible refine And.intro ?_ ?_); exact vc0); refine hK _ ?_; clear hK K; refine Run.nq ?_
  refine Run.reK hpin [4] [0] (by decide) (by simp) ?_; simp only [AR, AW7, simprocAttr]
  refine Run.retW [4] (by decide) (by rw [hfn]; rfl) (by simp only [AW7, simprocAttr, hX]; rfl) (by simp only [AW7, simprocAttr, hX]) (hfin _ _ rfl rfl ?_)
  exact ⟨rfl, rfl⟩
end Go.Proofs.YtojcdgdbffmlpaaGreat
namespace Go.Proofs.YtojcdgdbffmlpaaGreat
open Go Go.Aw
theorem c_CompactFunc (ys : List (Nat × List Int)) (hyl : ys.length ≤ 1000) (hr : ∀ p ∈ ys, p.2.length ≤ 1000) (hne : ∀ i, i + 1 < ys.length → (ys.getD (i + 1) (0, [])).2 ≠ (ys.getD i (0, [])).2) (nn : Bool) :
    FunM B 129 [.own 0 0, .fn 130] .lrow ys nn (fun rs o => rs = [.own 0 0] ∧ o = [.arr .lrow ys 0 nn]) := by
  refine FunM.walk B_ok (fn := Tryz.f129) (fun vs w => Tryz.call129 vs w) Tryz.func129 rfl (by rw [Tryz.ntmps129]; simp) (fun C hC hP hT hΓ hbt hfn hpin hfin => ?_); have hX := BX; rw [← hΓ, ← hbt.1, ← hbt.2] at hX; rw [Tryz.ntmps129]; simp only [AW7, simprocAttr, hX]
  refine Run.nq ?_; refine Run.regionW hC (fun K hK => ?_); simp only [AW7, simprocAttr, hX]; (repeat (with_reducible refine And.intro ?_ ?_); exact vc0); refine hK _ ?_; clear hK K; refine Run.nq ?_
  refine Run.nq ?_; refine Run.regionW hC (fun K hK => ?_); simp only [AW7, simprocAttr, hX]; (repeat (with_reducible refine And.intro ?_ ?_); exact vc0); refine hK _ ?_; clear hK K; refine Run.nq ?_
  refine Run.nq ?_; refine Run.condW (by simp only [AW7, simprocAttr, hX]; rfl) (by simp only [AW7, simprocAttr, hX]) ?_ ?_
  · intro h
    refine Run.nq ?_; refine Run.regionW hC (fun K hK => ?_); simp only [AW7, simprocAttr, hX]; (repeat (with_reducible refine And.intro ?_ ?_); exact vc0); refine hK _ ?_; clear hK K; refine Run.nq ?_
    refine Run.retW [4] (by decide) (by rw [hfn]; rfl) (by simp only [AW7, simprocAttr, hX]; rfl) (by simp only [AW7, simprocAttr, hX]) (hfin _ _ _ rfl rfl rfl ?_)
    exact ⟨rfl, rfl⟩
  intro h
  have h2 : 2 ≤ ys.length := by rw [decide_eq_false_iff_not] at h; omega
  refine Run.nq ?_; refine Run.regionW hC (fun K hK => ?_); simp only [AW7, simprocAttr, hX]; (repeat (with_reducible refine And.intro ?_ ?_); exact vc0); refine hK _ ?_; clear hK K; refine Run.nq ?_
  refine Run.reKP hpin [0, 1, 5] [0] rfl (by simp [oAt, gen0]) (by decide) (by simp) ?_; simp only [AR, AW7, simprocAttr]
  refine Run.loopI (X := Nat) (fun i => ⟨66, [(0, true, .v (.own 0 0)), (1, true, .v (.fn (130))), (5, true, .v (.int .i64 (((i + 1 : Nat) : Int))))], [.arr .lrow ys 0 nn]⟩) (fun i => i + 1 ≤ ys.length) (fun i => ys.length - i) (0) (by omega) ?_ ?_
  · exact Le.sub (by first | rfl | simp) (by simp only [AW7, simprocAttr, hX]; try simp <;> try (first | rfl | exact ⟨rfl, rfl⟩ | exact ⟨rfl, rfl, rfl⟩))
  rintro i hi ih
  try simp only []
  refine Run.nq ?_; refine Run.regionW hC (fun K hK => ?_); simp only [AW7, simprocAttr, hX]; (repeat (with_reducible refine And.intro ?_ ?_); exact vc0); refine hK _ ?_; clear hK K; refine Run.nq ?_
  refine Run.nq ?_; refine Run.condW (by simp only [AW7, simprocAttr, hX]; rfl) (by simp only [AW7, simprocAttr, hX]) ?_ ?_
  rotate_left
  · intro h
    refine Run.exit rfl ?_; refine Run.nq ?_
    refine Run.nq ?_; refine Run.regionW hC (fun K hK => ?_); simp only [AW7, simprocAttr, hX]; (repeat (with_reducible refine And.intro ?_ ?_); exact vc0); refine hK _ ?_; clear hK K; refine Run.nq ?_
    refine Run.retW [4] (by decide) (by rw [hfn]; rfl) (by simp only [AW7, simprocAttr, hX]; rfl) (by simp only [AW7, simprocAttr, hX]) (hfin _ _ _ rfl rfl rfl ?_)
    exact ⟨rfl, rfl⟩
  intro h
  have h : i + 1 < ys.length := by rw [decide_eq_true_eq] at h; omega
  have hn := hne i h
  refine Run.nq ?_; refine Run.regionD hC true [0,1,2,3,4,5,6,7,8,9,10] (by kernel_rfl) (fun K hK => ?_); simp only [AW7, simprocAttr, hX]; (repeat (with_reducible refine And.intro ?_ ?_); exact vc0)
  have e1 : IntKind.i64.wrap (((i + 1 : Nat) : Int) - 1) = (i : Int) := by rw [wrap_id (by omega)]; omega
  simp only [e1, Int.toNat_natCast]
  refine ⟨⟨by omega, by omega⟩, ?_⟩
  refine (show inN 66 (some 28) ∧ True ∧ ACall _ _ 130 _ _ from ⟨?_, trivial, ?_⟩)
  · simp only [AW7, simprocAttr, hX]
  simp only [AW7, simprocAttr, hX]
  have hm : ys.getD (i + 1) (0, []) ∈ ys := by rw [getD_eq h]; exact List.getElem_mem h
  have hml := hr _ hm
  refine FunA.callD hP hT (c_slices_Equal (ys.getD (i + 1) (0, [])).2 (ys.getD i (0, [])).2 (by omega)) (by simp only [AW7, simprocAttr]) ?_
  rintro rs o ⟨rfl, rfl⟩
  (try simp only [AW7, simprocAttr, hX]); (repeat (with_reducible refine And.intro ?_ ?_); exact vc0)
  (repeat (with_reducible refine And.intro ?_ ?_); exact vc0); refine hK _ ?_; clear hK K; refine Run.nq ?_
  have hb : ((ys.getD (i + 1) (0, [])).2 == (ys.getD i (0, [])).2) = false := by simpa using hn
  simp only [hb]
  refine Run.nq ?_; refine Run.condW (by simp only [AW7, simprocAttr, hX]; rfl) (by simp only [AW7, simprocAttr, hX]) ?_ ?_
  · intro h; cases h
  intro _
  refine Run.reKP hpin [0, 1, 5] [0] rfl (by simp [oAt, gen0]) (by decide) (by simp) ?_; simp only [AR, AW7, simprocAttr]
  refine Run.nq ?_; refine Run.regionW hC (fun K hK => ?_); simp (disch := omega) only [wrap_id, AW7, simprocAttr, hX]; (repeat (with_reducible refine And.intro ?_ ?_); exact vc0); refine hK _ ?_; clear hK K; refine Run.nq ?_
  refine Run.le ?_ (ih (i + 1) (by omega) (by (try simp only [List.length_append, List.length_cons, List.length_nil]); omega))
  exact Le.sub (by rfl) (by simp only [AW7, simprocAttr]; try simp)
end Go.Proofs.YtojcdgdbffmlpaaGreat
namespace Go.Proofs.YtojcdgdbffmlpaaGreat
open Go Go.Aw Go.Cox
theorem argOkM_fn (obs : List O) (i0 g : Nat) (x : AV) (n : Nat) : argOkM obs i0 g x (.fn n) = (x = .fn n) := by cases x <;> rfl
set_option maxHeartbeats 1000000 in
theorem c_impl_BruhatCovers (c : List (List Int)) (w : List Int) (hcl : c.length ≤ 1048576) :
    FunA B 30 [.sl false (.row false) c, .sl false .int w] (fun rs o => rs = [.own 0 0] ∧ ∃ hs, hs.length = (bcv c w).length ∧ o = [.mat hs (bcv c w) 0 true]) := by
  refine (FunA.mat (by rfl) (post := fun rows nn rest => rows = bcv c w ∧ nn = true ∧ rest = []) ?_).mono fun rs o ⟨hs, rows, nn, rest, ⟨h1, h2, h3⟩, h4, h5, h6⟩ => by subst h1 h2 h3; exact ⟨h5, hs, h4, h6⟩
  refine FunA.walk B_ok (fn := Tryz.f30) (fun vs w => Tryz.call30 vs w) Tryz.func30 rfl (by rw [Tryz.ntmps30]; simp) (fun C hC hP hT hΓ hbt hfn hpin hfin => ?_); have hX := BX; rw [← hΓ, ← hbt.1, ← hbt.2] at hX; rw [Tryz.ntmps30]; simp only [AW7, simprocAttr, hX]
  refine Run.nq ?_; refine Run.regionW hC (fun K hK => ?_); simp only [AW7, simprocAttr, hX]; (repeat (with_reducible refine And.intro ?_ ?_); exact vc0); refine hK _ ?_; clear hK K; refine Run.nq ?_
  refine Run.nq ?_; refine Run.regionW hC (fun K hK => ?_); simp only [AW7, simprocAttr, hX]; (repeat (with_reducible refine And.intro ?_ ?_); exact vc0); refine hK _ ?_; clear hK K; refine Run.nq ?_
  refine Run.nq ?_; refine Run.regionW hC (fun K hK => ?_); simp only [AW7, simprocAttr, hX]; (repeat (with_reducible refine And.intro ?_ ?_); exact vc0)
  refine FunA.callW hP hT (c_impl_IsWord c w) (by simp only [AW7, simprocAttr]) ?_
  rintro rs o ⟨rfl, rfl⟩
  (try simp only [AW7, simprocAttr, hX]); (repeat (with_reducible refine And.intro ?_ ?_); exact vc0)
  (repeat (with_reducible refine And.intro ?_ ?_); exact vc0); refine hK _ ?_; clear hK K; refine Run.nq ?_
  refine Run.nq ?_; refine Run.condW (by simp only [AW7, simprocAttr, hX]; rfl) (by simp only [AW7, simprocAttr, hX]) ?_ ?_
  · intro h
    have h : wordB c w = false := by simpa using h
    have hz : bcv c w = [] := by unfold bcv; rw [h]; rfl
    refine Run.nq ?_; refine Run.regionW hC (fun K hK => ?_); simp only [AW7, simprocAttr, hX]; (repeat (with_reducible refine And.intro ?_ ?_); exact vc0); refine hK _ ?_; clear hK K; refine Run.nq ?_
    refine Run.reK hpin [4] [0] (by decide) (by simp) ?_; simp only [AR, AW7, simprocAttr]
    refine Run.retW [4] (by decide) (by rw [hfn]; rfl) (by simp only [AW7, simprocAttr, hX]; rfl) (by simp only [AW7, simprocAttr, hX]) (hfin _ _ rfl rfl ?_)
    exact ⟨[], 0, true, [], ⟨hz.symm, rfl, rfl⟩, by simp, rfl, rfl, rfl⟩
  intro h
  have hwb : wordB c w = true := by simpa using h
  have hz : bcv c w = srt (bcT c (redL c w) (redL c w).length) := by unfold bcv; rw [hwb]; rfl
  obtain ⟨hc, h2, h3⟩ := wordB_iff.1 hwb
  obtain ⟨a1, a2, a3, a4, a5⟩ := red_spec hc h3 (by omega)
  have hR := red_Red hc h3 (by omega)
  have hN0 := bcT_nodup hc hR (by omega)
  refine Run.nq ?_; refine Run.regionW hC (fun K hK => ?_); simp only [AW7, simprocAttr, hX]; (repeat (with_reducible refine And.intro ?_ ?_); exact vc0)
  refine FunA.callW hP hT (c_impl_reduced c w hc h3 (by omega)) (by simp only [AW7, simprocAttr]) ?_
  rintro rs o ⟨rfl, rfl⟩
  (try simp only [AW7, simprocAttr, hX]); (repeat (with_reducible refine And.intro ?_ ?_); exact vc0)
  (repeat (with_reducible refine And.intro ?_ ?_); exact vc0); refine hK _ ?_; clear hK K; refine Run.nq ?_
  generalize hy : redL c w = x at *
  refine Run.nq ?_; refine Run.regionW hC (fun K hK => ?_); simp only [AW7, simprocAttr, hX]; (repeat (with_reducible refine And.intro ?_ ?_); exact vc0); refine hK _ ?_; clear hK K; refine Run.nq ?_
  refine Run.reK hpin [0, 5, 6, 19, 20] [0, 1] (by decide) (by simp) ?_; simp only [AR, AW7, simprocAttr]
  refine Run.loopI (X := List (Nat × List Int) × Nat) (fun y => ⟨43, [(0, true, .v (.sl false (.row false) (c))), (5, true, .v (.own 0 0)), (6, true, .v (.own 1 0)), (19, true, .v (.int .i64 (x.length))), (20, true, .v (.int .i64 (y.2)))], [.arr .lrow (y.1) 0 true, .arr .int (x) 0 true]⟩) (fun y => y.2 ≤ x.length ∧ rw2 y.1 = bcT c x y.2 ∧ (lb1 y.1).Nodup) (fun y => x.length - y.2) (([], 0)) (⟨Nat.zero_le _, rfl, by simp [lb1]⟩) ?_ ?_
  · exact Le.sub (by first | rfl | simp) (by simp only [AW7, simprocAttr, hX]; try simp <;> try (first | rfl | exact ⟨rfl, rfl⟩ | exact ⟨rfl, rfl, rfl⟩))
  rintro ⟨ys, i⟩ ⟨hi, hE, hN⟩ ih
  try simp only []
  simp only [] at hi hE hN
  have hyl : ys.length ≤ i := by have := bcT_len c x i; rw [← hE] at this; simpa [rw2] using this
  refine Run.nq ?_; refine Run.regionW hC (fun K hK => ?_); simp only [AW7, simprocAttr, hX]; (repeat (with_reducible refine And.intro ?_ ?_); exact vc0); refine hK _ ?_; clear hK K; refine Run.nq ?_
  refine Run.nq ?_; refine Run.condW (by simp only [AW7, simprocAttr, hX]; rfl) (by simp only [AW7, simprocAttr, hX]) ?_ ?_
  rotate_left
  · intro h
    have hie : i = x.length := by rw [decide_eq_false_iff_not] at h; omega
    have hrl : ∀ a, (a = [] ∨ a ∈ ys.map (·.2)) → a.length ≤ 15 := fun a ha => by
      rcases ha with rfl | ha
      · simp
      · have ha : a ∈ rw2 ys := ha
        rw [hE] at ha
        exact bcT_rows (by omega) _ a ha
    refine Run.exit rfl ?_; refine Run.nq ?_
    refine Run.nq ?_; refine Run.regionW hC (fun K hK => ?_); simp only [AW7, simprocAttr, hX]; (repeat (with_reducible refine And.intro ?_ ?_); exact vc0)
    refine ACall.sort hP hT srtL rfl cmpW_swo 0 0 rfl (by omega) (fun a b ha _ => c_impl_CompareWords a b (by have := hrl a ha; omega)) ?_
    intro ys' hp hs
    (try simp only [AW7, simprocAttr, hX]); (repeat (with_reducible refine And.intro ?_ ?_); exact vc0)
    (repeat (with_reducible refine And.intro ?_ ?_); exact vc0); refine hK _ ?_; clear hK K; refine Run.nq ?_
    have hS : rw2 ys' = srt (bcT c x x.length) := sorted_srt hN0 (by rw [← hie, ← hE]; exact hp.map _) (List.pairwise_map.2 hs)
    have hpl := hp.length_eq
    refine Run.nq ?_; refine Run.regionW hC (fun K hK => ?_); simp only [AW7, simprocAttr, hX]; (repeat (with_reducible refine And.intro ?_ ?_); exact vc0)
    refine FunM.call hP hT (c_CompactFunc ys' (by omega) (fun p hp2 => by have := hrl p.2 (.inr (List.mem_map.2 ⟨p, (hp.mem_iff).1 hp2, rfl⟩)); omega) (fun k hk => by rw [rw2_getD, rw2_getD, hS]; exact strict_adj (srt_spec _).1 (by rw [← hS]; simpa [rw2] using hk)) true) 0 0 (by simp only [AW7, simprocAttr]; rfl) (by simp) rfl (by simp only [argOkM_fn, AW7, simprocAttr]; try simp) ?_
    rintro rs o' obs' ⟨rfl, h⟩
    obtain ⟨rfl, rfl⟩ := List.cons.inj h
    (try simp only [AW7, simprocAttr, hX]); (repeat (with_reducible refine And.intro ?_ ?_); exact vc0)
    (repeat (with_reducible refine And.intro ?_ ?_); exact vc0); refine hK _ ?_; clear hK K; refine Run.nq ?_
    refine Run.reK hpin [4] [0] (by decide) (by simp) ?_; simp only [AR, AW7, simprocAttr]
    refine Run.retW [4] (by decide) (by rw [hfn]; rfl) (by simp only [AW7, simprocAttr, hX]; rfl) (by simp only [AW7, simprocAttr, hX]) (hfin _ _ rfl rfl ?_)
    refine ⟨ys', 0, true, [], ⟨?_, rfl, rfl⟩, ?_, rfl, rfl, rfl⟩
    · rw [hz]; exact hS
    · exact (hp.map _).nodup_iff.2 hN
  intro h
  have h : i < x.length := by rw [decide_eq_true_eq] at h; omega
  have hdl := delA_len h
  refine Run.nq ?_; refine Run.regionW hC (fun K hK => ?_); simp only [AW7, simprocAttr, hX]; (repeat (with_reducible refine And.intro ?_ ?_); exact vc0); refine hK _ ?_; clear hK K; refine Run.nq ?_
  refine Run.nq ?_; refine Run.regionW hC (fun K hK => ?_); simp only [AW7, simprocAttr, hX]; (repeat (with_reducible refine And.intro ?_ ?_); exact vc0)
  refine FunA.callW hP hT (c_impl_DeleteAt x i h (by omega)) (by simp only [AW7, simprocAttr]) ?_
  rintro rs o ⟨rfl, rfl⟩
  (try simp only [AW7, simprocAttr, hX]); (repeat (with_reducible refine And.intro ?_ ?_); exact vc0)
  refine FunA.callW hP hT (c_impl_reduced c (x.take i ++ x.drop (i + 1)) hc (delA_letters a1 i) (by have : (x.take i ++ x.drop (i + 1)).length = (delA x i).length := rfl; omega)) (by simp only [AW7, simprocAttr]) ?_
  rintro rs o ⟨rfl, rfl⟩
  (try simp only [AW7, simprocAttr, hX]); (repeat (with_reducible refine And.intro ?_ ?_); exact vc0)
  (repeat (with_reducible refine And.intro ?_ ?_); exact vc0); refine hK _ ?_; clear hK K; refine Run.nq ?_
  generalize hg0 : redL c (x.take i ++ x.drop (i + 1)) = d at *
  have hg : redL c (delA x i) = d := hg0
  have hdd : d.length ≤ 15 := by rw [← hg]; have := (red_spec hc (delA_letters a1 i) (by omega)).2.1; omega
  refine Run.nq ?_; refine Run.regionW hC (fun K hK => ?_); simp (disch := omega) only [wrap_id, AW7, simprocAttr, hX]; (repeat (with_reducible refine And.intro ?_ ?_); exact vc0); refine hK _ ?_; clear hK K; refine Run.nq ?_
  refine Run.nq ?_; refine Run.condW (by simp only [AW7, simprocAttr, hX]; rfl) (by simp only [AW7, simprocAttr, hX]) ?_ ?_
  · intro h5
    have h5 : d.length + 1 = x.length := by simp at h5; omega
    have hf : bcF c x i = some d := by unfold bcF; rw [hg, if_pos h5]
    refine Run.nq ?_; refine Run.regionW hC (fun K hK => ?_); simp only [AW7, simprocAttr, hX]; (repeat (with_reducible refine And.intro ?_ ?_); exact vc0)
    intro q hq
    (repeat (with_reducible refine And.intro ?_ ?_); exact vc0)
    (repeat (with_reducible refine And.intro ?_ ?_); exact vc0); refine hK _ ?_; clear hK K; refine Run.nq ?_
    have hE2 : rw2 (ys ++ [(q, d)]) = bcT c x (i + 1) := by rw [rw2_app, hE, bcT_snoc, hf]; rfl
    have hN2 : (lb1 (ys ++ [(q, d)])).Nodup := by
      have := lb_ins (ys := []) (i := 0) (w := d) (by simpa [lb1] using hN) (hq (.arr .lrow ys 0 true) (.head _) _ _ _ rfl) (by simp)
      simpa [lb1] using this
    refine Run.reK hpin [0, 5, 6, 19, 20] [0, 1] (by decide) (by simp) ?_; simp only [AR, AW7, simprocAttr]
    refine Run.nq ?_; refine Run.regionW hC (fun K hK => ?_); simp (disch := omega) only [wrap_id, AW7, simprocAttr, hX]; (repeat (with_reducible refine And.intro ?_ ?_); exact vc0); refine hK _ ?_; clear hK K; refine Run.nq ?_
    refine Run.le ?_ (ih ((ys ++ [(q, d)], i + 1)) (⟨h, hE2, hN2⟩) (by (try simp only [List.length_append, List.length_cons, List.length_nil]); omega))
    exact Le.sub (by rfl) (by simp only [AW7, simprocAttr]; try simp)
  intro h5
  have h5 : ¬ d.length + 1 = x.length := by intro e; rw [beq_eq_false_iff_ne] at h5; omega
  have hf : bcF c x i = none := by unfold bcF; rw [hg, if_neg h5]
  have hE2 : rw2 ys = bcT c x (i + 1) := by rw [hE, bcT_snoc, hf]; simp
  refine Run.reK hpin [0, 5, 6, 19, 20] [0, 1] (by decide) (by simp) ?_; simp only [AR, AW7, simprocAttr]
  refine Run.nq ?_; refine Run.regionW hC (fun K hK => ?_); simp (disch := omega) only [wrap_id, AW7, simprocAttr, hX]; (repeat (with_reducible refine And.intro ?_ ?_); exact vc0); refine hK _ ?_; clear hK K; refine Run.nq ?_
  refine Run.le ?_ (ih ((ys, i + 1)) (⟨h, hE2, hN⟩) (by (try simp only [List.length_append, List.length_cons, List.length_nil]); omega))
  exact Le.sub (by rfl) (by simp only [AW7, simprocAttr]; try simp)
end Go.Proofs.YtojcdgdbffmlpaaGreat
