/- One letter taken out of a word: slices.Delete at a call, and DeleteAt. -/
import Derived.Test.YtnhiamdnghgboaaSrt
import Derived.Test.YtnhiamdnghgboaaWords4
import Derived.Shelf.Slices.Delete
set_option linter.unusedVariables false
set_option linter.unusedSimpArgs false
namespace Go.Proofs.Ytnhiamdnghgboaa
open Go Go.Aw
def delL_ren : Go.Shelf.Ren := ⟨fun | 23 => 126 | n => n, fun | 22 => 23 | 3 => 3 | 4 => 4 | 0 => 0 | n => n, fun n => n⟩
theorem delL : Lays2.n23 Try.prog delL_ren where
  mixed := by kernel_rfl
  f23 := Try.func126.trans (congrArg some (by kernel_rfl))
  t0 := Try.underlying0
  a0 := Try.isAgg0
  z0 := Try.sizeOf0
  v0 := Try.zeroValue0
  t3 := Try.underlying3
  a3 := Try.isAgg3
  z3 := Try.sizeOf3
  v3 := Try.zeroValue3
  t4 := Try.underlying4
  a4 := Try.isAgg4
  z4 := Try.sizeOf4
  v4 := Try.zeroValue4
  t22 := Try.underlying23
  a22 := Try.isAgg23
  z22 := Try.sizeOf23
  v22 := Try.zeroValue23
  i3 := by kernel_rfl


theorem ACall.delete {B C : Ctx} (hP : B.P = C.P) {ρs : Go.Shelf.Ren} (L : Lays2.n23 B.P ρs) {f : FuncId} (hf : ρs.f 23 = f) {obs : List O} (id gg : Nat) {xs : List Int}
    (ho : oAt obs id = .arr .int xs gg true) {i j : Int} (i' j' : Nat) (hi : i = i') (hj : j = j') (hij : i' ≤ j') (hjl : j' ≤ xs.length) {K : Sl → List O → Prop}
    (hk : K (.v (.own id (gg + 1))) (oSet obs id (.arr .int (xs.take i' ++ xs.drop j') (gg + 1) true))) : ACall C obs f [.own id gg, .int .i64 i, .int .i64 j] fun x o => Later (K x o) := by
  subst hi hj
  have hen : (∀ (vs : Array Value) (w : World), (callFunc f vs).run B.P w = .ok (.enter f vs) w) := by
    rw [← hf]; exact enters_of L.f23 (by kernel_rfl) rfl
  refine ⟨fun vs w => by rw [← hP]; exact hen vs w, fun w ρ vs rr hl hx => ?_⟩
  have hid : id < obs.length := by
    rcases Nat.lt_or_ge id obs.length with h | h
    · exact h
    · rw [oAt_eq, List.getElem?_eq_none h] at ho; cases ho
  have ho' : obs[id]? = some (.arr .int xs gg true) := by rw [oAt_get hid, ho]
  match vs, hl with
  | [u1, u2, u3], _ =>
  have a1 := hx 0 _ u1 rfl rfl
  have a2 : u2 = .int .i64 i' := hx 1 _ u2 rfl rfl
  have a3 : u3 = .int .i64 j' := hx 2 _ u3 rfl rfl
  obtain ⟨_, a1⟩ := (show AVRel (C.V w obs ρ) obs ρ (.own id gg) u1 from a1)
  have hu1 : u1 = ρ id := (a1 gg (by unfold genOf; rw [ho']; rfl)).2 rfl
  obtain ⟨cs, hown, henc, hnn, hml⟩ := rr.os id _ ho'
  rcases hown.2 with ⟨hv, _⟩ | ⟨b, cap, cur, hv, _, hg, h1, h2, h3, h4⟩
  · exact (hnn rfl hv).elim
  have hcs : cs = xs.map (Value.int .i64) := by
    apply List.ext_getElem?
    intro k
    have hl := henc.1
    simp only [E.size, Nat.mul_one] at hl
    by_cases hi : k < xs.length
    · obtain ⟨u, hu, hc⟩ := henc.2 k hi
      have h0 := hc 0 (by simp [E.size])
      cases hu
      simp [E.size, Value.cells] at h0
      rw [h0]
      simp [hi]
    · rw [List.getElem?_eq_none (by omega), List.getElem?_eq_none (by simp; omega)]
  subst hcs
  simp only [E.size, Nat.mul_one] at h3 h4
  have hblk : b < w.heap.size := (Array.getElem?_eq_some_iff.1 hg).1
  have hcell : ∀ k, k < xs.length → cur[k]? = some (.int .i64 (xs.toArray[k]!)) := fun k hk => by
    have e : cur.toList[k]? = (xs.map (Value.int .i64))[k]? := by rw [← h4, List.getElem?_take_of_lt hk]
    rw [Array.getElem?_toList] at e
    rw [e, getElem!_pos xs.toArray k (by simpa using hk)]
    simp [hk]
  have hH : Go.Sort.Holds (Value.int .i64) w b 0 xs.toArray := fun k hk => by
    have hk : k < xs.length := by simpa using hk
    refine ⟨?_, by simp [World.frozen?, hg]⟩
    simp only [World.cell?, hg, Nat.zero_add]
    exact hcell k hk
  have main := Any.slices_Delete_int L b 0 cap i' j' xs w hH h1 h2 hij hjl
  rw [hf, hP] at main
  subst a2 a3 hu1
  rw [hv]
  refine main.mono fun e w' ⟨he, q, hw'⟩ => ⟨_, he, .v (.own id (gg + 1)), ?_⟩
  have hln : (xs.take i' ++ xs.drop j').length = xs.length - (j' - i') := by simp; omega
  have hheap : ∀ b', b' < w.heap.size → w'.heap[b']? = if b' = b then some (Obj.cells (Go.Sort.putCells (Value.int .i64) 0 (xs.take i' ++ xs.drop j' ++ List.replicate (j' - i') 0).toArray cur) (C.tid .int) (0, 0)) else w.heap[b']? := fun b' hb => by
    rw [hw']
    show (w.heap.modify b _)[b']? = _
    rw [Array.getElem?_modify]
    by_cases e : b' = b
    · subst e; rw [if_pos rfl, if_pos rfl, hg]; rfl
    · rw [if_neg (Ne.symm e), if_neg e]
  have hsz : w'.heap.size = w.heap.size := by
    rw [hw']
    show (w.heap.modify b _).size = _
    simp
  have hext : Ext (fun b' => fpo (ρ id) (.arr .int xs gg true) b') w w' := by
    refine ⟨by rw [hw']; rfl, by rw [hw']; rfl, by rw [hw']; rfl, by omega, by rw [hw']; exact Nat.le_add_right _ _, fun b' hb' hS => ?_⟩
    rw [hheap b' hb', if_neg]
    intro e
    subst e
    exact hS (by simp [fpo, hv, Value.ownBlock])
  have hfb : ∀ b', fpo (.slice (some ⟨b, 0, none⟩) (xs.length - (j' - i')) cap) (.arr .int (xs.take i' ++ xs.drop j') (gg + 1) true) b' → fpo (ρ id) (.arr .int xs gg true) b' ∨ w.heap.size ≤ b' := fun b' hb' => .inl (by
    simp only [fpo, hv, Value.ownBlock] at hb' ⊢; exact hb')
  have T := Turn.one rr id (.arr .int xs gg true) (.arr .int (xs.take i' ++ xs.drop j') (gg + 1) true) (.slice (some ⟨b, 0, none⟩) (xs.length - (j' - i')) cap) ho' hext (w' := w') ?_ hfb (fun c' hc => ⟨gg, rfl, .inr (by cases hc; exact Nat.lt_succ_self _)⟩)
  · have hst := T.step rr
    refine ⟨obs.set id (.arr .int (xs.take i' ++ xs.drop j') (gg + 1) true), _, hst, ?_, ?_⟩
    · refine ⟨by simpa using hid, fun c' hc' => ?_⟩
      unfold genOf at hc'
      rw [List.getElem?_set_self hid] at hc'
      cases hc'
      exact ⟨Nat.le_refl _, fun _ => by simp⟩
    · rw [oSet_eq] at hk; exact hk
  · refine ⟨(xs.take i' ++ xs.drop j').map (Value.int .i64), ⟨by simp [E.size], .inr ⟨b, cap, _, by rw [hln], Nat.zero_le _, (hheap b hblk).trans (if_pos rfl), by rw [hln]; omega, h2, by simpa [Go.Sort.putCells, E.size] using h3, ?_⟩⟩, ⟨by simp [E.size], fun k hk => ⟨.int .i64 (xs.take i' ++ xs.drop j')[k], rfl, fun m hm => ?_⟩⟩, fun _ => by simp, by rw [hln]; omega⟩
    · apply List.ext_getElem?
      intro k
      simp only [E.size, Nat.mul_one]
      rw [hln]
      by_cases hk : k < xs.length - (j' - i')
      · rw [List.getElem?_take_of_lt hk, Array.getElem?_toList]
        have hkc : k < cur.size := by omega
        have hk2 : k < (xs.take i' ++ xs.drop j').length := by omega
        have hput : (Go.Sort.putCells (Value.int .i64) 0 (xs.take i' ++ xs.drop j' ++ List.replicate (j' - i') 0).toArray cur)[k]? = some (.int .i64 ((xs.take i' ++ xs.drop j')[k])) := by
          unfold Go.Sort.putCells
          rw [Array.getElem?_mapIdx, Array.getElem?_eq_getElem hkc]
          simp only [Option.map_some]
          rw [if_pos (by simp; omega), Nat.sub_zero, getElem!_pos _ k (by simp; omega)]
          simp only [List.getElem_toArray]
          rw [List.getElem_append_left (by omega : k < (xs.take i' ++ xs.drop j').length)]
        rw [hput, List.getElem?_map, List.getElem?_eq_getElem hk2]; rfl
      · rw [List.getElem?_eq_none (by simp; omega), List.getElem?_eq_none (by rw [List.length_map, hln]; omega)]
    · have : m = 0 := by simp [E.size] at hm; omega
      subst this
      simp only [E.size, Nat.mul_one, Nat.add_zero, Value.cells, List.getElem?_map, List.getElem?_eq_getElem hk]
      rfl

theorem c_impl_DeleteAt (w : List Int) (k : Nat) (hk : k < w.length) (hl : w.length ≤ 1048576) :
    FunA B 95 [.sl false .int w, .int .i64 k] (fun rs o => rs = [.own 0 0] ∧ o = [.arr .int (w.take k ++ w.drop (k + 1)) 0 true]) := by
  refine FunA.walk B_ok (fn := Try.f95) (fun vs w => Try.call95 vs w) Try.func95 rfl (by rw [Try.ntmps95]; simp) (fun C hC hP hT hΓ hbt hfn hpin hfin => ?_); have hX := BX; rw [← hΓ, ← hbt] at hX; rw [Try.ntmps95]; simp only [AW5, simprocAttr, hX]
  refine Run.nq ?_; refine Run.regionW hC (fun K hK => ?_); simp only [AW5, simprocAttr, hX]; (repeat (with_reducible refine And.intro ?_ ?_); exact vc0); refine hK _ ?_; clear hK K; refine Run.nq ?_
  refine Run.nq ?_; refine Run.regionW hC (fun K hK => ?_); simp only [AW5, simprocAttr, hX]; (repeat (with_reducible refine And.intro ?_ ?_); exact vc0); refine hK _ ?_; clear hK K; refine Run.nq ?_
  refine Run.nq ?_; refine Run.regionW hC (fun K hK => ?_); simp only [AW5, simprocAttr, hX]; (repeat (with_reducible refine And.intro ?_ ?_); exact vc0); refine hK _ ?_; clear hK K; refine Run.nq ?_
  refine Run.nq ?_; refine Run.condW (by simp only [AW5, simprocAttr, hX]; rfl) (by simp only [AW5, simprocAttr, hX]) ?_ ?_
  · intro h
    exfalso
    simp at h
    omega
  intro _
  refine Run.nq ?_; refine Run.regionW hC (fun K hK => ?_); simp (disch := omega) only [wrap_id, AW5, simprocAttr, hX]; (repeat (with_reducible refine And.intro ?_ ?_); exact vc0)
  refine ACall.delete hP delL rfl 0 1 rfl k (k + 1) rfl (by omega) (by omega) (by omega) ?_
  (try simp only [AW5, simprocAttr, hX]); (repeat (with_reducible refine And.intro ?_ ?_); exact vc0)
  (repeat (with_reducible refine And.intro ?_ ?_); exact vc0); refine hK _ ?_; clear hK K; refine Run.nq ?_
  refine Run.reK hpin [4] [0] (by decide) (by simp) ?_; simp only [AR, AW5, simprocAttr]
  refine Run.retW [4] (by decide) (by rw [hfn]; rfl) (by simp only [AW5, simprocAttr, hX]; rfl) (by simp only [AW5, simprocAttr, hX]) (hfin _ _ rfl rfl ?_)
  exact ⟨rfl, rfl⟩

def delN (w : List Int) (k : Nat) (i : Nat) : List Int := (w.take i).take k ++ (w.take i).drop (k + 1)
theorem delN_snoc (w : List Int) (k i : Nat) (h : i < w.length) : delN w k (i + 1) = if i = k then delN w k i else delN w k i ++ [w.getD i 0] := by
  unfold delN
  have e : w.take (i + 1) = w.take i ++ [w.getD i 0] := by rw [getD_eq h, List.take_succ_eq_append_getElem h]
  have hl : (w.take i).length = i := by simp; omega
  rw [e, List.take_append, List.drop_append, hl]
  by_cases h1 : i = k
  · subst h1
    rw [if_pos rfl, Nat.sub_self, List.take_zero, List.append_nil, show i + 1 - i = 1 by omega]
    simp
  · rw [if_neg h1]
    by_cases h2 : i < k
    · rw [List.take_of_length_le (by simp; omega : [w.getD i 0].length ≤ k - i), List.drop_eq_nil_of_le (by omega : (w.take i).length ≤ k + 1), List.drop_eq_nil_of_le (by simp; omega : [w.getD i 0].length ≤ k + 1 - i)]
      simp
    · rw [show k - i = 0 by omega, show k + 1 - i = 0 by omega]
      simp
theorem delN_all (w : List Int) (k : Nat) : delN w k w.length = w.take k ++ w.drop (k + 1) := by simp [delN]

theorem c_spec_DeleteAt (w : List Int) (k : Nat) (hl : w.length ≤ 1048576) :
    FunA B 94 [.sl false .int w, .int .i64 k] (fun rs o => rs = [.own 0 0] ∧ o = [.arr .int (w.take k ++ w.drop (k + 1)) 0 true]) := by
  refine FunA.walk B_ok (fn := Try.f94) (fun vs w => Try.call94 vs w) Try.func94 rfl (by rw [Try.ntmps94]; simp) (fun C hC hP hT hΓ hbt hfn hpin hfin => ?_); have hX := BX; rw [← hΓ, ← hbt] at hX; rw [Try.ntmps94]; simp only [AW5, simprocAttr, hX]
  refine Run.nq ?_; refine Run.regionW hC (fun K hK => ?_); simp only [AW5, simprocAttr, hX]; (repeat (with_reducible refine And.intro ?_ ?_); exact vc0); refine hK _ ?_; clear hK K; refine Run.nq ?_
  refine Run.nq ?_; refine Run.regionW hC (fun K hK => ?_); simp only [AW5, simprocAttr, hX]; (repeat (with_reducible refine And.intro ?_ ?_); exact vc0); refine hK _ ?_; clear hK K; refine Run.nq ?_
  refine Run.nq ?_; refine Run.regionW hC (fun K hK => ?_); simp only [AW5, simprocAttr, hX]; (repeat (with_reducible refine And.intro ?_ ?_); exact vc0); refine hK _ ?_; clear hK K; refine Run.nq ?_
  refine Run.reK hpin [0, 1, 5, 6] [0] (by decide) (by simp) ?_; simp only [AR, AW5, simprocAttr]
  refine Run.le (Le.sub (fr' := [(0, true, .v (.sl false .int w)), (1, true, .v (.int .i64 k)), (5, true, .v (.own 0 0)), (6, true, .v (.int .i64 (0 : Nat)))]) (obs' := [.arr .int (delN w k 0) 0 true]) (by simp [delN]) (by simp only [AW5, simprocAttr]; try simp)) ?_
  refine Run.loopI (X := Nat) (fun i => ⟨25, [(0, true, .v (.sl false .int (w))), (1, true, .v (.int .i64 (k))), (5, true, .v (.own 0 0)), (6, true, .v (.int .i64 (i)))], [.arr .int ((delN w k i)) 0 true]⟩) (fun i => i ≤ w.length) (fun i => w.length - i) (0) (Nat.zero_le _) ?_ ?_
  · exact Le.sub (by first | rfl | simp) (by simp only [AW5, simprocAttr, hX]; try simp <;> try (first | rfl | exact ⟨rfl, rfl⟩ | exact ⟨rfl, rfl, rfl⟩))
  rintro i hi ih
  try simp only []
  have hdl : (delN w k i).length ≤ i := by unfold delN; simp; omega
  refine Run.nq ?_; refine Run.regionW hC (fun K hK => ?_); simp only [AW5, simprocAttr, hX]; (repeat (with_reducible refine And.intro ?_ ?_); exact vc0); refine hK _ ?_; clear hK K; refine Run.nq ?_
  refine Run.nq ?_; refine Run.condW (by simp only [AW5, simprocAttr, hX]; rfl) (by simp only [AW5, simprocAttr, hX]) ?_ ?_
  rotate_left
  · intro h
    have h : i = w.length := by rw [decide_eq_false_iff_not] at h; omega
    refine Run.exit rfl ?_; refine Run.nq ?_
    refine Run.nq ?_; refine Run.regionW hC (fun K hK => ?_); simp only [AW5, simprocAttr, hX]; (repeat (with_reducible refine And.intro ?_ ?_); exact vc0); refine hK _ ?_; clear hK K; refine Run.nq ?_
    refine Run.reK hpin [4] [0] (by decide) (by simp) ?_; simp only [AR, AW5, simprocAttr]
    refine Run.retW [4] (by decide) (by rw [hfn]; rfl) (by simp only [AW5, simprocAttr, hX]; rfl) (by simp only [AW5, simprocAttr, hX]) (hfin _ _ rfl rfl ?_)
    rw [h, delN_all]; exact ⟨rfl, rfl⟩
  intro h
  have h : i < w.length := by rw [decide_eq_true_eq] at h; omega
  have hs := delN_snoc w k i h
  refine Run.nq ?_; refine Run.regionW hC (fun K hK => ?_); simp only [AW5, simprocAttr, hX]; (repeat (with_reducible refine And.intro ?_ ?_); exact vc0); refine hK _ ?_; clear hK K; refine Run.nq ?_
  refine Run.nq ?_; refine Run.condW (by simp only [AW5, simprocAttr, hX]; rfl) (by simp only [AW5, simprocAttr, hX]) ?_ ?_
  · intro h2
    have h2 : ¬ i = k := by intro e; rw [e] at h2; simp at h2
    rw [if_neg h2] at hs
    refine Run.nq ?_; refine Run.regionW hC (fun K hK => ?_); simp only [AW5, simprocAttr, hX]; (repeat (with_reducible refine And.intro ?_ ?_); exact vc0); refine hK _ ?_; clear hK K; refine Run.nq ?_
    refine Run.reK hpin [0, 1, 5, 6] [0] (by decide) (by simp) ?_; simp only [AR, AW5, simprocAttr]
    refine Run.nq ?_; refine Run.regionW hC (fun K hK => ?_); simp (disch := omega) only [wrap_id, AW5, simprocAttr, hX]; (repeat (with_reducible refine And.intro ?_ ?_); exact vc0); refine hK _ ?_; clear hK K; refine Run.nq ?_
    refine Run.le ?_ (ih (i + 1) (by omega) (by (try simp only [List.length_append, List.length_cons, List.length_nil]); omega))
    exact Le.sub (by first | rfl | (simp only [hs]; done) | (rw [hs]; rfl)) (by simp only [AW5, simprocAttr]; try simp)
  intro h2
  have h2 : i = k := by simp at h2; omega
  rw [if_pos h2] at hs
  refine Run.nq ?_; refine Run.regionW hC (fun K hK => ?_); simp (disch := omega) only [wrap_id, AW5, simprocAttr, hX]; (repeat (with_reducible refine And.intro ?_ ?_); exact vc0); refine hK _ ?_; clear hK K; refine Run.nq ?_
  refine Run.le ?_ (ih (i + 1) (by omega) (by (try simp only [List.length_append, List.length_cons, List.length_nil]); omega))
  exact Le.sub (by first | rfl | (simp only [hs]; done) | (rw [hs]; rfl)) (by simp only [AW5, simprocAttr]; try simp)
end Go.Proofs.Ytnhiamdnghgboaa
