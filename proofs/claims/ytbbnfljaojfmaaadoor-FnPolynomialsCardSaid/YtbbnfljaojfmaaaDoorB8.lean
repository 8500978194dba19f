/- The drawing functions' cursor: contracts. -/
import Derived.Test.YtbbnfljaojfmaaaDoorB7
import Derived.Test.YtbbnfljaojfmaaaDoorB6
import Derived.Lib.ItoaNum
import Derived.Lib.ItoaLen
import Derived.Shelf.LaysM
import Derived.Shelf.Strconv.Itoa3
set_option linter.unusedVariables false
set_option linter.unusedSimpArgs false
namespace Go.Proofs.YtbbnfljaojfmaaaDoor
open Go Go.Aw
theorem bytes_cells {V : Vw} {f : Bool} {xs : List Int} {s : Value} (h : SlRel V f .byte xs s) : ∃ base cap, s = .slice base xs.length cap ∧ xs.length ≤ maxLen ∧ ∀ k (hk : k < xs.length), ∃ a, base = some a ∧ V.cell (a.add k) = some (.int .u8 xs[k]) := by
  obtain ⟨base, cap, hv, h1, h2, hx⟩ := h
  refine ⟨base, cap, hv, by omega, fun k hk => ?_⟩
  obtain ⟨a, u, ha, _, hr, hc⟩ := hx k hk
  cases hr
  have h0 := hc 0 (by simp [E.size])
  simp [E.size, Value.cells] at h0
  exact ⟨a, ha, h0⟩
theorem cell_of_V {C : Ctx} {obs : List O} {w : World} {ρ : Nat → Value} {a : Addr} {v : Value} (h : (C.V w obs ρ).cell a = some v) : ¬ Own obs ρ a.block ∧ w.cell? a = some v := by
  unfold Vw.cell at h
  cases hb : (C.V w obs ρ).H a.block with
  | none => rw [hb] at h; cases h
  | some o =>
    obtain ⟨h1, h2⟩ := H_vis hb
    refine ⟨h1, ?_⟩
    rw [hb] at h
    unfold World.cell?
    rw [h2]
    cases o <;> first | exact h | cases h
theorem ACall.new {C : Ctx} (hP : B.P = C.P) {obs : List O} {f : Bool} {xs : List Int} (hm : xs.length ≤ 4611686018427387904) {K : Sl → List O → Prop} (hk : ∀ s, K (.v (.own obs.length 0)) (obs ++ [.cur s 0])) :
    ACall C obs 38 [.sl f .byte xs] fun x o => Later (K x o) := by
  refine ⟨fun vs w => by rw [← hP]; exact Tryd.call38 vs w, fun w ρ vs rr hl hx => ?_⟩
  match vs, hl with
  | [s], _ =>
  have hs : SlRel (C.V w obs ρ) f .byte xs s := hx 0 _ s rfl rfl
  obtain ⟨base, cap, hv, hlen, hc⟩ := bytes_cells hs
  rw [← hP]
  subst hv
  refine (w_new base xs.length cap (fun k => xs.getD k 0) w hm fun k hk => ?_).mono ?_
  · obtain ⟨a, ha, hc⟩ := hc k hk
    refine ⟨a, ha, ?_⟩
    rw [(cell_of_V hc).2]
    simp [List.getD_eq_getElem?_getD, hk]
  rintro e w' ⟨h, t, rfl, h1, h2, rfl⟩
  have hext := Ext.alloc (fun _ => False) w (.cells #[.slice base xs.length cap, .int .i64 0, .int .i64 h] t)
  have hgr : (w.alloc (.cells #[.slice base xs.length cap, .int .i64 0, .int .i64 h] t)).heap[w.heap.size]? = some (.cells #[.slice base xs.length cap, .int .i64 0, .int .i64 h] t (0, 0)) := by
    show (w.heap.push _)[_]? = _
    simp
  have hle : (C.V w obs ρ).le (C.V (w.alloc (.cells #[.slice base xs.length cap, .int .i64 0, .int .i64 h] t)) (obs ++ [.cur (.slice base xs.length cap) 0]) (fun i => if i = obs.length then .pointer (some ⟨w.heap.size, 0, none⟩) else ρ i)) := by
    refine ⟨fun b o hb => ?_, fun _ hb => hb, rfl⟩
    obtain ⟨n1, n2⟩ := H_vis hb
    have hlt : b < w.heap.size := (Array.getElem?_eq_some_iff.1 n2).1
    have hn : ¬ Own (obs ++ [.cur (.slice base xs.length cap) 0]) (fun i => if i = obs.length then .pointer (some ⟨w.heap.size, 0, none⟩) else ρ i) b := by
      rintro ⟨j, o', hj, hf⟩
      rw [List.getElem?_append] at hj
      split at hj
      · rename_i hlj
        simp only [if_neg (show ¬ j = obs.length by omega)] at hf
        exact n1 ⟨j, o', hj, hf⟩
      · rename_i hlj
        have hj0 : j = obs.length := by
          rcases Nat.lt_or_ge obs.length j with k | k
          · rw [List.getElem?_eq_none (by simp; omega)] at hj; cases hj
          · omega
        subst hj0
        simp at hj
        subst hj
        simp only [if_true] at hf
        have hf : Value.pointer (some ⟨w.heap.size, 0, none⟩) = .pointer (some ⟨b, 0, none⟩) := hf
        injection hf with hf
        injection hf with hf
        injection hf with hf _ _
        omega
    simp only [Ctx.V, mask, if_neg hn]
    rw [hext.block b hlt (fun k => k)]
    exact n2
  have T := Turn.new rr hext (.cur (.slice base xs.length cap) 0) (.pointer (some ⟨w.heap.size, 0, none⟩))
    ⟨w.heap.size, t, 0, h, rfl, hgr, by omega, ⟨xs, (SlRel.weaken hs).mono hle, by omega⟩, h1, h2⟩
    (fun b hb => by
      have hf : Value.pointer (some ⟨w.heap.size, 0, none⟩) = .pointer (some ⟨b, 0, none⟩) := hb
      injection hf with hf
      injection hf with hf
      injection hf with hf _ _
      omega)
  refine ⟨_, rfl, .v (.own obs.length 0), _, _, T.step rr, ?_, hk _⟩
  exact ⟨by simp, fun c _ => ⟨Nat.zero_le _, fun _ => by simp⟩⟩
theorem c_l1Byte (s : Value) : FunO B 49 [.own 0 0] (.cur s 0) (fun rs o => ∃ x : Int, rs = [.int .i64 x] ∧ 0 ≤ x ∧ x < 256 ∧ o = [.cur s 0]) := by
  refine ⟨fun vs w => Tryd.call49 vs w, fun w L v vs hw hl ha => ?_⟩
  match vs, hl with
  | [u], _ =>
  have hu : u = v := ((ha 0 _ u rfl rfl).2 0 rfl).2 rfl
  subst hu
  obtain ⟨b, t, i, h, hv, hb, hi0, ⟨xs, hs, hi1⟩, h1, h2⟩ := hw.os 0 _ rfl
  obtain ⟨base, cap, hsv, hlen, hc⟩ := bytes_cells hs
  subst hsv
  have hv : u = .pointer (some ⟨b, 0, none⟩) := hv
  subst hv
  have hown : Own [.cur (.slice base xs.length cap) 0] (fun _ => Value.pointer (some ⟨b, 0, none⟩)) b := ⟨0, _, rfl, rfl⟩
  refine (byte_to b t base xs.length cap i h w hb hi0 hi1 hlen fun k hk => ?_).mono ?_
  · obtain ⟨a, ha, hc⟩ := hc k hk
    obtain ⟨n1, n2⟩ := cell_of_V hc
    exact ⟨a, xs[k], ha, fun e => n1 (by rw [add_block, e]; exact hown), n2⟩
  rintro e w' ⟨⟨x, rfl, x1, x2⟩, ⟨i', h', g1, g2, g3, g4, g5⟩, hext⟩
  have hOwn : ∀ c, Own [.cur (.slice base xs.length cap) 0] (fun _ => Value.pointer (some ⟨b, 0, none⟩)) c → c = b := by
    rintro c ⟨j, o, hj, hf⟩
    cases j with
    | succ j => simp at hj
    | zero =>
      simp at hj; subst hj
      have hf : Value.pointer (some ⟨b, 0, none⟩) = .pointer (some ⟨c, 0, none⟩) := hf
      injection hf with hf
      injection hf with hf
      injection hf with hf _ _
      exact hf.symm
  have hle : ((B.lentB w L (.cur (.slice base xs.length cap) 0) (.pointer (some ⟨b, 0, none⟩))).V w [.cur (.slice base xs.length cap) 0] (fun _ => .pointer (some ⟨b, 0, none⟩))).le
      ((B.lentB w L (.cur (.slice base xs.length cap) 0) (.pointer (some ⟨b, 0, none⟩))).V w' [.cur (.slice base xs.length cap) 0] (fun _ => .pointer (some ⟨b, 0, none⟩))) := by
    refine ⟨fun c o hc => ?_, fun _ hb => hb, rfl⟩
    obtain ⟨n1, n2⟩ := H_vis hc
    simp only [Ctx.V, mask, if_neg n1]
    rw [hext.block c (Array.getElem?_eq_some_iff.1 n2).1 (fun e => n1 (e ▸ hown))]
    exact n2
  refine ⟨[.int .i64 x], rfl, [.int .i64 x], .cur (.slice base xs.length cap) 0, [], fun _ => .pointer (some ⟨b, 0, none⟩), ⟨x, rfl, x1, x2, rfl⟩, rfl, fun i y u' hy hu' => ?_, ?_, rfl, rfl, ⟨rfl, rfl, rfl⟩⟩
  · cases i with
    | succ i => simp at hy
    | zero => simp at hy hu'; subst hy hu'; rfl
  · refine ⟨fun id o ho => ?_, fun i j o o' c hi hj _ _ => ?_, fun c hc => hw.own c hc, hext.os.trans hw.os0, hext.tape.trans hw.tape, hext.output.trans hw.output, Nat.le_trans hw.grow hext.size, Nat.le_trans hw.drawn hext.drawn, fun c hc hM => ?_, hw.gl⟩
    · cases id with
      | succ id => simp at ho
      | zero =>
        simp at ho; subst ho
        exact ⟨b, t, i', h', rfl, g1, g2, ⟨xs, hs.mono hle, g3⟩, g4, g5⟩
    · cases i with
      | succ i => simp at hi
      | zero => cases j with
        | zero => rfl
        | succ j => simp at hj
    · rw [hext.block c (Nat.lt_of_lt_of_le hc hw.grow) (fun e => hM (by rw [e]; rfl))]
      exact hw.kept c hc hM
end Go.Proofs.YtbbnfljaojfmaaaDoor
namespace Go.Proofs.YtbbnfljaojfmaaaDoor
open Go Go.Aw
theorem c_l1Below (s : Value) (n : Int) (hn0 : -1000 ≤ n) (hn : n ≤ 256) : FunO B 45 [.own 0 0, .int .i64 n] (.cur s 0) (fun rs o => ∃ x : Int, rs = [.int .i64 x] ∧ 0 ≤ x ∧ (0 < n → x < n) ∧ o = [.cur s 0]) := by
  refine FunO.walk B_ok (fn := Tryd.f45) (fun vs w => Tryd.call45 vs w) Tryd.func45 rfl (by rw [Tryd.ntmps45]; simp) (fun C hC hP hT hΓ hbt hfn hpin hfin => ?_); have hX := BX; rw [← hΓ, ← hbt.1, ← hbt.2] at hX; rw [Tryd.ntmps45]; simp only [AW7, simprocAttr, hX]
  refine Run.R ?_
  refine Run.R ?_
  refine Run.nq ?_; refine Run.cW ?_ ?_
  · intro h
    have h : n ≤ 0 := by simpa using h
    refine Run.R ?_
    refine Run.rW [4] (hfin _ _ _ rfl rfl ⟨rfl, rfl⟩ ?_)
    exact ⟨0, rfl, by omega, by omega, rfl⟩
  intro h
  have h : 0 < n := by
    have : ¬ n ≤ 0 := by simpa using h
    omega
  refine Run.R ?_
  refine Run.nq ?_; refine Run.cW ?_ ?_
  rotate_left
  · intro h2
    have h2 : ¬ n ≤ 256 := by simpa using h2
    exact absurd hn h2
  intro _
  refine Run.nq ?_; refine Run.regionW hC (fun K hK => ?_); refine wW ?_
  refine FunO.callCur hP hT (c_l1Byte s) 0 0 (by first | rfl | (simp only [AW7, simprocAttr]; done) | (simp only [AW7, simprocAttr]; rfl)) (by simp only [AW7, simprocAttr]) ?_
  rintro rs o' obs' ⟨x, rfl, x0, x1, ho⟩
  injection ho with ho1 ho2; subst ho1 ho2
  have hm : x.tmod n = x % n := Int.tmod_eq_emod_of_nonneg x0
  have hm0 := Int.emod_nonneg x (by omega : n ≠ 0)
  have hm1 := Int.emod_lt_of_pos x h
  refine wWW ?_
  refine wE ?_; clear hK K
  refine Run.rW [4] (hfin _ _ _ rfl rfl ⟨rfl, rfl⟩ ?_)
  exact ⟨_, rfl, by omega, by omega, rfl⟩
theorem c_l1Once (s : Value) (n : Int) (hn0 : -1000 ≤ n) (hn : n ≤ 256) : FunO B 46 [.own 0 0, .int .i64 n] (.cur s 0) (fun rs o => ∃ x : Bool, rs = [.bool x] ∧ o = [.cur s 0]) := by
  refine FunO.walk B_ok (fn := Tryd.f46) (fun vs w => Tryd.call46 vs w) Tryd.func46 rfl (by rw [Tryd.ntmps46]; simp) (fun C hC hP hT hΓ hbt hfn hpin hfin => ?_); have hX := BX; rw [← hΓ, ← hbt.1, ← hbt.2] at hX; rw [Tryd.ntmps46]; simp only [AW7, simprocAttr, hX]
  refine Run.R ?_
  refine Run.nq ?_; refine Run.regionW hC (fun K hK => ?_); refine wW ?_
  refine FunO.callCur hP hT (c_l1Below s n hn0 hn) 0 0 (by first | rfl | (simp only [AW7, simprocAttr]; done) | (simp only [AW7, simprocAttr]; rfl)) (by simp only [AW7, simprocAttr]) ?_
  rintro rs o' obs' ⟨x, rfl, x0, x1, ho⟩
  injection ho with ho1 ho2; subst ho1 ho2
  refine wWW ?_
  refine wE ?_; clear hK K
  refine Run.rW [4] (hfin _ _ _ rfl rfl ⟨rfl, rfl⟩ ?_)
  exact ⟨_, rfl, rfl⟩
theorem c_l1PickInt (s : Value) (l : List Int) (h0 : 0 < l.length) (hl : l.length ≤ 256) : FunO B 37 [.own 0 0, .sl false .int l] (.cur s 0) (fun rs o => ∃ x : Int, rs = [.int .i64 x] ∧ x ∈ l ∧ o = [.cur s 0]) := by
  refine FunO.walk B_ok (fn := Tryd.f37) (fun vs w => Tryd.call37 vs w) Tryd.func37 rfl (by rw [Tryd.ntmps37]; simp) (fun C hC hP hT hΓ hbt hfn hpin hfin => ?_); have hX := BX; rw [← hΓ, ← hbt.1, ← hbt.2] at hX; rw [Tryd.ntmps37]; simp only [AW7, simprocAttr, hX]
  refine Run.R ?_
  refine Run.nq ?_; refine Run.regionW hC (fun K hK => ?_); refine wW ?_
  refine FunO.callCur hP hT (c_l1Below s l.length (by omega) (by omega)) 0 0 (by first | rfl | (simp only [AW7, simprocAttr]; done) | (simp only [AW7, simprocAttr]; rfl)) (by simp only [AW7, simprocAttr]) ?_
  rintro rs o' obs' ⟨x, rfl, x0, x1, ho⟩
  injection ho with ho1 ho2; subst ho1 ho2
  have x1 := x1 (by omega)
  refine wWW ?_
  refine wE ?_; clear hK K
  refine Run.rW [4] (hfin _ _ _ rfl rfl ⟨rfl, rfl⟩ ?_)
  refine ⟨_, rfl, ?_, rfl⟩
  rw [List.getD_eq_getElem?_getD, List.getElem?_eq_getElem (by omega)]
  simp
end Go.Proofs.YtbbnfljaojfmaaaDoor
namespace Go.Proofs.YtbbnfljaojfmaaaDoor
open Go Go.Aw
def SmP (p : List Int) : Prop := p.length ≤ 6 ∧ ∀ x ∈ p, -4 ≤ x ∧ x ≤ 4
theorem SmP.wf {p : List Int} (h : SmP p) : ∀ n ∈ p, (Lit.int .i64 n).wf = true := by
  intro n hn
  have := h.2 n hn
  have e1 : IntKind.i64.min = -9223372036854775808 := by decide
  have e2 : IntKind.i64.max = 9223372036854775807 := by decide
  simp only [Lit.wf, Bool.and_eq_true, decide_eq_true_eq, e1, e2]
  omega
theorem SmP.trim {p : List Int} (h : SmP p) : SmP (trim p) :=
  ⟨by have := trim_le p; have := h.1; omega, fun x hx => h.2 x (List.mem_of_mem_take hx)⟩
theorem c_l19Poly (s : Value) : FunO B 39 [.own 0 0] (.cur s 0) (fun rs o => ∃ p g, (p.length ≤ 5 ∧ SmP p) ∧ rs = [.own 1 g] ∧ o = [.cur s 0, .arr .int p g true]) := by
  refine FunO.walk B_ok (fn := Tryd.f39) (fun vs w => Tryd.call39 vs w) Tryd.func39 rfl (by rw [Tryd.ntmps39]; simp) (fun C hC hP hT hΓ hbt hfn hpin hfin => ?_); have hX := BX; rw [← hΓ, ← hbt.1, ← hbt.2] at hX; rw [Tryd.ntmps39]; simp only [AW7, simprocAttr, hX]
  refine Run.R ?_
  refine Run.R ?_
  refine Run.nq ?_; refine Run.regionW hC (fun K hK => ?_); refine wW ?_
  refine FunO.callCur hP hT (c_l1Below s 6 (by decide) (by decide)) 0 0 (by first | rfl | (simp only [AW7, simprocAttr]; done) | (simp only [AW7, simprocAttr]; rfl)) (by simp only [AW7, simprocAttr]) ?_
  rintro rs o' obs' ⟨x, rfl, x0, x1, ho⟩
  injection ho with ho1 ho2; subst ho1 ho2
  have x1 := x1 (by decide)
  refine wW ?_
  refine wE ?_; clear hK K
  obtain ⟨x, rfl⟩ : ∃ k : Nat, x = k := ⟨x.toNat, by omega⟩
  refine Run.reKP hpin [0, 3, 4] [0, 1] rfl (by simp [oAt, gen0]) (by decide) (by simp) ?_; simp only [AR, AW7, simprocAttr]
  refine Run.loopI (X := List Int × Nat) (fun y => ⟨23, [(0, true, .v (.own 0 0)), (3, true, .v (.own 1 0)), (4, true, .v (.int .i64 (y.2)))], [.cur s 0, .arr .int (y.1) 0 true]⟩) (fun y => y.1.length + y.2 ≤ 5 ∧ (∀ k ∈ y.1, -4 ≤ k ∧ k ≤ 4)) (fun y => y.2) (([], x)) (⟨by simp; omega, by simp⟩) ?_ ?_
  · exact Le.sub (by first | rfl | simp) (by simp only [AW7, simprocAttr, hX]; try simp <;> try (first | rfl | exact ⟨rfl, rfl⟩ | exact ⟨rfl, rfl, rfl⟩))
  rintro ⟨p, n⟩ ⟨hpl, hp⟩ ih
  try simp only []
  simp only [] at hpl hp
  refine Run.R ?_
  refine Run.nq ?_; refine Run.cW ?_ ?_
  rotate_left
  · intro _
    refine Run.exit rfl ?_; refine Run.nq ?_
    refine Run.nq ?_; refine Run.regionW hC (fun K hK => ?_); refine wW ?_
    refine FunO.callCur hP hT (c_l1Once s 4 (by decide) (by decide)) 0 0 (by first | rfl | (simp only [AW7, simprocAttr]; done) | (simp only [AW7, simprocAttr]; rfl)) (by simp only [AW7, simprocAttr]) ?_
    rintro rs o' obs' ⟨z, rfl, ho⟩
    injection ho with ho1 ho2; subst ho1 ho2
    refine wW ?_
    refine wE ?_; clear hK K
    refine Run.nq ?_; refine Run.cW ?_ ?_
    · intro _
      refine Run.R ?_
      refine Run.reKP hpin [0, 2] [0, 1] rfl (by simp [oAt, gen0]) (by decide) (by simp) ?_; simp only [AR, AW7, simprocAttr]
      refine Run.rW [2] (hfin _ _ _ rfl rfl ⟨rfl, rfl⟩ ?_)
      exact ⟨p, 0, ⟨by omega, by omega, hp⟩, rfl, rfl⟩
    intro _
    have hsp : SmP p := ⟨by omega, hp⟩
    have htl := trim_le p
    refine Run.nq ?_; refine Run.regionW hC (fun K hK => ?_); refine wW ?_
    refine FunA.cW hP hT (c_spec_TrimPoly p (by omega)) ?_
    rintro rs o ⟨rfl, rfl⟩
    refine wW ?_
    refine wE ?_; clear hK K
    refine Run.reKP hpin [0, 2] [0, 2] rfl (by simp [oAt, gen0]) (by decide) (by simp) ?_; simp only [AR, AW7, simprocAttr]
    refine Run.rW [2] (hfin _ _ _ rfl rfl ⟨rfl, rfl⟩ ?_)
    exact ⟨trim p, _, ⟨by omega, hsp.trim⟩, rfl, rfl⟩
  intro h
  have h : 0 < n := by rw [decide_eq_true_eq] at h; omega
  refine Run.nq ?_; refine Run.regionW hC (fun K hK => ?_); refine wW ?_
  refine FunO.callCur hP hT (c_l1Below s 9 (by decide) (by decide)) 0 0 (by first | rfl | (simp only [AW7, simprocAttr]; done) | (simp only [AW7, simprocAttr]; rfl)) (by simp only [AW7, simprocAttr]) ?_
  rintro rs o' obs' ⟨v, rfl, v0, v1, ho⟩
  injection ho with ho1 ho2; subst ho1 ho2
  have v1 := v1 (by decide)
  refine wWW ?_
  refine wE ?_; clear hK K
  have e : (n : Int) - 1 = ((n - 1 : Nat) : Int) := by omega
  have hp2 : ∀ k ∈ p ++ [v - 4], -4 ≤ k ∧ k ≤ 4 := by
    intro k hk
    rw [List.mem_append, List.mem_singleton] at hk
    rcases hk with hk | rfl
    · exact hp k hk
    · omega
  refine Run.reKP hpin [0, 3, 4] [0, 1] rfl (by simp [oAt, gen0]) (by decide) (by simp) ?_; simp only [AR, AW7, simprocAttr]
  refine Run.RW ?_
  rw [e]
  refine Run.le ?_ (ih ((p ++ [v - 4], n - 1)) (⟨by simp; omega, hp2⟩) (by (try simp only [List.length_append, List.length_cons, List.length_nil]); omega))
  exact Le.sub (by rfl) (by simp only [AW7, simprocAttr]; try simp)
theorem c_l19Two (code : List Int) (hl : code.length ≤ 1048576) : FunA B 36 [.sl false .byte code] (fun rs o => ∃ a b, (a.length ≤ 5 ∧ SmP a) ∧ (b.length ≤ 5 ∧ SmP b) ∧ rs = [.sl true .int a, .sl true .int b] ∧ o = []) := by
  refine FunA.walk B_ok (fn := Tryd.f36) (fun vs w => Tryd.call36 vs w) Tryd.func36 rfl (by rw [Tryd.ntmps36]; simp) (fun C hC hP hT hΓ hbt hfn hpin hfin => ?_); have hX := BX; rw [← hΓ, ← hbt.1, ← hbt.2] at hX; rw [Tryd.ntmps36]; simp only [AW7, simprocAttr, hX]
  refine Run.R ?_
  refine Run.nq ?_; refine Run.regionW hC (fun K hK => ?_); refine wW ?_
  refine ACall.new hP (by omega) fun s => ?_
  refine wW ?_
  refine wE ?_; clear hK K
  refine Run.nq ?_; refine Run.regionW hC (fun K hK => ?_); refine wW ?_
  refine FunO.callCur hP hT (c_l19Poly s) 0 0 (by first | rfl | (simp only [AW7, simprocAttr]; done) | (simp only [AW7, simprocAttr]; rfl)) (by simp only [AW7, simprocAttr]) ?_
  rintro rs o' obs' ⟨a, ga, ha, rfl, ho⟩
  injection ho with ho1 ho2; subst ho1 ho2
  refine wW ?_
  refine wE ?_; clear hK K
  refine Run.nq ?_; refine Run.regionW hC (fun K hK => ?_); refine wW ?_
  refine FunO.callCur hP hT (c_l19Poly s) 0 0 (by first | rfl | (simp only [AW7, simprocAttr]; done) | (simp only [AW7, simprocAttr]; rfl)) (by simp only [AW7, simprocAttr]) ?_
  rintro rs o' obs' ⟨b, gb, hb, rfl, ho⟩
  injection ho with ho1 ho2; subst ho1 ho2
  refine wW ?_
  refine wE ?_; clear hK K
  refine Run.reK hpin [2, 3] [1, 2] (by decide) (by simp) ?_; simp only [AR, AW7, simprocAttr]
  refine Run.letgoK 0 [2, 3] rfl ?_; simp only [AL, frV_cons, frV_nil, AW7, simprocAttr]
  refine Run.letgoK 1 [2, 3] rfl ?_; simp only [AL, frV_cons, frV_nil, AW7, simprocAttr]
  refine Run.reK hpin [2, 3] [] (by decide) (by simp) ?_; simp only [AR, AW7, simprocAttr]
  refine Run.rW [2, 3] (hfin _ _ rfl rfl ?_)
  exact ⟨a, b, ha, hb, rfl, rfl⟩
theorem c_DrawMulPoly (code : List Int) (hl : code.length ≤ 1048576) : FunA B 10 [.sl false .byte code] (fun rs o => ∃ a b, (a.length ≤ 5 ∧ SmP a) ∧ (b.length ≤ 5 ∧ SmP b) ∧ rs = [.sl true .int a, .sl true .int b] ∧ o = []) := by
  refine FunA.walk B_ok (fn := Tryd.f10) (fun vs w => Tryd.call10 vs w) Tryd.func10 rfl (by rw [Tryd.ntmps10]; simp) (fun C hC hP hT hΓ hbt hfn hpin hfin => ?_); have hX := BX; rw [← hΓ, ← hbt.1, ← hbt.2] at hX; rw [Tryd.ntmps10]; simp only [AW7, simprocAttr, hX]
  refine Run.R ?_
  refine Run.nq ?_; refine Run.regionW hC (fun K hK => ?_); refine wW ?_
  refine FunA.cW hP hT (c_l19Two code hl) ?_
  rintro rs o ⟨a, b, ha, hb, rfl, rfl⟩
  refine wW ?_
  refine wE ?_; clear hK K
  refine Run.R ?_
  refine Run.rW [2, 3] (hfin _ _ rfl rfl ?_)
  exact ⟨a, b, ha, hb, rfl, rfl⟩
theorem c_DrawShiftPoly (code : List Int) (hl : code.length ≤ 1048576) : FunA B 24 [.sl false .byte code] (fun rs o => ∃ a, ∃ k : Int, (a.length ≤ 5 ∧ SmP a) ∧ (-1 ≤ k ∧ k ≤ 61) ∧ rs = [.sl true .int a, .int .i64 k] ∧ o = []) := by
  refine FunA.walk B_ok (fn := Tryd.f24) (fun vs w => Tryd.call24 vs w) Tryd.func24 rfl (by rw [Tryd.ntmps24]; simp) (fun C hC hP hT hΓ hbt hfn hpin hfin => ?_); have hX := BX; rw [← hΓ, ← hbt.1, ← hbt.2] at hX; rw [Tryd.ntmps24]; simp only [AW7, simprocAttr, hX]
  refine Run.R ?_
  refine Run.nq ?_; refine Run.regionW hC (fun K hK => ?_); refine wW ?_
  refine FunA.cW hP hT (c_l19Two code hl) ?_
  rintro rs o ⟨a, b, ha, hb, rfl, rfl⟩
  refine wW ?_
  refine wE ?_; clear hK K
  refine Run.reK hpin [0, 4, 5] [] (by decide) (by simp) ?_; simp only [AR, AW7, simprocAttr]
  refine Run.nq ?_; refine Run.regionW hC (fun K hK => ?_); refine wW ?_
  refine ACall.new hP (by omega) fun s => ?_
  refine wW ?_
  refine FunO.callCur hP hT (c_l1PickInt s [-1, 0, 1, 3, 60, 61] (by decide) (by decide)) 0 0 (by first | rfl | (simp only [AW7, simprocAttr]; done) | (simp only [AW7, simprocAttr]; rfl)) (by simp only [AW7, simprocAttr]; first | done | decide | exact ⟨by decide, rfl⟩) ?_
  rintro rs o' obs' ⟨v, rfl, hv, ho⟩
  injection ho with ho1 ho2; subst ho1 ho2
  refine wW ?_
  refine wE ?_; clear hK K
  refine Run.reK hpin [2, 3] [] (by decide) (by simp) ?_; simp only [AR, AW7, simprocAttr]
  refine Run.rW [2, 3] (hfin _ _ rfl rfl ?_)
  refine ⟨a, v, ha, ?_, rfl, rfl⟩
  simp at hv
  omega
theorem c_DrawReversePoly (code : List Int) (hl : code.length ≤ 1048576) : FunA B 20 [.sl false .byte code] (fun rs o => ∃ a, ∃ k : Int, (a.length ≤ 5 ∧ SmP a) ∧ (-1 ≤ k ∧ k ≤ 61) ∧ rs = [.sl true .int a, .int .i64 k] ∧ o = []) := by
  refine FunA.walk B_ok (fn := Tryd.f20) (fun vs w => Tryd.call20 vs w) Tryd.func20 rfl (by rw [Tryd.ntmps20]; simp) (fun C hC hP hT hΓ hbt hfn hpin hfin => ?_); have hX := BX; rw [← hΓ, ← hbt.1, ← hbt.2] at hX; rw [Tryd.ntmps20]; simp only [AW7, simprocAttr, hX]
  refine Run.R ?_
  refine Run.nq ?_; refine Run.regionW hC (fun K hK => ?_); refine wW ?_
  refine FunA.cW hP hT (c_l19Two code hl) ?_
  rintro rs o ⟨a, b, ha, hb, rfl, rfl⟩
  refine wW ?_
  refine wE ?_; clear hK K
  refine Run.reK hpin [0, 4, 5] [] (by decide) (by simp) ?_; simp only [AR, AW7, simprocAttr]
  refine Run.nq ?_; refine Run.regionW hC (fun K hK => ?_); refine wW ?_
  refine ACall.new hP (by omega) fun s => ?_
  refine wW ?_
  refine FunO.callCur hP hT (c_l1PickInt s [-1, 0, 2, 4, 5, 60, 61] (by decide) (by decide)) 0 0 (by first | rfl | (simp only [AW7, simprocAttr]; done) | (simp only [AW7, simprocAttr]; rfl)) (by simp only [AW7, simprocAttr]; first | done | decide | exact ⟨by decide, rfl⟩) ?_
  rintro rs o' obs' ⟨v, rfl, hv, ho⟩
  injection ho with ho1 ho2; subst ho1 ho2
  refine wW ?_
  refine wE ?_; clear hK K
  refine Run.reK hpin [2, 3] [] (by decide) (by simp) ?_; simp only [AR, AW7, simprocAttr]
  refine Run.rW [2, 3] (hfin _ _ rfl rfl ?_)
  refine ⟨a, v, ha, ?_, rfl, rfl⟩
  simp at hv
  omega
theorem c_DrawEqualPolys (code : List Int) (hl : code.length ≤ 1048576) : FunA B 25 [.sl false .byte code] (fun rs o => ∃ a b, SmP a ∧ SmP b ∧ rs = [.sl true .int a, .sl true .int b] ∧ o = []) := by
  refine FunA.walk B_ok (fn := Tryd.f25) (fun vs w => Tryd.call25 vs w) Tryd.func25 rfl (by rw [Tryd.ntmps25]; simp) (fun C hC hP hT hΓ hbt hfn hpin hfin => ?_); have hX := BX; rw [← hΓ, ← hbt.1, ← hbt.2] at hX; rw [Tryd.ntmps25]; simp only [AW7, simprocAttr, hX]
  refine Run.R ?_
  refine Run.nq ?_; refine Run.regionW hC (fun K hK => ?_); refine wW ?_
  refine FunA.cW hP hT (c_l19Two code hl) ?_
  rintro rs o ⟨a, b, ha, hb, rfl, rfl⟩
  refine wW ?_
  refine wE ?_; clear hK K
  have hal := ha.1
  refine Run.reK hpin [0, 4, 5] [] (by decide) (by simp) ?_; simp only [AR, AW7, simprocAttr]
  refine Run.R ?_
  refine Run.nq ?_; refine Run.cW ?_ ?_
  · intro _
    refine Run.R ?_
    refine Run.reK hpin [2, 3] [0] (by decide) (by simp) ?_; simp only [AR, AW7, simprocAttr]
    refine Run.letgoK 0 [2, 3] rfl ?_; simp only [AL, frV_cons, frV_nil, AW7, simprocAttr]
    refine Run.reK hpin [2, 3] [] (by decide) (by simp) ?_; simp only [AR, AW7, simprocAttr]
    refine Run.rW [2, 3] (hfin _ _ rfl rfl ?_)
    refine ⟨a, a ++ [0], ha.2, ⟨by simp; omega, fun x hx => ?_⟩, rfl, rfl⟩
    rw [List.mem_append, List.mem_singleton] at hx
    rcases hx with hx | rfl
    · exact ha.2.2 x hx
    · omega
  intro _
  refine Run.R ?_
  refine Run.rW [2, 3] (hfin _ _ rfl rfl ?_)
  exact ⟨a, b, ha.2, hb.2, rfl, rfl⟩
theorem c_DrawIsPoly (code : List Int) (hl : code.length ≤ 1048576) : FunA B 26 [.sl false .byte code] (fun rs o => ∃ a, (a.length ≤ 5 ∧ SmP a) ∧ rs = [.sl true .int a] ∧ o = []) := by
  refine FunA.walk B_ok (fn := Tryd.f26) (fun vs w => Tryd.call26 vs w) Tryd.func26 rfl (by rw [Tryd.ntmps26]; simp) (fun C hC hP hT hΓ hbt hfn hpin hfin => ?_); have hX := BX; rw [← hΓ, ← hbt.1, ← hbt.2] at hX; rw [Tryd.ntmps26]; simp only [AW7, simprocAttr, hX]
  refine Run.R ?_
  refine Run.nq ?_; refine Run.regionW hC (fun K hK => ?_); refine wW ?_
  refine ACall.new hP (by omega) fun s => ?_
  refine wW ?_
  refine FunO.callCur hP hT (c_l19Poly s) 0 0 (by first | rfl | (simp only [AW7, simprocAttr]; done) | (simp only [AW7, simprocAttr]; rfl)) (by simp only [AW7, simprocAttr]) ?_
  rintro rs o' obs' ⟨a, ga, ha, rfl, ho⟩
  injection ho with ho1 ho2; subst ho1 ho2
  refine wW ?_
  refine wE ?_; clear hK K
  refine Run.reK hpin [2] [1] (by decide) (by simp) ?_; simp only [AR, AW7, simprocAttr]
  refine Run.letgoK 0 [2] rfl ?_; simp only [AL, frV_cons, frV_nil, AW7, simprocAttr]
  refine Run.reK hpin [2] [] (by decide) (by simp) ?_; simp only [AR, AW7, simprocAttr]
  refine Run.rW [2] (hfin _ _ rfl rfl ?_)
  exact ⟨a, ha, rfl, rfl⟩
end Go.Proofs.YtbbnfljaojfmaaaDoor
namespace Go.Proofs.YtbbnfljaojfmaaaDoor
open Go Go.Aw
theorem c_big (code : List Int) : FunA B 9 [.sl false .byte code] (fun rs o => rs = [.bool (decide (1048576 < code.length))] ∧ o = []) := by
  refine FunA.walk B_ok (fn := Tryd.f9) (fun vs w => Tryd.call9 vs w) Tryd.func9 rfl (by rw [Tryd.ntmps9]; simp) (fun C hC hP hT hΓ hbt hfn hpin hfin => ?_); have hX := BX; rw [← hΓ, ← hbt.1, ← hbt.2] at hX; rw [Tryd.ntmps9]; simp only [AW7, simprocAttr, hX]
  refine Run.R ?_
  refine Run.R ?_
  refine Run.rW [2] (hfin _ _ rfl rfl ?_)
  have : decide ((1048576 : Int) < (code.length : Int)) = decide (1048576 < code.length) := by
    by_cases h : 1048576 < code.length
    · rw [decide_eq_true h, decide_eq_true]; omega
    · rw [decide_eq_false h, decide_eq_false]; omega
  first | exact ⟨by rw [this], rfl⟩ | simpa using this
theorem c_sameInts (p q : List Int) (hp : p.length ≤ 4503599627370496) : FunA B 14 [.sl false .int p, .sl false .int q] (fun rs o => rs = [.bool (p == q)] ∧ o = []) := by
  refine FunA.walk B_ok (fn := Tryd.f14) (fun vs w => Tryd.call14 vs w) Tryd.func14 rfl (by rw [Tryd.ntmps14]; simp) (fun C hC hP hT hΓ hbt hfn hpin hfin => ?_); have hX := BX; rw [← hΓ, ← hbt.1, ← hbt.2] at hX; rw [Tryd.ntmps14]; simp only [AW7, simprocAttr, hX]
  refine Run.R ?_
  refine Run.R ?_
  refine Run.nq ?_; refine Run.cW ?_ ?_
  · intro hc
    refine Run.R ?_
    refine Run.rW [4] (hfin _ _ rfl rfl ?_)
    have : p ≠ q := fun h => by simp [h] at hc
    simpa using this
  intro hc
  have hl : p.length = q.length := by simp at hc; omega
  refine Run.R ?_
  refine Run.loopI (X := Nat) (fun i => ⟨26, [(0, true, .v (.sl false .int (p))), (1, true, .v (.sl false .int (q))), (5, true, .v (.int .i64 (i))), (4, true, .v (.bool (false)))], []⟩) (fun i => i ≤ p.length ∧ p.take i = q.take i) (fun i => p.length - i) (0) (⟨Nat.zero_le _, rfl⟩) ?_ ?_
  · exact Le.sub (by first | rfl | simp) (by simp only [AW7, simprocAttr, hX]; try simp <;> try (first | rfl | exact ⟨rfl, rfl⟩ | exact ⟨rfl, rfl, rfl⟩))
  rintro i ⟨hi, ht⟩ ih
  try simp only []
  refine Run.R ?_
  refine Run.nq ?_; refine Run.cW ?_ ?_
  · intro hc2
    have hc2 : i < p.length := by simpa using hc2
    refine Run.nq ?_; refine Run.regionD hC true [0,1,2,3,4,5,6,7,8] (by kernel_rfl) (fun K hK => ?_); simp only [AW7, simprocAttr, hX]; (repeat (with_reducible refine And.intro ?_ ?_); exact vc0); refine wE ?_; clear hK K
    refine Run.nq ?_; refine Run.cW ?_ ?_
    · intro hne
      refine Run.R ?_
      refine Run.rW [4] (hfin _ _ rfl rfl ?_)
      have : p ≠ q := fun h => by simp [h] at hne
      simpa using this
    · intro he
      have he : p.getD i 0 = q.getD i 0 := by simpa using he
      have ht2 : p.take (i + 1) = q.take (i + 1) := by rw [← take_snoc 0 p i hc2, ← take_snoc 0 q i (by omega), ht, he]
      refine Run.RW ?_
      refine Run.le ?_ (ih (i + 1) (⟨hc2, ht2⟩) (by (try simp only [List.length_append, List.length_cons, List.length_nil]); omega))
      exact Le.sub (by rfl) (by simp only [AW7, simprocAttr]; try simp)
  · intro hc2
    have hc2 : i = p.length := by simp at hc2; omega
    refine Run.exit rfl ?_; refine Run.nq ?_
    refine Run.R ?_
    refine Run.rW [4] (hfin _ _ rfl rfl ?_)
    subst hc2
    rw [List.take_length, hl, List.take_length] at ht
    simpa using ht
end Go.Proofs.YtbbnfljaojfmaaaDoor
namespace Go.Proofs.YtbbnfljaojfmaaaDoor
open Go Go.Aw
def fpSg (s : List UInt8) (x : Int) : List UInt8 := if x < 0 then [45] else if s = [] then [] else [43]
def fpNm (k : Nat) (x : Int) : List UInt8 := if k = 0 ∨ x.natAbs ≠ 1 then Lib.decDigits x.natAbs else []
def fpQ (k : Nat) : List UInt8 := if k = 0 then [] else if k = 1 then [113] else 113 :: 94 :: Lib.decDigits k
def fpT (s : List UInt8) (k : Nat) (x : Int) : List UInt8 := if x = 0 then s else s ++ fpSg s x ++ fpNm k x ++ fpQ k
def fpL : List Int → Nat → List UInt8
  | _, 0 => []
  | p, n + 1 => fpT (fpL p n) n (p.getD n 0)
def fmtP (p : List Int) : List UInt8 := if fpL p p.length = [] then [48] else fpL p p.length
theorem dg_pos (u : Nat) : Lib.decDigits u ≠ [] := by
  rw [Lib.decDigits]
  split <;> simp
theorem dg_one (u : Nat) : Lib.decDigits u = [49] ↔ u = 1 := by
  constructor
  · intro h
    rw [Lib.decDigits] at h
    split at h
    · rename_i hu
      have h := List.cons.inj h
      have := congrArg UInt8.toNat h.1
      simp at this
      omega
    · rename_i hu
      have := dg_pos (u / 10)
      have hl := congrArg List.length h
      simp at hl
      exact absurd hl this
  · rintro rfl
    rw [Lib.decDigits]
    rfl
theorem dg_ne (u : Nat) : ∀ b ∈ Lib.decDigits u, b ≠ 45 := by
  induction u using Nat.strongRecOn with
  | ind u ih =>
    intro b hb
    rw [Lib.decDigits] at hb
    split at hb
    · simp at hb
      rintro rfl
      have := congrArg UInt8.toNat hb
      simp at this
      omega
    · rw [List.mem_append] at hb
      rcases hb with hb | hb
      · exact ih (u / 10) (by omega) b hb
      · simp at hb
        rintro rfl
        have := congrArg UInt8.toNat hb
        simp at this
        omega
theorem dg_len {u : Nat} (h : u ≤ 9223372036854775808) : (Lib.decDigits u).length ≤ 20 := by
  have := Lib.itoa_length_le (-(u : Int)) (by omega) (by omega)
  unfold Lib.itoa at this
  split at this
  · simp at this; omega
  · have : u = 0 := by omega
    subst this
    rw [Lib.decDigits]
    decide
theorem itoa_pos {x : Int} (h : 0 ≤ x) : Lib.itoa x = Lib.decDigits x.natAbs := by
  unfold Lib.itoa
  rw [if_neg (by omega)]
  congr 1
  omega
theorem itoa_neg {x : Int} (h : x < 0) : Lib.itoa x = 45 :: Lib.decDigits x.natAbs := by
  unfold Lib.itoa
  rw [if_pos h]
def pwS (a : Int) (k : Nat) : List UInt8 := if k = 0 then Lib.itoa a else if a = 1 then fpQ k else Lib.itoa a ++ fpQ k
theorem pw_pos {a : Int} (h : 0 < a) (k : Nat) : pwS a k = fpNm k a ++ fpQ k := by
  unfold pwS fpNm
  rw [itoa_pos (by omega)]
  by_cases hk : k = 0
  · subst hk; simp [fpQ]
  · rw [if_neg hk]
    by_cases ha : a = 1
    · subst ha; simp [hk]
    · rw [if_neg ha, if_pos (by right; omega)]
theorem fp_pos {s : List UInt8} {x : Int} (h : 0 < x) (k : Nat) : fpT s k x = if s = [] then pwS x k else s ++ ([43] ++ pwS x k) := by
  unfold fpT fpSg
  rw [if_neg (by omega), if_neg (by omega), pw_pos h]
  by_cases hs : s = []
  · simp [hs]
  · simp [hs]
theorem fp_neg {s : List UInt8} {x : Int} (h : x < 0) (k : Nat) : fpT s k x = s ++ ([45] ++ pwS (-x) k) := by
  unfold fpT fpSg
  rw [if_neg (by omega), if_pos h, pw_pos (by omega)]
  have : fpNm k (-x) = fpNm k x := by unfold fpNm; rw [Int.natAbs_neg]
  rw [this]
  simp
theorem fp_min {s : List UInt8} {x : Int} (h : x = -9223372036854775808) (k : Nat) : fpT s k x = s ++ pwS x k := by
  rw [fp_neg (by omega), pw_pos (by omega)]
  unfold pwS
  rw [itoa_neg (by omega)]
  have e : fpNm k (-x) = Lib.decDigits x.natAbs := by unfold fpNm; rw [Int.natAbs_neg, if_pos (by right; omega)]
  rw [e]
  by_cases hk : k = 0
  · subst hk; simp [fpQ]
  · rw [if_neg hk, if_neg (by omega)]; simp
theorem fp_zero (s : List UInt8) (k : Nat) : fpT s k 0 = s := by simp [fpT]
theorem fpQ_len {k : Nat} (h : k ≤ 1048576) : (fpQ k).length ≤ 22 := by
  unfold fpQ
  have := dg_len (u := k) (by omega)
  split
  · simp
  · split
    · simp
    · simp; omega
theorem fpT_len (s : List UInt8) {k : Nat} (hk : k ≤ 1048576) {x : Int} (h0 : -9223372036854775808 ≤ x) (h1 : x ≤ 9223372036854775807) : (fpT s k x).length ≤ s.length + 50 := by
  unfold fpT
  split
  · omega
  · have h2 := fpQ_len hk
    have h3 := dg_len (u := x.natAbs) (by omega)
    have h4 : (fpSg s x).length ≤ 1 := by unfold fpSg; split <;> (try split) <;> simp
    have h5 : (fpNm k x).length ≤ 20 := by unfold fpNm; split <;> first | omega | simp
    simp only [List.length_append]
    omega
theorem fpL_len {p : List Int} (hp : ∀ i, -9223372036854775808 ≤ p.getD i 0 ∧ p.getD i 0 ≤ 9223372036854775807) : ∀ n, n ≤ 1048576 → (fpL p n).length ≤ 50 * n
  | 0, _ => by simp [fpL]
  | n + 1, h => by
    have ih := fpL_len hp n (by omega)
    have := fpT_len (fpL p n) (k := n) (by omega) (hp n).1 (hp n).2
    simp only [fpL]
    omega
theorem dg_step {u : Nat} {out : List UInt8} {N : Nat} (h : Lib.decDigits u ++ out = Lib.decDigits N) (hu : 10 ≤ u) : Lib.decDigits (u / 10) ++ (UInt8.ofNat (48 + u % 10) :: out) = Lib.decDigits N := by
  rw [Lib.decDigits, dif_neg (by omega)] at h
  rw [← h]; simp
theorem dg_last {u : Nat} {out : List UInt8} {N : Nat} (h : Lib.decDigits u ++ out = Lib.decDigits N) (hu : u < 10) : UInt8.ofNat (48 + u % 10) :: out = Lib.decDigits N := by
  rw [Lib.decDigits, dif_pos hu] at h
  rw [← h, Nat.mod_eq_of_lt hu]; rfl
end Go.Proofs.YtbbnfljaojfmaaaDoor
namespace Go.Proofs.YtbbnfljaojfmaaaDoor
open Go Go.Aw
set_option maxRecDepth 100000
def itoaL_ren : Go.Shelf.Ren := ⟨fun | 171 => 35 | 243 => 44 | 246 => 48 | 283 => 50 | 284 => 51 | 285 => 52 | 286 => 53 | 129 => 55 | 317 => 54 | 318 => 56 | 319 => 57 | 320 => 58 | 337 => 59 | 338 => 60 | n => n, fun | 3 => 3 | 9 => 9 | 2 => 2 | 4 => 4 | 171 => 52 | 0 => 0 | 53 => 53 | 37 => 27 | 5 => 5 | 173 => 56 | 212 => 61 | 51 => 62 | 20 => 20 | 213 => 63 | 46 => 58 | 232 => 67 | 233 => 68 | n => n, fun | 17 => 0 | 18 => 1 | 19 => 2 | n => n⟩
theorem itoaL : LaysM.n171 Tryd.prog itoaL_ren where
  mixed := by kernel_rfl
  f129 := Tryd.func55.trans (congrArg some (by kernel_rfl))
  f171 := Tryd.func35.trans (congrArg some (by kernel_rfl))
  f243 := Tryd.func44.trans (congrArg some (by kernel_rfl))
  f246 := Tryd.func48.trans (congrArg some (by kernel_rfl))
  f283 := Tryd.func50.trans (congrArg some (by kernel_rfl))
  f284 := Tryd.func51.trans (congrArg some (by kernel_rfl))
  f285 := Tryd.func52.trans (congrArg some (by kernel_rfl))
  f286 := Tryd.func53.trans (congrArg some (by kernel_rfl))
  f317 := Tryd.func54.trans (congrArg some (by kernel_rfl))
  f318 := Tryd.func56.trans (congrArg some (by kernel_rfl))
  f319 := Tryd.func57.trans (congrArg some (by kernel_rfl))
  f320 := Tryd.func58.trans (congrArg some (by kernel_rfl))
  f337 := Tryd.func59.trans (congrArg some (by kernel_rfl))
  f338 := Tryd.func60.trans (congrArg some (by kernel_rfl))
  t0 := Tryd.underlying0
  a0 := Tryd.isAgg0
  z0 := Tryd.sizeOf0
  v0 := Tryd.zeroValue0
  t2 := Tryd.underlying2
  a2 := Tryd.isAgg2
  z2 := Tryd.sizeOf2
  v2 := Tryd.zeroValue2
  t3 := Tryd.underlying3
  a3 := Tryd.isAgg3
  z3 := Tryd.sizeOf3
  v3 := Tryd.zeroValue3
  t4 := Tryd.underlying4
  a4 := Tryd.isAgg4
  z4 := Tryd.sizeOf4
  v4 := Tryd.zeroValue4
  t5 := Tryd.underlying5
  a5 := Tryd.isAgg5
  z5 := Tryd.sizeOf5
  v5 := Tryd.zeroValue5
  t9 := Tryd.underlying9
  a9 := Tryd.isAgg9
  z9 := Tryd.sizeOf9
  v9 := Tryd.zeroValue9
  t20 := Tryd.underlying20
  a20 := Tryd.isAgg20
  z20 := Tryd.sizeOf20
  v20 := Tryd.zeroValue20
  t37 := Tryd.underlying27
  a37 := Tryd.isAgg27
  z37 := Tryd.sizeOf27
  v37 := Tryd.zeroValue27
  t46 := Tryd.underlying58
  a46 := Tryd.isAgg58
  z46 := Tryd.sizeOf58
  v46 := Tryd.zeroValue58
  t51 := Tryd.underlying62
  a51 := Tryd.isAgg62
  z51 := Tryd.sizeOf62
  v51 := Tryd.zeroValue62
  t53 := Tryd.underlying53
  a53 := Tryd.isAgg53
  z53 := Tryd.sizeOf53
  v53 := Tryd.zeroValue53
  t171 := Tryd.underlying52
  a171 := Tryd.isAgg52
  z171 := Tryd.sizeOf52
  v171 := Tryd.zeroValue52
  t173 := Tryd.underlying56
  a173 := Tryd.isAgg56
  z173 := Tryd.sizeOf56
  v173 := Tryd.zeroValue56
  t212 := Tryd.underlying61
  a212 := Tryd.isAgg61
  z212 := Tryd.sizeOf61
  v212 := Tryd.zeroValue61
  t213 := Tryd.underlying63
  a213 := Tryd.isAgg63
  z213 := Tryd.sizeOf63
  t232 := Tryd.underlying67
  a232 := Tryd.isAgg67
  z232 := Tryd.sizeOf67
  v232 := Tryd.zeroValue67
  t233 := Tryd.underlying68
  a233 := Tryd.isAgg68
  z233 := Tryd.sizeOf68
  v233 := Tryd.zeroValue68
  g17 := by kernel_rfl
  g18 := by kernel_rfl
  g19 := by kernel_rfl
  i0 := by kernel_rfl
  i2 := by kernel_rfl
  i3 := by kernel_rfl
  i4 := by kernel_rfl
  i5 := by kernel_rfl
  i9 := by kernel_rfl
  i20 := by kernel_rfl
  i37 := by kernel_rfl
  i46 := by kernel_rfl
  i51 := by kernel_rfl
  i53 := by kernel_rfl
  i171 := by kernel_rfl
  i173 := by kernel_rfl
  i212 := by kernel_rfl
  i232 := by kernel_rfl
  i233 := by kernel_rfl
  m17 := by kernel_rfl
  m18 := by kernel_rfl
  m19 := by kernel_rfl
theorem c_Itoa (n : Int) (h0 : -9223372036854775808 ≤ n) (h1 : n ≤ 9223372036854775807) (hg : (B.P.globalNamed tabN).isSome = true) : FunA B 35 [.int .i64 n] (fun rs o => rs = [.str (Lib.itoa n)] ∧ o = []) := by
  refine ⟨fun vs w => Tryd.call35 vs w, fun w L vs hG hl ha => ?_⟩
  match vs, hl with
  | [u], _ =>
  have hu : u = .int .i64 n := ha 0 _ _ rfl rfl
  subst hu
  obtain ⟨g, hg⟩ := Option.isSome_iff_exists.1 hg
  have r0 := wrel_start B w L (fun _ => undef) hG
  refine (Any.strconv_Itoa itoaL n h0 h1 w (hG g hg).2).mono ?_
  rintro e w' ⟨he, k, os, rfl⟩
  have hext : Ext (fun _ => False) w (Go.Sort.grow (w.drewN k) os) :=
    ⟨rfl, rfl, rfl, by show _ ≤ (w.heap ++ os).size; simp, Nat.le_add_right _ _, fun b hb _ => by show (w.heap ++ os)[b]? = _; rw [Array.getElem?_append, if_pos hb]⟩
  refine ⟨[.string ⟨(Lib.itoa n).toArray⟩], he, [.str (Lib.itoa n)], [], _, ⟨rfl, rfl⟩, rfl, fun i y u hy hu => ?_, ((Turn.none r0 hext).step r0).wr, rfl, rfl⟩
  match i, hy, hu with
  | 0, hy, hu =>
    simp at hy hu
    subst hy hu
    rfl
end Go.Proofs.YtbbnfljaojfmaaaDoor
namespace Go.Proofs.YtbbnfljaojfmaaaDoor
open Go Go.Aw
theorem joinK {C : Ctx} {k k' : List Item} {σ σ' : St} (rest : Run C k' σ') (h : Run C k' σ' → Run C k σ) : Run C k σ := h rest
theorem dg48 (d : Nat) (h : d < 10) : bytesOf [IntKind.u8.wrap (48 + (d : Int))] = [UInt8.ofNat (48 + d)] := by
  have e : IntKind.u8.wrap (48 + (d : Int)) = 48 + (d : Int) := by
    simp [IntKind.wrap, IntKind.bits, IntKind.signed]; omega
  rw [e]
  unfold bytesOf
  simp only [List.map_cons, List.map_nil]
  congr 2
theorem tmod_abs (m : Int) : (m.tmod 10).natAbs = m.natAbs % 10 := by
  rw [Int.natAbs_tmod]; rfl
theorem tdiv_abs (m : Int) : (m.tdiv 10).natAbs = m.natAbs / 10 := by
  rw [Int.natAbs_tdiv]; rfl
set_option maxHeartbeats 1000000 in
theorem c_FormatInt (n : Int) (h0 : -9223372036854775808 ≤ n) (h1 : n ≤ 9223372036854775807) : FunA B 43 [.int .i64 n] (fun rs o => rs = [.str (Lib.itoa n)] ∧ o = []) := by
  have hNl := dg_len (u := n.natAbs) (by omega)
  refine FunA.walk B_ok (fn := Tryd.f43) (fun vs w => Tryd.call43 vs w) Tryd.func43 rfl (by rw [Tryd.ntmps43]; simp) (fun C hC hP hT hΓ hbt hfn hpin hfin => ?_); have hX := BX; rw [← hΓ, ← hbt.1, ← hbt.2] at hX; rw [Tryd.ntmps43]; simp only [AW7, simprocAttr, hX]
  refine Run.R ?_
  refine Run.R ?_
  refine Run.nq ?_; refine Run.cW ?_ ?_
  · intro h
    have h : n = 0 := by simpa using h
    refine Run.R ?_
    refine Run.rW [2] (hfin _ _ rfl rfl ?_)
    exact ⟨by rw [h, itoa_pos (by omega), Int.natAbs_zero, Lib.decDigits]; rfl, rfl⟩
  intro h
  have h : n ≠ 0 := by simpa using h
  refine Run.R ?_
  refine Run.R ?_
  refine Run.loopI (X := Int × List UInt8) (fun x => ⟨31, [(0, true, .v (.int .i64 (x.1))), (3, true, .v (.str (x.2))), (4, true, .v (.bool ((decide (n < 0)))))], []⟩) (fun x => -9223372036854775808 ≤ x.1 ∧ x.1 ≤ 9223372036854775807 ∧ (if x.1 = 0 then x.2 = Lib.decDigits n.natAbs else Lib.decDigits x.1.natAbs ++ x.2 = Lib.decDigits n.natAbs)) (fun x => x.1.natAbs) ((n, [])) (⟨h0, h1, by rw [if_neg h]; simp⟩) ?_ ?_
  · exact Le.sub (by first | rfl | simp) (by simp only [AW7, simprocAttr, hX]; try simp <;> try (first | rfl | exact ⟨rfl, rfl⟩ | exact ⟨rfl, rfl, rfl⟩))
  rintro ⟨m, out⟩ ⟨m0, m1, m4⟩ ih
  try simp only []
  simp only [] at m0 m1 m4
  have m3 : out.length ≤ 20 := by
    split at m4
    · rw [m4]; exact hNl
    · rw [← m4] at hNl; simp at hNl; omega
  refine Run.R ?_
  refine Run.nq ?_; refine Run.cW ?_ ?_
  rotate_left
  · intro hm
    have hm : m = 0 := by simpa using hm
    rw [if_pos hm] at m4
    have hml : [(45 : UInt8)].length + out.length ≤ maxLen := by simp [maxLen]; omega
    refine Run.exit rfl ?_; refine Run.nq ?_
    refine Run.R ?_
    refine Run.nq ?_; refine Run.cW ?_ ?_
    · intro hn
      have hn : n < 0 := by simpa using hn
      refine Run.R ?_
      refine Run.rW [2] (hfin _ _ rfl rfl ?_)
      exact ⟨by rw [itoa_neg hn, m4]; rfl, rfl⟩
    intro hn
    have hn : ¬ n < 0 := by simpa using hn
    refine Run.R ?_
    refine Run.rW [2] (hfin _ _ rfl rfl ?_)
    exact ⟨by rw [itoa_pos (by omega), m4], rfl⟩
  intro hm
  have hm : m ≠ 0 := by simpa using hm
  rw [if_neg hm] at m4
  have ta := tmod_abs m
  have td := tdiv_abs m
  have hd := Nat.mod_lt m.natAbs (by decide : 0 < 10)
  have hnx : -9223372036854775808 ≤ m.tdiv 10 ∧ m.tdiv 10 ≤ 9223372036854775807 := by omega
  have hml : (bytesOf [IntKind.u8.wrap (48 + ((m.natAbs % 10 : Nat) : Int))]).length + out.length ≤ maxLen := by simp [bytesOf, maxLen]; omega
  have hst : if m.tdiv 10 = 0 then bytesOf [IntKind.u8.wrap (48 + ((m.natAbs % 10 : Nat) : Int))] ++ out = Lib.decDigits n.natAbs else Lib.decDigits (m.tdiv 10).natAbs ++ (bytesOf [IntKind.u8.wrap (48 + ((m.natAbs % 10 : Nat) : Int))] ++ out) = Lib.decDigits n.natAbs := by
    rw [dg48 _ hd, td]
    split
    · exact dg_last m4 (by omega)
    · exact dg_step m4 (by omega)
  refine Run.RW ?_
  refine Run.R ?_
  refine Run.nq ?_; refine Run.cW ?_ ?_
  · intro hn
    have hn : m.tmod 10 < 0 := by simpa using hn
    have e1 : 0 - m.tmod 10 = ((m.natAbs % 10 : Nat) : Int) := by omega
    refine Run.RW ?_
    rw [e1]
    refine Run.RW ?_
    refine Run.reK hpin [0, 3, 4] [] (by decide) (by simp) ?_; simp only [AR, AW7, simprocAttr]
    refine Run.RW ?_
    refine Run.le ?_ (ih ((m.tdiv 10, bytesOf [IntKind.u8.wrap (48 + ((m.natAbs % 10 : Nat) : Int))] ++ out)) (⟨hnx.1, hnx.2, hst⟩) (by (try simp only [List.length_append, List.length_cons, List.length_nil]); omega))
    exact Le.sub (by rfl) (by simp only [AW7, simprocAttr]; try simp)
  intro hn
  have hn : ¬ m.tmod 10 < 0 := by simpa using hn
  have e1 : m.tmod 10 = ((m.natAbs % 10 : Nat) : Int) := by omega
  rw [e1]
  refine Run.RW ?_
  refine Run.reK hpin [0, 3, 4] [] (by decide) (by simp) ?_; simp only [AR, AW7, simprocAttr]
  refine Run.RW ?_
  refine Run.le ?_ (ih ((m.tdiv 10, bytesOf [IntKind.u8.wrap (48 + ((m.natAbs % 10 : Nat) : Int))] ++ out)) (⟨hnx.1, hnx.2, hst⟩) (by (try simp only [List.length_append, List.length_cons, List.length_nil]); omega))
  exact Le.sub (by rfl) (by simp only [AW7, simprocAttr]; try simp)
end Go.Proofs.YtbbnfljaojfmaaaDoor
namespace Go.Proofs.YtbbnfljaojfmaaaDoor
open Go Go.Aw
theorem c_l19Power (a : Int) (k : Nat) (h0 : -9223372036854775808 ≤ a) (h1 : a ≤ 9223372036854775807) (hk : k ≤ 1048576) : FunA B 34 [.int .i64 a, .int .i64 k] (fun rs o => rs = [.str (pwS a k)] ∧ o = []) := by
  have hq := fpQ_len hk
  have ha := Lib.itoa_length_le a h0 h1
  have hkd := Lib.itoa_length_le (k : Int) (by omega) (by omega)
  refine FunA.walk B_ok (fn := Tryd.f34) (fun vs w => Tryd.call34 vs w) Tryd.func34 rfl (by rw [Tryd.ntmps34]; simp) (fun C hC hP hT hΓ hbt hfn hpin hfin => ?_); have hX := BX; rw [← hΓ, ← hbt.1, ← hbt.2] at hX; rw [Tryd.ntmps34]; simp only [AW7, simprocAttr, hX]
  refine Run.R ?_
  refine Run.R ?_
  refine Run.nq ?_; refine Run.cW ?_ ?_
  · intro h
    have h : k = 0 := by
      have h : (k : Int) = 0 := by simpa using h
      omega
    refine Run.nq ?_; refine Run.regionW hC (fun K hK => ?_); refine wW ?_
    refine FunA.cW hP hT (c_FormatInt a h0 h1) ?_
    rintro rs o ⟨rfl, rfl⟩
    refine wW ?_
    refine wE ?_; clear hK K
    refine Run.rW [4] (hfin _ _ rfl rfl ?_)
    exact ⟨by simp [pwS, h], rfl⟩
  intro h
  have h : k ≠ 0 := by
    have h : (k : Int) ≠ 0 := by simpa using h
    omega
  refine Run.R ?_
  refine Run.R ?_
  apply joinK (σ' := ⟨22, [(0, true, .v (.int .i64 a)), (5, true, .v (.str (fpQ k)))], []⟩)
  case h =>
    intro rest
    refine Run.nq ?_; refine Run.cW ?_ ?_
    · intro h2
      have h2 : 1 < k := by rw [decide_eq_true_eq] at h2; omega
      have hml : [(113 : UInt8), 94].length + (Lib.itoa k).length ≤ maxLen := by simp [maxLen]; omega
      have e : [(113 : UInt8), 94] ++ Lib.itoa (k : Int) = fpQ k := by
        unfold fpQ
        rw [if_neg h, if_neg (by omega), itoa_pos (by omega)]; rfl
      refine Run.nq ?_; refine Run.regionW hC (fun K hK => ?_); refine wW ?_
      refine FunA.cW hP hT (c_FormatInt k (by omega) (by omega)) ?_
      rintro rs o ⟨rfl, rfl⟩
      refine wW ?_
      refine wE ?_; clear hK K
      rw [e]
      refine Run.reK hpin [0, 5] [] (by decide) (by simp) ?_; simp only [AR, AW7, simprocAttr]
      refine Run.nq ?_
      exact rest
    intro h2
    have h2 : k = 1 := by rw [decide_eq_false_iff_not] at h2; omega
    have e : [(113 : UInt8)] = fpQ k := by rw [h2]; rfl
    rw [e]
    refine Run.reK hpin [0, 5] [] (by decide) (by simp) ?_; simp only [AR, AW7, simprocAttr]
    refine Run.nq ?_
    exact rest
  refine Run.R ?_
  refine Run.nq ?_; refine Run.cW ?_ ?_
  · intro h2
    have h2 : a = 1 := by simpa using h2
    refine Run.R ?_
    refine Run.rW [4] (hfin _ _ rfl rfl ?_)
    exact ⟨by simp [pwS, h, h2], rfl⟩
  intro h2
  have h2 : a ≠ 1 := by simpa using h2
  have hml : (Lib.itoa a).length + (fpQ k).length ≤ maxLen := by simp [maxLen]; omega
  refine Run.nq ?_; refine Run.regionW hC (fun K hK => ?_); refine wW ?_
  refine FunA.cW hP hT (c_FormatInt a h0 h1) ?_
  rintro rs o ⟨rfl, rfl⟩
  refine wW ?_
  refine wE ?_; clear hK K
  refine Run.rW [4] (hfin _ _ rfl rfl ?_)
  exact ⟨by simp [pwS, h, h2], rfl⟩
theorem wf_bnd {p : List Int} (h : ∀ n ∈ p, (Lit.int .i64 n).wf = true) (i : Nat) : -9223372036854775808 ≤ p.getD i 0 ∧ p.getD i 0 ≤ 9223372036854775807 := by
  by_cases hi : i < p.length
  · have hw := h (p.getD i 0) (by rw [getD_eq hi]; exact List.getElem_mem hi)
    generalize p.getD i 0 = z at hw
    have e1 : IntKind.i64.min = -9223372036854775808 := by decide
    have e2 : IntKind.i64.max = 9223372036854775807 := by decide
    simp only [Lit.wf, Bool.and_eq_true, decide_eq_true_eq, e1, e2] at hw
    exact hw
  · rw [List.getD_eq_getElem?_getD, List.getElem?_eq_none (by omega)]
    decide
theorem pwS_len {a : Int} (h0 : -9223372036854775808 ≤ a) (h1 : a ≤ 9223372036854775807) {k : Nat} (hk : k ≤ 1048576) : (pwS a k).length ≤ 43 := by
  have hq := fpQ_len hk
  have ha := Lib.itoa_length_le a h0 h1
  unfold pwS
  split
  · omega
  · split <;> simp <;> omega
set_option maxHeartbeats 2000000 in
theorem c_spec_FormatPoly (p : List Int) (hp : ∀ n ∈ p, (Lit.int .i64 n).wf = true) (hl : p.length ≤ 1048576) : FunA B 5 [.sl false .int p] (fun rs o => rs = [.str (fmtP p)] ∧ o = []) := by
  have hb := wf_bnd hp
  refine FunA.walk B_ok (fn := Tryd.f5) (fun vs w => Tryd.call5 vs w) Tryd.func5 rfl (by rw [Tryd.ntmps5]; simp) (fun C hC hP hT hΓ hbt hfn hpin hfin => ?_); have hX := BX; rw [← hΓ, ← hbt.1, ← hbt.2] at hX; rw [Tryd.ntmps5]; simp only [AW7, simprocAttr, hX]
  refine Run.R ?_
  refine Run.R ?_
  refine Run.R ?_
  refine Run.loopI (X := Nat) (fun i => ⟨83, [(0, true, .v (.sl false .int (p))), (3, true, .v (.str ((fpL p i)))), (4, true, .v (.int .i64 (i)))], []⟩) (fun i => i ≤ p.length) (fun i => p.length - i) (0) (Nat.zero_le _) ?_ ?_
  · exact Le.sub (by first | rfl | simp) (by simp only [AW7, simprocAttr, hX]; try simp <;> try (first | rfl | exact ⟨rfl, rfl⟩ | exact ⟨rfl, rfl, rfl⟩))
  rintro i hi ih
  try simp only []
  refine Run.R ?_
  refine Run.nq ?_; refine Run.cW ?_ ?_
  rotate_left
  · intro h
    have h : i = p.length := by rw [decide_eq_false_iff_not] at h; omega
    refine Run.exit rfl ?_; refine Run.nq ?_
    refine Run.R ?_
    refine Run.nq ?_; refine Run.cW ?_ ?_
    · intro h2
      have h2 : fpL p i = [] := by simpa using h2
      refine Run.R ?_
      refine Run.rW [2] (hfin _ _ rfl rfl ?_)
      exact ⟨by unfold fmtP; rw [← h, if_pos h2], rfl⟩
    intro h2
    have h2 : fpL p i ≠ [] := by simpa using h2
    refine Run.R ?_
    refine Run.rW [2] (hfin _ _ rfl rfl ?_)
    exact ⟨by unfold fmtP; rw [← h, if_neg h2], rfl⟩
  intro h
  have h : i < p.length := by rw [decide_eq_true_eq] at h; omega
  have hs := fpL_len hb i (by omega)
  have hx := hb i
  have hn : fpL p (i + 1) = fpT (fpL p i) i (p.getD i 0) := rfl
  generalize fpL p i = s at *
  generalize hxe : p.getD i 0 = x at *
  have hsl : s.length ≤ 52428800 := by omega
  refine Run.R ?_
  rw [hxe]
  refine Run.nq ?_; refine Run.cW ?_ ?_
  · intro h2
    have h2 : 0 < x ∧ s = [] := by
      revert h2
      by_cases k1 : 0 < x <;> by_cases k2 : s = [] <;> simp [k1, k2]
    rw [fp_pos h2.1, if_pos h2.2] at hn
    refine Run.nq ?_; refine Run.regionW hC (fun K hK => ?_); refine wW ?_
    rw [hxe]
    refine FunA.cW hP hT (c_l19Power x i hx.1 hx.2 (by omega)) ?_
    rintro rs o ⟨rfl, rfl⟩
    refine wW ?_
    refine wE ?_; clear hK K
    rw [← hn]
    refine Run.reK hpin [0, 3, 4] [] (by decide) (by simp) ?_; simp only [AR, AW7, simprocAttr]
    refine Run.RW ?_
    refine Run.le ?_ (ih (i + 1) (h) (by (try simp only [List.length_append, List.length_cons, List.length_nil]); omega))
    exact Le.sub (by rfl) (by simp only [AW7, simprocAttr]; try simp)
  intro h2
  have h2 : 0 < x → s ≠ [] := by
    intro k1 k2
    rw [k2, decide_eq_true k1] at h2
    exact absurd h2 (by simp)
  refine Run.R ?_
  rw [hxe]
  refine Run.nq ?_; refine Run.cW ?_ ?_
  · intro h3
    have h3 : 0 < x := by simpa using h3
    rw [fp_pos h3, if_neg (h2 h3)] at hn
    have hpl := pwS_len hx.1 hx.2 (k := i) (by omega)
    have hm1 : s.length + [(43 : UInt8)].length ≤ maxLen := by simp [maxLen]; omega
    have hm2 : (s ++ [(43 : UInt8)]).length + (pwS x i).length ≤ maxLen := by simp [maxLen]; omega
    refine Run.nq ?_; refine Run.regionW hC (fun K hK => ?_); refine wW ?_
    rw [hxe]
    refine FunA.cW hP hT (c_l19Power x i hx.1 hx.2 (by omega)) ?_
    rintro rs o ⟨rfl, rfl⟩
    refine wW ?_
    refine wE ?_; clear hK K
    rw [List.append_assoc, ← hn]
    refine Run.reK hpin [0, 3, 4] [] (by decide) (by simp) ?_; simp only [AR, AW7, simprocAttr]
    refine Run.RW ?_
    refine Run.le ?_ (ih (i + 1) (h) (by (try simp only [List.length_append, List.length_cons, List.length_nil]); omega))
    exact Le.sub (by rfl) (by simp only [AW7, simprocAttr]; try simp)
  intro h3
  have h3 : ¬ 0 < x := by simpa using h3
  by_cases hmin : x = -9223372036854775808
  · subst hmin
    rw [fp_min rfl] at hn
    have hpl := pwS_len hx.1 hx.2 (k := i) (by omega)
    have hm1 : s.length + (pwS (-9223372036854775808) i).length ≤ maxLen := by simp [maxLen]; omega
    refine Run.R ?_
    rw [hxe]
    refine Run.nq ?_; refine Run.cW ?_ ?_
    rotate_left
    · intro h4; exact absurd h4 (by decide)
    intro _
    refine Run.nq ?_; refine Run.regionW hC (fun K hK => ?_); refine wW ?_
    rw [hxe]
    refine FunA.cW hP hT (c_l19Power (-9223372036854775808) i hx.1 hx.2 (by omega)) ?_
    rintro rs o ⟨rfl, rfl⟩
    refine wW ?_
    refine wE ?_; clear hK K
    rw [← hn]
    refine Run.reK hpin [0, 3, 4] [] (by decide) (by simp) ?_; simp only [AR, AW7, simprocAttr]
    refine Run.RW ?_
    refine Run.le ?_ (ih (i + 1) (h) (by (try simp only [List.length_append, List.length_cons, List.length_nil]); omega))
    exact Le.sub (by rfl) (by simp only [AW7, simprocAttr]; try simp)
  have hwr : IntKind.i64.wrap (0 - x) = 0 - x := wrap_id (by omega)
  refine Run.R ?_
  rw [hxe, hwr]
  refine Run.nq ?_; refine Run.cW ?_ ?_
  · intro h4
    exfalso
    by_cases k1 : x < 0
    · rw [decide_eq_true k1, decide_eq_false (by omega : ¬ 0 - x < 0)] at h4
      exact absurd h4 (by simp)
    · rw [decide_eq_false k1] at h4
      exact absurd h4 (by simp)
  intro _
  refine Run.R ?_
  rw [hxe]
  refine Run.nq ?_; refine Run.cW ?_ ?_
  · intro h5
    have h5 : x < 0 := by simpa using h5
    rw [fp_neg h5] at hn
    have hpl := pwS_len (a := -x) (by omega) (by omega) (k := i) (by omega)
    have hm1 : s.length + [(45 : UInt8)].length ≤ maxLen := by simp [maxLen]; omega
    have hm2 : (s ++ [(45 : UInt8)]).length + (pwS (-x) i).length ≤ maxLen := by simp [maxLen]; omega
    refine Run.nq ?_; refine Run.regionW hC (fun K hK => ?_); refine wW ?_
    rw [hxe, hwr, Int.zero_sub]
    refine FunA.cW hP hT (c_l19Power (-x) i (by omega) (by omega) (by omega)) ?_
    rintro rs o ⟨rfl, rfl⟩
    refine wW ?_
    refine wE ?_; clear hK K
    rw [List.append_assoc, ← hn]
    refine Run.reK hpin [0, 3, 4] [] (by decide) (by simp) ?_; simp only [AR, AW7, simprocAttr]
    refine Run.RW ?_
    refine Run.le ?_ (ih (i + 1) (h) (by (try simp only [List.length_append, List.length_cons, List.length_nil]); omega))
    exact Le.sub (by rfl) (by simp only [AW7, simprocAttr]; try simp)
  intro h5
  have h5 : ¬ x < 0 := by simpa using h5
  have h6 : x = 0 := by omega
  rw [h6, fp_zero] at hn
  rw [← hn]
  refine Run.reK hpin [0, 3, 4] [] (by decide) (by simp) ?_; simp only [AR, AW7, simprocAttr]
  refine Run.RW ?_
  refine Run.le ?_ (ih (i + 1) (h) (by (try simp only [List.length_append, List.length_cons, List.length_nil]); omega))
  exact Le.sub (by rfl) (by simp only [AW7, simprocAttr]; try simp)
end Go.Proofs.YtbbnfljaojfmaaaDoor
