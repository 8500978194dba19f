/- Contracts of functions that write to one slice of their caller's. -/
import Derived.Test.YtbeeblhmgpgkjaaAw19
set_option linter.unusedVariables false
set_option linter.unusedSimpArgs false
namespace Go.Aw
open Go

def flatE : E → Bool
  | .int => true
  | .byte => true
  | .bool => true
  | .str => true
  | .vec => true
  | _ => false

theorem ElRel.flat {V V' : Vw} {e : E} (he : flatE e = true) {d : e.D} {u : Value} (h : ElRel V e d u) : ElRel V' e d u := by
  cases e <;> first | exact h | (simp [flatE] at he)
theorem Enc.flat {V V' : Vw} {e : E} (he : flatE e = true) {xs : List e.D} {cs : List Value} (h : Enc V e xs cs) : Enc V' e xs cs :=
  ⟨h.1, fun i hi => let ⟨u, h1, h2⟩ := h.2 i hi; ⟨u, h1.flat he, h2⟩⟩

/-- The callee's view: one object of the caller's is its own meanwhile. -/
def Ctx.lent (B : Ctx) (fn : Func) (R : Ending → World → Prop) (w : World) (o : O) (v : Value) : Ctx := { B.enter fn R w (fun b => fpo v o b) with pin := [v] }
def Ctx.lentB (B : Ctx) (w : World) (o : O) (v : Value) : Ctx := B.lent default (fun _ _ => True) w o v

theorem Ctx.Ok.lent {B : Ctx} (h : B.Ok) (fn : Func) (R : Ending → World → Prop) (w : World) (o : O) (v : Value) : (B.lent fn R w o v).Ok := ⟨h.sl, h.slc, h.bt, h.same, h.mixed⟩

/-- What has become of the object: let go, or still where it was. -/
def backO (o0 : O) (v v' : Value) : O → Prop
  | .dead => True
  | .arr e _ g _ => flatE e = true ∧ g = 0 ∧ v' = v ∧ ∀ b, v.ownBlock = some b → fpo v o0 b
  | .mat hs _ g _ => g = 0 ∧ v' = v ∧ ∃ rows nn, o0 = .mat hs rows 0 nn

/-- A contract of a function that is lent one object of its caller's. -/
def FunO (B : Ctx) (f : FuncId) (args : List AV) (o0 : O) (post : List AV → List O → Prop) : Prop :=
  (∀ (vs : Array Value) (w : World), (callFunc f vs).run B.P w = .ok (.enter f vs) w) ∧
  ∀ w (v : Value) (vs : List Value), WRel (B.lentB w o0 v) [o0] w (fun _ => v) → vs.length = args.length →
    (∀ (i : Nat) (x : AV) (u : Value), args[i]? = some x → vs[i]? = some u → AVRel ((B.lentB w o0 v).V w [o0] (fun _ => v)) [o0] (fun _ => v) x u) →
    Calls B.P f vs.toArray w fun en w' => ∃ us : List Value, en = .returned (pack us) ∧ ∃ rs o' obs' ρ', post rs (o' :: obs') ∧ us.length = rs.length ∧
      (∀ (i : Nat) (x : AV) (u : Value), rs[i]? = some x → us[i]? = some u → AVRel ((B.lentB w o0 v).V w' (o' :: obs') ρ') (o' :: obs') ρ' x u) ∧
      WRel (B.lentB w o0 v) (o' :: obs') w' ρ' ∧ rs.all freshAV = true ∧ obs'.all freshO = true ∧ backO o0 v (ρ' 0) o'

def FunM (B : Ctx) (f : FuncId) (args : List AV) (e : E) (xs : List e.D) (nn : Bool) (post : List AV → List O → Prop) : Prop := FunO B f args (.arr e xs 0 nn) post

/-- What the walk of such a function has to come to. -/
def RM (B : Ctx) (w : World) (o : O) (v : Value) (post : List AV → List O → Prop) : Ending → World → Prop := fun en w' => ∃ us : List Value, en = .returned (pack us) ∧ ∃ rs o' obs' ρ', post rs (o' :: obs') ∧ us.length = rs.length ∧
      (∀ (i : Nat) (x : AV) (u : Value), rs[i]? = some x → us[i]? = some u → AVRel ((B.lentB w o v).V w' (o' :: obs') ρ') (o' :: obs') ρ' x u) ∧
      WRel (B.lentB w o v) (o' :: obs') w' ρ' ∧ rs.all freshAV = true ∧ obs'.all freshO = true ∧ backO o v (ρ' 0) o'

def backB : O → Bool
  | .dead => true
  | .arr e _ g _ => flatE e && g == 0
  | .mat .. => false
/-- The object at the end, by the object at the start. -/
def backP (o0 : O) : O → Prop
  | .dead => True
  | .arr e _ g _ => flatE e = true ∧ g = 0 ∧ ∃ e' xs g' nn, o0 = .arr e' xs g' nn
  | .mat hs _ g _ => g = 0 ∧ ∃ rows nn, o0 = .mat hs rows 0 nn

theorem FunO.fin {B : Ctx} {fn : Func} {w : World} {o : O} {v : Value} {post : List AV → List O → Prop} {rs : List AV} {o' : O} {obs' : List O} (hp : post rs (o' :: obs')) (h1 : rs.all freshAV = true) (h2 : obs'.all freshO = true) (h3 : backP o o') :
    Fin (B.lent fn (RM B w o v post) w o v) rs (o' :: obs') := by
  intro w' ρ vs hr hpin hl ha
  refine ⟨vs, rfl, rs, o', obs', ρ, hp, hl, ha, ⟨hr.os, hr.dis, hr.own, hr.os0, hr.tape, hr.output, hr.grow, hr.kept⟩, h1, h2, ?_⟩
  cases o' with
  | dead => trivial
  | arr e xs g nn =>
    obtain ⟨h3, h4, e', xs', g', nn', rfl⟩ := h3
    obtain ⟨_, hk⟩ := hpin 0 v rfl
    exact ⟨h3, h4, hk (by rw [h4]; rfl), fun b hb => hb⟩
  | mat hs rows g nn =>
    obtain ⟨h3, h4⟩ := h3
    obtain ⟨_, hk⟩ := hpin 0 v rfl
    exact ⟨h3, hk (by rw [h3]; rfl), h4⟩

theorem FunO.walk {B : Ctx} (hB : B.Ok) {f : FuncId} {fn : Func} {c : Code} {args : List AV} {o0 : O} {post : List AV → List O → Prop} (hcall : ∀ (vs : Array Value) (w : World), (callFunc f vs).run B.P w = .ok (.enter f vs) w)
    (hf : B.P.funcs[f]? = some fn) (hb : fn.body = some c) (hn : args.length ≤ fn.ntmps)
    (h : ∀ C : Ctx, C.Ok → B.P = C.P → B.tid = C.tid → C.Γ = B.Γ → C.bt = B.bt → C.fn = fn → C.pin.length = 1 → (∀ rs o' obs', rs.all freshAV = true → obs'.all freshO = true → backP o0 o' → post rs (o' :: obs') → Fin C rs (o' :: obs')) →
      Run C [.code c] ⟨fn.ntmps, entF 0 args, [o0]⟩) : FunO B f args o0 post := by
  refine ⟨hcall, fun w v vs hw hl ha => ?_⟩
  refine calls_of_run (C := B.lent fn (RM B w o0 v post) w o0 v) (ρ := fun _ => v) hf hb
    (h _ (hB.lent fn _ w _ v) rfl rfl rfl rfl rfl rfl fun _ _ _ h1 h2 h3 hp => FunO.fin hp h1 h2 h3) ⟨rfl, ?_, ?_, ⟨hw.os, hw.dis, hw.own, hw.os0, hw.tape, hw.output, hw.grow, hw.kept⟩, fun j u hj => ?_⟩
  · simp [Ctx.lent, Ctx.enter]
    omega
  · intro s ex x hx
    have hent := entry_eq args fn.ntmps
    have hz : look s ((args.zipIdx 0).map (fun p => (p.2, true, Sl.v p.1))) = some (ex, x) := by
      have := congrArg St.fr hent
      simp only [entry] at this
      rw [this]; exact hx
    obtain ⟨k, y, h1, h2, rfl, rfl⟩ := look_zip args s 0 ex x hz
    refine ⟨fun _ => ?_, by simp⟩
    have hk : k < args.length := (List.getElem?_eq_some_iff.1 h2).1
    have hkv : k < vs.length := by omega
    have hs : s = k := by omega
    subst hs
    have hg : ((vs.toArray ++ Array.replicate ((B.lent fn (RM B w o0 v post) w o0 v).fn.ntmps - vs.toArray.size) undef).getD s undef) = vs[s] := by
      simp [Array.getD_eq_getD_getElem?, Array.getElem?_append, hkv]
    rw [hg]
    exact ha s y vs[s] h2 (by simp)
  · match j, hj with
    | 0, hj =>
      simp [Ctx.lent] at hj
      exact ⟨by simp, fun _ => hj⟩
    | j + 1, hj => simp [Ctx.lent] at hj

theorem backB_P {e : E} {xs : List e.D} {g : Nat} {nn : Bool} {o' : O} (h : backB o' = true) : backP (.arr e xs g nn) o' := by
  cases o' with
  | dead => trivial
  | arr e2 ys g2 n2 => simp only [backB, Bool.and_eq_true, beq_iff_eq] at h; exact ⟨h.1, h.2, _, _, _, _, rfl⟩
  | mat _ _ _ _ => cases h
theorem FunM.walk {B : Ctx} (hB : B.Ok) {f : FuncId} {fn : Func} {c : Code} {args : List AV} {e : E} {xs : List e.D} {nn : Bool} {post : List AV → List O → Prop} (hcall : ∀ (vs : Array Value) (w : World), (callFunc f vs).run B.P w = .ok (.enter f vs) w)
    (hf : B.P.funcs[f]? = some fn) (hb : fn.body = some c) (hn : args.length ≤ fn.ntmps)
    (h : ∀ C : Ctx, C.Ok → B.P = C.P → B.tid = C.tid → C.Γ = B.Γ → C.bt = B.bt → C.fn = fn → C.pin.length = 1 → (∀ rs o' obs', rs.all freshAV = true → obs'.all freshO = true → backB o' = true → post rs (o' :: obs') → Fin C rs (o' :: obs')) →
      Run C [.code c] ⟨fn.ntmps, entF 0 args, [.arr e xs 0 nn]⟩) : FunM B f args e xs nn post :=
  FunO.walk hB hcall hf hb hn fun C h1 h2 h3 h4 h5 h6 h7 hfin => h C h1 h2 h3 h4 h5 h6 h7 fun rs o' obs' k1 k2 k3 k4 => hfin rs o' obs' k1 k2 (backB_P k3) k4

/-! ### Such a contract, used -/

def regO (g : Nat) : O → O
  | .dead => .dead
  | .arr e xs _ nn => .arr e xs g nn
  | .mat hs rows _ nn => .mat hs rows g nn
def shiftM (i0 g0 n : Nat) : AV → AV
  | .own 0 0 => .own i0 g0
  | .own (k + 1) g => .own (n + k) g
  | .own 0 _ => .junk
  | x => x

theorem joinM {B C : Ctx} (hP : B.tid = C.tid) {obs obs' : List O} {w w' : World} {ρ ρ' : Nat → Value} (rr : WRel C obs w ρ) {i0 g : Nat} {o o0 : O} (hi : obs[i0]? = some o) (hog : o.gen = some g) (hfo : ∀ b, fpo (ρ i0) o0 b ↔ fpo (ρ i0) o b) {o' : O}
    (r' : WRel (B.lentB w o0 (ρ i0)) (o' :: obs') w' ρ') (hf : obs'.all freshO = true) (hb : backO o0 (ρ i0) (ρ' 0) o') :
    ∃ ρ2, Step C w w' obs (obs.set i0 (regO g o') ++ obs') ρ ρ2 ∧ ∀ (x : AV) (v : Value), freshAV x = true → AVRel ((B.lentB w o0 (ρ i0)).V w' (o' :: obs') ρ') (o' :: obs') ρ' x v →
      AVRel (C.V w' (obs.set i0 (regO g o') ++ obs') ρ2) (obs.set i0 (regO g o') ++ obs') ρ2 (shiftM i0 g obs.length x) v := by
  let ρ2 : Nat → Value := fun i => if i < obs.length then (if i = i0 then ρ' 0 else ρ i) else ρ' (i - obs.length + 1)
  have hi0 : i0 < obs.length := (List.getElem?_eq_some_iff.1 hi).1
  have hset : (obs.set i0 (regO g o')).length = obs.length := by simp
  have hM : ∀ b, (B.lentB w o0 (ρ i0)).M b ↔ fpo (ρ i0) o b := fun b => hfo b
  have hMown : ∀ b, fpo (ρ i0) o b → Own obs ρ b := fun b h => ⟨i0, _, hi, h⟩
  have hext : Ext (fun b => fpo (ρ i0) o b) w w' := ⟨r'.os0, r'.tape, r'.output, r'.grow, fun b hb hS => r'.kept b hb fun k => hS ((hM b).1 k)⟩
  have ho' : ∀ b, Own (o' :: obs') ρ' b → w.heap.size ≤ b ∨ fpo (ρ i0) o b := fun b hb => (r'.own b hb).imp id (hM b).1
  have hreg : ∀ b, fpo (ρ' 0) (regO g o') b → fpo (ρ' 0) o' b := fun b h => by cases o' <;> exact h
  have hreg' : ∀ b, fpo (ρ' 0) (regO g o') b → fpo (ρ i0) o b := fun b h => by
    cases o' with
    | dead => exact h.elim
    | arr e2 ys g2 n2 => obtain ⟨_, _, h1, h2⟩ := hb; rw [h1] at h; exact (hfo b).1 (h2 b h)
    | mat hs2 rows2 g2 n2 => obtain ⟨_, h1, rows3, n3, rfl⟩ := hb; rw [h1] at h; exact (hfo b).1 h
  have get2 : ∀ (id : Nat) (o : O), (obs.set i0 (regO g o') ++ obs')[id]? = some o →
      (id = i0 ∧ o = regO g o' ∧ ρ2 id = ρ' 0) ∨ (id ≠ i0 ∧ id < obs.length ∧ obs[id]? = some o ∧ ρ2 id = ρ id) ∨ (obs.length ≤ id ∧ obs'[id - obs.length]? = some o ∧ ρ2 id = ρ' (id - obs.length + 1)) := by
    intro id o ho
    rw [List.getElem?_append] at ho
    split at ho
    · rename_i hlt
      rw [hset] at hlt
      by_cases hii : i0 = id
      · subst hii
        rw [List.getElem?_set_self hi0] at ho
        cases ho
        exact .inl ⟨rfl, rfl, by simp [ρ2, hi0]⟩
      · rw [List.getElem?_set_ne hii] at ho
        exact .inr (.inl ⟨Ne.symm hii, hlt, ho, by simp [ρ2, hlt, Ne.symm hii]⟩)
    · rename_i hlt
      rw [hset] at hlt ho
      exact .inr (.inr ⟨by omega, ho, by simp [ρ2, hlt]⟩)
  have split : ∀ b, Own (obs.set i0 (regO g o') ++ obs') ρ2 b → (∃ id o, id ≠ i0 ∧ obs[id]? = some o ∧ fpo (ρ id) o b) ∨ (fpo (ρ' 0) (regO g o') b) ∨ (∃ k o, obs'[k]? = some o ∧ fpo (ρ' (k + 1)) o b) := by
    rintro b ⟨id, o, ho, hfp⟩
    rcases get2 id o ho with ⟨rfl, rfl, h3⟩ | ⟨h1, h2, h3, h4⟩ | ⟨h1, h2, h3⟩
    · rw [h3] at hfp; exact .inr (.inl hfp)
    · rw [h4] at hfp; exact .inl ⟨id, o, h1, h3, hfp⟩
    · rw [h3] at hfp; exact .inr (.inr ⟨_, o, h2, hfp⟩)
  have hV : (C.V w obs ρ).le (C.V w' (obs.set i0 (regO g o') ++ obs') ρ2) := by
    refine ⟨fun b x hx => ?_, fun _ h => h, rfl⟩
    simp only [Ctx.V, mask] at hx ⊢
    split at hx
    · cases hx
    · rename_i hn
      have hlt := (Array.getElem?_eq_some_iff.1 hx).1
      have hn' : ¬ Own (obs.set i0 (regO g o') ++ obs') ρ2 b := fun k => by
        rcases split b k with ⟨id, o, _, h2, h3⟩ | h | ⟨k, o, h1, h2⟩
        · exact hn ⟨id, o, h2, h3⟩
        · exact hn (hMown b (hreg' b h))
        · rcases ho' b ⟨k + 1, o, by simpa using h1, h2⟩ with h | h
          · omega
          · exact hn (hMown b h)
      rw [if_neg hn', hext.block b hlt (fun k => hn (hMown b k))]
      exact hx
  have hH : ∀ b o, ((B.lentB w o0 (ρ i0)).V w' (o' :: obs') ρ').Fr b → ((B.lentB w o0 (ρ i0)).V w' (o' :: obs') ρ').H b = some o → (C.V w' (obs.set i0 (regO g o') ++ obs') ρ2).H b = some o := by
    intro b o hfr hx
    simp only [Ctx.V, mask] at hx ⊢
    split at hx
    · cases hx
    · rename_i hn
      have hn' : ¬ Own (obs.set i0 (regO g o') ++ obs') ρ2 b := fun k => by
        rcases split b k with ⟨id, o2, h1, h2, h3⟩ | h | ⟨k, o2, h1, h2⟩
        · have hlt := (rr.os id o2 h2).lt h3
          rcases hfr with hge | hm
          · exact absurd hlt (Nat.not_lt.2 hge)
          · exact h1 (rr.dis id i0 o2 _ b h2 hi h3 ((hM b).1 hm))
        · exact hn ⟨0, o', rfl, hreg b h⟩
        · exact hn ⟨k + 1, o2, by simpa using h1, h2⟩
      rw [if_neg hn']
      exact hx
  have hF : ∀ b, ((B.lentB w o0 (ρ i0)).V w' (o' :: obs') ρ').Fr b → (C.V w' (obs.set i0 (regO g o') ++ obs') ρ2).Fr b := fun b hfr => by
    rcases hfr with h | h
    · exact .inl (Nat.le_trans rr.grow h)
    · exact rr.own b (hMown b ((hM b).1 h))
  have ht : (C.V w' (obs.set i0 (regO g o') ++ obs') ρ2).ti = ((B.lentB w o0 (ρ i0)).V w' (o' :: obs') ρ').ti := by show C.tid .int = B.tid .int; rw [hP]
  have hwr : WRel C (obs.set i0 (regO g o') ++ obs') w' ρ2 := by
    refine ⟨fun id o ho => ?_, fun i j o o2 b hi' hj' bi bj => ?_, fun b hb' => ?_, hext.os.trans rr.os0, hext.tape.trans rr.tape, hext.output.trans rr.output, Nat.le_trans rr.grow hext.size, fun b hb' hM' => ?_⟩
    · rcases get2 id o ho with ⟨rfl, rfl, h3⟩ | ⟨h1, h2, h3, h4⟩ | ⟨h1, h2, h3⟩
      · rw [h3]
        have k := r'.os 0 o' rfl
        cases o' with
        | dead => trivial
        | arr e2 ys g2 n2 =>
          obtain ⟨cs, k1, k2, k3⟩ := k
          exact ⟨cs, by have : B.tid e2 = C.tid e2 := congrFun hP e2; rw [← this]; exact k1, k2.flat hb.1, k3⟩
        | mat hs2 rows2 g2 n2 => exact ORel.mat_tid (tid := B.tid) (congrFun hP .lrow) (congrFun hP .int) k
      · rw [h4]
        exact (rr.os id o h3).kept hV hext (fun b hfp hS => h1 (rr.dis id i0 o _ b h3 hi hfp hS))
      · rw [h3]
        have k := r'.os (id - obs.length + 1) o (by simpa using h2)
        cases o with
        | dead => trivial
        | arr e2 ys g2 n2 =>
          obtain ⟨cs, k1, k2, k3⟩ := k
          have hfo : freshE e2 = true := by
            have := List.all_eq_true.1 hf _ (List.mem_of_getElem? h2)
            simpa [freshO] using this
          exact ⟨cs, by have : B.tid e2 = C.tid e2 := congrFun hP e2; rw [← this]; exact k1, k2.fresh hH hF ht hfo, k3⟩
        | mat hs2 rows2 g2 n2 => exact ORel.mat_tid (tid := B.tid) (congrFun hP .lrow) (congrFun hP .int) k
    · have low : ∀ k o3, obs'[k]? = some o3 → fpo (ρ' (k + 1)) o3 b → ∀ id o4, obs[id]? = some o4 → fpo (ρ id) o4 b → id ≠ i0 → False := by
        intro k o3 h1 h2 id o4 h3 h4 h5
        rcases ho' b ⟨k + 1, o3, by simpa using h1, h2⟩ with h | h
        · have := (rr.os id o4 h3).lt h4; omega
        · exact h5 (rr.dis id i0 o4 _ b h3 hi h4 h)
      rcases get2 i o hi' with ⟨rfl, rfl, h3⟩ | ⟨h1, h2, h3, h4⟩ | ⟨h1, h2, h3⟩ <;> rcases get2 j o2 hj' with ⟨rfl, rfl, k3⟩ | ⟨k1, k2, k3, k4⟩ | ⟨k1, k2, k3⟩
      · rfl
      · rw [h3] at bi; rw [k4] at bj
        exact absurd (rr.dis j i o2 _ b k3 hi bj (hreg' b bi)) k1
      · rw [h3] at bi; rw [k3] at bj
        have := r'.dis 0 (j - obs.length + 1) o' o2 b rfl (by simpa using k2) (hreg b bi) bj
        omega
      · rw [h4] at bi; rw [k3] at bj
        exact absurd (rr.dis i j o _ b h3 hi bi (hreg' b bj)) h1
      · rw [h4] at bi; rw [k4] at bj
        exact rr.dis i j o o2 b h3 k3 bi bj
      · rw [h4] at bi; rw [k3] at bj
        exact (low _ o2 k2 bj i o h3 bi h1).elim
      · rw [h3] at bi; rw [k3] at bj
        have := r'.dis (i - obs.length + 1) 0 o o' b (by simpa using h2) rfl bi (hreg b bj)
        omega
      · rw [h3] at bi; rw [k4] at bj
        exact (low _ o h2 bi j o2 k3 bj k1).elim
      · rw [h3] at bi; rw [k3] at bj
        have := r'.dis (i - obs.length + 1) (j - obs.length + 1) o o2 b (by simpa using h2) (by simpa using k2) bi bj
        omega
    · rcases split b hb' with ⟨id, o, h1, h2, h3⟩ | h | ⟨k, o, h1, h2⟩
      · exact rr.own b ⟨id, o, h2, h3⟩
      · exact rr.own b (hMown b (hreg' b h))
      · exact (ho' b ⟨k + 1, o, by simpa using h1, h2⟩).elim (fun h => .inl (Nat.le_trans rr.grow h)) (fun h => rr.own b (hMown b h))
    · have hnS : ¬ fpo (ρ i0) o b := fun k => by
        rcases rr.own b (hMown b k) with h | h
        · omega
        · exact hM' h
      rw [hext.block b (Nat.lt_of_lt_of_le hb' rr.grow) hnS]
      exact rr.kept b hb' hM'
  have hgen0 : genOf (obs.set i0 (regO g o') ++ obs') i0 = (regO g o').gen := by
    unfold genOf
    rw [List.getElem?_append_left (by rw [hset]; exact hi0), List.getElem?_set_self hi0]; rfl
  refine ⟨ρ2, ⟨hwr, hV, by simp, fun id c' hid hc => ?_⟩, fun x v hfx hx => ?_⟩
  · by_cases hii : id = i0
    · subst hii
      rw [hgen0] at hc
      cases o' with
      | dead => simp [regO, O.gen] at hc
      | arr e2 ys g2 n2 =>
        simp [regO, O.gen] at hc
        subst hc
        refine ⟨g, by unfold genOf; rw [hi]; exact hog, .inl ⟨rfl, ?_⟩⟩
        show ρ2 id = ρ id
        simp only [ρ2, hi0, if_true]
        exact hb.2.2.1
      | mat hs2 rows2 g2 n2 =>
        simp [regO, O.gen] at hc
        subst hc
        refine ⟨g, by unfold genOf; rw [hi]; exact hog, .inl ⟨rfl, ?_⟩⟩
        show ρ2 id = ρ id
        simp only [ρ2, hi0, if_true]
        exact hb.2.1
    · unfold genOf at hc
      rw [List.getElem?_append_left (by rw [hset]; exact hid), List.getElem?_set_ne (Ne.symm hii)] at hc
      exact ⟨c', hc, .inl ⟨rfl, by simp [ρ2, hid, hii]⟩⟩
  · cases x with
    | junk => trivial
    | int k n => exact hx
    | bool b => exact hx
    | str s => exact hx
    | sl f e xs =>
      simp [freshAV] at hfx
      obtain ⟨rfl, hfe⟩ := hfx
      exact SlRel.fresh hH hF ht hfe hx
    | lr l xs => exact LRowRel.fresh hH hF ht hx
    | vec xs => exact hx
    | nils => exact hx
    | own id g1 =>
      match id with
      | 0 =>
        match g1, hx with
        | 0, hx =>
          refine ⟨by simp; omega, fun c hc => ?_⟩
          rw [hgen0] at hc
          cases o' with
          | dead => simp [regO, O.gen] at hc
          | arr e2 ys g2 n2 =>
            simp [regO, O.gen] at hc
            refine ⟨by omega, fun _ => ?_⟩
            have := (hx.2 g2 rfl).2 hb.2.1.symm
            rw [this]
            show ρ' 0 = ρ2 i0
            simp only [ρ2, hi0, if_true]
          | mat hs2 rows2 g2 n2 =>
            simp [regO, O.gen] at hc
            refine ⟨by omega, fun _ => ?_⟩
            have := (hx.2 g2 rfl).2 hb.1.symm
            rw [this]
            show ρ' 0 = ρ2 i0
            simp only [ρ2, hi0, if_true]
        | _ + 1, _ => trivial
      | k + 1 =>
        refine ⟨by have := hx.1; simp at this ⊢; omega, fun c hc => ?_⟩
        have e1 : genOf (obs.set i0 (regO g o') ++ obs') (obs.length + k) = genOf (o' :: obs') (k + 1) := by
          unfold genOf; rw [List.getElem?_append_right (by rw [hset]; omega), hset]; simp
        rw [e1] at hc
        have h3 := hx.2 c hc
        have e2 : ρ2 (obs.length + k) = ρ' (k + 1) := by
          show (if obs.length + k < obs.length then (if obs.length + k = i0 then ρ' 0 else ρ (obs.length + k)) else ρ' (obs.length + k - obs.length + 1)) = ρ' (k + 1)
          rw [if_neg (by omega), Nat.add_sub_cancel_left]
        rw [e2]
        exact h3
    | elt id g s k => simp [freshAV] at hfx
    | relt f e d => simp [freshAV] at hfx
    | hdr h n => simp [freshAV] at hfx
    | emp b => simp [freshAV] at hfx
    | fn f => exact hx

end Go.Aw
