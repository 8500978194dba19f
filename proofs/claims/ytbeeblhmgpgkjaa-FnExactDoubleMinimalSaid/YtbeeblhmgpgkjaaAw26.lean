/- The numbers game of a Cartan matrix: firing negative numbers ends in one way only, in one number of steps. -/
import Derived.Test.YtbeeblhmgpgkjaaAw25
set_option linter.unusedVariables false
set_option linter.unusedSimpArgs false
namespace Go.Cox

abbrev Vec := Nat → Int
abbrev Mat := Nat → Nat → Int

/-- A vector reflected. -/
def refl (A : Mat) (i : Nat) (v : Vec) : Vec := fun k => v k - v i * A k i
/-- All letters of a word, the last one first. -/
def act (A : Mat) (w : List Nat) (v : Vec) : Vec := w.foldr (refl A) v
/-- All letters of a word, the first one first. -/
def run (A : Mat) (w : List Nat) (v : Vec) : Vec := w.foldl (fun v i => refl A i v) v

structure Cartan (A : Mat) (n : Nat) : Prop where
  diag : ∀ i, i < n → A i i = 2
  nonpos : ∀ i j, i < n → j < n → i ≠ j → A i j ≤ 0
  zero : ∀ i j, i < n → j < n → A i j = 0 → A j i = 0

theorem act_nil (A : Mat) (v : Vec) : act A [] v = v := rfl
theorem act_cons (A : Mat) (i : Nat) (w : List Nat) (v : Vec) : act A (i :: w) v = refl A i (act A w v) := rfl
theorem act_append (A : Mat) (a b : List Nat) (v : Vec) : act A (a ++ b) v = act A a (act A b v) := by simp [act, List.foldr_append]
theorem run_nil (A : Mat) (v : Vec) : run A [] v = v := rfl
theorem run_cons (A : Mat) (i : Nat) (w : List Nat) (v : Vec) : run A (i :: w) v = run A w (refl A i v) := rfl
theorem run_append (A : Mat) (a b : List Nat) (v : Vec) : run A (a ++ b) v = run A b (run A a v) := by simp [run, List.foldl_append]
theorem run_reverse (A : Mat) (w : List Nat) (v : Vec) : run A w.reverse v = act A w v := by simp [run, act, List.foldl_reverse]
theorem act_reverse (A : Mat) (w : List Nat) (v : Vec) : act A w.reverse v = run A w v := by simp [run, act, List.foldr_reverse]

variable {A : Mat} {n : Nat}

theorem refl_refl {i : Nat} (h : A i i = 2) (v : Vec) : refl A i (refl A i v) = v := by
  funext k; simp only [refl, h]; grind

theorem refl_self {i : Nat} (h : A i i = 2) (v : Vec) : refl A i v i = -(v i) := by
  simp only [refl, h]; omega

theorem act_run (hA : Cartan A n) : ∀ (w : List Nat), (∀ i ∈ w, i < n) → ∀ v, act A w (run A w v) = v
  | [], _, _ => rfl
  | i :: w, h, v => by
    rw [run_cons, act_cons, act_run hA w (fun j hj => h j (List.mem_cons_of_mem _ hj)), refl_refl (hA.diag i (h i (List.mem_cons_self ..)))]

theorem run_act (hA : Cartan A n) (w : List Nat) (h : ∀ i ∈ w, i < n) (v : Vec) : run A w (act A w v) = v := by
  have := act_run hA w.reverse (fun i hi => h i (by simpa using hi)) v
  rwa [run_reverse, act_reverse] at this

/-- Two letters in turn. -/
def alt (i j : Nat) : Nat → List Nat
  | 0 => []
  | m + 1 => i :: alt j i m

theorem alt_length (i j : Nat) : ∀ m, (alt i j m).length = m := by
  intro m
  induction m generalizing i j with
  | zero => rfl
  | succ m ih => simp [alt, ih]

/-- The order of the product of two letters, 0 if there is none. -/
def bond (A : Mat) (i j : Nat) : Nat :=
  if A i j * A j i = 0 then 2 else if A i j * A j i = 1 then 3 else if A i j * A j i = 2 then 4 else if A i j * A j i = 3 then 6 else 0

theorem bond_symm (i j : Nat) : bond A i j = bond A j i := by simp [bond, Int.mul_comm]

/-- Words that turn into each other by braid moves. -/
inductive Br (A : Mat) (n : Nat) : List Nat → List Nat → Prop
  | refl (w : List Nat) : Br A n w w
  | trans {a b c : List Nat} : Br A n a b → Br A n b c → Br A n a c
  | cons (i : Nat) {a b : List Nat} : Br A n a b → Br A n (i :: a) (i :: b)
  | braid (i j : Nat) (t : List Nat) : i < n → j < n → i ≠ j → bond A i j ≠ 0 → Br A n (alt i j (bond A i j) ++ t) (alt j i (bond A i j) ++ t)

theorem Br.symm {a b : List Nat} (h : Br A n a b) : Br A n b a := by
  induction h with
  | refl w => exact .refl w
  | trans _ _ h1 h2 => exact .trans h2 h1
  | cons i _ h => exact .cons i h
  | braid i j t hi hj hij hb =>
    rw [bond_symm i j] at hb ⊢
    exact .braid j i t hj hi (Ne.symm hij) hb

theorem Br.length {a b : List Nat} (h : Br A n a b) : a.length = b.length := by
  induction h with
  | refl w => rfl
  | trans _ _ h1 h2 => exact h1.trans h2
  | cons i _ h => simp [h]
  | braid i j t => simp [alt_length]

theorem Br.pre {a b : List Nat} (t : List Nat) (h : Br A n a b) : Br A n (t ++ a) (t ++ b) := by
  induction t with
  | nil => exact h
  | cons i t ih => exact .cons i ih

/-- Six cases of two bound letters. -/
theorem bonds (hA : Cartan A n) {i j : Nat} (hi : i < n) (hj : j < n) (hij : i ≠ j) :
    (A i j = 0 ∧ A j i = 0) ∨ (A i j = -1 ∧ A j i = -1) ∨ (A i j = -1 ∧ A j i = -2) ∨ (A i j = -2 ∧ A j i = -1) ∨ (A i j = -1 ∧ A j i = -3) ∨ (A i j = -3 ∧ A j i = -1) ∨
      (A i j < 0 ∧ A j i < 0 ∧ 4 ≤ A i j * A j i) := by
  have h1 := hA.nonpos i j hi hj hij
  have h2 := hA.nonpos j i hj hi (Ne.symm hij)
  have h3 := hA.zero i j hi hj
  have h4 := hA.zero j i hj hi
  generalize A i j = a at *
  generalize A j i = b at *
  by_cases ha : a = 0
  · exact .inl ⟨ha, h3 ha⟩
  have hb : b ≠ 0 := fun h => ha (h4 h)
  by_cases h : 4 ≤ a * b
  · exact .inr (.inr (.inr (.inr (.inr (.inr ⟨by omega, by omega, h⟩)))))
  obtain ⟨x, rfl⟩ : ∃ x : Nat, a = -(x : Int) - 1 := ⟨(-a - 1).toNat, by omega⟩
  obtain ⟨y, rfl⟩ : ∃ y : Nat, b = -(y : Int) - 1 := ⟨(-b - 1).toNat, by omega⟩
  have e : (-(x : Int) - 1) * (-(y : Int) - 1) = ((x * y + x + y + 1 : Nat) : Int) := by push_cast; grind
  rw [e] at h
  have h5 : x * y + x + y + 1 < 4 := by omega
  have hx : x ≤ 2 := by omega
  have hy : y ≤ 2 := by omega
  match x, y, hx, hy with
  | 0, 0, _, _ => simp
  | 0, 1, _, _ => simp
  | 0, 2, _, _ => simp
  | 1, 0, _, _ => simp
  | 2, 0, _, _ => simp
  | 1, 1, _, _ => omega
  | 1, 2, _, _ => omega
  | 2, 1, _, _ => omega
  | 2, 2, _, _ => omega

theorem run_braid (hA : Cartan A n) {i j : Nat} (hi : i < n) (hj : j < n) (hij : i ≠ j) (v : Vec) : run A (alt i j (bond A i j)) v = run A (alt j i (bond A i j)) v := by
  have d1 := hA.diag i hi
  have d2 := hA.diag j hj
  funext k
  rcases bonds hA hi hj hij with ⟨h1, h2⟩ | ⟨h1, h2⟩ | ⟨h1, h2⟩ | ⟨h1, h2⟩ | ⟨h1, h2⟩ | ⟨h1, h2⟩ | ⟨h1, h2, h3⟩
  all_goals first
    | (have hb : bond A i j = 2 := by simp [bond, h1, h2]
       rw [hb]; simp only [alt, run, List.foldl_cons, List.foldl_nil, refl, d1, d2, h1, h2]; grind)
    | (have hb : bond A i j = 3 := by simp [bond, h1, h2]
       rw [hb]; simp only [alt, run, List.foldl_cons, List.foldl_nil, refl, d1, d2, h1, h2]; grind)
    | (have hb : bond A i j = 4 := by simp [bond, h1, h2]
       rw [hb]; simp only [alt, run, List.foldl_cons, List.foldl_nil, refl, d1, d2, h1, h2]; grind)
    | (have hb : bond A i j = 6 := by simp [bond, h1, h2]
       rw [hb]; simp only [alt, run, List.foldl_cons, List.foldl_nil, refl, d1, d2, h1, h2]; grind)
    | (have hb : bond A i j = 0 := by
         unfold bond
         rw [if_neg (by omega), if_neg (by omega), if_neg (by omega), if_neg (by omega)]
       rw [hb]; rfl)

theorem run_br (hA : Cartan A n) {a b : List Nat} (h : Br A n a b) : ∀ v, run A a v = run A b v := by
  induction h with
  | refl w => exact fun _ => rfl
  | trans _ _ h1 h2 => exact fun v => (h1 v).trans (h2 v)
  | cons i _ h => exact fun v => h _
  | braid i j t hi hj hij _ => intro v; rw [run_append, run_append, run_braid hA hi hj hij]

theorem alt_mem {i j : Nat} : ∀ {m k : Nat}, k ∈ alt i j m → k = i ∨ k = j := by
  intro m
  induction m generalizing i j with
  | zero => intro k h; simp [alt] at h
  | succ m ih =>
    intro k h
    simp only [alt, List.mem_cons] at h
    rcases h with h | h
    · exact .inl h
    · exact (ih h).symm

theorem Br.mem {a b : List Nat} (h : Br A n a b) : (∀ i ∈ a, i < n) → ∀ i ∈ b, i < n := by
  induction h with
  | refl w => exact fun h => h
  | trans _ _ h1 h2 => exact fun h => h2 (h1 h)
  | cons i _ ih =>
    intro h k hk
    rcases List.mem_cons.1 hk with rfl | hk
    · exact h _ (List.mem_cons_self ..)
    · exact ih (fun k hk => h k (List.mem_cons_of_mem _ hk)) k hk
  | braid i j t hi hj =>
    intro h k hk
    rcases List.mem_append.1 hk with hk | hk
    · rcases alt_mem hk with rfl | rfl
      · exact hj
      · exact hi
    · exact h k (List.mem_append_right _ hk)

theorem act_br (hA : Cartan A n) {a b : List Nat} (h : Br A n a b) (ha : ∀ i ∈ a, i < n) (v : Vec) : act A a v = act A b v := by
  have hb := h.mem ha
  have e : v = run A a (act A a v) := (run_act hA a ha v).symm
  have e2 : act A b v = act A b (run A b (act A a v)) := by rw [← run_br hA h, ← e]
  rw [e2, act_run hA b hb]

/-- Negative numbers are fired in turn. -/
inductive Play (A : Mat) (n : Nat) : Vec → List Nat → Vec → Prop
  | nil (v : Vec) : Play A n v [] v
  | cons {v u : Vec} {i : Nat} {w : List Nat} : i < n → v i < 0 → Play A n (refl A i v) w u → Play A n v (i :: w) u

theorem Play.run {v u : Vec} {w : List Nat} (h : Play A n v w u) : u = run A w v := by
  induction h with
  | nil v => rfl
  | cons _ _ _ ih => exact ih

theorem Play.mem {v u : Vec} {w : List Nat} (h : Play A n v w u) : ∀ i ∈ w, i < n := by
  induction h with
  | nil v => simp
  | cons hi _ _ ih => intro k hk; rcases List.mem_cons.1 hk with rfl | hk; exact hi; exact ih k hk

theorem Play.append {v u x : Vec} {a b : List Nat} (h : Play A n v a u) (k : Play A n u b x) : Play A n v (a ++ b) x := by
  induction h with
  | nil v => exact k
  | cons hi hv _ ih => exact .cons hi hv (ih k)

theorem Play.back (hA : Cartan A n) {v u : Vec} {w : List Nat} (h : Play A n v w u) : v = act A w u := by
  rw [h.run, act_run hA w h.mem]

/-- Two letters in turn, without end. -/
theorem endless (hA : Cartan A n) : ∀ (N : Nat) {i j : Nat}, i < n → j < n → i ≠ j → A i j < 0 → A j i < 0 → 4 ≤ A i j * A j i → ∀ v : Vec, v i < 0 → -(A j i) * v i + 2 * v j ≤ 0 →
    ∃ u, Play A n v (alt i j N) u
  | 0, _, _, _, _, _, _, _, _, v, _, _ => ⟨v, .nil v⟩
  | N + 1, i, j, hi, hj, hij, ha, hb, hab, v, hv, hI => by
    have h1 : refl A i v j = v j - v i * A j i := rfl
    have h2 : refl A i v i = -(v i) := refl_self (hA.diag i hi) v
    have hp : 0 < v i * A j i := Int.mul_pos_of_neg_of_neg hv hb
    have hc : -(A j i) * v i = -(v i * A j i) := by grind
    rw [hc] at hI
    obtain ⟨u, hu⟩ := endless hA N hj hi (Ne.symm hij) hb ha (by rw [Int.mul_comm]; exact hab) (refl A i v) (by rw [h1]; omega) (by
      rw [h1, h2]
      have e : 2 * (-(A i j) * (v j - v i * A j i) + 2 * -(v i)) = -(A i j) * (2 * v j - v i * A j i) + (A i j * A j i - 4) * v i := by grind
      have k1 : -(A i j) * (2 * v j - v i * A j i) ≤ 0 := Int.mul_nonpos_of_nonneg_of_nonpos (by omega) (by omega)
      have k2 : (A i j * A j i - 4) * v i ≤ 0 := Int.mul_nonpos_of_nonneg_of_nonpos (by omega) (by omega)
      omega)
    exact ⟨u, .cons hi hv hu⟩

/-- Two letters in turn, up to the last but one step: the next number is the second one that there was. -/
theorem ladder (hA : Cartan A n) {i j : Nat} (hi : i < n) (hj : j < n) (hij : i ≠ j) (hb : bond A i j ≠ 0) (v : Vec) (hv : v i < 0) (hw : v j ≤ 0) :
    ∃ k u, k + 1 = bond A i j ∧ 0 < k ∧ Play A n v (alt i j k) u ∧ ((k % 2 = 0 ∧ u i = v j) ∨ (k % 2 = 1 ∧ u j = v j)) := by
  have d1 := hA.diag i hi
  have d2 := hA.diag j hj
  rcases bonds hA hi hj hij with ⟨h1, h2⟩ | ⟨h1, h2⟩ | ⟨h1, h2⟩ | ⟨h1, h2⟩ | ⟨h1, h2⟩ | ⟨h1, h2⟩ | ⟨h1, h2, h3⟩
  · refine ⟨1, _, by simp [bond, h1], by omega, .cons hi hv (.nil _), .inr ⟨rfl, ?_⟩⟩
    simp only [refl, d1, d2, h1, h2]; omega
  · refine ⟨2, _, by simp [bond, h1, h2], by omega, .cons hi hv (.cons hj ?_ (.nil _)), .inl ⟨rfl, ?_⟩⟩
    · simp only [refl, d1, d2, h1, h2]; omega
    · simp only [refl, d1, d2, h1, h2]; omega
  · refine ⟨3, _, by simp [bond, h1, h2], by omega, .cons hi hv (.cons hj ?_ (.cons hi ?_ (.nil _))), .inr ⟨rfl, ?_⟩⟩
    all_goals (simp only [refl, d1, d2, h1, h2]; omega)
  · refine ⟨3, _, by simp [bond, h1, h2], by omega, .cons hi hv (.cons hj ?_ (.cons hi ?_ (.nil _))), .inr ⟨rfl, ?_⟩⟩
    all_goals (simp only [refl, d1, d2, h1, h2]; omega)
  · refine ⟨5, _, by simp [bond, h1, h2], by omega, .cons hi hv (.cons hj ?_ (.cons hi ?_ (.cons hj ?_ (.cons hi ?_ (.nil _))))), .inr ⟨rfl, ?_⟩⟩
    all_goals (simp only [refl, d1, d2, h1, h2]; omega)
  · refine ⟨5, _, by simp [bond, h1, h2], by omega, .cons hi hv (.cons hj ?_ (.cons hi ?_ (.cons hj ?_ (.cons hi ?_ (.nil _))))), .inr ⟨rfl, ?_⟩⟩
    all_goals (simp only [refl, d1, d2, h1, h2]; omega)
  · exact absurd (by unfold bond; rw [if_neg (by omega), if_neg (by omega), if_neg (by omega), if_neg (by omega)]) hb

theorem alt_snoc (i j : Nat) : ∀ k, alt i j (k + 1) = alt i j k ++ [if k % 2 = 0 then i else j] := by
  intro k
  induction k generalizing i j with
  | zero => rfl
  | succ k ih =>
    rw [alt, ih j i]
    simp only [alt, List.cons_append, List.cons.injEq, true_and, List.append_cancel_left_eq, and_true]
    rcases Nat.mod_two_eq_zero_or_one k with h | h
    · rw [if_pos h, if_neg (by omega)]
    · rw [if_neg (by omega), if_pos (by omega)]

theorem polygon (hA : Cartan A n) {i j : Nat} (hi : i < n) (hj : j < n) (hij : i ≠ j) (hb : bond A i j ≠ 0) (v : Vec) (hv : v i < 0) (hw : v j < 0) :
    Play A n v (alt i j (bond A i j)) (run A (alt i j (bond A i j)) v) := by
  obtain ⟨k, u, hk, _, hp, hl⟩ := ladder hA hi hj hij hb v hv (by omega)
  have : Play A n v (alt i j k ++ [if k % 2 = 0 then i else j]) (refl A (if k % 2 = 0 then i else j) u) := by
    refine hp.append (.cons ?_ ?_ (.nil _))
    · split <;> assumption
    · rcases hl with ⟨h1, h2⟩ | ⟨h1, h2⟩
      · rw [if_pos h1, h2]; exact hw
      · rw [if_neg (by omega), h2]; exact hw
  rw [← alt_snoc, hk] at this
  rw [← this.run]
  exact this

/-- Every play can be continued to the end, which is one, and is braid-equal to every other one. -/
theorem conv (hA : Cartan A n) : ∀ (L : Nat) {v u : Vec} {w : List Nat}, w.length = L → Play A n v w u → (∀ i, i < n → 0 ≤ u i) →
    ∀ {w' : List Nat} {u' : Vec}, Play A n v w' u' → ∃ t, Play A n u' t u ∧ Br A n w (w' ++ t) := by
  intro L
  induction L using Nat.strongRecOn with
  | _ L ih =>
    intro v u w hL hp hu w' u' hp'
    cases hp' with
    | nil => exact ⟨w, hp, .refl _⟩
    | @cons _ _ j t' hj hvj hp' =>
      cases hp with
      | nil => exact absurd (hu j hj) (by omega)
      | @cons _ _ i t hi hvi hp =>
        simp only [List.length_cons] at hL
        by_cases hij : i = j
        · subst hij
          obtain ⟨r, hr, hb⟩ := ih t.length (by omega) rfl hp hu hp'
          exact ⟨r, hr, .cons _ hb⟩
        · by_cases hb : bond A i j = 0
          · exfalso
            have h3 : A i j < 0 ∧ A j i < 0 ∧ 4 ≤ A i j * A j i := by
              rcases bonds hA hi hj hij with ⟨h1, h2⟩ | ⟨h1, h2⟩ | ⟨h1, h2⟩ | ⟨h1, h2⟩ | ⟨h1, h2⟩ | ⟨h1, h2⟩ | h
              · simp [bond, h1, h2] at hb
              · simp [bond, h1, h2] at hb
              · simp [bond, h1, h2] at hb
              · simp [bond, h1, h2] at hb
              · simp [bond, h1, h2] at hb
              · simp [bond, h1, h2] at hb
              · exact h
            have hpos : 0 < v i * A j i := Int.mul_pos_of_neg_of_neg hvi h3.2.1
            have hc : -(A j i) * v i = -(v i * A j i) := by grind
            obtain ⟨x, hx⟩ := endless hA (L + 1) hi hj hij h3.1 h3.2.1 h3.2.2 v hvi (by rw [hc]; omega)
            cases hx with
            | cons _ _ hx =>
              obtain ⟨r, _, hbr⟩ := ih t.length (by omega) rfl hp hu hx
              have := hbr.length
              simp [alt_length] at this
              omega
          · have p1 := polygon hA hi hj hij hb v hvi hvj
            have p2 := polygon hA hj hi (Ne.symm hij) (by rwa [bond_symm]) v hvj hvi
            obtain ⟨m, hm⟩ : ∃ m, bond A i j = m + 1 := ⟨bond A i j - 1, by omega⟩
            have hm' : bond A j i = m + 1 := by rw [bond_symm]; exact hm
            have hend : run A (alt i j (bond A i j)) v = run A (alt j i (bond A j i)) v := by rw [run_braid hA hi hj hij, bond_symm j i]
            have hbr0 := Br.braid (A := A) (n := n) i j
            rw [hm] at p1 hend hbr0
            rw [hm'] at p2 hend
            cases p1 with
            | cons _ _ p1 =>
              obtain ⟨r, hr, hbr⟩ := ih t.length (by omega) rfl hp hu p1
              have hlen := hbr.length
              simp [alt_length] at hlen
              cases p2 with
              | cons _ _ p2 =>
                rw [hend] at hr
                have p3 := p2.append hr
                obtain ⟨s, hs, hbs⟩ := ih (alt i j m ++ r).length (by simp [alt_length]; omega) rfl p3 hu hp'
                refine ⟨s, hs, ?_⟩
                refine .trans (.cons i hbr) ?_
                have := hbr0 r hi hj hij (by omega)
                exact .trans this (.cons j hbs)

/-- Where a play ends in positive numbers, there was never a zero. -/
theorem nonzero (hA : Cartan A n) : ∀ (L : Nat) {v u : Vec} {w : List Nat}, w.length = L → Play A n v w u → (∀ i, i < n → 0 < u i) → ∀ j, j < n → v j ≠ 0 := by
  intro L
  induction L using Nat.strongRecOn with
  | _ L ih =>
    intro v u w hL hp hu j hj hz
    have hp0 := hp
    cases hp with
    | nil => exact absurd (hu j hj) (by omega)
    | @cons _ _ i t hi hvi hp =>
      simp only [List.length_cons] at hL
      have hij : i ≠ j := by rintro rfl; omega
      have later : ∀ (k : Nat) (x : Vec) (z : Nat), 0 < k → z < n → Play A n v (alt i j k) x → x z = 0 → False := by
        intro k x z hk hz' hx hxz
        obtain ⟨r, hr, hbr⟩ := conv hA _ rfl hp0 (fun i hi => Int.le_of_lt (hu i hi)) hx
        have := hbr.length
        simp [alt_length] at this
        exact ih r.length (by omega) rfl hr hu z hz' hxz
      by_cases hb : bond A i j = 0
      · have h3 : A i j < 0 ∧ A j i < 0 ∧ 4 ≤ A i j * A j i := by
          rcases bonds hA hi hj hij with ⟨h1, h2⟩ | ⟨h1, h2⟩ | ⟨h1, h2⟩ | ⟨h1, h2⟩ | ⟨h1, h2⟩ | ⟨h1, h2⟩ | h
          · simp [bond, h1, h2] at hb
          · simp [bond, h1, h2] at hb
          · simp [bond, h1, h2] at hb
          · simp [bond, h1, h2] at hb
          · simp [bond, h1, h2] at hb
          · simp [bond, h1, h2] at hb
          · exact h
        have hpos : 0 < v i * A j i := Int.mul_pos_of_neg_of_neg hvi h3.2.1
        have hc : -(A j i) * v i = -(v i * A j i) := by grind
        obtain ⟨x, hx⟩ := endless hA (L + 1) hi hj hij h3.1 h3.2.1 h3.2.2 v hvi (by rw [hc]; omega)
        obtain ⟨r, _, hbr⟩ := conv hA _ rfl hp0 (fun i hi => Int.le_of_lt (hu i hi)) hx
        have := hbr.length
        simp [alt_length] at this
        omega
      · obtain ⟨k, x, hk, hk0, hx, hl⟩ := ladder hA hi hj hij hb v hvi (by omega)
        rcases hl with ⟨_, h⟩ | ⟨_, h⟩
        · exact later k x i hk0 hi hx (h.trans hz)
        · exact later k x j hk0 hj hx (h.trans hz)

/-- From the image of a positive vector one can play back to it, in no more steps than the word has letters, and the steps make up the same element. -/
theorem back (hA : Cartan A n) {u : Vec} (hu : ∀ i, i < n → 0 < u i) : ∀ (w : List Nat), (∀ i ∈ w, i < n) → ∃ t, Play A n (act A w u) t u ∧ t.length ≤ w.length ∧ t.length % 2 = w.length % 2 ∧ ∀ x, act A t x = act A w x
  | [], _ => ⟨[], .nil _, Nat.le_refl _, rfl, fun _ => rfl⟩
  | i :: w, h => by
    have hi := h i (List.mem_cons_self ..)
    obtain ⟨t, hp, hl, hm, he⟩ := back hA hu w (fun k hk => h k (List.mem_cons_of_mem _ hk))
    have hnz := nonzero hA _ rfl hp hu i hi
    rw [act_cons]
    rcases Int.lt_or_gt_of_ne hnz with hneg | hpos
    · obtain ⟨s, hs, hbr⟩ := conv hA _ rfl hp (fun i hi => Int.le_of_lt (hu i hi)) (.cons hi hneg (.nil _))
      have hlen := hbr.length
      simp at hlen
      refine ⟨s, hs, by simp; omega, by simp; omega, fun x => ?_⟩
      rw [act_cons, ← he, act_br hA hbr hp.mem]
      simp only [List.cons_append, List.nil_append, act_cons]
      rw [refl_refl (hA.diag i hi)]
    · refine ⟨i :: t, .cons hi (by rw [refl_self (hA.diag i hi)]; omega) (by rw [refl_refl (hA.diag i hi)]; exact hp), by simp; omega, by simp; omega, fun x => ?_⟩
      rw [act_cons, act_cons, he]

/-- The image of a positive vector tells the element. -/
theorem faithful (hA : Cartan A n) {u : Vec} (hu : ∀ i, i < n → 0 < u i) {a b : List Nat} (ha : ∀ i ∈ a, i < n) (hb : ∀ i ∈ b, i < n) (h : act A a u = act A b u) (x : Vec) : act A a x = act A b x := by
  obtain ⟨s, hs, _, _, es⟩ := back hA hu a ha
  obtain ⟨t, ht, _, _, et⟩ := back hA hu b hb
  rw [h] at hs
  obtain ⟨r, hr, hbr⟩ := conv hA _ rfl hs (fun i hi => Int.le_of_lt (hu i hi)) ht
  have hr0 : r = [] := by
    cases hr with
    | nil => rfl
    | cons hi hv _ => exact absurd (hu _ hi) (by omega)
  subst hr0
  rw [← es, ← et, act_br hA hbr hs.mem, List.append_nil]

end Go.Cox
