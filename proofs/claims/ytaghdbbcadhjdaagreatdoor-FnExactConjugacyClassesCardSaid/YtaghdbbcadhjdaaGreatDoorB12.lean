/- The matrices of the named types: spec.TypeCartan, branch by branch (written by wip/tools/gendraw3.py). -/
import Derived.Test.YtaghdbbcadhjdaaGreatDoorB11
import Derived.Test.YtaghdbbcadhjdaaGreatDoorB10
import Derived.Test.YtaghdbbcadhjdaaGreatDoorB8
set_option linter.unusedVariables false
set_option linter.unusedSimpArgs false
namespace Go.Proofs.YtaghdbbcadhjdaaGreatDoor
open Go Go.Aw
def tcM : List UInt8 → List (List Int)
  | [65, 49] => chL 1
  | [65, 50] => chL 2
  | [65, 51] => chL 3
  | [65, 52] => chL 4
  | [66, 50] => set1 (set1 (chL 2) 0 1 (-1)) 1 0 (-2)
  | [66, 51] => set1 (set1 (chL 3) 1 2 (-1)) 2 1 (-2)
  | [66, 52] => set1 (set1 (chL 4) 2 3 (-1)) 3 2 (-2)
  | [67, 51] => set1 (set1 (chL 3) 1 2 (-2)) 2 1 (-1)
  | [67, 52] => set1 (set1 (chL 4) 2 3 (-2)) 3 2 (-1)
  | [68, 52] => set1 (set1 (set1 (set1 (chL 4) 2 3 (0)) 3 2 (0)) 1 3 (-1)) 3 1 (-1)
  | [70, 52] => set1 (set1 (chL 4) 1 2 (-1)) 2 1 (-2)
  | [71, 50] => set1 (set1 (chL 2) 0 1 (-1)) 1 0 (-3)
  | [65, 49, 126] => set1 (set1 (chL 2) 0 1 (-2)) 1 0 (-2)
  | [65, 50, 126] => set1 (set1 (chL 3) 0 2 (-1)) 2 0 (-1)
  | [65, 51, 126] => set1 (set1 (chL 4) 0 3 (-1)) 3 0 (-1)
  | [67, 50, 126] => set1 (set1 (set1 (set1 (chL 3) 0 1 (-1)) 1 0 (-2)) 1 2 (-2)) 2 1 (-1)
  | [71, 50, 126] => set1 (set1 (chL 3) 1 2 (-1)) 2 1 (-3)
  | _ => []
def tcN : List (List UInt8) := [[65, 49], [65, 50], [65, 51], [65, 52], [66, 50], [66, 51], [66, 52], [67, 51], [67, 52], [68, 52], [70, 52], [71, 50], [65, 49, 126], [65, 50, 126], [65, 51, 126], [67, 50, 126], [71, 50, 126]]
set_option maxHeartbeats 1000000 in
theorem c_TypeCartan (nm : List UInt8) (hm : nm ∈ tcN) : FunA B 148 [.str nm] (fun rs o => rs = [.own 0 0, .bool true] ∧ ∃ hs, o = [.mat hs (tcM nm) 0 true]) := by
  refine FunA.walk B_ok (fn := Tryz.f148) (fun vs w => Tryz.call148 vs w) Tryz.func148 rfl (by rw [Tryz.ntmps148]; simp) (fun C hC hP hT hΓ hbt hfn hpin hfin => ?_); have hX := BX; rw [← hΓ, ← hbt.1, ← hbt.2.1, ← hbt.2.2.1] at hX; rw [hT] at hX; rw [Tryz.ntmps148]; simp only [AW7, simprocAttr, hX]
  refine Run.R ?_
  refine Run.R ?_
  refine Run.R ?_
  refine Run.nq ?_; refine Run.cW ?_ ?_
  · intro h
    have h : nm = [65, 49] := by simpa using h
    subst h
    refine Run.nq ?_; refine Run.cW ?_ ?_
    rotate_left
    · intro h; exact absurd h (by decide)
    intro _
    refine Run.nq ?_; refine Run.regionW hC (fun K hK => ?_); refine wW ?_
    refine FunA.callW hP hT (c_l2Chain 1 (by omega)) (by simp only [AW7, simprocAttr]; first | rfl | trivial) ?_
    rintro rs o ⟨rfl, hs, rfl⟩
    refine wW ?_
    refine wE ?_; clear hK K
    refine Run.reK hpin [2, 3] [0] (by decide) (by simp) ?_; simp only [AR, AW7, simprocAttr]
    refine Run.rW [2, 3] (hfin _ _ rfl rfl ?_)
    exact ⟨rfl, hs, rfl⟩
  intro n0
  have n0 : ¬ nm = [65, 49] := by simpa using n0
  refine Run.R ?_
  refine Run.nq ?_; refine Run.cW ?_ ?_
  · intro h
    have h : nm = [65, 50] := by simpa using h
    subst h
    refine Run.nq ?_; refine Run.cW ?_ ?_
    rotate_left
    · intro h; exact absurd h (by decide)
    intro _
    refine Run.nq ?_; refine Run.regionW hC (fun K hK => ?_); refine wW ?_
    refine FunA.callW hP hT (c_l2Chain 2 (by omega)) (by simp only [AW7, simprocAttr]; first | rfl | trivial) ?_
    rintro rs o ⟨rfl, hs, rfl⟩
    refine wW ?_
    refine wE ?_; clear hK K
    refine Run.reK hpin [2, 3] [0] (by decide) (by simp) ?_; simp only [AR, AW7, simprocAttr]
    refine Run.rW [2, 3] (hfin _ _ rfl rfl ?_)
    exact ⟨rfl, hs, rfl⟩
  intro n1
  have n1 : ¬ nm = [65, 50] := by simpa using n1
  refine Run.R ?_
  refine Run.nq ?_; refine Run.cW ?_ ?_
  · intro h
    have h : nm = [65, 51] := by simpa using h
    subst h
    refine Run.nq ?_; refine Run.cW ?_ ?_
    rotate_left
    · intro h; exact absurd h (by decide)
    intro _
    refine Run.nq ?_; refine Run.regionW hC (fun K hK => ?_); refine wW ?_
    refine FunA.callW hP hT (c_l2Chain 3 (by omega)) (by simp only [AW7, simprocAttr]; first | rfl | trivial) ?_
    rintro rs o ⟨rfl, hs, rfl⟩
    refine wW ?_
    refine wE ?_; clear hK K
    refine Run.reK hpin [2, 3] [0] (by decide) (by simp) ?_; simp only [AR, AW7, simprocAttr]
    refine Run.rW [2, 3] (hfin _ _ rfl rfl ?_)
    exact ⟨rfl, hs, rfl⟩
  intro n2
  have n2 : ¬ nm = [65, 51] := by simpa using n2
  refine Run.R ?_
  refine Run.nq ?_; refine Run.cW ?_ ?_
  · intro h
    have h : nm = [65, 52] := by simpa using h
    subst h
    refine Run.nq ?_; refine Run.regionW hC (fun K hK => ?_); refine wW ?_
    refine FunA.callW hP hT (c_l2Chain 4 (by omega)) (by simp only [AW7, simprocAttr]; first | rfl | trivial) ?_
    rintro rs o ⟨rfl, hs, rfl⟩
    refine wW ?_
    refine wE ?_; clear hK K
    refine Run.reK hpin [2, 3] [0] (by decide) (by simp) ?_; simp only [AR, AW7, simprocAttr]
    refine Run.rW [2, 3] (hfin _ _ rfl rfl ?_)
    exact ⟨rfl, hs, rfl⟩
  intro n3
  have n3 : ¬ nm = [65, 52] := by simpa using n3
  refine Run.R ?_
  refine Run.nq ?_; refine Run.cW ?_ ?_
  · intro h
    have h : nm = [66, 50] := by simpa using h
    subst h
    refine Run.nq ?_; refine Run.regionW hC (fun K hK => ?_); refine wW ?_
    refine FunA.cW hP hT (c_l2Chain 2 (by omega)) ?_
    rintro rs o ⟨rfl, hs, rfl⟩
    refine wW ?_
    refine FunA.cW hP hT (c_l2Set (chL 2) 0 1 (-1) (-2) (by decide) (by decide) (by decide) (by decide) (by decide) (by decide)) ?_
    rintro rs o ⟨rfl, hs1, rfl⟩
    refine wW ?_
    refine wE ?_; clear hK K
    refine Run.reK hpin [2, 3] [1] (by decide) (by simp) ?_; simp only [AR, AW7, simprocAttr]
    refine Run.rW [2, 3] (hfin _ _ rfl rfl ?_)
    exact ⟨rfl, hs1, rfl⟩
  intro n4
  have n4 : ¬ nm = [66, 50] := by simpa using n4
  refine Run.R ?_
  refine Run.nq ?_; refine Run.cW ?_ ?_
  · intro h
    have h : nm = [66, 51] := by simpa using h
    subst h
    refine Run.nq ?_; refine Run.regionW hC (fun K hK => ?_); refine wW ?_
    refine FunA.cW hP hT (c_l2Chain 3 (by omega)) ?_
    rintro rs o ⟨rfl, hs, rfl⟩
    refine wW ?_
    refine FunA.cW hP hT (c_l2Set (chL 3) 1 2 (-1) (-2) (by decide) (by decide) (by decide) (by decide) (by decide) (by decide)) ?_
    rintro rs o ⟨rfl, hs1, rfl⟩
    refine wW ?_
    refine wE ?_; clear hK K
    refine Run.reK hpin [2, 3] [1] (by decide) (by simp) ?_; simp only [AR, AW7, simprocAttr]
    refine Run.rW [2, 3] (hfin _ _ rfl rfl ?_)
    exact ⟨rfl, hs1, rfl⟩
  intro n5
  have n5 : ¬ nm = [66, 51] := by simpa using n5
  refine Run.R ?_
  refine Run.nq ?_; refine Run.cW ?_ ?_
  · intro h
    have h : nm = [66, 52] := by simpa using h
    subst h
    refine Run.nq ?_; refine Run.regionW hC (fun K hK => ?_); refine wW ?_
    refine FunA.cW hP hT (c_l2Chain 4 (by omega)) ?_
    rintro rs o ⟨rfl, hs, rfl⟩
    refine wW ?_
    refine FunA.cW hP hT (c_l2Set (chL 4) 2 3 (-1) (-2) (by decide) (by decide) (by decide) (by decide) (by decide) (by decide)) ?_
    rintro rs o ⟨rfl, hs1, rfl⟩
    refine wW ?_
    refine wE ?_; clear hK K
    refine Run.reK hpin [2, 3] [1] (by decide) (by simp) ?_; simp only [AR, AW7, simprocAttr]
    refine Run.rW [2, 3] (hfin _ _ rfl rfl ?_)
    exact ⟨rfl, hs1, rfl⟩
  intro n6
  have n6 : ¬ nm = [66, 52] := by simpa using n6
  refine Run.R ?_
  refine Run.nq ?_; refine Run.cW ?_ ?_
  · intro h
    have h : nm = [67, 51] := by simpa using h
    subst h
    refine Run.nq ?_; refine Run.regionW hC (fun K hK => ?_); refine wW ?_
    refine FunA.cW hP hT (c_l2Chain 3 (by omega)) ?_
    rintro rs o ⟨rfl, hs, rfl⟩
    refine wW ?_
    refine FunA.cW hP hT (c_l2Set (chL 3) 1 2 (-2) (-1) (by decide) (by decide) (by decide) (by decide) (by decide) (by decide)) ?_
    rintro rs o ⟨rfl, hs1, rfl⟩
    refine wW ?_
    refine wE ?_; clear hK K
    refine Run.reK hpin [2, 3] [1] (by decide) (by simp) ?_; simp only [AR, AW7, simprocAttr]
    refine Run.rW [2, 3] (hfin _ _ rfl rfl ?_)
    exact ⟨rfl, hs1, rfl⟩
  intro n7
  have n7 : ¬ nm = [67, 51] := by simpa using n7
  refine Run.R ?_
  refine Run.nq ?_; refine Run.cW ?_ ?_
  · intro h
    have h : nm = [67, 52] := by simpa using h
    subst h
    refine Run.nq ?_; refine Run.regionW hC (fun K hK => ?_); refine wW ?_
    refine FunA.cW hP hT (c_l2Chain 4 (by omega)) ?_
    rintro rs o ⟨rfl, hs, rfl⟩
    refine wW ?_
    refine FunA.cW hP hT (c_l2Set (chL 4) 2 3 (-2) (-1) (by decide) (by decide) (by decide) (by decide) (by decide) (by decide)) ?_
    rintro rs o ⟨rfl, hs1, rfl⟩
    refine wW ?_
    refine wE ?_; clear hK K
    refine Run.reK hpin [2, 3] [1] (by decide) (by simp) ?_; simp only [AR, AW7, simprocAttr]
    refine Run.rW [2, 3] (hfin _ _ rfl rfl ?_)
    exact ⟨rfl, hs1, rfl⟩
  intro n8
  have n8 : ¬ nm = [67, 52] := by simpa using n8
  refine Run.R ?_
  refine Run.nq ?_; refine Run.cW ?_ ?_
  · intro h
    have h : nm = [68, 52] := by simpa using h
    subst h
    refine Run.nq ?_; refine Run.regionW hC (fun K hK => ?_); refine wW ?_
    refine FunA.cW hP hT (c_l2Chain 4 (by omega)) ?_
    rintro rs o ⟨rfl, hs, rfl⟩
    refine wW ?_
    refine FunA.cW hP hT (c_l2Set (chL 4) 2 3 (0) (0) (by decide) (by decide) (by decide) (by decide) (by decide) (by decide)) ?_
    rintro rs o ⟨rfl, hs1, rfl⟩
    refine wW ?_
    refine FunA.cW hP hT (c_l2Set (set1 (set1 (chL 4) 2 3 (0)) 3 2 (0)) 1 3 (-1) (-1) (by decide) (by decide) (by decide) (by decide) (by decide) (by decide)) ?_
    rintro rs o ⟨rfl, hs2, rfl⟩
    refine wW ?_
    refine wE ?_; clear hK K
    refine Run.reK hpin [2, 3] [2] (by decide) (by simp) ?_; simp only [AR, AW7, simprocAttr]
    refine Run.rW [2, 3] (hfin _ _ rfl rfl ?_)
    exact ⟨rfl, hs2, rfl⟩
  intro n9
  have n9 : ¬ nm = [68, 52] := by simpa using n9
  refine Run.R ?_
  refine Run.nq ?_; refine Run.cW ?_ ?_
  · intro h
    have h : nm = [70, 52] := by simpa using h
    subst h
    refine Run.nq ?_; refine Run.regionW hC (fun K hK => ?_); refine wW ?_
    refine FunA.cW hP hT (c_l2Chain 4 (by omega)) ?_
    rintro rs o ⟨rfl, hs, rfl⟩
    refine wW ?_
    refine FunA.cW hP hT (c_l2Set (chL 4) 1 2 (-1) (-2) (by decide) (by decide) (by decide) (by decide) (by decide) (by decide)) ?_
    rintro rs o ⟨rfl, hs1, rfl⟩
    refine wW ?_
    refine wE ?_; clear hK K
    refine Run.reK hpin [2, 3] [1] (by decide) (by simp) ?_; simp only [AR, AW7, simprocAttr]
    refine Run.rW [2, 3] (hfin _ _ rfl rfl ?_)
    exact ⟨rfl, hs1, rfl⟩
  intro n10
  have n10 : ¬ nm = [70, 52] := by simpa using n10
  refine Run.R ?_
  refine Run.nq ?_; refine Run.cW ?_ ?_
  · intro h
    have h : nm = [71, 50] := by simpa using h
    subst h
    refine Run.nq ?_; refine Run.regionW hC (fun K hK => ?_); refine wW ?_
    refine FunA.cW hP hT (c_l2Chain 2 (by omega)) ?_
    rintro rs o ⟨rfl, hs, rfl⟩
    refine wW ?_
    refine FunA.cW hP hT (c_l2Set (chL 2) 0 1 (-1) (-3) (by decide) (by decide) (by decide) (by decide) (by decide) (by decide)) ?_
    rintro rs o ⟨rfl, hs1, rfl⟩
    refine wW ?_
    refine wE ?_; clear hK K
    refine Run.reK hpin [2, 3] [1] (by decide) (by simp) ?_; simp only [AR, AW7, simprocAttr]
    refine Run.rW [2, 3] (hfin _ _ rfl rfl ?_)
    exact ⟨rfl, hs1, rfl⟩
  intro n11
  have n11 : ¬ nm = [71, 50] := by simpa using n11
  refine Run.R ?_
  refine Run.nq ?_; refine Run.cW ?_ ?_
  · intro h
    have h : nm = [65, 49, 126] := by simpa using h
    subst h
    refine Run.nq ?_; refine Run.regionW hC (fun K hK => ?_); refine wW ?_
    refine FunA.cW hP hT (c_l2Chain 2 (by omega)) ?_
    rintro rs o ⟨rfl, hs, rfl⟩
    refine wW ?_
    refine FunA.cW hP hT (c_l2Set (chL 2) 0 1 (-2) (-2) (by decide) (by decide) (by decide) (by decide) (by decide) (by decide)) ?_
    rintro rs o ⟨rfl, hs1, rfl⟩
    refine wW ?_
    refine wE ?_; clear hK K
    refine Run.reK hpin [2, 3] [1] (by decide) (by simp) ?_; simp only [AR, AW7, simprocAttr]
    refine Run.rW [2, 3] (hfin _ _ rfl rfl ?_)
    exact ⟨rfl, hs1, rfl⟩
  intro n12
  have n12 : ¬ nm = [65, 49, 126] := by simpa using n12
  refine Run.R ?_
  refine Run.nq ?_; refine Run.cW ?_ ?_
  · intro h
    have h : nm = [65, 50, 126] := by simpa using h
    subst h
    refine Run.nq ?_; refine Run.regionW hC (fun K hK => ?_); refine wW ?_
    refine FunA.cW hP hT (c_l2Chain 3 (by omega)) ?_
    rintro rs o ⟨rfl, hs, rfl⟩
    refine wW ?_
    refine FunA.cW hP hT (c_l2Set (chL 3) 0 2 (-1) (-1) (by decide) (by decide) (by decide) (by decide) (by decide) (by decide)) ?_
    rintro rs o ⟨rfl, hs1, rfl⟩
    refine wW ?_
    refine wE ?_; clear hK K
    refine Run.reK hpin [2, 3] [1] (by decide) (by simp) ?_; simp only [AR, AW7, simprocAttr]
    refine Run.rW [2, 3] (hfin _ _ rfl rfl ?_)
    exact ⟨rfl, hs1, rfl⟩
  intro n13
  have n13 : ¬ nm = [65, 50, 126] := by simpa using n13
  refine Run.R ?_
  refine Run.nq ?_; refine Run.cW ?_ ?_
  · intro h
    have h : nm = [65, 51, 126] := by simpa using h
    subst h
    refine Run.nq ?_; refine Run.regionW hC (fun K hK => ?_); refine wW ?_
    refine FunA.cW hP hT (c_l2Chain 4 (by omega)) ?_
    rintro rs o ⟨rfl, hs, rfl⟩
    refine wW ?_
    refine FunA.cW hP hT (c_l2Set (chL 4) 0 3 (-1) (-1) (by decide) (by decide) (by decide) (by decide) (by decide) (by decide)) ?_
    rintro rs o ⟨rfl, hs1, rfl⟩
    refine wW ?_
    refine wE ?_; clear hK K
    refine Run.reK hpin [2, 3] [1] (by decide) (by simp) ?_; simp only [AR, AW7, simprocAttr]
    refine Run.rW [2, 3] (hfin _ _ rfl rfl ?_)
    exact ⟨rfl, hs1, rfl⟩
  intro n14
  have n14 : ¬ nm = [65, 51, 126] := by simpa using n14
  refine Run.R ?_
  refine Run.nq ?_; refine Run.cW ?_ ?_
  · intro h
    have h : nm = [67, 50, 126] := by simpa using h
    subst h
    refine Run.nq ?_; refine Run.regionW hC (fun K hK => ?_); refine wW ?_
    refine FunA.cW hP hT (c_l2Chain 3 (by omega)) ?_
    rintro rs o ⟨rfl, hs, rfl⟩
    refine wW ?_
    refine FunA.cW hP hT (c_l2Set (chL 3) 0 1 (-1) (-2) (by decide) (by decide) (by decide) (by decide) (by decide) (by decide)) ?_
    rintro rs o ⟨rfl, hs1, rfl⟩
    refine wW ?_
    refine FunA.cW hP hT (c_l2Set (set1 (set1 (chL 3) 0 1 (-1)) 1 0 (-2)) 1 2 (-2) (-1) (by decide) (by decide) (by decide) (by decide) (by decide) (by decide)) ?_
    rintro rs o ⟨rfl, hs2, rfl⟩
    refine wW ?_
    refine wE ?_; clear hK K
    refine Run.reK hpin [2, 3] [2] (by decide) (by simp) ?_; simp only [AR, AW7, simprocAttr]
    refine Run.rW [2, 3] (hfin _ _ rfl rfl ?_)
    exact ⟨rfl, hs2, rfl⟩
  intro n15
  have n15 : ¬ nm = [67, 50, 126] := by simpa using n15
  refine Run.R ?_
  refine Run.nq ?_; refine Run.cW ?_ ?_
  · intro h
    have h : nm = [71, 50, 126] := by simpa using h
    subst h
    refine Run.nq ?_; refine Run.regionW hC (fun K hK => ?_); refine wW ?_
    refine FunA.cW hP hT (c_l2Chain 3 (by omega)) ?_
    rintro rs o ⟨rfl, hs, rfl⟩
    refine wW ?_
    refine FunA.cW hP hT (c_l2Set (chL 3) 1 2 (-1) (-3) (by decide) (by decide) (by decide) (by decide) (by decide) (by decide)) ?_
    rintro rs o ⟨rfl, hs1, rfl⟩
    refine wW ?_
    refine wE ?_; clear hK K
    refine Run.reK hpin [2, 3] [1] (by decide) (by simp) ?_; simp only [AR, AW7, simprocAttr]
    refine Run.rW [2, 3] (hfin _ _ rfl rfl ?_)
    exact ⟨rfl, hs1, rfl⟩
  intro n16
  have n16 : ¬ nm = [71, 50, 126] := by simpa using n16
  exact absurd hm (by simp [tcN, n0, n1, n2, n3, n4, n5, n6, n7, n8, n9, n10, n11, n12, n13, n14, n15, n16])
end Go.Proofs.YtaghdbbcadhjdaaGreatDoor
namespace Go.Proofs.YtaghdbbcadhjdaaGreatDoor
open Go Go.Aw Go.Cox
def badB (c : List (List Int)) (i j : Nat) : Bool := bif i == j then !decide (ent c i j = 2) else decide (ent c i j < -3) || decide (0 < ent c i j) || (decide (ent c i j = 0) != decide (ent c j i = 0))
def ctB (c : List (List Int)) : Bool := Nat.ble 1 c.length && Nat.ble c.length 4 && (List.range c.length).all (fun i => (c.getD i []).length == c.length) && (List.range c.length).all fun i => (List.range c.length).all fun j => !badB c i j
theorem badB_iff (c : List (List Int)) (i j : Nat) : badB c i j = true ↔ badE c i j := by
  unfold badB badE
  by_cases h : i = j
  · subst h; simp
  · have : (i == j) = false := by simpa using h
    rw [this]
    simp only [cond_false, h, false_and, false_or, ne_eq, not_false_eq_true, true_and, Bool.or_eq_true, decide_eq_true_eq, bne_iff_ne, or_assoc]
    constructor
    · rintro (h1 | h1 | h1)
      · exact .inl h1
      · exact .inr (.inl h1)
      · refine .inr (.inr fun h2 => h1 ?_)
        rw [Bool.eq_iff_iff, decide_eq_true_eq, decide_eq_true_eq]; exact h2
    · rintro (h1 | h1 | h1)
      · exact .inl h1
      · exact .inr (.inl h1)
      · refine .inr (.inr fun h2 => h1 ?_)
        rw [Bool.eq_iff_iff, decide_eq_true_eq, decide_eq_true_eq] at h2; exact h2
theorem ctB_eq (c : List (List Int)) : isC c = ctB c := by
  rw [Bool.eq_iff_iff, isC_iff]
  simp only [ctB, CartanP, Bool.and_eq_true, List.all_eq_true, List.mem_range, Bool.not_eq_true', beq_iff_eq, Nat.ble_eq]
  constructor
  · rintro ⟨h1, h2, h3, h4⟩
    refine ⟨⟨⟨h1, h2⟩, h3⟩, fun i hi j hj => ?_⟩
    rw [Bool.eq_false_iff]
    exact fun e => h4 i j hi hj ((badB_iff c i j).1 e)
  · rintro ⟨⟨⟨h1, h2⟩, h3⟩, h4⟩
    refine ⟨h1, h2, h3, fun i j hi hj e => ?_⟩
    have := h4 i hi j hj
    rw [(badB_iff c i j).2 e] at this
    cases this
def nbI (c : List (List Int)) (i : Nat) : List Int := ((List.range c.length).filter fun j => !(j == i) && !(ent c i j == 0)).map Int.ofNat
def stJ (p : List Bool × List Int) (j : Int) : List Bool × List Int := bif p.1.getD j.toNat false then p else (p.1.set j.toNat true, p.2 ++ [j])
def grP (c : List (List Int)) : Nat → Nat → List Bool × List Int → List Bool × List Int
  | 0, _, p => p
  | f + 1, k, p => bif Nat.blt k p.2.length then grP c f (k + 1) ((nbI c (p.2.getD k 0).toNat).foldl stJ p) else p
def insI (x : Int) : List Int → List Int
  | [] => [x]
  | y :: l => bif decide (x ≤ y) then x :: y :: l else y :: insI x l
def sortI (l : List Int) : List Int := l.foldr insI []
def ptS (c : List (List Int)) (p : List Bool × List (List Int)) (i : Nat) : List Bool × List (List Int) :=
  bif p.1.getD i false then p else ((grP c (c.length + 1) 0 (p.1.set i true, [(i : Int)])).1, p.2 ++ [sortI (grP c (c.length + 1) 0 (p.1.set i true, [(i : Int)])).2])
def partsI (c : List (List Int)) : List (List Int) := ((List.range c.length).foldl (ptS c) (List.replicate c.length false, [])).2
def partS (c : List (List Int)) (i : Nat) : List Int := ((List.range c.length).filter fun (k : Nat) => (grP c (c.length + 1) 0 ((List.replicate c.length false).set i true, [(i : Int)])).1.getD k false).map Int.ofNat
def partsS (c : List (List Int)) : List (List Int) := ((List.range c.length).map (partS c)).zipIdx.filterMap fun p => bif p.1.getD 0 0 == (p.2 : Int) then some p.1 else none
def tyL : List (List UInt8 × List (List Int) × Nat) := [
  ([65, 49], [[2]], 2), ([65, 50], [[2, -1], [-1, 2]], 6), ([65, 51], [[2, -1, 0], [-1, 2, -1], [0, -1, 2]], 24), ([65, 52], [[2, -1, 0, 0], [-1, 2, -1, 0], [0, -1, 2, -1], [0, 0, -1, 2]], 120),
  ([66, 50], [[2, -1], [-2, 2]], 8), ([66, 51], [[2, -1, 0], [-1, 2, -1], [0, -2, 2]], 48), ([66, 52], [[2, -1, 0, 0], [-1, 2, -1, 0], [0, -1, 2, -1], [0, 0, -2, 2]], 384),
  ([67, 51], [[2, -1, 0], [-1, 2, -2], [0, -1, 2]], 48), ([67, 52], [[2, -1, 0, 0], [-1, 2, -1, 0], [0, -1, 2, -2], [0, 0, -1, 2]], 384),
  ([68, 52], [[2, -1, 0, 0], [-1, 2, -1, -1], [0, -1, 2, 0], [0, -1, 0, 2]], 192), ([70, 52], [[2, -1, 0, 0], [-1, 2, -1, 0], [0, -2, 2, -1], [0, 0, -1, 2]], 1152), ([71, 50], [[2, -1], [-3, 2]], 12),
  ([65, 49, 126], [[2, -2], [-2, 2]], 0), ([65, 50, 126], [[2, -1, -1], [-1, 2, -1], [-1, -1, 2]], 0), ([65, 51, 126], [[2, -1, 0, -1], [-1, 2, -1, 0], [0, -1, 2, -1], [-1, 0, -1, 2]], 0),
  ([67, 50, 126], [[2, -1, 0], [-2, 2, -2], [0, -1, 2]], 0), ([71, 50, 126], [[2, -1, 0], [-1, 2, -1], [0, -3, 2]], 0)]
def fitM (a b : List (List Int)) (order : List Int) (i : Nat) : Bool := order.zipIdx.all fun p => decide (ent a i p.1.toNat = ent b order.length p.2) && decide (ent a p.1.toNat i = ent b p.2 order.length)
def mtL (a b : List (List Int)) (rec : List Int → Int → List (List Int)) (order : List Int) (most : Int) : List Nat → List (List Int) → List (List Int)
  | [], out => out
  | i :: r, out => bif decide ((i : Int) ∈ order) then mtL a b rec order most r out else
      bif decide (most ≤ ((out ++ (bif fitM a b order i then rec (order ++ [(i : Int)]) (most - out.length) else [])).length : Int)) then out ++ (bif fitM a b order i then rec (order ++ [(i : Int)]) (most - out.length) else [])
      else mtL a b rec order most r (out ++ (bif fitM a b order i then rec (order ++ [(i : Int)]) (most - out.length) else []))
def mtI (a b : List (List Int)) : Nat → List Int → Int → List (List Int)
  | 0, order, _ => [order]
  | f + 1, order, most => mtL a b (mtI a b f) order most (List.range a.length) []
def isoI (a b : List (List Int)) : Bool := a.length == b.length && (ctB a && ctB b && !(mtI a b b.length [] 1).isEmpty)
def firstT (iso : List (List Int) → List (List Int) → Bool) (a : List (List Int)) : List (List UInt8 × List (List Int) × Nat) → List UInt8
  | [] => [63]
  | t :: l => bif iso a t.2.1 then t.1 else firstT iso a l
def nameI (a : List (List Int)) : List UInt8 := bif ctB a && (partsI a).length == 1 then firstT isoI a tyL else []
def ordN (n : Nat) : Nat → List (List Int)
  | 0 => [[]]
  | k + 1 => (ordN n k).flatMap fun o => ((List.range n).filter fun (x : Nat) => !decide ((x : Int) ∈ o)).map fun (x : Nat) => o ++ [(x : Int)]
def isoS (a b : List (List Int)) : Bool := a.length == b.length && (ctB a && ctB b && (ordN a.length a.length).any fun o => decide (pick a o = b))
def nameS (a : List (List Int)) : List UInt8 := firstT isoS a tyL
def joinX : List (List UInt8) → List UInt8
  | [] => []
  | [x] => x
  | x :: y :: l => x ++ [120] ++ joinX (y :: l)
def cutX : List UInt8 → List UInt8 → List (List UInt8)
  | p, [] => [p]
  | p, b :: l => bif b == 120 then p :: cutX [] l else cutX (p ++ [b]) l
def sizeT (s : List UInt8) : Nat := match tyL.find? (fun t => t.1 == s) with
  | some t => t.2.2
  | none => 0
def sizeL (l : List (List UInt8)) : Int := bif Nat.ble l.length 4 then l.foldl (fun n p => n * (sizeT p : Int)) 1 else 0
def sizeI (c : List (List Int)) : Int := sizeL (cutX [] (joinX ((partsI c).map fun p => nameI (pick c p))))
def sizeS (c : List (List Int)) : Int := sizeL (cutX [] (joinX ((partsS c).map fun p => nameS (pick c p))))
def rf1 (a : Int) : List Int → List Int → List Int
  | x :: v, y :: col => Int.sub x (Int.mul a y) :: rf1 a v col
  | _, _ => []
def posI : Int → Bool
  | .ofNat 0 => false
  | .ofNat (_ + 1) => true
  | .negSucc _ => false
def nngI : Int → Bool
  | .ofNat _ => true
  | .negSucc _ => false
def preI : Nat → List Int → Bool
  | 0, _ => true
  | i + 1, y :: l => nngI y && preI i l
  | _, [] => true
def nxC (x : List Int) : Nat → List Int → List (List Int) → List (List Int)
  | i, a :: r, col :: cs => bif posI a then (bif preI i (rf1 a x col) then rf1 a x col :: nxC x (i + 1) r cs else nxC x (i + 1) r cs) else nxC x (i + 1) r cs
  | _, _, _ => []
def colsI (c : List (List Int)) : List (List Int) := (List.range c.length).map fun i => (List.range c.length).map fun k => ent c k i
def cntG (cols : List (List Int)) : Nat → List (List Int) → Nat
  | 0, _ => 0
  | f + 1, sh => bif sh.isEmpty then 0 else sh.length + cntG cols f (sh.flatMap fun x => nxC x 0 x cols)
def cntN (c : List (List Int)) : Nat := cntG (colsI c) 25 [ones c.length]
def chkN (c : List (List Int)) : Bool := decide (sizeI c = sizeS c) && decide (0 < sizeI c) && (decide (200 < sizeI c) || decide ((cntN c : Int) = sizeI c))
end Go.Proofs.YtaghdbbcadhjdaaGreatDoor
namespace Go.Proofs.YtaghdbbcadhjdaaGreatDoor
open Go Go.Aw
theorem c_impl_chainR (n : Nat) (hn : n ≤ 8) : FunA B 179 [.int .i64 n] (fun rs o => ∃ ys g nn rest, (rw2 ys = chL n ∧ nn = true ∧ rest = []) ∧ (lb1 ys).Nodup ∧ rest.all flatAV = true ∧ rs = .own 0 g :: rest ∧ o = [.arr .lrow ys g nn]) := by
  refine FunA.walk B_ok (fn := Tryz.f179) (fun vs w => Tryz.call179 vs w) Tryz.func179 rfl (by rw [Tryz.ntmps179]; simp) (fun C hC hP hT hΓ hbt hfn hpin hfin => ?_); have hX := BX; rw [← hΓ, ← hbt.1, ← hbt.2.1, ← hbt.2.2.1] at hX; rw [hT] at hX; rw [Tryz.ntmps179]; simp only [AW7, simprocAttr, hX]
  refine Run.R ?_
  refine Run.R ?_
  refine Run.R ?_
  refine Run.loopI (X := List (Nat × List Int) × Nat) (fun y => ⟨36, [(0, true, .v (.int .i64 (n))), (3, true, .v (.own 0 0)), (7, true, .v (.int .i64 (n))), (8, true, .v (.int .i64 (y.2)))], [.arr .lrow (y.1) 0 true]⟩) (fun y => y.2 ≤ n ∧ rw2 y.1 = (List.range y.2).map (chR n) ∧ (lb1 y.1).Nodup) (fun y => n - y.2) (([], 0)) (⟨Nat.zero_le _, rfl, by simp [lb1]⟩) ?_ ?_
  · exact Le.sub (by first | rfl | simp) (by simp only [AW7, simprocAttr, hX]; try simp <;> try (first | rfl | exact ⟨rfl, rfl⟩ | exact ⟨rfl, rfl, rfl⟩))
  rintro ⟨ys, i⟩ ⟨hi, hE, hN⟩ ih
  try simp only []
  simp only [] at hi hE hN
  refine Run.R ?_
  refine Run.nq ?_; refine Run.cW ?_ ?_
  rotate_left
  · intro h
    have h : i = n := by rw [decide_eq_false_iff_not] at h; omega
    subst h
    refine Run.exit rfl ?_; refine Run.nq ?_
    refine Run.R ?_
    refine Run.rW [2] (hfin _ _ rfl rfl ?_)
    exact ⟨ys, 0, true, [], ⟨hE, rfl, rfl⟩, hN, rfl, rfl, rfl⟩
  intro h
  have h : i < n := by rw [decide_eq_true_eq] at h; omega
  have e1 : ((i : Int) - 1).toNat = i - 1 := by omega
  have e2 : ((i : Int) + 1).toNat = i + 1 := by omega
  have hyl : ys.length = i := by have : (rw2 ys).length = ys.length := by simp [rw2]
                                 rw [hE] at this; simpa using this.symm
  have hch := chR_eq n i h
  refine Run.R ?_
  refine Run.R ?_
  refine Run.R ?_
  refine Run.R ?_
  refine Run.nq ?_; refine Run.cW ?_ ?_
  · intro h1
    have h1 : 0 < i := by rw [decide_eq_true_eq] at h1; omega
    refine Run.RW ?_
    refine Run.RW ?_
    refine Run.nq ?_; refine Run.cW ?_ ?_
    · intro h2
      have h2 : i + 1 < n := by rw [decide_eq_true_eq] at h2; omega
      rw [if_pos h2, if_pos h1] at hch
      refine Run.RW ?_
      rw [e1, e2, hch]
      refine Run.reK hpin [0, 3, 4, 5, 7, 8] [0, 1] (by decide) (by simp) ?_; simp only [AR, AW7, simprocAttr]
      refine Run.tolr 1 [0, 3, 4, 5, 7, 8] rfl (fun q hq => ?_); simp only [AL, frV_cons, frV_nil, AW7, simprocAttr]
      refine Run.R ?_
      refine Run.reK hpin [0, 3, 7, 8] [0] (by decide) (by simp) ?_; simp only [AR, AW7, simprocAttr]
      have hnd2 : (lb1 (ys ++ [(q, chR n i)])).Nodup := by
        rw [lb1_app, List.nodup_append]
        refine ⟨hN, by simp [lb1], fun a ha b hb => ?_⟩
        simp [lb1] at hb
        subst hb
        obtain ⟨p, hp, rfl⟩ := List.mem_map.1 ha
        exact hq _ (List.mem_cons_self ..) _ _ _ rfl p hp
      have hE2 : rw2 (ys ++ [(q, chR n i)]) = (List.range (i + 1)).map (chR n) := by
        rw [chL_snoc, ← hE]; simp [rw2]
      refine Run.RW ?_
      refine Run.le ?_ (ih ((ys ++ [(q, chR n i)], i + 1)) (⟨h, hE2, hnd2⟩) (by (try simp only [List.length_append, List.length_cons, List.length_nil]); omega))
      exact Le.sub (by rfl) (by simp only [AW7, simprocAttr]; try simp)
    intro h2
    have h2 : ¬ i + 1 < n := by rw [decide_eq_false_iff_not] at h2; omega
    rw [if_neg h2, if_pos h1] at hch
    rw [e1, hch]
    refine Run.reK hpin [0, 3, 4, 5, 7, 8] [0, 1] (by decide) (by simp) ?_; simp only [AR, AW7, simprocAttr]
    refine Run.tolr 1 [0, 3, 4, 5, 7, 8] rfl (fun q hq => ?_); simp only [AL, frV_cons, frV_nil, AW7, simprocAttr]
    refine Run.R ?_
    refine Run.reK hpin [0, 3, 7, 8] [0] (by decide) (by simp) ?_; simp only [AR, AW7, simprocAttr]
    have hnd2 : (lb1 (ys ++ [(q, chR n i)])).Nodup := by
      rw [lb1_app, List.nodup_append]
      refine ⟨hN, by simp [lb1], fun a ha b hb => ?_⟩
      simp [lb1] at hb
      subst hb
      obtain ⟨p, hp, rfl⟩ := List.mem_map.1 ha
      exact hq _ (List.mem_cons_self ..) _ _ _ rfl p hp
    have hE2 : rw2 (ys ++ [(q, chR n i)]) = (List.range (i + 1)).map (chR n) := by
      rw [chL_snoc, ← hE]; simp [rw2]
    refine Run.RW ?_
    refine Run.le ?_ (ih ((ys ++ [(q, chR n i)], i + 1)) (⟨h, hE2, hnd2⟩) (by (try simp only [List.length_append, List.length_cons, List.length_nil]); omega))
    exact Le.sub (by rfl) (by simp only [AW7, simprocAttr]; try simp)
  intro h1
  have h1 : ¬ 0 < i := by rw [decide_eq_false_iff_not] at h1; omega
  refine Run.RW ?_
  refine Run.nq ?_; refine Run.cW ?_ ?_
  · intro h2
    have h2 : i + 1 < n := by rw [decide_eq_true_eq] at h2; omega
    rw [if_pos h2, if_neg h1] at hch
    refine Run.RW ?_
    rw [e2, hch]
    refine Run.reK hpin [0, 3, 4, 5, 7, 8] [0, 1] (by decide) (by simp) ?_; simp only [AR, AW7, simprocAttr]
    refine Run.tolr 1 [0, 3, 4, 5, 7, 8] rfl (fun q hq => ?_); simp only [AL, frV_cons, frV_nil, AW7, simprocAttr]
    refine Run.R ?_
    refine Run.reK hpin [0, 3, 7, 8] [0] (by decide) (by simp) ?_; simp only [AR, AW7, simprocAttr]
    have hnd2 : (lb1 (ys ++ [(q, chR n i)])).Nodup := by
      rw [lb1_app, List.nodup_append]
      refine ⟨hN, by simp [lb1], fun a ha b hb => ?_⟩
      simp [lb1] at hb
      subst hb
      obtain ⟨p, hp, rfl⟩ := List.mem_map.1 ha
      exact hq _ (List.mem_cons_self ..) _ _ _ rfl p hp
    have hE2 : rw2 (ys ++ [(q, chR n i)]) = (List.range (i + 1)).map (chR n) := by
      rw [chL_snoc, ← hE]; simp [rw2]
    refine Run.RW ?_
    refine Run.le ?_ (ih ((ys ++ [(q, chR n i)], i + 1)) (⟨h, hE2, hnd2⟩) (by (try simp only [List.length_append, List.length_cons, List.length_nil]); omega))
    exact Le.sub (by rfl) (by simp only [AW7, simprocAttr]; try simp)
  intro h2
  have h2 : ¬ i + 1 < n := by rw [decide_eq_false_iff_not] at h2; omega
  rw [if_neg h2, if_neg h1] at hch
  rw [hch]
  refine Run.reK hpin [0, 3, 4, 5, 7, 8] [0, 1] (by decide) (by simp) ?_; simp only [AR, AW7, simprocAttr]
  refine Run.tolr 1 [0, 3, 4, 5, 7, 8] rfl (fun q hq => ?_); simp only [AL, frV_cons, frV_nil, AW7, simprocAttr]
  refine Run.R ?_
  refine Run.reK hpin [0, 3, 7, 8] [0] (by decide) (by simp) ?_; simp only [AR, AW7, simprocAttr]
  have hnd2 : (lb1 (ys ++ [(q, chR n i)])).Nodup := by
    rw [lb1_app, List.nodup_append]
    refine ⟨hN, by simp [lb1], fun a ha b hb => ?_⟩
    simp [lb1] at hb
    subst hb
    obtain ⟨p, hp, rfl⟩ := List.mem_map.1 ha
    exact hq _ (List.mem_cons_self ..) _ _ _ rfl p hp
  have hE2 : rw2 (ys ++ [(q, chR n i)]) = (List.range (i + 1)).map (chR n) := by
    rw [chL_snoc, ← hE]; simp [rw2]
  refine Run.RW ?_
  refine Run.le ?_ (ih ((ys ++ [(q, chR n i)], i + 1)) (⟨h, hE2, hnd2⟩) (by (try simp only [List.length_append, List.length_cons, List.length_nil]); omega))
  exact Le.sub (by rfl) (by simp only [AW7, simprocAttr]; try simp)
theorem c_impl_chain (n : Nat) (hn : n ≤ 8) : FunA B 179 [.int .i64 n] (fun rs o => rs = [.own 0 0] ∧ ∃ hs, o = [.mat hs (chL n) 0 true]) :=
  (FunA.mat (by rfl) (post := fun rows nn rest => rows = chL n ∧ nn = true ∧ rest = []) (c_impl_chainR n hn)).mono fun rs o ⟨hs, rows, nn, rest, ⟨h1, h2, h3⟩, h4, h5, h6⟩ => by subst h1 h2 h3; exact ⟨h5, hs, h6⟩
def withL : List (List Int) → List Int → List (List Int)
  | c, i :: j :: a :: r => withL (set1 c i.toNat j.toNat a) r
  | c, _ => c
def okW (n : Nat) : List Int → Bool
  | i :: j :: _ :: r => decide (0 ≤ i) && decide (i < n) && decide (0 ≤ j) && decide (j < n) && okW n r
  | _ => true
theorem withL_drop (n : Nat) (c : List (List Int)) (es : List Int) (m : Nat) (h : m + 2 < es.length) (hok : okW n (es.drop m) = true) : (0 ≤ es.getD m 0 ∧ es.getD m 0 < n) ∧ (0 ≤ es.getD (m + 1) 0 ∧ es.getD (m + 1) 0 < n) ∧ okW n (es.drop (m + 3)) = true ∧ withL c (es.drop m) = withL (set1 c (es.getD m 0).toNat (es.getD (m + 1) 0).toNat (es.getD (m + 2) 0)) (es.drop (m + 3)) := by
  rw [List.drop_eq_getElem_cons (by omega : m < es.length), List.drop_eq_getElem_cons (by omega : m + 1 < es.length), List.drop_eq_getElem_cons (by omega : m + 2 < es.length)] at hok ⊢
  have e0 : es[m] = es.getD m 0 := by simp [List.getD_eq_getElem?_getD, show m < es.length by omega]
  have e1 : es[m + 1] = es.getD (m + 1) 0 := by simp [List.getD_eq_getElem?_getD, show m + 1 < es.length by omega]
  have e2 : es[m + 2] = es.getD (m + 2) 0 := by simp [List.getD_eq_getElem?_getD, show m + 2 < es.length by omega]
  simp only [okW, Bool.and_eq_true, decide_eq_true_eq, e0, e1] at hok
  refine ⟨⟨hok.1.1.1.1, hok.1.1.1.2⟩, ⟨hok.1.1.2, hok.1.2⟩, hok.2, ?_⟩
  simp only [withL, e0, e1, e2]
theorem withL_end (c : List (List Int)) : ∀ (es : List Int), es.length < 3 → withL c es = c
  | [], _ => rfl
  | [_], _ => rfl
  | [_, _], _ => rfl
  | _ :: _ :: _ :: _, h => by simp at h; omega
set_option maxHeartbeats 1000000 in
theorem c_impl_with (hs : List (Option Nat)) (c : List (List Int)) (es : List Int) (hl : es.length ≤ 100) (hc : c.length ≤ 100) (hr : ∀ k, k < c.length → (c.getD k []).length = c.length) (hok : okW c.length es = true) :
    FunO B 180 [.own 0 0, .sl false .int es] (.mat hs c 0 true) (fun rs o => rs = [.own 0 0] ∧ o = [.mat hs (withL c es) 0 true]) := by
  refine FunO.walk B_ok (fn := Tryz.f180) (fun vs w => Tryz.call180 vs w) Tryz.func180 rfl (by rw [Tryz.ntmps180]; simp) (fun C hC hP hT hΓ hbt hfn hpin hfin => ?_); have hX := BX; rw [← hΓ, ← hbt.1, ← hbt.2.1, ← hbt.2.2.1] at hX; rw [hT] at hX; rw [Tryz.ntmps180]; simp only [AW7, simprocAttr, hX]
  refine Run.R ?_
  refine Run.R ?_
  refine Run.loopI (X := Nat × List (List Int)) (fun x => ⟨32, [(0, true, .v (.own 0 0)), (1, true, .v (.sl false .int es)), (4, true, .v .nils), (5, true, .v (.int .i64 x.1))], [.mat hs x.2 0 true]⟩) (fun x => (x.1 ≤ es.length ∧ x.2.length = c.length ∧ ∀ k, k < c.length → (x.2.getD k []).length = c.length) ∧ okW c.length (es.drop x.1) = true ∧ withL x.2 (es.drop x.1) = withL c es) (fun x => es.length - x.1) (0, c) ⟨⟨Nat.zero_le _, rfl, hr⟩, hok, rfl⟩ ?_ ?_
  · exact Le.sub (by rfl) (by first | exact ⟨rfl, rfl, rfl, rfl⟩ | simp only [AW7, simprocAttr, hX]; try simp)
  rintro ⟨m, c'⟩ ⟨⟨hm, hcl, hrl⟩, hok', hE⟩ ih
  simp only [] at hm hcl hrl hok' hE
  refine Run.RW ?_
  refine Run.nq ?_; refine Run.cW ?_ ?_
  rotate_left
  · intro h
    have h : es.length < m + 3 := by rw [decide_eq_false_iff_not] at h; omega
    rw [withL_end _ _ (by simp; omega)] at hE
    subst hE
    refine Run.exit rfl ?_; refine Run.nq ?_
    refine Run.R ?_
    refine Run.rW [4] (hfin _ _ _ rfl rfl ⟨rfl, _, _, rfl⟩ ?_)
    exact ⟨rfl, rfl⟩
  intro h
  have h : m + 2 < es.length := by rw [decide_eq_true_eq] at h; omega
  obtain ⟨⟨p0, p1⟩, ⟨q0, q1⟩, hok2, hst⟩ := withL_drop c.length c' es m h hok'
  rw [hE] at hst
  have t1 : ((m : Int) + 1).toNat = m + 1 := by omega
  have t2 : ((m : Int) + 2).toNat = m + 2 := by omega
  refine Run.matfact 0 rfl fun hl1 hd hz => ?_
  have hrw := hrl (es.getD m 0).toNat (by omega)
  obtain ⟨q, e1, m1, x1⟩ := mat_head (i := (es.getD m 0).toNat) hl1 hd hz (by omega) (by rw [hrl _ (by omega)]; omega)
  have hl2 : hs.length = (set1 c' (es.getD m 0).toNat (es.getD (m + 1) 0).toNat (es.getD (m + 2) 0)).length := by rw [set1_len]; exact hl1
  have hv1 : (es.getD (m + 1) 0).toNat < (c'.getD (hs.idxOf (some q)) []).length := by rw [x1, hrl _ (by omega)]; omega
  have hs1 : setM hs c' q (es.getD (m + 1) 0).toNat (es.getD (m + 2) 0) = set1 c' (es.getD m 0).toNat (es.getD (m + 1) 0).toNat (es.getD (m + 2) 0) := by unfold setM set1; rw [x1]
  refine Run.nq ?_; refine Run.regionD hC true [0,1,2,3,4,5,6,7,8,9,10,11,12,13,14,15,16,17,18] (by kernel_rfl) (fun K hK => ?_); simp (disch := omega) only [wrap_id, AW7, simprocAttr, hX]; (repeat (with_reducible refine And.intro ?_ ?_); exact vc0)
  rw [e1, t1, t2]
  refine wWW ?_
  refine wE ?_; clear hK K
  rw [hs1]
  refine Run.RW ?_
  refine Run.le ?_ (ih (m + 3, set1 c' (es.getD m 0).toNat (es.getD (m + 1) 0).toNat (es.getD (m + 2) 0)) ⟨⟨by simp only []; omega, by rw [set1_len]; exact hcl, fun k hk => by rw [set1_row]; exact hrl k hk⟩, hok2, hst.symm⟩ (by simp only []; omega))
  exact Le.sub (by rfl) (by simp only [AW7, simprocAttr]; try simp)
set_option maxHeartbeats 2000000 in
theorem c_impl_TypeCartan (nm : List UInt8) (hm : nm ∈ tcN) : FunA B 155 [.str nm] (fun rs o => rs = [.own 0 0, .bool true] ∧ ∃ hs, o = [.mat hs (tcM nm) 0 true]) := by
  refine FunA.walk B_ok (fn := Tryz.f155) (fun vs w => Tryz.call155 vs w) Tryz.func155 rfl (by rw [Tryz.ntmps155]; simp) (fun C hC hP hT hΓ hbt hfn hpin hfin => ?_); have hX := BX; rw [← hΓ, ← hbt.1, ← hbt.2.1, ← hbt.2.2.1] at hX; rw [hT] at hX; rw [Tryz.ntmps155]; simp only [AW7, simprocAttr, hX]
  refine Run.R ?_
  refine Run.R ?_
  refine Run.R ?_
  refine Run.nq ?_; refine Run.cW ?_ ?_
  · intro h
    have h : nm = [65, 49] := by simpa using h
    subst h
    refine Run.nq ?_; refine Run.cW ?_ ?_
    rotate_left
    · intro h; exact absurd h (by decide)
    intro _
    refine Run.nq ?_; refine Run.regionW hC (fun K hK => ?_); refine wW ?_
    refine FunA.callW hP hT (c_impl_chain 1 (by omega)) (by simp only [AW7, simprocAttr]; try (first | rfl | trivial)) ?_
    rintro rs o ⟨rfl, hs, rfl⟩
    refine wW ?_
    refine wE ?_; clear hK K
    refine Run.reK hpin [2, 3] [0] (by decide) (by simp) ?_; simp only [AR, AW7, simprocAttr]
    refine Run.rW [2, 3] (hfin _ _ rfl rfl ?_)
    exact ⟨rfl, hs, rfl⟩
  intro n0
  have n0 : ¬ nm = [65, 49] := by simpa using n0
  refine Run.R ?_
  refine Run.nq ?_; refine Run.cW ?_ ?_
  · intro h
    have h : nm = [65, 50] := by simpa using h
    subst h
    refine Run.nq ?_; refine Run.cW ?_ ?_
    rotate_left
    · intro h; exact absurd h (by decide)
    intro _
    refine Run.nq ?_; refine Run.regionW hC (fun K hK => ?_); refine wW ?_
    refine FunA.callW hP hT (c_impl_chain 2 (by omega)) (by simp only [AW7, simprocAttr]; try (first | rfl | trivial)) ?_
    rintro rs o ⟨rfl, hs, rfl⟩
    refine wW ?_
    refine wE ?_; clear hK K
    refine Run.reK hpin [2, 3] [0] (by decide) (by simp) ?_; simp only [AR, AW7, simprocAttr]
    refine Run.rW [2, 3] (hfin _ _ rfl rfl ?_)
    exact ⟨rfl, hs, rfl⟩
  intro n1
  have n1 : ¬ nm = [65, 50] := by simpa using n1
  refine Run.R ?_
  refine Run.nq ?_; refine Run.cW ?_ ?_
  · intro h
    have h : nm = [65, 51] := by simpa using h
    subst h
    refine Run.nq ?_; refine Run.cW ?_ ?_
    rotate_left
    · intro h; exact absurd h (by decide)
    intro _
    refine Run.nq ?_; refine Run.regionW hC (fun K hK => ?_); refine wW ?_
    refine FunA.callW hP hT (c_impl_chain 3 (by omega)) (by simp only [AW7, simprocAttr]; try (first | rfl | trivial)) ?_
    rintro rs o ⟨rfl, hs, rfl⟩
    refine wW ?_
    refine wE ?_; clear hK K
    refine Run.reK hpin [2, 3] [0] (by decide) (by simp) ?_; simp only [AR, AW7, simprocAttr]
    refine Run.rW [2, 3] (hfin _ _ rfl rfl ?_)
    exact ⟨rfl, hs, rfl⟩
  intro n2
  have n2 : ¬ nm = [65, 51] := by simpa using n2
  refine Run.R ?_
  refine Run.nq ?_; refine Run.cW ?_ ?_
  · intro h
    have h : nm = [65, 52] := by simpa using h
    subst h
    refine Run.nq ?_; refine Run.regionW hC (fun K hK => ?_); refine wW ?_
    refine FunA.callW hP hT (c_impl_chain 4 (by omega)) (by simp only [AW7, simprocAttr]; try (first | rfl | trivial)) ?_
    rintro rs o ⟨rfl, hs, rfl⟩
    refine wW ?_
    refine wE ?_; clear hK K
    refine Run.reK hpin [2, 3] [0] (by decide) (by simp) ?_; simp only [AR, AW7, simprocAttr]
    refine Run.rW [2, 3] (hfin _ _ rfl rfl ?_)
    exact ⟨rfl, hs, rfl⟩
  intro n3
  have n3 : ¬ nm = [65, 52] := by simpa using n3
  refine Run.R ?_
  refine Run.nq ?_; refine Run.cW ?_ ?_
  · intro h
    have h : nm = [66, 50] := by simpa using h
    subst h
    refine Run.nq ?_; refine Run.cW ?_ ?_
    rotate_left
    · intro h; exact absurd h (by decide)
    intro _
    refine Run.R ?_
    refine Run.nq ?_; refine Run.regionW hC (fun K hK => ?_); refine wW ?_
    refine FunA.callW hP hT (c_impl_chain 2 (by omega)) (by simp only [AW7, simprocAttr]; try (first | rfl | trivial)) ?_
    rintro rs o ⟨rfl, hs, rfl⟩
    refine wW ?_
    refine FunO.callMat hP hT (c_impl_with hs (chL 2) [(1), (0), (-2)] (by decide) (by decide) (by decide) (by decide)) 0 0 (by simp only [AW7, simprocAttr]; rfl) (by simp) (by simp only [AW7, simprocAttr]; try (first | rfl | trivial)) ?_
    rintro rs o' obs' ⟨rfl, ho⟩
    injection ho with ho1 ho2; subst ho1 ho2
    refine wW ?_
    refine wE ?_; clear hK K
    refine Run.reK hpin [2, 3] [0] (by decide) (by simp) ?_; simp only [AR, AW7, simprocAttr]
    refine Run.rW [2, 3] (hfin _ _ rfl rfl ?_)
    exact ⟨rfl, hs, rfl⟩
  intro n4
  have n4 : ¬ nm = [66, 50] := by simpa using n4
  refine Run.R ?_
  refine Run.nq ?_; refine Run.cW ?_ ?_
  · intro h
    have h : nm = [66, 51] := by simpa using h
    subst h
    refine Run.nq ?_; refine Run.cW ?_ ?_
    rotate_left
    · intro h; exact absurd h (by decide)
    intro _
    refine Run.R ?_
    refine Run.nq ?_; refine Run.regionW hC (fun K hK => ?_); refine wW ?_
    refine FunA.callW hP hT (c_impl_chain 3 (by omega)) (by simp only [AW7, simprocAttr]; try (first | rfl | trivial)) ?_
    rintro rs o ⟨rfl, hs, rfl⟩
    refine wW ?_
    refine FunO.callMat hP hT (c_impl_with hs (chL 3) [(2), (1), (-2)] (by decide) (by decide) (by decide) (by decide)) 0 0 (by simp only [AW7, simprocAttr]; rfl) (by simp) (by simp only [AW7, simprocAttr]; try (first | rfl | trivial)) ?_
    rintro rs o' obs' ⟨rfl, ho⟩
    injection ho with ho1 ho2; subst ho1 ho2
    refine wW ?_
    refine wE ?_; clear hK K
    refine Run.reK hpin [2, 3] [0] (by decide) (by simp) ?_; simp only [AR, AW7, simprocAttr]
    refine Run.rW [2, 3] (hfin _ _ rfl rfl ?_)
    exact ⟨rfl, hs, rfl⟩
  intro n5
  have n5 : ¬ nm = [66, 51] := by simpa using n5
  refine Run.R ?_
  refine Run.nq ?_; refine Run.cW ?_ ?_
  · intro h
    have h : nm = [66, 52] := by simpa using h
    subst h
    refine Run.R ?_
    refine Run.nq ?_; refine Run.regionW hC (fun K hK => ?_); refine wW ?_
    refine FunA.callW hP hT (c_impl_chain 4 (by omega)) (by simp only [AW7, simprocAttr]; try (first | rfl | trivial)) ?_
    rintro rs o ⟨rfl, hs, rfl⟩
    refine wW ?_
    refine FunO.callMat hP hT (c_impl_with hs (chL 4) [(3), (2), (-2)] (by decide) (by decide) (by decide) (by decide)) 0 0 (by simp only [AW7, simprocAttr]; rfl) (by simp) (by simp only [AW7, simprocAttr]; try (first | rfl | trivial)) ?_
    rintro rs o' obs' ⟨rfl, ho⟩
    injection ho with ho1 ho2; subst ho1 ho2
    refine wW ?_
    refine wE ?_; clear hK K
    refine Run.reK hpin [2, 3] [0] (by decide) (by simp) ?_; simp only [AR, AW7, simprocAttr]
    refine Run.rW [2, 3] (hfin _ _ rfl rfl ?_)
    exact ⟨rfl, hs, rfl⟩
  intro n6
  have n6 : ¬ nm = [66, 52] := by simpa using n6
  refine Run.R ?_
  refine Run.nq ?_; refine Run.cW ?_ ?_
  · intro h
    have h : nm = [67, 51] := by simpa using h
    subst h
    refine Run.nq ?_; refine Run.cW ?_ ?_
    rotate_left
    · intro h; exact absurd h (by decide)
    intro _
    refine Run.R ?_
    refine Run.nq ?_; refine Run.regionW hC (fun K hK => ?_); refine wW ?_
    refine FunA.callW hP hT (c_impl_chain 3 (by omega)) (by simp only [AW7, simprocAttr]; try (first | rfl | trivial)) ?_
    rintro rs o ⟨rfl, hs, rfl⟩
    refine wW ?_
    refine FunO.callMat hP hT (c_impl_with hs (chL 3) [(1), (2), (-2)] (by decide) (by decide) (by decide) (by decide)) 0 0 (by simp only [AW7, simprocAttr]; rfl) (by simp) (by simp only [AW7, simprocAttr]; try (first | rfl | trivial)) ?_
    rintro rs o' obs' ⟨rfl, ho⟩
    injection ho with ho1 ho2; subst ho1 ho2
    refine wW ?_
    refine wE ?_; clear hK K
    refine Run.reK hpin [2, 3] [0] (by decide) (by simp) ?_; simp only [AR, AW7, simprocAttr]
    refine Run.rW [2, 3] (hfin _ _ rfl rfl ?_)
    exact ⟨rfl, hs, rfl⟩
  intro n7
  have n7 : ¬ nm = [67, 51] := by simpa using n7
  refine Run.R ?_
  refine Run.nq ?_; refine Run.cW ?_ ?_
  · intro h
    have h : nm = [67, 52] := by simpa using h
    subst h
    refine Run.R ?_
    refine Run.nq ?_; refine Run.regionW hC (fun K hK => ?_); refine wW ?_
    refine FunA.callW hP hT (c_impl_chain 4 (by omega)) (by simp only [AW7, simprocAttr]; try (first | rfl | trivial)) ?_
    rintro rs o ⟨rfl, hs, rfl⟩
    refine wW ?_
    refine FunO.callMat hP hT (c_impl_with hs (chL 4) [(2), (3), (-2)] (by decide) (by decide) (by decide) (by decide)) 0 0 (by simp only [AW7, simprocAttr]; rfl) (by simp) (by simp only [AW7, simprocAttr]; try (first | rfl | trivial)) ?_
    rintro rs o' obs' ⟨rfl, ho⟩
    injection ho with ho1 ho2; subst ho1 ho2
    refine wW ?_
    refine wE ?_; clear hK K
    refine Run.reK hpin [2, 3] [0] (by decide) (by simp) ?_; simp only [AR, AW7, simprocAttr]
    refine Run.rW [2, 3] (hfin _ _ rfl rfl ?_)
    exact ⟨rfl, hs, rfl⟩
  intro n8
  have n8 : ¬ nm = [67, 52] := by simpa using n8
  refine Run.R ?_
  refine Run.nq ?_; refine Run.cW ?_ ?_
  · intro h
    have h : nm = [68, 52] := by simpa using h
    subst h
    refine Run.nq ?_; refine Run.regionW hC (fun K hK => ?_); refine wW ?_
    refine FunA.callW hP hT (c_impl_chain 4 (by omega)) (by simp only [AW7, simprocAttr]; try (first | rfl | trivial)) ?_
    rintro rs o ⟨rfl, hs, rfl⟩
    refine wW ?_
    refine FunO.callMat hP hT (c_impl_with hs (chL 4) [(2), (3), (0), (3), (2), (0), (1), (3), (-1), (3), (1), (-1)] (by decide) (by decide) (by decide) (by decide)) 0 0 (by simp only [AW7, simprocAttr]; rfl) (by simp) (by simp only [AW7, simprocAttr]; try (first | rfl | trivial)) ?_
    rintro rs o' obs' ⟨rfl, ho⟩
    injection ho with ho1 ho2; subst ho1 ho2
    refine wW ?_
    refine wE ?_; clear hK K
    refine Run.reK hpin [2, 3] [0] (by decide) (by simp) ?_; simp only [AR, AW7, simprocAttr]
    refine Run.rW [2, 3] (hfin _ _ rfl rfl ?_)
    exact ⟨rfl, hs, rfl⟩
  intro n9
  have n9 : ¬ nm = [68, 52] := by simpa using n9
  refine Run.R ?_
  refine Run.nq ?_; refine Run.cW ?_ ?_
  · intro h
    have h : nm = [70, 52] := by simpa using h
    subst h
    refine Run.nq ?_; refine Run.regionW hC (fun K hK => ?_); refine wW ?_
    refine FunA.callW hP hT (c_impl_chain 4 (by omega)) (by simp only [AW7, simprocAttr]; try (first | rfl | trivial)) ?_
    rintro rs o ⟨rfl, hs, rfl⟩
    refine wW ?_
    refine FunO.callMat hP hT (c_impl_with hs (chL 4) [(2), (1), (-2)] (by decide) (by decide) (by decide) (by decide)) 0 0 (by simp only [AW7, simprocAttr]; rfl) (by simp) (by simp only [AW7, simprocAttr]; try (first | rfl | trivial)) ?_
    rintro rs o' obs' ⟨rfl, ho⟩
    injection ho with ho1 ho2; subst ho1 ho2
    refine wW ?_
    refine wE ?_; clear hK K
    refine Run.reK hpin [2, 3] [0] (by decide) (by simp) ?_; simp only [AR, AW7, simprocAttr]
    refine Run.rW [2, 3] (hfin _ _ rfl rfl ?_)
    exact ⟨rfl, hs, rfl⟩
  intro n10
  have n10 : ¬ nm = [70, 52] := by simpa using n10
  refine Run.R ?_
  refine Run.nq ?_; refine Run.cW ?_ ?_
  · intro h
    have h : nm = [71, 50] := by simpa using h
    subst h
    refine Run.nq ?_; refine Run.regionW hC (fun K hK => ?_); refine wW ?_
    refine FunA.callW hP hT (c_impl_chain 2 (by omega)) (by simp only [AW7, simprocAttr]; try (first | rfl | trivial)) ?_
    rintro rs o ⟨rfl, hs, rfl⟩
    refine wW ?_
    refine FunO.callMat hP hT (c_impl_with hs (chL 2) [(1), (0), (-3)] (by decide) (by decide) (by decide) (by decide)) 0 0 (by simp only [AW7, simprocAttr]; rfl) (by simp) (by simp only [AW7, simprocAttr]; try (first | rfl | trivial)) ?_
    rintro rs o' obs' ⟨rfl, ho⟩
    injection ho with ho1 ho2; subst ho1 ho2
    refine wW ?_
    refine wE ?_; clear hK K
    refine Run.reK hpin [2, 3] [0] (by decide) (by simp) ?_; simp only [AR, AW7, simprocAttr]
    refine Run.rW [2, 3] (hfin _ _ rfl rfl ?_)
    exact ⟨rfl, hs, rfl⟩
  intro n11
  have n11 : ¬ nm = [71, 50] := by simpa using n11
  refine Run.R ?_
  refine Run.nq ?_; refine Run.cW ?_ ?_
  · intro h
    have h : nm = [65, 49, 126] := by simpa using h
    subst h
    refine Run.nq ?_; refine Run.regionW hC (fun K hK => ?_); refine wW ?_
    refine FunA.callW hP hT (c_impl_chain 2 (by omega)) (by simp only [AW7, simprocAttr]; try (first | rfl | trivial)) ?_
    rintro rs o ⟨rfl, hs, rfl⟩
    refine wW ?_
    refine FunO.callMat hP hT (c_impl_with hs (chL 2) [(0), (1), (-2), (1), (0), (-2)] (by decide) (by decide) (by decide) (by decide)) 0 0 (by simp only [AW7, simprocAttr]; rfl) (by simp) (by simp only [AW7, simprocAttr]; try (first | rfl | trivial)) ?_
    rintro rs o' obs' ⟨rfl, ho⟩
    injection ho with ho1 ho2; subst ho1 ho2
    refine wW ?_
    refine wE ?_; clear hK K
    refine Run.reK hpin [2, 3] [0] (by decide) (by simp) ?_; simp only [AR, AW7, simprocAttr]
    refine Run.rW [2, 3] (hfin _ _ rfl rfl ?_)
    exact ⟨rfl, hs, rfl⟩
  intro n12
  have n12 : ¬ nm = [65, 49, 126] := by simpa using n12
  refine Run.R ?_
  refine Run.nq ?_; refine Run.cW ?_ ?_
  · intro h
    have h : nm = [65, 50, 126] := by simpa using h
    subst h
    refine Run.nq ?_; refine Run.regionW hC (fun K hK => ?_); refine wW ?_
    refine FunA.callW hP hT (c_impl_chain 3 (by omega)) (by simp only [AW7, simprocAttr]; try (first | rfl | trivial)) ?_
    rintro rs o ⟨rfl, hs, rfl⟩
    refine wW ?_
    refine FunO.callMat hP hT (c_impl_with hs (chL 3) [(0), (2), (-1), (2), (0), (-1)] (by decide) (by decide) (by decide) (by decide)) 0 0 (by simp only [AW7, simprocAttr]; rfl) (by simp) (by simp only [AW7, simprocAttr]; try (first | rfl | trivial)) ?_
    rintro rs o' obs' ⟨rfl, ho⟩
    injection ho with ho1 ho2; subst ho1 ho2
    refine wW ?_
    refine wE ?_; clear hK K
    refine Run.reK hpin [2, 3] [0] (by decide) (by simp) ?_; simp only [AR, AW7, simprocAttr]
    refine Run.rW [2, 3] (hfin _ _ rfl rfl ?_)
    exact ⟨rfl, hs, rfl⟩
  intro n13
  have n13 : ¬ nm = [65, 50, 126] := by simpa using n13
  refine Run.R ?_
  refine Run.nq ?_; refine Run.cW ?_ ?_
  · intro h
    have h : nm = [65, 51, 126] := by simpa using h
    subst h
    refine Run.nq ?_; refine Run.regionW hC (fun K hK => ?_); refine wW ?_
    refine FunA.callW hP hT (c_impl_chain 4 (by omega)) (by simp only [AW7, simprocAttr]; try (first | rfl | trivial)) ?_
    rintro rs o ⟨rfl, hs, rfl⟩
    refine wW ?_
    refine FunO.callMat hP hT (c_impl_with hs (chL 4) [(0), (3), (-1), (3), (0), (-1)] (by decide) (by decide) (by decide) (by decide)) 0 0 (by simp only [AW7, simprocAttr]; rfl) (by simp) (by simp only [AW7, simprocAttr]; try (first | rfl | trivial)) ?_
    rintro rs o' obs' ⟨rfl, ho⟩
    injection ho with ho1 ho2; subst ho1 ho2
    refine wW ?_
    refine wE ?_; clear hK K
    refine Run.reK hpin [2, 3] [0] (by decide) (by simp) ?_; simp only [AR, AW7, simprocAttr]
    refine Run.rW [2, 3] (hfin _ _ rfl rfl ?_)
    exact ⟨rfl, hs, rfl⟩
  intro n14
  have n14 : ¬ nm = [65, 51, 126] := by simpa using n14
  refine Run.R ?_
  refine Run.nq ?_; refine Run.cW ?_ ?_
  · intro h
    have h : nm = [67, 50, 126] := by simpa using h
    subst h
    refine Run.nq ?_; refine Run.regionW hC (fun K hK => ?_); refine wW ?_
    refine FunA.callW hP hT (c_impl_chain 3 (by omega)) (by simp only [AW7, simprocAttr]; try (first | rfl | trivial)) ?_
    rintro rs o ⟨rfl, hs, rfl⟩
    refine wW ?_
    refine FunO.callMat hP hT (c_impl_with hs (chL 3) [(1), (0), (-2), (1), (2), (-2)] (by decide) (by decide) (by decide) (by decide)) 0 0 (by simp only [AW7, simprocAttr]; rfl) (by simp) (by simp only [AW7, simprocAttr]; try (first | rfl | trivial)) ?_
    rintro rs o' obs' ⟨rfl, ho⟩
    injection ho with ho1 ho2; subst ho1 ho2
    refine wW ?_
    refine wE ?_; clear hK K
    refine Run.reK hpin [2, 3] [0] (by decide) (by simp) ?_; simp only [AR, AW7, simprocAttr]
    refine Run.rW [2, 3] (hfin _ _ rfl rfl ?_)
    exact ⟨rfl, hs, rfl⟩
  intro n15
  have n15 : ¬ nm = [67, 50, 126] := by simpa using n15
  refine Run.R ?_
  refine Run.nq ?_; refine Run.cW ?_ ?_
  · intro h
    have h : nm = [71, 50, 126] := by simpa using h
    subst h
    refine Run.nq ?_; refine Run.regionW hC (fun K hK => ?_); refine wW ?_
    refine FunA.callW hP hT (c_impl_chain 3 (by omega)) (by simp only [AW7, simprocAttr]; try (first | rfl | trivial)) ?_
    rintro rs o ⟨rfl, hs, rfl⟩
    refine wW ?_
    refine FunO.callMat hP hT (c_impl_with hs (chL 3) [(2), (1), (-3)] (by decide) (by decide) (by decide) (by decide)) 0 0 (by simp only [AW7, simprocAttr]; rfl) (by simp) (by simp only [AW7, simprocAttr]; try (first | rfl | trivial)) ?_
    rintro rs o' obs' ⟨rfl, ho⟩
    injection ho with ho1 ho2; subst ho1 ho2
    refine wW ?_
    refine wE ?_; clear hK K
    refine Run.reK hpin [2, 3] [0] (by decide) (by simp) ?_; simp only [AR, AW7, simprocAttr]
    refine Run.rW [2, 3] (hfin _ _ rfl rfl ?_)
    exact ⟨rfl, hs, rfl⟩
  intro n16
  have n16 : ¬ nm = [71, 50, 126] := by simpa using n16
  exact absurd hm (by simp [tcN, n0, n1, n2, n3, n4, n5, n6, n7, n8, n9, n10, n11, n12, n13, n14, n15, n16])
end Go.Proofs.YtaghdbbcadhjdaaGreatDoor
namespace Go.Proofs.YtaghdbbcadhjdaaGreatDoor
open Go Go.Aw Go.Cox
def setM (k i : Nat) : List Int := ((List.range i).filter fun j => k.testBit j).map Int.ofNat
theorem setM_succ (k i : Nat) : setM k (i + 1) = if k.testBit i then setM k i ++ [(i : Int)] else setM k i := by
  simp only [setM, List.range_succ, List.filter_append, List.map_append]
  cases h : k.testBit i <;> simp [h]
theorem setM_len (k i : Nat) : (setM k i).length ≤ i := by
  simp only [setM, List.length_map]
  have := List.length_filter_le (fun j => k.testBit j) (List.range i)
  simpa using this
theorem setM_end : ∀ k : Nat, k < 16 → ∀ i, i ≤ 4 → k < 2 ^ i → setM k i = setL k := by decide
theorem setL_ne : ∀ k : Nat, k < 16 → 1 ≤ k → setL k ≠ [] := by decide
theorem bit_and : ∀ k : Nat, k < 16 → ∀ i, i < 4 → (andI .i64 ((k : Int) / 2 ^ min i IntKind.i64.bits) 1 == 1) = k.testBit i := by decide
theorem shr_pos : ∀ k : Nat, k < 16 → ∀ i, i ≤ 4 → (decide (0 < (k : Int) / 2 ^ min i IntKind.i64.bits) = decide (2 ^ i ≤ k)) := by decide
theorem c_impl_setOf (k : Nat) (hk : k < 16) : FunA B 127 [.int .i64 k] (fun rs o => rs = [.own 0 0] ∧ o = [.arr .int (setL k) 0 true]) := by
  refine FunA.walk B_ok (fn := Tryz.f127) (fun vs w => Tryz.call127 vs w) Tryz.func127 rfl (by rw [Tryz.ntmps127]; simp) (fun C hC hP hT hΓ hbt hfn hpin hfin => ?_); have hX := BX; rw [← hΓ, ← hbt.1, ← hbt.2.1, ← hbt.2.2.1] at hX; rw [hT] at hX; rw [Tryz.ntmps127]; simp only [AW7, simprocAttr, hX]
  refine Run.R ?_
  refine Run.R ?_
  refine Run.R ?_
  refine Run.loopI (X := Nat) (fun i => ⟨22, [(0, true, .v (.int .i64 (k))), (2, true, .v (.nils)), (3, true, .v (.own 0 0)), (4, true, .v (.int .i64 (i)))], [.arr .int ((setM k i)) 0 true]⟩) (fun i => i ≤ 4) (fun i => 4 - i) (0) (Nat.zero_le _) ?_ ?_
  · exact Le.sub (by first | rfl | simp) (by simp only [AW7, simprocAttr, hX]; try simp <;> try (first | rfl | exact ⟨rfl, rfl⟩ | exact ⟨rfl, rfl, rfl⟩))
  rintro i hi ih
  try simp only []
  have hsl := setM_len k i
  have h1 := shr_pos k hk i hi
  refine Run.R ?_
  refine Run.nq ?_; refine Run.cW ?_ ?_
  · intro hc
    rw [h1] at hc
    have hc : 2 ^ i ≤ k := by simpa using hc
    have h4 : i < 4 := by
      rcases Nat.lt_or_ge i 4 with h | h
      · exact h
      · have : i = 4 := by omega
        subst this; omega
    have h2 := bit_and k hk i h4
    have h3 := setM_succ k i
    refine Run.R ?_
    refine Run.nq ?_; refine Run.cW ?_ ?_
    · intro hb
      rw [h2] at hb
      rw [hb, if_pos rfl] at h3
      refine Run.R ?_
      refine Run.RW ?_
      refine Run.reK hpin [0, 2, 3, 4] [0] (by decide) (by simp) ?_; simp only [AR, AW7, simprocAttr]
      refine Run.le ?_ (ih (i + 1) (by omega) (by (try simp only [List.length_append, List.length_cons, List.length_nil]); omega))
      exact Le.sub (by first | rfl | (simp only [← h3]; done) | (rw [← h3]; rfl)) (by simp only [AW7, simprocAttr]; try simp)
    · intro hb
      rw [h2] at hb
      rw [hb] at h3
      refine Run.RW ?_
      refine Run.le ?_ (ih (i + 1) (by omega) (by (try simp only [List.length_append, List.length_cons, List.length_nil]); omega))
      exact Le.sub (by first | rfl | (simp only [h3]; done) | (rw [h3]; rfl)) (by simp only [AW7, simprocAttr]; try simp)
  · intro hc
    rw [h1] at hc
    have hc : k < 2 ^ i := by simpa using hc
    refine Run.exit rfl ?_; refine Run.nq ?_
    refine Run.R ?_
    rw [setM_end k hk i hi hc]
    refine Run.rW [2] (hfin _ _ rfl rfl ?_)
    exact ⟨rfl, rfl⟩
end Go.Proofs.YtaghdbbcadhjdaaGreatDoor
