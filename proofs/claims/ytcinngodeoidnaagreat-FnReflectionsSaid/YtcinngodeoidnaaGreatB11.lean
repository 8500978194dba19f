/- The matrices of the named types: spec.TypeCartan, branch by branch (written by wip/tools/gendraw3.py). -/
import Derived.Test.YtcinngodeoidnaaGreatB10
set_option linter.unusedVariables false
set_option linter.unusedSimpArgs false
namespace Go.Proofs.YtcinngodeoidnaaGreat
open Go Go.Aw
def tcM:List UInt8->List (List Int)
 | [65,49]=>chL 1
 | [65,50]=>chL 2
 | [65,51]=>chL 3
 | [65,52]=>chL 4
 | [66,50]=>set1 (set1 (chL 2) 0 1 (-1)) 1 0 (-2)
 | [66,51]=>set1 (set1 (chL 3) 1 2 (-1)) 2 1 (-2)
 | [66,52]=>set1 (set1 (chL 4) 2 3 (-1)) 3 2 (-2)
 | [67,51]=>set1 (set1 (chL 3) 1 2 (-2)) 2 1 (-1)
 | [67,52]=>set1 (set1 (chL 4) 2 3 (-2)) 3 2 (-1)
 | [68,52]=>set1 (set1 (set1 (set1 (chL 4) 2 3 0) 3 2 0) 1 3 (-1)) 3 1 (-1)
 | [70,52]=>set1 (set1 (chL 4) 1 2 (-1)) 2 1 (-2)
 | [71,50]=>set1 (set1 (chL 2) 0 1 (-1)) 1 0 (-3)
 | [65,49,126]=>set1 (set1 (chL 2) 0 1 (-2)) 1 0 (-2)
 | [65,50,126]=>set1 (set1 (chL 3) 0 2 (-1)) 2 0 (-1)
 | [65,51,126]=>set1 (set1 (chL 4) 0 3 (-1)) 3 0 (-1)
 | [67,50,126]=>set1 (set1 (set1 (set1 (chL 3) 0 1 (-1)) 1 0 (-2)) 1 2 (-2)) 2 1 (-1)
 | [71,50,126]=>set1 (set1 (chL 3) 1 2 (-1)) 2 1 (-3)
 | _=>[]
def tcN:List (List UInt8):=[[65,49],[65,50],[65,51],[65,52],[66,50],[66,51],[66,52],[67,51],[67,52],[68,52],[70,52],[71,50],[65,49,126],[65,50,126],[65,51,126],[67,50,126],[71,50,126]]
set_option maxHeartbeats 1000000 in
theorem c_TypeCartan (nm:List UInt8) (hm:nm∈tcN):FunA B 159 [.str nm] (fun rs o=>rs=[.own 0 0,.bool true]/\∃ hs,o=[.mat hs (tcM nm) 0 true]):=by
 refine wk Tryz.call159 Tryz.func159 rfl Tryz.ntmps159 fun C hC hP hT hfn hpin hfin hX=>wW ?_
 refine Run.R ?_
 refine Run.R ?_
 refine Run.R ?_
 refine Run.c ?_ ?_
 ·intro h
  have h:nm=[65,49]:=by simpa using h
  subst h
  refine Run.c ?_ ?_
  rotate_left
  ·intro h;exact absurd h (by decide)
  intro _
  refine Run.g fun K hK=>?_
  refine FunA.callW hP hT (c_l2Chain 1 om) (by simp only [AW7,simprocAttr];first | rfl | trivial) ?_
  rintro rs o ⟨rfl,hs,rfl⟩
  refine wF ?_;clear hK K
  refine Run.k [2,3] [0] ?_
  refine Run.r [2,3] ?_
  exact⟨rfl,hs,rfl⟩
 intro n0
 have n0:¬nm=[65,49]:=by simpa using n0
 refine Run.R ?_
 refine Run.c ?_ ?_
 ·intro h
  have h:nm=[65,50]:=by simpa using h
  subst h
  refine Run.c ?_ ?_
  rotate_left
  ·intro h;exact absurd h (by decide)
  intro _
  refine Run.g fun K hK=>?_
  refine FunA.callW hP hT (c_l2Chain 2 om) (by simp only [AW7,simprocAttr];first | rfl | trivial) ?_
  rintro rs o ⟨rfl,hs,rfl⟩
  refine wF ?_;clear hK K
  refine Run.k [2,3] [0] ?_
  refine Run.r [2,3] ?_
  exact⟨rfl,hs,rfl⟩
 intro n1
 have n1:¬nm=[65,50]:=by simpa using n1
 refine Run.R ?_
 refine Run.c ?_ ?_
 ·intro h
  have h:nm=[65,51]:=by simpa using h
  subst h
  refine Run.c ?_ ?_
  rotate_left
  ·intro h;exact absurd h (by decide)
  intro _
  refine Run.g fun K hK=>?_
  refine FunA.callW hP hT (c_l2Chain 3 om) (by simp only [AW7,simprocAttr];first | rfl | trivial) ?_
  rintro rs o ⟨rfl,hs,rfl⟩
  refine wF ?_;clear hK K
  refine Run.k [2,3] [0] ?_
  refine Run.r [2,3] ?_
  exact⟨rfl,hs,rfl⟩
 intro n2
 have n2:¬nm=[65,51]:=by simpa using n2
 refine Run.R ?_
 refine Run.c ?_ ?_
 ·intro h
  have h:nm=[65,52]:=by simpa using h
  subst h
  refine Run.g fun K hK=>?_
  refine FunA.callW hP hT (c_l2Chain 4 om) (by simp only [AW7,simprocAttr];first | rfl | trivial) ?_
  rintro rs o ⟨rfl,hs,rfl⟩
  refine wF ?_;clear hK K
  refine Run.k [2,3] [0] ?_
  refine Run.r [2,3] ?_
  exact⟨rfl,hs,rfl⟩
 intro n3
 have n3:¬nm=[65,52]:=by simpa using n3
 refine Run.R ?_
 refine Run.c ?_ ?_
 ·intro h
  have h:nm=[66,50]:=by simpa using h
  subst h
  refine Run.g fun K hK=>?_
  refine FunA.cW hP hT (c_l2Chain 2 om) ?_
  rintro rs o ⟨rfl,hs,rfl⟩
  refine wW ?_
  refine FunA.cW hP hT (c_l2Set (chL 2) 0 1 (-1) (-2) (by decide) (by decide) (by decide) (by decide) (by decide) (by decide)) ?_
  rintro rs o ⟨rfl,hs1,rfl⟩
  refine wF ?_;clear hK K
  refine Run.k [2,3] [1] ?_
  refine Run.r [2,3] ?_
  exact⟨rfl,hs1,rfl⟩
 intro n4
 have n4:¬nm=[66,50]:=by simpa using n4
 refine Run.R ?_
 refine Run.c ?_ ?_
 ·intro h
  have h:nm=[66,51]:=by simpa using h
  subst h
  refine Run.g fun K hK=>?_
  refine FunA.cW hP hT (c_l2Chain 3 om) ?_
  rintro rs o ⟨rfl,hs,rfl⟩
  refine wW ?_
  refine FunA.cW hP hT (c_l2Set (chL 3) 1 2 (-1) (-2) (by decide) (by decide) (by decide) (by decide) (by decide) (by decide)) ?_
  rintro rs o ⟨rfl,hs1,rfl⟩
  refine wF ?_;clear hK K
  refine Run.k [2,3] [1] ?_
  refine Run.r [2,3] ?_
  exact⟨rfl,hs1,rfl⟩
 intro n5
 have n5:¬nm=[66,51]:=by simpa using n5
 refine Run.R ?_
 refine Run.c ?_ ?_
 ·intro h
  have h:nm=[66,52]:=by simpa using h
  subst h
  refine Run.g fun K hK=>?_
  refine FunA.cW hP hT (c_l2Chain 4 om) ?_
  rintro rs o ⟨rfl,hs,rfl⟩
  refine wW ?_
  refine FunA.cW hP hT (c_l2Set (chL 4) 2 3 (-1) (-2) (by decide) (by decide) (by decide) (by decide) (by decide) (by decide)) ?_
  rintro rs o ⟨rfl,hs1,rfl⟩
  refine wF ?_;clear hK K
  refine Run.k [2,3] [1] ?_
  refine Run.r [2,3] ?_
  exact⟨rfl,hs1,rfl⟩
 intro n6
 have n6:¬nm=[66,52]:=by simpa using n6
 refine Run.R ?_
 refine Run.c ?_ ?_
 ·intro h
  have h:nm=[67,51]:=by simpa using h
  subst h
  refine Run.g fun K hK=>?_
  refine FunA.cW hP hT (c_l2Chain 3 om) ?_
  rintro rs o ⟨rfl,hs,rfl⟩
  refine wW ?_
  refine FunA.cW hP hT (c_l2Set (chL 3) 1 2 (-2) (-1) (by decide) (by decide) (by decide) (by decide) (by decide) (by decide)) ?_
  rintro rs o ⟨rfl,hs1,rfl⟩
  refine wF ?_;clear hK K
  refine Run.k [2,3] [1] ?_
  refine Run.r [2,3] ?_
  exact⟨rfl,hs1,rfl⟩
 intro n7
 have n7:¬nm=[67,51]:=by simpa using n7
 refine Run.R ?_
 refine Run.c ?_ ?_
 ·intro h
  have h:nm=[67,52]:=by simpa using h
  subst h
  refine Run.g fun K hK=>?_
  refine FunA.cW hP hT (c_l2Chain 4 om) ?_
  rintro rs o ⟨rfl,hs,rfl⟩
  refine wW ?_
  refine FunA.cW hP hT (c_l2Set (chL 4) 2 3 (-2) (-1) (by decide) (by decide) (by decide) (by decide) (by decide) (by decide)) ?_
  rintro rs o ⟨rfl,hs1,rfl⟩
  refine wF ?_;clear hK K
  refine Run.k [2,3] [1] ?_
  refine Run.r [2,3] ?_
  exact⟨rfl,hs1,rfl⟩
 intro n8
 have n8:¬nm=[67,52]:=by simpa using n8
 refine Run.R ?_
 refine Run.c ?_ ?_
 ·intro h
  have h:nm=[68,52]:=by simpa using h
  subst h
  refine Run.g fun K hK=>?_
  refine FunA.cW hP hT (c_l2Chain 4 om) ?_
  rintro rs o ⟨rfl,hs,rfl⟩
  refine wW ?_
  refine FunA.cW hP hT (c_l2Set (chL 4) 2 3 (0) (0) (by decide) (by decide) (by decide) (by decide) (by decide) (by decide)) ?_
  rintro rs o ⟨rfl,hs1,rfl⟩
  refine wW ?_
  refine FunA.cW hP hT (c_l2Set (set1 (set1 (chL 4) 2 3 0) 3 2 0) 1 3 (-1) (-1) (by decide) (by decide) (by decide) (by decide) (by decide) (by decide)) ?_
  rintro rs o ⟨rfl,hs2,rfl⟩
  refine wF ?_;clear hK K
  refine Run.k [2,3] [2] ?_
  refine Run.r [2,3] ?_
  exact⟨rfl,hs2,rfl⟩
 intro n9
 have n9:¬nm=[68,52]:=by simpa using n9
 refine Run.R ?_
 refine Run.c ?_ ?_
 ·intro h
  have h:nm=[70,52]:=by simpa using h
  subst h
  refine Run.g fun K hK=>?_
  refine FunA.cW hP hT (c_l2Chain 4 om) ?_
  rintro rs o ⟨rfl,hs,rfl⟩
  refine wW ?_
  refine FunA.cW hP hT (c_l2Set (chL 4) 1 2 (-1) (-2) (by decide) (by decide) (by decide) (by decide) (by decide) (by decide)) ?_
  rintro rs o ⟨rfl,hs1,rfl⟩
  refine wF ?_;clear hK K
  refine Run.k [2,3] [1] ?_
  refine Run.r [2,3] ?_
  exact⟨rfl,hs1,rfl⟩
 intro n10
 have n10:¬nm=[70,52]:=by simpa using n10
 refine Run.R ?_
 refine Run.c ?_ ?_
 ·intro h
  have h:nm=[71,50]:=by simpa using h
  subst h
  refine Run.g fun K hK=>?_
  refine FunA.cW hP hT (c_l2Chain 2 om) ?_
  rintro rs o ⟨rfl,hs,rfl⟩
  refine wW ?_
  refine FunA.cW hP hT (c_l2Set (chL 2) 0 1 (-1) (-3) (by decide) (by decide) (by decide) (by decide) (by decide) (by decide)) ?_
  rintro rs o ⟨rfl,hs1,rfl⟩
  refine wF ?_;clear hK K
  refine Run.k [2,3] [1] ?_
  refine Run.r [2,3] ?_
  exact⟨rfl,hs1,rfl⟩
 intro n11
 have n11:¬nm=[71,50]:=by simpa using n11
 refine Run.R ?_
 refine Run.c ?_ ?_
 ·intro h
  have h:nm=[65,49,126]:=by simpa using h
  subst h
  refine Run.g fun K hK=>?_
  refine FunA.cW hP hT (c_l2Chain 2 om) ?_
  rintro rs o ⟨rfl,hs,rfl⟩
  refine wW ?_
  refine FunA.cW hP hT (c_l2Set (chL 2) 0 1 (-2) (-2) (by decide) (by decide) (by decide) (by decide) (by decide) (by decide)) ?_
  rintro rs o ⟨rfl,hs1,rfl⟩
  refine wF ?_;clear hK K
  refine Run.k [2,3] [1] ?_
  refine Run.r [2,3] ?_
  exact⟨rfl,hs1,rfl⟩
 intro n12
 have n12:¬nm=[65,49,126]:=by simpa using n12
 refine Run.R ?_
 refine Run.c ?_ ?_
 ·intro h
  have h:nm=[65,50,126]:=by simpa using h
  subst h
  refine Run.g fun K hK=>?_
  refine FunA.cW hP hT (c_l2Chain 3 om) ?_
  rintro rs o ⟨rfl,hs,rfl⟩
  refine wW ?_
  refine FunA.cW hP hT (c_l2Set (chL 3) 0 2 (-1) (-1) (by decide) (by decide) (by decide) (by decide) (by decide) (by decide)) ?_
  rintro rs o ⟨rfl,hs1,rfl⟩
  refine wF ?_;clear hK K
  refine Run.k [2,3] [1] ?_
  refine Run.r [2,3] ?_
  exact⟨rfl,hs1,rfl⟩
 intro n13
 have n13:¬nm=[65,50,126]:=by simpa using n13
 refine Run.R ?_
 refine Run.c ?_ ?_
 ·intro h
  have h:nm=[65,51,126]:=by simpa using h
  subst h
  refine Run.g fun K hK=>?_
  refine FunA.cW hP hT (c_l2Chain 4 om) ?_
  rintro rs o ⟨rfl,hs,rfl⟩
  refine wW ?_
  refine FunA.cW hP hT (c_l2Set (chL 4) 0 3 (-1) (-1) (by decide) (by decide) (by decide) (by decide) (by decide) (by decide)) ?_
  rintro rs o ⟨rfl,hs1,rfl⟩
  refine wF ?_;clear hK K
  refine Run.k [2,3] [1] ?_
  refine Run.r [2,3] ?_
  exact⟨rfl,hs1,rfl⟩
 intro n14
 have n14:¬nm=[65,51,126]:=by simpa using n14
 refine Run.R ?_
 refine Run.c ?_ ?_
 ·intro h
  have h:nm=[67,50,126]:=by simpa using h
  subst h
  refine Run.g fun K hK=>?_
  refine FunA.cW hP hT (c_l2Chain 3 om) ?_
  rintro rs o ⟨rfl,hs,rfl⟩
  refine wW ?_
  refine FunA.cW hP hT (c_l2Set (chL 3) 0 1 (-1) (-2) (by decide) (by decide) (by decide) (by decide) (by decide) (by decide)) ?_
  rintro rs o ⟨rfl,hs1,rfl⟩
  refine wW ?_
  refine FunA.cW hP hT (c_l2Set (set1 (set1 (chL 3) 0 1 (-1)) 1 0 (-2)) 1 2 (-2) (-1) (by decide) (by decide) (by decide) (by decide) (by decide) (by decide)) ?_
  rintro rs o ⟨rfl,hs2,rfl⟩
  refine wF ?_;clear hK K
  refine Run.k [2,3] [2] ?_
  refine Run.r [2,3] ?_
  exact⟨rfl,hs2,rfl⟩
 intro n15
 have n15:¬nm=[67,50,126]:=by simpa using n15
 refine Run.R ?_
 refine Run.c ?_ ?_
 ·intro h
  have h:nm=[71,50,126]:=by simpa using h
  subst h
  refine Run.g fun K hK=>?_
  refine FunA.cW hP hT (c_l2Chain 3 om) ?_
  rintro rs o ⟨rfl,hs,rfl⟩
  refine wW ?_
  refine FunA.cW hP hT (c_l2Set (chL 3) 1 2 (-1) (-3) (by decide) (by decide) (by decide) (by decide) (by decide) (by decide)) ?_
  rintro rs o ⟨rfl,hs1,rfl⟩
  refine wF ?_;clear hK K
  refine Run.k [2,3] [1] ?_
  refine Run.r [2,3] ?_
  exact⟨rfl,hs1,rfl⟩
 intro n16
 have n16:¬nm=[71,50,126]:=by simpa using n16
 exact absurd hm (by simp [tcN,n0,n1,n2,n3,n4,n5,n6,n7,n8,n9,n10,n11,n12,n13,n14,n15,n16])
theorem c_JoinCartansR (a b:LL) (ha:CartanP a) (hb:CartanP b) (hl:a.length+b.length<=4) :
  FunA B 161 [.sl false (.row false) a,.sl false (.row false) b] (fun rs o=>∃ ys g nn rest,(((rw2 ys).length=a.length+b.length/\∀ r∈rw2 ys,r.length=a.length+b.length)/\nn=true/\rest=[.bool true])/\(lb1 ys).Nodup/\rest.all flatAV=true/\rs=.own 0 g :: rest/\o=[.arr .lrow ys g nn]):=by
 have ha0:=ha.1
 have hb0:=hb.1
 refine wk Tryz.call161 Tryz.func161 rfl Tryz.ntmps161 fun C hC hP hT hfn hpin hfin hX=>wW ?_
 refine Run.R ?_
 refine Run.g fun K hK=>?_
 refine FunA.e hP hT (c_spec_IsCartan a) ?_
 refine .inl (FunA.callG hP hT (c_spec_IsCartan b) (fun _=>rfl) (fun _=>by simp only [AW7,simprocAttr]) ?_)
 rw [isC_true ha,isC_true hb]
 refine wWW ?_
 refine wE ?_;clear hK K
 refine Run.c ?_ ?_
 ·intro h
  exfalso
  revert h
  have:¬((a.length:Int)+b.length > 4):=by omega
  simp [this]
 intro _
 refine Run.R ?_
 refine Run.R ?_
 refine Run.k [0,1,6,7] [0] ?_
 refine Run.loopI (X:=List (Nat×List Int)×Nat) (fun y=>⟨63,[(0,true,.v (.sl false (.row false) a)),(1,true,.v (.sl false (.row false) b)),(6,true,.v (.own 0 0)),(7,true,.v (.int .i64 (y.2)))],[.arr .lrow (y.1) 0 true]⟩) (fun y=>y.2<=a.length/\y.1.length=y.2/\(∀ r∈rw2 y.1,r.length=a.length+b.length)/\(lb1 y.1).Nodup) (fun y=>a.length - y.2) (([],0)) (⟨nz0 _,rfl,by simp [rw2],by simp [lb1]⟩) ?_ ?_
 ·exact Le.s
 rintro⟨ys,i⟩ ⟨hi,hyl,hE,hN⟩ ih
 try simp only []
 simp only []at hi hE hN hyl
 refine Run.R ?_
 refine Run.c ?_ ?_
 ·intro h
  have h:i < a.length:=by rw [dtE]at h;omega
  have hal:(a.getD i []).length=a.length:=by
   have:=ha.2.2.1 i h
   exact this
  refine Run.g fun K hK=>?_
  refine fun q hq=>⟨by simp only [lenC,lenN];omega,?_⟩
  refine wE ?_;clear hK K
  refine Run.k [0,1,6,7] [0] ?_
  have hnd2:(lb1 (ys ++ [(q,a.getD i [] ++ List.replicate b.length 0)])).Nodup:=by
   rw [lb1_app,List.nodup_append]
   refine⟨hN,by simp [lb1],fun a ha b hb=>?_⟩
   simp [lb1]at hb
   subst hb
   obtain⟨p,hp,rfl⟩:=List.mem_map.1 ha
   exact hq _ (mcS ..) _ _ _ rfl p hp
  have hE2:∀ r∈rw2 (ys ++ [(q,a.getD i [] ++ List.replicate b.length 0)]),r.length=a.length+b.length:=by
   intro r hr
   have:rw2 (ys ++ [(q,a.getD i [] ++ List.replicate b.length 0)])=rw2 ys ++ [a.getD i [] ++ List.replicate b.length 0]:=by simp [rw2]
   rw [this,List.mem_append]at hr
   rcases hr with hr | hr
   ·exact hE r hr
   ·rw [List.mem_singleton]at hr
    rw [hr,lenA,hal,List.length_replicate]
  refine Run.RW ?_
  exact Run.j (ih ((ys ++ [(q,a.getD i [] ++ List.replicate b.length 0)],i+1)) (⟨h,by simp [hyl],hE2,hnd2⟩) mz)
 intro h
 have h:i=a.length:=by rw [dfE]at h;omega
 subst h
 clear ih
 refine Run.x ?_
 refine Run.R ?_
 refine Run.k [0,1,6,8] [0] ?_
 refine Run.loopI (X:=List (Nat×List Int)×Nat) (fun y=>⟨63,[(0,true,.v (.sl false (.row false) a)),(1,true,.v (.sl false (.row false) b)),(6,true,.v (.own 0 0)),(8,true,.v (.int .i64 (y.2)))],[.arr .lrow (y.1) 0 true]⟩) (fun y=>y.2<=b.length/\y.1.length=a.length+y.2/\(∀ r∈rw2 y.1,r.length=a.length+b.length)/\(lb1 y.1).Nodup) (fun y=>b.length - y.2) ((ys,0)) (⟨nz0 _,by simp [hyl],hE,hN⟩) ?_ ?_
 ·exact Le.s
 rintro⟨ys,i⟩ ⟨hi,hyl,hE,hN⟩ ih
 try simp only []
 simp only []at hi hE hN hyl
 refine Run.R ?_
 refine Run.c ?_ ?_
 ·intro h
  have h:i < b.length:=by rw [dtE]at h;omega
  have hal:(b.getD i []).length=b.length:=hb.2.2.1 i h
  refine Run.nq ?_;refine Run.regionD hC true [0,1,2,4,5,6,7,3,8,9,10,11] (by kernel_rfl) (fun K hK=>?_);simp only [AW7,simprocAttr,hX];(repeat(with_reducible refine And.intro ?_ ?_);exact vc0)
  refine fun q hq=>⟨by simp only [lenC,lenN];omega,?_⟩
  refine wE ?_;clear hK K
  refine Run.k [0,1,6,8] [0] ?_
  have hnd2:(lb1 (ys ++ [(q,List.replicate a.length 0 ++ b.getD i [])])).Nodup:=by
   rw [lb1_app,List.nodup_append]
   refine⟨hN,by simp [lb1],fun a ha b hb=>?_⟩
   simp [lb1]at hb
   subst hb
   obtain⟨p,hp,rfl⟩:=List.mem_map.1 ha
   exact hq _ (mcS ..) _ _ _ rfl p hp
  have hE2:∀ r∈rw2 (ys ++ [(q,List.replicate a.length 0 ++ b.getD i [])]),r.length=a.length+b.length:=by
   intro r hr
   have:rw2 (ys ++ [(q,List.replicate a.length 0 ++ b.getD i [])])=rw2 ys ++ [List.replicate a.length 0 ++ b.getD i []]:=by simp [rw2]
   rw [this,List.mem_append]at hr
   rcases hr with hr | hr
   ·exact hE r hr
   ·rw [List.mem_singleton]at hr
    rw [hr,lenA,hal,List.length_replicate]
  refine Run.RW ?_
  exact Run.j (ih ((ys ++ [(q,List.replicate a.length 0 ++ b.getD i [])],i+1)) (⟨h,by simp [hyl];omega,hE2,hnd2⟩) mz)
 intro h
 have h:i=b.length:=by rw [dfE]at h;omega
 subst h
 refine Run.x ?_
 refine Run.R ?_
 refine Run.k [4,5] [0] ?_
 refine Run.r [4,5] ?_
 exact⟨ys,0,true,[.bool true],⟨⟨by rw [<- hyl];simp [rw2],hE⟩,rfl,rfl⟩,hN,rfl,rfl,rfl⟩
theorem c_JoinCartans (a b:LL) (ha:CartanP a) (hb:CartanP b) (hl:a.length+b.length<=4) :
  FunA B 161 [.sl false (.row false) a,.sl false (.row false) b] (fun rs o=>rs=[.own 0 0,.bool true]/\∃ hs rows,o=[.mat hs rows 0 true]/\rows.length=a.length+b.length/\∀ r∈rows,r.length=a.length+b.length):=
 (FunA.mat (by rfl) (post:=fun rows nn rest=>(rows.length=a.length+b.length/\∀ r∈rows,r.length=a.length+b.length)/\nn=true/\rest=[.bool true]) (c_JoinCartansR a b ha hb hl)).mono fun rs o ⟨hs,rows,nn,rest,⟨h1,h2,h3⟩,h4,h5,h6⟩=>by subst h2 h3;exact⟨h5,hs,rows,h6,h1⟩
def SqM (c:LL):Prop:=1<=c.length/\c.length<=4/\∀ r∈c,r.length=c.length
instance (c:LL):Decidable (SqM c):=by unfold SqM;infer_instance
theorem SqM.row {c:LL} (h:SqM c) {i:Nat} (hi:i < c.length):(c.getD i []).length=c.length:=by
 rw [gdE,geE hi]
 exact h.2.2 _ (List.getElem_mem hi)
theorem SqM.set1 {c:LL} (h:SqM c) (i j:Nat) (a:Int):SqM (set1 c i j a):=by
 have e:=set1_len c i j a
 refine⟨by rw [e];exact h.1,by rw [e];exact h.2.1,fun r hr=>?_⟩
 rw [e]
 obtain⟨k,hk,rfl⟩:=List.getElem_of_mem hr
 have hr:=set1_row c i j k a
 rw [gdE,geE hk]at hr
 simp only [Option.getD_some]at hr
 rw [hr]
 exact h.row om
def fN:List (List UInt8):=[[65,49],[65,50],[65,50],[65,51],[65,51],[66,50],[66,50],[66,51],[67,51],[71,50]]
def iN:List (List UInt8):=[[65,49,126],[65,50,126],[67,50,126],[71,50,126],[65,51,126],[68,52],[65,52]]
theorem fN_ok:∀ n∈fN,n∈tcN/\SqM (tcM n):=by decide
theorem iN_ok:∀ n∈iN,n∈tcN/\SqM (tcM n):=by decide
theorem sq_cartan {c:LL} (h:SqM c) (hb:∀ i∈List.range c.length,∀ j∈List.range c.length,¬((i=j/\ent c i j≠2)\/(i≠j/\(ent c i j < -3\/ent c i j > 0\/¬(ent c i j=0↔ent c j i=0))))):CartanP c:=
 ⟨h.1,h.2.1,fun i hi=>h.row hi,fun i j hi hj=>hb i (List.mem_range.2 hi) j (List.mem_range.2 hj)⟩
theorem fN_car:∀ n∈fN,(tcM n).length < 3->∀ i∈List.range (tcM n).length,∀ j∈List.range (tcM n).length,¬((i=j/\ent (tcM n) i j≠2)\/(i≠j/\(ent (tcM n) i j < -3\/ent (tcM n) i j > 0\/¬(ent (tcM n) i j=0↔ent (tcM n) j i=0)))):=by decide
def SqO (s:Value) (o:List O):Prop:=∃ hs c,SqM c/\o=[.cur s 0,.mat hs c 0 true]
theorem c_l2Finite (s:Value):FunO B 133 [.own 0 0] (.cur s 0) (fun rs o=>rs=[.own 1 0]/\SqO s o):=by
 refine FunO.walk B_ok (fn:=Tryz.f133) (fun vs w=>Tryz.call133 vs w) Tryz.func133 rfl (by rw [Tryz.ntmps133];simp) (fun C hC hP hT hΓ hbt hfn hpin hfin=>?_);have hX:=BX;rw [<- hΓ,<- hbt.1,<- hbt.2.1,<- hbt.2.2.1,<- hbt.2.2.2.2]at hX;rw [hT]at hX;rw [Tryz.ntmps133];simp only [AW7,simprocAttr,hX]
 refine Run.R ?_
 refine Run.g fun K hK=>?_
 refine⟨by simp [maxLen],?_⟩
 refine FunO.callCur hP hT (c_l1Pick s fN (by decide) (by decide)) 0 0 (by first | rfl | (simp only [AW7,simprocAttr];done) | (simp only [AW7,simprocAttr];rfl)) (by simp only [AW7,simprocAttr];exact⟨by decide,rfl⟩) ?_
 rintro rs o' obs' ⟨nm,rfl,hnm,ho⟩
 injection ho with ho1 ho2;subst ho1 ho2
 obtain⟨hm,hsq⟩:=fN_ok nm hnm
 have hcar:=fN_car nm hnm
 refine wW ?_
 refine FunA.cW hP hT (c_TypeCartan nm hm) ?_
 rintro rs o ⟨rfl,hs,rfl⟩
 refine wF ?_;clear hK K
 refine Run.kp [0,3] [0,2] ?_
 by_cases h3:(tcM nm).length < 3
 ·have hd:decide (((tcM nm).length:Int) < 3)=true:=by rw [dtE];omega
  have hca:CartanP (tcM nm):=sq_cartan hsq (hcar h3)
  have hcb:CartanP (tcM [65,49]):=sq_cartan (fN_ok [65,49] (by decide)).2 (fN_car [65,49] (by decide) (by decide))
  have hl1:(tcM [65,49]).length=1:=by decide
  refine Run.g fun K hK=>?_
  rw [hd]
  refine .inr ⟨rfl,?_⟩
  refine FunO.callCur hP hT (c_l1Once s 4 (by decide) (by decide)) 0 0 (by first | rfl | (simp only [AW7,simprocAttr];done) | (simp only [AW7,simprocAttr];rfl)) (by simp only [AW7,simprocAttr]) ?_
  rintro rs o' obs' ⟨x,rfl,ho⟩
  injection ho with ho1 ho2;subst ho1 ho2
  refine wF ?_;clear hK K
  refine Run.kp [0,3,22] [0,1] ?_
  refine Run.c ?_ ?_
  ·intro hx
   refine Run.g fun K hK=>?_
   refine FunA.cW hP hT (c_TypeCartan [65,49] (by decide)) ?_
   rintro rs o ⟨rfl,hs1,rfl⟩
   refine wF ?_;clear hK K
   refine Run.g fun K hK=>?_
   refine FunA.cW hP hT (c_JoinCartans (tcM nm) (tcM [65,49]) hca hcb om) ?_
   rintro rs o ⟨rfl,hs2,rows,rfl,hr1,hr2⟩
   refine wF ?_;clear hK K
   refine Run.R ?_
   refine Run.kp [0,2] [0,3] ?_
   refine Run.rW [2] (hfin _ _ _ rfl rfl ⟨rfl,rfl⟩ ?_)
   exact⟨rfl,hs2,rows,⟨by omega,by omega,fun r hr=>by rw [hr2 r hr,hr1]⟩,rfl⟩
  intro hx
  refine Run.R ?_
  refine Run.kp [0,2] [0,1] ?_
  refine Run.rW [2] (hfin _ _ _ rfl rfl ⟨rfl,rfl⟩ ?_)
  exact⟨rfl,hs,_,hsq,rfl⟩
 have hd:decide (((tcM nm).length:Int) < 3)=false:=by rw [dfE];omega
 refine Run.g fun K hK=>?_
 rw [hd]
 refine .inl (CallG.off (.bool false) ?_)
 refine wF ?_;clear hK K
 refine Run.c ?_ ?_
 ·intro h;exact absurd h (by simp)
 intro _
 refine Run.R ?_
 refine Run.kp [0,2] [0,1] ?_
 refine Run.rW [2] (hfin _ _ _ rfl rfl ⟨rfl,rfl⟩ ?_)
 exact⟨rfl,hs,_,hsq,rfl⟩
theorem c_l2Infinite (s:Value):FunO B 179 [.own 0 0] (.cur s 0) (fun rs o=>rs=[.own 1 0]/\SqO s o):=by
 refine FunO.walk B_ok (fn:=Tryz.f179) (fun vs w=>Tryz.call179 vs w) Tryz.func179 rfl (by rw [Tryz.ntmps179];simp) (fun C hC hP hT hΓ hbt hfn hpin hfin=>?_);have hX:=BX;rw [<- hΓ,<- hbt.1,<- hbt.2.1,<- hbt.2.2.1,<- hbt.2.2.2.2]at hX;rw [hT]at hX;rw [Tryz.ntmps179];simp only [AW7,simprocAttr,hX]
 refine Run.R ?_
 refine Run.g fun K hK=>?_
 refine⟨by simp [maxLen],?_⟩
 refine FunO.callCur hP hT (c_l1Pick s iN (by decide) (by decide)) 0 0 (by first | rfl | (simp only [AW7,simprocAttr];done) | (simp only [AW7,simprocAttr];rfl)) (by simp only [AW7,simprocAttr];exact⟨by decide,rfl⟩) ?_
 rintro rs o' obs' ⟨nm,rfl,hnm,ho⟩
 injection ho with ho1 ho2;subst ho1 ho2
 obtain⟨hm,hsq⟩:=iN_ok nm hnm
 have hl:=hsq.1
 have hl4:=hsq.2.1
 refine wW ?_
 refine FunA.cW hP hT (c_TypeCartan nm hm) ?_
 rintro rs o ⟨rfl,hs,rfl⟩
 refine wF ?_;clear hK K
 refine Run.kp [0,3] [0,2] ?_
 refine Run.g fun K hK=>?_
 refine FunO.callCur hP hT (c_l1Once s 3 (by decide) (by decide)) 0 0 (by first | rfl | (simp only [AW7,simprocAttr];done) | (simp only [AW7,simprocAttr];rfl)) (by simp only [AW7,simprocAttr]) ?_
 rintro rs o' obs' ⟨x,rfl,ho⟩
 injection ho with ho1 ho2;subst ho1 ho2
 refine wF ?_;clear hK K
 refine Run.kp [0,3,15] [0,1] ?_
 refine Run.c ?_ ?_
 rotate_left
 ·intro _
  refine Run.R ?_
  refine Run.kp [0,2] [0,1] ?_
  refine Run.rW [2] (hfin _ _ _ rfl rfl ⟨rfl,rfl⟩ ?_)
  exact⟨rfl,hs,_,hsq,rfl⟩
 intro _
 refine Run.g fun K hK=>?_
 refine FunO.callCur hP hT (c_l1Below s (tcM nm).length om om) 0 0 (by first | rfl | (simp only [AW7,simprocAttr];done) | (simp only [AW7,simprocAttr];rfl)) (by simp only [AW7,simprocAttr]) ?_
 rintro rs o' obs' ⟨i,rfl,i0,i1,ho⟩
 injection ho with ho1 ho2;subst ho1 ho2
 have i1:=i1 om
 refine wF ?_;clear hK K
 refine Run.g fun K hK=>?_
 refine FunO.callCur hP hT (c_l1Below s (tcM nm).length om om) 0 0 (by first | rfl | (simp only [AW7,simprocAttr];done) | (simp only [AW7,simprocAttr];rfl)) (by simp only [AW7,simprocAttr]) ?_
 rintro rs o' obs' ⟨j,rfl,j0,j1,ho⟩
 injection ho with ho1 ho2;subst ho1 ho2
 have j1:=j1 om
 refine wF ?_;clear hK K
 refine Run.kp [0,3,5,6] [0,1] ?_
 refine Run.R ?_
 refine Run.c ?_ ?_
 rotate_left
 ·intro _
  refine Run.R ?_
  refine Run.kp [0,2] [0,1] ?_
  refine Run.rW [2] (hfin _ _ _ rfl rfl ⟨rfl,rfl⟩ ?_)
  exact⟨rfl,hs,_,hsq,rfl⟩
 intro _
 obtain⟨i,rfl⟩:∃ k:Nat,i=k:=⟨i.toNat,by omega⟩
 obtain⟨j,rfl⟩:∃ k:Nat,j=k:=⟨j.toNat,by omega⟩
 refine Run.g fun K hK=>?_
 refine FunO.callCur hP hT (c_l1Below s 3 (by decide) (by decide)) 0 0 (by first | rfl | (simp only [AW7,simprocAttr];done) | (simp only [AW7,simprocAttr];rfl)) (by simp only [AW7,simprocAttr]) ?_
 rintro rs o' obs' ⟨p,rfl,p0,p1,ho⟩
 injection ho with ho1 ho2;subst ho1 ho2
 have p1:=p1 om
 refine wWW ?_
 refine FunO.callCur hP hT (c_l1Below s 3 (by decide) (by decide)) 0 0 (by first | rfl | (simp only [AW7,simprocAttr];done) | (simp only [AW7,simprocAttr];rfl)) (by simp only [AW7,simprocAttr]) ?_
 rintro rs o' obs' ⟨q,rfl,q0,q1,ho⟩
 injection ho with ho1 ho2;subst ho1 ho2
 have q1:=q1 om
 refine wWW ?_
 have hri:=hsq.row (i:=i) om
 have hrj:=hsq.row (i:=j) om
 refine FunA.cW hP hT (c_l2Set (tcM nm) i j (-1 - p) (-1 - q) om (fun r hr=>by rw [hsq.2.2 r hr];omega) om om om om) ?_
 rintro rs o ⟨rfl,hs2,rfl⟩
 refine wF ?_;clear hK K
 refine Run.kp [0,2] [0,2] ?_
 refine Run.rW [2] (hfin _ _ _ rfl rfl ⟨rfl,rfl⟩ ?_)
 refine⟨rfl,hs2,_,?_,rfl⟩
 exact(hsq.set1 i j (-1 - p)).set1 j i (-1 - q)
theorem c_l2Drawn (s:Value):FunO B 142 [.own 0 0] (.cur s 0) (fun rs o=>rs=[.own 1 0]/\SqO s o):=by
 refine FunO.walk B_ok (fn:=Tryz.f142) (fun vs w=>Tryz.call142 vs w) Tryz.func142 rfl (by rw [Tryz.ntmps142];simp) (fun C hC hP hT hΓ hbt hfn hpin hfin=>?_);have hX:=BX;rw [<- hΓ,<- hbt.1,<- hbt.2.1,<- hbt.2.2.1,<- hbt.2.2.2.2]at hX;rw [hT]at hX;rw [Tryz.ntmps142];simp only [AW7,simprocAttr,hX]
 refine Run.R ?_
 refine Run.g fun K hK=>?_
 refine FunO.callCur hP hT (c_l1Once s 3 (by decide) (by decide)) 0 0 (by first | rfl | (simp only [AW7,simprocAttr];done) | (simp only [AW7,simprocAttr];rfl)) (by simp only [AW7,simprocAttr]) ?_
 rintro rs o' obs' ⟨x,rfl,ho⟩
 injection ho with ho1 ho2;subst ho1 ho2
 refine wF ?_;clear hK K
 refine Run.c ?_ ?_
 ·intro _
  refine Run.g fun K hK=>?_
  refine FunO.callCur hP hT (c_l2Infinite s) 0 0 (by first | rfl | (simp only [AW7,simprocAttr];done) | (simp only [AW7,simprocAttr];rfl)) (by simp only [AW7,simprocAttr]) ?_
  rintro rs o' obs' ⟨rfl,hs,c,hsq,ho⟩
  injection ho with ho1 ho2;subst ho1 ho2
  refine wF ?_;clear hK K
  refine Run.rW [2] (hfin _ _ _ rfl rfl ⟨rfl,rfl⟩ ?_)
  exact⟨rfl,hs,c,hsq,rfl⟩
 intro _
 refine Run.g fun K hK=>?_
 refine FunO.callCur hP hT (c_l2Finite s) 0 0 (by first | rfl | (simp only [AW7,simprocAttr];done) | (simp only [AW7,simprocAttr];rfl)) (by simp only [AW7,simprocAttr]) ?_
 rintro rs o' obs' ⟨rfl,hs,c,hsq,ho⟩
 injection ho with ho1 ho2;subst ho1 ho2
 refine wF ?_;clear hK K
 refine Run.rW [2] (hfin _ _ _ rfl rfl ⟨rfl,rfl⟩ ?_)
 exact⟨rfl,hs,c,hsq,rfl⟩
theorem c_l5Word (s:Value) (c:LL) (m:Nat) (hc:c.length<=100) (hm:m<=100):FunO B 103 [.own 0 0,.sl false (.row false) c,.int .i64 m] (.cur s 0) (fun rs o=>∃ w nn,(∀ k∈w,0<=k/\(0 < c.length->k < (c.length:Int)))/\w.length<=m/\nn=true/\rs=[.own 1 0]/\o=[.cur s 0,.arr .int w 0 nn]):=by
 refine FunO.walk B_ok (fn:=Tryz.f103) (fun vs w=>Tryz.call103 vs w) Tryz.func103 rfl (by rw [Tryz.ntmps103];simp) (fun C hC hP hT hΓ hbt hfn hpin hfin=>?_);have hX:=BX;rw [<- hΓ,<- hbt.1,<- hbt.2.1,<- hbt.2.2.1,<- hbt.2.2.2.2]at hX;rw [hT]at hX;rw [Tryz.ntmps103];simp only [AW7,simprocAttr,hX]
 refine Run.R ?_
 refine Run.R ?_
 refine Run.nq ?_;refine Run.regionW hC (fun K hK=>?_);refine wWW ?_
 refine FunO.callCur hP hT (c_l1Below s (m+1) om om) 0 0 (by first | rfl | (simp only [AW7,simprocAttr];done) | (simp only [AW7,simprocAttr];rfl)) (by simp only [AW7,simprocAttr]) ?_
 rintro rs o' obs' ⟨x,rfl,x0,x1,ho⟩
 injection ho with ho1 ho2;subst ho1 ho2
 have x1:=x1 om
 refine wF ?_;clear hK K
 obtain⟨x,rfl⟩:∃ k:Nat,x=k:=⟨x.toNat,by omega⟩
 refine Run.kp [0,1,7,8] [0,1] ?_
 refine Run.loopI (X:=List Int×Nat) (fun y=>⟨27,[(0,true,.v (.own 0 0)),(1,true,.v (.sl false (.row false) c)),(7,true,.v (.own 1 0)),(8,true,.v (.int .i64 (y.2)))],[.cur s 0,.arr .int (y.1) 0 true]⟩) (fun y=>y.1.length+y.2<=m/\(∀ k∈y.1,0<=k/\(0 < c.length->k < (c.length:Int)))) (fun y=>y.2) (([],x)) (⟨by simp;omega,by simp⟩) ?_ ?_
 ·exact Le.s
 rintro⟨w,n⟩ ⟨hwl,hw⟩ ih
 try simp only []
 simp only []at hwl hw
 refine Run.R ?_
 refine Run.c ?_ ?_
 rotate_left
 ·intro _
  refine Run.x ?_
  refine Run.R ?_
  refine Run.kp [0,6] [0,1] ?_
  refine Run.rW [6] (hfin _ _ _ rfl rfl ⟨rfl,rfl⟩ ?_)
  exact⟨w,true,hw,by omega,rfl,rfl,rfl⟩
 intro h
 have h:0 < n:=by rw [dtE]at h;omega
 refine Run.g fun K hK=>?_
 have hb:-1000<=(if (c.length:Int) > 1 then(c.length:Int)else 1)/\(if (c.length:Int) > 1 then(c.length:Int)else 1)<=256:=by split<;>omega
 have hb2:0 < c.length->(if (c.length:Int) > 1 then(c.length:Int)else 1)<=c.length:=by intro h;split<;>omega
 have hb3:0 < (if (c.length:Int) > 1 then(c.length:Int)else 1):=by split<;>omega
 refine FunO.callCur hP hT (c_l1Below s _ hb.1 hb.2) 0 0 (by first | rfl | (simp only [AW7,simprocAttr];done) | (simp only [AW7,simprocAttr];rfl)) (by simp only [AW7,simprocAttr]) ?_
 rintro rs o' obs' ⟨v,rfl,v0,v1,ho⟩
 injection ho with ho1 ho2;subst ho1 ho2
 have v1:=v1 hb3
 generalize (if (c.length:Int) > 1 then(c.length:Int)else 1)=z at *
 refine wF ?_;clear hK K
 have e:(n:Int) - 1=((n - 1:Nat):Int):=by omega
 have hw2:∀ k∈w ++ [v],0<=k/\(0 < c.length->k < (c.length:Int)):=by
  intro k hk
  rw [List.mem_append,List.mem_singleton]at hk
  rcases hk with hk | rfl
  ·exact hw k hk
  ·exact⟨v0,fun h=>by have:=hb2 h;omega⟩
 refine Run.kp [0,1,7,8] [0,1] ?_
 refine Run.RW ?_
 rw [e]
 exact Run.j (ih ((w ++ [v],n - 1)) (⟨by simp;omega,hw2⟩) mz)
theorem c_l2Any (s:Value):FunO B 105 [.own 0 0] (.cur s 0) (fun rs o=>∃ c g nn,(1<=c.length/\c.length<=5)/\nn=true/\rs=[.own 1 g]/\o=[.cur s 0,.arr (.row true) c g nn]):=by
 refine FunO.walk B_ok (fn:=Tryz.f105) (fun vs w=>Tryz.call105 vs w) Tryz.func105 rfl (by rw [Tryz.ntmps105];simp) (fun C hC hP hT hΓ hbt hfn hpin hfin=>?_);have hX:=BX;rw [<- hΓ,<- hbt.1,<- hbt.2.1,<- hbt.2.2.1,<- hbt.2.2.2.2]at hX;rw [hT]at hX;rw [Tryz.ntmps105];simp only [AW7,simprocAttr,hX]
 refine Run.R ?_
 refine Run.g fun K hK=>?_
 refine FunO.callCur hP hT (c_l2Drawn s) 0 0 (by first | rfl | (simp only [AW7,simprocAttr];done) | (simp only [AW7,simprocAttr];rfl)) (by simp only [AW7,simprocAttr]) ?_
 rintro rs o' obs' ⟨rfl,hs,c,hsq,ho⟩
 injection ho with ho1 ho2;subst ho1 ho2
 have hl:=hsq.1
 have hl4:=hsq.2.1
 refine wF ?_;clear hK K
 refine Run.g fun K hK=>?_
 refine FunO.callCur hP hT (c_l1Once s 12 (by decide) (by decide)) 0 0 (by first | rfl | (simp only [AW7,simprocAttr];done) | (simp only [AW7,simprocAttr];rfl)) (by simp only [AW7,simprocAttr]) ?_
 rintro rs o' obs' ⟨x,rfl,ho⟩
 injection ho with ho1 ho2;subst ho1 ho2
 refine wF ?_;clear hK K
 refine Run.kp [0,3,8] [0,1] ?_
 refine Run.c ?_ ?_
 rotate_left
 ·intro _
  refine Run.R ?_
  refine Run.kp [0,2] [0,1] ?_
  refine Run.unmat hC 1 rfl ?_
  simp only [AW7,simprocAttr]
  refine Run.rW [2] (hfin _ _ _ rfl rfl ⟨rfl,rfl⟩ ?_)
  exact⟨c,0,true,⟨by omega,by omega⟩,rfl,rfl,rfl⟩
 intro _
 refine Run.g fun K hK=>?_
 refine FunO.callCur hP hT (c_l1Below s c.length om om) 0 0 (by first | rfl | (simp only [AW7,simprocAttr];done) | (simp only [AW7,simprocAttr];rfl)) (by simp only [AW7,simprocAttr]) ?_
 rintro rs o' obs' ⟨i,rfl,i0,i1,ho⟩
 injection ho with ho1 ho2;subst ho1 ho2
 have i1:=i1 om
 obtain⟨i,rfl⟩:∃ k:Nat,i=k:=⟨i.toNat,by omega⟩
 have hrow:=hsq.row (i:=i) om
 refine wF ?_;clear hK K
 refine Run.kp [0,3,4] [0,1] ?_
 refine Run.matfact 1 rfl fun hl0 hd hz=>?_
 obtain⟨q1,e1,m1,x1⟩:=mat_head hl0 hd hz (i:=i) om om
 have hq:c.length=(c.getD (hs.idxOf (some q1)) []).length:=by rw [x1];exact hrow.symm
 refine Run.g fun K hK=>?_
 rw [e1,hrow,Q_src_cur m1 hq,x1]
 simp only [AW7,simprocAttr,hX]
 refine⟨by simp only [lenN];omega,⟨by omega,by omega⟩,fun h0=>?_⟩
 refine wE ?_;clear hK K
 have hcc:c.set i (c.getD i [])=c:=by
  have hi:i < c.length:=by omega
  apply List.ext_getElem?
  intro j
  by_cases hj:i=j
  ·subst hj;rw [List.getElem?_set_self hi,gdE,geE hi];rfl
  ·rw [List.getElem?_set_ne hj]
 rw [hcc]
 generalize hs.set i (some h0)=hs2 at *
 refine Run.kp [0,3,4] [0,1] ?_
 refine Run.g fun K hK=>?_
 refine FunO.callCur hP hT (c_l1Below s 3 (by decide) (by decide)) 0 0 (by first | rfl | (simp only [AW7,simprocAttr];done) | (simp only [AW7,simprocAttr];rfl)) (by simp only [AW7,simprocAttr]) ?_
 rintro rs o' obs' ⟨z,rfl,z0,z1,ho⟩
 injection ho with ho1 ho2;subst ho1 ho2
 refine wF ?_;clear hK K
 refine Run.kp [0,3,4,23] [0,1] ?_
 refine Run.R ?_
 refine Run.c ?_ ?_
 ·intro _
  refine Run.matfact 1 rfl fun hl0 hd hz=>?_
  obtain⟨q2,e2,m2,x2⟩:=mat_head hl0 hd hz (i:=i) om om
  have hq2:0 < (c.getD (hs2.idxOf (some q2)) []).length:=by rw [x2];omega
  refine Run.nq ?_;refine Run.regionD hC true [0,1,2,3,4,5,6,7,8] (by kernel_rfl) (fun K hK=>?_);simp only [AW7,simprocAttr,hX];(repeat(with_reducible refine And.intro ?_ ?_);exact vc0)
  refine FunO.callCurD hP hT (c_l1PickInt s [-4,1,0,2] (by decide) (by decide)) 0 0 (by first | rfl | (simp only [AW7,simprocAttr];done) | (simp only [AW7,simprocAttr];rfl)) (fun _ _ ⟨_,_,_,h⟩=>h) (by simp only [AW7,simprocAttr];first | done | decide | exact⟨by decide,rfl⟩) ?_
  rintro rs ⟨v,rfl,hv,_⟩
  rw [e2]
  simp only [AW7,simprocAttr,hX]
  refine⟨by omega,⟨m2,hq2⟩,?_⟩
  refine hK _ ?_;clear hK K;refine Run.nq ?_
  refine Run.R ?_
  refine Run.kp [0,2] [0,1] ?_
  refine Run.unmat hC 1 rfl ?_
  simp only [AW7,simprocAttr]
  refine Run.rW [2] (hfin _ _ _ rfl rfl ⟨rfl,rfl⟩ ?_)
  refine⟨_,0,true,⟨?_,?_⟩,rfl,rfl,rfl⟩<;>simp only [setM,List.length_set]<;>omega
 intro _
 refine Run.R ?_
 refine Run.c ?_ ?_
 ·intro _
  refine Run.unmat hC 1 rfl ?_
  simp only [AW7,simprocAttr]
  refine Run.R ?_
  refine Run.R ?_
  refine Run.kp [0,2] [0,1] ?_
  refine Run.rW [2] (hfin _ _ _ rfl rfl ⟨rfl,rfl⟩ ?_)
  refine⟨_,0,true,⟨?_,?_⟩,rfl,rfl,rfl⟩<;>simp<;>omega
 intro _
 refine Run.R ?_
 refine Run.c ?_ ?_
 ·intro _
  refine Run.unmat hC 1 rfl ?_
  simp only [AW7,simprocAttr]
  refine Run.g fun K hK=>?_
  refine fun l hl=>⟨by simp only [List.map_cons,List.map_nil,lenC,lenN];omega,?_⟩
  refine wE ?_;clear hK K
  refine Run.R ?_
  refine Run.kp [0,2] [0,1] ?_
  refine Run.rW [2] (hfin _ _ _ rfl rfl ⟨rfl,rfl⟩ ?_)
  refine⟨_,0,true,⟨?_,?_⟩,rfl,rfl,rfl⟩<;>simp<;>omega
 intro _
 refine Run.R ?_
 refine Run.kp [0,2] [0,1] ?_
 refine Run.unmat hC 1 rfl ?_
 simp only [AW7,simprocAttr]
 refine Run.rW [2] (hfin _ _ _ rfl rfl ⟨rfl,rfl⟩ ?_)
 exact⟨c,0,true,⟨by omega,by omega⟩,rfl,rfl,rfl⟩
end Go.Proofs.YtcinngodeoidnaaGreat
