/- The law FnExactFactorReflections. -/
import Derived.Test.YtcinngodeoidnaaGreatB24
set_option linter.unusedVariables false
set_option linter.unusedSimpArgs false
namespace Go.Proofs.YtcinngodeoidnaaGreat
open Go Go.Aw
theorem c_FnExactFactorReflections (c:LL) (w:LI) (_:∀ r∈c,∀ n∈r,(Lit.int .i64 n).wf=true) (_:∀ n∈w,(Lit.int .i64 n).wf=true):FunA B 6 [.sl false (.row false) c,.sl false .int w] (fun rs _=>rs=[.bool true]):=by
 refine wk Tryz.call6 Tryz.func6 rfl Tryz.ntmps6 fun C hC hP hT hfn hpin hfin hX=>wW ?_
 refine Run.R ?_
 refine Run.keep [0,1,4] ?_;simp only [AK,Nat.reduceBEq]
 refine Run.R ?_
 refine Run.keep [0,1,4,19] ?_;simp only [AK,Nat.reduceBEq]
 refine Run.c ?_ ?_
 ·intro hc
  refine Run.R ?_
  refine Run.r [4] ?_
  rfl
 intro hc
 have hw:w.length<=1048576:=by simp at hc;omega
 clear hc
 refine Run.R ?_
 refine Run.keep [0,1,4,5] ?_;simp only [AK,Nat.reduceBEq]
 refine Run.g fun K hK=>?_
 refine FunA.e hP hT (c_szIntSS c (1048576) ⟨by omega,by omega⟩) ?_
 refine wE ?_;clear hK K
 refine Run.keep [0,1,4,5] ?_;simp only [AK,Nat.reduceBEq]
 refine Run.R ?_
 refine Run.keep [0,1,4,5,24] ?_;simp only [AK,Nat.reduceBEq]
 refine Run.c ?_ ?_
 ·intro hc
  refine Run.R ?_
  refine Run.r [4] ?_
  rfl
 intro hc
 have hzc:0<=szII c (1048576):=by simp at hc;omega
 clear hc
 have hbc:=szII_all c (1048576) ⟨by omega,by omega⟩ hzc
 obtain⟨hcn,hcr,hcs,hcl⟩:=hbc
 refine Run.g fun K hK=>?_
 refine FunA.cW hP hT (c_toIntSS c hcn hcr) ?_
 rintro rs o ⟨rfl,hs1,hs1l,rfl⟩
 refine wW ?_
 refine FunA.e hP hT (c_toIntS w hw) ?_
 refine FunA.cW hP hT (c_spec_FactorReflections c w hcn) ?_
 rintro rs o ⟨rfl,hs2,hs2l,rfl⟩
 refine wF ?_;clear hK K
 refine Run.keep [0,1,4,5,6,7] ?_;simp only [AK,Nat.reduceBEq]
 refine Run.g fun K hK=>?_
 refine FunA.cW hP hT (c_toIntSS c hcn hcr) ?_
 rintro rs o ⟨rfl,hs3,hs3l,rfl⟩
 refine wF ?_;clear hK K
 refine Run.keep [0,1,4,5,6,7,8] ?_;simp only [AK,Nat.reduceBEq]
 refine Run.g fun K hK=>?_
 refine FunA.e hP hT (c_toIntS w hw) ?_
 refine wE ?_;clear hK K
 refine Run.keep [0,1,4,5,6,7,8,9] ?_;simp only [AK,Nat.reduceBEq]
 refine Run.g fun K hK=>?_
 refine FunA.cW hP hT (c_impl_FactorReflections c w hcn) ?_
 rintro rs o ⟨rfl,hs4,hs4l,rfl⟩
 refine wF ?_;clear hK K
 refine Run.keep [0,1,4,5,6,7,8,9,10,11] ?_;simp only [AK,Nat.reduceBEq]
 refine Run.g fun K hK=>?_
 refine FunA.e hP hT (c_eqIntSS (facX c w) (facX c w) (by have:=facX_len c w;omega) (fun r hr=>by have:=facX_rows c w r hr;omega)) ?_
 refine wE ?_;clear hK K
 refine Run.keep [0,1,4,5,6,7,8,9,10,11,51] ?_;simp only [AK,Nat.reduceBEq]
 refine Run.c ?_ ?_
 ·intro hc
  exfalso
  simp [iota_length,sumL_iotaR]at hc<;>omega
 intro hc0;clear hc0
 refine Run.g fun K hK=>?_
 refine FunA.cW hP hT (c_toIntSS c hcn hcr) ?_
 rintro rs o ⟨rfl,hs5,hs5l,rfl⟩
 refine wW ?_
 refine FunA.e hP hT (c_eqIntSS (c) (c) om (fun r hr=>by have:=hcr r hr;omega)) ?_
 refine wE ?_;clear hK K
 refine Run.keep [0,1,4,5,6,7,8,9,10,11,56] ?_;simp only [AK,Nat.reduceBEq]
 refine Run.c ?_ ?_
 ·intro hc
  exfalso
  simp [iota_length,sumL_iotaR]at hc<;>omega
 intro hc0;clear hc0
 refine Run.g fun K hK=>?_
 refine FunA.e hP hT (c_toIntS w hw) ?_
 refine FunA.e hP hT (c_eqIntS (w) (w) om) ?_
 refine wE ?_;clear hK K
 refine Run.keep [0,1,4,5,6,7,8,9,10,11,61] ?_;simp only [AK,Nat.reduceBEq]
 refine Run.c ?_ ?_
 ·intro hc
  exfalso
  simp [iota_length,sumL_iotaR]at hc<;>omega
 intro hc0;clear hc0
 refine Run.R ?_
 refine Run.keep [0,1,4,5,6,7,8,9,10,11,12] ?_;simp only [AK,Nat.reduceBEq]
 refine Run.g fun K hK=>?_
 refine FunO.callMat hP hT (c_markIntSS hs3 (c) 1 om om true) 3 0 (by simp only [AW7,simprocAttr];rfl) (by simp) (by simp only [AW7,simprocAttr]) ?_
 rintro rs o o2 ⟨rfl,h⟩;obtain⟨rfl,rfl⟩:=List.cons.inj h
 refine wF ?_;clear hK K
 refine Run.keep [0,1,4,5,6,7,8,9,10,11,12] ?_;simp only [AK,Nat.reduceBEq]
 refine Run.g fun K hK=>?_
 refine FunM.call hP hT (c_markIntS (w) (1+(sumL (c):Int)) om om true) 4 0 (by simp only [AW7,simprocAttr];rfl) (by simp) rfl (by simp only [AW7,simprocAttr];try simp) ?_
 rintro rs o o2 ⟨rfl,h⟩;obtain⟨rfl,rfl⟩:=List.cons.inj h
 refine wF ?_;clear hK K
 refine Run.keep [0,1,4,5,6,7,8,9,10,11,12] ?_;simp only [AK,Nat.reduceBEq]
 refine Run.g fun K hK=>?_
 refine .inl (FunA.callG hP hT (c_eqIntSS (facX c w) (facX c w) (by have:=facX_len c w;omega) (fun r hr=>by have:=facX_rows c w r hr;omega)) (fun _=>rfl) (fun _=>by simp only [AW7,simprocAttr]) ?_)
 refine wF ?_;clear hK K
 refine Run.keep [0,1,4,5,6,7,8,9,10,11,12,80] ?_;simp only [AK,Nat.reduceBEq]
 refine Run.c ?_ ?_
 ·intro hc
  exfalso
  simp [iota_length,sumL_iotaR]at hc<;>omega
 intro hc0;clear hc0
 refine Run.R ?_
 refine Run.keep [0,1,4,5,6,7,8,9,10,11,12,13] ?_;simp only [AK,Nat.reduceBEq]
 refine Run.g fun K hK=>?_
 refine FunO.callMat hP hT (c_markIntSS hs4 (facX c w) 1 (by have:=facX_len c w;omega) (by have:=sumL_le (facX_len c w) (facX_rows c w);omega) true) 5 0 (by simp only [AW7,simprocAttr];rfl) (by simp) (by simp only [AW7,simprocAttr]) ?_
 rintro rs o o2 ⟨rfl,h⟩;obtain⟨rfl,rfl⟩:=List.cons.inj h
 refine wF ?_;clear hK K
 refine Run.keep [0,1,4,5,6,7,8,9,10,11,12,13] ?_;simp only [AK,Nat.reduceBEq]
 refine Run.R ?_
 refine Run.keep [0,1,4,5,6,7,8,9,10,11,12,13,14] ?_;simp only [AK,Nat.reduceBEq]
 refine Run.g fun K hK=>?_
 refine FunA.e hP hT (c_heldIotaR 1 (facX c w) (by have:=facX_len c w;omega) (fun r hr=>by have:=facX_rows c w r hr;omega) (by have:=sumL_le (facX_len c w) (facX_rows c w);omega)) ?_
 refine wE ?_;clear hK K
 refine Run.keep [0,1,4,5,6,7,8,9,10,11,12,13,14] ?_;simp only [AK,Nat.reduceBEq]
 refine Run.R ?_
 refine Run.keep [0,1,4,5,6,7,8,9,10,11,12,13,14,88] ?_;simp only [AK,Nat.reduceBEq]
 refine Run.c ?_ ?_
 ·intro hc
  exfalso
  simp [iota_length,sumL_iotaR]at hc<;>omega
 intro hc0;clear hc0
 refine Run.R ?_
 refine Run.keep [0,1,4,5,6,7,8,9,10,11,12,13,14,91] ?_;simp only [AK,Nat.reduceBEq]
 refine Run.c ?_ ?_
 ·intro hc
  exfalso
  simp [iota_length,sumL_iotaR]at hc<;>omega
 intro hc0;clear hc0
 refine Run.g fun K hK=>?_
 refine FunA.cW hP hT (c_toIntSS c hcn hcr) ?_
 rintro rs o ⟨rfl,hs6,hs6l,rfl⟩
 refine wW ?_
 refine FunA.e hP hT (c_toIntS w hw) ?_
 refine FunA.cW hP hT (c_impl_FactorReflections c w hcn) ?_
 rintro rs o ⟨rfl,hs7,hs7l,rfl⟩
 refine wF ?_;clear hK K
 refine Run.keep [0,1,4,5,6,7,8,9,10,11,12,13,14,15,16] ?_;simp only [AK,Nat.reduceBEq]
 refine Run.g fun K hK=>?_
 refine FunA.e hP hT (c_eqIntSS (facX c w) (facX c w) (by have:=facX_len c w;omega) (fun r hr=>by have:=facX_rows c w r hr;omega)) ?_
 refine wE ?_;clear hK K
 refine Run.keep [0,1,4,5,6,7,8,9,10,11,12,13,14,15,16,108] ?_;simp only [AK,Nat.reduceBEq]
 refine Run.c ?_ ?_
 ·intro hc
  exfalso
  simp [iota_length,sumL_iotaR]at hc<;>omega
 intro hc0;clear hc0
 refine Run.R ?_
 refine Run.keep [0,1,4,5,6,7,8,9,10,11,12,13,14,15,16] ?_;simp only [AK,Nat.reduceBEq]
 refine Run.g fun K hK=>?_
 refine FunA.e hP hT (c_heldIotaR 1 (facX c w) (by have:=facX_len c w;omega) (fun r hr=>by have:=facX_rows c w r hr;omega) (by have:=sumL_le (facX_len c w) (facX_rows c w);omega)) ?_
 refine wE ?_;clear hK K
 refine Run.keep [0,1,4,5,6,7,8,9,10,11,12,13,14,15,16] ?_;simp only [AK,Nat.reduceBEq]
 refine Run.R ?_
 refine Run.keep [0,1,4,5,6,7,8,9,10,11,12,13,14,15,16,113] ?_;simp only [AK,Nat.reduceBEq]
 refine Run.c ?_ ?_
 ·intro hc
  exfalso
  simp [iota_length,sumL_iotaR]at hc<;>omega
 intro hc0;clear hc0
 refine Run.R ?_
 refine Run.keep [0,1,4,5,6,7,8,9,10,11,12,13,14,15,16,116] ?_;simp only [AK,Nat.reduceBEq]
 refine Run.c ?_ ?_
 ·intro hc
  exfalso
  simp [iota_length,sumL_iotaR]at hc<;>omega
 intro hc0;clear hc0
 refine Run.R ?_
 refine Run.keep [0,1,4,5,6,7,8,9,10,11,12,13,14,15,16] ?_;simp only [AK,Nat.reduceBEq]
 refine Run.r [4] ?_
 rfl
end Go.Proofs.YtcinngodeoidnaaGreat
