/- Matrices with positive minors, all of them. -/
import Derived.Test.YtcinngodeoidnaaGreatDoorB12
import Derived.Test.YtcinngodeoidnaaGreatDoorB8
import Derived.Test.YtcinngodeoidnaaGreatDoorB13
import Derived.Test.YtcinngodeoidnaaGreatDoorB7
import Derived.WalkKit
import Derived.Deep.QuietTactic
import Derived.BigQuiet
set_option linter.unusedVariables false
set_option linter.unusedSimpArgs false
namespace Go.Proofs.YtcinngodeoidnaaGreatDoor
open Go Go.Aw Go.Cox
def cI (rows:List (List Nat)):List (List Int):=rows.zipIdx.map fun r=>r.1.zipIdx.map fun x=>if x.2=r.2 then 2 else -(x.1:Int)
def finCR:Nat->List (List (List Nat)×List (List Nat))
 | 1=>[([[0]],[[0]])]
 | 2=>prN.map fun p=>([[0,p.2],[p.1,0]],[[0,p.1],[p.2,0]])
 | 3=>prN.flatMap fun p=>prN.flatMap fun q=>(prN.filter fun r=>d3 p q r).map fun r=>(col3 p q r,row3 p q r)
 | 4=>prN.flatMap fun p=>prN.flatMap fun q=>(prN.filter fun r=>d3 p q r).flatMap fun r=>prN.flatMap fun s=>(prN.filter fun t=>d3 p s t).flatMap fun t=>(prN.filter fun u=>d3 q s u && d3 r t u && d4 p q r s t u).map fun u=>(col4 p q r s t u,row4 p q r s t u)
 | _=>[]
def finM (n:Nat):List (List (List Int)):=(finCR n).map fun x=>cI x.2
theorem fits_eq {c:LL} (hc:CartanP c) {cols rows:List (List Nat)} (h:Fits c cols rows):c=cI rows:=by
 have hA:=matA_cartan hc
 have hrow:=hc.2.2.1
 apply List.ext_getElem (by simp [cI,h.rl])
 intro i h1 h2
 have hr:=(h.cr i h1).2.1
 have hrl:i < rows.length:=by rw [h.rl];exact h1
 have hr':rows[i].length=c.length:=by rw [<- hr,gdE,geE hrl];rfl
 have hci:c[i].length=c.length:=by have:=hrow i h1;rwa [gdE,geE h1]at this
 apply List.ext_getElem (by simp [cI,hr',hci])
 intro k k1 k2
 have hk:k < c.length:=by omega
 have e1:c[i][k]=ent c i k:=by simp [ent,gdE,h1,k1]
 rw [e1]
 have e2:(cI rows)[i][k]=if k=i then 2 else -((rows[i]'hrl)[k]'om:Int):=by simp [cI]
 rw [e2]
 by_cases hki:k=i
 ·subst hki;rw [if_pos rfl];exact hA.diag k hk
 ·rw [if_neg hki,(h.ce i k h1 hk hki).2]
  simp [gdE,hrl,show k < rows[i].length by omega]
theorem fin_rows {c:LL} (hF:FinP c):∃ cols rows,Fits c cols rows/\(cols,rows)∈finCR c.length:=by
 obtain⟨hc,hm⟩:=hF
 have hA:=matA_cartan hc
 have dg:∀ i,i < c.length->ent c i i=2:=fun i hi=>hA.diag i hi
 have hn1:=hc.1
 have hn4:=hc.2.1
 have h1:c.length=1\/c.length=2\/c.length=3\/c.length=4:=by omega
 rcases h1 with hn | hn | hn | hn
 ·refine⟨[[0]],[[0]],⟨by rw [hn];rfl,by rw [hn];rfl,fun i hi=>?_,fun i k hi hk hki=>by omega⟩,by rw [hn];exact mcS ..⟩
  have:i=0:=by omega
  subst this
  rw [hn];exact⟨rfl,rfl,rfl⟩
 ·obtain⟨p,hp,p1,p2⟩:=pair_of hc (i:=0) (j:=1) om om (by decide) (by have:=hm 3 om (by rw [hn];decide);rw [show mn c 3=detN 2 (pick c [0,1])from rfl,mn2]at this;exact this)
  refine⟨[[0,p.2],[p.1,0]],[[0,p.1],[p.2,0]],⟨by rw [hn];rfl,by rw [hn];rfl,fun i hi=>?_,fun i k hi hk hki=>?_⟩,by rw [hn];exact List.mem_map.2 ⟨p,hp,rfl⟩⟩
  ·rw [hn]at hi ⊢
   rcases(show i=0\/i=1 by omega)with rfl | rfl<;>exact⟨rfl,rfl,rfl⟩
  ·rw [hn]at hi hk
   rcases(show i=0\/i=1 by omega)with rfl | rfl<;>rcases(show k=0\/k=1 by omega)with rfl | rfl<;>first | (exact absurd rfl hki) | exact⟨p2,p1⟩ | exact⟨p1,p2⟩
 ·obtain⟨p,hp,p1,p2⟩:=pair_of hc (i:=0) (j:=1) om om (by decide) (by have:=hm 3 om (by rw [hn];decide);rw [show mn c 3=detN 2 (pick c [0,1])from rfl,mn2]at this;exact this)
  obtain⟨q,hq,q1,q2⟩:=pair_of hc (i:=0) (j:=2) om om (by decide) (by have:=hm 5 om (by rw [hn];decide);rw [show mn c 5=detN 2 (pick c [0,2])from rfl,mn2]at this;exact this)
  obtain⟨r,hr,r1,r2⟩:=pair_of hc (i:=1) (j:=2) om om (by decide) (by have:=hm 6 om (by rw [hn];decide);rw [show mn c 6=detN 2 (pick c [1,2])from rfl,mn2]at this;exact this)
  have hd:d3 p q r=true:=d3_of (a:=ent c) (dg 0 om) (dg 1 om) (dg 2 om) p1 p2 q1 q2 r1 r2 (by have:=hm 7 om (by rw [hn];decide);rw [show mn c 7=detN 3 (pick c [0,1,2])from rfl,mn3]at this;exact this)
  refine⟨col3 p q r,row3 p q r,⟨by rw [hn];rfl,by rw [hn];rfl,fun i hi=>?_,fun i k hi hk hki=>?_⟩,?_⟩
  ·rw [hn]at hi ⊢
   rcases(show i=0\/i=1\/i=2 by omega)with rfl | rfl | rfl<;>exact⟨rfl,rfl,rfl⟩
  ·rw [hn]at hi hk
   rcases(show i=0\/i=1\/i=2 by omega)with rfl | rfl | rfl<;>rcases(show k=0\/k=1\/k=2 by omega)with rfl | rfl | rfl <;>
    first | (exact absurd rfl hki) | exact⟨p2,p1⟩ | exact⟨p1,p2⟩ | exact⟨q2,q1⟩ | exact⟨q1,q2⟩ | exact⟨r2,r1⟩ | exact⟨r1,r2⟩
  ·rw [hn]
   exact List.mem_flatMap.2 ⟨p,hp,List.mem_flatMap.2 ⟨q,hq,List.mem_map.2 ⟨r,List.mem_filter.2 ⟨hr,hd⟩,rfl⟩⟩⟩
 ·obtain⟨p,hp,p1,p2⟩:=pair_of hc (i:=0) (j:=1) om om (by decide) (by have:=hm 3 om (by rw [hn];decide);rw [show mn c 3=detN 2 (pick c [0,1])from rfl,mn2]at this;exact this)
  obtain⟨q,hq,q1,q2⟩:=pair_of hc (i:=0) (j:=2) om om (by decide) (by have:=hm 5 om (by rw [hn];decide);rw [show mn c 5=detN 2 (pick c [0,2])from rfl,mn2]at this;exact this)
  obtain⟨r,hr,r1,r2⟩:=pair_of hc (i:=1) (j:=2) om om (by decide) (by have:=hm 6 om (by rw [hn];decide);rw [show mn c 6=detN 2 (pick c [1,2])from rfl,mn2]at this;exact this)
  obtain⟨s,hs,s1,s2⟩:=pair_of hc (i:=0) (j:=3) om om (by decide) (by have:=hm 9 om (by rw [hn];decide);rw [show mn c 9=detN 2 (pick c [0,3])from rfl,mn2]at this;exact this)
  obtain⟨t,ht,t1,t2⟩:=pair_of hc (i:=1) (j:=3) om om (by decide) (by have:=hm 10 om (by rw [hn];decide);rw [show mn c 10=detN 2 (pick c [1,3])from rfl,mn2]at this;exact this)
  obtain⟨u,hu,u1,u2⟩:=pair_of hc (i:=2) (j:=3) om om (by decide) (by have:=hm 12 om (by rw [hn];decide);rw [show mn c 12=detN 2 (pick c [2,3])from rfl,mn2]at this;exact this)
  have g0:=dg 0 om
  have g1:=dg 1 om
  have g2:=dg 2 om
  have g3:=dg 3 om
  have ha:d3 p q r=true:=d3_of (a:=ent c) g0 g1 g2 p1 p2 q1 q2 r1 r2 (by have:=hm 7 om (by rw [hn];decide);rw [show mn c 7=detN 3 (pick c [0,1,2])from rfl,mn3]at this;exact this)
  have hb:d3 p s t=true:=d3_of (a:=ent c) g0 g1 g3 p1 p2 s1 s2 t1 t2 (by have:=hm 11 om (by rw [hn];decide);rw [show mn c 11=detN 3 (pick c [0,1,3])from rfl,mn3]at this;exact this)
  have hcc:d3 q s u=true:=d3_of (a:=ent c) g0 g2 g3 q1 q2 s1 s2 u1 u2 (by have:=hm 13 om (by rw [hn];decide);rw [show mn c 13=detN 3 (pick c [0,2,3])from rfl,mn3]at this;exact this)
  have hd:d3 r t u=true:=d3_of (a:=ent c) g1 g2 g3 r1 r2 t1 t2 u1 u2 (by have:=hm 14 om (by rw [hn];decide);rw [show mn c 14=detN 3 (pick c [1,2,3])from rfl,mn3]at this;exact this)
  have he:d4 p q r s t u=true:=by
   have:=hm 15 om (by rw [hn];decide)
   rw [show mn c 15=detN 4 (pick c [0,1,2,3])from rfl,mn4]at this
   unfold e3 at this
   rw [g0,g1,g2,g3,p1,p2,q1,q2,r1,r2,s1,s2,t1,t2,u1,u2]at this
   apply Nat.ble_eq_true_of_le
   refine Int.ofNat_le.1 ?_
   push_cast
   grind
  refine⟨col4 p q r s t u,row4 p q r s t u,⟨by rw [hn];rfl,by rw [hn];rfl,fun i hi=>?_,fun i k hi hk hki=>?_⟩,?_⟩
  ·rw [hn]at hi ⊢
   rcases(show i=0\/i=1\/i=2\/i=3 by omega)with rfl | rfl | rfl | rfl<;>exact⟨rfl,rfl,rfl⟩
  ·rw [hn]at hi hk
   rcases(show i=0\/i=1\/i=2\/i=3 by omega)with rfl | rfl | rfl | rfl<;>rcases(show k=0\/k=1\/k=2\/k=3 by omega)with rfl | rfl | rfl | rfl <;>
    first | (exact absurd rfl hki) | exact⟨p2,p1⟩ | exact⟨p1,p2⟩ | exact⟨q2,q1⟩ | exact⟨q1,q2⟩ | exact⟨r2,r1⟩ | exact⟨r1,r2⟩ | exact⟨s2,s1⟩ | exact⟨s1,s2⟩ | exact⟨t2,t1⟩ | exact⟨t1,t2⟩ | exact⟨u2,u1⟩ | exact⟨u1,u2⟩
  ·rw [hn]
   exact List.mem_flatMap.2 ⟨p,hp,List.mem_flatMap.2 ⟨q,hq,List.mem_flatMap.2 ⟨r,List.mem_filter.2 ⟨hr,ha⟩,List.mem_flatMap.2 ⟨s,hs,List.mem_flatMap.2 ⟨t,List.mem_filter.2 ⟨ht,hb⟩,List.mem_map.2 ⟨u,List.mem_filter.2 ⟨hu,by rw [hcc,hd,he];rfl⟩,rfl⟩⟩⟩⟩⟩⟩
theorem fin_mem {c:LL} (hF:FinP c):c∈finM c.length:=by
 obtain⟨cols,rows,h1,h2⟩:=fin_rows hF
 exact List.mem_map.2 ⟨(cols,rows),h2,(fits_eq hF.1 h1).symm⟩
theorem fin_chk {c:LL} (hF:FinP c) {chk:List (List Int)->Bool} (h1:(finM 1).all chk=true) (h2:(finM 2).all chk=true) (h3:(finM 3).all chk=true) (h4:(finM 4).all chk=true):chk c=true:=by
 have hm:=fin_mem hF
 have hn1:=hF.1.1
 have hn4:=hF.1.2.1
 rcases(show c.length=1\/c.length=2\/c.length=3\/c.length=4 by omega)with hn | hn | hn | hn<;>rw [hn]at hm
 ·exact alT.1 h1 c hm
 ·exact alT.1 h2 c hm
 ·exact alT.1 h3 c hm
 ·exact alT.1 h4 c hm
theorem cmpN_neg (p q:LI):∀ n i,cmpN q p n i = - cmpN p q n i
 | 0,i=>rfl
 | n+1,i=>by
  have ih:=cmpN_neg p q n (i+1)
  simp only [cmpN]
  by_cases h1:p.getD i 0 < q.getD i 0
  ·rw [if_pos h1,if_neg om,if_pos om];rfl
  ·by_cases h2:p.getD i 0 > q.getD i 0
   ·have h3:q.getD i 0 < p.getD i 0:=h2
    simp only [h1,h2,h3,if_true,if_false]
   ·rw [if_neg h1,if_neg h2,if_neg om,if_neg om];exact ih
theorem cmpW_neg (p q:LI):cmpW q p = - cmpW p q:=by
 unfold cmpW
 by_cases h1:p.length < q.length
 ·rw [if_pos h1,if_neg om,if_pos om];rfl
 ·by_cases h2:p.length > q.length
  ·have h3:q.length < p.length:=h2
   simp only [h1,h2,h3,if_true,if_false]
  ·rw [if_neg h1,if_neg h2,if_neg om,if_neg om,show q.length=p.length by omega];exact cmpN_neg p q _ 0
def StrictW (l:LL):Prop:=l.Pairwise fun p q=>cmpW p q < 0
theorem StrictW.nil:StrictW []:=List.Pairwise.nil
theorem strict_ext:∀ {a b:LL},StrictW a->StrictW b->(∀ x,x∈a↔x∈b)->a=b
 | [],[],_,_,_=>rfl
 | [],y :: b,_,_,h=>by have:=(h y).2 (mcS ..);simp at this
 | x :: a,[],_,_,h=>by have:=(h x).1 (mcS ..);simp at this
 | x :: a,y :: b,ha,hb,h=>by
  obtain⟨ha1,ha2⟩:=List.pairwise_cons.1 ha
  obtain⟨hb1,hb2⟩:=List.pairwise_cons.1 hb
  have hxy:x=y:=by
   rcases List.mem_cons.1 ((h x).1 (mcS ..))with e | e
   ·exact e
   ·rcases List.mem_cons.1 ((h y).2 (mcS ..))with e2 | e2
    ·exact e2.symm
    ·have h1:=hb1 x e
     have h2:=ha1 y e2
     have:=cmpW_neg x y
     omega
  subst hxy
  have nx:∀ {l:LL},(∀ z∈l,cmpW x z < 0)->x∉l:=fun {l} hl hx=>by
   have:=hl x hx
   rw [cmpW_self]at this
   omega
  rw [strict_ext ha2 hb2 fun z=>⟨fun hz=>?_,fun hz=>?_⟩]
  ·rcases List.mem_cons.1 ((h z).1 (mcM _ hz))with e | e
   ·rw [e]at hz;exact(nx ha1 hz).elim
   ·exact e
  ·rcases List.mem_cons.1 ((h z).2 (mcM _ hz))with e | e
   ·rw [e]at hz;exact(nx hb1 hz).elim
   ·exact e
theorem putS_true (w:LI):∀ l,putS w true l=l
 | []=>rfl
 | x :: l=>by simp only [putS];rw [if_neg (by simp),Bool.true_or,putS_true w l]
theorem putS_mem (w:LI):∀(l:LL) (z:LI),z∈putS w false l↔z=w\/z∈l
 | [],z=>by simp [putS]
 | x :: l,z=>by
  simp only [putS]
  by_cases h:cmpW w x < 0
  ·rw [if_pos ⟨h,trivial⟩,putS_true];simp
  ·rw [if_neg (by simp [h])]
   by_cases h0:cmpW w x=0
   ·have e:=(cmpW_zero w x).1 h0
    rw [show(false || cmpW w x == 0)=true by simp [h0],putS_true,e];simp
   ·rw [show(false || cmpW w x == 0)=false by simp [h0]]
    simp only [List.mem_cons,putS_mem w l z]
    constructor
    ·rintro(h | h | h)<;>simp [h]
    ·rintro(h | h | h)<;>simp [h]
theorem putS_strict (w:LI):∀ {l:LL},StrictW l->StrictW (putS w false l)
 | [],_=>by unfold StrictW;simp [putS]
 | x :: l,hl=>by
  obtain⟨h1,h2⟩:=List.pairwise_cons.1 hl
  simp only [putS]
  by_cases h:cmpW w x < 0
  ·rw [if_pos ⟨h,trivial⟩,putS_true]
   refine List.pairwise_cons.2 ⟨fun z hz=>?_,hl⟩
   rcases List.mem_cons.1 hz with rfl | hz
   ·exact h
   ·exact cmpW_lt_trans h (h1 z hz)
  ·rw [if_neg (by simp [h])]
   by_cases h0:cmpW w x=0
   ·rw [show(false || cmpW w x == 0)=true by simp [h0],putS_true];exact hl
   ·rw [show(false || cmpW w x == 0)=false by simp [h0]]
    refine List.pairwise_cons.2 ⟨fun z hz=>?_,putS_strict w h2⟩
    rcases(putS_mem w l z).1 hz with rfl | hz
    ·have:=cmpW_neg z x;omega
    ·exact h1 z hz
def srtL' (l0 L:LL):List (List Int):=L.foldl (fun l w=>putS w false l) l0
def srt (L:LL):List (List Int):=srtL' [] L
theorem srt_spec (L:LL):StrictW (srt L)/\∀ z,z∈srt L↔z∈L:=by
 have key:∀(L l0:LL),StrictW l0->StrictW (srtL' l0 L)/\∀ z,z∈srtL' l0 L↔z∈l0\/z∈L:=by
  intro L
  induction L with
  | nil=>intro l0 h;exact⟨h,fun z=>by simp [srtL']⟩
  | cons w L ih=>
   intro l0 h
   obtain⟨h1,h2⟩:=ih (putS w false l0) (putS_strict w h)
   refine⟨h1,fun z=>?_⟩
   show z∈srtL' (putS w false l0) L↔_
   rw [h2 z,putS_mem]
   simp only [List.mem_cons]
   constructor
   ·rintro((h | h) | h)<;>simp [h]
   ·rintro(h | h | h)<;>simp [h]
 obtain⟨h1,h2⟩:=key L [] StrictW.nil
 exact⟨h1,fun z=>by rw [show srt L=srtL' [] L from rfl,h2 z];simp⟩
theorem sorted_srt {L:LL} (hn:L.Nodup) {a:LL} (hp:a.Perm L) (hs:a.Pairwise fun p q=>¬cmpW q p < 0):a=srt L:=by
 obtain⟨h1,h2⟩:=srt_spec L
 refine strict_ext ?_ h1 fun z=>(hp.mem_iff).trans (h2 z).symm
 have hna:a.Nodup:=hp.nodup_iff.2 hn
 refine List.Pairwise.imp₂ ?_ hs hna
 intro p q h1 h2
 have h3:=cmpW_neg p q
 have h4:=cmpW_zero p q
 rcases Int.lt_trichotomy (cmpW p q) 0 with h | h | h
 ·exact h
 ·exact absurd (h4.1 h) h2
 ·omega
theorem srt_nil:srt []=[]:=rfl
def Pre (c:LL) (x z:LI):Prop:=letters c.length z/\redL c z=z/\∃ v,letters c.length v/\imageL c (z ++ v)=imageL c x/\z.length+v.length=x.length
def Nf (c:LL) (x:LI):Prop:=letters c.length x/\redL c x=x/\x.length<=30
theorem nf_idem {c:LL} (hc:CartanP c) {w:LI} (hw:letters c.length w) (hl:w.length<=31):redL c (redL c w)=redL c w:=red_eq (red_spec hc hw hl).2.2.2.1
theorem Nf.red {c:LL} (hc:CartanP c) {x:LI} (h:Nf c x):Red c x:=by
 have:=red_Red hc h.1 (by have:=h.2.2;omega)
 rwa [h.2.1]at this
theorem Nf.far {c:LL} (hc:CartanP c) {x:LI} (h:Nf c x):Far c x.length (imageL c x):=(h.red hc).2
theorem Nf.short {c:LL} (hc:CartanP c) {x:LI} (h:Nf c x) {u:LI} (hu:letters c.length u) (he:imageL c u=imageL c x):x.length<=u.length:=by
 obtain⟨L,h1,_,h3⟩:=Far.image hc hu
 rw [he]at h3
 have:=(h.far hc).uniq hc h3
 omega
theorem Pre.nf {c:LL} {x z:LI} (hx:Nf c x) (h:Pre c x z):Nf c z:=by
 obtain⟨h1,h2,v,h3,h4,h5⟩:=h
 exact⟨h1,h2,by have:=hx.2.2;omega⟩
theorem Pre.refl {c:LL} {x:LI} (hx:Nf c x):Pre c x x:=⟨hx.1,hx.2.1,[],letters_nil _,by rw [List.append_nil],by simp⟩
theorem nf_red {c:LL} (hc:CartanP c) {u:LI} (hu:letters c.length u) (hl:u.length<=31) (hr:(redL c u).length<=30):Nf c (redL c u):=
 ⟨(red_spec hc hu hl).1,nf_idem hc hu hl,hr⟩
theorem letter1 {n:Nat} {i:Nat} (h:i < n):letters n [(i:Int)]:=letters_cons.2 ⟨by omega,letters_nil _⟩
theorem image_same_app {c:LL} (hc:CartanP c) {a b:LI} (ha:letters c.length a) (hb:letters c.length b) (h:imageL c a=imageL c b) (t:LI):imageL c (a ++ t)=imageL c (b ++ t):=by
 rw [image_append,image_append];exact same_elt hc ha hb h (imageL_length c _)
theorem image_two {c:LL} (hc:CartanP c) (y:LI) {i:Nat} (hi:i < c.length) (t:LI):imageL c (y ++ [(i:Int)] ++ ((i:Int) :: t))=imageL c (y ++ t):=by
 rw [List.append_assoc,image_append,image_append]
 show actL c y (reflL c i (reflL c i (imageL c t)))=_
 rw [refl2 hc (i:=(i:Int)) om (imageL_length c _)]
 exact(image_append c y t).symm
theorem Pre.down {c:LL} (hc:CartanP c) {x y:LI} (hx:Nf c x) (hy:Pre c x y) {i:Nat} (hi:i < c.length) (hlt:(redL c (y ++ [(i:Int)])).length < y.length):Pre c x (redL c (y ++ [(i:Int)])):=by
 have hny:=hy.nf hx
 obtain⟨h1,h2,v,h3,h4,h5⟩:=hy
 have hl:letters c.length (y ++ [(i:Int)]):=letters_append.2 ⟨h1,letter1 hi⟩
 have hlen:(y ++ [(i:Int)]).length<=31:=by have:=hny.2.2;simp;omega
 obtain⟨a1,a2,a3,a4,a5⟩:=red_spec hc hl hlen
 have hvi:letters c.length ((i:Int) :: v):=letters_cons.2 ⟨by omega,h3⟩
 have him:imageL c (redL c (y ++ [(i:Int)]) ++ ((i:Int) :: v))=imageL c x:=by
  rw [image_same_app hc a1 hl a4,image_two hc y hi,h4]
 have hs:=hx.short hc (letters_append.2 ⟨a1,hvi⟩) him
 simp at hs a3
 refine⟨a1,nf_idem hc hl hlen,(i:Int) :: v,hvi,him,?_⟩
 simp
 omega
theorem red_of_nil {c:LL} (hc:CartanP c):redL c []=[]:=by
 have:=(red_spec hc (letters_nil c.length) (by simp)).2.1
 exact nilZ (by simpa using this)
theorem Pre.nil {c:LL} (hc:CartanP c) {x:LI} (hx:Nf c x):Pre c x []:=⟨letters_nil _,red_of_nil hc,x,hx.1,rfl,by simp⟩
theorem wkB_pre {c:LL} (hc:CartanP c) {x l:LI} (hx:Nf c x) (hx15:x.length<=15) (hl:Nf c l) (hl15:l.length<=15):wkB c l x=true↔Pre c x l:=by
 have hW1:wordB c l=true:=wordB_iff.2 ⟨hc,hl15,hl.1⟩
 have hW2:wordB c x=true:=wordB_iff.2 ⟨hc,hx15,hx.1⟩
 have hrl:=letters_reverse hl.1
 have hlx:letters c.length (l.reverse ++ x):=letters_append.2 ⟨hrl,hx.1⟩
 have hlen:(l.reverse ++ x).length<=31:=by simp;omega
 obtain⟨a1,a2,a3,a4,a5⟩:=red_spec hc hlx hlen
 have hback:imageL c (l ++ redL c (l.reverse ++ x))=imageL c x:=by
  rw [image_append,a4,image_append]
  have:=act_rev hc l.reverse hrl (v:=imageL c x) (imageL_length c _)
  rw [List.reverse_reverse]at this
  exact this
 unfold wkB
 rw [hW1,hW2,hl.2.1,hx.2.1]
 simp only [Bool.true_and,dtE]
 constructor
 ·intro h
  exact⟨hl.1,hl.2.1,_,a1,hback,h⟩
 ·rintro⟨h1,h2,v,h3,h4,h5⟩
  have hs:=hx.short hc (letters_append.2 ⟨hl.1,a1⟩) hback
  have hv:imageL c (l.reverse ++ x)=imageL c v:=by
   rw [image_append,<- h4,image_append]
   exact act_rev hc l hl.1 (imageL_length c _)
  obtain⟨L,k1,_,k3⟩:=Far.image hc h3
  rw [<- hv]at k3
  have:=a5.uniq hc k3
  simp at hs
  omega
theorem nodup_on {α β:Type} (f:α->β):∀ {l:List α},(∀ a∈l,∀ b∈l,f a=f b->a=b)->l.Nodup->(l.map f).Nodup
 | [],_,_=>by simp
 | x :: l,h,hn=>by
  obtain⟨h1,h2⟩:=List.nodup_cons.1 hn
  rw [List.map_cons,List.nodup_cons]
  refine⟨fun hm=>?_,nodup_on f (fun a ha b hb=>h a (mcM _ ha) b (mcM _ hb)) h2⟩
  obtain⟨y,hy,e⟩:=List.mem_map.1 hm
  rw [h y (mcM _ hy) x (mcS ..) e]at hy
  exact h1 hy
theorem nodup_le {α:Type} [DecidableEq α]:∀ {a b:List α},a.Nodup->(∀ x∈a,x∈b)->a.length<=b.length
 | [],b,_,_=>nz0 _
 | x :: a,b,hn,h=>by
  obtain⟨h1,h2⟩:=List.nodup_cons.1 hn
  have hx:=h x (mcS ..)
  have:=nodup_le (a:=a) (b:=b.erase x) h2 (fun y hy=>by
   have hne:y≠x:=fun e=>h1 (e▸hy)
   exact(List.mem_erase_of_ne hne).2 (h y (mcM _ hy)))
  rw [List.length_erase_of_mem hx]at this
  have hp:0 < b.length:=List.length_pos_of_mem hx
  simp only [lenC]
  omega
def FewP (R:List Int->Prop):Prop:=∃ L:List (List Int),L.Nodup/\(∀ z,z∈L↔R z)/\L.length<=200
open Classical in
noncomputable def fewB (R:List Int->Prop):Bool:=decide (FewP R)
open Classical in
noncomputable def fewL (R:List Int->Prop):List (List Int):=if h:FewP R then srt h.choose else []
theorem fewL_mem {R:List Int->Prop} {z:LI} (h:z∈fewL R):R z:=by
 unfold fewL at h
 split at h
 ·rename_i hf
  rw [(srt_spec _).2]at h
  exact(hf.choose_spec.2.1 z).1 h
 ·simp at h
def addN (a:LL) (v:LI):List (List Int):=if v∈a then a else a ++ [v]
def nxI (c:LL) (x:LI) (a:LL) (i:Nat):List (List Int):=if x.getD i 0 < 0 then a else addN a (reflL c i x)
def nxX (c:LL) (a:LL) (x:LI):List (List Int):=(List.range c.length).foldl (nxI c x) a
def nxS (c:LL) (sh:LL):List (List Int):=sh.foldl (nxX c) []
def shl (c:LL):Nat->List (List Int)
 | 0=>[ones c.length]
 | L+1=>nxS c (shl c L)
theorem addN_mem (a:LL) (v z:LI):z∈addN a v↔z∈a\/z=v:=by
 unfold addN
 by_cases h:v∈a
 ·rw [if_pos h]
  constructor
  ·exact .inl
  ·rintro(h1 | rfl)<;>assumption
 ·rw [if_neg h];simp
theorem addN_nodup {a:LL} (h:a.Nodup) (v:LI):(addN a v).Nodup:=by
 unfold addN
 by_cases hv:v∈a
 ·rw [if_pos hv];exact h
 ·rw [if_neg hv,List.nodup_append]
  exact⟨h,by simp,fun x hx y hy e=>hv (by simp at hy;rw [<- hy,<- e];exact hx)⟩
theorem nxI_mem (c:LL) (x:LI) (a:LL) (i:Nat) (z:LI):z∈nxI c x a i↔z∈a\/(0<=x.getD i 0/\z=reflL c i x):=by
 unfold nxI
 by_cases h:x.getD i 0 < 0
 ·rw [if_pos h]
  constructor
  ·exact .inl
  ·rintro(h1 | ⟨h1,_⟩)
   ·exact h1
   ·omega
 ·rw [if_neg h,addN_mem]
  constructor
  ·rintro(h1 | h1)
   ·exact .inl h1
   ·exact .inr ⟨by omega,h1⟩
  ·rintro(h1 | ⟨_,h1⟩)
   ·exact .inl h1
   ·exact .inr h1
theorem nxI_fold (c:LL) (x:LI):∀(l:List Nat) (a:LL),(∀ z,z∈l.foldl (nxI c x) a↔z∈a\/∃ i∈l,0<=x.getD i 0/\z=reflL c i x)/\(a.Nodup->(l.foldl (nxI c x) a).Nodup)
 | [],a=>⟨fun z=>by simp,id⟩
 | i :: l,a=>by
  obtain⟨h1,h2⟩:=nxI_fold c x l (nxI c x a i)
  refine⟨fun z=>?_,fun hn=>h2 ?_⟩
  ·rw [List.foldl_cons,h1,nxI_mem]
   constructor
   ·rintro((h | h) | ⟨j,hj,h⟩)
    ·exact .inl h
    ·exact .inr ⟨i,mcS ..,h⟩
    ·exact .inr ⟨j,mcM _ hj,h⟩
   ·rintro(h | ⟨j,hj,h⟩)
    ·exact .inl (.inl h)
    ·rcases List.mem_cons.1 hj with rfl | hj
     ·exact .inl (.inr h)
     ·exact .inr ⟨j,hj,h⟩
  ·unfold nxI
   split
   ·exact hn
   ·exact addN_nodup hn _
theorem nxX_fold (c:LL):∀(sh a:LL),(∀ z,z∈sh.foldl (nxX c) a↔z∈a\/∃ x∈sh,∃ i,i < c.length/\0<=x.getD i 0/\z=reflL c i x)/\(a.Nodup->(sh.foldl (nxX c) a).Nodup)
 | [],a=>⟨fun z=>by simp,id⟩
 | x :: sh,a=>by
  obtain⟨h1,h2⟩:=nxX_fold c sh (nxX c a x)
  obtain⟨k1,k2⟩:=nxI_fold c x (List.range c.length) a
  refine⟨fun z=>?_,fun hn=>h2 (k2 hn)⟩
  rw [List.foldl_cons,h1,show z∈nxX c a x↔_ from k1 z]
  constructor
  ·rintro((h | ⟨i,hi,h⟩) | ⟨y,hy,h⟩)
   ·exact .inl h
   ·exact .inr ⟨x,mcS ..,i,List.mem_range.1 hi,h⟩
   ·exact .inr ⟨y,mcM _ hy,h⟩
  ·rintro(h | ⟨y,hy,i,hi,h⟩)
   ·exact .inl (.inl h)
   ·rcases List.mem_cons.1 hy with rfl | hy
    ·exact .inl (.inr ⟨i,List.mem_range.2 hi,h⟩)
    ·exact .inr ⟨y,hy,i,hi,h⟩
theorem far_step {c:LL} (hc:CartanP c) {L:Nat} {v:LI}:Far c (L+1) v↔∃ x,Far c L x/\∃ i,i < c.length/\0<=x.getD i 0/\v=reflL c i x:=by
 constructor
 ·intro h
  rcases fst_of_far hc h with⟨_,h2⟩ | ⟨h1,h2,h3,M,h4,h5⟩
  ·omega
  ·have:M=L:=by omega
   subst this
   have hk:(((fstN v).toNat:Nat):Int)=fstN v:=by omega
   refine⟨_,h5,(fstN v).toNat,by omega,?_,?_⟩
   ·rw [reflL_get c (fstN v) v (fstN v).toNat (by rw [h.1];omega),show ent c (fstN v).toNat (fstN v).toNat=2 from(matA_cartan hc).diag _ om]
    omega
   ·rw [hk,refl2 hc ⟨h1,h2⟩ h.1]
 ·rintro⟨x,hx,i,hi,h0,rfl⟩
  have:=hx.nz hc i hi
  exact hx.up hc ⟨by omega,by omega⟩ (by rw [Int.toNat_natCast];omega)
theorem shl_spec {c:LL} (hc:CartanP c):∀ L,(shl c L).Nodup/\∀ v,v∈shl c L↔Far c L v
 | 0=>⟨by simp [shl],fun v=>by
   simp only [shl,List.mem_singleton]
   exact⟨fun h=>h▸Far.ones c,fun h=>h.zero⟩⟩
 | L+1=>by
  obtain⟨h1,h2⟩:=shl_spec hc L
  obtain⟨k1,k2⟩:=nxX_fold c (shl c L) []
  refine⟨k2 List.nodup_nil,fun v=>?_⟩
  rw [show v∈shl c (L+1)↔_ from k1 v,far_step hc]
  constructor
  ·rintro(h | ⟨x,hx,h⟩)
   ·simp at h
   ·exact⟨x,(h2 x).1 hx,h⟩
  ·rintro⟨x,hx,h⟩
   exact .inr ⟨x,(h2 x).2 hx,h⟩
def wds (c:LL) (L:Nat):List (List Int):=(shl c L).map (nfL c 31)
def outS (c:LL):Nat->List (List Int)
 | 0=>[[]]
 | L+1=>outS c L ++ srt (wds c (L+1))
def allL (c:LL):List (List Int):=outS c 25
theorem wds_mem {c:LL} (hc:CartanP c) {L:Nat} (hL:L<=30) (w:LI):w∈wds c L↔Nf c w/\w.length=L:=by
 unfold wds
 rw [List.mem_map]
 constructor
 ·rintro⟨v,hv,rfl⟩
  have hf:=((shl_spec hc L).2 v).1 hv
  obtain⟨n1,n2,n3⟩:=nfL_far hc 31 L hf om
  exact⟨⟨n2,by unfold redL;rw [n3],by omega⟩,n1⟩
 ·rintro⟨hn,rfl⟩
  exact⟨imageL c w,((shl_spec hc _).2 _).2 (hn.far hc),hn.2.1⟩
theorem wds_nodup {c:LL} (hc:CartanP c) {L:Nat} (hL:L<=30):(wds c L).Nodup:=by
 unfold wds
 obtain⟨h1,h2⟩:=shl_spec hc L
 rw [List.nodup_iff_pairwise_ne,List.pairwise_map]
 refine List.Pairwise.imp_of_mem ?_ (List.nodup_iff_pairwise_ne.1 h1)
 intro a b ha hb hne e
 apply hne
 rw [<- (nfL_far hc 31 L ((h2 a).1 ha) om).2.2,<- (nfL_far hc 31 L ((h2 b).1 hb) om).2.2,e]
theorem outS_mem {c:LL} (hc:CartanP c):∀ {L:Nat},L<=30->∀ w,w∈outS c L↔Nf c w/\w.length<=L
 | 0,_,w=>by
  simp only [outS,List.mem_singleton]
  constructor
  ·rintro rfl
   refine⟨⟨letters_nil _,?_,by simp⟩,by simp⟩
   have:=red_Red hc (letters_nil _) (w:=[]) (by simp)
   have h:=(red_far hc (Far.ones c) om (w:=[]))
   exact nilZ h.1
  ·rintro⟨_,h⟩
   exact nilZ om
 | L+1,hL,w=>by
  simp only [outS,List.mem_append,(srt_spec _).2,outS_mem hc (show L<=30 by omega) w,wds_mem hc hL w]
  constructor
  ·rintro(⟨h1,h2⟩ | ⟨h1,h2⟩)<;>exact⟨h1,by omega⟩
  ·rintro⟨h1,h2⟩
   rcases Nat.lt_or_ge w.length (L+1)with h | h
   ·exact .inl ⟨h1,by omega⟩
   ·exact .inr ⟨h1,by omega⟩
theorem cmpW_short {p q:LI} (h:p.length < q.length):cmpW p q < 0:=by unfold cmpW;rw [if_pos h];decide
theorem outS_strict {c:LL} (hc:CartanP c):∀ {L:Nat},L<=30->StrictW (outS c L)
 | 0,_=>by unfold StrictW outS;simp
 | L+1,hL=>by
  refine List.pairwise_append.2 ⟨outS_strict hc om,(srt_spec _).1,fun a ha b hb=>?_⟩
  have h1:=(outS_mem hc om a).1 ha
  have h2:=(wds_mem hc hL b).1 (((srt_spec _).2 b).1 hb)
  exact cmpW_short om
theorem allL_spec {c:LL} (hF:FinP c):StrictW (allL c)/\∀ w,w∈allL c↔Nf c w:=by
 refine⟨outS_strict hF.1 om,fun w=>?_⟩
 rw [show w∈allL c↔_ from outS_mem hF.1 om w]
 refine⟨fun h=>h.1,fun h=>⟨h,?_⟩⟩
 have:=fin_len hF _ (h.far hF.1)
 omega
theorem shl_end {c:LL} (hF:FinP c) {L:Nat} (hL:25<=L):shl c L=[]:=by
 cases h:shl c L with
 | nil=>rfl
 | cons v l=>
  have:=fin_len hF _ (((shl_spec hF.1 L).2 v).1 (by rw [h];exact mcS ..))
  omega
theorem shl_stop {c:LL} {L:Nat} (h:shl c L=[]):∀ k,shl c (L+k)=[]/\outS c (L+k)=outS c L
 | 0=>⟨h,rfl⟩
 | k+1=>by
  obtain⟨h1,h2⟩:=shl_stop h k
  have h3:shl c (L+(k+1))=[]:=by
   show nxS c (shl c (L+k))=[]
   rw [h1];rfl
  refine⟨h3,?_⟩
  show outS c (L+k) ++ srt (wds c (L+(k+1)))=_
  rw [wds,h3,h2]
  simp [srt_nil]
theorem shl_all {c:LL} {L:Nat} (hL:L<=25) (h:shl c L=[]):outS c L=allL c:=by
 obtain⟨k,hk⟩:=Nat.exists_eq_add_of_le hL
 have:=(shl_stop h k).2
 unfold allL
 rw [hk,this]
theorem srt_perm {l:LL} (h:l.Nodup):(srt l).Perm l:=by
 obtain⟨h1,h2⟩:=srt_spec l
 have hn:(srt l).Nodup:=List.Pairwise.imp (fun {a b} h e=>by rw [e,cmpW_self]at h;omega) h1
 exact(List.perm_ext_iff_of_nodup hn h).2 h2
theorem outS_len {c:LL} (hc:CartanP c) {L:Nat} (hL:L+1<=30):(outS c (L+1)).length=(outS c L).length+(shl c (L+1)).length:=by
 show(outS c L ++ srt (wds c (L+1))).length=_
 rw [lenA,(srt_perm (wds_nodup hc hL)).length_eq]
 simp [wds]
theorem outS_mono {c:LL}:∀(k L:Nat),(outS c L).length<=(outS c (L+k)).length
 | 0,_=>Nat.le_refl _
 | k+1,L=>Nat.le_trans (outS_mono k L) (by show _<=(outS c (L+k) ++ _).length;simp)
theorem outS_le {c:LL} {L:Nat} (hL:L<=25):(outS c L).length<=(allL c).length:=by
 obtain⟨k,hk⟩:=Nat.exists_eq_add_of_le hL
 have:=outS_mono (c:=c) k L
 rw [<- hk]at this
 exact this
theorem far_bd24 {c:LL} (hF:FinP c) {L:Nat} {v:LI} (h:Far c L v):Bd (4 ^ 24) v:=by
 obtain⟨n1,n2,n3⟩:=nfL_far hF.1 31 L h (by have:=fin_len hF _ h;omega)
 have:=Bd.image hF.1 _ n2
 rw [n3,n1]at this
 exact this.mono (pow4_le (fin_len hF _ h))
def zero4:Array Value:=#[.int .i64 0,.int .i64 0,.int .i64 0,.int .i64 0]
def key4 (xs:LI):List Int:=[xs.getD 0 0,xs.getD 1 0,xs.getD 2 0,xs.getD 3 0]
def vec4 (xs:LI):Array Value:=#[.int .i64 (xs.getD 0 0),.int .i64 (xs.getD 1 0),.int .i64 (xs.getD 2 0),.int .i64 (xs.getD 3 0)]
theorem alloc2_new (w:World) (o1 o2:Obj):((w.alloc o1).alloc o2).heap[w.heap.size+1]? = some o2:=by
 show((w.heap.push o1).push o2)[w.heap.size+1]? = _
 rw [Array.getElem?_push,if_pos (by simp)]
theorem alloc2_fst (w:World) (o1 o2:Obj):((w.alloc o1).alloc o2).heap[w.heap.size]? = some o1:=by
 show((w.heap.push o1).push o2)[w.heap.size]? = _
 rw [Array.getElem?_push,if_neg (by simp),Array.getElem?_push,if_pos rfl]
theorem alloc2_old (w:World) (o1 o2:Obj) {b:Nat} (h:b < w.heap.size):((w.alloc o1).alloc o2).heap[b]? = w.heap[b]?:=by
 show((w.heap.push o1).push o2)[b]? = _
 rw [Array.getElem?_push,if_neg (by simp;omega),Array.getElem?_push,if_neg om]
theorem vec_copy (a:Addr) (cap:Nat) (xs:LI) (w:World) (h1:1<=xs.length) (hl:xs.length<=4) (hr:∀ k (hk:k < xs.length),w.cell? (a.add k)=some (.int .i64 xs[k])) (t:TypeId) :
  (Builtin.copy_ #[25,25] 3 #[.slice (some ⟨w.heap.size+1,0,none⟩) 4 4,.slice (some a) xs.length cap]).run Tryz.prog ((w.alloc (.cells zero4 t)).alloc (.cells zero4 t)) =
   .ok (.int .i64 xs.length) (((w.alloc (.cells zero4 t)).alloc (.cells zero4 t)).setRow (w.heap.size+1) (vec4 xs)):=by
 have hr2:∀ k (hk:k < xs.length),((w.alloc (.cells zero4 t)).alloc (.cells zero4 t)).cell? (a.add k)=some (.int .i64 xs[k]):=fun k hk=>by
  have h0:=hr k hk
  have hlt:a.block < w.heap.size:=by
   unfold World.cell? at h0
   rw [Go.Aw.add_block]at h0
   cases hb:w.heap[a.block]? with
   | none=>rw [hb]at h0;simp at h0
   | some o=>exact(ageS.1 hb).1
  rw [<- h0]
  unfold World.cell?
  rw [Go.Aw.add_block,alloc2_old _ _ _ hlt]
 have hmin:Nat.min xs.length 4=xs.length:=Nat.min_eq_left hl
 have h:=run_copy_row (P:=Tryz.prog) ((w.alloc (.cells zero4 t)).alloc (.cells zero4 t)) 25 25 3 3 (w.heap.size+1) 0 4 4 a xs.length cap _ t (xs.map (Value.int .i64)) Tryz.underlying25 (by kernel_rfl) (alloc2_new _ _ _) (by rw [List.length_map,hmin])
  (fun j v hv=>by
   obtain⟨hj,rfl⟩:=geS.1 hv
   simpa using hr2 j (by simpa using hj)) (by rw [List.length_map,Nat.zero_add];exact hl) (by simp [Value.oneCell'])
 simp only [hmin,List.take_zero,List.nil_append,Nat.zero_add,List.length_map]at h
 have e:((xs.map (Value.int .i64)) ++ (zero4.toList.drop xs.length)).toArray=vec4 xs:=by
  match xs,h1,hl with
  | [_],_,_=>rfl
  | [_,_],_,_=>rfl
  | [_,_,_],_,_=>rfl
  | [_,_,_,_],_,_=>rfl
 rw [e]at h
 exact h
structure Kp (n:Nat) (w w':World):Prop where
 os:w'.os=w.os
 tape:w'.tape=w.tape
 output:w'.output=w.output
 size:w.heap.size<=w'.heap.size
 drawn:w.drawn<=w'.drawn
 block:∀ b,b < n->w'.heap[b]? = w.heap[b]?
theorem Kp.refl (n:Nat) (w:World):Kp n w w:=⟨rfl,rfl,rfl,Nat.le_refl _,Nat.le_refl _,fun _ _=>rfl⟩
theorem Kp.cell {n:Nat} {w w':World} (h:Kp n w w') (b j:Nat) (v:Value) (hb:n<=b):Kp n w (w'.setCell ⟨b,j,none⟩ v):=
 ⟨h.os,h.tape,h.output,by simpa [World.setCell] using h.size,h.drawn,fun c hc=>by
  rw [<- h.block c hc]
  unfold World.setCell
  simp [Array.getElem?_modify,show ¬b=c by omega]⟩
theorem Kp.row {n:Nat} {w w':World} (h:Kp n w w') (b:Nat) (cs:Array Value) (hb:n<=b):Kp n w (w'.setRow b cs):=
 ⟨h.os,h.tape,h.output,by simpa [World.setRow] using h.size,h.drawn,fun c hc=>by rw [setRow_other _ _ _ _ om];exact h.block c hc⟩
theorem Kp.alloc {n:Nat} {w w':World} (h:Kp n w w') (o:Obj) (hn:n<=w'.heap.size):Kp n w (w'.alloc o):=
 ⟨h.os,h.tape,h.output,by have:=h.size;simp;omega,h.drawn,fun c hc=>by
  rw [<- h.block c hc]
  show(w'.heap.push o)[c]? = _
  rw [Array.getElem?_push,if_neg om]⟩
theorem vec_frame (w:World) (o1 o2:Obj) (cs:Array Value) (v0 v1 v2 v3:Value) :
  Kp w.heap.size w (((((((w.alloc o1).alloc o2).setRow (w.heap.size+1) cs).setCell ⟨w.heap.size,0,none⟩ v0).setCell ⟨w.heap.size,1,none⟩ v1).setCell ⟨w.heap.size,2,none⟩ v2).setCell ⟨w.heap.size,3,none⟩ v3):=
 (((((((Kp.refl _ w).alloc o1 (Nat.le_refl _)).alloc o2 (by simp)).row _ cs om).cell _ _ _ (Nat.le_refl _)).cell _ _ _ (Nat.le_refl _)).cell _ _ _ (Nat.le_refl _)).cell _ _ _ (Nat.le_refl _)
set_option maxRecDepth 100000 in
theorem w_vectorOf (a:Addr) (cap:Nat) (xs:LI) (w:World) (h1:1<=xs.length) (hl:xs.length<=4) (hr:∀ k (hk:k < xs.length),w.cell? (a.add k)=some (.int .i64 xs[k])) :
  Calls Tryz.prog 187 #[.slice (some a) xs.length cap] w fun e w'=>e=.returned (.agg #[.int .i64 (xs.getD 0 0),.int .i64 (xs.getD 1 0),.int .i64 (xs.getD 2 0),.int .i64 (xs.getD 3 0)])/\Kp w.heap.size w w':=by
 have hcp:=vec_copy a cap xs w h1 hl hr 122
 have g3:(((w.alloc (.cells zero4 122)).alloc (.cells zero4 122)).setRow (w.heap.size+1) (vec4 xs)).heap[w.heap.size+1]? = some (.cells (vec4 xs) 122 (0,0)):=setRow_heap _ _ _ _ _ _ (alloc2_new _ _ _)
 have c0:(((w.alloc (.cells zero4 122)).alloc (.cells zero4 122)).setRow (w.heap.size+1) (vec4 xs)).cell? ⟨w.heap.size+1,0,none⟩=some (.int .i64 (xs.getD 0 0)):=by simp only [World.cell?,g3];rfl
 have c1:(((w.alloc (.cells zero4 122)).alloc (.cells zero4 122)).setRow (w.heap.size+1) (vec4 xs)).cell? ⟨w.heap.size+1,1,none⟩=some (.int .i64 (xs.getD 1 0)):=by simp only [World.cell?,g3];rfl
 have c2:(((w.alloc (.cells zero4 122)).alloc (.cells zero4 122)).setRow (w.heap.size+1) (vec4 xs)).cell? ⟨w.heap.size+1,2,none⟩=some (.int .i64 (xs.getD 2 0)):=by simp only [World.cell?,g3];rfl
 have c3:(((w.alloc (.cells zero4 122)).alloc (.cells zero4 122)).setRow (w.heap.size+1) (vec4 xs)).cell? ⟨w.heap.size+1,3,none⟩=some (.int .i64 (xs.getD 3 0)):=by simp only [World.cell?,g3];rfl
 have g2:(((w.alloc (.cells zero4 122)).alloc (.cells zero4 122)).setRow (w.heap.size+1) (vec4 xs)).heap[w.heap.size]? = some (.cells zero4 122 (0,0)):=by rw [setRow_other _ _ _ _ om];exact alloc2_fst _ _ _
 have d0:(((w.alloc (.cells zero4 122)).alloc (.cells zero4 122)).setRow (w.heap.size+1) (vec4 xs)).cell? ⟨w.heap.size,0,none⟩=some (.int .i64 0):=by simp only [World.cell?,g2];rfl
 have z0:(((w.alloc (.cells zero4 122)).alloc (.cells zero4 122)).setRow (w.heap.size+1) (vec4 xs)).frozen? ⟨w.heap.size,0,none⟩=false:=by simp only [World.frozen?,g2];rfl
 have d1:(((w.alloc (.cells zero4 122)).alloc (.cells zero4 122)).setRow (w.heap.size+1) (vec4 xs)).cell? ⟨w.heap.size,1,none⟩=some (.int .i64 0):=by simp only [World.cell?,g2];rfl
 have z1:(((w.alloc (.cells zero4 122)).alloc (.cells zero4 122)).setRow (w.heap.size+1) (vec4 xs)).frozen? ⟨w.heap.size,1,none⟩=false:=by simp only [World.frozen?,g2];rfl
 have d2:(((w.alloc (.cells zero4 122)).alloc (.cells zero4 122)).setRow (w.heap.size+1) (vec4 xs)).cell? ⟨w.heap.size,2,none⟩=some (.int .i64 0):=by simp only [World.cell?,g2];rfl
 have z2:(((w.alloc (.cells zero4 122)).alloc (.cells zero4 122)).setRow (w.heap.size+1) (vec4 xs)).frozen? ⟨w.heap.size,2,none⟩=false:=by simp only [World.frozen?,g2];rfl
 have d3:(((w.alloc (.cells zero4 122)).alloc (.cells zero4 122)).setRow (w.heap.size+1) (vec4 xs)).cell? ⟨w.heap.size,3,none⟩=some (.int .i64 0):=by simp only [World.cell?,g2];rfl
 have z3:(((w.alloc (.cells zero4 122)).alloc (.cells zero4 122)).setRow (w.heap.size+1) (vec4 xs)).frozen? ⟨w.heap.size,3,none⟩=false:=by simp only [World.frozen?,g2];rfl
 clear g3 g2
 unfold zero4 at hcp c0 c1 c2 c3 d0 d1 d2 d3 z0 z1 z2 z3
 go_enter Tryz.func187,Tryz.ntmps187
 go_wp2
 have hres:Tryz.f187.results=#[.cell 2 122]:=rfl
 generalize hw3:(((w.alloc (.cells #[.int .i64 0,.int .i64 0,.int .i64 0,.int .i64 0] 122)).alloc (.cells #[.int .i64 0,.int .i64 0,.int .i64 0,.int .i64 0] 122)).setRow (w.heap.size+1) (vec4 xs))=w3 at *
 have hld:=Go.Aw.run_wload (C:=B) (t:=122) (e:=.vec) (a:=⟨w.heap.size,0,none⟩) (d:=key4 xs) (w:=(((w3.setCell ⟨w.heap.size,0,none⟩ (.int .i64 (xs.getD 0 0))).setCell ⟨w.heap.size,1,none⟩ (.int .i64 (xs.getD 1 0))).setCell ⟨w.heap.size,2,none⟩ (.int .i64 (xs.getD 2 0))).setCell ⟨w.heap.size,3,none⟩ (.int .i64 (xs.getD 3 0))) B_ok rfl rfl (fun j hj=>by
  rw [Go.Aw.add_plain,Nat.zero_add]
  match j,hj with
  | 0,_=>
   rw [World.cell?_setCell_other _ _ _ _ (by simp),World.cell?_setCell_other _ _ _ _ (by simp),World.cell?_setCell_other _ _ _ _ (by simp),World.cell?_setCell_same _ _ _ d0];rfl
  | 1,_=>
   rw [World.cell?_setCell_other _ _ _ _ (by simp),World.cell?_setCell_other _ _ _ _ (by simp),World.cell?_setCell_same (u:=.int .i64 0) _ _ _ (by rw [World.cell?_setCell_other _ _ _ _ (by simp)];exact d1)];rfl
  | 2,_=>
   rw [World.cell?_setCell_other _ _ _ _ (by simp),World.cell?_setCell_same (u:=.int .i64 0) _ _ _ (by rw [World.cell?_setCell_other _ _ _ _ (by simp),World.cell?_setCell_other _ _ _ _ (by simp)];exact d2)];rfl
  | 3,_=>
   rw [World.cell?_setCell_same (u:=.int .i64 0) _ _ _ (by rw [World.cell?_setCell_other _ _ _ _ (by simp),World.cell?_setCell_other _ _ _ _ (by simp),World.cell?_setCell_other _ _ _ _ (by simp)];exact d3)];rfl)
 simp only [gdE]at hld
 refine⟨rfl,.agg ((key4 xs).map (Value.int .i64)).toArray,?_,?_⟩
 ·unfold results
  rw [hres]
  simp only [Instr.loadAt,Instr.sureAddr,Sem.run_bind,Sem.run_pure,Result.andThen_ok]at hld
  simp [asAddr]
  exact hld
 ·refine⟨by simp [key4],?_⟩
  rw [<- hw3]
  exact vec_frame w _ _ _ _ _ _ _
open Go.Aw
theorem key4_inj {xs ys:LI} (hx:xs.length<=4) (h:xs.length=ys.length) (e:key4 xs=key4 ys):xs=ys:=by
 simp only [key4,List.cons.injEq,and_true]at e
 obtain⟨e0,e1,e2,e3⟩:=e
 apply List.ext_getElem h
 intro i h1 h2
 have:xs.getD i 0=ys.getD i 0:=by
  match i,(show i < 4 by omega) with
  | 0,_=>exact e0
  | 1,_=>exact e1
  | 2,_=>exact e2
  | 3,_=>exact e3
 simpa [gdE,h1,h2] using this
theorem key4_take {xs:LI} (h:xs.length<=4):(key4 xs).take xs.length=xs:=by
 match xs,h with
 | [],_=>rfl
 | [_],_=>rfl
 | [_,_],_=>rfl
 | [_,_,_],_=>rfl
 | [_,_,_,_],_=>rfl
theorem c_impl_vectorOf (xs:LI) (h1:1<=xs.length) (hl:xs.length<=4):FunA B 187 [.sl false .int xs] (fun rs o=>rs=[.vec (key4 xs)]/\o=[]):=by
 refine⟨fun vs w=>Tryz.call187 vs w,fun w L vs hG hv ha=>?_⟩
 match vs,hv with
 | [s],_=>
 have hs:SlRel ((B.bareL w L).V w [] (fun _=>undef)) false .int xs s:=ha 0 _ s rfl rfl
 obtain⟨base,cap,hv',hc,hcm,hx⟩:=hs
 obtain⟨a,_,hb,_⟩:=hx 0 om
 subst hb hv'
 have hcell:∀ k (hk:k < xs.length),w.cell? (a.add k)=some (.int .i64 xs[k]):=fun k hk=>by
  obtain⟨a',u,e,_,hu,hq⟩:=hx k hk
  cases e
  cases hu
  have h0:=hq 0 (by simp [E.size])
  simp only [E.size,Nat.mul_one,Nat.add_zero]at h0
  exact V_cell (by simpa [Value.cells] using h0)
 refine(w_vectorOf a cap xs w h1 hl hcell).mono ?_
 rintro e w' ⟨rfl,hk⟩
 refine⟨[.agg ((key4 xs).map (Value.int .i64)).toArray],rfl,[.vec (key4 xs)],[],fun _=>undef,⟨rfl,rfl⟩,rfl,fun i x v hx hv=>?_,⟨fun id o h=>by simp at h,fun i j o o' b h=>by simp at h,fun b ⟨id,o,h,_⟩=>by simp at h,hk.os,hk.tape,hk.output,hk.size,fun _=>hk.drawn,fun b hb _=>hk.block b hb,hG⟩,rfl,rfl⟩
 match i with
 | 0=>simp at hx hv;subst hx hv;exact⟨rfl,rfl⟩
 | i+1=>simp at hx
theorem c_impl_list (xs:LI) (n:Nat) (h4:xs.length=4) (hn:n<=4):FunA B 188 [.vec xs,.int .i64 n] (fun rs o=>rs=[.own 0 0]/\o=[.arr .int (xs.take n) 0 true]):=by
 refine wk Tryz.call188 Tryz.func188 rfl Tryz.ntmps188 fun C hC hP hT hfn hpin hfin hX=>wW ?_
 refine Run.R ?_
 refine Run.R ?_
 refine Run.k [4] [0] ?_
 refine Run.r [4] ?_
 exact⟨rfl,rfl⟩
def badB (c:LL) (i j:Nat):Bool:=bif i == j then !decide (ent c i j=2)else decide (ent c i j < -3) || decide (0 < ent c i j) || (decide (ent c i j=0) != decide (ent c j i=0))
def ctB (c:LL):Bool:=Nat.ble 1 c.length && Nat.ble c.length 4 && (List.range c.length).all (fun i=>(c.getD i []).length == c.length) && (List.range c.length).all fun i=>(List.range c.length).all fun j=>!badB c i j
theorem badB_iff (c:LL) (i j:Nat):badB c i j=true↔badE c i j:=by
 unfold badB badE
 by_cases h:i=j
 ·subst h;simp
 ·have:(i == j)=false:=by simpa using h
  rw [this]
  simp only [cond_false,h,false_and,false_or,ne_eq,not_false_eq_true,true_and,Bool.or_eq_true,dtE,bne_iff_ne,or_assoc]
  constructor
  ·rintro(h1 | h1 | h1)
   ·exact .inl h1
   ·exact .inr (.inl h1)
   ·refine .inr (.inr fun h2=>h1 ?_)
    rw [Bool.eq_iff_iff,dtE,dtE];exact h2
  ·rintro(h1 | h1 | h1)
   ·exact .inl h1
   ·exact .inr (.inl h1)
   ·refine .inr (.inr fun h2=>h1 ?_)
    rw [Bool.eq_iff_iff,dtE,dtE]at h2;exact h2
theorem ctB_eq (c:LL):isC c=ctB c:=by
 rw [Bool.eq_iff_iff,isC_iff]
 simp only [ctB,CartanP,bAnd,alT,List.mem_range,Bool.not_eq_true',beq_iff_eq,Nat.ble_eq]
 constructor
 ·rintro⟨h1,h2,h3,h4⟩
  refine⟨⟨⟨h1,h2⟩,h3⟩,fun i hi j hj=>?_⟩
  rw [Bool.eq_false_iff]
  exact fun e=>h4 i j hi hj ((badB_iff c i j).1 e)
 ·rintro⟨⟨⟨h1,h2⟩,h3⟩,h4⟩
  refine⟨h1,h2,h3,fun i j hi hj e=>?_⟩
  have:=h4 i hi j hj
  rw [(badB_iff c i j).2 e]at this
  cases this
def nbI (c:LL) (i:Nat):List Int:=((List.range c.length).filter fun j=>!(j == i) && !(ent c i j == 0)).map Int.ofNat
def stJ (p:List Bool×List Int) (j:Int):List Bool×List Int:=bif p.1.getD j.toNat false then p else(p.1.set j.toNat true,p.2 ++ [j])
def grP (c:LL):Nat->Nat->List Bool×List Int->List Bool×List Int
 | 0,_,p=>p
 | f+1,k,p=>bif Nat.blt k p.2.length then grP c f (k+1) ((nbI c (p.2.getD k 0).toNat).foldl stJ p)else p
def insI (x:Int):List Int->List Int
 | []=>[x]
 | y :: l=>bif decide (x<=y)then x :: y :: l else y :: insI x l
def sortI (l:LI):List Int:=l.foldr insI []
def ptS (c:LL) (p:List Bool×List (List Int)) (i:Nat):List Bool×List (List Int):=
 bif p.1.getD i false then p else((grP c (c.length+1) 0 (p.1.set i true,[(i:Int)])).1,p.2 ++ [sortI (grP c (c.length+1) 0 (p.1.set i true,[(i:Int)])).2])
def partsI (c:LL):List (List Int):=((List.range c.length).foldl (ptS c) (List.replicate c.length false,[])).2
def partS (c:LL) (i:Nat):List Int:=((List.range c.length).filter fun(k:Nat)=>(grP c (c.length+1) 0 ((List.replicate c.length false).set i true,[(i:Int)])).1.getD k false).map Int.ofNat
def partsS (c:LL):List (List Int):=((List.range c.length).map (partS c)).zipIdx.filterMap fun p=>bif p.1.getD 0 0 == (p.2:Int)then some p.1 else none
def tyL:List (List UInt8×List (List Int)×Nat):=[
 ([65,49],[[2]],2),([65,50],[[2,-1],[-1,2]],6),([65,51],[[2,-1,0],[-1,2,-1],[0,-1,2]],24),([65,52],[[2,-1,0,0],[-1,2,-1,0],[0,-1,2,-1],[0,0,-1,2]],120),
 ([66,50],[[2,-1],[-2,2]],8),([66,51],[[2,-1,0],[-1,2,-1],[0,-2,2]],48),([66,52],[[2,-1,0,0],[-1,2,-1,0],[0,-1,2,-1],[0,0,-2,2]],384),
 ([67,51],[[2,-1,0],[-1,2,-2],[0,-1,2]],48),([67,52],[[2,-1,0,0],[-1,2,-1,0],[0,-1,2,-2],[0,0,-1,2]],384),
 ([68,52],[[2,-1,0,0],[-1,2,-1,-1],[0,-1,2,0],[0,-1,0,2]],192),([70,52],[[2,-1,0,0],[-1,2,-1,0],[0,-2,2,-1],[0,0,-1,2]],1152),([71,50],[[2,-1],[-3,2]],12),
 ([65,49,126],[[2,-2],[-2,2]],0),([65,50,126],[[2,-1,-1],[-1,2,-1],[-1,-1,2]],0),([65,51,126],[[2,-1,0,-1],[-1,2,-1,0],[0,-1,2,-1],[-1,0,-1,2]],0),
 ([67,50,126],[[2,-1,0],[-2,2,-2],[0,-1,2]],0),([71,50,126],[[2,-1,0],[-1,2,-1],[0,-3,2]],0)]
def fitM (a b:LL) (order:LI) (i:Nat):Bool:=order.zipIdx.all fun p=>decide (ent a i p.1.toNat=ent b order.length p.2) && decide (ent a p.1.toNat i=ent b p.2 order.length)
def mtL (a b:LL) (rec:List Int->Int->List (List Int)) (order:LI) (most:Int):List Nat->List (List Int)->List (List Int)
 | [],out=>out
 | i :: r,out=>bif decide ((i:Int)∈order)then mtL a b rec order most r out else
   bif decide (most<=((out ++ (bif fitM a b order i then rec (order ++ [(i:Int)]) (most - out.length)else [])).length:Int))then out ++ (bif fitM a b order i then rec (order ++ [(i:Int)]) (most - out.length)else [])
   else mtL a b rec order most r (out ++ (bif fitM a b order i then rec (order ++ [(i:Int)]) (most - out.length)else []))
def mtI (a b:LL):Nat->List Int->Int->List (List Int)
 | 0,order,_=>[order]
 | f+1,order,most=>mtL a b (mtI a b f) order most (List.range a.length) []
def isoI (a b:LL):Bool:=a.length == b.length && (ctB a && ctB b && !(mtI a b b.length [] 1).isEmpty)
def firstT (iso:List (List Int)->List (List Int)->Bool) (a:LL):List (List UInt8×List (List Int)×Nat)->List UInt8
 | []=>[63]
 | t :: l=>bif iso a t.2.1 then t.1 else firstT iso a l
def nameI (a:LL):List UInt8:=bif ctB a && (partsI a).length == 1 then firstT isoI a tyL else []
def ordN (n:Nat):Nat->List (List Int)
 | 0=>[[]]
 | k+1=>(ordN n k).flatMap fun o=>((List.range n).filter fun(x:Nat)=>!decide ((x:Int)∈o)).map fun(x:Nat)=>o ++ [(x:Int)]
def isoS (a b:LL):Bool:=a.length == b.length && (ctB a && ctB b && (ordN a.length a.length).any fun o=>decide (pick a o=b))
def nameS (a:LL):List UInt8:=firstT isoS a tyL
def joinX:List (List UInt8)->List UInt8
 | []=>[]
 | [x]=>x
 | x :: y :: l=>x ++ [120] ++ joinX (y :: l)
def cutX:List UInt8->List UInt8->List (List UInt8)
 | p,[]=>[p]
 | p,b :: l=>bif b == 120 then p :: cutX [] l else cutX (p ++ [b]) l
def sizeT (s:List UInt8):Nat:=match tyL.find? (fun t=>t.1 == s) with
 | some t=>t.2.2
 | none=>0
def sizeL (l:List (List UInt8)):Int:=bif Nat.ble l.length 4 then l.foldl (fun n p=>n*(sizeT p:Int)) 1 else 0
def sizeI (c:LL):Int:=sizeL (cutX [] (joinX ((partsI c).map fun p=>nameI (pick c p))))
def sizeS (c:LL):Int:=sizeL (cutX [] (joinX ((partsS c).map fun p=>nameS (pick c p))))
def rf1 (a:Int):List Int->List Int->List Int
 | x :: v,y :: col=>Int.sub x (Int.mul a y) :: rf1 a v col
 | _,_=>[]
def posI:Int->Bool
 | .ofNat 0=>false
 | .ofNat (_+1)=>true
 | .negSucc _=>false
def nngI:Int->Bool
 | .ofNat _=>true
 | .negSucc _=>false
def preI:Nat->List Int->Bool
 | 0,_=>true
 | i+1,y :: l=>nngI y && preI i l
 | _,[]=>true
def nxC (x:LI):Nat->List Int->List (List Int)->List (List Int)
 | i,a :: r,col :: cs=>bif posI a then(bif preI i (rf1 a x col)then rf1 a x col :: nxC x (i+1) r cs else nxC x (i+1) r cs)else nxC x (i+1) r cs
 | _,_,_=>[]
def colsI (c:LL):List (List Int):=(List.range c.length).map fun i=>(List.range c.length).map fun k=>ent c k i
def cntG (cols:LL):Nat->List (List Int)->Nat
 | 0,_=>0
 | f+1,sh=>bif sh.isEmpty then 0 else sh.length+cntG cols f (sh.flatMap fun x=>nxC x 0 x cols)
def cntN (c:LL):Nat:=cntG (colsI c) 25 [ones c.length]
def chkN (c:LL):Bool:=decide (sizeI c=sizeS c) && decide (0 < sizeI c) && (decide (200 < sizeI c) || decide ((cntN c:Int)=sizeI c))
end Go.Proofs.YtcinngodeoidnaaGreatDoor
