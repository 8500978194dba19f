/- Arguments that are rows of rows; a contract used on one row of an owned matrix. -/
import Derived.Test.YtcinngodeoidnaaGreatAw6
set_option linter.unusedVariables false
set_option linter.unusedSimpArgs false
namespace Go.Aw
open Go Go.ChangeShapes Go.WideShapes Go.ChangeAt Go.RowKit Go.Deep
section
variable {H:Type} {enc:TypeId×Value->H} {P:Program} {B:Ctx} {W:World}
end
def argOkR (h:Option Nat) (n:Nat):(actual formal:AV)->Prop
 | x,.own 0 0=>x=.hdr h n
 | x,.int k m=>x=.int k m
 | x,.bool b=>x=.bool b
 | _,_=>False
def argsOkR (h:Option Nat) (n:Nat):List AV->List AV->Prop
 | [],[]=>True
 | x :: l,y :: r=>argOkR h n x y/\argsOkR h n l r
 | _,_=>False
theorem argsOkR_nil (h:Option Nat) (n:Nat):argsOkR h n [] []=True:=rfl
theorem argsOkR_cons (h:Option Nat) (n:Nat) (x y:AV) (l r:List AV):argsOkR h n (x :: l) (y :: r)=(argOkR h n x y/\argsOkR h n l r):=rfl
theorem argOkR_own (h:Option Nat) (n:Nat) (x:AV):argOkR h n x (.own 0 0)=(x=.hdr h n):=by cases x<;>rfl
theorem argOkR_int (h:Option Nat) (n:Nat) (x:AV) (k:IntKind) (m:Int):argOkR h n x (.int k m)=(x=.int k m):=by cases x<;>rfl
theorem argOkR_bool (h:Option Nat) (n:Nat) (x:AV) (b:Bool):argOkR h n x (.bool b)=(x=.bool b):=by cases x<;>rfl
def flatAV:AV->Bool
 | .int ..=>true
 | .bool ..=>true
 | _=>false
theorem AW1:type_of% @AW/\type_of% @argsOkR_nil/\type_of% @argsOkR_cons/\type_of% @argOkR_own/\type_of% @argOkR_int/\type_of% @argOkR_bool/\type_of% @Q_nil_sl/\type_of% @Q_nil_emp/\type_of% @Q_nil_nil/\type_of% @Q_len_emp/\type_of% @Q_src_emp:=⟨AW,argsOkR_nil,argsOkR_cons,argOkR_own,argOkR_int,argOkR_bool,Q_nil_sl,Q_nil_emp,Q_nil_nil,Q_len_emp,Q_src_emp⟩
end Go.Aw
namespace Go.Cox
abbrev Vec:=Nat->Int
abbrev Mat:=Nat->Nat->Int
def refl (A:Mat) (i:Nat) (v:Vec):Vec:=fun k=>v k - v i*A k i
def act (A:Mat) (w:List Nat) (v:Vec):Vec:=w.foldr (refl A) v
def run (A:Mat) (w:List Nat) (v:Vec):Vec:=w.foldl (fun v i=>refl A i v) v
structure Cartan (A:Mat) (n:Nat):Prop where
 diag:∀ i,i < n->A i i=2
 nonpos:∀ i j,i < n->j < n->i≠j->A i j<=0
 zero:∀ i j,i < n->j < n->A i j=0->A j i=0
theorem act_nil (A:Mat) (v:Vec):act A [] v=v:=rfl
theorem act_cons (A:Mat) (i:Nat) (w:List Nat) (v:Vec):act A (i :: w) v=refl A i (act A w v):=rfl
theorem act_append (A:Mat) (a b:List Nat) (v:Vec):act A (a ++ b) v=act A a (act A b v):=by simp [act,List.foldr_append]
theorem run_cons (A:Mat) (i:Nat) (w:List Nat) (v:Vec):run A (i :: w) v=run A w (refl A i v):=rfl
theorem run_append (A:Mat) (a b:List Nat) (v:Vec):run A (a ++ b) v=run A b (run A a v):=by simp [run,List.foldl_append]
theorem run_reverse (A:Mat) (w:List Nat) (v:Vec):run A w.reverse v=act A w v:=by simp [run,act,List.foldl_reverse]
theorem act_reverse (A:Mat) (w:List Nat) (v:Vec):act A w.reverse v=run A w v:=by simp [run,act,List.foldr_reverse]
variable {A:Mat} {n:Nat}
theorem refl_refl {i:Nat} (h:A i i=2) (v:Vec):refl A i (refl A i v)=v:=by
 funext k;simp only [refl,h];grind
theorem refl_self {i:Nat} (h:A i i=2) (v:Vec):refl A i v i = -(v i):=by
 simp only [refl,h];omega
theorem act_run (hA:Cartan A n):∀(w:List Nat),(∀ i∈w,i < n)->∀ v,act A w (run A w v)=v
 | [],_,_=>rfl
 | i :: w,h,v=>by
  rw [run_cons,act_cons,act_run hA w (fun j hj=>h j (mcM _ hj)),refl_refl (hA.diag i (h i (mcS ..)))]
theorem run_act (hA:Cartan A n) (w:List Nat) (h:∀ i∈w,i < n) (v:Vec):run A w (act A w v)=v:=by
 have:=act_run hA w.reverse (fun i hi=>h i (by simpa using hi)) v
 rwa [run_reverse,act_reverse]at this
def alt (i j:Nat):Nat->List Nat
 | 0=>[]
 | m+1=>i :: alt j i m
theorem alt_length (i j:Nat):∀ m,(alt i j m).length=m:=by
 intro m
 induction m generalizing i j with
 | zero=>rfl
 | succ m ih=>simp [alt,ih]
def bond (A:Mat) (i j:Nat):Nat:=
 if A i j*A j i=0 then 2 else if A i j*A j i=1 then 3 else if A i j*A j i=2 then 4 else if A i j*A j i=3 then 6 else 0
theorem bond_symm (i j:Nat):bond A i j=bond A j i:=by simp [bond,Int.mul_comm]
inductive Br (A:Mat) (n:Nat):List Nat->List Nat->Prop
 | refl (w:List Nat):Br A n w w
 | trans {a b c:List Nat}:Br A n a b->Br A n b c->Br A n a c
 | cons (i:Nat) {a b:List Nat}:Br A n a b->Br A n (i :: a) (i :: b)
 | braid (i j:Nat) (t:List Nat):i < n->j < n->i≠j->bond A i j≠0->Br A n (alt i j (bond A i j) ++ t) (alt j i (bond A i j) ++ t)
theorem Br.symm {a b:List Nat} (h:Br A n a b):Br A n b a:=by
 induction h with
 | refl w=>exact .refl w
 | trans _ _ h1 h2=>exact .trans h2 h1
 | cons i _ h=>exact .cons i h
 | braid i j t hi hj hij hb=>
  rw [bond_symm i j]at hb ⊢
  exact .braid j i t hj hi (Ne.symm hij) hb
theorem Br.length {a b:List Nat} (h:Br A n a b):a.length=b.length:=by
 induction h with
 | refl w=>rfl
 | trans _ _ h1 h2=>exact h1.trans h2
 | cons i _ h=>simp [h]
 | braid i j t=>simp [alt_length]
theorem Br.pre {a b:List Nat} (t:List Nat) (h:Br A n a b):Br A n (t ++ a) (t ++ b):=by
 induction t with
 | nil=>exact h
 | cons i t ih=>exact .cons i ih
theorem bonds (hA:Cartan A n) {i j:Nat} (hi:i < n) (hj:j < n) (hij:i≠j) :
  (A i j=0/\A j i=0)\/(A i j = -1/\A j i = -1)\/(A i j = -1/\A j i = -2)\/(A i j = -2/\A j i = -1)\/(A i j = -1/\A j i = -3)\/(A i j = -3/\A j i = -1) \/
   (A i j < 0/\A j i < 0/\4<=A i j*A j i):=by
 have h1:=hA.nonpos i j hi hj hij
 have h2:=hA.nonpos j i hj hi (Ne.symm hij)
 have h3:=hA.zero i j hi hj
 have h4:=hA.zero j i hj hi
 generalize A i j=a at *
 generalize A j i=b at *
 by_cases ha:a=0
 ·exact .inl ⟨ha,h3 ha⟩
 have hb:b≠0:=fun h=>ha (h4 h)
 by_cases h:4<=a*b
 ·exact .inr (.inr (.inr (.inr (.inr (.inr ⟨by omega,by omega,h⟩)))))
 obtain⟨x,rfl⟩:∃ x:Nat,a = -(x:Int) - 1:=⟨(-a - 1).toNat,by omega⟩
 obtain⟨y,rfl⟩:∃ y:Nat,b = -(y:Int) - 1:=⟨(-b - 1).toNat,by omega⟩
 have e:(-(x:Int) - 1)*(-(y:Int) - 1)=((x*y+x+y+1:Nat):Int):=by push_cast;grind
 rw [e]at h
 have h5:x*y+x+y+1 < 4:=by omega
 have hx:x<=2:=by omega
 have hy:y<=2:=by omega
 match x,y,hx,hy with
 | 0,0,_,_=>simp
 | 0,1,_,_=>simp
 | 0,2,_,_=>simp
 | 1,0,_,_=>simp
 | 2,0,_,_=>simp
 | 1,1,_,_=>omega
 | 1,2,_,_=>omega
 | 2,1,_,_=>omega
 | 2,2,_,_=>omega
theorem run_braid (hA:Cartan A n) {i j:Nat} (hi:i < n) (hj:j < n) (hij:i≠j) (v:Vec):run A (alt i j (bond A i j)) v=run A (alt j i (bond A i j)) v:=by
 have d1:=hA.diag i hi
 have d2:=hA.diag j hj
 funext k
 rcases bonds hA hi hj hij with⟨h1,h2⟩ | ⟨h1,h2⟩ | ⟨h1,h2⟩ | ⟨h1,h2⟩ | ⟨h1,h2⟩ | ⟨h1,h2⟩ | ⟨h1,h2,h3⟩
 all_goals first
  | (have hb:bond A i j=2:=(by simp [bond,h1,h2]);rw [hb];simp only [alt,run,List.foldl_cons,List.foldl_nil,refl,d1,d2,h1,h2];grind)
  | (have hb:bond A i j=3:=(by simp [bond,h1,h2]);rw [hb];simp only [alt,run,List.foldl_cons,List.foldl_nil,refl,d1,d2,h1,h2];grind)
  | (have hb:bond A i j=4:=(by simp [bond,h1,h2]);rw [hb];simp only [alt,run,List.foldl_cons,List.foldl_nil,refl,d1,d2,h1,h2];grind)
  | (have hb:bond A i j=6:=(by simp [bond,h1,h2]);rw [hb];simp only [alt,run,List.foldl_cons,List.foldl_nil,refl,d1,d2,h1,h2];grind)
  | (have hb:bond A i j=0:=(by unfold bond;rw [if_neg om,if_neg om,if_neg om,if_neg om]);rw [hb];rfl)
theorem run_br (hA:Cartan A n) {a b:List Nat} (h:Br A n a b):∀ v,run A a v=run A b v:=by
 induction h with
 | refl w=>exact fun _=>rfl
 | trans _ _ h1 h2=>exact fun v=>(h1 v).trans (h2 v)
 | cons i _ h=>exact fun v=>h _
 | braid i j t hi hj hij _=>intro v;rw [run_append,run_append,run_braid hA hi hj hij]
theorem alt_mem {i j:Nat}:∀ {m k:Nat},k∈alt i j m->k=i\/k=j:=by
 intro m
 induction m generalizing i j with
 | zero=>intro k h;simp [alt]at h
 | succ m ih=>
  intro k h
  simp only [alt,List.mem_cons]at h
  rcases h with h | h
  ·exact .inl h
  ·exact(ih h).symm
theorem Br.mem {a b:List Nat} (h:Br A n a b):(∀ i∈a,i < n)->∀ i∈b,i < n:=by
 induction h with
 | refl w=>exact fun h=>h
 | trans _ _ h1 h2=>exact fun h=>h2 (h1 h)
 | cons i _ ih=>
  intro h k hk
  rcases List.mem_cons.1 hk with rfl | hk
  ·exact h _ (mcS ..)
  ·exact ih (fun k hk=>h k (mcM _ hk)) k hk
 | braid i j t hi hj=>
  intro h k hk
  rcases List.mem_append.1 hk with hk | hk
  ·rcases alt_mem hk with rfl | rfl
   ·exact hj
   ·exact hi
  ·exact h k (List.mem_append_right _ hk)
theorem act_br (hA:Cartan A n) {a b:List Nat} (h:Br A n a b) (ha:∀ i∈a,i < n) (v:Vec):act A a v=act A b v:=by
 have hb:=h.mem ha
 have e:v=run A a (act A a v):=(run_act hA a ha v).symm
 have e2:act A b v=act A b (run A b (act A a v)):=by rw [<- run_br hA h,<- e]
 rw [e2,act_run hA b hb]
inductive Play (A:Mat) (n:Nat):Vec->List Nat->Vec->Prop
 | nil (v:Vec):Play A n v [] v
 | cons {v u:Vec} {i:Nat} {w:List Nat}:i < n->v i < 0->Play A n (refl A i v) w u->Play A n v (i :: w) u
theorem Play.run {v u:Vec} {w:List Nat} (h:Play A n v w u):u=run A w v:=by
 induction h with
 | nil v=>rfl
 | cons _ _ _ ih=>exact ih
theorem Play.mem {v u:Vec} {w:List Nat} (h:Play A n v w u):∀ i∈w,i < n:=by
 induction h with
 | nil v=>simp
 | cons hi _ _ ih=>intro k hk;rcases List.mem_cons.1 hk with rfl | hk;exact hi;exact ih k hk
theorem Play.append {v u x:Vec} {a b:List Nat} (h:Play A n v a u) (k:Play A n u b x):Play A n v (a ++ b) x:=by
 induction h with
 | nil v=>exact k
 | cons hi hv _ ih=>exact .cons hi hv (ih k)
theorem Play.back (hA:Cartan A n) {v u:Vec} {w:List Nat} (h:Play A n v w u):v=act A w u:=by
 rw [h.run,act_run hA w h.mem]
theorem endless (hA:Cartan A n):∀(N:Nat) {i j:Nat},i < n->j < n->i≠j->A i j < 0->A j i < 0->4<=A i j*A j i->∀ v:Vec,v i < 0->-(A j i)*v i+2*v j<=0 ->
  ∃ u,Play A n v (alt i j N) u
 | 0,_,_,_,_,_,_,_,_,v,_,_=>⟨v,.nil v⟩
 | N+1,i,j,hi,hj,hij,ha,hb,hab,v,hv,hI=>by
  have h1:refl A i v j=v j - v i*A j i:=rfl
  have h2:refl A i v i = -(v i):=refl_self (hA.diag i hi) v
  have hp:0 < v i*A j i:=Int.mul_pos_of_neg_of_neg hv hb
  have hc:-(A j i)*v i = -(v i*A j i):=by grind
  rw [hc]at hI
  obtain⟨u,hu⟩:=endless hA N hj hi (Ne.symm hij) hb ha (by rw [Int.mul_comm];exact hab) (refl A i v) (by rw [h1];omega) (by
   rw [h1,h2]
   have e:2*(-(A i j)*(v j - v i*A j i)+2 * -(v i)) = -(A i j)*(2*v j - v i*A j i)+(A i j*A j i - 4)*v i:=by grind
   have k1:-(A i j)*(2*v j - v i*A j i)<=0:=Int.mul_nonpos_of_nonneg_of_nonpos om om
   have k2:(A i j*A j i - 4)*v i<=0:=Int.mul_nonpos_of_nonneg_of_nonpos om om
   omega)
  exact⟨u,.cons hi hv hu⟩
theorem ladder (hA:Cartan A n) {i j:Nat} (hi:i < n) (hj:j < n) (hij:i≠j) (hb:bond A i j≠0) (v:Vec) (hv:v i < 0) (hw:v j<=0) :
  ∃ k u,k+1=bond A i j/\0 < k/\Play A n v (alt i j k) u/\((k % 2=0/\u i=v j)\/(k % 2=1/\u j=v j)):=by
 have d1:=hA.diag i hi
 have d2:=hA.diag j hj
 rcases bonds hA hi hj hij with⟨h1,h2⟩ | ⟨h1,h2⟩ | ⟨h1,h2⟩ | ⟨h1,h2⟩ | ⟨h1,h2⟩ | ⟨h1,h2⟩ | ⟨h1,h2,h3⟩
 ·refine⟨1,_,by simp [bond,h1],by omega,.cons hi hv (.nil _),.inr ⟨rfl,?_⟩⟩
  simp only [refl,d1,d2,h1,h2];omega
 ·refine⟨2,_,by simp [bond,h1,h2],by omega,.cons hi hv (.cons hj ?_ (.nil _)),.inl ⟨rfl,?_⟩⟩
  ·simp only [refl,d1,d2,h1,h2];omega
  ·simp only [refl,d1,d2,h1,h2];omega
 ·refine⟨3,_,by simp [bond,h1,h2],by omega,.cons hi hv (.cons hj ?_ (.cons hi ?_ (.nil _))),.inr ⟨rfl,?_⟩⟩
  all_goals (simp only [refl,d1,d2,h1,h2];omega)
 ·refine⟨3,_,by simp [bond,h1,h2],by omega,.cons hi hv (.cons hj ?_ (.cons hi ?_ (.nil _))),.inr ⟨rfl,?_⟩⟩
  all_goals (simp only [refl,d1,d2,h1,h2];omega)
 ·refine⟨5,_,by simp [bond,h1,h2],by omega,.cons hi hv (.cons hj ?_ (.cons hi ?_ (.cons hj ?_ (.cons hi ?_ (.nil _))))),.inr ⟨rfl,?_⟩⟩
  all_goals (simp only [refl,d1,d2,h1,h2];omega)
 ·refine⟨5,_,by simp [bond,h1,h2],by omega,.cons hi hv (.cons hj ?_ (.cons hi ?_ (.cons hj ?_ (.cons hi ?_ (.nil _))))),.inr ⟨rfl,?_⟩⟩
  all_goals (simp only [refl,d1,d2,h1,h2];omega)
 ·exact absurd (by unfold bond;rw [if_neg om,if_neg om,if_neg om,if_neg om]) hb
theorem alt_snoc (i j:Nat):∀ k,alt i j (k+1)=alt i j k ++ [if k % 2=0 then i else j]:=by
 intro k
 induction k generalizing i j with
 | zero=>rfl
 | succ k ih=>
  rw [alt,ih j i]
  simp only [alt,List.cons_append,List.cons.injEq,true_and,List.append_cancel_left_eq,and_true]
  rcases Nat.mod_two_eq_zero_or_one k with h | h
  ·rw [if_pos h,if_neg om]
  ·rw [if_neg om,if_pos om]
theorem polygon (hA:Cartan A n) {i j:Nat} (hi:i < n) (hj:j < n) (hij:i≠j) (hb:bond A i j≠0) (v:Vec) (hv:v i < 0) (hw:v j < 0) :
  Play A n v (alt i j (bond A i j)) (run A (alt i j (bond A i j)) v):=by
 obtain⟨k,u,hk,_,hp,hl⟩:=ladder hA hi hj hij hb v hv om
 have:Play A n v (alt i j k ++ [if k % 2=0 then i else j]) (refl A (if k % 2=0 then i else j) u):=by
  refine hp.append (.cons ?_ ?_ (.nil _))
  ·split<;>assumption
  ·rcases hl with⟨h1,h2⟩ | ⟨h1,h2⟩
   ·rw [if_pos h1,h2];exact hw
   ·rw [if_neg om,h2];exact hw
 rw [<- alt_snoc,hk]at this
 rw [<- this.run]
 exact this
theorem conv (hA:Cartan A n):∀(L:Nat) {v u:Vec} {w:List Nat},w.length=L->Play A n v w u->(∀ i,i < n->0<=u i) ->
  ∀ {w':List Nat} {u':Vec},Play A n v w' u'->∃ t,Play A n u' t u/\Br A n w (w' ++ t):=by
 intro L
 induction L using Nat.strongRecOn with
 | _ L ih=>
  intro v u w hL hp hu w' u' hp'
  cases hp' with
  | nil=>exact⟨w,hp,.refl _⟩
  | @cons _ _ j t' hj hvj hp'=>
   cases hp with
   | nil=>exact absurd (hu j hj) om
   | @cons _ _ i t hi hvi hp=>
    simp only [lenC]at hL
    by_cases hij:i=j
    ·subst hij
     obtain⟨r,hr,hb⟩:=ih t.length om rfl hp hu hp'
     exact⟨r,hr,.cons _ hb⟩
    ·by_cases hb:bond A i j=0
     ·exfalso
      have h3:A i j < 0/\A j i < 0/\4<=A i j*A j i:=by
       rcases bonds hA hi hj hij with⟨h1,h2⟩ | ⟨h1,h2⟩ | ⟨h1,h2⟩ | ⟨h1,h2⟩ | ⟨h1,h2⟩ | ⟨h1,h2⟩ | h
       ·simp [bond,h1,h2]at hb
       ·simp [bond,h1,h2]at hb
       ·simp [bond,h1,h2]at hb
       ·simp [bond,h1,h2]at hb
       ·simp [bond,h1,h2]at hb
       ·simp [bond,h1,h2]at hb
       ·exact h
      have hpos:0 < v i*A j i:=Int.mul_pos_of_neg_of_neg hvi h3.2.1
      have hc:-(A j i)*v i = -(v i*A j i):=by grind
      obtain⟨x,hx⟩:=endless hA (L+1) hi hj hij h3.1 h3.2.1 h3.2.2 v hvi (by rw [hc];omega)
      cases hx with
      | cons _ _ hx=>
       obtain⟨r,_,hbr⟩:=ih t.length om rfl hp hu hx
       have:=hbr.length
       simp [alt_length]at this
       omega
     ·have p1:=polygon hA hi hj hij hb v hvi hvj
      have p2:=polygon hA hj hi (Ne.symm hij) (by rwa [bond_symm]) v hvj hvi
      obtain⟨m,hm⟩:∃ m,bond A i j=m+1:=⟨bond A i j - 1,by omega⟩
      have hm':bond A j i=m+1:=by rw [bond_symm];exact hm
      have hend:run A (alt i j (bond A i j)) v=run A (alt j i (bond A j i)) v:=by rw [run_braid hA hi hj hij,bond_symm j i]
      have hbr0:=Br.braid (A:=A) (n:=n) i j
      rw [hm]at p1 hend hbr0
      rw [hm']at p2 hend
      cases p1 with
      | cons _ _ p1=>
       obtain⟨r,hr,hbr⟩:=ih t.length om rfl hp hu p1
       have hlen:=hbr.length
       simp [alt_length]at hlen
       cases p2 with
       | cons _ _ p2=>
        rw [hend]at hr
        have p3:=p2.append hr
        obtain⟨s,hs,hbs⟩:=ih (alt i j m ++ r).length (by simp [alt_length];omega) rfl p3 hu hp'
        refine⟨s,hs,?_⟩
        refine .trans (.cons i hbr) ?_
        have:=hbr0 r hi hj hij om
        exact .trans this (.cons j hbs)
theorem nonzero (hA:Cartan A n):∀(L:Nat) {v u:Vec} {w:List Nat},w.length=L->Play A n v w u->(∀ i,i < n->0 < u i)->∀ j,j < n->v j≠0:=by
 intro L
 induction L using Nat.strongRecOn with
 | _ L ih=>
  intro v u w hL hp hu j hj hz
  have hp0:=hp
  cases hp with
  | nil=>exact absurd (hu j hj) om
  | @cons _ _ i t hi hvi hp=>
   simp only [lenC]at hL
   have hij:i≠j:=by rintro rfl;omega
   have later:∀(k:Nat) (x:Vec) (z:Nat),0 < k->z < n->Play A n v (alt i j k) x->x z=0->False:=by
    intro k x z hk hz' hx hxz
    obtain⟨r,hr,hbr⟩:=conv hA _ rfl hp0 (fun i hi=>Int.le_of_lt (hu i hi)) hx
    have:=hbr.length
    simp [alt_length]at this
    exact ih r.length om rfl hr hu z hz' hxz
   by_cases hb:bond A i j=0
   ·have h3:A i j < 0/\A j i < 0/\4<=A i j*A j i:=by
     rcases bonds hA hi hj hij with⟨h1,h2⟩ | ⟨h1,h2⟩ | ⟨h1,h2⟩ | ⟨h1,h2⟩ | ⟨h1,h2⟩ | ⟨h1,h2⟩ | h
     ·simp [bond,h1,h2]at hb
     ·simp [bond,h1,h2]at hb
     ·simp [bond,h1,h2]at hb
     ·simp [bond,h1,h2]at hb
     ·simp [bond,h1,h2]at hb
     ·simp [bond,h1,h2]at hb
     ·exact h
    have hpos:0 < v i*A j i:=Int.mul_pos_of_neg_of_neg hvi h3.2.1
    have hc:-(A j i)*v i = -(v i*A j i):=by grind
    obtain⟨x,hx⟩:=endless hA (L+1) hi hj hij h3.1 h3.2.1 h3.2.2 v hvi (by rw [hc];omega)
    obtain⟨r,_,hbr⟩:=conv hA _ rfl hp0 (fun i hi=>Int.le_of_lt (hu i hi)) hx
    have:=hbr.length
    simp [alt_length]at this
    omega
   ·obtain⟨k,x,hk,hk0,hx,hl⟩:=ladder hA hi hj hij hb v hvi om
    rcases hl with⟨_,h⟩ | ⟨_,h⟩
    ·exact later k x i hk0 hi hx (h.trans hz)
    ·exact later k x j hk0 hj hx (h.trans hz)
theorem back (hA:Cartan A n) {u:Vec} (hu:∀ i,i < n->0 < u i):∀(w:List Nat),(∀ i∈w,i < n)->∃ t,Play A n (act A w u) t u/\t.length<=w.length/\t.length % 2=w.length % 2/\∀ x,act A t x=act A w x
 | [],_=>⟨[],.nil _,Nat.le_refl _,rfl,fun _=>rfl⟩
 | i :: w,h=>by
  have hi:=h i (mcS ..)
  obtain⟨t,hp,hl,hm,he⟩:=back hA hu w (fun k hk=>h k (mcM _ hk))
  have hnz:=nonzero hA _ rfl hp hu i hi
  rw [act_cons]
  rcases Int.lt_or_gt_of_ne hnz with hneg | hpos
  ·obtain⟨s,hs,hbr⟩:=conv hA _ rfl hp (fun i hi=>Int.le_of_lt (hu i hi)) (.cons hi hneg (.nil _))
   have hlen:=hbr.length
   simp at hlen
   refine⟨s,hs,by simp;omega,by simp;omega,fun x=>?_⟩
   rw [act_cons,<- he,act_br hA hbr hp.mem]
   simp only [List.cons_append,List.nil_append,act_cons]
   rw [refl_refl (hA.diag i hi)]
  ·refine⟨i :: t,.cons hi (by rw [refl_self (hA.diag i hi)];omega) (by rw [refl_refl (hA.diag i hi)];exact hp),by simp;omega,by simp;omega,fun x=>?_⟩
   rw [act_cons,act_cons,he]
theorem faithful (hA:Cartan A n) {u:Vec} (hu:∀ i,i < n->0 < u i) {a b:List Nat} (ha:∀ i∈a,i < n) (hb:∀ i∈b,i < n) (h:act A a u=act A b u) (x:Vec):act A a x=act A b x:=by
 obtain⟨s,hs,_,_,es⟩:=back hA hu a ha
 obtain⟨t,ht,_,_,et⟩:=back hA hu b hb
 rw [h]at hs
 obtain⟨r,hr,hbr⟩:=conv hA _ rfl hs (fun i hi=>Int.le_of_lt (hu i hi)) ht
 have hr0:r=[]:=by
  cases hr with
  | nil=>rfl
  | cons hi hv _=>exact absurd (hu _ hi) om
 subst hr0
 rw [<- es,<- et,act_br hA hbr hs.mem,List.append_nil]
end Go.Cox
namespace Go.Aw
open Go
section
variable {C:Ctx} {k:List Item}
end
end Go.Aw
namespace Go.Aw
open Go
theorem CallG.off {C:Ctx} {obs:List O} {f:FuncId} {args:List AV} {K:AV->Prop} (x:AV) (hk:K x):CallG C obs f args false fun y=>Later (K y):=
 ⟨x,⟨fun h=>Bool.noConfusion h,hk⟩⟩
theorem VB:type_of% @Bool.and_eq_true/\type_of% @Bool.or_eq_true/\type_of% @decide_eq_true_eq/\type_of% @Bool.not_eq_true'/\type_of% @beq_eq_false_iff_ne/\type_of% @beq_iff_eq/\type_of% @bne_iff_ne/\type_of% @ne_eq/\type_of% @decide_eq_false_iff_not:=
 ⟨@Bool.and_eq_true,@Bool.or_eq_true,@decide_eq_true_eq,@Bool.not_eq_true',@beq_eq_false_iff_ne,@beq_iff_eq,@bne_iff_ne,@ne_eq,@decide_eq_false_iff_not⟩
end Go.Aw
namespace Go.Aw
open Go
def plainE:E->Bool
 | .row f=>!f
 | .lrow=>false
 | .pr=>false
 | _=>true
def plainAV:AV->Bool
 | .int ..=>true
 | .bool ..=>true
 | .str ..=>true
 | .nils=>true
 | .vec ..=>true
 | .fn ..=>true
 | .sl f e _=>!f && plainE e
 | _=>false
theorem plain_el {V V':Vw} (hH:V'.H=V.H):{e:E}->plainE e=true->{d:e.D}->{v:Value}->ElRel V e d v->ElRel V' e d v
 | .int,_,_,_,k=>k
 | .byte,_,_,_,k=>k
 | .bool,_,_,_,k=>k
 | .str,_,_,_,k=>k
 | .vec,_,_,_,k=>k
 | .row false,_,_,_,⟨base,cap,hv,h1,h2,hx⟩=>⟨base,cap,hv,h1,h2,fun i hi=>by
   obtain⟨a,ha,_,hc⟩:=hx i hi
   exact⟨a,ha,by simp,by simpa [Vw.cell,hH] using hc⟩⟩
 | .row true,h,_,_,_=>by simp [plainE]at h
 | .lrow,h,_,_,_=>by simp [plainE]at h
 | .pr,h,_,_,_=>by simp [plainE]at h
theorem plain_rel {V V':Vw} (hH:V'.H=V.H) {x:AV} (hx:plainAV x=true) {v:Value} (h:AVRel V [] (fun _=>undef) x v):AVRel V' [] (fun _=>undef) x v:=by
 cases x with
 | sl f e xs=>
  simp only [plainAV,bAnd,Bool.not_eq_true']at hx
  obtain⟨rfl,he⟩:=hx
  obtain⟨base,cap,hv,h1,h2,hel⟩:=h
  refine⟨base,cap,hv,h1,h2,fun i hi=>?_⟩
  obtain⟨a,u,ha,_,hu,hc⟩:=hel i hi
  exact⟨a,u,ha,by simp,plain_el hH he hu,fun j hj=>by have:=hc j hj;simpa [Vw.cell,hH] using this⟩
 | _=>first | exact h | (simp [plainAV]at hx)
theorem flat_rel {V V':Vw} {obs obs':List O} {ρ ρ':Nat->Value} {x:AV} (hx:flatAV x=true) {v:Value} (h:AVRel V obs ρ x v):AVRel V' obs' ρ' x v:=by
 cases x<;>first | exact h | (simp [flatAV]at hx)
theorem flat_fresh {l:List AV} (h:l.all flatAV=true):l.all freshAV=true:=by
 rw [alT]at h ⊢
 intro x hx
 have:=h x hx
 cases x<;>first | rfl | (simp [flatAV]at this)
theorem hd_mk (l c:Nat) (h:c<=maxLen):hdB (l*18446744073709551616+c)=l/\hdC (l*18446744073709551616+c)=c:=by
 unfold hdB hdC
 unfold maxLen at h
 omega
def rowHd:Option Value->Option Nat
 | some (Value.slice (some a) _ c)=>some (a.block*18446744073709551616+c)
 | _=>none
theorem rows_mat {B:Ctx} {w w':World} {L:Nat->Prop} {ρ:Nat->Value} {ys:List (Nat×List Int)} {g:Nat} {nn:Bool} (hd:(ys.map (·.1)).Nodup) (h:WRel (B.bare w) [.arr .lrow ys g nn] w' ρ) :
  ∃ hs:List (Option Nat),hs.length=ys.length/\WRel (B.bareL w L) [.mat hs (ys.map (·.2)) 0 nn] w' ρ:=by
 obtain⟨cs,hown,henc,hnn,hml⟩:=h.os 0 _ rfl
 have hcl:cs.length=ys.length:=by have:=hown.1;simpa [E.size] using this
 have key:∀ i (hi:i < ys.length),LRowRel ((B.bare w).V w' [.arr .lrow ys g nn] ρ) ys[i].1 ys[i].2 (cs[i]'om):=by
  intro i hi
  obtain⟨u,hu,hc⟩:=henc.2 i hi
  have hu':LRowRel ((B.bare w).V w' [.arr .lrow ys g nn] ρ) ys[i].1 ys[i].2 u:=hu
  have h0:=hc 0 (by simp [E.size])
  rw [cells_oneCell (LRowRel.oneCell hu')]at h0
  have:cs[i]? = some u:=by simpa [E.size] using h0
  rw [geE om]at this
  rw [Option.some.inj this]
  exact hu'
 let hs:List (Option Nat):=(List.range ys.length).map fun i=>rowHd cs[i]?
 have hsl:hs.length=ys.length:=by simp [hs]
 have hsg:∀ i (hi:i < ys.length),∃ cap,hs[i]? = some (some (ys[i].1*18446744073709551616+cap))/\cap<=maxLen/\cs[i]'om=.slice (some ⟨ys[i].1,0,none⟩) ys[i].2.length cap:=by
  intro i hi
  obtain⟨cap,cur,hv,_,_,_,hc,_⟩:=key i hi
  refine⟨cap,?_,hc,hv⟩
  simp only [hs,List.getElem?_map,List.getElem?_range hi,Option.map_some]
  rw [geE om,hv]
  rfl
 refine⟨hs,hsl,?_⟩
 have hown0:∀ b,(ρ 0).ownBlock=some b->Own [.arr .lrow ys g nn] ρ b:=fun b hb=>⟨0,_,rfl,hb⟩
 have hlab:∀ i (hi:i < ys.length),w.heap.size<=ys[i].1/\(ρ 0).ownBlock≠some ys[i].1/\∃ cur,w'.heap[ys[i].1]? = some (.cells cur (B.tid .int) (0,0)):=by
  intro i hi
  obtain⟨cap,cur,hv,hf,hH,_⟩:=key i hi
  obtain⟨h1,h2⟩:=H_vis hH
  refine⟨?_,fun hb=>h1 (hown0 _ hb),cur,h2⟩
  rcases hf with(hf | hf) | hf
  ·exact hf
  ·exact hf.elim
  ·exact hf.elim
 have hmem:∀ q,some q∈hs->∃ i,∃ hi:i < ys.length,hs[i]? = some (some q)/\hdB q=ys[i].1:=by
  intro q hq
  obtain⟨i,hi⟩:=List.getElem?_of_mem hq
  have hlt:i < ys.length:=by have:=(geS.1 hi).1;omega
  obtain⟨cap,e1,e2,_⟩:=hsg i hlt
  rw [hi]at e1
  have:=Option.some.inj (Option.some.inj e1)
  exact⟨i,hlt,hi,by rw [this];exact(hd_mk _ _ e2).1⟩
 refine⟨fun id o ho=>?_,fun i j o o' b hi hj _ _=>?_,fun b ⟨id,o,ho,hf⟩=>?_,h.os0,h.tape,h.output,h.grow,h.drawn,h.kept,h.gl⟩
 ·cases id with
  | succ id=>simp at ho
  | zero=>
   simp at ho
   subst ho
   refine⟨cs,by rw [List.length_map];exact hown,by simpa using hsl,fun i q xs u q1 q2 q3=>?_,fun i j q q' q1 q2 q3=>?_,fun q hq=>?_,hnn,by simpa using hml⟩
   ·have hi:i < ys.length:=by have:=(geS.1 q1).1;omega
    obtain⟨cap,e1,e2,e3⟩:=hsg i hi
    rw [q1]at e1
    have e1:=Option.some.inj e1
    subst e1
    have ex:xs=ys[i].2:=by simp [hi]at q2;exact q2.symm
    have eu:u=cs[i]'om:=by rw [geE om]at q3;exact(Option.some.inj q3).symm
    subst ex eu
    obtain⟨hb,hc⟩:=hd_mk ys[i].1 cap e2
    obtain⟨cap',cur,hv,hf,hH,h1,h2,h3,h4⟩:=key i hi
    rw [e3]at hv
    have:cap=cap':=(Value.slice.inj hv).2.2
    subst this
    refine⟨by rw [hb,hc];exact e3,cur,by rw [hb];exact(H_vis hH).2,by rw [hc];exact h1,by rw [hc];exact h2,by rw [hc];exact h3,h4⟩
   ·have hi:i < ys.length:=by have:=(geS.1 q1).1;omega
    have hj:j < ys.length:=by have:=(geS.1 q2).1;omega
    obtain⟨cap,e1,e2,_⟩:=hsg i hi
    obtain⟨cap',f1,f2,_⟩:=hsg j hj
    rw [q1]at e1
    rw [q2]at f1
    have e1:=Option.some.inj (Option.some.inj e1)
    have f1:=Option.some.inj (Option.some.inj f1)
    rw [e1,f1,(hd_mk _ _ e2).1,(hd_mk _ _ f2).1]at q3
    exact(List.getElem_inj (xs:=ys.map (·.1)) (i:=i) (j:=j) (h₀:=by simpa using hi) (h₁:=by simpa using hj) hd).1 (by simpa using q3)
   ·obtain⟨i,hi,_,e⟩:=hmem q hq
    rw [e]
    exact(hlab i hi).2.1
 ·cases i with
  | succ i=>simp at hi
  | zero=>cases j with
   | zero=>rfl
   | succ j=>simp at hj
 ·cases id with
  | succ id=>simp at ho
  | zero=>
   simp at ho
   subst ho
   rcases hf with hb | ⟨q,hq,rfl⟩
   ·rcases h.own b (hown0 b hb)with k | k
    ·exact .inl k
    ·exact k.elim
   ·obtain⟨i,hi,_,e⟩:=hmem q hq
    rw [e]
    exact .inl (hlab i hi).1
theorem FunA.mat {B:Ctx} {f:FuncId} {args:List AV} (hp:args.all plainAV=true) {post:List (List Int)->Bool->List AV->Prop}
  (h:FunA B f args (fun rs o=>∃ ys g nn rest,post (ys.map (·.2)) nn rest/\(ys.map (·.1)).Nodup/\rest.all flatAV=true/\rs=.own 0 g :: rest/\o=[.arr .lrow ys g nn])) :
  FunA B f args (fun rs o=>∃ hs rows nn rest,post rows nn rest/\hs.length=rows.length/\rs=.own 0 0 :: rest/\o=[.mat hs rows 0 nn]):=by
 refine⟨h.1,fun w L vs hG hl ha=>?_⟩
 have hH:((B.bare w).V w [] (fun _=>undef)).H=((B.bareL w L).V w [] (fun _=>undef)).H:=by funext b;rw [H_bare,H_bare]
 refine(h.2 w (fun _=>False) vs hG hl fun i x v hx hv=>plain_rel hH (alT.1 hp _ (List.mem_of_getElem? hx)) (ha i x v hx hv)).mono ?_
 rintro en w' ⟨us,hen,rs,o,ρ',⟨ys,g,nn,rest,hpost,hnd,hflat,rfl,rfl⟩,hul,hu,hw,_,_⟩
 obtain⟨hs,hsl,hw2⟩:=rows_mat (L:=L) hnd hw
 refine⟨us,hen,.own 0 0 :: rest,[.mat hs (ys.map (·.2)) 0 nn],ρ',⟨hs,_,nn,rest,hpost,by simpa using hsl,rfl,rfl⟩,hul,fun i x v hx hv=>?_,hw2,by simp [freshAV,flat_fresh hflat],rfl⟩
 cases i with
 | zero=>
  simp at hx
  subst hx
  have h0:=hu 0 (.own 0 g) v rfl hv
  exact⟨by simp,fun c hc=>⟨nz0 _,fun _=>(h0.2 g rfl).2 rfl⟩⟩
 | succ i=>
  have hx':rest[i]? = some x:=by simpa using hx
  exact flat_rel (alT.1 hflat _ (List.mem_of_getElem? hx')) (hu (i+1) x v (by simpa using hx') hv)
theorem argOk_slT (obs:List O) (e e':E) (xs:List e.D) (ys:List e'.D):argOk obs (.sl true e' ys) (.sl true e xs)=convV e e' ys xs:=rfl
theorem argOk_lrT (obs:List O) (e:E) (xs:List e.D) (l:Nat) (ys:List Int):argOk obs (.lr l ys) (.sl true e xs)=convV e .int ys xs:=rfl
theorem argOk_nilsT (obs:List O) (e:E) (xs:List e.D):argOk obs .nils (.sl true e xs)=(xs=[]):=rfl
theorem argOk_lrr (obs:List O) (x:AV) (l:Nat) (xs:List Int):argOk obs x (.lr l xs)=(x=.lr l xs):=by cases x<;>rfl
theorem argOkM_slT (obs:List O) (i0 g:Nat) (e e':E) (xs:List e.D) (ys:List e'.D):argOkM obs i0 g (.sl true e' ys) (.sl true e xs)=convV e e' ys xs:=rfl
theorem argOkM_lrT (obs:List O) (i0 g:Nat) (e:E) (xs:List e.D) (l:Nat) (ys:List Int):argOkM obs i0 g (.lr l ys) (.sl true e xs)=convV e .int ys xs:=rfl
theorem argOkM_lrr (obs:List O) (i0 g:Nat) (x:AV) (l:Nat) (xs:List Int):argOkM obs i0 g x (.lr l xs)=(x=.lr l xs):=by cases x<;>rfl
theorem argOkM_nilsf (obs:List O) (i0 g:Nat) (f:Bool) (e:E) (xs:List e.D):argOkM obs i0 g .nils (.sl f e xs)=(xs=[]):=by cases f<;>rfl
theorem argOkM_str (obs:List O) (i0 g:Nat) (x:AV) (n:List UInt8):argOkM obs i0 g x (.str n)=(x=.str n):=by cases x<;>rfl
theorem cvV_rowT (ys zs:List (List Int)):convV (.row true) (.row true) ys zs=(zs=ys):=rfl
theorem cvV_rowTl (ys:List (Nat×List Int)) (zs:List (List Int)):convV (.row true) .lrow ys zs=(zs=ys.map (·.2)):=rfl
theorem cvV_ll (ys zs:List (Nat×List Int)):convV .lrow .lrow ys zs=(zs=ys):=rfl
theorem eqRowF (f:Bool):(E.row f=E.row false)=(f=false):=by simp
theorem AW3:type_of% @AW1/\type_of% @X_conv/\type_of% @X_six/\type_of% @G_conv/\type_of% @G_six/\type_of% @Q_and/\type_of% @Q_or/\type_of% @Q_xor/\type_of% @Q_shl/\type_of% @Q_shr/\type_of% @Q_cnv_int/\type_of% @Q_cnv_sl/\type_of% @Q_cnv_own/\type_of% @Q_cnvO/\type_of% @Q_six /\
  type_of% @argOk_slT/\type_of% @argOk_lrT/\type_of% @argOk_nilsT/\type_of% @argOk_lrr/\type_of% @argOkM_slT/\type_of% @argOkM_lrT/\type_of% @argOkM_lrr/\type_of% @argOkM_nilsf/\type_of% @argOkM_str/\type_of% @cvV_rowT/\type_of% @cvV_rowTl/\type_of% @cvV_ll/\type_of% @eqRowF:=
 ⟨AW1,X_conv,X_six,G_conv,G_six,Q_and,Q_or,Q_xor,Q_shl,Q_shr,Q_cnv_int,Q_cnv_sl,Q_cnv_own,Q_cnvO,Q_six,argOk_slT,argOk_lrT,argOk_nilsT,argOk_lrr,argOkM_slT,argOkM_lrT,argOkM_lrr,argOkM_nilsf,argOkM_str,cvV_rowT,cvV_rowTl,cvV_ll,eqRowF⟩
end Go.Aw
namespace Go.Aw
open Go
def posn (i:Nat):List Nat->Option Nat
 | []=>none
 | j :: π=>bif i == j then some 0 else(posn i π).map (· + 1)
def ownP (g:Nat) (k:Option Nat):O->AV
 | .arr _ _ g' _=>bif g == g' then(match k with | some k=>.own k 0 | none=>.junk)else .junk
 | .mat _ _ g' _=>bif g == g' then(match k with | some k=>.own k 0 | none=>.junk)else .junk
 | .gm _ _ _ g' _=>bif g == g' then(match k with | some k=>.own k 0 | none=>.junk)else .junk
 | .mp _ _ g'=>bif g == g' then(match k with | some k=>.own k 0 | none=>.junk)else .junk
 | .ap _ _ _ g' _=>bif g == g' then(match k with | some k=>.own k 0 | none=>.junk)else .junk
 | .cur _ g'=>bif g == g' then(match k with | some k=>.own k 0 | none=>.junk)else .junk
 | .bag _ g'=>bif g == g' then(match k with | some k=>.own k 0 | none=>.junk)else .junk
 | .dead=>.junk
def reA (π:List Nat) (obs:List O):AV->AV
 | .own id g=>ownP g (posn id π) (oAt obs id)
 | .elt ..=>.junk
 | .asl ..=>.junk
 | x=>x
def reO:O->O
 | .arr e xs _ nn=>.arr e xs 0 nn
 | .mat hs rows _ nn=>.mat hs rows 0 nn
 | .gm D F hs _ nn=>.gm D F hs 0 nn
 | .mp m l _=>.mp m l 0
 | .ap q ys fr _ nn=>.ap q ys fr 0 nn
 | .cur s _=>.cur s 0
 | .bag d _=>.bag d 0
 | .dead=>.dead
def reOs (obs:List O):List Nat->List O
 | []=>[]
 | i :: π=>reO (oAt obs i) :: reOs obs π
def reC (π:List Nat) (obs:List O) (s:Nat):Option (Bool×Sl)->List (Nat×Bool×AV)->List (Nat×Bool×AV)
 | some (ex,.v x),l=>(s,ex,reA π obs x) :: l
 | _,l=>l
def reF (π:List Nat) (obs:List O) (fr:List (Nat×Bool×Sl)):List Nat->List (Nat×Bool×AV)
 | []=>[]
 | s :: ks=>reC π obs s (look s fr) (reF π obs fr ks)
theorem posn_spec {i:Nat}:∀ {π:List Nat} {k:Nat},posn i π=some k->k < π.length/\π[k]? = some i
 | [],k,h=>by simp [posn]at h
 | j :: π,k,h=>by
  simp only [posn]at h
  cases hb:i == j with
  | true=>
   rw [hb]at h
   simp at h hb
   subst h hb
   simp
  | false=>
   rw [hb]at h
   simp at h
   obtain⟨k',h1,rfl⟩:=h
   obtain⟨h2,h3⟩:=posn_spec h1
   exact⟨by simp;omega,by simpa using h3⟩
theorem reOs_at (obs:List O):∀ {π:List Nat} {k i:Nat},π[k]? = some i->(reOs obs π)[k]? = some (reO (oAt obs i))
 | [],k,i,h=>by simp at h
 | j :: π,0,i,h=>by simp at h;subst h;rfl
 | j :: π,k+1,i,h=>by simpa [reOs] using reOs_at obs (π:=π) (k:=k) (by simpa using h)
theorem leO_re (o:O):leO o (reO o):=by cases o<;>simp [reO,leO]
theorem reOs_le {obs:List O}:∀ {π:List Nat},π.all (fun i=>decide (i < obs.length))=true->leOs obs π (reOs obs π)
 | [],_=>trivial
 | i :: π,h=>by
  simp only [List.all_cons,bAnd,dtE]at h
  exact⟨h.1,leO_re _,reOs_le h.2⟩
theorem reA_le {π:List Nat} {obs:List O} (x:AV):leAV π obs (reOs obs π) x (reA π obs x):=by
 cases x with
 | own id g=>
  simp only [reA]
  have key:∀(o:O),oAt obs id=o->(∀ g',genO o g'->genO (reO o) 0)->leAV π obs (reOs obs π) (.own id g) (ownP g (posn id π) o):=by
   intro o ho hg
   have sub:∀ g',(∀ q,q=g'->genO o q)->leAV π obs (reOs obs π) (.own id g) (bif g == g' then(match posn id π with | some k=>AV.own k 0 | none=>AV.junk)else AV.junk):=by
    intro g' hq
    cases hb:g == g' with
    | false=>trivial
    | true=>
     simp at hb
     subst hb
     cases hp:posn id π with
     | none=>trivial
     | some k=>
      obtain⟨h1,h2⟩:=posn_spec hp
      refine⟨h1,h2,by rw [ho];exact hq g rfl,?_⟩
      have h3:=reOs_at obs h2
      have h4:oAt (reOs obs π) k=reO (oAt obs id):=by rw [oAt_eq,h3];rfl
      rw [h4,ho]
      exact hg g (hq g rfl)
   cases o with
   | dead=>trivial
   | arr e xs g' nn=>exact sub g' (fun q hq=>hq)
   | mat hs rows g' nn=>exact sub g' (fun q hq=>hq)
   | gm D F hs g' nn=>exact sub g' (fun q hq=>hq)
   | mp m l g'=>exact sub g' (fun q hq=>hq)
   | ap _ _ _ g' _=>exact sub g' (fun q hq=>hq)
   | cur _ g'=>exact sub g' (fun q hq=>hq)
   | bag _ g'=>exact sub g' (fun q hq=>hq)
  refine key _ rfl fun g' h=>?_
  cases ho:oAt obs id with
  | dead=>rw [ho]at h;exact h.elim
  | arr e xs g' nn=>exact rfl
  | mat hs rows g' nn=>exact rfl
  | gm D F hs g' nn=>exact rfl
  | mp m l g'=>exact rfl
  | ap _ _ _ g' _=>exact rfl
  | cur _ g'=>exact rfl
  | bag _ g'=>exact rfl
 | elt id g s k=>trivial
 | asl id g=>trivial
 | junk=>trivial
 | lr l xs=>rfl
 | nils=>rfl
 | sl f e xs=>rfl
 | _=>rfl
theorem reF_le {π:List Nat} {obs:List O} {fr:List (Nat×Bool×Sl)}:∀ ks:List Nat,leFr π obs (reOs obs π) fr (reF π obs fr ks)
 | []=>trivial
 | s :: ks=>by
  simp only [reF]
  cases h:look s fr with
  | none=>exact reF_le ks
  | some p=>
   obtain⟨ex,x⟩:=p
   cases x with
   | t l=>exact reF_le ks
   | v x=>exact⟨⟨x,h,reA_le x⟩,reF_le ks⟩
theorem Run.reK {C:Ctx} {k:List Item} (hp:C.pin=[]) (ks π:List Nat) {n:Nat} {fr:List (Nat×Bool×Sl)} {obs:List O} (hn:nodupB π=true) (hl:π.all (fun i=>decide (i < obs.length))=true)
  (h:Run C k ⟨n,frV (reF π obs fr ks),reOs obs π⟩):Run C k ⟨n,fr,obs⟩:=
 Run.le (Le.re hp π _ hn (reOs_le hl) (reF_le ks)) h
def gen0:O->Bool
 | .arr _ _ g _=>g == 0
 | .mat _ _ g _=>g == 0
 | .gm _ _ _ g _=>g == 0
 | .mp _ _ g=>g == 0
 | .ap _ _ _ g _=>g == 0
 | .cur _ g=>g == 0
 | .bag _ g=>g == 0
 | .dead=>true
theorem Run.reKP {C:Ctx} {k:List Item} (hp:C.pin.length=1) (ks π:List Nat) {n:Nat} {fr:List (Nat×Bool×Sl)} {obs:List O} (h0:π[0]? = some 0) (hg:gen0 (oAt obs 0)=true) (hn:nodupB π=true) (hl:π.all (fun i=>decide (i < obs.length))=true)
  (h:Run C k ⟨n,frV (reF π obs fr ks),reOs obs π⟩):Run C k ⟨n,fr,obs⟩:=by
 refine Run.le (Le.reP π _ (fun j hj=>?_) hn (reOs_le hl) (reF_le ks)) h
 have:j=0:=by omega
 subst this
 refine⟨h0,?_⟩
 have h1:=reOs_at obs h0
 have h2:0 < obs.length:=by
  cases π with
  | nil=>simp at h0
  | cons i π=>
   simp at h0
   subst h0
   simp only [List.all_cons,bAnd,dtE]at hl
   exact hl.1
 unfold genOf
 rw [h1,oAt_get h2]
 cases ho:oAt obs 0 with
 | dead=>rfl
 | arr e xs g nn=>rw [ho]at hg;simp [gen0]at hg;subst hg;rfl
 | mat hs rows g nn=>rw [ho]at hg;simp [gen0]at hg;subst hg;rfl
 | gm D F hs g nn=>rw [ho]at hg;simp [gen0]at hg;subst hg;rfl
 | mp m l g=>rw [ho]at hg;simp [gen0]at hg;subst hg;rfl
 | ap _ _ _ g _=>rw [ho]at hg;simp [gen0]at hg;subst hg;rfl
 | cur _ g=>rw [ho]at hg;simp [gen0]at hg;subst hg;rfl
 | bag _ g=>rw [ho]at hg;simp [gen0]at hg;subst hg;rfl
theorem ownP_bag (g g':Nat) (k:Nat) (d:BagD):ownP g (some k) (.bag d g')=bif g == g' then .own k 0 else .junk:=by rfl
theorem reO_bag (d:BagD) (g:Nat):reO (.bag d g)=.bag d 0:=rfl
theorem reA_asl (π:List Nat) (obs:List O) (id g:Nat):reA π obs (.asl id g)=.junk:=rfl
theorem reA_clo3 (π:List Nat) (obs:List O) (f a b c:Nat):reA π obs (.clo3 f a b c)=.clo3 f a b c:=rfl
theorem reA_mv (π:List Nat) (obs:List O) (b:Nat):reA π obs (.mv b)=.mv b:=rfl
theorem reA_prv (π:List Nat) (obs:List O) (d:E.pr.D):reA π obs (.prv d)=.prv d:=rfl
theorem ownP_cur (g g':Nat) (k:Nat) (s:Value):ownP g (some k) (.cur s g')=bif g == g' then .own k 0 else .junk:=by rfl
theorem reO_cur (s:Value) (g:Nat):reO (.cur s g)=.cur s 0:=rfl
theorem ownP_ap (g g':Nat) (k:Nat) (q:Nat) (ys:List (Nat×List Int)) (fr nn:Bool):ownP g (some k) (.ap q ys fr g' nn)=bif g == g' then .own k 0 else .junk:=by rfl
theorem reO_ap (q:Nat) (ys:List (Nat×List Int)) (fr:Bool) (g:Nat) (nn:Bool):reO (.ap q ys fr g nn)=.ap q ys fr 0 nn:=rfl
theorem posn_nil (i:Nat):posn i []=none:=rfl
theorem posn_cons (i j:Nat) (π:List Nat):posn i (j :: π)=bif i == j then some 0 else(posn i π).map (· + 1):=rfl
theorem ownP_arr (g g':Nat) (k:Nat) (e:E) (xs:List e.D) (nn:Bool):ownP g (some k) (.arr e xs g' nn)=bif g == g' then .own k 0 else .junk:=by rfl
theorem ownP_arr0 (g g':Nat) (e:E) (xs:List e.D) (nn:Bool):ownP g none (.arr e xs g' nn)=.junk:=by unfold ownP;simp only;cases g == g'<;>rfl
theorem ownP_mat (g g':Nat) (k:Nat) (hs:List (Option Nat)) (xs:List (List Int)) (nn:Bool):ownP g (some k) (.mat hs xs g' nn)=bif g == g' then .own k 0 else .junk:=by rfl
theorem ownP_gm (g g':Nat) (k:Nat) (D:List Nat) (F:Nat->List Int) (hs:List Nat) (nn:Bool):ownP g (some k) (.gm D F hs g' nn)=bif g == g' then .own k 0 else .junk:=by rfl
theorem ownP_mp (g g':Nat) (k:Nat) (m:MT) (l:List (MK×MV)):ownP g (some k) (.mp m l g')=bif g == g' then .own k 0 else .junk:=by rfl
theorem ownP_mat0 (g g':Nat) (hs:List (Option Nat)) (xs:List (List Int)) (nn:Bool):ownP g none (.mat hs xs g' nn)=.junk:=by unfold ownP;simp only;cases g == g'<;>rfl
theorem ownP_dead (g:Nat) (k:Option Nat):ownP g k .dead=.junk:=rfl
theorem reA_own (π:List Nat) (obs:List O) (id g:Nat):reA π obs (.own id g)=ownP g (posn id π) (oAt obs id):=rfl
theorem reA_elt (π:List Nat) (obs:List O) (id g s k:Nat):reA π obs (.elt id g s k)=.junk:=rfl
theorem reA_int (π:List Nat) (obs:List O) (k:IntKind) (n:Int):reA π obs (.int k n)=.int k n:=rfl
theorem reA_bool (π:List Nat) (obs:List O) (b:Bool):reA π obs (.bool b)=.bool b:=rfl
theorem reA_str (π:List Nat) (obs:List O) (b:List UInt8):reA π obs (.str b)=.str b:=rfl
theorem reA_sl (π:List Nat) (obs:List O) (f:Bool) (e:E) (xs:List e.D):reA π obs (.sl f e xs)=.sl f e xs:=rfl
theorem reA_lr (π:List Nat) (obs:List O) (l:Nat) (xs:List Int):reA π obs (.lr l xs)=.lr l xs:=rfl
theorem reA_vec (π:List Nat) (obs:List O) (xs:List Int):reA π obs (.vec xs)=.vec xs:=rfl
theorem reA_nils (π:List Nat) (obs:List O):reA π obs .nils=.nils:=rfl
theorem reA_junk (π:List Nat) (obs:List O):reA π obs .junk=.junk:=rfl
theorem reA_relt (π:List Nat) (obs:List O) (f:Bool) (e:E) (d:e.D):reA π obs (.relt f e d)=.relt f e d:=rfl
theorem reA_fn (π:List Nat) (obs:List O) (f:Nat):reA π obs (.fn f)=.fn f:=rfl
theorem reA_hdr (π:List Nat) (obs:List O) (h:Option Nat) (n:Nat):reA π obs (.hdr h n)=.hdr h n:=rfl
theorem reO_arr (e:E) (xs:List e.D) (g:Nat) (nn:Bool):reO (.arr e xs g nn)=.arr e xs 0 nn:=rfl
theorem reO_mat (hs:List (Option Nat)) (rows:List (List Int)) (g:Nat) (nn:Bool):reO (.mat hs rows g nn)=.mat hs rows 0 nn:=rfl
theorem reO_gm (D:List Nat) (F:Nat->List Int) (hs:List Nat) (g:Nat) (nn:Bool):reO (.gm D F hs g nn)=.gm D F hs 0 nn:=rfl
theorem reO_mp (m:MT) (l:List (MK×MV)) (g:Nat):reO (.mp m l g)=.mp m l 0:=rfl
theorem reA_hp (π:List Nat) (obs:List O) (h n:Nat):reA π obs (.hp h n)=.hp h n:=rfl
theorem reA_lenv (π:List Nat) (obs:List O) (n:Nat):reA π obs (.lenv n)=.lenv n:=rfl
theorem reO_dead:reO .dead=.dead:=rfl
theorem reOs_nil (obs:List O):reOs obs []=[]:=rfl
theorem reOs_cons (obs:List O) (i:Nat) (π:List Nat):reOs obs (i :: π)=reO (oAt obs i) :: reOs obs π:=rfl
theorem reC_some (π:List Nat) (obs:List O) (s:Nat) (ex:Bool) (x:AV) (l:List (Nat×Bool×AV)):reC π obs s (some (ex,.v x)) l=(s,ex,reA π obs x) :: l:=rfl
theorem reC_t (π:List Nat) (obs:List O) (s:Nat) (ex:Bool) (x:List AV) (l:List (Nat×Bool×AV)):reC π obs s (some (ex,.t x)) l=l:=rfl
theorem reC_none (π:List Nat) (obs:List O) (s:Nat) (l:List (Nat×Bool×AV)):reC π obs s none l=l:=rfl
theorem reF_nil (π:List Nat) (obs:List O) (fr:List (Nat×Bool×Sl)):reF π obs fr []=[]:=rfl
theorem reF_cons (π:List Nat) (obs:List O) (fr:List (Nat×Bool×Sl)) (s:Nat) (ks:List Nat):reF π obs fr (s :: ks)=reC π obs s (look s fr) (reF π obs fr ks):=rfl
theorem omapS (k:Nat):(some k).map (· + 1)=some (k+1):=rfl
theorem omapN:(none:Option Nat).map (· + 1)=none:=rfl
theorem AR:type_of% @reA_asl/\type_of% @ownP_bag/\type_of% @reO_bag/\type_of% @reA_clo3/\type_of% @reA_mv/\type_of% @reA_prv/\type_of% @ownP_cur/\type_of% @reO_cur/\type_of% @ownP_ap/\type_of% @reO_ap/\type_of% @posn_nil/\type_of% @posn_cons/\type_of% @ownP_arr/\type_of% @ownP_arr0/\type_of% @ownP_mat/\type_of% @ownP_mat0/\type_of% @ownP_dead/\type_of% @reA_own/\type_of% @reA_elt/\type_of% @reA_int/\type_of% @reA_bool/\type_of% @reA_str/\type_of% @reA_sl/\type_of% @reA_lr/\type_of% @reA_vec/\type_of% @reA_nils /\
  type_of% @reA_junk/\type_of% @reA_relt/\type_of% @reA_fn/\type_of% @reA_hdr/\type_of% @reA_hp/\type_of% @reA_lenv/\type_of% @ownP_gm/\type_of% @reO_gm/\type_of% @ownP_mp/\type_of% @reO_mp/\type_of% @reO_arr/\type_of% @reO_mat/\type_of% @reO_dead/\type_of% @reOs_nil/\type_of% @reOs_cons/\type_of% @reC_some/\type_of% @reC_t/\type_of% @reC_none/\type_of% @reF_nil/\type_of% @reF_cons/\type_of% @omapS/\type_of% @omapN/\type_of% @frV_cons/\type_of% @frV_nil:=
 ⟨reA_asl,ownP_bag,reO_bag,reA_clo3,reA_mv,reA_prv,ownP_cur,reO_cur,ownP_ap,reO_ap,posn_nil,posn_cons,ownP_arr,ownP_arr0,ownP_mat,ownP_mat0,ownP_dead,reA_own,reA_elt,reA_int,reA_bool,reA_str,reA_sl,reA_lr,reA_vec,reA_nils,reA_junk,reA_relt,reA_fn,reA_hdr,reA_hp,reA_lenv,ownP_gm,reO_gm,ownP_mp,reO_mp,reO_arr,reO_mat,reO_dead,reOs_nil,reOs_cons,reC_some,reC_t,reC_none,reF_nil,reF_cons,omapS,omapN,frV_cons,frV_nil⟩
end Go.Aw
namespace Go.Aw
open Go
theorem Run.nq {C:Ctx} {σ:St} {k k':List Item} (h:Run C k' σ) (hk:Run C k' σ->Run C k σ:=by
  intro h
  (repeat(first | refine Run.seq ?_ | refine Run.skip ?_ | refine Run.label ?_ | refine Run.block ?_ | refine Run.unblock ?_))
  exact h):Run C k σ:=hk h
theorem vc0 {p:Prop} (hp:p:=by first | assumption | omega | (intros;simp_all;done) | (intro h;simp only [VB]at h;omega) | (intros;simp_all;omega)):p:=hp
theorem AW4:type_of% @AW3/\type_of% @Int.toNat_natCast/\(∀(α:Type) [BEq α] [ReflBEq α] (a:α),(a == a)=true):=⟨@AW3,@Int.toNat_natCast,fun _ _ _ a=>beq_self_eq_true a⟩
def lrA (id g:Nat) (z:AV):AV->AV
 | .own i g'=>bif (i == id && g' == g)then z else .own i g'
 | x=>x
def lrC (id g:Nat) (z:AV) (s:Nat):Option (Bool×Sl)->List (Nat×Bool×AV)->List (Nat×Bool×AV)
 | some (ex,.v x),l=>(s,ex,lrA id g z x) :: l
 | _,l=>l
def lrF (id g:Nat) (z:AV) (fr:List (Nat×Bool×Sl)):List Nat->List (Nat×Bool×AV)
 | []=>[]
 | s :: ks=>lrC id g z s (look s fr) (lrF id g z fr ks)
theorem lrF_sl (id g:Nat) (z:AV) (obs:List O) (fr:List (Nat×Bool×Sl)):∀ ks,slF id g z obs fr (lrF id g z fr ks)
 | []=>trivial
 | s :: ks=>by
  have ih:=lrF_sl id g z obs fr ks
  simp only [lrF]
  cases h:look s fr with
  | none=>exact ih
  | some p=>
   obtain⟨ex,x⟩:=p
   cases x with
   | t l=>exact ih
   | v x=>
    simp only [lrC]
    refine⟨?_,ih⟩
    cases x with
    | own i g'=>
     by_cases hc:(i == id && g' == g)=true
     ·have h2:i=id/\g'=g:=by simpa using hc
      obtain⟨rfl,rfl⟩:=h2
      exact .inr ⟨h,by simp [lrA]⟩
     ·have h2:(i == id && g' == g)=false:=by simpa using hc
      exact .inl (by rw [h];simp [lrA,h2])
    | _=>exact .inl h
theorem Run.tolr {C:Ctx} {k:List Item} (id:Nat) (ks:List Nat) {n:Nat} {fr:List (Nat×Bool×Sl)} {obs:List O} {g:Nat} {xs:List Int} (ho:oAt obs id=.arr .int xs g true)
  (h:∀ q,FreshL obs q->Run C k ⟨n,frV (lrF id g (.lr q xs) fr ks),oSet obs id .dead⟩):Run C k ⟨n,fr,obs⟩:=by
 intro a w ρ r
 have hid:id < obs.length:=by
  rcases Nat.lt_or_ge id obs.length with h | h
  ·exact h
  ·rw [oAt_eq,geN h]at ho;cases ho
 have ho':obs[id]? = some (.arr .int xs g true):=by rw [oAt_get hid,ho]
 obtain⟨hst,_,hlr⟩:=letgo_rel r.w ho'
 obtain⟨q,hq,hL⟩:=hlr rfl
 have hfresh:FreshL obs q:=by
  intro o hm ys gg nn he p hp hpq
  obtain⟨j,hj⟩:=List.getElem?_of_mem hm
  obtain⟨cs,henc⟩:=lab_enc (r.w.os j _ hj) he
  obtain⟨i,hi,rfl⟩:=List.getElem_of_mem hp
  obtain⟨u,hu,_⟩:=henc.2 i hi
  have hu':LRowRel (C.V w obs ρ) ys[i].1 ys[i].2 u:=hu
  obtain⟨cap,cur,hv,hf,hH,_⟩:=hu'
  have:=(H_vis hH).1
  apply this
  rw [hpq]
  exact⟨id,_,ho',hq⟩
 have hs:=hst.rel r
 refine h q hfresh a w (fun i=>if i=id then ρ id else ρ i) ⟨r.defers,r.size,fun s ex x hl=>?_,by rw [oSet_eq];exact hst.wr,by rw [oSet_eq];exact hs.pin⟩
 rw [oSet_eq]
 obtain⟨z,rfl,h1 | ⟨h1,h2⟩⟩:=slF_look (lrF_sl id g (.lr q xs) obs fr ks) hl
 ·obtain⟨k1,k2⟩:=r.fr s ex _ h1
  exact⟨fun he=>hst.slot (k1 he),k2⟩
 ·obtain⟨k1,k2⟩:=r.fr s ex _ h1
  refine⟨fun he=>?_,k2⟩
  subst h2
  obtain⟨_,hk⟩:=(show AVRel (C.V w obs ρ) obs ρ (.own id g) _ from k1 he)
  have:a.tmps.getD s undef=ρ id:=(hk g (by unfold genOf;rw [ho'];rfl)).2 rfl
  show LRowRel _ _ _ _
  rw [this]
  exact hL
theorem Run.letgoK {C:Ctx} {k:List Item} (id:Nat) (ks:List Nat) {n:Nat} {fr:List (Nat×Bool×Sl)} {obs:List O} {g:Nat} {e:E} {xs:List e.D} {nn:Bool} (ho:oAt obs id=.arr e xs g nn)
  (h:Run C k ⟨n,frV (lrF id g (.sl true e xs) fr ks),oSet obs id .dead⟩):Run C k ⟨n,fr,obs⟩:=
 Run.le (Le.letgo id _ ho (lrF_sl id g _ obs fr ks)) h
theorem lrA_own (id g:Nat) (z:AV) (i g':Nat):lrA id g z (.own i g')=bif (i == id && g' == g)then z else .own i g':=rfl
theorem lrA_int (id g:Nat) (z:AV) (k:IntKind) (n:Int):lrA id g z (.int k n)=.int k n:=rfl
theorem lrA_bool (id g:Nat) (z:AV) (b:Bool):lrA id g z (.bool b)=.bool b:=rfl
theorem lrA_str (id g:Nat) (z:AV) (b:List UInt8):lrA id g z (.str b)=.str b:=rfl
theorem lrA_sl (id g:Nat) (z:AV) (f:Bool) (e:E) (ys:List e.D):lrA id g z (.sl f e ys)=.sl f e ys:=rfl
theorem lrA_lr (id g:Nat) (z:AV) (l:Nat) (ys:List Int):lrA id g z (.lr l ys)=.lr l ys:=rfl
theorem lrA_nils (id g:Nat) (z:AV):lrA id g z .nils=.nils:=rfl
theorem lrA_junk (id g:Nat) (z:AV):lrA id g z .junk=.junk:=rfl
theorem lrA_fn (id g:Nat) (z:AV) (f:Nat):lrA id g z (.fn f)=.fn f:=rfl
theorem lrC_some (id g:Nat) (z:AV) (s:Nat) (ex:Bool) (x:AV) (l:List (Nat×Bool×AV)):lrC id g z s (some (ex,.v x)) l=(s,ex,lrA id g z x) :: l:=rfl
theorem lrC_t (id g:Nat) (z:AV) (s:Nat) (ex:Bool) (x:List AV) (l:List (Nat×Bool×AV)):lrC id g z s (some (ex,.t x)) l=l:=rfl
theorem lrC_none (id g:Nat) (z:AV) (s:Nat) (l:List (Nat×Bool×AV)):lrC id g z s none l=l:=rfl
theorem lrF_nil (id g:Nat) (z:AV) (fr:List (Nat×Bool×Sl)):lrF id g z fr []=[]:=rfl
theorem lrF_cons (id g:Nat) (z:AV) (fr:List (Nat×Bool×Sl)) (s:Nat) (ks:List Nat):lrF id g z fr (s :: ks)=lrC id g z s (look s fr) (lrF id g z fr ks):=rfl
theorem AL:type_of% @lrA_own/\type_of% @lrA_int/\type_of% @lrA_bool/\type_of% @lrA_str/\type_of% @lrA_sl/\type_of% @lrA_lr/\type_of% @lrA_nils/\type_of% @lrA_junk/\type_of% @lrA_fn/\type_of% @lrC_some/\type_of% @lrC_t/\type_of% @lrC_none/\type_of% @lrF_nil/\type_of% @lrF_cons:=
 ⟨@lrA_own,@lrA_int,@lrA_bool,@lrA_str,@lrA_sl,@lrA_lr,@lrA_nils,@lrA_junk,@lrA_fn,@lrC_some,@lrC_t,@lrC_none,@lrF_nil,@lrF_cons⟩
end Go.Aw
namespace Go.Aw
open Go
theorem regO_gm (g g':Nat) (D:List Nat) (F:Nat->List Int) (hs:List Nat) (nn:Bool):regO g (.gm D F hs g' nn)=.gm D F hs (g+g') nn:=rfl
theorem AW5:type_of% @AW4/\type_of% @Q_lenG/\type_of% @Q_idxG/\type_of% @Q_loadG/\type_of% @Q_storeG/\type_of% @Q_stH/\type_of% @Q_st_hdr/\type_of% @Q_len_hdr/\type_of% @Q_idx_hdr/\type_of% @Q_load_hp/\type_of% @Q_store_hp/\type_of% @Q_len_lenv/\type_of% @regO_gm/\type_of% @X_callT/\type_of% @leO_gm:=
 ⟨@AW4,@Q_lenG,@Q_idxG,@Q_loadG,@Q_storeG,@Q_stH,@Q_st_hdr,@Q_len_hdr,@Q_idx_hdr,@Q_load_hp,@Q_store_hp,@Q_len_lenv,@regO_gm,@X_callT,@leO_gm⟩
theorem regO_mp (g g':Nat) (m:MT) (l:List (MK×MV)):regO g (.mp m l g')=.mp m l (g+g'):=rfl
theorem Q_mlkB (gg g':Nat) (k:MK) (l:List (MK×MV)) (obs:List O):mlkO ⟨false,false⟩ gg k obs (.mp ⟨false,false⟩ l g')=bif gg == g' then .ok True (.bool (mgetB l k)) obs else .bad:=by
 cases h:gg == g'<;>simp [mlkO,h]
theorem Q_mlkI (gg g':Nat) (k:MK) (l:List (MK×MV)) (obs:List O):mlkO ⟨false,true⟩ gg k obs (.mp ⟨false,true⟩ l g')=bif gg == g' then .ok True (.int .i64 (mgetI l k)) obs else .bad:=by
 cases h:gg == g'<;>simp [mlkO,h]
theorem Q_mupO (b:Bool) (id gg g':Nat) (k:MK) (v:MV) (l:List (MK×MV)) (obs:List O):mupO ⟨false,b⟩ id gg k v obs (.mp ⟨false,b⟩ l g')=bif gg == g' then .skip True (oSet obs id (.mp ⟨false,b⟩ (mput l k v) gg))else .bad:=by
 cases h:gg == g'<;>simp [mupO,h]
theorem Q_mmake (m:MT) (obs:List O):mmakeV (some m) obs=.ok True (.own obs.length 0) (obs ++ [.mp m [] 0]):=rfl
theorem AW6:type_of% @AW5/\type_of% @regO_mp/\type_of% @Q_mlkB/\type_of% @Q_mlkI/\type_of% @Q_mupO/\type_of% @Q_mmake/\type_of% @X_lookup/\type_of% @X_mupd/\type_of% @X_insert/\type_of% @X_mmake/\type_of% @G_lookup/\type_of% @mlookV_own/\type_of% @mupdV_bool/\type_of% @mupdV_int/\type_of% @leO_mp:=
 ⟨@AW5,@regO_mp,@Q_mlkB,@Q_mlkI,@Q_mupO,@Q_mmake,@X_lookup,@X_mupd,@X_insert,@X_mmake,@G_lookup,@mlookV_own,@mupdV_bool,@mupdV_int,@leO_mp⟩
theorem mfindI_shift (k:MK):∀(l:List (MK×MV)) (i j:Nat),(mfindI l k (i+j))=(mfindI l k i).map fun q=>(q.1+j,q.2)
 | [],i,j=>rfl
 | p :: l,i,j=>by
  simp only [mfindI]
  by_cases h:k=p.1
  ·rw [if_pos h,if_pos h];rfl
  ·rw [if_neg h,if_neg h,show i+j+1=(i+1)+j by omega,mfindI_shift k l (i+1) j]
theorem mfind_cons (p:MK×MV) (l:List (MK×MV)) (k:MK):mfind (p :: l) k=if k=p.1 then some p.2 else mfind l k:=by
 unfold mfind
 simp only [mfindI]
 by_cases h:k=p.1
 ·rw [if_pos h,if_pos h];rfl
 ·rw [if_neg h,if_neg h,mfindI_shift k l 0 1,Option.map_map];rfl
theorem mput_cons (p:MK×MV) (l:List (MK×MV)) (k:MK) (v:MV):mput (p :: l) k v=if k=p.1 then(k,v) :: l else p :: mput l k v:=by
 unfold mput
 simp only [mfindI]
 by_cases h:k=p.1
 ·rw [if_pos h,if_pos h];rfl
 ·rw [if_neg h,if_neg h,mfindI_shift k l 0 1]
  cases mfindI l k 0 with
  | none=>rfl
  | some q=>rfl
theorem mfind_put (k k':MK) (v:MV):∀ l:List (MK×MV),mfind (mput l k v) k'=if k'=k then some v else mfind l k'
 | []=>by
  show mfind [(k,v)] k'=_
  rw [mfind_cons]
 | p :: l=>by
  rw [mput_cons]
  by_cases h:k=p.1
  ·rw [if_pos h,mfind_cons,mfind_cons]
   by_cases h2:k'=k
   ·rw [if_pos h2,if_pos h2]
   ·rw [if_neg h2,if_neg h2,if_neg (fun e=>h2 (e.trans h.symm))]
  ·rw [if_neg h,mfind_cons,mfind_put k k' v l,mfind_cons]
   by_cases h2:k'=p.1
   ·rw [if_pos h2,if_pos h2,if_neg (fun e=>h (e.symm.trans h2))]
   ·rw [if_neg h2,if_neg h2]
theorem mgetB_put (l:List (MK×MV)) (k k':MK) (b:Bool):mgetB (mput l k (.bool b)) k'=if k'=k then b else mgetB l k':=by
 unfold mgetB
 rw [mfind_put]
 by_cases h:k'=k
 ·rw [if_pos h,if_pos h]
 ·rw [if_neg h,if_neg h]
end Go.Aw
namespace Go.Aw
open Go
section
variable {C:Ctx} {ds:Rg} {rest:List Oper} {n:Nat} {fr:List (Nat×Bool×Sl)} {obs:List O} {K:St->Prop} {ty:TypeId} {p:String} {af:Array Edge}
theorem X_slice3 (dd:Option Nat) (t:TypeId) (x:Operand) (lo hi:Option Operand) (m:Operand):aexec C ds (⟨dd,.slice t x lo hi (some m),ty,p,af,none⟩ :: rest) ⟨n,fr,obs⟩ K =
  aS C ds rest n fr K (St.has ⟨n,fr,obs⟩ x/\hasO ⟨n,fr,obs⟩ lo/\hasO ⟨n,fr,obs⟩ hi/\St.has ⟨n,fr,obs⟩ m) (slice3V (C.Γ t) (St.ev ⟨n,fr,obs⟩ x) (lo.map (St.ev ⟨n,fr,obs⟩)) (hi.map (St.ev ⟨n,fr,obs⟩)) (St.ev ⟨n,fr,obs⟩ m) obs) dd:=
 plain_eq C ds rest n fr obs K ty p af rfl (by simp only [hasAll,hasO_eq]) rfl dd
end
def sl3O (g:Nat) (n m:Int) (obs:List O):O->Res
 | .ap q ys true g' _=>bif g == g' then .ok (n=ys.length/\m=ys.length) (.hdr (some q) ys.length) obs else .bad
 | _=>.bad
theorem slice3V_own (e:E) (id g:Nat) (k k':IntKind) (n m:Int) (obs:List O):slice3V (some e) (.own id g) none (some (.int k n)) (.int k' m) obs=sl3O g n m obs (oAt obs id):=by
 rw [at_arr];simp only [slice3V]
 cases h:obs[id]? with
 | none=>rfl
 | some o=>cases o with
  | ap q ys fr g' nn=>cases fr<;>first | rfl | (by_cases hg:g=g'<;>simp [sl3O,hg,Bool.cond_eq_ite])
  | _=>rfl
theorem Q_sl3 (gg g':Nat) (n m:Int) (obs:List O) (q:Nat) (ys:List (Nat×List Int)) (nn:Bool):sl3O gg n m obs (.ap q ys true g' nn)=bif gg == g' then .ok (n=ys.length/\m=ys.length) (.hdr (some q) ys.length) obs else .bad:=rfl
theorem Q_lenA (q:Nat) (ys:List (Nat×List Int)) (fr:Bool) (gg g':Nat) (nn:Bool) (obs:List O):lenO gg obs (.ap q ys fr g' nn)=bif gg == g' then .ok True (.int .i64 ys.length) obs else .bad:=rfl
theorem Q_apOA (e:E) (id gg g':Nat) (x:AV) (obs:List O) (q:Nat) (ys:List (Nat×List Int)) (fr nn:Bool):apO e id gg x obs (.ap q ys fr g' nn)=bif gg == g' && decide (E.lrow.fam=e.fam)then apA id gg nn q e ys obs (srcQ .lrow x obs (some id))else .bad:=rfl
theorem Q_apA (e:E) (id gg:Nat) (obs:List O) (q:Nat) (ys zs:List (Nat×List Int)) (nn:Bool):apA id gg nn q e ys obs (.yes zs)=.ok ((ys.length+zs.length)*e.bytes<=140737488355328) (.own id (gg+1)) (oSet obs id (.ap q (ys ++ zs) false (gg+1) (nn || !zs.isEmpty))):=rfl
theorem Q_load_hpA (h k q:Nat) (ys:List (Nat×List Int)) (fr:Bool) (gg:Nat) (nn:Bool) (r:List O):loadV true (.hp h k) (.ap q ys fr gg nn :: r)=.ok (h=q/\k < hdC q) (.lr (ys.getD k (0,[])).1 (ys.getD k (0,[])).2) (.ap q ys fr gg nn :: r):=rfl
theorem Q_store_hpM (h k:Nat) (n:Int) (hs:List (Option Nat)) (rows:List (List Int)) (gg:Nat) (nn:Bool) (r:List O):storeV true (.hp h k) (.int .i64 n) (.mat hs rows gg nn :: r)=.skip (some h∈hs/\k < (rows.getD (hs.idxOf (some h)) []).length) (.mat hs (setM hs rows h k n) gg nn :: r):=rfl
theorem Q_store_hpC (h k:Nat) (n:Int) (s:Value) (g1:Nat) (hs:List (Option Nat)) (rows:List (List Int)) (gg:Nat) (nn:Bool) (r:List O):storeV true (.hp h k) (.int .i64 n) (.cur s g1 :: .mat hs rows gg nn :: r)=.skip (some h∈hs/\k < (rows.getD (hs.idxOf (some h)) []).length) (.cur s g1 :: .mat hs (setM hs rows h k n) gg nn :: r):=rfl
def zapO (id g:Nat) (m:Int) (obs:List O):O->Res
 | .arr .int xs g' _=>bif g == g' then .ok (0 < m/\m<=1000000/\0 < xs.length/\xs.length<=1000000) (.own id (g+1)) (oSet obs id (.arr .int (xs ++ List.replicate m.toNat 0) (g+1) true))else .bad
 | _=>.bad
theorem X_appz {C:Ctx} {ds:Rg} {rest:List Oper} {n:Nat} {fr:List (Nat×Bool×Sl)} {obs:List O} {K:St->Prop} {ty:TypeId} {p:String} {af:Array Edge} (dd:Option Nat) (x y:Operand) (t t2:TypeId) (h:(t == t2)=false):aexec C ds (⟨dd,.call ⟨.builtin .append,List.toArray [x,y],List.toArray [t,t2]⟩,ty,p,af,none⟩ :: rest) ⟨n,fr,obs⟩ K =
  aS C ds rest n fr K (hasL ⟨n,fr,obs⟩ [x,y]) (zapV (C.Γ t) (C.bt t2) (St.ev ⟨n,fr,obs⟩ x) (St.ev ⟨n,fr,obs⟩ y) obs) dd:=plain_eq C ds rest n fr obs K ty p af rfl (by simp only [hasAll,hasL_eq]) (by have h':t≠t2:=by { simpa using h };simp [astep,h']) dd
theorem Q_zap (id g:Nat) (m:Int) (obs:List O):zapV (some .int) (some (.int .i64)) (.own id g) (.int .i64 m) obs=zapO id g m obs (oAt obs id):=by
 rw [at_arr];simp only [zapV]
 cases h:obs[id]? with
 | none=>rfl
 | some o=>cases o with
  | arr e xs g' nn=>cases e<;>first | rfl | (by_cases hg:g=g'<;>simp [zapO,hg,oSet_eq,Bool.cond_eq_ite])
  | _=>rfl
theorem Q_zapO (id g g':Nat) (m:Int) (xs:List Int) (nn:Bool) (obs:List O):zapO id g m obs (.arr .int xs g' nn)=bif g == g' then .ok (0 < m/\m<=1000000/\0 < xs.length/\xs.length<=1000000) (.own id (g+1)) (oSet obs id (.arr .int (xs ++ List.replicate m.toNat 0) (g+1) true))else .bad:=rfl
theorem Q_src_cur {hs:List (Option Nat)} {rows:List (List Int)} {q n:Nat} (h1:some q∈hs) (h2:n=(rows.getD (hs.idxOf (some q)) []).length) (s:Value) (g1 g:Nat) (nn:Bool) (r:List O) (no:Option Nat) :
  srcQ .int (.hdr (some q) n) (.cur s g1 :: .mat hs rows g nn :: r) no=.yes (rows.getD (hs.idxOf (some q)) []):=by
 simp only [srcQ,srcL,hdrL,if_pos (And.intro h1 h2)];rfl
theorem buildQ_vec (n:Nat) (parts:List (Nat×AV)) (obs:List O):buildQ .vec n parts obs=bif seqF 0 parts n && (Nat.ble n 1000)then allQ .vec obs (strOk (partV parts)) (allEQ .vec (partV parts))else .bad:=by
 simp [buildQ]
theorem Q_toE_vec (n:List Int):toQ .vec (.vec n)=.yes n:=rfl
theorem strOk_vec (x:List Int) (l:List AV):strOk (.vec x :: l)=strOk l:=rfl
theorem fresh_vec (s:List Int) (l:List AV):(AV.vec s :: l).all freshAV=l.all freshAV:=rfl
theorem dfl_vec:E.dflt .vec=([0,0,0,0]:List Int):=rfl
theorem Run.letgoP {C:Ctx} {k:List Item} (id s0:Nat) {n:Nat} {fr:List (Nat×Bool×Sl)} {obs:List O} {g:Nat} {ys:E.pr.D} {nn:Bool} (ho:oAt obs id=.arr .pr [ys] g nn) (hs:look s0 fr=some (true,.v (.elt id g 2 0)))
  (h:Run C k ⟨n,(s0,true,.v (.relt true .pr ys)) :: fr,oSet obs id .dead⟩):Run C k ⟨n,fr,obs⟩:=by
 refine Run.le (fun a w ρ r=>?_) h
 have ho':obs[id]? = some (.arr .pr [ys] g nn):=oAt_lt ho rfl
 obtain⟨hst,hsl⟩:=letgo_sl r.w ho'
 rw [oSet_eq]
 have hs2:=hst.rel r
 refine⟨_,r.defers,r.size,fun s ex x hl=>?_,hst.wr,hs2.pin⟩
 simp only [look]at hl
 split at hl
 ·rename_i he
  have he:s=s0:=by simpa using he
  cases hl
  subst he
  refine⟨fun _=>?_,by simp⟩
  obtain⟨k1,_⟩:=r.fr s true _ hs
  obtain⟨_,hk⟩:=(show AVRel (C.V w obs ρ) obs ρ (.elt id g 2 0) _ from k1 rfl)
  obtain⟨a0,len,cap,hρ,hlt,hv⟩:=(hk g (by unfold genOf;rw [ho'];rfl)).2 rfl
  obtain⟨base,cap',e1,_,_,hx⟩:=hsl
  obtain⟨b,u,hb,hf,hr,hc⟩:=hx 0 (by simp)
  rw [hρ]at e1
  injection e1 with e1 _ _
  rw [hb]at e1
  cases e1
  show AVRel (C.V w (obs.set id .dead) (fun i=>if i=id then ρ id else ρ i)) (obs.set id .dead) (fun i=>if i=id then ρ id else ρ i) (.relt true .pr ys) _
  refine⟨a0.add 0,u,by rw [hv,Nat.zero_mul],fun _=>by rw [add_block];exact hf rfl,by simpa using hr,fun j hj=>?_⟩
  have:=hc j hj
  rw [add_add,Nat.zero_add]
  simpa using this
 ·obtain⟨k1,k2⟩:=r.fr s ex _ hl
  exact⟨fun he=>hst.slot (k1 he),k2⟩
theorem allocV_row (obs:List O):allocV none true obs=.ok True (.elt obs.length 0 1 0) (obs ++ [.arr (.row true) [[]] 0 true]):=rfl
theorem X_mkf (C:Ctx) (ds:Rg) (rest:List Oper) (n:Nat) (fr:List (Nat×Bool×Sl)) (obs:List O) (K:St->Prop) (ty:TypeId) (p:String) (af:Array Edge) (dd:Option Nat) (f:Nat) (l l2:List Operand) :
  aexec C ds (⟨dd,.makeFunc (.func f) l.toArray l2.toArray,ty,p,af,none⟩ :: rest) ⟨n,fr,obs⟩ K=aS C ds rest n fr K (hasL ⟨n,fr,obs⟩ l2) (mkfV f (evL ⟨n,fr,obs⟩ l) (evL ⟨n,fr,obs⟩ l2) obs) dd:=
 plain_eq C ds rest n fr obs K ty p af rfl (by simp only [hasAll,hasL_eq]) (by rw [evL_eq,evL_eq];rfl) dd
theorem mkfV_one (f:Nat) (e:E) (d:e.D) (obs:List O):mkfV f [] [.relt true e d] obs=.ok True (.clo f e d) obs:=rfl
theorem mlookV_vec (vi:Bool) (id g:Nat) (s:List Int) (obs:List O):mlookV (some ⟨true,vi⟩) (.own id g) (.vec s) obs=mlkO ⟨true,vi⟩ g (.vec s) obs (oAt obs id):=by
 rw [at_arr];simp only [mlookV,keyV,if_true]
 cases h:obs[id]? with
 | none=>rfl
 | some o=>cases o with
  | mp m' l g'=>
   simp only [mlkO]
   rw [show(g == g' && (true == m'.kv) && (vi == m'.vi))=_ from cnd3 g g' ⟨true,vi⟩ m']
   by_cases hP:g=g'/\(⟨true,vi⟩:MT).kv=m'.kv/\(⟨true,vi⟩:MT).vi=m'.vi
   ·rw [if_pos hP,decide_eq_true hP];simp only [mgetV,cond_true];cases vi<;>rfl
   ·rw [if_neg hP,decide_eq_false hP];rfl
  | _=>rfl
theorem mupdV_vec (id g:Nat) (s:List Int) (b:Bool) (obs:List O):mupdV (some ⟨true,false⟩) (.own id g) (.vec s) (.bool b) obs=mupO ⟨true,false⟩ id g (.vec s) (.bool b) obs (oAt obs id):=by
 rw [at_arr];simp only [mupdV,keyV,valV,if_true]
 cases h:obs[id]? with
 | none=>rfl
 | some o=>cases o with
  | mp m' l g'=>
   simp only [mupO]
   rw [show(g == g' && (true == m'.kv) && (false == m'.vi))=_ from cnd3 g g' ⟨true,false⟩ m']
   by_cases hP:g=g'/\(⟨true,false⟩:MT).kv=m'.kv/\(⟨true,false⟩:MT).vi=m'.vi
   ·rw [if_pos hP,decide_eq_true hP,oSet_eq];rfl
   ·rw [if_neg hP,decide_eq_false hP];rfl
  | _=>rfl
theorem Q_mlkV (gg g':Nat) (k:MK) (l:List (MK×MV)) (obs:List O):mlkO ⟨true,false⟩ gg k obs (.mp ⟨true,false⟩ l g')=bif gg == g' then .ok True (.bool (mgetB l k)) obs else .bad:=by
 cases h:gg == g'<;>simp [mlkO,h]
theorem Q_mupV (id gg g':Nat) (k:MK) (v:MV) (l:List (MK×MV)) (obs:List O):mupO ⟨true,false⟩ id gg k v obs (.mp ⟨true,false⟩ l g')=bif gg == g' then .skip True (oSet obs id (.mp ⟨true,false⟩ (mput l k v) gg))else .bad:=by
 cases h:gg == g'<;>simp [mupO,h]
theorem keyVec:type_of% @mlookV_vec/\type_of% @mupdV_vec/\type_of% @Q_mlkV/\type_of% @Q_mupV:=⟨mlookV_vec,mupdV_vec,Q_mlkV,Q_mupV⟩
def aGB (C:Ctx) (ds:Rg) (rest:List Oper) (n:Nat) (fr:List (Nat×Bool×Sl)) (obs:List O) (K:St->Prop) (hs:Prop) (r:Res) (d:Option Nat):Option Bool->Prop
 | none=>False
 | some true=>aS C ds rest n fr K hs r d
 | some false=>inN n d/\aexec C ds rest (St.put ⟨n,fr,obs⟩ d false (.v .junk) obs) K
theorem G_build (C:Ctx) (ds:Rg) (rest:List Oper) (n:Nat) (fr:List (Nat×Bool×Sl)) (obs:List O) (K:St->Prop) (ty:TypeId) (p:String) (af:Array Edge) (dd:Option Nat) (j:Nat) (b:Bool) (t:TypeId) (m:Nat) (l:List (Nat×Operand)) :
  aexec C ds (⟨dd,.buildSlice t m l.toArray,ty,p,af,some (j,b)⟩ :: rest) ⟨n,fr,obs⟩ K=aGB C ds rest n fr obs K (hasP ⟨n,fr,obs⟩ l) (buildV (C.Γ t) m (evP ⟨n,fr,obs⟩ l) obs) dd (gexV b (lookO fr (slotOf ds.ds j))):=by
 have hpl:=X_build C ds rest n fr obs K ty p af dd t m l
 simp only [aexec,aone,calleeOf,roOp,Bool.false_eq_true,if_false]at hpl ⊢
 rw [gex_eq]
 cases hg:gexV b (lookO fr (slotOf ds.ds j)) with
 | none=>simp only [aGB,and_false]
 | some ex=>
  cases ex with
  | false=>rfl
  | true=>
   rw [show aGB C ds rest n fr obs K (hasP ⟨n,fr,obs⟩ l) (buildV (C.Γ t) m (evP ⟨n,fr,obs⟩ l) obs) dd (some true)=_ from hpl.symm]
   rfl
theorem aGB_true (C:Ctx) (ds:Rg) (rest:List Oper) (n:Nat) (fr:List (Nat×Bool×Sl)) (obs:List O) (K:St->Prop) (hs:Prop) (r:Res) (d:Option Nat):aGB C ds rest n fr obs K hs r d (some true)=aS C ds rest n fr K hs r d:=rfl
theorem aGB_false (C:Ctx) (ds:Rg) (rest:List Oper) (n:Nat) (fr:List (Nat×Bool×Sl)) (obs:List O) (K:St->Prop) (hs:Prop) (r:Res) (d:Nat):aGB C ds rest n fr obs K hs r (some d) (some false)=(d < n/\aexec C ds rest ⟨n,(d,false,.v .junk) :: fr,obs⟩ K):=rfl
theorem capT_clo (f:Nat) (e:E) (d:e.D):capT (some (true,.v (.clo f e d)))=[.relt true e d]:=rfl
theorem capT_fn (f:Nat):capT (some (true,.v (.fn f)))=[]:=rfl
theorem fnOf_clo (f:Nat) (e:E) (d:e.D):fnOf (some (true,.v (.clo f e d)))=some f:=rfl
theorem apCap_nil (l:List AV):apCap l []=l:=rfl
theorem apCap_one (x y:AV):apCap [x] [y]=[x,y]:=rfl
theorem apCap_two (x y z:AV):apCap [x,y] [z]=[x,y,z]:=rfl
theorem argOk_clo (obs:List O) (x:AV) (f:Nat) (e:E) (d:e.D):argOk obs x (.clo f e d)=(x=.clo f e d):=by cases x<;>rfl
theorem argOk_relt (obs:List O) (x:AV) (e:E) (d:e.D):argOk obs x (.relt true e d)=(x=.relt true e d):=by cases x<;>rfl
theorem reA_clo (π:List Nat) (obs:List O) (f:Nat) (e:E) (d:e.D):reA π obs (.clo f e d)=.clo f e d:=rfl
theorem leAV_clo (π:List Nat) (obs obs':List O) (x:AV) (f:Nat) (e:E) (d:e.D):leAV π obs obs' x (.clo f e d)=(x=.clo f e d):=by cases x<;>rfl
def prLdO (g k:Nat) (obs:List O):O->Res
 | .bag d g'=>bif g == g' && Nat.ble 2 d.ph then .ok (k < d.xs.length) (.prv (d.xs.getD k ([],[]))) obs else .bad
 | .arr .pr xs g' _=>bif g == g' then .ok (k < xs.length) (.prv (xs.getD k ([],[]))) obs else .bad
 | _=>.bad
def prStO (id g s:Nat) (d:E.pr.D) (obs:List O):O->Res
 | .arr .pr [_] g' nn=>bif g == g' && s == 2 then .skip True (oSet obs id (.arr .pr [d] g nn))else .bad
 | _=>.bad
def bagSt1 (gp:Option E) (q g2:Nat) (obs:List O) (d:BagD) (g:Nat):Res:=match gp with
 | some .pr=>bif g2 == g && q == d.lb && Nat.ble 2 d.ph then .skip True (oSet obs 0 (.bag { d with st:=true } g))else .bad
 | _=>.bad
def bagStM (mt:Option MT) (q j g2:Nat) (obs:List O) (d:BagD) (g:Nat) (m:MT) (l:List (MK×MV)) (g':Nat):Res:=match mt with
 | some m2=>bif g2 == g' && q == d.sb && d.ph == 3 && m2.kv == m.kv && m2.vi == m.vi then .all (fun _=>True) (fun _=>.junk) (fun b=>oSet (oSet obs j .dead) 0 (.bag { d with ph:=4,mb:=b,m:=m,ml:=l } g))else .bad
 | none=>.bad
def bagStL (gp:Option E) (q j g2:Nat) (obs:List O) (d:BagD) (g:Nat) (xs:List E.pr.D) (g':Nat):Res:=match gp with
 | some .pr=>bif g2 == g' && q == d.lb && d.ph == 1 then .skip True (oSet (oSet obs j .dead) 0 (.bag { d with ph:=2,st:=true,xs:=xs } (g+1)))else .bad
 | _=>.bad
def bagSt2 (gp:Option E) (mt:Option MT) (q j g2:Nat) (obs:List O) (d:BagD) (g:Nat):O->Res
 | .arr .pr xs g' true=>bagStL gp q j g2 obs d g xs g'
 | .mp m l g'=>bagStM mt q j g2 obs d g m l g'
 | _=>.bad
theorem bool5 (a b c:Nat) (d e f:Nat) (p q r s:Bool):(decide (a=b/\c=d/\e=f/\p=q/\r=s))=(a == b && c == d && e == f && p == q && r == s):=by
 rw [Bool.eq_iff_iff];simp [and_assoc]
theorem selP_junk (F:E.pr.D->Res) (r:Res):selP (.junk) F r=r:=rfl
theorem selH_junk (F:Nat->Nat->Res) (r:Res):selH (.junk) F r=r:=rfl
theorem selE_junk (F:Nat->Nat->Nat->Res) (r:Res):selE (.junk) F r=r:=rfl
theorem selM_junk (F:Nat->Res) (r:Res):selM (.junk) F r=r:=rfl
theorem selP_int (k:IntKind) (n:Int) (F:E.pr.D->Res) (r:Res):selP (.int k n) F r=r:=rfl
theorem selH_int (k:IntKind) (n:Int) (F:Nat->Nat->Res) (r:Res):selH (.int k n) F r=r:=rfl
theorem selE_int (k:IntKind) (n:Int) (F:Nat->Nat->Nat->Res) (r:Res):selE (.int k n) F r=r:=rfl
theorem selM_int (k:IntKind) (n:Int) (F:Nat->Res) (r:Res):selM (.int k n) F r=r:=rfl
theorem selP_bool (b:Bool) (F:E.pr.D->Res) (r:Res):selP (.bool b) F r=r:=rfl
theorem selH_bool (b:Bool) (F:Nat->Nat->Res) (r:Res):selH (.bool b) F r=r:=rfl
theorem selE_bool (b:Bool) (F:Nat->Nat->Nat->Res) (r:Res):selE (.bool b) F r=r:=rfl
theorem selM_bool (b:Bool) (F:Nat->Res) (r:Res):selM (.bool b) F r=r:=rfl
theorem selP_str (s:List UInt8) (F:E.pr.D->Res) (r:Res):selP (.str s) F r=r:=rfl
theorem selH_str (s:List UInt8) (F:Nat->Nat->Res) (r:Res):selH (.str s) F r=r:=rfl
theorem selE_str (s:List UInt8) (F:Nat->Nat->Nat->Res) (r:Res):selE (.str s) F r=r:=rfl
theorem selM_str (s:List UInt8) (F:Nat->Res) (r:Res):selM (.str s) F r=r:=rfl
theorem selP_sl (f:Bool) (e:E) (xs:List e.D) (F:E.pr.D->Res) (r:Res):selP (.sl f e xs) F r=r:=rfl
theorem selH_sl (f:Bool) (e:E) (xs:List e.D) (F:Nat->Nat->Res) (r:Res):selH (.sl f e xs) F r=r:=rfl
theorem selE_sl (f:Bool) (e:E) (xs:List e.D) (F:Nat->Nat->Nat->Res) (r:Res):selE (.sl f e xs) F r=r:=rfl
theorem selM_sl (f:Bool) (e:E) (xs:List e.D) (F:Nat->Res) (r:Res):selM (.sl f e xs) F r=r:=rfl
theorem selP_lr (l:Nat) (xs:List Int) (F:E.pr.D->Res) (r:Res):selP (.lr l xs) F r=r:=rfl
theorem selH_lr (l:Nat) (xs:List Int) (F:Nat->Nat->Res) (r:Res):selH (.lr l xs) F r=r:=rfl
theorem selE_lr (l:Nat) (xs:List Int) (F:Nat->Nat->Nat->Res) (r:Res):selE (.lr l xs) F r=r:=rfl
theorem selM_lr (l:Nat) (xs:List Int) (F:Nat->Res) (r:Res):selM (.lr l xs) F r=r:=rfl
theorem selP_vec (xs:List Int) (F:E.pr.D->Res) (r:Res):selP (.vec xs) F r=r:=rfl
theorem selH_vec (xs:List Int) (F:Nat->Nat->Res) (r:Res):selH (.vec xs) F r=r:=rfl
theorem selE_vec (xs:List Int) (F:Nat->Nat->Nat->Res) (r:Res):selE (.vec xs) F r=r:=rfl
theorem selM_vec (xs:List Int) (F:Nat->Res) (r:Res):selM (.vec xs) F r=r:=rfl
theorem selP_nils (F:E.pr.D->Res) (r:Res):selP (.nils) F r=r:=rfl
theorem selH_nils (F:Nat->Nat->Res) (r:Res):selH (.nils) F r=r:=rfl
theorem selE_nils (F:Nat->Nat->Nat->Res) (r:Res):selE (.nils) F r=r:=rfl
theorem selM_nils (F:Nat->Res) (r:Res):selM (.nils) F r=r:=rfl
theorem selP_own (id g:Nat) (F:E.pr.D->Res) (r:Res):selP (.own id g) F r=r:=rfl
theorem selH_own (id g:Nat) (F:Nat->Nat->Res) (r:Res):selH (.own id g) F r=r:=rfl
theorem selE_own (id g:Nat) (F:Nat->Nat->Nat->Res) (r:Res):selE (.own id g) F r=r:=rfl
theorem selM_own (id g:Nat) (F:Nat->Res) (r:Res):selM (.own id g) F r=r:=rfl
theorem selP_elt (id g s k:Nat) (F:E.pr.D->Res) (r:Res):selP (.elt id g s k) F r=r:=rfl
theorem selH_elt (id g s k:Nat) (F:Nat->Nat->Res) (r:Res):selH (.elt id g s k) F r=r:=rfl
theorem selE_elt (id g s k:Nat) (F:Nat->Nat->Nat->Res) (r:Res):selE (.elt id g s k) F r=bif s == 2 then F id g k else r:=rfl
theorem selM_elt (id g s k:Nat) (F:Nat->Res) (r:Res):selM (.elt id g s k) F r=r:=rfl
theorem selP_relt (f:Bool) (e:E) (d:e.D) (F:E.pr.D->Res) (r:Res):selP (.relt f e d) F r=r:=rfl
theorem selH_relt (f:Bool) (e:E) (d:e.D) (F:Nat->Nat->Res) (r:Res):selH (.relt f e d) F r=r:=rfl
theorem selE_relt (f:Bool) (e:E) (d:e.D) (F:Nat->Nat->Nat->Res) (r:Res):selE (.relt f e d) F r=r:=rfl
theorem selM_relt (f:Bool) (e:E) (d:e.D) (F:Nat->Res) (r:Res):selM (.relt f e d) F r=r:=rfl
theorem selP_hdr (h:Option Nat) (n:Nat) (F:E.pr.D->Res) (r:Res):selP (.hdr h n) F r=r:=rfl
theorem selH_hdr (h:Option Nat) (n:Nat) (F:Nat->Nat->Res) (r:Res):selH (.hdr h n) F r=r:=rfl
theorem selE_hdr (h:Option Nat) (n:Nat) (F:Nat->Nat->Nat->Res) (r:Res):selE (.hdr h n) F r=r:=rfl
theorem selM_hdr (h:Option Nat) (n:Nat) (F:Nat->Res) (r:Res):selM (.hdr h n) F r=r:=rfl
theorem selP_emp (b:Bool) (F:E.pr.D->Res) (r:Res):selP (.emp b) F r=r:=rfl
theorem selH_emp (b:Bool) (F:Nat->Nat->Res) (r:Res):selH (.emp b) F r=r:=rfl
theorem selE_emp (b:Bool) (F:Nat->Nat->Nat->Res) (r:Res):selE (.emp b) F r=r:=rfl
theorem selM_emp (b:Bool) (F:Nat->Res) (r:Res):selM (.emp b) F r=r:=rfl
theorem selP_fn (f:Nat) (F:E.pr.D->Res) (r:Res):selP (.fn f) F r=r:=rfl
theorem selH_fn (f:Nat) (F:Nat->Nat->Res) (r:Res):selH (.fn f) F r=r:=rfl
theorem selE_fn (f:Nat) (F:Nat->Nat->Nat->Res) (r:Res):selE (.fn f) F r=r:=rfl
theorem selM_fn (f:Nat) (F:Nat->Res) (r:Res):selM (.fn f) F r=r:=rfl
theorem selP_hp (h k:Nat) (F:E.pr.D->Res) (r:Res):selP (.hp h k) F r=r:=rfl
theorem selH_hp (h k:Nat) (F:Nat->Nat->Res) (r:Res):selH (.hp h k) F r=F h k:=rfl
theorem selE_hp (h k:Nat) (F:Nat->Nat->Nat->Res) (r:Res):selE (.hp h k) F r=r:=rfl
theorem selM_hp (h k:Nat) (F:Nat->Res) (r:Res):selM (.hp h k) F r=r:=rfl
theorem selP_lenv (n:Nat) (F:E.pr.D->Res) (r:Res):selP (.lenv n) F r=r:=rfl
theorem selH_lenv (n:Nat) (F:Nat->Nat->Res) (r:Res):selH (.lenv n) F r=r:=rfl
theorem selE_lenv (n:Nat) (F:Nat->Nat->Nat->Res) (r:Res):selE (.lenv n) F r=r:=rfl
theorem selM_lenv (n:Nat) (F:Nat->Res) (r:Res):selM (.lenv n) F r=r:=rfl
theorem selP_clo (f:Nat) (e:E) (d:e.D) (F:E.pr.D->Res) (r:Res):selP (.clo f e d) F r=r:=rfl
theorem selH_clo (f:Nat) (e:E) (d:e.D) (F:Nat->Nat->Res) (r:Res):selH (.clo f e d) F r=r:=rfl
theorem selE_clo (f:Nat) (e:E) (d:e.D) (F:Nat->Nat->Nat->Res) (r:Res):selE (.clo f e d) F r=r:=rfl
theorem selM_clo (f:Nat) (e:E) (d:e.D) (F:Nat->Res) (r:Res):selM (.clo f e d) F r=r:=rfl
theorem selP_mv (b:Nat) (F:E.pr.D->Res) (r:Res):selP (.mv b) F r=r:=rfl
theorem selH_mv (b:Nat) (F:Nat->Nat->Res) (r:Res):selH (.mv b) F r=r:=rfl
theorem selE_mv (b:Nat) (F:Nat->Nat->Nat->Res) (r:Res):selE (.mv b) F r=r:=rfl
theorem selM_mv (b:Nat) (F:Nat->Res) (r:Res):selM (.mv b) F r=F b:=rfl
theorem selP_prv (d:E.pr.D) (F:E.pr.D->Res) (r:Res):selP (.prv d) F r=F d:=rfl
theorem selH_prv (d:E.pr.D) (F:Nat->Nat->Res) (r:Res):selH (.prv d) F r=r:=rfl
theorem selE_prv (d:E.pr.D) (F:Nat->Nat->Nat->Res) (r:Res):selE (.prv d) F r=r:=rfl
theorem selM_prv (d:E.pr.D) (F:Nat->Res) (r:Res):selM (.prv d) F r=r:=rfl
theorem selP_clo3 (f a b c:Nat) (F:E.pr.D->Res) (r:Res):selP (.clo3 f a b c) F r=r:=rfl
theorem selH_clo3 (f a b c:Nat) (F:Nat->Nat->Res) (r:Res):selH (.clo3 f a b c) F r=r:=rfl
theorem selE_clo3 (f a b c:Nat) (F:Nat->Nat->Nat->Res) (r:Res):selE (.clo3 f a b c) F r=r:=rfl
theorem selM_clo3 (f a b c:Nat) (F:Nat->Res) (r:Res):selM (.clo3 f a b c) F r=r:=rfl
theorem bagH_dead (r:List O):bagH (O.dead :: r)=none:=rfl
theorem bagH_arr (e:E) (xs:List e.D) (g:Nat) (nn:Bool) (r:List O):bagH (.arr e xs g nn :: r)=none:=rfl
theorem bagH_mat (hs:List (Option Nat)) (rows:List (List Int)) (g:Nat) (nn:Bool) (r:List O):bagH (.mat hs rows g nn :: r)=none:=rfl
theorem bagH_gm (D:List Nat) (F:Nat->List Int) (hs:List Nat) (g:Nat) (nn:Bool) (r:List O):bagH (.gm D F hs g nn :: r)=none:=rfl
theorem bagH_mp (m:MT) (l:List (MK×MV)) (g:Nat) (r:List O):bagH (.mp m l g :: r)=none:=rfl
theorem bagH_ap (h:Nat) (ys:List (Nat×List Int)) (fr:Bool) (g:Nat) (nn:Bool) (r:List O):bagH (.ap h ys fr g nn :: r)=none:=rfl
theorem bagH_cur (s:Value) (g:Nat) (r:List O):bagH (.cur s g :: r)=none:=rfl
theorem bagH_bag (d:BagD) (g:Nat) (r:List O):bagH (.bag d g :: r)=some (d,g):=rfl
theorem bagH_nil:bagH []=none:=rfl
theorem orBag_some (r:Res) (f:BagD×Nat->Res) (x:BagD×Nat):orBag r f (some x)=f x:=rfl
theorem orBag_none (r:Res) (f:BagD×Nat->Res):orBag r f none=r:=rfl
theorem bagLoad_n (gp:Option E) (mt:Option MT) (q:Nat) (obs:List O) (d:BagD) (g:Nat):bagLoad (some (.int .i64)) gp mt q 0 obs (d,g)=bif q == d.hb then .ok True (.int .i64 d.hn) obs else .bad:=by
 by_cases h:q=d.hb<;>simp [bagLoad,h,Bool.cond_eq_ite]
theorem bagLoad_l (mt:Option MT) (q:Nat) (obs:List O) (d:BagD) (g:Nat):bagLoad none (some .pr) mt q 0 obs (d,g)=bif q == d.lb && Nat.ble 2 d.ph && d.st then .ok True (.own 0 g) obs else .bad:=by
 by_cases h:q=d.lb<;>by_cases h2:2<=d.ph<;>cases h3:d.st<;>simp [bagLoad,h,h2,h3,Bool.cond_eq_ite]
theorem bagLoad_m (m:MT) (q:Nat) (obs:List O) (d:BagD) (g:Nat):bagLoad none none (some m) q 0 obs (d,g)=bif q == d.sb && Nat.ble 4 d.ph then .ok True (.mv d.mb) obs else .bad:=by
 by_cases h:q=d.sb<;>by_cases h2:4<=d.ph<;>simp [bagLoad,h,h2,Bool.cond_eq_ite]
theorem pairLoad_Q (id g k:Nat) (obs:List O):pairLoad id g k obs=prLdO g k obs (oAt obs id):=by
 simp only [pairLoad,oAt_eq]
 cases obs[id]? with
 | none=>rfl
 | some o=>
  cases o with
  | bag d g'=>by_cases h:g=g'<;>by_cases h2:2<=d.ph<;>simp [prLdO,h,h2,Bool.cond_eq_ite]
  | arr e xs g' nn=>cases e<;>first | rfl | (by_cases h:g=g'<;>simp [prLdO,h,Bool.cond_eq_ite])
  | _=>rfl
theorem prLd_bag (g k:Nat) (obs:List O) (d:BagD) (g':Nat):prLdO g k obs (.bag d g')=bif g == g' && Nat.ble 2 d.ph then .ok (k < d.xs.length) (.prv (d.xs.getD k ([],[]))) obs else .bad:=rfl
theorem prLd_arr (g k:Nat) (obs:List O) (xs:List E.pr.D) (g':Nat) (nn:Bool):prLdO g k obs (.arr .pr xs g' nn)=bif g == g' then .ok (k < xs.length) (.prv (xs.getD k ([],[]))) obs else .bad:=rfl
theorem pairSt_Q (id g s:Nat) (d:E.pr.D) (obs:List O):pairStore (.elt id g s 0) d obs=prStO id g s d obs (oAt obs id):=by
 simp only [pairStore,oAt_eq]
 cases obs[id]? with
 | none=>rfl
 | some o=>
  cases o with
  | arr e xs g' nn=>
   cases e with
   | pr=>
    match xs with
    | []=>rfl
    | [x]=>by_cases h:g=g'<;>by_cases h2:s=2<;>simp [prStO,h,h2,oSet_eq,Bool.cond_eq_ite]
    | x :: y :: l=>rfl
   | _=>rfl
  | _=>rfl
theorem prSt_arr (id g s:Nat) (d x:E.pr.D) (obs:List O) (g':Nat) (nn:Bool):prStO id g s d obs (.arr .pr [x] g' nn)=bif g == g' && s == 2 then .skip True (oSet obs id (.arr .pr [d] g nn))else .bad:=rfl
theorem bagSt_Q (gp:Option E) (mt:Option MT) (q j g2:Nat) (obs:List O) (d:BagD) (g:Nat):bagStore gp mt q 0 (.own j g2) obs (d,g)=bif j == 0 then bagSt1 gp q g2 obs d g else bagSt2 gp mt q j g2 obs d g (oAt obs j):=by
 by_cases hj:j=0
 ·subst hj
  simp only [bagStore,if_true,bagSt1,beq_self_eq_true,cond_true]
  match gp with
  | some .pr=>by_cases h:g2=g<;>by_cases h2:q=d.lb<;>by_cases h3:2<=d.ph<;>simp [h,h2,h3,oSet_eq,Bool.cond_eq_ite]
  | some .int=>rfl
  | some .byte=>rfl
  | some .bool=>rfl
  | some .str=>rfl
  | some (.row _)=>rfl
  | some .lrow=>rfl
  | some .vec=>rfl
  | none=>rfl
 ·have hjb:(j == 0)=false:=by simpa using hj
  simp only [bagStore,if_neg hj,hjb,cond_false,oAt_eq]
  cases obs[j]? with
  | none=>rfl
  | some o=>
   cases o with
   | arr e xs g' nn=>
    cases e with
    | pr=>
     cases nn with
     | false=>rfl
     | true=>
      simp only [bagSt2,Option.getD_some]
      match gp with
      | some .pr=>by_cases h:g2=g'<;>by_cases h2:q=d.lb<;>by_cases h3:d.ph=1<;>simp [bagStL,h,h2,h3,oSet_eq,Bool.cond_eq_ite]
      | some .int=>simp [bagStL]
      | some .byte=>simp [bagStL]
      | some .bool=>simp [bagStL]
      | some .str=>simp [bagStL]
      | some (.row _)=>simp [bagStL]
      | some .lrow=>simp [bagStL]
      | some .vec=>simp [bagStL]
      | none=>simp [bagStL]
    | _=>rfl
   | mp m l g'=>
    simp only [bagSt2,Option.getD_some,bagStM]
    cases mt with
    | none=>rfl
    | some m2=>simp only [<- bool5,Bool.cond_eq_ite,dtE,oSet_eq]
   | _=>rfl
theorem bagSt1_pr (q g2:Nat) (obs:List O) (d:BagD) (g:Nat):bagSt1 (some .pr) q g2 obs d g=bif g2 == g && q == d.lb && Nat.ble 2 d.ph then .skip True (oSet obs 0 (.bag { d with st:=true } g))else .bad:=rfl
theorem bagSt2_arr (gp:Option E) (mt:Option MT) (q j g2:Nat) (obs:List O) (d:BagD) (g:Nat) (xs:List E.pr.D) (g':Nat):bagSt2 gp mt q j g2 obs d g (.arr .pr xs g' true)=bagStL gp q j g2 obs d g xs g':=rfl
theorem bagStL_pr (q j g2:Nat) (obs:List O) (d:BagD) (g:Nat) (xs:List E.pr.D) (g':Nat):bagStL (some .pr) q j g2 obs d g xs g'=bif g2 == g' && q == d.lb && d.ph == 1 then .skip True (oSet (oSet obs j .dead) 0 (.bag { d with ph:=2,st:=true,xs:=xs } (g+1)))else .bad:=rfl
theorem bagSt2_mp (gp:Option E) (m2:MT) (q j g2:Nat) (obs:List O) (d:BagD) (g:Nat) (m:MT) (l:List (MK×MV)) (g':Nat):bagSt2 gp (some m2) q j g2 obs d g (.mp m l g')=bif g2 == g' && q == d.sb && d.ph == 3 && m2.kv == m.kv && m2.vi == m.vi then .all (fun _=>True) (fun _=>.junk) (fun b=>oSet (oSet obs j .dead) 0 (.bag { d with ph:=4,mb:=b,m:=m,ml:=l } g))else .bad:=rfl
theorem bagLook_v (b:Nat) (xs:List Int) (obs:List O) (d:BagD) (g:Nat):bagLook (some ⟨true,false⟩) b (.vec xs) obs (d,g)=bif b == d.mb && Nat.ble 4 d.ph && d.m.kv && !d.m.vi then .ok True (.bool (mgetB d.ml (.vec xs))) obs else .bad:=by
 by_cases h:b=d.mb<;>by_cases h2:4<=d.ph<;>cases h3:d.m.kv<;>cases h4:d.m.vi<;>simp [bagLook,keyV,mgetV,h,h2,h3,h4,Bool.cond_eq_ite]
theorem bagUpd_v (b:Nat) (xs:List Int) (y:Bool) (obs:List O) (d:BagD) (g:Nat):bagUpd (some ⟨true,false⟩) b (.vec xs) (.bool y) obs (d,g)=bif b == d.mb && Nat.ble 4 d.ph && d.m.kv && !d.m.vi then .skip True (oSet obs 0 (.bag { d with ml:=mput d.ml (.vec xs) (.bool y) } g))else .bad:=by
 by_cases h:b=d.mb<;>by_cases h2:4<=d.ph<;>cases h3:d.m.kv<;>cases h4:d.m.vi<;>simp [bagUpd,keyV,valV,h,h2,h3,h4,oSet_eq,Bool.cond_eq_ite]
theorem bagAl_l (mt:Option MT) (obs:List O) (d:BagD) (g:Nat):bagAlloc (some .pr) mt obs (d,g)=bif d.ph == 0 then .all (fun _=>True) (fun l=>.hp l 0) (fun l=>oSet obs 0 (.bag { d with ph:=1,lb:=l } g))else .bad:=by
 by_cases h:d.ph=0<;>simp [bagAlloc,h,oSet_eq,Bool.cond_eq_ite]
theorem bagAl_m (m:MT) (obs:List O) (d:BagD) (g:Nat):bagAlloc none (some m) obs (d,g)=bif d.ph == 2 then .all (fun _=>True) (fun l=>.hp l 0) (fun l=>oSet obs 0 (.bag { d with ph:=3,sb:=l } g))else .bad:=by
 by_cases h:d.ph=2<;>simp [bagAlloc,h,oSet_eq,Bool.cond_eq_ite]
theorem allocX_p (gp:Option E) (mt:Option MT) (wt:Option E) (rw:Bool) (obs:List O):allocX gp mt wt rw true obs=.ok True (.elt obs.length 0 2 0) (obs ++ [.arr .pr [([],[])] 0 true]):=rfl
theorem allocX_b (gp:Option E) (mt:Option MT) (obs:List O):allocX gp mt none false false obs=orBag .bad (bagAlloc gp mt obs) (bagH obs):=rfl
theorem allocX_r (gp:Option E) (mt:Option MT) (obs:List O):allocX gp mt none true false obs=allocV none true obs:=rfl
theorem allocX_v (gp:Option E) (mt:Option MT) (e:E) (rw:Bool) (obs:List O):allocX gp mt (some e) rw false obs=allocV (some e) rw obs:=by cases rw<;>rfl
theorem boxX_n (wt:Option E) (pt:Bool) (n:Int) (obs:List O):boxX (some (.int .i64)) wt pt (.int .i64 n) obs=.all (fun _=>True) (fun l=>.hp l 0) (fun l=>obs ++ [.bag ⟨0,l,n,0,false,[],0,0,⟨false,false⟩,[]⟩ 0]):=rfl
theorem boxX_p (bt:Option BT) (wt:Option E) (d:E.pr.D) (obs:List O):boxX bt wt true (.prv d) obs=.ok True (.relt true .pr d) obs:=rfl
theorem boxX_v (bt:Option BT) (wt:Option E) (pt:Bool) (xs:List Int) (obs:List O):boxX bt wt pt (.vec xs) obs=boxV wt (.vec xs) obs:=rfl
theorem bld_p (wt:Option E) (a b:List Int) (obs:List O):bldV wt true [(0,.sl true .int a),(1,.sl true .int b)] obs=.ok True (.prv (a,b)) obs:=rfl
theorem bld_v (obs:List O):bldV (some .vec) false [] obs=.ok True (.vec [0,0,0,0]) obs:=rfl
theorem fld_0 (f:Bool) (d:E.pr.D) (obs:List O):fldV true (.relt f .pr d) 0 obs=.ok True (.relt f (.row true) d.1) obs:=rfl
theorem fld_1 (f:Bool) (d:E.pr.D) (obs:List O):fldV true (.relt f .pr d) 1 obs=.ok True (.relt f (.row true) d.2) obs:=rfl
theorem mkfV_three (f a b c:Nat) (obs:List O):mkfV f [] [.hp a 0,.hp b 0,.hp c 0] obs=.ok True (.clo3 f a b c) obs:=rfl
theorem capT_clo3 (f a b c:Nat):capT (some (true,.v (.clo3 f a b c)))=[.hp a 0,.hp b 0,.hp c 0]:=rfl
theorem fnOf_clo3 (f a b c:Nat):fnOf (some (true,.v (.clo3 f a b c)))=some f:=rfl
theorem apCap_23 (x y a b c:AV):apCap [x,y] [a,b,c]=[x,y,a,b,c]:=rfl
theorem argOk_hp (obs:List O) (x:AV) (h k:Nat):argOk obs x (.hp h k)=(x=.hp h k):=by cases x<;>rfl
theorem argOkM_hp (obs:List O) (i0 g:Nat) (x:AV) (h k:Nat):argOkM obs i0 g x (.hp h k)=(x=.hp h k):=by cases x<;>rfl
theorem argOkM_slB (obs:List O) (i0 g:Nat) (xs ys:List Int):argOkM obs i0 g (.sl true .int ys) (.sl true .int xs)=(xs=ys):=rfl
theorem leAV_hp (π:List Nat) (obs obs':List O) (x:AV) (h k:Nat):leAV π obs obs' x (.hp h k)=(x=.hp h k):=by cases x<;>rfl
theorem sz_pr:E.size .pr=2:=rfl
theorem by_pr:E.bytes .pr=48:=rfl
theorem fam_pr:E.fam .pr=.pr:=rfl
theorem Q_lenB (g g':Nat) (obs:List O) (d:BagD):lenO g obs (.bag d g')=bif g == g' && Nat.ble 2 d.ph then .ok True (.int .i64 d.xs.length) obs else .bad:=rfl
theorem Q_idxB (e2:E) (id g:Nat) (n:Int) (g':Nat) (obs:List O) (d:BagD):idxO e2 id g n obs (.bag d g')=bif g == g' && Nat.ble 2 d.ph && (e2.size == 2)then .ok (0<=n/\n < d.xs.length) (.elt id g 2 n.toNat) obs else .bad:=rfl
theorem Q_apB (id g g':Nat) (e:E) (x:AV) (obs:List O) (d:BagD):apO e id g x obs (.bag d g')=bif g == g' && Nat.ble 2 d.ph && decide (E.pr.fam=e.fam)then apB id g d e obs (srcQ .pr x obs (some id))else .bad:=rfl
theorem Q_apB2 (id g:Nat) (d:BagD) (e:E) (obs:List O) (ys:List E.pr.D):apB id g d e obs (.yes ys)=.ok ((d.xs.length+ys.length)*e.bytes<=140737488355328) (.own id (g+1)) (oSet obs id (.bag { d with st:=false,xs:=d.xs ++ ys } (g+1))):=rfl
theorem Q_cv_pr (ys:List E.pr.D):convQ .pr .pr ys=.yes ys:=rfl
theorem storeQX_eq (gp:Option E) (mt:Option MT) (sc:Bool) (wt:Option E) (pt:Bool) (x y:AV) (obs:List O):storeQX gp mt sc wt pt x y obs=selP y (fun d=>bif pt then pairStore x d obs else .bad) (selH x (fun q k=>orBag (storeT wt (storeQ sc (.hp q k) y obs) (.hp q k) y obs) (bagStore gp mt q k y obs) (bagH obs)) (storeT wt (storeQ sc x y obs) x y obs)):=rfl
theorem buildQ_pr (n:Nat) (parts:List (Nat×AV)) (obs:List O):buildQ .pr n parts obs=bif seqF 0 parts n && (Nat.ble n 1000)then allQ .pr obs (strOk (partV parts)) (allEQ .pr (partV parts))else .bad:=by
 simp [buildQ]
theorem Q_toE_pr (d:E.pr.D):toQ .pr (.prv d)=.yes d:=rfl
theorem strOk_prv (d:E.pr.D) (l:List AV):strOk (.prv d :: l)=strOk l:=rfl
theorem selP_asl (id g:Nat) (F:E.pr.D->Res) (r:Res):selP (.asl id g) F r=r:=rfl
theorem selH_asl (id g:Nat) (F:Nat->Nat->Res) (r:Res):selH (.asl id g) F r=r:=rfl
theorem selE_asl (id g:Nat) (F:Nat->Nat->Nat->Res) (r:Res):selE (.asl id g) F r=r:=rfl
theorem selM_asl (id g:Nat) (F:Nat->Res) (r:Res):selM (.asl id g) F r=r:=rfl
def wslO (id g:Nat) (obs:List O):O->Res
 | .arr .vec [_] g' _=>bif g == g' then .ok True (.asl id g) obs else .bad
 | _=>.bad
theorem wslice_elt (id g:Nat) (obs:List O):wsliceV (.elt id g 4 0) none none obs=wslO id g obs (oAt obs id):=by
 simp only [wsliceV,oAt_eq,bnd]
 cases obs[id]? with
 | none=>rfl
 | some o=>
  cases o with
  | arr e xs g' nn=>
   cases e with
   | vec=>
    match xs with
    | []=>rfl
    | [x]=>by_cases h:g=g'<;>simp [wslO,h,Bool.cond_eq_ite]
    | x :: y :: l=>rfl
   | _=>rfl
  | _=>rfl
theorem wsl_arr (id g g':Nat) (nn:Bool) (x:List Int) (obs:List O):wslO id g obs (.arr .vec [x] g' nn)=bif g == g' then .ok True (.asl id g) obs else .bad:=rfl
def cpAE (id g:Nat) (nn:Bool) (ys:List Int) (obs:List O):OL .int->Res
 | .yes zs=>.ok True (.int .i64 (min zs.length 4:Nat)) (oSet obs id (.arr .vec [zs.take 4 ++ ys.drop zs.length] g nn))
 | .no=>.bad
def cpA (id g:Nat) (x:AV) (obs:List O):O->Res
 | .arr .vec [ys] g' nn=>bif g == g' then cpAE id g nn ys obs (srcQ .int x obs (some id))else .bad
 | _=>.bad
theorem copyV_asl (id g:Nat) (x:AV) (obs:List O):copyV (some .int) (.asl id g) x obs=cpA id g x obs (oAt obs id):=by
 simp only [copyV,oAt_eq]
 cases obs[id]? with
 | none=>rfl
 | some o=>
  cases o with
  | arr e xs g' nn=>
   cases e with
   | vec=>
    match xs with
    | []=>rfl
    | [y]=>
     by_cases h:g=g'
     ·subst h
      simp only [cpA,Option.getD_some,beq_self_eq_true,cond_true,if_true,srcQ]
      cases srcL .int x obs (some id)<;>simp [cpAE,oSet_eq,OL.of]
     ·simp [cpA,h,Bool.cond_eq_ite]
    | x :: y :: l=>rfl
   | _=>rfl
  | _=>rfl
theorem Q_cpA (id g g':Nat) (nn:Bool) (ys:List Int) (x:AV) (obs:List O):cpA id g x obs (.arr .vec [ys] g' nn)=bif g == g' then cpAE id g nn ys obs (srcQ .int x obs (some id))else .bad:=rfl
theorem Q_cpAE (id g:Nat) (nn:Bool) (ys zs:List Int) (obs:List O):cpAE id g nn ys obs (.yes zs)=.ok True (.int .i64 (min zs.length 4:Nat)) (oSet obs id (.arr .vec [zs.take 4 ++ ys.drop zs.length] g nn)):=rfl
theorem AXB0:type_of% @selP_junk/\type_of% @selH_junk/\type_of% @selE_junk/\type_of% @selM_junk/\type_of% @selP_int/\type_of% @selH_int/\type_of% @selE_int/\type_of% @selM_int/\type_of% @selP_bool/\type_of% @selH_bool/\type_of% @selE_bool/\type_of% @selM_bool/\type_of% @selP_str/\type_of% @selH_str/\type_of% @selE_str/\type_of% @selM_str/\type_of% @selP_sl/\type_of% @selH_sl/\type_of% @selE_sl/\type_of% @selM_sl/\type_of% @selP_lr/\type_of% @selH_lr/\type_of% @selE_lr/\type_of% @selM_lr/\type_of% @selP_vec/\type_of% @selH_vec/\type_of% @selE_vec/\type_of% @selM_vec/\type_of% @selP_nils/\type_of% @selH_nils/\type_of% @selE_nils/\type_of% @selM_nils/\type_of% @selP_own/\type_of% @selH_own/\type_of% @selE_own/\type_of% @selM_own/\type_of% @selP_elt/\type_of% @selH_elt/\type_of% @selE_elt/\type_of% @selM_elt/\type_of% @selP_relt/\type_of% @selH_relt/\type_of% @selE_relt/\type_of% @selM_relt/\type_of% @selP_hdr/\type_of% @selH_hdr/\type_of% @selE_hdr/\type_of% @selM_hdr/\type_of% @selP_emp/\type_of% @selH_emp:=⟨@selP_junk,@selH_junk,@selE_junk,@selM_junk,@selP_int,@selH_int,@selE_int,@selM_int,@selP_bool,@selH_bool,@selE_bool,@selM_bool,@selP_str,@selH_str,@selE_str,@selM_str,@selP_sl,@selH_sl,@selE_sl,@selM_sl,@selP_lr,@selH_lr,@selE_lr,@selM_lr,@selP_vec,@selH_vec,@selE_vec,@selM_vec,@selP_nils,@selH_nils,@selE_nils,@selM_nils,@selP_own,@selH_own,@selE_own,@selM_own,@selP_elt,@selH_elt,@selE_elt,@selM_elt,@selP_relt,@selH_relt,@selE_relt,@selM_relt,@selP_hdr,@selH_hdr,@selE_hdr,@selM_hdr,@selP_emp,@selH_emp⟩
theorem AXB1:type_of% @selE_emp/\type_of% @selM_emp/\type_of% @selP_fn/\type_of% @selH_fn/\type_of% @selE_fn/\type_of% @selM_fn/\type_of% @selP_hp/\type_of% @selH_hp/\type_of% @selE_hp/\type_of% @selM_hp/\type_of% @selP_lenv/\type_of% @selH_lenv/\type_of% @selE_lenv/\type_of% @selM_lenv/\type_of% @selP_clo/\type_of% @selH_clo/\type_of% @selE_clo/\type_of% @selM_clo/\type_of% @selP_mv/\type_of% @selH_mv/\type_of% @selE_mv/\type_of% @selM_mv/\type_of% @selP_prv/\type_of% @selH_prv/\type_of% @selE_prv/\type_of% @selM_prv/\type_of% @selP_clo3/\type_of% @selH_clo3/\type_of% @selE_clo3/\type_of% @selM_clo3/\type_of% @bagH_dead/\type_of% @bagH_arr/\type_of% @bagH_mat/\type_of% @bagH_gm/\type_of% @bagH_mp/\type_of% @bagH_ap/\type_of% @bagH_cur/\type_of% @bagH_bag/\type_of% @bagH_nil/\type_of% @orBag_some/\type_of% @orBag_none/\type_of% @bagLoad_n/\type_of% @bagLoad_l/\type_of% @bagLoad_m/\type_of% @pairLoad_Q/\type_of% @prLd_bag/\type_of% @prLd_arr/\type_of% @pairSt_Q/\type_of% @prSt_arr/\type_of% @bagSt_Q:=⟨@selE_emp,@selM_emp,@selP_fn,@selH_fn,@selE_fn,@selM_fn,@selP_hp,@selH_hp,@selE_hp,@selM_hp,@selP_lenv,@selH_lenv,@selE_lenv,@selM_lenv,@selP_clo,@selH_clo,@selE_clo,@selM_clo,@selP_mv,@selH_mv,@selE_mv,@selM_mv,@selP_prv,@selH_prv,@selE_prv,@selM_prv,@selP_clo3,@selH_clo3,@selE_clo3,@selM_clo3,@bagH_dead,@bagH_arr,@bagH_mat,@bagH_gm,@bagH_mp,@bagH_ap,@bagH_cur,@bagH_bag,@bagH_nil,@orBag_some,@orBag_none,@bagLoad_n,@bagLoad_l,@bagLoad_m,@pairLoad_Q,@prLd_bag,@prLd_arr,@pairSt_Q,@prSt_arr,@bagSt_Q⟩
theorem AXB2:type_of% @bagSt1_pr/\type_of% @bagSt2_arr/\type_of% @bagStL_pr/\type_of% @bagSt2_mp/\type_of% @bagLook_v/\type_of% @bagUpd_v/\type_of% @bagAl_l/\type_of% @bagAl_m/\type_of% @allocX_p/\type_of% @allocX_b/\type_of% @allocX_r/\type_of% @allocX_v/\type_of% @boxX_n/\type_of% @boxX_p/\type_of% @boxX_v/\type_of% @bld_p/\type_of% @bld_v/\type_of% @fld_0/\type_of% @fld_1/\type_of% @mkfV_three/\type_of% @capT_clo3/\type_of% @fnOf_clo3/\type_of% @apCap_23/\type_of% @argOk_hp/\type_of% @argOkM_hp/\type_of% @argOkM_slB/\type_of% @leAV_hp/\type_of% @sz_pr/\type_of% @by_pr/\type_of% @fam_pr/\type_of% @Q_lenB/\type_of% @Q_idxB/\type_of% @Q_apB/\type_of% @Q_apB2/\type_of% @Q_cv_pr/\type_of% @X_bld/\type_of% @X_fld/\type_of% @loadX_sel/\type_of% @storeQX_eq/\type_of% @mlookX_sel/\type_of% @mupdX_sel/\type_of% @leO_bag/\type_of% @regO_bag:=⟨@bagSt1_pr,@bagSt2_arr,@bagStL_pr,@bagSt2_mp,@bagLook_v,@bagUpd_v,@bagAl_l,@bagAl_m,@allocX_p,@allocX_b,@allocX_r,@allocX_v,@boxX_n,@boxX_p,@boxX_v,@bld_p,@bld_v,@fld_0,@fld_1,@mkfV_three,@capT_clo3,@fnOf_clo3,@apCap_23,@argOk_hp,@argOkM_hp,@argOkM_slB,@leAV_hp,@sz_pr,@by_pr,@fam_pr,@Q_lenB,@Q_idxB,@Q_apB,@Q_apB2,@Q_cv_pr,@X_bld,@X_fld,@loadX_sel,@storeQX_eq,@mlookX_sel,@mupdX_sel,@leO_bag,@regO_bag⟩
theorem AXB:type_of% @selP_asl/\type_of% @selH_asl/\type_of% @selE_asl/\type_of% @selM_asl/\type_of% @wslice_elt/\type_of% @wsl_arr/\type_of% @copyV_asl/\type_of% @Q_cpA/\type_of% @Q_cpAE/\type_of% @buildQ_pr/\type_of% @Q_toE_pr/\type_of% @strOk_prv/\type_of% @AXB0/\type_of% @AXB1/\type_of% @AXB2:=⟨@selP_asl,@selH_asl,@selE_asl,@selM_asl,@wslice_elt,@wsl_arr,@copyV_asl,@Q_cpA,@Q_cpAE,@buildQ_pr,@Q_toE_pr,@strOk_prv,@AXB0,@AXB1,@AXB2⟩
theorem AXV:type_of% @argOk_clo/\type_of% @argOk_relt/\type_of% @reA_clo/\type_of% @leAV_clo/\type_of% @capT_clo/\type_of% @capT_fn/\type_of% @fnOf_clo/\type_of% @apCap_nil/\type_of% @apCap_one/\type_of% @apCap_two/\type_of% @allocV_row/\type_of% @X_mkf/\type_of% @mkfV_one/\type_of% @G_build/\type_of% @aGB_true/\type_of% @aGB_false/\type_of% @AXW/\type_of% @X_alloc/\type_of% @X_box/\type_of% @buildQ_vec/\type_of% @Q_toE_vec/\type_of% @strOk_vec/\type_of% @fresh_vec/\type_of% @dfl_vec/\type_of% @keyVec:=⟨@argOk_clo,@argOk_relt,@reA_clo,@leAV_clo,@capT_clo,@capT_fn,@fnOf_clo,@apCap_nil,@apCap_one,@apCap_two,@allocV_row,@X_mkf,@mkfV_one,@G_build,@aGB_true,@aGB_false,AXW,@X_alloc,@X_box,@buildQ_vec,@Q_toE_vec,@strOk_vec,@fresh_vec,@dfl_vec,@keyVec⟩
theorem AW7:type_of% @AXB/\type_of% @AW6/\type_of% @AXV/\type_of% @X_slice3/\type_of% @slice3V_own/\type_of% @Q_sl3/\type_of% @Q_lenA/\type_of% @Q_apOA/\type_of% @Q_apA/\type_of% @Q_load_hpA/\type_of% @leO_ap/\type_of% @leO_apa/\type_of% @leO_cur/\type_of% @regO_cur/\type_of% @Q_store_hpM/\type_of% @Q_store_hpC/\type_of% @X_appz/\type_of% @Q_zap/\type_of% @Q_zapO:=⟨@AXB,@AW6,@AXV,@X_slice3,@slice3V_own,@Q_sl3,@Q_lenA,@Q_apOA,@Q_apA,@Q_load_hpA,@leO_ap,@leO_apa,@leO_cur,@regO_cur,@Q_store_hpM,@Q_store_hpC,@X_appz,@Q_zap,@Q_zapO⟩
end Go.Aw
