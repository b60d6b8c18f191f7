/- Texts of this proof, joined. -/
import Derived.Test.YtkenggenkmfopaaGreatFag
import Derived.WalkKit
import Derived.ProofKit
import Derived.OpenShut
import Derived.Carry
import Derived.ChangeSame
import Derived.Below
set_option linter.unusedVariables false
set_option linter.unusedSimpArgs false

/-
 The value logic, part w: from a statement's reading of an argument to the argument as a value.
-/
namespace Go.V
open Go Go.RowKit

def MM(w:World)(b o:Nat):Prop:=∃v,w.cell? ⟨b,o,none⟩=some v∧v.oneCell'=true

theorem stM(w:World):St w (MM w) [] []:=by
 refine⟨rfl,fun i g e h=>by simp at h,fun i j g g' b h=>by simp at h,fun i g b h=>by simp at h,fun b o ⟨v,h,_⟩=>?_,fun b o v ⟨v',h,h1⟩ h2=>by rw[h] at h2;cases h2;exact h1⟩
 by_cases hb:b<w.heap.size
 ·exact hb
 ·exfalso
  unfold World.cell? at h
  simp only at h
  rw[Array.getElem?_eq_none (by omega)] at h
  simp at h

theorem qcit{w w':World}{M M':Nat->Nat->Prop}{G':List Gh}(h:Ext w M [] w' M' G'):Below w.heap.size w w' :=
 ⟨h.os,h.tape,h.output,h.size,fun k hk=>h.out k hk (fun ⟨i,g,hg,_⟩=>by simp at hg)⟩

theorem qwe{α β:Type}{f:α->Option β}:∀{l:List α} {r:List β},l.mapM f=some r->r.length=l.length∧∀(j:Nat) (y:β),r[j]?=some y->∃x,l[j]?=some x∧f x=some y
 | [], r, h => by
   simp only[List.mapM_nil,Option.pure_def,Option.some.injEq] at h
   subst h
   exact⟨rfl,fun j y hj=>by simp at hj⟩
 | a :: l, r, h => by
   simp only[List.mapM_cons,Option.bind_eq_bind,Option.pure_def] at h
   obtain⟨b,h1,h2⟩:=Option.bind_eq_some_iff.1 h
   obtain⟨r',h3,h4⟩:=Option.bind_eq_some_iff.1 h2
   simp only[Option.some.injEq] at h4
   subst h4
   obtain⟨q1,q2⟩:=qwe h3
   refine⟨by simp[q1],fun j y hj=>?_⟩
   cases j with
   | zero=>simp at hj;subst hj;exact⟨a,rfl,h1⟩
   | succ j=>simp at hj;obtain⟨x,r1,r2⟩:=q2 j y hj;exact⟨x,by simpa using r1,r2⟩
theorem qwp{α β:Type}{f:α->Option β}{l:List α}{r:List β}(h:l.mapM f=some r):∀x∈l,∃y,f x=some y:=by
 intro x hx
 obtain⟨h1,h2⟩:=qwe h
 obtain⟨j,hj⟩:=List.mem_iff_getElem?.1 hx
 have hjl:=(List.getElem?_eq_some_iff.1 hj).1
 obtain⟨x',q1,q2⟩:=h2 j (r[j]'(by omega)) (by rw[List.getElem?_eq_getElem])
 rw[hj] at q1
 simp only[Option.some.injEq] at q1
 subst q1
 exact⟨_,q2⟩

def elA(P:Program)(T:TypeId)(ds:List AV):AV :=
 match P.underlying T with
 | some (.struct _) | some (.array _ _)=>.agg ds
 | _=>ds.headD .junk
def fieldsOf(fs:Array Field):List (TypeId×Nat):=fs.toList.map fun x=>(x.type,x.offset)
def qja(P:Program)(n:Nat)(e:TypeId):List (TypeId×Nat):=(List.range n).map fun i=>(e,i*P.cellsOf e)
def TC(P:Program):Nat->TypeId->List AV->Prop
 | 0,_,_=>False
 | f + 1, T, cs => match P.underlying T with
   | some (.int k)=>∃n,cs=[.int k n]
   | some .string=>∃l,cs=[.str l]
   | some .bool=>∃b,cs=[.bool b]
   | some (.slice S)=>∃es,cs=[.sl (P.cellsOf S) es]∧∀e∈es,∃ds,TC P f S ds∧e=elA P S ds
   | some (.struct fs)=>cs.length=P.cellsOf T∧∀x∈fieldsOf fs,TC P f x.1 ((cs.drop x.2).take (P.cellsOf x.1))
   | some (.array n e)=>cs.length=P.cellsOf T∧∀x∈qja P n e,TC P f x.1 ((cs.drop x.2).take (P.cellsOf x.1))
   | _=>False
def qq9(P:Program):Nat->List (TypeId×Nat)->Nat->Bool
 | o,[],n=>o == n
 | o,x::r,n=>x.2 == o&&qq9 P (o+P.cellsOf x.1) r n
def qo3(P:Program)(L:List TypeId)(T:TypeId):Bool :=
 match P.underlying T with
 | some (.int _) | some .string | some .bool=>P.cellsOf T == 1
 | some (.slice S)=>L.contains S&&P.cellsOf S != 0&&P.cellsOf T == 1
 | some (.struct fs)=>qq9 P 0 (fieldsOf fs) (P.cellsOf T)&&(fieldsOf fs).all fun x=>L.contains x.1
 | some (.array n e)=>qq9 P 0 (qja P n e) (P.cellsOf T)&&L.contains e
 | _=>false

theorem qys{P:Program}:∀{l:List (TypeId×Nat)} {o n:Nat},qq9 P o l n=true->o≤n
 | [],o,n,h=>by simp only[qq9,beq_iff_eq] at h;omega
 | x :: r, o, n, h => by
   simp only[qq9,Bool.and_eq_true] at h
   have:=qys h.2
   omega

section
variable {H:Type} {enc':TypeId×Value->H} {P:Program} {w:World} {base:Nat} {sp:Nat->Bool} {held:Bool}

theorem qqf{a:Addr}{n:Nat}{cs:List Value}(h:w.cells? base a n=some cs):cs.length=n∧∀(j:Nat) (v:Value),cs[j]?=some v->w.cell? (a.add j)=some v:=by
 unfold World.cells? at h
 split at h
 ·obtain⟨h1,h2⟩:=qwe h
  refine⟨by simpa using h1,fun j v hj=>?_⟩
  obtain⟨x,q1,q2⟩:=h2 j v hj
  rw[List.getElem?_range (by have:=(List.getElem?_eq_some_iff.1 q1).1;simpa using this)] at q1
  simp only[Option.some.injEq] at q1
  subst q1
  exact q2
 ·cases h

theorem qsx{m:Nat}:∀{us:List Value},(∀u∈us,u.cells.size=m)->∀{j:Nat} {v:Value},(us.flatMap (·.cells.toList))[j]?=some v->∃i q u,us[i]?=some u∧u.cells.toList[q]?=some v∧j=i*m+q
 | [],_,j,v,h=>by simp at h
 | u :: us, hm, j, v, h => by
   rw[List.flatMap_cons] at h
   have hu:u.cells.toList.length=m:=by simpa using hm u (by simp)
   by_cases hj:j<m
   ·rw[List.getElem?_append_left (by omega)] at h
    exact⟨0,j,u,rfl,h,by omega⟩
   ·rw[List.getElem?_append_right (by omega),hu] at h
    obtain⟨i,q,u',h1,h2,h3⟩:=qsx (fun u hu=>hm u (by simp[hu])) h
    exact⟨i+1,q,u',h1,h2,by rw[Nat.add_mul];omega⟩

def elV(P:Program)(T:TypeId)(cs:List Value):Value :=
 match P.underlying T with
 | some (.struct _) | some (.array _ _)=>.agg cs.toArray
 | _=>cs.headD .nilIface

theorem q72{f n:Nat}{cs:List Value}(hcs:cs.length=n):∀(l:List (TypeId×Nat)) (o:Nat),qq9 P o l n=true →
 (∀x∈l,∃as,TC P f x.1 as∧VRs w (MM w) [] as ((cs.drop x.2).take (P.cellsOf x.1))∧as.all AV.leaf=true) →
 ∃as,VRs w (MM w) [] as (cs.drop o)∧as.all AV.leaf=true∧∀x∈l,o≤x.2∧TC P f x.1 ((as.drop (x.2-o)).take (P.cellsOf x.1))
 | [], o, ht, _ => by
   simp only[qq9,beq_iff_eq] at ht
   refine⟨[],?_,rfl,fun x hx=>by simp at hx⟩
   rw[List.drop_of_length_le (by omega)];rfl
 | x :: r, o, ht, h => by
   simp only[qq9,Bool.and_eq_true,beq_iff_eq] at ht
   obtain⟨hx,ht⟩:=ht
   have hle:=qys ht
   obtain⟨a0,q1,q2,q3⟩:=h x (by simp)
   obtain⟨as,r1,r2,r3⟩:=q72 hcs r _ ht fun y hy=>h y (by simp[hy])
   rw[hx] at q2
   have hl:a0.length=P.cellsOf x.1:=by
    have:=qh q2
    rw[List.length_take,List.length_drop] at this
    omega
   refine⟨a0++as,?_,by rw[List.all_append,q3,r2];rfl,fun y hy=>?_⟩
   ·have:=qbu q2 r1
    rw[←List.drop_drop,List.take_append_drop] at this
    exact this
   ·rcases List.mem_cons.1 hy with rfl | hy
    ·refine⟨by omega,?_⟩
     rw[hx,Nat.sub_self,List.drop_zero,List.take_append_of_le_length (by omega),List.take_of_length_le (by omega)]
     exact q1
    ·obtain⟨s1,s2⟩:=r3 y hy
     refine⟨by omega,?_⟩
     rw[List.drop_append,List.drop_of_length_le (by omega),List.nil_append,hl,show y.2-o-P.cellsOf x.1=y.2-(o+P.cellsOf x.1) by omega]
     exact s2

theorem qcns{S:TypeId}{as:List AV}{cs:List Value}(h:VRs w (MM w) [] as cs)(hl:as.all AV.leaf=true)(hn:as.length=P.cellsOf S)
 (h1:(∀fs,P.underlying S≠some (.struct fs))->(∀n e,P.underlying S≠some (.array n e))->P.cellsOf S=1) :
 VR w (MM w) [] (elA P S as) (elV P S cs)∧(elV P S cs).cells.toList=cs:=by
 unfold elA elV
 split
 ·exact⟨⟨cs,rfl,h⟩,by simp[Value.cells]⟩
 ·exact⟨⟨cs,rfl,h⟩,by simp[Value.cells]⟩
 ·rename_i g1 g2
  have:=h1 g1 g2
  match as,h,hn,hl with
  | [a], h, _, hl =>
    obtain⟨v,r,rfl,h2,h3⟩:=h
    simp only[VRs] at h3
    subst h3
    simp only[List.headD_cons]
    refine⟨h2,?_⟩
    rw[(qg5 h2 (by simpa using hl)).2]
  | [],_,hn,_=>simp only[List.length_nil] at hn;omega
  | _::_::_,_,hn,_=>simp only[List.length_cons] at hn;omega

theorem qrt{L:List TypeId}{S:TypeId}(h:qo3 P L S=true)(g1:∀fs,P.underlying S≠some (.struct fs))(g2:∀n e,P.underlying S≠some (.array n e)):P.cellsOf S=1:=by
 unfold qo3 at h
 split at h
 all_goals first
  | (simp only[beq_iff_eq] at h;exact h)
  | (simp only[Bool.and_eq_true,beq_iff_eq] at h;exact h.2)
  | (rename_i hu;exact absurd hu (g1 _))
  | (rename_i hu;exact absurd hu (g2 _ _))
  | (cases h)

theorem qb7j{L:List TypeId}(hL:L.all (qo3 P L)=true):∀(fuel:Nat) (T:TypeId) (cs:List Value) (x:DataW H×List MemPlace),T∈L->DataW.trod enc' P w base sp held fuel T cs=some x →
 ∃as,TC P fuel T as∧VRs w (MM w) [] as cs∧as.all AV.leaf=true∧as.length=P.cellsOf T:=by
 intro fuel
 induction fuel with
 | zero=>intro T cs x _ h;simp[DataW.trod] at h
 | succ f ih =>
   intro T cs x hT h
   have hp:=List.all_eq_true.1 hL T hT
   have hP:=hp
   unfold qo3 at hp
   split at hp
   ·rename_i k hu
    simp only[DataW.trod,hu] at h
    simp only[TC,hu]
    split at h<;>first | (simp at *;done) | skip
    rename_i k2 k3 n h1
    simp only[Option.some.injEq,TypeDesc.int.injEq] at h1
    subst h1
    split at h
    ·rename_i h3
     obtain⟨rfl,h3⟩:=h3
     exact⟨_,⟨n,rfl⟩,⟨_,_,rfl,⟨rfl,h3⟩,rfl⟩,rfl,by simpa using(beq_iff_eq.1 hp).symm⟩
    ·cases h
   ·rename_i hu
    simp only[DataW.trod,hu] at h
    simp only[TC,hu]
    split at h<;>first | (simp at *;done) | skip
    rename_i s h1
    try(split at h)
    ·rename_i h3
     exact⟨_,⟨s.data.toList,rfl⟩,⟨_,_,rfl,⟨by simp,by simpa using h3⟩,rfl⟩,rfl,by simpa using(beq_iff_eq.1 hp).symm⟩
    ·cases h
   ·rename_i hu
    simp only[DataW.trod,hu] at h
    simp only[TC,hu]
    split at h<;>first | (simp at *;done) | skip
    rename_i b h1
    exact⟨_,⟨b,rfl⟩,⟨_,_,rfl,rfl,rfl⟩,rfl,by simpa using(beq_iff_eq.1 hp).symm⟩
   ·rename_i S hu
    simp only[Bool.and_eq_true,beq_iff_eq,bne_iff_ne,ne_eq] at hp
    obtain⟨⟨hS,hc0⟩,hc1⟩:=hp
    have hS:S∈L:=by simpa using hS
    have hSp:=List.all_eq_true.1 hL S hS
    simp only[DataW.trod,hu] at h
    simp only[TC,hu]
    split at h<;>first | (simp at *;done) | skip
    ·exact⟨_,⟨[],rfl,fun e he=>by simp at he⟩,⟨_,_,rfl,⟨none,0,[],rfl,⟨by simp,by simp[maxLen],by simp,rfl⟩,rfl⟩,rfl⟩,rfl,by simpa using hc1.symm⟩
    ·rename_i e a len cap he
     simp only[Option.some.injEq,TypeDesc.slice.injEq] at he
     subst he
     split at h
     ·rename_i hb
      obtain⟨elems,h1,h2⟩:=Option.bind_eq_some_iff.1 h
      have hex:∀i,∃p:List Value×List AV,i<len->w.cells? base (a.add (i*P.cellsOf S)) (P.cellsOf S)=some p.1∧TC P f S p.2∧VRs w (MM w) [] p.2 p.1∧p.2.all AV.leaf=true∧p.2.length=P.cellsOf S:=fun i=>by
       by_cases hi:i<len
       ·obtain⟨y,hy⟩:=qwp h1 i (List.mem_range.2 hi)
        obtain⟨cs,q1,q2⟩:=Option.bind_eq_some_iff.1 hy
        obtain⟨as,r1,r2,r3,r4⟩:=ih S cs y hS q2
        exact⟨(cs,as),fun _=>⟨q1,r1,r2,r3,r4⟩⟩
       ·exact⟨([],[]),fun h=>absurd h hi⟩
      obtain⟨g,hg⟩:=Classical.axiomOfChoice hex
      have hel:∀i,i<len->VR w (MM w) [] (elA P S (g i).2) (elV P S (g i).1)∧(elV P S (g i).1).cells.toList=(g i).1:=fun i hi=>by
       obtain⟨_,_,q2,q3,q4⟩:=hg i hi
       exact qcns q2 q3 q4 (qrt hSp)
      have hus:((List.range len).map fun i=>elV P S (g i).1).length=len:=by simp
      have hsz:∀u∈(List.range len).map (fun i=>elV P S (g i).1),u.cells.size=P.cellsOf S:=fun u hu=>by
       obtain⟨i,hi,rfl⟩:=List.mem_map.1 hu
       have hi:=List.mem_range.1 hi
       rw[←Array.length_toList,(hel i hi).2]
       exact(qqf (hg i hi).1).1
      refine⟨[.sl (P.cellsOf S) ((List.range len).map fun i=>elA P S (g i).2)],⟨_,rfl,fun e he=>?_⟩,⟨_,_,rfl,⟨some a,cap,(List.range len).map fun i=>elV P S (g i).1,?_,⟨by rw[hus];exact hb.2.1,hb.2.2,hsz,?_⟩,by rw[hus]⟩,rfl⟩,rfl,by simpa using hc1.symm⟩
      ·obtain⟨i,hi,rfl⟩:=List.mem_map.1 he
       exact⟨_,(hg i (List.mem_range.1 hi)).2.1,rfl⟩
      ·have key:∀l:List Nat,(∀i∈l,i<len)->VRs w (MM w) [] (l.map fun i=>elA P S (g i).2) (l.map fun i=>elV P S (g i).1):=by
        intro l
        induction l with
        | nil=>intro _;rfl
        | cons i r ihr=>intro hl;exact⟨_,_,rfl,(hel i (hl i (by simp))).1,ihr fun j hj=>hl j (by simp[hj])⟩
       exact key _ fun i hi=>List.mem_range.1 hi
      ·by_cases h0:len=0
       ·subst h0;exact .inl rfl
       ·have hspot:a.spot=none:=by
         have hq:=qqf (hg 0 (by omega)).1
         have hc2:=hq.2 0 ((g 0).1[0]'(by omega)) (by rw[List.getElem?_eq_getElem])
         have:=World.cell?_spot hc2
         by_cases ha:a.spot=none
         ·exact ha
         ·exfalso
          revert this
          unfold Addr.add
          cases hs:a.spot with
          | none=>exact absurd hs ha
          | some z=>simp[hs]
        refine .inr ⟨hspot,fun j v hj=>?_⟩
        obtain⟨i,q,u,r1,r2,r3⟩:=qsx hsz hj
        have hi:=(List.getElem?_eq_some_iff.1 r1).1
        rw[hus] at hi
        rw[List.getElem?_map,List.getElem?_range hi] at r1
        simp only[Option.map_some,Option.some.injEq] at r1
        subst r1
        rw[(hel i hi).2] at r2
        obtain⟨z1,z2,z3,z4,z5⟩:=hg i hi
        have hcell:=(qqf z1).2 q v r2
        rw[qjg hspot,qel] at hcell
        have hone:v.oneCell'=true:=qmv z3 z4 v (List.mem_of_getElem? r2)
        have he:a.off+j=a.off+i*P.cellsOf S+q:=by omega
        rw[he]
        exact⟨hcell,v,hcell,hone⟩
     ·cases h
   ·rename_i fs hu
    simp only[Bool.and_eq_true,List.all_eq_true] at hp
    simp only[DataW.trod,hu] at h
    simp only[TC,hu]
    split at h
    ·rename_i hlen
     obtain⟨xs,h1,_⟩:=Option.map_eq_some_iff.1 h
     have hg:=qwp h1
     obtain⟨as,r1,r2,r3⟩:=q72 (P:=P) (w:=w) (f:=f) hlen (fieldsOf fs) 0 hp.1 fun x hx=>by
      obtain⟨z,hz,rfl⟩:=List.mem_map.1 hx
      obtain⟨y,hy⟩:=hg z hz
      obtain⟨as,r1,r2,r3,_⟩:=ih z.type _ y (by simpa using hp.2 _ hx) hy
      exact⟨as,r1,r2,r3⟩
     rw[List.drop_zero] at r1
     have hl:=qh r1
     exact⟨as,⟨by omega,fun x hx=>by simpa using(r3 x hx).2⟩,r1,r2,by omega⟩
    ·cases h
   ·rename_i n e hu
    simp only[Bool.and_eq_true] at hp
    simp only[DataW.trod,hu] at h
    simp only[TC,hu]
    split at h
    ·rename_i hlen
     obtain⟨xs,h1,_⟩:=Option.map_eq_some_iff.1 h
     have hg:=qwp h1
     obtain⟨as,r1,r2,r3⟩:=q72 (P:=P) (w:=w) (f:=f) hlen (qja P n e) 0 hp.1 fun x hx=>by
      obtain⟨z,hz,rfl⟩:=List.mem_map.1 hx
      obtain⟨y,hy⟩:=hg z hz
      obtain⟨as,r1,r2,r3,_⟩:=ih e _ y (by simpa using hp.2) hy
      exact⟨as,r1,r2,r3⟩
     rw[List.drop_zero] at r1
     have hl:=qh r1
     exact⟨as,⟨by omega,fun x hx=>by simpa using(r3 x hx).2⟩,r1,r2,by omega⟩
    ·cases h
   ·cases hp

theorem q64{L:List TypeId}(hL:L.all (qo3 P L)=true){T:TypeId}(hT:T∈L){v:Value}{d:DataW H}{p:List MemPlace}{b:Nat}(hok:Value.okWide P w .any b T v)
 (h:DataW.Trod enc' P w 0 (fun _=>true) true T v d p):∃f as,TC P f T as∧VR w (MM w) [] (elA P T as) v:=by
 obtain⟨fuel,hf⟩:=h
 obtain⟨as,h1,h2,h3,h4⟩:=qb7j hL fuel T _ _ hT hf
 refine⟨fuel,as,h1,?_⟩
 have hp:=qrt (List.all_eq_true.1 hL T hT)
 unfold Value.okWide at hok
 unfold elA
 split
 ·rename_i fs hu
  rw[hu] at hok
  obtain⟨cs,rfl,_,_⟩:=hok
  exact⟨cs.toList,by simp,by simpa [Value.cells] using h2⟩
 ·rename_i n e hu
  rw[hu] at hok
  obtain⟨cs,rfl,_,_⟩:=hok
  exact⟨cs.toList,by simp,by simpa [Value.cells] using h2⟩
 ·rename_i g1 g2
  have hone:=hp (fun fs h=>g1 fs h) (fun n e h=>g2 n e h)
  have hv:v.cells.toList=[v]:=by
   cases v
   case agg cs =>
    exfalso
    cases hu:P.underlying T with
    | none=>rw[hu] at hok;simp[Cell.okWide,Cell.ok,hu] at hok
    | some u =>
      rw[hu] at hok
      cases u<;>first
       | (simp[Cell.okWide,Cell.ok,hu] at hok;done)
       | exact g1 _ hu
       | exact g2 _ _ hu
   all_goals rfl
  rw[hv] at h2
  match as,h2,h4 with
  | [a], h2, _ =>
    obtain⟨x,r,hx,h5,h6⟩:=h2
    simp only[List.cons.injEq] at hx
    rw[hx.1]
    exact h5
  | [],_,h4=>simp only[List.length_nil] at h4;omega
  | _::_::_,_,h4=>simp only[List.length_cons] at h4;omega
end

section
variable {P:Program} {f:Nat} {T S:TypeId} {k:IntKind} {cs:List AV}
theorem qi3(hT:P.underlying T=some (.int k))(h:TC P f T cs):∃n,cs=[.int k n]:=by
 cases f with
 | zero=>exact h.elim
 | succ f=>simpa only[TC,hT] using h
theorem q3c(hT:P.underlying T=some .string)(h:TC P f T cs):∃l,cs=[.str l]:=by
 cases f with
 | zero=>exact h.elim
 | succ f=>simpa only[TC,hT] using h
theorem q5d(hT:P.underlying T=some (.slice S))(h:TC P f T cs):∃f' es,f=f'+1∧cs=[.sl (P.cellsOf S) es]∧∀e∈es,∃ds,TC P f' S ds∧e=elA P S ds:=by
 cases f with
 | zero=>exact h.elim
 | succ f =>
   simp only[TC,hT] at h
   obtain⟨es,h1,h2⟩:=h
   exact⟨f,es,rfl,h1,h2⟩
theorem qb5t{fs:Array Field}(hT:P.underlying T=some (.struct fs))(h:TC P f T cs):∃f',f=f'+1∧cs.length=P.cellsOf T∧∀x∈fieldsOf fs,TC P f' x.1 ((cs.drop x.2).take (P.cellsOf x.1)):=by
 cases f with
 | zero=>exact h.elim
 | succ f =>
   simp only[TC,hT] at h
   exact⟨f,rfl,h⟩
theorem qcja{n:Nat}(hT:P.underlying T=some (.array n S))(h:TC P f T cs):∃f',f=f'+1∧cs.length=P.cellsOf T∧∀x∈qja P n S,TC P f' x.1 ((cs.drop x.2).take (P.cellsOf x.1)):=by
 cases f with
 | zero=>exact h.elim
 | succ f =>
   simp only[TC,hT] at h
   exact⟨f,rfl,h⟩
theorem quc{fs:Array Field}(hT:P.underlying T=some (.struct fs))(ds:List AV):elA P T ds=.agg ds:=by unfold elA;rw[hT]
theorem qb9o{n:Nat}(hT:P.underlying T=some (.array n S))(ds:List AV):elA P T ds=.agg ds:=by unfold elA;rw[hT]
theorem qbpg(hT:P.underlying T=some (.int k))(a:AV):elA P T [a]=a:=by unfold elA;rw[hT];rfl
theorem qckd(hT:P.underlying T=some (.slice S))(a:AV):elA P T [a]=a:=by unfold elA;rw[hT];rfl
theorem qn0{α:Type}[Inhabited α]{enc:α->AV}{f':Nat}{es:List AV}(he:∀e∈es,∃ds,TC P f' S ds∧e=elA P S ds)(h:∀ds,TC P f' S ds->∃a,elA P S ds=enc a):∃l:List α,es=l.map enc:=by
 induction es with
 | nil=>exact⟨[],rfl⟩
 | cons e es ih =>
   obtain⟨l,rfl⟩:=ih fun e he'=>he e (by simp[he'])
   obtain⟨ds,h1,rfl⟩:=he e (by simp)
   obtain⟨a,ha⟩:=h ds h1
   exact⟨a::l,by rw[ha];rfl⟩
end

section
open Go.ChangeShapes Go.WideShapes Go.ChangeAt
variable {H:Type} {enc':TypeId×Value->H} {P:Program}
theorem q0b{f:Func}{s:ChangeSpec}{qf4 fresh handsOn again:Bool}{W W':World}{args:Array Value}{v:Value}{ds gs:List (DataW H)}{before pa pv:List MemPlace}
 (hW:DataW.Whole enc' P f.params.toList s.vars qf4 W args.toList ds gs before)
 (hres:∀(b:Nat) (sp:Nat->Bool) (hd:Bool),DataW.TrodAll enc' P W' b sp hd f.resultTypes.toList (v.resultList f.resultTypes.size) (s.fn H (ds++gs)).results [])
 (hargs:∀sp:Nat->Bool,(∀p∈before,sp p.block=true)->DataW.TrodAll enc' P W' 0 sp true f.params.toList args.toList (s.fn H (ds++gs)).args pa)
 (hvars:∀sp:Nat->Bool,(∀p∈before,sp p.block=true)->DataW.TrodVars enc' P W' sp s.vars (s.fn H (ds++gs)).vars pv)
 (hps:before=pa++pv) (hb:Below W.heap.size W W')
 (hok:∀(j:Nat) (t:TypeId) (r:Value),f.resultTypes[j]?=some t->(v.resultList f.resultTypes.size)[j]?=some r->Value.okWide P W' .any 0 t r) :
 s.post enc' P f qf4 fresh handsOn again W args v W':=by
 have hlt:∀p∈before,p.block<W.heap.size:=fun p hp=>hW.lt p hp
 have hold:∀p∈before,(fun b=>decide (b<W.heap.size)) p.block=true:=fun p hp=>by simpa using hlt p hp
 refine⟨ds,gs,before,[],pa,pv,hW,hres _ _ _,hargs _ hold,hvars _ hold,World.keptBut_mono (fun p hp=>⟨hp,?_⟩) (hb.frame (·∈before)),fun _=>?_⟩
 ·rw[hps,List.mem_append] at hp
  exact Or.inr hp
 ·obtain⟨_,_,_,_,_,hz,hn⟩:=hW
  refine⟨hok,_,_,([]++pa)++pv,⟨[]++pa,pv,trodAll_append (hargs _ (fun _ _=>rfl)) (hres _ _ _),hvars _ (fun _ _=>rfl),rfl,?_,?_⟩,?_⟩
  ·intro b off hp
   have hin:MemPlace.cell b off∈before:=by rw[hps];simpa using hp
   rw[hb.frozen (hlt _ hin)]
   exact hz b off hin
  ·intro ha
   have:=hn ha
   rw[hps] at this
   simpa using this
  ·intro p hp _
   rw[hps]
   simpa using hp
end


def bunR(H0:List Ent):World->(Nat->Nat->Prop)->Gh->Prop:=fun w M g =>
 ∃ G0 : List Gh, G0.length = H0.length ∧ (∀ (i : Nat) (g : Gh) (e : Ent), G0[i]? = some g → H0[i]? = some e → qhy w M G0 g e) ∧
   (∀(i j:Nat) (g g':Gh) (b:Nat),G0[i]?=some g->G0[j]?=some g'->g.fp b->g'.fp b->i=j) ∧
   (∃g0,G0[0]?=some g0∧g0.core=g.core)∧∀b,g.fp b↔own G0 b
abbrev bun(H0:List Ent):Ent:=.cus (bunR H0)
theorem qmx{H0:List Ent}{g:Gh}:Stab (bunR H0) g:=by
 rintro w M w' M' ha ⟨G0,h1,h2,h3,h4,h5⟩
 refine⟨G0,h1,fun i g' e hg he=>?_,h3,h4,h5⟩
 have hfp:∀b,g'.fp b->g.fp b:=fun b hb=>(h5 b).2 ⟨i,g',hg,hb⟩
 exact qfp (fun j g hj=>⟨g,hj,rfl⟩) ⟨fun b hb=>ha.same b (hfp b hb),ha.le,fun b o hb hm=>ha.fresh b o (hfp b hb) hm,ha.size⟩ (h2 i g' e hg he)

section
variable {P:Program} {f:FuncId} {fv:AV} {H0 H H':List Ent} {args:List AV} {Q0 Q:List Ent->VO->Prop} {fr:Option Nat} {n m:Nat} {a:IC} {QV:VE->AF->List Ent->Prop} {af:AF}

theorem qbd0{w:World}{M:Nat->Nat->Prop}{G:List Gh}(hst:St w M G [bun H0]):∃g G0,G=[g]∧St w M G0 H0∧(∃g0,G0[0]?=some g0∧g0.core=g.core)∧∀b,g.fp b↔own G0 b:=by
 have hl:=hst.len
 obtain⟨g,rfl⟩:∃g,G=[g]:=by
  cases G with
  | nil=>simp at hl
  | cons g r => cases r with
    | nil=>exact⟨g,rfl⟩
    | cons _ _=>simp at hl
 obtain⟨⟨G0,h1,h2,h3,h4,h5⟩,_⟩:=hst.ok 0 g _ rfl rfl
 exact⟨g,G0,rfl,⟨h1,h2,h3,fun i g' b hg hb=>hst.lt 0 g b rfl ((h5 b).2 ⟨i,g',hg,hb⟩),hst.Mlt,hst.one⟩,h4,h5⟩

def qdk(Q:List Ent->VO->Prop)(H':List Ent)(o:VO):Prop :=
 ∃(H1:List Ent) (sel:List Nat),sg sel 0=0∧0<H1.length∧sel.Nodup∧qex H' sel H1.length H1 sel∧o.bd 1=true∧Q [bun H1] o

theorem qbgu{w:World}{M:Nat->Nat->Prop}{G G':List Gh}(hG:∀g,G[0]?=some g->∃g':Gh,G'[0]?=some g'∧g'.core=g.core){v:AV}{x:Value}(hb:v.bd 1=true)(h:VR w M G v x):VR w M G' v x:=by
 have:=qog (σ:=id) (m:=1) (G':=G') (fun i g hi hg=>(by have hi0:i=0:=(by omega);subst hi0;exact hG g hg)) (fun b o h=>⟨h,rfl⟩) v x hb h
 rwa [ren_same (σ:=id) (m:=1) (fun _ _=>rfl) v hb] at this
theorem q36{w:World}{M:Nat->Nat->Prop}{G G':List Gh}(hG:∀g,G[0]?=some g->∃g':Gh,G'[0]?=some g'∧g'.core=g.core){v:List AV}{x:List Value}(hb:AV.bds 1 v=true)(h:VRs w M G v x):VRs w M G' v x:=by
 have:=qc3 (σ:=id) (m:=1) (G':=G') (fun i g hi hg=>(by have hi0:i=0:=(by omega);subst hi0;exact hG g hg)) (fun b o h=>⟨h,rfl⟩) v x hb h
 rwa [qp (σ:=id) (m:=1) (fun _ _=>rfl) v hb] at this

theorem qbwf{w:World}{M:Nat->Nat->Prop}{g:Gh}{G0:List Gh}(hst:St w M [g] [bun H0])(h0:∃g0,G0[0]?=some g0∧g0.core=g.core)(hfp:∀b,g.fp b↔own G0 b){e:Ending}{w':World}
 (h:Out (qdk Q) w M G0 e w'):Out Q w M [g] e w':=by
 have key:∀{M':Nat->Nat->Prop} {G':List Gh} {H' H1:List Ent} {sel:List Nat},Ext w M G0 w' M' G'->St w' M' G' H'->sg sel 0=0->0<H1.length->sel.Nodup->qex H' sel H1.length H1 sel →
  ∃g':Gh,Ext w M [g] w' M' [g']∧St w' M' [g'] [bun H1]∧∀v x,v.bd 1=true->VR w' M' G' v x->VR w' M' [g'] v x:=by
  intro M' G' H' H1 sel hx hs s0 hpos hn he
  obtain⟨e1,e2⟩:=qbv he
  have hsel:∀i∈sel,i<H'.length:=qiq he
  obtain⟨G1,q1,q2⟩:=qnm (H0:=H1) hn hsel e1.symm (fun j e hj=>by
   have hjl:=(List.getElem?_eq_some_iff.1 hj).1
   exact(e2 j e _ hj (qe8 (by omega))).2) hs
  obtain⟨g0,k1,k2⟩:=h0
  obtain⟨g1,k3,k4⟩:=hx.core 0 g0 k1
  have hpos':0<G1.length:=by rw[q1.len];exact hpos
  obtain⟨g2,k5,k6,k7⟩:=q2 0 _ (List.getElem?_eq_getElem hpos')
  rw[s0,k3] at k5
  simp only[Option.some.injEq] at k5
  subst k5
  have hown:∀b,own G1 b->own G' b:=fun b ⟨j,gj,hj,hb⟩=>by
   obtain⟨g3,r1,r2,r3⟩:=q2 j gj hj
   exact⟨_,g3,r1,r3 b hb⟩
  have hown1:∀b,own [({ g with fp:=fun b=>own G1 b }:Gh)] b↔own G1 b:=fun b=>⟨fun ⟨j,gj,hj,hb⟩=>by
   cases j with
   | zero=>simp at hj;subst hj;exact hb
   | succ j=>simp at hj,fun h=>⟨0,_,rfl,h⟩⟩
  have hown2:∀b,own [g] b↔own G0 b:=fun b=>⟨fun ⟨j,gj,hj,hb⟩=>by
   cases j with
   | zero=>simp at hj;subst hj;exact(hfp b).1 hb
   | succ j=>simp at hj,fun h=>⟨0,_,rfl,(hfp b).2 h⟩⟩
  refine⟨{ g with fp:=fun b=>own G1 b },⟨hx.os,hx.tape,hx.output,hx.size,fun i gi hi=>?_,hx.le,fun b hb ho=>hx.out b hb (fun hc=>ho ((hown2 b).2 hc)),fun b hb=>?_,fun b o hm=>?_⟩,⟨rfl,fun i gi e hi he'=>?_,fun i j g1 g2 b h1 h2 _ _=>?_,fun i gi b hi hb=>?_,hs.Mlt,hs.one⟩,fun v x hb hv=>?_⟩
  ·cases i with
   | zero=>simp at hi;subst hi;exact⟨_,rfl,rfl⟩
   | succ i=>simp at hi
  ·rcases hx.new b (hown b ((hown1 b).1 hb)) with h | h
   ·exact .inl ((hown2 b).2 h)
   ·exact .inr h
  ·rcases hx.Mnew b o hm with h | h | h
   ·exact .inl h
   ·exact .inr (.inl ((hown2 b).2 h))
   ·exact .inr (.inr h)
  ·cases i with
   | succ i=>simp at hi
   | zero =>
     simp at hi he'
     subst hi he'
     exact⟨⟨G1,q1.len,q1.ok,q1.dj,⟨_,List.getElem?_eq_getElem hpos',(k6.trans k4).trans k2⟩,fun b=>Iff.rfl⟩,qmx⟩
  ·cases i<;>cases j<;>simp at h1 h2<;>rfl
  ·cases i with
   | succ i=>simp at hi
   | zero=>simp at hi;subst hi;obtain⟨j,gj,hj,hb⟩:=hb;exact q1.lt j gj b hj hb
  ·refine qbgu (fun gz hz=>?_) hb hv
   rw[k3] at hz
   simp only[Option.some.injEq] at hz
   subst hz
   exact⟨_,rfl,(k4.trans k2).symm⟩
 cases e with
 | returned x =>
   obtain⟨M',G',H',v,⟨H1,sel,s0,hp,hn,he,hb,hq⟩,hx,hs,hv⟩:=h
   obtain⟨g',r1,r2,r3⟩:=key hx hs s0 hp hn he
   exact⟨M',[g'],_,v,hq,r1,r2,r3 v x hb hv⟩
 | panicked ch =>
   obtain⟨M',G',H',v,x,⟨H1,sel,s0,hp,hn,he,hb,hq⟩,hx,hs,hv,hc⟩:=h
   obtain⟨g',r1,r2,r3⟩:=key hx hs s0 hp hn he
   exact⟨M',[g'],_,v,x,hq,r1,r2,r3 v x hb hv,hc⟩
 | outgrown=>exact h

theorem q1d(h:VCalls P f H0 args (qdk Q))(ha:AV.bds 1 args=true):VCalls P f [bun H0] args Q:=by
 refine⟨h.1,fun w M G vs hst hv=>?_⟩
 obtain⟨g,G0,rfl,hs0,hc,hfp⟩:=qbd0 hst
 refine CallsIn.mono (h.2 w M G0 vs hs0 (q36 (fun gz hz=>?_) ha hv)) fun e w' ho=>qbwf hst hc hfp ho
 simp at hz
 subst hz
 exact hc

theorem q75(i:Nat){cs:List AV}(he:ent H i=.blk cs)(hb:AV.bds 0 cs=true)(h:VI P fr n m a QV af (H.set i (bun [.blk cs]))):VI P fr n m a QV af H:=by
 intro c hc w M G act hst hr
 have hH:=qbj he (by simp)
 obtain⟨g,hg⟩:=hst.lenH hH
 obtain⟨h1,⟨vs,t,h2,h3⟩,h4⟩:=hst.ok i g _ hg hH
 have hG:G.set i g=G:=by
  apply List.ext_getElem?
  intro j
  by_cases hij:i=j
  ·subst hij
   rw[List.getElem?_set_self (List.getElem?_eq_some_iff.1 hg).1,hg]
  ·rw[List.getElem?_set_ne hij]
 have h3':VRs w M [g] cs vs:=by
  have:=qc3 (σ:=id) (m:=0) (G':=[g]) (fun i g hi hg=>by omega) (fun b o h=>⟨h,rfl⟩) cs vs hb h3
  rwa [qp (σ:=id) (m:=0) (fun _ _=>rfl) cs hb] at this
 have hok:qhy w M (G.set i g) g (bun [.blk cs]):=by
  refine⟨⟨[g],rfl,fun j gj e hj he=>?_,fun j k g1 g2 b q1 q2 _ _=>?_,⟨g,rfl,rfl⟩,fun b=>⟨fun hb=>⟨0,g,rfl,hb⟩,fun ⟨j,gj,hj,hb⟩=>?_⟩⟩,qmx⟩
  ·cases j with
   | succ j=>simp at hj
   | zero =>
     simp at hj he
     subst hj he
     exact⟨h1,⟨vs,t,h2,h3'⟩,h4⟩
  ·cases j<;>cases k<;>simp at q1 q2<;>rfl
  ·cases j with
   | succ j=>simp at hj
   | zero=>simp at hj;subst hj;exact hb
 have hst':=qg1 (w':=w) (M':=M) (g':=g) (e:=bun [.blk cs]) hst hg rfl (fun _ h=>h) (Nat.le_refl _) (fun _ _ _=>rfl) (Le.refl w M) (fun _ _ h=>.inl h) hok
 rw[hG] at hst'
 exact(h c hc) w M G act hst' hr

def opn(i L j:Nat):Nat:=if j=0 then i else L+j-1
theorem qcb0(i:Nat){e0:Ent}{r:List Ent}(he:ent H i=bun (e0::r))(hm:m≤H.length)(h:VI P fr n m a QV af (H.set i (e0.ren (opn i H.length))++r.map (Ent.ren (opn i H.length)))):VI P fr n m a QV af H:=by
 intro c hc w M G act hst hr
 have hH:=qbj he (by simp)
 obtain⟨g,hg⟩:=hst.lenH hH
 obtain⟨⟨G0,h1,h2,h3,⟨g0,h4,h4'⟩,h5⟩,_⟩:=hst.ok i g _ hg hH
 obtain⟨g0',rg,rfl⟩:∃g0 r,G0=g0::r:=by
  cases G0 with
  | nil=>simp at h4
  | cons a b=>exact⟨a,b,rfl⟩
 simp at h4
 subst h4
 have hiG:=(List.getElem?_eq_some_iff.1 hg).1
 have hlen:=hst.len
 have hrl:rg.length=r.length:=by simpa using h1
 let G':=G.set i g0'++rg
 have hG1:∀(j:Nat) (gj:Gh),G[j]?=some gj->∃g',G'[j]?=some g'∧g'.core=gj.core:=fun j gj hj=>by
  have hjl:=(List.getElem?_eq_some_iff.1 hj).1
  by_cases hij:i=j
  ·subst hij
   rw[hg] at hj
   simp only[Option.some.injEq] at hj
   subst hj
   exact⟨g0',by simp only[G'];rw[List.getElem?_append_left (by simpa using hjl),List.getElem?_set_self hjl],h4'⟩
  ·exact⟨gj,by simp only[G'];rw[List.getElem?_append_left (by simpa using hjl),List.getElem?_set_ne hij,hj],rfl⟩
 have hG2:∀(j:Nat) (gj:Gh),j<r.length+1->(g0'::rg)[j]?=some gj->∃g',G'[opn i H.length j]?=some g'∧g'.core=gj.core:=fun j gj hj hgj=>by
  cases j with
  | zero =>
    simp at hgj;subst hgj
    refine⟨g0',?_,rfl⟩
    simp only[G',opn,if_true]
    rw[List.getElem?_append_left (by simpa using hiG),List.getElem?_set_self hiG]
  | succ j =>
    refine⟨gj,?_,rfl⟩
    have:opn i H.length (j+1)=H.length+j:=by simp only[opn,if_neg (Nat.succ_ne_zero j)];omega
    rw[this,List.getElem?_append_right (by simp;omega)]
    simpa [hlen] using hgj
 -- each place of the new state
 have hcase:∀(j:Nat) (gj:Gh),G'[j]?=some gj->(j≠i∧j<H.length∧G[j]?=some gj)∨(∃k,(g0'::rg)[k]?=some gj∧j=opn i H.length k∧k<r.length+1):=fun j gj hj=>by
  simp only[G'] at hj
  by_cases hjl:j<G.length
  ·rw[List.getElem?_append_left (by simpa using hjl)] at hj
   by_cases hij:i=j
   ·subst hij
    rw[List.getElem?_set_self hjl] at hj
    exact .inr ⟨0,by simpa using hj,by simp[opn],by omega⟩
   ·rw[List.getElem?_set_ne hij] at hj
    exact .inl ⟨Ne.symm hij,by omega,hj⟩
  ·rw[List.getElem?_append_right (by simp;omega)] at hj
   simp only[List.length_set] at hj
   have:=(List.getElem?_eq_some_iff.1 hj).1
   exact .inr ⟨j-G.length+1,by simpa using hj,by simp only[opn,if_neg (Nat.succ_ne_zero _)];omega,by omega⟩
 have hinj:∀j k,j<r.length+1->k<r.length+1->opn i H.length j=opn i H.length k->j=k:=fun j k hj hk h=>by
  simp only[opn] at h
  split at h<;>split at h<;>omega
 have hsep:∀(j:Nat) (gj:Gh) (k:Nat) (gk:Gh) (b:Nat),j≠i->G[j]?=some gj->(g0'::rg)[k]?=some gk->gj.fp b->gk.fp b->False:=fun j gj k gk b hji hj hk hb hb' =>
  hji (hst.dj j i gj g b hj hg hb ((h5 b).2 ⟨k,gk,hk,hb'⟩))
 have hst':St w M G' (H.set i (e0.ren (opn i H.length))++r.map (Ent.ren (opn i H.length))):=by
  refine⟨by simp only[G',List.length_append,List.length_set,List.length_map];omega,fun j gj e hj hje=>?_,fun j k gj gk b hj hk hb hb'=>?_,fun j gj b hj hb=>?_,hst.Mlt,hst.one⟩
  ·rcases hcase j gj hj with ⟨q1,q2,q3⟩ | ⟨k,q1,q2,q3⟩
   ·rw[List.getElem?_append_left (by simpa using q2),List.getElem?_set_ne (Ne.symm q1)] at hje
    exact qfp hG1 ⟨fun _ _=>rfl,Le.refl w M,fun _ _ _ h=>h,Nat.le_refl _⟩ (hst.ok j gj e q3 hje)
   ·obtain⟨e',hk',rfl⟩:∃e',(e0::r)[k]?=some e'∧e=e'.ren (opn i H.length):=by
     subst q2
     cases k with
     | zero =>
       simp only[opn,if_true] at hje
       rw[List.getElem?_append_left (by rw[List.length_set];omega),List.getElem?_set_self (by omega)] at hje
       simp only[Option.some.injEq] at hje
       exact⟨e0,rfl,hje.symm⟩
     | succ k =>
       have:opn i H.length (k+1)=H.length+k:=by simp only[opn,if_neg (Nat.succ_ne_zero k)];omega
       rw[this,List.getElem?_append_right (by simp)] at hje
       simp only[List.length_set,Nat.add_sub_cancel_left,List.getElem?_map,Option.map_eq_some_iff] at hje
       obtain⟨e',r1,r2⟩:=hje
       exact⟨e',by simpa using r1,r2.symm⟩
    have hok:=h2 k gj e' q1 hk'
    have hbd:=qbev hok
    rw[List.length_cons,hrl] at hbd
    exact qt3 (G:=g0'::rg) (G':=G') hG2 hbd hok
  ·rcases hcase j gj hj with ⟨q1,q2,q3⟩ | ⟨k1,q1,q2,q3⟩<;>rcases hcase k gk hk with ⟨r1,r2,r3⟩ | ⟨k2,r1,r2,r3⟩
   ·exact hst.dj j k gj gk b q3 r3 hb hb'
   ·exact(hsep j gj k2 gk b q1 q3 r1 hb hb').elim
   ·exact(hsep k gk k1 gj b r1 r3 q1 hb' hb).elim
   ·have:=h3 k1 k2 gj gk b q1 r1 hb hb'
    subst this
    rw[q2,r2]
  ·rcases hcase j gj hj with ⟨q1,q2,q3⟩ | ⟨k,q1,q2,q3⟩
   ·exact hst.lt j gj b q3 hb
   ·exact hst.lt i g b hg ((h5 b).2 ⟨k,gj,q1,hb⟩)
 have hext:Ext w M G w M G':=⟨rfl,rfl,rfl,Nat.le_refl _,hG1,Le.refl w M,fun _ _ _=>rfl,fun b ⟨j,gj,hj,hb⟩=>by
  rcases hcase j gj hj with ⟨q1,q2,q3⟩ | ⟨k,q1,q2,q3⟩
  ·exact .inl ⟨j,gj,q3,hb⟩
  ·exact .inl ⟨i,g,hg,(h5 b).2 ⟨k,gj,q1,hb⟩⟩,fun _ _ h=>.inl h⟩
 exact qop (h c hc) hst' (hr.ext hext) hext.toM
end
end Go.V

/-
 Types as data.
-/
namespace Go.V
open Go Go.RowKit

inductive Ty where
 | mk (con:List UInt8) (var:Int) (args:List Ty)

def Ty.con:Ty->List UInt8 | .mk c _ _=>c
def Ty.var:Ty->Int | .mk _ v _=>v
def Ty.args:Ty->List Ty | .mk _ _ l=>l

mutual
def encY:Ty->AV
 | .mk c v l=>.agg [.str c,.int .i64 v,.sl 3 (qf l)]
def qf:List Ty->List AV
 | []=>[]
 | x::r=>encY x::qf r
end
theorem qcn(l:List Ty):qf l=l.map encY:=by
 induction l with
 | nil=>rfl
 | cons x r ih=>simp[qf,ih]
theorem qbd(n:Ty):AV.agg [.str n.con,.int .i64 n.var,.sl 3 (qf n.args)]=encY n:=by
 cases n;simp only[encY,Ty.con,Ty.var,Ty.args]
theorem q10(n:Ty):(encY n).cells=[.str n.con,.int .i64 n.var,.sl 3 (qf n.args)]:=by rw[←qbd];rfl

theorem Ty.ind{p:Ty->Prop}(h:∀n:Ty,(∀x∈n.args,p x)->p n):∀n,p n:=by
 intro n
 refine Ty.rec (motive_1:=p) (motive_2:=fun l=>∀x∈l,p x) (fun c v l ih=>h (.mk c v l) ih) (fun x hx=>by cases hx) (fun x r h1 h2 y hy=>?_) n
 rcases List.mem_cons.1 hy with rfl | hy
 ·exact h1
 ·exact h2 y hy

theorem qx(k:Nat):∀n,(encY n).bd k=true:=Ty.ind fun n ih=>by
 simp only[←qbd n,AV.bd,AV.bds,qcn,qc2,Bool.true_and,Bool.and_true,List.all_map,List.all_eq_true]
 exact ih
theorem qbm(k:Nat)(l:List Ty):AV.bds k (qf l)=true:=by
 rw[qcn,qc2,List.all_map,List.all_eq_true];exact fun x _=>qx k x
theorem qhq(σ:Nat->Nat)(n:Ty):(encY n).ren σ=encY n:=ren_same (m:=0) (fun i hi=>by omega) _ (qx 0 n)
theorem qc6(σ:Nat->Nat)(l:List Ty):AV.rens σ (qf l)=qf l:=qp (m:=0) (fun i hi=>by omega) _ (qbm 0 l)
theorem qb12(H:List Ent)(n:Ty):co H (.agg [.id,.id,.sl 3]) (encY n)=encY n:=by
 rw[←qbd];simp only[qir,qeq,qf5,qom,qeh]
theorem q3p(n:Ty):rdCo (.agg [.id,.id,.sl 3]) (encY n)=[]:=by
 rw[←qbd];simp only[qeg,qc0,qdi,qf1,qcz,List.append_nil]
theorem qyv(n:Ty):(encY n).isAgg=true:=by cases n;rfl
theorem q2k(n:Ty):(encY n).cells.all AV.leaf=true:=by cases n;rfl
theorem q9(l:List Ty):(qf l).length=l.length:=by rw[qcn];simp
theorem q1e{l:List Ty}{i:Nat}(h:i<l.length):(qf l).getD i .junk=encY l[i]:=by rw[qcn,List.getD_eq_getElem?_getD,List.getElem?_map,List.getElem?_eq_getElem h];rfl
def Ty.wf(n:Ty):Prop:=n.args.length≤maxLen∧n.con.length≤maxLen∧(Lit.int .i64 n.var).wf=true∧∀x∈n.args,(encY x).wf
theorem q4j(n:Ty):(encY n).wf↔n.wf:=by
 rw[←qbd]
 simp only[AV.wf,AV.wfs,q9,Ty.wf,q81,qcn,List.mem_map,forall_exists_index,and_imp,forall_apply_eq_imp_iff₂,and_true]
 simp only[List.length_map]
 constructor
 ·rintro⟨h1,h2,h3,h4⟩;exact⟨h3,h1,h2,h4⟩
 ·rintro⟨h1,h2,h3,h4⟩;exact⟨h2,h3,h1,h4⟩
theorem qua(n:Ty):(encY n).leaf=false:=by cases n;rfl
abbrev yc(n:Ty):List AV:=[.str n.con,.int .i64 n.var,.sl 3 (qf n.args)]
attribute [go_sem] yc
def Y0:Ty:=.mk [] 0 []
theorem ql{l:List Ty}{i:Nat}(h:i<l.length):(qf l).getD i .junk=encY (l.getD i Y0):=by
 rw[q1e h,List.getD_eq_getElem?_getD,List.getElem?_eq_getElem h];rfl
theorem qba{l:List Ty}{i:Nat}(h:i<l.length):l.getD i Y0∈l:=by
 rw[List.getD_eq_getElem?_getD,List.getElem?_eq_getElem h];exact List.getElem_mem h
theorem qjt{l:List Ty}{i:Nat}(h:i<l.length):l.drop i=l.getD i Y0::l.drop (i+1):=by
 rw[List.drop_eq_getElem_cons h,List.getD_eq_getElem?_getD,List.getElem?_eq_getElem h];rfl
theorem qbij(b:Bool)(n off:Nat)(t:Ty):fldv b n off (encY t)=ldc b n off [.str t.con,.int .i64 t.var,.sl 3 (qf t.args)]:=by rw[←qbd];rfl
theorem qew(a:List Ty)(t:Ty):qf a++[encY t]=qf (a++[t]):=by simp[qcn]
attribute [go_sem] qbij q3p qx qbm qhq qc6 qb12 qyv q10 qbd qua q9

structure Pd where
 cls:List UInt8
 ty:Ty
def encP(p:Pd):AV:=.agg [.str p.cls,.str p.ty.con,.int .i64 p.ty.var,.sl 3 (qf p.ty.args)]
def P0:Pd:=⟨[],Y0⟩
abbrev pdc(p:Pd):List AV:=[.str p.cls,.str p.ty.con,.int .i64 p.ty.var,.sl 3 (qf p.ty.args)]
theorem q8a(p:Pd):AV.agg [.str p.cls,.str p.ty.con,.int .i64 p.ty.var,.sl 3 (qf p.ty.args)]=encP p:=rfl
theorem q1b(p:Pd):(encP p).cells=pdc p:=rfl
theorem qp7(k:Nat)(p:Pd):(encP p).bd k=true:=by simp only[encP,AV.bd,AV.bds,qbm,Bool.and_true]
theorem q89(σ:Nat->Nat)(p:Pd):(encP p).ren σ=encP p:=ren_same (m:=0) (fun i hi=>by omega) _ (qp7 0 p)
theorem qb8j(H:List Ent)(p:Pd):co H (.agg [.id,.id,.id,.sl 3]) (encP p)=encP p:=by
 simp only[encP,qir,qeq,qf5,qom,qeh]
theorem q79(p:Pd):rdCo (.agg [.id,.id,.id,.sl 3]) (encP p)=[]:=by
 simp only[encP,qeg,qc0,qdi,qf1,qcz,List.append_nil]
theorem qbh2(p:Pd):(encP p).isAgg=true:=rfl
theorem qtt(p:Pd):(encP p).leaf=false:=rfl
theorem qbja(b:Bool)(n off:Nat)(p:Pd):fldv b n off (encP p)=ldc b n off (pdc p):=rfl
attribute [go_sem] pdc qbja q79 qp7 q89 qb8j qbh2 q1b q8a qtt
end Go.V
