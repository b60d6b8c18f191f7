/- Texts of this proof, joined. -/
import Derived.Test.YtgglaabljlhliaaGreatLak
import Derived.WalkKit
import Derived.ProofKit
import Derived.OpenShut
import Derived.Carry
import Derived.ChangeSame
import Derived.Below
set_option linter.unusedVariables false
set_option linter.unusedSimpArgs false

/-
 The value logic, part w: from a statement's reading of an argument to the argument as a value.
-/
namespace Go.V
open Go Go.RowKit

def MM (w:World) (b o:Nat):Prop:=∃ v,w.cell? ⟨b,o,none⟩ = some v∧v.oneCell' = true

theorem stM (w:World):St w (MM w) [] []:=by
 refine ⟨rfl,fun i g e h=>by simp at h,fun i j g g' b h=>by simp at h,fun i g b h=>by simp at h,fun b o ⟨v,h,_⟩=>?_,fun b o v ⟨v',h,h1⟩ h2=>by rw [h] at h2;cases h2;exact h1⟩
 by_cases hb:b < w.heap.size
 ·exact hb
 ·exfalso
  unfold World.cell? at h
  simp only at h
  rw [Array.getElem?_eq_none (by omega)] at h
  simp at h

theorem qb49 {w w':World} {M M':Nat->Nat->Prop} {G':List Gh} (h:Ext w M [] w' M' G'):Below w.heap.size w w' :=
 ⟨h.os,h.tape,h.output,h.size,fun k hk=>h.out k hk (fun ⟨i,g,hg,_⟩=>by simp at hg)⟩

theorem qti {α β:Type} {f:α->Option β}:∀ {l:List α} {r:List β},l.mapM f = some r->r.length = l.length∧∀ (j:Nat) (y:β),r[j]? = some y->∃ x,l[j]? = some x∧f x = some y
 | [], r, h => by
   simp only [List.mapM_nil,Option.pure_def,Option.some.injEq] at h
   subst h
   exact ⟨rfl,fun j y hj=>by simp at hj⟩
 | a :: l, r, h => by
   simp only [List.mapM_cons,Option.bind_eq_bind,Option.pure_def] at h
   obtain ⟨b,h1,h2⟩:=Option.bind_eq_some_iff.1 h
   obtain ⟨r',h3,h4⟩:=Option.bind_eq_some_iff.1 h2
   simp only [Option.some.injEq] at h4
   subst h4
   obtain ⟨q1,q2⟩:=qti h3
   refine ⟨by simp [q1],fun j y hj=>?_⟩
   cases j with
   | zero=>simp at hj;subst hj;exact ⟨a,rfl,h1⟩
   | succ j=>simp at hj;obtain ⟨x,r1,r2⟩:=q2 j y hj;exact ⟨x,by simpa using r1,r2⟩
theorem qu4 {α β:Type} {f:α->Option β} {l:List α} {r:List β} (h:l.mapM f = some r):∀ x∈l,∃ y,f x = some y:=by
 intro x hx
 obtain ⟨h1,h2⟩:=qti h
 obtain ⟨j,hj⟩:=List.mem_iff_getElem?.1 hx
 have hjl:=(List.getElem?_eq_some_iff.1 hj).1
 obtain ⟨x',q1,q2⟩:=h2 j (r[j]'(by omega)) (by rw [List.getElem?_eq_getElem])
 rw [hj] at q1
 simp only [Option.some.injEq] at q1
 subst q1
 exact ⟨_,q2⟩

def elA (P:Program) (T:TypeId) (ds:List AV):AV :=
 match P.underlying T with
 | some (.struct _) | some (.array _ _)=>.agg ds
 | _=>ds.headD .junk
def fieldsOf (fs:Array Field):List (TypeId×Nat):=fs.toList.map fun x=>(x.type,x.offset)
def qn7 (P:Program) (n:Nat) (e:TypeId):List (TypeId×Nat):=(List.range n).map fun i=>(e,i * P.cellsOf e)
def TC (P:Program):Nat->TypeId->List AV->Prop
 | 0,_,_=>False
 | f + 1, T, cs => match P.underlying T with
   | some (.int k)=>∃ n,cs = [.int k n]
   | some .string=>∃ l,cs = [.str l]
   | some .bool=>∃ b,cs = [.bool b]
   | some (.slice S)=>∃ es,cs = [.sl (P.cellsOf S) es]∧∀ e∈es,∃ ds,TC P f S ds∧e = elA P S ds
   | some (.struct fs)=>cs.length = P.cellsOf T∧∀ x∈fieldsOf fs,TC P f x.1 ((cs.drop x.2).take (P.cellsOf x.1))
   | some (.array n e)=>cs.length = P.cellsOf T∧∀ x∈qn7 P n e,TC P f x.1 ((cs.drop x.2).take (P.cellsOf x.1))
   | _=>False
def qpe (P:Program):Nat->List (TypeId×Nat)->Nat->Bool
 | o,[],n=>o == n
 | o,x :: r,n=>x.2 == o && qpe P (o + P.cellsOf x.1) r n
def qla (P:Program) (L:List TypeId) (T:TypeId):Bool :=
 match P.underlying T with
 | some (.int _) | some .string | some .bool=>P.cellsOf T == 1
 | some (.slice S)=>L.contains S && P.cellsOf S != 0 && P.cellsOf T == 1
 | some (.struct fs)=>qpe P 0 (fieldsOf fs) (P.cellsOf T) && (fieldsOf fs).all fun x=>L.contains x.1
 | some (.array n e)=>qpe P 0 (qn7 P n e) (P.cellsOf T) && L.contains e
 | _=>false

theorem qxh {P:Program}:∀ {l:List (TypeId×Nat)} {o n:Nat},qpe P o l n = true->o≤n
 | [],o,n,h=>by simp only [qpe,beq_iff_eq] at h;omega
 | x :: r, o, n, h => by
   simp only [qpe,Bool.and_eq_true] at h
   have:=qxh h.2
   omega

section
variable {H:Type} {enc':TypeId×Value->H} {P:Program} {w:World} {base:Nat} {sp:Nat->Bool} {held:Bool}

theorem qo5 {a:Addr} {n:Nat} {cs:List Value} (h:w.cells? base a n = some cs):cs.length = n∧∀ (j:Nat) (v:Value),cs[j]? = some v->w.cell? (a.add j) = some v:=by
 unfold World.cells? at h
 split at h
 ·obtain ⟨h1,h2⟩:=qti h
  refine ⟨by simpa using h1,fun j v hj=>?_⟩
  obtain ⟨x,q1,q2⟩:=h2 j v hj
  rw [List.getElem?_range (by have:=(List.getElem?_eq_some_iff.1 q1).1;simpa using this)] at q1
  simp only [Option.some.injEq] at q1
  subst q1
  exact q2
 ·cases h

theorem qsh {m:Nat}:∀ {us:List Value},(∀ u∈us,u.cells.size = m)->∀ {j:Nat} {v:Value},(us.flatMap (·.cells.toList))[j]? = some v->∃ i q u,us[i]? = some u∧u.cells.toList[q]? = some v∧j = i * m + q
 | [],_,j,v,h=>by simp at h
 | u :: us, hm, j, v, h => by
   rw [List.flatMap_cons] at h
   have hu:u.cells.toList.length = m:=by simpa using hm u (by simp)
   by_cases hj:j < m
   ·rw [List.getElem?_append_left (by omega)] at h
    exact ⟨0,j,u,rfl,h,by omega⟩
   ·rw [List.getElem?_append_right (by omega),hu] at h
    obtain ⟨i,q,u',h1,h2,h3⟩:=qsh (fun u hu=>hm u (by simp [hu])) h
    exact ⟨i + 1,q,u',h1,h2,by rw [Nat.add_mul];omega⟩

def elV (P:Program) (T:TypeId) (cs:List Value):Value :=
 match P.underlying T with
 | some (.struct _) | some (.array _ _)=>.agg cs.toArray
 | _=>cs.headD .nilIface

theorem q4g {f n:Nat} {cs:List Value} (hcs:cs.length = n):∀ (l:List (TypeId×Nat)) (o:Nat),qpe P o l n = true →
 (∀ x∈l,∃ as,TC P f x.1 as∧VRs w (MM w) [] as ((cs.drop x.2).take (P.cellsOf x.1))∧as.all AV.leaf = true) →
 ∃ as,VRs w (MM w) [] as (cs.drop o)∧as.all AV.leaf = true∧∀ x∈l,o≤x.2∧TC P f x.1 ((as.drop (x.2 - o)).take (P.cellsOf x.1))
 | [], o, ht, _ => by
   simp only [qpe,beq_iff_eq] at ht
   refine ⟨[],?_,rfl,fun x hx=>by simp at hx⟩
   rw [List.drop_of_length_le (by omega)];rfl
 | x :: r, o, ht, h => by
   simp only [qpe,Bool.and_eq_true,beq_iff_eq] at ht
   obtain ⟨hx,ht⟩:=ht
   have hle:=qxh ht
   obtain ⟨a0,q1,q2,q3⟩:=h x (by simp)
   obtain ⟨as,r1,r2,r3⟩:=q4g hcs r _ ht fun y hy=>h y (by simp [hy])
   rw [hx] at q2
   have hl:a0.length = P.cellsOf x.1:=by
    have:=qe q2
    rw [List.length_take,List.length_drop] at this
    omega
   refine ⟨a0 ++ as,?_,by rw [List.all_append,q3,r2];rfl,fun y hy=>?_⟩
   ·have:=qbg q2 r1
    rw [← List.drop_drop,List.take_append_drop] at this
    exact this
   ·rcases List.mem_cons.1 hy with rfl | hy
    ·refine ⟨by omega,?_⟩
     rw [hx,Nat.sub_self,List.drop_zero,List.take_append_of_le_length (by omega),List.take_of_length_le (by omega)]
     exact q1
    ·obtain ⟨s1,s2⟩:=r3 y hy
     refine ⟨by omega,?_⟩
     rw [List.drop_append,List.drop_of_length_le (by omega),List.nil_append,hl,show y.2 - o - P.cellsOf x.1 = y.2 - (o + P.cellsOf x.1) by omega]
     exact s2

theorem qb69 {S:TypeId} {as:List AV} {cs:List Value} (h:VRs w (MM w) [] as cs) (hl:as.all AV.leaf = true) (hn:as.length = P.cellsOf S)
 (h1:(∀ fs,P.underlying S≠some (.struct fs))->(∀ n e,P.underlying S≠some (.array n e))->P.cellsOf S = 1) :
 VR w (MM w) [] (elA P S as) (elV P S cs)∧(elV P S cs).cells.toList = cs:=by
 unfold elA elV
 split
 ·exact ⟨⟨cs,rfl,h⟩,by simp [Value.cells]⟩
 ·exact ⟨⟨cs,rfl,h⟩,by simp [Value.cells]⟩
 ·rename_i g1 g2
  have:=h1 g1 g2
  match as,h,hn,hl with
  | [a], h, _, hl =>
    obtain ⟨v,r,rfl,h2,h3⟩:=h
    simp only [VRs] at h3
    subst h3
    simp only [List.headD_cons]
    refine ⟨h2,?_⟩
    rw [(qgl h2 (by simpa using hl)).2]
  | [],_,hn,_=>simp only [List.length_nil] at hn;omega
  | _ :: _ :: _,_,hn,_=>simp only [List.length_cons] at hn;omega

theorem qsk {L:List TypeId} {S:TypeId} (h:qla P L S = true) (g1:∀ fs,P.underlying S≠some (.struct fs)) (g2:∀ n e,P.underlying S≠some (.array n e)):P.cellsOf S = 1:=by
 unfold qla at h
 split at h
 all_goals first
  | (simp only [beq_iff_eq] at h;exact h)
  | (simp only [Bool.and_eq_true,beq_iff_eq] at h;exact h.2)
  | (rename_i hu;exact absurd hu (g1 _))
  | (rename_i hu;exact absurd hu (g2 _ _))
  | (cases h)

theorem qbev {L:List TypeId} (hL:L.all (qla P L) = true):∀ (fuel:Nat) (T:TypeId) (cs:List Value) (x:DataW H×List MemPlace),T∈L->DataW.trod enc' P w base sp held fuel T cs = some x →
 ∃ as,TC P fuel T as∧VRs w (MM w) [] as cs∧as.all AV.leaf = true∧as.length = P.cellsOf T:=by
 intro fuel
 induction fuel with
 | zero=>intro T cs x _ h;simp [DataW.trod] at h
 | succ f ih =>
   intro T cs x hT h
   have hp:=List.all_eq_true.1 hL T hT
   have hP:=hp
   unfold qla at hp
   split at hp
   ·rename_i k hu
    simp only [DataW.trod,hu] at h
    simp only [TC,hu]
    split at h<;>first | (simp at *;done) | skip
    rename_i k2 k3 n h1
    simp only [Option.some.injEq,TypeDesc.int.injEq] at h1
    subst h1
    split at h
    ·rename_i h3
     obtain ⟨rfl,h3⟩:=h3
     exact ⟨_,⟨n,rfl⟩,⟨_,_,rfl,⟨rfl,h3⟩,rfl⟩,rfl,by simpa using (beq_iff_eq.1 hp).symm⟩
    ·cases h
   ·rename_i hu
    simp only [DataW.trod,hu] at h
    simp only [TC,hu]
    split at h<;>first | (simp at *;done) | skip
    rename_i s h1
    try (split at h)
    ·rename_i h3
     exact ⟨_,⟨s.data.toList,rfl⟩,⟨_,_,rfl,⟨by simp,by simpa using h3⟩,rfl⟩,rfl,by simpa using (beq_iff_eq.1 hp).symm⟩
    ·cases h
   ·rename_i hu
    simp only [DataW.trod,hu] at h
    simp only [TC,hu]
    split at h<;>first | (simp at *;done) | skip
    rename_i b h1
    exact ⟨_,⟨b,rfl⟩,⟨_,_,rfl,rfl,rfl⟩,rfl,by simpa using (beq_iff_eq.1 hp).symm⟩
   ·rename_i S hu
    simp only [Bool.and_eq_true,beq_iff_eq,bne_iff_ne,ne_eq] at hp
    obtain ⟨⟨hS,hc0⟩,hc1⟩:=hp
    have hS:S∈L:=by simpa using hS
    have hSp:=List.all_eq_true.1 hL S hS
    simp only [DataW.trod,hu] at h
    simp only [TC,hu]
    split at h<;>first | (simp at *;done) | skip
    ·exact ⟨_,⟨[],rfl,fun e he=>by simp at he⟩,⟨_,_,rfl,⟨none,0,[],rfl,⟨by simp,by simp [maxLen],by simp,rfl⟩,rfl⟩,rfl⟩,rfl,by simpa using hc1.symm⟩
    ·rename_i e a len cap he
     simp only [Option.some.injEq,TypeDesc.slice.injEq] at he
     subst he
     split at h
     ·rename_i hb
      obtain ⟨elems,h1,h2⟩:=Option.bind_eq_some_iff.1 h
      have hex:∀ i,∃ p:List Value×List AV,i < len->w.cells? base (a.add (i * P.cellsOf S)) (P.cellsOf S) = some p.1∧TC P f S p.2∧VRs w (MM w) [] p.2 p.1∧p.2.all AV.leaf = true∧p.2.length = P.cellsOf S:=fun i=>by
       by_cases hi:i < len
       ·obtain ⟨y,hy⟩:=qu4 h1 i (List.mem_range.2 hi)
        obtain ⟨cs,q1,q2⟩:=Option.bind_eq_some_iff.1 hy
        obtain ⟨as,r1,r2,r3,r4⟩:=ih S cs y hS q2
        exact ⟨(cs,as),fun _=>⟨q1,r1,r2,r3,r4⟩⟩
       ·exact ⟨([],[]),fun h=>absurd h hi⟩
      obtain ⟨g,hg⟩:=Classical.axiomOfChoice hex
      have hel:∀ i,i < len->VR w (MM w) [] (elA P S (g i).2) (elV P S (g i).1)∧(elV P S (g i).1).cells.toList = (g i).1:=fun i hi=>by
       obtain ⟨_,_,q2,q3,q4⟩:=hg i hi
       exact qb69 q2 q3 q4 (qsk hSp)
      have hus:((List.range len).map fun i=>elV P S (g i).1).length = len:=by simp
      have hsz:∀ u∈(List.range len).map (fun i=>elV P S (g i).1),u.cells.size = P.cellsOf S:=fun u hu=>by
       obtain ⟨i,hi,rfl⟩:=List.mem_map.1 hu
       have hi:=List.mem_range.1 hi
       rw [← Array.length_toList,(hel i hi).2]
       exact (qo5 (hg i hi).1).1
      refine ⟨[.sl (P.cellsOf S) ((List.range len).map fun i=>elA P S (g i).2)],⟨_,rfl,fun e he=>?_⟩,⟨_,_,rfl,⟨some a,cap,(List.range len).map fun i=>elV P S (g i).1,?_,⟨by rw [hus];exact hb.2.1,hb.2.2,hsz,?_⟩,by rw [hus]⟩,rfl⟩,rfl,by simpa using hc1.symm⟩
      ·obtain ⟨i,hi,rfl⟩:=List.mem_map.1 he
       exact ⟨_,(hg i (List.mem_range.1 hi)).2.1,rfl⟩
      ·have key:∀ l:List Nat,(∀ i∈l,i < len)->VRs w (MM w) [] (l.map fun i=>elA P S (g i).2) (l.map fun i=>elV P S (g i).1):=by
        intro l
        induction l with
        | nil=>intro _;rfl
        | cons i r ihr=>intro hl;exact ⟨_,_,rfl,(hel i (hl i (by simp))).1,ihr fun j hj=>hl j (by simp [hj])⟩
       exact key _ fun i hi=>List.mem_range.1 hi
      ·by_cases h0:len = 0
       ·subst h0;exact .inl rfl
       ·have hspot:a.spot = none:=by
         have hq:=qo5 (hg 0 (by omega)).1
         have hc2:=hq.2 0 ((g 0).1[0]'(by omega)) (by rw [List.getElem?_eq_getElem])
         have:=World.cell?_spot hc2
         by_cases ha:a.spot = none
         ·exact ha
         ·exfalso
          revert this
          unfold Addr.add
          cases hs:a.spot with
          | none=>exact absurd hs ha
          | some z=>simp [hs]
        refine .inr ⟨hspot,fun j v hj=>?_⟩
        obtain ⟨i,q,u,r1,r2,r3⟩:=qsh hsz hj
        have hi:=(List.getElem?_eq_some_iff.1 r1).1
        rw [hus] at hi
        rw [List.getElem?_map,List.getElem?_range hi] at r1
        simp only [Option.map_some,Option.some.injEq] at r1
        subst r1
        rw [(hel i hi).2] at r2
        obtain ⟨z1,z2,z3,z4,z5⟩:=hg i hi
        have hcell:=(qo5 z1).2 q v r2
        rw [qhu hspot,qdy] at hcell
        have hone:v.oneCell' = true:=qku z3 z4 v (List.mem_of_getElem? r2)
        have he:a.off + j = a.off + i * P.cellsOf S + q:=by omega
        rw [he]
        exact ⟨hcell,v,hcell,hone⟩
     ·cases h
   ·rename_i fs hu
    simp only [Bool.and_eq_true,List.all_eq_true] at hp
    simp only [DataW.trod,hu] at h
    simp only [TC,hu]
    split at h
    ·rename_i hlen
     obtain ⟨xs,h1,_⟩:=Option.map_eq_some_iff.1 h
     have hg:=qu4 h1
     obtain ⟨as,r1,r2,r3⟩:=q4g (P:=P) (w:=w) (f:=f) hlen (fieldsOf fs) 0 hp.1 fun x hx=>by
      obtain ⟨z,hz,rfl⟩:=List.mem_map.1 hx
      obtain ⟨y,hy⟩:=hg z hz
      obtain ⟨as,r1,r2,r3,_⟩:=ih z.type _ y (by simpa using hp.2 _ hx) hy
      exact ⟨as,r1,r2,r3⟩
     rw [List.drop_zero] at r1
     have hl:=qe r1
     exact ⟨as,⟨by omega,fun x hx=>by simpa using (r3 x hx).2⟩,r1,r2,by omega⟩
    ·cases h
   ·rename_i n e hu
    simp only [Bool.and_eq_true] at hp
    simp only [DataW.trod,hu] at h
    simp only [TC,hu]
    split at h
    ·rename_i hlen
     obtain ⟨xs,h1,_⟩:=Option.map_eq_some_iff.1 h
     have hg:=qu4 h1
     obtain ⟨as,r1,r2,r3⟩:=q4g (P:=P) (w:=w) (f:=f) hlen (qn7 P n e) 0 hp.1 fun x hx=>by
      obtain ⟨z,hz,rfl⟩:=List.mem_map.1 hx
      obtain ⟨y,hy⟩:=hg z hz
      obtain ⟨as,r1,r2,r3,_⟩:=ih e _ y (by simpa using hp.2) hy
      exact ⟨as,r1,r2,r3⟩
     rw [List.drop_zero] at r1
     have hl:=qe r1
     exact ⟨as,⟨by omega,fun x hx=>by simpa using (r3 x hx).2⟩,r1,r2,by omega⟩
    ·cases h
   ·cases hp

theorem qbdl {L:List TypeId} (hL:L.all (qla P L) = true) {T:TypeId} (hT:T∈L) {v:Value} {d:DataW H} {p:List MemPlace} {b:Nat} (hok:Value.okWide P w .any b T v)
 (h:DataW.Trod enc' P w 0 (fun _=>true) true T v d p):∃ f as,TC P f T as∧VR w (MM w) [] (elA P T as) v:=by
 obtain ⟨fuel,hf⟩:=h
 obtain ⟨as,h1,h2,h3,h4⟩:=qbev hL fuel T _ _ hT hf
 refine ⟨fuel,as,h1,?_⟩
 have hp:=qsk (List.all_eq_true.1 hL T hT)
 unfold Value.okWide at hok
 unfold elA
 split
 ·rename_i fs hu
  rw [hu] at hok
  obtain ⟨cs,rfl,_,_⟩:=hok
  exact ⟨cs.toList,by simp,by simpa [Value.cells] using h2⟩
 ·rename_i n e hu
  rw [hu] at hok
  obtain ⟨cs,rfl,_,_⟩:=hok
  exact ⟨cs.toList,by simp,by simpa [Value.cells] using h2⟩
 ·rename_i g1 g2
  have hone:=hp (fun fs h=>g1 fs h) (fun n e h=>g2 n e h)
  have hv:v.cells.toList = [v]:=by
   cases v
   case agg cs =>
    exfalso
    cases hu:P.underlying T with
    | none=>rw [hu] at hok;simp [Cell.okWide,Cell.ok,hu] at hok
    | some u =>
      rw [hu] at hok
      cases u<;>first
       | (simp [Cell.okWide,Cell.ok,hu] at hok;done)
       | exact g1 _ hu
       | exact g2 _ _ hu
   all_goals rfl
  rw [hv] at h2
  match as,h2,h4 with
  | [a], h2, _ =>
    obtain ⟨x,r,hx,h5,h6⟩:=h2
    simp only [List.cons.injEq] at hx
    rw [hx.1]
    exact h5
  | [],_,h4=>simp only [List.length_nil] at h4;omega
  | _ :: _ :: _,_,h4=>simp only [List.length_cons] at h4;omega
end

section
variable {P:Program} {f:Nat} {T S:TypeId} {k:IntKind} {cs:List AV}
theorem qbdv (hT:P.underlying T = some (.int k)) (h:TC P f T cs):∃ n,cs = [.int k n]:=by
 cases f with
 | zero=>exact h.elim
 | succ f=>simpa only [TC,hT] using h
theorem qne (hT:P.underlying T = some .string) (h:TC P f T cs):∃ l,cs = [.str l]:=by
 cases f with
 | zero=>exact h.elim
 | succ f=>simpa only [TC,hT] using h
theorem qrn (hT:P.underlying T = some (.slice S)) (h:TC P f T cs):∃ f' es,f = f' + 1∧cs = [.sl (P.cellsOf S) es]∧∀ e∈es,∃ ds,TC P f' S ds∧e = elA P S ds:=by
 cases f with
 | zero=>exact h.elim
 | succ f =>
   simp only [TC,hT] at h
   obtain ⟨es,h1,h2⟩:=h
   exact ⟨f,es,rfl,h1,h2⟩
theorem q3o {fs:Array Field} (hT:P.underlying T = some (.struct fs)) (h:TC P f T cs):∃ f',f = f' + 1∧cs.length = P.cellsOf T∧∀ x∈fieldsOf fs,TC P f' x.1 ((cs.drop x.2).take (P.cellsOf x.1)):=by
 cases f with
 | zero=>exact h.elim
 | succ f =>
   simp only [TC,hT] at h
   exact ⟨f,rfl,h⟩
theorem qqd {fs:Array Field} (hT:P.underlying T = some (.struct fs)) (ds:List AV):elA P T ds = .agg ds:=by unfold elA;rw [hT]
theorem qbrh (hT:P.underlying T = some .string) (a:AV):elA P T [a] = a:=by unfold elA;rw [hT];rfl
theorem qb37 (hT:P.underlying T = some (.slice S)) (a:AV):elA P T [a] = a:=by unfold elA;rw [hT];rfl
theorem qi8 {α:Type} [Inhabited α] {enc:α->AV} {f':Nat} {es:List AV} (he:∀ e∈es,∃ ds,TC P f' S ds∧e = elA P S ds) (h:∀ ds,TC P f' S ds->∃ a,elA P S ds = enc a):∃ l:List α,es = l.map enc:=by
 induction es with
 | nil=>exact ⟨[],rfl⟩
 | cons e es ih =>
   obtain ⟨l,rfl⟩:=ih fun e he'=>he e (by simp [he'])
   obtain ⟨ds,h1,rfl⟩:=he e (by simp)
   obtain ⟨a,ha⟩:=h ds h1
   exact ⟨a :: l,by rw [ha];rfl⟩
end

section
open Go.ChangeShapes Go.WideShapes Go.ChangeAt
variable {H:Type} {enc':TypeId×Value->H} {P:Program}
theorem qx3 {f:Func} {s:ChangeSpec} {qf9 fresh handsOn again:Bool} {W W':World} {args:Array Value} {v:Value} {ds gs:List (DataW H)} {before pa pv:List MemPlace}
 (hW:DataW.Whole enc' P f.params.toList s.vars qf9 W args.toList ds gs before)
 (hres:∀ (b:Nat) (sp:Nat->Bool) (hd:Bool),DataW.TrodAll enc' P W' b sp hd f.resultTypes.toList (v.resultList f.resultTypes.size) (s.fn H (ds ++ gs)).results [])
 (hargs:∀ sp:Nat->Bool,(∀ p∈before,sp p.block = true)->DataW.TrodAll enc' P W' 0 sp true f.params.toList args.toList (s.fn H (ds ++ gs)).args pa)
 (hvars:∀ sp:Nat->Bool,(∀ p∈before,sp p.block = true)->DataW.TrodVars enc' P W' sp s.vars (s.fn H (ds ++ gs)).vars pv)
 (hps:before = pa ++ pv) (hb:Below W.heap.size W W')
 (hok:∀ (j:Nat) (t:TypeId) (r:Value),f.resultTypes[j]? = some t->(v.resultList f.resultTypes.size)[j]? = some r->Value.okWide P W' .any 0 t r) :
 s.post enc' P f qf9 fresh handsOn again W args v W':=by
 have hlt:∀ p∈before,p.block < W.heap.size:=fun p hp=>hW.lt p hp
 have hold:∀ p∈before,(fun b=>decide (b < W.heap.size)) p.block = true:=fun p hp=>by simpa using hlt p hp
 refine ⟨ds,gs,before,[],pa,pv,hW,hres _ _ _,hargs _ hold,hvars _ hold,World.keptBut_mono (fun p hp=>⟨hp,?_⟩) (hb.frame (·∈before)),fun _=>?_⟩
 ·rw [hps,List.mem_append] at hp
  exact Or.inr hp
 ·obtain ⟨_,_,_,_,_,hz,hn⟩:=hW
  refine ⟨hok,_,_,([] ++ pa) ++ pv,⟨[] ++ pa,pv,trodAll_append (hargs _ (fun _ _=>rfl)) (hres _ _ _),hvars _ (fun _ _=>rfl),rfl,?_,?_⟩,?_⟩
  ·intro b off hp
   have hin:MemPlace.cell b off∈before:=by rw [hps];simpa using hp
   rw [hb.frozen (hlt _ hin)]
   exact hz b off hin
  ·intro ha
   have:=hn ha
   rw [hps] at this
   simpa using this
  ·intro p hp _
   rw [hps]
   simpa using hp
end
end Go.V

/-
 Types as data.
-/
namespace Go.V
open Go Go.RowKit

inductive Ty where
 | mk (con:List UInt8) (var:Int) (args:List Ty)

def Ty.con:Ty->List UInt8 | .mk c _ _=>c
def Ty.var:Ty->Int | .mk _ v _=>v
def Ty.args:Ty->List Ty | .mk _ _ l=>l

mutual
def encY:Ty->AV
 | .mk c v l=>.agg [.str c,.int .i64 v,.sl 3 (qx l)]
def qx:List Ty->List AV
 | []=>[]
 | x :: r=>encY x :: qx r
end
theorem qdk (l:List Ty):qx l = l.map encY:=by
 induction l with
 | nil=>rfl
 | cons x r ih=>simp [qx,ih]
theorem qcr (n:Ty):AV.agg [.str n.con,.int .i64 n.var,.sl 3 (qx n.args)] = encY n:=by
 cases n;simp only [encY,Ty.con,Ty.var,Ty.args]
theorem qyv (n:Ty):(encY n).cells = [.str n.con,.int .i64 n.var,.sl 3 (qx n.args)]:=by rw [← qcr];rfl

theorem Ty.ind {p:Ty->Prop} (h:∀ n:Ty,(∀ x∈n.args,p x)->p n):∀ n,p n:=by
 intro n
 refine Ty.rec (motive_1:=p) (motive_2:=fun l=>∀ x∈l,p x) (fun c v l ih=>h (.mk c v l) ih) (fun x hx=>by cases hx) (fun x r h1 h2 y hy=>?_) n
 rcases List.mem_cons.1 hy with rfl | hy
 ·exact h1
 ·exact h2 y hy

theorem qck (k:Nat):∀ n,(encY n).bd k = true:=Ty.ind fun n ih=>by
 simp only [← qcr n,AV.bd,AV.bds,qdk,qb9,Bool.true_and,Bool.and_true,List.all_map,List.all_eq_true]
 exact ih
theorem qcm (k:Nat) (l:List Ty):AV.bds k (qx l) = true:=by
 rw [qdk,qb9,List.all_map,List.all_eq_true];exact fun x _=>qck k x
theorem qoq (σ:Nat->Nat) (n:Ty):(encY n).ren σ = encY n:=ren_same (m:=0) (fun i hi=>by omega) _ (qck 0 n)
theorem qfz (σ:Nat->Nat) (l:List Ty):AV.rens σ (qx l) = qx l:=ql (m:=0) (fun i hi=>by omega) _ (qcm 0 l)
theorem qbsv (H:List Ent) (n:Ty):co H (.agg [.id,.id,.sl 3]) (encY n) = encY n:=by
 rw [← qcr];simp only [qh9,qdz,qfh,ql2,qd1]
theorem q4p (n:Ty):rdCo (.agg [.id,.id,.sl 3]) (encY n) = []:=by
 rw [← qcr];simp only [qek,qcx,qdn,qhf,qcw,List.append_nil]
theorem qw5 (n:Ty):(encY n).isAgg = true:=by cases n;rfl
theorem qy4 (n:Ty):(encY n).cells.all AV.leaf = true:=by cases n;rfl
theorem qbz (l:List Ty):(qx l).length = l.length:=by rw [qdk];simp
theorem qzf {l:List Ty} {i:Nat} (h:i < l.length):(qx l).getD i .junk = encY l[i]:=by rw [qdk,List.getD_eq_getElem?_getD,List.getElem?_map,List.getElem?_eq_getElem h];rfl
def Ty.wf (n:Ty):Prop:=n.args.length≤maxLen∧n.con.length≤maxLen∧(Lit.int .i64 n.var).wf = true∧∀ x∈n.args,(encY x).wf
theorem q3m (n:Ty):(encY n).wf ↔ n.wf:=by
 rw [← qcr]
 simp only [AV.wf,AV.wfs,qbz,Ty.wf,qou,qdk,List.mem_map,forall_exists_index,and_imp,forall_apply_eq_imp_iff₂,and_true]
 simp only [List.length_map]
 constructor
 ·rintro ⟨h1,h2,h3,h4⟩;exact ⟨h3,h1,h2,h4⟩
 ·rintro ⟨h1,h2,h3,h4⟩;exact ⟨h2,h3,h1,h4⟩
theorem qrl (n:Ty):(encY n).leaf = false:=by cases n;rfl
abbrev yc (n:Ty):List AV:=[.str n.con,.int .i64 n.var,.sl 3 (qx n.args)]
attribute [go_sem] yc
def Y0:Ty:=.mk [] 0 []
theorem qb6 {l:List Ty} {i:Nat} (h:i < l.length):(qx l).getD i .junk = encY (l.getD i Y0):=by
 rw [qzf h,List.getD_eq_getElem?_getD,List.getElem?_eq_getElem h];rfl
theorem qb2 {l:List Ty} {i:Nat} (h:i < l.length):l.getD i Y0∈l:=by
 rw [List.getD_eq_getElem?_getD,List.getElem?_eq_getElem h];exact List.getElem_mem h
theorem qqy {l:List Ty} {i:Nat} (h:i < l.length):l.drop i = l.getD i Y0 :: l.drop (i + 1):=by
 rw [List.drop_eq_getElem_cons h,List.getD_eq_getElem?_getD,List.getElem?_eq_getElem h];rfl
theorem qbbw (b:Bool) (n off:Nat) (t:Ty):fldv b n off (encY t) = ldc b n off [.str t.con,.int .i64 t.var,.sl 3 (qx t.args)]:=by rw [← qcr];rfl
theorem qgo (a:List Ty) (t:Ty):qx a ++ [encY t] = qx (a ++ [t]):=by simp [qdk]
attribute [go_sem] qbbw q4p qck qcm qoq qfz qbsv qw5 qyv qcr qrl qbz

structure Pd where
 cls:List UInt8
 ty:Ty
def encP (p:Pd):AV:=.agg [.str p.cls,.str p.ty.con,.int .i64 p.ty.var,.sl 3 (qx p.ty.args)]
def qg (l:List Pd):List AV:=l.map encP
def P0:Pd:=⟨[],Y0⟩
abbrev pdc (p:Pd):List AV:=[.str p.cls,.str p.ty.con,.int .i64 p.ty.var,.sl 3 (qx p.ty.args)]
theorem q24 (p:Pd):AV.agg [.str p.cls,.str p.ty.con,.int .i64 p.ty.var,.sl 3 (qx p.ty.args)] = encP p:=rfl
theorem qx2 (p:Pd):(encP p).cells = pdc p:=rfl
theorem qlx (k:Nat) (p:Pd):(encP p).bd k = true:=by simp only [encP,AV.bd,AV.bds,qcm,Bool.and_true]
theorem qbk (k:Nat) (l:List Pd):AV.bds k (qg l) = true:=by rw [qg,qb9,List.all_map,List.all_eq_true];exact fun x _=>qlx k x
theorem q8x (σ:Nat->Nat) (p:Pd):(encP p).ren σ = encP p:=ren_same (m:=0) (fun i hi=>by omega) _ (qlx 0 p)
theorem qbp (σ:Nat->Nat) (l:List Pd):AV.rens σ (qg l) = qg l:=ql (m:=0) (fun i hi=>by omega) _ (qbk 0 l)
theorem qbmq (H:List Ent) (p:Pd):co H (.agg [.id,.id,.id,.sl 3]) (encP p) = encP p:=by
 simp only [encP,qh9,qdz,qfh,ql2,qd1]
theorem q4e (p:Pd):rdCo (.agg [.id,.id,.id,.sl 3]) (encP p) = []:=by
 simp only [encP,qek,qcx,qdn,qhf,qcw,List.append_nil]
theorem qbbi (p:Pd):(encP p).isAgg = true:=rfl
theorem qse (p:Pd):(encP p).leaf = false:=rfl
theorem qi (l:List Pd):(qg l).length = l.length:=by simp [qg]
theorem q8 {l:List Pd} {i:Nat} (h:i < l.length):(qg l).getD i .junk = encP (l.getD i P0):=by
 rw [qg,List.getD_eq_getElem?_getD,List.getElem?_map,List.getElem?_eq_getElem h,List.getD_eq_getElem?_getD,List.getElem?_eq_getElem h];rfl
theorem qvg {l:List Pd} {i:Nat} (h:i < l.length):l.getD i P0∈l:=by
 rw [List.getD_eq_getElem?_getD,List.getElem?_eq_getElem h];exact List.getElem_mem h
theorem dropP {l:List Pd} {i:Nat} (h:i < l.length):l.drop i = l.getD i P0 :: l.drop (i + 1):=by
 rw [List.drop_eq_getElem_cons h,List.getD_eq_getElem?_getD,List.getElem?_eq_getElem h];rfl
theorem qb8 (l:List Pd) (p:Pd):qg l ++ [encP p] = qg (l ++ [p]):=by simp [qg]
theorem qid (p:Pd):[encP p] = qg [p]:=rfl
theorem qw:qg [] = []:=rfl
theorem qbq {l:List Pd} (h:l≠[]):qg l≠[]:=by cases l with | nil=>exact absurd rfl h | cons _ _=>simp [qg]
theorem qyo (n:Nat) (l:List Pd):(qg l).take n = qg (l.take n):=by simp [qg]
theorem qyt (n:Nat) (l:List Pd):(qg l).drop n = qg (l.drop n):=by simp [qg]
theorem q7g (b:Bool) (n off:Nat) (p:Pd):fldv b n off (encP p) = ldc b n off (pdc p):=rfl
theorem qbso {p:Pd} (h:(encP p).wf):p.cls.length≤maxLen∧(encY p.ty).wf:=by
 obtain ⟨h1,h2,h3,h4,_⟩:=h
 rw [← qcr]
 exact ⟨h1,h2,h3,h4,trivial⟩
theorem qca {l:List Pd} {n:Nat} (h:(AV.sl n (qg l)).wf):l.length≤maxLen∧∀ p∈l,(encP p).wf:=by
 refine ⟨by have:=h.1;rwa [qi] at this,fun p hp=>(qou _).1 h.2 _ ?_⟩
 rw [qg];exact List.mem_map_of_mem hp
attribute [go_sem] pdc q7g q4e qlx qbk q8x qbp qbmq qbbi qx2 q24 qse qi qyo qyt
end Go.V
