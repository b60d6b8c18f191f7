/- Texts of this proof, joined. -/
import Derived.Test.YtkenggenkmfopaaGreatIah
import Derived.Test.YtkenggenkmfopaaGreatIaj
set_option linter.unusedVariables false
set_option linter.unusedSimpArgs false

/-
 The value logic, part w, second half: how great an argument is.
-/
namespace Go.V
open Go Go.RowKit

mutual
def szA:AV->Nat
 | .str l=>l.length+1
 | .agg cs=>szAs cs
 | .sl _ es=>1+szAs es
 | .bool _ | .int _ _ | .nilp | .nilf | .nili | .nils | .nilm | .tup _ | .lit _ _ | .ptr _ _ | .row _ _ | .eptr _ _ _ _ | .rptr _ _ _ _ | .vw _ _ _ _ | .fn _ _ _ | .opq _ | .iface _ _ | .junk=>1
def szAs:List AV->Nat
 | []=>0
 | v::r=>szA v+szAs r
end
theorem qbhy(a b:List AV):szAs (a++b)=szAs a+szAs b:=by
 induction a with
 | nil=>simp[szAs]
 | cons x a ih=>simp only[List.cons_append,szAs,ih];omega
structure BulkOK{H:Type}(B:DataW H->Nat)(Ba:List (DataW H)->Nat):Prop where
 one:∀d,1≤B d
 str:∀s,s.length+1≤B (.lit (.string s))
 slice:∀es sp,Ba es+1≤B (.slice es sp)
 agg:∀l,Ba l≤B (.agg l)
 cons:∀d l,Ba (d::l)=B d+Ba l

section
variable {H:Type} {enc':TypeId×Value->H} {P:Program} {w:World} {base:Nat} {sp:Nat->Bool} {held:Bool} {B:DataW H->Nat} {Ba:List (DataW H)->Nat}
theorem qbl9(hB:BulkOK B Ba):∀(l:List AV) (m:List (DataW H)),l.length=m.length->(∀(j:Nat) a d,l[j]?=some a->m[j]?=some d->szA a≤B d)->szAs l≤Ba m
 | [],m,_,_=>Nat.zero_le _
 | a::l,[],h,_=>by simp at h
 | a :: l, d :: m, h, hp => by
   rw[szAs,hB.cons]
   have h1:=hp 0 a d rfl rfl
   have h2:=qbl9 hB l m (by simpa using h) fun j x y hx hy=>hp (j+1) x y (by simpa using hx) (by simpa using hy)
   omega
theorem qbld{S:TypeId}{as:List AV}(hn:as.length=P.cellsOf S)(h1:(∀fs,P.underlying S≠some (.struct fs))->(∀n e,P.underlying S≠some (.array n e))->P.cellsOf S=1):szA (elA P S as)≤szAs as:=by
 unfold elA
 split
 ·simp[szA]
 ·simp[szA]
 ·rename_i g1 g2
  have:=h1 g1 g2
  match as,hn with
  | [a],_=>simp[szAs]
  | [],hn=>simp only[List.length_nil] at hn;omega
  | _::_::_,hn=>simp only[List.length_cons] at hn;omega
theorem qxc(hB:BulkOK B Ba){f n:Nat}{cs:List Value}(hcs:cs.length=n):∀(l:List (TypeId×Nat)) (ys:List (DataW H)) (o:Nat),qq1 P o l n=true →
 (∀(j:Nat) (x:TypeId×Nat),l[j]?=some x->∃y as,ys[j]?=some y∧TC P f x.1 as∧VRs w (MM w) [] as ((cs.drop x.2).take (P.cellsOf x.1))∧as.all AV.leaf=true∧szAs as≤B y) →
 ∃as,VRs w (MM w) [] as (cs.drop o)∧as.all AV.leaf=true∧szAs as≤Ba ys∧∀x∈l,o≤x.2∧TC P f x.1 ((as.drop (x.2-o)).take (P.cellsOf x.1))
 | [], ys, o, ht, _ => by
   simp only[qq1,beq_iff_eq] at ht
   refine⟨[],?_,rfl,Nat.zero_le _,fun x hx=>by simp at hx⟩
   rw[List.drop_of_length_le (by omega)];rfl
 | x :: r, ys, o, ht, h => by
   simp only[qq1,Bool.and_eq_true,beq_iff_eq] at ht
   obtain⟨hx,ht⟩:=ht
   have hle:=qy2 ht
   obtain⟨y0,a0,q0,q1,q2,q3,q4⟩:=h 0 x rfl
   obtain⟨ys',rfl⟩:∃ys',ys=y0::ys':=by
    cases ys with
    | nil=>simp at q0
    | cons z ys'=>simp at q0;exact⟨ys',by rw[q0]⟩
   obtain⟨as,r1,r2,r4,r3⟩:=qxc hB hcs r ys' _ ht fun j x hj=>by simpa using h (j+1) x (by simpa using hj)
   rw[hx] at q2
   have hl:a0.length=P.cellsOf x.1:=by
    have:=ql q2
    rw[List.length_take,List.length_drop] at this
    omega
   refine⟨a0++as,?_,by rw[List.all_append,q3,r2];rfl,by rw[qbhy,hB.cons];omega,fun y hy=>?_⟩
   ·have:=qbw q2 r1
    rw[←List.drop_drop,List.take_append_drop] at this
    exact this
   ·rcases List.mem_cons.1 hy with rfl | hy
    ·refine⟨by omega,?_⟩
     rw[hx,Nat.sub_self,List.drop_zero,List.take_append_of_le_length (by omega),List.take_of_length_le (by omega)]
     exact q1
    ·obtain⟨s1,s2⟩:=r3 y hy
     refine⟨by omega,?_⟩
     rw[List.drop_append,List.drop_of_length_le (by omega),List.nil_append,hl,show y.2-o-P.cellsOf x.1=y.2-(o+P.cellsOf x.1) by omega]
     exact s2

theorem qbjk(hB:BulkOK B Ba){L:List TypeId}(hL:L.all (qp5 P L)=true):∀(fuel:Nat) (T:TypeId) (cs:List Value) (x:DataW H×List MemPlace),T∈L->DataW.trod enc' P w base sp held fuel T cs=some x →
 ∃as,TC P fuel T as∧VRs w (MM w) [] as cs∧as.all AV.leaf=true∧as.length=P.cellsOf T∧szAs as≤B x.1:=by
 intro fuel
 induction fuel with
 | zero=>intro T cs x _ h;simp[DataW.trod] at h
 | succ f ih =>
   intro T cs x hT h
   have hp:=List.all_eq_true.1 hL T hT
   have hP:=hp
   unfold qp5 at hp
   split at hp
   ·rename_i k hu
    simp only[DataW.trod,hu] at h
    simp only[TC,hu]
    split at h<;>first | (simp at *;done) | skip
    rename_i k2 k3 n h1
    simp only[Option.some.injEq,TypeDesc.int.injEq] at h1
    subst h1
    split at h
    ·rename_i h3
     obtain⟨rfl,h3⟩:=h3
     simp only[Option.some.injEq] at h
     exact⟨_,⟨n,rfl⟩,⟨_,_,rfl,⟨rfl,h3⟩,rfl⟩,rfl,by simpa using(beq_iff_eq.1 hp).symm,by simpa [szAs,szA] using hB.one _⟩
    ·cases h
   ·rename_i hu
    simp only[DataW.trod,hu] at h
    simp only[TC,hu]
    split at h<;>first | (simp at *;done) | skip
    rename_i s h1
    try(split at h)
    ·rename_i h3
     simp only[Option.some.injEq] at h
     exact⟨_,⟨s.data.toList,rfl⟩,⟨_,_,rfl,⟨by simp,by simpa using h3⟩,rfl⟩,rfl,by simpa using(beq_iff_eq.1 hp).symm,by
      rw[←h]
      have:=hB.str s.data.toList
      simp only[Array.length_toList] at this
      simpa [szAs,szA] using this⟩
    ·cases h
   ·rename_i hu
    simp only[DataW.trod,hu] at h
    simp only[TC,hu]
    split at h<;>first | (simp at *;done) | skip
    rename_i b h1
    exact⟨_,⟨b,rfl⟩,⟨_,_,rfl,rfl,rfl⟩,rfl,by simpa using(beq_iff_eq.1 hp).symm,by simpa [szAs,szA] using hB.one _⟩
   ·rename_i S hu
    simp only[Bool.and_eq_true,beq_iff_eq,bne_iff_ne,ne_eq] at hp
    obtain⟨⟨hS,hc0⟩,hc1⟩:=hp
    have hS:S∈L:=by simpa using hS
    have hSp:=List.all_eq_true.1 hL S hS
    simp only[DataW.trod,hu] at h
    simp only[TC,hu]
    split at h<;>first | (simp at *;done) | skip
    ·exact⟨_,⟨[],rfl,fun e he=>by simp at he⟩,⟨_,_,rfl,⟨none,0,[],rfl,⟨by simp,by simp[maxLen],by simp,rfl⟩,rfl⟩,rfl⟩,rfl,by simpa using hc1.symm,by simpa [szAs,szA] using hB.one _⟩
    ·rename_i e a len cap he
     simp only[Option.some.injEq,TypeDesc.slice.injEq] at he
     subst he
     split at h
     ·rename_i hb
      obtain⟨elems,h1,h2⟩:=Option.bind_eq_some_iff.1 h
      obtain⟨hml,hmg⟩:=qn4 h1
      rw[List.length_range] at hml
      have hex:∀i,∃p:List Value×List AV,i<len->w.cells? base (a.add (i*P.cellsOf S)) (P.cellsOf S)=some p.1∧TC P f S p.2∧VRs w (MM w) [] p.2 p.1∧p.2.all AV.leaf=true∧p.2.length=P.cellsOf S∧∀y,elems[i]?=some y->szAs p.2≤B y.1:=fun i=>by
       by_cases hi:i<len
       ·have hi':i<elems.length:=by omega
        obtain⟨z,hz,hy⟩:=hmg i _ (List.getElem?_eq_getElem hi')
        rw[List.getElem?_range hi] at hz
        simp only[Option.some.injEq] at hz
        subst hz
        obtain⟨cs,q1,q2⟩:=Option.bind_eq_some_iff.1 hy
        obtain⟨as,r1,r2,r3,r4,r5⟩:=ih S cs _ hS q2
        exact⟨(cs,as),fun _=>⟨q1,r1,r2,r3,r4,fun y hy=>by rw[List.getElem?_eq_getElem hi'] at hy;cases hy;exact r5⟩⟩
       ·exact⟨([],[]),fun h=>absurd h hi⟩
      obtain⟨g,hg⟩:=Classical.axiomOfChoice hex
      have hel:∀i,i<len->VR w (MM w) [] (elA P S (g i).2) (elV P S (g i).1)∧(elV P S (g i).1).cells.toList=(g i).1:=fun i hi=>by
       obtain⟨_,_,q2,q3,q4,_⟩:=hg i hi
       exact qclm q2 q3 q4 (qop hSp)
      have hus:((List.range len).map fun i=>elV P S (g i).1).length=len:=by simp
      have hsz:∀u∈(List.range len).map (fun i=>elV P S (g i).1),u.cells.size=P.cellsOf S:=fun u hu=>by
       obtain⟨i,hi,rfl⟩:=List.mem_map.1 hu
       have hi:=List.mem_range.1 hi
       rw[←Array.length_toList,(hel i hi).2]
       exact(qrd (hg i hi).1).1
      refine⟨[.sl (P.cellsOf S) ((List.range len).map fun i=>elA P S (g i).2)],⟨_,rfl,fun e he=>?_⟩,⟨_,_,rfl,⟨some a,cap,(List.range len).map fun i=>elV P S (g i).1,?_,⟨by rw[hus];exact hb.2.1,hb.2.2,hsz,?_⟩,by rw[hus]⟩,rfl⟩,rfl,by simpa using hc1.symm,?_⟩
      ·obtain⟨i,hi,rfl⟩:=List.mem_map.1 he
       exact⟨_,(hg i (List.mem_range.1 hi)).2.1,rfl⟩
      ·have key:∀l:List Nat,(∀i∈l,i<len)->VRs w (MM w) [] (l.map fun i=>elA P S (g i).2) (l.map fun i=>elV P S (g i).1):=by
        intro l
        induction l with
        | nil=>intro _;rfl
        | cons i r ihr=>intro hl;exact⟨_,_,rfl,(hel i (hl i (by simp))).1,ihr fun j hj=>hl j (by simp[hj])⟩
       exact key _ fun i hi=>List.mem_range.1 hi
      ·by_cases h0:len=0
       ·subst h0;exact .inl rfl
       ·have hspot:a.spot=none:=by
         have hq:=qrd (hg 0 (by omega)).1
         have hc2:=hq.2 0 ((g 0).1[0]'(by omega)) (by rw[List.getElem?_eq_getElem])
         have:=World.cell?_spot hc2
         by_cases ha:a.spot=none
         ·exact ha
         ·exfalso
          revert this
          unfold Addr.add
          cases hs:a.spot with
          | none=>exact absurd hs ha
          | some z=>simp[hs]
        refine .inr ⟨hspot,fun j v hj=>?_⟩
        obtain⟨i,q,u,r1,r2,r3⟩:=qtb hsz hj
        have hi:=(List.getElem?_eq_some_iff.1 r1).1
        rw[hus] at hi
        rw[List.getElem?_map,List.getElem?_range hi] at r1
        simp only[Option.map_some,Option.some.injEq] at r1
        subst r1
        rw[(hel i hi).2] at r2
        obtain⟨z1,z2,z3,z4,z5,_⟩:=hg i hi
        have hcell:=(qrd z1).2 q v r2
        rw[qje hspot,qen] at hcell
        have hone:v.oneCell'=true:=qmv z3 z4 v (List.mem_of_getElem? r2)
        have he:a.off+j=a.off+i*P.cellsOf S+q:=by omega
        rw[he]
        exact⟨hcell,v,hcell,hone⟩
      ·obtain⟨rest,_,rfl⟩:=Option.map_eq_some_iff.1 h2
       have hs:=hB.slice (elems.map (·.1)) (rest.map (·.1))
       have hle:szAs ((List.range len).map fun i=>elA P S (g i).2)≤Ba (elems.map (·.1)):=by
        refine qbl9 hB _ _ (by simp[hml]) fun j v d hv hd=>?_
        rw[List.getElem?_map] at hv hd
        obtain⟨i,hi,rfl⟩:=Option.map_eq_some_iff.1 hv
        obtain⟨y,hy,rfl⟩:=Option.map_eq_some_iff.1 hd
        have hjl:=(List.getElem?_eq_some_iff.1 hi).1
        rw[List.length_range] at hjl
        rw[List.getElem?_range hjl] at hi
        simp only[Option.some.injEq] at hi
        subst hi
        obtain⟨_,_,_,q3,q4,q5⟩:=hg j hjl
        exact Nat.le_trans (qbld q4 (qop hSp)) (q5 y hy)
       simp only[szAs,szA]
       simp only at hs ⊢
       omega
     ·cases h
   ·rename_i fs hu
    simp only[Bool.and_eq_true,List.all_eq_true] at hp
    simp only[DataW.trod,hu] at h
    simp only[TC,hu]
    split at h
    ·rename_i hlen
     obtain⟨xs,h1,h2⟩:=Option.map_eq_some_iff.1 h
     obtain⟨hml,hmg⟩:=qn4 h1
     obtain⟨as,r1,r2,r4,r3⟩:=qxc (P:=P) (w:=w) (f:=f) hB hlen (fieldsOf fs) (xs.map (·.1)) 0 hp.1 fun j x hj=>by
      have hx:=List.mem_of_getElem? hj
      have hjl:=(List.getElem?_eq_some_iff.1 hj).1
      have hjx:j<xs.length:=by rw[hml];simpa [fieldsOf] using hjl
      obtain⟨z,hz,hy⟩:=hmg j _ (List.getElem?_eq_getElem hjx)
      have hxz:x=(z.type,z.offset):=by
       rw[fieldsOf,List.getElem?_map,hz] at hj
       simpa using hj.symm
      subst hxz
      obtain⟨as,r1,r2,r3,_,r5⟩:=ih z.type _ _ (by simpa using hp.2 _ hx) hy
      exact⟨_,as,by rw[List.getElem?_map,List.getElem?_eq_getElem hjx];rfl,r1,r2,r3,r5⟩
     rw[List.drop_zero] at r1
     have hl:=ql r1
     exact⟨as,⟨by omega,fun x hx=>by simpa using(r3 x hx).2⟩,r1,r2,by omega,by rw[←h2];exact Nat.le_trans r4 (hB.agg _)⟩
    ·cases h
   ·rename_i n e hu
    simp only[Bool.and_eq_true] at hp
    simp only[DataW.trod,hu] at h
    simp only[TC,hu]
    split at h
    ·rename_i hlen
     obtain⟨xs,h1,h2⟩:=Option.map_eq_some_iff.1 h
     obtain⟨hml,hmg⟩:=qn4 h1
     obtain⟨as,r1,r2,r4,r3⟩:=qxc (P:=P) (w:=w) (f:=f) hB hlen (qkb P n e) (xs.map (·.1)) 0 hp.1 fun j x hj=>by
      have hx:=List.mem_of_getElem? hj
      have hjl:=(List.getElem?_eq_some_iff.1 hj).1
      have hjx:j<xs.length:=by rw[hml];simpa [qkb] using hjl
      obtain⟨z,hz,hy⟩:=hmg j _ (List.getElem?_eq_getElem hjx)
      have hxz:x=(e,z*P.cellsOf e):=by
       rw[qkb,List.getElem?_map,hz] at hj
       simpa using hj.symm
      subst hxz
      obtain⟨as,r1,r2,r3,_,r5⟩:=ih e _ _ (by simpa using hp.2) hy
      exact⟨_,as,by rw[List.getElem?_map,List.getElem?_eq_getElem hjx];rfl,r1,r2,r3,r5⟩
     rw[List.drop_zero] at r1
     have hl:=ql r1
     exact⟨as,⟨by omega,fun x hx=>by simpa using(r3 x hx).2⟩,r1,r2,by omega,by rw[←h2];exact Nat.le_trans r4 (hB.agg _)⟩
    ·cases h
   ·cases hp

theorem qbat(hB:BulkOK B Ba){L:List TypeId}(hL:L.all (qp5 P L)=true){T:TypeId}(hT:T∈L){v:Value}{d:DataW H}{p:List MemPlace}{b:Nat}(hok:Value.okWide P w .any b T v)
 (h:DataW.Trod enc' P w 0 (fun _=>true) true T v d p):∃f as,TC P f T as∧VR w (MM w) [] (elA P T as) v∧szA (elA P T as)≤B d:=by
 obtain⟨fuel,hf⟩:=h
 obtain⟨as,h1,h2,h3,h4,h5⟩:=qbjk hB hL fuel T _ _ hT hf
 have hp:=qop (List.all_eq_true.1 hL T hT)
 refine⟨fuel,as,h1,?_,Nat.le_trans (qbld h4 hp) h5⟩
 unfold Value.okWide at hok
 unfold elA
 split
 ·rename_i fs hu
  rw[hu] at hok
  obtain⟨cs,rfl,_,_⟩:=hok
  exact⟨cs.toList,by simp,by simpa [Value.cells] using h2⟩
 ·rename_i n e hu
  rw[hu] at hok
  obtain⟨cs,rfl,_,_⟩:=hok
  exact⟨cs.toList,by simp,by simpa [Value.cells] using h2⟩
 ·rename_i g1 g2
  have hone:=hp (fun fs h=>g1 fs h) (fun n e h=>g2 n e h)
  have hv:v.cells.toList=[v]:=by
   cases v
   case agg cs =>
    exfalso
    cases hu:P.underlying T with
    | none=>rw[hu] at hok;simp[Cell.okWide,Cell.ok,hu] at hok
    | some u =>
      rw[hu] at hok
      cases u<;>first
       | (simp[Cell.okWide,Cell.ok,hu] at hok;done)
       | exact g1 _ hu
       | exact g2 _ _ hu
   all_goals rfl
  rw[hv] at h2
  match as,h2,h4 with
  | [a], h2, _ =>
    obtain⟨x,r,hx,h5,h6⟩:=h2
    simp only[List.cons.injEq] at hx
    rw[hx.1]
    exact h5
  | [],_,h4=>simp only[List.length_nil] at h4;omega
  | _::_::_,_,h4=>simp only[List.length_cons] at h4;omega
end
end Go.V

/- classes as data -/
namespace Go.V
open Go Go.RowKit

structure Cls where
 name:List UInt8
 sup:List (List UInt8)
 ms:List AV
 hb:AV.bds 0 ms=true
def encC(x:Cls):AV:=.agg [.str x.name,.sl 1 (x.sup.map AV.str),.sl 5 x.ms]
def qfa(l:List Cls):List AV:=l.map encC
def C0:Cls:=⟨[],[],[],rfl⟩
abbrev cdc(x:Cls):List AV:=[.str x.name,.sl 1 (x.sup.map AV.str),.sl 5 x.ms]
theorem qblz{l:List AV}(h:AV.bds 0 l=true)(k:Nat):AV.bds k l=true:=qdc (Nat.zero_le k) _ h
theorem q03(k:Nat)(l:List (List UInt8)):AV.bds k (l.map AV.str)=true:=by rw[qb6,List.all_map,List.all_eq_true];exact fun x _=>rfl
theorem q6u(x:Cls):AV.agg [.str x.name,.sl 1 (x.sup.map AV.str),.sl 5 x.ms]=encC x:=rfl
theorem q1w(x:Cls):(encC x).cells=cdc x:=rfl
theorem qx1(k:Nat)(x:Cls):(encC x).bd k=true:=by simp only[encC,AV.bd,AV.bds,q03,qblz x.hb,Bool.and_true]
theorem qrl(k:Nat)(l:List Cls):AV.bds k (qfa l)=true:=by rw[qfa,qb6,List.all_map,List.all_eq_true];exact fun x _=>qx1 k x
theorem qbjr(σ:Nat->Nat)(x:Cls):(encC x).ren σ=encC x:=ren_same (m:=0) (fun i hi=>by omega) _ (qx1 0 x)
theorem q50(σ:Nat->Nat)(l:List Cls):AV.rens σ (qfa l)=qfa l:=qs (m:=0) (fun i hi=>by omega) _ (qrl 0 l)
theorem qbv7(H:List Ent)(x:Cls):co H (.agg [.id,.sl 1,.sl 5]) (encC x)=encC x:=by
 simp only[encC,qef,qcf,qcx,qgq,qcj]
theorem q8c(x:Cls):rdCo (.agg [.id,.sl 1,.sl 5]) (encC x)=[]:=by
 simp only[encC,qce,qbi,qbq,qdh,qbk,List.append_nil]
theorem qbdd(x:Cls):(encC x).isAgg=true:=rfl
theorem qs8(x:Cls):(encC x).leaf=false:=rfl
theorem qtp(l:List Cls):(qfa l).length=l.length:=by simp[qfa]
theorem q2m{l:List Cls}{i:Nat}(h:i<l.length):(qfa l).getD i .junk=encC (l.getD i C0):=by
 rw[qfa,List.getD_eq_getElem?_getD,List.getElem?_map,List.getElem?_eq_getElem h,List.getD_eq_getElem?_getD,List.getElem?_eq_getElem h];rfl
theorem qclb{l:List Cls}{i:Nat}(h:i<l.length):l.drop i=l.getD i C0::l.drop (i+1):=by
 rw[List.drop_eq_getElem_cons h,List.getD_eq_getElem?_getD,List.getElem?_eq_getElem h];rfl
theorem qbed(b:Bool)(n off:Nat)(x:Cls):fldv b n off (encC x)=ldc b n off (cdc x):=rfl
theorem qbh5{l:List Cls}{n:Nat}(h:(AV.sl n (qfa l)).wf):l.length≤maxLen∧∀p∈l,(encC p).wf:=by
 refine⟨by have:=h.1;rwa [qtp] at this,fun p hp=>(qi2 _).1 h.2 _ ?_⟩
 rw[qfa];exact List.mem_map_of_mem hp
theorem qclp(k:Nat)(x:Cls):AV.bds k x.ms=true:=qblz x.hb k
theorem qchf(σ:Nat->Nat)(x:Cls):AV.rens σ x.ms=x.ms:=qs (m:=0) (fun i hi=>by omega) _ x.hb
attribute [go_sem] qclp qchf cdc qbed q8c qx1 qrl qbjr q50 qbv7 qbdd q1w q6u qs8 qtp q03
end Go.V
