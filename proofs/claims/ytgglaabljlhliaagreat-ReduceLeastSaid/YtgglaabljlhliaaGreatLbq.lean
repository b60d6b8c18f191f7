/- Texts of this proof, joined. -/
import Derived.Test.YtgglaabljlhliaaGreatLbo
import Derived.Test.YtgglaabljlhliaaGreatLbp
import Derived.Test.YtgglaabljlhliaaGreatLav
import Derived.Test.YtgglaabljlhliaaGreatLbh
import Derived.Lib.IndexAny
set_option linter.unusedVariables false
set_option linter.unusedSimpArgs false

/- what follows: the search, as data; functions that may panic -/
namespace Go.V
open Go Go.RowKit
def qxv (P:Program) (f:FuncId) (args:List AV) (r:VO):Prop :=
 VCalls P f [] args (fun H' o=>H' = []∧o = r)∧AV.bds 0 args = true∧r.bd 0 = true
section
variable {P:Program} {H:List Ent} {f:FuncId} {args:List AV} {Q:List Ent->VO->Prop} {n:Nat} {ic:IC} {rs:List (RV×Co)}
theorem q0k {r:VO} (hc:cFun P f = some (n,ic,rs)) (hl:args.length≤n) (ha:AV.bds 0 args = true) (hr:r.bd 0 = true) (h:AV.wfs args->VI P none n 0 ic (retq 0 rs fun H' o=>o = r) ⟨qbr 0 args,[]⟩ []):qxv P f args r:=by
 obtain ⟨_,_,_,_,_,_,_,hok⟩:=qed hc
 exact ⟨qig hok fun hw=>qr hc 0 (Nat.le_refl _) hl ((h hw).mono fun e af H hq=>by
  cases e<;>simp only [retq] at hq ⊢
  ·exact qe6 (fun H=>by simp only [retk,fin,List.take_zero,true_and];exact id) hq
  ·exact qe6 (fun H=>by simp only [retk,fin,List.take_zero,true_and];exact id) hq
  ·exact qe6 (fun H=>by simp only [pank,fin,List.take_zero,true_and];exact id) hq),ha,hr⟩
theorem qra {r:VO} (h:qxv P f args r) (hq:Q H r):VCalls P f H args Q:=by
 have:=qiq (H:=H) [] (Q':=Q) h.1 List.nodup_nil (by simp) rfl (by simp) h.2.1 (fun H1 o ho=>by
  obtain ⟨rfl,rfl⟩:=ho
  simp only [qbi,List.take_nil,List.map_nil,List.drop_nil,List.append_nil]
  rw [VO.ren_same (m:=0) (fun i hi=>by omega) _ h.2.2]
  exact hq)
 rwa [ql (m:=0) (fun i hi=>by omega) args h.2.1] at this
theorem qcv {r:VO} (h:qxv P f args r) (hq:Q H r):VApp P H (.fn f [] []) args Q:=qcu (by simpa using qra h hq)
end
end Go.V
namespace Go.Proofs.YtgglaabljlhliaaGreat
open Go Go.RowKit Go.V
def srcL (rec:Pd->Except Int (Prf×Int)):List Pd->List Prf->Int->Except Int (List Prf×Int)
 | [],ks,n=>.ok (ks,n)
 | q :: r, ks, n => match rec q with
   | .error c=>.error c
   | .ok (y,m)=>if 4096 < n + m then .error 2 else srcL rec r (ks ++ [y]) (n + m)
def srcF (e:Env) (g:List Pd):Nat->Pd->Except Int (Prf×Int)
 | 0,_=>.error 2
 | f + 1, p => match supF e.cs p g 0 with
   | some x=>.ok (x,szPf x)
   | none => if (byI e.is p).2.2 = true then (match srcL (srcF e g f) (byI e.is p).2.1 [] 1 with
     | .error c=>.error c
     | .ok (ks,n)=>.ok (.mk 3 (byI e.is p).1 (appR [] p.ty).1.args ks,n)) else .error 16
def qbgh (c:Int):AV:=.iface 100 (.agg [.int .i64 c])
def srcO (r:Except Int (Prf×Int)):VO:=match r with
 | .ok (x,n)=>.val (.tup [qb1 x,.int .i64 n])
 | .error c=>.pan (qbgh c)
theorem qbl9 (r:Except Int (Prf×Int)):(srcO r).bd 0 = true:=by
 cases r with
 | error c=>rfl
 | ok p=>obtain ⟨x,n⟩:=p;simp only [srcO,VO.bd,AV.bd,AV.bds,qgv];rfl
end Go.Proofs.YtgglaabljlhliaaGreat

/- the reader of terms: what it reads -/
namespace Go.Proofs.YtgglaabljlhliaaGreat
open Go Go.RowKit Go.V

def qgf (s:List UInt8):Nat:=(s.takeWhile fun b=>!([32,40,41]:List UInt8).contains b).length
theorem qwg (s:List UInt8):qgf s≤s.length:=(List.takeWhile_sublist _).length_le
theorem qzx (b:UInt8) (s:List UInt8):qgf (b :: s) = if ([32,40,41]:List UInt8).contains b = true then 0 else qgf s + 1:=by
 rw [qgf,List.takeWhile_cons]
 cases h:([32,40,41]:List UInt8).contains b<;>rfl
theorem qj5:∀ s:List UInt8,Lib.indexAny s [32,40,41] = if qgf s < s.length then (qgf s:Int) else -1
 | []=>rfl
 | b :: s => by
   rw [Lib.indexAny,qzx,qj5 s,List.length_cons]
   cases h:([32,40,41]:List UInt8).contains b with
   | true=>rfl
   | false =>
     simp only [Bool.false_eq_true,if_false]
     by_cases h:qgf s < s.length
     ·have h2:qgf s + 1 < s.length + 1:=by omega
      have h3:(((qgf s:Nat):Int) == -1) = false:=beq_eq_false_iff_ne.2 (by omega)
      simp only [if_pos h,if_pos h2,h3,Bool.false_eq_true,if_false]
      push_cast;rfl
     ·have h2:¬ qgf s + 1 < s.length + 1:=by omega
      simp only [if_neg h,if_neg h2];rfl
def ascS (s:List UInt8):Prop:=s.length < 4294967281
theorem qeb {s:List UInt8} (h:ascS s) (n:Nat):ascS (s.drop n):=by
 unfold ascS at h ⊢
 rw [List.length_drop];omega
theorem q1d {P:Program} {f:FuncId} (hok:okF P f = true)
 (h:∀ (s chars:ByteArray) (w:World),chars.size = 3->s.size < 4294967281->(∀ b∈chars.data.toList,b.toNat < 128) →
  Calls P f #[.string s,.string chars] w fun e w'=>e = .returned (.int .i64 (Lib.indexAny s.data.toList chars.data.toList))∧Below w.heap.size w w')
 {s:List UInt8} (hs:ascS s):qk P f [.str s,.str [32,40,41]] (.int .i64 (Lib.indexAny s [32,40,41])):=by
 refine ⟨(qjr (r:=.int .i64 (Lib.indexAny s [32,40,41])) hok fun w M G vs hst hv=>?_),by simp [AV.bds,AV.bd],rfl⟩
 obtain ⟨v,r,rfl,⟨rfl,_⟩,v',r',rfl,⟨rfl,_⟩,hr⟩:=hv
 simp only [VRs] at hr
 subst hr
 refine (h ⟨s.toArray⟩ ⟨#[32,40,41]⟩ w rfl hs (fun b hb=>?_)).mono ?_
 ·have hm:b∈([32,40,41]:List UInt8):=hb
  simp only [List.mem_cons,List.not_mem_nil,or_false] at hm
  rcases hm with rfl | rfl | rfl<;>decide
 ·rintro e w' ⟨rfl,hb⟩
  have h1:=qwg s
  have h2:s.length < 4294967281:=hs
  refine ⟨_,rfl,hb,rfl,?_⟩
  rw [qj5]
  refine (show ∀ z:Int,-1≤z->z < 4294967281->(Lit.int .i64 z).wf = true from fun z q1 q2=>?_) _ (by split<;>omega) (by split<;>omega)
  simp [Lit.wf,IntKind.min,IntKind.max,IntKind.signed,IntKind.bits]
  omega

/-! the number of a letter -/
def numG (s:List UInt8) (n:Int):Int:=if 4611686018427387904 < n then -1 else if ltrI n = s then n else -1
def numW (s:List UInt8):Int :=
 if s = [] then -1 else if ((s.getD 0 0).toNat:Int) < 97 then -1 else if 122 < ((s.getD 0 0).toNat:Int) then -1
 else if 1 < (s.length:Int) then (if (qfk (s.drop 1)).2 = 0 then (if 177372539170284150 < (qfk (s.drop 1)).1 then -1 else numG s (26 * (qfk (s.drop 1)).1 + (((s.getD 0 0).toNat:Int) - 97))) else -1)
 else numG s (((s.getD 0 0).toNat:Int) - 97)
def qpb (s:List UInt8):Ty :=
 if 0≤numW s then .mk [] (numW s) [] else if pfx [63] s = true then (if (qfk (s.drop 1)).2 = 0 then .mk [] (-1 - (qfk (s.drop 1)).1) [] else .mk s 0 []) else .mk s 0 []

/-! the reader -/
structure Rd where
 s:List UInt8
 lv:Int
 bad:Bool
def arrS:List UInt8:=[32,45,62,32]
def cutR (k:Nat) (r:Rd):Rd:=⟨r.s.drop k,r.lv,r.bad⟩
def badR (b:Bool) (r:Rd):Rd:=⟨r.s,r.lv,r.bad || b⟩
def lvR (n:Int) (r:Rd):Rd:=⟨r.s,n,r.bad⟩
def endA (p:Ty×Rd):Ty×Rd:=if p.2.bad = true then p else if pfx [41] p.2.s = true then (p.1,cutR 1 p.2) else (p.1,badR true p.2)
def qpx (r:Rd):Ty×Rd:=(qpb (r.s.take (qgf r.s)),badR (decide (qgf r.s = 0)) (cutR (qgf r.s) r))
def qb7r (p:Ty×Rd):Rd:=lvR (p.2.lv - 1) p.2
mutual
def qd0:Nat->Rd->Ty×Rd
 | 0,r=>(Y0,r)
 | n + 1,r=>if pfx [40] r.s = true then endA (qfa n (cutR 1 r)) else qpx r
def qfa:Nat->Rd->Ty×Rd
 | 0,r=>(Y0,r)
 | n + 1,r=>if r.bad = true∨200 < r.lv + 1 then (Y0,badR true r) else q1x n (qms n (qd0 n (lvR (r.lv + 1) r)).1 (qd0 n (lvR (r.lv + 1) r)).2)
def qms:Nat->Ty->Rd->Ty×Rd
 | 0,t,r=>(t,r)
 | n + 1,t,r=>if r.bad = false∧pfx arrS r.s = false∧pfx [32] r.s = true then qms n (.mk t.con t.var (t.args ++ [(qd0 n (cutR 1 r)).1])) (qd0 n (cutR 1 r)).2 else (t,r)
def q1x:Nat->Ty×Rd->Ty×Rd
 | 0,p=>(p.1,lvR (p.2.lv - 1) p.2)
 | n + 1,p=>if p.2.bad = false∧pfx arrS p.2.s = true then (.mk arrW 0 [p.1,(qfa n (cutR 4 p.2)).1],qb7r (qfa n (cutR 4 p.2))) else (p.1,lvR (p.2.lv - 1) p.2)
end
end Go.Proofs.YtgglaabljlhliaaGreat
