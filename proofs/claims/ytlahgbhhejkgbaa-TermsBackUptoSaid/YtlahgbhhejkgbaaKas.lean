/- A text of this proof. -/
import Derived.Test.YtlahgbhhejkgbaaKaq
import Derived.Test.YtlahgbhhejkgbaaKar
import Derived.Lib.IndexAny
set_option linter.unusedVariables false
set_option linter.unusedSimpArgs false

/- the reader of terms: what it reads -/
namespace Go.Proofs.Ytlahgbhhejkgbaa
open Go Go.RowKit Go.V

def qdg (s:List UInt8):Nat:=(s.takeWhile fun b=>!([32,40,41]:List UInt8).contains b).length
theorem qol (s:List UInt8):qdg s≤s.length:=(List.takeWhile_sublist _).length_le
theorem qgb (b:UInt8) (s:List UInt8):qdg (b :: s) = if ([32,40,41]:List UInt8).contains b = true then 0 else qdg s + 1:=by
 rw [qdg,List.takeWhile_cons]
 cases h:([32,40,41]:List UInt8).contains b<;>rfl
theorem qgy:∀ s:List UInt8,Lib.indexAny s [32,40,41] = if qdg s < s.length then (qdg s:Int) else -1
 | []=>rfl
 | b :: s => by
   rw [Lib.indexAny,qgb,qgy s,List.length_cons]
   cases h:([32,40,41]:List UInt8).contains b with
   | true=>rfl
   | false =>
     simp only [Bool.false_eq_true,if_false]
     by_cases h:qdg s < s.length
     ·have h2:qdg s + 1 < s.length + 1:=by omega
      have h3:(((qdg s:Nat):Int) == -1) = false:=beq_eq_false_iff_ne.2 (by omega)
      simp only [if_pos h,if_pos h2,h3,Bool.false_eq_true,if_false]
      push_cast;rfl
     ·have h2:¬ qdg s + 1 < s.length + 1:=by omega
      simp only [if_neg h,if_neg h2];rfl
def ascS (s:List UInt8):Prop:=s.length < 4294967281
theorem qc0 {s:List UInt8} (h:ascS s) (n:Nat):ascS (s.drop n):=by
 unfold ascS at h ⊢
 rw [List.length_drop];omega
theorem qrh {P:Program} {f:FuncId} (hok:okF P f = true)
 (h:∀ (s chars:ByteArray) (w:World),chars.size = 3->s.size < 4294967281->(∀ b∈chars.data.toList,b.toNat < 128) →
  Calls P f #[.string s,.string chars] w fun e w'=>e = .returned (.int .i64 (Lib.indexAny s.data.toList chars.data.toList))∧Below w.heap.size w w')
 {s:List UInt8} (hs:ascS s):ql P f [.str s,.str [32,40,41]] (.int .i64 (Lib.indexAny s [32,40,41])):=by
 refine ⟨(qmf (r:=.int .i64 (Lib.indexAny s [32,40,41])) hok fun w M G vs hst hv=>?_),by simp [AV.bds,AV.bd],rfl⟩
 obtain ⟨v,r,rfl,⟨rfl,_⟩,v',r',rfl,⟨rfl,_⟩,hr⟩:=hv
 simp only [VRs] at hr
 subst hr
 refine (h ⟨s.toArray⟩ ⟨#[32,40,41]⟩ w rfl hs (fun b hb=>?_)).mono ?_
 ·have hm:b∈([32,40,41]:List UInt8):=hb
  simp only [List.mem_cons,List.not_mem_nil,or_false] at hm
  rcases hm with rfl | rfl | rfl<;>decide
 ·rintro e w' ⟨rfl,hb⟩
  have h1:=qol s
  have h2:s.length < 4294967281:=hs
  refine ⟨_,rfl,hb,rfl,?_⟩
  rw [qgy]
  refine (show ∀ z:Int,-1≤z->z < 4294967281->(Lit.int .i64 z).wf = true from fun z q1 q2=>?_) _ (by split<;>omega) (by split<;>omega)
  simp [Lit.wf,IntKind.min,IntKind.max,IntKind.signed,IntKind.bits]
  omega

/-! the number of a letter -/
def numG (s:List UInt8) (n:Int):Int:=if 4611686018427387904 < n then -1 else if ltrI n = s then n else -1
def numW (s:List UInt8):Int :=
 if s = [] then -1 else if ((s.getD 0 0).toNat:Int) < 97 then -1 else if 122 < ((s.getD 0 0).toNat:Int) then -1
 else if 1 < (s.length:Int) then (if (qdh (s.drop 1)).2 = 0 then (if 177372539170284150 < (qdh (s.drop 1)).1 then -1 else numG s (26 * (qdh (s.drop 1)).1 + (((s.getD 0 0).toNat:Int) - 97))) else -1)
 else numG s (((s.getD 0 0).toNat:Int) - 97)
def qbx (s:List UInt8):Ty :=
 if 0≤numW s then .mk [] (numW s) [] else if pfx [63] s = true then (if (qdh (s.drop 1)).2 = 0 then .mk [] (-1 - (qdh (s.drop 1)).1) [] else .mk s 0 []) else .mk s 0 []

/-! the reader -/
structure Rd where
 s:List UInt8
 lv:Int
 bad:Bool
def arrS:List UInt8:=[32,45,62,32]
def cutR (k:Nat) (r:Rd):Rd:=⟨r.s.drop k,r.lv,r.bad⟩
def badR (b:Bool) (r:Rd):Rd:=⟨r.s,r.lv,r.bad || b⟩
def lvR (n:Int) (r:Rd):Rd:=⟨r.s,n,r.bad⟩
def endA (p:Ty×Rd):Ty×Rd:=if p.2.bad = true then p else if pfx [41] p.2.s = true then (p.1,cutR 1 p.2) else (p.1,badR true p.2)
def qis (r:Rd):Ty×Rd:=(qbx (r.s.take (qdg r.s)),badR (decide (qdg r.s = 0)) (cutR (qdg r.s) r))
def qbeb (p:Ty×Rd):Rd:=lvR (p.2.lv - 1) p.2
mutual
def qbp:Nat->Rd->Ty×Rd
 | 0,r=>(Y0,r)
 | n + 1,r=>if pfx [40] r.s = true then endA (qcg n (cutR 1 r)) else qis r
def qcg:Nat->Rd->Ty×Rd
 | 0,r=>(Y0,r)
 | n + 1,r=>if r.bad = true∨200 < r.lv + 1 then (Y0,badR true r) else qhc n (qdb n (qbp n (lvR (r.lv + 1) r)).1 (qbp n (lvR (r.lv + 1) r)).2)
def qdb:Nat->Ty->Rd->Ty×Rd
 | 0,t,r=>(t,r)
 | n + 1,t,r=>if r.bad = false∧pfx arrS r.s = false∧pfx [32] r.s = true then qdb n (.mk t.con t.var (t.args ++ [(qbp n (cutR 1 r)).1])) (qbp n (cutR 1 r)).2 else (t,r)
def qhc:Nat->Ty×Rd->Ty×Rd
 | 0,p=>(p.1,lvR (p.2.lv - 1) p.2)
 | n + 1,p=>if p.2.bad = false∧pfx arrS p.2.s = true then (.mk arrW 0 [p.1,(qcg n (cutR 4 p.2)).1],qbeb (qcg n (cutR 4 p.2))) else (p.1,lvR (p.2.lv - 1) p.2)
end
end Go.Proofs.Ytlahgbhhejkgbaa
