/- A text of this proof. -/
import Derived.Test.YtefcfdejmfgbpaaMal
import Derived.Test.YtefcfdejmfgbpaaMam
set_option linter.unusedVariables false
set_option linter.unusedSimpArgs false

/- arguments of the statements: rows of pairs, two types -/
set_option maxRecDepth 100000
namespace Go.Proofs.Ytefcfdejmfgbpaa
open Go Go.RowKit Go.V Go.ChangeShapes Go.WideShapes Go.ChangeAt

def LTm:List TypeId:=[9,3,25,23,30,22,26]
theorem hLTm:LTm.all (qh4 Try.prog LTm) = true:=by kernel_rfl
instance:Inhabited Pr:=⟨R0⟩
theorem q0r {f:Nat} {ds:List AV} (h:TC Try.prog f 30 ds):∃ p:Pr,elA Try.prog 30 ds = encR p:=by
 obtain ⟨f',rfl,hl,h⟩:=q9s Try.underlying30 h
 rw [show Try.prog.cellsOf 30 = 4 by kernel_rfl] at hl
 match ds,hl with
 | [a, b, c, e], _ =>
   have h0:=h (3,0) (by decide)
   have h1:=h (25,1) (by decide)
   simp only [show Try.prog.cellsOf 25 = 3 by kernel_rfl,show Try.prog.cellsOf 3 = 1 by kernel_rfl,List.drop_zero,List.drop_succ_cons,List.take_succ_cons,List.take_zero] at h0 h1
   obtain ⟨n0,h0⟩:=q0e Try.underlying3 h0
   obtain ⟨t,h1⟩:=qkn f' _ h1
   cases h0;cases h1
   exact ⟨⟨n0,t⟩,qug Try.underlying30 _⟩
section
variable {H:Type} {enc':TypeId×Value->H} {W W':World} {base:Nat} {v:Value} {d:DataW H} {p:List MemPlace} {sp:Nat->Bool}
theorem qum (hok:Value.okWide Try.prog W .any base 22 v) (h:DataW.Trod enc' Try.prog W 0 (fun _=>true) true 22 v d p):∃ l,VR W (MM W) [] (.sl 4 (qbq l)) v:=by
 obtain ⟨f,cs,h1,h2⟩:=qt1 hLTm (by decide) hok h
 obtain ⟨f',es,rfl,rfl,he⟩:=qbcl Try.underlying22 h1
 obtain ⟨l,rfl⟩:=qub he fun ds hd=>q0r hd
 rw [qbau Try.underlying22,show Try.prog.cellsOf 30 = 4 by kernel_rfl] at h2
 exact ⟨l,h2⟩
theorem q6z (hok:Value.okWide Try.prog W .any base 26 v) (h:DataW.Trod enc' Try.prog W 0 (fun _=>true) true 26 v d p):∃ x:Ty×Ty,VR W (MM W) [] (.agg (yc x.1 ++ yc x.2)) v:=by
 obtain ⟨f,cs,h1,h2⟩:=qt1 hLTm (by decide) hok h
 obtain ⟨f',rfl,hl,h3⟩:=qbed Try.underlying26 h1
 rw [show Try.prog.cellsOf 26 = 6 by kernel_rfl] at hl
 have hpl:qfb Try.prog 2 25 = [(25,0),(25,3)]:=by kernel_rfl
 rw [hpl] at h3
 have a:=h3 (25,0) (by simp)
 have b:=h3 (25,3) (by simp)
 rw [show Try.prog.cellsOf 25 = 3 by kernel_rfl] at a b
 obtain ⟨t,ht⟩:=qkn f' _ a
 obtain ⟨u,hu⟩:=qkn f' _ b
 dsimp only at ht hu
 rw [List.drop_zero] at ht
 have hu2:(cs.drop 3).take 3 = cs.drop 3:=List.take_of_length_le (by rw [List.length_drop];omega)
 rw [hu2] at hu
 have hc:cs = yc t ++ yc u:=by rw [← ht,← hu,List.take_append_drop]
 rw [q1y Try.underlying26,hc] at h2
 exact ⟨(t,u),h2⟩
theorem qq6 (h:DataW.Trod enc' Try.prog W 0 (fun _=>true) true 22 v d p) (hlt:∀ x∈p,x.block < W.heap.size) (hb:Below W.heap.size W W') (hsp:∀ x∈p,sp x.block = true):DataW.Trod enc' Try.prog W' 0 sp true 22 v d p :=
 WideElems.Trod_stays qoa (show Try.prog.readableRec 22 = true by kernel_rfl) (of_decide_eq_true (by kernel_rfl)) h (fun x hx=>hb.same (hlt x hx)) hsp
theorem qxx (h:DataW.Trod enc' Try.prog W 0 (fun _=>true) true 26 v d p) (hlt:∀ x∈p,x.block < W.heap.size) (hb:Below W.heap.size W W') (hsp:∀ x∈p,sp x.block = true):DataW.Trod enc' Try.prog W' 0 sp true 26 v d p :=
 WideElems.Trod_stays qoa (show Try.prog.readableRec 26 = true by kernel_rfl) (of_decide_eq_true (by kernel_rfl)) h (fun x hx=>hb.same (hlt x hx)) hsp
end
end Go.Proofs.Ytefcfdejmfgbpaa
