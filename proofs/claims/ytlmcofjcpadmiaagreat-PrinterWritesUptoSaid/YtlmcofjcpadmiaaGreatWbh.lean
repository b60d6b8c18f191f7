/- A text of this proof. -/
import Derived.Test.YtlmcofjcpadmiaaGreatWak
import Derived.Test.YtlmcofjcpadmiaaGreatWal
import Derived.Test.YtlmcofjcpadmiaaGreatWbg
set_option linter.unusedVariables false
set_option linter.unusedSimpArgs false

/- arguments of the statements that are not too great: trees -/
set_option maxRecDepth 100000
namespace Go.Proofs.YtlmcofjcpadmiaaGreat
open Go Go.RowKit Go.V Go.ChangeShapes Go.WideShapes Go.ChangeAt

theorem qbkt (H:Type):BulkOK (Rows.uptoBulk (H:=H)) Rows.uptoBulkAll where
 one:=fun d=>by
  cases d with
  | lit l=>cases l<;>simp [Rows.uptoBulk]
  | nil=>simp [Rows.uptoBulk]
  | ptr d=>simp [Rows.uptoBulk]
  | slice elems spare=>simp [Rows.uptoBulk]
  | agg parts=>simp [Rows.uptoBulk]
  | iface t d=>simp [Rows.uptoBulk]
  | map entries=>simp [Rows.uptoBulk]
  | held h=>simp [Rows.uptoBulk]
 str:=fun s=>by simp [Rows.uptoBulk]
 slice:=fun es sp=>by simp only [Rows.uptoBulk];omega
 agg:=fun l=>by simp only [Rows.uptoBulk];omega
 cons:=fun d l=>by simp only [Rows.uptoBulkAll]
def LTn:List TypeId:=[9,3,24,22]
theorem hLTn:LTn.all (qjg Tryz.prog LTn) = true:=by kernel_rfl
instance:Inhabited N:=⟨N0⟩
theorem qber:∀ (f:Nat) (ds:List AV),TC Tryz.prog f 24 ds->∃ n:N,ds = (enc n).cells:=by
 intro f
 induction f using Nat.strongRecOn with
 | ind f ih =>
   intro ds h
   obtain ⟨f',rfl,hl,h⟩:=qblj Tryz.underlying24 h
   rw [show Tryz.prog.cellsOf 24 = 5 by kernel_rfl] at hl
   match ds,hl with
   | [a, b, c, e, g], _ =>
     have h0:=h (3,0) (by decide)
     have h1:=h (3,1) (by decide)
     have h2:=h (3,2) (by decide)
     have h3:=h (9,3) (by decide)
     have h4:=h (22,4) (by decide)
     simp only [show Tryz.prog.cellsOf 3 = 1 by kernel_rfl,show Tryz.prog.cellsOf 9 = 1 by kernel_rfl,show Tryz.prog.cellsOf 22 = 1 by kernel_rfl,List.drop_zero,List.drop_succ_cons,List.take_succ_cons,List.take_zero] at h0 h1 h2 h3 h4
     obtain ⟨n0,e0⟩:=qtm Tryz.underlying3 h0
     obtain ⟨n1,e1⟩:=qtm Tryz.underlying3 h1
     obtain ⟨n2,e2⟩:=qtm Tryz.underlying3 h2
     obtain ⟨n3,e3⟩:=qbka Tryz.underlying9 h3
     obtain ⟨f'',es,rfl,e4,he⟩:=qbk7 Tryz.underlying22 h4
     obtain ⟨l,rfl⟩:=q3k (enc:=enc) he fun ds hd=>by
      obtain ⟨t,rfl⟩:=ih f'' (by omega) ds hd
      exact ⟨t,by rw [q0d Tryz.underlying24,qfg];exact qcr t⟩
     rw [show Tryz.prog.cellsOf 24 = 5 by kernel_rfl,← qce] at e4
     cases e0;cases e1;cases e2;cases e3;cases e4
     exact ⟨.mk n0 n1 n2 n3 l,by rw [qfg];rfl⟩
theorem q8x (n:N):Go.V.szA (enc n) = n.text.length + Go.V.szAs (encs n.kids) + 5:=by
 rw [← qcr];simp only [Go.V.szA,Go.V.szAs];omega
theorem qbgd {K:Nat}:∀ n,Go.V.szA (enc n)≤K->TxB K n:=N.ind fun n ih h=>by
 rw [q8x] at h
 refine .mk (by omega) fun x hx=>ih x hx ?_
 have:∀ l:List N,x∈l->Go.V.szA (enc x)≤Go.V.szAs (encs l):=fun l=>by
  induction l with
  | nil=>intro h;cases h
  | cons y r ihl =>
    intro h
    rw [encs,Go.V.szAs]
    rcases List.mem_cons.1 h with rfl | h
    ·omega
    ·have:=ihl h;omega
 have:=this _ hx
 omega
section
variable {H:Type} {enc':TypeId×Value->H} {W W':World} {base:Nat} {v:Value} {d:DataW H} {p:List MemPlace} {sp:Nat->Bool}
theorem qru (hok:Value.okWide Tryz.prog W .any base 24 v) (h:DataW.Trod enc' Tryz.prog W 0 (fun _=>true) true 24 v d p):∃ n,VR W (MM W) [] (enc n) v∧Go.V.szA (enc n)≤Rows.uptoBulk d:=by
 obtain ⟨f,cs,h1,h2,h3⟩:=qbba (qbkt H) hLTn (by decide) hok h
 obtain ⟨l,rfl⟩:=qber f cs h1
 rw [q0d Tryz.underlying24] at h2 h3
 have e:AV.agg (enc l).cells = enc l:=by rw [qfg];exact qcr l
 rw [e] at h2 h3
 exact ⟨l,h2,h3⟩
end
end Go.Proofs.YtlmcofjcpadmiaaGreat
