/- A text of this proof. -/
import Derived.Test.YtlmcofjcpadmiaaPak
import Derived.Test.YtlmcofjcpadmiaaPal
import Derived.Test.YtlmcofjcpadmiaaPbh
set_option linter.unusedVariables false
set_option linter.unusedSimpArgs false

/- arguments of the statements that are not too great: trees -/
set_option maxRecDepth 100000
namespace Go.Proofs.Ytlmcofjcpadmiaa
open Go Go.RowKit Go.V Go.ChangeShapes Go.WideShapes Go.ChangeAt

theorem qban (H:Type):BulkOK (Rows.uptoBulk (H:=H)) Rows.uptoBulkAll where
 one:=fun d=>by
  cases d with
  | lit l=>cases l<;>simp [Rows.uptoBulk]
  | nil=>simp [Rows.uptoBulk]
  | ptr d=>simp [Rows.uptoBulk]
  | slice elems spare=>simp [Rows.uptoBulk]
  | agg parts=>simp [Rows.uptoBulk]
  | iface t d=>simp [Rows.uptoBulk]
  | map entries=>simp [Rows.uptoBulk]
  | held h=>simp [Rows.uptoBulk]
 str:=fun s=>by simp [Rows.uptoBulk]
 slice:=fun es sp=>by simp only [Rows.uptoBulk];omega
 agg:=fun l=>by simp only [Rows.uptoBulk];omega
 cons:=fun d l=>by simp only [Rows.uptoBulkAll]
def LTn:List TypeId:=[9,3,24,22]
theorem hLTn:LTn.all (qk1 Try.prog LTn) = true:=by kernel_rfl
instance:Inhabited N:=⟨N0⟩
theorem q1w:∀ (f:Nat) (ds:List AV),TC Try.prog f 24 ds->∃ n:N,ds = (enc n).cells:=by
 intro f
 induction f using Nat.strongRecOn with
 | ind f ih =>
   intro ds h
   obtain ⟨f',rfl,hl,h⟩:=qbg2 Try.underlying24 h
   rw [show Try.prog.cellsOf 24 = 5 by kernel_rfl] at hl
   match ds,hl with
   | [a, b, c, e, g], _ =>
     have h0:=h (3,0) (by decide)
     have h1:=h (3,1) (by decide)
     have h2:=h (3,2) (by decide)
     have h3:=h (9,3) (by decide)
     have h4:=h (22,4) (by decide)
     simp only [show Try.prog.cellsOf 3 = 1 by kernel_rfl,show Try.prog.cellsOf 9 = 1 by kernel_rfl,show Try.prog.cellsOf 22 = 1 by kernel_rfl,List.drop_zero,List.drop_succ_cons,List.take_succ_cons,List.take_zero] at h0 h1 h2 h3 h4
     obtain ⟨n0,e0⟩:=qt6 Try.underlying3 h0
     obtain ⟨n1,e1⟩:=qt6 Try.underlying3 h1
     obtain ⟨n2,e2⟩:=qt6 Try.underlying3 h2
     obtain ⟨n3,e3⟩:=qbbf Try.underlying9 h3
     obtain ⟨f'',es,rfl,e4,he⟩:=qbgt Try.underlying22 h4
     obtain ⟨l,rfl⟩:=q8o (enc:=enc) he fun ds hd=>by
      obtain ⟨t,rfl⟩:=ih f'' (by omega) ds hd
      exact ⟨t,by rw [q01 Try.underlying24,qgi];exact qc8 t⟩
     rw [show Try.prog.cellsOf 24 = 5 by kernel_rfl,← qct] at e4
     cases e0;cases e1;cases e2;cases e3;cases e4
     exact ⟨.mk n0 n1 n2 n3 l,by rw [qgi];rfl⟩
theorem q1p (n:N):Go.V.szA (enc n) = n.text.length + Go.V.szAs (encs n.kids) + 5:=by
 rw [← qc8];simp only [Go.V.szA,Go.V.szAs];omega
theorem q1k {K:Nat}:∀ n,Go.V.szA (enc n)≤K->TxB K n:=N.ind fun n ih h=>by
 rw [q1p] at h
 refine .mk (by omega) fun x hx=>ih x hx ?_
 have:∀ l:List N,x∈l->Go.V.szA (enc x)≤Go.V.szAs (encs l):=fun l=>by
  induction l with
  | nil=>intro h;cases h
  | cons y r ihl =>
    intro h
    rw [encs,Go.V.szAs]
    rcases List.mem_cons.1 h with rfl | h
    ·omega
    ·have:=ihl h;omega
 have:=this _ hx
 omega
section
variable {H:Type} {enc':TypeId×Value->H} {W W':World} {base:Nat} {v:Value} {d:DataW H} {p:List MemPlace} {sp:Nat->Bool}
theorem qmv (hok:Value.okWide Try.prog W .any base 24 v) (h:DataW.Trod enc' Try.prog W 0 (fun _=>true) true 24 v d p):∃ n,VR W (MM W) [] (enc n) v∧Go.V.szA (enc n)≤Rows.uptoBulk d:=by
 obtain ⟨f,cs,h1,h2,h3⟩:=q8l (qban H) hLTn (by decide) hok h
 obtain ⟨l,rfl⟩:=q1w f cs h1
 rw [q01 Try.underlying24] at h2 h3
 have e:AV.agg (enc l).cells = enc l:=by rw [qgi];exact qc8 l
 rw [e] at h2 h3
 exact ⟨l,h2,h3⟩
end
end Go.Proofs.Ytlmcofjcpadmiaa
