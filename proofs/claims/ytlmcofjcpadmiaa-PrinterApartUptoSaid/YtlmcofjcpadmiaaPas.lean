/- Texts of this proof, joined. -/
import Derived.Test.YtlmcofjcpadmiaaPaq
import Derived.Test.YtlmcofjcpadmiaaPar
import Derived.Test.YtlmcofjcpadmiaaPaj
import Derived.Lib.Join
set_option linter.unusedVariables false
set_option linter.unusedSimpArgs false

/- the lexer's words: one word -/
namespace Go.Proofs.Ytlmcofjcpadmiaa
open Go Go.RowKit Go.V

theorem qt2 {c:Int}:qcy c = true ↔ c = 9∨c = 10∨c = 13∨c = 32:=by simp [qcy,or_assoc]
def qsx (l:List UInt8):Int:=if l = [95] then 5 else if resW l then 4 else if conW l then 2 else 1
def qj4 (l:List UInt8):T:=⟨qsx l,0,0,l⟩
def q9y:List (List UInt8):=[[45,62],[61,62],[58,58],[40],[41],[123],[125],[59],[44],[61],[124],[92]]
def qxe (l:List UInt8):List (List UInt8)->Nat
 | []=>0
 | m :: r=>if pfx m l then m.length else qxe l r
def qrr (l:List UInt8):Nat:=qxe l q9y
def qca (l:List UInt8):T×Int :=
 if qbr (l.getD 0 0).toNat then (⟨3,0,(qrk (l.take (q9 qbr l))).1,l.take (q9 qbr l)⟩,(qrk (l.take (q9 qbr l))).2)
 else if onW (l.getD 0 0).toNat && !decide (((l.getD 0 0).toNat:Int) = 39) then (qj4 (l.take (q9 onW l)),0)
 else if qrr l = 0 then (T0,3)
 else (⟨5,0,0,l.take (qrr l)⟩,0)
theorem qqy (l:List UInt8):∀ ms,qxe l ms≤l.length
 | []=>Nat.zero_le _
 | m :: r => by
   rw [qxe]
   split
   ·rename_i h
    have:=congrArg List.length (of_decide_eq_true h)
    rw [List.length_take] at this
    omega
   ·exact qqy l r
theorem qw0 (l:List UInt8):qrr l≤l.length:=qqy l _
attribute [go_sem] qbgn

theorem qmz (l:List UInt8):(qca l).1.text.length≤l.length:=by
 unfold qca
 split
 ·simp only [List.length_take];omega
 ·split
  ·simp only [qj4,List.length_take];omega
  ·split
   ·simp [T0]
   ·simp only [List.length_take];omega
theorem qoi {l:List UInt8} (hl:l≠[]) (h:(qca l).2 = 0):0 < (qca l).1.text.length:=by
 have h0:=List.length_pos_iff.2 hl
 have key:∀ f:Int->Bool,f (l.getD 0 0).toNat = true->q9 f l≠0:=fun f hf=>by
  have:=qpt (f:=f) h0
  rw [List.drop_zero,if_pos hf] at this
  omega
 unfold qca at h ⊢
 split
 ·rename_i h1
  have:=key _ h1
  simp only [List.length_take];omega
 ·rename_i h1
  rw [if_neg h1] at h
  split
  ·rename_i h2
   have:=key _ (by simp only [Bool.and_eq_true] at h2;exact h2.1)
   simp only [qj4,List.length_take];omega
  ·rename_i h2
   rw [if_neg h2] at h
   split
   ·rename_i h3;rw [if_pos h3] at h;simp at h
   ·have:=qw0 l
    simp only [List.length_take];omega

def lexN (s:List UInt8) (k:Nat):Nat:=k + (qca (s.drop k)).1.text.length
def lexK (s:List UInt8) (k:Nat):Nat:=lexN s k + qcg (s.drop (lexN s k))
def lexT (s:List UInt8) (k:Nat):T:=⟨(qca (s.drop k)).1.kind,k,(qca (s.drop k)).1.num,(qca (s.drop k)).1.text⟩
abbrev LR:=List T×Int×Int
def appR (a:List T) (r:LR):LR:=if r.2.2 = 0 then (a ++ r.1,r.2.1,r.2.2) else r
def lexF:Nat->List UInt8->Nat->LR
 | 0,s,k=>([],0,0)
 | f + 1,s,k=>if k < s.length then if (qca (s.drop k)).2 = 0 then appR [lexT s k] (lexF f s (lexK s k)) else ([],(k:Int),(qca (s.drop k)).2) else ([],0,0)
def lexG (s:List UInt8) (k:Nat):LR:=lexF (s.length - k) s k
theorem q84 {s:List UInt8} {k:Nat} (h:k≤s.length):lexN s k≤s.length:=by
 have:=qmz (s.drop k)
 rw [List.length_drop] at this
 unfold lexN;omega
theorem q6d {s:List UInt8} {k:Nat} (h:k≤s.length):lexK s k≤s.length:=by
 have h1:=q84 h
 have:=qp0 (s.drop (lexN s k))
 rw [List.length_drop] at this
 unfold lexK;omega
theorem q7s {s:List UInt8} {k:Nat} (h:k < s.length) (h2:(qca (s.drop k)).2 = 0):k < lexK s k:=by
 have:=qoi (l:=s.drop k) (by intro e;have:=congrArg List.length e;simp at this;omega) h2
 unfold lexK lexN;omega
theorem qig {s:List UInt8}:∀ (f g k:Nat),s.length - k≤f->s.length - k≤g->lexF f s k = lexF g s k
 | 0,0,k,_,_=>rfl
 | 0,g + 1,k,h1,h2=>by rw [lexF,lexF,if_neg (by omega)]
 | f + 1,0,k,h1,h2=>by rw [lexF,lexF,if_neg (by omega)]
 | f + 1, g + 1, k, h1, h2 => by
   rw [lexF,lexF]
   split
   ·rename_i h
    split
    ·rename_i h3
     have:=q7s h h3
     rw [qig f g _ (by omega) (by omega)]
    ·rfl
   ·rfl
theorem q0c (r:LR):appR [] r = r:=by
 unfold appR
 split<;>rfl

def lexV (s:List UInt8):LR :=
 if (1048576:Int) < s.length then ([],0,2) else appR [] (if (lexG s (qcg s)).2.2 = 0 then ((lexG s (qcg s)).1 ++ [⟨0,s.length,0,[]⟩],0,0) else lexG s (qcg s))

/-! What the loop over a text's words does. -/
variable {s:List UInt8} {fn:FuncId} {asn bd:Code} {tm:List (Nat×AV)} {acc:List T} {H:List Ent}
variable {s:List UInt8} {fn:FuncId} {asn bd:Code} {tm:List (Nat×AV)} {acc:List T} {H:List Ent}

variable {s:List UInt8} {fn:FuncId} {asn bd:Code} {tm:List (Nat×AV)} {acc:List T} {H:List Ent}


theorem q5s {s:List UInt8} (h:¬ 1048576 < (s.length:Int)) (he:(lexG s (qcg s)).2.2 = 0):lexV s = ((lexG s (qcg s)).1 ++ [⟨0,s.length,0,[]⟩],0,0):=by
 rw [lexV,if_neg h,if_pos he,q0c]

theorem qov {f:Int->Bool} {c:UInt8} {r:List UInt8} (h:f c.toNat = true):q9 f (c :: r) = q9 f r + 1:=by
 unfold q9;rw [List.takeWhile_cons,if_pos h,List.length_cons]
theorem qlc {f:Int->Bool} {l:List UInt8} (h:f (l.getD 0 0).toNat = false):q9 f l = 0:=by
 cases l with
 | nil=>rfl
 | cons c r=>unfold q9;rw [List.takeWhile_cons,if_neg (by simpa using h)];rfl
theorem qut {l:List UInt8} (h:qbr (l.getD 0 0).toNat = true):qca l = (⟨3,0,(qrk (l.take (q9 qbr l))).1,l.take (q9 qbr l)⟩,(qrk (l.take (q9 qbr l))).2):=if_pos h
theorem qxv {l:List UInt8} (h:qbr (l.getD 0 0).toNat = false) (h2:(onW (l.getD 0 0).toNat && !decide (((l.getD 0 0).toNat:Int) = 39)) = true):qca l = (qj4 (l.take (q9 onW l)),0):=by
 rw [qca,h,if_neg Bool.false_ne_true,if_pos h2]
theorem qki {l:List UInt8} (h:qbr (l.getD 0 0).toNat = false) (h2:(onW (l.getD 0 0).toNat && !decide (((l.getD 0 0).toNat:Int) = 39)) = false) (h3:qrr l≠0):qca l = (⟨5,0,0,l.take (qrr l)⟩,0):=by
 rw [qca,h,if_neg Bool.false_ne_true,h2,if_neg Bool.false_ne_true,if_neg h3]

/-! Where it fails. -/
/-! Each word stands where it says. -/

theorem qtq {z:Int} (h0:0≤z) (h1:z≤9223372036854775807):IntKind.i64.wrap z = z:=by
 simp [IntKind.wrap,IntKind.signed,IntKind.bits]
 omega
theorem qbgj {z:Int} (h0:0≤z) (h1:z≤255):IntKind.u8.wrap z = z:=by
 simp [IntKind.wrap,IntKind.signed,IntKind.bits]
 omega
end Go.Proofs.Ytlmcofjcpadmiaa
