/- Texts of this proof, joined. -/
import Derived.Test.YtlmcofjcpadmiaaGreatNar
import Derived.Test.YtlmcofjcpadmiaaGreatNas
import Derived.Test.YtlmcofjcpadmiaaGreatNaj
import Derived.Lib.Join
set_option linter.unusedVariables false
set_option linter.unusedSimpArgs false

/- the lexer's words: one word -/
set_option maxRecDepth 4000
namespace Go.Proofs.YtlmcofjcpadmiaaGreat
open Go Go.RowKit Go.V

theorem qbfv {c:Int}:qee c = true ↔ c = 9∨c = 10∨c = 13∨c = 32:=by simp [qee,or_assoc]
def q3q (l:List UInt8):Int:=if l = [95] then 5 else if resW l then 4 else if conW l then 2 else 1
def qo3 (l:List UInt8):T:=⟨q3q l,0,0,l⟩
theorem q8f (l:List UInt8):qx Tryz.prog 191 [.str l] (encT (qo3 l)):=by
 refine qn c0cs (by simp) (by simp only [go_sem]) rfl fun hw=>?_
 have hl:l.length≤maxLen:=hw.1
 repeat' (first | refine vs_ ?_ | ((first | refine vr_ ?_ | refine qa (qmh _) fun _=>?_ | refine qa (qgn _) fun _=>?_ | (refine cs_ ?_ ?_<;>intro hc) | refine cj_ ?_ | fail)<;>(try refine ev_ ?_)) | with_reducible exact ti_)
 all_goals simp_all [encT,qo3,q3q]

def marksW:List (List UInt8):=[[45,62],[61,62],[58,58],[40],[41],[123],[125],[59],[44],[61],[124],[92]]
def q3n (l:List UInt8):List (List UInt8)->Nat
 | []=>0
 | m :: r=>if pfx m l then m.length else q3n l r
def quh (l:List UInt8):Nat:=q3n l marksW
theorem qbaz:(marksW.map AV.str).length = 12:=rfl
theorem qbb4 {i:Nat} (h:i < 12):(marksW.map AV.str).getD i .junk = .str (marksW.getD i []):=by
 have h':i < marksW.length:=h
 rw [List.getD_eq_getElem?_getD,List.getElem?_map,List.getD_eq_getElem?_getD,List.getElem?_eq_getElem h'];rfl
theorem qvo {i:Nat} (h:i < 12):marksW.drop i = marksW.getD i [] :: marksW.drop (i + 1):=by
 have h':i < marksW.length:=h
 rw [List.drop_eq_getElem_cons h',List.getD_eq_getElem?_getD,List.getElem?_eq_getElem h'];rfl
theorem q8t (l:List UInt8):qx Tryz.prog 192 [.str l] (.int .i64 (quh l)):=by
 refine qn c0ct (by simp) (by simp only [go_sem]) rfl fun hw=>?_
 repeat' (first | refine vs_ ?_ | ((first | refine vr_ ?_ | (refine cs_ ?_ ?_<;>intro hc) | refine cj_ ?_ | simp (disch:=omega) only [qc,qs])<;>(try refine ev_ ?_)) | with_reducible exact ti_)
 refine qcm (S:=Nat) (fun i=>i≤12∧q3n l (marksW.drop i) = quh l) (fun i=>(⟨[(0,.str l),(5,.agg (marksW.map AV.str)),(6,.int .i64 i)],[]⟩,[])) (fun i=>12 - i) ?_ fun i hi=>?_
 ·refine qb1 0 [] ⟨Nat.zero_le _,rfl⟩ rfl (by simp) ?_ ?_ ?_<;>(try refine ev_ ?_)<;>(try with_reducible exact ti_)<;>(try simp (disch:=omega) only [qs,and_true,true_and])
  exact ⟨rfl,rfl⟩
 ·obtain ⟨hi,ha⟩:=hi
  repeat' (first | refine vs_ ?_ | ((first | refine vr_ ?_ | refine qa (qf4 _ _) fun _=>?_ | (refine cs_ ?_ ?_<;>intro hc) | refine cj_ ?_ | simp (disch:=omega) only [qc,qs])<;>(try refine ev_ ?_)) | with_reducible exact ti_)
  ·simp (disch:=omega) only [qbaz,qbb4,Nat.mul_one]
   refine ⟨by omega,?_⟩
   repeat' (first | refine vs_ ?_ | ((first | refine vr_ ?_ | refine qa (qf4 _ _) fun _=>?_ | (refine cs_ ?_ ?_<;>intro hc) | refine cj_ ?_ | simp (disch:=omega) only [qc,qs])<;>(try refine ev_ ?_)) | with_reducible exact ti_)
   ·rw [← ha,qvo (i:=i) (by omega),q3n,if_pos hc]
   ·refine qb1 (i + 1) [] ⟨⟨by omega,?_⟩,by omega⟩ rfl (by simp) ?_ ?_ ?_<;>(try refine ev_ ?_)<;>(try with_reducible exact ti_)<;>(try simp (disch:=omega) only [qs,and_true,true_and])
    ·rw [← ha,qvo (i:=i) (by omega),q3n,hc];rfl
    ·have:i < maxLen:=by unfold maxLen;omega
     rw [qs this]
     exact ⟨⟨rfl,rfl⟩,rfl⟩
  ·rw [← ha,show i = 12 by omega];rfl
def qcj (l:List UInt8):T×Int :=
 if qb8 (l.getD 0 0).toNat then (⟨3,0,(qun (l.take (qbz qb8 l))).1,l.take (qbz qb8 l)⟩,(qun (l.take (qbz qb8 l))).2)
 else if onW (l.getD 0 0).toNat && !decide (((l.getD 0 0).toNat:Int) = 39) then (qo3 (l.take (qbz onW l)),0)
 else if quh l = 0 then (T0,3)
 else (⟨5,0,0,l.take (quh l)⟩,0)
def qccd (p:T×Int):AV:=.tup [encT p.1,.int .i64 p.2]
theorem q5t (l:List UInt8):∀ ms,q3n l ms≤l.length
 | []=>Nat.zero_le _
 | m :: r => by
   rw [q3n]
   split
   ·rename_i h
    have:=congrArg List.length (of_decide_eq_true h)
    rw [List.length_take] at this
    omega
   ·exact q5t l r
theorem q4w (l:List UInt8):quh l≤l.length:=q5t l _
attribute [go_sem] qcg2
theorem q7e (l:List UInt8) (hne:l≠[]):qx Tryz.prog 151 [.str l] (qccd (qcj l)):=by
 refine qn c0cu (by simp) (by simp only [go_sem]) rfl fun hw=>?_
 have hl:l.length≤maxLen:=hw.1
 have h1:=qi5 qb8 l
 have h2:=qi5 onW l
 have h3:=q4w l
 have h4:=List.length_pos_iff.2 hne
 repeat' (first | refine vs_ ?_ | ((first | refine vr_ ?_ | refine qa (qmr _) fun _=>?_ | refine qa (qj4 qmr _) fun _=>?_ | refine qa (qbc7 _) fun _=>?_ | refine qa (q63 _) fun _=>?_ | refine qa (qj4 q63 _) fun _=>?_ | refine qa (q8f _) fun _=>?_ | refine qa (q8t _) fun _=>?_ | (refine cs_ ?_ ?_<;>intro hc) | refine cj_ ?_ | simp (disch:=omega) only [qc,qs])<;>(try refine ev_ ?_)) | with_reducible exact ti_)
 all_goals (unfold qcj qccd;simp_all only [↓reduceIte,Bool.false_eq_true,decide_true,decide_false,Bool.not_true,Bool.not_false,Bool.and_true,Bool.and_false,Bool.true_and,Bool.false_and,Int.natCast_eq_zero];try rfl)
 all_goals trace_state

theorem q0z (l:List UInt8):(qcj l).1.text.length≤l.length:=by
 unfold qcj
 split
 ·simp only [List.length_take];omega
 ·split
  ·simp only [qo3,List.length_take];omega
  ·split
   ·simp [T0]
   ·simp only [List.length_take];omega
theorem qr4 {l:List UInt8} (hl:l≠[]) (h:(qcj l).2 = 0):0 < (qcj l).1.text.length:=by
 have h0:=List.length_pos_iff.2 hl
 have key:∀ f:Int->Bool,f (l.getD 0 0).toNat = true->qbz f l≠0:=fun f hf=>by
  have:=qmz (f:=f) h0
  rw [List.drop_zero,if_pos hf] at this
  omega
 unfold qcj at h ⊢
 split
 ·rename_i h1
  have:=key _ h1
  simp only [List.length_take];omega
 ·rename_i h1
  rw [if_neg h1] at h
  split
  ·rename_i h2
   have:=key _ (by simp only [Bool.and_eq_true] at h2;exact h2.1)
   simp only [qo3,List.length_take];omega
  ·rename_i h2
   rw [if_neg h2] at h
   split
   ·rename_i h3;rw [if_pos h3] at h;simp at h
   ·have:=q4w l
    simp only [List.length_take];omega

def lexN (s:List UInt8) (k:Nat):Nat:=k + (qcj (s.drop k)).1.text.length
def lexK (s:List UInt8) (k:Nat):Nat:=lexN s k + qck (s.drop (lexN s k))
def lexT (s:List UInt8) (k:Nat):T:=⟨(qcj (s.drop k)).1.kind,k,(qcj (s.drop k)).1.num,(qcj (s.drop k)).1.text⟩
abbrev LR:=List T×Int×Int
def appR (a:List T) (r:LR):LR:=if r.2.2 = 0 then (a ++ r.1,r.2.1,r.2.2) else r
def lexF:Nat->List UInt8->Nat->LR
 | 0,s,k=>([],0,0)
 | f + 1,s,k=>if k < s.length then if (qcj (s.drop k)).2 = 0 then appR [lexT s k] (lexF f s (lexK s k)) else ([],(k:Int),(qcj (s.drop k)).2) else ([],0,0)
def lexG (s:List UInt8) (k:Nat):LR:=lexF (s.length - k) s k
theorem qbf1 {s:List UInt8} {k:Nat} (h:k≤s.length):lexN s k≤s.length:=by
 have:=q0z (s.drop k)
 rw [List.length_drop] at this
 unfold lexN;omega
theorem qwe {s:List UInt8} {k:Nat} (h:k≤s.length):lexK s k≤s.length:=by
 have h1:=qbf1 h
 have:=qxv (s.drop (lexN s k))
 rw [List.length_drop] at this
 unfold lexK;omega
theorem qxc {s:List UInt8} {k:Nat} (h:k < s.length) (h2:(qcj (s.drop k)).2 = 0):k < lexK s k:=by
 have:=qr4 (l:=s.drop k) (by intro e;have:=congrArg List.length e;simp at this;omega) h2
 unfold lexK lexN;omega
theorem qmk {s:List UInt8}:∀ (f g k:Nat),s.length - k≤f->s.length - k≤g->lexF f s k = lexF g s k
 | 0,0,k,_,_=>rfl
 | 0,g + 1,k,h1,h2=>by rw [lexF,lexF,if_neg (by omega)]
 | f + 1,0,k,h1,h2=>by rw [lexF,lexF,if_neg (by omega)]
 | f + 1, g + 1, k, h1, h2 => by
   rw [lexF,lexF]
   split
   ·rename_i h
    split
    ·rename_i h3
     have:=qxc h h3
     rw [qmk f g _ (by omega) (by omega)]
    ·rfl
   ·rfl
theorem qcga {s:List UInt8} {k:Nat} (h:¬ k < s.length):lexG s k = ([],0,0):=by
 rw [lexG,show s.length - k = 0 by omega,lexF]
theorem qcdr {s:List UInt8} {k:Nat} (h:k < s.length) (h2:(qcj (s.drop k)).2 = 0):lexG s k = appR [lexT s k] (lexG s (lexK s k)):=by
 have:=qxc h h2
 rw [lexG,show s.length - k = (s.length - k - 1) + 1 by omega,lexF,if_pos h,if_pos h2,lexG,qmk _ (s.length - lexK s k) _ (by omega) (by omega)]
theorem qciu {s:List UInt8} {k:Nat} (h:k < s.length) (h2:¬ (qcj (s.drop k)).2 = 0):lexG s k = ([],(k:Int),(qcj (s.drop k)).2):=by
 rw [lexG,show s.length - k = (s.length - k - 1) + 1 by omega,lexF,if_pos h,if_neg h2]
theorem qbn0 (a b:List T) (r:LR):appR a (appR b r) = appR (a ++ b) r:=by
 unfold appR
 by_cases h:r.2.2 = 0
 ·simp [h]
 ·simp [h]
theorem qxz (r:LR):appR [] r = r:=by
 unfold appR
 split<;>rfl

def lexV (s:List UInt8):LR :=
 if (1048576:Int) < s.length then ([],0,2) else appR [] (if (lexG s (qck s)).2.2 = 0 then ((lexG s (qck s)).1 ++ [⟨0,s.length,0,[]⟩],0,0) else lexG s (qck s))

/-! What the loop over a text's words does. -/
structure LSt (s:List UInt8) (fn:FuncId) (asn bd:Code) (tm:List (Nat×AV)) (acc:List T) (H:List Ent):Prop where
 len:6≤H.length
 e0:ent H 0 = .blk [.nils]
 e1:ent H 1 = .blk [.int .i64 0]
 e2:ent H 2 = .blk [.int .i64 0]
 e3:∃ out,ent H 3 = .blk [out]∧(acc = []∧out = .nils∨∃ r,6≤r∧out = .row r acc.length∧ent H r = .app 4 (qec acc))
 e4:ent H 4 = .blk [.str s]
 e5:ent H 5 = .lp ⟨.ready,none,fn,[13,14].toArray,asn,bd⟩ (ql6 30 tm)
structure LEnd (fn:FuncId) (asn bd:Code) (tm:List (Nat×AV)) (k e:Int) (H:List Ent):Prop where
 len:6≤H.length
 e0:ent H 0 = .blk [.nils]
 e1:ent H 1 = .blk [.int .i64 k]
 e2:ent H 2 = .blk [.int .i64 e]
 e5:∃ vs,ent H 5 = .lp ⟨.done,some .ret,fn,[13,14].toArray,asn,bd⟩ vs
variable {s:List UInt8} {fn:FuncId} {asn bd:Code} {tm:List (Nat×AV)} {acc:List T} {H:List Ent}
theorem qcht {n k i:Nat} (h:i < n):gro n k i = i:=by rw [gro,if_pos h]
theorem qbon {σ:Nat->Nat} {m n:Nat} (hσ:∀ i,i < m->σ i = i) {tm:List (Nat×AV)} (h:tmBd m tm = true):AV.rens σ (ql6 n tm) = ql6 n tm:=qb9 hσ _ (q44 h)
theorem LSt.grow {n:Nat} {L:List Ent} (h:LSt s fn asn bd tm acc H) (hn:6≤n) (hl:n≤H.length) (ht:tmBd 6 tm = true):LSt s fn asn bd tm acc (grow n L H) where
 len:=by rw [qw6 hl];omega
 e0:=by rw [qdi hl (by omega),h.e0];rfl
 e1:=by rw [qdi hl (by omega),h.e1];rfl
 e2:=by rw [qdi hl (by omega),h.e2];rfl
 e3:=by
  obtain ⟨out,h1,h2⟩:=h.e3
  refine ⟨out.ren (gro n L.length),by rw [qdi hl (by omega),h1];rfl,?_⟩
  rcases h2 with ⟨h3,rfl⟩ | ⟨r,h3,rfl,h4⟩
  ·exact .inl ⟨h3,rfl⟩
  ·refine .inr ⟨gro n L.length r,by unfold gro;split<;>omega,rfl,?_⟩
   rw [qbhe hl,h4,Ent.ren,qtx]
 e4:=by rw [qdi hl (by omega),h.e4];rfl
 e5:=by rw [qdi hl (by omega),h.e5,Ent.ren,qbon (m:=6) (fun i hi=>qcht (by omega)) ht]
theorem LEnd.grow {n:Nat} {L:List Ent} {k e:Int} (h:LEnd fn asn bd tm k e H) (hn:6≤n) (hl:n≤H.length):LEnd fn asn bd tm k e (grow n L H) where
 len:=by rw [qw6 hl];omega
 e0:=by rw [qdi hl (by omega),h.e0];rfl
 e1:=by rw [qdi hl (by omega),h.e1];rfl
 e2:=by rw [qdi hl (by omega),h.e2];rfl
 e5:=by
  obtain ⟨vs,h5⟩:=h.e5
  exact ⟨_,by rw [qdi hl (by omega),h5];rfl⟩
set_option maxRecDepth 4000
variable {s:List UInt8} {fn:FuncId} {asn bd:Code} {tm:List (Nat×AV)} {acc:List T} {H:List Ent}

attribute [go_sem] qccd
theorem qbp0 {h:Nat} (hn:h≠0) {α:Type} (a b:α):(if 0 = h then a else b) = b:=if_neg (Ne.symm hn)
theorem qbd5 (ha:qdf Tryz.prog 30 asn = some (.seq qwh qw3)) (hb:qdf Tryz.prog 30 bd = some q2q)
 (h2:get tm 2 = .ptr 0 0) (h3:get tm 3 = .ptr 1 0) (h4:get tm 4 = .ptr 2 0) (h5:get tm 5 = .ptr 3 0)
 (t:T) (e:Int) (hs:LSt s fn asn bd tm acc H) (hacc:acc.length≤1048576) :
 VApp Tryz.prog H (.opq 5) [encT t,.int .i64 e] (fun H' o=>H.length≤H'.length∧(if e = 0 then LSt s fn asn bd tm (acc ++ [t]) H'∧o = .val (.bool true) else LEnd fn asn bd tm t.pos e H'∧o = .val (.bool false))):=by
 have e0:=hs.e0
 have e1:=hs.e1
 have e2:=hs.e2
 have e4:=hs.e4
 have e5:=hs.e5
 have hlen:=hs.len
 obtain ⟨out,e3,hout⟩:=hs.e3
 refine q2v e5 rfl (by simp [ql6]) ha hb (by simp) (by simp) fun lp=>?_
 rcases hout with ⟨rfl,rfl⟩ | ⟨r,hr,rfl,er⟩
 ·repeat' (first | refine vs_ ?_ | ((first | refine vr_ ?_ | fail)<;>(try simp (disch:=first | omega | (simp only [List.length_set,List.length_append,List.length_cons,List.length_nil];done) | (simp only [List.length_set,List.length_append,List.length_cons,List.length_nil];omega)) only [h2,h3,h4,h5,e0,e1,e2,e3,e4,e5,qft,qdw,qc2,List.length_set,go_sem,↓reduceIte])) | ((first | (refine cs_ ?_ ?_<;>intro hc) | refine cj_ ?_ | simp (disch:=omega) only [qc,qs])<;>(try refine ev_ ?_)) | with_reducible exact ti_)
  ·refine ⟨by rw [qbp0 (by omega)],?_⟩
   repeat' (first | refine vs_ ?_ | ((first | refine vr_ ?_ | fail)<;>(try simp (disch:=first | omega | (simp only [List.length_set,List.length_append,List.length_cons,List.length_nil];done) | (simp only [List.length_set,List.length_append,List.length_cons,List.length_nil];omega)) only [h2,h3,h4,h5,e0,e1,e2,e3,e4,e5,qft,qdw,qc2,List.length_set,go_sem,↓reduceIte])) | ((first | (refine cs_ ?_ ?_<;>intro hc) | refine cj_ ?_ | simp (disch:=omega) only [qc,qs])<;>(try refine ev_ ?_)) | with_reducible exact ti_)
   rw [if_neg hc]
   refine ⟨by simp only [List.length_set,List.length_append,List.length_cons,List.length_nil];omega,?_,?_,?_,ql6 30 tm,?_⟩<;>simp (disch:=first | omega | (simp only [List.length_set,List.length_append,List.length_cons,List.length_nil];omega)) only [e0,e1,e2,e3,e4,e5,qft,qdw,qc2]
  ·rw [if_pos hc]
   refine ⟨by simp;omega,?_,?_,?_,⟨_,?_,.inr ⟨H.length + 1,by omega,rfl,?_⟩⟩,?_,?_⟩<;>simp (disch:=first | omega | (simp only [List.length_set,List.length_append,List.length_cons,List.length_nil];omega)) only [e0,e1,e2,e3,e4,e5,qft,qdw,qc2]
   ·rfl
   ·rw [qv8 (by simp)];simp [ent,qec]
 ·have hrl:r < H.length:=by
   apply Decidable.byContradiction
   intro h
   rw [qcc1 (by omega)] at er
   cases er
  repeat' (first | refine vs_ ?_ | ((first | refine vr_ ?_ | fail)<;>(try simp (disch:=first | omega | (simp only [List.length_set,List.length_append,List.length_cons,List.length_nil];done) | (simp only [List.length_set,List.length_append,List.length_cons,List.length_nil];omega)) only [h2,h3,h4,h5,e0,e1,e2,e3,e4,e5,er,qft,qdw,qc2,List.length_set,go_sem,↓reduceIte])) | ((first | (refine cs_ ?_ ?_<;>intro hc) | refine cj_ ?_ | simp (disch:=omega) only [qc,qs])<;>(try refine ev_ ?_)) | with_reducible exact ti_)
  ·refine ⟨by rw [qbp0 (by omega)],?_⟩
   repeat' (first | refine vs_ ?_ | ((first | refine vr_ ?_ | fail)<;>(try simp (disch:=first | omega | (simp only [List.length_set,List.length_append,List.length_cons,List.length_nil];done) | (simp only [List.length_set,List.length_append,List.length_cons,List.length_nil];omega)) only [h2,h3,h4,h5,e0,e1,e2,e3,e4,e5,qft,qdw,qc2,List.length_set,go_sem,↓reduceIte])) | ((first | (refine cs_ ?_ ?_<;>intro hc) | refine cj_ ?_ | simp (disch:=omega) only [qc,qs])<;>(try refine ev_ ?_)) | with_reducible exact ti_)
   rw [if_neg hc]
   refine ⟨by simp only [List.length_set,List.length_append,List.length_cons,List.length_nil];omega,?_,?_,?_,ql6 30 tm,?_⟩<;>simp (disch:=first | omega | (simp only [List.length_set,List.length_append,List.length_cons,List.length_nil];omega)) only [e0,e1,e2,e3,e4,e5,qft,qdw,qc2]
  ·rw [if_pos hc]
   refine ⟨by simp;omega,?_,?_,?_,⟨_,?_,.inr ⟨H.length + 1,by omega,rfl,?_⟩⟩,?_,?_⟩<;>simp (disch:=first | omega | (simp only [List.length_set,List.length_append,List.length_cons,List.length_nil];omega)) only [e0,e1,e2,e3,e4,e5,qft,qdw,qc2]
   ·simp
   ·rw [qv8 (by simp)];simp [ent,qec]
set_option maxRecDepth 4000
variable {s:List UInt8} {fn:FuncId} {asn bd:Code} {tm:List (Nat×AV)} {acc:List T} {H:List Ent}

theorem qbao (ha:qdf Tryz.prog 30 asn = some (.seq qwh qw3)) (hb:qdf Tryz.prog 30 bd = some q2q)
 (h2:get tm 2 = .ptr 0 0) (h3:get tm 3 = .ptr 1 0) (h4:get tm 4 = .ptr 2 0) (h5:get tm 5 = .ptr 3 0) (ht:tmBd 6 tm = true)
 (hs:LSt s fn asn bd tm [] H) (hl:s.length≤1048576) :
 VCalls Tryz.prog 149 H [.opq 5,.ptr 4 0] (fun H' o=>o = .val (.tup [])∧H.length≤H'.length ∧
  (if (lexG s (qck s)).2.2 = 0 then LSt s fn asn bd tm (lexG s (qck s)).1 H' else LEnd fn asn bd tm (lexG s (qck s)).2.1 (lexG s (qck s)).2.2 H')):=by
 have hcap:s.length≤maxLen:=by unfold maxLen;omega
 have e4:=hs.e4
 have hlen:=hs.len
 refine qzl c0cr (by simp) (qcge fun hbd=>?_)
 repeat' (first | refine vs_ ?_ | ((first | refine vr_ ?_ | fail)<;>(try simp only [e4,go_sem,↓reduceIte])) | ((first | (refine cs_ ?_ ?_<;>intro hc) | refine cj_ ?_ | simp (disch:=omega) only [qc,qs] | refine qa (qvs _) fun _=>?_)<;>(try refine ev_ ?_)) | with_reducible exact ti_)
 have hk0:=qxv s
 refine qcm (S:=Nat×List T×List Ent) (fun x=>x.1≤s.length∧lexG s (qck s) = appR x.2.1 (lexG s x.1)∧x.2.1.length≤x.1∧LSt s fn asn bd tm x.2.1 x.2.2∧H.length≤x.2.2.length∧x.2.2.all (Ent.bd x.2.2.length) = true)
  (fun x=>(⟨[(0,.opq 5),(1,.ptr 4 0),(3,.int .i64 x.1)],[]⟩,x.2.2)) (fun x=>s.length - x.1) ?_ ?_
 ·refine q6w (qck s,[],H) [] ⟨hk0,(qxz _).symm,Nat.zero_le _,hs,Nat.le_refl _,hbd⟩ (Nat.le_refl _) (by simp) hbd ?_ rfl rfl
  (refine ev_ ?_;(try with_reducible exact ti_))
  exact ⟨decide_eq_true (by omega),decide_eq_true (by omega)⟩
 ·rintro ⟨k,acc,H1⟩ ⟨hk,hG,hacc,hs1,hH1,hbd1⟩
  have f4:=hs1.e4
  have hlen1:=hs1.len
  simp only at hk hG hacc hH1 hbd1 f4 hlen1 hs1
  repeat' (first | refine vs_ ?_ | ((first | refine vr_ ?_ | fail)<;>(try simp only [f4,go_sem,↓reduceIte])) | ((first | (refine cs_ ?_ ?_<;>intro hc) | refine cj_ ?_ | simp (disch:=omega) only [qc,qs] | refine qa (q7e _ (by simp;omega)) fun _=>?_)<;>(try refine ev_ ?_)) | with_reducible exact ti_)
  ·have hk1:k < s.length:=by omega
   refine qbnw (qbd5 ha hb h2 h3 h4 h5 (lexT s k) (qcj (s.drop k)).2 hs1 (by omega)) hbd1 (by simp only [AV.bd];exact decide_eq_true (by omega)) rfl fun H2 o ho=>⟨ho.1,?_⟩
   obtain ⟨hl2,ho⟩:=ho
   have em:=fun L=>q1y (L:=[L]) (j:=0) hl2 (by simp)
   have hl3:=fun L=>qw6 (L:=L) hl2
   by_cases he:(qcj (s.drop k)).2 = 0
   ·rw [if_pos he] at ho
    obtain ⟨hs2,rfl⟩:=ho
    have hs3:=fun L=>hs2.grow (L:=L) (n:=H1.length) (by omega) hl2 ht
    specialize em (.blk [AV.int IntKind.i64 (qcj (List.drop k s)).fst.kind,AV.int IntKind.i64 k,AV.int IntKind.i64 (qcj (List.drop k s)).fst.num,AV.str (qcj (List.drop k s)).fst.text])
    specialize hs3 [.blk [AV.int IntKind.i64 (qcj (List.drop k s)).fst.kind,AV.int IntKind.i64 k,AV.int IntKind.i64 (qcj (List.drop k s)).fst.num,AV.str (qcj (List.drop k s)).fst.text]]
    specialize hl3 [.blk [AV.int IntKind.i64 (qcj (List.drop k s)).fst.kind,AV.int IntKind.i64 k,AV.int IntKind.i64 (qcj (List.drop k s)).fst.num,AV.str (qcj (List.drop k s)).fst.text]]
    generalize grow H1.length _ H2 = H3 at em hs3 hl3 ⊢
    have f4:=hs3.e4
    simp only [List.length_cons,List.length_nil] at hl3
    simp only [Nat.add_zero,ent] at em
    have hn:=qbf1 hk
    (refine ev_ ?_;(try with_reducible exact ti_))
    refine qcge fun hbd3=>?_
    have hk2:=qwe hk
    have w1:IntKind.i64.wrap ((k:Int) + ((qcj (List.drop k s)).1.text.length:Nat)) = (lexN s k:Nat):=by
     rw [qit (by unfold lexN at hn;omega) (by unfold lexN at hn;omega)];rfl
    have w2:IntKind.i64.wrap ((lexN s k:Nat) + (qck (s.drop (lexN s k)):Nat):Int) = (lexK s k:Nat):=by
     rw [qit (by unfold lexK at hk2;omega) (by unfold lexK at hk2;omega)];rfl
    repeat' (first | refine vs_ ?_ | ((first | refine vr_ ?_ | fail)<;>(try simp only [f4,em,w1,w2,go_sem,↓reduceIte])) | ((first | (refine cs_ ?_ ?_<;>intro hc) | refine cj_ ?_ | simp (disch:=omega) only [qc,qs] | refine qa (qvs _) fun _=>?_)<;>(try refine ev_ ?_)) | with_reducible exact ti_)
    have hlt:=qxc hk1 he
    refine q6w (lexK s k,acc ++ [lexT s k],H3) [] ⟨⟨hk2,?_,?_,hs3,by simp only;omega,hbd3⟩,by simp only;omega⟩ (by simp only;omega) (by simp) hbd3 ?_ rfl rfl
    ·simp only
     rw [hG,qcdr hk1 he,qbn0]
    ·simp only [List.length_append,List.length_cons,List.length_nil];omega
    ·(refine ev_ ?_;(try with_reducible exact ti_))
     exact ⟨decide_eq_true (by omega),decide_eq_true (by omega),by rw [w2]⟩
   ·rw [if_neg he] at ho
    obtain ⟨hs2,rfl⟩:=ho
    have hs3:=hs2.grow (L:=[.blk [AV.int IntKind.i64 (qcj (List.drop k s)).fst.kind,AV.int IntKind.i64 k,AV.int IntKind.i64 (qcj (List.drop k s)).fst.num,AV.str (qcj (List.drop k s)).fst.text]]) (n:=H1.length) (by omega) hl2
    specialize hl3 [.blk [AV.int IntKind.i64 (qcj (List.drop k s)).fst.kind,AV.int IntKind.i64 k,AV.int IntKind.i64 (qcj (List.drop k s)).fst.num,AV.str (qcj (List.drop k s)).fst.text]]
    generalize grow H1.length _ H2 = H3 at hs3 hl3 ⊢
    (refine ev_ ?_;(try with_reducible exact ti_))
    repeat' (first | refine vs_ ?_ | ((first | refine vr_ ?_ | (refine cs_ ?_ ?_<;>intro hc) | refine cj_ ?_ | simp (disch:=omega) only [qc,qs])<;>(try refine ev_ ?_)) | with_reducible exact ti_)
    have hr:lexG s (qck s) = ([],(k:Int),(qcj (s.drop k)).2):=by
     rw [hG,qciu hk1 he,appR,if_neg he]
    rw [hr,if_neg he]
    exact hs3
  ·rw [hG,qcga (by omega)]
   simp only [appR,if_true,List.append_nil]
   exact hs1
set_option maxRecDepth 4000

theorem q3i (s:List UInt8):VCalls Tryz.prog 94 [] [.str s] (fun H1 o=>H1 = [.blk [.str s]]∧o = .val (.fn 149 [] [.ptr 0 0])):=by
 refine qq c0cp 1 (by simp) (by simp) ?_
 repeat' (first | refine vs_ ?_ | ((first | refine vr_ ?_ | (refine cs_ ?_ ?_<;>intro hc) | refine cj_ ?_ | fail)<;>(try refine ev_ ?_)) | with_reducible exact ti_)
theorem q9k {s:List UInt8} {H:List Ent} {Q:List Ent->VO->Prop} (h:Q (H ++ [.blk [.str s]]) (.val (.fn 149 [] [.ptr H.length 0]))):VApp Tryz.prog H (.fn 94 [] []) [.str s] Q :=
 qx1 (q3i s) rfl (by rintro _ _ ⟨rfl,rfl⟩;simpa [qf3,qbw,sg',VO.ren,AV.ren,AV.rens,Ent.ren] using h)
def lexR (r:LR):AV:=.tup [.sl 4 (qec r.1),.int .i64 r.2.1,.int .i64 r.2.2]
theorem qqg {s:List UInt8} (h:1048576 < (s.length:Int)):lexV s = ([],0,2):=if_pos h
theorem qrz {s:List UInt8} (h:¬ 1048576 < (s.length:Int)) (he:(lexG s (qck s)).2.2 = 0):lexV s = ((lexG s (qck s)).1 ++ [⟨0,s.length,0,[]⟩],0,0):=by
 rw [lexV,if_neg h,if_pos he,qxz]
theorem q6o {s:List UInt8}:∀ (f k:Nat),(lexF f s k).2.2≠0->(lexF f s k).1 = []
 | 0,k,h=>absurd rfl h
 | f + 1, k, h => by
   rw [lexF] at h ⊢
   split
   ·rename_i h1
    rw [if_pos h1] at h
    split
    ·rename_i h2
     rw [if_pos h2] at h
     unfold appR at h ⊢
     split
     ·rename_i h3;rw [if_pos h3] at h;exact absurd h3 h
     ·rename_i h3;rw [if_neg h3] at h;exact q6o f _ h
    ·rfl
   ·rfl
theorem qxb {s:List UInt8}:∀ (f k:Nat),(lexF f s k).1.length≤s.length - k
 | 0,k=>Nat.zero_le _
 | f + 1, k => by
   rw [lexF]
   split
   ·rename_i h1
    split
    ·rename_i h2
     have:=qxb (s:=s) f (lexK s k)
     have:=qxc h1 h2
     have:=qwe (Nat.le_of_lt h1)
     unfold appR
     split
     ·simp only [List.length_append,List.length_cons,List.length_nil];omega
     ·omega
    ·exact Nat.zero_le _
   ·exact Nat.zero_le _
theorem qqc {s:List UInt8} (h:¬ 1048576 < (s.length:Int)) (he:¬ (lexG s (qck s)).2.2 = 0):lexV s = ([],(lexG s (qck s)).2.1,(lexG s (qck s)).2.2):=by
 rw [lexV,if_neg h,if_neg he,qxz,← show (lexG s (qck s)).1 = [] from q6o _ _ he]
theorem q0d (s:List UInt8):qx Tryz.prog 52 [.str s] (lexR (lexV s)):=by
 refine qn c0cq (by simp) (by simp only [go_sem]) (by simp only [lexR,go_sem]) fun hw=>?_
 have hl:s.length≤maxLen:=hw.1
 repeat' (first | refine vs_ ?_ | ((first | refine vr_ ?_ | refine q9k ?_ | (refine cs_ ?_ ?_<;>intro hc) | refine cj_ ?_ | fail)<;>(try refine ev_ ?_)) | with_reducible exact ti_)
 ·rw [qqg hc];rfl
 ·refine qbe5 rfl (by simp) fun fn asn bd ha hb=>?_
  refine (qbao (s:=s) ha hb rfl rfl rfl rfl rfl ⟨by simp,rfl,rfl,rfl,⟨.nils,rfl,.inl ⟨rfl,rfl⟩⟩,rfl,rfl⟩ (by omega)).mono fun H' o ho=>?_
  obtain ⟨rfl,hl2,ho⟩:=ho
  have hll:(lexG s (qck s)).1.length≤1048576:=by have:=qxb (s:=s) (s.length - qck s) (qck s);unfold lexG;omega
  clear hl2
  by_cases he:(lexG s (qck s)).2.2 = 0
  ·rw [if_pos he] at ho
   rw [qrz hc he]
   have e0:=ho.e0
   have e1:=ho.e1
   have e2:=ho.e2
   have e5:=ho.e5
   have hlen:=ho.len
   obtain ⟨out,e3,hout⟩:=ho.e3
   simp only [ranq,List.length_cons,List.length_nil,Nat.zero_add,Nat.reduceAdd,e5]
   rcases hout with ⟨h1,rfl⟩ | ⟨r,hr,rfl,er⟩
   ·repeat' (first | refine vs_ ?_ | ((first | refine vr_ ?_ | fail)<;>(try simp (disch:=first | omega | (simp only [List.length_set,List.length_append,List.length_cons,List.length_nil];done) | (simp only [List.length_set,List.length_append,List.length_cons,List.length_nil];omega)) only [e0,e1,e2,e3,e5,qft,qdw,qc2,List.length_set,go_sem,↓reduceIte])) | ((first | (refine cs_ ?_ ?_<;>intro hc) | refine cj_ ?_ | fail)<;>(try refine ev_ ?_)) | with_reducible exact ti_)
    rw [h1];rfl
   ·repeat' (first | refine vs_ ?_ | ((first | refine vr_ ?_ | fail)<;>(try simp (disch:=first | omega | (simp only [List.length_set,List.length_append,List.length_cons,List.length_nil];done) | (simp only [List.length_set,List.length_append,List.length_cons,List.length_nil];omega)) only [e0,e1,e2,e3,e5,er,qft,qdw,qc2,List.length_set,go_sem,↓reduceIte])) | ((first | (refine cs_ ?_ ?_<;>intro hc) | refine cj_ ?_ | fail)<;>(try refine ev_ ?_)) | with_reducible exact ti_)
    have hen:qec (lexG s (qck s)).1 ++ [AV.agg [AV.int IntKind.i64 0,AV.int IntKind.i64 s.length,AV.int IntKind.i64 0,AV.str []]] = qec ((lexG s (qck s)).1 ++ [⟨0,s.length,0,[]⟩]):=qrm (lexG s (qck s)).1 ⟨0,s.length,0,[]⟩
    rw [hen]
    exact ⟨qm3 _ _,rfl⟩
  ·rw [if_neg he] at ho
   rw [qqc hc he]
   have e0:=ho.e0
   have e1:=ho.e1
   have e2:=ho.e2
   obtain ⟨vs,e5⟩:=ho.e5
   have hlen:=ho.len
   simp only [ranq,List.length_cons,List.length_nil,Nat.zero_add,Nat.reduceAdd,e5]
   (simp (disch:=first | omega | (simp only [List.length_set,List.length_append,List.length_cons,List.length_nil];done) | (simp only [List.length_set,List.length_append,List.length_cons,List.length_nil];omega)) only [e0,e1,e2,e5,qft,qdw,qc2,List.length_set,go_sem,↓reduceIte])
   rfl

theorem qmp (f:Int->Bool):∀ l:List UInt8,(l.take (qbz f l)).all (fun c=>f c.toNat) = true
 | []=>rfl
 | c :: r => by
   unfold qbz
   rw [List.takeWhile_cons]
   by_cases h:f c.toNat = true
   ·rw [if_pos h]
    simp only [List.length_cons,List.take_succ_cons,List.all_cons,h,Bool.true_and]
    exact qmp f r
   ·rw [if_neg h];rfl
theorem qs7 {f:Int->Bool} {c:UInt8} {r:List UInt8} (h:f c.toNat = true):qbz f (c :: r) = qbz f r + 1:=by
 unfold qbz;rw [List.takeWhile_cons,if_pos h,List.length_cons]
theorem qxq {f:Int->Bool} {l:List UInt8} (h:f (l.getD 0 0).toNat = false):qbz f l = 0:=by
 cases l with
 | nil=>rfl
 | cons c r=>unfold qbz;rw [List.takeWhile_cons,if_neg (by simpa using h)];rfl
theorem qys {l:List UInt8} (h:qb8 (l.getD 0 0).toNat = true):qcj l = (⟨3,0,(qun (l.take (qbz qb8 l))).1,l.take (qbz qb8 l)⟩,(qun (l.take (qbz qb8 l))).2):=if_pos h
theorem q6c {l:List UInt8} (h:qb8 (l.getD 0 0).toNat = false) (h2:(onW (l.getD 0 0).toNat && !decide (((l.getD 0 0).toNat:Int) = 39)) = true):qcj l = (qo3 (l.take (qbz onW l)),0):=by
 rw [qcj,h,if_neg Bool.false_ne_true,if_pos h2]
theorem qbn8 {l:List UInt8} (h:qb8 (l.getD 0 0).toNat = false) (h2:(onW (l.getD 0 0).toNat && !decide (((l.getD 0 0).toNat:Int) = 39)) = false) (h3:quh l = 0):qcj l = (T0,3):=by
 rw [qcj,h,if_neg Bool.false_ne_true,h2,if_neg Bool.false_ne_true,if_pos h3]
theorem qoq {l:List UInt8} (h:qb8 (l.getD 0 0).toNat = false) (h2:(onW (l.getD 0 0).toNat && !decide (((l.getD 0 0).toNat:Int) = 39)) = false) (h3:quh l≠0):qcj l = (⟨5,0,0,l.take (quh l)⟩,0):=by
 rw [qcj,h,if_neg Bool.false_ne_true,h2,if_neg Bool.false_ne_true,if_neg h3]
theorem qbck {l:List UInt8} {n:Nat} (hl:l≠[]) (hn:n≠0):l.take n≠[]:=by
 cases l with
 | nil=>exact absurd rfl hl
 | cons c r => cases n with
   | zero=>exact absurd rfl hn
   | succ n=>simp


theorem q9g {l:List UInt8} {n:Nat} (h:0 < n):(l.take n).getD 0 0 = l.getD 0 0:=by
 cases l with
 | nil=>simp
 | cons c r => cases n with
   | zero=>omega
   | succ n=>rfl
theorem q0x {f:Int->Bool} {l:List UInt8} (hl:l≠[]) (h:f (l.getD 0 0).toNat = true):0 < qbz f l:=by
 cases l with
 | nil=>exact absurd rfl hl
 | cons c r=>rw [qs7 (by simpa using h)];omega
/-! Where it fails. -/
/-! Each word stands where it says. -/

def qbbg (t:T):Prop:=(t.kind = 1->varW t.text = true)∧(t.kind = 2->conW t.text = true)∧(t.kind = 3->0≤t.num)
theorem qud {z:Int} (h0:0≤z) (h1:z≤9223372036854775807):IntKind.i64.wrap z = z:=by
 simp [IntKind.wrap,IntKind.signed,IntKind.bits]
 omega
theorem qcfb {z:Int} (h0:0≤z) (h1:z≤255):IntKind.u8.wrap z = z:=by
 simp [IntKind.wrap,IntKind.signed,IntKind.bits]
 omega
theorem q4o:∀ (l:List UInt8) (k:Int),digW l = true->0≤k->k≤9223372036854775807->0≤(qgz k l).1
 | [],k,_,h,_=>h
 | c :: r, k, hd, h0, h1 => by
   simp only [digW,List.all_cons,Bool.and_eq_true,qb8,decide_eq_true_eq] at hd
   have hr:digW r = true:=by
    simp only [digW,qb8];exact hd.2
   have hu:IntKind.u8.wrap ((c.toNat:Int) - 48) = (c.toNat:Int) - 48:=qcfb (by omega) (by omega)
   have hv:digV c = (c.toNat:Int) - 48:=by
    unfold digV;rw [hu];exact qud (by omega) (by omega)
   rw [qgz]
   split
   ·exact Int.le_refl 0
   ·rename_i hlt
    have ht:topV c = (9223372036854775807 - digV c).tdiv 10:=by
     unfold topV
     have e1:IntKind.i64.wrap (9223372036854775807 - digV c) = 9223372036854775807 - digV c:=qud (by omega) (by omega)
     have e3:(9223372036854775807 - digV c).tdiv 10 = (9223372036854775807 - digV c) / 10:=Int.tdiv_eq_ediv_of_nonneg (by omega)
     rw [e1,e3];exact qud (by omega) (by omega)
    have e3:(9223372036854775807 - digV c).tdiv 10 = (9223372036854775807 - digV c) / 10:=Int.tdiv_eq_ediv_of_nonneg (by omega)
    rw [ht,e3] at hlt
    have hn:nxtV k c = 10 * k + digV c:=by
     unfold nxtV
     have e1:IntKind.i64.wrap (10 * k) = 10 * k:=qud (by omega) (by omega)
     rw [e1];exact qud (by omega) (by omega)
    exact q4o r _ hr (by rw [hn];omega) (by rw [hn];omega)
theorem qbnu {l:List UInt8} (hl:l≠[]) (he:(qcj l).2 = 0):qbbg (qcj l).1:=by
 by_cases hd:qb8 (l.getD 0 0).toNat = true
 ·rw [qys hd]
  refine ⟨fun h=>by simp at h,fun h=>by simp at h,fun _=>?_⟩
  have hne:l.take (qbz qb8 l)≠[]:=qbck hl (by have:=q0x hl hd;omega)
  have hdg:digW (l.take (qbz qb8 l)) = true:=qmp qb8 l
  simp only
  rw [qku hne hdg]
  exact q4o _ 0 hdg (by omega) (by omega)
 ·have hd:qb8 (l.getD 0 0).toNat = false:=by simpa using hd
  by_cases ho:(onW (l.getD 0 0).toNat && !decide (((l.getD 0 0).toNat:Int) = 39)) = true
  ·have hon:onW (l.getD 0 0).toNat = true:=by simp only [Bool.and_eq_true] at ho;exact ho.1
   have h39:¬ ((l.getD 0 0).toNat:Int) = 39:=by simp only [Bool.and_eq_true,Bool.not_eq_true',decide_eq_false_iff_not] at ho;exact ho.2
   have hp:=q0x hl hon
   have hne:l.take (qbz onW l)≠[]:=qbck hl (by omega)
   have h0:(l.take (qbz onW l)).getD 0 0 = l.getD 0 0:=q9g hp
   have hall:onsW (l.take (qbz onW l)) = true:=qmp onW l
   rw [q6c hd ho]
   unfold qo3
   generalize l.take (qbz onW l) = w at hne h0 hall
   rw [← h0] at hd hon h39
   refine ⟨fun h=>?_,fun h=>?_,fun h=>?_⟩
   all_goals simp only [q3q] at h ⊢
   ·split at h
    ·exact absurd h (by decide)
    ·rename_i h1
     split at h
     ·exact absurd h (by decide)
     ·rename_i h2
      split at h
      ·exact absurd h (by decide)
      ·rename_i h3
       have hg:qpb (w.getD 0 0).toNat = false:=by
        apply Bool.eq_false_iff.2
        intro hg
        exact h3 (by simp only [conW,hg,hall,decide_eq_true hne,Bool.and_true])
       have hs:qtl (w.getD 0 0).toNat = true:=by
        simp only [onW,hg,hd,Bool.or_false,decide_eq_false h39] at hon
        exact hon
       simp only [varW,hs,hall,decide_eq_true hne,decide_eq_true h1,Bool.and_true,Bool.true_and,Bool.not_eq_true']
       simpa using h2
   ·split at h
    ·exact absurd h (by decide)
    ·split at h
     ·exact absurd h (by decide)
     ·split at h
      ·assumption
      ·exact absurd h (by decide)
   ·repeat' split at h
    all_goals exact absurd h (by decide)
  ·have ho:(onW (l.getD 0 0).toNat && !decide (((l.getD 0 0).toNat:Int) = 39)) = false:=by simpa using ho
   by_cases hm:quh l = 0
   ·rw [qbn8 hd ho hm] at he;simp at he
   ·rw [qoq hd ho hm]
    refine ⟨fun h=>by simp at h,fun h=>by simp at h,fun h=>by simp at h⟩
theorem qbfg {s:List UInt8}:∀ (f k:Nat),(lexF f s k).2.2 = 0->∀ t∈(lexF f s k).1,qbbg t
 | 0,k,_,t,ht=>by simp [lexF] at ht
 | f + 1, k, h, t, ht => by
   rw [lexF] at h ht
   by_cases h1:k < s.length
   ·rw [if_pos h1] at h ht
    by_cases h2:(qcj (s.drop k)).2 = 0
    ·rw [if_pos h2] at h ht
     have hr:(lexF f s (lexK s k)).2.2 = 0:=by
      unfold appR at h
      split at h
      ·rename_i e;exact e
      ·exact h
     rw [appR,if_pos hr] at ht
     rcases List.mem_append.1 ht with ht | ht
     ·simp only [List.mem_singleton] at ht
      subst ht
      have hne:s.drop k≠[]:=by intro e;have:=congrArg List.length e;simp at this;omega
      exact qbnu hne h2
     ·exact qbfg f _ hr t ht
    ·rw [if_neg h2] at h;exact absurd h h2
   ·rw [if_neg h1] at ht;simp at ht
theorem q7v {s:List UInt8}:∀ t∈(lexV s).1,qbbg t:=by
 intro t ht
 by_cases h:1048576 < (s.length:Int)
 ·rw [qqg h] at ht;simp at ht
 ·by_cases he:(lexG s (qck s)).2.2 = 0
  ·rw [qrz h he] at ht
   simp only [List.mem_append,List.mem_singleton] at ht
   rcases ht with ht | rfl
   ·exact qbfg _ _ he t ht
   ·exact ⟨fun h=>by simp at h,fun h=>by simp at h,fun h=>by simp at h⟩
  ·rw [qqc h he] at ht;simp at ht
end Go.Proofs.YtlmcofjcpadmiaaGreat
