/- Texts of this proof, joined. -/
import Derived.Test.YtkenggenkmfopaaGreatIan
import Derived.Test.YtkenggenkmfopaaGreatIbm
import Derived.Test.YtkenggenkmfopaaGreatIah
set_option linter.unusedVariables false
set_option linter.unusedSimpArgs false

/- the lexer's words: one word -/
set_option maxRecDepth 4000
namespace Go.Proofs.YtkenggenkmfopaaGreat
open Go Go.RowKit Go.V

def qcc8(l:List UInt8):Int:=if l=[95] then 5 else if resW l then 4 else if conW l then 2 else 1
def q9t(l:List UInt8):T:=⟨qcc8 l,0,0,l⟩
theorem q3t(l:List UInt8):qp Tryz.prog 226 [.str l] (encT (q9t l)):=by
 refine qe c0ed (by simp) (by simp only[go_sem]) rfl fun hw=>?_
 have hl:l.length≤maxLen:=hw.1
 repeat'(first|refine vs_ ?_|((first|refine vr_ ?_|refine qb (qim _) fun _=>?_|refine qb (qhs _) fun _=>?_|(refine cs_ ?_ ?_<;>intro hc)|refine cj_ ?_)<;>try refine ev_ ?_)|with_reducible exact ti_)
 all_goals simp_all[encT,q9t,qcc8]

def marksW:List (List UInt8):=[[45,62],[61,62],[58,58],[40],[41],[123],[125],[59],[44],[61],[124],[92]]
def qwr(l:List UInt8):List (List UInt8)->Nat
 | []=>0
 | m::r=>if pfx m l then m.length else qwr l r
def q9k(l:List UInt8):Nat:=qwr l marksW
theorem q5g:(marksW.map AV.str).length=12:=rfl
theorem qbb1{i:Nat}(h:i<12):(marksW.map AV.str).getD i .junk=.str (marksW.getD i []):=by
 have h':i<marksW.length:=h
 rw[List.getD_eq_getElem?_getD,List.getElem?_map,List.getD_eq_getElem?_getD,List.getElem?_eq_getElem h'];rfl
theorem qqo{i:Nat}(h:i<12):marksW.drop i=marksW.getD i []::marksW.drop (i+1):=by
 have h':i<marksW.length:=h
 rw[List.drop_eq_getElem_cons h',List.getD_eq_getElem?_getD,List.getElem?_eq_getElem h'];rfl
theorem q1s(l:List UInt8):qp Tryz.prog 227 [.str l] (.int .i64 (q9k l)):=by
 refine qe c0ee (by simp) (by simp only[go_sem]) rfl fun hw=>?_
 repeat'(first|refine vs_ ?_|((first|refine vr_ ?_|(refine cs_ ?_ ?_<;>intro hc)|refine cj_ ?_|simp (disch:=omega) only[qa,qc])<;>try refine ev_ ?_)|with_reducible exact ti_)
 refine qo (S:=Nat) (fun i=>i≤12∧qwr l (marksW.drop i)=q9k l) (fun i=>(⟨[(0,.str l),(5,.agg (marksW.map AV.str)),(6,.int .i64 i)],[]⟩,[])) (fun i=>12-i) ?_ fun i hi=>?_
 ·refine qj 0 [] ⟨Nat.zero_le _,rfl⟩ rfl (by simp) ?_ ?_ ?_<;>(try refine ev_ ?_)<;>(try with_reducible exact ti_)<;>(try simp (disch:=omega) only[qc,and_true,true_and])
  exact⟨rfl,rfl⟩
 ·obtain⟨hi,ha⟩:=hi
  repeat'(first|refine vs_ ?_|((first|refine vr_ ?_|refine qb (qbn _ _) fun _=>?_|(refine cs_ ?_ ?_<;>intro hc)|refine cj_ ?_|simp (disch:=omega) only[qa,qc])<;>try refine ev_ ?_)|with_reducible exact ti_)
  ·simp (disch:=omega) only[q5g,qbb1,Nat.mul_one]
   refine⟨by omega,?_⟩
   repeat'(first|refine vs_ ?_|((first|refine vr_ ?_|refine qb (qbn _ _) fun _=>?_|(refine cs_ ?_ ?_<;>intro hc)|refine cj_ ?_|simp (disch:=omega) only[qa,qc])<;>try refine ev_ ?_)|with_reducible exact ti_)
   ·rw[←ha,qqo (i:=i) (by omega),qwr,if_pos hc]
   ·refine qj (i+1) [] ⟨⟨by omega,?_⟩,by omega⟩ rfl (by simp) ?_ ?_ ?_<;>(try refine ev_ ?_)<;>(try with_reducible exact ti_)<;>(try simp (disch:=omega) only[qc,and_true,true_and])
    ·rw[←ha,qqo (i:=i) (by omega),qwr,hc];rfl
    ·have:i<maxLen:=by unfold maxLen;omega
     rw[qc this]
     exact⟨⟨rfl,rfl⟩,rfl⟩
  ·rw[←ha,show i=12 by omega];rfl
def qcv(l:List UInt8):T×Int :=
 if qdi (l.getD 0 0).toNat then(⟨3,0,(qlu (l.take (qcl qdi l))).1,l.take (qcl qdi l)⟩,(qlu (l.take (qcl qdi l))).2)
 else if onW (l.getD 0 0).toNat&&!decide (((l.getD 0 0).toNat:Int)=39) then(q9t (l.take (qcl onW l)),0)
 else if q9k l=0 then(T0,3)
 else(⟨5,0,0,l.take (q9k l)⟩,0)
def qbz5(p:T×Int):AV:=.tup [encT p.1,.int .i64 p.2]
theorem qze(l:List UInt8):∀ms,qwr l ms≤l.length
 | []=>Nat.zero_le _
 | m :: r => by
   rw[qwr]
   split
   ·rename_i h
    have:=congrArg List.length (of_decide_eq_true h)
    rw[List.length_take] at this
    omega
   ·exact qze l r
theorem qzz(l:List UInt8):q9k l≤l.length:=qze l _
attribute [go_sem] q41
theorem q3s(l:List UInt8)(hne:l≠[]):qp Tryz.prog 185 [.str l] (qbz5 (qcv l)):=by
 refine qe c0ef (by simp) (by simp only[go_sem]) rfl fun hw=>?_
 have hl:l.length≤maxLen:=hw.1
 have h1:=qfu qdi l
 have h2:=qfu onW l
 have h3:=qzz l
 have h4:=List.length_pos_iff.2 hne
 repeat'(first|refine vs_ ?_|((first|refine vr_ ?_|refine qb (qir _) fun _=>?_|refine qb (qga qir _) fun _=>?_|refine qb (qm2 _) fun _=>?_|refine qb (q04 _) fun _=>?_|refine qb (qga q04 _) fun _=>?_|refine qb (q3t _) fun _=>?_|refine qb (q1s _) fun _=>?_|(refine cs_ ?_ ?_<;>intro hc)|refine cj_ ?_|simp (disch:=omega) only[qa,qc])<;>try refine ev_ ?_)|with_reducible exact ti_)
 all_goals(unfold qcv qbz5;simp_all only[↓reduceIte,Bool.false_eq_true,decide_true,decide_false,Bool.not_true,Bool.not_false,Bool.and_true,Bool.and_false,Bool.true_and,Bool.false_and,Int.natCast_eq_zero];try rfl)

theorem q98(l:List UInt8):(qcv l).1.text.length≤l.length:=by
 unfold qcv
 split
 ·simp only[List.length_take];omega
 ·split
  ·simp only[q9t,List.length_take];omega
  ·split
   ·simp[T0]
   ·simp only[List.length_take];omega
theorem q9s{l:List UInt8}(hl:l≠[])(h:(qcv l).2=0):0<(qcv l).1.text.length:=by
 have h0:=List.length_pos_iff.2 hl
 have key:∀f:Int->Bool,f (l.getD 0 0).toNat=true->qcl f l≠0:=fun f hf=>by
  have:=qiu (f:=f) h0
  rw[List.drop_zero,if_pos hf] at this
  omega
 unfold qcv at h ⊢
 split
 ·rename_i h1
  have:=key _ h1
  simp only[List.length_take];omega
 ·rename_i h1
  rw[if_neg h1] at h
  split
  ·rename_i h2
   have:=key _ (by simp only[Bool.and_eq_true] at h2;exact h2.1)
   simp only[q9t,List.length_take];omega
  ·rename_i h2
   rw[if_neg h2] at h
   split
   ·rename_i h3;rw[if_pos h3] at h;simp at h
   ·have:=qzz l
    simp only[List.length_take];omega

def lexN(s:List UInt8)(k:Nat):Nat:=k+(qcv (s.drop k)).1.text.length
def lexK(s:List UInt8)(k:Nat):Nat:=lexN s k+qcq (s.drop (lexN s k))
def lexT(s:List UInt8)(k:Nat):T:=⟨(qcv (s.drop k)).1.kind,k,(qcv (s.drop k)).1.num,(qcv (s.drop k)).1.text⟩
abbrev LR:=List T×Int×Int
def qjf(a:List T)(r:LR):LR:=if r.2.2=0 then(a++r.1,r.2.1,r.2.2) else r
def lexF:Nat->List UInt8->Nat->LR
 | 0,s,k=>([],0,0)
 | f+1,s,k=>if k<s.length then if(qcv (s.drop k)).2=0 then qjf [lexT s k] (lexF f s (lexK s k)) else([],(k:Int),(qcv (s.drop k)).2) else([],0,0)
def lexG(s:List UInt8)(k:Nat):LR:=lexF (s.length-k) s k
theorem q47{s:List UInt8}{k:Nat}(h:k≤s.length):lexN s k≤s.length:=by
 have:=q98 (s.drop k)
 rw[List.length_drop] at this
 unfold lexN;omega
theorem qbb8{s:List UInt8}{k:Nat}(h:k≤s.length):lexK s k≤s.length:=by
 have h1:=q47 h
 have:=q0u (s.drop (lexN s k))
 rw[List.length_drop] at this
 unfold lexK;omega
theorem qs2{s:List UInt8}{k:Nat}(h:k<s.length)(h2:(qcv (s.drop k)).2=0):k<lexK s k:=by
 have:=q9s (l:=s.drop k) (by intro e;have:=congrArg List.length e;simp at this;omega) h2
 unfold lexK lexN;omega
theorem qni{s:List UInt8}:∀(f g k:Nat),s.length-k≤f->s.length-k≤g->lexF f s k=lexF g s k
 | 0,0,k,_,_=>rfl
 | 0,g+1,k,h1,h2=>by rw[lexF,lexF,if_neg (by omega)]
 | f+1,0,k,h1,h2=>by rw[lexF,lexF,if_neg (by omega)]
 | f + 1, g + 1, k, h1, h2 => by
   rw[lexF,lexF]
   split
   ·rename_i h
    split
    ·rename_i h3
     have:=qs2 h h3
     rw[qni f g _ (by omega) (by omega)]
    ·rfl
   ·rfl
theorem qcgo{s:List UInt8}{k:Nat}(h:¬k<s.length):lexG s k=([],0,0):=by
 rw[lexG,show s.length-k=0 by omega,lexF]
theorem qcf7{s:List UInt8}{k:Nat}(h:k<s.length)(h2:(qcv (s.drop k)).2=0):lexG s k=qjf [lexT s k] (lexG s (lexK s k)):=by
 have:=qs2 h h2
 rw[lexG,show s.length-k=(s.length-k-1)+1 by omega,lexF,if_pos h,if_pos h2,lexG,qni _ (s.length-lexK s k) _ (by omega) (by omega)]
theorem qcc5{s:List UInt8}{k:Nat}(h:k<s.length)(h2:¬(qcv (s.drop k)).2=0):lexG s k=([],(k:Int),(qcv (s.drop k)).2):=by
 rw[lexG,show s.length-k=(s.length-k-1)+1 by omega,lexF,if_pos h,if_neg h2]
theorem qbhn(a b:List T)(r:LR):qjf a (qjf b r)=qjf (a++b) r:=by
 unfold qjf
 by_cases h:r.2.2=0
 ·simp[h]
 ·simp[h]
theorem qr1(r:LR):qjf [] r=r:=by
 unfold qjf
 split<;>rfl

def lexV(s:List UInt8):LR :=
 if(1048576:Int)<s.length then([],0,2) else qjf [] (if(lexG s (qcq s)).2.2=0 then((lexG s (qcq s)).1++[⟨0,s.length,0,[]⟩],0,0) else lexG s (qcq s))

/-! What the loop over a text's words does. -/
structure LSt(s:List UInt8)(fn:FuncId)(asn bd:Code)(tm:List (Nat×AV))(acc:List T)(H:List Ent):Prop where
 len:6≤H.length
 e0:ent H 0=.blk [.nils]
 e1:ent H 1=.blk [.int .i64 0]
 e2:ent H 2=.blk [.int .i64 0]
 e3:∃out,ent H 3=.blk [out]∧(acc=[]∧out=.nils∨∃r,6≤r∧out=.row r acc.length∧ent H r=.app 4 (encTs acc))
 e4:ent H 4=.blk [.str s]
 e5:ent H 5=.lp ⟨.ready,none,fn,[13,14].toArray,asn,bd⟩ (qg7 30 tm)
structure LEnd(fn:FuncId)(asn bd:Code)(tm:List (Nat×AV))(k e:Int)(H:List Ent):Prop where
 len:6≤H.length
 e0:ent H 0=.blk [.nils]
 e1:ent H 1=.blk [.int .i64 k]
 e2:ent H 2=.blk [.int .i64 e]
 e5:∃vs,ent H 5=.lp ⟨.done,some .ret,fn,[13,14].toArray,asn,bd⟩ vs
variable {s:List UInt8} {fn:FuncId} {asn bd:Code} {tm:List (Nat×AV)} {acc:List T} {H:List Ent}
theorem qcgm{n k i:Nat}(h:i<n):gro n k i=i:=by rw[gro,if_pos h]
theorem qbdm{σ:Nat->Nat}{m n:Nat}(hσ:∀i,i<m->σ i=i){tm:List (Nat×AV)}(h:tmBd m tm=true):AV.rens σ (qg7 n tm)=qg7 n tm:=qs hσ _ (q0c h)
theorem LSt.grow{n:Nat}{L:List Ent}(h:LSt s fn asn bd tm acc H)(hn:6≤n)(hl:n≤H.length)(ht:tmBd 6 tm=true):LSt s fn asn bd tm acc (grow n L H) where
 len:=by rw[qqr hl];omega
 e0:=by rw[qb5 hl (by omega),h.e0];rfl
 e1:=by rw[qb5 hl (by omega),h.e1];rfl
 e2:=by rw[qb5 hl (by omega),h.e2];rfl
 e3:=by
  obtain⟨out,h1,h2⟩:=h.e3
  refine⟨out.ren (gro n L.length),by rw[qb5 hl (by omega),h1];rfl,?_⟩
  rcases h2 with ⟨h3,rfl⟩ | ⟨r,h3,rfl,h4⟩
  ·exact .inl ⟨h3,rfl⟩
  ·refine .inr ⟨gro n L.length r,by unfold gro;split<;>omega,rfl,?_⟩
   rw[qbfr hl,h4,Ent.ren,encTs_ren]
 e4:=by rw[qb5 hl (by omega),h.e4];rfl
 e5:=by rw[qb5 hl (by omega),h.e5,Ent.ren,qbdm (m:=6) (fun i hi=>qcgm (by omega)) ht]
theorem LEnd.grow{n:Nat}{L:List Ent}{k e:Int}(h:LEnd fn asn bd tm k e H)(hn:6≤n)(hl:n≤H.length):LEnd fn asn bd tm k e (grow n L H) where
 len:=by rw[qqr hl];omega
 e0:=by rw[qb5 hl (by omega),h.e0];rfl
 e1:=by rw[qb5 hl (by omega),h.e1];rfl
 e2:=by rw[qb5 hl (by omega),h.e2];rfl
 e5:=by
  obtain⟨vs,h5⟩:=h.e5
  exact⟨_,by rw[qb5 hl (by omega),h5];rfl⟩
set_option maxRecDepth 4000
variable {s:List UInt8} {fn:FuncId} {asn bd:Code} {tm:List (Nat×AV)} {acc:List T} {H:List Ent}

attribute [go_sem] qbz5
theorem qbll{h:Nat}(hn:h≠0){α:Type}(a b:α):(if 0=h then a else b)=b:=if_neg (Ne.symm hn)
theorem qbap(ha:qb0 Tryz.prog 30 asn=some (.seq qs4 qsz))(hb:qb0 Tryz.prog 30 bd=some qyj)
 (h2:get tm 2=.ptr 0 0) (h3:get tm 3=.ptr 1 0) (h4:get tm 4=.ptr 2 0) (h5:get tm 5=.ptr 3 0)
 (t:T) (e:Int) (hs:LSt s fn asn bd tm acc H) (hacc:acc.length≤1048576) :
 VApp Tryz.prog H (.opq 5) [encT t,.int .i64 e] (fun H' o=>H.length≤H'.length∧(if e=0 then LSt s fn asn bd tm (acc++[t]) H'∧o=.val (.bool true) else LEnd fn asn bd tm t.pos e H'∧o=.val (.bool false))):=by
 have e0:=hs.e0
 have e1:=hs.e1
 have e2:=hs.e2
 have e4:=hs.e4
 have e5:=hs.e5
 have hlen:=hs.len
 obtain⟨out,e3,hout⟩:=hs.e3
 refine qx7 e5 rfl (by simp[qg7]) ha hb (by simp) (by simp) fun lp=>?_
 rcases hout with ⟨rfl,rfl⟩ | ⟨r,hr,rfl,er⟩
 ·repeat'(first|refine vs_ ?_|(refine vr_ ?_<;>try simp (disch:=first|omega|(simp only[List.length_set,List.length_append,List.length_cons,List.length_nil];try omega)) only[h2,h3,h4,h5,e0,e1,e2,e3,e4,e5,qdw,qb9,qbp,List.length_set,go_sem,↓reduceIte])|((first|(refine cs_ ?_ ?_<;>intro hc)|refine cj_ ?_|simp (disch:=omega) only[qa,qc])<;>try refine ev_ ?_)|with_reducible exact ti_)
  ·refine⟨by rw[qbll (by omega)],?_⟩
   repeat'(first|refine vs_ ?_|(refine vr_ ?_<;>try simp (disch:=first|omega|(simp only[List.length_set,List.length_append,List.length_cons,List.length_nil];try omega)) only[h2,h3,h4,h5,e0,e1,e2,e3,e4,e5,qdw,qb9,qbp,List.length_set,go_sem,↓reduceIte])|((first|(refine cs_ ?_ ?_<;>intro hc)|refine cj_ ?_|simp (disch:=omega) only[qa,qc])<;>try refine ev_ ?_)|with_reducible exact ti_)
   rw[if_neg hc]
   refine⟨by simp only[List.length_set,List.length_append,List.length_cons,List.length_nil];omega,?_,?_,?_,qg7 30 tm,?_⟩<;>simp (disch:=first | omega | (simp only[List.length_set,List.length_append,List.length_cons,List.length_nil];omega)) only[e0,e1,e2,e3,e4,e5,qdw,qb9,qbp]
  ·rw[if_pos hc]
   refine⟨by simp;omega,?_,?_,?_,⟨_,?_,.inr ⟨H.length+1,by omega,rfl,?_⟩⟩,?_,?_⟩<;>simp (disch:=first | omega | (simp only[List.length_set,List.length_append,List.length_cons,List.length_nil];omega)) only[e0,e1,e2,e3,e4,e5,qdw,qb9,qbp]
   ·rfl
   ·rw[qse (by simp)];simp[ent,encTs]
 ·have hrl:r<H.length:=by
   apply Decidable.byContradiction
   intro h
   rw[qcdq (by omega)] at er
   cases er
  repeat'(first|refine vs_ ?_|(refine vr_ ?_<;>try simp (disch:=first|omega|(simp only[List.length_set,List.length_append,List.length_cons,List.length_nil];try omega)) only[h2,h3,h4,h5,e0,e1,e2,e3,e4,e5,er,qdw,qb9,qbp,List.length_set,go_sem,↓reduceIte])|((first|(refine cs_ ?_ ?_<;>intro hc)|refine cj_ ?_|simp (disch:=omega) only[qa,qc])<;>try refine ev_ ?_)|with_reducible exact ti_)
  ·refine⟨by rw[qbll (by omega)],?_⟩
   repeat'(first|refine vs_ ?_|(refine vr_ ?_<;>try simp (disch:=first|omega|(simp only[List.length_set,List.length_append,List.length_cons,List.length_nil];try omega)) only[h2,h3,h4,h5,e0,e1,e2,e3,e4,e5,qdw,qb9,qbp,List.length_set,go_sem,↓reduceIte])|((first|(refine cs_ ?_ ?_<;>intro hc)|refine cj_ ?_|simp (disch:=omega) only[qa,qc])<;>try refine ev_ ?_)|with_reducible exact ti_)
   rw[if_neg hc]
   refine⟨by simp only[List.length_set,List.length_append,List.length_cons,List.length_nil];omega,?_,?_,?_,qg7 30 tm,?_⟩<;>simp (disch:=first | omega | (simp only[List.length_set,List.length_append,List.length_cons,List.length_nil];omega)) only[e0,e1,e2,e3,e4,e5,qdw,qb9,qbp]
  ·rw[if_pos hc]
   refine⟨by simp;omega,?_,?_,?_,⟨_,?_,.inr ⟨H.length+1,by omega,rfl,?_⟩⟩,?_,?_⟩<;>simp (disch:=first | omega | (simp only[List.length_set,List.length_append,List.length_cons,List.length_nil];omega)) only[e0,e1,e2,e3,e4,e5,qdw,qb9,qbp]
   ·simp
   ·rw[qse (by simp)];simp[ent,encTs]
set_option maxRecDepth 4000
variable {s:List UInt8} {fn:FuncId} {asn bd:Code} {tm:List (Nat×AV)} {acc:List T} {H:List Ent}

theorem q92(ha:qb0 Tryz.prog 30 asn=some (.seq qs4 qsz))(hb:qb0 Tryz.prog 30 bd=some qyj)
 (h2:get tm 2=.ptr 0 0) (h3:get tm 3=.ptr 1 0) (h4:get tm 4=.ptr 2 0) (h5:get tm 5=.ptr 3 0) (ht:tmBd 6 tm=true)
 (hs:LSt s fn asn bd tm [] H) (hl:s.length≤1048576) :
 VCalls Tryz.prog 183 H [.opq 5,.ptr 4 0] (fun H' o=>o=.val (.tup [])∧H.length≤H'.length ∧
  (if(lexG s (qcq s)).2.2=0 then LSt s fn asn bd tm (lexG s (qcq s)).1 H' else LEnd fn asn bd tm (lexG s (qcq s)).2.1 (lexG s (qcq s)).2.2 H')):=by
 have hcap:s.length≤maxLen:=by unfold maxLen;omega
 have e4:=hs.e4
 have hlen:=hs.len
 refine qlh c0ec (by simp) (qcfa fun hbd=>?_)
 repeat'(first|refine vs_ ?_|(refine vr_ ?_<;>try simp only[e4,go_sem,↓reduceIte])|((first|(refine cs_ ?_ ?_<;>intro hc)|refine cj_ ?_|simp (disch:=omega) only[qa,qc]|refine qb (qph _) fun _=>?_)<;>try refine ev_ ?_)|with_reducible exact ti_)
 have hk0:=q0u s
 refine qo (S:=Nat×List T×List Ent) (fun x=>x.1≤s.length∧lexG s (qcq s)=qjf x.2.1 (lexG s x.1)∧x.2.1.length≤x.1∧LSt s fn asn bd tm x.2.1 x.2.2∧H.length≤x.2.2.length∧x.2.2.all (Ent.bd x.2.2.length)=true)
  (fun x=>(⟨[(0,.opq 5),(1,.ptr 4 0),(3,.int .i64 x.1)],[]⟩,x.2.2)) (fun x=>s.length-x.1) ?_ ?_
 ·refine qlj (qcq s,[],H) [] ⟨hk0,(qr1 _).symm,Nat.zero_le _,hs,Nat.le_refl _,hbd⟩ (Nat.le_refl _) (by simp) hbd ?_ rfl rfl
  (refine ev_ ?_;(try with_reducible exact ti_))
  exact⟨decide_eq_true (by omega),decide_eq_true (by omega)⟩
 ·rintro⟨k,acc,H1⟩ ⟨hk,hG,hacc,hs1,hH1,hbd1⟩
  have f4:=hs1.e4
  have hlen1:=hs1.len
  simp only at hk hG hacc hH1 hbd1 f4 hlen1 hs1
  repeat'(first|refine vs_ ?_|(refine vr_ ?_<;>try simp only[f4,go_sem,↓reduceIte])|((first|(refine cs_ ?_ ?_<;>intro hc)|refine cj_ ?_|simp (disch:=omega) only[qa,qc]|refine qb (q3s _ (by simp;omega)) fun _=>?_)<;>try refine ev_ ?_)|with_reducible exact ti_)
  ·have hk1:k<s.length:=by omega
   refine qbdi (qbap ha hb h2 h3 h4 h5 (lexT s k) (qcv (s.drop k)).2 hs1 (by omega)) hbd1 (by simp only[AV.bd];exact decide_eq_true (by omega)) rfl fun H2 o ho=>⟨ho.1,?_⟩
   obtain⟨hl2,ho⟩:=ho
   have em:=fun L=>qtj (L:=[L]) (j:=0) hl2 (by simp)
   have hl3:=fun L=>qqr (L:=L) hl2
   by_cases he:(qcv (s.drop k)).2=0
   ·rw[if_pos he] at ho
    obtain⟨hs2,rfl⟩:=ho
    have hs3:=fun L=>hs2.grow (L:=L) (n:=H1.length) (by omega) hl2 ht
    specialize em (.blk [AV.int IntKind.i64 (qcv (List.drop k s)).fst.kind,AV.int IntKind.i64 k,AV.int IntKind.i64 (qcv (List.drop k s)).fst.num,AV.str (qcv (List.drop k s)).fst.text])
    specialize hs3 [.blk [AV.int IntKind.i64 (qcv (List.drop k s)).fst.kind,AV.int IntKind.i64 k,AV.int IntKind.i64 (qcv (List.drop k s)).fst.num,AV.str (qcv (List.drop k s)).fst.text]]
    specialize hl3 [.blk [AV.int IntKind.i64 (qcv (List.drop k s)).fst.kind,AV.int IntKind.i64 k,AV.int IntKind.i64 (qcv (List.drop k s)).fst.num,AV.str (qcv (List.drop k s)).fst.text]]
    generalize grow H1.length _ H2=H3 at em hs3 hl3 ⊢
    have f4:=hs3.e4
    simp only[List.length_cons,List.length_nil] at hl3
    simp only[Nat.add_zero,ent] at em
    have hn:=q47 hk
    (refine ev_ ?_;(try with_reducible exact ti_))
    refine qcfa fun hbd3=>?_
    have hk2:=qbb8 hk
    have w1:IntKind.i64.wrap ((k:Int)+((qcv (List.drop k s)).1.text.length:Nat))=(lexN s k:Nat):=by
     rw[qfk (by unfold lexN at hn;omega) (by unfold lexN at hn;omega)];rfl
    have w2:IntKind.i64.wrap ((lexN s k:Nat)+(qcq (s.drop (lexN s k)):Nat):Int)=(lexK s k:Nat):=by
     rw[qfk (by unfold lexK at hk2;omega) (by unfold lexK at hk2;omega)];rfl
    repeat'(first|refine vs_ ?_|(refine vr_ ?_<;>try simp only[f4,em,w1,w2,go_sem,↓reduceIte])|((first|(refine cs_ ?_ ?_<;>intro hc)|refine cj_ ?_|simp (disch:=omega) only[qa,qc]|refine qb (qph _) fun _=>?_)<;>try refine ev_ ?_)|with_reducible exact ti_)
    have hlt:=qs2 hk1 he
    refine qlj (lexK s k,acc++[lexT s k],H3) [] ⟨⟨hk2,?_,?_,hs3,by simp only;omega,hbd3⟩,by simp only;omega⟩ (by simp only;omega) (by simp) hbd3 ?_ rfl rfl
    ·simp only
     rw[hG,qcf7 hk1 he,qbhn]
    ·simp only[List.length_append,List.length_cons,List.length_nil];omega
    ·(refine ev_ ?_;(try with_reducible exact ti_))
     exact⟨decide_eq_true (by omega),decide_eq_true (by omega),by rw[w2]⟩
   ·rw[if_neg he] at ho
    obtain⟨hs2,rfl⟩:=ho
    have hs3:=hs2.grow (L:=[.blk [AV.int IntKind.i64 (qcv (List.drop k s)).fst.kind,AV.int IntKind.i64 k,AV.int IntKind.i64 (qcv (List.drop k s)).fst.num,AV.str (qcv (List.drop k s)).fst.text]]) (n:=H1.length) (by omega) hl2
    specialize hl3 [.blk [AV.int IntKind.i64 (qcv (List.drop k s)).fst.kind,AV.int IntKind.i64 k,AV.int IntKind.i64 (qcv (List.drop k s)).fst.num,AV.str (qcv (List.drop k s)).fst.text]]
    generalize grow H1.length _ H2=H3 at hs3 hl3 ⊢
    (refine ev_ ?_;(try with_reducible exact ti_))
    repeat'(first|refine vs_ ?_|((first|refine vr_ ?_|(refine cs_ ?_ ?_<;>intro hc)|refine cj_ ?_|simp (disch:=omega) only[qa,qc])<;>try refine ev_ ?_)|with_reducible exact ti_)
    have hr:lexG s (qcq s)=([],(k:Int),(qcv (s.drop k)).2):=by
     rw[hG,qcc5 hk1 he,qjf,if_neg he]
    rw[hr,if_neg he]
    exact hs3
  ·rw[hG,qcgo (by omega)]
   simp only[qjf,if_true,List.append_nil]
   exact hs1
set_option maxRecDepth 4000

theorem qyd(s:List UInt8):VCalls Tryz.prog 134 [] [.str s] (fun H1 o=>H1=[.blk [.str s]]∧o=.val (.fn 183 [] [.ptr 0 0])):=by
 refine qd c0ea 1 (by simp) (by simp) ?_
 repeat'(first|refine vs_ ?_|((first|refine vr_ ?_|(refine cs_ ?_ ?_<;>intro hc)|refine cj_ ?_)<;>try refine ev_ ?_)|with_reducible exact ti_)
theorem q12{s:List UInt8}{H:List Ent}{Q:List Ent->VO->Prop}(h:Q (H++[.blk [.str s]]) (.val (.fn 183 [] [.ptr H.length 0]))):VApp Tryz.prog H (.fn 134 [] []) [.str s] Q :=
 qjz (qyd s) rfl (by rintro _ _ ⟨rfl,rfl⟩;simpa [qds,qbf,sg',VO.ren,AV.ren,AV.rens,Ent.ren] using h)
def lexR(r:LR):AV:=.tup [.sl 4 (encTs r.1),.int .i64 r.2.1,.int .i64 r.2.2]
theorem qz8{s:List UInt8}(h:1048576<(s.length:Int)):lexV s=([],0,2):=if_pos h
theorem qbae{s:List UInt8}(h:¬1048576<(s.length:Int))(he:(lexG s (qcq s)).2.2=0):lexV s=((lexG s (qcq s)).1++[⟨0,s.length,0,[]⟩],0,0):=by
 rw[lexV,if_neg h,if_pos he,qr1]
theorem q0h{s:List UInt8}:∀(f k:Nat),(lexF f s k).2.2≠0->(lexF f s k).1=[]
 | 0,k,h=>absurd rfl h
 | f + 1, k, h => by
   rw[lexF] at h ⊢
   split
   ·rename_i h1
    rw[if_pos h1] at h
    split
    ·rename_i h2
     rw[if_pos h2] at h
     unfold qjf at h ⊢
     split
     ·rename_i h3;rw[if_pos h3] at h;exact absurd h3 h
     ·rename_i h3;rw[if_neg h3] at h;exact q0h f _ h
    ·rfl
   ·rfl
theorem qq2{s:List UInt8}:∀(f k:Nat),(lexF f s k).1.length≤s.length-k
 | 0,k=>Nat.zero_le _
 | f + 1, k => by
   rw[lexF]
   split
   ·rename_i h1
    split
    ·rename_i h2
     have:=qq2 (s:=s) f (lexK s k)
     have:=qs2 h1 h2
     have:=qbb8 (Nat.le_of_lt h1)
     unfold qjf
     split
     ·simp only[List.length_append,List.length_cons,List.length_nil];omega
     ·omega
    ·exact Nat.zero_le _
   ·exact Nat.zero_le _
theorem q0n{s:List UInt8}(h:¬1048576<(s.length:Int))(he:¬(lexG s (qcq s)).2.2=0):lexV s=([],(lexG s (qcq s)).2.1,(lexG s (qcq s)).2.2):=by
 rw[lexV,if_neg h,if_neg he,qr1,←show(lexG s (qcq s)).1=[] from q0h _ _ he]
theorem quc(s:List UInt8):qp Tryz.prog 89 [.str s] (lexR (lexV s)):=by
 refine qe c0eb (by simp) (by simp only[go_sem]) (by simp only[lexR,go_sem]) fun hw=>?_
 have hl:s.length≤maxLen:=hw.1
 repeat'(first|refine vs_ ?_|((first|refine vr_ ?_|refine q12 ?_|(refine cs_ ?_ ?_<;>intro hc)|refine cj_ ?_)<;>try refine ev_ ?_)|with_reducible exact ti_)
 ·rw[qz8 hc];rfl
 ·refine q0d rfl (by simp) fun fn asn bd ha hb=>?_
  refine(q92 (s:=s) ha hb rfl rfl rfl rfl rfl ⟨by simp,rfl,rfl,rfl,⟨.nils,rfl,.inl ⟨rfl,rfl⟩⟩,rfl,rfl⟩ (by omega)).mono fun H' o ho=>?_
  obtain⟨rfl,hl2,ho⟩:=ho
  have hll:(lexG s (qcq s)).1.length≤1048576:=by have:=qq2 (s:=s) (s.length-qcq s) (qcq s);unfold lexG;omega
  clear hl2
  by_cases he:(lexG s (qcq s)).2.2=0
  ·rw[if_pos he] at ho
   rw[qbae hc he]
   have e0:=ho.e0
   have e1:=ho.e1
   have e2:=ho.e2
   have e5:=ho.e5
   have hlen:=ho.len
   obtain⟨out,e3,hout⟩:=ho.e3
   simp only[ranq,List.length_cons,List.length_nil,Nat.zero_add,Nat.reduceAdd,e5]
   rcases hout with ⟨h1,rfl⟩ | ⟨r,hr,rfl,er⟩
   ·repeat'(first|refine vs_ ?_|(refine vr_ ?_<;>try simp (disch:=first|omega|(simp only[List.length_set,List.length_append,List.length_cons,List.length_nil];try omega)) only[e0,e1,e2,e3,e5,qdw,qb9,qbp,List.length_set,go_sem,↓reduceIte])|((first|(refine cs_ ?_ ?_<;>intro hc)|refine cj_ ?_)<;>try refine ev_ ?_)|with_reducible exact ti_)
    rw[h1];rfl
   ·repeat'(first|refine vs_ ?_|(refine vr_ ?_<;>try simp (disch:=first|omega|(simp only[List.length_set,List.length_append,List.length_cons,List.length_nil];try omega)) only[e0,e1,e2,e3,e5,er,qdw,qb9,qbp,List.length_set,go_sem,↓reduceIte])|((first|(refine cs_ ?_ ?_<;>intro hc)|refine cj_ ?_)<;>try refine ev_ ?_)|with_reducible exact ti_)
    have hen:encTs (lexG s (qcq s)).1++[AV.agg [AV.int IntKind.i64 0,AV.int IntKind.i64 s.length,AV.int IntKind.i64 0,AV.str []]]=encTs ((lexG s (qcq s)).1++[⟨0,s.length,0,[]⟩]):=qny (lexG s (qcq s)).1 ⟨0,s.length,0,[]⟩
    rw[hen]
    exact⟨encTs_bd _ _,rfl⟩
  ·rw[if_neg he] at ho
   rw[q0n hc he]
   have e0:=ho.e0
   have e1:=ho.e1
   have e2:=ho.e2
   obtain⟨vs,e5⟩:=ho.e5
   have hlen:=ho.len
   simp only[ranq,List.length_cons,List.length_nil,Nat.zero_add,Nat.reduceAdd,e5]
   (simp (disch:=first | omega | (simp only[List.length_set,List.length_append,List.length_cons,List.length_nil];try omega)) only[e0,e1,e2,e5,qdw,qb9,qbp,List.length_set,go_sem,↓reduceIte])
   rfl

end Go.Proofs.YtkenggenkmfopaaGreat
