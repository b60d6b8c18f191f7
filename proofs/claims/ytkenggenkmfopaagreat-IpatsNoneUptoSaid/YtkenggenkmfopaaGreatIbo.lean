/- Texts of this proof, joined. -/
import Derived.Test.YtkenggenkmfopaaGreatIbn
import Derived.Test.YtkenggenkmfopaaGreatIbe
set_option linter.unusedVariables false
set_option linter.unusedSimpArgs false

/- the cursor: what it is, what its methods do -/
set_option maxRecDepth 4000
namespace Go.Proofs.YtkenggenkmfopaaGreat
open Go Go.RowKit Go.V

attribute [go_sem] cond_true cond_false
structure K where
 l:List T
 ep:Int
 at':Nat
 nest:Nat
 err:Int
 pos:Int
def K.ok(c:K):Prop:=c.at'≤c.l.length∧c.l.length≤maxLen
def curE(c:K):Ent:=.blk [.sl 4 (encTs c.l),.int .i64 0,.int .i64 c.ep,.int .i64 0,.str [],.int .i64 c.at',.int .i64 c.nest,.int .i64 c.err,.int .i64 c.pos]
def K.bad(c:K):Bool:=!decide (c.err=0)
theorem qhb{c:K}(h:c.bad=false):c.err=0:=by simpa [K.bad] using h
theorem qiv{c:K}(h:c.bad=true):¬c.err=0:=by simpa [K.bad] using h
def qch(c:K):T:=if c.err=0 then if c.at'<c.l.length then c.l.getD c.at' T0 else ⟨0,c.ep,0,[]⟩ else T0
def qco(c:K):K:=if c.err=0 then if c.at'<c.l.length then { c with at':=c.at'+1 } else c else c
def qbbu(t:T)(s:List UInt8):Bool:=(decide (t.kind=4)||decide (t.kind=5))&&decide (t.text=s)
def isK(c:K)(s:List UInt8):Bool:=decide (c.err=0)&&qbbu (qch c) s
def qj5(c:K)(e:Int):K:=if c.err=0 then { c with err:=if e=0 then 1 else e,pos:=(qch c).pos } else c
def qkq(c:K)(s:List UInt8):K×Bool:=if isK c s=true then(qco c,true) else(c,false)
def qid(c:K)(s:List UInt8):K×Bool:=if isK c s=true then(qco c,true) else(qj5 c 5,false)
def qu(c:K):K×Bool:=if c.err=0 then if c.nest<200 then({ c with nest:=c.nest+1 },true) else(qj5 c 2,false) else(c,false)
def qfe(c:K):K:=if c.err=0 then if 0<c.nest then { c with nest:=c.nest-1 } else c else c
def qly(c:K):Int×Int:=if c.err=0 then if c.at'<c.l.length then((c.l.getD c.at' T0).pos,5) else(c.ep,0) else(c.pos,c.err)

theorem qbh(k:Nat)(c:K):(curE c).bd k=true:=by
 simp only[curE,Ent.bd,AV.bds,AV.bd,encTs_bd,Bool.and_true]
attribute [go_sem] curE
def qeo(P:Program)(f:FuncId)(e e':Ent)(args:List AV)(r:AV):Prop:=VCalls P f [e] args fun H' o=>H'=[e']∧o=.val r
section
variable {P:Program} {f:FuncId} {e e':Ent} {L:List Ent} {args:List AV} {r:AV} {Q:List Ent->VO->Prop}
theorem qcc(h:qeo P f e e' args r)(hb:e.bd 1=true)(hb':e'.bd 1=true)(ha:AV.bds 1 args=true)(hr:r.bd 1=true)(hq:r.wf->Q (e'::L) (.val r)):VApp P (e::L) (.fn f [] []) args Q :=
 qb1 (first:=[]) (caps:=[]) (by
  simp only[List.nil_append,List.append_nil]
  refine qqa (H0:=[e]) (L:=L) (h.mono' (Q':=fun H' o=>(H'=[e']∧o=.val r)∧r.wf) fun H' o hw ho=>⟨ho,by have:=ho.2;subst this;exact hw⟩) (by simp[hb]) ha ?_
  rintro H1 o ⟨⟨rfl,rfl⟩,hw⟩
  exact⟨rfl,by simp[hb'],hr,hq hw⟩)
theorem q5t(h:qeo P f e e args r)(hb:e.bd 1=true)(ha:AV.bds 1 args=true)(hr:r.bd 1=true){rs:List AV}{Kk:Md->AV->List Ent->Prop}(hq:r.wf->Kk .here r (e::L))(hw:r.wf):DApp P (e::L) (.fn f [] []) args rs Kk :=
 .inl ⟨r,qcc h hb hb ha hr fun _=>⟨rfl,rfl⟩,hq hw⟩
end

theorem qpc(c:K):qeo Tryz.prog 186 (curE c) (curE c) [.ptr 0 0] (.bool c.bad):=by
 refine qd c0dp 1 (by simp) (by simp) ?_
 unfold K.bad
 repeat'(first|refine vs_ ?_|((first|refine vr_ ?_|(refine cs_ ?_ ?_<;>intro hc)|refine cj_ ?_)<;>try refine ev_ ?_)|with_reducible exact ti_)
section
variable {c:K} {L:List Ent} {Q:List Ent->VO->Prop} {rs:List AV} {Kk:Md->AV->List Ent->Prop}
theorem qh1(h:Q (curE c::L) (.val (.bool c.bad))):VApp Tryz.prog (curE c::L) (.fn 186 [] []) [.ptr 0 0] Q:=qcc (qpc c) (qbh _ _) (qbh _ _) rfl rfl fun _=>h
theorem qbih(h:Kk .here (.bool c.bad) (curE c::L)):DApp Tryz.prog (curE c::L) (.fn 186 [] []) [.ptr 0 0] rs Kk:=q5t (qpc c) (qbh _ _) rfl rfl (fun _=>h) trivial
end
section
variable {c:K}
theorem qba7(h:¬c.err=0):qch c=T0:=if_neg h
theorem qbgf(h:c.err=0)(h2:(c.at':Int)<c.l.length):qch c=c.l.getD c.at' T0:=by rw[qch,if_pos h,if_pos (by omega)]
theorem q6g(h:c.err=0)(h2:¬(c.at':Int)<c.l.length):qch c=⟨0,c.ep,0,[]⟩:=by rw[qch,if_pos h,if_neg (by omega)]
theorem qbb4(h:¬c.err=0):qco c=c:=if_neg h
theorem qyx(h:c.err=0)(h2:(c.at':Int)<c.l.length):qco c={ c with at':=c.at'+1 }:=by rw[qco,if_pos h,if_pos (by omega)]
theorem q4r(h:c.err=0)(h2:¬(c.at':Int)<c.l.length):qco c=c:=by rw[qco,if_pos h,if_neg (by omega)]
theorem qto{e:Int}(h:¬c.err=0):qj5 c e=c:=if_neg h
theorem qb6k(h:c.err=0):qj5 c 0={ c with err:=1,pos:=(qch c).pos }:=by rw[qj5,if_pos h,if_pos rfl]
theorem qbv3{e:Int}(h:c.err=0)(he:¬e=0):qj5 c e={ c with err:=e,pos:=(qch c).pos }:=by rw[qj5,if_pos h,if_neg he]
end
section
variable {c:K} {x:List UInt8}
theorem qb6y(h:isK c x=true):qkq c x=(qco c,true):=if_pos h
theorem qbui(h:isK c x=false):qkq c x=(c,false):=by rw[qkq,h];rfl
theorem qbrs(h:(qkq c x).2=true):qid c x=((qkq c x).1,true):=by
 unfold qkq qid at *
 split at h
 ·rename_i h1;rw[if_pos h1,if_pos h1]
 ·cases h
theorem qb5s(h:(qkq c x).2=false):qid c x=(qj5 (qkq c x).1 5,false):=by
 unfold qkq qid at *
 split at h
 ·cases h
 ·rename_i h1;rw[if_neg h1,if_neg h1]
theorem q4a(h:¬c.err=0):qu c=(c,false):=if_neg h
theorem q4p(h:c.err=0)(h2:¬(200:Int)≤c.nest):qu c=({ c with nest:=c.nest+1 },true):=by rw[qu,if_pos h,if_pos (by omega)]
theorem qxq(h:c.err=0)(h2:(200:Int)≤c.nest):qu c=(qj5 c 2,false):=by rw[qu,if_pos h,if_neg (by omega)]
theorem q2b(h:¬c.err=0):qfe c=c:=if_neg h
theorem q4j(h:c.err=0)(h2:(0:Int)<c.nest):qfe c={ c with nest:=c.nest-1 }:=by rw[qfe,if_pos h,if_pos (by omega)]
theorem qbj8(h:c.err=0)(h2:¬(0:Int)<c.nest):qfe c=c:=by rw[qfe,if_pos h,if_neg (by omega)]
theorem q61(h:¬c.err=0):qly c=(c.pos,c.err):=if_neg h
theorem qbix(h:c.err=0)(h2:(c.at':Int)<c.l.length):qly c=((c.l.getD c.at' T0).pos,5):=by rw[qly,if_pos h,if_pos (by omega)]
theorem q5j(h:c.err=0)(h2:¬(c.at':Int)<c.l.length):qly c=(c.ep,0):=by rw[qly,if_pos h,if_neg (by omega)]
end
theorem qbdu(c:K):qeo Tryz.prog 136 (curE c) (curE c) [.ptr 0 0] (encT (qch c)):=by
 refine qd c0dq 1 (by simp) (by simp) ?_
 repeat'(first|refine vs_ ?_|((first|refine vr_ ?_|refine qh1 ?_|simp (disch:=omega) only[qfw]|(refine cs_ ?_ ?_<;>intro hc)|refine cj_ ?_|simp (disch:=omega) only[qa,qc])<;>try refine ev_ ?_)|with_reducible exact ti_)
 ·rw[qba7 (qiv (by assumption))];rfl
 ·rw[qbgf (qhb (by assumption)) (by assumption)]
 ·rw[q6g (qhb (by assumption)) (by assumption)];rfl
section
variable {c:K} {L:List Ent} {Q:List Ent->VO->Prop} {rs:List AV} {Kk:Md->AV->List Ent->Prop}
theorem qnx(h:Q (curE c::L) (.val (encT (qch c)))):VApp Tryz.prog (curE c::L) (.fn 136 [] []) [.ptr 0 0] Q:=qcc (qbdu c) (qbh _ _) (qbh _ _) rfl rfl fun _=>h
end
def qjd(t:T)(ls:List (List UInt8)):Bool:=(decide (t.kind=4)||decide (t.kind=5))&&ls.contains t.text
theorem qbo7(t:T)(ls:List (List UInt8)):qp Tryz.prog 228 [encT t,.sl 1 (ls.map AV.str)] (.bool (qjd t ls)):=by
 refine qe c0dr (by simp) (by simp only[go_sem]) rfl fun hw=>?_
 have h1:ls.length≤maxLen:=by have:=hw.2.1.1;rwa [qmn] at this
 have loop:∀(Q:VE->AF->List Ent->Prop) (tm:List (Nat×AV)) (H:List Ent),qjd t ls=ls.contains t.text->H=[.blk [.int .i64 t.kind,.int .i64 t.pos,.int .i64 t.num,.str t.text]] →
  (get tm 2=.ptr 0 0∧get tm 15=.sl 1 (ls.map AV.str)∧get tm 16=.int .i64 ls.length∧get tm 17=.int .i64 0) →
  Q=blq 0 (sq Tryz.prog none 26 0 (k0dr_r11.seq IC.ret) (retq 0 [(RV.t 4,Co.id)] fun H' o=>o=VO.val (AV.bool (qjd t ls)))) →
  VI Tryz.prog none 26 0 k0dr_l4.loop Q ⟨tm,[]⟩ H:=by
  rintro Q tm H hwd rfl ⟨h2,h15,h16,h17⟩ rfl
  rw[hwd]
  refine qo (S:=Nat) (fun i=>i≤ls.length∧ls.contains t.text=(ls.drop i).contains t.text) (fun i=>(⟨[(2,.ptr 0 0),(15,.sl 1 (ls.map AV.str)),(16,.int .i64 ls.length),(17,.int .i64 i)],[]⟩,[.blk [.int .i64 t.kind,.int .i64 t.pos,.int .i64 t.num,.str t.text]])) (fun i=>ls.length-i) ?_ fun i hi=>?_
  ·refine qj 0 [0] ⟨Nat.zero_le _,rfl⟩ rfl (by simp) ?_ ?_ ?_<;>(try refine ev_ ?_)<;>(try with_reducible exact ti_)<;>(try simp (disch:=omega) only[qc,and_true,true_and])
   exact⟨h2,h15,h16,h17⟩
  ·obtain⟨hi,ha⟩:=hi
   repeat'(first|refine vs_ ?_|((first|refine vr_ ?_|simp (disch:=omega) only[qux]|(refine cs_ ?_ ?_<;>intro hc)|refine cj_ ?_|simp (disch:=omega) only[qa,qc])<;>try refine ev_ ?_)|with_reducible exact ti_)
   ·rw[ha,qi7 (i:=i) (by omega),List.contains_cons,hc];simp
   ·refine qj (i+1) [0] ⟨⟨by omega,?_⟩,by omega⟩ rfl (by simp) ?_ ?_ ?_<;>(try refine ev_ ?_)<;>(try with_reducible exact ti_)<;>(try simp (disch:=omega) only[qc,and_true,true_and])
    rw[ha,qi7 (i:=i) (by omega),List.contains_cons,beq_eq_false_iff_ne.2 hc,Bool.false_or]
   ·rw[ha,List.drop_of_length_le (by omega)];rfl
 repeat'(first|refine vs_ ?_|((first|refine vr_ ?_|(refine cs_ ?_ ?_<;>intro hc)|refine cj_ ?_|simp (disch:=omega) only[qa,qc])<;>try refine ev_ ?_)|with_reducible exact ti_)
 ·rw[show qjd t ls=false by simp[qjd, *]]
 ·exact loop _ _ _ (by simp[qjd, *]) rfl ⟨rfl,rfl,rfl,rfl⟩ rfl
 ·exact loop _ _ _ (by simp[qjd, *]) rfl ⟨rfl,rfl,rfl,rfl⟩ rfl
theorem qbcq(t:T)(x:List UInt8):qjd t [x]=qbbu t x:=by
 unfold qjd qbbu
 congr 1
 by_cases h:t.text=x
 ·simp[h]
 ·simp[h]
theorem qbpi(t:T)(x:List UInt8):qp Tryz.prog 228 [encT t,.sl 1 [.str x]] (.bool (qbbu t x)):=by
 rw[←qbcq];exact qbo7 t [x]
theorem qbgq(c:K)(hk:c.ok):qeo Tryz.prog 189 (curE c) (curE (qco c)) [.ptr 0 0] (encT (qch c)):=by
 refine qd c0ds 1 (by simp) (by simp) ?_
 have h1:=hk.1
 have h2:=hk.2
 repeat'(first|refine vs_ ?_|((first|refine vr_ ?_|refine qh1 ?_|refine qbih ?_|refine qnx ?_|simp (disch:=omega) only[qc]|(refine cs_ ?_ ?_<;>intro hc)|refine cj_ ?_|simp (disch:=omega) only[qa,qc])<;>try refine ev_ ?_)|with_reducible exact ti_)
 ·rw[qyx (qhb (by assumption)) (by assumption)]
 ·rw[q4r (qhb (by assumption)) (by assumption)]
 ·rw[qbb4 (qiv (by assumption))]
section
variable {c:K} {L:List Ent} {Q:List Ent->VO->Prop} {rs:List AV} {Kk:Md->AV->List Ent->Prop} {x:List UInt8} {e:Int}
theorem qzg(hk:c.ok)(h:Q (curE (qco c)::L) (.val (encT (qch c)))):VApp Tryz.prog (curE c::L) (.fn 189 [] []) [.ptr 0 0] Q:=qcc (qbgq c hk) (qbh _ _) (qbh _ _) rfl rfl fun _=>h
theorem qckc(c:K)(x:List UInt8):qeo Tryz.prog 190 (curE c) (curE c) [.ptr 0 0,.str x] (.bool (isK c x)):=by
 refine qd c0dt 1 (by simp) (by simp) ?_
 repeat'(first|refine vs_ ?_|((first|refine vr_ ?_|refine qh1 ?_|refine qnx ?_|refine qb (qbpi _ _) fun _=>?_|(refine cs_ ?_ ?_<;>intro hc)|refine cj_ ?_)<;>try refine ev_ ?_)|with_reducible exact ti_)
 ·rw[isK,decide_eq_true (qhb (by assumption))];rfl
 ·rw[isK,decide_eq_false (qiv (by assumption))];rfl
theorem a_Is(h:Q (curE c::L) (.val (.bool (isK c x)))):VApp Tryz.prog (curE c::L) (.fn 190 [] []) [.ptr 0 0,.str x] Q:=qcc (qckc c x) (qbh _ _) (qbh _ _) rfl rfl fun _=>h
theorem qbdf(c:K)(e:Int):qeo Tryz.prog 187 (curE c) (curE (qj5 c e)) [.ptr 0 0,.int .i64 e] (.bool false):=by
 refine qd c0du 1 (by simp) (by simp) ?_
 repeat'(first|refine vs_ ?_|((first|refine vr_ ?_|refine qh1 ?_|refine qnx ?_|(refine cs_ ?_ ?_<;>intro hc)|refine cj_ ?_)<;>try refine ev_ ?_)|with_reducible exact ti_)
 ·subst hc;rw[qb6k (qhb (by assumption))]
 ·rw[qbv3 (qhb (by assumption)) (by assumption)]
 ·rw[qto (qiv (by assumption))]
theorem q5r(h:Q (curE (qj5 c e)::L) (.val (.bool false))):VApp Tryz.prog (curE c::L) (.fn 187 [] []) [.ptr 0 0,.int .i64 e] Q:=qcc (qbdf c e) (qbh _ _) (qbh _ _) rfl rfl fun _=>h
theorem qbis(c:K)(hk:c.ok)(x:List UInt8):qeo Tryz.prog 229 (curE c) (curE (qkq c x).1) [.ptr 0 0,.str x] (.bool (qkq c x).2):=by
 refine qd c0dv 1 (by simp) (by simp) ?_
 repeat'(first|refine vs_ ?_|((first|refine vr_ ?_|refine a_Is ?_|refine qzg hk ?_|(refine cs_ ?_ ?_<;>intro hc)|refine cj_ ?_)<;>try refine ev_ ?_)|with_reducible exact ti_)
 ·rw[qbui (by assumption)];exact⟨rfl,rfl⟩
 ·rw[qb6y (by assumption)];exact⟨rfl,rfl⟩
theorem qcd7(hk:c.ok)(h:Q (curE (qkq c x).1::L) (.val (.bool (qkq c x).2))):VApp Tryz.prog (curE c::L) (.fn 229 [] []) [.ptr 0 0,.str x] Q:=qcc (qbis c hk x) (qbh _ _) (qbh _ _) rfl rfl fun _=>h
theorem qbin(c:K)(hk:c.ok)(x:List UInt8):qeo Tryz.prog 191 (curE c) (curE (qid c x).1) [.ptr 0 0,.str x] (.bool (qid c x).2):=by
 refine qd c0dw 1 (by simp) (by simp) ?_
 repeat'(first|refine vs_ ?_|((first|refine vr_ ?_|refine qcd7 hk ?_|refine q5r ?_|(refine cs_ ?_ ?_<;>intro hc)|refine cj_ ?_)<;>try refine ev_ ?_)|with_reducible exact ti_)
 ·rw[qbrs (by assumption)];exact⟨rfl,rfl⟩
 ·rw[qb5s (by assumption)];exact⟨rfl,rfl⟩
theorem qch6(hk:c.ok)(h:Q (curE (qid c x).1::L) (.val (.bool (qid c x).2))):VApp Tryz.prog (curE c::L) (.fn 191 [] []) [.ptr 0 0,.str x] Q:=qcc (qbin c hk x) (qbh _ _) (qbh _ _) rfl rfl fun _=>h
theorem qbax(c:K):qeo Tryz.prog 135 (curE c) (curE (qu c).1) [.ptr 0 0] (.bool (qu c).2):=by
 refine qd c0dx 1 (by simp) (by simp) ?_
 repeat'(first|refine vs_ ?_|((first|refine vr_ ?_|refine qh1 ?_|refine q5r ?_|(refine cs_ ?_ ?_<;>intro hc)|refine cj_ ?_|simp (disch:=omega) only[qa,qc])<;>try refine ev_ ?_)|with_reducible exact ti_)
 ·rw[q4a (qiv (by assumption)),qto (qiv (by assumption))];exact⟨rfl,rfl⟩
 ·rw[qxq (qhb (by assumption)) (by assumption)];exact⟨rfl,rfl⟩
 ·rw[q4p (qhb (by assumption)) (by assumption),qfk (by omega) (by unfold maxLen;omega)];exact⟨rfl,rfl⟩
theorem qsi(h:Q (curE (qu c).1::L) (.val (.bool (qu c).2))):VApp Tryz.prog (curE c::L) (.fn 135 [] []) [.ptr 0 0] Q:=qcc (qbax c) (qbh _ _) (qbh _ _) rfl rfl fun _=>h
theorem q4i(c:K)(hn:c.nest≤200):qeo Tryz.prog 139 (curE c) (curE (qfe c)) [.ptr 0 0] (.tup []):=by
 refine qd c0dy 1 (by simp) (by simp) ?_
 repeat'(first|refine vs_ ?_|((first|refine vr_ ?_|refine qh1 ?_|(refine cs_ ?_ ?_<;>intro hc)|refine cj_ ?_)<;>try refine ev_ ?_)|with_reducible exact ti_)
 ·rw[q4j (qhb (by assumption)) (by assumption),qfk (by omega) (by unfold maxLen;omega)]
  simp only[List.cons.injEq,Ent.blk.injEq,AV.int.injEq,true_and,and_true];omega
 ·rw[qbj8 (qhb (by assumption)) (by assumption)]
 ·rw[q2b (qiv (by assumption))]
theorem qmy(hn:c.nest≤200)(h:Q (curE (qfe c)::L) (.val (.tup []))):VApp Tryz.prog (curE c::L) (.fn 139 [] []) [.ptr 0 0] Q:=qcc (q4i c hn) (qbh _ _) (qbh _ _) rfl rfl fun _=>h
theorem qbkp(c:K)(hk:c.ok):qeo Tryz.prog 92 (curE c) (curE c) [.ptr 0 0] (.tup [.int .i64 (qly c).1,.int .i64 (qly c).2]):=by
 refine qd c0dz 1 (by simp) (by simp) ?_
 repeat'(first|refine vs_ ?_|((first|refine vr_ ?_|simp (disch:=omega) only[qfw]|(refine cs_ ?_ ?_<;>intro hc)|refine cj_ ?_|simp (disch:=omega) only[qa,qc])<;>try refine ev_ ?_)|with_reducible exact ti_)
 ·rw[q61 (by assumption)]
 ·rw[qbix (by assumption) (by assumption)]
 ·rw[q5j (by assumption) (by assumption)]
end
set_option maxRecDepth 4000

def refC(c:K):AV:=.agg [.sl 4 (encTs (c.l.drop c.at')),.int .i64 0,.int .i64 c.ep,.int .i64 0,.str [],.int .i64 c.nest,.int .i64 c.err,.int .i64 c.pos]
attribute [go_sem] refC
def qie:List T->List T
 | []=>[]
 | t::r=>if t.kind=0 then [] else t::qie r
def endT:List T->Int
 | []=>0
 | t::r=>if t.kind=0 then t.pos else endT r
def newK(l:List T):K:=⟨qie l,endT l,0,0,0,0⟩
theorem qko:∀l:List T,(qie l).length≤l.length
 | []=>Nat.le_refl _
 | t :: r => by
   rw[qie]
   split
   ·exact Nat.zero_le _
   ·have:=qko r;simp only[List.length_cons];omega
theorem q75{l:List T}{i:Nat}(h1:∀t∈l.take i,t.kind≠0)(h:i<l.length)(h2:(l.getD i T0).kind=0):qie l=l.take i∧endT l=(l.getD i T0).pos:=by
 induction l generalizing i with
 | nil=>simp at h
 | cons t r ih =>
   cases i with
   | zero=>simp only[List.getD_cons_zero] at h2 ⊢;rw[qie,endT,if_pos h2,if_pos h2];exact⟨rfl,rfl⟩
   | succ i =>
     have ht:=h1 t (by simp)
     obtain⟨g1,g2⟩:=ih (fun u hu=>h1 u (List.mem_cons_of_mem t hu)) (by simpa using h) (by simpa using h2)
     rw[qie,endT,if_neg ht,if_neg ht,g1,g2]
     exact⟨rfl,rfl⟩
theorem qbab{l:List T}(h1:∀t∈l,t.kind≠0):qie l=l∧endT l=0:=by
 induction l with
 | nil=>exact⟨rfl,rfl⟩
 | cons t r ih =>
   obtain⟨g1,g2⟩:=ih fun u hu=>h1 u (by simp[hu])
   rw[qie,endT,if_neg (h1 t (by simp)),if_neg (h1 t (by simp)),g1,g2]
   exact⟨rfl,rfl⟩
theorem qj3{a:List T}{i:Nat}(h:i<a.length){p:T->Prop}(h1:∀t∈a.take i,p t)(h2:p (a.getD i T0)):∀t∈a.take (i+1),p t:=by
 intro t ht
 rw[List.take_add_one,List.getElem?_eq_getElem h] at ht
 rcases List.mem_append.1 ht with ht | ht
 ·exact h1 t ht
 ·simp only[Option.toList_some,List.mem_singleton] at ht
  subst ht
  rwa [List.getD_eq_getElem?_getD,List.getElem?_eq_getElem h] at h2
theorem qchh(x:Ent)(es:List AV):co (x::accE 4 es) (.sl 4) (accV 1 es)=.sl 4 es:=by
 cases es with
 | nil=>rw[qi,qdu]
 | cons e es =>
   rw[qm (by simp),qul,qn (by simp)]
   simp only[ent,q8t,if_true]
def q93(l:List T)(i:Nat):AF×List Ent :=
 (⟨[(3, .ptr 0 0), (8, .sl 4 (encTs l)), (9, .int .i64 l.length), (10, .int .i64 i)], []⟩,
   .blk [accV 1 (encTs (l.take i)),.int .i64 0,.int .i64 0,.int .i64 0,.str [],.int .i64 0,.int .i64 0,.int .i64 0,.int .i64 0]::accE 4 (encTs (l.take i)))
theorem quy{l:List T}(h:l≠[]):encTs l≠[]:=by cases l with | nil=>exact absurd rfl h | cons _ _=>simp[encTs]
theorem q3x{l:List T}{i:Nat}(h:i<l.length):l.take (i+1)=l.take i++[l.getD i T0]:=by
 rw[List.take_add_one,List.getElem?_eq_getElem h,List.getD_eq_getElem?_getD,List.getElem?_eq_getElem h];rfl
theorem capT{n:Nat}(h:n≤1048580):qbe n 40:=by unfold qbe;omega
theorem qbkk(l:List T)(hl:l.length≤1048577):VCalls Tryz.prog 90 [] [.sl 4 (encTs l)] fun H' o=>H'=[curE (newK l)]∧o=.val (.ptr 0 0):=by
 refine qd c0do 1 (by simp) (by simp) ?_
 have hmx:(1048577:Nat)≤maxLen:=by unfold maxLen;omega
 repeat'(first|refine vs_ ?_|((first|refine vr_ ?_|(refine cs_ ?_ ?_<;>intro hc)|refine cj_ ?_|simp (disch:=omega) only[qa,qc])<;>try refine ev_ ?_)|with_reducible exact ti_)
 refine qo (S:=Nat) (fun i=>i≤l.length∧∀t∈l.take i,t.kind≠0) (q93 l) (fun i=>l.length-i) ?_ fun i hi=>?_
 ·refine qj 0 [0] ⟨Nat.zero_le _,by simp⟩ rfl (by simp) ?_ ?_ ?_<;>simp only[q93,List.take_zero,qtd,qi,qk]<;>(try refine ev_ ?_)<;>(try with_reducible exact ti_)<;>(try simp (disch:=omega) only[qc,and_true,true_and])
 ·obtain⟨hi,ha⟩:=hi
  unfold q93
  by_cases hx:i<l.length∧(l.getD i T0).kind≠0
  ·have hT:AV.agg [.int .i64 (l.getD i T0).kind,.int .i64 (l.getD i T0).pos,.int .i64 (l.getD i T0).num,.str (l.getD i T0).text]=encT (l.getD i T0):=rfl
   have hts:=q3x hx.1
   have hne:encTs (l.take (i+1))≠[]:=quy (by rw[hts];simp)
   have hlen:(l.take (i+1)).length=i+1:=by rw[List.length_take];omega
   by_cases h0:i=0
   ·subst h0
    simp only[List.take_zero,qtd,qi,qk]
    repeat'(first|refine vs_ ?_|((first|refine vr_ ?_|simp (disch:=omega) only[qfw]|(refine cs_ ?_ ?_<;>intro hc)|refine cj_ ?_|simp (disch:=omega) only[qa,qc])<;>try refine ev_ ?_)|with_reducible exact ti_)
    ·exact absurd (by assumption) hx.2
    ·refine qj 1 [0,2] ⟨⟨by omega,qj3 (by omega) ha hx.2⟩,by omega⟩ rfl (by simp) ?_ ?_ ?_
     all_goals simp only[q93,qm hne,qn hne,qft,hlen]
     all_goals(try simp only[Nat.zero_add] at hts)
     all_goals simp only[hts,List.take_zero,List.nil_append]
     all_goals(refine ev_ ?_;(try with_reducible exact ti_))
     all_goals first | exact⟨rfl,rfl⟩ | exact congrArg _ (by decide) | rfl
    ·omega
   ·have hne0:encTs (l.take i)≠[]:=quy (by intro e;have:=congrArg List.length e;simp only[List.length_take,List.length_nil] at this;omega)
    have hli:(l.take i).length=i:=by rw[List.length_take];omega
    simp only[qm hne0,qn hne0,qft]
    have hat:∀ac:List T,ac=l.take i->encTs ac++[encT (l.getD i T0)]=encTs (l.take (i+1)):=fun ac e=>by rw[e,qny,hts]
    generalize hac:l.take i=ac at *
    have hcap:qbe (ac.length+1) 40:=capT (by omega)
    have hil:(i:Int)<l.length:=by omega
    have hkd:=hx.2
    repeat'(first|refine vs_ ?_|(refine vr_ ?_<;>try simp (disch:=first|omega|(simp only[List.length_set,List.length_append,List.length_cons,List.length_nil];try omega)) only[hil,hkd,qfw,ne_eq,go_sem,↓reduceIte])|((first|(refine cs_ ?_ ?_<;>intro hc)|refine cj_ ?_|simp (disch:=omega) only[qa,qc])<;>try refine ev_ ?_)|with_reducible exact ti_)
    ·refine qj (i+1) [0,3] ⟨⟨by omega,qj3 (by omega) (by rw[hac];exact ha) hx.2⟩,by omega⟩ rfl (by simp) ?_ ?_ ?_
     all_goals simp only[q93,qm hne,qn hne,qft,hlen]
     all_goals rw[←hat ac rfl]
     all_goals(skip<;>(try refine ev_ ?_)<;>(try with_reducible exact ti_)<;>(try simp (disch:=omega) only[qc,and_true,true_and]))
     rw[hli,qny ac,encTs_ren]
     exact⟨rfl,encTs_bd _ _,rfl⟩
  ·refine qdy 0 0 (.sl 4) rfl ?_
   simp only[List.set_cons_zero,List.getD_cons_zero,qchh]
   repeat'(first|refine vs_ ?_|((first|refine vr_ ?_|simp (disch:=omega) only[qfw]|(refine cs_ ?_ ?_<;>intro hc)|refine cj_ ?_|simp (disch:=omega) only[qa,qc])<;>try refine ev_ ?_)|with_reducible exact ti_)
   ·obtain⟨g1,g2⟩:=q75 ha (by omega) (by assumption)
    rw[newK,g1,g2];rfl
   ·exact hx ⟨by omega,by assumption⟩
   ·rw[List.take_of_length_le (by omega)] at ha ⊢
    obtain⟨g1,g2⟩:=qbab ha
    rw[newK,g1,g2];rfl
end Go.Proofs.YtkenggenkmfopaaGreat
