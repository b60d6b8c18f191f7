/- Texts of this proof, joined. -/
import Derived.Test.YtkenggenkmfopaaGreatFbs
import Derived.Test.YtkenggenkmfopaaGreatFbt
import Derived.Test.YtkenggenkmfopaaGreatFbm
set_option linter.unusedVariables false
set_option linter.unusedSimpArgs false

/- the deeds of both states: what stays -/
namespace Go.Proofs.YtkenggenkmfopaaGreat
open Go Go.RowKit Go.V

section
variable {V:List Int} {n:Nat} {S:SS} {R:RS}
theorem qcke(h:J37 V n S R):J37 V (n+1) (varS S) (varR R)∧Nxt S (varS S):=by
 have h:=h.up
 exact⟨⟨h.inv,h.kn,h.er,h.wt,h.wtR,h.fx,h.nm,h.fl,h.flR,h.fln⟩,Nxt.same rfl fun _=>⟨rfl,rfl⟩⟩
theorem qcgf(hn:n≤1000000)(h:J37 V n S R):J37 V (n+1) (fixS S) (fixR R)∧Nxt S (fixS S):=by
 have f:=h.fx
 have h:=h.up
 refine⟨⟨h.inv,h.kn,h.er,h.wt,h.wtR,?_,h.nm,h.fl,h.flR,h.fln⟩,Nxt.same rfl fun _=>⟨rfl,rfl⟩⟩
 show 0≤IntKind.i64.wrap (R.fixed+1)∧IntKind.i64.wrap (R.fixed+1)≤((n+1:Nat):Int)
 rw[qo (by omega) (by omega)]
 omega
theorem qbk4(hn:n≤1000000)(h:J37 V n S R):J37 V (n+1) (q44 S) (qb40 R)∧Nxt S (q44 S):=by
 have f:=h.nm
 have h:=h.up
 refine⟨⟨h.inv,h.kn,h.er,h.wt,h.wtR,h.fx,?_,h.fl,h.flR,h.fln⟩,Nxt.same rfl fun _=>⟨rfl,rfl⟩⟩
 show 0≤IntKind.i64.wrap (R.names+1)∧IntKind.i64.wrap (R.names+1)≤((n+1:Nat):Int)
 rw[qo (by omega) (by omega)]
 omega
theorem qxk(h:J37 V n S R)(e pos:Int):J37 V (n+1) (qmb S e pos) (qu1 R e pos)∧Nxt S (qmb S e pos):=by
 have h:=h.up
 unfold qmb qu1
 rw[h.er]
 by_cases h0:S.err=0
 ·rw[if_pos h0,if_pos h0]
  exact⟨⟨h.inv,h.kn,rfl,h.wt,h.wtR,h.fx,h.nm,h.fl,h.flR,h.fln⟩,Nxt.same rfl fun he=>absurd h0 he⟩
 ·rw[if_neg h0,if_neg h0]
  exact⟨h,Nxt.same rfl fun _=>⟨rfl,rfl⟩⟩
theorem qbgz(e pos:Int):(qmb S e pos).err≠0:=by
 unfold qmb
 by_cases h0:S.err=0
 ·rw[if_pos h0]
  by_cases he:e=0
  ·rw[if_pos he];exact(by decide:(1:Int)≠0)
  ·rw[if_neg he];exact he
 ·rw[if_neg h0];exact h0
theorem qcng(h:J37 V n S R){a b:Ty}(ha:∀w,w∈varY a->w∈V)(hb:∀w,w∈varY b->w∈V){q:List Pr×Int}(hq:WitQ S.known a b q)(pos:Int):J37 V (n+1) (uniS S q pos).2 (uniR R q pos).2∧Nxt S (uniS S q pos).2:=by
 have hu:=h.up
 unfold uniS uniR
 rw[h.er]
 by_cases h0:S.err=0
 ·rw[if_pos h0,if_pos h0]
  by_cases h1:q.2=0
  ·rw[if_pos h1,if_pos h1]
   obtain⟨k1,k2,k3,k4,k5⟩:=q2d h.inv ha hb hq h1
   exact⟨⟨k1,rfl,rfl,hu.wt,hu.wtR,hu.fx,hu.nm,hu.fl,hu.flR,hu.fln⟩,⟨fun x y hx hy hxy=>k2 x y hx hy hxy,fun he=>absurd h0 he⟩⟩
  ·rw[if_neg h1,if_neg h1]
   exact qxk h _ _
 ·rw[if_neg h0,if_neg h0]
  exact⟨hu,Nxt.same rfl fun _=>⟨rfl,rfl⟩⟩
theorem qbk2(h:J37 V n S R)(p:Pd)(pos:Int):J37 V (n+1) (qv4 S p pos) (q1j R p pos)∧Nxt S (qv4 S p pos):=by
 have h1:=h.wt
 have h2:=h.wtR
 have h:=h.up
 refine⟨⟨h.inv,h.kn,h.er,?_,?_,h.fx,h.nm,h.fl,h.flR,h.fln⟩,Nxt.same rfl fun _=>⟨rfl,rfl⟩⟩
 ·show(S.waits++[_]).length≤_
  rw[List.length_append];exact Nat.add_le_add_right h1 1
 ·show(R.waits++[_]).length≤_
  rw[List.length_append];exact Nat.add_le_add_right h2 1
theorem qcl5(h:J37 V n S R):J37 V (n+1) (useS S) (useR R)∧Nxt S (useS S):=by
 have h:=h.up
 exact⟨⟨h.inv,h.kn,h.er,h.wt,h.wtR,h.fx,h.nm,h.fl,h.flR,h.fln⟩,Nxt.same rfl fun _=>⟨rfl,rfl⟩⟩
theorem qciv(h:J37 V n S R)(k:Int):J37 V (n+1) (forS S k) (forR R k)∧Nxt S (forS S k):=by
 have h:=h.up
 refine⟨⟨h.inv,h.kn,h.er,?_,?_,h.fx,h.nm,h.fl,h.flR,h.fln⟩,Nxt.same rfl fun _=>⟨rfl,rfl⟩⟩
 ·show(S.waits.take _).length≤_
  rw[List.length_take];have:=h.wt;omega
 ·show(R.waits.take _).length≤_
  rw[List.length_take];have:=h.wtR;omega
theorem qze(hF:qkb S.fills){k:Int}{t:Tm}(hz:szTm t≤3000)(hs:smK t):qkb (qh1 S k t).2.fills:=by
 unfold qh1
 by_cases h1:k<0
 ·rw[if_pos h1];exact hF
 rw[if_neg h1]
 by_cases h2:S.holes≤k
 ·rw[if_pos h2];exact hF
 rw[if_neg h2]
 cases hl:lglT t with
 | false=>rw[if_pos rfl];exact hF
 | true =>
   rw[if_neg (by simp)]
   by_cases h3:lstT t (IntKind.i64.wrap (k+1))≤k
   ·rw[if_pos h3];exact hF
   rw[if_neg h3]
   by_cases h4:valG S.free k 0=0
   ·rw[if_pos h4];exact hF
   rw[if_neg h4]
   intro p hp
   rcases qbf8 hp with hp | rfl
   ·exact hF p hp
   ·unfold lglT at hl
    rw[Bool.and_eq_true] at hl
    exact⟨⟨hz,hs⟩,q54 _ _ hl.2,fun w hw=>by have:=(qvy t (IntKind.i64.wrap (k+1))).2 w hw;show k<w;omega⟩
theorem q1p(S:SS)(k:Int)(t:Tm):(qh1 S k t).2.known=S.known∧(qh1 S k t).2.err=S.err∧(qh1 S k t).2.pos=S.pos∧(qh1 S k t).2.waits=S.waits:=by
 unfold qh1
 split
 ·exact⟨rfl,rfl,rfl,rfl⟩
 split
 ·exact⟨rfl,rfl,rfl,rfl⟩
 split
 ·exact⟨rfl,rfl,rfl,rfl⟩
 split
 ·exact⟨rfl,rfl,rfl,rfl⟩
 split
 ·exact⟨rfl,rfl,rfl,rfl⟩
 ·exact⟨rfl,rfl,rfl,rfl⟩
theorem qtm(R:RS)(k:Int)(t:Tm):(qgw R k t).2=R∨((qgw R k t).2={ R with fills:=R.fills++[(k,t)] }∧lowH k (holT t)=false):=by
 unfold qgw
 split
 ·exact .inl rfl
 split
 ·exact .inl rfl
 split
 ·exact .inl rfl
 split
 ·exact .inl rfl
 rename_i hlo
 cases filG R.fills k with
 | some u=>exact .inl rfl
 | none=>exact .inr ⟨rfl,by simpa using hlo⟩
theorem qbkw(h:J37 V n S R)(k:Int){t:Tm}(hz:szTm t≤3000)(hs:smK t):J37 V (n+1) (qh1 S k t).2 (qgw R k t).2∧Nxt S (qh1 S k t).2:=by
 obtain⟨e1,e2,e3,e4⟩:=q1p S k t
 have f:=h.fln
 have hu:=h.up
 refine⟨?_,Nxt.same e1 fun _=>⟨e2,e3⟩⟩
 rcases qtm R k t with hr | ⟨hr,hlo⟩
 ·rw[hr]
  exact⟨by rw[e1];exact h.inv,by rw[e1];exact h.kn,by rw[e2];exact h.er,by rw[e4];exact hu.wt,hu.wtR,hu.fx,hu.nm,qze h.fl hz hs,h.flR,hu.fln⟩
 ·rw[hr]
  refine⟨by rw[e1];exact h.inv,by rw[e1];exact h.kn,by rw[e2];exact h.er,by rw[e4];exact hu.wt,hu.wtR,hu.fx,hu.nm,qze h.fl hz hs,fun p hp=>?_,?_⟩
  ·rcases List.mem_append.1 hp with hp | hp
   ·exact h.flR p hp
   ·rw[List.mem_singleton] at hp
    subst hp
    refine⟨⟨hz,hs⟩,fun w hw=>?_⟩
    rw[lowH,List.any_eq_false] at hlo
    have:=hlo w hw
    rw[decide_eq_true_eq] at this
    show k<w
    omega
  ·show(R.fills++[(k,t)]).length≤n+1
   rw[List.length_append]
   exact Nat.add_le_add_right f 1
end
set_option maxRecDepth 4000

abbrev doF:FuncId:=14
abbrev DoQ(S S':SS)(R R':RS)(d:Dd):Prop:=∃c:Bool,VM Tryz.prog doF (stE S) (stE S') [.ptr 0 0,qbx R,encD d] (.tup [qbx R',.bool c])
theorem qbg8(t:Ty):AV.bd 0 (encY t)=true:=qx 0 t
section
variable {S:SS} {R:RS} {n pos:Int} {cl:List UInt8} {a b:Ty} {t:Tm}
theorem do_0:DoQ S (varS S) R (varR R) ⟨0,n,pos,cl,a,b,t⟩:=by
 refine⟨qn1 (.mk [] (IntKind.i64.wrap (0-IntKind.i64.wrap (S.vars+1))) []) (.mk [] (IntKind.i64.wrap (0-IntKind.i64.wrap (R.vars+1))) []),?_⟩
 refine qe c0es 1 (by simp) (by simp) ?_
 have h1:=q8d R
 have h2:=q8x S
 repeat'(first|refine vs_ ?_|(refine vr_ ?_<;>try simp only[Int.reduceEq,decide_true,decide_false,Bool.false_eq_true,go_sem,↓reduceIte])|((first|(refine cs_ ?_ ?_<;>intro hc)|refine cj_ ?_|fail|refine qa h1 fun _=>?_|refine qcc 0 h2 rfl (qbg8 _) ?_|refine qa (qdv _ _) fun _=>?_|refine qc h1 ?_|refine qc (qdv _ _) ?_)<;>try refine ev_ ?_)|with_reducible exact ti_)
 all_goals rfl
theorem do_1(hb:(Lit.int .i64 R.fixed).wf=true):DoQ S (fixS S) R (fixR R) ⟨1,n,pos,cl,a,b,t⟩:=by
 refine⟨qn1 (.mk (33::digI (IntKind.i64.wrap (IntKind.i64.wrap (S.fixed+1)-1))) 0 []) (.mk (33::digI R.fixed) 0 []),?_⟩
 refine qe c0es 1 (by simp) (by simp) ?_
 have h1:=q7a hb
 have h2:=qblt S
 repeat'(first|refine vs_ ?_|(refine vr_ ?_<;>try simp only[Int.reduceEq,decide_true,decide_false,Bool.false_eq_true,go_sem,↓reduceIte])|((first|(refine cs_ ?_ ?_<;>intro hc)|refine cj_ ?_|fail|refine qa h1 fun _=>?_|refine qcc 0 h2 rfl (qbg8 _) ?_|refine qa (qdv _ _) fun _=>?_|refine qc h1 ?_|refine qc (qdv _ _) ?_)<;>try refine ev_ ?_)|with_reducible exact ti_)
 all_goals rfl
theorem do_2(hb:(Lit.int .i64 R.names).wf=true):DoQ S (q44 S) R (qb40 R) ⟨2,n,pos,cl,a,b,t⟩:=by
 refine⟨decide (35::digI (IntKind.i64.wrap (IntKind.i64.wrap (S.names+1)-1))=35::digI R.names),?_⟩
 refine qe c0es 1 (by simp) (by simp) ?_
 have h1:=q0y hb
 have h2:=qu6 S
 generalize 35::digI (IntKind.i64.wrap (IntKind.i64.wrap (S.names+1)-1))=x at *
 generalize 35::digI R.names=y at *
 repeat'(first|refine vs_ ?_|(refine vr_ ?_<;>try simp only[Int.reduceEq,decide_true,decide_false,Bool.false_eq_true,go_sem,↓reduceIte])|((first|(refine cs_ ?_ ?_<;>intro hc)|refine cj_ ?_|fail|refine qa h1 fun _=>?_|refine qcc 0 h2 rfl rfl ?_|refine qc h1 ?_)<;>try refine ev_ ?_)|with_reducible exact ti_)
 all_goals rfl
theorem do_3{q:List Pr×Int}(h1:qj Tryz.prog 13 [qbx R,encY a,encY b,.int .i64 pos] (.tup [qbx (uniR R q pos).2,.bool (uniR R q pos).1]))(h2:VM Tryz.prog 12 (stE S) (stE (uniS S q pos).2) [.ptr 0 0,encY a,encY b,.int .i64 pos] (.bool (uniS S q pos).1)):DoQ S (uniS S q pos).2 R (uniR R q pos).2 ⟨3,n,pos,cl,a,b,t⟩:=by
 refine⟨(uniS S q pos).1 == (uniR R q pos).1,?_⟩
 refine qe c0es 1 (by simp) (by simp) ?_
 generalize (uniS S q pos).1=x at *
 generalize (uniR R q pos).1=y at *
 generalize (uniS S q pos).2=S' at *
 generalize (uniR R q pos).2=R' at *
 have haf:AV.agg [.str a.con,.int .i64 a.var,.sl 3 (qf a.args)]=encY a:=qbd _
 have hbf:AV.agg [.str b.con,.int .i64 b.var,.sl 3 (qf b.args)]=encY b:=qbd _
 repeat'(first|refine vs_ ?_|(refine vr_ ?_<;>try simp only[Int.reduceEq,decide_true,decide_false,Bool.false_eq_true,haf,hbf,go_sem,↓reduceIte])|((first|(refine cs_ ?_ ?_<;>intro hc)|refine cj_ ?_|fail|refine qa h1 fun _=>?_|refine qcc 0 h2 (by simp only[AV.bds,AV.bd,qx];rfl) rfl ?_|refine qc h1 ?_)<;>try refine ev_ ?_)|with_reducible exact ti_)
 all_goals rfl
theorem do_4:DoQ S (qmb S n pos) R (qu1 R n pos) ⟨4,n,pos,cl,a,b,t⟩:=by
 refine⟨true,?_⟩
 refine qe c0es 1 (by simp) (by simp) ?_
 have h1:=qkn R n pos
 have h2:=qvd S n pos
 generalize qmb S n pos=S' at *
 generalize qu1 R n pos=R' at *
 repeat'(first|refine vs_ ?_|(refine vr_ ?_<;>try simp only[Int.reduceEq,decide_true,decide_false,Bool.false_eq_true,go_sem,↓reduceIte])|((first|(refine cs_ ?_ ?_<;>intro hc)|refine cj_ ?_|fail|refine qa h1 fun _=>?_|refine qcc 0 h2 rfl rfl ?_|refine qc h1 ?_)<;>try refine ev_ ?_)|with_reducible exact ti_)
 all_goals rfl
theorem do_5(hS:S.waits.length≤1000000)(hR:R.waits.length≤1000000):DoQ S (qv4 S ⟨cl,a⟩ pos) R (q1j R ⟨cl,a⟩ pos) ⟨5,n,pos,cl,a,b,t⟩:=by
 refine⟨decide (useH S=qqm R),?_⟩
 refine qe c0es 1 (by simp) (by simp) ?_
 have h1:=q1o (p:=⟨cl,a⟩) (pos:=pos) hR
 have h2:=q3s ⟨cl,a⟩ pos hS
 generalize qv4 S ⟨cl,a⟩ pos=S' at *
 generalize q1j R ⟨cl,a⟩ pos=R' at *
 generalize useH S=x at *
 generalize qqm R=y at *
 have hpf:AV.agg [.str cl,.str a.con,.int .i64 a.var,.sl 3 (qf a.args)]=encP ⟨cl,a⟩:=rfl
 have haf:AV.agg [.str a.con,.int .i64 a.var,.sl 3 (qf a.args)]=encY a:=qbd _
 repeat'(first|refine vs_ ?_|(refine vr_ ?_<;>try simp only[Int.reduceEq,decide_true,decide_false,Bool.false_eq_true,haf,hpf,go_sem,↓reduceIte])|((first|(refine cs_ ?_ ?_<;>intro hc)|refine cj_ ?_|fail|refine qa h1 fun _=>?_|refine qcc 0 h2 (by simp only[AV.bds,AV.bd,qp7];rfl) rfl ?_|refine qc h1 ?_)<;>try refine ev_ ?_)|with_reducible exact ti_)
 all_goals rfl
theorem do_6:DoQ S (useS S) R (useR R) ⟨6,n,pos,cl,a,b,t⟩:=by
 refine⟨decide (useH S=qqm R),?_⟩
 refine qe c0es 1 (by simp) (by simp) ?_
 have h1:=qry R
 have h2:=q8h S
 generalize useS S=S' at *
 generalize useR R=R' at *
 generalize useH S=x at *
 generalize qqm R=y at *
 repeat'(first|refine vs_ ?_|(refine vr_ ?_<;>try simp only[Int.reduceEq,decide_true,decide_false,Bool.false_eq_true,go_sem,↓reduceIte])|((first|(refine cs_ ?_ ?_<;>intro hc)|refine cj_ ?_|fail|refine qa h1 fun _=>?_|refine qcc 0 h2 rfl rfl ?_|refine qc h1 ?_)<;>try refine ev_ ?_)|with_reducible exact ti_)
 all_goals rfl
theorem do_7(hS:S.waits.length≤maxLen):DoQ S (forS S n) R (forR R n) ⟨7,n,pos,cl,a,b,t⟩:=by
 refine⟨true,?_⟩
 refine qe c0es 1 (by simp) (by simp) ?_
 have h1:=qux (R:=R) (n:=n)
 have h2:=q6d (S:=S) (n:=n) hS
 generalize forS S n=S' at *
 generalize forR R n=R' at *
 repeat'(first|refine vs_ ?_|(refine vr_ ?_<;>try simp only[Int.reduceEq,decide_true,decide_false,Bool.false_eq_true,go_sem,↓reduceIte])|((first|(refine cs_ ?_ ?_<;>intro hc)|refine cj_ ?_|fail|refine qa h1 fun _=>?_|refine qca 0 h2 ?_|refine qc h1 ?_)<;>try refine ev_ ?_)|with_reducible exact ti_)
 all_goals rfl
theorem do_8(hn:R.fills.length≤1000000)(hz:szTm t≤3000)(hs:smK t):DoQ S (qh1 S n t).2 R (qgw R n t).2 ⟨8,n,pos,cl,a,b,t⟩:=by
 refine⟨decide ((qh1 S n t).1=(qgw R n t).1),?_⟩
 refine qe c0es 1 (by simp) (by simp) ?_
 have h1:=q0h (h:=n) hn hz hs
 have h2:=qqn S n t
 generalize (qh1 S n t).1=x at *
 generalize (qgw R n t).1=y at *
 generalize (qh1 S n t).2=S' at *
 generalize (qgw R n t).2=R' at *
 have htf:AV.agg [.int .i64 t.kind,.int .i64 t.num,.str t.name,.sl 1 (ints t.vars),.sl 3 (qf t.types),.sl 6 (qbl t.kids)]=encT t:=qcf _
 repeat'(first|refine vs_ ?_|(refine vr_ ?_<;>try simp only[Int.reduceEq,decide_true,decide_false,Bool.false_eq_true,htf,go_sem,↓reduceIte])|((first|(refine cs_ ?_ ?_<;>intro hc)|refine cj_ ?_|fail|refine qa h1 fun _=>?_|refine qcc 0 h2 (by simp only[AV.bds,AV.bd,qb4];rfl) rfl ?_|refine qc h1 ?_)<;>try refine ev_ ?_)|with_reducible exact ti_)
 all_goals rfl
theorem do_9{u v:Tm}(h1:qj Tryz.prog 49 [qbx R,encT t] (encT u))(h2:VM Tryz.prog 30 (stE S) (stE S) [.ptr 0 0,encT t] (encT v)):DoQ S S R R ⟨9,n,pos,cl,a,b,t⟩:=by
 refine⟨qot v u,?_⟩
 refine qe c0es 1 (by simp) (by simp) ?_
 have htf:AV.agg [.int .i64 t.kind,.int .i64 t.num,.str t.name,.sl 1 (ints t.vars),.sl 3 (qf t.types),.sl 6 (qbl t.kids)]=encT t:=qcf _
 repeat'(first|refine vs_ ?_|(refine vr_ ?_<;>try simp only[Int.reduceEq,decide_true,decide_false,Bool.false_eq_true,htf,go_sem,↓reduceIte])|((first|(refine cs_ ?_ ?_<;>intro hc)|refine cj_ ?_|fail|refine qa h1 fun _=>?_|refine qcc 0 h2 (by simp only[AV.bds,AV.bd,qb4];rfl) (qb4 0 _) ?_|refine qa (qpi _ _) fun _=>?_|refine qc h1 ?_|refine qc (qpi _ _) ?_)<;>try refine ev_ ?_)|with_reducible exact ti_)
 all_goals rfl
theorem qcn3{k:Int}(h:k<0∨9<k):DoQ S S R R ⟨k,n,pos,cl,a,b,t⟩:=by
 refine⟨true,?_⟩
 refine qe c0es 1 (by simp) (by simp) ?_
 have k0:decide (k=0)=false:=decide_eq_false (by omega)
 have k1:decide (k=1)=false:=decide_eq_false (by omega)
 have k2:decide (k=2)=false:=decide_eq_false (by omega)
 have k3:decide (k=3)=false:=decide_eq_false (by omega)
 have k4:decide (k=4)=false:=decide_eq_false (by omega)
 have k5:decide (k=5)=false:=decide_eq_false (by omega)
 have k6:decide (k=6)=false:=decide_eq_false (by omega)
 have k7:decide (k=7)=false:=decide_eq_false (by omega)
 have k8:decide (k=8)=false:=decide_eq_false (by omega)
 have k9:decide (k=9)=false:=decide_eq_false (by omega)
 repeat'(first|refine vs_ ?_|(refine vr_ ?_<;>try simp only[k0,k1,k2,k3,k4,k5,k6,k7,k8,k9,go_sem,↓reduceIte])|((first|(refine cs_ ?_ ?_<;>intro hc)|refine cj_ ?_)<;>try refine ev_ ?_)|with_reducible exact ti_)
 all_goals rfl
end
/-! every deed -/
theorem qbk1{x:Int}(h1:-9223372036854775808≤x)(h2:x≤9223372036854775807):(Lit.int .i64 x).wf=true:=by
 have:=qf3 .i64 x
 rwa [qo h1 h2] at this
theorem q2x{d:Dd}(h:okD d=true):szY d.a≤200∧dpY d.a≤300∧szY d.b≤200∧dpY d.b≤300∧szTm d.t≤3000∧smK d.t:=by
 unfold okD at h
 simp only[Bool.and_eq_true,Bool.not_eq_true',decide_eq_false_iff_not] at h
 obtain⟨⟨⟨⟨h1,h2⟩,h3⟩,h4⟩,h5⟩:=h
 have hz:=qu9 (l:=[d.a,d.b]) (by unfold maxLen;simp) h1
 have a1:=qdp (l:=[d.a,d.b]) (x:=d.a) (by simp)
 have a2:=qnu (l:=[d.a,d.b]) (x:=d.a) (by simp)
 have b1:=qdp (l:=[d.a,d.b]) (x:=d.b) (by simp)
 have b2:=qnu (l:=[d.a,d.b]) (x:=d.b) (by simp)
 rw[qfx _ (by omega)] at h2 h3
 obtain⟨q1,q2⟩:=q37 h4
 exact⟨by omega,by omega,by omega,by omega,q1,q2⟩
theorem q4g{S:SS}{t:Tm}(h:lglT t=false):VM Tryz.prog 30 (stE S) (stE S) [.ptr 0 0,encT t] (encT T0):=by
 have hL:=qfc t
 have hz:AV.agg [.int .i64 0,.int .i64 0,.str [],.sl 1 [],.sl 3 [],.sl 6 []]=encT T0:=qjb
 refine qe c0b 1 (by simp) (by simp) ?_
 rw[h] at hL
 repeat'(first|refine vs_ ?_|(refine vr_ ?_<;>try simp only[hz,go_sem,↓reduceIte])|((first|(refine cs_ ?_ ?_<;>intro hc)|refine cj_ ?_|fail|refine qa hL fun _=>?_)<;>try refine ev_ ?_)|with_reducible exact ti_)
theorem q1s{V:List Int}{S:SS}(hI:Inv V S.known [])(hl:S.known.length≤40000)(hF:qkb S.fills){t:Tm}(hz:szTm t≤3000)(hs:smK t):∃v,VM Tryz.prog 30 (stE S) (stE S) [.ptr 0 0,encT t] (encT v):=by
 cases hlg:lglT t with
 | false=>exact⟨_,q4g hlg⟩
 | true =>
   unfold lglT at hlg
   rw[Bool.and_eq_true] at hlg
   obtain⟨n,hn⟩:=qb53 (vs:=lsV S.known) (ts:=lsT S.known) hF t (q54 _ _ hlg.2)
   obtain⟨⟨r,l2⟩,hr⟩:=hn 4096
   exact⟨_,q4d (by omega) (qe6 hI.ok) (qchl (fun p hp=>qmg p.2 (by have:=(hF p hp).1.1;omega) (hF p hp).1.2) n t 4096 r l2 (qmg t (by omega) hs) hr)⟩
theorem qcgs{V:List Int}{n:Nat}{S:SS}{R:RS}(hV:V.length≤40000)(hn:n≤1000000)(h:J37 V n S R){d:Dd}(hd:okD d=true)(ha:∀w,w∈varY d.a->w∈V)(hb:∀w,w∈varY d.b->w∈V):
 ∃S' R',J37 V (n+1) S' R'∧Nxt S S'∧DoQ S S' R R' d:=by
 obtain⟨z1,z2,z3,z4,z5,z6⟩:=q2x hd
 have hl:=h.inv.len
 have hok:=h.inv.ok
 have hkR:okS R.known:=by rw[h.kn];exact hok
 have hlR:R.known.length≤40000:=by rw[h.kn];omega
 have hw1:=h.wt
 have hw2:=h.wtR
 have hfx:=h.fx
 have hnm:=h.nm
 have hfn:=h.fln
 obtain⟨k,m,pos,cl,a,b,t⟩:=d
 dsimp only at ha hb z1 z2 z3 z4 z5 z6
 by_cases k0:k=0
 ·subst k0;exact⟨_,_,(qcke h).1,(qcke h).2,do_0⟩
 by_cases k1:k=1
 ·subst k1;exact⟨_,_,(qcgf hn h).1,(qcgf hn h).2,do_1 (qbk1 (by omega) (by omega))⟩
 by_cases k2:k=2
 ·subst k2;exact⟨_,_,(qbk4 hn h).1,(qbk4 hn h).2,do_2 (qbk1 (by omega) (by omega))⟩
 by_cases k3:k=3
 ·subst k3
  obtain⟨q,hq⟩:=qchj S.known a b
  have hqR:WitQ R.known a b q:=by rw[h.kn];exact hq
  exact⟨_,_,(qcng h ha hb hq pos).1,(qcng h ha hb hq pos).2,do_3 (qwo pos hkR hlR (by omega) (by omega) (by omega) (by omega) hqR) (qll pos hok (by omega) (by omega) (by omega) (by omega) (by omega) hq)⟩
 by_cases k4:k=4
 ·subst k4;exact⟨_,_,(qxk h m pos).1,(qxk h m pos).2,do_4⟩
 by_cases k5:k=5
 ·subst k5;exact⟨_,_,(qbk2 h ⟨cl,a⟩ pos).1,(qbk2 h ⟨cl,a⟩ pos).2,do_5 (by omega) (by omega)⟩
 by_cases k6:k=6
 ·subst k6;exact⟨_,_,(qcl5 h).1,(qcl5 h).2,do_6⟩
 by_cases k7:k=7
 ·subst k7;exact⟨_,_,(qciv h m).1,(qciv h m).2,do_7 (by unfold maxLen;omega)⟩
 by_cases k8:k=8
 ·subst k8;exact⟨_,_,(qbkw h m z5 z6).1,(qbkw h m z5 z6).2,do_8 (by omega) z5 z6⟩
 by_cases k9:k=9
 ·subst k9
  obtain⟨v,hv⟩:=q1s h.inv (by omega) h.fl z5 z6
  obtain⟨i,r,hr⟩:=qbzo (R:=R) h.flR t
  exact⟨S,R,h.up,Nxt.same rfl fun _=>⟨rfl,rfl⟩,do_9 (qz4 (by omega) hkR h.flR z5 z6 hr) hv⟩
 ·exact⟨S,R,h.up,Nxt.same rfl fun _=>⟨rfl,rfl⟩,qcn3 (by omega)⟩

def V1:Ty:=.mk [] (-1) []
def V2:Ty:=.mk [] (-2) []
def F0:Ty:=.mk [33,48] 0 []
def I0:Ty:=.mk [73,110,116] 0 []
def TV:Ty:=.mk [84] 0 [V1]
def TI:Ty:=.mk [84] 0 [I0]
def CV:Pd:=⟨[67],V1⟩
def CI:Pd:=⟨[67],I0⟩
def K1:List Pr:=[⟨-1,I0⟩]
def K2:List Pr:=[⟨-2,F0⟩,⟨-1,I0⟩]
def H1:Tm:=.mk 14 1 [] [] [] []
def H0:Tm:=.mk 14 0 [] [] [] []
def N9:Tm:=.mk 2 9 [] [] [] []
def N0:Tm:=.mk 2 0 [] [] [] []
def A1:SS:=⟨1,0,0,0,[],[],[],[],0,0⟩
def A2:SS:=⟨2,0,0,0,[],[],[],[],0,0⟩
def A3:SS:=⟨2,1,0,0,[],[],[],[],0,0⟩
def A4:SS:=⟨2,1,0,0,K1,[],[],[],0,0⟩
def A5:SS:=⟨2,1,0,1,K1,[⟨CV,5,0⟩],[],[(0,1)],0,0⟩
def A6:SS:=⟨2,1,0,2,K1,[⟨CV,5,0⟩],[],[(0,1),(1,1)],0,0⟩
def A7:SS:=⟨2,1,0,2,K1,[⟨CV,5,0⟩],[(0,H1)],[(1,1)],0,0⟩
def A8:SS:=⟨2,1,0,2,K1,[⟨CV,5,0⟩],[(0,H1),(1,N9)],[],0,0⟩
def A9:SS:=⟨2,1,0,2,K2,[⟨CV,5,0⟩],[(0,H1),(1,N9)],[],0,0⟩
def AA:SS:=⟨2,1,0,2,K2,[⟨CV,5,0⟩],[(0,H1),(1,N9)],[],7,14⟩
def AB:SS:=⟨2,1,1,2,K2,[⟨CV,5,0⟩],[(0,H1),(1,N9)],[],7,14⟩
def AC:SS:=⟨2,1,2,2,K2,[⟨CV,5,0⟩],[(0,H1),(1,N9)],[],7,14⟩
theorem qblv:digI 0=[48]:=by kernel_rfl
theorem qcfx:digI 1=[49]:=by kernel_rfl
theorem qchq:VM Tryz.prog 21 (stE S0) (stE A1) [.ptr 0 0] (encY V1):=qcu (q8x S0) rfl rfl
theorem qcg5:VM Tryz.prog 21 (stE A1) (stE A2) [.ptr 0 0] (encY V2):=qcu (q8x A1) rfl rfl
theorem qcm2:VM Tryz.prog 22 (stE A2) (stE A3) [.ptr 0 0] (encY F0):=qcu (qblt A2) rfl (by rw[show IntKind.i64.wrap (IntKind.i64.wrap (A2.fixed+1)-1)=0 from rfl,qblv];rfl)
theorem qclg:WitQ [] V1 I0 (K1,0):=by
 unfold WitQ
 rw[if_pos (by rfl),if_pos (by rfl)]
 exact⟨(K1,0),by rw[UniQ,if_pos ⟨rfl,rfl⟩];exact⟨10,rfl⟩,by rw[if_pos rfl];rfl⟩
theorem qchs:WitQ K1 F0 V2 (K2,0):=by
 unfold WitQ
 rw[if_pos (by kernel_rfl),if_pos (by kernel_rfl)]
 exact⟨([⟨-2,F0⟩],0),by rw[UniQ,if_pos ⟨by kernel_rfl,by kernel_rfl⟩];exact⟨10,by kernel_rfl⟩,by rw[if_pos rfl];kernel_rfl⟩
theorem qcnd:WitQ K2 F0 I0 ([],14):=by
 unfold WitQ
 rw[if_pos (by kernel_rfl),if_pos (by kernel_rfl)]
 exact⟨([],14),by rw[UniQ,if_pos ⟨by kernel_rfl,by kernel_rfl⟩];exact⟨10,by kernel_rfl⟩,by rw[if_neg (by decide)]⟩
theorem qbhb:okS K1:=(show newR K1=K1 from rfl) ▸ qng K1
theorem qcoa:okS K2:=(show newR K2=K2 by kernel_rfl) ▸ qng K2
theorem qchr:VM Tryz.prog 12 (stE A3) (stE A4) [.ptr 0 0,encY V1,encY I0,.int .i64 3] (.bool true):=qcu (qll (S:=A3) 3 qfi (by decide) (by decide) (by decide) (by decide) (by decide) qclg) rfl rfl
theorem qcgo:VM Tryz.prog 12 (stE A8) (stE A9) [.ptr 0 0,encY F0,encY V2,.int .i64 4] (.bool true):=qcu (qll (S:=A8) 4 qbhb (by decide) (by decide) (by decide) (by decide) (by decide) qchs) rfl rfl
theorem qcfl:VM Tryz.prog 12 (stE A9) (stE AA) [.ptr 0 0,encY F0,encY I0,.int .i64 7] (.bool false):=qcu (qll (S:=A9) 7 qcoa (by decide) (by decide) (by decide) (by decide) (by decide) qcnd) rfl rfl
theorem qcod:VM Tryz.prog 15 (stE A4) (stE A4) [.ptr 0 0,encY TV] (encY TI):=qcu (qw7 (S:=A4) (t:=TV) (by decide) (qe6 qbhb) (by decide)) rfl (congrArg encY (by rfl))
theorem qcf7:VM Tryz.prog 25 (stE A4) (stE A5) [.ptr 0 0,encP CV,.int .i64 5] (.int .i64 0):=qcu (q3s (S:=A4) CV 5 (by decide)) rfl rfl
theorem qcgh:VM Tryz.prog 26 (stE A5) (stE A6) [.ptr 0 0] (.int .i64 1):=qcu (q8h A5) rfl rfl
theorem qcl8:VM Tryz.prog 27 (stE A6) (stE A6) [.ptr 0 0,.int .i64 0] (.sl 6 (qbg [⟨CI,5,0⟩])):=qcu (qbem (S:=A6) (n:=0) (by decide) qbhb (by decide) (fun w hw=>by rw[show A6.waits=[⟨CV,5,0⟩] from rfl,List.mem_singleton] at hw;subst hw;decide)) rfl rfl
theorem qcgt:VM Tryz.prog 28 (stE A6) (stE A7) [.ptr 0 0,.int .i64 0,encT H1] (.int .i64 0):=qcu (qqn A6 0 H1) rfl rfl
theorem qcia:VM Tryz.prog 28 (stE A7) (stE A8) [.ptr 0 0,.int .i64 1,encT N9] (.int .i64 0):=qcu (qqn A7 1 N9) rfl rfl
theorem qcly:VM Tryz.prog 28 (stE AA) (stE AA) [.ptr 0 0,.int .i64 1,encT N0] (.int .i64 6):=qcu (qqn AA 1 N0) rfl rfl
theorem qch7:qih A8 (lsV A8.known) (lsT A8.known) 4096 H0 4095 N9:=qq7 (u:=H1) (j:=0) rfl rfl (qq7 (u:=N9) (j:=1) rfl rfl (qbip (by decide) rfl rfl (by decide) (by decide)))
theorem qcmg:VM Tryz.prog 30 (stE A8) (stE A8) [.ptr 0 0,encT H0] (encT N9):=qcu (q4d (S:=A8) (by decide) (qe6 qbhb) qch7) rfl (congrArg encT (by rfl))
theorem qcip:VM Tryz.prog 19 (stE AA) (stE AA) [.ptr 0 0] (.tup [.int .i64 7,.int .i64 14]):=qcu (qvs AA) rfl rfl
theorem qcjw:VM Tryz.prog 23 (stE AA) (stE AB) [.ptr 0 0] (.str [35,48]):=qcu (qu6 AA) rfl (by rw[show IntKind.i64.wrap (IntKind.i64.wrap (AA.names+1)-1)=0 from rfl,qblv])
theorem qcf3:VM Tryz.prog 23 (stE AB) (stE AC) [.ptr 0 0] (.str [35,49]):=qcu (qu6 AB) rfl (by rw[show IntKind.i64.wrap (IntKind.i64.wrap (AB.names+1)-1)=1 from rfl,qcfx])
theorem qclq:qj Tryz.prog 38 [encY TI] (.str [84,32,73,110,116]):=qo6 (t:=TI) (by decide) (by decide) (by decide)
set_option maxRecDepth 4000

theorem qzw{L:List Ent}{Q:List Ent->VO->Prop}(hq:Q (L++[stE S0]) (.val (.ptr L.length 0))):VApp Tryz.prog L (.fn 11 [] []) [] Q:=qjp qcg1 rfl (by rfl) hq
theorem qcn2:AV.agg [.str [73,110,116],.int .i64 0,.sl 3 []]=encY I0:=rfl
theorem qcna:AV.agg [.str [84],.int .i64 0,.sl 3 [encY V1]]=encY TV:=by simp only[TV,encY,qf]
theorem qcks:AV.agg [.str [67],.str V1.con,.int .i64 V1.var,.sl 3 (qf V1.args)]=encP CV:=rfl
theorem qcmr:AV.agg [.int .i64 14,.int .i64 1,.str [],.sl 1 [],.sl 3 [],.sl 6 []]=encT H1:=by simp only[H1,encT,ints,List.map_nil,qf,qbl]
theorem qclv:AV.agg [.int .i64 14,.int .i64 0,.str [],.sl 1 [],.sl 3 [],.sl 6 []]=encT H0:=by simp only[H0,encT,ints,List.map_nil,qf,qbl]
theorem qcnb:AV.agg [.int .i64 2,.int .i64 9,.str [],.sl 1 [],.sl 3 [],.sl 6 []]=encT N9:=by simp only[N9,encT,ints,List.map_nil,qf,qbl]
theorem q73:AV.agg [.int .i64 2,.int .i64 0,.str [],.sl 1 [],.sl 3 [],.sl 6 []]=encT N0:=by simp only[N0,encT,ints,List.map_nil,qf,qbl]
theorem qck6:(qbg [⟨CI,5,0⟩]).getD 0 .junk=qec ⟨CI,5,0⟩:=rfl
theorem qcbj(a b:Ty)(k:Int):AV.bds 0 [encY a,encY b,.int .i64 k]=true:=by simp only[AV.bds,AV.bd,qx,Bool.and_true]
theorem qcjq(k:Int)(t:Tm):AV.bds 0 [.int .i64 k,encT t]=true:=by simp only[AV.bds,AV.bd,qb4,Bool.and_true]
theorem qcn4(p:Pd)(k:Int):AV.bds 0 [encP p,.int .i64 k]=true:=by simp only[AV.bds,AV.bd,qp7,Bool.and_true]
theorem qcnz(t:Tm):AV.bds 0 [encT t]=true:=by simp only[AV.bds,qb4,Bool.and_true]
theorem qb2m(t:Ty):AV.bds 0 [encY t]=true:=by simp only[AV.bds,qx,Bool.and_true]
theorem qcnm(l:List Wt):(AV.sl 6 (qbg l)).bd 0=true:=by simp only[AV.bd,qcv]
theorem qb1r:VM Tryz.prog 28 (stE AA) (stE AA) [.ptr 0 0,.int .i64 1,.agg [.int .i64 2,.int .i64 0,.str [],.sl 1 [],.sl 3 [],.sl 6 []]] (.int .i64 6):=by rw[q73];exact qcly
theorem qcn7:AV.bds 0 [.int .i64 1,.agg [.int .i64 2,.int .i64 0,.str [],.sl 1 [],.sl 3 [],.sl 6 []]]=true:=rfl
set_option maxHeartbeats 4000000 in
theorem qfk:qj Tryz.prog 10 [] (.bool true):=by
 refine qd c0gf (by simp) (by simp only[go_sem]) rfl fun hw=>?_
 unfold k0gf
 generalize hz:qyy=z1
 repeat'(first|refine vs_ ?_|(refine vr_ ?_<;>try simp only[qcn2,qcna,qcks,qcmr,qclv,qcnb,q73,go_sem,↓reduceIte])|((first|(refine cs_ ?_ ?_<;>intro hc)|refine cj_ ?_|refine qzw ?_|refine qca 0 qchq ?_|refine qca 0 qcg5 ?_|refine qca 0 qcm2 ?_|refine qv 0 qchr (qcbj _ _ _) rfl ?_|refine qv 0 qcod (qb2m _) (qx 0 _) ?_|refine qv 0 qcf7 (qcn4 _ _) rfl ?_|refine qca 0 qcgh ?_|refine qv 0 qcl8 rfl (qcnm _) ?_|refine qv 0 qcgt (qcjq _ _) rfl ?_|refine qv 0 qcia (qcjq _ _) rfl ?_|refine qv 0 qcmg (qcnz _) (qb4 0 _) ?_|refine qv 0 qcgo (qcbj _ _ _) rfl ?_|refine qv 0 qcfl (qcbj _ _ _) rfl ?_|refine qca 0 qcip ?_)<;>try refine ev_ ?_)|with_reducible exact ti_)
 subst hz
 have q1:V1.var = -1:=rfl
 have q2:V2.var = -2:=rfl
 have q3:F0.con=[33,48]:=rfl
 have q4:CI.ty.con=[73,110,116]:=rfl
 have q5:N9.num=9:=rfl
 have q6:N9.kind=2:=rfl
 repeat'(first|refine vs_ ?_|(refine vr_ ?_<;>try simp only[q1,q2,q3,q4,q5,q6,q73,qck6,qfs,List.length_singleton,Int.reduceEq,Int.reduceNeg,decide_true,decide_false,Bool.false_eq_true,go_sem,↓reduceIte])|((first|simp (disch:=omega) only[qck6]|(refine cs_ ?_ ?_<;>intro hc)|refine cj_ ?_|refine qa qclq fun _=>?_|refine qv 0 qb1r qcn7 rfl ?_|refine qca 0 qcjw ?_|refine qca 0 qcf3 ?_)<;>try refine ev_ ?_)|with_reducible exact ti_)
 all_goals first | (exfalso;omega) | exact absurd q4 hc
end Go.Proofs.YtkenggenkmfopaaGreat
