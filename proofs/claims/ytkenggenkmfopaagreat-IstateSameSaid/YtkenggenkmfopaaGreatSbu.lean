/- Texts of this proof, joined. -/
import Derived.Test.YtkenggenkmfopaaGreatSbs
import Derived.Test.YtkenggenkmfopaaGreatSbt
import Derived.Test.YtkenggenkmfopaaGreatSbm
set_option linter.unusedVariables false
set_option linter.unusedSimpArgs false

/- the deeds of both states: what stays -/
namespace Go.Proofs.YtkenggenkmfopaaGreat
open Go Go.RowKit Go.V

section
variable {V:List Int} {n:Nat} {S:SS} {R:RS}
theorem qcm3(h:J37 V n S R):J37 V (n+1) (varS S) (varR R)∧Nxt S (varS S):=by
 have h:=h.up
 exact⟨⟨h.inv,h.kn,h.er,h.wt,h.wtR,h.fx,h.nm,h.fl,h.flR,h.fln⟩,Nxt.same rfl fun _=>⟨rfl,rfl⟩⟩
theorem qcnz(hn:n≤1000000)(h:J37 V n S R):J37 V (n+1) (fixS S) (fixR R)∧Nxt S (fixS S):=by
 have f:=h.fx
 have h:=h.up
 refine⟨⟨h.inv,h.kn,h.er,h.wt,h.wtR,?_,h.nm,h.fl,h.flR,h.fln⟩,Nxt.same rfl fun _=>⟨rfl,rfl⟩⟩
 show 0≤IntKind.i64.wrap (R.fixed+1)∧IntKind.i64.wrap (R.fixed+1)≤((n+1:Nat):Int)
 rw[qo (by omega) (by omega)]
 omega
theorem qbls(hn:n≤1000000)(h:J37 V n S R):J37 V (n+1) (q8i S) (qcdx R)∧Nxt S (q8i S):=by
 have f:=h.nm
 have h:=h.up
 refine⟨⟨h.inv,h.kn,h.er,h.wt,h.wtR,h.fx,?_,h.fl,h.flR,h.fln⟩,Nxt.same rfl fun _=>⟨rfl,rfl⟩⟩
 show 0≤IntKind.i64.wrap (R.names+1)∧IntKind.i64.wrap (R.names+1)≤((n+1:Nat):Int)
 rw[qo (by omega) (by omega)]
 omega
theorem q6b(h:J37 V n S R)(e pos:Int):J37 V (n+1) (qs7 S e pos) (qv2 R e pos)∧Nxt S (qs7 S e pos):=by
 have h:=h.up
 unfold qs7 qv2
 rw[h.er]
 by_cases h0:S.err=0
 ·rw[if_pos h0,if_pos h0]
  exact⟨⟨h.inv,h.kn,rfl,h.wt,h.wtR,h.fx,h.nm,h.fl,h.flR,h.fln⟩,Nxt.same rfl fun he=>absurd h0 he⟩
 ·rw[if_neg h0,if_neg h0]
  exact⟨h,Nxt.same rfl fun _=>⟨rfl,rfl⟩⟩
theorem qbve(h:J37 V n S R){a b:Ty}(ha:∀w,w∈varY a->w∈V)(hb:∀w,w∈varY b->w∈V){q:List Pr×Int}(hq:WitQ S.known a b q)(pos:Int):J37 V (n+1) (uniS S q pos).2 (uniR R q pos).2∧Nxt S (uniS S q pos).2:=by
 have hu:=h.up
 unfold uniS uniR
 rw[h.er]
 by_cases h0:S.err=0
 ·rw[if_pos h0,if_pos h0]
  by_cases h1:q.2=0
  ·rw[if_pos h1,if_pos h1]
   obtain⟨k1,k2,k3,k4,k5⟩:=qo3 h.inv ha hb hq h1
   exact⟨⟨k1,rfl,rfl,hu.wt,hu.wtR,hu.fx,hu.nm,hu.fl,hu.flR,hu.fln⟩,⟨fun x y hx hy hxy=>k2 x y hx hy hxy,fun he=>absurd h0 he⟩⟩
  ·rw[if_neg h1,if_neg h1]
   exact q6b h _ _
 ·rw[if_neg h0,if_neg h0]
  exact⟨hu,Nxt.same rfl fun _=>⟨rfl,rfl⟩⟩
theorem qbl5(h:J37 V n S R)(p:Pd)(pos:Int):J37 V (n+1) (qxp S p pos) (q25 R p pos)∧Nxt S (qxp S p pos):=by
 have h1:=h.wt
 have h2:=h.wtR
 have h:=h.up
 refine⟨⟨h.inv,h.kn,h.er,?_,?_,h.fx,h.nm,h.fl,h.flR,h.fln⟩,Nxt.same rfl fun _=>⟨rfl,rfl⟩⟩
 ·show(S.waits++[_]).length≤_
  rw[List.length_append];exact Nat.add_le_add_right h1 1
 ·show(R.waits++[_]).length≤_
  rw[List.length_append];exact Nat.add_le_add_right h2 1
theorem qcfg(h:J37 V n S R):J37 V (n+1) (useS S) (useR R)∧Nxt S (useS S):=by
 have h:=h.up
 exact⟨⟨h.inv,h.kn,h.er,h.wt,h.wtR,h.fx,h.nm,h.fl,h.flR,h.fln⟩,Nxt.same rfl fun _=>⟨rfl,rfl⟩⟩
theorem qcfl(h:J37 V n S R)(k:Int):J37 V (n+1) (forS S k) (forR R k)∧Nxt S (forS S k):=by
 have h:=h.up
 refine⟨⟨h.inv,h.kn,h.er,?_,?_,h.fx,h.nm,h.fl,h.flR,h.fln⟩,Nxt.same rfl fun _=>⟨rfl,rfl⟩⟩
 ·show(S.waits.take _).length≤_
  rw[List.length_take];have:=h.wt;omega
 ·show(R.waits.take _).length≤_
  rw[List.length_take];have:=h.wtR;omega
theorem qzq(hF:qke S.fills){k:Int}{t:Tm}(hz:szTm t≤3000)(hs:smK t):qke (qh3 S k t).2.fills:=by
 unfold qh3
 by_cases h1:k<0
 ·rw[if_pos h1];exact hF
 rw[if_neg h1]
 by_cases h2:S.holes≤k
 ·rw[if_pos h2];exact hF
 rw[if_neg h2]
 cases hl:lglT t with
 | false=>rw[if_pos rfl];exact hF
 | true =>
   rw[if_neg (by simp)]
   by_cases h3:lstT t (IntKind.i64.wrap (k+1))≤k
   ·rw[if_pos h3];exact hF
   rw[if_neg h3]
   by_cases h4:valG S.free k 0=0
   ·rw[if_pos h4];exact hF
   rw[if_neg h4]
   intro p hp
   rcases qbkq hp with hp | rfl
   ·exact hF p hp
   ·unfold lglT at hl
    rw[Bool.and_eq_true] at hl
    exact⟨⟨hz,hs⟩,q6v _ _ hl.2,fun w hw=>by have:=(qv6 t (IntKind.i64.wrap (k+1))).2 w hw;show k<w;omega⟩
theorem q2n(S:SS)(k:Int)(t:Tm):(qh3 S k t).2.known=S.known∧(qh3 S k t).2.err=S.err∧(qh3 S k t).2.pos=S.pos∧(qh3 S k t).2.waits=S.waits:=by
 unfold qh3
 split
 ·exact⟨rfl,rfl,rfl,rfl⟩
 split
 ·exact⟨rfl,rfl,rfl,rfl⟩
 split
 ·exact⟨rfl,rfl,rfl,rfl⟩
 split
 ·exact⟨rfl,rfl,rfl,rfl⟩
 split
 ·exact⟨rfl,rfl,rfl,rfl⟩
 ·exact⟨rfl,rfl,rfl,rfl⟩
theorem qux(R:RS)(k:Int)(t:Tm):(qg9 R k t).2=R∨((qg9 R k t).2={ R with fills:=R.fills++[(k,t)] }∧lowH k (holT t)=false):=by
 unfold qg9
 split
 ·exact .inl rfl
 split
 ·exact .inl rfl
 split
 ·exact .inl rfl
 split
 ·exact .inl rfl
 rename_i hlo
 cases filG R.fills k with
 | some u=>exact .inl rfl
 | none=>exact .inr ⟨rfl,by simpa using hlo⟩
theorem qbk4(h:J37 V n S R)(k:Int){t:Tm}(hz:szTm t≤3000)(hs:smK t):J37 V (n+1) (qh3 S k t).2 (qg9 R k t).2∧Nxt S (qh3 S k t).2:=by
 obtain⟨e1,e2,e3,e4⟩:=q2n S k t
 have f:=h.fln
 have hu:=h.up
 refine⟨?_,Nxt.same e1 fun _=>⟨e2,e3⟩⟩
 rcases qux R k t with hr | ⟨hr,hlo⟩
 ·rw[hr]
  exact⟨by rw[e1];exact h.inv,by rw[e1];exact h.kn,by rw[e2];exact h.er,by rw[e4];exact hu.wt,hu.wtR,hu.fx,hu.nm,qzq h.fl hz hs,h.flR,hu.fln⟩
 ·rw[hr]
  refine⟨by rw[e1];exact h.inv,by rw[e1];exact h.kn,by rw[e2];exact h.er,by rw[e4];exact hu.wt,hu.wtR,hu.fx,hu.nm,qzq h.fl hz hs,fun p hp=>?_,?_⟩
  ·rcases List.mem_append.1 hp with hp | hp
   ·exact h.flR p hp
   ·rw[List.mem_singleton] at hp
    subst hp
    refine⟨⟨hz,hs⟩,fun w hw=>?_⟩
    rw[lowH,List.any_eq_false] at hlo
    have:=hlo w hw
    rw[decide_eq_true_eq] at this
    show k<w
    omega
  ·show(R.fills++[(k,t)]).length≤n+1
   rw[List.length_append]
   exact Nat.add_le_add_right f 1
end
set_option maxRecDepth 4000

abbrev doF:FuncId:=14
abbrev DoQ(S S':SS)(R R':RS)(d:Dd):Prop:=∃c:Bool,VM Tryz.prog doF (stE S) (stE S') [.ptr 0 0,qby R,encD d] (.tup [qby R',.bool c])
theorem qtl(t:Ty):AV.bd 0 (encY t)=true:=qx 0 t
section
variable {S:SS} {R:RS} {n pos:Int} {cl:List UInt8} {a b:Ty} {t:Tm}
theorem do_0:DoQ S (varS S) R (varR R) ⟨0,n,pos,cl,a,b,t⟩:=by
 refine⟨qkk (.mk [] (IntKind.i64.wrap (0-IntKind.i64.wrap (S.vars+1))) []) (.mk [] (IntKind.i64.wrap (0-IntKind.i64.wrap (R.vars+1))) []),?_⟩
 refine qe c0es 1 (by simp) (by simp) ?_
 have h1:=q9d R
 have h2:=q5a S
 repeat'(first|refine vs_ ?_|(refine vr_ ?_<;>try simp only[Int.reduceEq,decide_true,decide_false,Bool.false_eq_true,go_sem,↓reduceIte])|((first|(refine cs_ ?_ ?_<;>intro hc)|refine cj_ ?_|fail|refine qa h1 fun _=>?_|refine qb9 0 h2 rfl (qtl _) ?_|refine qa (qcy _ _) fun _=>?_|refine qc h1 ?_|refine qc (qcy _ _) ?_)<;>try refine ev_ ?_)|with_reducible exact ti_)
 all_goals rfl
theorem do_1(hb:(Lit.int .i64 R.fixed).wf=true):DoQ S (fixS S) R (fixR R) ⟨1,n,pos,cl,a,b,t⟩:=by
 refine⟨qkk (.mk (33::digI (IntKind.i64.wrap (IntKind.i64.wrap (S.fixed+1)-1))) 0 []) (.mk (33::digI R.fixed) 0 []),?_⟩
 refine qe c0es 1 (by simp) (by simp) ?_
 have h1:=q34 hb
 have h2:=qbl3 S
 repeat'(first|refine vs_ ?_|(refine vr_ ?_<;>try simp only[Int.reduceEq,decide_true,decide_false,Bool.false_eq_true,go_sem,↓reduceIte])|((first|(refine cs_ ?_ ?_<;>intro hc)|refine cj_ ?_|fail|refine qa h1 fun _=>?_|refine qb9 0 h2 rfl (qtl _) ?_|refine qa (qcy _ _) fun _=>?_|refine qc h1 ?_|refine qc (qcy _ _) ?_)<;>try refine ev_ ?_)|with_reducible exact ti_)
 all_goals rfl
theorem do_2(hb:(Lit.int .i64 R.names).wf=true):DoQ S (q8i S) R (qcdx R) ⟨2,n,pos,cl,a,b,t⟩:=by
 refine⟨decide (35::digI (IntKind.i64.wrap (IntKind.i64.wrap (S.names+1)-1))=35::digI R.names),?_⟩
 refine qe c0es 1 (by simp) (by simp) ?_
 have h1:=q0m hb
 have h2:=qxq S
 generalize 35::digI (IntKind.i64.wrap (IntKind.i64.wrap (S.names+1)-1))=x at *
 generalize 35::digI R.names=y at *
 repeat'(first|refine vs_ ?_|(refine vr_ ?_<;>try simp only[Int.reduceEq,decide_true,decide_false,Bool.false_eq_true,go_sem,↓reduceIte])|((first|(refine cs_ ?_ ?_<;>intro hc)|refine cj_ ?_|fail|refine qa h1 fun _=>?_|refine qb9 0 h2 rfl rfl ?_|refine qc h1 ?_)<;>try refine ev_ ?_)|with_reducible exact ti_)
 all_goals rfl
theorem do_3{q:List Pr×Int}(h1:qj Tryz.prog 13 [qby R,encY a,encY b,.int .i64 pos] (.tup [qby (uniR R q pos).2,.bool (uniR R q pos).1]))(h2:VM Tryz.prog 12 (stE S) (stE (uniS S q pos).2) [.ptr 0 0,encY a,encY b,.int .i64 pos] (.bool (uniS S q pos).1)):DoQ S (uniS S q pos).2 R (uniR R q pos).2 ⟨3,n,pos,cl,a,b,t⟩:=by
 refine⟨(uniS S q pos).1 == (uniR R q pos).1,?_⟩
 refine qe c0es 1 (by simp) (by simp) ?_
 generalize (uniS S q pos).1=x at *
 generalize (uniR R q pos).1=y at *
 generalize (uniS S q pos).2=S' at *
 generalize (uniR R q pos).2=R' at *
 have haf:AV.agg [.str a.con,.int .i64 a.var,.sl 3 (qg a.args)]=encY a:=qbe _
 have hbf:AV.agg [.str b.con,.int .i64 b.var,.sl 3 (qg b.args)]=encY b:=qbe _
 repeat'(first|refine vs_ ?_|(refine vr_ ?_<;>try simp only[Int.reduceEq,decide_true,decide_false,Bool.false_eq_true,haf,hbf,go_sem,↓reduceIte])|((first|(refine cs_ ?_ ?_<;>intro hc)|refine cj_ ?_|fail|refine qa h1 fun _=>?_|refine qb9 0 h2 (by simp only[AV.bds,AV.bd,qx];rfl) rfl ?_|refine qc h1 ?_)<;>try refine ev_ ?_)|with_reducible exact ti_)
 all_goals rfl
theorem do_4:DoQ S (qs7 S n pos) R (qv2 R n pos) ⟨4,n,pos,cl,a,b,t⟩:=by
 refine⟨true,?_⟩
 refine qe c0es 1 (by simp) (by simp) ?_
 have h1:=qo9 R n pos
 have h2:=q8b S n pos
 generalize qs7 S n pos=S' at *
 generalize qv2 R n pos=R' at *
 repeat'(first|refine vs_ ?_|(refine vr_ ?_<;>try simp only[Int.reduceEq,decide_true,decide_false,Bool.false_eq_true,go_sem,↓reduceIte])|((first|(refine cs_ ?_ ?_<;>intro hc)|refine cj_ ?_|fail|refine qa h1 fun _=>?_|refine qb9 0 h2 rfl rfl ?_|refine qc h1 ?_)<;>try refine ev_ ?_)|with_reducible exact ti_)
 all_goals rfl
theorem do_5(hS:S.waits.length≤1000000)(hR:R.waits.length≤1000000):DoQ S (qxp S ⟨cl,a⟩ pos) R (q25 R ⟨cl,a⟩ pos) ⟨5,n,pos,cl,a,b,t⟩:=by
 refine⟨decide (useH S=qr0 R),?_⟩
 refine qe c0es 1 (by simp) (by simp) ?_
 have h1:=q22 (p:=⟨cl,a⟩) (pos:=pos) hR
 have h2:=q37 ⟨cl,a⟩ pos hS
 generalize qxp S ⟨cl,a⟩ pos=S' at *
 generalize q25 R ⟨cl,a⟩ pos=R' at *
 generalize useH S=x at *
 generalize qr0 R=y at *
 have hpf:AV.agg [.str cl,.str a.con,.int .i64 a.var,.sl 3 (qg a.args)]=encP ⟨cl,a⟩:=rfl
 have haf:AV.agg [.str a.con,.int .i64 a.var,.sl 3 (qg a.args)]=encY a:=qbe _
 repeat'(first|refine vs_ ?_|(refine vr_ ?_<;>try simp only[Int.reduceEq,decide_true,decide_false,Bool.false_eq_true,haf,hpf,go_sem,↓reduceIte])|((first|(refine cs_ ?_ ?_<;>intro hc)|refine cj_ ?_|fail|refine qa h1 fun _=>?_|refine qb9 0 h2 (by simp only[AV.bds,AV.bd,qrb];rfl) rfl ?_|refine qc h1 ?_)<;>try refine ev_ ?_)|with_reducible exact ti_)
 all_goals rfl
theorem do_6:DoQ S (useS S) R (useR R) ⟨6,n,pos,cl,a,b,t⟩:=by
 refine⟨decide (useH S=qr0 R),?_⟩
 refine qe c0es 1 (by simp) (by simp) ?_
 have h1:=qtd R
 have h2:=q59 S
 generalize useS S=S' at *
 generalize useR R=R' at *
 generalize useH S=x at *
 generalize qr0 R=y at *
 repeat'(first|refine vs_ ?_|(refine vr_ ?_<;>try simp only[Int.reduceEq,decide_true,decide_false,Bool.false_eq_true,go_sem,↓reduceIte])|((first|(refine cs_ ?_ ?_<;>intro hc)|refine cj_ ?_|fail|refine qa h1 fun _=>?_|refine qb9 0 h2 rfl rfl ?_|refine qc h1 ?_)<;>try refine ev_ ?_)|with_reducible exact ti_)
 all_goals rfl
theorem do_7(hS:S.waits.length≤maxLen):DoQ S (forS S n) R (forR R n) ⟨7,n,pos,cl,a,b,t⟩:=by
 refine⟨true,?_⟩
 refine qe c0es 1 (by simp) (by simp) ?_
 have h1:=qsz (R:=R) (n:=n)
 have h2:=q69 (S:=S) (n:=n) hS
 generalize forS S n=S' at *
 generalize forR R n=R' at *
 repeat'(first|refine vs_ ?_|(refine vr_ ?_<;>try simp only[Int.reduceEq,decide_true,decide_false,Bool.false_eq_true,go_sem,↓reduceIte])|((first|(refine cs_ ?_ ?_<;>intro hc)|refine cj_ ?_|fail|refine qa h1 fun _=>?_|refine qca 0 h2 ?_|refine qc h1 ?_)<;>try refine ev_ ?_)|with_reducible exact ti_)
 all_goals rfl
theorem do_8(hn:R.fills.length≤1000000)(hz:szTm t≤3000)(hs:smK t):DoQ S (qh3 S n t).2 R (qg9 R n t).2 ⟨8,n,pos,cl,a,b,t⟩:=by
 refine⟨decide ((qh3 S n t).1=(qg9 R n t).1),?_⟩
 refine qe c0es 1 (by simp) (by simp) ?_
 have h1:=q3a (h:=n) hn hz hs
 have h2:=qq9 S n t
 generalize (qh3 S n t).1=x at *
 generalize (qg9 R n t).1=y at *
 generalize (qh3 S n t).2=S' at *
 generalize (qg9 R n t).2=R' at *
 have htf:AV.agg [.int .i64 t.kind,.int .i64 t.num,.str t.name,.sl 1 (ints t.vars),.sl 3 (qg t.types),.sl 6 (qbn t.kids)]=encT t:=qcj _
 repeat'(first|refine vs_ ?_|(refine vr_ ?_<;>try simp only[Int.reduceEq,decide_true,decide_false,Bool.false_eq_true,htf,go_sem,↓reduceIte])|((first|(refine cs_ ?_ ?_<;>intro hc)|refine cj_ ?_|fail|refine qa h1 fun _=>?_|refine qb9 0 h2 (by simp only[AV.bds,AV.bd,qb5];rfl) rfl ?_|refine qc h1 ?_)<;>try refine ev_ ?_)|with_reducible exact ti_)
 all_goals rfl
theorem do_9{u v:Tm}(h1:qj Tryz.prog 49 [qby R,encT t] (encT u))(h2:VM Tryz.prog 30 (stE S) (stE S) [.ptr 0 0,encT t] (encT v)):DoQ S S R R ⟨9,n,pos,cl,a,b,t⟩:=by
 refine⟨qpq v u,?_⟩
 refine qe c0es 1 (by simp) (by simp) ?_
 have htf:AV.agg [.int .i64 t.kind,.int .i64 t.num,.str t.name,.sl 1 (ints t.vars),.sl 3 (qg t.types),.sl 6 (qbn t.kids)]=encT t:=qcj _
 repeat'(first|refine vs_ ?_|(refine vr_ ?_<;>try simp only[Int.reduceEq,decide_true,decide_false,Bool.false_eq_true,htf,go_sem,↓reduceIte])|((first|(refine cs_ ?_ ?_<;>intro hc)|refine cj_ ?_|fail|refine qa h1 fun _=>?_|refine qb9 0 h2 (by simp only[AV.bds,AV.bd,qb5];rfl) (qb5 0 _) ?_|refine qa (qpa _ _) fun _=>?_|refine qc h1 ?_|refine qc (qpa _ _) ?_)<;>try refine ev_ ?_)|with_reducible exact ti_)
 all_goals rfl
theorem qcn9{k:Int}(h:k<0∨9<k):DoQ S S R R ⟨k,n,pos,cl,a,b,t⟩:=by
 refine⟨true,?_⟩
 refine qe c0es 1 (by simp) (by simp) ?_
 have k0:decide (k=0)=false:=decide_eq_false (by omega)
 have k1:decide (k=1)=false:=decide_eq_false (by omega)
 have k2:decide (k=2)=false:=decide_eq_false (by omega)
 have k3:decide (k=3)=false:=decide_eq_false (by omega)
 have k4:decide (k=4)=false:=decide_eq_false (by omega)
 have k5:decide (k=5)=false:=decide_eq_false (by omega)
 have k6:decide (k=6)=false:=decide_eq_false (by omega)
 have k7:decide (k=7)=false:=decide_eq_false (by omega)
 have k8:decide (k=8)=false:=decide_eq_false (by omega)
 have k9:decide (k=9)=false:=decide_eq_false (by omega)
 repeat'(first|refine vs_ ?_|(refine vr_ ?_<;>try simp only[k0,k1,k2,k3,k4,k5,k6,k7,k8,k9,go_sem,↓reduceIte])|((first|(refine cs_ ?_ ?_<;>intro hc)|refine cj_ ?_)<;>try refine ev_ ?_)|with_reducible exact ti_)
 all_goals rfl
end
/-! every deed -/
theorem qbln{x:Int}(h1:-9223372036854775808≤x)(h2:x≤9223372036854775807):(Lit.int .i64 x).wf=true:=by
 have:=qgg .i64 x
 rwa [qo h1 h2] at this
theorem q57{d:Dd}(h:okD d=true):szY d.a≤200∧dpY d.a≤300∧szY d.b≤200∧dpY d.b≤300∧szTm d.t≤3000∧smK d.t:=by
 unfold okD at h
 simp only[Bool.and_eq_true,Bool.not_eq_true',decide_eq_false_iff_not] at h
 obtain⟨⟨⟨⟨h1,h2⟩,h3⟩,h4⟩,h5⟩:=h
 have hz:=qwd (l:=[d.a,d.b]) (by unfold maxLen;simp) h1
 have a1:=qdd (l:=[d.a,d.b]) (x:=d.a) (by simp)
 have a2:=qkf (l:=[d.a,d.b]) (x:=d.a) (by simp)
 have b1:=qdd (l:=[d.a,d.b]) (x:=d.b) (by simp)
 have b2:=qkf (l:=[d.a,d.b]) (x:=d.b) (by simp)
 rw[qfx _ (by omega)] at h2 h3
 obtain⟨q1,q2⟩:=q8j h4
 exact⟨by omega,by omega,by omega,by omega,q1,q2⟩
theorem q75{S:SS}{t:Tm}(h:lglT t=false):VM Tryz.prog 30 (stE S) (stE S) [.ptr 0 0,encT t] (encT T0):=by
 have hL:=qff t
 have hz:AV.agg [.int .i64 0,.int .i64 0,.str [],.sl 1 [],.sl 3 [],.sl 6 []]=encT T0:=qj5
 refine qe c0b 1 (by simp) (by simp) ?_
 rw[h] at hL
 repeat'(first|refine vs_ ?_|(refine vr_ ?_<;>try simp only[hz,go_sem,↓reduceIte])|((first|(refine cs_ ?_ ?_<;>intro hc)|refine cj_ ?_|fail|refine qa hL fun _=>?_)<;>try refine ev_ ?_)|with_reducible exact ti_)
theorem q14{V:List Int}{S:SS}(hI:Inv V S.known [])(hl:S.known.length≤40000)(hF:qke S.fills){t:Tm}(hz:szTm t≤3000)(hs:smK t):∃v,VM Tryz.prog 30 (stE S) (stE S) [.ptr 0 0,encT t] (encT v):=by
 cases hlg:lglT t with
 | false=>exact⟨_,q75 hlg⟩
 | true =>
   unfold lglT at hlg
   rw[Bool.and_eq_true] at hlg
   obtain⟨n,hn⟩:=qbsz (vs:=lsV S.known) (ts:=lsT S.known) hF t (q6v _ _ hlg.2)
   obtain⟨⟨r,l2⟩,hr⟩:=hn 4096
   exact⟨_,q7u (by omega) (qd2 hI.ok) (qck0 (fun p hp=>qoi p.2 (by have:=(hF p hp).1.1;omega) (hF p hp).1.2) n t 4096 r l2 (qoi t (by omega) hs) hr)⟩
theorem qcoa{V:List Int}{n:Nat}{S:SS}{R:RS}(hV:V.length≤40000)(hn:n≤1000000)(h:J37 V n S R){d:Dd}(hd:okD d=true)(ha:∀w,w∈varY d.a->w∈V)(hb:∀w,w∈varY d.b->w∈V):
 ∃S' R',J37 V (n+1) S' R'∧Nxt S S'∧DoQ S S' R R' d:=by
 obtain⟨z1,z2,z3,z4,z5,z6⟩:=q57 hd
 have hl:=h.inv.len
 have hok:=h.inv.ok
 have hkR:okS R.known:=by rw[h.kn];exact hok
 have hlR:R.known.length≤40000:=by rw[h.kn];omega
 have hw1:=h.wt
 have hw2:=h.wtR
 have hfx:=h.fx
 have hnm:=h.nm
 have hfn:=h.fln
 obtain⟨k,m,pos,cl,a,b,t⟩:=d
 dsimp only at ha hb z1 z2 z3 z4 z5 z6
 by_cases k0:k=0
 ·subst k0;exact⟨_,_,(qcm3 h).1,(qcm3 h).2,do_0⟩
 by_cases k1:k=1
 ·subst k1;exact⟨_,_,(qcnz hn h).1,(qcnz hn h).2,do_1 (qbln (by omega) (by omega))⟩
 by_cases k2:k=2
 ·subst k2;exact⟨_,_,(qbls hn h).1,(qbls hn h).2,do_2 (qbln (by omega) (by omega))⟩
 by_cases k3:k=3
 ·subst k3
  obtain⟨q,hq⟩:=qbl2 S.known a b
  have hqR:WitQ R.known a b q:=by rw[h.kn];exact hq
  exact⟨_,_,(qbve h ha hb hq pos).1,(qbve h ha hb hq pos).2,do_3 (qna pos hkR hlR (by omega) (by omega) (by omega) (by omega) hqR) (qjp pos hok (by omega) (by omega) (by omega) (by omega) (by omega) hq)⟩
 by_cases k4:k=4
 ·subst k4;exact⟨_,_,(q6b h m pos).1,(q6b h m pos).2,do_4⟩
 by_cases k5:k=5
 ·subst k5;exact⟨_,_,(qbl5 h ⟨cl,a⟩ pos).1,(qbl5 h ⟨cl,a⟩ pos).2,do_5 (by omega) (by omega)⟩
 by_cases k6:k=6
 ·subst k6;exact⟨_,_,(qcfg h).1,(qcfg h).2,do_6⟩
 by_cases k7:k=7
 ·subst k7;exact⟨_,_,(qcfl h m).1,(qcfl h m).2,do_7 (by unfold maxLen;omega)⟩
 by_cases k8:k=8
 ·subst k8;exact⟨_,_,(qbk4 h m z5 z6).1,(qbk4 h m z5 z6).2,do_8 (by omega) z5 z6⟩
 by_cases k9:k=9
 ·subst k9
  obtain⟨v,hv⟩:=q14 h.inv (by omega) h.fl z5 z6
  obtain⟨i,r,hr⟩:=qb3g (R:=R) h.flR t
  exact⟨S,R,h.up,Nxt.same rfl fun _=>⟨rfl,rfl⟩,do_9 (q1g (by omega) hkR h.flR z5 z6 hr) hv⟩
 ·exact⟨S,R,h.up,Nxt.same rfl fun _=>⟨rfl,rfl⟩,qcn9 (by omega)⟩

def V1:Ty:=.mk [] (-1) []
def V2:Ty:=.mk [] (-2) []
def F0:Ty:=.mk [33,48] 0 []
def I0:Ty:=.mk [73,110,116] 0 []
def TV:Ty:=.mk [84] 0 [V1]
def TI:Ty:=.mk [84] 0 [I0]
def CV:Pd:=⟨[67],V1⟩
def CI:Pd:=⟨[67],I0⟩
def K1:List Pr:=[⟨-1,I0⟩]
def K2:List Pr:=[⟨-2,F0⟩,⟨-1,I0⟩]
def H1:Tm:=.mk 14 1 [] [] [] []
def H0:Tm:=.mk 14 0 [] [] [] []
def N9:Tm:=.mk 2 9 [] [] [] []
def N0:Tm:=.mk 2 0 [] [] [] []
def A1:SS:=⟨1,0,0,0,[],[],[],[],0,0⟩
def A2:SS:=⟨2,0,0,0,[],[],[],[],0,0⟩
def A3:SS:=⟨2,1,0,0,[],[],[],[],0,0⟩
def A4:SS:=⟨2,1,0,0,K1,[],[],[],0,0⟩
def A5:SS:=⟨2,1,0,1,K1,[⟨CV,5,0⟩],[],[(0,1)],0,0⟩
def A6:SS:=⟨2,1,0,2,K1,[⟨CV,5,0⟩],[],[(0,1),(1,1)],0,0⟩
def A7:SS:=⟨2,1,0,2,K1,[⟨CV,5,0⟩],[(0,H1)],[(1,1)],0,0⟩
def A8:SS:=⟨2,1,0,2,K1,[⟨CV,5,0⟩],[(0,H1),(1,N9)],[],0,0⟩
def A9:SS:=⟨2,1,0,2,K2,[⟨CV,5,0⟩],[(0,H1),(1,N9)],[],0,0⟩
def AA:SS:=⟨2,1,0,2,K2,[⟨CV,5,0⟩],[(0,H1),(1,N9)],[],7,14⟩
def AB:SS:=⟨2,1,1,2,K2,[⟨CV,5,0⟩],[(0,H1),(1,N9)],[],7,14⟩
def AC:SS:=⟨2,1,2,2,K2,[⟨CV,5,0⟩],[(0,H1),(1,N9)],[],7,14⟩
theorem qbl7:digI 0=[48]:=by kernel_rfl
theorem qclp:digI 1=[49]:=by kernel_rfl
theorem qcjg:VM Tryz.prog 21 (stE S0) (stE A1) [.ptr 0 0] (encY V1):=qcw (q5a S0) rfl rfl
theorem qcih:VM Tryz.prog 21 (stE A1) (stE A2) [.ptr 0 0] (encY V2):=qcw (q5a A1) rfl rfl
theorem qcgh:VM Tryz.prog 22 (stE A2) (stE A3) [.ptr 0 0] (encY F0):=qcw (qbl3 A2) rfl (by rw[show IntKind.i64.wrap (IntKind.i64.wrap (A2.fixed+1)-1)=0 from rfl,qbl7];rfl)
theorem qclh:WitQ [] V1 I0 (K1,0):=by
 unfold WitQ
 rw[if_pos (by rfl),if_pos (by rfl)]
 exact⟨(K1,0),by rw[UniQ,if_pos ⟨rfl,rfl⟩];exact⟨10,rfl⟩,by rw[if_pos rfl];rfl⟩
theorem qclj:WitQ K1 F0 V2 (K2,0):=by
 unfold WitQ
 rw[if_pos (by kernel_rfl),if_pos (by kernel_rfl)]
 exact⟨([⟨-2,F0⟩],0),by rw[UniQ,if_pos ⟨by kernel_rfl,by kernel_rfl⟩];exact⟨10,by kernel_rfl⟩,by rw[if_pos rfl];kernel_rfl⟩
theorem qcno:WitQ K2 F0 I0 ([],14):=by
 unfold WitQ
 rw[if_pos (by kernel_rfl),if_pos (by kernel_rfl)]
 exact⟨([],14),by rw[UniQ,if_pos ⟨by kernel_rfl,by kernel_rfl⟩];exact⟨10,by kernel_rfl⟩,by rw[if_neg (by decide)]⟩
theorem qbd0:okS K1:=(show newR K1=K1 from rfl) ▸ qme K1
theorem qcoo:okS K2:=(show newR K2=K2 by kernel_rfl) ▸ qme K2
theorem qcl1:VM Tryz.prog 12 (stE A3) (stE A4) [.ptr 0 0,encY V1,encY I0,.int .i64 3] (.bool true):=qcw (qjp (S:=A3) 3 qek (by decide) (by decide) (by decide) (by decide) (by decide) qclh) rfl rfl
theorem qck8:VM Tryz.prog 12 (stE A8) (stE A9) [.ptr 0 0,encY F0,encY V2,.int .i64 4] (.bool true):=qcw (qjp (S:=A8) 4 qbd0 (by decide) (by decide) (by decide) (by decide) (by decide) qclj) rfl rfl
theorem qcft:VM Tryz.prog 12 (stE A9) (stE AA) [.ptr 0 0,encY F0,encY I0,.int .i64 7] (.bool false):=qcw (qjp (S:=A9) 7 qcoo (by decide) (by decide) (by decide) (by decide) (by decide) qcno) rfl rfl
theorem qcoh:VM Tryz.prog 15 (stE A4) (stE A4) [.ptr 0 0,encY TV] (encY TI):=qcw (qng (S:=A4) (t:=TV) (by decide) (qd2 qbd0) (by decide)) rfl (congrArg encY (by rfl))
theorem qcl2:VM Tryz.prog 25 (stE A4) (stE A5) [.ptr 0 0,encP CV,.int .i64 5] (.int .i64 0):=qcw (q37 (S:=A4) CV 5 (by decide)) rfl rfl
theorem qckr:VM Tryz.prog 26 (stE A5) (stE A6) [.ptr 0 0] (.int .i64 1):=qcw (q59 A5) rfl rfl
theorem qckq:VM Tryz.prog 27 (stE A6) (stE A6) [.ptr 0 0,.int .i64 0] (.sl 6 (qbh [⟨CI,5,0⟩])):=qcw (qbjc (S:=A6) (n:=0) (by decide) qbd0 (by decide) (fun w hw=>by rw[show A6.waits=[⟨CV,5,0⟩] from rfl,List.mem_singleton] at hw;subst hw;decide)) rfl rfl
theorem qcfp:VM Tryz.prog 28 (stE A6) (stE A7) [.ptr 0 0,.int .i64 0,encT H1] (.int .i64 0):=qcw (qq9 A6 0 H1) rfl rfl
theorem qcka:VM Tryz.prog 28 (stE A7) (stE A8) [.ptr 0 0,.int .i64 1,encT N9] (.int .i64 0):=qcw (qq9 A7 1 N9) rfl rfl
theorem qck1:VM Tryz.prog 28 (stE AA) (stE AA) [.ptr 0 0,.int .i64 1,encT N0] (.int .i64 6):=qcw (qq9 AA 1 N0) rfl rfl
theorem qckc:qil A8 (lsV A8.known) (lsT A8.known) 4096 H0 4095 N9:=qr1 (u:=H1) (j:=0) rfl rfl (qr1 (u:=N9) (j:=1) rfl rfl (qbbp (by decide) rfl rfl (by decide) (by decide)))
theorem qclc:VM Tryz.prog 30 (stE A8) (stE A8) [.ptr 0 0,encT H0] (encT N9):=qcw (q7u (S:=A8) (by decide) (qd2 qbd0) qckc) rfl (congrArg encT (by rfl))
theorem qcnk:VM Tryz.prog 19 (stE AA) (stE AA) [.ptr 0 0] (.tup [.int .i64 7,.int .i64 14]):=qcw (qb43 AA) rfl rfl
theorem qchl:VM Tryz.prog 23 (stE AA) (stE AB) [.ptr 0 0] (.str [35,48]):=qcw (qxq AA) rfl (by rw[show IntKind.i64.wrap (IntKind.i64.wrap (AA.names+1)-1)=0 from rfl,qbl7])
theorem qcf3:VM Tryz.prog 23 (stE AB) (stE AC) [.ptr 0 0] (.str [35,49]):=qcw (qxq AB) rfl (by rw[show IntKind.i64.wrap (IntKind.i64.wrap (AB.names+1)-1)=1 from rfl,qclp])
theorem qchj:qj Tryz.prog 38 [encY TI] (.str [84,32,73,110,116]):=qoy (t:=TI) (by decide) (by decide) (by decide)
set_option maxRecDepth 4000

theorem qyp{L:List Ent}{Q:List Ent->VO->Prop}(hq:Q (L++[stE S0]) (.val (.ptr L.length 0))):VApp Tryz.prog L (.fn 11 [] []) [] Q:=qjv qclf rfl (by rfl) hq
theorem qcof:AV.agg [.str [73,110,116],.int .i64 0,.sl 3 []]=encY I0:=rfl
theorem qcnu:AV.agg [.str [84],.int .i64 0,.sl 3 [encY V1]]=encY TV:=by simp only[TV,encY,qg]
theorem qcg2:AV.agg [.str [67],.str V1.con,.int .i64 V1.var,.sl 3 (qg V1.args)]=encP CV:=rfl
theorem qcko:AV.agg [.int .i64 14,.int .i64 1,.str [],.sl 1 [],.sl 3 [],.sl 6 []]=encT H1:=by simp only[H1,encT,ints,List.map_nil,qg,qbn]
theorem qch8:AV.agg [.int .i64 14,.int .i64 0,.str [],.sl 1 [],.sl 3 [],.sl 6 []]=encT H0:=by simp only[H0,encT,ints,List.map_nil,qg,qbn]
theorem qcfa:AV.agg [.int .i64 2,.int .i64 9,.str [],.sl 1 [],.sl 3 [],.sl 6 []]=encT N9:=by simp only[N9,encT,ints,List.map_nil,qg,qbn]
theorem q8e:AV.agg [.int .i64 2,.int .i64 0,.str [],.sl 1 [],.sl 3 [],.sl 6 []]=encT N0:=by simp only[N0,encT,ints,List.map_nil,qg,qbn]
theorem qch5:(qbh [⟨CI,5,0⟩]).getD 0 .junk=qel ⟨CI,5,0⟩:=rfl
theorem qbb7(a b:Ty)(k:Int):AV.bds 0 [encY a,encY b,.int .i64 k]=true:=by simp only[AV.bds,AV.bd,qx,Bool.and_true]
theorem qcly(k:Int)(t:Tm):AV.bds 0 [.int .i64 k,encT t]=true:=by simp only[AV.bds,AV.bd,qb5,Bool.and_true]
theorem qcoq(p:Pd)(k:Int):AV.bds 0 [encP p,.int .i64 k]=true:=by simp only[AV.bds,AV.bd,qrb,Bool.and_true]
theorem qcn8(t:Tm):AV.bds 0 [encT t]=true:=by simp only[AV.bds,qb5,Bool.and_true]
theorem qw9(t:Ty):AV.bds 0 [encY t]=true:=by simp only[AV.bds,qx,Bool.and_true]
theorem qcog(l:List Wt):(AV.sl 6 (qbh l)).bd 0=true:=by simp only[AV.bd,qcv]
theorem qbyy:VM Tryz.prog 28 (stE AA) (stE AA) [.ptr 0 0,.int .i64 1,.agg [.int .i64 2,.int .i64 0,.str [],.sl 1 [],.sl 3 [],.sl 6 []]] (.int .i64 6):=by rw[q8e];exact qck1
theorem qcn2:AV.bds 0 [.int .i64 1,.agg [.int .i64 2,.int .i64 0,.str [],.sl 1 [],.sl 3 [],.sl 6 []]]=true:=rfl
set_option maxHeartbeats 4000000 in
theorem qc6:qj Tryz.prog 10 [] (.bool true):=by
 refine qd c0gf (by simp) (by simp only[go_sem]) rfl fun hw=>?_
 unfold k0gf
 generalize hz:qy5=z1
 repeat'(first|refine vs_ ?_|(refine vr_ ?_<;>try simp only[qcof,qcnu,qcg2,qcko,qch8,qcfa,q8e,go_sem,↓reduceIte])|((first|(refine cs_ ?_ ?_<;>intro hc)|refine cj_ ?_|refine qyp ?_|refine qca 0 qcjg ?_|refine qca 0 qcih ?_|refine qca 0 qcgh ?_|refine qv 0 qcl1 (qbb7 _ _ _) rfl ?_|refine qv 0 qcoh (qw9 _) (qx 0 _) ?_|refine qv 0 qcl2 (qcoq _ _) rfl ?_|refine qca 0 qckr ?_|refine qv 0 qckq rfl (qcog _) ?_|refine qv 0 qcfp (qcly _ _) rfl ?_|refine qv 0 qcka (qcly _ _) rfl ?_|refine qv 0 qclc (qcn8 _) (qb5 0 _) ?_|refine qv 0 qck8 (qbb7 _ _ _) rfl ?_|refine qv 0 qcft (qbb7 _ _ _) rfl ?_|refine qca 0 qcnk ?_)<;>try refine ev_ ?_)|with_reducible exact ti_)
 subst hz
 have q1:V1.var = -1:=rfl
 have q2:V2.var = -2:=rfl
 have q3:F0.con=[33,48]:=rfl
 have q4:CI.ty.con=[73,110,116]:=rfl
 have q5:N9.num=9:=rfl
 have q6:N9.kind=2:=rfl
 repeat'(first|refine vs_ ?_|(refine vr_ ?_<;>try simp only[q1,q2,q3,q4,q5,q6,q8e,qch5,qft,List.length_singleton,Int.reduceEq,Int.reduceNeg,decide_true,decide_false,Bool.false_eq_true,go_sem,↓reduceIte])|((first|simp (disch:=omega) only[qch5]|(refine cs_ ?_ ?_<;>intro hc)|refine cj_ ?_|refine qa qchj fun _=>?_|refine qv 0 qbyy qcn2 rfl ?_|refine qca 0 qchl ?_|refine qca 0 qcf3 ?_)<;>try refine ev_ ?_)|with_reducible exact ti_)
 all_goals first | (exfalso;omega) | exact absurd q4 hc
end Go.Proofs.YtkenggenkmfopaaGreat
