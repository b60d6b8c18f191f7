/- Texts of this proof, joined. -/
import Derived.Test.YtkenggenkmfopaaGreatIac
import Derived.RangeFuncLeaves
import Derived.TacticsIn
set_option linter.unusedVariables false
set_option linter.unusedSimpArgs false

/-
 The value logic, part l: code: calls, lists of operations, and the rules of control.
-/
namespace Go.V
open Go Go.RowKit

def fw(fr:Option Nat):Fence:={ Fence.wide with round:=fr }

inductive VE where
 | nrm
 | ext (id:Nat)
 | gto (l:Nat)
 | ret
 | pan (v:AV)

inductive VO where
 | val (v:AV)
 | pan (v:AV)

structure ExtM(m:Nat)(w:World)(M:Nat->Nat->Prop)(G:List Gh)(w':World)(M':Nat->Nat->Prop)(G':List Gh):Prop where
 os:w'.os=w.os
 tape:w'.tape=w.tape
 output:w'.output=w.output
 size:w.heap.size≤w'.heap.size
 core:∀(i:Nat) (g:Gh),i<m->G[i]?=some g->∃g':Gh,G'[i]?=some g'∧g'.core=g.core
 le:Le w M w' M'
 out:∀b,b<w.heap.size->¬own G b->w'.heap[b]?=w.heap[b]?
 new:∀b,own G' b->own G b∨w.heap.size≤b
 Mnew:∀b o,M' b o->M b o∨own G b∨w.heap.size≤b

section
variable {w w' w'':World} {M M' M'':Nat->Nat->Prop} {G G' G'':List Gh} {H H':List Ent} {m:Nat}

theorem Ext.toM(h:Ext w M G w' M' G'):ExtM m w M G w' M' G':=⟨h.os,h.tape,h.output,h.size,fun i g _ hg=>h.core i g hg,h.le,h.out,h.new,h.Mnew⟩
theorem ExtM.refl:ExtM m w M G w M G:=(Ext.refl w M G).toM
theorem ExtM.trans(h:ExtM m w M G w' M' G')(k:ExtM m w' M' G' w'' M'' G''):ExtM m w M G w'' M'' G'' where
 os:=k.os.trans h.os
 tape:=k.tape.trans h.tape
 output:=k.output.trans h.output
 size:=Nat.le_trans h.size k.size
 core:=fun i g hi hg=>by
  obtain⟨g',hg',hc⟩:=h.core i g hi hg
  obtain⟨g'',hg'',hc'⟩:=k.core i g' hi hg'
  exact⟨g'',hg'',hc'.trans hc⟩
 le:=h.le.trans k.le
 out:=fun b hb ho=>by
  have h1:=h.out b hb ho
  have h2:¬own G' b:=fun hc=>by
   rcases h.new b hc with hx | hx
   ·exact ho hx
   ·omega
  exact(k.out b (Nat.lt_of_lt_of_le hb h.size) h2).trans h1
 new:=fun b hb=>by
  rcases k.new b hb with hx | hx
  ·exact h.new b hx
  ·exact .inr (Nat.le_trans h.size hx)
 Mnew:=fun b o hm=>by
  rcases k.Mnew b o hm with hx | hx | hx
  ·exact h.Mnew b o hx
  ·rcases h.new b hx with hy | hy
   ·exact .inr (.inl hy)
   ·exact .inr (.inr hy)
  ·exact .inr (.inr (Nat.le_trans h.size hx))
theorem ExtM.toExt(h:ExtM G.length w M G w' M' G'):Ext w M G w' M' G' :=
 ⟨h.os,h.tape,h.output,h.size,fun i g hg=>h.core i g (List.getElem?_eq_some_iff.1 hg).1 hg,h.le,h.out,h.new,h.Mnew⟩

def Out(Q:List Ent->VO->Prop)(w:World)(M:Nat->Nat->Prop)(G:List Gh):Ending->World->Prop
 | .returned x,w'=>∃M' G' H' v,Q H' (.val v)∧Ext w M G w' M' G'∧St w' M' G' H'∧VR w' M' G' v x
 | .panicked chain,w'=>∃M' G' H' v x,Q H' (.pan v)∧Ext w M G w' M' G'∧St w' M' G' H'∧VR w' M' G' v x∧chain=[{ v:=x,recovered:=false }]
 | .outgrown,_=>False

theorem Out.mono{Q Q':List Ent->VO->Prop}(hq:∀H' o,Q H' o->Q' H' o){e:Ending}{w':World}(h:Out Q w M G e w'):Out Q' w M G e w':=by
 cases e with
 | returned x=>obtain⟨M',G',H',v,h1,h2⟩:=h;exact⟨M',G',H',v,hq _ _ h1,h2⟩
 | panicked c=>obtain⟨M',G',H',v,x,h1,h2⟩:=h;exact⟨M',G',H',v,x,hq _ _ h1,h2⟩
 | outgrown=>exact h

end

def okF(P:Program)(f:FuncId):Bool :=
 match P.funcs[f]? with
 | some fn => fn.name != "runtime.NumGoroutine" && fn.body.isSome
 | none=>false

def VCalls(P:Program)(f:FuncId)(H:List Ent)(args:List AV)(Q:List Ent->VO->Prop):Prop :=
 okF P f=true∧∀(w:World) (M:Nat->Nat->Prop) (G:List Gh) (vs:List Value),St w M G H->VRs w M G args vs->CallsIn Fence.wide 0 P f vs.toArray w (Out Q w M G)

def AppOut(P:Program)(x:Value)(args:Array Value)(w:World)(R:Ending->World->Prop):Prop :=
 ∃ d w₁, (Deferred.ofValue x args).run P w = .ok d w₁ ∧
   match (invoke d.target d.args).run P w₁ with
   | .ok (.value v) w'=>R (.returned v) w'
   | .ok (.enter f as) w'=>CallsIn Fence.wide 0 P f as w' R
   | .ok (.round l f tmps assign body) w'=>RoundIn Fence.wide 0 P l f tmps assign body w' R
   | .halt (.panic v) w'=>R (.panicked [{ v,recovered:=false }]) w'
   | _=>False

def AppG(P:Program)(fv:AV)(x:Value)(args:Array Value)(w:World)(R:Ending->World->Prop):Prop :=
 match mkOf fv with
 | some m=>∃v w',(m.sem args).run P w=.ok v w'∧R (.returned v) w'
 | none=>AppOut P x args w R
def VApp(P:Program)(H:List Ent)(fv:AV)(args:List AV)(Q:List Ent->VO->Prop):Prop :=
 ∀(w:World) (M:Nat->Nat->Prop) (G:List Gh) (x:Value) (vs:List Value),St w M G H->(mkOf fv=none->VR w M G fv x)->VRs w M G args vs->AppG P fv x vs.toArray w (Out Q w M G)
theorem qceo{w:World}{M:Nat->Nat->Prop}{G:List Gh}{fv:AV}{m:MOp}{x:Value}(h:mkOf fv=some m):¬VR w M G fv x:=by
 unfold mkOf at h
 split at h
 all_goals first
  | (cases h;done)
  | (intro hx
     obtain⟨a,cap,us,h1,_,h2,_⟩:=hx
     have h1:us=[]:=h1
     subst h1
     simp at h2)

section
variable {P:Program} {H:List Ent} {f:FuncId} {args:List AV} {Q Q':List Ent->VO->Prop}

theorem VCalls.mono(h:VCalls P f H args Q)(hq:∀H' o,Q H' o->Q' H' o):VCalls P f H args Q' :=
 ⟨h.1,fun w M G vs hst hv=>CallsIn.mono (h.2 w M G vs hst hv) fun e w' he=>he.mono hq⟩

theorem AppOut.mono{x:Value}{as:Array Value}{w:World}{R R':Ending->World->Prop}(h:AppOut P x as w R)(hr:∀e w',R e w'->R' e w'):AppOut P x as w R':=by
 obtain⟨d,w₁,h1,h2⟩:=h
 refine⟨d,w₁,h1,?_⟩
 split at h2
 ·exact hr _ _ h2
 ·exact CallsIn.mono h2 hr
 ·exact RoundIn.mono h2 hr
 ·exact hr _ _ h2
 ·exact h2.elim

theorem AppG.mono{fv:AV}{x:Value}{as:Array Value}{w:World}{R R':Ending->World->Prop}(h:AppG P fv x as w R)(hr:∀e w',R e w'->R' e w'):AppG P fv x as w R':=by
 unfold AppG at h ⊢
 cases hm:mkOf fv with
 | some m=>rw[hm] at h;obtain⟨v,w',h1,h2⟩:=h;exact⟨v,w',h1,hr _ _ h2⟩
 | none=>rw[hm] at h;exact AppOut.mono h hr
theorem AppG.eq{fv fv':AV}{x:Value}{as:Array Value}{w:World}{R:Ending->World->Prop}(he:mkOf fv=mkOf fv')(h:AppG P fv x as w R):AppG P fv' x as w R:=by
 unfold AppG at h ⊢
 rw[←he];exact h
theorem AppG.out{fv:AV}{x:Value}{as:Array Value}{w:World}{R:Ending->World->Prop}(he:mkOf fv=none)(h:AppG P fv x as w R):AppOut P x as w R:=by
 unfold AppG at h
 rw[he] at h;exact h
theorem VApp.mono{fv:AV}(h:VApp P H fv args Q)(hq:∀H' o,Q H' o->Q' H' o):VApp P H fv args Q' :=
 fun w M G x vs hst hf hv=>(h w M G x vs hst hf hv).mono fun e w' he=>he.mono hq

theorem qli{w:World}{as:Array Value}(h:okF P f=true):(callFunc f as).run P w=.ok (.enter f as) w:=by
 unfold okF at h
 split at h
 ·rename_i fn hf
  simp only[Bool.and_eq_true,bne_iff_ne,ne_eq] at h
  obtain⟨h1,h2⟩:=h
  have h3:fn.body.isNone=false:=by cases hb:fn.body<;>simp_all
  have h4 : (fn.name == "runtime.NumGoroutine") = false := by simpa using h1
  simp only[callFunc,Sem.run_bind,run_program,Result.andThen_ok,hf,h3,h4,Bool.false_eq_true,if_false,Sem.run_pure]
 ·cases h

theorem qb1{first caps:List AV}(h:VCalls P f H (first++args++caps) Q):VApp P H (.fn f first caps) args Q:=by
 intro w M G x vs hst hf hv
 obtain⟨xs,ys,h1,h2,rfl⟩:=hf rfl
 show AppOut P _ _ w _
 refine⟨_,w,rfl,?_⟩
 have hr:(invoke (Target.fn (.func f) ys.toArray) (xs.toArray++vs.toArray)).run P w=.ok (.enter f ((xs++vs++ys).toArray)) w:=by
  simp only[invoke]
  rw[qli h.1]
  simp
 simp only[hr]
 exact h.2 w M G _ hst (qbw (qbw h1 hv) h2)
end

/-! ### Lists of operations -/

def gd(v:AV)(b:Bool)(A B:Prop):Prop :=
 match v with
 | .bool c=>if c=b then A else B
 | .tup []=>B
 | _=>False

@[congr] theorem qck2{v v':AV}(h:v=v')(b:Bool)(A B:Prop):gd v b A B=gd v' b A B:=by rw[h]

def doI(P:Program)(Q:VE->AF->List Ent->Prop)(af:AF)(H:List Ent)(i:I)(K:AV->List Ent->Prop):Prop :=
 match i with
 | .call f l => VApp P H (gt af f) (gco H af l) fun H' o => match o with
   | .val v=>K v H'
   | .pan v=>Q (.pan v) af H'
 | i=>(evi af H i).bnd fun p=>K p.1 p.2

def runL(P:Program)(Q:VE->AF->List Ent->Prop):List GI->AF->List Ent->Prop
 | [],af,H=>Q .nrm af H
 | ⟨none,d,i⟩::r,af,H=>doI P Q af H i fun v H'=>runL P Q r (put af d v) H'
 | ⟨some (t,b),d,i⟩::r,af,H=>gd (get af.tm t) b (doI P Q af H i fun v H'=>runL P Q r (put af d v) H') (runL P Q r (put af d (.tup [])) H)

def qbgj(w:World)(M:Nat->Nat->Prop)(G:List Gh):VE->Exit->Prop
 | .nrm,e=>e=.normal
 | .ext i,e=>e=.exit i
 | .gto l,e=>e=.goto l
 | .ret,e=>e=.ret
 | .pan v,e=>∃x,e=.panic [{ v:=x,recovered:=false }]∧VR w M G v x

def VPost(Q:VE->AF->List Ent->Prop)(n m:Nat)(w:World)(M:Nat->Nat->Prop)(G:List Gh)(e:Exit)(a':Act)(w':World):Prop :=
 ∃ve af' M' G' H',Q ve af' H'∧qbgj w' M' G' ve e∧ExtM m w M G w' M' G'∧St w' M' G' H'∧RelF w' M' G' n af' a'

def VW(P:Program)(fr:Option Nat)(n m:Nat)(c:Code)(Q:VE->AF->List Ent->Prop)(af:AF)(H:List Ent):Prop :=
 ∀(w:World) (M:Nat->Nat->Prop) (G:List Gh) (a:Act),St w M G H->RelF w M G n af a->c.wpIn (fw fr) 0 P (VPost Q n m w M G) a w

section
variable {P:Program} {fr:Option Nat} {n m:Nat} {Q:VE->AF->List Ent->Prop} {af:AF} {H:List Ent} {ops:Array Oper}

theorem VPost.trans{w w₁:World}{M M₁:Nat->Nat->Prop}{G G₁:List Gh}(h:ExtM m w M G w₁ M₁ G₁){e:Exit}{a':Act}{w':World}(hp:VPost Q n m w₁ M₁ G₁ e a' w'):VPost Q n m w M G e a' w':=by
 obtain⟨ve,af',M',G',H',h1,h2,h3,h4,h5⟩:=hp
 exact⟨ve,af',M',G',H',h1,h2,h.trans h3,h4,h5⟩

theorem qsr{w:World}{M:Nat->Nat->Prop}{G:List Gh}:VR w M G (.tup []) undef:=⟨[],rfl,rfl⟩

theorem qkt{k:Nat}{f:FuncId}{as:Array Value}{w:World}{R:Ending->World->Prop}(h:CallsIn Fence.wide 0 P f as w R):CallsIn (fw fr) k P f as w R:=by
 refine⟨trivial,fun cs hr=>?_⟩
 exact h.2 cs (room_wide _)
theorem qpk{k l:Nat}{f:FuncId}{tmps:Array Value}{as bd:Code}{w:World}{R:Ending->World->Prop}(h:RoundIn Fence.wide 0 P l f tmps as bd w R):RoundIn (fw fr) k P l f tmps as bd w R :=
 ⟨trivial,fun c cs hr=>h.2 c cs (room_wide _)⟩

theorem qbpe{o:Oper}{c:Call}{x y:Operand}{t:TypeId}{ts:List TypeId}(ho:o.op=.call c)(hb:c.callee=.builtin .delete)(hx:c.args.toList=[x,y])(ht:c.argTypes.toList=t::ts)(ρ:Operand->Value){w w':World}{v:Value}(h:((MOp.del t).sem ([x,y].map ρ).toArray).run P w=.ok v w'):(execOp ρ o).run P w=.ok (.value v) w':=by
 have ha:c.args.map ρ = #[ρ x,ρ y]:=by
  apply Array.ext';simp[hx]
 have h0:c.argTypes[0]?=some t:=by
  have:c.argTypes.toList[0]?=some t:=by rw[ht];rfl
  simpa using this
 have hd:Builtin.delete_ c.argTypes o.type #[ρ x,ρ y]=Builtin.delete_ #[t] t #[ρ x,ρ y]:=by
  unfold Builtin.delete_
  rw[h0]
  rfl
 simp only[execOp,ho,resolve,hb,Sem.run_bind,Sem.run_pure,Result.andThen_ok,ha,invoke,builtin,hd]
 have h:(Builtin.delete_ #[t] t #[ρ x,ρ y]).run P w=.ok v w':=h
 rw[h]
 rfl
theorem q4m{o:Oper}{f:Opd}{l:List (Opd×Co)}(h:cI P o=some (.call f l)):(∃c g,o.op=.call c∧c.callee=.value g∧cO g=some f∧qla P c.args.toList c.argTypes.toList=some l) ∨
 ∃m as ts,f=.c (mkV m)∧qla P as ts=some l∧∀(ρ:Operand->Value) (w w':World) (v:Value),(m.sem (as.map ρ).toArray).run P w=.ok v w'->(execOp ρ o).run P w=.ok (.value v) w'∨((execOp ρ o).run P w=.ok .skip w'∧v=undef):=by
 unfold cI at h
 split at h
 case h_24 c ho =>
  unfold qbgv at h
  split at h
  ·rename_i g hg
   split at h
   ·rename_i a l' h1 h2
    simp only[Option.some.injEq,I.call.injEq] at h
    obtain⟨rfl,rfl⟩:=h
    exact .inl ⟨c,g,ho,hg,h1,h2⟩
   ·cases h
  ·cases h
  ·rename_i b hb
   split at h
   case h_5 x y t ts hx ht =>
    obtain⟨l',hl,he⟩:=Option.map_eq_some_iff.1 h
    simp only[I.call.injEq] at he
    obtain⟨rfl,rfl⟩:=he
    exact .inr ⟨.del t,[x,y],[],rfl,hl,fun ρ w w' v hv=>.inl (qbpe ho hb hx ht ρ hv)⟩
   all_goals
    exfalso
    repeat' split at h
    all_goals cases h
 case h_25 t ho =>
  simp only[Option.some.injEq,I.call.injEq] at h
  obtain⟨rfl,rfl⟩:=h
  refine .inr ⟨.make t,[],[],rfl,rfl,fun ρ w w' v hv=>.inl ?_⟩
  have hv:(Instr.makeMap t none).run P w=.ok v w':=hv
  simp only[execOp,ho,Option.map_none,Sem.run_bind,hv,Result.andThen_ok,Sem.run_pure]
 case h_26 t x i ok ho =>
  obtain⟨l',hl,he⟩:=Option.map_eq_some_iff.1 h
  simp only[I.call.injEq] at he
  obtain⟨rfl,rfl⟩:=he
  refine .inr ⟨.look t ok,[x,i],[],rfl,hl,fun ρ w w' v hv=>.inl ?_⟩
  have hv:(Instr.lookup t (ρ x) (ρ i) ok).run P w=.ok v w':=hv
  simp only[execOp,ho,Sem.run_bind,hv,Result.andThen_ok,Sem.run_pure]
 case h_27 t m i x ho =>
  split at h
  ·rename_i kt e hu
   obtain⟨l',hl,he⟩:=Option.map_eq_some_iff.1 h
   simp only[I.call.injEq] at he
   obtain⟨rfl,rfl⟩:=he
   refine .inr ⟨.upd t,[m,i,x],[t,kt,e],rfl,hl,fun ρ w w' v hv=>?_⟩
   have hv:(do Instr.mapUpdate t (ρ m) (ρ i) (ρ x);pure undef:Sem Value).run P w=.ok v w':=hv
   rw[Sem.run_bind] at hv
   cases hq:(Instr.mapUpdate t (ρ m) (ρ i) (ρ x)).run P w with
   | ok u w1 =>
     rw[hq] at hv
     simp only[Result.andThen_ok,Sem.run_pure,Result.ok.injEq] at hv
     obtain⟨rfl,rfl⟩:=hv
     refine .inr ⟨?_,rfl⟩
     simp only[execOp,ho,Sem.run_bind,hq,Result.andThen_ok,Sem.run_pure]
   | halt h w1=>rw[hq] at hv;cases hv
  ·cases h
 all_goals
  exfalso
  repeat' split at h
  all_goals first
   | (cases h;done)
   | (obtain⟨y,_,h⟩:=Option.map_eq_some_iff.1 h;cases h;done)

theorem qi1{w:World}{M:Nat->Nat->Prop}{G:List Gh}{a:Act}(hst:St w M G H)(hr:RelF w M G n af a):∀(xs:List Operand) (ts:List TypeId) (l:List (Opd×Co)),qla P xs ts=some l->VRs w M G (gco H af l) (xs.map a.eval)
 | [],ts,l,h=>by simp[qla] at h;subst h;rfl
 | x :: r, ts, l, h => by
   simp only[qla] at h
   split at h
   ·rename_i b l' hb hl
    simp only[Option.some.injEq] at h
    subst h
    exact⟨_,_,rfl,qdo hst _ _ _ (qt hb hr),qi1 hst hr r _ _ hl⟩
   ·cases h

theorem qii{fr:Option Nat}{o:Oper}(ρ:Operand->Value)(h:∀c,o.op≠.defer c):Oper.semAt fr ρ o=execOp ρ o:=by
 cases fr with
 | none=>exact Oper.semAt_none ρ o
 | some l=>exact Oper.semAt_some l ρ o h

theorem qmz{o:Oper}{i:I}(h:cI P o=some i):∀c,o.op≠.defer c:=by
 intro c hc
 simp[cI,hc] at h

theorem qnm{o:Oper}{i:I}{w:World}{M:Nat->Nat->Prop}{G:List Gh}{a:Act}{K:AV->List Ent->Prop}{R:Act->World->Prop}{S:Exit->Act->World->Prop}(hc:cI P o=some i)(hd:o.dst.all (· < n)=true)(hst:St w M G H)(hr:RelF w M G n af a)
 (h:doI P Q af H i K) (hR:∀v H' x w' M' G',K v H'->Ext w M G w' M' G'->St w' M' G' H'->VR w' M' G' v x->R (a.put o.dst x) w')
 (hS:∀v H' x w' M' G',Q (.pan v) af H'->Ext w M G w' M' G'->St w' M' G' H'->VR w' M' G' v x->S (.panic [{ v:=x,recovered:=false }]) a w'):o.wpIn (fw fr) 0 P a w R S:=by
 refine⟨fun _ _=>trivial,?_⟩
 rw[qii _ (qmz hc)]
 by_cases hcall:∃f l,i=.call f l
 ·obtain⟨f,l,rfl⟩:=hcall
  have hout:∀e w',Out (fun H' o=>match o with | .val v=>K v H' | .pan v=>Q (.pan v) af H') w M G e w'->(match e with
   | .returned v=>R (a.put o.dst v) w'
   | .panicked chain=>S (.panic chain) a w'
   | .outgrown=>LetsOut S):=by
   intro e w' ho
   cases e with
   | returned x=>obtain⟨M',G',H',v,q1,q2,q3,q4⟩:=ho;exact hR _ _ _ _ _ _ q1 q2 q3 q4
   | panicked ch=>obtain⟨M',G',H',v,x,q1,q2,q3,q4,rfl⟩:=ho;exact hS _ _ _ _ _ _ q1 q2 q3 q4
   | outgrown=>exact ho.elim
  simp only[doI] at h
  rcases q4m hc with ⟨c,g,ho,hcal,hg,hl⟩ | ⟨m,as,ts,rfl,hl,hsem⟩
  case inr =>
   have hxs:=qi1 hst hr _ _ _ hl
   obtain⟨v,w',h1,h2⟩:∃v w',(m.sem (as.map a.eval).toArray).run P w=.ok v w'∧Out (fun H' o=>match o with | .val v=>K v H' | .pan v=>Q (.pan v) af H') w M G (.returned v) w':=by
    have h':=h w M G undef _ hst (fun hn=>by have:=qmi m;rw[show gt af (.c (mkV m))=mkV m from rfl,this] at hn;cases hn) hxs
    unfold AppG at h'
    rw[show mkOf (gt af (.c (mkV m)))=some m from qmi m] at h'
    exact h'
   have h3:=hout _ _ h2
   rcases hsem a.eval w w' v h1 with h4 | ⟨h4,rfl⟩
   ·rw[h4];exact h3
   ·rw[h4];exact h3
  have hx:=qt hg hr
  have hxs:=qi1 hst hr _ _ _ hl
  have hn:mkOf (gt af f)=none:=by
   cases hm:mkOf (gt af f) with
   | none=>rfl
   | some m=>exact absurd hx (qceo hm)
  obtain⟨d,w₁,h1,h2⟩:=(h w M G _ _ hst (fun _=>hx) hxs).out hn
  have he:(execOp a.eval o).run P w=(invoke d.target d.args).run P w₁:=by
   simp only[execOp,ho,resolve,hcal,Sem.run_bind]
   have:c.args.map a.eval=(c.args.toList.map a.eval).toArray:=by
    apply Array.ext';simp
   rw[this,h1]
   rfl
  rw[he]
  split at h2
  ·rename_i v w' hq
   rw[hq]
   exact hout _ _ h2
  ·rename_i f' as w' hq
   rw[hq,Oper.uponIn_enter]
   refine⟨fun hh=>(by cases hh),CallsIn.mono (qkt h2) fun e w' he=>?_⟩
   have:=hout e w' he
   cases e<;>exact this
  ·rename_i l' f' tmps as bd w' hq
   rw[hq,Oper.uponIn_round]
   refine⟨fun hh=>(by cases hh),RoundIn.mono (qpk h2) fun e w' he=>?_⟩
   have:=hout e w' he
   cases e<;>exact this
  ·rename_i v w' hq
   rw[hq]
   exact hout _ _ h2
  ·exact h2.elim
 ·have hni:∀f l,i≠.call f l:=fun f l e=>hcall ⟨f,l,e⟩
  have h':(evi af H i).bnd fun p=>K p.1 p.2:=by
   cases i<;>first | exact h | exact absurd rfl (hni _ _)
  obtain⟨v,H',x,w',M',G',q1,q2,q3,q4,q5⟩:=qbiw hc hni hst hr h'
  rcases q5 with q5 | ⟨q5,rfl⟩
  ·rw[q5];exact hR _ _ _ _ _ _ q1 q2 q3 q4
  ·rw[q5];exact hR _ _ _ _ _ _ q1 q2 q3 q4

theorem qnp{o:Oper}{g:Option (Nat×Bool)}{w:World}{M:Nat->Nat->Prop}{G:List Gh}{a:Act}{A B:Prop}(hg:cG ops o.guard=some g)(hr:RelF w M G n af a)(h:match g with | none=>A | some (t,b)=>gd (get af.tm t) b A B):
 (Region.wanted o (yielded ops a.tmps)=true∧A)∨(Region.wanted o (yielded ops a.tmps)=false∧B):=by
 cases hgo:o.guard with
 | none =>
   rw[hgo] at hg
   simp[cG] at hg;subst hg
   exact .inl ⟨by simp[Region.wanted,hgo],h⟩
 | some p =>
   obtain⟨j,b⟩:=p
   rw[hgo] at hg
   simp only[cG] at hg
   split at hg
   ·rename_i d hd
    simp only[Option.some.injEq] at hg;subst hg
    have hv:=hr.rd d
    simp only at h
    have hy:yielded ops a.tmps j=match a.tmps[d]? with | some (.bool b)=>some b | _=>none:=by
     unfold yielded;rw[hd];rfl
    unfold gd at h
    split at h
    ·rename_i c hc
     rw[hc] at hv
     have hv:a.tmps.getD d undef=.bool c:=hv
     have hv':a.tmps[d]?=some (.bool c):=by
      rw[Array.getD_eq_getD_getElem?] at hv
      cases hq:a.tmps[d]? with
      | none=>rw[hq] at hv;cases hv
      | some z=>rw[hq] at hv;simp at hv;rw[hv]
     rw[hv'] at hy
     simp only[Region.wanted,hgo,hy]
     by_cases hcb:c=b
     ·rw[if_pos hcb] at h;exact .inl ⟨by simp[hcb],h⟩
     ·rw[if_neg hcb] at h;exact .inr ⟨by simp[hcb],h⟩
    ·rename_i hc
     rw[hc] at hv
     obtain⟨vs,hv,hvs⟩:=hv
     refine .inr ⟨?_,h⟩
     have hy':yielded ops a.tmps j=none:=by
      rw[hy]
      rw[Array.getD_eq_getD_getElem?] at hv
      cases hq:a.tmps[d]? with
      | none=>rfl
      | some z=>rw[hq] at hv;simp at hv;rw[hv]
     simp[Region.wanted,hgo,hy']
    ·exact h.elim
   ·cases hg

theorem qkg{S:Exit->Act->World->Prop}{Q:VE->AF->List Ent->Prop}:∀(l:List Oper) (gl:List GI) (af:AF) (H:List Ent) (w:World) (M:Nat->Nat->Prop) (G:List Gh) (a:Act),cL P ops n l=some gl->St w M G H->RelF w M G n af a->runL P Q gl af H →
 (∀e a' w',VPost Q n m w M G e a' w'->S e a' w')->wpListIn (fw fr) 0 P ops S l a w
 | [], gl, af, H, w, M, G, a, hc, hst, hr, h, hS => by
   simp[cL] at hc;subst hc
   exact hS _ _ _ ⟨.nrm,af,M,G,H,h,rfl,ExtM.refl,hst,hr⟩
 | o :: r, gl, af, H, w, M, G, a, hc, hst, hr, h, hS => by
   simp only[cL] at hc
   split at hc
   ·rename_i gi l' hgi hl
    simp only[Option.some.injEq] at hc;subst hc
    unfold cGI at hgi
    split at hgi
    ·rename_i g i hg hi
     split at hgi
     ·rename_i hd
      simp only[Option.some.injEq] at hgi;subst hgi
      have hA:∀R,(∀a' w',wpListIn (fw fr) 0 P ops S r a' w'->R a' w')->doI P Q af H i (fun v H'=>runL P Q l' (put af o.dst v) H')->o.wpIn (fw fr) 0 P a w R S:=by
       intro R hR hdo
       refine qnm hi hd hst hr hdo (fun v H' x w' M' G' k1 k2 k3 k4=>hR _ _ ?_) (fun v H' x w' M' G' k1 k2 k3 k4=>hS _ _ _ ⟨.pan v,af,M',G',H',k1,⟨x,rfl,k4⟩,k2.toM,k3,hr.ext k2⟩)
       exact qkg r l' _ H' w' M' G' _ hl k3 ((hr.ext k2).put k4 hd) k1 (fun e a' w'' hp=>hS _ _ _ (hp.trans k2.toM))
      have hB:runL P Q l' (put af o.dst (.tup [])) H->wpListIn (fw fr) 0 P ops S r (a.put o.dst undef) w:=fun hh =>
       qkg r l' _ H w M G _ hl hst (hr.put qsr hd) hh hS
      have hsplit:=qnp (A:=doI P Q af H i (fun v H'=>runL P Q l' (put af o.dst v) H')) (B:=runL P Q l' (put af o.dst (.tup [])) H) hg hr (by
       cases g with
       | none=>exact h
       | some p=>exact h)
      simp only[wpListIn]
      rcases hsplit with ⟨h1,h2⟩ | ⟨h1,h2⟩
      ·rw[if_pos h1];exact hA _ (fun _ _ h=>h) h2
      ·rw[h1];exact⟨fun _ _=>trivial,hB h2⟩
     ·cases hgi
    ·cases hgi
   ·cases hc

theorem qcds{id:Nat}{gl:List GI}(hc:cL P ops n ops.toList=some gl)(h:runL P Q gl af H):VW P fr n m (.region id ops false) Q af H :=
 fun w M G a hst hr=>wpIn_region_list (qkg ops.toList gl af H w M G a hc hst hr h fun _ _ _ hp=>hp)
end
/-! ### Calls that get their arguments as they are -/

def rawO:List (Opd×Co)->List (Opd×Co)
 | []=>[]
 | (x,_)::r=>(x,.id)::rawO r
def rawI:I->I
 | .call f l=>.call f (rawO l)
 | i=>i
def rawL:List GI->List GI
 | []=>[]
 | ⟨g,d,i⟩::r=>⟨g,d,rawI i⟩::rawL r
section
variable {P:Program} {fr:Option Nat} {n m:Nat} {Q:VE->AF->List Ent->Prop} {af:AF} {H:List Ent} {ops:Array Oper}
theorem qn7{w:World}{M:Nat->Nat->Prop}{G:List Gh}{a:Act}(hst:St w M G H)(hr:RelF w M G n af a):∀(xs:List Operand) (ts:List TypeId) (l:List (Opd×Co)),qla P xs ts=some l->VRs w M G (gco H af (rawO l)) (xs.map a.eval)
 | [],ts,l,h=>by simp[qla] at h;subst h;rfl
 | x :: r, ts, l, h => by
   simp only[qla] at h
   split at h
   ·rename_i b l' hb hl
    simp only[Option.some.injEq] at h
    subst h
    exact⟨_,_,rfl,qt hb hr,qn7 hst hr r _ _ hl⟩
   ·cases h
theorem q5m{o:Oper}{i:I}{w:World}{M:Nat->Nat->Prop}{G:List Gh}{a:Act}{K:AV->List Ent->Prop}{R:Act->World->Prop}{S:Exit->Act->World->Prop}(hc:cI P o=some i)(hd:o.dst.all (· < n)=true)(hst:St w M G H)(hr:RelF w M G n af a)
 (h:doI P Q af H (rawI i) K) (hR:∀v H' x w' M' G',K v H'->Ext w M G w' M' G'->St w' M' G' H'->VR w' M' G' v x->R (a.put o.dst x) w')
 (hS:∀v H' x w' M' G',Q (.pan v) af H'->Ext w M G w' M' G'->St w' M' G' H'->VR w' M' G' v x->S (.panic [{ v:=x,recovered:=false }]) a w'):o.wpIn (fw fr) 0 P a w R S:=by
 by_cases hcall:∃f l,i=.call f l
 ·refine⟨fun _ _=>trivial,?_⟩
  rw[qii _ (qmz hc)]
  obtain⟨f,l,rfl⟩:=hcall
  have hout:∀e w',Out (fun H' o=>match o with | .val v=>K v H' | .pan v=>Q (.pan v) af H') w M G e w'->(match e with
   | .returned v=>R (a.put o.dst v) w'
   | .panicked chain=>S (.panic chain) a w'
   | .outgrown=>LetsOut S):=by
   intro e w' ho
   cases e with
   | returned x=>obtain⟨M',G',H',v,q1,q2,q3,q4⟩:=ho;exact hR _ _ _ _ _ _ q1 q2 q3 q4
   | panicked ch=>obtain⟨M',G',H',v,x,q1,q2,q3,q4,rfl⟩:=ho;exact hS _ _ _ _ _ _ q1 q2 q3 q4
   | outgrown=>exact ho.elim
  simp only[doI,rawI] at h
  rcases q4m hc with ⟨c,g,ho,hcal,hg,hl⟩ | ⟨m,as,ts,rfl,hl,hsem⟩
  case inr =>
   have hxs:=qn7 hst hr _ _ _ hl
   obtain⟨v,w',h1,h2⟩:∃v w',(m.sem (as.map a.eval).toArray).run P w=.ok v w'∧Out (fun H' o=>match o with | .val v=>K v H' | .pan v=>Q (.pan v) af H') w M G (.returned v) w':=by
    have h':=h w M G undef _ hst (fun hn=>by have:=qmi m;rw[show gt af (.c (mkV m))=mkV m from rfl,this] at hn;cases hn) hxs
    unfold AppG at h'
    rw[show mkOf (gt af (.c (mkV m)))=some m from qmi m] at h'
    exact h'
   have h3:=hout _ _ h2
   rcases hsem a.eval w w' v h1 with h4 | ⟨h4,rfl⟩
   ·rw[h4];exact h3
   ·rw[h4];exact h3
  have hx:=qt hg hr
  have hxs:=qn7 hst hr _ _ _ hl
  have hn:mkOf (gt af f)=none:=by
   cases hm:mkOf (gt af f) with
   | none=>rfl
   | some m=>exact absurd hx (qceo hm)
  obtain⟨d,w₁,h1,h2⟩:=(h w M G _ _ hst (fun _=>hx) hxs).out hn
  have he:(execOp a.eval o).run P w=(invoke d.target d.args).run P w₁:=by
   simp only[execOp,ho,resolve,hcal,Sem.run_bind]
   have:c.args.map a.eval=(c.args.toList.map a.eval).toArray:=by
    apply Array.ext';simp
   rw[this,h1]
   rfl
  rw[he]
  split at h2
  ·rename_i v w' hq
   rw[hq]
   exact hout _ _ h2
  ·rename_i f' as w' hq
   rw[hq,Oper.uponIn_enter]
   refine⟨fun hh=>(by cases hh),CallsIn.mono (qkt h2) fun e w' he=>?_⟩
   have:=hout e w' he
   cases e<;>exact this
  ·rename_i l' f' tmps as bd w' hq
   rw[hq,Oper.uponIn_round]
   refine⟨fun hh=>(by cases hh),RoundIn.mono (qpk h2) fun e w' he=>?_⟩
   have:=hout e w' he
   cases e<;>exact this
  ·rename_i v w' hq
   rw[hq]
   exact hout _ _ h2
  ·exact h2.elim
 ·have hi:rawI i=i:=by
   cases i<;>first | rfl | exact absurd ⟨_,_,rfl⟩ hcall
  rw[hi] at h
  exact qnm hc hd hst hr h hR hS
end

/-! ### What an operation qka at -/

def rdO:Opd->List Nat
 | .t n=>[n]
 | .c _=>[]
def rdOo:Option Opd->List Nat
 | none=>[]
 | some x=>rdO x
def rdOs:List Opd->List Nat
 | []=>[]
 | x::r=>rdO x++rdOs r
def rdC:List (Opd×Co)->List Nat
 | []=>[]
 | (x,_)::r=>rdO x++rdC r
def rdP:List (Nat×Nat×Opd)->List Nat
 | []=>[]
 | (_,_,x)::r=>rdO x++rdP r
def rdV:IV->List Nat
 | .mov x=>rdO x
 | .pick c a b=>rdO c++(rdO a++rdO b)
 | .bld _ ps=>rdP ps
 | .bsl _ ps=>rdC ps
 | .ld _ _ a=>rdO a
 | .fad x _=>rdO x
 | .fld _ _ _ x=>rdO x
 | .iad _ x i=>rdO x++rdO i
 | .aad _ _ x i=>rdO x++rdO i
 | .idx x i=>rdO x++rdO i
 | .ida _ _ _ x i=>rdO x++rdO i
 | .sls x l h=>rdO x++(rdOo l++rdOo h)
 | .sla _ x l=>rdO x++rdO l
 | .slv _ x l h m=>rdO x++(rdOo l++(rdOo h++rdOo m))
 | .mfn _ a b=>rdOs a++rdOs b
 | .len _ x=>rdO x
 | .bin _ _ x y=>rdO x++rdO y
 | .un _ x=>rdO x
 | .mm _ x y=>rdO x++rdO y
 | .ext x _=>rdO x
 | .nck x=>rdO x
 | .cvi _ x=>rdO x
 | .cvs x=>rdO x
 | .cbs x=>rdO x
 | .mki _ x _=>rdO x
 | .tya _ _ x=>rdO x
def rdI:I->List Nat
 | .v i=>rdV i
 | .box x=>rdO x
 | .alo _=>[]
 | .bld _ _=>[]
 | .st _ _ a x=>rdO a++rdO x
 | .mks _ _ _ l c=>rdO l++rdO c
 | .app _ _ _ _ x y=>rdO x++rdO y
 | .call f l=>rdO f++rdC l
def rdG(g:GI):List Nat :=
 match g.g with
 | some (t,_)=>t::rdI g.i
 | none=>rdI g.i

def qgw:I->Bool
 | .v _=>true
 | _=>false
def qgs:I->Bool
 | .v (.ld _ _ _) | .v (.slv _ _ _ _ _) | .v (.bsl _ _) | .v (.mki _ _ _) | .v (.cbs _)=>false
 | .v _=>true
 | _=>false

def AgF(l:List Nat)(af af':AF):Prop:=∀t∈l,get af.tm t=get af'.tm t

section
variable {af af':AF} {H:List Ent} {l r:List Nat}
theorem AgF.left(h:AgF (l++r) af af'):AgF l af af':=fun t ht=>h t (List.mem_append_left _ ht)
theorem AgF.right(h:AgF (l++r) af af'):AgF r af af':=fun t ht=>h t (List.mem_append_right _ ht)
theorem qbs{x:Opd}(h:AgF (rdO x) af af'):gt af x=gt af' x:=by
 cases x with
 | t n=>exact h n (by simp[rdO])
 | c v=>rfl
theorem qt8{x:Option Opd}(h:AgF (rdOo x) af af'):gto af x=gto af' x:=by
 cases x with
 | none=>rfl
 | some x=>simp only[gto];rw[qbs h]
theorem qbl3{xs:List Opd}(h:AgF (rdOs xs) af af'):gts af xs=gts af' xs:=by
 induction xs with
 | nil=>rfl
 | cons x r ih=>simp only[gts];rw[qbs h.left,ih h.right]
theorem qbb9{xs:List (Opd×Co)}(h:AgF (rdC xs) af af'):gco H af xs=gco H af' xs:=by
 induction xs with
 | nil=>rfl
 | cons p r ih =>
   obtain⟨x,c⟩:=p
   simp only[gco]
   rw[qbs (show AgF (rdO x) af af' from h.left),ih (show AgF (rdC r) af af' from h.right)]
theorem qb86{xs:List (Nat×Nat×Opd)}:∀{zs:List AV},AgF (rdP xs) af af'->bldv af xs zs=bldv af' xs zs:=by
 induction xs with
 | nil=>intro zs _;rfl
 | cons p r ih =>
   obtain⟨o,n,x⟩:=p
   intro zs h
   simp only[bldv]
   rw[qbs (show AgF (rdO x) af af' from h.left),ih (show AgF (rdP r) af af' from h.right)]

theorem qcko{i:I}(h:AgF (rdI i) af af'):evi af H i=evi af' H i:=by
 cases i with
 | v i =>
   simp only[evi]
   have:evv af H i=evv af' H i:=by
    cases i with
    | mov x=>simp only[evv,qbs (show AgF (rdO x) af af' from h)]
    | pick c a b=>simp only[evv,qbs (show AgF (rdO c) af af' from h.left),qbs (show AgF (rdO a) af af' from h.right.left),qbs (show AgF (rdO b) af af' from h.right.right)]
    | bld z ps=>simp only[evv,qb86 (show AgF (rdP ps) af af' from h)]
    | bsl n ps=>simp only[evv,qbb9 (H:=H) (show AgF (rdC ps) af af' from h)]
    | ld g n x=>simp only[evv,qbs (show AgF (rdO x) af af' from h)]
    | fad x o=>simp only[evv,qbs (show AgF (rdO x) af af' from h)]
    | fld g n o x=>simp only[evv,qbs (show AgF (rdO x) af af' from h)]
    | iad n x i=>simp only[evv,qbs (show AgF (rdO x) af af' from h.left),qbs (show AgF (rdO i) af af' from h.right)]
    | aad n q x i=>simp only[evv,qbs (show AgF (rdO x) af af' from h.left),qbs (show AgF (rdO i) af af' from h.right)]
    | idx x i=>simp only[evv,qbs (show AgF (rdO x) af af' from h.left),qbs (show AgF (rdO i) af af' from h.right)]
    | ida g n q x i=>simp only[evv,qbs (show AgF (rdO x) af af' from h.left),qbs (show AgF (rdO i) af af' from h.right)]
    | sls x a b=>simp only[evv,qbs (show AgF (rdO x) af af' from h.left),qt8 (show AgF (rdOo a) af af' from h.right.left),qt8 (show AgF (rdOo b) af af' from h.right.right)]
    | sla n x i=>simp only[evv,qbs (show AgF (rdO x) af af' from h.left),qbs (show AgF (rdO i) af af' from h.right)]
    | slv n x a b m=>simp only[evv,qbs (show AgF (rdO x) af af' from h.left),qt8 (show AgF (rdOo a) af af' from h.right.left),qt8 (show AgF (rdOo b) af af' from h.right.right.left),qt8 (show AgF (rdOo m) af af' from h.right.right.right)]
    | mfn f a b=>simp only[evv,qbl3 (show AgF (rdOs a) af af' from h.left),qbl3 (show AgF (rdOs b) af af' from h.right)]
    | len s x=>simp only[evv,qbs (show AgF (rdO x) af af' from h)]
    | bin o e x y=>simp only[evv,qbs (show AgF (rdO x) af af' from h.left),qbs (show AgF (rdO y) af af' from h.right)]
    | un o x=>simp only[evv,qbs (show AgF (rdO x) af af' from h)]
    | mm b x y=>simp only[evv,qbs (show AgF (rdO x) af af' from h.left),qbs (show AgF (rdO y) af af' from h.right)]
    | ext x i=>simp only[evv,qbs (show AgF (rdO x) af af' from h)]
    | nck x=>simp only[evv,qbs (show AgF (rdO x) af af' from h)]
    | cvi k x=>simp only[evv,qbs (show AgF (rdO x) af af' from h)]
    | cvs x=>simp only[evv,qbs (show AgF (rdO x) af af' from h)]
    | cbs x=>simp only[evv,qbs (show AgF (rdO x) af af' from h)]
    | mki t x c=>simp only[evv,qbs (show AgF (rdO x) af af' from h)]
    | tya t z x=>simp only[evv,qbs (show AgF (rdO x) af af' from h)]
   rw[this]
 | box x=>simp only[evi,qbs (show AgF (rdO x) af af' from h)]
 | alo z=>rfl
 | bld _ _=>rfl
 | st n c a x=>simp only[evi,qbs (show AgF (rdO a) af af' from h.left),qbs (show AgF (rdO x) af af' from h.right)]
 | mks n z b q c=>simp only[evi,qbs (show AgF (rdO q) af af' from h.left),qbs (show AgF (rdO c) af af' from h.right)]
 | app n z b c x y=>simp only[evi,qbs (show AgF (rdO x) af af' from h.left),qbs (show AgF (rdO y) af af' from h.right)]
 | call f q=>rfl
end

/-! ### What an operation touches -/

structure FP where
 rd:List Nat:=[]
 wr:List Nat:=[]
 al:Bool:=false
 top:Bool:=false

mutual
def rdCo:Co->AV->List Nat
 | .sl _,.row i _=>[i]
 | .agg l,.agg vs=>qmu l vs
 | _,_=>[]
def qmu:List Co->List AV->List Nat
 | [],_=>[]
 | _::_,[]=>[]
 | c::l,v::vs=>rdCo c v++qmu l vs
end
def rdPs(af:AF):List (Opd×Co)->List Nat
 | []=>[]
 | (x,c)::r=>rdCo c (gt af x)++rdPs af r
def ptrE:AV->List Nat
 | .ptr i _=>[i]
 | .rptr i _ _ _=>[i]
 | _=>[]
def vwE:AV->List Nat
 | .vw i _ _ _=>[i]
 | _=>[]
def rowE:AV->List Nat
 | .row i _=>[i]
 | _=>[]
def fpV(af:AF):IV->List Nat
 | .ld _ _ a=>ptrE (gt af a)
 | .slv _ x _ _ _=>rowE (gt af x)
 | .bsl _ ps=>rdPs af ps
 | .mki _ x c=>rdCo c (gt af x)
 | .cbs x=>vwE (gt af x)++rdCo (.sl 1) (gt af x)
 | _=>[]
inductive Md where
 | off
 | here
 | meth (k:Nat) (e e':Ent)
 | grow (k:Option (Nat×Ent)) (e':Ent) (ln:Nat)
 | lay (e':Ent)
 | layR (k:Nat) (e e':Ent) (c:AV)
def fpC(n:Nat)(rd:List Nat):Md->FP
 | .off=>{ rd }
 | .here=>{ rd,top:=true }
 | .meth k _ _=>{ rd:=k::rd,wr:=[k] }
 | .grow none _ _=>{ rd,wr:=[n],al:=true }
 | .grow (some p) _ _=>{ rd:=p.1::rd,wr:=[n,p.1],al:=true }
 | .lay _=>{ rd,wr:=[n],al:=true }
 | .layR k _ _ _=>{ rd:=k::rd,wr:=[n],al:=true }
def fpI(af:AF)(n:Nat)(top:Md):I->FP
 | .v i=>{ rd:=fpV af i }
 | .box _=>{ wr:=[n],al:=true }
 | .alo _=>{ wr:=[n],al:=true }
 | .bld _ _=>{ wr:=[n],al:=true }
 | .mks _ _ _ _ _=>{ wr:=[n],al:=true }
 | .st _ c a x=>{ rd:=rdCo c (gt af x),wr:=ptrE (gt af a) }
 | .app _ _ _ _ x y=>{ rd:=rowE (gt af y),wr:=n::rowE (gt af x),al:=true }
 | .call _ l=>fpC n (rdPs af l) top

def nin(k:Nat):List Nat->Bool
 | []=>true
 | a::r=>if k=a then false else nin k r
def disj:List Nat->List Nat->Bool
 | [],_=>true
 | k::r,l=>nin k l&&disj r l
def okFP(x y:FP):Bool :=
 disj x.wr y.rd&&(disj x.wr y.wr&&(disj y.wr x.rd&&(!(x.al&&y.al)&&((!x.top||(y.wr.isEmpty&&!y.al))&&(!y.top||(x.wr.isEmpty&&!x.al))))))

theorem q0w{k:Nat}:∀{l:List Nat},nin k l=true->k∉l
 | [],_=>by simp
 | a :: r, h => by
   unfold nin at h
   split at h
   ·cases h
   ·rename_i hk;simp[hk,q0w h]
theorem qi4:∀{l r:List Nat},disj l r=true->∀k∈l,k∉r
 | [],r,_,k,hk=>by cases hk
 | a :: l, r, h, k, hk => by
   simp only[disj,Bool.and_eq_true] at h
   rcases List.mem_cons.1 hk with rfl | hk
   ·exact q0w h.1
   ·exact qi4 h.2 k hk

structure okFPs(x y:FP):Prop where
 a:∀k∈x.wr,k∉y.rd
 b:∀k∈x.wr,k∉y.wr
 c:∀k∈y.wr,k∉x.rd
 d:x.al=true->y.al=true->False
 e:x.top=true->y.wr=[]∧y.al=false
 f:y.top=true->x.wr=[]∧x.al=false
theorem qvy{x y:FP}(h:okFP x y=true):okFPs x y:=by
 simp only[okFP,Bool.and_eq_true] at h
 obtain⟨h1,h2,h3,h4,h5,h6⟩:=h
 refine⟨qi4 h1,qi4 h2,qi4 h3,fun q r=>by simp[q,r] at h4,fun q=>?_,fun q=>?_⟩
 ·simpa [q,List.isEmpty_iff] using h5
 ·simpa [q,List.isEmpty_iff] using h6

/-! ### One operation, by what it yields -/

def PApp(P:Program)(H:List Ent)(fv:AV)(args:List AV)(r:AV):Prop:=VApp P H fv args fun H' o=>H'=H∧o=.val r

def setO(H:List Ent):Option (Nat×Ent)->List Ent
 | none=>H
 | some (k,e)=>H.set k e
def kd:Option (Nat×Ent)->Option (Nat×Ent)
 | none=>none
 | some p=>some (p.1,.dead)
def Gro(P:Program)(H:List Ent)(fv:AV)(raws:List AV)(k:Option (Nat×Ent))(e':Ent)(ln:Nat):Prop :=
 (∀p,k=some p->p.2≠.dead∧ent H p.1=p.2)∧∀H₀,(∀p,k=some p->ent H₀ p.1=p.2)->VApp P H₀ fv raws fun H'' o=>H''=setO H₀ (kd k)++[e']∧o=.val (.row H₀.length ln)

def Lays(P:Program)(fv:AV)(args:List AV)(e':Ent):Prop:=∀H₀,VApp P H₀ fv args fun H'' o=>H''=H₀++[e']∧o=.val (.ptr H₀.length 0)
def qch5(P:Program)(fv:AV)(args:List AV)(k:Nat)(e e':Ent)(c:AV):Prop:=∀H₀,ent H₀ k=e->VApp P H₀ fv args fun H'' o=>H''=H₀++[e']∧o=.val (.tup [.ptr H₀.length 0,c])
def Phi(P:Program)(top:Md)(af:AF)(H:List Ent)(i:I)(v:AV)(H':List Ent):Prop :=
 match i with
 | .call f l => (match top with
   | .here=>PApp P H (gt af f) (gco H af l) v∧H'=H
   | .off=>(∀H₀,PApp P H₀ (gt af f) (gco H af l) v)∧H'=H
   | .meth k e e'=>(e≠.dead∧ent H k=e∧∀H₀,ent H₀ k=e->VApp P H₀ (gt af f) (gco H af l) fun H'' o=>H''=H₀.set k e'∧o=.val v)∧H'=H.set k e'
   | .grow k e' ln=>(Gro P H (gt af f) (gco H af (rawO l)) k e' ln∧v=.row H.length ln)∧H'=setO H (kd k)++[e']
   | .lay e'=>(Lays P (gt af f) (gco H af l) e'∧v=.ptr H.length 0)∧H'=H++[e']
   | .layR k e e' c=>((ent H k=e∧qch5 P (gt af f) (gco H af l) k e e' c)∧v=.tup [.ptr H.length 0,c])∧H'=H++[e'])
 | i=>(evi af H i).bnd fun p=>p.1=v∧p.2=H'

structure EO where
 g:GI
 top:Md
 fp:FP

def Psi(P:Program)(e:EO)(af:AF)(H:List Ent)(v:AV)(H':List Ent):Prop :=
 e.fp=fpI af H.length e.top e.g.i ∧
 match e.g.g with
 | none=>Phi P e.top af H e.g.i v H'
 | some (t,b)=>gd (get af.tm t) b (Phi P e.top af H e.g.i v H') (v=.tup []∧H'=H)

def AFE(af af':AF):Prop:=af.dl=af'.dl∧∀t,get af.tm t=get af'.tm t

def Tr(P:Program):List (Nat×EO)->AF->List Ent->AF->List Ent->Prop
 | [],af,H,af',H'=>AFE af af'∧H=H'
 | (_,e)::r,af,H,af',H'=>∃v H1,Psi P e af H v H1∧Tr P r (put af e.g.d v) H1 af' H'

section
variable {P:Program} {af af' af'':AF} {H H':List Ent} {v:AV}

theorem AFE.refl(af:AF):AFE af af:=⟨rfl,fun _=>rfl⟩
theorem AFE.trans(h:AFE af af')(h':AFE af' af''):AFE af af'':=⟨h.1.trans h'.1,fun t=>(h.2 t).trans (h'.2 t)⟩
theorem AFE.symm(h:AFE af af'):AFE af' af:=⟨h.1.symm,fun t=>(h.2 t).symm⟩
theorem AFE.put(h:AFE af af')(d:Option Nat)(v:AV):AFE (put af d v) (put af' d v):=by
 cases d with
 | none=>exact h
 | some k=>exact⟨h.1,fun t=>by simp only[V.put,get];split<;>first | rfl | exact h.2 t⟩

theorem q7c{xs:List (Opd×Co)}(h:AgF (rdC xs) af af'):rdPs af xs=rdPs af' xs:=by
 induction xs with
 | nil=>rfl
 | cons p r ih =>
   obtain⟨x,c⟩:=p
   simp only[rdPs]
   rw[qbs (show AgF (rdO x) af af' from h.left),ih (show AgF (rdC r) af af' from h.right)]

theorem qcd3{i:I}{n:Nat}{top:Md}(h:AgF (rdI i) af af'):fpI af n top i=fpI af' n top i:=by
 cases i with
 | v i =>
   cases i with
   | ld g k x=>simp only[fpI,fpV,qbs (show AgF (rdO x) af af' from h)]
   | slv k x a b m=>simp only[fpI,fpV,qbs (show AgF (rdO x) af af' from h.left)]
   | bsl k ps=>simp only[fpI,fpV,q7c (show AgF (rdC ps) af af' from h)]
   | mki t x c=>simp only[fpI,fpV,qbs (show AgF (rdO x) af af' from h)]
   | cbs x=>simp only[fpI,fpV,qbs (show AgF (rdO x) af af' from h)]
   | _=>rfl
 | st k c a x=>simp only[fpI,qbs (show AgF (rdO a) af af' from h.left),qbs (show AgF (rdO x) af af' from h.right)]
 | app k z b c x y=>simp only[fpI,qbs (show AgF (rdO x) af af' from h.left),qbs (show AgF (rdO y) af af' from h.right)]
 | call f l=>simp only[fpI,q7c (show AgF (rdC l) af af' from h.right)]
 | _=>rfl

theorem q5d:∀l:List (Opd×Co),rdC (rawO l)=rdC l
 | []=>rfl
 | (x,c)::r=>by rw[rawO,rdC,rdC,q5d r]
theorem q8n(H H':List Ent)(af:AF):∀l:List (Opd×Co),gco H af (rawO l)=gco H' af (rawO l)
 | []=>rfl
 | (x, c) :: r => by
   rw[rawO,gco,gco,q8n H H' af r,show co H .id (gt af x)=gt af x from by rw[co]<;>simp,show co H' .id (gt af x)=gt af x from by rw[co]<;>simp]
theorem qblg{i:I}{top:Md}(h:AgF (rdI i) af af')(hp:Phi P top af H i v H'):Phi P top af' H i v H':=by
 cases i with
 | call f l =>
   simp only[Phi] at hp ⊢
   rw[←qbs (show AgF (rdO f) af af' from h.left),←qbb9 (show AgF (rdC l) af af' from h.right),←qbb9 (xs:=rawO l) (show AgF (rdC (rawO l)) af af' from by rw[q5d];exact h.right)]
   exact hp
 | _=>simp only[Phi] at hp ⊢;rw[←qcko h];exact hp

theorem AgF.sub{l r:List Nat}(h:AgF l af af')(hs:∀t∈r,t∈l):AgF r af af':=fun t ht=>h t (hs t ht)
theorem q84(g:GI):∀t∈rdI g.i,t∈rdG g:=fun t ht=>by
 unfold rdG;split<;>simp[ht]

theorem q4z{e:EO}(h:AgF (rdG e.g) af af')(hp:Psi P e af H v H'):Psi P e af' H v H':=by
 obtain⟨⟨gg,d,i⟩,top,fp⟩:=e
 obtain⟨hf,hp⟩:=hp
 refine⟨hf.trans (qcd3 (h.sub (q84 _))),?_⟩
 cases gg with
 | none=>exact qblg h hp
 | some p =>
   obtain⟨t,b⟩:=p
   simp only at hp ⊢
   have ht:get af.tm t=get af'.tm t:=h t (by simp[rdG])
   rw[←ht]
   unfold gd at hp ⊢
   split at hp
   ·split
    ·rename_i hc;rw[if_pos hc] at hp;exact qblg (h.sub (q84 ⟨some (t,b),d,i⟩)) hp
    ·rename_i hc;rw[if_neg hc] at hp;exact hp
   ·exact hp
   ·exact hp

theorem qblm:∀{l:List (Nat×EO)} {af₁ af₂:AF} {H:List Ent},AFE af₁ af₂->Tr P l af₁ H af' H'->Tr P l af₂ H af' H'
 | [],af₁,af₂,H,he,h=>⟨he.symm.trans h.1,h.2⟩
 | (_, g) :: r, af₁, af₂, H, he, h => by
   obtain⟨v,H1,h1,h2⟩:=h
   exact⟨v,H1,q4z (fun t _=>he.2 t) h1,qblm (he.put _ _) h2⟩

/-! ### An operation is the same wherever what it touches is the same -/

mutual
theorem q2e{H H':List Ent}:∀(c:Co) (v:AV),(∀k∈rdCo c v,ent H' k=ent H k)->co H' c v=co H c v
 | .sl n, .row i len, h => by
   have:=h i (by simp[rdCo])
   simp only[co,this]
 | .agg l, .agg vs, h => by
   simp only[co]
   rw[qblf l vs (fun k hk=>h k (by simpa only[rdCo] using hk))]
 | .id,v,_=>by cases v<;>simp only[co]
 | .sl n,.nils,_=>by simp only[co]
 | .sl n,.lit m es,_=>by simp only[co]
 | .sl n,.bool _,_ | .sl n,.int _ _,_ | .sl n,.str _,_ | .sl n,.nilp,_ | .sl n,.nilf,_ | .sl n,.nili,_ | .sl n,.nilm,_ | .sl n,.agg _,_ | .sl n,.tup _,_ | .sl n,.sl _ _,_ | .sl n,.ptr _ _,_ | .sl n,.eptr _ _ _ _,_ | .sl n,.rptr _ _ _ _,_ | .sl n,.vw _ _ _ _,_ | .sl n,.fn _ _ _,_ | .sl n,.opq _,_ | .sl n,.iface _ _,_ | .sl n,.junk,_=>by simp only[co]
 | .agg n,.bool _,_ | .agg n,.int _ _,_ | .agg n,.str _,_ | .agg n,.nilp,_ | .agg n,.nilf,_ | .agg n,.nili,_ | .agg n,.nils,_ | .agg n,.nilm,_ | .agg n,.tup _,_ | .agg n,.sl _ _,_ | .agg n,.lit _ _,_ | .agg n,.row _ _,_ | .agg n,.ptr _ _,_ | .agg n,.eptr _ _ _ _,_ | .agg n,.rptr _ _ _ _,_ | .agg n,.vw _ _ _ _,_ | .agg n,.fn _ _ _,_ | .agg n,.opq _,_ | .agg n,.iface _ _,_ | .agg n,.junk,_=>by simp only[co]
theorem qblf{H H':List Ent}:∀(l:List Co) (vs:List AV),(∀k∈qmu l vs,ent H' k=ent H k)->cos H' l vs=cos H l vs
 | [],vs,_=>by simp only[cos]
 | _::_,[],_=>by simp only[cos]
 | c :: l, v :: vs, h => by
   simp only[cos]
   rw[q2e c v (fun k hk=>h k (by simp[qmu,hk])),qblf l vs (fun k hk=>h k (by simp[qmu,hk]))]
end

theorem qqn{H H':List Ent}:∀{xs:List (Opd×Co)},(∀k∈rdPs af xs,ent H' k=ent H k)->gco H' af xs=gco H af xs
 | [],_=>rfl
 | (x, c) :: r, h => by
   simp only[gco]
   rw[q2e c _ (fun k hk=>h k (by simp[rdPs,hk])),qqn (fun k hk=>h k (by simp[rdPs,hk]))]

theorem qcea{H H':List Ent}{g:Bool}{n:Nat}{p:AV}(h:∀k∈ptrE p,ent H' k=ent H k):ldv g n H' p=ldv g n H p:=by
 cases p<;>simp only[ldv]
 ·rw[h _ (by simp[ptrE])]
 ·rw[h _ (by simp[ptrE])]
theorem qbr3{H H':List Ent}{n:Nat}{p:AV}{a b m:Option AV}(h:∀k∈rowE p,ent H' k=ent H k):slvv n H' p a b m=slvv n H p a b m:=by
 cases p with
 | row i len=>cases m<;>simp only[slvv,h i (by simp[rowE])]
 | nils=>cases a<;>cases b<;>cases m<;>first | rfl | (rename_i y;cases y<;>rfl) | (rename_i x y;cases x<;>cases y<;>rfl)
 | sl _ _=>cases m<;>rfl
 | lit _ _=>cases m<;>rfl
 | _=>rfl

theorem qbjt{H H':List Ent}{v:AV}(h:∀k∈vwE v,ent H' k=ent H k):cbsv H' v=cbsv H v:=by
 cases v with
 | vw i off len cap=>simp only[cbsv,h i (by simp[vwE])]
 | sl n es=>rcases n with _ | _ | n<;>rfl
 | lit n es=>rcases n with _ | _ | n<;>rfl
 | _=>rfl
theorem qckk{H0:List Ent}{v:AV}:vwE (co H0 (.sl 1) v)=vwE v:=by
 cases v with
 | row i len =>
   simp only[co]
   split
   ·split<;>rfl
   ·rfl
 | _=>simp only[co]<;>rfl
theorem qbyj{H H' H0:List Ent}{v:AV}(h:∀k∈vwE v,ent H' k=ent H k):cbsv H' (co H0 (.sl 1) v)=cbsv H (co H0 (.sl 1) v):=qbjt (by rw[qckk];exact h)
theorem qcip{H H':List Ent}{i:IV}(h:∀k∈fpV af i,ent H' k=ent H k):evv af H' i=evv af H i:=by
 cases i with
 | ld g n x=>simp only[evv];exact qcea h
 | slv n x a b m=>simp only[evv];exact qbr3 h
 | bsl n ps=>simp only[evv,qqn (xs:=ps) h]
 | mki t x c=>simp only[evv,q2e c _ h]
 | cbs x =>
   simp only[evv,q2e (.sl 1) _ (fun k hk=>h k (List.mem_append_right _ hk))]
   exact qbyj fun k hk=>h k (List.mem_append_left _ hk)
 | _=>rfl

theorem qdg(H:List Ent)(u:Option (Nat×Ent)):(setO H u).length=H.length:=by
 cases u<;>simp[setO]
theorem qs5(H:List Ent)(k:Nat):ent H k=H.getD k .dead:=by
 induction H generalizing k with
 | nil=>rfl
 | cons e r ih => cases k with
   | zero=>rfl
   | succ k=>simpa [ent] using ih k
theorem qod{H:List Ent}{k:Nat}(h:ent H k≠.dead):k<H.length:=by
 rw[qs5] at h
 by_cases hk:k<H.length
 ·exact hk
 ·simp[List.getD_eq_getElem?_getD,List.getElem?_eq_none (Nat.le_of_not_lt hk)] at h
theorem qxr{H:List Ent}{u:Option (Nat×Ent)}{x:List Ent}{k:Nat}(hu:∀p,u=some p->p.1≠k)(hx:x≠[]->k≠H.length)(hx1:x.length≤1):ent (setO H u++x) k=ent H k:=by
 rw[qs5,qs5,List.getD_eq_getElem?_getD,List.getD_eq_getElem?_getD]
 congr 1
 by_cases hk:k<H.length
 ·rw[List.getElem?_append_left (by rw[qdg];exact hk)]
  cases u with
  | none=>rfl
  | some p=>obtain⟨a,e⟩:=p;simp only[setO];exact List.getElem?_set_ne (hu _ rfl)
 ·rw[List.getElem?_append_right (by rw[qdg];omega),qdg,List.getElem?_eq_none (Nat.le_of_not_lt hk)]
  cases x with
  | nil=>rfl
  | cons y r =>
    have:=hx (by simp)
    have hr:r=[]:=by simpa using hx1
    subst hr
    exact List.getElem?_eq_none (by simp;omega)

def Loc(P:Program)(e:EO)(af:AF)(H:List Ent)(v:AV)(H1:List Ent):Prop :=
 ∃ (u : Option (Nat × Ent)) (x : List Ent), H1 = setO H u ++ x ∧ (∀ p, u = some p → p.1 ∈ e.fp.wr ∧ p.1 < H.length) ∧ (x ≠ [] → e.fp.al = true ∧ H.length ∈ e.fp.wr) ∧ x.length ≤ 1 ∧
   ∀Hn:List Ent,(∀k∈e.fp.rd,ent Hn k=ent H k)->(∀k∈e.fp.wr,ent Hn k=ent H k)->(e.fp.al=true->Hn.length=H.length)->(e.fp.top=true->Hn=H)->Psi P e af Hn v (setO Hn u++x)

theorem qvz{α:Type}{A:α->Prop}{B:Prop}:∀{r:Rs α},r.bnd (fun x=>A x∧B)->B
 | .ret a,h=>h.2
 | .req p r,h=>qvz h.2
 | .bad,h=>h.elim
theorem qui{α:Type}{K:α->Prop}:∀{r:Rs α},r.bnd K->∃x,r.bnd (fun y=>y=x)∧K x
 | .ret a,h=>⟨a,rfl,h⟩
 | .req p r,h=>by obtain⟨x,h1,h2⟩:=qui h.2;exact⟨x,⟨h.1,h1⟩,h2⟩
 | .bad,h=>h.elim
theorem qh4{α:Type}{K K':α->Prop}(hk:∀x,K x->K' x):∀{r:Rs α},r.bnd K->r.bnd K'
 | .ret a,h=>hk _ h
 | .req p r,h=>⟨h.1,qh4 hk h.2⟩
 | .bad,h=>h.elim

def LocI(P:Program)(top:Md)(i:I)(af:AF)(H:List Ent)(v:AV)(H1:List Ent):Prop :=
 ∃ (u : Option (Nat × Ent)) (x : List Ent), H1 = setO H u ++ x ∧ (∀ p, u = some p → p.1 ∈ (fpI af H.length top i).wr ∧ p.1 < H.length) ∧ (x ≠ [] → (fpI af H.length top i).al = true ∧ H.length ∈ (fpI af H.length top i).wr) ∧ x.length ≤ 1 ∧
   ∀Hn:List Ent,(∀k∈(fpI af H.length top i).rd,ent Hn k=ent H k)->(∀k∈(fpI af H.length top i).wr,ent Hn k=ent H k)->((fpI af H.length top i).al=true->Hn.length=H.length)->((fpI af H.length top i).top=true->Hn=H)->Phi P top af Hn i v (setO Hn u++x)

theorem qcf5{H H':List Ent}{n:Nat}{c:Co}{v:AV}(h:∀k∈rdCo c v,ent H' k=ent H k):sto n c H' v=sto n c H v:=by
 have hc:=q2e c v h
 cases c with
 | id=>exact hc
 | agg cs=>exact hc
 | sl m =>
   unfold sto
   simp only
   split
   ·cases v<;>first | rfl | exact hc
   ·exact hc
theorem q73{i:I}{top:Md}{H1:List Ent}(h:Phi P top af H i v H1):LocI P top i af H v H1:=by
 cases i with
 | v i =>
   simp only[Phi,evi] at h
   rw[qbx] at h
   have hh:H=H1:=qvz (A:=fun x=>x=v) h
   subst hh
   refine⟨none,[],by simp[setO],(fun p hp=>by cases hp),(fun hx=>absurd rfl hx),by simp,fun Hn h1 h2 h3 h4=>?_⟩
   simp only[Phi,evi,setO,List.append_nil]
   rw[qbx,qcip (H:=H) (fun k hk=>h1 k hk)]
   exact qh4 (fun x hx=>⟨hx.1,rfl⟩) h
 | box x =>
   simp only[Phi,evi,boxv,Rs.bnd] at h
   obtain⟨h0,rfl,rfl⟩:=h
   refine⟨none,_,rfl,(fun p hp=>by cases hp),(fun _=>⟨rfl,by simp[fpI]⟩),by simp,fun Hn h1 h2 h3 h4=>?_⟩
   simp only[Phi,evi,boxv,Rs.bnd,setO]
   exact⟨h0,by rw[h3 rfl],by first | trivial | rfl⟩
 | alo z =>
   simp only[Phi,evi,Rs.bnd] at h
   obtain⟨rfl,rfl⟩:=h
   refine⟨none,_,rfl,(fun p hp=>by cases hp),(fun _=>⟨rfl,by simp[fpI]⟩),by simp,fun Hn h1 h2 h3 h4=>?_⟩
   simp only[Phi,evi,Rs.bnd,setO]
   exact⟨by rw[h3 rfl],by first | trivial | rfl⟩
 | bld t e =>
   simp only[Phi,evi,Rs.bnd] at h
   obtain⟨rfl,rfl⟩:=h
   refine⟨none,_,rfl,(fun p hp=>by cases hp),(fun _=>⟨rfl,by simp[fpI]⟩),by simp,fun Hn h1 h2 h3 h4=>?_⟩
   simp only[Phi,evi,Rs.bnd,setO]
   exact⟨by rw[h3 rfl],by first | trivial | rfl⟩
 | mks n z b l c =>
   simp only[Phi,evi] at h
   cases hl:gt af l<;>cases hc:gt af c<;>simp only[hl,hc,mksv,Rs.bnd] at h
   obtain⟨h0,rfl,rfl⟩:=h
   refine⟨none,_,rfl,(fun p hp=>by cases hp),(fun _=>⟨rfl,by simp[fpI]⟩),by simp,fun Hn h1 h2 h3 h4=>?_⟩
   simp only[Phi,evi,hl,hc,mksv,Rs.bnd,setO]
   exact⟨h0,by rw[h3 rfl],by first | trivial | rfl⟩
 | st n c a x =>
   simp only[Phi,evi] at h
   rw[qbx] at h
   simp only at h
   have key:∃k e,H1=H.set k e∧v=.tup []∧k∈ptrE (gt af a)∧k<H.length∧∀Hn:List Ent,ent Hn k=ent H k->(∀k∈rdCo c (gt af x),ent Hn k=ent H k)->(stv n c Hn (gt af x) (gt af a)).bnd fun H'=>AV.tup []=v∧H'=Hn.set k e:=by
    cases hp:gt af a<;>simp only[hp,stv,Rs.bnd] at h
    case ptr i off =>
     cases he:ent H i<;>simp only[he,Rs.bnd] at h
     rename_i cs
     rw[qbx] at h
     obtain⟨cs',h1,h2,h3⟩:=qui h
     subst h2;subst h3
     refine⟨i,_,rfl,rfl,by simp[ptrE],qod (by rw[he];simp),fun Hn q1 q2=>?_⟩
     simp only[stv,q1,he]
     rw[qbx]
     exact qh4 (fun y hy=>by subst hy;exact⟨by first | trivial | rfl,by first | trivial | rfl⟩) h1
    case rptr i n' k off =>
     cases he:ent H i<;>simp only[he,Rs.bnd] at h
     rename_i m es
     split at h
     ·rename_i hc0
      simp only[Rs.bnd] at h
      obtain⟨h1,h2,h3⟩:=h
      subst h2;subst h3
      refine⟨i,_,rfl,rfl,by simp[ptrE],qod (by rw[he];simp),fun Hn q1 q2=>?_⟩
      simp only[stv,q1,he,if_pos hc0,Rs.bnd,qcf5 q2]
      exact⟨h1,by first | trivial | rfl,by first | trivial | rfl⟩
     ·rename_i hc0
      simp only[Rs.bnd] at h
      obtain⟨h1,h⟩:=h
      rw[qbx] at h
      obtain⟨cs',h2,h3,h4⟩:=qui h
      subst h3;subst h4
      refine⟨i,_,rfl,rfl,by simp[ptrE],qod (by rw[he];simp),fun Hn q1 q2=>?_⟩
      simp only[stv,q1,he,if_neg hc0,Rs.bnd,q2e c _ q2]
      refine⟨h1,?_⟩
      rw[qbx]
      exact qh4 (fun y hy=>by subst hy;exact⟨by first | trivial | rfl,by first | trivial | rfl⟩) h2
   obtain⟨k,e,rfl,rfl,hk,hkl,hloc⟩:=key
   refine⟨some (k,e),[],by simp[setO],(fun p hp=>by cases hp;exact⟨hk,hkl⟩),(fun hx=>absurd rfl hx),by simp,fun Hn h1 h2 h3 h4=>?_⟩
   simp only[Phi,evi,setO,List.append_nil]
   rw[qbx]
   exact hloc Hn (h2 k hk) h1
 | app n z b c x y =>
   simp only[Phi,evi] at h
   have hsrc:∃ys,(∀Hn:List Ent,(∀k∈rowE (gt af y),ent Hn k=ent H k)->∀(K:AV×List Ent->Prop),(qia n b Hn ys (gt af x)).bnd K->(appv n b Hn (gt af x) (gt af y)).bnd K)∧(qia n b H ys (gt af x)).bnd fun p=>p.1=v∧p.2=H1:=by
    unfold appv at h
    have hfp:∀Hn:List Ent,(∀k∈rowE (gt af y),ent Hn k=ent H k)->qna n Hn (gt af y)=qna n H (gt af y):=fun Hn q=>by
     cases hy:gt af y with
     | row i len=>simp only[qna];rw[q i (by simp[hy,rowE])]
     | _=>rfl
    split at h
    ·rename_i ys hq
     refine⟨ys,fun Hn q K hK=>?_,h⟩
     unfold appv
     rw[hfp Hn q,hq];exact hK
    ·rename_i p ys hq
     refine⟨ys,fun Hn q K hK=>?_,h.2⟩
     unfold appv
     rw[hfp Hn q,hq];exact⟨h.1,hK⟩
    ·exact h.elim
   clear h
   obtain⟨ys,hsrc,h⟩:=hsrc
   cases hx:gt af x<;>rw[hx] at h hsrc<;>try(exact h.elim)
   case nils =>
    unfold qia at h
    by_cases h0:ys.length=0
    ·rw[if_pos h0] at h
     obtain⟨rfl,rfl⟩:=h
     refine⟨none,[],by simp[setO],(fun p hp=>by cases hp),(fun hx=>absurd rfl hx),by simp,fun Hn h1 h2 h3 h4=>?_⟩
     simp only[Phi,evi,hx,setO,List.append_nil]
     exact hsrc Hn h1 _ (by unfold qia;rw[if_pos h0];exact⟨rfl,by first | trivial | rfl⟩)
    ·rw[if_neg h0] at h
     obtain⟨hr,rfl,rfl⟩:=h
     refine⟨none,_,rfl,(fun p hp=>by cases hp),(fun _=>⟨rfl,by simp[fpI]⟩),by simp,fun Hn h1 h2 h3 h4=>?_⟩
     simp only[Phi,evi,hx,setO]
     exact hsrc Hn h1 _ (by unfold qia;rw[if_neg h0];exact⟨hr,by rw[h3 rfl],by first | trivial | rfl⟩)
   case lit m es =>
    unfold qia at h
    simp only at h
    by_cases h0:ys.length=0
    ·rw[if_pos h0] at h
     obtain⟨hr,rfl,rfl⟩:=h
     refine⟨none,[],by simp[setO],(fun p hp=>by cases hp),(fun hx=>absurd rfl hx),by simp,fun Hn h1 h2 h3 h4=>?_⟩
     simp only[Phi,evi,hx,setO,List.append_nil]
     exact hsrc Hn h1 _ (by unfold qia;simp only;rw[if_pos h0];exact⟨hr,rfl,by first | trivial | rfl⟩)
    ·rw[if_neg h0] at h
     obtain⟨hr,rfl,rfl⟩:=h
     refine⟨none,_,rfl,(fun p hp=>by cases hp),(fun _=>⟨rfl,by simp[fpI]⟩),by simp,fun Hn h1 h2 h3 h4=>?_⟩
     simp only[Phi,evi,hx,setO]
     exact hsrc Hn h1 _ (by unfold qia;simp only;rw[if_neg h0];exact⟨hr,by rw[h3 rfl],by first | trivial | rfl⟩)
   case row i len =>
    unfold qia at h
    simp only at h
    cases he:ent H i<;>simp only[he] at h<;>try(exact h.elim)
    ·rename_i m es
     obtain⟨hr,rfl,rfl⟩:=h
     refine⟨some (i,.dead),_,rfl,(fun p hp=>by cases hp;exact⟨by simp[fpI,hx,rowE],qod (by rw[he];simp)⟩),(fun _=>⟨rfl,by simp[fpI]⟩),by simp,fun Hn h1 h2 h3 h4=>?_⟩
     simp only[Phi,evi,hx,setO]
     refine hsrc Hn h1 _ ?_
     have hi:=h2 i (by simp[fpI,hx,rowE])
     unfold qia
     simp only[hi,he]
     exact⟨hr,by rw[h3 rfl],rfl⟩
    ·rename_i m es
     obtain⟨hr,rfl,rfl⟩:=h
     refine⟨some (i,.dead),_,rfl,(fun p hp=>by cases hp;exact⟨by simp[fpI,hx,rowE],qod (by rw[he];simp)⟩),(fun _=>⟨rfl,by simp[fpI]⟩),by simp,fun Hn h1 h2 h3 h4=>?_⟩
     simp only[Phi,evi,hx,setO]
     refine hsrc Hn h1 _ ?_
     have hi:=h2 i (by simp[fpI,hx,rowE])
     unfold qia
     simp only[hi,he]
     exact⟨hr,by rw[h3 rfl],rfl⟩
 | call f l =>
   cases top with
   | here =>
     obtain⟨h,rfl⟩:=h
     refine⟨none,[],by simp[setO],(fun p hp=>by cases hp),(fun hx=>absurd rfl hx),by simp,fun Hn h1 h2 h3 h4=>?_⟩
     simp only[Phi,setO,List.append_nil,and_true]
     have:=h4 rfl;subst this;exact h
   | off =>
     obtain⟨h,rfl⟩:=h
     refine⟨none,[],by simp[setO],(fun p hp=>by cases hp),(fun hx=>absurd rfl hx),by simp,fun Hn h1 h2 h3 h4=>?_⟩
     simp only[Phi,setO,List.append_nil,and_true]
     rw[qqn (H:=H1) h1];exact h
   | meth k e e' =>
     obtain⟨⟨hd,he,h⟩,rfl⟩:=h
     refine⟨some (k,e'),[],by simp[setO],(fun p hp=>?_),(fun hx=>absurd rfl hx),by simp,fun Hn h1 h2 h3 h4=>?_⟩
     ·cases hp
      exact⟨by simp[fpI,fpC],qod (by rw[he];exact hd)⟩
     ·simp only[Phi,setO,List.append_nil,and_true]
      refine⟨hd,(h1 k (by simp[fpI,fpC])).trans he,?_⟩
      rw[qqn (H:=H) fun j hj=>h1 j (by simp[fpI,fpC,hj])]
      exact h
   | grow k e' ln =>
     obtain⟨⟨⟨hk,h⟩,rfl⟩,rfl⟩:=h
     refine⟨kd k,[e'],rfl,(fun p hp=>?_),(fun _=>by cases k<;>exact⟨rfl,by simp[fpI,fpC]⟩),by simp,fun Hn h1 h2 h3 h4=>?_⟩
     ·cases k with
      | none=>cases hp
      | some q =>
        cases hp
        obtain⟨q1,q2⟩:=hk q rfl
        exact⟨by simp[fpI,fpC],qod (by rw[q2];exact q1)⟩
     ·have hal:Hn.length=H.length:=h3 (by cases k<;>rfl)
      refine⟨⟨⟨fun p hp=>?_,?_⟩,by rw[hal]⟩,rfl⟩
      ·obtain⟨q1,q2⟩:=hk p hp
       subst hp
       exact⟨q1,(h1 p.1 (by simp[fpI,fpC])).trans q2⟩
      ·rw[q8n Hn H]
       exact h
   | lay e' =>
     obtain⟨⟨h,rfl⟩,rfl⟩:=h
     refine⟨none,[e'],rfl,(fun p hp=>by cases hp),(fun _=>⟨rfl,by simp[fpI,fpC]⟩),by simp,fun Hn h1 h2 h3 h4=>?_⟩
     have hal:Hn.length=H.length:=h3 rfl
     refine⟨⟨?_,by rw[hal]⟩,rfl⟩
     rw[qqn (H:=H) h1];exact h
   | layR k e e' c =>
     obtain⟨⟨⟨h0,h⟩,rfl⟩,rfl⟩:=h
     refine⟨none,[e'],rfl,(fun p hp=>by cases hp),(fun _=>⟨rfl,by simp[fpI,fpC]⟩),by simp,fun Hn h1 h2 h3 h4=>?_⟩
     have hal:Hn.length=H.length:=h3 rfl
     refine⟨⟨⟨(h1 k (by simp[fpI,fpC])).trans h0,?_⟩,by rw[hal]⟩,rfl⟩
     rw[qqn (H:=H) fun j hj=>h1 j (by simp[fpI,fpC,hj])];exact h

theorem qs1{i:I}{n n':Nat}{top:Md}(h:(fpI af n top i).al=true->n'=n):fpI af n' top i=fpI af n top i:=by
 cases i with
 | box x=>rw[h rfl]
 | alo x=>rw[h rfl]
 | bld _ _=>rw[h rfl]
 | mks _ _ _ _ _=>rw[h rfl]
 | app _ _ _ _ _ _=>rw[h rfl]
 | call f l =>
   cases top with
   | grow k e' ln=>cases k<;>rw[h rfl]
   | lay e'=>rw[h rfl]
   | layR k e e' c=>rw[h rfl]
   | _=>rfl
 | _=>rfl

theorem qbcd{e:EO}{H1:List Ent}(h:Psi P e af H v H1):Loc P e af H v H1:=by
 obtain⟨⟨gg,d,i⟩,top,fp⟩:=e
 obtain⟨hf,h⟩:=h
 simp only at hf
 subst hf
 cases gg with
 | none =>
   obtain⟨u,x,h1,h2,h3,h4,h5⟩:=q73 (show Phi P top af H i v H1 from h)
   exact⟨u,x,h1,h2,h3,h4,fun Hn q1 q2 q3 q4=>⟨(qs1 q3).symm,h5 Hn q1 q2 q3 q4⟩⟩
 | some p =>
   obtain⟨t,b⟩:=p
   simp only at h
   unfold gd at h
   split at h
   ·rename_i c hc
    split at h
    ·rename_i hcb
     obtain⟨u,x,h1,h2,h3,h4,h5⟩:=q73 h
     exact⟨u,x,h1,h2,h3,h4,fun Hn q1 q2 q3 q4=>⟨(qs1 q3).symm,by simp only[gd,hc];rw[if_pos hcb];exact h5 Hn q1 q2 q3 q4⟩⟩
    ·rename_i hcb
     obtain⟨rfl,rfl⟩:=h
     exact⟨none,[],by simp[setO],(fun p hp=>by cases hp),(fun hx=>absurd rfl hx),by simp,fun Hn q1 q2 q3 q4=>⟨(qs1 q3).symm,by simp only[gd,hc];rw[if_neg hcb];simp[setO]⟩⟩
   ·rename_i hc
    obtain⟨rfl,rfl⟩:=h
    exact⟨none,[],by simp[setO],(fun p hp=>by cases hp),(fun hx=>absurd rfl hx),by simp,fun Hn q1 q2 q3 q4=>⟨(qs1 q3).symm,by simp only[gd,hc];simp[setO]⟩⟩
   ·exact h.elim

def qgu(x y:GI):Bool :=
 (match x.d with
  | some d=>!(rdG y).contains d&&y.d != some d
  | none=>true) &&
 (match y.d with
  | some d=>!(rdG x).contains d
  | none=>true)

theorem q67{l:List Nat}{d:Option Nat}{v:AV}(h:∀k,d=some k->k∉l):AgF l (put af d v) af:=by
 cases d with
 | none=>exact fun t _=>rfl
 | some k =>
   intro t ht
   simp only[V.put,get]
   rw[if_neg (fun e:k=t=>h k rfl (by rw[e];exact ht))]

theorem qbf0{d e:Option Nat}{u v:AV}(h:∀k,d=some k->e≠some k):AFE (put (put af d u) e v) (put (put af e v) d u):=by
 cases d with
 | none=>exact AFE.refl _
 | some k =>
   cases e with
   | none=>exact AFE.refl _
   | some j =>
     refine⟨rfl,fun t=>?_⟩
     simp only[V.put,get]
     by_cases h1:j=t
     ·subst h1
      rw[if_pos rfl,if_neg (fun hk=>h k rfl (by rw[hk])),if_pos rfl]
     ·rw[if_neg h1,if_neg h1]

theorem q66{H:List Ent}{u u':Option (Nat×Ent)}{x x':List Ent}(hu:∀p,u=some p->p.1<H.length)(hu':∀p,u'=some p->p.1<H.length)(hne:∀p p',u=some p->u'=some p'->p.1≠p'.1)(hx:x=[]∨x'=[]):
 setO (setO H u++x) u'++x'=setO (setO H u'++x') u++x:=by
 have h1:∀(L y:List Ent) (w:Option (Nat×Ent)),(∀p,w=some p->p.1<L.length)->setO (L++y) w=setO L w++y:=fun L y w hw=>by
  cases w with
  | none=>rfl
  | some p=>obtain⟨k,e⟩:=p;simp only[setO];exact List.set_append_left _ _ (hw _ rfl)
 rw[h1 _ _ _ (fun p hp=>by rw[qdg];exact hu' p hp),h1 _ _ _ (fun p hp=>by rw[qdg];exact hu p hp)]
 have h2:setO (setO H u) u'=setO (setO H u') u:=by
  cases u with
  | none=>rfl
  | some p => cases u' with
    | none=>rfl
    | some p'=>exact List.set_comm _ _ (hne p p' rfl rfl)
 rw[h2]
 rcases hx with rfl | rfl<;>simp

theorem qb47{p q:Nat×EO}{r:List (Nat×EO)}(ha:qgu p.2.g q.2.g=true)(hi:okFP p.2.fp q.2.fp=true)(h:Tr P (p::q::r) af H af' H'):Tr P (q::p::r) af H af' H':=by
 obtain⟨i,x⟩:=p
 obtain⟨j,y⟩:=q
 simp only[qgu,Bool.and_eq_true] at ha
 obtain⟨h1,h2⟩:=ha
 have ho:=qvy hi
 obtain⟨u,H1,hx,v,H2,hy,ht⟩:=h
 have hxd:∀k,x.g.d=some k->k∉rdG y.g∧y.g.d≠some k:=fun k hk=>by rw[hk] at h1;simpa using h1
 have hyd:∀k,y.g.d=some k->k∉rdG x.g:=fun k hk=>by rw[hk] at h2;simpa using h2
 have hy0:Psi P y af H1 v H2:=q4z (q67 fun k hk=>(hxd k hk).1) hy
 obtain⟨ux,ax,e1,ux1,ax1,ax2,locx⟩:=qbcd hx
 obtain⟨uy,ay,e2,uy1,ay1,ay2,locy⟩:=qbcd hy0
 have hl1:H1.length=H.length+ax.length:=by rw[e1,List.length_append,qdg]
 have hnoax:y.fp.al=true->ax=[]:=fun hya=>by
  cases hax:ax with
  | nil=>rfl
  | cons z zs=>exact(ho.d (ax1 (by rw[hax];simp)).1 hya).elim
 have hent1:∀k,k∉x.fp.wr->ent H1 k=ent H k:=fun k hk=>by
  rw[e1]
  exact qxr (fun p hp hpk=>hk (hpk ▸ (ux1 p hp).1)) (fun hne hkk=>hk (hkk ▸ (ax1 hne).2)) ax2
 have hnone:∀(w:Option (Nat×Ent)) (l:List Nat),l=[]->(∀p,w=some p->p.1∈l)->w=none:=fun w l hl hw=>by
  cases w with
  | none=>rfl
  | some p=>have:=hw p rfl;rw[hl] at this;cases this
 have hnil:∀(w:List Ent) (c:Bool),c=false->(w≠[]->c=true)->w=[]:=fun w c hc hw=>by
  cases w with
  | nil=>rfl
  | cons z zs=>have:=hw (by simp);rw[hc] at this;cases this
 -- the later one first
 have hyH:Psi P y af H v (setO H uy++ay):=by
  refine locy H (fun k hk=>(hent1 k (fun hw=>ho.a k hw hk)).symm) (fun k hk=>(hent1 k (fun hw=>ho.b k hw hk)).symm) (fun hya=>?_) (fun ht=>?_)
  ·rw[hl1,hnoax hya];simp
  ·obtain⟨w1,w2⟩:=ho.f ht
   rw[e1,hnone ux _ w1 (fun p hp=>(ux1 p hp).1),hnil ax _ w2 (fun hne=>(ax1 hne).1)];simp[setO]
 have huyl:∀p,uy=some p->p.1<H.length:=fun p hp=>by
  obtain⟨q1,q2⟩:=uy1 p hp
  rw[hl1] at q2
  cases hax:ax with
  | nil=>rw[hax] at q2;simpa using q2
  | cons z zs =>
    have h3:=(ax1 (by rw[hax];simp)).2
    have h4:p.1≠H.length:=fun e=>ho.b _ h3 (e ▸ q1)
    have h5:ax.length≤1:=ax2
    omega
 have hent2:∀k,k∉y.fp.wr->ent (setO H uy++ay) k=ent H k:=fun k hk=>by
  by_cases hay:ay=[]
  ·subst hay
   exact qxr (fun p hp hpk=>hk (hpk ▸ (uy1 p hp).1)) (fun hne=>absurd rfl hne) (by simp)
  ·have h3:=ay1 hay
   rw[hl1,hnoax h3.1,List.length_nil,Nat.add_zero] at h3
   exact qxr (fun p hp hpk=>hk (hpk ▸ (uy1 p hp).1)) (fun _ hkk=>hk (hkk ▸ h3.2)) ay2
 have hxH:Psi P x af (setO H uy++ay) u (setO (setO H uy++ay) ux++ax):=by
  refine locx _ (fun k hk=>hent2 k (fun hw=>ho.c k hw hk)) (fun k hk=>hent2 k (fun hw=>ho.b k hk hw)) (fun hxa=>?_) (fun ht=>?_)
  ·have hay:ay=[]:=by
    cases hay:ay with
    | nil=>rfl
    | cons z zs=>exact(ho.d hxa (ay1 (by rw[hay];simp)).1).elim
   rw[hay];simp[qdg]
  ·obtain⟨w1,w2⟩:=ho.e ht
   rw[hnone uy _ w1 (fun p hp=>(uy1 p hp).1),hnil ay _ w2 (fun hne=>(ay1 hne).1)];simp[setO]
 have hor:ax=[]∨ay=[]:=by
  by_cases hax:ax=[]
  ·exact .inl hax
  ·refine .inr (hnil ay _ (Bool.eq_false_iff.2 fun hya=>ho.d (ax1 hax).1 hya) (fun hne=>(ay1 hne).1))
 have hH2:H2=setO (setO H uy++ay) ux++ax:=by
  rw[e2,e1]
  exact q66 (fun p hp=>(ux1 p hp).2) huyl (fun p p' hp hp' e=>ho.b _ (ux1 p hp).1 (e ▸ (uy1 p' hp').1)) hor
 rw[hH2] at ht
 exact⟨v,_,hyH,u,_,q4z (fun t ht'=>(q67 (fun k hk=>hyd k hk) t ht').symm) hxH,qblm (qbf0 fun k hk=>(hxd k hk).2) ht⟩

theorem qi8{p:Nat×EO}{r:List (Nat×EO)}:∀{l:List (Nat×EO)} {af:AF} {H:List Ent},(∀q∈l,qgu q.2.g p.2.g=true∧okFP q.2.fp p.2.fp=true)->Tr P (l++p::r) af H af' H'->Tr P (p::(l++r)) af H af' H'
 | [],af,H,_,h=>h
 | q :: l, af, H, hl, h => by
   obtain⟨v,H1,h1,h2⟩:=h
   have h3:=qi8 (fun q hq=>hl q (by simp[hq])) h2
   obtain⟨q1,q2⟩:=hl q (by simp)
   exact qb47 q1 q2 (⟨v,H1,h1,h3⟩:Tr P (q::p::(l++r)) af H af' H')
end

/-! ### The check -/

def qcz:List Oper->List Nat->List Nat
 | [],acc=>acc
 | o::r,acc=>qcz r (acc++[o.after.toList.foldl (fun m e=>if Region.binds .any e then m ||| ((1 <<< e.on) ||| acc.getD e.on 0) else m) 0])

def qka(ms:List Nat)(gl:List GI)(i:Nat)(gi:GI):List Nat :=
 (List.range i).filter fun j=>!(ms.getD i 0).testBit j&&(match gl[j]? with | some gj=>!(qgw gj.i&&qgw gi.i)&&!(qgs gj.i||qgs gi.i) | none=>true)
def qdx(ms:List Nat)(gl:List GI)(i:Nat)(o:Oper)(gi:GI):Bool :=
 o.after.toList.all (fun e=>!Region.binds .any e||decide (e.on<i)) &&
 (List.range i).all fun j=>match gl[j]? with
  | some gj=>if(ms.getD i 0).testBit j then o.after.toList.any (fun e=>Region.binds .any e&&(e.on == j||(decide (j<e.on)&&(ms.getD e.on 0).testBit j))) else qgu gj gi
  | none=>false
def qgf(ms:List Nat)(gl:List GI):Nat->List Oper->List GI->Bool
 | _,[],[]=>true
 | i,o::r,g::s=>qdx ms gl i o g&&qgf ms gl (i+1) r s
 | _,_,_=>false
def qeg(ms:List Nat)(gl:List GI):Nat->List GI->List (GI×List Nat)
 | _,[]=>[]
 | i,g::r=>(g,qka ms gl i g)::qeg ms gl (i+1) r
def qt2(ops:Array Oper)(gl:List GI):Option (List (GI×List Nat)) :=
 if qgf (qcz ops.toList []) gl 0 ops.toList gl then some (qeg (qcz ops.toList []) gl 0 gl) else none

theorem qgi{ms:List Nat}{gl:List GI}:∀{ops:List Oper} {l:List GI} {k:Nat},qgf ms gl k ops l=true->ops.length=l.length∧∀(i:Nat) (o:Oper),ops[i]?=some o->∃g,l[i]?=some g∧qdx ms gl (k+i) o g=true
 | [],[],k,_=>⟨rfl,fun i o h=>by simp at h⟩
 | [],g::s,k,h=>by simp[qgf] at h
 | o::r,[],k,h=>by simp[qgf] at h
 | o :: r, g :: s, k, h => by
   simp only[qgf,Bool.and_eq_true] at h
   obtain⟨h1,h2⟩:=qgi h.2
   refine⟨by simp[h1],fun i o' ho=>?_⟩
   cases i with
   | zero=>simp at ho;subst ho;exact⟨g,by simp,by simpa using h.1⟩
   | succ i =>
     obtain⟨g',h3,h4⟩:=h2 i o' (by simpa using ho)
     exact⟨g',by simpa using h3,by rw[show k+(i+1)=k+1+i by omega];exact h4⟩
theorem qeq{ms:List Nat}{gl:List GI}:∀{l:List GI} {k:Nat},(qeg ms gl k l).length=l.length∧∀(i:Nat) (g:GI),l[i]?=some g->(qeg ms gl k l)[i]?=some (g,qka ms gl (k+i) g)
 | [],k=>⟨rfl,fun i g h=>by simp at h⟩
 | g :: r, k => by
   obtain⟨h1,h2⟩:=qeq (ms:=ms) (gl:=gl) (l:=r) (k:=k+1)
   refine⟨by simp[qeg,h1],fun i g' hg=>?_⟩
   cases i with
   | zero=>simp at hg;subst hg;simp[qeg]
   | succ i =>
     have:=h2 i g' (by simpa using hg)
     simp only[qeg,List.getElem?_cons_succ]
     rw[this,show k+1+i=k+(i+1) by omega]

/-! ### Evaluation in the text's order -/

def qfl(acc:List FP):List Nat->FP->Prop
 | [],_=>True
 | j::r,fp=>okFP (acc.getD j {}) fp=true∧qfl acc r fp

def DApp(P:Program)(H:List Ent)(fv:AV)(args raws:List AV)(K:Md->AV->List Ent->Prop):Prop :=
 (∃r,PApp P H fv args r∧K .here r H)∨(∃r,(∀H₀,PApp P H₀ fv args r)∧K .off r H) ∨
 (∃r k e e',(e≠.dead∧ent H k=e∧∀H₀,ent H₀ k=e->VApp P H₀ fv args fun H'' o=>H''=H₀.set k e'∧o=.val r)∧K (.meth k e e') r (H.set k e')) ∨
 (∃k e' ln,Gro P H fv raws k e' ln∧K (.grow k e' ln) (.row H.length ln) (setO H (kd k)++[e'])) ∨
 (∃e',Lays P fv args e'∧K (.lay e') (.ptr H.length 0) (H++[e'])) ∨
 (∃k e e' c,(ent H k=e∧qch5 P fv args k e e' c)∧K (.layR k e e' c) (.tup [.ptr H.length 0,c]) (H++[e']))

def doD(P:Program)(af:AF)(H:List Ent)(i:I)(K:Md->AV->List Ent->Prop):Prop :=
 match i with
 | .call f l=>DApp P H (gt af f) (gco H af l) (gco H af (rawO l)) K
 | i=>(evi af H i).bnd fun p=>K .off p.1 p.2

def runD(P:Program)(Q:VE->AF->List Ent->Prop):List FP->List (GI×List Nat)->AF->List Ent->Prop
 | _,[],af,H=>Q .nrm af H
 | acc,(⟨none,d,i⟩,us)::r,af,H=>doD P af H i fun top v H'=>qfl acc us (fpI af H.length top i)∧runD P Q (acc++[fpI af H.length top i]) r (put af d v) H'
 | acc,(⟨some (t,b),d,i⟩,us)::r,af,H=>gd (get af.tm t) b (doD P af H i fun top v H'=>qfl acc us (fpI af H.length top i)∧runD P Q (acc++[fpI af H.length top i]) r (put af d v) H')
  (qfl acc us (fpI af H.length .off i)∧runD P Q (acc++[fpI af H.length .off i]) r (put af d (.tup [])) H)

section
variable {P:Program} {fr:Option Nat} {n m:Nat} {Q:VE->AF->List Ent->Prop} {af:AF} {H:List Ent} {ops:Array Oper}

theorem qpw{acc:List FP}{fp:FP}:∀{us:List Nat},qfl acc us fp->∀j∈us,okFP (acc.getD j {}) fp=true
 | [],_,j,hj=>by cases hj
 | a :: r, h, j, hj => by
   rcases List.mem_cons.1 hj with rfl | hj
   ·exact h.1
   ·exact qpw h.2 j hj

theorem q97{i:I}{K:Md->AV->List Ent->Prop}(h:doD P af H i K):∃top v H',Phi P top af H i v H'∧K top v H':=by
 cases i with
 | call f l =>
   rcases h with ⟨r,h1,h2⟩ | ⟨r,h1,h2⟩ | ⟨r,k,e,e',h1,h2⟩ | ⟨k,e',ln,h1,h2⟩ | ⟨e',h1,h2⟩ | ⟨k,e,e',c,h1,h2⟩
   ·exact⟨.here,r,H,⟨h1,rfl⟩,h2⟩
   ·exact⟨.off,r,H,⟨h1,rfl⟩,h2⟩
   ·exact⟨.meth k e e',r,H.set k e',⟨h1,rfl⟩,h2⟩
   ·exact⟨.grow k e' ln,_,_,⟨⟨h1,rfl⟩,rfl⟩,h2⟩
   ·exact⟨.lay e',_,_,⟨⟨h1,rfl⟩,rfl⟩,h2⟩
   ·exact⟨.layR k e e' c,_,_,⟨⟨h1,rfl⟩,rfl⟩,h2⟩
 | _ =>
   obtain⟨p,h1,h2⟩:=qui (show(evi af H _).bnd _ from h)
   exact⟨.off,p.1,p.2,qh4 (fun y hy=>by subst hy;exact⟨rfl,rfl⟩) h1,h2⟩

theorem qbjh{acc:List FP}{g:GI}{us:List Nat}{r:List (GI×List Nat)}(h:runD P Q acc ((g,us)::r) af H):∃top v H',Psi P ⟨g,top,fpI af H.length top g.i⟩ af H v H'∧qfl acc us (fpI af H.length top g.i)∧runD P Q (acc++[fpI af H.length top g.i]) r (put af g.d v) H':=by
 obtain⟨gg,d,i⟩:=g
 cases gg with
 | none =>
   obtain⟨top,v,H',h1,h2,h3⟩:=q97 (show doD P af H i _ from h)
   exact⟨top,v,H',⟨rfl,h1⟩,h2,h3⟩
 | some p =>
   obtain⟨t,b⟩:=p
   simp only[runD] at h
   unfold gd at h
   split at h
   ·rename_i c hc
    split at h
    ·rename_i hcb
     obtain⟨top,v,H',h1,h2,h3⟩:=q97 h
     exact⟨top,v,H',⟨rfl,by simp only[gd,hc];rw[if_pos hcb];exact h1⟩,h2,h3⟩
    ·rename_i hcb
     exact⟨.off,_,_,⟨rfl,by simp only[gd,hc];rw[if_neg hcb];exact⟨by first | trivial | rfl,by first | trivial | rfl⟩⟩,h.1,h.2⟩
   ·rename_i hc
    exact⟨.off,_,_,⟨rfl,by simp only[gd,hc];exact⟨by first | trivial | rfl,by first | trivial | rfl⟩⟩,h.1,h.2⟩
   ·exact h.elim

def Fits(es:List (Nat×EO))(acc:List FP)(l:List (GI×List Nat)):Prop :=
 es.length=l.length∧∀(k:Nat) (p:Nat×EO),es[k]?=some p->p.1=acc.length+k∧(∃us,l[k]?=some (p.2.g,us)∧∀j∈us,j<p.1->okFP ((acc++es.map (·.2.fp)).getD j {}) p.2.fp=true)∧∃af n,p.2.fp=fpI af n p.2.top p.2.g.i

theorem qrm:∀{l:List (GI×List Nat)} {acc:List FP} {af:AF} {H:List Ent},runD P Q acc l af H->∃es af' H',Fits es acc l∧Tr P es af H af' H'∧Q .nrm af' H'
 | [],acc,af,H,h=>⟨[],af,H,⟨rfl,fun k p hp=>by simp at hp⟩,⟨AFE.refl _,rfl⟩,h⟩
 | (g, us) :: r, acc, af, H, h => by
   obtain⟨top,v,H',h1,h2,h3⟩:=qbjh h
   obtain⟨es,af',H'',⟨hf1,hf2⟩,h4,h5⟩:=qrm h3
   refine⟨(acc.length,⟨g,top,fpI af H.length top g.i⟩)::es,af',H'',⟨by simp[hf1],fun k p hp=>?_⟩,⟨v,H',h1,h4⟩,h5⟩
   cases k with
   | zero =>
     simp only[List.getElem?_cons_zero,Option.some.injEq] at hp
     subst hp
     refine⟨rfl,⟨us,rfl,fun j hj hlt=>?_⟩,af,H.length,rfl⟩
     have:=qpw h2 j hj
     rw[List.getD_eq_getElem?_getD,List.getElem?_append_left hlt,←List.getD_eq_getElem?_getD]
     exact this
   | succ k =>
     obtain⟨q1,⟨us',q2,q3⟩,q4⟩:=hf2 k p (by simpa using hp)
     refine⟨by rw[q1];simp;omega,⟨us',by simpa using q2,fun j hj hlt=>?_⟩,q4⟩
     have:=q3 j hj hlt
     simpa [List.append_assoc] using this

theorem qqk{i i':I}{af af':AF}{k k':Nat}{t t':Md}(h:qgw i=true)(h':qgw i'=true):okFP (fpI af k t i) (fpI af' k' t' i')=true:=by
 cases i<;>simp only[qgw,Bool.false_eq_true] at h<;>cases i'<;>simp only[qgw,Bool.false_eq_true] at h'<;>simp[fpI,okFP,disj]

theorem qro:∀l:List Nat,disj l []=true
 | []=>rfl
 | a::r=>by simp[disj,nin,qro r]
theorem qmb{i:I}{af:AF}{k:Nat}{t:Md}(h:qgs i=true):fpI af k t i={}:=by
 cases i with
 | v i=>cases i<;>simp only[qgs,Bool.false_eq_true] at h<;>rfl
 | _=>simp[qgs] at h
theorem qbls(y:FP):okFP {} y=true:=by simp[okFP,disj,qro]
theorem qbl7(x:FP):okFP x {}=true:=by simp[okFP,disj,qro]

theorem qpg:∀{l:List Oper} {gl:List GI},cL P ops n l=some gl->l.length=gl.length∧∀(i:Nat) (o:Oper),l[i]?=some o->∃g,gl[i]?=some g∧cGI P ops n o=some g
 | [],gl,h=>by simp[cL] at h;subst h;exact⟨rfl,fun i o h=>by simp at h⟩
 | o :: r, gl, h => by
   simp only[cL] at h
   split at h
   ·rename_i a l' ha hl
    simp only[Option.some.injEq] at h;subst h
    obtain⟨h1,h2⟩:=qpg hl
    refine⟨by simp[h1],fun i o' ho=>?_⟩
    cases i with
    | zero=>simp at ho;subst ho;exact⟨a,by simp,ha⟩
    | succ i=>obtain⟨g,h3,h4⟩:=h2 i o' (by simpa using ho);exact⟨g,by simpa using h3,h4⟩
   ·cases h

theorem qhi{o:Oper}{e:EO}{w:World}{M:Nat->Nat->Prop}{G:List Gh}{a:Act}{v:AV}{H1:List Ent}{i:Nat}{R:Act->World->Prop}{S:Exit->Act->World->Prop}(ho:ops[i]?=some o)(hg:cGI P ops n o=some e.g)(hst:St w M G H)(hr:RelF w M G n af a)
 (h:Psi P e af H v H1) (hR:∀a' w' M' G',Ext w M G w' M' G'->St w' M' G' H1->RelF w' M' G' n (put af e.g.d v) a'->R a' w'):wpOpIn (fw fr) 0 P ops S i R a w:=by
 obtain⟨g,top,fp⟩:=e
 obtain⟨_,h⟩:=h
 simp only at h hg hR
 unfold cGI at hg
 split at hg
 ·rename_i gg ii hgg hii
  split at hg
  ·rename_i hd
   simp only[Option.some.injEq] at hg;subst hg
   have hphi:Phi P top af H ii v H1->o.wpIn (fw fr) 0 P a w R S:=by
    intro hp
    by_cases hgr:∃f l k e' ln,ii=.call f l∧top=.grow k e' ln
    ·obtain⟨f,l,k,e',ln,rfl,rfl⟩:=hgr
     obtain⟨⟨⟨hk,hV⟩,rfl⟩,rfl⟩:=hp
     have hdo:doI P (fun _ _ _=>False) af H (rawI (.call f l)) (fun v' H'=>v'=.row H.length ln∧H'=setO H (kd k)++[e']):=VApp.mono (hV H fun p hp=>(hk p hp).2) fun H' o ho=>by
      obtain⟨rfl,rfl⟩:=ho
      exact⟨rfl,rfl⟩
     refine q5m hii hd hst hr hdo (fun v' H' x w' M' G' k1 k2 k3 k4=>?_) (fun v' H' x w' M' G' k1 k2 k3 k4=>k1.elim)
     obtain⟨rfl,rfl⟩:=k1
     exact hR _ _ _ _ k2 k3 ((hr.ext k2).put k4 hd)
    have hdo:doI P (fun _ _ _=>False) af H ii (fun v' H'=>v'=v∧H'=H1):=by
     cases ii with
     | call f l =>
       have h1:VApp P H (gt af f) (gco H af l) fun H'' o=>H''=H1∧o=.val v:=by
        cases top with
        | here=>obtain⟨h1,rfl⟩:=hp;exact h1
        | off=>obtain⟨h1,rfl⟩:=hp;exact h1 H1
        | meth k e e'=>obtain⟨⟨_,h0,h1⟩,rfl⟩:=hp;exact h1 H h0
        | grow k e' ln=>exact absurd ⟨f,l,k,e',ln,rfl,rfl⟩ hgr
        | lay e'=>obtain⟨⟨h1,rfl⟩,rfl⟩:=hp;exact h1 H
        | layR k e e' c=>obtain⟨⟨⟨h0,h1⟩,rfl⟩,rfl⟩:=hp;exact h1 H h0
       exact VApp.mono h1 fun H' o ho=>by
        obtain⟨rfl,rfl⟩:=ho
        exact⟨rfl,rfl⟩
     | _=>exact hp
    refine qnm hii hd hst hr hdo (fun v' H' x w' M' G' k1 k2 k3 k4=>?_) (fun v' H' x w' M' G' k1 k2 k3 k4=>k1.elim)
    obtain⟨rfl,rfl⟩:=k1
    exact hR _ _ _ _ k2 k3 ((hr.ext k2).put k4 hd)
   have hsplit:=qnp (A:=Phi P top af H ii v H1) (B:=v=.tup []∧H1=H) hgg hr (by
    cases gg with
    | none=>exact h
    | some p=>exact h)
   unfold wpOpIn
   rw[ho]
   simp only
   rcases hsplit with ⟨h1,h2⟩ | ⟨h1,h2⟩
   ·rw[if_pos h1];exact hphi h2
   ·obtain⟨rfl,rfl⟩:=h2
    rw[h1]
    exact⟨fun _ _=>trivial,hR _ _ _ _ (Ext.refl _ _ _) hst (hr.put qsr hd)⟩
  ·cases hg
 ·cases hg

theorem qbl(d:Bool)(l:Array Bool){i j:Nat}(h:i≠j):(l.setIfInBounds i true).getD j d=l.getD j d:=getD_set_ne d h

theorem q8f{gl:List GI}{es:List (Nat×EO)}(hcl:cL P ops n ops.toList=some gl)(hok:qgf (qcz ops.toList []) gl 0 ops.toList gl=true)(hfit:Fits es [] (qeg (qcz ops.toList []) gl 0 gl)){S:Exit->Act->World->Prop}{afE:AF}{HE:List Ent}(hQ:Q .nrm afE HE):
 ∀ (fuel : Nat) (rem : List (Nat × EO)) (listed : Array Bool) (af : AF) (H : List Ent) (w : World) (M : Nat → Nat → Prop) (G : List Gh) (a : Act), rem.length ≤ fuel →
   (∀p∈rem,es[p.1]?=some p)->rem.Pairwise (fun p q=>p.1<q.1)->(∀i,i<ops.size->(listed.getD i true=false↔∃g,(i,g)∈rem))->listed.size=ops.size →
   (∀i j,i<ops.size->listed.getD i true=true->((qcz ops.toList []).getD i 0).testBit j=true->j<i->listed.getD j true=true) →
   St w M G H->RelF w M G n af a->Tr P rem af H afE HE->(∀e a' w',VPost Q n m w M G e a' w'->S e a' w')->wpAnyIn (fw fr) 0 P .any ops S fuel listed a w:=by
 obtain⟨hlen,hcget⟩:=qpg hcl
 obtain⟨_,hdget⟩:=qgi hok
 obtain⟨hwl,hwget⟩:=qeq (ms:=qcz ops.toList []) (gl:=gl) (l:=gl) (k:=0)
 obtain⟨hfl,hfget⟩:=hfit
 have hesgl:∀(i:Nat) (p:Nat×EO),es[i]?=some p->p.1=i∧gl[i]?=some p.2.g:=fun i p hp=>by
  obtain⟨q1,⟨us,q2,_⟩,_⟩:=hfget i p hp
  have hi:i<gl.length:=by
   have:=(List.getElem?_eq_some_iff.1 q2).1;omega
  have q3:=hwget i gl[i] (List.getElem?_eq_getElem hi)
  rw[q2] at q3
  simp only[Option.some.injEq,Prod.mk.injEq] at q3
  exact⟨by simpa using q1,by rw[List.getElem?_eq_getElem hi,q3.1]⟩
 have hone:∀(i:Nat) (o:Oper) (g:GI),ops[i]?=some o->gl[i]?=some g->qdx (qcz ops.toList []) gl i o g=true:=fun i o g ho hg=>by
  obtain⟨g',h1,h2⟩:=hdget i o (by simpa using ho)
  rw[hg] at h1
  simp only[Option.some.injEq] at h1;subst h1
  simpa using h2
 have hfin:∀{w:World} {M:Nat->Nat->Prop} {G:List Gh} {af:AF} {H:List Ent} {a:Act},St w M G H->RelF w M G n af a->Tr P [] af H afE HE->VPost Q n m w M G .normal a w:=by
  intro w M G af H a hst hr ht
  obtain⟨⟨he1,he2⟩,rfl⟩:=ht
  exact⟨.nrm,afE,M,G,H,hQ,rfl,ExtM.refl,hst,⟨hr.size,by rw[←he1];exact hr.defers,fun t=>by rw[←he2 t];exact hr.rd t⟩⟩
 intro fuel
 induction fuel with
 | zero =>
   intro rem listed af H w M G a hf hrem hpw hli hsz hD hst hr ht hS
   have h0:rem=[]:=List.eq_nil_of_length_eq_zero (by omega)
   subst h0
   refine⟨?_,hS _ _ _ (hfin hst hr ht)⟩
   cases hrd:Region.ready .any ops listed with
   | nil=>rfl
   | cons i r =>
     have hi:i∈Region.ready .any ops listed:=by rw[hrd];simp
     obtain⟨h1,o,ho,_⟩:=mem_ready.1 hi
     have hlt:=(Array.getElem?_eq_some_iff.1 ho).1
     obtain⟨g,hg⟩:=(hli i hlt).1 h1
     cases hg
 | succ fuel ih =>
   intro rem listed af H w M G a hf hrem hpw hli hsz hD hst hr ht hS
   -- the first one that is left may come up
   have hfirst:∀p r,rem=p::r->Region.ready .any ops listed≠[]:=by
    rintro⟨i,g⟩ r rfl hnil
    have hg:=(hesgl i _ (hrem (i,g) (by simp))).2
    simp only at hg
    have hgl:=(List.getElem?_eq_some_iff.1 hg).1
    have hi:i<ops.size:=by rw[←Array.length_toList,hlen];exact hgl
    have hio:ops[i]?=some ops[i]:=Array.getElem?_eq_getElem hi
    have:i∈Region.ready .any ops listed:=by
     refine mem_ready.2 ⟨(hli i hi).2 ⟨g,by simp⟩,ops[i],hio,fun e he hb=>?_⟩
     have hd:=hone i _ g.g hio hg
     simp only[qdx,Bool.and_eq_true,List.all_eq_true] at hd
     have hlt:=hd.1 e (by simpa using he)
     simp only[hb,Bool.not_true,Bool.false_or,decide_eq_true_eq] at hlt
     have hel:e.on<ops.size:=by omega
     cases hq:listed.getD e.on true with
     | true =>
       have:e.on<listed.size:=by omega
       simp[this] at hq ⊢
       exact hq
     | false =>
       obtain⟨g',hg'⟩:=(hli e.on hel).1 hq
       rcases List.mem_cons.1 hg' with hx | hx
       ·simp only[Prod.mk.injEq] at hx;omega
       ·have:=List.rel_of_pairwise_cons hpw hx
        simp only at this;omega
    rw[hnil] at this
    cases this
   refine⟨fun hnil=>?_,fun i hi=>?_⟩
   ·have h0:rem=[]:=by
     cases hrm:rem with
     | nil=>rfl
     | cons p r=>exact absurd hnil (hfirst p r hrm)
    subst h0
    exact hS _ _ _ (hfin hst hr ht)
   ·obtain⟨h1,o,ho,hall⟩:=mem_ready.1 hi
    have hlt:=(Array.getElem?_eq_some_iff.1 ho).1
    obtain⟨g,hg⟩:=(hli i hlt).1 h1
    obtain⟨l1,l2,rfl⟩:=List.append_of_mem hg
    have hes:=hrem (i,g) hg
    obtain⟨_,hgi⟩:=hesgl i _ hes
    simp only at hgi
    have hd:=hone i o g.g ho hgi
    simp only[qdx,Bool.and_eq_true,List.all_eq_true,List.mem_range] at hd
    -- all that are ahead of it by need are done
    have hanc:∀j,j<i->((qcz ops.toList []).getD i 0).testBit j=true->listed.getD j true=true:=fun j hj hb=>by
     have:=hd.2 j hj
     split at this
     ·rename_i gj hgj
      rw[if_pos hb] at this
      obtain⟨e,he,hbe⟩:=List.any_eq_true.1 this
      simp only[Bool.and_eq_true,Bool.or_eq_true,beq_iff_eq,decide_eq_true_eq] at hbe
      have hon:=hall e (by simpa using he) hbe.1
      have helt:=hd.1 e he
      simp only[hbe.1,Bool.not_true,Bool.false_or,decide_eq_true_eq] at helt
      have hon':listed.getD e.on true=true:=by
       have:e.on<listed.size:=by omega
       simp[this] at hon ⊢
       exact hon
      rcases hbe.2 with rfl | ⟨hje,hbit⟩
      ·exact hon'
      ·exact hD e.on j (by omega) hon' hbit hje
     ·cases this
    have hind:∀q∈l1,qgu q.2.g g.g=true∧okFP q.2.fp g.fp=true:=by
     rintro⟨j,ej⟩ hq
     have hji:j<i:=by
      have:=(List.pairwise_append.1 hpw).2.2 (j,ej) hq (i,g) (by simp)
      exact this
     have hej:=hrem (j,ej) (by simp[hq])
     obtain⟨_,hgj⟩:=hesgl j _ hej
     simp only at hgj
     have hun:listed.getD j true=false:=(hli j (by omega)).2 ⟨ej,by simp[hq]⟩
     have hnb:¬(((qcz ops.toList []).getD i 0).testBit j=true):=fun hb=>by
      have:=hanc j hji hb
      rw[hun] at this;cases this
     have:=hd.2 j hji
     rw[hgj] at this
     simp only at this
     rw[if_neg hnb] at this
     refine⟨this,?_⟩
     obtain⟨_,⟨us,q2,q3⟩,af1,n1,q4⟩:=hfget i _ hes
     have hus:us=qka (qcz ops.toList []) gl i g.g:=by
      have q5:=hwget i g.g hgi
      rw[q2,Nat.zero_add] at q5
      simp only[Option.some.injEq,Prod.mk.injEq] at q5
      exact q5.2
     by_cases hqq:(qgw ej.g.i&&qgw g.g.i)=true
     ·obtain⟨_,_,af2,n2,q5⟩:=hfget j _ hej
      simp only at q4 q5
      rw[q4,q5]
      simp only[Bool.and_eq_true] at hqq
      exact qqk hqq.1 hqq.2
     by_cases hs1:qgs ej.g.i=true
     ·obtain⟨_,_,af2,n2,q5⟩:=hfget j _ hej
      simp only at q5
      rw[q5,qmb hs1]
      exact qbls _
     by_cases hs2:qgs g.g.i=true
     ·simp only at q4
      rw[q4,qmb hs2]
      exact qbl7 _
     ·have hmem:j∈us:=by
       rw[hus]
       have hnb':((qcz ops.toList []).getD i 0).testBit j=false:=by simpa using hnb
       have hqq':(qgw ej.g.i&&qgw g.g.i)=false:=by simpa using hqq
       unfold qka
       rw[List.mem_filter]
       refine⟨by simpa using hji,?_⟩
       have hs1':qgs ej.g.i=false:=by simpa using hs1
       have hs2':qgs g.g.i=false:=by simpa using hs2
       rw[hnb',hgj]
       simp only[hqq',hs1',hs2']
       rfl
      have h3:=q3 j hmem hji
      have h4:(([]:List FP)++es.map (·.2.fp)).getD j {}=ej.fp:=by
       rw[List.nil_append,List.getD_eq_getElem?_getD,List.getElem?_map,hej];rfl
      rw[h4] at h3
      exact h3
    have htf:=qi8 hind ht
    obtain⟨v,H1,hpsi,htr⟩:=htf
    obtain⟨g',hg1,hg2⟩:=hcget i o (by simpa using ho)
    rw[hgi] at hg1
    simp only[Option.some.injEq] at hg1;subst hg1
    refine qhi ho hg2 hst hr hpsi fun a' w' M' G' k1 k2 k3=>?_
    have hni:∀q∈l1++l2,q.1≠i:=fun q hq=>by
     rcases List.mem_append.1 hq with hq | hq
     ·have:=(List.pairwise_append.1 hpw).2.2 q hq (i,g) (by simp);simp only at this;omega
     ·have:=List.rel_of_pairwise_cons (List.pairwise_append.1 hpw).2.1 hq;simp only at this;omega
    refine ih (l1++l2) (listed.setIfInBounds i true) _ H1 w' M' G' a' (by simp at hf ⊢;omega) (fun q hq=>hrem q (by
     rcases List.mem_append.1 hq with hq | hq<;>simp[hq])) ?_ ?_ (by simpa using hsz) ?_ k2 k3 htr fun e a'' w'' hp=>hS _ _ _ (hp.trans k1.toM)
    ·rw[List.pairwise_append] at hpw ⊢
     exact⟨hpw.1,(List.pairwise_cons.1 hpw.2.1).2,fun x hx y hy=>hpw.2.2 x hx y (by simp[hy])⟩
    ·intro j hj
     by_cases hji:i=j
     ·subst hji
      constructor
      ·intro hh
       have:i<listed.size:=by omega
       simp[this] at hh
      ·rintro⟨g'',hg''⟩
       exact absurd rfl (hni _ hg'')
     ·rw[qbl _ _ hji,hli j hj]
      constructor
      ·rintro⟨g'',hg''⟩
       refine⟨g'',?_⟩
       rcases List.mem_append.1 hg'' with hx | hx
       ·simp[hx]
       ·rcases List.mem_cons.1 hx with hx | hx
        ·simp only[Prod.mk.injEq] at hx;exact absurd hx.1.symm hji
        ·simp[hx]
      ·rintro⟨g'',hg''⟩
       rcases List.mem_append.1 hg'' with hx | hx
       ·exact⟨g'',by simp[hx]⟩
       ·exact⟨g'',by simp[hx]⟩
    ·intro k j hk hlk hb hjk
     by_cases hik:i=k
     ·subst hik
      rw[qbl _ _ (by omega)]
      exact hanc j hjk hb
     ·rw[qbl _ _ hik] at hlk
      by_cases hij:i=j
      ·subst hij
       have:i<listed.size:=by omega
       simp[this]
      ·rw[qbl _ _ hij]
       exact hD k j hk hlk hb hjk

theorem qbnw{id:Nat}{gl:List GI}{l:List (GI×List Nat)}(hm:P.follows .mixedOrders=true)(hc:cL P ops n ops.toList=some gl)(hok:qt2 ops gl=some l)(h:runD P Q [] l af H):VW P fr n m (.region id ops true) Q af H:=by
 intro w M G a hst hr
 refine wpIn_region_any hm ?_
 unfold qt2 at hok
 split at hok
 ·rename_i hall
  simp only[Option.some.injEq] at hok;subst hok
  obtain⟨es,afE,HE,hfit,h1,h2⟩:=qrm h
  obtain⟨hlen,_⟩:=qpg hc
  have hdr:({ w with drawn:=w.drawn+1 }:World)=w.drew:=rfl
  rw[hdr]
  have hx:=Ext.drew hst
  have hwl:=(qeq (ms:=qcz ops.toList []) (gl:=gl) (l:=gl) (k:=0)).1
  have hel:es.length=ops.size:=by rw[hfit.1,hwl,←hlen];simp
  have hes:∀(k:Nat) (p:Nat×EO),es[k]?=some p->p.1=k:=fun k p hp=>by have:=(hfit.2 k p hp).1;simpa using this
  refine q8f (m:=m) hc hall hfit h2 ops.size es _ af H w.drew M G a (by omega) ?_ ?_ ?_ ?_ ?_ hst.drew (hr.ext hx) h1 fun e a' w' hp=>hp.trans hx.toM
  ·intro p hp
   obtain⟨k,hk⟩:=List.mem_iff_getElem?.1 hp
   rw[hes k p hk];exact hk
  ·rw[List.pairwise_iff_getElem]
   intro i j hi hj hij
   rw[hes i _ (List.getElem?_eq_getElem hi),hes j _ (List.getElem?_eq_getElem hj)]
   exact hij
  ·intro i hi
   constructor
   ·intro _
    have hi':i<es.length:=by omega
    have h1:=hes i _ (List.getElem?_eq_getElem hi')
    refine⟨es[i].2,?_⟩
    have hmem:=List.getElem_mem hi'
    generalize es[i]=q at *
    subst h1
    exact hmem
   ·intro _
    simp[hi]
  ·simp
  ·intro i j hi hl _ _
   simp[hi] at hl
 ·cases hok
end
end Go.V
