/- Texts of this proof, joined. -/
import Derived.Test.YtlmcofjcpadmiaaGreatWai
import Derived.ScopeJumps
import Derived.WalkKit
import Derived.ProofKit
import Derived.OpenShut
import Derived.Carry
import Derived.ChangeSame
import Derived.Below
set_option linter.unusedVariables false
set_option linter.unusedSimpArgs false

/-
 The value logic, part r: scopes in which the run jumps back to a label; a goto.
-/
namespace Go.V
open Go Go.RowKit

section
variable {P:Program} {fr:Option Nat} {n m:Nat} {Q:VE->AF->List Ent->Prop} {af:AF} {H:List Ent} {a:IC}

theorem q2r {l:Nat} (h:Q (.gto l) af H):VI P fr n m (.goto l) Q af H:=by
 intro c hc
 have:c = .goto l:=by
  cases c<;>simp only [qbq] at hc<;>first | (simp at hc;rw [hc];done) | (exfalso;(repeat' split at hc)<;>simp at hc)
 subst this
 exact fun w M G a hst hr=>wpIn_goto ⟨.gto l,af,M,G,H,h,rfl,ExtM.refl,hst,hr⟩

theorem qbfa {b:IC} (l:Nat) (af:AF) (H:List Ent):sq P fr n m b Q (.gto l) af H = Q (.gto l) af H:=Eq.trans rfl rfl
theorem q7j {id l:Nat} (af:AF) (H:List Ent):blq id Q (.gto l) af H = Q (.gto l) af H:=Eq.trans rfl rfl
theorem qbg3 {S:Type} {Inv:S->Prop} {st:S->AF×List Ent} {l:Nat} (af:AF) (H:List Ent):lq Inv st m Q (.gto l) af H = Q (.gto l) af H:=Eq.trans rfl rfl
attribute [go_sem] qbfa q7j qbg3
end
theorem ti_:True:=⟨⟩
theorem vs_ {p q:Prop} (h:q) (e:q->p:=by first | exact qn1 | exact qod | exact qx4):p:=e h
theorem vr_ {p q:Prop} (h:q) (e:q->p:=by first | exact qny | exact q2f (by rfl) | exact qrv | exact qzh | exact q2r | exact qbgu | exact q6a | exact qbdi | exact q49):p:=e h
inductive Pk (c:Bool) (p:Prop):Prop where | mk
theorem qblc {P:Program} {Q:VE->AF->List Ent->Prop} {c b:Bool} {d:Option Nat} {i:I} {k:Kt} {af:AF} {H:List Ent}:Pk c (gdK P Q (.bool c) b d i k af H):=.mk
theorem qbjt {c:Bool} {A B:Prop}:Pk c (cnd (.bool c) A B):=.mk
theorem cs_ {c:Bool} {p x y a b:Prop} (h1:x->a) (h2:y->b) (_e:Pk c p:=by first | exact qblc | exact qbjt)
 (ex:(c = true) = x:=by first | (simp only [hb_];exact rfl) | exact rfl) (ey:(c = false) = y:=by first | (simp only [hb_];exact rfl) | exact rfl)
 (ea:c = true->p = a:=by intro hc;first | (simp only [hc];exact rfl) | exact rfl) (eb:c = false->p = b:=by intro hc;first | (simp only [hc];exact rfl) | exact rfl):p:=by
 cases c
 ·rw [eb rfl];exact h2 (ey ▸ rfl)
 ·rw [ea rfl];exact h1 (ex ▸ rfl)

def panw (Q:List Ent->VO->Prop) (v:AV) (H:List Ent):Prop:=Q H (.pan v)

def endw (i:Nat) (Q:List Ent->VO->Prop):VE->AF->List Ent->Prop
 | .nrm, _, H => match ent H i with
   | .lp d as=>Q (H.set i (.lp ⟨.ready,none,d.fn,d.ps,d.asn,d.bd⟩ as)) (.val (.bool true))
   | _=>False
 | .ret, _, H => match ent H i with
   | .lp d as=>Q (H.set i (.lp ⟨.done,some .ret,d.fn,d.ps,d.asn,d.bd⟩ as)) (.val (.bool false))
   | _=>False
 | .ext id, _, H => match ent H i with
   | .lp d as=>Q (H.set i (.lp ⟨.done,some (.exit id),d.fn,d.ps,d.asn,d.bd⟩ as)) (.val (.bool false))
   | _=>False
 | _,_,_=>False
def begw (P:Program) (n m i l:Nat) (b:IC) (Q:List Ent->VO->Prop):VE->AF->List Ent->Prop
 | .nrm, af, H => match ent H i with
   | .lp ⟨.ready,j,fn,ps,x,y⟩ as=>VI P (some l) n m b (endw i Q) af (H.set i (.lp ⟨.busy,j,fn,ps,x,y⟩ as))
   | _=>False
 | _,_,_=>False



/-! ### States that grow -/
def gro (n k:Nat) (i:Nat):Nat:=if i < n then i else i + k
def grow (n:Nat) (L H1:List Ent):List Ent:=(H1.take n).map (Ent.ren (gro n L.length)) ++ L ++ (H1.drop n).map (Ent.ren (gro n L.length))



/-! ### What every state obeys -/
attribute [go_sem] panw begw endw
end Go.V

/-
 The value logic, part t: rows that grow from none.
-/
namespace Go.V
open Go Go.RowKit

end Go.V

/-
 The value logic, part w: from a statement's reading of an argument to the argument as a value.
-/
namespace Go.V
open Go Go.RowKit

def MM (w:World) (b o:Nat):Prop:=∃ v,w.cell? ⟨b,o,none⟩ = some v∧v.oneCell' = true

theorem stM (w:World):St w (MM w) [] []:=by
 refine ⟨rfl,fun i g e h=>by simp at h,fun i j g g' b h=>by simp at h,fun i g b h=>by simp at h,fun b o ⟨v,h,_⟩=>?_,fun b o v ⟨v',h,h1⟩ h2=>by rw [h] at h2;cases h2;exact h1⟩
 by_cases hb:b < w.heap.size
 ·exact hb
 ·exfalso
  unfold World.cell? at h
  simp only at h
  rw [Array.getElem?_eq_none (by omega)] at h
  simp at h

theorem qbj7 {w w':World} {M M':Nat->Nat->Prop} {G':List Gh} (h:Ext w M [] w' M' G'):Below w.heap.size w w' :=
 ⟨h.os,h.tape,h.output,h.size,fun k hk=>h.out k hk (fun ⟨i,g,hg,_⟩=>by simp at hg)⟩

theorem qia {α β:Type} {f:α->Option β}:∀ {l:List α} {r:List β},l.mapM f = some r->r.length = l.length∧∀ (j:Nat) (y:β),r[j]? = some y->∃ x,l[j]? = some x∧f x = some y
 | [], r, h => by
   simp only [List.mapM_nil,Option.pure_def,Option.some.injEq] at h
   subst h
   exact ⟨rfl,fun j y hj=>by simp at hj⟩
 | a :: l, r, h => by
   simp only [List.mapM_cons,Option.bind_eq_bind,Option.pure_def] at h
   obtain ⟨b,h1,h2⟩:=Option.bind_eq_some_iff.1 h
   obtain ⟨r',h3,h4⟩:=Option.bind_eq_some_iff.1 h2
   simp only [Option.some.injEq] at h4
   subst h4
   obtain ⟨q1,q2⟩:=qia h3
   refine ⟨by simp [q1],fun j y hj=>?_⟩
   cases j with
   | zero=>simp at hj;subst hj;exact ⟨a,rfl,h1⟩
   | succ j=>simp at hj;obtain ⟨x,r1,r2⟩:=q2 j y hj;exact ⟨x,by simpa using r1,r2⟩
def elA (P:Program) (T:TypeId) (ds:List AV):AV :=
 match P.underlying T with
 | some (.struct _) | some (.array _ _)=>.agg ds
 | _=>ds.headD .junk
def fieldsOf (fs:Array Field):List (TypeId×Nat):=fs.toList.map fun x=>(x.type,x.offset)
def qfh (P:Program) (n:Nat) (e:TypeId):List (TypeId×Nat):=(List.range n).map fun i=>(e,i * P.cellsOf e)
def TC (P:Program):Nat->TypeId->List AV->Prop
 | 0,_,_=>False
 | f + 1, T, cs => match P.underlying T with
   | some (.int k)=>∃ n,cs = [.int k n]
   | some .string=>∃ l,cs = [.str l]
   | some .bool=>∃ b,cs = [.bool b]
   | some (.slice S)=>∃ es,cs = [.sl (P.cellsOf S) es]∧∀ e∈es,∃ ds,TC P f S ds∧e = elA P S ds
   | some (.struct fs)=>cs.length = P.cellsOf T∧∀ x∈fieldsOf fs,TC P f x.1 ((cs.drop x.2).take (P.cellsOf x.1))
   | some (.array n e)=>cs.length = P.cellsOf T∧∀ x∈qfh P n e,TC P f x.1 ((cs.drop x.2).take (P.cellsOf x.1))
   | _=>False
def qj0 (P:Program):Nat->List (TypeId×Nat)->Nat->Bool
 | o,[],n=>o == n
 | o,x :: r,n=>x.2 == o && qj0 P (o + P.cellsOf x.1) r n
def qjg (P:Program) (L:List TypeId) (T:TypeId):Bool :=
 match P.underlying T with
 | some (.int _) | some .string | some .bool=>P.cellsOf T == 1
 | some (.slice S)=>L.contains S && P.cellsOf S != 0 && P.cellsOf T == 1
 | some (.struct fs)=>qj0 P 0 (fieldsOf fs) (P.cellsOf T) && (fieldsOf fs).all fun x=>L.contains x.1
 | some (.array n e)=>qj0 P 0 (qfh P n e) (P.cellsOf T) && L.contains e
 | _=>false

theorem qnw {P:Program}:∀ {l:List (TypeId×Nat)} {o n:Nat},qj0 P o l n = true->o≤n
 | [],o,n,h=>by simp only [qj0,beq_iff_eq] at h;omega
 | x :: r, o, n, h => by
   simp only [qj0,Bool.and_eq_true] at h
   have:=qnw h.2
   omega

section
variable {H:Type} {enc':TypeId×Value->H} {P:Program} {w:World} {base:Nat} {sp:Nat->Bool} {held:Bool}

theorem qj5 {a:Addr} {n:Nat} {cs:List Value} (h:w.cells? base a n = some cs):cs.length = n∧∀ (j:Nat) (v:Value),cs[j]? = some v->w.cell? (a.add j) = some v:=by
 unfold World.cells? at h
 split at h
 ·obtain ⟨h1,h2⟩:=qia h
  refine ⟨by simpa using h1,fun j v hj=>?_⟩
  obtain ⟨x,q1,q2⟩:=h2 j v hj
  rw [List.getElem?_range (by have:=(List.getElem?_eq_some_iff.1 q1).1;simpa using this)] at q1
  simp only [Option.some.injEq] at q1
  subst q1
  exact q2
 ·cases h

theorem qlv {m:Nat}:∀ {us:List Value},(∀ u∈us,u.cells.size = m)->∀ {j:Nat} {v:Value},(us.flatMap (·.cells.toList))[j]? = some v->∃ i q u,us[i]? = some u∧u.cells.toList[q]? = some v∧j = i * m + q
 | [],_,j,v,h=>by simp at h
 | u :: us, hm, j, v, h => by
   rw [List.flatMap_cons] at h
   have hu:u.cells.toList.length = m:=by simpa using hm u (by simp)
   by_cases hj:j < m
   ·rw [List.getElem?_append_left (by omega)] at h
    exact ⟨0,j,u,rfl,h,by omega⟩
   ·rw [List.getElem?_append_right (by omega),hu] at h
    obtain ⟨i,q,u',h1,h2,h3⟩:=qlv (fun u hu=>hm u (by simp [hu])) h
    exact ⟨i + 1,q,u',h1,h2,by rw [Nat.add_mul];omega⟩

def elV (P:Program) (T:TypeId) (cs:List Value):Value :=
 match P.underlying T with
 | some (.struct _) | some (.array _ _)=>.agg cs.toArray
 | _=>cs.headD .nilIface

theorem qbli {S:TypeId} {as:List AV} {cs:List Value} (h:VRs w (MM w) [] as cs) (hl:as.all AV.leaf = true) (hn:as.length = P.cellsOf S)
 (h1:(∀ fs,P.underlying S≠some (.struct fs))->(∀ n e,P.underlying S≠some (.array n e))->P.cellsOf S = 1) :
 VR w (MM w) [] (elA P S as) (elV P S cs)∧(elV P S cs).cells.toList = cs:=by
 unfold elA elV
 split
 ·exact ⟨⟨cs,rfl,h⟩,by simp [Value.cells]⟩
 ·exact ⟨⟨cs,rfl,h⟩,by simp [Value.cells]⟩
 ·rename_i g1 g2
  have:=h1 g1 g2
  match as,h,hn,hl with
  | [a], h, _, hl =>
    obtain ⟨v,r,rfl,h2,h3⟩:=h
    simp only [VRs] at h3
    subst h3
    simp only [List.headD_cons]
    refine ⟨h2,?_⟩
    rw [(qe8 h2 (by simpa using hl)).2]
  | [],_,hn,_=>simp only [List.length_nil] at hn;omega
  | _ :: _ :: _,_,hn,_=>simp only [List.length_cons] at hn;omega

theorem qhn {L:List TypeId} {S:TypeId} (h:qjg P L S = true) (g1:∀ fs,P.underlying S≠some (.struct fs)) (g2:∀ n e,P.underlying S≠some (.array n e)):P.cellsOf S = 1:=by
 unfold qjg at h
 split at h
 all_goals first
  | (simp only [beq_iff_eq] at h;exact h)
  | (simp only [Bool.and_eq_true,beq_iff_eq] at h;exact h.2)
  | (rename_i hu;exact absurd hu (g1 _))
  | (rename_i hu;exact absurd hu (g2 _ _))
  | (cases h)

end

section
variable {P:Program} {f:Nat} {T S:TypeId} {k:IntKind} {cs:List AV}
theorem qtm (hT:P.underlying T = some (.int k)) (h:TC P f T cs):∃ n,cs = [.int k n]:=by
 cases f with
 | zero=>exact h.elim
 | succ f=>simpa only [TC,hT] using h
theorem qbka (hT:P.underlying T = some .string) (h:TC P f T cs):∃ l,cs = [.str l]:=by
 cases f with
 | zero=>exact h.elim
 | succ f=>simpa only [TC,hT] using h
theorem qbk7 (hT:P.underlying T = some (.slice S)) (h:TC P f T cs):∃ f' es,f = f' + 1∧cs = [.sl (P.cellsOf S) es]∧∀ e∈es,∃ ds,TC P f' S ds∧e = elA P S ds:=by
 cases f with
 | zero=>exact h.elim
 | succ f =>
   simp only [TC,hT] at h
   obtain ⟨es,h1,h2⟩:=h
   exact ⟨f,es,rfl,h1,h2⟩
theorem qblj {fs:Array Field} (hT:P.underlying T = some (.struct fs)) (h:TC P f T cs):∃ f',f = f' + 1∧cs.length = P.cellsOf T∧∀ x∈fieldsOf fs,TC P f' x.1 ((cs.drop x.2).take (P.cellsOf x.1)):=by
 cases f with
 | zero=>exact h.elim
 | succ f =>
   simp only [TC,hT] at h
   exact ⟨f,rfl,h⟩
theorem q0d {fs:Array Field} (hT:P.underlying T = some (.struct fs)) (ds:List AV):elA P T ds = .agg ds:=by unfold elA;rw [hT]
theorem q3k {α:Type} [Inhabited α] {enc:α->AV} {f':Nat} {es:List AV} (he:∀ e∈es,∃ ds,TC P f' S ds∧e = elA P S ds) (h:∀ ds,TC P f' S ds->∃ a,elA P S ds = enc a):∃ l:List α,es = l.map enc:=by
 induction es with
 | nil=>exact ⟨[],rfl⟩
 | cons e es ih =>
   obtain ⟨l,rfl⟩:=ih fun e he'=>he e (by simp [he'])
   obtain ⟨ds,h1,rfl⟩:=he e (by simp)
   obtain ⟨a,ha⟩:=h ds h1
   exact ⟨a :: l,by rw [ha];rfl⟩
end

section
open Go.ChangeShapes Go.WideShapes Go.ChangeAt
variable {H:Type} {enc':TypeId×Value->H} {P:Program}
theorem qpq {f:Func} {s:ChangeSpec} {qd6 fresh handsOn again:Bool} {W W':World} {args:Array Value} {v:Value} {ds gs:List (DataW H)} {before pa pv:List MemPlace}
 (hW:DataW.Whole enc' P f.params.toList s.vars qd6 W args.toList ds gs before)
 (hres:∀ (b:Nat) (sp:Nat->Bool) (hd:Bool),DataW.TrodAll enc' P W' b sp hd f.resultTypes.toList (v.resultList f.resultTypes.size) (s.fn H (ds ++ gs)).results [])
 (hargs:∀ sp:Nat->Bool,(∀ p∈before,sp p.block = true)->DataW.TrodAll enc' P W' 0 sp true f.params.toList args.toList (s.fn H (ds ++ gs)).args pa)
 (hvars:∀ sp:Nat->Bool,(∀ p∈before,sp p.block = true)->DataW.TrodVars enc' P W' sp s.vars (s.fn H (ds ++ gs)).vars pv)
 (hps:before = pa ++ pv) (hb:Below W.heap.size W W')
 (hok:∀ (j:Nat) (t:TypeId) (r:Value),f.resultTypes[j]? = some t->(v.resultList f.resultTypes.size)[j]? = some r->Value.okWide P W' .any 0 t r) :
 s.post enc' P f qd6 fresh handsOn again W args v W':=by
 have hlt:∀ p∈before,p.block < W.heap.size:=fun p hp=>hW.lt p hp
 have hold:∀ p∈before,(fun b=>decide (b < W.heap.size)) p.block = true:=fun p hp=>by simpa using hlt p hp
 refine ⟨ds,gs,before,[],pa,pv,hW,hres _ _ _,hargs _ hold,hvars _ hold,World.keptBut_mono (fun p hp=>⟨hp,?_⟩) (hb.frame (·∈before)),fun _=>?_⟩
 ·rw [hps,List.mem_append] at hp
  exact Or.inr hp
 ·obtain ⟨_,_,_,_,_,hz,hn⟩:=hW
  refine ⟨hok,_,_,([] ++ pa) ++ pv,⟨[] ++ pa,pv,trodAll_append (hargs _ (fun _ _=>rfl)) (hres _ _ _),hvars _ (fun _ _=>rfl),rfl,?_,?_⟩,?_⟩
  ·intro b off hp
   have hin:MemPlace.cell b off∈before:=by rw [hps];simpa using hp
   rw [hb.frozen (hlt _ hin)]
   exact hz b off hin
  ·intro ha
   have:=hn ha
   rw [hps] at this
   simpa using this
  ·intro p hp _
   rw [hps]
   simpa using hp
end
end Go.V

/-
 Trees as data.
-/
namespace Go.V
open Go Go.RowKit

inductive N where
 | mk (kind pos num:Int) (text:List UInt8) (kids:List N)

def N.kind:N->Int | .mk k _ _ _ _=>k
def N.pos:N->Int | .mk _ p _ _ _=>p
def N.num:N->Int | .mk _ _ n _ _=>n
def N.text:N->List UInt8 | .mk _ _ _ t _=>t
def N.kids:N->List N | .mk _ _ _ _ ks=>ks

mutual
def enc:N->AV
 | .mk k p n t ks=>.agg [.int .i64 k,.int .i64 p,.int .i64 n,.str t,.sl 5 (encs ks)]
def encs:List N->List AV
 | []=>[]
 | x :: r=>enc x :: encs r
end
theorem qce (l:List N):encs l = l.map enc:=by
 induction l with
 | nil=>rfl
 | cons x r ih=>simp [encs,ih]
theorem qcr (n:N):AV.agg [.int .i64 n.kind,.int .i64 n.pos,.int .i64 n.num,.str n.text,.sl 5 (encs n.kids)] = enc n:=by
 cases n;simp only [enc,N.kind,N.pos,N.num,N.text,N.kids]
theorem qfg (n:N):(enc n).cells = [.int .i64 n.kind,.int .i64 n.pos,.int .i64 n.num,.str n.text,.sl 5 (encs n.kids)]:=by rw [← qcr];rfl

theorem N.ind {p:N->Prop} (h:∀ n:N,(∀ x∈n.kids,p x)->p n):∀ n,p n:=by
 intro n
 refine N.rec (motive_1:=p) (motive_2:=fun l=>∀ x∈l,p x) (fun k ps n t ks ih=>h (.mk k ps n t ks) ih) (fun x hx=>by cases hx) (fun x r h1 h2 y hy=>?_) n
 rcases List.mem_cons.1 hy with rfl | hy
 ·exact h1
 ·exact h2 y hy

theorem qmi (k:Nat):∀ n,(enc n).bd k = true:=N.ind fun n ih=>by
 simp only [← qcr n,AV.bd,AV.bds,qce,qjk,Bool.true_and,Bool.and_true,List.all_map,List.all_eq_true]
 exact ih
theorem qm1 (k:Nat) (l:List N):AV.bds k (encs l) = true:=by
 rw [qce,qjk,List.all_map,List.all_eq_true];exact fun x _=>qmi k x
theorem qbbz (σ:Nat->Nat) (n:N):(enc n).ren σ = enc n:=ren_same (m:=0) (fun i hi=>by omega) _ (qmi 0 n)
theorem qyz (σ:Nat->Nat) (l:List N):AV.rens σ (encs l) = encs l:=qx (m:=0) (fun i hi=>by omega) _ (qm1 0 l)
theorem qbf3 (H:List Ent) (n:N):co H (.agg [.id,.id,.id,.id,.sl 5]) (enc n) = enc n:=by
 rw [← qcr];simp only [qz3,qn6,qrf,qbkb,qn4]
theorem qye (n:N):rdCo (.agg [.id,.id,.id,.id,.sl 5]) (enc n) = []:=by
 rw [← qcr];simp only [qov,qi9,qld,qqp,qjq,List.append_nil]
theorem qbeu (n:N):(enc n).isAgg = true:=by cases n;rfl
theorem qfr (l:List N):(encs l).length = l.length:=by rw [qce];simp
theorem qrb {l:List N} {i:Nat} (h:i < l.length):(encs l).getD i .junk = enc l[i]:=by rw [qce,List.getD_eq_getElem?_getD,List.getElem?_map,List.getElem?_eq_getElem h];rfl
def N.wf (n:N):Prop:=n.kids.length≤maxLen∧n.text.length≤maxLen∧(Lit.int .i64 n.kind).wf = true∧(Lit.int .i64 n.pos).wf = true∧(Lit.int .i64 n.num).wf = true∧∀ x∈n.kids,(enc x).wf
theorem qb9 (n:N):(enc n).wf ↔ n.wf:=by
 rw [← qcr]
 simp only [AV.wf,AV.wfs,qfr,N.wf,q6v,qce,List.mem_map,forall_exists_index,and_imp,forall_apply_eq_imp_iff₂,and_true]
 simp only [List.length_map]
 constructor
 ·rintro ⟨h1,h2,h3,h4,h5,h6⟩;exact ⟨h5,h4,h1,h2,h3,h6⟩
 ·rintro ⟨h1,h2,h3,h4,h5,h6⟩;exact ⟨h3,h4,h5,h2,h1,h6⟩
theorem qm7 (n:N):(enc n).leaf = false:=by cases n;rfl
abbrev nc (n:N):List AV:=[.int .i64 n.kind,.int .i64 n.pos,.int .i64 n.num,.str n.text,.sl 5 (encs n.kids)]
attribute [go_sem] nc
def N0:N:=.mk 0 0 0 [] []
theorem qb {l:List N} {i:Nat} (h:i < l.length):(encs l).getD i .junk = enc (l.getD i N0):=by
 rw [qrb h,List.getD_eq_getElem?_getD,List.getElem?_eq_getElem h];rfl
theorem qg {l:List N} {i:Nat} (h:i < l.length):l.getD i N0∈l:=by
 rw [List.getD_eq_getElem?_getD,List.getElem?_eq_getElem h];exact List.getElem_mem h
theorem qp4 {l:List N} {i:Nat} (h:i < l.length):l.drop i = l.getD i N0 :: l.drop (i + 1):=by
 rw [List.drop_eq_getElem_cons h,List.getD_eq_getElem?_getD,List.getElem?_eq_getElem h];rfl
attribute [go_sem] qye qmi qm1 qbbz qyz qbf3 qbeu qfg qcr qm7 qfr
end Go.V

/- from the statement's reading of a tree to the tree -/
namespace Go.V
open Go Go.RowKit

section
variable {H:Type} {enc':TypeId×Value->H} {P:Program} {w:World} {base:Nat} {sp:Nat->Bool} {held:Bool} {I Z S T:TypeId}

end
end Go.V
