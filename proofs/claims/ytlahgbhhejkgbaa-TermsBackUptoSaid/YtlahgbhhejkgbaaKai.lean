/- Texts of this proof, joined. -/
import Derived.Test.YtlahgbhhejkgbaaKah
import Derived.WalkKit
import Derived.ProofKit
import Derived.OpenShut
import Derived.Carry
import Derived.ChangeSame
import Derived.Below
set_option linter.unusedVariables false
set_option linter.unusedSimpArgs false

/-
 The value logic, part w: from a statement's reading of an argument to the argument as a value.
-/
namespace Go.V
open Go Go.RowKit

def MM (w:World) (b o:Nat):Prop:=∃ v,w.cell? ⟨b,o,none⟩ = some v∧v.oneCell' = true

theorem stM (w:World):St w (MM w) [] []:=by
 refine ⟨rfl,fun i g e h=>by simp at h,fun i j g g' b h=>by simp at h,fun i g b h=>by simp at h,fun b o ⟨v,h,_⟩=>?_,fun b o v ⟨v',h,h1⟩ h2=>by rw [h] at h2;cases h2;exact h1⟩
 by_cases hb:b < w.heap.size
 ·exact hb
 ·exfalso
  unfold World.cell? at h
  simp only at h
  rw [Array.getElem?_eq_none (by omega)] at h
  simp at h

theorem qbby {w w':World} {M M':Nat->Nat->Prop} {G':List Gh} (h:Ext w M [] w' M' G'):Below w.heap.size w w' :=
 ⟨h.os,h.tape,h.output,h.size,fun k hk=>h.out k hk (fun ⟨i,g,hg,_⟩=>by simp at hg)⟩

theorem qg7 {α β:Type} {f:α->Option β}:∀ {l:List α} {r:List β},l.mapM f = some r->r.length = l.length∧∀ (j:Nat) (y:β),r[j]? = some y->∃ x,l[j]? = some x∧f x = some y
 | [], r, h => by
   simp only [List.mapM_nil,Option.pure_def,Option.some.injEq] at h
   subst h
   exact ⟨rfl,fun j y hj=>by simp at hj⟩
 | a :: l, r, h => by
   simp only [List.mapM_cons,Option.bind_eq_bind,Option.pure_def] at h
   obtain ⟨b,h1,h2⟩:=Option.bind_eq_some_iff.1 h
   obtain ⟨r',h3,h4⟩:=Option.bind_eq_some_iff.1 h2
   simp only [Option.some.injEq] at h4
   subst h4
   obtain ⟨q1,q2⟩:=qg7 h3
   refine ⟨by simp [q1],fun j y hj=>?_⟩
   cases j with
   | zero=>simp at hj;subst hj;exact ⟨a,rfl,h1⟩
   | succ j=>simp at hj;obtain ⟨x,r1,r2⟩:=q2 j y hj;exact ⟨x,by simpa using r1,r2⟩
def elA (P:Program) (T:TypeId) (ds:List AV):AV :=
 match P.underlying T with
 | some (.struct _) | some (.array _ _)=>.agg ds
 | _=>ds.headD .junk
def fieldsOf (fs:Array Field):List (TypeId×Nat):=fs.toList.map fun x=>(x.type,x.offset)
def qfb (P:Program) (n:Nat) (e:TypeId):List (TypeId×Nat):=(List.range n).map fun i=>(e,i * P.cellsOf e)
def TC (P:Program):Nat->TypeId->List AV->Prop
 | 0,_,_=>False
 | f + 1, T, cs => match P.underlying T with
   | some (.int k)=>∃ n,cs = [.int k n]
   | some .string=>∃ l,cs = [.str l]
   | some .bool=>∃ b,cs = [.bool b]
   | some (.slice S)=>∃ es,cs = [.sl (P.cellsOf S) es]∧∀ e∈es,∃ ds,TC P f S ds∧e = elA P S ds
   | some (.struct fs)=>cs.length = P.cellsOf T∧∀ x∈fieldsOf fs,TC P f x.1 ((cs.drop x.2).take (P.cellsOf x.1))
   | some (.array n e)=>cs.length = P.cellsOf T∧∀ x∈qfb P n e,TC P f x.1 ((cs.drop x.2).take (P.cellsOf x.1))
   | _=>False
def qjy (P:Program):Nat->List (TypeId×Nat)->Nat->Bool
 | o,[],n=>o == n
 | o,x :: r,n=>x.2 == o && qjy P (o + P.cellsOf x.1) r n
def qjl (P:Program) (L:List TypeId) (T:TypeId):Bool :=
 match P.underlying T with
 | some (.int _) | some .string | some .bool=>P.cellsOf T == 1
 | some (.slice S)=>L.contains S && P.cellsOf S != 0 && P.cellsOf T == 1
 | some (.struct fs)=>qjy P 0 (fieldsOf fs) (P.cellsOf T) && (fieldsOf fs).all fun x=>L.contains x.1
 | some (.array n e)=>qjy P 0 (qfb P n e) (P.cellsOf T) && L.contains e
 | _=>false

theorem qoa {P:Program}:∀ {l:List (TypeId×Nat)} {o n:Nat},qjy P o l n = true->o≤n
 | [],o,n,h=>by simp only [qjy,beq_iff_eq] at h;omega
 | x :: r, o, n, h => by
   simp only [qjy,Bool.and_eq_true] at h
   have:=qoa h.2
   omega

section
variable {H:Type} {enc':TypeId×Value->H} {P:Program} {w:World} {base:Nat} {sp:Nat->Bool} {held:Bool}

theorem qj1 {a:Addr} {n:Nat} {cs:List Value} (h:w.cells? base a n = some cs):cs.length = n∧∀ (j:Nat) (v:Value),cs[j]? = some v->w.cell? (a.add j) = some v:=by
 unfold World.cells? at h
 split at h
 ·obtain ⟨h1,h2⟩:=qg7 h
  refine ⟨by simpa using h1,fun j v hj=>?_⟩
  obtain ⟨x,q1,q2⟩:=h2 j v hj
  rw [List.getElem?_range (by have:=(List.getElem?_eq_some_iff.1 q1).1;simpa using this)] at q1
  simp only [Option.some.injEq] at q1
  subst q1
  exact q2
 ·cases h

theorem qk4 {m:Nat}:∀ {us:List Value},(∀ u∈us,u.cells.size = m)->∀ {j:Nat} {v:Value},(us.flatMap (·.cells.toList))[j]? = some v->∃ i q u,us[i]? = some u∧u.cells.toList[q]? = some v∧j = i * m + q
 | [],_,j,v,h=>by simp at h
 | u :: us, hm, j, v, h => by
   rw [List.flatMap_cons] at h
   have hu:u.cells.toList.length = m:=by simpa using hm u (by simp)
   by_cases hj:j < m
   ·rw [List.getElem?_append_left (by omega)] at h
    exact ⟨0,j,u,rfl,h,by omega⟩
   ·rw [List.getElem?_append_right (by omega),hu] at h
    obtain ⟨i,q,u',h1,h2,h3⟩:=qk4 (fun u hu=>hm u (by simp [hu])) h
    exact ⟨i + 1,q,u',h1,h2,by rw [Nat.add_mul];omega⟩

def elV (P:Program) (T:TypeId) (cs:List Value):Value :=
 match P.underlying T with
 | some (.struct _) | some (.array _ _)=>.agg cs.toArray
 | _=>cs.headD .nilIface

theorem qbej {S:TypeId} {as:List AV} {cs:List Value} (h:VRs w (MM w) [] as cs) (hl:as.all AV.leaf = true) (hn:as.length = P.cellsOf S)
 (h1:(∀ fs,P.underlying S≠some (.struct fs))->(∀ n e,P.underlying S≠some (.array n e))->P.cellsOf S = 1) :
 VR w (MM w) [] (elA P S as) (elV P S cs)∧(elV P S cs).cells.toList = cs:=by
 unfold elA elV
 split
 ·exact ⟨⟨cs,rfl,h⟩,by simp [Value.cells]⟩
 ·exact ⟨⟨cs,rfl,h⟩,by simp [Value.cells]⟩
 ·rename_i g1 g2
  have:=h1 g1 g2
  match as,h,hn,hl with
  | [a], h, _, hl =>
    obtain ⟨v,r,rfl,h2,h3⟩:=h
    simp only [VRs] at h3
    subst h3
    simp only [List.headD_cons]
    refine ⟨h2,?_⟩
    rw [(qe7 h2 (by simpa using hl)).2]
  | [],_,hn,_=>simp only [List.length_nil] at hn;omega
  | _ :: _ :: _,_,hn,_=>simp only [List.length_cons] at hn;omega

theorem qht {L:List TypeId} {S:TypeId} (h:qjl P L S = true) (g1:∀ fs,P.underlying S≠some (.struct fs)) (g2:∀ n e,P.underlying S≠some (.array n e)):P.cellsOf S = 1:=by
 unfold qjl at h
 split at h
 all_goals first
  | (simp only [beq_iff_eq] at h;exact h)
  | (simp only [Bool.and_eq_true,beq_iff_eq] at h;exact h.2)
  | (rename_i hu;exact absurd hu (g1 _))
  | (rename_i hu;exact absurd hu (g2 _ _))
  | (cases h)

end

section
variable {P:Program} {f:Nat} {T S:TypeId} {k:IntKind} {cs:List AV}
theorem q8h (hT:P.underlying T = some (.int k)) (h:TC P f T cs):∃ n,cs = [.int k n]:=by
 cases f with
 | zero=>exact h.elim
 | succ f=>simpa only [TC,hT] using h
theorem qyu (hT:P.underlying T = some .string) (h:TC P f T cs):∃ l,cs = [.str l]:=by
 cases f with
 | zero=>exact h.elim
 | succ f=>simpa only [TC,hT] using h
theorem qbd3 (hT:P.underlying T = some (.slice S)) (h:TC P f T cs):∃ f' es,f = f' + 1∧cs = [.sl (P.cellsOf S) es]∧∀ e∈es,∃ ds,TC P f' S ds∧e = elA P S ds:=by
 cases f with
 | zero=>exact h.elim
 | succ f =>
   simp only [TC,hT] at h
   obtain ⟨es,h1,h2⟩:=h
   exact ⟨f,es,rfl,h1,h2⟩
theorem qbeh {fs:Array Field} (hT:P.underlying T = some (.struct fs)) (h:TC P f T cs):∃ f',f = f' + 1∧cs.length = P.cellsOf T∧∀ x∈fieldsOf fs,TC P f' x.1 ((cs.drop x.2).take (P.cellsOf x.1)):=by
 cases f with
 | zero=>exact h.elim
 | succ f =>
   simp only [TC,hT] at h
   exact ⟨f,rfl,h⟩
theorem qy1 {fs:Array Field} (hT:P.underlying T = some (.struct fs)) (ds:List AV):elA P T ds = .agg ds:=by unfold elA;rw [hT]
theorem q3d (hT:P.underlying T = some .string) (a:AV):elA P T [a] = a:=by unfold elA;rw [hT];rfl
theorem q3x {α:Type} [Inhabited α] {enc:α->AV} {f':Nat} {es:List AV} (he:∀ e∈es,∃ ds,TC P f' S ds∧e = elA P S ds) (h:∀ ds,TC P f' S ds->∃ a,elA P S ds = enc a):∃ l:List α,es = l.map enc:=by
 induction es with
 | nil=>exact ⟨[],rfl⟩
 | cons e es ih =>
   obtain ⟨l,rfl⟩:=ih fun e he'=>he e (by simp [he'])
   obtain ⟨ds,h1,rfl⟩:=he e (by simp)
   obtain ⟨a,ha⟩:=h ds h1
   exact ⟨a :: l,by rw [ha];rfl⟩
end

section
open Go.ChangeShapes Go.WideShapes Go.ChangeAt
variable {H:Type} {enc':TypeId×Value->H} {P:Program}
theorem qpp {f:Func} {s:ChangeSpec} {qkd fresh handsOn again:Bool} {W W':World} {args:Array Value} {v:Value} {ds gs:List (DataW H)} {before pa pv:List MemPlace}
 (hW:DataW.Whole enc' P f.params.toList s.vars qkd W args.toList ds gs before)
 (hres:∀ (b:Nat) (sp:Nat->Bool) (hd:Bool),DataW.TrodAll enc' P W' b sp hd f.resultTypes.toList (v.resultList f.resultTypes.size) (s.fn H (ds ++ gs)).results [])
 (hargs:∀ sp:Nat->Bool,(∀ p∈before,sp p.block = true)->DataW.TrodAll enc' P W' 0 sp true f.params.toList args.toList (s.fn H (ds ++ gs)).args pa)
 (hvars:∀ sp:Nat->Bool,(∀ p∈before,sp p.block = true)->DataW.TrodVars enc' P W' sp s.vars (s.fn H (ds ++ gs)).vars pv)
 (hps:before = pa ++ pv) (hb:Below W.heap.size W W')
 (hok:∀ (j:Nat) (t:TypeId) (r:Value),f.resultTypes[j]? = some t->(v.resultList f.resultTypes.size)[j]? = some r->Value.okWide P W' .any 0 t r) :
 s.post enc' P f qkd fresh handsOn again W args v W':=by
 have hlt:∀ p∈before,p.block < W.heap.size:=fun p hp=>hW.lt p hp
 have hold:∀ p∈before,(fun b=>decide (b < W.heap.size)) p.block = true:=fun p hp=>by simpa using hlt p hp
 refine ⟨ds,gs,before,[],pa,pv,hW,hres _ _ _,hargs _ hold,hvars _ hold,World.keptBut_mono (fun p hp=>⟨hp,?_⟩) (hb.frame (·∈before)),fun _=>?_⟩
 ·rw [hps,List.mem_append] at hp
  exact Or.inr hp
 ·obtain ⟨_,_,_,_,_,hz,hn⟩:=hW
  refine ⟨hok,_,_,([] ++ pa) ++ pv,⟨[] ++ pa,pv,trodAll_append (hargs _ (fun _ _=>rfl)) (hres _ _ _),hvars _ (fun _ _=>rfl),rfl,?_,?_⟩,?_⟩
  ·intro b off hp
   have hin:MemPlace.cell b off∈before:=by rw [hps];simpa using hp
   rw [hb.frozen (hlt _ hin)]
   exact hz b off hin
  ·intro ha
   have:=hn ha
   rw [hps] at this
   simpa using this
  ·intro p hp _
   rw [hps]
   simpa using hp
end
end Go.V

/-
 Types as data.
-/
namespace Go.V
open Go Go.RowKit

inductive Ty where
 | mk (con:List UInt8) (var:Int) (args:List Ty)

def Ty.con:Ty->List UInt8 | .mk c _ _=>c
def Ty.var:Ty->Int | .mk _ v _=>v
def Ty.args:Ty->List Ty | .mk _ _ l=>l

mutual
def encY:Ty->AV
 | .mk c v l=>.agg [.str c,.int .i64 v,.sl 3 (qk l)]
def qk:List Ty->List AV
 | []=>[]
 | x :: r=>encY x :: qk r
end
theorem qcy (l:List Ty):qk l = l.map encY:=by
 induction l with
 | nil=>rfl
 | cons x r ih=>simp [qk,ih]
theorem qbk (n:Ty):AV.agg [.str n.con,.int .i64 n.var,.sl 3 (qk n.args)] = encY n:=by
 cases n;simp only [encY,Ty.con,Ty.var,Ty.args]
theorem qpg (n:Ty):(encY n).cells = [.str n.con,.int .i64 n.var,.sl 3 (qk n.args)]:=by rw [← qbk];rfl

theorem Ty.ind {p:Ty->Prop} (h:∀ n:Ty,(∀ x∈n.args,p x)->p n):∀ n,p n:=by
 intro n
 refine Ty.rec (motive_1:=p) (motive_2:=fun l=>∀ x∈l,p x) (fun c v l ih=>h (.mk c v l) ih) (fun x hx=>by cases hx) (fun x r h1 h2 y hy=>?_) n
 rcases List.mem_cons.1 hy with rfl | hy
 ·exact h1
 ·exact h2 y hy

theorem qck (k:Nat):∀ n,(encY n).bd k = true:=Ty.ind fun n ih=>by
 simp only [← qbk n,AV.bd,AV.bds,qcy,qlq,Bool.true_and,Bool.and_true,List.all_map,List.all_eq_true]
 exact ih
theorem qb3 (k:Nat) (l:List Ty):AV.bds k (qk l) = true:=by
 rw [qcy,qlq,List.all_map,List.all_eq_true];exact fun x _=>qck k x
theorem qvg (σ:Nat->Nat) (n:Ty):(encY n).ren σ = encY n:=ren_same (m:=0) (fun i hi=>by omega) _ (qck 0 n)
theorem qc2 (σ:Nat->Nat) (l:List Ty):AV.rens σ (qk l) = qk l:=qp (m:=0) (fun i hi=>by omega) _ (qb3 0 l)
theorem q4q (H:List Ent) (n:Ty):co H (.agg [.id,.id,.sl 3]) (encY n) = encY n:=by
 rw [← qbk];simp only [qym,qom,qt6,qws,qn5]
theorem qt7 (n:Ty):rdCo (.agg [.id,.id,.sl 3]) (encY n) = []:=by
 rw [← qbk];simp only [qny,qju,ql5,qri,qjq,List.append_nil]
theorem qwe (n:Ty):(encY n).isAgg = true:=by cases n;rfl
theorem qcx (l:List Ty):(qk l).length = l.length:=by rw [qcy];simp
theorem qpl {l:List Ty} {i:Nat} (h:i < l.length):(qk l).getD i .junk = encY l[i]:=by rw [qcy,List.getD_eq_getElem?_getD,List.getElem?_map,List.getElem?_eq_getElem h];rfl
def Ty.wf (n:Ty):Prop:=n.args.length≤maxLen∧n.con.length≤maxLen∧(Lit.int .i64 n.var).wf = true∧∀ x∈n.args,(encY x).wf
theorem qj2 (n:Ty):(encY n).wf ↔ n.wf:=by
 rw [← qbk]
 simp only [AV.wf,AV.wfs,qcx,Ty.wf,q19,qcy,List.mem_map,forall_exists_index,and_imp,forall_apply_eq_imp_iff₂,and_true]
 simp only [List.length_map]
 constructor
 ·rintro ⟨h1,h2,h3,h4⟩;exact ⟨h3,h1,h2,h4⟩
 ·rintro ⟨h1,h2,h3,h4⟩;exact ⟨h2,h3,h1,h4⟩
theorem qlr (n:Ty):(encY n).leaf = false:=by cases n;rfl
abbrev yc (n:Ty):List AV:=[.str n.con,.int .i64 n.var,.sl 3 (qk n.args)]
attribute [go_sem] yc
def Y0:Ty:=.mk [] 0 []
theorem qbc {l:List Ty} {i:Nat} (h:i < l.length):(qk l).getD i .junk = encY (l.getD i Y0):=by
 rw [qpl h,List.getD_eq_getElem?_getD,List.getElem?_eq_getElem h];rfl
theorem qc4 {l:List Ty} {i:Nat} (h:i < l.length):l.getD i Y0∈l:=by
 rw [List.getD_eq_getElem?_getD,List.getElem?_eq_getElem h];exact List.getElem_mem h
theorem qnp {l:List Ty} {i:Nat} (h:i < l.length):l.drop i = l.getD i Y0 :: l.drop (i + 1):=by
 rw [List.drop_eq_getElem_cons h,List.getD_eq_getElem?_getD,List.getElem?_eq_getElem h];rfl
theorem qvu (b:Bool) (n off:Nat) (t:Ty):fldv b n off (encY t) = ldc b n off [.str t.con,.int .i64 t.var,.sl 3 (qk t.args)]:=by rw [← qbk];rfl
theorem qes (a:List Ty) (t:Ty):qk a ++ [encY t] = qk (a ++ [t]):=by simp [qcy]
attribute [go_sem] qvu qt7 qck qb3 qvg qc2 q4q qwe qpg qbk qlr qcx
end Go.V
