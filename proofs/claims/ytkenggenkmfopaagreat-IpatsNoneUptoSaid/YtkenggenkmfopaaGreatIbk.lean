/- A text of this proof. -/
import Derived.Test.YtkenggenkmfopaaGreatIah
set_option linter.unusedVariables false
set_option linter.unusedSimpArgs false

/-
 Trees as data.
-/
namespace Go.V
open Go Go.RowKit

inductive N where
 | mk (kind pos num:Int) (text:List UInt8) (kids:List N)

def N.kind:N->Int | .mk k _ _ _ _=>k
def N.pos:N->Int | .mk _ p _ _ _=>p
def N.num:N->Int | .mk _ _ n _ _=>n
def N.text:N->List UInt8 | .mk _ _ _ t _=>t
def N.kids:N->List N | .mk _ _ _ _ ks=>ks

mutual
def enc:N->AV
 | .mk k p n t ks=>.agg [.int .i64 k,.int .i64 p,.int .i64 n,.str t,.sl 5 (encs ks)]
def encs:List N->List AV
 | []=>[]
 | x::r=>enc x::encs r
end
theorem qdd(l:List N):encs l=l.map enc:=by
 induction l with
 | nil=>rfl
 | cons x r ih=>simp[encs,ih]
theorem qd2(n:N):AV.agg [.int .i64 n.kind,.int .i64 n.pos,.int .i64 n.num,.str n.text,.sl 5 (encs n.kids)]=enc n:=by
 cases n;simp only[enc,N.kind,N.pos,N.num,N.text,N.kids]
theorem qj4(n:N):(enc n).cells=[.int .i64 n.kind,.int .i64 n.pos,.int .i64 n.num,.str n.text,.sl 5 (encs n.kids)]:=by rw[←qd2];rfl

theorem N.ind{p:N->Prop}(h:∀n:N,(∀x∈n.kids,p x)->p n):∀n,p n:=by
 intro n
 refine N.rec (motive_1:=p) (motive_2:=fun l=>∀x∈l,p x) (fun k ps n t ks ih=>h (.mk k ps n t ks) ih) (fun x hx=>by cases hx) (fun x r h1 h2 y hy=>?_) n
 rcases List.mem_cons.1 hy with rfl | hy
 ·exact h1
 ·exact h2 y hy

theorem qc8(k:Nat):∀n,(enc n).bd k=true:=N.ind fun n ih=>by
 simp only[←qd2 n,AV.bd,AV.bds,qdd,qb6,Bool.true_and,Bool.and_true,List.all_map,List.all_eq_true]
 exact ih
theorem qkr(k:Nat)(l:List N):AV.bds k (encs l)=true:=by
 rw[qdd,qb6,List.all_map,List.all_eq_true];exact fun x _=>qc8 k x
theorem q8z(σ:Nat->Nat)(n:N):(enc n).ren σ=enc n:=ren_same (m:=0) (fun i hi=>by omega) _ (qc8 0 n)
theorem q0k(σ:Nat->Nat)(l:List N):AV.rens σ (encs l)=encs l:=qs (m:=0) (fun i hi=>by omega) _ (qkr 0 l)
theorem qcgg(H:List Ent)(n:N):co H (.agg [.id,.id,.id,.id,.sl 5]) (enc n)=enc n:=by
 rw[←qd2];simp only[qef,qcf,qcx,qgq,qcj]
theorem qbh9(n:N):rdCo (.agg [.id,.id,.id,.id,.sl 5]) (enc n)=[]:=by
 rw[←qd2];simp only[qce,qbi,qbq,qdh,qbk,List.append_nil]
theorem qbtf(n:N):(enc n).isAgg=true:=by cases n;rfl
theorem qd7(l:List N):(encs l).length=l.length:=by rw[qdd];simp
theorem q8o{l:List N}{i:Nat}(h:i<l.length):(encs l).getD i .junk=enc l[i]:=by rw[qdd,List.getD_eq_getElem?_getD,List.getElem?_map,List.getElem?_eq_getElem h];rfl
def N.wf(n:N):Prop:=n.kids.length≤maxLen∧n.text.length≤maxLen∧(Lit.int .i64 n.kind).wf=true∧(Lit.int .i64 n.pos).wf=true∧(Lit.int .i64 n.num).wf=true∧∀x∈n.kids,(enc x).wf
theorem qbl1(n:N):(enc n).wf↔n.wf:=by
 rw[←qd2]
 simp only[AV.wf,AV.wfs,qd7,N.wf,qi2,qdd,List.mem_map,forall_exists_index,and_imp,forall_apply_eq_imp_iff₂,and_true]
 simp only[List.length_map]
 constructor
 ·rintro⟨h1,h2,h3,h4,h5,h6⟩;exact⟨h5,h4,h1,h2,h3,h6⟩
 ·rintro⟨h1,h2,h3,h4,h5,h6⟩;exact⟨h3,h4,h5,h2,h1,h6⟩
theorem qxi(n:N):(enc n).leaf=false:=by cases n;rfl
abbrev nc(n:N):List AV:=[.int .i64 n.kind,.int .i64 n.pos,.int .i64 n.num,.str n.text,.sl 5 (encs n.kids)]
attribute [go_sem] nc
def N0:N:=.mk 0 0 0 [] []
theorem qa{l:List N}{i:Nat}(h:i<l.length):(encs l).getD i .junk=enc (l.getD i N0):=by
 rw[q8o h,List.getD_eq_getElem?_getD,List.getElem?_eq_getElem h];rfl
theorem qj1{l:List N}{i:Nat}(h:i<l.length):l.getD i N0∈l:=by
 rw[List.getD_eq_getElem?_getD,List.getElem?_eq_getElem h];exact List.getElem_mem h
theorem qbbr{l:List N}{i:Nat}(h:i<l.length):l.drop i=l.getD i N0::l.drop (i+1):=by
 rw[List.drop_eq_getElem_cons h,List.getD_eq_getElem?_getD,List.getElem?_eq_getElem h];rfl
attribute [go_sem] qbh9 qc8 qkr q8z q0k qcgg qbtf qj4 qd2 qxi qd7
end Go.V
