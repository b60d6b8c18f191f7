/- Texts of this proof, joined. -/
import Derived.Test.YtefcfdejmfgbpaaMak
set_option linter.unusedVariables false
set_option linter.unusedSimpArgs false

/- predicates, pairs as data -/
namespace Go.V
open Go Go.RowKit


structure Pr where
 v:Int
 ty:Ty
def encR (p:Pr):AV:=.agg [.int .i64 p.v,.str p.ty.con,.int .i64 p.ty.var,.sl 3 (qn p.ty.args)]
def qbq (l:List Pr):List AV:=l.map encR
def R0:Pr:=⟨0,Y0⟩
abbrev prc (p:Pr):List AV:=[.int .i64 p.v,.str p.ty.con,.int .i64 p.ty.var,.sl 3 (qn p.ty.args)]
theorem qss (p:Pr):AV.agg [.int .i64 p.v,.str p.ty.con,.int .i64 p.ty.var,.sl 3 (qn p.ty.args)] = encR p:=rfl
theorem qrz (p:Pr):(encR p).cells = prc p:=rfl
theorem qfv (k:Nat) (p:Pr):(encR p).bd k = true:=by simp only [encR,AV.bd,AV.bds,qb0,Bool.and_true]
theorem qcz (k:Nat) (l:List Pr):AV.bds k (qbq l) = true:=by rw [qbq,qek,List.all_map,List.all_eq_true];exact fun x _=>qfv k x
theorem qkl (σ:Nat->Nat) (p:Pr):(encR p).ren σ = encR p:=ren_same (m:=0) (fun i hi=>by omega) _ (qfv 0 p)
theorem qhj (σ:Nat->Nat) (l:List Pr):AV.rens σ (qbq l) = qbq l:=qm (m:=0) (fun i hi=>by omega) _ (qcz 0 l)
theorem q02 (H:List Ent) (p:Pr):co H (.agg [.id,.id,.id,.sl 3]) (encR p) = encR p:=by
 simp only [encR,qs5,qkp,qnj,qux,qk0]
theorem qt8 (p:Pr):rdCo (.agg [.id,.id,.id,.sl 3]) (encR p) = []:=by
 simp only [encR,qj4,qf9,qhq,qoc,qfs,List.append_nil]
theorem qzr (p:Pr):(encR p).isAgg = true:=rfl
theorem qm7 (p:Pr):(encR p).leaf = false:=rfl
theorem qd6 (l:List Pr):(qbq l).length = l.length:=by simp [qbq]
theorem qc9 {l:List Pr} {i:Nat} (h:i < l.length):(qbq l).getD i .junk = encR (l.getD i R0):=by
 rw [qbq,List.getD_eq_getElem?_getD,List.getElem?_map,List.getElem?_eq_getElem h,List.getD_eq_getElem?_getD,List.getElem?_eq_getElem h];rfl
theorem qpi {l:List Pr} {i:Nat} (h:i < l.length):l.getD i R0∈l:=by
 rw [List.getD_eq_getElem?_getD,List.getElem?_eq_getElem h];exact List.getElem_mem h
theorem qra (n:Nat) (l:List Pr):(qbq l).take n = qbq (l.take n):=by simp [qbq]
theorem qqs (n:Nat) (l:List Pr):(qbq l).drop n = qbq (l.drop n):=by simp [qbq]
theorem qxw (b:Bool) (n off:Nat) (p:Pr):fldv b n off (encR p) = ldc b n off (prc p):=rfl
theorem qyx {l:List Pr} {n:Nat} (h:(AV.sl n (qbq l)).wf):l.length≤maxLen∧∀ p∈l,(encR p).wf:=by
 refine ⟨by have:=h.1;rwa [qd6] at this,fun p hp=>(qvm _).1 h.2 _ ?_⟩
 rw [qbq];exact List.mem_map_of_mem hp
attribute [go_sem] prc qxw qt8 qfv qcz qkl qhj q02 qzr qrz qss qm7 qd6 qra qqs
end Go.V
