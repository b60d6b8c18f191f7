/- Texts of this proof, joined. -/
import Derived.Test.YtlahgbhhejkgbaaKaq
set_option linter.unusedVariables false
set_option linter.unusedSimpArgs false

/- rows of integers: whether a number is there, each once -/
set_option maxRecDepth 4000
namespace Go.Proofs.Ytlahgbhhejkgbaa
open Go Go.RowKit Go.V

def ints (l:List Int):List AV:=l.map (AV.int .i64)
theorem qgv (l:List Int):(ints l).length = l.length:=by simp [ints]
theorem qkg (k:Nat) (l:List Int):AV.bds k (ints l) = true:=by rw [ints,qlq];simp [AV.bd]
theorem qod (σ:Nat->Nat) (l:List Int):AV.rens σ (ints l) = ints l:=qp (m:=0) (fun i hi=>by omega) _ (qkg 0 l)
theorem qij {l:List Int} {i:Nat} (h:i < l.length):(ints l).getD i .junk = .int .i64 (l.getD i 0):=by
 rw [ints,List.getD_eq_getElem?_getD,List.getElem?_map,List.getElem?_eq_getElem h,List.getD_eq_getElem?_getD,List.getElem?_eq_getElem h];rfl
theorem qrv (l:List Int) (v:Int):ints l ++ [.int .i64 v] = ints (l ++ [v]):=by simp [ints]
theorem qov:ints [] = []:=rfl
theorem qge {l:List Int} (h:l≠[]):ints l≠[]:=by cases l with | nil=>exact absurd rfl h | cons _ _=>simp [ints]
attribute [go_sem] qgv qkg qod cond_false cond_true
theorem qqi {l:List Int} {i:Nat} (h:i < l.length):l.drop i = l.getD i 0 :: l.drop (i + 1):=by
 rw [List.drop_eq_getElem_cons h,List.getD_eq_getElem?_getD,List.getElem?_eq_getElem h];rfl
theorem capI {k:Nat} (h:k≤1000000000):qc3 k 8:=by unfold qc3;omega

def idxW (v:Int):List Int->Int->Int
 | [],_=>-1
 | x :: r,k=>if v = x then k else idxW v r (k + 1)
theorem qt1 (v:Int):∀ (l:List Int) (k:Int),0≤k->(decide (0≤idxW v l k) = decide (v∈l))
 | [],k,h=>by simp [idxW]
 | x :: r, k, h => by
   rw [idxW]
   by_cases hx:v = x
   ·simp [hx,h]
   ·rw [if_neg hx,qt1 v r (k + 1) (by omega)];simp [hx]
theorem qku (l:List Int) (v:Int):ql Try.prog 69 [.sl 1 (ints l),.int .i64 v] (.int .i64 (idxW v l 0)):=by
 refine qg c0bm (by simp) (by simp only [go_sem]) rfl fun hw=>?_
 have hl:l.length≤maxLen:=by have:=hw.1.1;rwa [qgv] at this
 repeat' (first | refine vs_ ?_ | ((first | refine vr_ ?_ | (refine cs_ ?_ ?_<;>intro hc) | refine cj_ ?_ | simp (disch:=omega) only [encs_getN,qd])<;>(try refine ev_ ?_)) | with_reducible exact ti_)
 refine qbf (S:=Nat) (fun i=>i≤l.length∧idxW v (l.drop i) i = idxW v l 0) (fun i=>(⟨[(0,.sl 1 (ints l)),(1,.int .i64 v),(7,.int .i64 l.length),(8,.int .i64 i)],[]⟩,[])) (fun i=>l.length - i) ?_ fun i hi=>?_
 ·refine qx 0 [] ⟨Nat.zero_le _,rfl⟩ rfl (by simp) ?_ ?_ ?_<;>(try refine ev_ ?_)<;>(try with_reducible exact ti_)<;>(try simp (disch:=omega) only [qd,and_true,true_and])
 ·obtain ⟨hi,ha⟩:=hi
  repeat' (first | refine vs_ ?_ | ((first | refine vr_ ?_ | fail)<;>(try simp (disch:=first | omega | (simp only [List.length_set,List.length_append,List.length_cons,List.length_nil];done) | (simp only [List.length_set,List.length_append,List.length_cons,List.length_nil];omega)) only [qij,qd,go_sem,↓reduceIte])) | ((first | (refine cs_ ?_ ?_<;>intro hc) | refine cj_ ?_ | simp (disch:=omega) only [encs_getN,qd])<;>(try refine ev_ ?_)) | with_reducible exact ti_)
  ·rw [← ha,qqi (by omega),idxW,if_pos (by assumption)]
  ·refine qx (i + 1) [] ⟨⟨by omega,?_⟩,by omega⟩ rfl (by simp) ?_ ?_ ?_<;>(try refine ev_ ?_)<;>(try with_reducible exact ti_)<;>(try simp (disch:=omega) only [qd,and_true,true_and])
   rw [← ha,qqi (l:=l) (i:=i) (by omega),idxW,if_neg (by assumption)];rfl
  ·rw [← ha,List.drop_of_length_le (by omega)];rfl
theorem qer (l:List Int) (v:Int):ql Try.prog 46 [.sl 1 (ints l),.int .i64 v] (.bool (decide (v∈l))):=by
 refine qg c0bn (by simp) (by simp only [go_sem]) rfl fun hw=>?_
 repeat' (first | refine vs_ ?_ | ((first | refine vr_ ?_ | refine qa (qku _ _) fun _=>?_ | (refine cs_ ?_ ?_<;>intro hc) | refine cj_ ?_ | fail)<;>(try refine ev_ ?_)) | with_reducible exact ti_)
 rw [qt1 v l 0 (by omega)]
theorem qp0 (l m:List Int):ql Try.prog 17 [.sl 1 (ints l),.sl 1 (ints m)] (.bool (decide (l = m))):=by
 refine qg c0bo (by simp) (by simp only [go_sem]) rfl fun hw=>?_
 have hl:l.length≤maxLen:=by have:=hw.1.1;rwa [qgv] at this
 repeat' (first | refine vs_ ?_ | ((first | refine vr_ ?_ | (refine cs_ ?_ ?_<;>intro hc) | refine cj_ ?_ | simp (disch:=omega) only [encs_getN,qd])<;>(try refine ev_ ?_)) | with_reducible exact ti_)
 ·rw [decide_eq_false];rintro rfl;omega
 refine qbf (S:=Nat) (fun i=>i≤l.length∧decide (l.drop i = m.drop i) = decide (l = m)) (fun i=>(⟨[(0,.sl 1 (ints l)),(1,.sl 1 (ints m)),(5,.int .i64 i)],[]⟩,[])) (fun i=>l.length - i) ?_ fun i hi=>?_
 ·refine qx 0 [] ⟨Nat.zero_le _,rfl⟩ rfl (by simp) ?_ ?_ ?_<;>(try refine ev_ ?_)<;>(try with_reducible exact ti_)<;>(try simp (disch:=omega) only [qd,and_true,true_and])
 ·obtain ⟨hi,ha⟩:=hi
  repeat' (first | refine vs_ ?_ | ((first | refine vr_ ?_ | fail)<;>(try simp (disch:=first | omega | (simp only [List.length_set,List.length_append,List.length_cons,List.length_nil];done) | (simp only [List.length_set,List.length_append,List.length_cons,List.length_nil];omega)) only [qij,qd,go_sem,↓reduceIte])) | ((first | (refine cs_ ?_ ?_<;>intro hc) | refine cj_ ?_ | simp (disch:=omega) only [encs_getN,qd])<;>(try refine ev_ ?_)) | with_reducible exact ti_)
  ·rw [← ha,qqi (l:=l) (i:=i) (by omega),qqi (l:=m) (i:=i) (by omega),decide_eq_false]
   intro h
   exact absurd (List.cons.inj h).1 (by assumption)
  ·refine qx (i + 1) [] ⟨⟨by omega,?_⟩,by omega⟩ rfl (by simp) ?_ ?_ ?_<;>(try refine ev_ ?_)<;>(try with_reducible exact ti_)<;>(try simp (disch:=omega) only [qd,and_true,true_and])
   rw [← ha,qqi (l:=l) (i:=i) (by omega),qqi (l:=m) (i:=i) (by omega)]
   refine decide_eq_decide.2 ⟨fun h=>by rw [h];congr 1,fun h=>(List.cons.inj h).2⟩
  ·rw [← ha,List.drop_of_length_le (by omega),List.drop_of_length_le (by omega)];rfl

/-! each once -/
theorem qf7 {H:List Ent} {n:Nat}:co H (.sl n) .nils = .sl n []:=Eq.trans rfl rfl
/-! all variables -/
/-! the program's: a walk that gathers -/
def outE (l:List Int):Ent:=bun (.blk [accV 1 (ints l)] :: accE 1 (ints l))
def outN (l:List Int) (t:Ty):List Int:=if t.con = [] then (if t.var∈l then l else l ++ [t.var]) else l
theorem qeu {H':List Ent} {l:List Int} {r:AV} (k:Nat) (h0:l≠[]) (hk:0 < k) (hl:k < H'.length) (e0:ent H' 0 = .blk [.row k l.length]) (e1:ent H' k = .app 1 (ints l)) (hr:r.bd 1 = true) :
 qme (fun H' o=>H' = [outE l]∧o = .val r) H' (.val r):=by
 refine ⟨[.blk [.row 1 l.length],.app 1 (ints l)],[0,k],rfl,by simp,by simp;omega,?_,hr,?_,rfl⟩
 ·simp only [qek,List.length_cons,List.length_nil,Ent.bd,AV.bds,AV.bd,Ent.ren,AV.rens,AV.ren,e0,e1,qkg,qod]
  exact ⟨⟨by omega,rfl,rfl⟩,⟨hl,trivial,trivial⟩,trivial⟩
 ·rw [outE,qdf (qge h0),qdd (qge h0),qgv]
theorem qqc {H':List Ent} {r:AV} (hl:0 < H'.length) (e0:ent H' 0 = .blk [.nils]) (hr:r.bd 1 = true) :
 qme (fun H' o=>H' = [outE []]∧o = .val r) H' (.val r):=by
 refine ⟨[.blk [.nils]],[0],rfl,by simp,by simp,?_,hr,rfl,rfl⟩
 exact ⟨⟨hl,rfl,by rw [e0];rfl⟩,trivial⟩
theorem qbd8 (l:List Int) (t:Ty) (k:Int) (hb:l.length≤1000000):VM Try.prog 45 (outE l) (outE (outN l t)) [encY t,.int .i64 k,.ptr 0 0] (.bool true):=by
 refine qbax ?_ (by simp [AV.bds,AV.bd,qck])
 have hcap:qc3 (l.length + 1) 8 = True:=eq_true (capI (by omega))
 refine qle c0bp (by simp) ?_
 by_cases h0:l = []
 ·subst h0
  simp only [qov,qb0,qb6]
  repeat' (first | refine vs_ ?_ | ((first | refine vr_ ?_ | fail)<;>(try simp only [qf7,go_sem,↓reduceIte])) | ((first | simp (disch:=omega) only [hcap] | (refine cs_ ?_ ?_<;>intro hc) | refine cj_ ?_ | fail | refine qa (qer [] _) fun _=>?_)<;>(try refine ev_ ?_)) | with_reducible exact ti_)
  ·have:outN [] t = [t.var]:=by rw [outN,if_pos (by assumption),if_neg (by assumption)];rfl
   rw [this]
   exact qeu (l:=[t.var]) 2 (by simp) (by omega) (by simp) rfl rfl rfl
  ·exact absurd (by assumption:t.var∈[]) (by simp)
  ·have:outN [] t = []:=by rw [outN,if_neg (by assumption)]
   rw [this]
   exact qqc (by simp) rfl rfl
 ·simp only [qdf (qge h0),qdd (qge h0)]
  repeat' (first | refine vs_ ?_ | ((first | refine vr_ ?_ | refine qa (qer l _) fun _=>?_ | simp (disch:=omega) only [hcap] | (refine cs_ ?_ ?_<;>intro hc) | refine cj_ ?_ | fail)<;>(try refine ev_ ?_)) | with_reducible exact ti_)
  ·have:outN l t = l ++ [t.var]:=by rw [outN,if_pos (by assumption),if_neg (by assumption)]
   rw [this,qrv]
   exact qeu (l:=l ++ [t.var]) 3 (by simp) (by omega) (by simp) (by simp [ent]) rfl rfl
  ·have:outN l t = l:=by rw [outN,if_pos (by assumption),if_pos (by assumption)]
   rw [this]
   exact qeu (l:=l) 1 h0 (by omega) (by simp) rfl rfl rfl
  ·have:outN l t = l:=by rw [outN,if_neg (by assumption)]
   rw [this]
   exact qeu (l:=l) 1 h0 (by omega) (by simp) rfl rfl rfl
def qta (l:List Int) (t:Ty) (_:Int):List Int×Bool:=(outN l t,true)
theorem qsg (l:List Int) (c:List UInt8) (v:Int) (a:List Ty):outN l (.mk c v a) = qdi l (if c = [] then [v] else []):=by
 unfold outN
 by_cases hcn:c = []
 ·rw [if_pos (show (Ty.mk c v a).con = [] from hcn),if_pos hcn];rfl
 ·rw [if_neg (show ¬ (Ty.mk c v a).con = [] from hcn),if_neg hcn];rfl
mutual
theorem qbdn:∀ (t:Ty) (l:List Int) (k:Int),qbt qta t l k = (qdi l (varY t),true)
 | .mk c v a, l, k => by
   rw [qbt,if_pos (show (qta l (.mk c v a) k).2 = true from rfl),qy0,varY,qmq]
   congr 2
   exact qsg l c v a
theorem qy0:∀ (a:List Ty) (l:List Int) (k:Int),q7 qta a l k = (qdi l (qft a),true)
 | [],l,k=>by rw [q7,qft];rfl
 | x :: r, l, k => by
   rw [q7,qbdn x,if_pos rfl,qy0 r,qft,qmq]
end
theorem qwa (l:List Int) (t:Ty):(outN l t).length≤l.length + 1:=by
 rw [outN];split
 ·split
  ·omega
  ·simp
 ·omega
theorem qi5 (t:Ty) (hb:szY t≤1000000):ql Try.prog 18 [encY t] (.sl 1 (ints (qdi [] (varY t)))):=by
 refine qg c0bq (by simp) (by simp only [go_sem]) (qkg 0 _) fun hw=>?_
 have hwalk:=qf3 (st:=outE) (step:=qta) (f:=45) (ok:=fun n l=>l.length + n≤1000000) (fun _=>rfl) (fun n l t k h=>by have:=qwa l t;simp only [qta];omega) (fun n l h=>by omega) (fun l t k h=>qbd8 l t k (by omega)) t [] 1 (by simpa using hb)
 rw [qbdn] at hwalk
 unfold k0bq
 refine qb8 (qfl ?_)
 (refine ev_ ?_;(try with_reducible exact ti_))
 refine qb8 (qfl ?_)
 (refine ev_ ?_;(try with_reducible exact ti_))
 refine q0t 1 rfl rfl ?_
 refine qb8 (qfl ?_)
 simp only [List.set_cons_succ,List.set_cons_zero]
 (refine ev_ ?_;(try with_reducible exact ti_))
 refine qbr 1 hwalk ?_
 simp only [List.set_cons_succ,List.set_cons_zero]
 (refine ev_ ?_;(try with_reducible exact ti_))
 refine qy3 1 rfl (by simp) ?_
 simp only [List.set_cons_succ,List.set_cons_zero]
 by_cases h0:qdi [] (varY t) = []
 ·simp only [h0,qov,qb0,qb6]
  repeat' (first | refine vs_ ?_ | ((first | refine vr_ ?_ | (refine cs_ ?_ ?_<;>intro hc) | refine cj_ ?_ | fail)<;>(try refine ev_ ?_)) | with_reducible exact ti_)
 ·simp only [qdf (qge h0),qdd (qge h0)]
  repeat' (first | refine vs_ ?_ | ((first | refine vr_ ?_ | (refine cs_ ?_ ?_<;>intro hc) | refine cj_ ?_ | fail)<;>(try refine ev_ ?_)) | with_reducible exact ti_)
set_option maxRecDepth 4000

/-! the program's -/
abbrev numE (n:Int):Ent:=.blk [.int .i64 n]
def qei (n:Int) (t:Ty) (k:Int):Int×Bool:=(IntKind.i64.wrap (n + 1),decide (IntKind.i64.wrap (n + 1)≤4096) && (decide (k≤100) && mayY t))
theorem q6x (n:Int) (t:Ty) (k:Int):VM Try.prog 39 (numE n) (numE (qei n t k).1) [encY t,.int .i64 k,.ptr 0 0] (.bool (qei n t k).2):=by
 refine qg1 (by kernel_rfl) fun hw=>?_
 have hk:=qdc hw.1
 refine qbj c0be 1 (by simp) (by simp) ?_
 repeat' (first | refine vs_ ?_ | ((first | refine vr_ ?_ | refine qa (qfo _) fun _=>?_ | refine qa (qxe _ _ _) fun _=>?_ | (refine cs_ ?_ ?_<;>intro hc) | refine cj_ ?_ | simp (disch:=omega) only [encs_getN,qd])<;>(try refine ev_ ?_)) | with_reducible exact ti_)
 ·simp_all [qei]
 ·exact ⟨rfl,by simp only [qei, *,decide_true,decide_false,Bool.true_and,Bool.false_and]⟩
 ·exact ⟨rfl,by simp only [qei, *,decide_true,decide_false,Bool.true_and,Bool.false_and]⟩
def qnl (n:Int) (_:Ty) (_:Int):Int×Bool:=(IntKind.i64.wrap (n + 1),true)
theorem qbd7 (n:Int) (t:Ty) (k:Int):VM Try.prog 43 (numE n) (numE (qnl n t k).1) [encY t,.int .i64 k,.ptr 0 0] (.bool (qnl n t k).2):=by
 refine qbj c0bf 1 (by simp) (by simp) ?_
 repeat' (first | refine vs_ ?_ | ((first | refine vr_ ?_ | (refine cs_ ?_ ?_<;>intro hc) | refine cj_ ?_ | simp (disch:=omega) only [encs_getN,qd])<;>(try refine ev_ ?_)) | with_reducible exact ti_)
 exact ⟨rfl,rfl⟩
def qkt (n:Int) (_:Ty) (k:Int):Int×Bool:=(if k > n then k else n,true)
theorem qbc3 (n:Int) (t:Ty) (k:Int):VM Try.prog 44 (numE n) (numE (qkt n t k).1) [encY t,.int .i64 k,.ptr 0 0] (.bool (qkt n t k).2):=by
 refine qbj c0bg 1 (by simp) (by simp) ?_
 repeat' (first | refine vs_ ?_ | ((first | refine vr_ ?_ | (refine cs_ ?_ ?_<;>intro hc) | refine cj_ ?_ | fail)<;>(try refine ev_ ?_)) | with_reducible exact ti_)
 exact ⟨rfl,rfl⟩
theorem qkk {f:FuncId} {step:Int->Ty->Int->Int×Bool} (h:∀ n t k,VM Try.prog f (numE n) (numE (step n t k).1) [encY t,.int .i64 k,.ptr 0 0] (.bool (step n t k).2)) (t:Ty) (n k:Int) :
 VM Try.prog 38 (numE n) (numE (qbt step t n k).1) [encY t,.int .i64 k,.fn f [] [.ptr 0 0]] (.bool (qbt step t n k).2) :=
 qf3 (st:=numE) (ok:=fun _ _=>True) (fun _=>rfl) (fun _ _ _ _ _=>trivial) (fun _ _ _=>trivial) (fun n t k _=>h n t k) t n k trivial
def ql4 (t:Ty):Bool:=(qbt qei t 0 1).2
theorem qhd (t:Ty):ql Try.prog 11 [encY t] (.bool (ql4 t)):=by
 refine qg c0bh (by simp) (by simp only [go_sem]) rfl fun hw=>?_
 repeat' (first | refine vs_ ?_ | ((first | refine vr_ ?_ | refine qbr 1 (qkk q6x t 0 1) ?_ | (refine cs_ ?_ ?_<;>intro hc) | refine cj_ ?_ | fail)<;>(try refine ev_ ?_)) | with_reducible exact ti_)
 rfl
theorem qp1 (t:Ty):ql Try.prog 13 [encY t] (.int .i64 (qbt qnl t 0 1).1):=by
 refine qg c0bi (by simp) (by simp only [go_sem]) rfl fun hw=>?_
 repeat' (first | refine vs_ ?_ | ((first | refine vr_ ?_ | refine qbr 1 (qkk qbd7 t 0 1) ?_ | (refine cs_ ?_ ?_<;>intro hc) | refine cj_ ?_ | fail)<;>(try refine ev_ ?_)) | with_reducible exact ti_)
theorem qmx (t:Ty):ql Try.prog 15 [encY t] (.int .i64 (qbt qkt t 0 1).1):=by
 refine qg c0bj (by simp) (by simp only [go_sem]) rfl fun hw=>?_
 repeat' (first | refine vs_ ?_ | ((first | refine vr_ ?_ | refine qbr 1 (qkk qbc3 t 0 1) ?_ | (refine cs_ ?_ ?_<;>intro hc) | refine cj_ ?_ | fail)<;>(try refine ev_ ?_)) | with_reducible exact ti_)

/-! the references -/
mutual
def qsv:Ty->Int
 | .mk _ _ l=>qig 1 l
def qig:Int->List Ty->Int
 | a,[]=>a
 | a,x :: r=>qig (IntKind.i64.wrap (a + qsv x)) r
end
mutual
def qn:Ty->Bool
 | .mk c v l=>qef l && mayW c v l.length
def qef:List Ty->Bool
 | []=>true
 | x :: r=>qn x && qef r
end
theorem qh4 (t:Ty):qn t = (qef t.args && mayY t):=by cases t;rw [qn];rfl
/-! Few -/
mutual
def cntY:Ty->Int->Int->Int
 | .mk _ _ l,k,d=>if d < 1 then -1 else qdx l (IntKind.i64.wrap (k - 1)) d
def qdx:List Ty->Int->Int->Int
 | [],a,_=>a
 | x :: r,a,d=>if 0≤a then qdx r (cntY x a (IntKind.i64.wrap (d - 1))) d else a
end
theorem qru (t:Ty) (k d:Int):cntY t k d = if d < 1 then -1 else qdx t.args (IntKind.i64.wrap (k - 1)) d:=by cases t;rw [cntY];rfl
theorem qfm {a:Int} (h:a < 0) (l:List Ty) (d:Int):qdx l a d = a:=by
 cases l with
 | nil=>rw [qdx]
 | cons x r=>rw [qdx,if_neg (by omega)]
theorem qzk:∀ t k d,ql Try.prog 37 [encY t,.int .i64 k,.int .i64 d] (.int .i64 (cntY t k d)):=by
 refine Ty.ind fun t ih k d=>?_
 refine qg c0bk (by simp) (by simp only [go_sem]) rfl fun hw=>?_
 have hk:=qdc hw.1
 rw [qru]
 repeat' (first | refine vs_ ?_ | ((first | refine vr_ ?_ | (refine cs_ ?_ ?_<;>intro hc) | refine cj_ ?_ | simp (disch:=omega) only [encs_getN,qd])<;>(try refine ev_ ?_)) | with_reducible exact ti_)
 ·rw [if_pos (by assumption)]
 rw [if_neg (by assumption)]
 refine qbf (S:=Nat×Int) (fun s=>s.1≤t.args.length∧qdx (t.args.drop s.1) s.2 d = qdx t.args (IntKind.i64.wrap (k - 1)) d) (fun s=>(⟨[(1,.int .i64 s.2),(2,.int .i64 d),(3,.ptr 0 0),(7,.int .i64 s.1)],[]⟩,[.blk (yc t)])) (fun s=>t.args.length - s.1) ?_ fun s hs=>?_
 ·refine qx (0,IntKind.i64.wrap (k - 1)) [0] ⟨Nat.zero_le _,rfl⟩ rfl (by simp) ?_ ?_ ?_<;>(try refine ev_ ?_)<;>(try with_reducible exact ti_)<;>(try simp (disch:=omega) only [qd,and_true,true_and])
 ·obtain ⟨i,a⟩:=s
  obtain ⟨hi,ha⟩:=hs
  dsimp only at hi ha
  repeat' (first | refine vs_ ?_ | ((first | refine vr_ ?_ | fail)<;>(try simp (disch:=first | omega | (simp only [List.length_set,List.length_append,List.length_cons,List.length_nil];done) | (simp only [List.length_set,List.length_append,List.length_cons,List.length_nil];omega)) only [qbc,qd,go_sem,↓reduceIte])) | ((first | (refine cs_ ?_ ?_<;>intro hc) | refine cj_ ?_ | simp (disch:=omega) only [encs_getN,qd] | refine qa (ih _ (qc4 (by omega)) _ _) fun _=>?_)<;>(try refine ev_ ?_)) | with_reducible exact ti_)
  ·refine qx (i + 1,cntY (t.args.getD i Y0) a (IntKind.i64.wrap (d - 1))) [0] ⟨⟨by dsimp only;omega,?_⟩,by dsimp only;omega⟩ rfl (by simp) ?_ ?_ ?_<;>(try refine ev_ ?_)<;>(try with_reducible exact ti_)<;>(try simp (disch:=omega) only [qd,and_true,true_and])
   rw [← ha,qnp (l:=t.args) (i:=i) (by omega),qdx,if_pos (by assumption)]
  ·rw [← ha,qfm (by omega)]
  ·rw [← ha,List.drop_of_length_le (by omega)];rfl
def qip (a:Int):List Ty->Int
 | []=>a
 | x :: r=>qip (cntY x a 300) r
def qfe (l:List Ty):Bool:=decide (0≤qip 20000 l)
theorem qbal (l:List Ty):ql Try.prog 9 [.sl 3 (qk l)] (.int .i64 (if qfe l = true then 1 else 0)):=by
 refine qg c0bl (by simp) (by simp only [go_sem]) rfl fun hw=>?_
 have hk:l.length≤maxLen:=by have:=hw.1.1;rwa [qcx] at this
 repeat' (first | refine vs_ ?_ | ((first | refine vr_ ?_ | (refine cs_ ?_ ?_<;>intro hc) | refine cj_ ?_ | simp (disch:=omega) only [encs_getN,qd])<;>(try refine ev_ ?_)) | with_reducible exact ti_)
 refine qbf (S:=Nat×Int) (fun s=>s.1≤l.length∧qip s.2 (l.drop s.1) = qip 20000 l) (fun s=>(⟨[(0,.sl 3 (qk l)),(3,.int .i64 s.2),(4,.int .i64 s.1)],[]⟩,[])) (fun s=>l.length - s.1) ?_ fun s hs=>?_
 ·refine qx (0,20000) [] ⟨Nat.zero_le _,rfl⟩ rfl (by simp) ?_ ?_ ?_<;>(try refine ev_ ?_)<;>(try with_reducible exact ti_)<;>(try simp (disch:=omega) only [qd,and_true,true_and])
 ·obtain ⟨i,a⟩:=s
  obtain ⟨hi,ha⟩:=hs
  dsimp only at hi ha
  repeat' (first | refine vs_ ?_ | ((first | refine vr_ ?_ | fail)<;>(try simp (disch:=first | omega | (simp only [List.length_set,List.length_append,List.length_cons,List.length_nil];done) | (simp only [List.length_set,List.length_append,List.length_cons,List.length_nil];omega)) only [qbc,qd,go_sem,↓reduceIte])) | ((first | (refine cs_ ?_ ?_<;>intro hc) | refine cj_ ?_ | simp (disch:=omega) only [encs_getN,qd] | refine qa (qzk _ _ _) fun _=>?_)<;>(try refine ev_ ?_)) | with_reducible exact ti_)
  ·refine qx (i + 1,cntY (l.getD i Y0) a 300) [] ⟨⟨by dsimp only;omega,?_⟩,by dsimp only;omega⟩ rfl (by simp) ?_ ?_ ?_<;>(try refine ev_ ?_)<;>(try with_reducible exact ti_)<;>(try simp (disch:=omega) only [qd,and_true,true_and])
   rw [← ha,qnp (l:=l) (i:=i) (by omega),qip]
  all_goals
   have hf:qip 20000 l = a:=by rw [← ha,List.drop_of_length_le (by omega)];rfl
   rw [qfe,hf]
  ·rw [if_neg (by simp;omega)]
  ·rw [if_pos (by simp;omega)]

/-! the laws of sizes -/
mutual
theorem qs3:∀ (t:Ty) (k d:Int),0≤k->k≤20000->d≤300->0≤cntY t k d->cntY t k d = k - szY t∧(dpY t:Int)≤d
 | .mk c v l, k, d, h0, h1, h2, h3 => by
   rw [cntY] at h3 ⊢
   by_cases hd:d < 1
   ·rw [if_pos hd] at h3;omega
   ·rw [if_neg hd] at h3 ⊢
    have hk:IntKind.i64.wrap (k - 1) = k - 1:=qv (by omega) (by omega)
    rw [hk] at h3 ⊢
    have h4:0≤k - 1:=by
     by_cases h:0≤k - 1
     ·exact h
     ·rw [qfm (by omega)] at h3;exact h3
    have:=qob l (k - 1) d h4 (by omega) (by omega) h2 h3
    rw [szY,dpY]
    omega
theorem qob:∀ (l:List Ty) (a d:Int),0≤a->a≤20000->1≤d->d≤300->0≤qdx l a d->qdx l a d = a - szYs l∧(dpYs l:Int)≤d - 1
 | [],a,d,h0,h1,h2,h3,h4=>by rw [qdx,szYs,dpYs];omega
 | x :: r, a, d, h0, h1, h2, h3, h4 => by
   rw [qdx,if_pos h0] at h4 ⊢
   have hd:IntKind.i64.wrap (d - 1) = d - 1:=qv (by omega) (by omega)
   rw [hd] at h4 ⊢
   have h5:0≤cntY x a (d - 1):=by
    by_cases h:0≤cntY x a (d - 1)
    ·exact h
    ·rw [qfm (by omega)] at h4;exact absurd h4 h
   obtain ⟨h6,h7⟩:=qs3 x a (d - 1) h0 h1 (by omega) h5
   obtain ⟨h8,h9⟩:=qob r _ d h5 (by omega) h2 h3 h4
   rw [szYs,dpYs]
   omega
end
mutual
theorem quq:∀ (t:Ty) (k d:Int),0≤k->k≤20000->-1≤cntY t k d
 | .mk c v l, k, d, h0, h1 => by
   rw [cntY]
   split
   ·omega
   ·rw [qv (z:=k - 1) (by omega) (by omega)]
    exact qsh l (k - 1) d (by omega) (by omega)
theorem qsh:∀ (l:List Ty) (a d:Int),-1≤a->a≤20000->-1≤qdx l a d
 | [],a,d,h0,_=>by rw [qdx];exact h0
 | x :: r, a, d, h0, h1 => by
   rw [qdx]
   split
   ·rename_i h
    have h2:=quq x a (IntKind.i64.wrap (d - 1)) h h1
    have h3:=qyz x a (IntKind.i64.wrap (d - 1)) h h1
    exact qsh r _ d h2 (by omega)
   ·exact h0
theorem qyz:∀ (t:Ty) (k d:Int),0≤k->k≤20000->cntY t k d≤k
 | .mk c v l, k, d, h0, h1 => by
   rw [cntY]
   split
   ·omega
   ·rw [qv (z:=k - 1) (by omega) (by omega)]
    have:=qsl l (k - 1) d (by omega) (by omega)
    omega
theorem qsl:∀ (l:List Ty) (a d:Int),-1≤a->a≤20000->qdx l a d≤a
 | [],a,d,h0,_=>by rw [qdx];exact Int.le_refl _
 | x :: r, a, d, h0, h1 => by
   rw [qdx]
   split
   ·rename_i h
    have h2:=quq x a (IntKind.i64.wrap (d - 1)) h h1
    have h3:=qyz x a (IntKind.i64.wrap (d - 1)) h h1
    have:=qsl r _ d h2 (by omega)
    omega
   ·exact Int.le_refl _
end
theorem qoq:∀ (l:List Ty) {a:Int},a < 0->-9223372036854775808≤a - l.length->qip a l < 0
 | [],a,h,_=>h
 | x :: r, a, h, h2 => by
   rw [qip]
   have h3:cntY x a 300 = IntKind.i64.wrap (a - 1):=by
    rw [qru,if_neg (by omega)]
    have hk:IntKind.i64.wrap (a - 1) = a - 1:=qv (by simp only [List.length_cons] at h2;omega) (by omega)
    rw [hk,qfm (by omega)]
   have hk:IntKind.i64.wrap (a - 1) = a - 1:=qv (by simp only [List.length_cons] at h2;omega) (by omega)
   rw [h3,hk]
   exact qoq r (by omega) (by simp only [List.length_cons] at h2;omega)
theorem qnz:∀ (l:List Ty) (a:Int),0≤a->a≤20000->l.length≤9223372036854775807->0≤qip a l->(szYs l:Int)≤a∧(dpYs l:Int)≤300
 | [],a,h0,h1,_,h2=>by rw [szYs,dpYs];omega
 | x :: r, a, h0, h1, hl, h2 => by
   rw [qip] at h2
   simp only [List.length_cons] at hl
   have h5:0≤cntY x a 300:=by
    by_cases h:0≤cntY x a 300
    ·exact h
    ·have:-1≤cntY x a 300:=quq x a 300 h0 h1
     have:=qoq r (a:=cntY x a 300) (by omega) (by omega)
     omega
   obtain ⟨h6,h7⟩:=qs3 x a 300 h0 h1 (by omega) h5
   obtain ⟨h8,h9⟩:=qnz r _ h5 (by omega) (by omega) h2
   rw [szYs,dpYs]
   omega
theorem q10 {l:List Ty} (hl:l.length≤maxLen) (h:qfe l = true):szYs l≤20000∧dpYs l≤300:=by
 have:=qnz l 20000 (by omega) (by omega) (by unfold maxLen at hl;omega) (by simpa [qfe] using h)
 omega

mutual
theorem qpt:∀ (t:Ty),szY t≤1000000->qsv t = szY t
 | .mk c v l, h => by
   rw [szY] at h
   rw [qsv,szY,qib l 1 (by omega) (by omega)]
   omega
theorem qib:∀ (l:List Ty) (a:Int),1≤a->a + szYs l≤1000001->qig a l = a + szYs l
 | [],a,_,_=>by rw [qig,szYs];omega
 | x :: r, a, h0, h => by
   rw [szYs] at h
   rw [qig,qpt x (by omega),qv (by omega) (by omega),qib r _ (by omega) (by omega),szYs]
   omega
end
mutual
theorem qll:∀ (t:Ty) (n k:Int),0≤n->n + szY t≤1000000->qbt qnl t n k = (n + szY t,true)
 | .mk c v l, n, k, h0, h => by
   rw [szY] at h
   rw [qbt,if_pos (show (qnl n (.mk c v l) k).2 = true from rfl)]
   have h1:(qnl n (.mk c v l) k).1 = n + 1:=qv (by omega) (by omega)
   rw [h1,qi6 l _ _ (by omega) (by omega),szY]
   congr 1;omega
theorem qi6:∀ (l:List Ty) (n k:Int),0≤n->n + szYs l≤1000000->q7 qnl l n k = (n + szYs l,true)
 | [],n,k,_,_=>by rw [q7,szYs];congr 1;omega
 | x :: r, n, k, h0, h => by
   rw [szYs] at h
   rw [q7,qll x n k h0 (by omega),if_pos rfl,qi6 r _ k (by omega) (by omega),szYs]
   congr 1;omega
end
mutual
theorem qk8:∀ (t:Ty) (n k:Int),0≤n->1≤k->k + dpY t≤1000000->qbt qkt t n k = (max n (k + dpY t - 1),true)
 | .mk c v l, n, k, h0, h1, h => by
   rw [dpY] at h
   rw [qbt,if_pos (show (qkt n (.mk c v l) k).2 = true from rfl)]
   have h2:(qkt n (.mk c v l) k).1 = max n k:=by simp only [qkt];split<;>omega
   rw [h2,qv (z:=k + 1) (by omega) (by omega),qix l _ _ (by omega) (by omega) (by omega),dpY]
   congr 1;split<;>omega
theorem qix:∀ (l:List Ty) (n k:Int),0≤n->1≤k->k + dpYs l≤1000000->q7 qkt l n k = (if dpYs l = 0 then n else max n (k + dpYs l - 1),true)
 | [],n,k,_,_,_=>by rw [q7,dpYs,if_pos rfl]
 | x :: r, n, k, h0, h1, h => by
   rw [dpYs] at h
   have hp:=qej x
   rw [q7,qk8 x n k h0 h1 (by omega),if_pos rfl,qix r _ k (by omega) h1 (by omega),dpYs]
   congr 1
   rw [if_neg (by omega:¬ max (dpY x) (dpYs r) = 0)]
   split<;>omega
end
mutual
theorem qh2:∀ (t:Ty) (n k:Int),0≤n->n + szY t≤1000000->1≤k->k + dpY t≤1000000 →
 ((qbt qei t n k).2 = true ↔ n + szY t≤4096∧k + dpY t - 1≤100∧qn t = true)∧((qbt qei t n k).2 = true->(qbt qei t n k).1 = n + szY t)
 | .mk c v l, n, k, h0, h1, h2, h3 => by
   rw [szY] at h1
   rw [dpY] at h3
   have e1:IntKind.i64.wrap (n + 1) = n + 1:=qv (by omega) (by omega)
   have e2:IntKind.i64.wrap (k + 1) = k + 1:=qv (by omega) (by omega)
   have e3:(qei n (.mk c v l) k).1 = n + 1:=e1
   have e4:(qei n (.mk c v l) k).2 = true ↔ n + 1≤4096∧k≤100∧mayW c v l.length = true:=by
    simp only [qei,e1,Bool.and_eq_true,decide_eq_true_eq];rfl
   rw [qbt,szY,dpY,qn]
   by_cases hs:(qei n (.mk c v l) k).2 = true
   ·rw [if_pos hs,e3,e2]
    obtain ⟨q1,q2,q3⟩:=e4.1 hs
    obtain ⟨r1,r2⟩:=qjj l (n + 1) (k + 1) (by omega) (by omega) (by omega) (by omega) (by omega) (by omega)
    refine ⟨?_,fun h=>by rw [r2 h];omega⟩
    rw [r1,q3,Bool.and_true]
    constructor
    ·rintro ⟨a1,a2,a3⟩;exact ⟨by omega,by omega,a3⟩
    ·rintro ⟨a1,a2,a3⟩;exact ⟨by omega,by omega,a3⟩
   ·rw [if_neg hs]
    refine ⟨⟨fun h=>(by cases h),fun ⟨a1,a2,a3⟩=>absurd (e4.2 ⟨by omega,by omega,(by rw [Bool.and_eq_true] at a3;exact a3.2)⟩) hs⟩,fun h=>by cases h⟩
theorem qjj:∀ (l:List Ty) (n k:Int),0≤n->n + szYs l≤1000000->1≤k->k + dpYs l≤1000000->n≤4096->k - 1≤100 →
 ((q7 qei l n k).2 = true ↔ n + szYs l≤4096∧k + dpYs l - 1≤100∧qef l = true)∧((q7 qei l n k).2 = true->(q7 qei l n k).1 = n + szYs l)
 | [], n, k, h0, h1, h2, h3, h4, h5 => by
   rw [q7,szYs,dpYs,qef]
   exact ⟨⟨fun _=>⟨by omega,by omega,rfl⟩,fun _=>rfl⟩,fun _=>by simp⟩
 | x :: r, n, k, h0, h1, h2, h3, h4, h5 => by
   rw [szYs] at h1
   rw [dpYs] at h3
   obtain ⟨q1,q2⟩:=qh2 x n k h0 (by omega) h2 (by omega)
   rw [q7,szYs,dpYs,qef]
   by_cases hs:(qbt qei x n k).2 = true
   ·rw [if_pos hs,q2 hs]
    obtain ⟨a1,a2,a3⟩:=q1.1 hs
    obtain ⟨r1,r2⟩:=qjj r (n + szY x) k (by omega) (by omega) h2 (by omega) (by omega) h5
    refine ⟨?_,fun h=>by rw [r2 h];omega⟩
    rw [r1,a3,Bool.true_and]
    constructor
    ·rintro ⟨b1,b2,b3⟩;exact ⟨by omega,by omega,b3⟩
    ·rintro ⟨b1,b2,b3⟩;exact ⟨by omega,by omega,b3⟩
   ·rw [if_neg hs]
    refine ⟨⟨fun h=>(by cases h),fun ⟨a1,a2,a3⟩=>absurd (q1.2 ⟨by omega,by omega,?_⟩) hs⟩,fun h=>by cases h⟩
    rw [Bool.and_eq_true] at a3
    exact a3.1
end
def qbz (t:Ty):Bool:=decide (szY t≤4096) && (decide (dpY t≤100) && qn t)
theorem qsu {t:Ty} (h1:szY t≤20000) (h2:dpY t≤300):ql4 t = qbz t:=by
 have:=(qh2 t 0 1 (by omega) (by omega) (by omega) (by omega)).1
 rw [ql4,Bool.eq_iff_iff,this,qbz,Bool.and_eq_true,Bool.and_eq_true,decide_eq_true_eq,decide_eq_true_eq]
 constructor
 ·rintro ⟨a1,a2,a3⟩;exact ⟨by omega,by omega,a3⟩
 ·rintro ⟨a1,a2,a3⟩;exact ⟨by omega,by omega,a3⟩
theorem qc9 {t:Ty} (h1:szY t≤20000) (h2:dpY t≤300):ql Try.prog 11 [encY t] (.bool (qbz t)):=by
 rw [← qsu h1 h2];exact qhd t
end Go.Proofs.Ytlahgbhhejkgbaa
