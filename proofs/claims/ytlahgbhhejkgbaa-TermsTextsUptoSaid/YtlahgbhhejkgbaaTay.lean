/- Texts of this proof, joined. -/
import Derived.Test.YtlahgbhhejkgbaaTaq
set_option linter.unusedVariables false
set_option linter.unusedSimpArgs false

/- rows of integers: whether a number is there, each once -/
set_option maxRecDepth 4000
namespace Go.Proofs.Ytlahgbhhejkgbaa
open Go Go.RowKit Go.V

def ints (l:List Int):List AV:=l.map (AV.int .i64)
theorem qgy (l:List Int):(ints l).length = l.length:=by simp [ints]
theorem qkq (k:Nat) (l:List Int):AV.bds k (ints l) = true:=by rw [ints,qlq];simp [AV.bd]
theorem qpj (σ:Nat->Nat) (l:List Int):AV.rens σ (ints l) = ints l:=qo (m:=0) (fun i hi=>by omega) _ (qkq 0 l)
theorem ql5 {l:List Int} {i:Nat} (h:i < l.length):(ints l).getD i .junk = .int .i64 (l.getD i 0):=by
 rw [ints,List.getD_eq_getElem?_getD,List.getElem?_map,List.getElem?_eq_getElem h,List.getD_eq_getElem?_getD,List.getElem?_eq_getElem h];rfl
theorem qtx (l:List Int) (v:Int):ints l ++ [.int .i64 v] = ints (l ++ [v]):=by simp [ints]
theorem qpa:ints [] = []:=rfl
theorem qf1 {l:List Int} (h:l≠[]):ints l≠[]:=by cases l with | nil=>exact absurd rfl h | cons _ _=>simp [ints]
attribute [go_sem] qgy qkq qpj cond_false cond_true
theorem qqw {l:List Int} {i:Nat} (h:i < l.length):l.drop i = l.getD i 0 :: l.drop (i + 1):=by
 rw [List.drop_eq_getElem_cons h,List.getD_eq_getElem?_getD,List.getElem?_eq_getElem h];rfl
theorem capI {k:Nat} (h:k≤1000000000):qcf k 8:=by unfold qcf;omega

def idxW (v:Int):List Int->Int->Int
 | [],_=>-1
 | x :: r,k=>if v = x then k else idxW v r (k + 1)
theorem qt6 (v:Int):∀ (l:List Int) (k:Int),0≤k->(decide (0≤idxW v l k) = decide (v∈l))
 | [],k,h=>by simp [idxW]
 | x :: r, k, h => by
   rw [idxW]
   by_cases hx:v = x
   ·simp [hx,h]
   ·rw [if_neg hx,qt6 v r (k + 1) (by omega)];simp [hx]
theorem ql4 (l:List Int) (v:Int):qg Try.prog 69 [.sl 1 (ints l),.int .i64 v] (.int .i64 (idxW v l 0)):=by
 refine qd c0ca (by simp) (by simp only [go_sem]) rfl fun hw=>?_
 have hl:l.length≤maxLen:=by have:=hw.1.1;rwa [qgy] at this
 repeat' (first | refine vs_ ?_ | ((first | refine vr_ ?_ | (refine cs_ ?_ ?_<;>intro hc) | refine cj_ ?_ | simp (disch:=omega) only [encs_getN,qb])<;>(try refine ev_ ?_)) | with_reducible exact ti_)
 refine qw (S:=Nat) (fun i=>i≤l.length∧idxW v (l.drop i) i = idxW v l 0) (fun i=>(⟨[(0,.sl 1 (ints l)),(1,.int .i64 v),(7,.int .i64 l.length),(8,.int .i64 i)],[]⟩,[])) (fun i=>l.length - i) ?_ fun i hi=>?_
 ·refine qm 0 [] ⟨Nat.zero_le _,rfl⟩ rfl (by simp) ?_ ?_ ?_<;>(try refine ev_ ?_)<;>(try with_reducible exact ti_)<;>(try simp (disch:=omega) only [qb,and_true,true_and])
 ·obtain ⟨hi,ha⟩:=hi
  repeat' (first | refine vs_ ?_ | ((first | refine vr_ ?_ | fail)<;>(try simp (disch:=first | omega | (simp only [List.length_set,List.length_append,List.length_cons,List.length_nil];done) | (simp only [List.length_set,List.length_append,List.length_cons,List.length_nil];omega)) only [ql5,qb,go_sem,↓reduceIte])) | ((first | (refine cs_ ?_ ?_<;>intro hc) | refine cj_ ?_ | simp (disch:=omega) only [encs_getN,qb])<;>(try refine ev_ ?_)) | with_reducible exact ti_)
  ·rw [← ha,qqw (by omega),idxW,if_pos (by assumption)]
  ·refine qm (i + 1) [] ⟨⟨by omega,?_⟩,by omega⟩ rfl (by simp) ?_ ?_ ?_<;>(try refine ev_ ?_)<;>(try with_reducible exact ti_)<;>(try simp (disch:=omega) only [qb,and_true,true_and])
   rw [← ha,qqw (l:=l) (i:=i) (by omega),idxW,if_neg (by assumption)];rfl
  ·rw [← ha,List.drop_of_length_le (by omega)];rfl
theorem qed (l:List Int) (v:Int):qg Try.prog 46 [.sl 1 (ints l),.int .i64 v] (.bool (decide (v∈l))):=by
 refine qd c0cb (by simp) (by simp only [go_sem]) rfl fun hw=>?_
 repeat' (first | refine vs_ ?_ | ((first | refine vr_ ?_ | refine qa (ql4 _ _) fun _=>?_ | (refine cs_ ?_ ?_<;>intro hc) | refine cj_ ?_ | fail)<;>(try refine ev_ ?_)) | with_reducible exact ti_)
 rw [qt6 v l 0 (by omega)]
theorem qq7 (l m:List Int):qg Try.prog 17 [.sl 1 (ints l),.sl 1 (ints m)] (.bool (decide (l = m))):=by
 refine qd c0cc (by simp) (by simp only [go_sem]) rfl fun hw=>?_
 have hl:l.length≤maxLen:=by have:=hw.1.1;rwa [qgy] at this
 repeat' (first | refine vs_ ?_ | ((first | refine vr_ ?_ | (refine cs_ ?_ ?_<;>intro hc) | refine cj_ ?_ | simp (disch:=omega) only [encs_getN,qb])<;>(try refine ev_ ?_)) | with_reducible exact ti_)
 ·rw [decide_eq_false];rintro rfl;omega
 refine qw (S:=Nat) (fun i=>i≤l.length∧decide (l.drop i = m.drop i) = decide (l = m)) (fun i=>(⟨[(0,.sl 1 (ints l)),(1,.sl 1 (ints m)),(5,.int .i64 i)],[]⟩,[])) (fun i=>l.length - i) ?_ fun i hi=>?_
 ·refine qm 0 [] ⟨Nat.zero_le _,rfl⟩ rfl (by simp) ?_ ?_ ?_<;>(try refine ev_ ?_)<;>(try with_reducible exact ti_)<;>(try simp (disch:=omega) only [qb,and_true,true_and])
 ·obtain ⟨hi,ha⟩:=hi
  repeat' (first | refine vs_ ?_ | ((first | refine vr_ ?_ | fail)<;>(try simp (disch:=first | omega | (simp only [List.length_set,List.length_append,List.length_cons,List.length_nil];done) | (simp only [List.length_set,List.length_append,List.length_cons,List.length_nil];omega)) only [ql5,qb,go_sem,↓reduceIte])) | ((first | (refine cs_ ?_ ?_<;>intro hc) | refine cj_ ?_ | simp (disch:=omega) only [encs_getN,qb])<;>(try refine ev_ ?_)) | with_reducible exact ti_)
  ·rw [← ha,qqw (l:=l) (i:=i) (by omega),qqw (l:=m) (i:=i) (by omega),decide_eq_false]
   intro h
   exact absurd (List.cons.inj h).1 (by assumption)
  ·refine qm (i + 1) [] ⟨⟨by omega,?_⟩,by omega⟩ rfl (by simp) ?_ ?_ ?_<;>(try refine ev_ ?_)<;>(try with_reducible exact ti_)<;>(try simp (disch:=omega) only [qb,and_true,true_and])
   rw [← ha,qqw (l:=l) (i:=i) (by omega),qqw (l:=m) (i:=i) (by omega)]
   refine decide_eq_decide.2 ⟨fun h=>by rw [h];congr 1,fun h=>(List.cons.inj h).2⟩
  ·rw [← ha,List.drop_of_length_le (by omega),List.drop_of_length_le (by omega)];rfl

/-! each once -/
theorem qgb {H:List Ent} {n:Nat}:co H (.sl n) .nils = .sl n []:=Eq.trans rfl rfl
/-! all variables -/
/-! the program's: a walk that gathers -/
def outE (l:List Int):Ent:=bun (.blk [accV 1 (ints l)] :: accE 1 (ints l))
def outN (l:List Int) (t:Ty):List Int:=if t.con = [] then (if t.var∈l then l else l ++ [t.var]) else l
theorem qet {H':List Ent} {l:List Int} {r:AV} (k:Nat) (h0:l≠[]) (hk:0 < k) (hl:k < H'.length) (e0:ent H' 0 = .blk [.row k l.length]) (e1:ent H' k = .app 1 (ints l)) (hr:r.bd 1 = true) :
 qlg (fun H' o=>H' = [outE l]∧o = .val r) H' (.val r):=by
 refine ⟨[.blk [.row 1 l.length],.app 1 (ints l)],[0,k],rfl,by simp,by simp;omega,?_,hr,?_,rfl⟩
 ·simp only [qej,List.length_cons,List.length_nil,Ent.bd,AV.bds,AV.bd,Ent.ren,AV.rens,AV.ren,e0,e1,qkq,qpj]
  exact ⟨⟨by omega,rfl,rfl⟩,⟨hl,trivial,trivial⟩,trivial⟩
 ·rw [outE,qde (qf1 h0),qda (qf1 h0),qgy]
theorem qqu {H':List Ent} {r:AV} (hl:0 < H'.length) (e0:ent H' 0 = .blk [.nils]) (hr:r.bd 1 = true) :
 qlg (fun H' o=>H' = [outE []]∧o = .val r) H' (.val r):=by
 refine ⟨[.blk [.nils]],[0],rfl,by simp,by simp,?_,hr,rfl,rfl⟩
 exact ⟨⟨hl,rfl,by rw [e0];rfl⟩,trivial⟩
theorem qbim (l:List Int) (t:Ty) (k:Int) (hb:l.length≤1000000):VM Try.prog 45 (outE l) (outE (outN l t)) [encY t,.int .i64 k,.ptr 0 0] (.bool true):=by
 refine qbel ?_ (by simp [AV.bds,AV.bd,qbq])
 have hcap:qcf (l.length + 1) 8 = True:=eq_true (capI (by omega))
 refine qlh c0cd (by simp) ?_
 by_cases h0:l = []
 ·subst h0
  simp only [qpa,qb4,qb5]
  repeat' (first | refine vs_ ?_ | ((first | refine vr_ ?_ | fail)<;>(try simp only [qgb,go_sem,↓reduceIte])) | ((first | simp (disch:=omega) only [hcap] | (refine cs_ ?_ ?_<;>intro hc) | refine cj_ ?_ | fail | refine qa (qed [] _) fun _=>?_)<;>(try refine ev_ ?_)) | with_reducible exact ti_)
  ·have:outN [] t = [t.var]:=by rw [outN,if_pos (by assumption),if_neg (by assumption)];rfl
   rw [this]
   exact qet (l:=[t.var]) 2 (by simp) (by omega) (by simp) rfl rfl rfl
  ·exact absurd (by assumption:t.var∈[]) (by simp)
  ·have:outN [] t = []:=by rw [outN,if_neg (by assumption)]
   rw [this]
   exact qqu (by simp) rfl rfl
 ·simp only [qde (qf1 h0),qda (qf1 h0)]
  repeat' (first | refine vs_ ?_ | ((first | refine vr_ ?_ | refine qa (qed l _) fun _=>?_ | simp (disch:=omega) only [hcap] | (refine cs_ ?_ ?_<;>intro hc) | refine cj_ ?_ | fail)<;>(try refine ev_ ?_)) | with_reducible exact ti_)
  ·have:outN l t = l ++ [t.var]:=by rw [outN,if_pos (by assumption),if_neg (by assumption)]
   rw [this,qtx]
   exact qet (l:=l ++ [t.var]) 3 (by simp) (by omega) (by simp) (by simp [ent]) rfl rfl
  ·have:outN l t = l:=by rw [outN,if_pos (by assumption),if_pos (by assumption)]
   rw [this]
   exact qet (l:=l) 1 h0 (by omega) (by simp) rfl rfl rfl
  ·have:outN l t = l:=by rw [outN,if_neg (by assumption)]
   rw [this]
   exact qet (l:=l) 1 h0 (by omega) (by simp) rfl rfl rfl
def qrg (l:List Int) (t:Ty) (_:Int):List Int×Bool:=(outN l t,true)
theorem qsh (l:List Int) (c:List UInt8) (v:Int) (a:List Ty):outN l (.mk c v a) = qht l (if c = [] then [v] else []):=by
 unfold outN
 by_cases hcn:c = []
 ·rw [if_pos (show (Ty.mk c v a).con = [] from hcn),if_pos hcn];rfl
 ·rw [if_neg (show ¬ (Ty.mk c v a).con = [] from hcn),if_neg hcn];rfl
mutual
theorem qbd7:∀ (t:Ty) (l:List Int) (k:Int),qbv qrg t l k = (qht l (varY t),true)
 | .mk c v a, l, k => by
   rw [qbv,if_pos (show (qrg l (.mk c v a) k).2 = true from rfl),qz6,varY,ql1]
   congr 2
   exact qsh l c v a
theorem qz6:∀ (a:List Ty) (l:List Int) (k:Int),q9 qrg a l k = (qht l (ql3 a),true)
 | [],l,k=>by rw [q9,ql3];rfl
 | x :: r, l, k => by
   rw [q9,qbd7 x,if_pos rfl,qz6 r,ql3,ql1]
end
theorem qvz (l:List Int) (t:Ty):(outN l t).length≤l.length + 1:=by
 rw [outN];split
 ·split
  ·omega
  ·simp
 ·omega
theorem qq4 (t:Ty) (hb:szY t≤1000000):qg Try.prog 18 [encY t] (.sl 1 (ints (qht [] (varY t)))):=by
 refine qd c0ce (by simp) (by simp only [go_sem]) (qkq 0 _) fun hw=>?_
 have hwalk:=qfy (st:=outE) (step:=qrg) (f:=45) (ok:=fun n l=>l.length + n≤1000000) (fun _=>rfl) (fun n l t k h=>by have:=qvz l t;simp only [qrg];omega) (fun n l h=>by omega) (fun l t k h=>qbim l t k (by omega)) t [] 1 (by simpa using hb)
 rw [qbd7] at hwalk
 unfold k0ce
 refine qb0 (qfg ?_)
 (refine ev_ ?_;(try with_reducible exact ti_))
 refine qb0 (qfg ?_)
 (refine ev_ ?_;(try with_reducible exact ti_))
 refine q63 1 rfl rfl ?_
 refine qb0 (qfg ?_)
 simp only [List.set_cons_succ,List.set_cons_zero]
 (refine ev_ ?_;(try with_reducible exact ti_))
 refine qbu 1 hwalk ?_
 simp only [List.set_cons_succ,List.set_cons_zero]
 (refine ev_ ?_;(try with_reducible exact ti_))
 refine q9m 1 rfl (by simp) ?_
 simp only [List.set_cons_succ,List.set_cons_zero]
 by_cases h0:qht [] (varY t) = []
 ·simp only [h0,qpa,qb4,qb5]
  repeat' (first | refine vs_ ?_ | ((first | refine vr_ ?_ | (refine cs_ ?_ ?_<;>intro hc) | refine cj_ ?_ | fail)<;>(try refine ev_ ?_)) | with_reducible exact ti_)
 ·simp only [qde (qf1 h0),qda (qf1 h0)]
  repeat' (first | refine vs_ ?_ | ((first | refine vr_ ?_ | (refine cs_ ?_ ?_<;>intro hc) | refine cj_ ?_ | fail)<;>(try refine ev_ ?_)) | with_reducible exact ti_)
set_option maxRecDepth 4000

/-! the program's -/
abbrev numE (n:Int):Ent:=.blk [.int .i64 n]
def qek (n:Int) (t:Ty) (k:Int):Int×Bool:=(IntKind.i64.wrap (n + 1),decide (IntKind.i64.wrap (n + 1)≤4096) && (decide (k≤100) && mayY t))
theorem qbhc (n:Int) (t:Ty) (k:Int):VM Try.prog 39 (numE n) (numE (qek n t k).1) [encY t,.int .i64 k,.ptr 0 0] (.bool (qek n t k).2):=by
 refine qhw (by kernel_rfl) fun hw=>?_
 have hk:=qb9 hw.1
 refine qbl c0bp 1 (by simp) (by simp) ?_
 repeat' (first | refine vs_ ?_ | ((first | refine vr_ ?_ | refine qa (qfl _) fun _=>?_ | refine qa (qzb _ _ _) fun _=>?_ | (refine cs_ ?_ ?_<;>intro hc) | refine cj_ ?_ | simp (disch:=omega) only [encs_getN,qb])<;>(try refine ev_ ?_)) | with_reducible exact ti_)
 ·simp_all [qek]
 ·exact ⟨rfl,by simp only [qek, *,decide_true,decide_false,Bool.true_and,Bool.false_and]⟩
 ·exact ⟨rfl,by simp only [qek, *,decide_true,decide_false,Bool.true_and,Bool.false_and]⟩
def qm5 (n:Int) (_:Ty) (_:Int):Int×Bool:=(IntKind.i64.wrap (n + 1),true)
theorem qbi0 (n:Int) (t:Ty) (k:Int):VM Try.prog 43 (numE n) (numE (qm5 n t k).1) [encY t,.int .i64 k,.ptr 0 0] (.bool (qm5 n t k).2):=by
 refine qbl c0bq 1 (by simp) (by simp) ?_
 repeat' (first | refine vs_ ?_ | ((first | refine vr_ ?_ | (refine cs_ ?_ ?_<;>intro hc) | refine cj_ ?_ | simp (disch:=omega) only [encs_getN,qb])<;>(try refine ev_ ?_)) | with_reducible exact ti_)
 exact ⟨rfl,rfl⟩
def qmp (n:Int) (_:Ty) (k:Int):Int×Bool:=(if k > n then k else n,true)
theorem qbcg (n:Int) (t:Ty) (k:Int):VM Try.prog 44 (numE n) (numE (qmp n t k).1) [encY t,.int .i64 k,.ptr 0 0] (.bool (qmp n t k).2):=by
 refine qbl c0br 1 (by simp) (by simp) ?_
 repeat' (first | refine vs_ ?_ | ((first | refine vr_ ?_ | (refine cs_ ?_ ?_<;>intro hc) | refine cj_ ?_ | fail)<;>(try refine ev_ ?_)) | with_reducible exact ti_)
 exact ⟨rfl,rfl⟩
theorem qkj {f:FuncId} {step:Int->Ty->Int->Int×Bool} (h:∀ n t k,VM Try.prog f (numE n) (numE (step n t k).1) [encY t,.int .i64 k,.ptr 0 0] (.bool (step n t k).2)) (t:Ty) (n k:Int) :
 VM Try.prog 38 (numE n) (numE (qbv step t n k).1) [encY t,.int .i64 k,.fn f [] [.ptr 0 0]] (.bool (qbv step t n k).2) :=
 qfy (st:=numE) (ok:=fun _ _=>True) (fun _=>rfl) (fun _ _ _ _ _=>trivial) (fun _ _ _=>trivial) (fun n t k _=>h n t k) t n k trivial
def qmh (t:Ty):Bool:=(qbv qek t 0 1).2
theorem qhx (t:Ty):qg Try.prog 11 [encY t] (.bool (qmh t)):=by
 refine qd c0bs (by simp) (by simp only [go_sem]) rfl fun hw=>?_
 repeat' (first | refine vs_ ?_ | ((first | refine vr_ ?_ | refine qbu 1 (qkj qbhc t 0 1) ?_ | (refine cs_ ?_ ?_<;>intro hc) | refine cj_ ?_ | fail)<;>(try refine ev_ ?_)) | with_reducible exact ti_)
 rfl
theorem qqe (t:Ty):qg Try.prog 13 [encY t] (.int .i64 (qbv qm5 t 0 1).1):=by
 refine qd c0bt (by simp) (by simp only [go_sem]) rfl fun hw=>?_
 repeat' (first | refine vs_ ?_ | ((first | refine vr_ ?_ | refine qbu 1 (qkj qbi0 t 0 1) ?_ | (refine cs_ ?_ ?_<;>intro hc) | refine cj_ ?_ | fail)<;>(try refine ev_ ?_)) | with_reducible exact ti_)
theorem qnk (t:Ty):qg Try.prog 15 [encY t] (.int .i64 (qbv qmp t 0 1).1):=by
 refine qd c0bu (by simp) (by simp only [go_sem]) rfl fun hw=>?_
 repeat' (first | refine vs_ ?_ | ((first | refine vr_ ?_ | refine qbu 1 (qkj qbcg t 0 1) ?_ | (refine cs_ ?_ ?_<;>intro hc) | refine cj_ ?_ | fail)<;>(try refine ev_ ?_)) | with_reducible exact ti_)

/-! the references -/
mutual
def qge:Ty->Int
 | .mk _ _ l=>qei 1 l
def qei:Int->List Ty->Int
 | a,[]=>a
 | a,x :: r=>qei (IntKind.i64.wrap (a + qge x)) r
end
theorem qsd (t:Ty):qge t = qei 1 t.args:=by cases t;rw [qge];rfl
theorem qpt:∀ t,qg Try.prog 14 [encY t] (.int .i64 (qge t)):=by
 refine Ty.ind fun t ih=>?_
 refine qd c0bv (by simp) (by simp only [go_sem]) rfl fun hw=>?_
 have hk:=qb9 hw.1
 repeat' (first | refine vs_ ?_ | ((first | refine vr_ ?_ | (refine cs_ ?_ ?_<;>intro hc) | refine cj_ ?_ | simp (disch:=omega) only [encs_getN,qb])<;>(try refine ev_ ?_)) | with_reducible exact ti_)
 refine qw (S:=Nat×Int) (fun s=>s.1≤t.args.length∧qei s.2 (t.args.drop s.1) = qge t) (fun s=>(⟨[(1,.ptr 0 0),(3,.int .i64 s.2),(4,.int .i64 s.1)],[]⟩,[.blk (yc t)])) (fun s=>t.args.length - s.1) ?_ fun s hs=>?_
 ·refine qm (0,1) [0] ⟨Nat.zero_le _,(qsd t).symm⟩ rfl (by simp) ?_ ?_ ?_<;>(try refine ev_ ?_)<;>(try with_reducible exact ti_)<;>(try simp (disch:=omega) only [qb,and_true,true_and])
 ·obtain ⟨i,a⟩:=s
  obtain ⟨hi,ha⟩:=hs
  dsimp only at hi ha
  repeat' (first | refine vs_ ?_ | ((first | refine vr_ ?_ | fail)<;>(try simp (disch:=first | omega | (simp only [List.length_set,List.length_append,List.length_cons,List.length_nil];done) | (simp only [List.length_set,List.length_append,List.length_cons,List.length_nil];omega)) only [qq,qb,go_sem,↓reduceIte])) | ((first | (refine cs_ ?_ ?_<;>intro hc) | refine cj_ ?_ | simp (disch:=omega) only [encs_getN,qb] | refine qa (ih _ (qbw (by omega))) fun _=>?_)<;>(try refine ev_ ?_)) | with_reducible exact ti_)
  ·refine qm (i + 1,IntKind.i64.wrap (a + qge (t.args.getD i Y0))) [0] ⟨⟨by dsimp only;omega,?_⟩,by dsimp only;omega⟩ rfl (by simp) ?_ ?_ ?_<;>(try refine ev_ ?_)<;>(try with_reducible exact ti_)<;>(try simp (disch:=omega) only [qb,and_true,true_and])
   rw [← ha,qiw (l:=t.args) (i:=i) (by omega),qei]
  ·rw [← ha,List.drop_of_length_le (by omega)];rfl
mutual
def qkp:Ty->Int
 | .mk _ _ l=>IntKind.i64.wrap (qfr 0 l + 1)
def qfr:Int->List Ty->Int
 | a,[]=>a
 | a,x :: r=>qfr (if qkp x > a then qkp x else a) r
end
theorem qvy (t:Ty):qkp t = IntKind.i64.wrap (qfr 0 t.args + 1):=by cases t;rw [qkp];rfl
theorem qnh:∀ t,qg Try.prog 16 [encY t] (.int .i64 (qkp t)):=by
 refine Ty.ind fun t ih=>?_
 refine qd c0bw (by simp) (by simp only [go_sem]) rfl fun hw=>?_
 have hk:=qb9 hw.1
 repeat' (first | refine vs_ ?_ | ((first | refine vr_ ?_ | (refine cs_ ?_ ?_<;>intro hc) | refine cj_ ?_ | simp (disch:=omega) only [encs_getN,qb])<;>(try refine ev_ ?_)) | with_reducible exact ti_)
 refine qw (S:=Nat×Int) (fun s=>s.1≤t.args.length∧qfr s.2 (t.args.drop s.1) = qfr 0 t.args) (fun s=>(⟨[(1,.ptr 0 0),(3,.int .i64 s.2),(4,.int .i64 s.1)],[]⟩,[.blk (yc t)])) (fun s=>t.args.length - s.1) ?_ fun s hs=>?_
 ·refine qm (0,0) [0] ⟨Nat.zero_le _,rfl⟩ rfl (by simp) ?_ ?_ ?_<;>(try refine ev_ ?_)<;>(try with_reducible exact ti_)<;>(try simp (disch:=omega) only [qb,and_true,true_and])
 ·obtain ⟨i,a⟩:=s
  obtain ⟨hi,ha⟩:=hs
  dsimp only at hi ha
  repeat' (first | refine vs_ ?_ | ((first | refine vr_ ?_ | fail)<;>(try simp (disch:=first | omega | (simp only [List.length_set,List.length_append,List.length_cons,List.length_nil];done) | (simp only [List.length_set,List.length_append,List.length_cons,List.length_nil];omega)) only [qq,qb,go_sem,↓reduceIte])) | ((first | (refine cs_ ?_ ?_<;>intro hc) | refine cj_ ?_ | simp (disch:=omega) only [encs_getN,qb] | refine qa (ih _ (qbw (by omega))) fun _=>?_)<;>(try refine ev_ ?_)) | with_reducible exact ti_)
  ·refine qm (i + 1,if qkp (t.args.getD i Y0) > a then qkp (t.args.getD i Y0) else a) [0] ⟨⟨by dsimp only;omega,?_⟩,by dsimp only;omega⟩ rfl (by simp) ?_ ?_ ?_<;>(try refine ev_ ?_)<;>(try with_reducible exact ti_)<;>(try simp (disch:=omega) only [qb,and_true,true_and])
   rw [← ha,qiw (l:=t.args) (i:=i) (by omega),qfr]
  ·rw [qvy,← ha,List.drop_of_length_le (by omega)];rfl
mutual
def qu:Ty->Bool
 | .mk c v l=>qbx l && mayW c v l.length
def qbx:List Ty->Bool
 | []=>true
 | x :: r=>qu x && qbx r
end
theorem qee (t:Ty):qu t = (qbx t.args && mayY t):=by cases t;rw [qu];rfl
theorem qgl {l:List Ty} {i:Nat} (h:i < l.length):qbx (l.drop i) = (qu (l.getD i Y0) && qbx (l.drop (i + 1))):=by rw [qiw h,qbx]
theorem qnu:∀ t,qg Try.prog 42 [encY t] (.bool (qu t)):=by
 refine Ty.ind fun t ih=>?_
 refine qd c0bx (by simp) (by simp only [go_sem]) rfl fun hw=>?_
 have hk:=qb9 hw.1
 repeat' (first | refine vs_ ?_ | ((first | refine vr_ ?_ | (refine cs_ ?_ ?_<;>intro hc) | refine cj_ ?_ | simp (disch:=omega) only [encs_getN,qb])<;>(try refine ev_ ?_)) | with_reducible exact ti_)
 refine qw (S:=Nat) (fun i=>i≤t.args.length∧qbx (t.args.drop i) = qbx t.args) (fun i=>(⟨[(1,.ptr 0 0),(3,.int .i64 i)],[]⟩,[.blk (yc t)])) (fun i=>t.args.length - i) ?_ fun i hi=>?_
 ·refine qm 0 [0] ⟨Nat.zero_le _,rfl⟩ rfl (by simp) ?_ ?_ ?_<;>(try refine ev_ ?_)<;>(try with_reducible exact ti_)<;>(try simp (disch:=omega) only [qb,and_true,true_and])
 ·obtain ⟨hi,ha⟩:=hi
  rw [qee]
  repeat' (first | refine vs_ ?_ | ((first | refine vr_ ?_ | fail)<;>(try simp (disch:=first | omega | (simp only [List.length_set,List.length_append,List.length_cons,List.length_nil];done) | (simp only [List.length_set,List.length_append,List.length_cons,List.length_nil];omega)) only [qq,qb,go_sem,↓reduceIte])) | ((first | (refine cs_ ?_ ?_<;>intro hc) | refine cj_ ?_ | simp (disch:=omega) only [encs_getN,qb] | refine qa (ih _ (qbw (by omega))) fun _=>?_ | refine qa (qm0 _) fun _=>?_ | refine qa (qrn _) fun _=>?_)<;>(try refine ev_ ?_)) | with_reducible exact ti_)
  ·have:qbx t.args = false:=by rw [← ha,qgl (by omega),hc];rfl
   rw [this];rfl
  ·refine qm (i + 1) [0] ⟨⟨by omega,?_⟩,by omega⟩ rfl (by simp) ?_ ?_ ?_<;>(try refine ev_ ?_)<;>(try with_reducible exact ti_)<;>(try simp (disch:=omega) only [qb,and_true,true_and])
   rw [← ha,qgl (i:=i) (by omega),hc,Bool.true_and]
  all_goals
   have hs:qbx t.args = true:=by rw [← ha,List.drop_of_length_le (by omega)];rfl
   rw [hs,Bool.true_and,mayY,mayW]
   simp only [arrW, *,if_true,if_false,decide_true,decide_false,Bool.and_true,Bool.and_false,Bool.false_eq_true]
   try rfl
/-! Few -/
mutual
def cntY:Ty->Int->Int->Int
 | .mk _ _ l,k,d=>if d < 1 then -1 else qdq l (IntKind.i64.wrap (k - 1)) d
def qdq:List Ty->Int->Int->Int
 | [],a,_=>a
 | x :: r,a,d=>if 0≤a then qdq r (cntY x a (IntKind.i64.wrap (d - 1))) d else a
end
theorem qu1 (t:Ty) (k d:Int):cntY t k d = if d < 1 then -1 else qdq t.args (IntKind.i64.wrap (k - 1)) d:=by cases t;rw [cntY];rfl
theorem qft {a:Int} (h:a < 0) (l:List Ty) (d:Int):qdq l a d = a:=by
 cases l with
 | nil=>rw [qdq]
 | cons x r=>rw [qdq,if_neg (by omega)]
theorem q17:∀ t k d,qg Try.prog 37 [encY t,.int .i64 k,.int .i64 d] (.int .i64 (cntY t k d)):=by
 refine Ty.ind fun t ih k d=>?_
 refine qd c0by (by simp) (by simp only [go_sem]) rfl fun hw=>?_
 have hk:=qb9 hw.1
 rw [qu1]
 repeat' (first | refine vs_ ?_ | ((first | refine vr_ ?_ | (refine cs_ ?_ ?_<;>intro hc) | refine cj_ ?_ | simp (disch:=omega) only [encs_getN,qb])<;>(try refine ev_ ?_)) | with_reducible exact ti_)
 ·rw [if_pos (by assumption)]
 rw [if_neg (by assumption)]
 refine qw (S:=Nat×Int) (fun s=>s.1≤t.args.length∧qdq (t.args.drop s.1) s.2 d = qdq t.args (IntKind.i64.wrap (k - 1)) d) (fun s=>(⟨[(1,.int .i64 s.2),(2,.int .i64 d),(3,.ptr 0 0),(7,.int .i64 s.1)],[]⟩,[.blk (yc t)])) (fun s=>t.args.length - s.1) ?_ fun s hs=>?_
 ·refine qm (0,IntKind.i64.wrap (k - 1)) [0] ⟨Nat.zero_le _,rfl⟩ rfl (by simp) ?_ ?_ ?_<;>(try refine ev_ ?_)<;>(try with_reducible exact ti_)<;>(try simp (disch:=omega) only [qb,and_true,true_and])
 ·obtain ⟨i,a⟩:=s
  obtain ⟨hi,ha⟩:=hs
  dsimp only at hi ha
  repeat' (first | refine vs_ ?_ | ((first | refine vr_ ?_ | fail)<;>(try simp (disch:=first | omega | (simp only [List.length_set,List.length_append,List.length_cons,List.length_nil];done) | (simp only [List.length_set,List.length_append,List.length_cons,List.length_nil];omega)) only [qq,qb,go_sem,↓reduceIte])) | ((first | (refine cs_ ?_ ?_<;>intro hc) | refine cj_ ?_ | simp (disch:=omega) only [encs_getN,qb] | refine qa (ih _ (qbw (by omega)) _ _) fun _=>?_)<;>(try refine ev_ ?_)) | with_reducible exact ti_)
  ·refine qm (i + 1,cntY (t.args.getD i Y0) a (IntKind.i64.wrap (d - 1))) [0] ⟨⟨by dsimp only;omega,?_⟩,by dsimp only;omega⟩ rfl (by simp) ?_ ?_ ?_<;>(try refine ev_ ?_)<;>(try with_reducible exact ti_)<;>(try simp (disch:=omega) only [qb,and_true,true_and])
   rw [← ha,qiw (l:=t.args) (i:=i) (by omega),qdq,if_pos (by assumption)]
  ·rw [← ha,qft (by omega)]
  ·rw [← ha,List.drop_of_length_le (by omega)];rfl
def qit (a:Int):List Ty->Int
 | []=>a
 | x :: r=>qit (cntY x a 300) r
def qfu (l:List Ty):Bool:=decide (0≤qit 20000 l)
theorem qbc8 (l:List Ty):qg Try.prog 9 [.sl 3 (qk l)] (.int .i64 (if qfu l = true then 1 else 0)):=by
 refine qd c0bz (by simp) (by simp only [go_sem]) rfl fun hw=>?_
 have hk:l.length≤maxLen:=by have:=hw.1.1;rwa [qcz] at this
 repeat' (first | refine vs_ ?_ | ((first | refine vr_ ?_ | (refine cs_ ?_ ?_<;>intro hc) | refine cj_ ?_ | simp (disch:=omega) only [encs_getN,qb])<;>(try refine ev_ ?_)) | with_reducible exact ti_)
 refine qw (S:=Nat×Int) (fun s=>s.1≤l.length∧qit s.2 (l.drop s.1) = qit 20000 l) (fun s=>(⟨[(0,.sl 3 (qk l)),(3,.int .i64 s.2),(4,.int .i64 s.1)],[]⟩,[])) (fun s=>l.length - s.1) ?_ fun s hs=>?_
 ·refine qm (0,20000) [] ⟨Nat.zero_le _,rfl⟩ rfl (by simp) ?_ ?_ ?_<;>(try refine ev_ ?_)<;>(try with_reducible exact ti_)<;>(try simp (disch:=omega) only [qb,and_true,true_and])
 ·obtain ⟨i,a⟩:=s
  obtain ⟨hi,ha⟩:=hs
  dsimp only at hi ha
  repeat' (first | refine vs_ ?_ | ((first | refine vr_ ?_ | fail)<;>(try simp (disch:=first | omega | (simp only [List.length_set,List.length_append,List.length_cons,List.length_nil];done) | (simp only [List.length_set,List.length_append,List.length_cons,List.length_nil];omega)) only [qq,qb,go_sem,↓reduceIte])) | ((first | (refine cs_ ?_ ?_<;>intro hc) | refine cj_ ?_ | simp (disch:=omega) only [encs_getN,qb] | refine qa (q17 _ _ _) fun _=>?_)<;>(try refine ev_ ?_)) | with_reducible exact ti_)
  ·refine qm (i + 1,cntY (l.getD i Y0) a 300) [] ⟨⟨by dsimp only;omega,?_⟩,by dsimp only;omega⟩ rfl (by simp) ?_ ?_ ?_<;>(try refine ev_ ?_)<;>(try with_reducible exact ti_)<;>(try simp (disch:=omega) only [qb,and_true,true_and])
   rw [← ha,qiw (l:=l) (i:=i) (by omega),qit]
  all_goals
   have hf:qit 20000 l = a:=by rw [← ha,List.drop_of_length_le (by omega)];rfl
   rw [qfu,hf]
  ·rw [if_neg (by simp;omega)]
  ·rw [if_pos (by simp;omega)]

/-! the laws of sizes -/
mutual
theorem qto:∀ (t:Ty) (k d:Int),0≤k->k≤20000->d≤300->0≤cntY t k d->cntY t k d = k - szY t∧(dpY t:Int)≤d
 | .mk c v l, k, d, h0, h1, h2, h3 => by
   rw [cntY] at h3 ⊢
   by_cases hd:d < 1
   ·rw [if_pos hd] at h3;omega
   ·rw [if_neg hd] at h3 ⊢
    have hk:IntKind.i64.wrap (k - 1) = k - 1:=qt (by omega) (by omega)
    rw [hk] at h3 ⊢
    have h4:0≤k - 1:=by
     by_cases h:0≤k - 1
     ·exact h
     ·rw [qft (by omega)] at h3;exact h3
    have:=qn8 l (k - 1) d h4 (by omega) (by omega) h2 h3
    rw [szY,dpY]
    omega
theorem qn8:∀ (l:List Ty) (a d:Int),0≤a->a≤20000->1≤d->d≤300->0≤qdq l a d->qdq l a d = a - szYs l∧(dpYs l:Int)≤d - 1
 | [],a,d,h0,h1,h2,h3,h4=>by rw [qdq,szYs,dpYs];omega
 | x :: r, a, d, h0, h1, h2, h3, h4 => by
   rw [qdq,if_pos h0] at h4 ⊢
   have hd:IntKind.i64.wrap (d - 1) = d - 1:=qt (by omega) (by omega)
   rw [hd] at h4 ⊢
   have h5:0≤cntY x a (d - 1):=by
    by_cases h:0≤cntY x a (d - 1)
    ·exact h
    ·rw [qft (by omega)] at h4;exact absurd h4 h
   obtain ⟨h6,h7⟩:=qto x a (d - 1) h0 h1 (by omega) h5
   obtain ⟨h8,h9⟩:=qn8 r _ d h5 (by omega) h2 h3 h4
   rw [szYs,dpYs]
   omega
end
mutual
theorem qsk:∀ (t:Ty) (k d:Int),0≤k->k≤20000->-1≤cntY t k d
 | .mk c v l, k, d, h0, h1 => by
   rw [cntY]
   split
   ·omega
   ·rw [qt (z:=k - 1) (by omega) (by omega)]
    exact qs1 l (k - 1) d (by omega) (by omega)
theorem qs1:∀ (l:List Ty) (a d:Int),-1≤a->a≤20000->-1≤qdq l a d
 | [],a,d,h0,_=>by rw [qdq];exact h0
 | x :: r, a, d, h0, h1 => by
   rw [qdq]
   split
   ·rename_i h
    have h2:=qsk x a (IntKind.i64.wrap (d - 1)) h h1
    have h3:=qzq x a (IntKind.i64.wrap (d - 1)) h h1
    exact qs1 r _ d h2 (by omega)
   ·exact h0
theorem qzq:∀ (t:Ty) (k d:Int),0≤k->k≤20000->cntY t k d≤k
 | .mk c v l, k, d, h0, h1 => by
   rw [cntY]
   split
   ·omega
   ·rw [qt (z:=k - 1) (by omega) (by omega)]
    have:=qtc l (k - 1) d (by omega) (by omega)
    omega
theorem qtc:∀ (l:List Ty) (a d:Int),-1≤a->a≤20000->qdq l a d≤a
 | [],a,d,h0,_=>by rw [qdq];exact Int.le_refl _
 | x :: r, a, d, h0, h1 => by
   rw [qdq]
   split
   ·rename_i h
    have h2:=qsk x a (IntKind.i64.wrap (d - 1)) h h1
    have h3:=qzq x a (IntKind.i64.wrap (d - 1)) h h1
    have:=qtc r _ d h2 (by omega)
    omega
   ·exact Int.le_refl _
end
theorem qos:∀ (l:List Ty) {a:Int},a < 0->-9223372036854775808≤a - l.length->qit a l < 0
 | [],a,h,_=>h
 | x :: r, a, h, h2 => by
   rw [qit]
   have h3:cntY x a 300 = IntKind.i64.wrap (a - 1):=by
    rw [qu1,if_neg (by omega)]
    have hk:IntKind.i64.wrap (a - 1) = a - 1:=qt (by simp only [List.length_cons] at h2;omega) (by omega)
    rw [hk,qft (by omega)]
   have hk:IntKind.i64.wrap (a - 1) = a - 1:=qt (by simp only [List.length_cons] at h2;omega) (by omega)
   rw [h3,hk]
   exact qos r (by omega) (by simp only [List.length_cons] at h2;omega)
theorem qoj:∀ (l:List Ty) (a:Int),0≤a->a≤20000->l.length≤9223372036854775807->0≤qit a l->(szYs l:Int)≤a∧(dpYs l:Int)≤300
 | [],a,h0,h1,_,h2=>by rw [szYs,dpYs];omega
 | x :: r, a, h0, h1, hl, h2 => by
   rw [qit] at h2
   simp only [List.length_cons] at hl
   have h5:0≤cntY x a 300:=by
    by_cases h:0≤cntY x a 300
    ·exact h
    ·have:-1≤cntY x a 300:=qsk x a 300 h0 h1
     have:=qos r (a:=cntY x a 300) (by omega) (by omega)
     omega
   obtain ⟨h6,h7⟩:=qto x a 300 h0 h1 (by omega) h5
   obtain ⟨h8,h9⟩:=qoj r _ h5 (by omega) (by omega) h2
   rw [szYs,dpYs]
   omega
theorem q8l {l:List Ty} (hl:l.length≤maxLen) (h:qfu l = true):szYs l≤20000∧dpYs l≤300:=by
 have:=qoj l 20000 (by omega) (by omega) (by unfold maxLen at hl;omega) (by simpa [qfu] using h)
 omega

mutual
theorem qi5:∀ (t:Ty),szY t≤1000000->qge t = szY t
 | .mk c v l, h => by
   rw [szY] at h
   rw [qge,szY,qh9 l 1 (by omega) (by omega)]
   omega
theorem qh9:∀ (l:List Ty) (a:Int),1≤a->a + szYs l≤1000001->qei a l = a + szYs l
 | [],a,_,_=>by rw [qei,szYs];omega
 | x :: r, a, h0, h => by
   rw [szYs] at h
   rw [qei,qi5 x (by omega),qt (by omega) (by omega),qh9 r _ (by omega) (by omega),szYs]
   omega
end
mutual
theorem qlj:∀ (t:Ty),dpY t≤1000000->qkp t = dpY t
 | .mk c v l, h => by
   rw [dpY] at h
   rw [qkp,dpY,qi4 l 0 (by omega) (by omega),qt (by omega) (by omega)]
   omega
theorem qi4:∀ (l:List Ty) (a:Int),dpYs l≤1000000->0≤a->qfr a l = max a (dpYs l)
 | [],a,_,_=>by rw [qfr,dpYs];omega
 | x :: r, a, h, h0 => by
   rw [dpYs] at h
   have h1:=qlj x (by omega)
   rw [qfr,h1]
   have h2:(if (dpY x:Int) > a then (dpY x:Int) else a) = max a (dpY x):=by split<;>omega
   rw [h2,qi4 r _ (by omega) (by omega),dpYs]
   omega
end
mutual
theorem qk8:∀ (t:Ty) (n k:Int),0≤n->n + szY t≤1000000->qbv qm5 t n k = (n + szY t,true)
 | .mk c v l, n, k, h0, h => by
   rw [szY] at h
   rw [qbv,if_pos (show (qm5 n (.mk c v l) k).2 = true from rfl)]
   have h1:(qm5 n (.mk c v l) k).1 = n + 1:=qt (by omega) (by omega)
   rw [h1,qjv l _ _ (by omega) (by omega),szY]
   congr 1;omega
theorem qjv:∀ (l:List Ty) (n k:Int),0≤n->n + szYs l≤1000000->q9 qm5 l n k = (n + szYs l,true)
 | [],n,k,_,_=>by rw [q9,szYs];congr 1;omega
 | x :: r, n, k, h0, h => by
   rw [szYs] at h
   rw [q9,qk8 x n k h0 (by omega),if_pos rfl,qjv r _ k (by omega) (by omega),szYs]
   congr 1;omega
end
mutual
theorem qmq:∀ (t:Ty) (n k:Int),0≤n->1≤k->k + dpY t≤1000000->qbv qmp t n k = (max n (k + dpY t - 1),true)
 | .mk c v l, n, k, h0, h1, h => by
   rw [dpY] at h
   rw [qbv,if_pos (show (qmp n (.mk c v l) k).2 = true from rfl)]
   have h2:(qmp n (.mk c v l) k).1 = max n k:=by simp only [qmp];split<;>omega
   rw [h2,qt (z:=k + 1) (by omega) (by omega),qjn l _ _ (by omega) (by omega) (by omega),dpY]
   congr 1;split<;>omega
theorem qjn:∀ (l:List Ty) (n k:Int),0≤n->1≤k->k + dpYs l≤1000000->q9 qmp l n k = (if dpYs l = 0 then n else max n (k + dpYs l - 1),true)
 | [],n,k,_,_,_=>by rw [q9,dpYs,if_pos rfl]
 | x :: r, n, k, h0, h1, h => by
   rw [dpYs] at h
   have hp:=qeq x
   rw [q9,qmq x n k h0 h1 (by omega),if_pos rfl,qjn r _ k (by omega) h1 (by omega),dpYs]
   congr 1
   rw [if_neg (by omega:¬ max (dpY x) (dpYs r) = 0)]
   split<;>omega
end
mutual
theorem qhk:∀ (t:Ty) (n k:Int),0≤n->n + szY t≤1000000->1≤k->k + dpY t≤1000000 →
 ((qbv qek t n k).2 = true ↔ n + szY t≤4096∧k + dpY t - 1≤100∧qu t = true)∧((qbv qek t n k).2 = true->(qbv qek t n k).1 = n + szY t)
 | .mk c v l, n, k, h0, h1, h2, h3 => by
   rw [szY] at h1
   rw [dpY] at h3
   have e1:IntKind.i64.wrap (n + 1) = n + 1:=qt (by omega) (by omega)
   have e2:IntKind.i64.wrap (k + 1) = k + 1:=qt (by omega) (by omega)
   have e3:(qek n (.mk c v l) k).1 = n + 1:=e1
   have e4:(qek n (.mk c v l) k).2 = true ↔ n + 1≤4096∧k≤100∧mayW c v l.length = true:=by
    simp only [qek,e1,Bool.and_eq_true,decide_eq_true_eq];rfl
   rw [qbv,szY,dpY,qu]
   by_cases hs:(qek n (.mk c v l) k).2 = true
   ·rw [if_pos hs,e3,e2]
    obtain ⟨q1,q2,q3⟩:=e4.1 hs
    obtain ⟨r1,r2⟩:=qjd l (n + 1) (k + 1) (by omega) (by omega) (by omega) (by omega) (by omega) (by omega)
    refine ⟨?_,fun h=>by rw [r2 h];omega⟩
    rw [r1,q3,Bool.and_true]
    constructor
    ·rintro ⟨a1,a2,a3⟩;exact ⟨by omega,by omega,a3⟩
    ·rintro ⟨a1,a2,a3⟩;exact ⟨by omega,by omega,a3⟩
   ·rw [if_neg hs]
    refine ⟨⟨fun h=>(by cases h),fun ⟨a1,a2,a3⟩=>absurd (e4.2 ⟨by omega,by omega,(by rw [Bool.and_eq_true] at a3;exact a3.2)⟩) hs⟩,fun h=>by cases h⟩
theorem qjd:∀ (l:List Ty) (n k:Int),0≤n->n + szYs l≤1000000->1≤k->k + dpYs l≤1000000->n≤4096->k - 1≤100 →
 ((q9 qek l n k).2 = true ↔ n + szYs l≤4096∧k + dpYs l - 1≤100∧qbx l = true)∧((q9 qek l n k).2 = true->(q9 qek l n k).1 = n + szYs l)
 | [], n, k, h0, h1, h2, h3, h4, h5 => by
   rw [q9,szYs,dpYs,qbx]
   exact ⟨⟨fun _=>⟨by omega,by omega,rfl⟩,fun _=>rfl⟩,fun _=>by simp⟩
 | x :: r, n, k, h0, h1, h2, h3, h4, h5 => by
   rw [szYs] at h1
   rw [dpYs] at h3
   obtain ⟨q1,q2⟩:=qhk x n k h0 (by omega) h2 (by omega)
   rw [q9,szYs,dpYs,qbx]
   by_cases hs:(qbv qek x n k).2 = true
   ·rw [if_pos hs,q2 hs]
    obtain ⟨a1,a2,a3⟩:=q1.1 hs
    obtain ⟨r1,r2⟩:=qjd r (n + szY x) k (by omega) (by omega) h2 (by omega) (by omega) h5
    refine ⟨?_,fun h=>by rw [r2 h];omega⟩
    rw [r1,a3,Bool.true_and]
    constructor
    ·rintro ⟨b1,b2,b3⟩;exact ⟨by omega,by omega,b3⟩
    ·rintro ⟨b1,b2,b3⟩;exact ⟨by omega,by omega,b3⟩
   ·rw [if_neg hs]
    refine ⟨⟨fun h=>(by cases h),fun ⟨a1,a2,a3⟩=>absurd (q1.2 ⟨by omega,by omega,?_⟩) hs⟩,fun h=>by cases h⟩
    rw [Bool.and_eq_true] at a3
    exact a3.1
end
def qbd (t:Ty):Bool:=decide (szY t≤4096) && (decide (dpY t≤100) && qu t)
theorem quj {t:Ty} (h1:szY t≤20000) (h2:dpY t≤300):qmh t = qbd t:=by
 have:=(qhk t 0 1 (by omega) (by omega) (by omega) (by omega)).1
 rw [qmh,Bool.eq_iff_iff,this,qbd,Bool.and_eq_true,Bool.and_eq_true,decide_eq_true_eq,decide_eq_true_eq]
 constructor
 ·rintro ⟨a1,a2,a3⟩;exact ⟨by omega,by omega,a3⟩
 ·rintro ⟨a1,a2,a3⟩;exact ⟨by omega,by omega,a3⟩
theorem qc8 {t:Ty} (h1:szY t≤20000) (h2:dpY t≤300):qg Try.prog 11 [encY t] (.bool (qbd t)):=by
 rw [← quj h1 h2];exact qhx t
end Go.Proofs.Ytlahgbhhejkgbaa
