/- Texts of this proof, joined. -/
import Derived.Test.YtkenggenkmfopaaGreatNar
import Derived.Shelf.Strings.Builder1
import Derived.Shelf.Strings.Builder2
import Derived.Shelf.Strings.OnBuilder
import Derived.Test.YtkenggenkmfopaaGreatProg
set_option linter.unusedVariables false
set_option linter.unusedSimpArgs false

/- terms: how great, how deep, whether a type is one; Few -/
set_option maxRecDepth 4000
namespace Go.Proofs.YtkenggenkmfopaaGreat
open Go Go.RowKit Go.V

/-! the program's -/
abbrev numE (n:Int):Ent:=.blk [.int .i64 n]
def qe5 (n:Int) (t:Ty) (k:Int):Int×Bool:=(IntKind.i64.wrap (n + 1),decide (IntKind.i64.wrap (n + 1)≤4096) && (decide (k≤100) && mayY t))
theorem qbux (n:Int) (t:Ty) (k:Int):VM Tryz.prog 100 (numE n) (numE (qe5 n t k).1) [encY t,.int .i64 k,.ptr 0 0] (.bool (qe5 n t k).2):=by
 refine qfr (by kernel_rfl) fun hw=>?_
 have hk:=qes hw.1
 refine qc c0cv 1 (by simp) (by simp) ?_
 repeat' (first | refine vs_ ?_ | ((first | refine vr_ ?_ | refine qa (qnh _) fun _=>?_ | refine qa (q55 _ _ _) fun _=>?_ | (refine cs_ ?_ ?_<;>intro hc) | refine cj_ ?_ | simp (disch:=omega) only [encs_getN,qb])<;>(try refine ev_ ?_)) | with_reducible exact ti_)
 ·simp_all [qe5]
 ·exact ⟨rfl,by simp only [qe5, *,decide_true,decide_false,Bool.true_and,Bool.false_and]⟩
 ·exact ⟨rfl,by simp only [qe5, *,decide_true,decide_false,Bool.true_and,Bool.false_and]⟩
def qqj (n:Int) (_:Ty) (_:Int):Int×Bool:=(IntKind.i64.wrap (n + 1),true)
theorem qbzp (n:Int) (t:Ty) (k:Int):VM Tryz.prog 175 (numE n) (numE (qqj n t k).1) [encY t,.int .i64 k,.ptr 0 0] (.bool (qqj n t k).2):=by
 refine qc c0cw 1 (by simp) (by simp) ?_
 repeat' (first | refine vs_ ?_ | ((first | refine vr_ ?_ | (refine cs_ ?_ ?_<;>intro hc) | refine cj_ ?_ | simp (disch:=omega) only [encs_getN,qb])<;>(try refine ev_ ?_)) | with_reducible exact ti_)
 exact ⟨rfl,rfl⟩
def qoq (n:Int) (_:Ty) (k:Int):Int×Bool:=(if k > n then k else n,true)
theorem qbsb (n:Int) (t:Ty) (k:Int):VM Tryz.prog 176 (numE n) (numE (qoq n t k).1) [encY t,.int .i64 k,.ptr 0 0] (.bool (qoq n t k).2):=by
 refine qc c0cx 1 (by simp) (by simp) ?_
 repeat' (first | refine vs_ ?_ | ((first | refine vr_ ?_ | (refine cs_ ?_ ?_<;>intro hc) | refine cj_ ?_ | fail)<;>(try refine ev_ ?_)) | with_reducible exact ti_)
 exact ⟨rfl,rfl⟩
theorem qmg {f:FuncId} {step:Int->Ty->Int->Int×Bool} (h:∀ n t k,VM Tryz.prog f (numE n) (numE (step n t k).1) [encY t,.int .i64 k,.ptr 0 0] (.bool (step n t k).2)) (t:Ty) (n k:Int) :
 VM Tryz.prog 99 (numE n) (numE (qcf step t n k).1) [encY t,.int .i64 k,.fn f [] [.ptr 0 0]] (.bool (qcf step t n k).2) :=
 qle (st:=numE) (ok:=fun _ _=>True) (fun _=>rfl) (fun _ _ _ _ _=>trivial) (fun _ _ _=>trivial) (fun n t k _=>h n t k) t n k trivial
def qr8 (t:Ty):Bool:=(qcf qe5 t 0 1).2
theorem qj7 (t:Ty):qi Tryz.prog 67 [encY t] (.bool (qr8 t)):=by
 refine qd c0cy (by simp) (by simp only [go_sem]) rfl fun hw=>?_
 repeat' (first | refine vs_ ?_ | ((first | refine vr_ ?_ | refine qbl 1 (qmg qbux t 0 1) ?_ | (refine cs_ ?_ ?_<;>intro hc) | refine cj_ ?_ | fail)<;>(try refine ev_ ?_)) | with_reducible exact ti_)
 rfl
theorem qwg (t:Ty):qi Tryz.prog 124 [encY t] (.int .i64 (qcf qqj t 0 1).1):=by
 refine qd c0cz (by simp) (by simp only [go_sem]) rfl fun hw=>?_
 repeat' (first | refine vs_ ?_ | ((first | refine vr_ ?_ | refine qbl 1 (qmg qbzp t 0 1) ?_ | (refine cs_ ?_ ?_<;>intro hc) | refine cj_ ?_ | fail)<;>(try refine ev_ ?_)) | with_reducible exact ti_)
theorem qq2 (t:Ty):qi Tryz.prog 125 [encY t] (.int .i64 (qcf qoq t 0 1).1):=by
 refine qd c0da (by simp) (by simp only [go_sem]) rfl fun hw=>?_
 repeat' (first | refine vs_ ?_ | ((first | refine vr_ ?_ | refine qbl 1 (qmg qbsb t 0 1) ?_ | (refine cs_ ?_ ?_<;>intro hc) | refine cj_ ?_ | fail)<;>(try refine ev_ ?_)) | with_reducible exact ti_)

/-! the references -/
mutual
def q0w:Ty->Int
 | .mk _ _ l=>qi5 1 l
def qi5:Int->List Ty->Int
 | a,[]=>a
 | a,x :: r=>qi5 (IntKind.i64.wrap (a + q0w x)) r
end
mutual
def qb4:Ty->Bool
 | .mk c v l=>qbz l && mayW c v l.length
def qbz:List Ty->Bool
 | []=>true
 | x :: r=>qb4 x && qbz r
end
theorem qfj (t:Ty):qb4 t = (qbz t.args && mayY t):=by cases t;rw [qb4];rfl
/-! Few -/
/-! the laws of sizes -/
mutual
theorem qva:∀ (t:Ty),szY t≤1000000->q0w t = szY t
 | .mk c v l, h => by
   rw [szY] at h
   rw [q0w,szY,qkd l 1 (by omega) (by omega)]
   omega
theorem qkd:∀ (l:List Ty) (a:Int),1≤a->a + szYs l≤1000001->qi5 a l = a + szYs l
 | [],a,_,_=>by rw [qi5,szYs];omega
 | x :: r, a, h0, h => by
   rw [szYs] at h
   rw [qi5,qva x (by omega),qbb (by omega) (by omega),qkd r _ (by omega) (by omega),szYs]
   omega
end
mutual
theorem qp9:∀ (t:Ty) (n k:Int),0≤n->n + szY t≤1000000->qcf qqj t n k = (n + szY t,true)
 | .mk c v l, n, k, h0, h => by
   rw [szY] at h
   rw [qcf,if_pos (show (qqj n (.mk c v l) k).2 = true from rfl)]
   have h1:(qqj n (.mk c v l) k).1 = n + 1:=qbb (by omega) (by omega)
   rw [h1,qlz l _ _ (by omega) (by omega),szY]
   congr 1;omega
theorem qlz:∀ (l:List Ty) (n k:Int),0≤n->n + szYs l≤1000000->qbr qqj l n k = (n + szYs l,true)
 | [],n,k,_,_=>by rw [qbr,szYs];congr 1;omega
 | x :: r, n, k, h0, h => by
   rw [szYs] at h
   rw [qbr,qp9 x n k h0 (by omega),if_pos rfl,qlz r _ k (by omega) (by omega),szYs]
   congr 1;omega
end
mutual
theorem qos:∀ (t:Ty) (n k:Int),0≤n->1≤k->k + dpY t≤1000000->qcf qoq t n k = (max n (k + dpY t - 1),true)
 | .mk c v l, n, k, h0, h1, h => by
   rw [dpY] at h
   rw [qcf,if_pos (show (qoq n (.mk c v l) k).2 = true from rfl)]
   have h2:(qoq n (.mk c v l) k).1 = max n k:=by simp only [qoq];split<;>omega
   rw [h2,qbb (z:=k + 1) (by omega) (by omega),qlo l _ _ (by omega) (by omega) (by omega),dpY]
   congr 1;split<;>omega
theorem qlo:∀ (l:List Ty) (n k:Int),0≤n->1≤k->k + dpYs l≤1000000->qbr qoq l n k = (if dpYs l = 0 then n else max n (k + dpYs l - 1),true)
 | [],n,k,_,_,_=>by rw [qbr,dpYs,if_pos rfl]
 | x :: r, n, k, h0, h1, h => by
   rw [dpYs] at h
   have hp:=qbon x
   rw [qbr,qos x n k h0 h1 (by omega),if_pos rfl,qlo r _ k (by omega) h1 (by omega),dpYs]
   congr 1
   rw [if_neg (by omega:¬ max (dpY x) (dpYs r) = 0)]
   split<;>omega
end
mutual
theorem qp7:∀ (t:Ty) (n k:Int),0≤n->n + szY t≤1000000->1≤k->k + dpY t≤1000000 →
 ((qcf qe5 t n k).2 = true ↔ n + szY t≤4096∧k + dpY t - 1≤100∧qb4 t = true)∧((qcf qe5 t n k).2 = true->(qcf qe5 t n k).1 = n + szY t)
 | .mk c v l, n, k, h0, h1, h2, h3 => by
   rw [szY] at h1
   rw [dpY] at h3
   have e1:IntKind.i64.wrap (n + 1) = n + 1:=qbb (by omega) (by omega)
   have e2:IntKind.i64.wrap (k + 1) = k + 1:=qbb (by omega) (by omega)
   have e3:(qe5 n (.mk c v l) k).1 = n + 1:=e1
   have e4:(qe5 n (.mk c v l) k).2 = true ↔ n + 1≤4096∧k≤100∧mayW c v l.length = true:=by
    simp only [qe5,e1,Bool.and_eq_true,decide_eq_true_eq];rfl
   rw [qcf,szY,dpY,qb4]
   by_cases hs:(qe5 n (.mk c v l) k).2 = true
   ·rw [if_pos hs,e3,e2]
    obtain ⟨q1,q2,q3⟩:=e4.1 hs
    obtain ⟨r1,r2⟩:=qld l (n + 1) (k + 1) (by omega) (by omega) (by omega) (by omega) (by omega) (by omega)
    refine ⟨?_,fun h=>by rw [r2 h];omega⟩
    rw [r1,q3,Bool.and_true]
    constructor
    ·rintro ⟨a1,a2,a3⟩;exact ⟨by omega,by omega,a3⟩
    ·rintro ⟨a1,a2,a3⟩;exact ⟨by omega,by omega,a3⟩
   ·rw [if_neg hs]
    refine ⟨⟨fun h=>(by cases h),fun ⟨a1,a2,a3⟩=>absurd (e4.2 ⟨by omega,by omega,(by rw [Bool.and_eq_true] at a3;exact a3.2)⟩) hs⟩,fun h=>by cases h⟩
theorem qld:∀ (l:List Ty) (n k:Int),0≤n->n + szYs l≤1000000->1≤k->k + dpYs l≤1000000->n≤4096->k - 1≤100 →
 ((qbr qe5 l n k).2 = true ↔ n + szYs l≤4096∧k + dpYs l - 1≤100∧qbz l = true)∧((qbr qe5 l n k).2 = true->(qbr qe5 l n k).1 = n + szYs l)
 | [], n, k, h0, h1, h2, h3, h4, h5 => by
   rw [qbr,szYs,dpYs,qbz]
   exact ⟨⟨fun _=>⟨by omega,by omega,rfl⟩,fun _=>rfl⟩,fun _=>by simp⟩
 | x :: r, n, k, h0, h1, h2, h3, h4, h5 => by
   rw [szYs] at h1
   rw [dpYs] at h3
   obtain ⟨q1,q2⟩:=qp7 x n k h0 (by omega) h2 (by omega)
   rw [qbr,szYs,dpYs,qbz]
   by_cases hs:(qcf qe5 x n k).2 = true
   ·rw [if_pos hs,q2 hs]
    obtain ⟨a1,a2,a3⟩:=q1.1 hs
    obtain ⟨r1,r2⟩:=qld r (n + szY x) k (by omega) (by omega) h2 (by omega) (by omega) h5
    refine ⟨?_,fun h=>by rw [r2 h];omega⟩
    rw [r1,a3,Bool.true_and]
    constructor
    ·rintro ⟨b1,b2,b3⟩;exact ⟨by omega,by omega,b3⟩
    ·rintro ⟨b1,b2,b3⟩;exact ⟨by omega,by omega,b3⟩
   ·rw [if_neg hs]
    refine ⟨⟨fun h=>(by cases h),fun ⟨a1,a2,a3⟩=>absurd (q1.2 ⟨by omega,by omega,?_⟩) hs⟩,fun h=>by cases h⟩
    rw [Bool.and_eq_true] at a3
    exact a3.1
end
def qf (t:Ty):Bool:=decide (szY t≤4096) && (decide (dpY t≤100) && qb4 t)
theorem qyv {t:Ty} (h1:szY t≤20000) (h2:dpY t≤300):qr8 t = qf t:=by
 have:=(qp7 t 0 1 (by omega) (by omega) (by omega) (by omega)).1
 rw [qr8,Bool.eq_iff_iff,this,qf,Bool.and_eq_true,Bool.and_eq_true,decide_eq_true_eq,decide_eq_true_eq]
 constructor
 ·rintro ⟨a1,a2,a3⟩;exact ⟨by omega,by omega,a3⟩
 ·rintro ⟨a1,a2,a3⟩;exact ⟨by omega,by omega,a3⟩
theorem qc5 {t:Ty} (h1:szY t≤20000) (h2:dpY t≤300):qi Tryz.prog 67 [encY t] (.bool (qf t)):=by
 rw [← qyv h1 h2];exact qj7 t

theorem q63 {t a b:Ty} (h1:t.con = arrW) (h2:t.args = [a,b]):txtY t = parW (decide (a.con = arrW)) (txtY a) ++ ([32,45,62,32] ++ txtY b):=by
 cases t with
 | mk c v l =>
   have h1':c = arrW:=h1
   have h2':l = [a,b]:=h2
   subst h1' h2'
   rw [txtY,if_pos rfl]
theorem q2a {t:Ty} (h1:¬ t.con = arrW):txtY t = qhx t ++ argY t.args:=by
 cases t with
 | mk c v l =>
   have h1':¬ c = arrW:=h1
   rcases l with _ | ⟨a,_ | ⟨b,_ | ⟨d,r⟩⟩⟩<;>(simp only [txtY,if_neg h1'];rfl)
theorem qkm (l:List Ty) (i:Nat) (h:i < l.length):argY (l.take (i + 1)) = argY (l.take i) ++ (32 :: parW (decide ((l.getD i Y0).args≠[])) (txtY (l.getD i Y0))):=by
 have h1:l.take (i + 1) = l.take i ++ [l.getD i Y0]:=by
  rw [List.take_add_one,List.getD_eq_getElem?_getD,List.getElem?_eq_getElem h];rfl
 rw [h1]
 generalize l.take i = a
 generalize l.getD i Y0 = x
 induction a with
 | nil=>simp [argY]
 | cons y a ih=>simp only [List.cons_append,argY,ih,List.append_assoc]
theorem qgp (l:List Ty) (i:Nat):(argY (l.take i)).length≤(argY l).length:=by
 induction l generalizing i with
 | nil=>simp
 | cons x r ih =>
   cases i with
   | zero=>simp [argY]
   | succ i=>rw [List.take_succ_cons,argY,argY,List.length_append,List.length_append];have:=ih i;omega
theorem q0t {t:Ty} (h:qb4 t = true) (h1:t.con = arrW):∃ a b,t.args = [a,b]∧qb4 a = true∧qb4 b = true:=by
 rw [qfj,Bool.and_eq_true] at h
 obtain ⟨h2,h3⟩:=h
 rw [mayY,mayW,h1,if_neg (by decide),if_pos rfl,Bool.and_eq_true,decide_eq_true_eq,decide_eq_true_eq] at h3
 have hl:t.args.length = 2:=by omega
 obtain ⟨a,b,hab⟩:∃ a b,t.args = [a,b]:=by
  match hh:t.args,hl with
  | [a,b],_=>exact ⟨a,b,rfl⟩
 rw [hab] at h2
 simp only [qbz,Bool.and_eq_true] at h2
 exact ⟨a,b,hab,h2.1,h2.2.1⟩
theorem qx4 {t x:Ty} (h:qb4 t = true) (hx:x∈t.args):qb4 x = true:=by
 rw [qfj,Bool.and_eq_true] at h
 have h2:=h.1
 generalize t.args = l at hx h2
 induction l with
 | nil=>cases hx
 | cons y r ih =>
   rw [qbz,Bool.and_eq_true] at h2
   rcases List.mem_cons.1 hx with rfl | hx
   ·exact h2.1
   ·exact ih hx h2.2
theorem qs9 (b:Bool) (s:List UInt8):s.length≤(parW b s).length∧(parW b s).length≤s.length + 2:=by
 rw [parW];split<;>simp<;>omega
def Big:Nat:=140737488355328
theorem qj2 {n:Nat} (h:n≤Big):n≤maxLen:=by unfold Big at h;unfold maxLen;omega

theorem qbri {v:Int} (h:(Lit.int .i64 v).wf = true) (h0:v < 0):IntKind.i64.wrap (-1 - v) = -1 - v:=by
 have:=qke h
 exact qbb (by omega) (by omega)
end Go.Proofs.YtkenggenkmfopaaGreat
/- strings.Builder: the shelf's facts over this program. -/
namespace Go.Proofs
open Go.Shelf
def Tryz.lays156_ren:Go.Shelf.Ren:=⟨fun | 166=>104 | 169=>106 | 240=>153 | 276=>207 | n=>n,fun | 0=>0 | 3=>3 | 4=>4 | 9=>9 | 20=>20 | 37=>173 | 70=>200 | 72=>202 | 75=>204 | 76=>205 | 164=>296 | 5=>5 | 127=>252 | 31=>131 | 80=>59 | n=>n,fun | n=>n⟩
theorem Tryz.bld166:Go.Proofs.Lays.n166 Tryz.prog Tryz.lays156_ren:={
 mixed:=by kernel_rfl
 f166:=Tryz.func104.trans (congrArg some (by kernel_rfl))
 f240:=Tryz.func153.trans (congrArg some (by kernel_rfl))
 f276:=Tryz.func207.trans (congrArg some (by kernel_rfl))
 t0:=Tryz.underlying0
 a0:=Tryz.isAgg0
 z0:=Tryz.sizeOf0
 v0:=Tryz.zeroValue0
 t3:=Tryz.underlying3
 a3:=Tryz.isAgg3
 z3:=Tryz.sizeOf3
 v3:=Tryz.zeroValue3
 t4:=Tryz.underlying4
 a4:=Tryz.isAgg4
 z4:=Tryz.sizeOf4
 v4:=Tryz.zeroValue4
 t9:=Tryz.underlying9
 a9:=Tryz.isAgg9
 z9:=Tryz.sizeOf9
 v9:=Tryz.zeroValue9
 t20:=Tryz.underlying20
 a20:=Tryz.isAgg20
 z20:=Tryz.sizeOf20
 v20:=Tryz.zeroValue20
 t37:=Tryz.underlying173
 a37:=Tryz.isAgg173
 z37:=Tryz.sizeOf173
 v37:=Tryz.zeroValue173
 t70:=Tryz.underlying200
 a70:=Tryz.isAgg200
 z70:=Tryz.sizeOf200
 v70:=Tryz.zeroValue200
 t72:=Tryz.underlying202
 a72:=Tryz.isAgg202
 z72:=Tryz.sizeOf202
 v72:=Tryz.zeroValue202
 t75:=Tryz.underlying204
 a75:=Tryz.isAgg204
 z75:=Tryz.sizeOf204
 v75:=Tryz.zeroValue204
 t164:=Tryz.underlying296
 a164:=Tryz.isAgg296
 z164:=Tryz.sizeOf296
 v164:=Tryz.zeroValue296 }
theorem Tryz.bld169:Go.Proofs.Lays.n169 Tryz.prog Tryz.lays156_ren:={
 mixed:=by kernel_rfl
 f169:=Tryz.func106.trans (congrArg some (by kernel_rfl))
 t0:=Tryz.underlying0
 a0:=Tryz.isAgg0
 z0:=Tryz.sizeOf0
 v0:=Tryz.zeroValue0
 t3:=Tryz.underlying3
 a3:=Tryz.isAgg3
 z3:=Tryz.sizeOf3
 v3:=Tryz.zeroValue3
 t9:=Tryz.underlying9
 a9:=Tryz.isAgg9
 z9:=Tryz.sizeOf9
 v9:=Tryz.zeroValue9
 t37:=Tryz.underlying173
 a37:=Tryz.isAgg173
 z37:=Tryz.sizeOf173
 v37:=Tryz.zeroValue173
 t70:=Tryz.underlying200
 a70:=Tryz.isAgg200
 z70:=Tryz.sizeOf200
 v70:=Tryz.zeroValue200
 t72:=Tryz.underlying202
 a72:=Tryz.isAgg202
 z72:=Tryz.sizeOf202
 v72:=Tryz.zeroValue202
 t127:=Tryz.underlying252
 a127:=Tryz.isAgg252
 z127:=Tryz.sizeOf252
 v127:=Tryz.zeroValue252 }
theorem Tryz.Builder_Extra_156:Builder.Extra Tryz.prog Tryz.lays156_ren:={
 sizeBuilder:=by kernel_rfl
 liesBuilder:=by kernel_rfl
 t5:=Tryz.underlying5
 a5:=Tryz.isAgg5
 z5:=Tryz.sizeOf5
 v5:=Tryz.zeroValue5
 infoByte:=by kernel_rfl
 cellsByte:=by kernel_rfl
 sizeByte:=by kernel_rfl
 neB5:=by decide }
end Go.Proofs
