/- Texts of this proof, joined. -/
import Derived.Test.YtlmcofjcpadmiaaGreatWan
import Derived.Test.YtlmcofjcpadmiaaGreatWao
import Derived.Test.YtlmcofjcpadmiaaGreatWaj
set_option linter.unusedVariables false
set_option linter.unusedSimpArgs false

/- trees: low, each, bare, named, plain -/
set_option maxRecDepth 4000
namespace Go.Proofs.YtlmcofjcpadmiaaGreat
open Go Go.RowKit Go.V

theorem qbt (l:List N) (i:Nat):(encs l).take i = encs (l.take i):=by rw [qce,qce,List.map_take]
theorem qbv (l:List N) (i:Nat):(encs l).drop i = encs (l.drop i):=by rw [qce,qce,List.map_drop]
attribute [go_sem] qbt qbv
def qe7 (n:N):Bool:=decide (n.text = []) && decide (n.num = 0)
theorem qdg (n:N):qh Tryz.prog 67 [enc n] (.bool (qe7 n)):=by
 refine qe c0cf (by simp) (by simp only [go_sem]) rfl fun hw=>?_
 repeat' (first | refine vs_ ?_ | ((first | refine vr_ ?_ | (refine cs_ ?_ ?_<;>intro hc) | refine cj_ ?_ | fail)<;>(try refine ev_ ?_)) | with_reducible exact ti_)
 all_goals simp_all [qe7]
def qcn (n:N) (f:List UInt8->Bool):Bool:=decide (n.num = 0) && f n.text
theorem qbk {so:FuncId} {f:List UInt8->Bool} (h:∀ l,qh Tryz.prog so [.str l] (.bool (f l))) (n:N):qh Tryz.prog 89 [enc n,.fn so [] []] (.bool (qcn n f)):=by
 refine qe c0cg (by simp) (by simp only [go_sem]) rfl fun hw=>?_
 repeat' (first | refine vs_ ?_ | ((first | refine vr_ ?_ | refine qa (h _) fun _=>?_ | (refine cs_ ?_ ?_<;>intro hc) | refine cj_ ?_ | fail)<;>(try refine ev_ ?_)) | with_reducible exact ti_)
 all_goals simp_all [qcn]
theorem qbo (n:N) (k:Int):qh Tryz.prog 114 [enc n,.int .i64 k] (.bool (decide (n.num = 0) && decide ((n.kids.length:Int) = k))):=by
 refine qe c0ch (by simp) (by simp only [go_sem]) rfl fun hw=>?_
 repeat' (first | refine vs_ ?_ | ((first | refine vr_ ?_ | (refine cs_ ?_ ?_<;>intro hc) | refine cj_ ?_ | fail)<;>(try refine ev_ ?_)) | with_reducible exact ti_)
 all_goals simp_all

theorem qo {l:List N} {f:N->Bool} {i:Nat} (h:i < l.length):(l.drop i).all f = (f (l.getD i N0) && (l.drop (i + 1)).all f):=by
 rw [qp4 h,List.all_cons]

theorem qr {so:FuncId} {f:N->Bool} {l:List N} (h:∀ x∈l,qh Tryz.prog so [enc x] (.bool (f x))):qh Tryz.prog 68 [.sl 5 (encs l),.fn so [] []] (.bool (l.all f)):=by
 refine qe c0ci (by simp) (by simp only [go_sem]) rfl fun hw=>?_
 have hkl:l.length≤maxLen:=by have:=hw.1.1;rwa [qfr] at this
 repeat' (first | refine vs_ ?_ | ((first | refine vr_ ?_ | (refine cs_ ?_ ?_<;>intro hc) | refine cj_ ?_ | simp (disch:=omega) only [qb,qf])<;>(try refine ev_ ?_)) | with_reducible exact ti_)
 refine qt (S:=Nat) (fun i=>i≤l.length∧(l.drop i).all f = l.all f) (fun i=>(⟨[(1,.fn so [] []),(7,.sl 5 (encs l)),(8,.int .i64 l.length),(9,.int .i64 i)],[]⟩,[])) (fun i=>l.length - i) ?_ fun i hi=>?_
 ·refine qs 0 [] ⟨Nat.zero_le _,rfl⟩ rfl (by simp) ?_ ?_ ?_<;>(try refine ev_ ?_)<;>(try with_reducible exact ti_)<;>(try simp (disch:=omega) only [qf,and_true,true_and])
 ·obtain ⟨hi,ha⟩:=hi
  repeat' (first | refine vs_ ?_ | ((first | refine vr_ ?_ | refine qa (h _ (qg (by omega))) fun _=>?_ | (refine cs_ ?_ ?_<;>intro hc) | refine cj_ ?_ | simp (disch:=omega) only [qb,qf])<;>(try refine ev_ ?_)) | with_reducible exact ti_)
  ·rw [← ha,qo (by omega),hc];rfl
  ·refine qs (i + 1) [] ⟨⟨by omega,?_⟩,by omega⟩ rfl (by simp) ?_ ?_ ?_<;>(try refine ev_ ?_)<;>(try with_reducible exact ti_)<;>(try simp (disch:=omega) only [qf,and_true,true_and])
   rw [← ha,qo (l:=l) (i:=i) (by omega),hc,Bool.true_and]
  ·rw [← ha,List.drop_of_length_le (by omega)];rfl

/-! low -/
def yLow (n:N) (fn:FuncId) (asn bd:Code) (ha:qbq Tryz.prog 10 asn = some qqk) (hb:qbq Tryz.prog 10 bd = some qsl):Yld Bool where
 m:=5
 hs:=fun b=>[.blk (nc n),.blk [.bool false],.blk (nc n),.blk [.int .i64 1],.lp (if b then ⟨.done,some .ret,fn,[6,7].toArray,asn,bd⟩ else ⟨.ready,none,fn,[6,7].toArray,asn,bd⟩) (qkk 10 [(5,.fn 140 [] [.ptr 2 0,.ptr 3 0]),(4,enc n),(2,.ptr 1 0),(1,.ptr 0 0),(0,enc n)])]
 i:=4
 step:=fun k l _=>(decide (100 < l),!decide (100 < l))
 len:=fun _=>rfl
 bd:=fun k=>by cases k<;>(refine ev_ ?_;(try with_reducible exact ti_))
 lt:=by omega
 live:=fun b=>b = false
 keep:=fun s l n _ h=>by simpa using h
 app:=fun k l x hk=>by
  subst hk
  refine qpl (k:=5) rfl rfl ql4 ha hb (by simp) (by simp) (by simp) fun lp=>?_
  repeat' (first | refine vs_ ?_ | ((first | refine vr_ ?_ | (refine cs_ ?_ ?_<;>intro hc) | refine cj_ ?_ | simp (disch:=omega) only [qb,qf])<;>(try refine ev_ ?_)) | with_reducible exact ti_)

def lowF:Bool->Int->N->Bool×Bool:=fun _ l _=>(decide (100 < l),!decide (100 < l))
def lowW (n:N):Bool:=(qbu lowF n 1 false).2
theorem q96:∀ n l s,(qbu lowF n l s).1 = !(qbu lowF n l s).2:=by
 refine N.ind fun n ih l s=>?_
 rw [qep]
 split
 ·rename_i h
  have key:∀ (r:List N),(∀ x∈r,∀ l s,(qbu lowF x l s).1 = !(qbu lowF x l s).2)->∀ (l:Int) (s:Bool),s = false->(qb6 lowF l r s).1 = !(qb6 lowF l r s).2:=by
   intro r
   induction r with
   | nil=>intro _ l s hs;subst hs;rfl
   | cons x r ihr =>
     intro hx l s hs
     rw [qb6]
     split
     ·rename_i h3
      exact ihr (fun x hx'=>hx x (by simp [hx'])) l _ (by rw [hx x (by simp),h3];rfl)
     ·rename_i h3
      simp only [Bool.not_eq_true] at h3
      rw [hx x (by simp),h3]
  exact key _ ih _ _ (by simpa [lowF] using h)
 ·rename_i h
  simpa [lowF] using h

theorem qfl (n:N):qh Tryz.prog 47 [enc n] (.bool (lowW n)):=by
 refine qe c0cj (by simp) (by simp only [go_sem]) rfl fun hw=>?_
 repeat' (first | refine vs_ ?_ | ((first | refine vr_ ?_ | (refine cs_ ?_ ?_<;>intro hc) | refine cj_ ?_ | fail)<;>(try refine ev_ ?_)) | with_reducible exact ti_)
 refine qt7 (qbkw n 1) (by simp only [go_sem]) ?_
 rintro H1 o ⟨rfl,rfl⟩
 (refine ev_ ?_;(try with_reducible exact ti_))
 refine qod (qbip rfl (Nat.zero_le _) fun fn asn bd ha hb=>?_)
 refine VCalls.mono (qbld (yLow n fn asn bd ha hb) (n:=n) (l:=1) (s:=false) (p:=2) (q:=3) rfl rfl rfl) ?_
 rintro H1 o ⟨rfl,rfl⟩
 have hlow:=q96 n 1 false
 rw [show qbu (yLow n fn asn bd ha hb).step n 1 false = qbu lowF n 1 false from rfl,lowW]
 generalize qbu lowF n 1 false = pq at hlow ⊢
 obtain ⟨p,q⟩:=pq
 simp only at hlow
 subst hlow
 cases q
 ·simp only [yLow,Bool.not_false,go_sem,↓reduceIte]
 ·simp only [yLow,Bool.not_true,go_sem,↓reduceIte]
  repeat' (first | refine vs_ ?_ | ((first | refine vr_ ?_ | (refine cs_ ?_ ?_<;>intro hc) | refine cj_ ?_ | fail)<;>(try refine ev_ ?_)) | with_reducible exact ti_)
theorem qej (n:N):qh Tryz.prog 72 [enc n] (.bool (decide (depR n≤100))):=by
 refine qe c0ck (by simp) (by simp only [go_sem]) rfl fun hw=>?_
 repeat' (first | refine vs_ ?_ | ((first | refine vr_ ?_ | refine qa (q92 _) fun _=>?_ | (refine cs_ ?_ ?_<;>intro hc) | refine cj_ ?_ | fail)<;>(try refine ev_ ?_)) | with_reducible exact ti_)
set_option maxRecDepth 4000

theorem qvc {i:Nat} (h:i≤maxLen):IntKind.i64.wrap ((i:Int) - 1) = (i:Int) - 1:=by
 unfold maxLen at h
 simp [IntKind.wrap,IntKind.signed,IntKind.bits]
 omega
mutual
def tyW:N->Bool
 | .mk k _ n t ks => if k = 1 then decide (n = 0) && varW t && decide ((ks.length : Int) = 0)
   else if k = 2∧n = 0 then (if t = [45,62] then decide ((ks.length:Int) = 2) else conW t) && tysW ks else false
def tysW:List N->Bool
 | []=>true
 | x :: r=>tyW x && tysW r
end
theorem qyo (l:List N):tysW l = l.all tyW:=by
 induction l with
 | nil=>rfl
 | cons x r ih=>rw [tysW,ih];rfl
theorem qnz (n:N):tyW n = if n.kind = 1 then decide (n.num = 0) && varW n.text && decide ((n.kids.length:Int) = 0)
 else if n.kind = 2∧n.num = 0 then (if n.text = [45,62] then decide ((n.kids.length:Int) = 2) else conW n.text) && n.kids.all tyW else false:=by
 rw [← qyo];cases n;rw [tyW];rfl

theorem qbp:∀ n,qh Tryz.prog 48 [enc n] (.bool (tyW n)):=by
 refine N.ind fun n ih=>?_
 refine qe c0bt (by simp) (by simp only [go_sem]) rfl fun hw=>?_
 rw [qnz]
 repeat' (first | refine vs_ ?_ | ((first | refine vr_ ?_ | refine qa (qbk qd8 _) fun _=>?_ | refine qa (qr ih) fun _=>?_ | refine qa (qc0 _) fun _=>?_ | (refine cs_ ?_ ?_<;>intro hc) | refine cj_ ?_ | fail)<;>(try refine ev_ ?_)) | with_reducible exact ti_)
 all_goals simp_all [qcn]

theorem qhm {l:List N} (h:∀ x∈l,qh Tryz.prog 71 [enc x] (.bool (tyW x))):qh Tryz.prog 116 [.sl 5 (encs l)] (.bool (l.all tyW)):=by
 refine qe c0bu (by simp) (by simp only [go_sem]) rfl fun hw=>?_
 have hkl:l.length≤maxLen:=by have:=hw.1.1;rwa [qfr] at this
 repeat' (first | refine vs_ ?_ | ((first | refine vr_ ?_ | (refine cs_ ?_ ?_<;>intro hc) | refine cj_ ?_ | simp (disch:=omega) only [qb,qf])<;>(try refine ev_ ?_)) | with_reducible exact ti_)
 refine qt (S:=Nat) (fun i=>i≤l.length∧(l.drop i).all tyW = l.all tyW) (fun i=>(⟨[(0,.sl 5 (encs l)),(3,.int .i64 i)],[]⟩,[])) (fun i=>l.length - i) ?_ fun i hi=>?_
 ·refine qs 0 [] ⟨Nat.zero_le _,rfl⟩ rfl (by simp) ?_ ?_ ?_<;>(try refine ev_ ?_)<;>(try with_reducible exact ti_)<;>(try simp (disch:=omega) only [qf,and_true,true_and])
 ·obtain ⟨hi,ha⟩:=hi
  repeat' (first | refine vs_ ?_ | ((first | refine vr_ ?_ | refine qa (h _ (qg (by omega))) fun _=>?_ | (refine cs_ ?_ ?_<;>intro hc) | refine cj_ ?_ | simp (disch:=omega) only [qb,qf])<;>(try refine ev_ ?_)) | with_reducible exact ti_)
  ·rw [← ha,qo (by omega),hc];rfl
  ·refine qs (i + 1) [] ⟨⟨by omega,?_⟩,by omega⟩ rfl (by simp) ?_ ?_ ?_<;>(try refine ev_ ?_)<;>(try with_reducible exact ti_)<;>(try simp (disch:=omega) only [qf,and_true,true_and])
   rw [← ha,qo (l:=l) (i:=i) (by omega),hc,Bool.true_and]
  ·rw [← ha,List.drop_of_length_le (by omega)];rfl

theorem qmj:conW [45,62] = false:=by decide
theorem qbi0 {t:List UInt8} (h:conW t = true):¬ t = [45,62]:=fun e=>by rw [e,qmj] at h;cases h
theorem qbz:∀ n,qh Tryz.prog 71 [enc n] (.bool (tyW n)):=by
 refine N.ind fun n ih=>?_
 refine qe c0bv (by simp) (by simp only [go_sem]) rfl fun hw=>?_
 rw [qnz]
 repeat' (first | refine vs_ ?_ | ((first | refine vr_ ?_ | refine qa (qek _) fun _=>?_ | refine qa (qbo _ _) fun _=>?_ | refine qa (qcw _) fun _=>?_ | refine qa (qhm ih) fun _=>?_ | (refine cs_ ?_ ?_<;>intro hc) | refine cj_ ?_ | fail)<;>(try refine ev_ ?_)) | with_reducible exact ti_)
 all_goals first
  | (simp_all [qmj];done)
  | (have hne := qbi0 (by assumption)
     simp_all)

/-! patterns -/
mutual
def paW:N->Bool
 | .mk k _ n t ks => if k = 11 then decide (n = 0) && varW t && decide ((ks.length : Int) = 0)
   else if k = 12 then decide (t = []) && decide (n = 0) && decide ((ks.length:Int) = 0)
   else if k = 13 then decide (t = []) && decide (0≤n) && decide ((ks.length:Int) = 0)
   else if k = 14 then decide (n = 0) && conW t && pasW ks else false
def pasW:List N->Bool
 | []=>true
 | x :: r=>paW x && pasW r
end
theorem qv1 (l:List N):pasW l = l.all paW:=by
 induction l with
 | nil=>rfl
 | cons x r ih=>rw [pasW,ih];rfl
theorem qsr (n:N):paW n = if n.kind = 11 then decide (n.num = 0) && varW n.text && decide ((n.kids.length:Int) = 0)
 else if n.kind = 12 then decide (n.text = []) && decide (n.num = 0) && decide ((n.kids.length:Int) = 0)
 else if n.kind = 13 then decide (n.text = []) && decide (0≤n.num) && decide ((n.kids.length:Int) = 0)
 else if n.kind = 14 then decide (n.num = 0) && conW n.text && n.kids.all paW else false:=by
 rw [← qv1];cases n;rw [paW];rfl
theorem qik:∀ n,qh Tryz.prog 51 [enc n] (.bool (paW n)):=by
 refine N.ind fun n ih=>?_
 refine qe c0bw (by simp) (by simp only [go_sem]) rfl fun hw=>?_
 rw [qsr]
 repeat' (first | refine vs_ ?_ | ((first | refine vr_ ?_ | refine qa (qbk qd8 _) fun _=>?_ | refine qa (qbk qc0 _) fun _=>?_ | refine qa (qr ih) fun _=>?_ | refine qa (qdg _) fun _=>?_ | (refine cs_ ?_ ?_<;>intro hc) | refine cj_ ?_ | fail)<;>(try refine ev_ ?_)) | with_reducible exact ti_)
 all_goals simp_all [qcn,qe7]
theorem qig:∀ n,qh Tryz.prog 77 [enc n] (.bool (paW n)):=by
 refine N.ind fun n ih=>?_
 refine qe c0bx (by simp) (by simp only [go_sem]) rfl fun hw=>?_
 have hkl:n.kids.length≤maxLen:=((qb9 n).1 hw.1).1
 rw [qsr]
 repeat' (first | refine vs_ ?_ | ((first | refine vr_ ?_ | refine qa (qek _) fun _=>?_ | refine qa (qbo _ _) fun _=>?_ | (refine cs_ ?_ ?_<;>intro hc) | refine cj_ ?_ | simp (disch:=omega) only [qb,qf])<;>(try refine ev_ ?_)) | with_reducible exact ti_)
 all_goals first
  | (simp_all;done)
  | skip
 rename_i h1 h2 h3
 refine qt (S:=Nat) (fun i=>i≤n.kids.length∧(n.kids.drop i).all paW = n.kids.all paW) (fun i=>(⟨[(1,.ptr 0 0),(3,.int .i64 i)],[]⟩,[.blk (nc n)])) (fun i=>n.kids.length - i) ?_ fun i hi=>?_
 ·refine qs 0 [0] ⟨Nat.zero_le _,rfl⟩ rfl (by simp) ?_ ?_ ?_<;>(try refine ev_ ?_)<;>(try with_reducible exact ti_)<;>(try simp (disch:=omega) only [qf,and_true,true_and])
 ·obtain ⟨hi,ha⟩:=hi
  repeat' (first | refine vs_ ?_ | ((first | refine vr_ ?_ | refine qa (ih _ (qg (by omega))) fun _=>?_ | refine qa (qcw _) fun _=>?_ | (refine cs_ ?_ ?_<;>intro hc) | refine cj_ ?_ | simp (disch:=omega) only [qb,qf])<;>(try refine ev_ ?_)) | with_reducible exact ti_)
  ·have hx:n.kids.all paW = false:=by rw [← ha,qo (by omega),hc];rfl
   simp_all
  ·refine qs (i + 1) [0] ⟨⟨by omega,?_⟩,by omega⟩ rfl (by simp) ?_ ?_ ?_<;>(try refine ev_ ?_)<;>(try with_reducible exact ti_)<;>(try simp (disch:=omega) only [qf,and_true,true_and])
   rw [← ha,qo (l:=n.kids) (i:=i) (by omega),hc,Bool.true_and]
  all_goals
   have hx:n.kids.all paW = true:=by rw [← ha,List.drop_of_length_le (by omega)];rfl
   simp_all

/-! predicates, contexts, signatures -/
def prW (n:N):Bool:=decide (n.kind = 3) && decide (n.num = 0) && conW n.text && decide ((n.kids.length:Int) = 1) && tyW (n.kids.getD 0 N0)
theorem qeg (n:N):qh Tryz.prog 112 [enc n] (.bool (prW n)):=by
 refine qe c0by (by simp) (by simp only [go_sem]) rfl fun hw=>?_
 repeat' (first | refine vs_ ?_ | ((first | refine vr_ ?_ | refine qa (qbk qc0 _) fun _=>?_ | refine qa (qbp _) fun _=>?_ | (refine cs_ ?_ ?_<;>intro hc) | refine cj_ ?_ | simp (disch:=omega) only [qb,qf])<;>(try refine ev_ ?_)) | with_reducible exact ti_)
 all_goals simp_all [qcn,prW]
theorem qp5 (n:N):qh Tryz.prog 206 [enc n] (.bool (prW n)):=by
 refine qe c0bz (by simp) (by simp only [go_sem]) rfl fun hw=>?_
 repeat' (first | refine vs_ ?_ | ((first | refine vr_ ?_ | refine qa (qcw _) fun _=>?_ | refine qa (qbo _ _) fun _=>?_ | refine qa (qbz _) fun _=>?_ | (refine cs_ ?_ ?_<;>intro hc) | refine cj_ ?_ | simp (disch:=omega) only [qb,qf])<;>(try refine ev_ ?_)) | with_reducible exact ti_)
 all_goals simp_all [prW]
theorem qin {l:List N}:qh Tryz.prog 175 [.sl 5 (encs l)] (.bool (l.all prW)):=by
 refine qe c0ca (by simp) (by simp only [go_sem]) rfl fun hw=>?_
 have hkl:l.length≤maxLen:=by have:=hw.1.1;rwa [qfr] at this
 repeat' (first | refine vs_ ?_ | ((first | refine vr_ ?_ | (refine cs_ ?_ ?_<;>intro hc) | refine cj_ ?_ | simp (disch:=omega) only [qb,qf])<;>(try refine ev_ ?_)) | with_reducible exact ti_)
 refine qt (S:=Nat) (fun i=>i≤l.length∧(l.drop i).all prW = l.all prW) (fun i=>(⟨[(0,.sl 5 (encs l)),(3,.int .i64 i)],[]⟩,[])) (fun i=>l.length - i) ?_ fun i hi=>?_
 ·refine qs 0 [] ⟨Nat.zero_le _,rfl⟩ rfl (by simp) ?_ ?_ ?_<;>(try refine ev_ ?_)<;>(try with_reducible exact ti_)<;>(try simp (disch:=omega) only [qf,and_true,true_and])
 ·obtain ⟨hi,ha⟩:=hi
  repeat' (first | refine vs_ ?_ | ((first | refine vr_ ?_ | refine qa (qp5 _) fun _=>?_ | (refine cs_ ?_ ?_<;>intro hc) | refine cj_ ?_ | simp (disch:=omega) only [qb,qf])<;>(try refine ev_ ?_)) | with_reducible exact ti_)
  ·rw [← ha,qo (by omega),hc];rfl
  ·refine qs (i + 1) [] ⟨⟨by omega,?_⟩,by omega⟩ rfl (by simp) ?_ ?_ ?_<;>(try refine ev_ ?_)<;>(try with_reducible exact ti_)<;>(try simp (disch:=omega) only [qf,and_true,true_and])
   rw [← ha,qo (l:=l) (i:=i) (by omega),hc,Bool.true_and]
  ·rw [← ha,List.drop_of_length_le (by omega)];rfl
def quW (n:N):Bool:=decide (n.kind = 4) && qe7 n && decide (0≤(n.kids.length:Int) - 1) && (n.kids.take ((n.kids.length:Int) - 1).toNat).all prW && tyW (n.kids.getD ((n.kids.length:Int) - 1).toNat N0)
theorem qlm (n:N):qh Tryz.prog 157 [enc n] (.bool (quW n)):=by
 refine qe c0cb (by simp) (by simp only [go_sem]) rfl fun hw=>?_
 have hkl:n.kids.length≤maxLen:=((qb9 n).1 hw.1).1
 repeat' (first | refine vs_ ?_ | ((first | refine vr_ ?_ | refine qa (qdg _) fun _=>?_ | refine qa (qr fun x _=>qeg x) fun _=>?_ | refine qa (qbp _) fun _=>?_ | simp (disch:=omega) only [qvc] | (refine cs_ ?_ ?_<;>intro hc) | refine cj_ ?_ | simp (disch:=omega) only [qb,qf])<;>(try refine ev_ ?_)) | with_reducible exact ti_)
 all_goals first | (simp only [quW, *,decide_true,decide_false,Bool.and_true,Bool.true_and,Bool.and_false,Bool.false_and,Bool.or_true,Bool.true_or,Bool.or_false,Bool.false_or,Bool.not_true,Bool.not_false,if_true,if_false,reduceIte,Int.reduceEq];done) | (simp_all [quW];done) | (simp_all [quW];omega)
theorem qlk (n:N):qh Tryz.prog 174 [enc n] (.bool (quW n)):=by
 refine qe c0cc (by simp) (by simp only [go_sem]) rfl fun hw=>?_
 have hkl:n.kids.length≤maxLen:=((qb9 n).1 hw.1).1
 repeat' (first | refine vs_ ?_ | ((first | refine vr_ ?_ | refine qa qin fun _=>?_ | refine qa (qbz _) fun _=>?_ | simp (disch:=omega) only [qvc] | (refine cs_ ?_ ?_<;>intro hc) | refine cj_ ?_ | simp (disch:=omega) only [qb,qf])<;>(try refine ev_ ?_)) | with_reducible exact ti_)
 all_goals first | (simp only [quW,qe7, *,decide_true,decide_false,Bool.and_true,Bool.true_and,Bool.and_false,Bool.false_and,Bool.or_true,Bool.true_or,Bool.or_false,Bool.false_or,Bool.not_true,Bool.not_false,if_true,if_false,reduceIte,Int.reduceEq];done) | (simp_all [quW,qe7];done) | (simp_all [quW,qe7];omega)
def sgW (n:N):Bool:=decide (n.kind = 32) && decide (n.num = 0) && varW n.text && decide ((n.kids.length:Int) = 1) && quW (n.kids.getD 0 N0)
theorem qcv (n:N):qh Tryz.prog 101 [enc n] (.bool (sgW n)):=by
 refine qe c0cd (by simp) (by simp only [go_sem]) rfl fun hw=>?_
 repeat' (first | refine vs_ ?_ | ((first | refine vr_ ?_ | refine qa (qbk qd8 _) fun _=>?_ | refine qa (qlm _) fun _=>?_ | (refine cs_ ?_ ?_<;>intro hc) | refine cj_ ?_ | simp (disch:=omega) only [qb,qf])<;>(try refine ev_ ?_)) | with_reducible exact ti_)
 all_goals first | (simp only [qcn,sgW, *,decide_true,decide_false,Bool.and_true,Bool.true_and,Bool.and_false,Bool.false_and,Bool.or_true,Bool.true_or,Bool.or_false,Bool.false_or,Bool.not_true,Bool.not_false,if_true,if_false,reduceIte,Int.reduceEq];done) | (simp_all [qcn,sgW];done) | (simp_all [qcn,sgW];omega)
theorem qh0 (n:N):qh Tryz.prog 121 [enc n] (.bool (sgW n)):=by
 refine qe c0ce (by simp) (by simp only [go_sem]) rfl fun hw=>?_
 repeat' (first | refine vs_ ?_ | ((first | refine vr_ ?_ | refine qa (qek _) fun _=>?_ | refine qa (qbo _ _) fun _=>?_ | refine qa (qlk _) fun _=>?_ | (refine cs_ ?_ ?_<;>intro hc) | refine cj_ ?_ | simp (disch:=omega) only [qb,qf])<;>(try refine ev_ ?_)) | with_reducible exact ti_)
 all_goals first | (simp only [sgW, *,decide_true,decide_false,Bool.and_true,Bool.true_and,Bool.and_false,Bool.false_and,Bool.or_true,Bool.true_or,Bool.or_false,Bool.false_or,Bool.not_true,Bool.not_false,if_true,if_false,reduceIte,Int.reduceEq];done) | (simp_all [sgW];done) | (simp_all [sgW];omega)
set_option maxRecDepth 4000

abbrev T3:=Bool×Bool×Bool
def d3:T3×N:=((false,false,false),N0)
mutual
def eba:N->T3
 | .mk k _ n t ks =>
   let l:=(ebas ks).zip ks
   (if k = 21 then decide (n = 0) && varW t && decide ((ks.length : Int) = 0)
    else if k = 22 then decide (n = 0) && conW t && decide ((ks.length:Int) = 0)
    else if k = 23 then decide (t = []) && decide (0≤n) && decide ((ks.length:Int) = 0)
    else if k = 24 then decide (t = []) && decide (n = 0) && decide ((ks.length:Int) = 2) && l.all (·.1.1)
    else if k = 25 then decide (n = 0) && varW t && decide ((ks.length:Int) = 1) && (l.getD 0 d3).1.1
    else if k = 26 then decide (t = []) && decide (n = 0) && decide (2≤(ks.length:Int)) && (l.take ((ks.length:Int) - 1).toNat).all (fun p=>p.1.2.1 || sgW p.2) && (l.getD ((ks.length:Int) - 1).toNat d3).1.1
    else if k = 27 then decide (t = []) && decide (n = 0) && decide (2≤(ks.length:Int)) && (l.getD 0 d3).1.1 && (l.drop 1).all (·.1.2.2)
    else if k = 28 then decide (t = []) && decide (n = 0) && decide ((ks.length:Int) = 3) && l.all (·.1.1)
    else false,
    decide (k = 31) && decide (n = 0) && varW t && decide ((ks.length:Int) = 1) && (l.getD 0 d3).1.1,
    decide (k = 15) && decide (t = []) && decide (n = 0) && decide ((ks.length:Int) = 2) && paW (l.getD 0 d3).2 && (l.getD 1 d3).1.1)
def ebas:List N->List T3
 | []=>[]
 | x :: r=>eba x :: ebas r
end
def exW (n:N):Bool:=(eba n).1
def biW (n:N):Bool:=(eba n).2.1
def alW (n:N):Bool:=(eba n).2.2
theorem qj4 (l:List N):(ebas l).zip l = l.map fun x=>(eba x,x):=by
 induction l with
 | nil=>rfl
 | cons x r ih=>rw [ebas,List.zip_cons_cons,ih];rfl
theorem qes {l:List N} {i:Nat} (h:i < l.length):(l.map fun x=>(eba x,x)).getD i d3 = (eba (l.getD i N0),l.getD i N0):=by
 rw [List.getD_eq_getElem?_getD,List.getElem?_map,List.getElem?_eq_getElem h,List.getD_eq_getElem?_getD,List.getElem?_eq_getElem h];rfl
theorem qoi {c a b:Bool} (h:c = true->a = b):(c && a) = (c && b):=by cases c<;>simp_all
theorem qs1 (n:N):exW n = if n.kind = 21 then decide (n.num = 0) && varW n.text && decide ((n.kids.length:Int) = 0)
 else if n.kind = 22 then decide (n.num = 0) && conW n.text && decide ((n.kids.length:Int) = 0)
 else if n.kind = 23 then decide (n.text = []) && decide (0≤n.num) && decide ((n.kids.length:Int) = 0)
 else if n.kind = 24 then decide (n.text = []) && decide (n.num = 0) && decide ((n.kids.length:Int) = 2) && n.kids.all exW
 else if n.kind = 25 then decide (n.num = 0) && varW n.text && decide ((n.kids.length:Int) = 1) && exW (n.kids.getD 0 N0)
 else if n.kind = 26 then decide (n.text = []) && decide (n.num = 0) && decide (2≤(n.kids.length:Int)) && (n.kids.take ((n.kids.length:Int) - 1).toNat).all (fun x=>biW x || sgW x) && exW (n.kids.getD ((n.kids.length:Int) - 1).toNat N0)
 else if n.kind = 27 then decide (n.text = []) && decide (n.num = 0) && decide (2≤(n.kids.length:Int)) && exW (n.kids.getD 0 N0) && (n.kids.drop 1).all alW
 else if n.kind = 28 then decide (n.text = []) && decide (n.num = 0) && decide ((n.kids.length:Int) = 3) && n.kids.all exW
 else false:=by
 obtain ⟨k,p,m,t,ks⟩:=n
 simp only [exW,eba,N.kind,N.num,N.text,N.kids,qj4,← List.map_take,← List.map_drop,List.all_map]
 have h0:∀ (c:Int),1≤c->decide ((ks.length:Int) = c) = true->((ks.map fun x=>(eba x,x)).getD 0 d3).1.1 = (eba (ks.getD 0 N0)).1:=fun c h1 h=>by
  simp only [decide_eq_true_eq] at h
  rw [qes (by omega)]
 have h2:decide (2≤(ks.length:Int)) = true->((ks.map fun x=>(eba x,x)).getD 0 d3).1.1 = (eba (ks.getD 0 N0)).1:=fun h=>by
  simp only [decide_eq_true_eq] at h
  rw [qes (by omega)]
 have h3:decide (2≤(ks.length:Int)) = true->((ks.map fun x=>(eba x,x)).getD ((ks.length:Int) - 1).toNat d3).1.1 = (eba (ks.getD ((ks.length:Int) - 1).toNat N0)).1:=fun h=>by
  simp only [decide_eq_true_eq] at h
  rw [qes (by omega)]
 repeat' (refine ite_congr rfl (fun _=>?_) (fun _=>?_))
 all_goals first
  | rfl
  | (refine qoi fun h=>h0 1 (by omega) ?_;simp only [Bool.and_eq_true] at h;exact h.2)
  | (refine qoi fun h=>h3 ?_;simp only [Bool.and_eq_true] at h;exact h.1.2)
  | (refine congrArg (· && _) (qoi fun h=>h2 ?_);simp only [Bool.and_eq_true] at h;exact h.2)
theorem qsq (n:N):biW n = (decide (n.kind = 31) && decide (n.num = 0) && varW n.text && decide ((n.kids.length:Int) = 1) && exW (n.kids.getD 0 N0)):=by
 obtain ⟨k,p,m,t,ks⟩:=n
 simp only [biW,exW,eba,N.kind,N.num,N.text,N.kids,qj4]
 refine qoi fun h=>?_
 simp only [Bool.and_eq_true,decide_eq_true_eq] at h
 rw [qes (by omega)]
theorem qte (n:N):alW n = (decide (n.kind = 15) && decide (n.text = []) && decide (n.num = 0) && decide ((n.kids.length:Int) = 2) && paW (n.kids.getD 0 N0) && exW (n.kids.getD 1 N0)):=by
 obtain ⟨k,p,m,t,ks⟩:=n
 simp only [alW,exW,eba,N.kind,N.num,N.text,N.kids,qj4]
 by_cases h:(ks.length:Int) = 2
 ·rw [qes (by omega),qes (by omega)];rfl
 ·simp [h]

theorem qks {x:N} (h:qh Tryz.prog 100 [enc x] (.bool (biW x))):qh Tryz.prog 99 [enc x] (.bool (biW x || sgW x)):=by
 refine qe c0bp (by simp) (by simp only [go_sem]) rfl fun hw=>?_
 repeat' (first | refine vs_ ?_ | ((first | refine vr_ ?_ | refine qa h fun _=>?_ | refine qa (qcv x) fun _=>?_ | (refine cs_ ?_ ?_<;>intro hc) | refine cj_ ?_ | fail)<;>(try refine ev_ ?_)) | with_reducible exact ti_)
 all_goals first | (simp only [*,decide_true,decide_false,Bool.and_true,Bool.true_and,Bool.and_false,Bool.false_and,Bool.or_true,Bool.true_or,Bool.or_false,Bool.false_or,Bool.not_true,Bool.not_false,if_true,if_false,reduceIte,Int.reduceEq];done) | (simp_all [];done) | (simp_all [];omega)

set_option maxHeartbeats 2000000 in
theorem qiz {n:N} (ih:∀ x∈n.kids,qh Tryz.prog 57 [enc x] (.bool (exW x))) (iha:∀ x∈n.kids,qh Tryz.prog 102 [enc x] (.bool (alW x))) (ihw:∀ x∈n.kids,qh Tryz.prog 99 [enc x] (.bool (biW x || sgW x))) :
 qh Tryz.prog 57 [enc n] (.bool (exW n)):=by
 refine qe c0bq (by simp) (by simp only [go_sem]) rfl fun hw=>?_
 have hkl:n.kids.length≤maxLen:=((qb9 n).1 hw.1).1
 repeat' (first | refine vs_ ?_ | ((first | refine vr_ ?_ | refine qa (qbk qd8 _) fun _=>?_ | refine qa (qbk qc0 _) fun _=>?_ | refine qa (qdg _) fun _=>?_ | refine qa (ih _ (qg (by omega))) fun _=>?_ | refine qa (qr ih) fun _=>?_ | refine qa (qr (f:=alW) fun x hx=>iha x (List.mem_of_mem_drop hx)) fun _=>?_ | refine qa (qr (f:=fun x=>biW x || sgW x) fun x hx=>ihw x (List.mem_of_mem_take hx)) fun _=>?_ | simp (disch:=omega) only [qvc] | (refine cs_ ?_ ?_<;>intro hc) | refine cj_ ?_ | simp (disch:=omega) only [qb,qf])<;>(try refine ev_ ?_)) | with_reducible exact ti_)
 all_goals clear ih iha ihw hw hkl
 all_goals rw [qs1 n]
 all_goals (try simp only [qcn,qe7] at *)
 all_goals first | (simp only [*,decide_true,decide_false,Bool.and_true,Bool.true_and,Bool.and_false,Bool.false_and,Bool.or_true,Bool.true_or,Bool.or_false,Bool.false_or,Bool.not_true,Bool.not_false,if_true,if_false,reduceIte,Int.reduceEq];done) | (simp_all [];done) | (simp_all [];omega)

theorem qdf:∀ n,qh Tryz.prog 57 [enc n] (.bool (exW n))∧qh Tryz.prog 100 [enc n] (.bool (biW n))∧qh Tryz.prog 102 [enc n] (.bool (alW n)):=by
 refine N.ind fun n ih=>⟨qiz (fun x hx=>(ih x hx).1) (fun x hx=>(ih x hx).2.2) (fun x hx=>qks (ih x hx).2.1),?_,?_⟩
 ·refine qe c0br (by simp) (by simp only [go_sem]) rfl fun hw=>?_
  rw [qsq n]
  repeat' (first | refine vs_ ?_ | ((first | refine vr_ ?_ | refine qa (qbk qd8 _) fun _=>?_ | refine qa (ih _ (qg (by omega))).1 fun _=>?_ | refine qc (ih _ (qg (by omega))).1 ?_ | (refine cs_ ?_ ?_<;>intro hc) | refine cj_ ?_ | simp (disch:=omega) only [qb,qf])<;>(try refine ev_ ?_)) | with_reducible exact ti_)
  all_goals first | (simp only [qcn, *,decide_true,decide_false,Bool.and_true,Bool.true_and,Bool.and_false,Bool.false_and,Bool.or_true,Bool.true_or,Bool.or_false,Bool.false_or,Bool.not_true,Bool.not_false,if_true,if_false,reduceIte,Int.reduceEq];done) | (simp_all [qcn];done) | (simp_all [qcn];omega)
 ·refine qe c0bs (by simp) (by simp only [go_sem]) rfl fun hw=>?_
  rw [qte n]
  repeat' (first | refine vs_ ?_ | ((first | refine vr_ ?_ | refine qa (qdg _) fun _=>?_ | refine qa (qik _) fun _=>?_ | refine qa (ih _ (qg (by omega))).1 fun _=>?_ | refine qc (ih _ (qg (by omega))).1 ?_ | (refine cs_ ?_ ?_<;>intro hc) | refine cj_ ?_ | simp (disch:=omega) only [qb,qf])<;>(try refine ev_ ?_)) | with_reducible exact ti_)
  all_goals first | (simp only [qe7, *,decide_true,decide_false,Bool.and_true,Bool.true_and,Bool.and_false,Bool.false_and,Bool.or_true,Bool.true_or,Bool.or_false,Bool.false_or,Bool.not_true,Bool.not_false,if_true,if_false,reduceIte,Int.reduceEq];done) | (simp_all [qe7];done) | (simp_all [qe7];omega)
set_option maxRecDepth 4000

section
variable {n:N} (ih:∀ x∈n.kids,qh Tryz.prog 79 [enc x] (.bool (exW x)))
include ih
theorem qo8 (k:Int):qh Tryz.prog 125 [enc n,.int .i64 k] (.bool (decide (n.text = []) && decide (n.num = 0) && decide ((n.kids.length:Int) = k) && n.kids.all exW)):=by
 refine qe c0bj (by simp) (by simp only [go_sem]) rfl fun hw=>?_
 have hkl:n.kids.length≤maxLen:=((qb9 n).1 hw.1).1
 repeat' (first | refine vs_ ?_ | ((first | refine vr_ ?_ | refine qa (qbo _ _) fun _=>?_ | (refine cs_ ?_ ?_<;>intro hc) | refine cj_ ?_ | simp (disch:=omega) only [qb,qf])<;>(try refine ev_ ?_)) | with_reducible exact ti_)
 ·clear ih;simp_all
 ·clear ih;simp_all
 ·refine qt (S:=Nat) (fun i=>i≤n.kids.length∧(n.kids.drop i).all exW = n.kids.all exW) (fun i=>(⟨[(2,.ptr 0 0),(5,.int .i64 i)],[]⟩,[.blk (nc n)])) (fun i=>n.kids.length - i) ?_ fun i hi=>?_
  ·refine qs 0 [0] ⟨Nat.zero_le _,rfl⟩ rfl (by simp) ?_ ?_ ?_<;>(try refine ev_ ?_)<;>(try with_reducible exact ti_)<;>(try simp (disch:=omega) only [qf,and_true,true_and])
  ·obtain ⟨hi,ha⟩:=hi
   repeat' (first | refine vs_ ?_ | ((first | refine vr_ ?_ | refine qa (ih _ (qg (by omega))) fun _=>?_ | (refine cs_ ?_ ?_<;>intro hc) | refine cj_ ?_ | simp (disch:=omega) only [qb,qf])<;>(try refine ev_ ?_)) | with_reducible exact ti_)
   ·have hx:n.kids.all exW = false:=by rw [← ha,qo (by omega),hc];rfl
    rw [hx,Bool.and_false]
   ·refine qs (i + 1) [0] ⟨⟨by omega,?_⟩,by omega⟩ rfl (by simp) ?_ ?_ ?_<;>(try refine ev_ ?_)<;>(try with_reducible exact ti_)<;>(try simp (disch:=omega) only [qf,and_true,true_and])
    rw [← ha,qo (l:=n.kids) (i:=i) (by omega),hc,Bool.true_and]
   ·have hx:n.kids.all exW = true:=by rw [← ha,List.drop_of_length_le (by omega)];rfl
    clear ih;simp_all
theorem qki:qh Tryz.prog 120 [enc n] (.bool (biW n)):=by
 refine qe c0bk (by simp) (by simp only [go_sem]) rfl fun hw=>?_
 rw [qsq n]
 repeat' (first | refine vs_ ?_ | ((first | refine vr_ ?_ | refine qa (qek _) fun _=>?_ | refine qa (qbo _ _) fun _=>?_ | refine qa (ih _ (qg (by omega))) fun _=>?_ | (refine cs_ ?_ ?_<;>intro hc) | refine cj_ ?_ | simp (disch:=omega) only [qb,qf])<;>(try refine ev_ ?_)) | with_reducible exact ti_)
 all_goals clear ih
 all_goals first | (simp only [*,decide_true,decide_false,Bool.and_true,Bool.true_and,Bool.and_false,Bool.false_and,Bool.or_true,Bool.true_or,Bool.or_false,Bool.false_or,Bool.not_true,Bool.not_false,if_true,if_false,reduceIte,Int.reduceEq];done) | (simp_all [];done) | (simp_all [];omega)
theorem qml:qh Tryz.prog 176 [enc n] (.bool (alW n)):=by
 refine qe c0bl (by simp) (by simp only [go_sem]) rfl fun hw=>?_
 rw [qte n]
 repeat' (first | refine vs_ ?_ | ((first | refine vr_ ?_ | refine qa (qig _) fun _=>?_ | refine qa (qbo _ _) fun _=>?_ | refine qa (ih _ (qg (by omega))) fun _=>?_ | (refine cs_ ?_ ?_<;>intro hc) | refine cj_ ?_ | simp (disch:=omega) only [qb,qf])<;>(try refine ev_ ?_)) | with_reducible exact ti_)
 all_goals clear ih
 all_goals first | (simp only [*,decide_true,decide_false,Bool.and_true,Bool.true_and,Bool.and_false,Bool.false_and,Bool.or_true,Bool.true_or,Bool.or_false,Bool.false_or,Bool.not_true,Bool.not_false,if_true,if_false,reduceIte,Int.reduceEq];done) | (simp_all [];done) | (simp_all [];omega)

omit ih in
theorem qol {l:List N} {f:N->Bool} {k i:Nat} (hk:k≤l.length) (h:i < k):((l.take k).drop i).all f = (f (l.getD i N0) && ((l.take k).drop (i + 1)).all f):=by
 have hl:(l.take k).length = k:=by rw [List.length_take];omega
 rw [qo (by omega)]
 congr 2
 rw [List.getD_eq_getElem?_getD,List.getD_eq_getElem?_getD,List.getElem?_take_of_lt h]

theorem qqd (ihb:∀ x∈n.kids,qh Tryz.prog 120 [enc x] (.bool (biW x))):qh Tryz.prog 126 [enc n] (.bool (decide (n.text = []) && decide (n.num = 0) && decide (2≤(n.kids.length:Int)) && (n.kids.take ((n.kids.length:Int) - 1).toNat).all (fun x=>biW x || sgW x) && exW (n.kids.getD ((n.kids.length:Int) - 1).toNat N0))):=by
 refine qe c0bm (by simp) (by simp only [go_sem]) rfl fun hw=>?_
 have hkl:n.kids.length≤maxLen:=((qb9 n).1 hw.1).1
 repeat' (first | refine vs_ ?_ | ((first | refine vr_ ?_ | simp (disch:=omega) only [qvc] | (refine cs_ ?_ ?_<;>intro hc) | refine cj_ ?_ | simp (disch:=omega) only [qb,qf])<;>(try refine ev_ ?_)) | with_reducible exact ti_)
 ·clear ih ihb;simp_all
 ·clear ih ihb;simp_all
 ·clear ih ihb
  have h2:¬ (2≤(n.kids.length:Int)):=by omega
  simp [h2]
 ·rename_i h1 h2
  have hk2:2≤(n.kids.length:Int):=by omega
  have hk:((n.kids.length:Int) - 1).toNat≤n.kids.length:=by omega
  have hlt:(n.kids.take ((n.kids.length:Int) - 1).toNat).length = n.kids.length - 1:=by rw [List.length_take];omega
  have hfin:(decide (n.text = []) && decide (n.num = 0) && decide (2≤(n.kids.length:Int)) && (n.kids.take ((n.kids.length:Int) - 1).toNat).all (fun x=>biW x || sgW x) && exW (n.kids.getD ((n.kids.length:Int) - 1).toNat N0)) = ((n.kids.take ((n.kids.length:Int) - 1).toNat).all (fun x=>biW x || sgW x) && exW (n.kids.getD ((n.kids.length:Int) - 1).toNat N0)):=by
   rw [h1,h2];simp [hk2]
  refine qt (S:=Nat) (fun i=>i≤n.kids.length - 1∧((n.kids.take ((n.kids.length:Int) - 1).toNat).drop i).all (fun x=>biW x || sgW x) = (n.kids.take ((n.kids.length:Int) - 1).toNat).all (fun x=>biW x || sgW x)) (fun i=>(⟨[(1,.ptr 0 0),(3,.int .i64 ((n.kids.length:Int) - 1)),(4,.int .i64 i)],[]⟩,[.blk (nc n)])) (fun i=>n.kids.length - i) ?_ fun i hi=>?_
  ·refine qs 0 [0] ⟨Nat.zero_le _,rfl⟩ rfl (by simp) ?_ ?_ ?_<;>(try refine ev_ ?_)<;>(try with_reducible exact ti_)<;>(try simp (disch:=omega) only [qf,and_true,true_and])
  ·obtain ⟨hi,ha⟩:=hi
   rw [hfin]
   have hs:((i:Nat):Int) < (n.kids.length:Int) - 1->(n.kids.take ((n.kids.length:Int) - 1).toNat).all (fun x=>biW x || sgW x) = ((biW (n.kids.getD i N0) || sgW (n.kids.getD i N0)) && ((n.kids.take ((n.kids.length:Int) - 1).toNat).drop (i + 1)).all (fun x=>biW x || sgW x)):=fun h=>by
    rw [← ha,qol hk (by omega)]
   repeat' (first | refine vs_ ?_ | ((first | refine vr_ ?_ | refine qa (ihb _ (qg (by omega))) fun _=>?_ | refine qa (qh0 _) fun _=>?_ | refine qa (ih _ (qg (by omega))) fun _=>?_ | (refine cs_ ?_ ?_<;>intro hc) | refine cj_ ?_ | simp (disch:=omega) only [qb,qf])<;>(try refine ev_ ?_)) | with_reducible exact ti_)
   ·rename_i hcb _
    rw [hs (by omega),hcb,hc];rfl
   ·rename_i hcb _
    refine qs (i + 1) [0] ⟨⟨by omega,?_⟩,by omega⟩ rfl (by simp) ?_ ?_ ?_<;>(try refine ev_ ?_)<;>(try with_reducible exact ti_)<;>(try simp (disch:=omega) only [qf,and_true,true_and])
    rw [hs (by omega),hcb,hc];rfl
   ·refine qs (i + 1) [0] ⟨⟨by omega,?_⟩,by omega⟩ rfl (by simp) ?_ ?_ ?_<;>(try refine ev_ ?_)<;>(try with_reducible exact ti_)<;>(try simp (disch:=omega) only [qf,and_true,true_and])
    rw [hs (by omega),hc];rfl
   ·have hx:(n.kids.take ((n.kids.length:Int) - 1).toNat).all (fun x=>biW x || sgW x) = true:=by rw [← ha,List.drop_of_length_le (by omega)];rfl
    rw [hx,Bool.true_and]

theorem qmt (iha:∀ x∈n.kids,qh Tryz.prog 176 [enc x] (.bool (alW x))):qh Tryz.prog 127 [enc n] (.bool (decide (n.text = []) && decide (n.num = 0) && decide (2≤(n.kids.length:Int)) && exW (n.kids.getD 0 N0) && (n.kids.drop 1).all alW)):=by
 refine qe c0bn (by simp) (by simp only [go_sem]) rfl fun hw=>?_
 have hkl:n.kids.length≤maxLen:=((qb9 n).1 hw.1).1
 repeat' (first | refine vs_ ?_ | ((first | refine vr_ ?_ | refine qa (ih _ (qg (by omega))) fun _=>?_ | (refine cs_ ?_ ?_<;>intro hc) | refine cj_ ?_ | simp (disch:=omega) only [qb,qf])<;>(try refine ev_ ?_)) | with_reducible exact ti_)
 ·clear ih iha;simp_all
 ·clear ih iha;simp_all
 ·clear ih iha
  have h2:¬ (2≤(n.kids.length:Int)):=by omega
  simp [h2]
 ·clear ih iha;simp_all
 ·rename_i h1 h2 h3 _
  have hk2:2≤(n.kids.length:Int):=by omega
  have hfin:(decide (n.text = []) && decide (n.num = 0) && decide (2≤(n.kids.length:Int)) && exW (n.kids.getD 0 N0) && (n.kids.drop 1).all alW) = (n.kids.drop 1).all alW:=by
   rw [h1,h2,hc];simp [hk2]
  rw [hfin]
  refine qt (S:=Nat) (fun i=>1≤i∧i≤n.kids.length∧(n.kids.drop i).all alW = (n.kids.drop 1).all alW) (fun i=>(⟨[(1,.ptr 0 0),(3,.int .i64 i)],[]⟩,[.blk (nc n)])) (fun i=>n.kids.length - i) ?_ fun i hi=>?_
  ·refine qs 1 [0] ⟨Nat.le_refl _,by omega,rfl⟩ rfl (by simp) ?_ ?_ ?_<;>(try refine ev_ ?_)<;>(try with_reducible exact ti_)<;>(try simp (disch:=omega) only [qf,and_true,true_and])
  ·obtain ⟨hi1,hi,ha⟩:=hi
   repeat' (first | refine vs_ ?_ | ((first | refine vr_ ?_ | refine qa (iha _ (qg (by omega))) fun _=>?_ | (refine cs_ ?_ ?_<;>intro hc) | refine cj_ ?_ | simp (disch:=omega) only [qb,qf])<;>(try refine ev_ ?_)) | with_reducible exact ti_)
   ·rw [← ha,qo (by omega),hc];rfl
   ·refine qs (i + 1) [0] ⟨⟨by omega,by omega,?_⟩,by omega⟩ rfl (by simp) ?_ ?_ ?_<;>(try refine ev_ ?_)<;>(try with_reducible exact ti_)<;>(try simp (disch:=omega) only [qf,and_true,true_and])
    rw [← ha,qo (l:=n.kids) (i:=i) (by omega),hc,Bool.true_and]
   ·rw [← ha,List.drop_of_length_le (by omega)];rfl

theorem qi0 (ihb:∀ x∈n.kids,qh Tryz.prog 120 [enc x] (.bool (biW x))) (iha:∀ x∈n.kids,qh Tryz.prog 176 [enc x] (.bool (alW x))):qh Tryz.prog 79 [enc n] (.bool (exW n)):=by
 refine qe c0bo (by simp) (by simp only [go_sem]) rfl fun hw=>?_
 have hkl:n.kids.length≤maxLen:=((qb9 n).1 hw.1).1
 repeat' (first | refine vs_ ?_ | ((first | refine vr_ ?_ | refine qa (qek _) fun _=>?_ | refine qa (qcw _) fun _=>?_ | refine qa (qbo _ _) fun _=>?_ | refine qa (qo8 ih _) fun _=>?_ | refine qa (qqd ih ihb) fun _=>?_ | refine qa (qmt ih iha) fun _=>?_ | refine qa (ih _ (qg (by omega))) fun _=>?_ | (refine cs_ ?_ ?_<;>intro hc) | refine cj_ ?_ | simp (disch:=omega) only [qb,qf])<;>(try refine ev_ ?_)) | with_reducible exact ti_)
 all_goals clear ih ihb iha hw hkl
 all_goals rw [qs1 n]
 all_goals first | (simp only [*,decide_true,decide_false,Bool.and_true,Bool.true_and,Bool.and_false,Bool.false_and,Bool.or_true,Bool.true_or,Bool.or_false,Bool.false_or,Bool.not_true,Bool.not_false,if_true,if_false,reduceIte,Int.reduceEq];done) | (simp_all [];done) | (simp_all [];omega)
end

theorem qdi:∀ n,qh Tryz.prog 79 [enc n] (.bool (exW n))∧qh Tryz.prog 120 [enc n] (.bool (biW n))∧qh Tryz.prog 176 [enc n] (.bool (alW n)):=by
 refine N.ind fun n ih=>⟨?_,?_,?_⟩
 ·exact qi0 (fun x hx=>(ih x hx).1) (fun x hx=>(ih x hx).2.1) (fun x hx=>(ih x hx).2.2)
 ·exact qki fun x hx=>(ih x hx).1
 ·exact qml fun x hx=>(ih x hx).1
set_option maxRecDepth 4000

def vaW (n:N):Bool:=decide (n.kind = 1) && tyW n
theorem qdx (n:N):qh Tryz.prog 110 [enc n] (.bool (vaW n)):=by
 refine qe c0bc (by simp) (by simp only [go_sem]) rfl fun hw=>?_
 repeat' (first | refine vs_ ?_ | ((first | refine vr_ ?_ | refine qa (qbp _) fun _=>?_ | (refine cs_ ?_ ?_<;>intro hc) | refine cj_ ?_ | fail)<;>(try refine ev_ ?_)) | with_reducible exact ti_)
 all_goals first | (simp only [vaW, *,decide_true,decide_false,Bool.and_true,Bool.true_and,Bool.and_false,Bool.false_and,Bool.or_true,Bool.true_or,Bool.or_false,Bool.false_or,Bool.not_true,Bool.not_false,if_true,if_false,reduceIte,Int.reduceEq];done) | (simp_all [vaW];done) | (simp_all [vaW];omega)
def cnW (n:N):Bool:=decide (n.kind = 34) && qcn n conW && n.kids.all tyW
theorem qdw (n:N):qh Tryz.prog 111 [enc n] (.bool (cnW n)):=by
 refine qe c0bd (by simp) (by simp only [go_sem]) rfl fun hw=>?_
 repeat' (first | refine vs_ ?_ | ((first | refine vr_ ?_ | refine qa (qbk qc0 _) fun _=>?_ | refine qa (qr fun x _=>qbp x) fun _=>?_ | (refine cs_ ?_ ?_<;>intro hc) | refine cj_ ?_ | fail)<;>(try refine ev_ ?_)) | with_reducible exact ti_)
 all_goals first | (simp only [cnW, *,decide_true,decide_false,Bool.and_true,Bool.true_and,Bool.and_false,Bool.false_and,Bool.or_true,Bool.true_or,Bool.or_false,Bool.false_or,Bool.not_true,Bool.not_false,if_true,if_false,reduceIte,Int.reduceEq];done) | (simp_all [cnW];done) | (simp_all [cnW];omega)
def deW (n:N):Bool :=
 if n.kind = 31 then biW n else if n.kind = 32 then sgW n
 else conW n.text && !decide (n.num < 0) && !decide ((n.kids.length:Int)≤n.num) &&
  (if n.kind = 33 then (n.kids.take n.num.toNat).all vaW && cnW (n.kids.getD n.num.toNat N0) && (n.kids.drop (n.num + 1).toNat).all cnW
   else if n.kind = 35 then (n.kids.take n.num.toNat).all prW && vaW (n.kids.getD n.num.toNat N0) && (n.kids.drop (n.num + 1).toNat).all sgW
   else if n.kind = 36 then (n.kids.take n.num.toNat).all prW && tyW (n.kids.getD n.num.toNat N0) && (n.kids.drop (n.num + 1).toNat).all biW
   else false)
theorem qgt (n:N):qh Tryz.prog 69 [enc n] (.bool (deW n)):=by
 refine qe c0be (by simp) (by simp only [go_sem]) rfl fun hw=>?_
 have hkl:n.kids.length≤maxLen:=((qb9 n).1 hw.1).1
 repeat' (first | refine vs_ ?_ | ((first | refine vr_ ?_ | fail)<;>(try simp (disch:=first | omega | (simp only [List.length_set,List.length_append,List.length_cons,List.length_nil];done) | (simp only [List.length_set,List.length_append,List.length_cons,List.length_nil];omega)) only [qb,qf0,go_sem,↓reduceIte])) | ((first | (refine cs_ ?_ ?_<;>intro hc) | refine cj_ ?_ | simp (disch:=omega) only [qb,qf] | refine qa (qdf n).2.1 fun _=>?_ | refine qa (qcv n) fun _=>?_ | refine qa (qc0 _) fun _=>?_ | refine qa (qr fun x _=>qdx x) fun _=>?_ | refine qa (qr fun x _=>qeg x) fun _=>?_ | refine qa (qr fun x _=>qdw x) fun _=>?_ | refine qa (qr fun x _=>qcv x) fun _=>?_ | refine qa (qr (f:=biW) fun x _=>(qdf x).2.1) fun _=>?_ | refine qa (qdw _) fun _=>?_ | refine qa (qdx _) fun _=>?_ | refine qa (qbp _) fun _=>?_ | refine qc (qdf n).2.1 ?_ | refine qc (qcv n) ?_ | refine qc (qc0 _) ?_ | refine qc (qr fun x _=>qdx x) ?_ | refine qc (qr fun x _=>qeg x) ?_ | refine qc (qr fun x _=>qdw x) ?_ | refine qc (qr fun x _=>qcv x) ?_ | refine qc (qr (f:=biW) fun x _=>(qdf x).2.1) ?_ | refine qc (qdw _) ?_ | refine qc (qdx _) ?_ | refine qc (qbp _) ?_)<;>(try refine ev_ ?_)) | with_reducible exact ti_)
 all_goals clear hw hkl
 all_goals simp only [deW]
 all_goals first | (simp only [*,decide_true,decide_false,Bool.and_true,Bool.true_and,Bool.and_false,Bool.false_and,Bool.or_true,Bool.true_or,Bool.or_false,Bool.false_or,Bool.not_true,Bool.not_false,if_true,if_false,reduceIte,Int.reduceEq];done) | (simp_all [];done) | (simp_all [];omega)

theorem qpe (n:N):qh Tryz.prog 21 [enc n] (.bool (lowW n && tyW n)):=by
 refine qe c0bf (by simp) (by simp only [go_sem]) rfl fun hw=>?_
 repeat' (first | refine vs_ ?_ | ((first | refine vr_ ?_ | refine qa (qfl _) fun _=>?_ | refine qa (qbp _) fun _=>?_ | (refine cs_ ?_ ?_<;>intro hc) | refine cj_ ?_ | fail)<;>(try refine ev_ ?_)) | with_reducible exact ti_)
 all_goals first | (simp only [*,decide_true,decide_false,Bool.and_true,Bool.true_and,Bool.and_false,Bool.false_and,Bool.or_true,Bool.true_or,Bool.or_false,Bool.false_or,Bool.not_true,Bool.not_false,if_true,if_false,reduceIte,Int.reduceEq];done) | (simp_all [];done) | (simp_all [];omega)
theorem qr9 (n:N):qh Tryz.prog 24 [enc n] (.bool (lowW n && paW n)):=by
 refine qe c0bg (by simp) (by simp only [go_sem]) rfl fun hw=>?_
 repeat' (first | refine vs_ ?_ | ((first | refine vr_ ?_ | refine qa (qfl _) fun _=>?_ | refine qa (qik _) fun _=>?_ | (refine cs_ ?_ ?_<;>intro hc) | refine cj_ ?_ | fail)<;>(try refine ev_ ?_)) | with_reducible exact ti_)
 all_goals first | (simp only [*,decide_true,decide_false,Bool.and_true,Bool.true_and,Bool.and_false,Bool.false_and,Bool.or_true,Bool.true_or,Bool.or_false,Bool.false_or,Bool.not_true,Bool.not_false,if_true,if_false,reduceIte,Int.reduceEq];done) | (simp_all [];done) | (simp_all [];omega)
theorem qtr (n:N):qh Tryz.prog 26 [enc n] (.bool (lowW n && exW n)):=by
 refine qe c0bh (by simp) (by simp only [go_sem]) rfl fun hw=>?_
 repeat' (first | refine vs_ ?_ | ((first | refine vr_ ?_ | refine qa (qfl _) fun _=>?_ | refine qa (qdf _).1 fun _=>?_ | refine qc (qdf _).1 ?_ | (refine cs_ ?_ ?_<;>intro hc) | refine cj_ ?_ | fail)<;>(try refine ev_ ?_)) | with_reducible exact ti_)
 all_goals first | (simp only [*,decide_true,decide_false,Bool.and_true,Bool.true_and,Bool.and_false,Bool.false_and,Bool.or_true,Bool.true_or,Bool.or_false,Bool.false_or,Bool.not_true,Bool.not_false,if_true,if_false,reduceIte,Int.reduceEq];done) | (simp_all [];done) | (simp_all [];omega)
def qcz (n:N):Bool:=if n.kind = 37 then lowW n && qe7 n && n.kids.all deW else lowW n && deW n
theorem qgi (n:N):qh Tryz.prog 30 [enc n] (.bool (qcz n)):=by
 refine qe c0bi (by simp) (by simp only [go_sem]) rfl fun hw=>?_
 repeat' (first | refine vs_ ?_ | ((first | refine vr_ ?_ | refine qa (qfl _) fun _=>?_ | refine qa (qdg _) fun _=>?_ | refine qa (qgt _) fun _=>?_ | refine qa (qr fun x _=>qgt x) fun _=>?_ | (refine cs_ ?_ ?_<;>intro hc) | refine cj_ ?_ | fail)<;>(try refine ev_ ?_)) | with_reducible exact ti_)
 all_goals first | (simp only [qcz, *,decide_true,decide_false,Bool.and_true,Bool.true_and,Bool.and_false,Bool.false_and,Bool.or_true,Bool.true_or,Bool.or_false,Bool.false_or,Bool.not_true,Bool.not_false,if_true,if_false,reduceIte,Int.reduceEq];done) | (simp_all [qcz];done) | (simp_all [qcz];omega)

mutual
def sz:N->Nat
 | .mk _ _ _ _ ks=>szs ks + 1
def szs:List N->Nat
 | []=>0
 | x :: r=>sz x + szs r
end
mutual
def dp:N->Nat
 | .mk _ _ _ _ ks=>dps ks + 1
def dps:List N->Nat
 | []=>0
 | x :: r=>max (dp x) (dps r)
end
theorem qfa (n:N):sz n = szs n.kids + 1:=by cases n;rw [sz];rfl
theorem qbb5 (n:N):dp n = dps n.kids + 1:=by cases n;rw [dp];rfl
theorem qz4 (n:N):1≤sz n:=by rw [qfa];omega
theorem qs7:∀ l:List N,l.length≤szs l
 | []=>Nat.le_refl _
 | x :: r=>by have:=qs7 r;have:=qz4 x;simp only [szs,List.length_cons];omega
theorem qm3:∀ {l:List N} {x:N},x∈l->sz x≤szs l
 | y :: r, x, h => by
   simp only [szs]
   rcases List.mem_cons.1 h with rfl | h
   ·omega
   ·have:=qm3 h;omega
theorem qm9:∀ {l:List N},(∀ x∈l,dp x≤sz x)->dps l≤szs l
 | [],_=>Nat.le_refl _
 | x :: r, h => by
   have h1:=h x (by simp)
   have h2:=qm9 (l:=r) fun y hy=>h y (by simp [hy])
   simp only [dps,szs];omega
theorem qbky:∀ n,dp n≤sz n:=N.ind fun n ih=>by rw [qbb5,qfa];have:=qm9 ih;omega

theorem qit {z:Int} (h0:-1≤z) (h1:z≤1000000000):IntKind.i64.wrap z = z:=by
 simp [IntKind.wrap,IntKind.signed,IntKind.bits]
 omega

theorem qus:∀ n k,0≤k->k≤1000000->-1≤cntW n k∧cntW n k≤k∧(0≤cntW n k->cntW n k = k - sz n):=by
 refine N.ind fun n ih k h0 h1=>?_
 rw [qsp,qit (by omega) (by omega),qfa]
 have key:∀ (l:List N),(∀ x∈l,∀ k,0≤k->k≤1000000->-1≤cntW x k∧cntW x k≤k∧(0≤cntW x k->cntW x k = k - sz x))->∀ a:Int,-1≤a->a≤1000000->-1≤qgb a l∧qgb a l≤a∧(0≤qgb a l->qgb a l = a - szs l):=by
  intro l
  induction l with
  | nil=>intro _ a h0 h1;simp only [qgb,szs];omega
  | cons x r ihr =>
    intro hx a h0 h1
    simp only [qgb,szs]
    split
    ·obtain ⟨q1,q2,q3⟩:=hx x (by simp) a (by omega) (by omega)
     obtain ⟨r1,r2,r3⟩:=ihr (fun y hy=>hx y (by simp [hy])) (cntW x a) (by omega) (by omega)
     refine ⟨by omega,by omega,fun h=>?_⟩
     have:=r3 h
     have:=q3 (by omega)
     omega
    ·exact ⟨by omega,by omega,fun h=>by omega⟩
 obtain ⟨q1,q2,q3⟩:=key n.kids ih (k - 1) (by omega) (by omega)
 exact ⟨by omega,by omega,fun h=>by have:=q3 h;omega⟩
theorem qbi4 {n:N} (h:fewW n = true):sz n≤3000:=by
 simp only [fewW,decide_eq_true_eq] at h
 obtain ⟨_,q2,q3⟩:=qus n 3000 (by omega) (by omega)
 have:=q3 h
 omega
theorem qvs:∀ n,sz n≤1000000->qmr n = sz n:=N.ind fun n ih h=>by
 rw [qvd,qfa]
 rw [qfa] at h
 have key:∀ (l:List N),(∀ x∈l,sz x≤1000000->qmr x = sz x)->∀ a:Int,1≤a->a + szs l≤1000001->qjf a l = a + szs l:=by
  intro l
  induction l with
  | nil=>intro _ a h0 h1;simp [qjf,szs]
  | cons x r ihr =>
    intro hx a h0 h1
    simp only [qjf,szs] at h1 ⊢
    rw [hx x (by simp) (by omega),qit (by omega) (by omega),ihr (fun y hy=>hx y (by simp [hy])) _ (by omega) (by omega)]
    omega
 rw [key n.kids ih 1 (by omega) (by omega)]
 omega
def szF:Int->Int->N->Int×Bool:=fun k _ _=>(IntKind.i64.wrap (k + 1),true)
theorem q9w:∀ n l (s:Int),0≤s->s + sz n≤2000000->qbu szF n l s = (s + sz n,true):=N.ind fun n ih l s h0 h1=>by
 rw [qep,qfa]
 rw [qfa] at h1
 simp only [szF,if_true]
 have key:∀ (r:List N),(∀ x∈r,∀ l (s:Int),0≤s->s + sz x≤2000000->qbu szF x l s = (s + sz x,true))->∀ l (s:Int),0≤s->s + szs r≤2000000->qb6 szF l r s = (s + szs r,true):=by
  intro r
  induction r with
  | nil=>intro _ l s _ _;simp [qb6,szs]
  | cons x r ihr =>
    intro hx l s h0 h1
    simp only [qb6,szs] at h1 ⊢
    rw [hx x (by simp) _ _ h0 (by omega),if_pos rfl,ihr (fun y hy=>hx y (by simp [hy])) _ _ (by omega) (by omega)]
    simp only [Prod.mk.injEq,and_true];omega
 have:=key n.kids ih (IntKind.i64.wrap (l + 1)) (IntKind.i64.wrap (s + 1)) (by rw [qit (by omega) (by omega)];omega) (by rw [qit (by omega) (by omega)];omega)
 rw [this,qit (by omega) (by omega)]
 simp only [Prod.mk.injEq,and_true];omega
theorem qbku {n:N} (h:sz n≤3000):(qbu (fun (k:Int) _ _=>(IntKind.i64.wrap (k + 1),true)) n 1 0).1 = qmr n:=by
 show (qbu szF n 1 0).1 = qmr n
 rw [q9w n 1 0 (by omega) (by omega),qvs n (by omega)];simp

theorem q72:∀ n,sz n≤1000000->depR n = dp n:=N.ind fun n ih h=>by
 rw [qsh,qbb5]
 rw [qfa] at h
 have key:∀ (l:List N),(∀ x∈l,sz x≤1000000->depR x = dp x)->szs l≤1000000->∀ a:Int,0≤a->ql8 a l = max a (dps l):=by
  intro l
  induction l with
  | nil=>intro _ _ a h0;simp [ql8,dps];omega
  | cons x r ihr =>
    intro hx hs a h0
    simp only [szs] at hs
    simp only [ql8,dps]
    rw [hx x (by simp) (by omega)]
    have:=ihr (fun y hy=>hx y (by simp [hy])) (by omega)
    split
    ·rw [this _ (by omega)];omega
    ·rw [this _ (by omega)];omega
 have hd:=qm9 (l:=n.kids) fun x _=>qbky x
 rw [key n.kids ih (by omega) 0 (by omega),qit (by omega) (by omega)]
 omega
theorem qx0:∀ n (l:Int) (s:Bool),0≤l->l + sz n≤2000000->(qbu lowF n l s).2 = decide (l + dp n - 1≤100):=N.ind fun n ih l s h0 h1=>by
 rw [qep,qbb5]
 rw [qfa] at h1
 have key:∀ (r:List N),(∀ x∈r,∀ (l:Int) (s:Bool),0≤l->l + sz x≤2000000->(qbu lowF x l s).2 = decide (l + dp x - 1≤100))->∀ (l:Int) (s:Bool),0≤l->l + szs r≤2000000->l - 1≤100->(qb6 lowF l r s).2 = decide (l + dps r - 1≤100):=by
  intro r
  induction r with
  | nil=>intro _ l s _ _ h;simp only [qb6,dps];symm;simp;omega
  | cons x r ihr =>
    intro hx l s h0 h1 h2
    simp only [szs] at h1
    simp only [qb6,dps]
    rw [hx x (by simp) _ _ h0 (by omega)]
    split
    ·rename_i h3
     simp only [decide_eq_true_eq] at h3
     rw [ihr (fun y hy=>hx y (by simp [hy])) _ _ (by omega) (by omega) (by omega)]
     congr 1;simp only [eq_iff_iff];omega
    ·rename_i h3
     simp only [decide_eq_true_eq] at h3
     exact (decide_eq_false (by omega)).symm
 by_cases h2:(100:Int) < l
 ·simp only [lowF,h2,decide_true,Bool.not_true,Bool.false_eq_true,if_false]
  exact (decide_eq_false (by omega)).symm
 ·simp only [lowF,h2,decide_false,Bool.not_false,if_true]
  rw [key n.kids ih _ _ (by rw [qit (by omega) (by omega)];omega) (by rw [qit (by omega) (by omega)];omega) (by rw [qit (by omega) (by omega)];omega),qit (by omega) (by omega)]
  congr 1;simp only [eq_iff_iff];omega
set_option maxRecDepth 4000

def qbk9 (p:Int×Int):AV:=.tup [.int .i64 p.1,.int .i64 p.2]
end Go.Proofs.YtlmcofjcpadmiaaGreat
