/- Texts of this proof, joined. -/
import Derived.Test.YtlmcofjcpadmiaaGreatNan
import Derived.Test.YtlmcofjcpadmiaaGreatNaj
set_option linter.unusedVariables false
set_option linter.unusedSimpArgs false

/- trees: low, each, bare, named, plain -/
set_option maxRecDepth 4000
namespace Go.Proofs.YtlmcofjcpadmiaaGreat
open Go Go.RowKit Go.V

theorem qiu (l:List N) (i:Nat):(encs l).take i = encs (l.take i):=by rw [qfr,qfr,List.map_take]
theorem qhv (l:List N) (i:Nat):(encs l).drop i = encs (l.drop i):=by rw [qfr,qfr,List.map_drop]
attribute [go_sem] qiu qhv
def qmt (n:N):Bool:=decide (n.text = []) && decide (n.num = 0)
theorem qi7 (n:N):qx Tryz.prog 67 [enc n] (.bool (qmt n)):=by
 refine qn c0bv (by simp) (by simp only [go_sem]) rfl fun hw=>?_
 repeat' (first | refine vs_ ?_ | ((first | refine vr_ ?_ | (refine cs_ ?_ ?_<;>intro hc) | refine cj_ ?_ | fail)<;>(try refine ev_ ?_)) | with_reducible exact ti_)
 all_goals simp_all [qmt]
def qhy (n:N) (f:List UInt8->Bool):Bool:=decide (n.num = 0) && f n.text
theorem qd1 {so:FuncId} {f:List UInt8->Bool} (h:∀ l,qx Tryz.prog so [.str l] (.bool (f l))) (n:N):qx Tryz.prog 89 [enc n,.fn so [] []] (.bool (qhy n f)):=by
 refine qn c0bw (by simp) (by simp only [go_sem]) rfl fun hw=>?_
 repeat' (first | refine vs_ ?_ | ((first | refine vr_ ?_ | refine qa (h _) fun _=>?_ | (refine cs_ ?_ ?_<;>intro hc) | refine cj_ ?_ | fail)<;>(try refine ev_ ?_)) | with_reducible exact ti_)
 all_goals simp_all [qhy]
theorem q1n {l:List N} {f:N->Bool} {i:Nat} (h:i < l.length):(l.drop i).all f = (f (l.getD i N0) && (l.drop (i + 1)).all f):=by
 rw [q7w h,List.all_cons]

theorem qce {so:FuncId} {f:N->Bool} {l:List N} (h:∀ x∈l,qx Tryz.prog so [enc x] (.bool (f x))):qx Tryz.prog 68 [.sl 5 (encs l),.fn so [] []] (.bool (l.all f)):=by
 refine qn c0bx (by simp) (by simp only [go_sem]) rfl fun hw=>?_
 have hkl:l.length≤maxLen:=by have:=hw.1.1;rwa [qbc] at this
 repeat' (first | refine vs_ ?_ | ((first | refine vr_ ?_ | (refine cs_ ?_ ?_<;>intro hc) | refine cj_ ?_ | simp (disch:=omega) only [qc,qs])<;>(try refine ev_ ?_)) | with_reducible exact ti_)
 refine qcm (S:=Nat) (fun i=>i≤l.length∧(l.drop i).all f = l.all f) (fun i=>(⟨[(1,.fn so [] []),(7,.sl 5 (encs l)),(8,.int .i64 l.length),(9,.int .i64 i)],[]⟩,[])) (fun i=>l.length - i) ?_ fun i hi=>?_
 ·refine qb1 0 [] ⟨Nat.zero_le _,rfl⟩ rfl (by simp) ?_ ?_ ?_<;>(try refine ev_ ?_)<;>(try with_reducible exact ti_)<;>(try simp (disch:=omega) only [qs,and_true,true_and])
 ·obtain ⟨hi,ha⟩:=hi
  repeat' (first | refine vs_ ?_ | ((first | refine vr_ ?_ | refine qa (h _ (qi (by omega))) fun _=>?_ | (refine cs_ ?_ ?_<;>intro hc) | refine cj_ ?_ | simp (disch:=omega) only [qc,qs])<;>(try refine ev_ ?_)) | with_reducible exact ti_)
  ·rw [← ha,q1n (by omega),hc];rfl
  ·refine qb1 (i + 1) [] ⟨⟨by omega,?_⟩,by omega⟩ rfl (by simp) ?_ ?_ ?_<;>(try refine ev_ ?_)<;>(try with_reducible exact ti_)<;>(try simp (disch:=omega) only [qs,and_true,true_and])
   rw [← ha,q1n (l:=l) (i:=i) (by omega),hc,Bool.true_and]
  ·rw [← ha,List.drop_of_length_le (by omega)];rfl

/-! low -/
def yLow (n:N) (fn:FuncId) (asn bd:Code) (ha:qdf Tryz.prog 10 asn = some qbfi) (hb:qdf Tryz.prog 10 bd = some qbex):Yld Bool where
 m:=5
 hs:=fun b=>[.blk (nc n),.blk [.bool false],.blk (nc n),.blk [.int .i64 1],.lp (if b then ⟨.done,some .ret,fn,[6,7].toArray,asn,bd⟩ else ⟨.ready,none,fn,[6,7].toArray,asn,bd⟩) (ql6 10 [(5,.fn 140 [] [.ptr 2 0,.ptr 3 0]),(4,enc n),(2,.ptr 1 0),(1,.ptr 0 0),(0,enc n)])]
 i:=4
 step:=fun k l _=>(decide (100 < l),!decide (100 < l))
 len:=fun _=>rfl
 bd:=fun k=>by cases k<;>(refine ev_ ?_;(try with_reducible exact ti_))
 lt:=by omega
 live:=fun b=>b = false
 keep:=fun s l n _ h=>by simpa using h
 app:=fun k l x hk=>by
  subst hk
  refine qv2 (k:=5) rfl rfl qru ha hb (by simp) (by simp) (by simp) fun lp=>?_
  repeat' (first | refine vs_ ?_ | ((first | refine vr_ ?_ | (refine cs_ ?_ ?_<;>intro hc) | refine cj_ ?_ | simp (disch:=omega) only [qc,qs])<;>(try refine ev_ ?_)) | with_reducible exact ti_)

def lowF:Bool->Int->N->Bool×Bool:=fun _ l _=>(decide (100 < l),!decide (100 < l))
def lowW (n:N):Bool:=(qeb lowF n 1 false).2
theorem qbqt:∀ n l s,(qeb lowF n l s).1 = !(qeb lowF n l s).2:=by
 refine N.ind fun n ih l s=>?_
 rw [qji]
 split
 ·rename_i h
  have key:∀ (r:List N),(∀ x∈r,∀ l s,(qeb lowF x l s).1 = !(qeb lowF x l s).2)->∀ (l:Int) (s:Bool),s = false->(qe3 lowF l r s).1 = !(qe3 lowF l r s).2:=by
   intro r
   induction r with
   | nil=>intro _ l s hs;subst hs;rfl
   | cons x r ihr =>
     intro hx l s hs
     rw [qe3]
     split
     ·rename_i h3
      exact ihr (fun x hx'=>hx x (by simp [hx'])) l _ (by rw [hx x (by simp),h3];rfl)
     ·rename_i h3
      simp only [Bool.not_eq_true] at h3
      rw [hx x (by simp),h3]
  exact key _ ih _ _ (by simpa [lowF] using h)
 ·rename_i h
  simpa [lowF] using h

theorem qn8 (n:N):qx Tryz.prog 47 [enc n] (.bool (lowW n)):=by
 refine qn c0by (by simp) (by simp only [go_sem]) rfl fun hw=>?_
 repeat' (first | refine vs_ ?_ | ((first | refine vr_ ?_ | (refine cs_ ?_ ?_<;>intro hc) | refine cj_ ?_ | fail)<;>(try refine ev_ ?_)) | with_reducible exact ti_)
 refine qx1 (qce7 n 1) (by simp only [go_sem]) ?_
 rintro H1 o ⟨rfl,rfl⟩
 (refine ev_ ?_;(try with_reducible exact ti_))
 refine qwk (qbe5 rfl (Nat.zero_le _) fun fn asn bd ha hb=>?_)
 refine VCalls.mono (qci3 (yLow n fn asn bd ha hb) (n:=n) (l:=1) (s:=false) (p:=2) (q:=3) rfl rfl rfl) ?_
 rintro H1 o ⟨rfl,rfl⟩
 have hlow:=qbqt n 1 false
 rw [show qeb (yLow n fn asn bd ha hb).step n 1 false = qeb lowF n 1 false from rfl,lowW]
 generalize qeb lowF n 1 false = pq at hlow ⊢
 obtain ⟨p,q⟩:=pq
 simp only at hlow
 subst hlow
 cases q
 ·simp only [yLow,Bool.not_false,go_sem,↓reduceIte]
 ·simp only [yLow,Bool.not_true,go_sem,↓reduceIte]
  repeat' (first | refine vs_ ?_ | ((first | refine vr_ ?_ | (refine cs_ ?_ ?_<;>intro hc) | refine cj_ ?_ | fail)<;>(try refine ev_ ?_)) | with_reducible exact ti_)
set_option maxRecDepth 4000

theorem qcei {i:Nat} (h:i≤maxLen):IntKind.i64.wrap ((i:Int) - 1) = (i:Int) - 1:=by
 unfold maxLen at h
 simp [IntKind.wrap,IntKind.signed,IntKind.bits]
 omega
mutual
def tyW:N->Bool
 | .mk k _ n t ks => if k = 1 then decide (n = 0) && varW t && decide ((ks.length : Int) = 0)
   else if k = 2∧n = 0 then (if t = [45,62] then decide ((ks.length:Int) = 2) else conW t) && tysW ks else false
def tysW:List N->Bool
 | []=>true
 | x :: r=>tyW x && tysW r
end
theorem q5s (l:List N):tysW l = l.all tyW:=by
 induction l with
 | nil=>rfl
 | cons x r ih=>rw [tysW,ih];rfl
theorem q0e (n:N):tyW n = if n.kind = 1 then decide (n.num = 0) && varW n.text && decide ((n.kids.length:Int) = 0)
 else if n.kind = 2∧n.num = 0 then (if n.text = [45,62] then decide ((n.kids.length:Int) = 2) else conW n.text) && n.kids.all tyW else false:=by
 rw [← q5s];cases n;rw [tyW];rfl

theorem qep:∀ n,qx Tryz.prog 48 [enc n] (.bool (tyW n)):=by
 refine N.ind fun n ih=>?_
 refine qn c0bq (by simp) (by simp only [go_sem]) rfl fun hw=>?_
 rw [q0e]
 repeat' (first | refine vs_ ?_ | ((first | refine vr_ ?_ | refine qa (qd1 qk4 _) fun _=>?_ | refine qa (qce ih) fun _=>?_ | refine qa (qgn _) fun _=>?_ | (refine cs_ ?_ ?_<;>intro hc) | refine cj_ ?_ | fail)<;>(try refine ev_ ?_)) | with_reducible exact ti_)
 all_goals simp_all [qhy]

theorem qbam:conW [45,62] = false:=by decide
theorem qci1 {t:List UInt8} (h:conW t = true):¬ t = [45,62]:=fun e=>by rw [e,qbam] at h;cases h
/-! patterns -/
mutual
def paW:N->Bool
 | .mk k _ n t ks => if k = 11 then decide (n = 0) && varW t && decide ((ks.length : Int) = 0)
   else if k = 12 then decide (t = []) && decide (n = 0) && decide ((ks.length:Int) = 0)
   else if k = 13 then decide (t = []) && decide (0≤n) && decide ((ks.length:Int) = 0)
   else if k = 14 then decide (n = 0) && conW t && pasW ks else false
def pasW:List N->Bool
 | []=>true
 | x :: r=>paW x && pasW r
end
theorem q4a (l:List N):pasW l = l.all paW:=by
 induction l with
 | nil=>rfl
 | cons x r ih=>rw [pasW,ih];rfl
theorem qbpu (n:N):paW n = if n.kind = 11 then decide (n.num = 0) && varW n.text && decide ((n.kids.length:Int) = 0)
 else if n.kind = 12 then decide (n.text = []) && decide (n.num = 0) && decide ((n.kids.length:Int) = 0)
 else if n.kind = 13 then decide (n.text = []) && decide (0≤n.num) && decide ((n.kids.length:Int) = 0)
 else if n.kind = 14 then decide (n.num = 0) && conW n.text && n.kids.all paW else false:=by
 rw [← q4a];cases n;rw [paW];rfl
theorem qts:∀ n,qx Tryz.prog 51 [enc n] (.bool (paW n)):=by
 refine N.ind fun n ih=>?_
 refine qn c0br (by simp) (by simp only [go_sem]) rfl fun hw=>?_
 rw [qbpu]
 repeat' (first | refine vs_ ?_ | ((first | refine vr_ ?_ | refine qa (qd1 qk4 _) fun _=>?_ | refine qa (qd1 qgn _) fun _=>?_ | refine qa (qce ih) fun _=>?_ | refine qa (qi7 _) fun _=>?_ | (refine cs_ ?_ ?_<;>intro hc) | refine cj_ ?_ | fail)<;>(try refine ev_ ?_)) | with_reducible exact ti_)
 all_goals simp_all [qhy,qmt]
/-! predicates, contexts, signatures -/
def prW (n:N):Bool:=decide (n.kind = 3) && decide (n.num = 0) && conW n.text && decide ((n.kids.length:Int) = 1) && tyW (n.kids.getD 0 N0)
theorem qla (n:N):qx Tryz.prog 112 [enc n] (.bool (prW n)):=by
 refine qn c0bs (by simp) (by simp only [go_sem]) rfl fun hw=>?_
 repeat' (first | refine vs_ ?_ | ((first | refine vr_ ?_ | refine qa (qd1 qgn _) fun _=>?_ | refine qa (qep _) fun _=>?_ | (refine cs_ ?_ ?_<;>intro hc) | refine cj_ ?_ | simp (disch:=omega) only [qc,qs])<;>(try refine ev_ ?_)) | with_reducible exact ti_)
 all_goals simp_all [qhy,prW]
def quW (n:N):Bool:=decide (n.kind = 4) && qmt n && decide (0≤(n.kids.length:Int) - 1) && (n.kids.take ((n.kids.length:Int) - 1).toNat).all prW && tyW (n.kids.getD ((n.kids.length:Int) - 1).toNat N0)
theorem q1u (n:N):qx Tryz.prog 157 [enc n] (.bool (quW n)):=by
 refine qn c0bt (by simp) (by simp only [go_sem]) rfl fun hw=>?_
 have hkl:n.kids.length≤maxLen:=((qmg n).1 hw.1).1
 repeat' (first | refine vs_ ?_ | ((first | refine vr_ ?_ | refine qa (qi7 _) fun _=>?_ | refine qa (qce fun x _=>qla x) fun _=>?_ | refine qa (qep _) fun _=>?_ | simp (disch:=omega) only [qcei] | (refine cs_ ?_ ?_<;>intro hc) | refine cj_ ?_ | simp (disch:=omega) only [qc,qs])<;>(try refine ev_ ?_)) | with_reducible exact ti_)
 all_goals first | (simp only [quW, *,decide_true,decide_false,Bool.and_true,Bool.true_and,Bool.and_false,Bool.false_and,Bool.or_true,Bool.true_or,Bool.or_false,Bool.false_or,Bool.not_true,Bool.not_false,if_true,if_false,reduceIte,Int.reduceEq];done) | (simp_all [quW];done) | (simp_all [quW];omega)
def sgW (n:N):Bool:=decide (n.kind = 32) && decide (n.num = 0) && varW n.text && decide ((n.kids.length:Int) = 1) && quW (n.kids.getD 0 N0)
theorem qht (n:N):qx Tryz.prog 101 [enc n] (.bool (sgW n)):=by
 refine qn c0bu (by simp) (by simp only [go_sem]) rfl fun hw=>?_
 repeat' (first | refine vs_ ?_ | ((first | refine vr_ ?_ | refine qa (qd1 qk4 _) fun _=>?_ | refine qa (q1u _) fun _=>?_ | (refine cs_ ?_ ?_<;>intro hc) | refine cj_ ?_ | simp (disch:=omega) only [qc,qs])<;>(try refine ev_ ?_)) | with_reducible exact ti_)
 all_goals first | (simp only [qhy,sgW, *,decide_true,decide_false,Bool.and_true,Bool.true_and,Bool.and_false,Bool.false_and,Bool.or_true,Bool.true_or,Bool.or_false,Bool.false_or,Bool.not_true,Bool.not_false,if_true,if_false,reduceIte,Int.reduceEq];done) | (simp_all [qhy,sgW];done) | (simp_all [qhy,sgW];omega)
set_option maxRecDepth 4000

abbrev T3:=Bool×Bool×Bool
def d3:T3×N:=((false,false,false),N0)
mutual
def eba:N->T3
 | .mk k _ n t ks =>
   let l:=(ebas ks).zip ks
   (if k = 21 then decide (n = 0) && varW t && decide ((ks.length : Int) = 0)
    else if k = 22 then decide (n = 0) && conW t && decide ((ks.length:Int) = 0)
    else if k = 23 then decide (t = []) && decide (0≤n) && decide ((ks.length:Int) = 0)
    else if k = 24 then decide (t = []) && decide (n = 0) && decide ((ks.length:Int) = 2) && l.all (·.1.1)
    else if k = 25 then decide (n = 0) && varW t && decide ((ks.length:Int) = 1) && (l.getD 0 d3).1.1
    else if k = 26 then decide (t = []) && decide (n = 0) && decide (2≤(ks.length:Int)) && (l.take ((ks.length:Int) - 1).toNat).all (fun p=>p.1.2.1 || sgW p.2) && (l.getD ((ks.length:Int) - 1).toNat d3).1.1
    else if k = 27 then decide (t = []) && decide (n = 0) && decide (2≤(ks.length:Int)) && (l.getD 0 d3).1.1 && (l.drop 1).all (·.1.2.2)
    else if k = 28 then decide (t = []) && decide (n = 0) && decide ((ks.length:Int) = 3) && l.all (·.1.1)
    else false,
    decide (k = 31) && decide (n = 0) && varW t && decide ((ks.length:Int) = 1) && (l.getD 0 d3).1.1,
    decide (k = 15) && decide (t = []) && decide (n = 0) && decide ((ks.length:Int) = 2) && paW (l.getD 0 d3).2 && (l.getD 1 d3).1.1)
def ebas:List N->List T3
 | []=>[]
 | x :: r=>eba x :: ebas r
end
def exW (n:N):Bool:=(eba n).1
def biW (n:N):Bool:=(eba n).2.1
def alW (n:N):Bool:=(eba n).2.2
theorem qw9 (l:List N):(ebas l).zip l = l.map fun x=>(eba x,x):=by
 induction l with
 | nil=>rfl
 | cons x r ih=>rw [ebas,List.zip_cons_cons,ih];rfl
theorem ql3 {l:List N} {i:Nat} (h:i < l.length):(l.map fun x=>(eba x,x)).getD i d3 = (eba (l.getD i N0),l.getD i N0):=by
 rw [List.getD_eq_getElem?_getD,List.getElem?_map,List.getElem?_eq_getElem h,List.getD_eq_getElem?_getD,List.getElem?_eq_getElem h];rfl
theorem q66 {c a b:Bool} (h:c = true->a = b):(c && a) = (c && b):=by cases c<;>simp_all
theorem qpt (n:N):exW n = if n.kind = 21 then decide (n.num = 0) && varW n.text && decide ((n.kids.length:Int) = 0)
 else if n.kind = 22 then decide (n.num = 0) && conW n.text && decide ((n.kids.length:Int) = 0)
 else if n.kind = 23 then decide (n.text = []) && decide (0≤n.num) && decide ((n.kids.length:Int) = 0)
 else if n.kind = 24 then decide (n.text = []) && decide (n.num = 0) && decide ((n.kids.length:Int) = 2) && n.kids.all exW
 else if n.kind = 25 then decide (n.num = 0) && varW n.text && decide ((n.kids.length:Int) = 1) && exW (n.kids.getD 0 N0)
 else if n.kind = 26 then decide (n.text = []) && decide (n.num = 0) && decide (2≤(n.kids.length:Int)) && (n.kids.take ((n.kids.length:Int) - 1).toNat).all (fun x=>biW x || sgW x) && exW (n.kids.getD ((n.kids.length:Int) - 1).toNat N0)
 else if n.kind = 27 then decide (n.text = []) && decide (n.num = 0) && decide (2≤(n.kids.length:Int)) && exW (n.kids.getD 0 N0) && (n.kids.drop 1).all alW
 else if n.kind = 28 then decide (n.text = []) && decide (n.num = 0) && decide ((n.kids.length:Int) = 3) && n.kids.all exW
 else false:=by
 obtain ⟨k,p,m,t,ks⟩:=n
 simp only [exW,eba,N.kind,N.num,N.text,N.kids,qw9,← List.map_take,← List.map_drop,List.all_map]
 have h0:∀ (c:Int),1≤c->decide ((ks.length:Int) = c) = true->((ks.map fun x=>(eba x,x)).getD 0 d3).1.1 = (eba (ks.getD 0 N0)).1:=fun c h1 h=>by
  simp only [decide_eq_true_eq] at h
  rw [ql3 (by omega)]
 have h2:decide (2≤(ks.length:Int)) = true->((ks.map fun x=>(eba x,x)).getD 0 d3).1.1 = (eba (ks.getD 0 N0)).1:=fun h=>by
  simp only [decide_eq_true_eq] at h
  rw [ql3 (by omega)]
 have h3:decide (2≤(ks.length:Int)) = true->((ks.map fun x=>(eba x,x)).getD ((ks.length:Int) - 1).toNat d3).1.1 = (eba (ks.getD ((ks.length:Int) - 1).toNat N0)).1:=fun h=>by
  simp only [decide_eq_true_eq] at h
  rw [ql3 (by omega)]
 repeat' (refine ite_congr rfl (fun _=>?_) (fun _=>?_))
 all_goals first
  | rfl
  | (refine q66 fun h=>h0 1 (by omega) ?_;simp only [Bool.and_eq_true] at h;exact h.2)
  | (refine q66 fun h=>h3 ?_;simp only [Bool.and_eq_true] at h;exact h.1.2)
  | (refine congrArg (· && _) (q66 fun h=>h2 ?_);simp only [Bool.and_eq_true] at h;exact h.2)
theorem q4f (n:N):biW n = (decide (n.kind = 31) && decide (n.num = 0) && varW n.text && decide ((n.kids.length:Int) = 1) && exW (n.kids.getD 0 N0)):=by
 obtain ⟨k,p,m,t,ks⟩:=n
 simp only [biW,exW,eba,N.kind,N.num,N.text,N.kids,qw9]
 refine q66 fun h=>?_
 simp only [Bool.and_eq_true,decide_eq_true_eq] at h
 rw [ql3 (by omega)]
theorem qbdv (n:N):alW n = (decide (n.kind = 15) && decide (n.text = []) && decide (n.num = 0) && decide ((n.kids.length:Int) = 2) && paW (n.kids.getD 0 N0) && exW (n.kids.getD 1 N0)):=by
 obtain ⟨k,p,m,t,ks⟩:=n
 simp only [alW,exW,eba,N.kind,N.num,N.text,N.kids,qw9]
 by_cases h:(ks.length:Int) = 2
 ·rw [ql3 (by omega),ql3 (by omega)];rfl
 ·simp [h]

theorem qwf {x:N} (h:qx Tryz.prog 100 [enc x] (.bool (biW x))):qx Tryz.prog 99 [enc x] (.bool (biW x || sgW x)):=by
 refine qn c0bm (by simp) (by simp only [go_sem]) rfl fun hw=>?_
 repeat' (first | refine vs_ ?_ | ((first | refine vr_ ?_ | refine qa h fun _=>?_ | refine qa (qht x) fun _=>?_ | (refine cs_ ?_ ?_<;>intro hc) | refine cj_ ?_ | fail)<;>(try refine ev_ ?_)) | with_reducible exact ti_)
 all_goals first | (simp only [*,decide_true,decide_false,Bool.and_true,Bool.true_and,Bool.and_false,Bool.false_and,Bool.or_true,Bool.true_or,Bool.or_false,Bool.false_or,Bool.not_true,Bool.not_false,if_true,if_false,reduceIte,Int.reduceEq];done) | (simp_all [];done) | (simp_all [];omega)

set_option maxHeartbeats 2000000 in
theorem quj {n:N} (ih:∀ x∈n.kids,qx Tryz.prog 57 [enc x] (.bool (exW x))) (iha:∀ x∈n.kids,qx Tryz.prog 102 [enc x] (.bool (alW x))) (ihw:∀ x∈n.kids,qx Tryz.prog 99 [enc x] (.bool (biW x || sgW x))) :
 qx Tryz.prog 57 [enc n] (.bool (exW n)):=by
 refine qn c0bn (by simp) (by simp only [go_sem]) rfl fun hw=>?_
 have hkl:n.kids.length≤maxLen:=((qmg n).1 hw.1).1
 repeat' (first | refine vs_ ?_ | ((first | refine vr_ ?_ | refine qa (qd1 qk4 _) fun _=>?_ | refine qa (qd1 qgn _) fun _=>?_ | refine qa (qi7 _) fun _=>?_ | refine qa (ih _ (qi (by omega))) fun _=>?_ | refine qa (qce ih) fun _=>?_ | refine qa (qce (f:=alW) fun x hx=>iha x (List.mem_of_mem_drop hx)) fun _=>?_ | refine qa (qce (f:=fun x=>biW x || sgW x) fun x hx=>ihw x (List.mem_of_mem_take hx)) fun _=>?_ | simp (disch:=omega) only [qcei] | (refine cs_ ?_ ?_<;>intro hc) | refine cj_ ?_ | simp (disch:=omega) only [qc,qs])<;>(try refine ev_ ?_)) | with_reducible exact ti_)
 all_goals clear ih iha ihw hw hkl
 all_goals rw [qpt n]
 all_goals (try simp only [qhy,qmt] at *)
 all_goals first | (simp only [*,decide_true,decide_false,Bool.and_true,Bool.true_and,Bool.and_false,Bool.false_and,Bool.or_true,Bool.true_or,Bool.or_false,Bool.false_or,Bool.not_true,Bool.not_false,if_true,if_false,reduceIte,Int.reduceEq];done) | (simp_all [];done) | (simp_all [];omega)

theorem qjc:∀ n,qx Tryz.prog 57 [enc n] (.bool (exW n))∧qx Tryz.prog 100 [enc n] (.bool (biW n))∧qx Tryz.prog 102 [enc n] (.bool (alW n)):=by
 refine N.ind fun n ih=>⟨quj (fun x hx=>(ih x hx).1) (fun x hx=>(ih x hx).2.2) (fun x hx=>qwf (ih x hx).2.1),?_,?_⟩
 ·refine qn c0bo (by simp) (by simp only [go_sem]) rfl fun hw=>?_
  rw [q4f n]
  repeat' (first | refine vs_ ?_ | ((first | refine vr_ ?_ | refine qa (qd1 qk4 _) fun _=>?_ | refine qa (ih _ (qi (by omega))).1 fun _=>?_ | refine qj (ih _ (qi (by omega))).1 ?_ | (refine cs_ ?_ ?_<;>intro hc) | refine cj_ ?_ | simp (disch:=omega) only [qc,qs])<;>(try refine ev_ ?_)) | with_reducible exact ti_)
  all_goals first | (simp only [qhy, *,decide_true,decide_false,Bool.and_true,Bool.true_and,Bool.and_false,Bool.false_and,Bool.or_true,Bool.true_or,Bool.or_false,Bool.false_or,Bool.not_true,Bool.not_false,if_true,if_false,reduceIte,Int.reduceEq];done) | (simp_all [qhy];done) | (simp_all [qhy];omega)
 ·refine qn c0bp (by simp) (by simp only [go_sem]) rfl fun hw=>?_
  rw [qbdv n]
  repeat' (first | refine vs_ ?_ | ((first | refine vr_ ?_ | refine qa (qi7 _) fun _=>?_ | refine qa (qts _) fun _=>?_ | refine qa (ih _ (qi (by omega))).1 fun _=>?_ | refine qj (ih _ (qi (by omega))).1 ?_ | (refine cs_ ?_ ?_<;>intro hc) | refine cj_ ?_ | simp (disch:=omega) only [qc,qs])<;>(try refine ev_ ?_)) | with_reducible exact ti_)
  all_goals first | (simp only [qmt, *,decide_true,decide_false,Bool.and_true,Bool.true_and,Bool.and_false,Bool.false_and,Bool.or_true,Bool.true_or,Bool.or_false,Bool.false_or,Bool.not_true,Bool.not_false,if_true,if_false,reduceIte,Int.reduceEq];done) | (simp_all [qmt];done) | (simp_all [qmt];omega)
set_option maxRecDepth 4000


set_option maxRecDepth 4000

def vaW (n:N):Bool:=decide (n.kind = 1) && tyW n
theorem qj3 (n:N):qx Tryz.prog 110 [enc n] (.bool (vaW n)):=by
 refine qn c0bf (by simp) (by simp only [go_sem]) rfl fun hw=>?_
 repeat' (first | refine vs_ ?_ | ((first | refine vr_ ?_ | refine qa (qep _) fun _=>?_ | (refine cs_ ?_ ?_<;>intro hc) | refine cj_ ?_ | fail)<;>(try refine ev_ ?_)) | with_reducible exact ti_)
 all_goals first | (simp only [vaW, *,decide_true,decide_false,Bool.and_true,Bool.true_and,Bool.and_false,Bool.false_and,Bool.or_true,Bool.true_or,Bool.or_false,Bool.false_or,Bool.not_true,Bool.not_false,if_true,if_false,reduceIte,Int.reduceEq];done) | (simp_all [vaW];done) | (simp_all [vaW];omega)
def cnW (n:N):Bool:=decide (n.kind = 34) && qhy n conW && n.kids.all tyW
theorem qjm (n:N):qx Tryz.prog 111 [enc n] (.bool (cnW n)):=by
 refine qn c0bg (by simp) (by simp only [go_sem]) rfl fun hw=>?_
 repeat' (first | refine vs_ ?_ | ((first | refine vr_ ?_ | refine qa (qd1 qgn _) fun _=>?_ | refine qa (qce fun x _=>qep x) fun _=>?_ | (refine cs_ ?_ ?_<;>intro hc) | refine cj_ ?_ | fail)<;>(try refine ev_ ?_)) | with_reducible exact ti_)
 all_goals first | (simp only [cnW, *,decide_true,decide_false,Bool.and_true,Bool.true_and,Bool.and_false,Bool.false_and,Bool.or_true,Bool.true_or,Bool.or_false,Bool.false_or,Bool.not_true,Bool.not_false,if_true,if_false,reduceIte,Int.reduceEq];done) | (simp_all [cnW];done) | (simp_all [cnW];omega)
def deW (n:N):Bool :=
 if n.kind = 31 then biW n else if n.kind = 32 then sgW n
 else conW n.text && !decide (n.num < 0) && !decide ((n.kids.length:Int)≤n.num) &&
  (if n.kind = 33 then (n.kids.take n.num.toNat).all vaW && cnW (n.kids.getD n.num.toNat N0) && (n.kids.drop (n.num + 1).toNat).all cnW
   else if n.kind = 35 then (n.kids.take n.num.toNat).all prW && vaW (n.kids.getD n.num.toNat N0) && (n.kids.drop (n.num + 1).toNat).all sgW
   else if n.kind = 36 then (n.kids.take n.num.toNat).all prW && tyW (n.kids.getD n.num.toNat N0) && (n.kids.drop (n.num + 1).toNat).all biW
   else false)
theorem qpl (n:N):qx Tryz.prog 69 [enc n] (.bool (deW n)):=by
 refine qn c0bh (by simp) (by simp only [go_sem]) rfl fun hw=>?_
 have hkl:n.kids.length≤maxLen:=((qmg n).1 hw.1).1
 repeat' (first | refine vs_ ?_ | ((first | refine vr_ ?_ | fail)<;>(try simp (disch:=first | omega | (simp only [List.length_set,List.length_append,List.length_cons,List.length_nil];done) | (simp only [List.length_set,List.length_append,List.length_cons,List.length_nil];omega)) only [qc,qit,go_sem,↓reduceIte])) | ((first | (refine cs_ ?_ ?_<;>intro hc) | refine cj_ ?_ | simp (disch:=omega) only [qc,qs] | refine qa (qjc n).2.1 fun _=>?_ | refine qa (qht n) fun _=>?_ | refine qa (qgn _) fun _=>?_ | refine qa (qce fun x _=>qj3 x) fun _=>?_ | refine qa (qce fun x _=>qla x) fun _=>?_ | refine qa (qce fun x _=>qjm x) fun _=>?_ | refine qa (qce fun x _=>qht x) fun _=>?_ | refine qa (qce (f:=biW) fun x _=>(qjc x).2.1) fun _=>?_ | refine qa (qjm _) fun _=>?_ | refine qa (qj3 _) fun _=>?_ | refine qa (qep _) fun _=>?_ | refine qj (qjc n).2.1 ?_ | refine qj (qht n) ?_ | refine qj (qgn _) ?_ | refine qj (qce fun x _=>qj3 x) ?_ | refine qj (qce fun x _=>qla x) ?_ | refine qj (qce fun x _=>qjm x) ?_ | refine qj (qce fun x _=>qht x) ?_ | refine qj (qce (f:=biW) fun x _=>(qjc x).2.1) ?_ | refine qj (qjm _) ?_ | refine qj (qj3 _) ?_ | refine qj (qep _) ?_)<;>(try refine ev_ ?_)) | with_reducible exact ti_)
 all_goals clear hw hkl
 all_goals simp only [deW]
 all_goals first | (simp only [*,decide_true,decide_false,Bool.and_true,Bool.true_and,Bool.and_false,Bool.false_and,Bool.or_true,Bool.true_or,Bool.or_false,Bool.false_or,Bool.not_true,Bool.not_false,if_true,if_false,reduceIte,Int.reduceEq];done) | (simp_all [];done) | (simp_all [];omega)

theorem q7h (n:N):qx Tryz.prog 21 [enc n] (.bool (lowW n && tyW n)):=by
 refine qn c0bi (by simp) (by simp only [go_sem]) rfl fun hw=>?_
 repeat' (first | refine vs_ ?_ | ((first | refine vr_ ?_ | refine qa (qn8 _) fun _=>?_ | refine qa (qep _) fun _=>?_ | (refine cs_ ?_ ?_<;>intro hc) | refine cj_ ?_ | fail)<;>(try refine ev_ ?_)) | with_reducible exact ti_)
 all_goals first | (simp only [*,decide_true,decide_false,Bool.and_true,Bool.true_and,Bool.and_false,Bool.false_and,Bool.or_true,Bool.true_or,Bool.or_false,Bool.false_or,Bool.not_true,Bool.not_false,if_true,if_false,reduceIte,Int.reduceEq];done) | (simp_all [];done) | (simp_all [];omega)
theorem qbav (n:N):qx Tryz.prog 24 [enc n] (.bool (lowW n && paW n)):=by
 refine qn c0bj (by simp) (by simp only [go_sem]) rfl fun hw=>?_
 repeat' (first | refine vs_ ?_ | ((first | refine vr_ ?_ | refine qa (qn8 _) fun _=>?_ | refine qa (qts _) fun _=>?_ | (refine cs_ ?_ ?_<;>intro hc) | refine cj_ ?_ | fail)<;>(try refine ev_ ?_)) | with_reducible exact ti_)
 all_goals first | (simp only [*,decide_true,decide_false,Bool.and_true,Bool.true_and,Bool.and_false,Bool.false_and,Bool.or_true,Bool.true_or,Bool.or_false,Bool.false_or,Bool.not_true,Bool.not_false,if_true,if_false,reduceIte,Int.reduceEq];done) | (simp_all [];done) | (simp_all [];omega)
theorem qbf5 (n:N):qx Tryz.prog 26 [enc n] (.bool (lowW n && exW n)):=by
 refine qn c0bk (by simp) (by simp only [go_sem]) rfl fun hw=>?_
 repeat' (first | refine vs_ ?_ | ((first | refine vr_ ?_ | refine qa (qn8 _) fun _=>?_ | refine qa (qjc _).1 fun _=>?_ | refine qj (qjc _).1 ?_ | (refine cs_ ?_ ?_<;>intro hc) | refine cj_ ?_ | fail)<;>(try refine ev_ ?_)) | with_reducible exact ti_)
 all_goals first | (simp only [*,decide_true,decide_false,Bool.and_true,Bool.true_and,Bool.and_false,Bool.false_and,Bool.or_true,Bool.true_or,Bool.or_false,Bool.false_or,Bool.not_true,Bool.not_false,if_true,if_false,reduceIte,Int.reduceEq];done) | (simp_all [];done) | (simp_all [];omega)
def qij (n:N):Bool:=if n.kind = 37 then lowW n && qmt n && n.kids.all deW else lowW n && deW n
theorem qok (n:N):qx Tryz.prog 30 [enc n] (.bool (qij n)):=by
 refine qn c0bl (by simp) (by simp only [go_sem]) rfl fun hw=>?_
 repeat' (first | refine vs_ ?_ | ((first | refine vr_ ?_ | refine qa (qn8 _) fun _=>?_ | refine qa (qi7 _) fun _=>?_ | refine qa (qpl _) fun _=>?_ | refine qa (qce fun x _=>qpl x) fun _=>?_ | (refine cs_ ?_ ?_<;>intro hc) | refine cj_ ?_ | fail)<;>(try refine ev_ ?_)) | with_reducible exact ti_)
 all_goals first | (simp only [qij, *,decide_true,decide_false,Bool.and_true,Bool.true_and,Bool.and_false,Bool.false_and,Bool.or_true,Bool.true_or,Bool.or_false,Bool.false_or,Bool.not_true,Bool.not_false,if_true,if_false,reduceIte,Int.reduceEq];done) | (simp_all [qij];done) | (simp_all [qij];omega)

mutual
def sz:N->Nat
 | .mk _ _ _ _ ks=>szs ks + 1
def szs:List N->Nat
 | []=>0
 | x :: r=>sz x + szs r
end
mutual
def dp:N->Nat
 | .mk _ _ _ _ ks=>dps ks + 1
def dps:List N->Nat
 | []=>0
 | x :: r=>max (dp x) (dps r)
end
theorem qg1 (n:N):sz n = szs n.kids + 1:=by cases n;rw [sz];rfl
theorem qra (n:N):dp n = dps n.kids + 1:=by cases n;rw [dp];rfl
theorem qcja (n:N):1≤sz n:=by rw [qg1];omega
theorem qbgb:∀ l:List N,l.length≤szs l
 | []=>Nat.le_refl _
 | x :: r=>by have:=qbgb r;have:=qcja x;simp only [szs,List.length_cons];omega
theorem qbd1:∀ {l:List N} {x:N},x∈l->sz x≤szs l
 | y :: r, x, h => by
   simp only [szs]
   rcases List.mem_cons.1 h with rfl | h
   ·omega
   ·have:=qbd1 h;omega
theorem qxd:∀ {l:List N},(∀ x∈l,dp x≤sz x)->dps l≤szs l
 | [],_=>Nat.le_refl _
 | x :: r, h => by
   have h1:=h x (by simp)
   have h2:=qxd (l:=r) fun y hy=>h y (by simp [hy])
   simp only [dps,szs];omega
theorem qce1:∀ n,dp n≤sz n:=N.ind fun n ih=>by rw [qra,qg1];have:=qxd ih;omega

theorem qnb {z:Int} (h0:-1≤z) (h1:z≤1000000000):IntKind.i64.wrap z = z:=by
 simp [IntKind.wrap,IntKind.signed,IntKind.bits]
 omega

theorem qbjk:∀ n,sz n≤1000000->q3c n = sz n:=N.ind fun n ih h=>by
 rw [qbhg,qg1]
 rw [qg1] at h
 have key:∀ (l:List N),(∀ x∈l,sz x≤1000000->q3c x = sz x)->∀ a:Int,1≤a->a + szs l≤1000001->qvy a l = a + szs l:=by
  intro l
  induction l with
  | nil=>intro _ a h0 h1;simp [qvy,szs]
  | cons x r ihr =>
    intro hx a h0 h1
    simp only [qvy,szs] at h1 ⊢
    rw [hx x (by simp) (by omega),qnb (by omega) (by omega),ihr (fun y hy=>hx y (by simp [hy])) _ (by omega) (by omega)]
    omega
 rw [key n.kids ih 1 (by omega) (by omega)]
 omega
def szF:Int->Int->N->Int×Bool:=fun k _ _=>(IntKind.i64.wrap (k + 1),true)
theorem qb7k:∀ n l (s:Int),0≤s->s + sz n≤2000000->qeb szF n l s = (s + sz n,true):=N.ind fun n ih l s h0 h1=>by
 rw [qji,qg1]
 rw [qg1] at h1
 simp only [szF,if_true]
 have key:∀ (r:List N),(∀ x∈r,∀ l (s:Int),0≤s->s + sz x≤2000000->qeb szF x l s = (s + sz x,true))->∀ l (s:Int),0≤s->s + szs r≤2000000->qe3 szF l r s = (s + szs r,true):=by
  intro r
  induction r with
  | nil=>intro _ l s _ _;simp [qe3,szs]
  | cons x r ihr =>
    intro hx l s h0 h1
    simp only [qe3,szs] at h1 ⊢
    rw [hx x (by simp) _ _ h0 (by omega),if_pos rfl,ihr (fun y hy=>hx y (by simp [hy])) _ _ (by omega) (by omega)]
    simp only [Prod.mk.injEq,and_true];omega
 have:=key n.kids ih (IntKind.i64.wrap (l + 1)) (IntKind.i64.wrap (s + 1)) (by rw [qnb (by omega) (by omega)];omega) (by rw [qnb (by omega) (by omega)];omega)
 rw [this,qnb (by omega) (by omega)]
 simp only [Prod.mk.injEq,and_true];omega
theorem qcke {n:N} (h:sz n≤3000):(qeb (fun (k:Int) _ _=>(IntKind.i64.wrap (k + 1),true)) n 1 0).1 = q3c n:=by
 show (qeb szF n 1 0).1 = q3c n
 rw [qb7k n 1 0 (by omega) (by omega),qbjk n (by omega)];simp

theorem q2k:∀ n,sz n≤1000000->depR n = dp n:=N.ind fun n ih h=>by
 rw [qba5,qra]
 rw [qg1] at h
 have key:∀ (l:List N),(∀ x∈l,sz x≤1000000->depR x = dp x)->szs l≤1000000->∀ a:Int,0≤a->qxk a l = max a (dps l):=by
  intro l
  induction l with
  | nil=>intro _ _ a h0;simp [qxk,dps];omega
  | cons x r ihr =>
    intro hx hs a h0
    simp only [szs] at hs
    simp only [qxk,dps]
    rw [hx x (by simp) (by omega)]
    have:=ihr (fun y hy=>hx y (by simp [hy])) (by omega)
    split
    ·rw [this _ (by omega)];omega
    ·rw [this _ (by omega)];omega
 have hd:=qxd (l:=n.kids) fun x _=>qce1 x
 rw [key n.kids ih (by omega) 0 (by omega),qnb (by omega) (by omega)]
 omega
def dpF:Int->Int->N->Int×Bool:=fun k l _=>(if l > k then l else k,true)
theorem qbjz:∀ n (l:Int) (s:Bool),0≤l->l + sz n≤2000000->(qeb lowF n l s).2 = decide (l + dp n - 1≤100):=N.ind fun n ih l s h0 h1=>by
 rw [qji,qra]
 rw [qg1] at h1
 have key:∀ (r:List N),(∀ x∈r,∀ (l:Int) (s:Bool),0≤l->l + sz x≤2000000->(qeb lowF x l s).2 = decide (l + dp x - 1≤100))->∀ (l:Int) (s:Bool),0≤l->l + szs r≤2000000->l - 1≤100->(qe3 lowF l r s).2 = decide (l + dps r - 1≤100):=by
  intro r
  induction r with
  | nil=>intro _ l s _ _ h;simp only [qe3,dps];symm;simp;omega
  | cons x r ihr =>
    intro hx l s h0 h1 h2
    simp only [szs] at h1
    simp only [qe3,dps]
    rw [hx x (by simp) _ _ h0 (by omega)]
    split
    ·rename_i h3
     simp only [decide_eq_true_eq] at h3
     rw [ihr (fun y hy=>hx y (by simp [hy])) _ _ (by omega) (by omega) (by omega)]
     congr 1;simp only [eq_iff_iff];omega
    ·rename_i h3
     simp only [decide_eq_true_eq] at h3
     exact (decide_eq_false (by omega)).symm
 by_cases h2:(100:Int) < l
 ·simp only [lowF,h2,decide_true,Bool.not_true,Bool.false_eq_true,if_false]
  exact (decide_eq_false (by omega)).symm
 ·simp only [lowF,h2,decide_false,Bool.not_false,if_true]
  rw [key n.kids ih _ _ (by rw [qnb (by omega) (by omega)];omega) (by rw [qnb (by omega) (by omega)];omega) (by rw [qnb (by omega) (by omega)];omega),qnb (by omega) (by omega)]
  congr 1;simp only [eq_iff_iff];omega
set_option maxRecDepth 4000

theorem qbfd:IntKind.i64.wrap (0 + 1) = 1:=by decide
def digW (l:List UInt8):Bool:=l.all fun c=>qb8 c.toNat
theorem qy3 {l:List UInt8} {i:Nat} (h:i < l.length):digW (l.drop i) = (qb8 (l.getD i 0).toNat && digW (l.drop (i + 1))):=by
 rw [qnw h];rfl

def digV (c:UInt8):Int:=IntKind.i64.wrap (IntKind.u8.wrap ((c.toNat:Int) - 48))
def topV (c:UInt8):Int:=IntKind.i64.wrap ((IntKind.i64.wrap (9223372036854775807 - digV c)).tdiv 10)
def nxtV (k:Int) (c:UInt8):Int:=IntKind.i64.wrap (IntKind.i64.wrap (10 * k) + digV c)
def qgz:Int->List UInt8->Int×Int
 | k,[]=>(k,0)
 | k,c :: r=>if topV c < k then (0,4) else qgz (nxtV k c) r
def qun (l:List UInt8):Int×Int:=if l = [] then (0,5) else if digW l = true then qgz 0 l else (0,5)
def qcg2 (p:Int×Int):AV:=.tup [.int .i64 p.1,.int .i64 p.2]
theorem qu2 {l:List UInt8} {i:Nat} (h:i < l.length) (k:Int):qgz k (l.drop i) = if topV (l.getD i 0) < k then (0,4) else qgz (nxtV k (l.getD i 0)) (l.drop (i + 1)):=by
 rw [qnw h];rfl
theorem qceu {c:Int} (h:c < 48∨57 < c):qb8 c = false:=by
 simp only [qb8,Bool.and_eq_false_iff,decide_eq_false_iff_not];omega
theorem qb28 {c:Int} (h:¬ c < 48) (h2:¬ 57 < c):qb8 c = true:=by
 simp only [qb8,Bool.and_eq_true,decide_eq_true_eq];omega
theorem qku {l:List UInt8} (h:l≠[]) (hd:digW l = true):qun l = qgz 0 l:=by rw [qun,if_neg h,if_pos hd]
theorem qbc0 {l:List UInt8} (hd:digW l = false):qun l = (0,5):=by rw [qun,hd];simp

theorem qbc7 (l:List UInt8):qx Tryz.prog 189 [.str l] (qcg2 (qun l)):=by
 refine qn c0co (by simp) (by simp only [go_sem]) rfl fun hw=>?_
 have hl:l.length≤maxLen:=hw.1
 refine q0i (q1e ?_)
 (refine ev_ ?_;(try with_reducible exact ti_))
 refine qbf6 (S:=Nat×Int) 0 rfl (fun s=>s.1 < l.length∧digW l = true∧qgz s.2 (l.drop s.1) = qgz 0 l) (fun s=>(⟨[(0,.str l),(5,.int .i64 s.2),(6,.int .i64 s.1)],[]⟩,[])) (fun s=>l.length - s.1) ?_ fun s hs=>?_
 ·repeat' (first | refine vs_ ?_ | ((first | refine vr_ ?_ | (refine cs_ ?_ ?_<;>intro hc) | refine cj_ ?_ | simp (disch:=omega) only [qc,qs])<;>(try refine ev_ ?_)) | with_reducible exact ti_)
  refine qcm (S:=Nat) (fun i=>i≤l.length∧digW (l.drop i) = digW l) (fun i=>(⟨[(0,.str l),(9,.int .i64 l.length),(10,.int .i64 i)],[]⟩,[])) (fun i=>l.length - i) ?_ fun i hi=>?_
  ·refine qb1 0 [] ⟨Nat.zero_le _,rfl⟩ rfl (by simp) ?_ ?_ ?_<;>(try refine ev_ ?_)<;>(try with_reducible exact ti_)<;>(try simp (disch:=omega) only [qs,and_true,true_and])
  ·obtain ⟨hi,ha⟩:=hi
   have hs:i < l.length->qb8 (l.getD i 0).toNat = false->qun l = (0,5):=fun h h2=>qbc0 (by rw [← ha,qy3 h,h2];rfl)
   have hs2:0 < l.length->qgz 0 l = if topV (l.getD 0 0) < 0 then (0,4) else qgz (nxtV 0 (l.getD 0 0)) (l.drop 1):=fun h=>by
    have:=qu2 (l:=l) (i:=0) h 0
    rwa [List.drop_zero] at this
   have hdig:¬ (i:Int) < l.length->digW l = true:=fun h=>by rw [← ha,List.drop_of_length_le (by omega)];rfl
   repeat' (first | refine vs_ ?_ | ((first | refine vr_ ?_ | simp (disch:=omega) only [qs] | simp (disch:=omega) only [qbfd] | (refine cs_ ?_ ?_<;>intro hc) | refine cj_ ?_ | simp (disch:=omega) only [qc,qs])<;>(try refine ev_ ?_)) | with_reducible exact ti_)
   all_goals first
    | (rw [hs (by omega) (qceu (by omega))];rfl)
    | (refine qb1 (i + 1) [] ⟨⟨by omega, ?_⟩, by omega⟩ rfl (by simp) ?_ ?_ ?_ <;> (try refine ev_ ?_) <;> (try with_reducible exact ti_) <;> (try simp (disch := omega) only [qs, and_true, true_and])
       have hd:qb8 (l.getD i 0).toNat = true:=qb28 (by omega) (by omega)
       rw [← ha,qy3 (l:=l) (i:=i) (by omega),hd,Bool.true_and])
    | (subst hc;rfl)
    | skip
   ·have hlp:=qr0 (by assumption)
    have hd:=hdig (by assumption)
    have hc':topV (l.getD 0 0) < 0:=hc
    rw [qku (by assumption) hd,hs2 hlp,if_pos hc'];rfl
   ·rename_i hc0
    have hlp:=qr0 (by assumption)
    have hd:=hdig (by assumption)
    have hc':¬ topV (l.getD 0 0) < 0:=hc0
    refine qb1 (1,nxtV 0 (l.getD 0 0)) [] ⟨by omega,hd,?_⟩ rfl (by simp) ?_ ?_ ?_<;>(try refine ev_ ?_)<;>(try with_reducible exact ti_)<;>(try simp (disch:=omega) only [qs,and_true,true_and])
    ·rw [hs2 hlp,if_neg hc']
    ·rfl
   ·rename_i hc0
    have hlp:=qr0 (by assumption)
    have hd:=hdig (by assumption)
    have hc':¬ topV (l.getD 0 0) < 0:=hc0
    rw [qku (by assumption) hd,hs2 hlp,if_neg hc',List.drop_of_length_le (by omega)];rfl
 ·obtain ⟨j,k⟩:=s
  obtain ⟨hj,hd,hr⟩:=hs
  dsimp only at hj hr
  have hs2:qgz 0 l = if topV (l.getD j 0) < k then (0,4) else qgz (nxtV k (l.getD j 0)) (l.drop (j + 1)):=by rw [← hr,qu2 hj]
  have hne:l≠[]:=fun e=>by subst e;simp at hj
  rw [qku hne hd]
  repeat' (first | refine vs_ ?_ | ((first | refine vr_ ?_ | simp (disch:=omega) only [qs] | simp (disch:=omega) only [qbfd] | (refine cs_ ?_ ?_<;>intro hc) | refine cj_ ?_ | simp (disch:=omega) only [qc,qs])<;>(try refine ev_ ?_)) | with_reducible exact ti_)
  ·have hc':topV (l.getD j 0) < k:=hc
   rw [hs2,if_pos hc'];rfl
  ·rename_i hc0
   have hc':¬ topV (l.getD j 0) < k:=hc0
   refine qb1 (j + 1,nxtV k (l.getD j 0)) [] ⟨⟨by omega,hd,?_⟩,by omega⟩ rfl (by simp) ?_ ?_ ?_<;>(try refine ev_ ?_)<;>(try with_reducible exact ti_)<;>(try simp (disch:=omega) only [qs,and_true,true_and])
   ·rw [hs2,if_neg hc']
   ·rfl
  ·rename_i hc0
   have hc':¬ topV (l.getD j 0) < k:=hc0
   rw [hs2,if_neg hc',List.drop_of_length_le (by omega)];rfl
end Go.Proofs.YtlmcofjcpadmiaaGreat
