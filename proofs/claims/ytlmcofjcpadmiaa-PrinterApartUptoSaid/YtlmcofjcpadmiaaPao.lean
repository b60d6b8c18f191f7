/- Texts of this proof, joined. -/
import Derived.Test.YtlmcofjcpadmiaaPan
import Derived.Test.YtlmcofjcpadmiaaPaj
set_option linter.unusedVariables false
set_option linter.unusedSimpArgs false

/- trees: low, each, bare, named, plain -/
set_option maxRecDepth 4000
namespace Go.Proofs.Ytlmcofjcpadmiaa
open Go Go.RowKit Go.V

theorem qd1 (l:List N) (i:Nat):(encs l).take i = encs (l.take i):=by rw [qct,qct,List.map_take]
theorem qdl (l:List N) (i:Nat):(encs l).drop i = encs (l.drop i):=by rw [qct,qct,List.map_drop]
attribute [go_sem] qd1 qdl
def qjx (n:N):Bool:=decide (n.text = []) && decide (n.num = 0)
theorem qd2 (n:N):qm Try.prog 22 [enc n] (.bool (qjx n)):=by
 refine qh c0bs (by simp) (by simp only [go_sem]) rfl fun hw=>?_
 repeat' (first | refine vs_ ?_ | ((first | refine vr_ ?_ | (refine cs_ ?_ ?_<;>intro hc) | refine cj_ ?_ | fail)<;>(try refine ev_ ?_)) | with_reducible exact ti_)
 all_goals simp_all [qjx]
def qdu (n:N) (f:List UInt8->Bool):Bool:=decide (n.num = 0) && f n.text
theorem qbv {so:FuncId} {f:List UInt8->Bool} (h:∀ l,qm Try.prog so [.str l] (.bool (f l))) (n:N):qm Try.prog 19 [enc n,.fn so [] []] (.bool (qdu n f)):=by
 refine qh c0bt (by simp) (by simp only [go_sem]) rfl fun hw=>?_
 repeat' (first | refine vs_ ?_ | ((first | refine vr_ ?_ | refine qa (h _) fun _=>?_ | (refine cs_ ?_ ?_<;>intro hc) | refine cj_ ?_ | fail)<;>(try refine ev_ ?_)) | with_reducible exact ti_)
 all_goals simp_all [qdu]
theorem qog {l:List N} {f:N->Bool} {i:Nat} (h:i < l.length):(l.drop i).all f = (f (l.getD i N0) && (l.drop (i + 1)).all f):=by
 rw [qo2 h,List.all_cons]

theorem qt {so:FuncId} {f:N->Bool} {l:List N} (h:∀ x∈l,qm Try.prog so [enc x] (.bool (f x))):qm Try.prog 23 [.sl 5 (encs l),.fn so [] []] (.bool (l.all f)):=by
 refine qh c0bu (by simp) (by simp only [go_sem]) rfl fun hw=>?_
 have hkl:l.length≤maxLen:=by have:=hw.1.1;rwa [ql2] at this
 repeat' (first | refine vs_ ?_ | ((first | refine vr_ ?_ | (refine cs_ ?_ ?_<;>intro hc) | refine cj_ ?_ | simp (disch:=omega) only [qd,qo])<;>(try refine ev_ ?_)) | with_reducible exact ti_)
 refine qfb (S:=Nat) (fun i=>i≤l.length∧(l.drop i).all f = l.all f) (fun i=>(⟨[(1,.fn so [] []),(7,.sl 5 (encs l)),(8,.int .i64 l.length),(9,.int .i64 i)],[]⟩,[])) (fun i=>l.length - i) ?_ fun i hi=>?_
 ·refine qfp 0 [] ⟨Nat.zero_le _,rfl⟩ rfl (by simp) ?_ ?_ ?_<;>(try refine ev_ ?_)<;>(try with_reducible exact ti_)<;>(try simp (disch:=omega) only [qo,and_true,true_and])
 ·obtain ⟨hi,ha⟩:=hi
  repeat' (first | refine vs_ ?_ | ((first | refine vr_ ?_ | refine qa (h _ (qe (by omega))) fun _=>?_ | (refine cs_ ?_ ?_<;>intro hc) | refine cj_ ?_ | simp (disch:=omega) only [qd,qo])<;>(try refine ev_ ?_)) | with_reducible exact ti_)
  ·rw [← ha,qog (by omega),hc];rfl
  ·refine qfp (i + 1) [] ⟨⟨by omega,?_⟩,by omega⟩ rfl (by simp) ?_ ?_ ?_<;>(try refine ev_ ?_)<;>(try with_reducible exact ti_)<;>(try simp (disch:=omega) only [qo,and_true,true_and])
   rw [← ha,qog (l:=l) (i:=i) (by omega),hc,Bool.true_and]
  ·rw [← ha,List.drop_of_length_le (by omega)];rfl

/-! low -/
def yLow (n:N) (fn:FuncId) (asn bd:Code) (ha:qb7 Try.prog 10 asn = some qu8) (hb:qb7 Try.prog 10 bd = some qtn):Yld Bool where
 m:=5
 hs:=fun b=>[.blk (nc n),.blk [.bool false],.blk (nc n),.blk [.int .i64 1],.lp (if b then ⟨.done,some .ret,fn,[6,7].toArray,asn,bd⟩ else ⟨.ready,none,fn,[6,7].toArray,asn,bd⟩) (ql9 10 [(5,.fn 35 [] [.ptr 2 0,.ptr 3 0]),(4,enc n),(2,.ptr 1 0),(1,.ptr 0 0),(0,enc n)])]
 i:=4
 step:=fun k l _=>(decide (100 < l),!decide (100 < l))
 len:=fun _=>rfl
 bd:=fun k=>by cases k<;>(refine ev_ ?_;(try with_reducible exact ti_))
 lt:=by omega
 live:=fun b=>b = false
 keep:=fun s l n _ h=>by simpa using h
 app:=fun k l x hk=>by
  subst hk
  refine qr4 (k:=5) rfl rfl qne ha hb (by simp) (by simp) (by simp) fun lp=>?_
  repeat' (first | refine vs_ ?_ | ((first | refine vr_ ?_ | (refine cs_ ?_ ?_<;>intro hc) | refine cj_ ?_ | simp (disch:=omega) only [qd,qo])<;>(try refine ev_ ?_)) | with_reducible exact ti_)

def lowF:Bool->Int->N->Bool×Bool:=fun _ l _=>(decide (100 < l),!decide (100 < l))
def lowW (n:N):Bool:=(qb0 lowF n 1 false).2
theorem q3a:∀ n l s,(qb0 lowF n l s).1 = !(qb0 lowF n l s).2:=by
 refine N.ind fun n ih l s=>?_
 rw [qem]
 split
 ·rename_i h
  have key:∀ (r:List N),(∀ x∈r,∀ l s,(qb0 lowF x l s).1 = !(qb0 lowF x l s).2)->∀ (l:Int) (s:Bool),s = false->(qb9 lowF l r s).1 = !(qb9 lowF l r s).2:=by
   intro r
   induction r with
   | nil=>intro _ l s hs;subst hs;rfl
   | cons x r ihr =>
     intro hx l s hs
     rw [qb9]
     split
     ·rename_i h3
      exact ihr (fun x hx'=>hx x (by simp [hx'])) l _ (by rw [hx x (by simp),h3];rfl)
     ·rename_i h3
      simp only [Bool.not_eq_true] at h3
      rw [hx x (by simp),h3]
  exact key _ ih _ _ (by simpa [lowF] using h)
 ·rename_i h
  simpa [lowF] using h

theorem qgc (n:N):qm Try.prog 10 [enc n] (.bool (lowW n)):=by
 refine qh c0bv (by simp) (by simp only [go_sem]) rfl fun hw=>?_
 repeat' (first | refine vs_ ?_ | ((first | refine vr_ ?_ | (refine cs_ ?_ ?_<;>intro hc) | refine cj_ ?_ | fail)<;>(try refine ev_ ?_)) | with_reducible exact ti_)
 refine qy7 (qbgy n 1) (by simp only [go_sem]) ?_
 rintro H1 o ⟨rfl,rfl⟩
 (refine ev_ ?_;(try with_reducible exact ti_))
 refine qq3 (qbdc rfl (Nat.zero_le _) fun fn asn bd ha hb=>?_)
 refine VCalls.mono (qbg4 (yLow n fn asn bd ha hb) (n:=n) (l:=1) (s:=false) (p:=2) (q:=3) rfl rfl rfl) ?_
 rintro H1 o ⟨rfl,rfl⟩
 have hlow:=q3a n 1 false
 rw [show qb0 (yLow n fn asn bd ha hb).step n 1 false = qb0 lowF n 1 false from rfl,lowW]
 generalize qb0 lowF n 1 false = pq at hlow ⊢
 obtain ⟨p,q⟩:=pq
 simp only at hlow
 subst hlow
 cases q
 ·simp only [yLow,Bool.not_false,go_sem,↓reduceIte]
 ·simp only [yLow,Bool.not_true,go_sem,↓reduceIte]
  repeat' (first | refine vs_ ?_ | ((first | refine vr_ ?_ | (refine cs_ ?_ ?_<;>intro hc) | refine cj_ ?_ | fail)<;>(try refine ev_ ?_)) | with_reducible exact ti_)
set_option maxRecDepth 4000

theorem qbbc {i:Nat} (h:i≤maxLen):IntKind.i64.wrap ((i:Int) - 1) = (i:Int) - 1:=by
 unfold maxLen at h
 simp [IntKind.wrap,IntKind.signed,IntKind.bits]
 omega
mutual
def tyW:N->Bool
 | .mk k _ n t ks => if k = 1 then decide (n = 0) && varW t && decide ((ks.length : Int) = 0)
   else if k = 2∧n = 0 then (if t = [45,62] then decide ((ks.length:Int) = 2) else conW t) && tysW ks else false
def tysW:List N->Bool
 | []=>true
 | x :: r=>tyW x && tysW r
end
theorem q0f (l:List N):tysW l = l.all tyW:=by
 induction l with
 | nil=>rfl
 | cons x r ih=>rw [tysW,ih];rfl
theorem qnd (n:N):tyW n = if n.kind = 1 then decide (n.num = 0) && varW n.text && decide ((n.kids.length:Int) = 0)
 else if n.kind = 2∧n.num = 0 then (if n.text = [45,62] then decide ((n.kids.length:Int) = 2) else conW n.text) && n.kids.all tyW else false:=by
 rw [← q0f];cases n;rw [tyW];rfl

theorem qb4:∀ n,qm Try.prog 47 [enc n] (.bool (tyW n)):=by
 refine N.ind fun n ih=>?_
 refine qh c0bn (by simp) (by simp only [go_sem]) rfl fun hw=>?_
 rw [qnd]
 repeat' (first | refine vs_ ?_ | ((first | refine vr_ ?_ | refine qa (qbv qe2 _) fun _=>?_ | refine qa (qt ih) fun _=>?_ | refine qa (qdo _) fun _=>?_ | (refine cs_ ?_ ?_<;>intro hc) | refine cj_ ?_ | fail)<;>(try refine ev_ ?_)) | with_reducible exact ti_)
 all_goals simp_all [qdu]

/-! patterns -/
mutual
def paW:N->Bool
 | .mk k _ n t ks => if k = 11 then decide (n = 0) && varW t && decide ((ks.length : Int) = 0)
   else if k = 12 then decide (t = []) && decide (n = 0) && decide ((ks.length:Int) = 0)
   else if k = 13 then decide (t = []) && decide (0≤n) && decide ((ks.length:Int) = 0)
   else if k = 14 then decide (n = 0) && conW t && pasW ks else false
def pasW:List N->Bool
 | []=>true
 | x :: r=>paW x && pasW r
end
theorem q0d (l:List N):pasW l = l.all paW:=by
 induction l with
 | nil=>rfl
 | cons x r ih=>rw [pasW,ih];rfl
theorem q0x (n:N):paW n = if n.kind = 11 then decide (n.num = 0) && varW n.text && decide ((n.kids.length:Int) = 0)
 else if n.kind = 12 then decide (n.text = []) && decide (n.num = 0) && decide ((n.kids.length:Int) = 0)
 else if n.kind = 13 then decide (n.text = []) && decide (0≤n.num) && decide ((n.kids.length:Int) = 0)
 else if n.kind = 14 then decide (n.num = 0) && conW n.text && n.kids.all paW else false:=by
 rw [← q0d];cases n;rw [paW];rfl
theorem qiv:∀ n,qm Try.prog 42 [enc n] (.bool (paW n)):=by
 refine N.ind fun n ih=>?_
 refine qh c0bo (by simp) (by simp only [go_sem]) rfl fun hw=>?_
 rw [q0x]
 repeat' (first | refine vs_ ?_ | ((first | refine vr_ ?_ | refine qa (qbv qe2 _) fun _=>?_ | refine qa (qbv qdo _) fun _=>?_ | refine qa (qt ih) fun _=>?_ | refine qa (qd2 _) fun _=>?_ | (refine cs_ ?_ ?_<;>intro hc) | refine cj_ ?_ | fail)<;>(try refine ev_ ?_)) | with_reducible exact ti_)
 all_goals simp_all [qdu,qjx]
/-! predicates, contexts, signatures -/
def prW (n:N):Bool:=decide (n.kind = 3) && decide (n.num = 0) && conW n.text && decide ((n.kids.length:Int) = 1) && tyW (n.kids.getD 0 N0)
theorem qe1 (n:N):qm Try.prog 51 [enc n] (.bool (prW n)):=by
 refine qh c0bp (by simp) (by simp only [go_sem]) rfl fun hw=>?_
 repeat' (first | refine vs_ ?_ | ((first | refine vr_ ?_ | refine qa (qbv qdo _) fun _=>?_ | refine qa (qb4 _) fun _=>?_ | (refine cs_ ?_ ?_<;>intro hc) | refine cj_ ?_ | simp (disch:=omega) only [qd,qo])<;>(try refine ev_ ?_)) | with_reducible exact ti_)
 all_goals simp_all [qdu,prW]
def quW (n:N):Bool:=decide (n.kind = 4) && qjx n && decide (0≤(n.kids.length:Int) - 1) && (n.kids.take ((n.kids.length:Int) - 1).toNat).all prW && tyW (n.kids.getD ((n.kids.length:Int) - 1).toNat N0)
theorem qoj (n:N):qm Try.prog 41 [enc n] (.bool (quW n)):=by
 refine qh c0bq (by simp) (by simp only [go_sem]) rfl fun hw=>?_
 have hkl:n.kids.length≤maxLen:=((qfv n).1 hw.1).1
 repeat' (first | refine vs_ ?_ | ((first | refine vr_ ?_ | refine qa (qd2 _) fun _=>?_ | refine qa (qt fun x _=>qe1 x) fun _=>?_ | refine qa (qb4 _) fun _=>?_ | simp (disch:=omega) only [qbbc] | (refine cs_ ?_ ?_<;>intro hc) | refine cj_ ?_ | simp (disch:=omega) only [qd,qo])<;>(try refine ev_ ?_)) | with_reducible exact ti_)
 all_goals first | (simp only [quW, *,decide_true,decide_false,Bool.and_true,Bool.true_and,Bool.and_false,Bool.false_and,Bool.or_true,Bool.true_or,Bool.or_false,Bool.false_or,Bool.not_true,Bool.not_false,if_true,if_false,reduceIte,Int.reduceEq];done) | (simp_all [quW];done) | (simp_all [quW];omega)
def sgW (n:N):Bool:=decide (n.kind = 32) && decide (n.num = 0) && varW n.text && decide ((n.kids.length:Int) = 1) && quW (n.kids.getD 0 N0)
theorem qdj (n:N):qm Try.prog 26 [enc n] (.bool (sgW n)):=by
 refine qh c0br (by simp) (by simp only [go_sem]) rfl fun hw=>?_
 repeat' (first | refine vs_ ?_ | ((first | refine vr_ ?_ | refine qa (qbv qe2 _) fun _=>?_ | refine qa (qoj _) fun _=>?_ | (refine cs_ ?_ ?_<;>intro hc) | refine cj_ ?_ | simp (disch:=omega) only [qd,qo])<;>(try refine ev_ ?_)) | with_reducible exact ti_)
 all_goals first | (simp only [qdu,sgW, *,decide_true,decide_false,Bool.and_true,Bool.true_and,Bool.and_false,Bool.false_and,Bool.or_true,Bool.true_or,Bool.or_false,Bool.false_or,Bool.not_true,Bool.not_false,if_true,if_false,reduceIte,Int.reduceEq];done) | (simp_all [qdu,sgW];done) | (simp_all [qdu,sgW];omega)
set_option maxRecDepth 4000

abbrev T3:=Bool×Bool×Bool
def d3:T3×N:=((false,false,false),N0)
mutual
def eba:N->T3
 | .mk k _ n t ks =>
   let l:=(ebas ks).zip ks
   (if k = 21 then decide (n = 0) && varW t && decide ((ks.length : Int) = 0)
    else if k = 22 then decide (n = 0) && conW t && decide ((ks.length:Int) = 0)
    else if k = 23 then decide (t = []) && decide (0≤n) && decide ((ks.length:Int) = 0)
    else if k = 24 then decide (t = []) && decide (n = 0) && decide ((ks.length:Int) = 2) && l.all (·.1.1)
    else if k = 25 then decide (n = 0) && varW t && decide ((ks.length:Int) = 1) && (l.getD 0 d3).1.1
    else if k = 26 then decide (t = []) && decide (n = 0) && decide (2≤(ks.length:Int)) && (l.take ((ks.length:Int) - 1).toNat).all (fun p=>p.1.2.1 || sgW p.2) && (l.getD ((ks.length:Int) - 1).toNat d3).1.1
    else if k = 27 then decide (t = []) && decide (n = 0) && decide (2≤(ks.length:Int)) && (l.getD 0 d3).1.1 && (l.drop 1).all (·.1.2.2)
    else if k = 28 then decide (t = []) && decide (n = 0) && decide ((ks.length:Int) = 3) && l.all (·.1.1)
    else false,
    decide (k = 31) && decide (n = 0) && varW t && decide ((ks.length:Int) = 1) && (l.getD 0 d3).1.1,
    decide (k = 15) && decide (t = []) && decide (n = 0) && decide ((ks.length:Int) = 2) && paW (l.getD 0 d3).2 && (l.getD 1 d3).1.1)
def ebas:List N->List T3
 | []=>[]
 | x :: r=>eba x :: ebas r
end
def exW (n:N):Bool:=(eba n).1
def biW (n:N):Bool:=(eba n).2.1
def alW (n:N):Bool:=(eba n).2.2
theorem qlr (l:List N):(ebas l).zip l = l.map fun x=>(eba x,x):=by
 induction l with
 | nil=>rfl
 | cons x r ih=>rw [ebas,List.zip_cons_cons,ih];rfl
theorem qfl {l:List N} {i:Nat} (h:i < l.length):(l.map fun x=>(eba x,x)).getD i d3 = (eba (l.getD i N0),l.getD i N0):=by
 rw [List.getD_eq_getElem?_getD,List.getElem?_map,List.getElem?_eq_getElem h,List.getD_eq_getElem?_getD,List.getElem?_eq_getElem h];rfl
theorem qp6 {c a b:Bool} (h:c = true->a = b):(c && a) = (c && b):=by cases c<;>simp_all
theorem q1i (n:N):exW n = if n.kind = 21 then decide (n.num = 0) && varW n.text && decide ((n.kids.length:Int) = 0)
 else if n.kind = 22 then decide (n.num = 0) && conW n.text && decide ((n.kids.length:Int) = 0)
 else if n.kind = 23 then decide (n.text = []) && decide (0≤n.num) && decide ((n.kids.length:Int) = 0)
 else if n.kind = 24 then decide (n.text = []) && decide (n.num = 0) && decide ((n.kids.length:Int) = 2) && n.kids.all exW
 else if n.kind = 25 then decide (n.num = 0) && varW n.text && decide ((n.kids.length:Int) = 1) && exW (n.kids.getD 0 N0)
 else if n.kind = 26 then decide (n.text = []) && decide (n.num = 0) && decide (2≤(n.kids.length:Int)) && (n.kids.take ((n.kids.length:Int) - 1).toNat).all (fun x=>biW x || sgW x) && exW (n.kids.getD ((n.kids.length:Int) - 1).toNat N0)
 else if n.kind = 27 then decide (n.text = []) && decide (n.num = 0) && decide (2≤(n.kids.length:Int)) && exW (n.kids.getD 0 N0) && (n.kids.drop 1).all alW
 else if n.kind = 28 then decide (n.text = []) && decide (n.num = 0) && decide ((n.kids.length:Int) = 3) && n.kids.all exW
 else false:=by
 obtain ⟨k,p,m,t,ks⟩:=n
 simp only [exW,eba,N.kind,N.num,N.text,N.kids,qlr,← List.map_take,← List.map_drop,List.all_map]
 have h0:∀ (c:Int),1≤c->decide ((ks.length:Int) = c) = true->((ks.map fun x=>(eba x,x)).getD 0 d3).1.1 = (eba (ks.getD 0 N0)).1:=fun c h1 h=>by
  simp only [decide_eq_true_eq] at h
  rw [qfl (by omega)]
 have h2:decide (2≤(ks.length:Int)) = true->((ks.map fun x=>(eba x,x)).getD 0 d3).1.1 = (eba (ks.getD 0 N0)).1:=fun h=>by
  simp only [decide_eq_true_eq] at h
  rw [qfl (by omega)]
 have h3:decide (2≤(ks.length:Int)) = true->((ks.map fun x=>(eba x,x)).getD ((ks.length:Int) - 1).toNat d3).1.1 = (eba (ks.getD ((ks.length:Int) - 1).toNat N0)).1:=fun h=>by
  simp only [decide_eq_true_eq] at h
  rw [qfl (by omega)]
 repeat' (refine ite_congr rfl (fun _=>?_) (fun _=>?_))
 all_goals first
  | rfl
  | (refine qp6 fun h=>h0 1 (by omega) ?_;simp only [Bool.and_eq_true] at h;exact h.2)
  | (refine qp6 fun h=>h3 ?_;simp only [Bool.and_eq_true] at h;exact h.1.2)
  | (refine congrArg (· && _) (qp6 fun h=>h2 ?_);simp only [Bool.and_eq_true] at h;exact h.2)
theorem q08 (n:N):biW n = (decide (n.kind = 31) && decide (n.num = 0) && varW n.text && decide ((n.kids.length:Int) = 1) && exW (n.kids.getD 0 N0)):=by
 obtain ⟨k,p,m,t,ks⟩:=n
 simp only [biW,exW,eba,N.kind,N.num,N.text,N.kids,qlr]
 refine qp6 fun h=>?_
 simp only [Bool.and_eq_true,decide_eq_true_eq] at h
 rw [qfl (by omega)]
theorem q04 (n:N):alW n = (decide (n.kind = 15) && decide (n.text = []) && decide (n.num = 0) && decide ((n.kids.length:Int) = 2) && paW (n.kids.getD 0 N0) && exW (n.kids.getD 1 N0)):=by
 obtain ⟨k,p,m,t,ks⟩:=n
 simp only [alW,exW,eba,N.kind,N.num,N.text,N.kids,qlr]
 by_cases h:(ks.length:Int) = 2
 ·rw [qfl (by omega),qfl (by omega)];rfl
 ·simp [h]

theorem ql1 {x:N} (h:qm Try.prog 25 [enc x] (.bool (biW x))):qm Try.prog 24 [enc x] (.bool (biW x || sgW x)):=by
 refine qh c0bj (by simp) (by simp only [go_sem]) rfl fun hw=>?_
 repeat' (first | refine vs_ ?_ | ((first | refine vr_ ?_ | refine qa h fun _=>?_ | refine qa (qdj x) fun _=>?_ | (refine cs_ ?_ ?_<;>intro hc) | refine cj_ ?_ | fail)<;>(try refine ev_ ?_)) | with_reducible exact ti_)
 all_goals first | (simp only [*,decide_true,decide_false,Bool.and_true,Bool.true_and,Bool.and_false,Bool.false_and,Bool.or_true,Bool.true_or,Bool.or_false,Bool.false_or,Bool.not_true,Bool.not_false,if_true,if_false,reduceIte,Int.reduceEq];done) | (simp_all [];done) | (simp_all [];omega)

set_option maxHeartbeats 2000000 in
theorem qjz {n:N} (ih:∀ x∈n.kids,qm Try.prog 11 [enc x] (.bool (exW x))) (iha:∀ x∈n.kids,qm Try.prog 27 [enc x] (.bool (alW x))) (ihw:∀ x∈n.kids,qm Try.prog 24 [enc x] (.bool (biW x || sgW x))) :
 qm Try.prog 11 [enc n] (.bool (exW n)):=by
 refine qh c0bk (by simp) (by simp only [go_sem]) rfl fun hw=>?_
 have hkl:n.kids.length≤maxLen:=((qfv n).1 hw.1).1
 repeat' (first | refine vs_ ?_ | ((first | refine vr_ ?_ | refine qa (qbv qe2 _) fun _=>?_ | refine qa (qbv qdo _) fun _=>?_ | refine qa (qd2 _) fun _=>?_ | refine qa (ih _ (qe (by omega))) fun _=>?_ | refine qa (qt ih) fun _=>?_ | refine qa (qt (f:=alW) fun x hx=>iha x (List.mem_of_mem_drop hx)) fun _=>?_ | refine qa (qt (f:=fun x=>biW x || sgW x) fun x hx=>ihw x (List.mem_of_mem_take hx)) fun _=>?_ | simp (disch:=omega) only [qbbc] | (refine cs_ ?_ ?_<;>intro hc) | refine cj_ ?_ | simp (disch:=omega) only [qd,qo])<;>(try refine ev_ ?_)) | with_reducible exact ti_)
 all_goals clear ih iha ihw hw hkl
 all_goals rw [q1i n]
 all_goals (try simp only [qdu,qjx] at *)
 all_goals first | (simp only [*,decide_true,decide_false,Bool.and_true,Bool.true_and,Bool.and_false,Bool.false_and,Bool.or_true,Bool.true_or,Bool.or_false,Bool.false_or,Bool.not_true,Bool.not_false,if_true,if_false,reduceIte,Int.reduceEq];done) | (simp_all [];done) | (simp_all [];omega)

theorem qd0:∀ n,qm Try.prog 11 [enc n] (.bool (exW n))∧qm Try.prog 25 [enc n] (.bool (biW n))∧qm Try.prog 27 [enc n] (.bool (alW n)):=by
 refine N.ind fun n ih=>⟨qjz (fun x hx=>(ih x hx).1) (fun x hx=>(ih x hx).2.2) (fun x hx=>ql1 (ih x hx).2.1),?_,?_⟩
 ·refine qh c0bl (by simp) (by simp only [go_sem]) rfl fun hw=>?_
  rw [q08 n]
  repeat' (first | refine vs_ ?_ | ((first | refine vr_ ?_ | refine qa (qbv qe2 _) fun _=>?_ | refine qa (ih _ (qe (by omega))).1 fun _=>?_ | refine qc (ih _ (qe (by omega))).1 ?_ | (refine cs_ ?_ ?_<;>intro hc) | refine cj_ ?_ | simp (disch:=omega) only [qd,qo])<;>(try refine ev_ ?_)) | with_reducible exact ti_)
  all_goals first | (simp only [qdu, *,decide_true,decide_false,Bool.and_true,Bool.true_and,Bool.and_false,Bool.false_and,Bool.or_true,Bool.true_or,Bool.or_false,Bool.false_or,Bool.not_true,Bool.not_false,if_true,if_false,reduceIte,Int.reduceEq];done) | (simp_all [qdu];done) | (simp_all [qdu];omega)
 ·refine qh c0bm (by simp) (by simp only [go_sem]) rfl fun hw=>?_
  rw [q04 n]
  repeat' (first | refine vs_ ?_ | ((first | refine vr_ ?_ | refine qa (qd2 _) fun _=>?_ | refine qa (qiv _) fun _=>?_ | refine qa (ih _ (qe (by omega))).1 fun _=>?_ | refine qc (ih _ (qe (by omega))).1 ?_ | (refine cs_ ?_ ?_<;>intro hc) | refine cj_ ?_ | simp (disch:=omega) only [qd,qo])<;>(try refine ev_ ?_)) | with_reducible exact ti_)
  all_goals first | (simp only [qjx, *,decide_true,decide_false,Bool.and_true,Bool.true_and,Bool.and_false,Bool.false_and,Bool.or_true,Bool.true_or,Bool.or_false,Bool.false_or,Bool.not_true,Bool.not_false,if_true,if_false,reduceIte,Int.reduceEq];done) | (simp_all [qjx];done) | (simp_all [qjx];omega)


set_option maxRecDepth 4000

def vaW (n:N):Bool:=decide (n.kind = 1) && tyW n
theorem qei (n:N):qm Try.prog 62 [enc n] (.bool (vaW n)):=by
 refine qh c0bc (by simp) (by simp only [go_sem]) rfl fun hw=>?_
 repeat' (first | refine vs_ ?_ | ((first | refine vr_ ?_ | refine qa (qb4 _) fun _=>?_ | (refine cs_ ?_ ?_<;>intro hc) | refine cj_ ?_ | fail)<;>(try refine ev_ ?_)) | with_reducible exact ti_)
 all_goals first | (simp only [vaW, *,decide_true,decide_false,Bool.and_true,Bool.true_and,Bool.and_false,Bool.false_and,Bool.or_true,Bool.true_or,Bool.or_false,Bool.false_or,Bool.not_true,Bool.not_false,if_true,if_false,reduceIte,Int.reduceEq];done) | (simp_all [vaW];done) | (simp_all [vaW];omega)
def cnW (n:N):Bool:=decide (n.kind = 34) && qdu n conW && n.kids.all tyW
theorem qd8 (n:N):qm Try.prog 63 [enc n] (.bool (cnW n)):=by
 refine qh c0bd (by simp) (by simp only [go_sem]) rfl fun hw=>?_
 repeat' (first | refine vs_ ?_ | ((first | refine vr_ ?_ | refine qa (qbv qdo _) fun _=>?_ | refine qa (qt fun x _=>qb4 x) fun _=>?_ | (refine cs_ ?_ ?_<;>intro hc) | refine cj_ ?_ | fail)<;>(try refine ev_ ?_)) | with_reducible exact ti_)
 all_goals first | (simp only [cnW, *,decide_true,decide_false,Bool.and_true,Bool.true_and,Bool.and_false,Bool.false_and,Bool.or_true,Bool.true_or,Bool.or_false,Bool.false_or,Bool.not_true,Bool.not_false,if_true,if_false,reduceIte,Int.reduceEq];done) | (simp_all [cnW];done) | (simp_all [cnW];omega)
def deW (n:N):Bool :=
 if n.kind = 31 then biW n else if n.kind = 32 then sgW n
 else conW n.text && !decide (n.num < 0) && !decide ((n.kids.length:Int)≤n.num) &&
  (if n.kind = 33 then (n.kids.take n.num.toNat).all vaW && cnW (n.kids.getD n.num.toNat N0) && (n.kids.drop (n.num + 1).toNat).all cnW
   else if n.kind = 35 then (n.kids.take n.num.toNat).all prW && vaW (n.kids.getD n.num.toNat N0) && (n.kids.drop (n.num + 1).toNat).all sgW
   else if n.kind = 36 then (n.kids.take n.num.toNat).all prW && tyW (n.kids.getD n.num.toNat N0) && (n.kids.drop (n.num + 1).toNat).all biW
   else false)
theorem qhm (n:N):qm Try.prog 48 [enc n] (.bool (deW n)):=by
 refine qh c0be (by simp) (by simp only [go_sem]) rfl fun hw=>?_
 have hkl:n.kids.length≤maxLen:=((qfv n).1 hw.1).1
 repeat' (first | refine vs_ ?_ | ((first | refine vr_ ?_ | fail)<;>(try simp (disch:=first | omega | (simp only [List.length_set,List.length_append,List.length_cons,List.length_nil];done) | (simp only [List.length_set,List.length_append,List.length_cons,List.length_nil];omega)) only [qd,qmf,go_sem,↓reduceIte])) | ((first | (refine cs_ ?_ ?_<;>intro hc) | refine cj_ ?_ | simp (disch:=omega) only [qd,qo] | refine qa (qd0 n).2.1 fun _=>?_ | refine qa (qdj n) fun _=>?_ | refine qa (qdo _) fun _=>?_ | refine qa (qt fun x _=>qei x) fun _=>?_ | refine qa (qt fun x _=>qe1 x) fun _=>?_ | refine qa (qt fun x _=>qd8 x) fun _=>?_ | refine qa (qt fun x _=>qdj x) fun _=>?_ | refine qa (qt (f:=biW) fun x _=>(qd0 x).2.1) fun _=>?_ | refine qa (qd8 _) fun _=>?_ | refine qa (qei _) fun _=>?_ | refine qa (qb4 _) fun _=>?_ | refine qc (qd0 n).2.1 ?_ | refine qc (qdj n) ?_ | refine qc (qdo _) ?_ | refine qc (qt fun x _=>qei x) ?_ | refine qc (qt fun x _=>qe1 x) ?_ | refine qc (qt fun x _=>qd8 x) ?_ | refine qc (qt fun x _=>qdj x) ?_ | refine qc (qt (f:=biW) fun x _=>(qd0 x).2.1) ?_ | refine qc (qd8 _) ?_ | refine qc (qei _) ?_ | refine qc (qb4 _) ?_)<;>(try refine ev_ ?_)) | with_reducible exact ti_)
 all_goals clear hw hkl
 all_goals simp only [deW]
 all_goals first | (simp only [*,decide_true,decide_false,Bool.and_true,Bool.true_and,Bool.and_false,Bool.false_and,Bool.or_true,Bool.true_or,Bool.or_false,Bool.false_or,Bool.not_true,Bool.not_false,if_true,if_false,reduceIte,Int.reduceEq];done) | (simp_all [];done) | (simp_all [];omega)

theorem qro (n:N):qm Try.prog 29 [enc n] (.bool (lowW n && tyW n)):=by
 refine qh c0bf (by simp) (by simp only [go_sem]) rfl fun hw=>?_
 repeat' (first | refine vs_ ?_ | ((first | refine vr_ ?_ | refine qa (qgc _) fun _=>?_ | refine qa (qb4 _) fun _=>?_ | (refine cs_ ?_ ?_<;>intro hc) | refine cj_ ?_ | fail)<;>(try refine ev_ ?_)) | with_reducible exact ti_)
 all_goals first | (simp only [*,decide_true,decide_false,Bool.and_true,Bool.true_and,Bool.and_false,Bool.false_and,Bool.or_true,Bool.true_or,Bool.or_false,Bool.false_or,Bool.not_true,Bool.not_false,if_true,if_false,reduceIte,Int.reduceEq];done) | (simp_all [];done) | (simp_all [];omega)
theorem qwl (n:N):qm Try.prog 33 [enc n] (.bool (lowW n && paW n)):=by
 refine qh c0bg (by simp) (by simp only [go_sem]) rfl fun hw=>?_
 repeat' (first | refine vs_ ?_ | ((first | refine vr_ ?_ | refine qa (qgc _) fun _=>?_ | refine qa (qiv _) fun _=>?_ | (refine cs_ ?_ ?_<;>intro hc) | refine cj_ ?_ | fail)<;>(try refine ev_ ?_)) | with_reducible exact ti_)
 all_goals first | (simp only [*,decide_true,decide_false,Bool.and_true,Bool.true_and,Bool.and_false,Bool.false_and,Bool.or_true,Bool.true_or,Bool.or_false,Bool.false_or,Bool.not_true,Bool.not_false,if_true,if_false,reduceIte,Int.reduceEq];done) | (simp_all [];done) | (simp_all [];omega)
theorem qiz (n:N):qm Try.prog 5 [enc n] (.bool (lowW n && exW n)):=by
 refine qh c0bh (by simp) (by simp only [go_sem]) rfl fun hw=>?_
 repeat' (first | refine vs_ ?_ | ((first | refine vr_ ?_ | refine qa (qgc _) fun _=>?_ | refine qa (qd0 _).1 fun _=>?_ | refine qc (qd0 _).1 ?_ | (refine cs_ ?_ ?_<;>intro hc) | refine cj_ ?_ | fail)<;>(try refine ev_ ?_)) | with_reducible exact ti_)
 all_goals first | (simp only [*,decide_true,decide_false,Bool.and_true,Bool.true_and,Bool.and_false,Bool.false_and,Bool.or_true,Bool.true_or,Bool.or_false,Bool.false_or,Bool.not_true,Bool.not_false,if_true,if_false,reduceIte,Int.reduceEq];done) | (simp_all [];done) | (simp_all [];omega)
def qe9 (n:N):Bool:=if n.kind = 37 then lowW n && qjx n && n.kids.all deW else lowW n && deW n
theorem qha (n:N):qm Try.prog 30 [enc n] (.bool (qe9 n)):=by
 refine qh c0bi (by simp) (by simp only [go_sem]) rfl fun hw=>?_
 repeat' (first | refine vs_ ?_ | ((first | refine vr_ ?_ | refine qa (qgc _) fun _=>?_ | refine qa (qd2 _) fun _=>?_ | refine qa (qhm _) fun _=>?_ | refine qa (qt fun x _=>qhm x) fun _=>?_ | (refine cs_ ?_ ?_<;>intro hc) | refine cj_ ?_ | fail)<;>(try refine ev_ ?_)) | with_reducible exact ti_)
 all_goals first | (simp only [qe9, *,decide_true,decide_false,Bool.and_true,Bool.true_and,Bool.and_false,Bool.false_and,Bool.or_true,Bool.true_or,Bool.or_false,Bool.false_or,Bool.not_true,Bool.not_false,if_true,if_false,reduceIte,Int.reduceEq];done) | (simp_all [qe9];done) | (simp_all [qe9];omega)

mutual
def sz:N->Nat
 | .mk _ _ _ _ ks=>szs ks + 1
def szs:List N->Nat
 | []=>0
 | x :: r=>sz x + szs r
end
mutual
def dp:N->Nat
 | .mk _ _ _ _ ks=>dps ks + 1
def dps:List N->Nat
 | []=>0
 | x :: r=>max (dp x) (dps r)
end
theorem qfc (n:N):sz n = szs n.kids + 1:=by cases n;rw [sz];rfl
theorem qj6 (n:N):dp n = dps n.kids + 1:=by cases n;rw [dp];rfl
theorem q1e (n:N):1≤sz n:=by rw [qfc];omega
theorem qvt:∀ l:List N,l.length≤szs l
 | []=>Nat.le_refl _
 | x :: r=>by have:=qvt r;have:=q1e x;simp only [szs,List.length_cons];omega
theorem qpo:∀ {l:List N} {x:N},x∈l->sz x≤szs l
 | y :: r, x, h => by
   simp only [szs]
   rcases List.mem_cons.1 h with rfl | h
   ·omega
   ·have:=qpo h;omega
theorem qo1:∀ {l:List N},(∀ x∈l,dp x≤sz x)->dps l≤szs l
 | [],_=>Nat.le_refl _
 | x :: r, h => by
   have h1:=h x (by simp)
   have h2:=qo1 (l:=r) fun y hy=>h y (by simp [hy])
   simp only [dps,szs];omega
theorem qbg6:∀ n,dp n≤sz n:=N.ind fun n ih=>by rw [qj6,qfc];have:=qo1 ih;omega

theorem qgo {z:Int} (h0:-1≤z) (h1:z≤1000000000):IntKind.i64.wrap z = z:=by
 simp [IntKind.wrap,IntKind.signed,IntKind.bits]
 omega

theorem qzr:∀ n k,0≤k->k≤1000000->-1≤cntW n k∧cntW n k≤k∧(0≤cntW n k->cntW n k = k - sz n):=by
 refine N.ind fun n ih k h0 h1=>?_
 rw [qtj,qgo (by omega) (by omega),qfc]
 have key:∀ (l:List N),(∀ x∈l,∀ k,0≤k->k≤1000000->-1≤cntW x k∧cntW x k≤k∧(0≤cntW x k->cntW x k = k - sz x))->∀ a:Int,-1≤a->a≤1000000->-1≤qgv a l∧qgv a l≤a∧(0≤qgv a l->qgv a l = a - szs l):=by
  intro l
  induction l with
  | nil=>intro _ a h0 h1;simp only [qgv,szs];omega
  | cons x r ihr =>
    intro hx a h0 h1
    simp only [qgv,szs]
    split
    ·obtain ⟨q1,q2,q3⟩:=hx x (by simp) a (by omega) (by omega)
     obtain ⟨r1,r2,r3⟩:=ihr (fun y hy=>hx y (by simp [hy])) (cntW x a) (by omega) (by omega)
     refine ⟨by omega,by omega,fun h=>?_⟩
     have:=r3 h
     have:=q3 (by omega)
     omega
    ·exact ⟨by omega,by omega,fun h=>by omega⟩
 obtain ⟨q1,q2,q3⟩:=key n.kids ih (k - 1) (by omega) (by omega)
 exact ⟨by omega,by omega,fun h=>by have:=q3 h;omega⟩
theorem qkx {n:N} (h:fewW n = true):sz n≤3000:=by
 simp only [fewW,decide_eq_true_eq] at h
 obtain ⟨_,q2,q3⟩:=qzr n 3000 (by omega) (by omega)
 have:=q3 h
 omega
theorem qx0:∀ n,sz n≤1000000->qpm n = sz n:=N.ind fun n ih h=>by
 rw [qzf,qfc]
 rw [qfc] at h
 have key:∀ (l:List N),(∀ x∈l,sz x≤1000000->qpm x = sz x)->∀ a:Int,1≤a->a + szs l≤1000001->qkp a l = a + szs l:=by
  intro l
  induction l with
  | nil=>intro _ a h0 h1;simp [qkp,szs]
  | cons x r ihr =>
    intro hx a h0 h1
    simp only [qkp,szs] at h1 ⊢
    rw [hx x (by simp) (by omega),qgo (by omega) (by omega),ihr (fun y hy=>hx y (by simp [hy])) _ (by omega) (by omega)]
    omega
 rw [key n.kids ih 1 (by omega) (by omega)]
 omega
def szF:Int->Int->N->Int×Bool:=fun k _ _=>(IntKind.i64.wrap (k + 1),true)
theorem q53:∀ n l (s:Int),0≤s->s + sz n≤2000000->qb0 szF n l s = (s + sz n,true):=N.ind fun n ih l s h0 h1=>by
 rw [qem,qfc]
 rw [qfc] at h1
 simp only [szF,if_true]
 have key:∀ (r:List N),(∀ x∈r,∀ l (s:Int),0≤s->s + sz x≤2000000->qb0 szF x l s = (s + sz x,true))->∀ l (s:Int),0≤s->s + szs r≤2000000->qb9 szF l r s = (s + szs r,true):=by
  intro r
  induction r with
  | nil=>intro _ l s _ _;simp [qb9,szs]
  | cons x r ihr =>
    intro hx l s h0 h1
    simp only [qb9,szs] at h1 ⊢
    rw [hx x (by simp) _ _ h0 (by omega),if_pos rfl,ihr (fun y hy=>hx y (by simp [hy])) _ _ (by omega) (by omega)]
    simp only [Prod.mk.injEq,and_true];omega
 have:=key n.kids ih (IntKind.i64.wrap (l + 1)) (IntKind.i64.wrap (s + 1)) (by rw [qgo (by omega) (by omega)];omega) (by rw [qgo (by omega) (by omega)];omega)
 rw [this,qgo (by omega) (by omega)]
 simp only [Prod.mk.injEq,and_true];omega
theorem qbgd {n:N} (h:sz n≤3000):(qb0 (fun (k:Int) _ _=>(IntKind.i64.wrap (k + 1),true)) n 1 0).1 = qpm n:=by
 show (qb0 szF n 1 0).1 = qpm n
 rw [q53 n 1 0 (by omega) (by omega),qx0 n (by omega)];simp

theorem qmd:∀ n,sz n≤1000000->depR n = dp n:=N.ind fun n ih h=>by
 rw [q61,qj6]
 rw [qfc] at h
 have key:∀ (l:List N),(∀ x∈l,sz x≤1000000->depR x = dp x)->szs l≤1000000->∀ a:Int,0≤a->qr3 a l = max a (dps l):=by
  intro l
  induction l with
  | nil=>intro _ _ a h0;simp [qr3,dps];omega
  | cons x r ihr =>
    intro hx hs a h0
    simp only [szs] at hs
    simp only [qr3,dps]
    rw [hx x (by simp) (by omega)]
    have:=ihr (fun y hy=>hx y (by simp [hy])) (by omega)
    split
    ·rw [this _ (by omega)];omega
    ·rw [this _ (by omega)];omega
 have hd:=qo1 (l:=n.kids) fun x _=>qbg6 x
 rw [key n.kids ih (by omega) 0 (by omega),qgo (by omega) (by omega)]
 omega
def dpF:Int->Int->N->Int×Bool:=fun k l _=>(if l > k then l else k,true)
theorem q2z:∀ n (l s:Int),0≤l->l + sz n≤2000000->qb0 dpF n l s = (max s (l + dp n - 1),true):=N.ind fun n ih l s h0 h1=>by
 rw [qem,qj6]
 rw [qfc] at h1
 simp only [dpF,if_true]
 have key:∀ (r:List N),(∀ x∈r,∀ (l s:Int),0≤l->l + sz x≤2000000->qb0 dpF x l s = (max s (l + dp x - 1),true))->∀ (l s:Int),0≤l->l + szs r≤2000000->l - 1≤s->qb9 dpF l r s = (max s (l + dps r - 1),true):=by
  intro r
  induction r with
  | nil=>intro _ l s _ _ h;simp only [qb9,dps,Prod.mk.injEq,and_true];omega
  | cons x r ihr =>
    intro hx l s h0 h1 h2
    simp only [szs] at h1
    simp only [qb9,dps]
    rw [hx x (by simp) _ _ h0 (by omega),if_pos rfl,ihr (fun y hy=>hx y (by simp [hy])) _ _ (by omega) (by omega) (by omega)]
    simp only [Prod.mk.injEq,and_true];omega
 have:=key n.kids ih (IntKind.i64.wrap (l + 1)) (if l > s then l else s) (by rw [qgo (by omega) (by omega)];omega) (by rw [qgo (by omega) (by omega)];omega) (by rw [qgo (by omega) (by omega)];split<;>omega)
 rw [this,qgo (by omega) (by omega)]
 simp only [Prod.mk.injEq,and_true]
 split<;>omega
theorem qbfm {n:N} (h:sz n≤3000):(qb0 (fun (k:Int) l _=>(if l > k then l else k,true)) n 1 0).1 = depR n:=by
 show (qb0 dpF n 1 0).1 = depR n
 rw [q2z n 1 0 (by omega) (by omega),qmd n (by omega)]
 have:=qj6 n
 simp only;omega
theorem qy5:∀ n (l:Int) (s:Bool),0≤l->l + sz n≤2000000->(qb0 lowF n l s).2 = decide (l + dp n - 1≤100):=N.ind fun n ih l s h0 h1=>by
 rw [qem,qj6]
 rw [qfc] at h1
 have key:∀ (r:List N),(∀ x∈r,∀ (l:Int) (s:Bool),0≤l->l + sz x≤2000000->(qb0 lowF x l s).2 = decide (l + dp x - 1≤100))->∀ (l:Int) (s:Bool),0≤l->l + szs r≤2000000->l - 1≤100->(qb9 lowF l r s).2 = decide (l + dps r - 1≤100):=by
  intro r
  induction r with
  | nil=>intro _ l s _ _ h;simp only [qb9,dps];symm;simp;omega
  | cons x r ihr =>
    intro hx l s h0 h1 h2
    simp only [szs] at h1
    simp only [qb9,dps]
    rw [hx x (by simp) _ _ h0 (by omega)]
    split
    ·rename_i h3
     simp only [decide_eq_true_eq] at h3
     rw [ihr (fun y hy=>hx y (by simp [hy])) _ _ (by omega) (by omega) (by omega)]
     congr 1;simp only [eq_iff_iff];omega
    ·rename_i h3
     simp only [decide_eq_true_eq] at h3
     exact (decide_eq_false (by omega)).symm
 by_cases h2:(100:Int) < l
 ·simp only [lowF,h2,decide_true,Bool.not_true,Bool.false_eq_true,if_false]
  exact (decide_eq_false (by omega)).symm
 ·simp only [lowF,h2,decide_false,Bool.not_false,if_true]
  rw [key n.kids ih _ _ (by rw [qgo (by omega) (by omega)];omega) (by rw [qgo (by omega) (by omega)];omega) (by rw [qgo (by omega) (by omega)];omega),qgo (by omega) (by omega)]
  congr 1;simp only [eq_iff_iff];omega
theorem q54 {n:N} (h:sz n≤3000):lowW n = decide (depR n≤100):=by
 rw [lowW,qy5 n 1 false (by omega) (by omega),qmd n (by omega)]
 congr 1;simp only [eq_iff_iff];omega

def digW (l:List UInt8):Bool:=l.all fun c=>qbr c.toNat
def digV (c:UInt8):Int:=IntKind.i64.wrap (IntKind.u8.wrap ((c.toNat:Int) - 48))
def topV (c:UInt8):Int:=IntKind.i64.wrap ((IntKind.i64.wrap (9223372036854775807 - digV c)).tdiv 10)
def nxtV (k:Int) (c:UInt8):Int:=IntKind.i64.wrap (IntKind.i64.wrap (10 * k) + digV c)
def qgu:Int->List UInt8->Int×Int
 | k,[]=>(k,0)
 | k,c :: r=>if topV c < k then (0,4) else qgu (nxtV k c) r
def qrk (l:List UInt8):Int×Int:=if l = [] then (0,5) else if digW l = true then qgu 0 l else (0,5)
def qbgn (p:Int×Int):AV:=.tup [.int .i64 p.1,.int .i64 p.2]
theorem qvu {l:List UInt8} (h:l≠[]) (hd:digW l = true):qrk l = qgu 0 l:=by rw [qrk,if_neg h,if_pos hd]
end Go.Proofs.Ytlmcofjcpadmiaa
