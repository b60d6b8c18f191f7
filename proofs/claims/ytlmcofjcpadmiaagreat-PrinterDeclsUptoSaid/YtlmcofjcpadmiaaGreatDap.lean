/- Texts of this proof, joined. -/
import Derived.Test.YtlmcofjcpadmiaaGreatDao
import Derived.Test.YtlmcofjcpadmiaaGreatDaj
set_option linter.unusedVariables false
set_option linter.unusedSimpArgs false

/- trees: low, each, bare, named, plain -/
set_option maxRecDepth 4000
namespace Go.Proofs.YtlmcofjcpadmiaaGreat
open Go Go.RowKit Go.V

theorem qhc (l:List N) (i:Nat):(encs l).take i = encs (l.take i):=by rw [qd6,qd6,List.map_take]
theorem qf2 (l:List N) (i:Nat):(encs l).drop i = encs (l.drop i):=by rw [qd6,qd6,List.map_drop]
attribute [go_sem] qhc qf2
def qlp (n:N):Bool:=decide (n.text = []) && decide (n.num = 0)
theorem qg3 (n:N):qq Tryz.prog 67 [enc n] (.bool (qlp n)):=by
 refine qg c0bv (by simp) (by simp only [go_sem]) rfl fun hw=>?_
 repeat' (first | refine vs_ ?_ | ((first | refine vr_ ?_ | (refine cs_ ?_ ?_<;>intro hc) | refine cj_ ?_ | fail)<;>(try refine ev_ ?_)) | with_reducible exact ti_)
 all_goals simp_all [qlp]
def qgn (n:N) (f:List UInt8->Bool):Bool:=decide (n.num = 0) && f n.text
theorem qdl {so:FuncId} {f:List UInt8->Bool} (h:∀ l,qq Tryz.prog so [.str l] (.bool (f l))) (n:N):qq Tryz.prog 89 [enc n,.fn so [] []] (.bool (qgn n f)):=by
 refine qg c0bw (by simp) (by simp only [go_sem]) rfl fun hw=>?_
 repeat' (first | refine vs_ ?_ | ((first | refine vr_ ?_ | refine qa (h _) fun _=>?_ | (refine cs_ ?_ ?_<;>intro hc) | refine cj_ ?_ | fail)<;>(try refine ev_ ?_)) | with_reducible exact ti_)
 all_goals simp_all [qgn]
theorem qvo {l:List N} {f:N->Bool} {i:Nat} (h:i < l.length):(l.drop i).all f = (f (l.getD i N0) && (l.drop (i + 1)).all f):=by
 rw [qyd h,List.all_cons]

theorem qb1 {so:FuncId} {f:N->Bool} {l:List N} (h:∀ x∈l,qq Tryz.prog so [enc x] (.bool (f x))):qq Tryz.prog 68 [.sl 5 (encs l),.fn so [] []] (.bool (l.all f)):=by
 refine qg c0bx (by simp) (by simp only [go_sem]) rfl fun hw=>?_
 have hkl:l.length≤maxLen:=by have:=hw.1.1;rwa [q8] at this
 repeat' (first | refine vs_ ?_ | ((first | refine vr_ ?_ | (refine cs_ ?_ ?_<;>intro hc) | refine cj_ ?_ | simp (disch:=omega) only [qb,qm])<;>(try refine ev_ ?_)) | with_reducible exact ti_)
 refine qcc (S:=Nat) (fun i=>i≤l.length∧(l.drop i).all f = l.all f) (fun i=>(⟨[(1,.fn so [] []),(7,.sl 5 (encs l)),(8,.int .i64 l.length),(9,.int .i64 i)],[]⟩,[])) (fun i=>l.length - i) ?_ fun i hi=>?_
 ·refine qbl 0 [] ⟨Nat.zero_le _,rfl⟩ rfl (by simp) ?_ ?_ ?_<;>(try refine ev_ ?_)<;>(try with_reducible exact ti_)<;>(try simp (disch:=omega) only [qm,and_true,true_and])
 ·obtain ⟨hi,ha⟩:=hi
  repeat' (first | refine vs_ ?_ | ((first | refine vr_ ?_ | refine qa (h _ (qf (by omega))) fun _=>?_ | (refine cs_ ?_ ?_<;>intro hc) | refine cj_ ?_ | simp (disch:=omega) only [qb,qm])<;>(try refine ev_ ?_)) | with_reducible exact ti_)
  ·rw [← ha,qvo (by omega),hc];rfl
  ·refine qbl (i + 1) [] ⟨⟨by omega,?_⟩,by omega⟩ rfl (by simp) ?_ ?_ ?_<;>(try refine ev_ ?_)<;>(try with_reducible exact ti_)<;>(try simp (disch:=omega) only [qm,and_true,true_and])
   rw [← ha,qvo (l:=l) (i:=i) (by omega),hc,Bool.true_and]
  ·rw [← ha,List.drop_of_length_le (by omega)];rfl

/-! low -/
def yLow (n:N) (fn:FuncId) (asn bd:Code) (ha:qc0 Tryz.prog 10 asn = some q4q) (hb:qc0 Tryz.prog 10 bd = some q4z):Yld Bool where
 m:=5
 hs:=fun b=>[.blk (nc n),.blk [.bool false],.blk (nc n),.blk [.int .i64 1],.lp (if b then ⟨.done,some .ret,fn,[6,7].toArray,asn,bd⟩ else ⟨.ready,none,fn,[6,7].toArray,asn,bd⟩) (qjq 10 [(5,.fn 140 [] [.ptr 2 0,.ptr 3 0]),(4,enc n),(2,.ptr 1 0),(1,.ptr 0 0),(0,enc n)])]
 i:=4
 step:=fun k l _=>(decide (100 < l),!decide (100 < l))
 len:=fun _=>rfl
 bd:=fun k=>by cases k<;>(refine ev_ ?_;(try with_reducible exact ti_))
 lt:=by omega
 live:=fun b=>b = false
 keep:=fun s l n _ h=>by simpa using h
 app:=fun k l x hk=>by
  subst hk
  refine qrk (k:=5) rfl rfl qoh ha hb (by simp) (by simp) (by simp) fun lp=>?_
  repeat' (first | refine vs_ ?_ | ((first | refine vr_ ?_ | (refine cs_ ?_ ?_<;>intro hc) | refine cj_ ?_ | simp (disch:=omega) only [qb,qm])<;>(try refine ev_ ?_)) | with_reducible exact ti_)

def lowF:Bool->Int->N->Bool×Bool:=fun _ l _=>(decide (100 < l),!decide (100 < l))
def lowW (n:N):Bool:=(qc7 lowF n 1 false).2
theorem qbpd:∀ n l s,(qc7 lowF n l s).1 = !(qc7 lowF n l s).2:=by
 refine N.ind fun n ih l s=>?_
 rw [qgw]
 split
 ·rename_i h
  have key:∀ (r:List N),(∀ x∈r,∀ l s,(qc7 lowF x l s).1 = !(qc7 lowF x l s).2)->∀ (l:Int) (s:Bool),s = false->(qdr lowF l r s).1 = !(qdr lowF l r s).2:=by
   intro r
   induction r with
   | nil=>intro _ l s hs;subst hs;rfl
   | cons x r ihr =>
     intro hx l s hs
     rw [qdr]
     split
     ·rename_i h3
      exact ihr (fun x hx'=>hx x (by simp [hx'])) l _ (by rw [hx x (by simp),h3];rfl)
     ·rename_i h3
      simp only [Bool.not_eq_true] at h3
      rw [hx x (by simp),h3]
  exact key _ ih _ _ (by simpa [lowF] using h)
 ·rename_i h
  simpa [lowF] using h

theorem qkq (n:N):qq Tryz.prog 47 [enc n] (.bool (lowW n)):=by
 refine qg c0by (by simp) (by simp only [go_sem]) rfl fun hw=>?_
 repeat' (first | refine vs_ ?_ | ((first | refine vr_ ?_ | (refine cs_ ?_ ?_<;>intro hc) | refine cj_ ?_ | fail)<;>(try refine ev_ ?_)) | with_reducible exact ti_)
 refine qty (qb70 n 1) (by simp only [go_sem]) ?_
 rintro H1 o ⟨rfl,rfl⟩
 (refine ev_ ?_;(try with_reducible exact ti_))
 refine qtw (q5d rfl (Nat.zero_le _) fun fn asn bd ha hb=>?_)
 refine VCalls.mono (qcbe (yLow n fn asn bd ha hb) (n:=n) (l:=1) (s:=false) (p:=2) (q:=3) rfl rfl rfl) ?_
 rintro H1 o ⟨rfl,rfl⟩
 have hlow:=qbpd n 1 false
 rw [show qc7 (yLow n fn asn bd ha hb).step n 1 false = qc7 lowF n 1 false from rfl,lowW]
 generalize qc7 lowF n 1 false = pq at hlow ⊢
 obtain ⟨p,q⟩:=pq
 simp only at hlow
 subst hlow
 cases q
 ·simp only [yLow,Bool.not_false,go_sem,↓reduceIte]
 ·simp only [yLow,Bool.not_true,go_sem,↓reduceIte]
  repeat' (first | refine vs_ ?_ | ((first | refine vr_ ?_ | (refine cs_ ?_ ?_<;>intro hc) | refine cj_ ?_ | fail)<;>(try refine ev_ ?_)) | with_reducible exact ti_)
set_option maxRecDepth 4000

theorem qb95 {i:Nat} (h:i≤maxLen):IntKind.i64.wrap ((i:Int) - 1) = (i:Int) - 1:=by
 unfold maxLen at h
 simp [IntKind.wrap,IntKind.signed,IntKind.bits]
 omega
mutual
def tyW:N->Bool
 | .mk k _ n t ks => if k = 1 then decide (n = 0) && varW t && decide ((ks.length : Int) = 0)
   else if k = 2∧n = 0 then (if t = [45,62] then decide ((ks.length:Int) = 2) else conW t) && tysW ks else false
def tysW:List N->Bool
 | []=>true
 | x :: r=>tyW x && tysW r
end
theorem qbd5 (l:List N):tysW l = l.all tyW:=by
 induction l with
 | nil=>rfl
 | cons x r ih=>rw [tysW,ih];rfl
theorem qvu (n:N):tyW n = if n.kind = 1 then decide (n.num = 0) && varW n.text && decide ((n.kids.length:Int) = 0)
 else if n.kind = 2∧n.num = 0 then (if n.text = [45,62] then decide ((n.kids.length:Int) = 2) else conW n.text) && n.kids.all tyW else false:=by
 rw [← qbd5];cases n;rw [tyW];rfl

theorem qds:∀ n,qq Tryz.prog 48 [enc n] (.bool (tyW n)):=by
 refine N.ind fun n ih=>?_
 refine qg c0bq (by simp) (by simp only [go_sem]) rfl fun hw=>?_
 rw [qvu]
 repeat' (first | refine vs_ ?_ | ((first | refine vr_ ?_ | refine qa (qdl qiz _) fun _=>?_ | refine qa (qb1 ih) fun _=>?_ | refine qa (qfh _) fun _=>?_ | (refine cs_ ?_ ?_<;>intro hc) | refine cj_ ?_ | fail)<;>(try refine ev_ ?_)) | with_reducible exact ti_)
 all_goals simp_all [qgn]

/-! patterns -/
mutual
def paW:N->Bool
 | .mk k _ n t ks => if k = 11 then decide (n = 0) && varW t && decide ((ks.length : Int) = 0)
   else if k = 12 then decide (t = []) && decide (n = 0) && decide ((ks.length:Int) = 0)
   else if k = 13 then decide (t = []) && decide (0≤n) && decide ((ks.length:Int) = 0)
   else if k = 14 then decide (n = 0) && conW t && pasW ks else false
def pasW:List N->Bool
 | []=>true
 | x :: r=>paW x && pasW r
end
theorem qbek (l:List N):pasW l = l.all paW:=by
 induction l with
 | nil=>rfl
 | cons x r ih=>rw [pasW,ih];rfl
theorem qbik (n:N):paW n = if n.kind = 11 then decide (n.num = 0) && varW n.text && decide ((n.kids.length:Int) = 0)
 else if n.kind = 12 then decide (n.text = []) && decide (n.num = 0) && decide ((n.kids.length:Int) = 0)
 else if n.kind = 13 then decide (n.text = []) && decide (0≤n.num) && decide ((n.kids.length:Int) = 0)
 else if n.kind = 14 then decide (n.num = 0) && conW n.text && n.kids.all paW else false:=by
 rw [← qbek];cases n;rw [paW];rfl
theorem qpb:∀ n,qq Tryz.prog 51 [enc n] (.bool (paW n)):=by
 refine N.ind fun n ih=>?_
 refine qg c0br (by simp) (by simp only [go_sem]) rfl fun hw=>?_
 rw [qbik]
 repeat' (first | refine vs_ ?_ | ((first | refine vr_ ?_ | refine qa (qdl qiz _) fun _=>?_ | refine qa (qdl qfh _) fun _=>?_ | refine qa (qb1 ih) fun _=>?_ | refine qa (qg3 _) fun _=>?_ | (refine cs_ ?_ ?_<;>intro hc) | refine cj_ ?_ | fail)<;>(try refine ev_ ?_)) | with_reducible exact ti_)
 all_goals simp_all [qgn,qlp]
/-! predicates, contexts, signatures -/
def prW (n:N):Bool:=decide (n.kind = 3) && decide (n.num = 0) && conW n.text && decide ((n.kids.length:Int) = 1) && tyW (n.kids.getD 0 N0)
theorem qi6 (n:N):qq Tryz.prog 112 [enc n] (.bool (prW n)):=by
 refine qg c0bs (by simp) (by simp only [go_sem]) rfl fun hw=>?_
 repeat' (first | refine vs_ ?_ | ((first | refine vr_ ?_ | refine qa (qdl qfh _) fun _=>?_ | refine qa (qds _) fun _=>?_ | (refine cs_ ?_ ?_<;>intro hc) | refine cj_ ?_ | simp (disch:=omega) only [qb,qm])<;>(try refine ev_ ?_)) | with_reducible exact ti_)
 all_goals simp_all [qgn,prW]
def quW (n:N):Bool:=decide (n.kind = 4) && qlp n && decide (0≤(n.kids.length:Int) - 1) && (n.kids.take ((n.kids.length:Int) - 1).toNat).all prW && tyW (n.kids.getD ((n.kids.length:Int) - 1).toNat N0)
theorem qt4 (n:N):qq Tryz.prog 157 [enc n] (.bool (quW n)):=by
 refine qg c0bt (by simp) (by simp only [go_sem]) rfl fun hw=>?_
 have hkl:n.kids.length≤maxLen:=((qjv n).1 hw.1).1
 repeat' (first | refine vs_ ?_ | ((first | refine vr_ ?_ | refine qa (qg3 _) fun _=>?_ | refine qa (qb1 fun x _=>qi6 x) fun _=>?_ | refine qa (qds _) fun _=>?_ | simp (disch:=omega) only [qb95] | (refine cs_ ?_ ?_<;>intro hc) | refine cj_ ?_ | simp (disch:=omega) only [qb,qm])<;>(try refine ev_ ?_)) | with_reducible exact ti_)
 all_goals first | (simp only [quW, *,decide_true,decide_false,Bool.and_true,Bool.true_and,Bool.and_false,Bool.false_and,Bool.or_true,Bool.true_or,Bool.or_false,Bool.false_or,Bool.not_true,Bool.not_false,if_true,if_false,reduceIte,Int.reduceEq];done) | (simp_all [quW];done) | (simp_all [quW];omega)
def sgW (n:N):Bool:=decide (n.kind = 32) && decide (n.num = 0) && varW n.text && decide ((n.kids.length:Int) = 1) && quW (n.kids.getD 0 N0)
theorem qgd (n:N):qq Tryz.prog 101 [enc n] (.bool (sgW n)):=by
 refine qg c0bu (by simp) (by simp only [go_sem]) rfl fun hw=>?_
 repeat' (first | refine vs_ ?_ | ((first | refine vr_ ?_ | refine qa (qdl qiz _) fun _=>?_ | refine qa (qt4 _) fun _=>?_ | (refine cs_ ?_ ?_<;>intro hc) | refine cj_ ?_ | simp (disch:=omega) only [qb,qm])<;>(try refine ev_ ?_)) | with_reducible exact ti_)
 all_goals first | (simp only [qgn,sgW, *,decide_true,decide_false,Bool.and_true,Bool.true_and,Bool.and_false,Bool.false_and,Bool.or_true,Bool.true_or,Bool.or_false,Bool.false_or,Bool.not_true,Bool.not_false,if_true,if_false,reduceIte,Int.reduceEq];done) | (simp_all [qgn,sgW];done) | (simp_all [qgn,sgW];omega)
set_option maxRecDepth 4000

abbrev T3:=Bool×Bool×Bool
def d3:T3×N:=((false,false,false),N0)
mutual
def eba:N->T3
 | .mk k _ n t ks =>
   let l:=(ebas ks).zip ks
   (if k = 21 then decide (n = 0) && varW t && decide ((ks.length : Int) = 0)
    else if k = 22 then decide (n = 0) && conW t && decide ((ks.length:Int) = 0)
    else if k = 23 then decide (t = []) && decide (0≤n) && decide ((ks.length:Int) = 0)
    else if k = 24 then decide (t = []) && decide (n = 0) && decide ((ks.length:Int) = 2) && l.all (·.1.1)
    else if k = 25 then decide (n = 0) && varW t && decide ((ks.length:Int) = 1) && (l.getD 0 d3).1.1
    else if k = 26 then decide (t = []) && decide (n = 0) && decide (2≤(ks.length:Int)) && (l.take ((ks.length:Int) - 1).toNat).all (fun p=>p.1.2.1 || sgW p.2) && (l.getD ((ks.length:Int) - 1).toNat d3).1.1
    else if k = 27 then decide (t = []) && decide (n = 0) && decide (2≤(ks.length:Int)) && (l.getD 0 d3).1.1 && (l.drop 1).all (·.1.2.2)
    else if k = 28 then decide (t = []) && decide (n = 0) && decide ((ks.length:Int) = 3) && l.all (·.1.1)
    else false,
    decide (k = 31) && decide (n = 0) && varW t && decide ((ks.length:Int) = 1) && (l.getD 0 d3).1.1,
    decide (k = 15) && decide (t = []) && decide (n = 0) && decide ((ks.length:Int) = 2) && paW (l.getD 0 d3).2 && (l.getD 1 d3).1.1)
def ebas:List N->List T3
 | []=>[]
 | x :: r=>eba x :: ebas r
end
def exW (n:N):Bool:=(eba n).1
def biW (n:N):Bool:=(eba n).2.1
def alW (n:N):Bool:=(eba n).2.2
theorem qtx (l:List N):(ebas l).zip l = l.map fun x=>(eba x,x):=by
 induction l with
 | nil=>rfl
 | cons x r ih=>rw [ebas,List.zip_cons_cons,ih];rfl
theorem qjh {l:List N} {i:Nat} (h:i < l.length):(l.map fun x=>(eba x,x)).getD i d3 = (eba (l.getD i N0),l.getD i N0):=by
 rw [List.getD_eq_getElem?_getD,List.getElem?_map,List.getElem?_eq_getElem h,List.getD_eq_getElem?_getD,List.getElem?_eq_getElem h];rfl
theorem qzm {c a b:Bool} (h:c = true->a = b):(c && a) = (c && b):=by cases c<;>simp_all
theorem qbh0 (n:N):exW n = if n.kind = 21 then decide (n.num = 0) && varW n.text && decide ((n.kids.length:Int) = 0)
 else if n.kind = 22 then decide (n.num = 0) && conW n.text && decide ((n.kids.length:Int) = 0)
 else if n.kind = 23 then decide (n.text = []) && decide (0≤n.num) && decide ((n.kids.length:Int) = 0)
 else if n.kind = 24 then decide (n.text = []) && decide (n.num = 0) && decide ((n.kids.length:Int) = 2) && n.kids.all exW
 else if n.kind = 25 then decide (n.num = 0) && varW n.text && decide ((n.kids.length:Int) = 1) && exW (n.kids.getD 0 N0)
 else if n.kind = 26 then decide (n.text = []) && decide (n.num = 0) && decide (2≤(n.kids.length:Int)) && (n.kids.take ((n.kids.length:Int) - 1).toNat).all (fun x=>biW x || sgW x) && exW (n.kids.getD ((n.kids.length:Int) - 1).toNat N0)
 else if n.kind = 27 then decide (n.text = []) && decide (n.num = 0) && decide (2≤(n.kids.length:Int)) && exW (n.kids.getD 0 N0) && (n.kids.drop 1).all alW
 else if n.kind = 28 then decide (n.text = []) && decide (n.num = 0) && decide ((n.kids.length:Int) = 3) && n.kids.all exW
 else false:=by
 obtain ⟨k,p,m,t,ks⟩:=n
 simp only [exW,eba,N.kind,N.num,N.text,N.kids,qtx,← List.map_take,← List.map_drop,List.all_map]
 have h0:∀ (c:Int),1≤c->decide ((ks.length:Int) = c) = true->((ks.map fun x=>(eba x,x)).getD 0 d3).1.1 = (eba (ks.getD 0 N0)).1:=fun c h1 h=>by
  simp only [decide_eq_true_eq] at h
  rw [qjh (by omega)]
 have h2:decide (2≤(ks.length:Int)) = true->((ks.map fun x=>(eba x,x)).getD 0 d3).1.1 = (eba (ks.getD 0 N0)).1:=fun h=>by
  simp only [decide_eq_true_eq] at h
  rw [qjh (by omega)]
 have h3:decide (2≤(ks.length:Int)) = true->((ks.map fun x=>(eba x,x)).getD ((ks.length:Int) - 1).toNat d3).1.1 = (eba (ks.getD ((ks.length:Int) - 1).toNat N0)).1:=fun h=>by
  simp only [decide_eq_true_eq] at h
  rw [qjh (by omega)]
 repeat' (refine ite_congr rfl (fun _=>?_) (fun _=>?_))
 all_goals first
  | rfl
  | (refine qzm fun h=>h0 1 (by omega) ?_;simp only [Bool.and_eq_true] at h;exact h.2)
  | (refine qzm fun h=>h3 ?_;simp only [Bool.and_eq_true] at h;exact h.1.2)
  | (refine congrArg (· && _) (qzm fun h=>h2 ?_);simp only [Bool.and_eq_true] at h;exact h.2)
theorem qbim (n:N):biW n = (decide (n.kind = 31) && decide (n.num = 0) && varW n.text && decide ((n.kids.length:Int) = 1) && exW (n.kids.getD 0 N0)):=by
 obtain ⟨k,p,m,t,ks⟩:=n
 simp only [biW,exW,eba,N.kind,N.num,N.text,N.kids,qtx]
 refine qzm fun h=>?_
 simp only [Bool.and_eq_true,decide_eq_true_eq] at h
 rw [qjh (by omega)]
theorem qbh5 (n:N):alW n = (decide (n.kind = 15) && decide (n.text = []) && decide (n.num = 0) && decide ((n.kids.length:Int) = 2) && paW (n.kids.getD 0 N0) && exW (n.kids.getD 1 N0)):=by
 obtain ⟨k,p,m,t,ks⟩:=n
 simp only [alW,exW,eba,N.kind,N.num,N.text,N.kids,qtx]
 by_cases h:(ks.length:Int) = 2
 ·rw [qjh (by omega),qjh (by omega)];rfl
 ·simp [h]

theorem qs9 {x:N} (h:qq Tryz.prog 100 [enc x] (.bool (biW x))):qq Tryz.prog 99 [enc x] (.bool (biW x || sgW x)):=by
 refine qg c0bm (by simp) (by simp only [go_sem]) rfl fun hw=>?_
 repeat' (first | refine vs_ ?_ | ((first | refine vr_ ?_ | refine qa h fun _=>?_ | refine qa (qgd x) fun _=>?_ | (refine cs_ ?_ ?_<;>intro hc) | refine cj_ ?_ | fail)<;>(try refine ev_ ?_)) | with_reducible exact ti_)
 all_goals first | (simp only [*,decide_true,decide_false,Bool.and_true,Bool.true_and,Bool.and_false,Bool.false_and,Bool.or_true,Bool.true_or,Bool.or_false,Bool.false_or,Bool.not_true,Bool.not_false,if_true,if_false,reduceIte,Int.reduceEq];done) | (simp_all [];done) | (simp_all [];omega)

set_option maxHeartbeats 2000000 in
theorem qqh {n:N} (ih:∀ x∈n.kids,qq Tryz.prog 57 [enc x] (.bool (exW x))) (iha:∀ x∈n.kids,qq Tryz.prog 102 [enc x] (.bool (alW x))) (ihw:∀ x∈n.kids,qq Tryz.prog 99 [enc x] (.bool (biW x || sgW x))) :
 qq Tryz.prog 57 [enc n] (.bool (exW n)):=by
 refine qg c0bn (by simp) (by simp only [go_sem]) rfl fun hw=>?_
 have hkl:n.kids.length≤maxLen:=((qjv n).1 hw.1).1
 repeat' (first | refine vs_ ?_ | ((first | refine vr_ ?_ | refine qa (qdl qiz _) fun _=>?_ | refine qa (qdl qfh _) fun _=>?_ | refine qa (qg3 _) fun _=>?_ | refine qa (ih _ (qf (by omega))) fun _=>?_ | refine qa (qb1 ih) fun _=>?_ | refine qa (qb1 (f:=alW) fun x hx=>iha x (List.mem_of_mem_drop hx)) fun _=>?_ | refine qa (qb1 (f:=fun x=>biW x || sgW x) fun x hx=>ihw x (List.mem_of_mem_take hx)) fun _=>?_ | simp (disch:=omega) only [qb95] | (refine cs_ ?_ ?_<;>intro hc) | refine cj_ ?_ | simp (disch:=omega) only [qb,qm])<;>(try refine ev_ ?_)) | with_reducible exact ti_)
 all_goals clear ih iha ihw hw hkl
 all_goals rw [qbh0 n]
 all_goals (try simp only [qgn,qlp] at *)
 all_goals first | (simp only [*,decide_true,decide_false,Bool.and_true,Bool.true_and,Bool.and_false,Bool.false_and,Bool.or_true,Bool.true_or,Bool.or_false,Bool.false_or,Bool.not_true,Bool.not_false,if_true,if_false,reduceIte,Int.reduceEq];done) | (simp_all [];done) | (simp_all [];omega)

theorem qg9:∀ n,qq Tryz.prog 57 [enc n] (.bool (exW n))∧qq Tryz.prog 100 [enc n] (.bool (biW n))∧qq Tryz.prog 102 [enc n] (.bool (alW n)):=by
 refine N.ind fun n ih=>⟨qqh (fun x hx=>(ih x hx).1) (fun x hx=>(ih x hx).2.2) (fun x hx=>qs9 (ih x hx).2.1),?_,?_⟩
 ·refine qg c0bo (by simp) (by simp only [go_sem]) rfl fun hw=>?_
  rw [qbim n]
  repeat' (first | refine vs_ ?_ | ((first | refine vr_ ?_ | refine qa (qdl qiz _) fun _=>?_ | refine qa (ih _ (qf (by omega))).1 fun _=>?_ | refine qe (ih _ (qf (by omega))).1 ?_ | (refine cs_ ?_ ?_<;>intro hc) | refine cj_ ?_ | simp (disch:=omega) only [qb,qm])<;>(try refine ev_ ?_)) | with_reducible exact ti_)
  all_goals first | (simp only [qgn, *,decide_true,decide_false,Bool.and_true,Bool.true_and,Bool.and_false,Bool.false_and,Bool.or_true,Bool.true_or,Bool.or_false,Bool.false_or,Bool.not_true,Bool.not_false,if_true,if_false,reduceIte,Int.reduceEq];done) | (simp_all [qgn];done) | (simp_all [qgn];omega)
 ·refine qg c0bp (by simp) (by simp only [go_sem]) rfl fun hw=>?_
  rw [qbh5 n]
  repeat' (first | refine vs_ ?_ | ((first | refine vr_ ?_ | refine qa (qg3 _) fun _=>?_ | refine qa (qpb _) fun _=>?_ | refine qa (ih _ (qf (by omega))).1 fun _=>?_ | refine qe (ih _ (qf (by omega))).1 ?_ | (refine cs_ ?_ ?_<;>intro hc) | refine cj_ ?_ | simp (disch:=omega) only [qb,qm])<;>(try refine ev_ ?_)) | with_reducible exact ti_)
  all_goals first | (simp only [qlp, *,decide_true,decide_false,Bool.and_true,Bool.true_and,Bool.and_false,Bool.false_and,Bool.or_true,Bool.true_or,Bool.or_false,Bool.false_or,Bool.not_true,Bool.not_false,if_true,if_false,reduceIte,Int.reduceEq];done) | (simp_all [qlp];done) | (simp_all [qlp];omega)
set_option maxRecDepth 4000


set_option maxRecDepth 4000

def vaW (n:N):Bool:=decide (n.kind = 1) && tyW n
theorem qhy (n:N):qq Tryz.prog 110 [enc n] (.bool (vaW n)):=by
 refine qg c0bf (by simp) (by simp only [go_sem]) rfl fun hw=>?_
 repeat' (first | refine vs_ ?_ | ((first | refine vr_ ?_ | refine qa (qds _) fun _=>?_ | (refine cs_ ?_ ?_<;>intro hc) | refine cj_ ?_ | fail)<;>(try refine ev_ ?_)) | with_reducible exact ti_)
 all_goals first | (simp only [vaW, *,decide_true,decide_false,Bool.and_true,Bool.true_and,Bool.and_false,Bool.false_and,Bool.or_true,Bool.true_or,Bool.or_false,Bool.false_or,Bool.not_true,Bool.not_false,if_true,if_false,reduceIte,Int.reduceEq];done) | (simp_all [vaW];done) | (simp_all [vaW];omega)
def cnW (n:N):Bool:=decide (n.kind = 34) && qgn n conW && n.kids.all tyW
theorem qh0 (n:N):qq Tryz.prog 111 [enc n] (.bool (cnW n)):=by
 refine qg c0bg (by simp) (by simp only [go_sem]) rfl fun hw=>?_
 repeat' (first | refine vs_ ?_ | ((first | refine vr_ ?_ | refine qa (qdl qfh _) fun _=>?_ | refine qa (qb1 fun x _=>qds x) fun _=>?_ | (refine cs_ ?_ ?_<;>intro hc) | refine cj_ ?_ | fail)<;>(try refine ev_ ?_)) | with_reducible exact ti_)
 all_goals first | (simp only [cnW, *,decide_true,decide_false,Bool.and_true,Bool.true_and,Bool.and_false,Bool.false_and,Bool.or_true,Bool.true_or,Bool.or_false,Bool.false_or,Bool.not_true,Bool.not_false,if_true,if_false,reduceIte,Int.reduceEq];done) | (simp_all [cnW];done) | (simp_all [cnW];omega)
def deW (n:N):Bool :=
 if n.kind = 31 then biW n else if n.kind = 32 then sgW n
 else conW n.text && !decide (n.num < 0) && !decide ((n.kids.length:Int)≤n.num) &&
  (if n.kind = 33 then (n.kids.take n.num.toNat).all vaW && cnW (n.kids.getD n.num.toNat N0) && (n.kids.drop (n.num + 1).toNat).all cnW
   else if n.kind = 35 then (n.kids.take n.num.toNat).all prW && vaW (n.kids.getD n.num.toNat N0) && (n.kids.drop (n.num + 1).toNat).all sgW
   else if n.kind = 36 then (n.kids.take n.num.toNat).all prW && tyW (n.kids.getD n.num.toNat N0) && (n.kids.drop (n.num + 1).toNat).all biW
   else false)
theorem qmp (n:N):qq Tryz.prog 69 [enc n] (.bool (deW n)):=by
 refine qg c0bh (by simp) (by simp only [go_sem]) rfl fun hw=>?_
 have hkl:n.kids.length≤maxLen:=((qjv n).1 hw.1).1
 repeat' (first | refine vs_ ?_ | ((first | refine vr_ ?_ | fail)<;>(try simp (disch:=first | omega | (simp only [List.length_set,List.length_append,List.length_cons,List.length_nil];done) | (simp only [List.length_set,List.length_append,List.length_cons,List.length_nil];omega)) only [qb,qgz,go_sem,↓reduceIte])) | ((first | (refine cs_ ?_ ?_<;>intro hc) | refine cj_ ?_ | simp (disch:=omega) only [qb,qm] | refine qa (qg9 n).2.1 fun _=>?_ | refine qa (qgd n) fun _=>?_ | refine qa (qfh _) fun _=>?_ | refine qa (qb1 fun x _=>qhy x) fun _=>?_ | refine qa (qb1 fun x _=>qi6 x) fun _=>?_ | refine qa (qb1 fun x _=>qh0 x) fun _=>?_ | refine qa (qb1 fun x _=>qgd x) fun _=>?_ | refine qa (qb1 (f:=biW) fun x _=>(qg9 x).2.1) fun _=>?_ | refine qa (qh0 _) fun _=>?_ | refine qa (qhy _) fun _=>?_ | refine qa (qds _) fun _=>?_ | refine qe (qg9 n).2.1 ?_ | refine qe (qgd n) ?_ | refine qe (qfh _) ?_ | refine qe (qb1 fun x _=>qhy x) ?_ | refine qe (qb1 fun x _=>qi6 x) ?_ | refine qe (qb1 fun x _=>qh0 x) ?_ | refine qe (qb1 fun x _=>qgd x) ?_ | refine qe (qb1 (f:=biW) fun x _=>(qg9 x).2.1) ?_ | refine qe (qh0 _) ?_ | refine qe (qhy _) ?_ | refine qe (qds _) ?_)<;>(try refine ev_ ?_)) | with_reducible exact ti_)
 all_goals clear hw hkl
 all_goals simp only [deW]
 all_goals first | (simp only [*,decide_true,decide_false,Bool.and_true,Bool.true_and,Bool.and_false,Bool.false_and,Bool.or_true,Bool.true_or,Bool.or_false,Bool.false_or,Bool.not_true,Bool.not_false,if_true,if_false,reduceIte,Int.reduceEq];done) | (simp_all [];done) | (simp_all [];omega)

theorem qq5 (n:N):qq Tryz.prog 21 [enc n] (.bool (lowW n && tyW n)):=by
 refine qg c0bi (by simp) (by simp only [go_sem]) rfl fun hw=>?_
 repeat' (first | refine vs_ ?_ | ((first | refine vr_ ?_ | refine qa (qkq _) fun _=>?_ | refine qa (qds _) fun _=>?_ | (refine cs_ ?_ ?_<;>intro hc) | refine cj_ ?_ | fail)<;>(try refine ev_ ?_)) | with_reducible exact ti_)
 all_goals first | (simp only [*,decide_true,decide_false,Bool.and_true,Bool.true_and,Bool.and_false,Bool.false_and,Bool.or_true,Bool.true_or,Bool.or_false,Bool.false_or,Bool.not_true,Bool.not_false,if_true,if_false,reduceIte,Int.reduceEq];done) | (simp_all [];done) | (simp_all [];omega)
theorem qvf (n:N):qq Tryz.prog 24 [enc n] (.bool (lowW n && paW n)):=by
 refine qg c0bj (by simp) (by simp only [go_sem]) rfl fun hw=>?_
 repeat' (first | refine vs_ ?_ | ((first | refine vr_ ?_ | refine qa (qkq _) fun _=>?_ | refine qa (qpb _) fun _=>?_ | (refine cs_ ?_ ?_<;>intro hc) | refine cj_ ?_ | fail)<;>(try refine ev_ ?_)) | with_reducible exact ti_)
 all_goals first | (simp only [*,decide_true,decide_false,Bool.and_true,Bool.true_and,Bool.and_false,Bool.false_and,Bool.or_true,Bool.true_or,Bool.or_false,Bool.false_or,Bool.not_true,Bool.not_false,if_true,if_false,reduceIte,Int.reduceEq];done) | (simp_all [];done) | (simp_all [];omega)
theorem qu2 (n:N):qq Tryz.prog 26 [enc n] (.bool (lowW n && exW n)):=by
 refine qg c0bk (by simp) (by simp only [go_sem]) rfl fun hw=>?_
 repeat' (first | refine vs_ ?_ | ((first | refine vr_ ?_ | refine qa (qkq _) fun _=>?_ | refine qa (qg9 _).1 fun _=>?_ | refine qe (qg9 _).1 ?_ | (refine cs_ ?_ ?_<;>intro hc) | refine cj_ ?_ | fail)<;>(try refine ev_ ?_)) | with_reducible exact ti_)
 all_goals first | (simp only [*,decide_true,decide_false,Bool.and_true,Bool.true_and,Bool.and_false,Bool.false_and,Bool.or_true,Bool.true_or,Bool.or_false,Bool.false_or,Bool.not_true,Bool.not_false,if_true,if_false,reduceIte,Int.reduceEq];done) | (simp_all [];done) | (simp_all [];omega)
def qim (n:N):Bool:=if n.kind = 37 then lowW n && qlp n && n.kids.all deW else lowW n && deW n
theorem qjl (n:N):qq Tryz.prog 30 [enc n] (.bool (qim n)):=by
 refine qg c0bl (by simp) (by simp only [go_sem]) rfl fun hw=>?_
 repeat' (first | refine vs_ ?_ | ((first | refine vr_ ?_ | refine qa (qkq _) fun _=>?_ | refine qa (qg3 _) fun _=>?_ | refine qa (qmp _) fun _=>?_ | refine qa (qb1 fun x _=>qmp x) fun _=>?_ | (refine cs_ ?_ ?_<;>intro hc) | refine cj_ ?_ | fail)<;>(try refine ev_ ?_)) | with_reducible exact ti_)
 all_goals first | (simp only [qim, *,decide_true,decide_false,Bool.and_true,Bool.true_and,Bool.and_false,Bool.false_and,Bool.or_true,Bool.true_or,Bool.or_false,Bool.false_or,Bool.not_true,Bool.not_false,if_true,if_false,reduceIte,Int.reduceEq];done) | (simp_all [qim];done) | (simp_all [qim];omega)

mutual
def sz:N->Nat
 | .mk _ _ _ _ ks=>szs ks + 1
def szs:List N->Nat
 | []=>0
 | x :: r=>sz x + szs r
end
mutual
def dp:N->Nat
 | .mk _ _ _ _ ks=>dps ks + 1
def dps:List N->Nat
 | []=>0
 | x :: r=>max (dp x) (dps r)
end
theorem qeh (n:N):sz n = szs n.kids + 1:=by cases n;rw [sz];rfl
theorem qks (n:N):dp n = dps n.kids + 1:=by cases n;rw [dp];rfl
theorem qbil (n:N):1≤sz n:=by rw [qeh];omega
theorem q5c:∀ l:List N,l.length≤szs l
 | []=>Nat.le_refl _
 | x :: r=>by have:=q5c r;have:=qbil x;simp only [szs,List.length_cons];omega
theorem qya:∀ {l:List N} {x:N},x∈l->sz x≤szs l
 | y :: r, x, h => by
   simp only [szs]
   rcases List.mem_cons.1 h with rfl | h
   ·omega
   ·have:=qya h;omega
theorem qsh:∀ {l:List N},(∀ x∈l,dp x≤sz x)->dps l≤szs l
 | [],_=>Nat.le_refl _
 | x :: r, h => by
   have h1:=h x (by simp)
   have h2:=qsh (l:=r) fun y hy=>h y (by simp [hy])
   simp only [dps,szs];omega
theorem qcb1:∀ n,dp n≤sz n:=N.ind fun n ih=>by rw [qks,qeh];have:=qsh ih;omega

theorem qh4 {z:Int} (h0:-1≤z) (h1:z≤1000000000):IntKind.i64.wrap z = z:=by
 simp [IntKind.wrap,IntKind.signed,IntKind.bits]
 omega

theorem qbgd:∀ n k,0≤k->k≤1000000->-1≤cntW n k∧cntW n k≤k∧(0≤cntW n k->cntW n k = k - sz n):=by
 refine N.ind fun n ih k h0 h1=>?_
 rw [q70,qh4 (by omega) (by omega),qeh]
 have key:∀ (l:List N),(∀ x∈l,∀ k,0≤k->k≤1000000->-1≤cntW x k∧cntW x k≤k∧(0≤cntW x k->cntW x k = k - sz x))->∀ a:Int,-1≤a->a≤1000000->-1≤qlu a l∧qlu a l≤a∧(0≤qlu a l->qlu a l = a - szs l):=by
  intro l
  induction l with
  | nil=>intro _ a h0 h1;simp only [qlu,szs];omega
  | cons x r ihr =>
    intro hx a h0 h1
    simp only [qlu,szs]
    split
    ·obtain ⟨q1,q2,q3⟩:=hx x (by simp) a (by omega) (by omega)
     obtain ⟨r1,r2,r3⟩:=ihr (fun y hy=>hx y (by simp [hy])) (cntW x a) (by omega) (by omega)
     refine ⟨by omega,by omega,fun h=>?_⟩
     have:=r3 h
     have:=q3 (by omega)
     omega
    ·exact ⟨by omega,by omega,fun h=>by omega⟩
 obtain ⟨q1,q2,q3⟩:=key n.kids ih (k - 1) (by omega) (by omega)
 exact ⟨by omega,by omega,fun h=>by have:=q3 h;omega⟩
theorem qbin {n:N} (h:fewW n = true):sz n≤3000:=by
 simp only [fewW,decide_eq_true_eq] at h
 obtain ⟨_,q2,q3⟩:=qbgd n 3000 (by omega) (by omega)
 have:=q3 h
 omega
theorem qbb6:∀ n,sz n≤1000000->qwu n = sz n:=N.ind fun n ih h=>by
 rw [qba9,qeh]
 rw [qeh] at h
 have key:∀ (l:List N),(∀ x∈l,sz x≤1000000->qwu x = sz x)->∀ a:Int,1≤a->a + szs l≤1000001->qqx a l = a + szs l:=by
  intro l
  induction l with
  | nil=>intro _ a h0 h1;simp [qqx,szs]
  | cons x r ihr =>
    intro hx a h0 h1
    simp only [qqx,szs] at h1 ⊢
    rw [hx x (by simp) (by omega),qh4 (by omega) (by omega),ihr (fun y hy=>hx y (by simp [hy])) _ (by omega) (by omega)]
    omega
 rw [key n.kids ih 1 (by omega) (by omega)]
 omega
def szF:Int->Int->N->Int×Bool:=fun k _ _=>(IntKind.i64.wrap (k + 1),true)
theorem qb3z:∀ n l (s:Int),0≤s->s + sz n≤2000000->qc7 szF n l s = (s + sz n,true):=N.ind fun n ih l s h0 h1=>by
 rw [qgw,qeh]
 rw [qeh] at h1
 simp only [szF,if_true]
 have key:∀ (r:List N),(∀ x∈r,∀ l (s:Int),0≤s->s + sz x≤2000000->qc7 szF x l s = (s + sz x,true))->∀ l (s:Int),0≤s->s + szs r≤2000000->qdr szF l r s = (s + szs r,true):=by
  intro r
  induction r with
  | nil=>intro _ l s _ _;simp [qdr,szs]
  | cons x r ihr =>
    intro hx l s h0 h1
    simp only [qdr,szs] at h1 ⊢
    rw [hx x (by simp) _ _ h0 (by omega),if_pos rfl,ihr (fun y hy=>hx y (by simp [hy])) _ _ (by omega) (by omega)]
    simp only [Prod.mk.injEq,and_true];omega
 have:=key n.kids ih (IntKind.i64.wrap (l + 1)) (IntKind.i64.wrap (s + 1)) (by rw [qh4 (by omega) (by omega)];omega) (by rw [qh4 (by omega) (by omega)];omega)
 rw [this,qh4 (by omega) (by omega)]
 simp only [Prod.mk.injEq,and_true];omega
theorem qcc3 {n:N} (h:sz n≤3000):(qc7 (fun (k:Int) _ _=>(IntKind.i64.wrap (k + 1),true)) n 1 0).1 = qwu n:=by
 show (qc7 szF n 1 0).1 = qwu n
 rw [qb3z n 1 0 (by omega) (by omega),qbb6 n (by omega)];simp

theorem qn5:∀ n,sz n≤1000000->depR n = dp n:=N.ind fun n ih h=>by
 rw [q5s,qks]
 rw [qeh] at h
 have key:∀ (l:List N),(∀ x∈l,sz x≤1000000->depR x = dp x)->szs l≤1000000->∀ a:Int,0≤a->qts a l = max a (dps l):=by
  intro l
  induction l with
  | nil=>intro _ _ a h0;simp [qts,dps];omega
  | cons x r ihr =>
    intro hx hs a h0
    simp only [szs] at hs
    simp only [qts,dps]
    rw [hx x (by simp) (by omega)]
    have:=ihr (fun y hy=>hx y (by simp [hy])) (by omega)
    split
    ·rw [this _ (by omega)];omega
    ·rw [this _ (by omega)];omega
 have hd:=qsh (l:=n.kids) fun x _=>qcb1 x
 rw [key n.kids ih (by omega) 0 (by omega),qh4 (by omega) (by omega)]
 omega
def dpF:Int->Int->N->Int×Bool:=fun k l _=>(if l > k then l else k,true)
theorem q3f:∀ n (l s:Int),0≤l->l + sz n≤2000000->qc7 dpF n l s = (max s (l + dp n - 1),true):=N.ind fun n ih l s h0 h1=>by
 rw [qgw,qks]
 rw [qeh] at h1
 simp only [dpF,if_true]
 have key:∀ (r:List N),(∀ x∈r,∀ (l s:Int),0≤l->l + sz x≤2000000->qc7 dpF x l s = (max s (l + dp x - 1),true))->∀ (l s:Int),0≤l->l + szs r≤2000000->l - 1≤s->qdr dpF l r s = (max s (l + dps r - 1),true):=by
  intro r
  induction r with
  | nil=>intro _ l s _ _ h;simp only [qdr,dps,Prod.mk.injEq,and_true];omega
  | cons x r ihr =>
    intro hx l s h0 h1 h2
    simp only [szs] at h1
    simp only [qdr,dps]
    rw [hx x (by simp) _ _ h0 (by omega),if_pos rfl,ihr (fun y hy=>hx y (by simp [hy])) _ _ (by omega) (by omega) (by omega)]
    simp only [Prod.mk.injEq,and_true];omega
 have:=key n.kids ih (IntKind.i64.wrap (l + 1)) (if l > s then l else s) (by rw [qh4 (by omega) (by omega)];omega) (by rw [qh4 (by omega) (by omega)];omega) (by rw [qh4 (by omega) (by omega)];split<;>omega)
 rw [this,qh4 (by omega) (by omega)]
 simp only [Prod.mk.injEq,and_true]
 split<;>omega
theorem qcaa {n:N} (h:sz n≤3000):(qc7 (fun (k:Int) l _=>(if l > k then l else k,true)) n 1 0).1 = depR n:=by
 show (qc7 dpF n 1 0).1 = depR n
 rw [q3f n 1 0 (by omega) (by omega),qn5 n (by omega)]
 have:=qks n
 simp only;omega
theorem qbc3:∀ n (l:Int) (s:Bool),0≤l->l + sz n≤2000000->(qc7 lowF n l s).2 = decide (l + dp n - 1≤100):=N.ind fun n ih l s h0 h1=>by
 rw [qgw,qks]
 rw [qeh] at h1
 have key:∀ (r:List N),(∀ x∈r,∀ (l:Int) (s:Bool),0≤l->l + sz x≤2000000->(qc7 lowF x l s).2 = decide (l + dp x - 1≤100))->∀ (l:Int) (s:Bool),0≤l->l + szs r≤2000000->l - 1≤100->(qdr lowF l r s).2 = decide (l + dps r - 1≤100):=by
  intro r
  induction r with
  | nil=>intro _ l s _ _ h;simp only [qdr,dps];symm;simp;omega
  | cons x r ihr =>
    intro hx l s h0 h1 h2
    simp only [szs] at h1
    simp only [qdr,dps]
    rw [hx x (by simp) _ _ h0 (by omega)]
    split
    ·rename_i h3
     simp only [decide_eq_true_eq] at h3
     rw [ihr (fun y hy=>hx y (by simp [hy])) _ _ (by omega) (by omega) (by omega)]
     congr 1;simp only [eq_iff_iff];omega
    ·rename_i h3
     simp only [decide_eq_true_eq] at h3
     exact (decide_eq_false (by omega)).symm
 by_cases h2:(100:Int) < l
 ·simp only [lowF,h2,decide_true,Bool.not_true,Bool.false_eq_true,if_false]
  exact (decide_eq_false (by omega)).symm
 ·simp only [lowF,h2,decide_false,Bool.not_false,if_true]
  rw [key n.kids ih _ _ (by rw [qh4 (by omega) (by omega)];omega) (by rw [qh4 (by omega) (by omega)];omega) (by rw [qh4 (by omega) (by omega)];omega),qh4 (by omega) (by omega)]
  congr 1;simp only [eq_iff_iff];omega
theorem qbor {n:N} (h:sz n≤3000):lowW n = decide (depR n≤100):=by
 rw [lowW,qbc3 n 1 false (by omega) (by omega),qn5 n (by omega)]
 congr 1;simp only [eq_iff_iff];omega
set_option maxRecDepth 4000

theorem q74:IntKind.i64.wrap (0 + 1) = 1:=by decide
def digW (l:List UInt8):Bool:=l.all fun c=>qci c.toNat
theorem qwj {l:List UInt8} {i:Nat} (h:i < l.length):digW (l.drop i) = (qci (l.getD i 0).toNat && digW (l.drop (i + 1))):=by
 rw [qk8 h];rfl

def digV (c:UInt8):Int:=IntKind.i64.wrap (IntKind.u8.wrap ((c.toNat:Int) - 48))
def topV (c:UInt8):Int:=IntKind.i64.wrap ((IntKind.i64.wrap (9223372036854775807 - digV c)).tdiv 10)
def nxtV (k:Int) (c:UInt8):Int:=IntKind.i64.wrap (IntKind.i64.wrap (10 * k) + digV c)
def qgk:Int->List UInt8->Int×Int
 | k,[]=>(k,0)
 | k,c :: r=>if topV c < k then (0,4) else qgk (nxtV k c) r
def qqp (l:List UInt8):Int×Int:=if l = [] then (0,5) else if digW l = true then qgk 0 l else (0,5)
def qb9p (p:Int×Int):AV:=.tup [.int .i64 p.1,.int .i64 p.2]
theorem qrn {l:List UInt8} {i:Nat} (h:i < l.length) (k:Int):qgk k (l.drop i) = if topV (l.getD i 0) < k then (0,4) else qgk (nxtV k (l.getD i 0)) (l.drop (i + 1)):=by
 rw [qk8 h];rfl
theorem qcbj {c:Int} (h:c < 48∨57 < c):qci c = false:=by
 simp only [qci,Bool.and_eq_false_iff,decide_eq_false_iff_not];omega
theorem qbmy {c:Int} (h:¬ c < 48) (h2:¬ 57 < c):qci c = true:=by
 simp only [qci,Bool.and_eq_true,decide_eq_true_eq];omega
theorem qko {l:List UInt8} (h:l≠[]) (hd:digW l = true):qqp l = qgk 0 l:=by rw [qqp,if_neg h,if_pos hd]
theorem q4g {l:List UInt8} (hd:digW l = false):qqp l = (0,5):=by rw [qqp,hd];simp

theorem q5f (l:List UInt8):qq Tryz.prog 189 [.str l] (qb9p (qqp l)):=by
 refine qg c0cp (by simp) (by simp only [go_sem]) rfl fun hw=>?_
 have hl:l.length≤maxLen:=hw.1
 refine qq3 (qr1 ?_)
 (refine ev_ ?_;(try with_reducible exact ti_))
 refine q7y (S:=Nat×Int) 0 rfl (fun s=>s.1 < l.length∧digW l = true∧qgk s.2 (l.drop s.1) = qgk 0 l) (fun s=>(⟨[(0,.str l),(5,.int .i64 s.2),(6,.int .i64 s.1)],[]⟩,[])) (fun s=>l.length - s.1) ?_ fun s hs=>?_
 ·repeat' (first | refine vs_ ?_ | ((first | refine vr_ ?_ | (refine cs_ ?_ ?_<;>intro hc) | refine cj_ ?_ | simp (disch:=omega) only [qb,qm])<;>(try refine ev_ ?_)) | with_reducible exact ti_)
  refine qcc (S:=Nat) (fun i=>i≤l.length∧digW (l.drop i) = digW l) (fun i=>(⟨[(0,.str l),(9,.int .i64 l.length),(10,.int .i64 i)],[]⟩,[])) (fun i=>l.length - i) ?_ fun i hi=>?_
  ·refine qbl 0 [] ⟨Nat.zero_le _,rfl⟩ rfl (by simp) ?_ ?_ ?_<;>(try refine ev_ ?_)<;>(try with_reducible exact ti_)<;>(try simp (disch:=omega) only [qm,and_true,true_and])
  ·obtain ⟨hi,ha⟩:=hi
   have hs:i < l.length->qci (l.getD i 0).toNat = false->qqp l = (0,5):=fun h h2=>q4g (by rw [← ha,qwj h,h2];rfl)
   have hs2:0 < l.length->qgk 0 l = if topV (l.getD 0 0) < 0 then (0,4) else qgk (nxtV 0 (l.getD 0 0)) (l.drop 1):=fun h=>by
    have:=qrn (l:=l) (i:=0) h 0
    rwa [List.drop_zero] at this
   have hdig:¬ (i:Int) < l.length->digW l = true:=fun h=>by rw [← ha,List.drop_of_length_le (by omega)];rfl
   repeat' (first | refine vs_ ?_ | ((first | refine vr_ ?_ | simp (disch:=omega) only [qm] | simp (disch:=omega) only [q74] | (refine cs_ ?_ ?_<;>intro hc) | refine cj_ ?_ | simp (disch:=omega) only [qb,qm])<;>(try refine ev_ ?_)) | with_reducible exact ti_)
   all_goals first
    | (rw [hs (by omega) (qcbj (by omega))];rfl)
    | (refine qbl (i + 1) [] ⟨⟨by omega, ?_⟩, by omega⟩ rfl (by simp) ?_ ?_ ?_ <;> (try refine ev_ ?_) <;> (try with_reducible exact ti_) <;> (try simp (disch := omega) only [qm, and_true, true_and])
       have hd:qci (l.getD i 0).toNat = true:=qbmy (by omega) (by omega)
       rw [← ha,qwj (l:=l) (i:=i) (by omega),hd,Bool.true_and])
    | (subst hc;rfl)
    | skip
   ·have hlp:=qom (by assumption)
    have hd:=hdig (by assumption)
    have hc':topV (l.getD 0 0) < 0:=hc
    rw [qko (by assumption) hd,hs2 hlp,if_pos hc'];rfl
   ·rename_i hc0
    have hlp:=qom (by assumption)
    have hd:=hdig (by assumption)
    have hc':¬ topV (l.getD 0 0) < 0:=hc0
    refine qbl (1,nxtV 0 (l.getD 0 0)) [] ⟨by omega,hd,?_⟩ rfl (by simp) ?_ ?_ ?_<;>(try refine ev_ ?_)<;>(try with_reducible exact ti_)<;>(try simp (disch:=omega) only [qm,and_true,true_and])
    ·rw [hs2 hlp,if_neg hc']
    ·rfl
   ·rename_i hc0
    have hlp:=qom (by assumption)
    have hd:=hdig (by assumption)
    have hc':¬ topV (l.getD 0 0) < 0:=hc0
    rw [qko (by assumption) hd,hs2 hlp,if_neg hc',List.drop_of_length_le (by omega)];rfl
 ·obtain ⟨j,k⟩:=s
  obtain ⟨hj,hd,hr⟩:=hs
  dsimp only at hj hr
  have hs2:qgk 0 l = if topV (l.getD j 0) < k then (0,4) else qgk (nxtV k (l.getD j 0)) (l.drop (j + 1)):=by rw [← hr,qrn hj]
  have hne:l≠[]:=fun e=>by subst e;simp at hj
  rw [qko hne hd]
  repeat' (first | refine vs_ ?_ | ((first | refine vr_ ?_ | simp (disch:=omega) only [qm] | simp (disch:=omega) only [q74] | (refine cs_ ?_ ?_<;>intro hc) | refine cj_ ?_ | simp (disch:=omega) only [qb,qm])<;>(try refine ev_ ?_)) | with_reducible exact ti_)
  ·have hc':topV (l.getD j 0) < k:=hc
   rw [hs2,if_pos hc'];rfl
  ·rename_i hc0
   have hc':¬ topV (l.getD j 0) < k:=hc0
   refine qbl (j + 1,nxtV k (l.getD j 0)) [] ⟨⟨by omega,hd,?_⟩,by omega⟩ rfl (by simp) ?_ ?_ ?_<;>(try refine ev_ ?_)<;>(try with_reducible exact ti_)<;>(try simp (disch:=omega) only [qm,and_true,true_and])
   ·rw [hs2,if_neg hc']
   ·rfl
  ·rename_i hc0
   have hc':¬ topV (l.getD j 0) < k:=hc0
   rw [hs2,if_neg hc',List.drop_of_length_le (by omega)];rfl
end Go.Proofs.YtlmcofjcpadmiaaGreat
