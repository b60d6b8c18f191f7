/- A text of this proof. -/
import Derived.Test.YtlmcofjcpadmiaaGreatWay
set_option linter.unusedVariables false
set_option linter.unusedSimpArgs false

/- trees that are written: the program's walk: types, patterns, contexts -/
set_option maxRecDepth 4000
namespace Go.Proofs.YtlmcofjcpadmiaaGreat
open Go Go.RowKit Go.V

def Big:Nat:=140737488355328
theorem qca:Big + 1000≤maxLen:=by unfold Big maxLen;omega
theorem qp (b:Bool) (s:List UInt8):s.length≤(cloW b s).length∧(cloW b s).length≤s.length + 2:=by
 unfold cloW
 split
 ·omega
 ·simp only [List.length_cons,List.length_append,List.length_nil];omega
theorem qbf {m:List UInt8}:∀ {l:List (List UInt8)} {x:List UInt8},x∈l->x.length≤(Lib.join l m).length
 | [a], x, h => by
   simp only [List.mem_singleton] at h
   subst h
   rw [qc7];exact Nat.le_refl _
 | a :: b :: r, x, h => by
   rw [qbr,List.length_append,List.length_append]
   rcases List.mem_cons.1 h with rfl | h
   ·omega
   ·have:=qbf (m:=m) h;omega
theorem qch (l:List (List UInt8)):Lib.join l [] = l.flatten:=by
 induction l with
 | nil=>rfl
 | cons a l ih => cases l with
   | nil=>rw [qc7];simp
   | cons b r=>rw [qbr,ih];simp
theorem qb0 (n:N):qh Tryz.prog 134 [enc n] (.bool (qn n)):=by
 refine qe c0s (by simp) (by simp only [go_sem]) rfl fun hw=>?_
 have e:qn n = decide ((n.kids.length:Int) = 0):=by
  rw [qn]
  cases n.kids with
  | nil=>rfl
  | cons _ _=>symm;simp;omega
 rw [e]
 repeat' (first | refine vs_ ?_ | ((first | refine vr_ ?_ | (refine cs_ ?_ ?_<;>intro hc) | refine cj_ ?_ | fail)<;>(try refine ev_ ?_)) | with_reducible exact ti_)
theorem qbs {x:AV} {s:List UInt8} {b:Bool} (hx:x.bd 0 = true) (h:qh Tryz.prog 46 [x] (.str s)) (hl:s.length + 2≤Big):qh Tryz.prog 131 [x,.bool b] (.str (cloW b s)):=by
 refine qe c0t (by simp) (by simp only [AV.bds,hx];rfl) rfl fun hw=>?_
 have hM:=qca
 cases b with
 | true =>
   repeat' (first | refine vs_ ?_ | ((first | refine vr_ ?_ | refine qa h fun _=>?_ | (refine cs_ ?_ ?_<;>intro hc) | refine cj_ ?_ | simp (disch:=omega) only [qb,qf])<;>(try refine ev_ ?_)) | with_reducible exact ti_)
   rfl
 | false =>
   repeat' (first | refine vs_ ?_ | ((first | refine vr_ ?_ | fail)<;>(try simp only [List.length_append,go_sem,↓reduceIte])) | ((first | (refine cs_ ?_ ?_<;>intro hc) | refine cj_ ?_ | simp (disch:=omega) only [qb,qf] | refine qa h fun _=>?_)<;>(try refine ev_ ?_)) | with_reducible exact ti_)
   rfl
def qfp (g:N->List UInt8) (l:List N) (i:Nat):List AV:=((l.take i).map fun x=>AV.str (g x)) ++ List.replicate (l.length - i) (.str [])
theorem qs4 {g:N->List UInt8} {l:List N} {i:Nat} (h:i≤l.length):(qfp g l i).length = l.length:=by
 rw [qfp,List.length_append,List.length_map,List.length_take,List.length_replicate];omega
theorem qqh {g:N->List UInt8} {l:List N} {i:Nat} (h:i < l.length):(qfp g l i).set i (.str (g (l.getD i N0))) = qfp g l (i + 1):=by
 have hk:((l.take i).map fun x=>AV.str (g x)).length = i:=by rw [List.length_map,List.length_take];omega
 obtain ⟨k,hk2⟩:∃ k,l.length - i = k + 1:=⟨l.length - i - 1,by omega⟩
 have hk3:l.length - (i + 1) = k:=by omega
 rw [qfp,qfp,List.set_append_right _ _ (by omega),hk,Nat.sub_self,hk2,hk3,List.replicate_succ,List.set_cons_zero,qrs h,List.map_append]
 simp
theorem qsd (g:N->List UInt8) (l:List N):qfp g l l.length = (l.map g).map AV.str:=by
 rw [qfp,Nat.sub_self,List.take_length];simp
theorem qko (k:Nat) (g:N->List UInt8) (l:List N) (i:Nat):AV.bds k (qfp g l i) = true:=by
 rw [qfp,qjk,List.all_append,List.all_map,List.all_replicate]
 simp [AV.bd]
theorem qlp (σ:Nat->Nat) (g:N->List UInt8) (l:List N) (i:Nat):AV.rens σ (qfp g l i) = qfp g l i:=qx (m:=0) (fun i hi=>by omega) _ (qko 0 g l i)
theorem q7 {so:FuncId} {g:N->List UInt8} {l:List N} {m:List UInt8} (h:∀ x∈l,qh Tryz.prog so [enc x] (.str (g x))) (hl:(Lib.join (l.map g) m).length≤Big) (hn:l.length≤1000000) :
 qh Tryz.prog 44 [.sl 5 (encs l),.str m,.fn so [] []] (.str (Lib.join (l.map g) m)):=by
 refine qe c0u (by simp) (by simp only [go_sem]) rfl fun hw=>?_
 repeat' (first | refine vs_ ?_ | ((first | refine vr_ ?_ | (refine cs_ ?_ ?_<;>intro hc) | refine cj_ ?_ | simp (disch:=omega) only [qb,qf])<;>(try refine ev_ ?_)) | with_reducible exact ti_)
 refine ⟨⟨by omega,by unfold maxLen;omega⟩,?_⟩
 repeat' (first | refine vs_ ?_ | ((first | refine vr_ ?_ | (refine cs_ ?_ ?_<;>intro hc) | refine cj_ ?_ | simp (disch:=omega) only [qb,qf])<;>(try refine ev_ ?_)) | with_reducible exact ti_)
 refine qt (S:=Nat) (fun i=>i≤l.length) (fun i=>(⟨[(1,.str m),(2,.fn so [] []),(7,.row 0 l.length),(13,.sl 5 (encs l)),(14,.int .i64 l.length),(15,.int .i64 i)],[]⟩,[.mrow 1 (qfp g l i)])) (fun i=>l.length - i) ?_ fun i hi=>?_
 ·refine qs 0 [0] (Nat.zero_le _) rfl (by simp) ?_ ?_ ?_<;>(try refine ev_ ?_)<;>(try with_reducible exact ti_)<;>(try simp (disch:=omega) only [qf,and_true,true_and])
  exact ⟨qko _ _ _ _,by rw [qlp,qfp,List.take_zero,Nat.sub_zero];rfl⟩
 ·have hpl:=qs4 (g:=g) hi
  by_cases hlt:i < l.length
  ·have hset:=qqh (g:=g) hlt
   repeat' (first | refine vs_ ?_ | ((first | refine vr_ ?_ | fail)<;>(try simp (disch:=first | omega | (simp only [List.length_set,List.length_append,List.length_cons,List.length_nil];done) | (simp only [List.length_set,List.length_append,List.length_cons,List.length_nil];omega)) only [qf,hpl,go_sem,↓reduceIte])) | ((first | (refine cs_ ?_ ?_<;>intro hc) | refine cj_ ?_ | simp (disch:=omega) only [qb,qf] | refine qa (h _ (qg hlt)) fun _=>?_)<;>(try refine ev_ ?_)) | with_reducible exact ti_)
   all_goals try (exfalso;omega)
   refine qs (i + 1) [0] ⟨by omega,by omega⟩ rfl (by simp) ?_ ?_ ?_<;>(try refine ev_ ?_)<;>(try with_reducible exact ti_)<;>(try simp (disch:=omega) only [qf,and_true,true_and])
   ·exact ⟨qko _ _ _ _,by rw [qlp,← hset]⟩
   ·rw [qb8 (by omega) (by omega),Int.natCast_add];rfl
  ·have hie:i = l.length:=by omega
   subst hie
   have hend:=qsd g l
   rw [hend] at hpl ⊢
   refine qbkk 0 rfl (by simp [AV.isAgg,AV.leaf,AV.cells]) ?_
   simp only [List.set_cons_zero]
   have hj:=strings_Join (ls:=l.map g) (sep:=m) (by simp;omega) hl
   repeat' (first | refine vs_ ?_ | ((first | refine vr_ ?_ | fail)<;>(try simp only [hpl,go_sem,↓reduceIte])) | ((first | (refine cs_ ?_ ?_<;>intro hc) | refine cj_ ?_ | simp (disch:=omega) only [qb,qf] | refine qa hj fun _=>?_)<;>(try refine ev_ ?_)) | with_reducible exact ti_)
   all_goals try (exfalso;omega)
/-! types -/
def PT (n:N):Prop:=qh Tryz.prog 46 [.iface 37 (enc n)] (.str (ptT n))
theorem qf5 {t:TypeId} (n:N):(AV.iface t (enc n)).bd 0 = true:=by simp only [AV.bd,qmi]
theorem qbx {n:N} (h:PT n) (hl:(ptT n).length + 2≤Big):qh Tryz.prog 119 [enc n] (.str (atT n)):=by
 refine qe c0v (by simp) (by simp only [go_sem]) rfl fun hw=>?_
 have hM:=qca
 have h1:=qbs (b:=qn n) (qf5 n) h hl
 have h2:=qp (qn n) (ptT n)
 repeat' (first | refine vs_ ?_ | ((first | refine vr_ ?_ | refine qa (qb0 n) fun _=>?_ | refine qa h1 fun _=>?_ | refine qc (qb0 n) ?_ | refine qc h1 ?_ | (refine cs_ ?_ ?_<;>intro hc) | refine cj_ ?_ | simp (disch:=omega) only [qb,qf])<;>(try refine ev_ ?_)) | with_reducible exact ti_)
 all_goals rfl
theorem qop {l:List N} {f:N->List UInt8} {x:N} (h:x∈l):(f x).length≤(l.map f).flatten.length:=by
 rw [← qch]
 exact qbf (List.mem_map_of_mem h)
theorem qfy {n x:N} (ht:n.kind≠1->n.text = arW->n.kids.length = 2) (h:x∈n.kids):(ptT x).length + 1≤(ptT n).length:=by
 rw [qeh n]
 by_cases ha:n.kind≠1∧n.text = arW
 ·rw [if_pos ha]
  have h2:=ht ha.1 ha.2
  have hk:=qpk h2
  have hc:=(qp (!decide ((n.kids.getD 0 N0).text = arW)) (ptT (n.kids.getD 0 N0))).1
  simp only [List.length_append,List.length_cons,List.length_nil]
  rw [hk] at h
  simp only [List.mem_cons,List.not_mem_nil,or_false] at h
  rcases h with rfl | rfl<;>omega
 ·rw [if_neg ha,List.length_append]
  have h1:=qop (f:=atT) h
  have h2:=(qp (qn x) (ptT x)).1
  have h3:(atT x).length = (cloW (qn x) (ptT x)).length + 1:=rfl
  omega
set_option maxHeartbeats 1000000 in
theorem qhz {n:N} (ht:n.kind≠1->n.text = arW->n.kids.length = 2) (ih:∀ x∈n.kids,PT x) (hl:(ptT n).length + 2≤Big) (hs:n.kids.length≤1000000):qh Tryz.prog 84 [enc n] (.str (ptT n)):=by
 refine qe c0w (by simp) (by simp only [go_sem]) rfl fun hw=>?_
 have hM:=qca
 have hkid:∀ x∈n.kids,(ptT x).length + 2≤Big:=fun x hx=>by have:=qfy ht hx;omega
 by_cases h1:n.kind = 1
 ·have he:ptT n = n.text ++ Lib.join (n.kids.map atT) []:=by rw [qeh,if_neg (fun h=>h.1 h1),qch]
  have hj:=q7 (m:=[]) (fun x hx=>qbx (ih x hx) (hkid x hx)) (by rw [he,List.length_append] at hl;omega) hs
  rw [he] at hl ⊢
  rw [List.length_append] at hl
  repeat' (first | refine vs_ ?_ | ((first | refine vr_ ?_ | fail)<;>(try simp only [h1,decide_true,Bool.not_true,go_sem,↓reduceIte])) | ((first | (refine cs_ ?_ ?_<;>intro hc) | refine cj_ ?_ | simp (disch:=omega) only [qb,qf] | refine qa hj fun _=>?_ | refine qc hj ?_)<;>(try refine ev_ ?_)) | with_reducible exact ti_)
  all_goals try (exfalso;revert hc;simp;done)
 by_cases h2:n.text = [45,62]
 ·have hk:=qpk (ht h1 h2)
  have hlen:=ht h1 h2
  have m0:n.kids.getD 0 N0∈n.kids:=qg (by omega)
  have m1:n.kids.getD 1 N0∈n.kids:=qg (by omega)
  have he:ptT n = cloW (!decide ((n.kids.getD 0 N0).text = [45,62])) (ptT (n.kids.getD 0 N0)) ++ ([32,45,62,32] ++ ptT (n.kids.getD 1 N0)):=by rw [qeh,if_pos ⟨h1,h2⟩];rfl
  have hc0:=qbs (b:=!decide ((n.kids.getD 0 N0).text = [45,62])) (qf5 (n.kids.getD 0 N0)) (ih _ m0) (hkid _ m0)
  have ht1:=ih _ m1
  unfold PT at ht1
  have g0:(encs n.kids).getD 0 .junk = enc (n.kids.getD 0 N0):=qb (by omega)
  have g1:(encs n.kids).getD 1 .junk = enc (n.kids.getD 1 N0):=qb (by omega)
  rw [he] at hl ⊢
  simp only [List.length_append,List.length_cons,List.length_nil] at hl
  repeat' (first | refine vs_ ?_ | ((first | refine vr_ ?_ | fail)<;>(try simp only [h1,h2,g0,g1,List.length_append,go_sem,↓reduceIte])) | ((first | (refine cs_ ?_ ?_<;>intro hc) | refine cj_ ?_ | simp (disch:=omega) only [qb,qf] | refine qa hc0 fun _=>?_ | refine qa ht1 fun _=>?_ | refine qc hc0 ?_ | refine qc ht1 ?_)<;>(try refine ev_ ?_)) | with_reducible exact ti_)
 ·have he:ptT n = n.text ++ Lib.join (n.kids.map atT) []:=by rw [qeh,if_neg (fun h=>h2 h.2),qch]
  have hj:=q7 (m:=[]) (fun x hx=>qbx (ih x hx) (hkid x hx)) (by rw [he,List.length_append] at hl;omega) hs
  rw [he] at hl ⊢
  rw [List.length_append] at hl
  repeat' (first | refine vs_ ?_ | ((first | refine vr_ ?_ | fail)<;>(try simp only [h1,h2,go_sem,↓reduceIte])) | ((first | (refine cs_ ?_ ?_<;>intro hc) | refine cj_ ?_ | simp (disch:=omega) only [qb,qf] | refine qa hj fun _=>?_ | refine qc hj ?_)<;>(try refine ev_ ?_)) | with_reducible exact ti_)
theorem qmm {n:N} (h:tyW n = true) (h1:n.kind≠1) (h2:n.text = arW):n.kids.length = 2:=(qos h ⟨h1,h2⟩).1
theorem qm4 {n:N} (h:tyW n = true):∀ x∈n.kids,tyW x = true:=by
 by_cases ha:n.kind≠1∧n.text = arW
 ·obtain ⟨h2,t0,t1⟩:=qos h ha
  intro x hx
  rw [qpk h2] at hx
  simp only [List.mem_cons,List.not_mem_nil,or_false] at hx
  rcases hx with rfl | rfl
  ·exact t0
  ·exact t1
 ·exact (qr6 h ha).2.2
theorem qow {n:N} (h:qh Tryz.prog 84 [enc n] (.str (ptT n))):PT n:=by
 refine qe c0m (by simp) (by simp only [AV.bds,qf5];rfl) rfl fun hw=>?_
 repeat' (first | refine vs_ ?_ | ((first | refine vr_ ?_ | refine qa h fun _=>?_ | (refine cs_ ?_ ?_<;>intro hc) | refine cj_ ?_ | fail)<;>(try refine ev_ ?_)) | with_reducible exact ti_)
theorem qbm {n x:N} (h:x∈n.kids):sz x + 1≤sz n:=by
 rw [qfa n];have:=qm3 h;omega
theorem qda (n:N):n.kids.length + 1≤sz n:=by rw [qfa];have:=qs7 n.kids;omega
theorem qbj:∀ n,tyW n = true->sz n≤1000000->(ptT n).length + 2≤Big->PT n:=N.ind fun n ih ht hs hl=>qow (qhz (qmm ht) (fun x hx=>ih x hx (qm4 ht x hx) (by have:=qbm hx;omega) (by have:=qfy (qmm ht) hx;omega)) hl (by have:=qda n;omega))
theorem qk6 {n:N} (h:cnW n = true) (hs:sz n≤1000000) (hl:(ptT n).length + 2≤Big):PT n:=by
 obtain ⟨_,_,h3,h4⟩:=qkl h
 have hne:n.kind≠1->n.text = arW->n.kids.length = 2:=fun _ e=>by
  rw [e] at h3
  exact absurd h3 (by decide)
 exact qow (qhz hne (fun x hx=>qbj x (h4 x hx) (by have:=qbm hx;omega) (by have:=qfy hne hx;omega)) hl (by have:=qda n;omega))
/-! contexts -/
theorem qgy {n:N} (h:prW n = true) (hs:sz n≤1000000) (hl:(prT n).length + 2≤Big):qh Tryz.prog 118 [enc n] (.str (prT n)):=by
 obtain ⟨p1,p2,p3,p4,p5⟩:=qka h
 refine qe c0x (by simp) (by simp only [go_sem]) rfl fun hw=>?_
 have hM:=qca
 have m0:n.kids.getD 0 N0∈n.kids:=qg (by omega)
 have g0:(encs n.kids).getD 0 .junk = enc (n.kids.getD 0 N0):=qb (by omega)
 have hk:=qbm m0
 have hc:=(qp (qn (n.kids.getD 0 N0)) (ptT (n.kids.getD 0 N0))).1
 have hl2:(atT (n.kids.getD 0 N0)).length = (cloW (qn (n.kids.getD 0 N0)) (ptT (n.kids.getD 0 N0))).length + 1:=rfl
 rw [prT,List.length_append] at hl
 have ha:=qbx (qbj _ p5 (by omega) (by omega)) (by omega)
 rw [prT]
 repeat' (first | refine vs_ ?_ | ((first | refine vr_ ?_ | fail)<;>(try simp only [g0,p4,go_sem,↓reduceIte])) | ((first | (refine cs_ ?_ ?_<;>intro hc) | refine cj_ ?_ | simp (disch:=omega) only [qb,qf] | refine qa ha fun _=>?_ | refine qc ha ?_)<;>(try refine ev_ ?_)) | with_reducible exact ti_)
theorem qc2 {l:List N} (h:∀ x∈l,prW x = true∧sz x≤1000000) (hn:l.length≤1000000) (hl:(ctT l).length + 2≤Big):qh Tryz.prog 74 [.sl 5 (encs l)] (.str (ctT l)):=by
 refine qe c0y (by simp) (by simp only [go_sem]) rfl fun hw=>?_
 have hM:=qca
 have hj2:(Lib.join (l.map prT) cmW).length + 2≤Big:=by
  by_cases h0:l = []
  ·subst h0;simp [Lib.join,List.intercalate,Big]
  ·rw [ctT,if_neg h0,List.length_append] at hl
   have:=(qp (decide (l.length = 1)) (Lib.join (l.map prT) cmW)).1
   omega
 have hj:=q7 (g:=prT) (m:=[44,32]) (fun x hx=>qgy (h x hx).1 (h x hx).2 (by
  have:=qbf (m:=cmW) (List.mem_map_of_mem (f:=prT) hx)
  omega)) (by show (Lib.join (l.map prT) cmW).length≤Big;omega) hn
 have hj:qh Tryz.prog 44 [.sl 5 (encs l),.str [44,32],.fn 118 [] []] (.str (Lib.join (l.map prT) cmW)):=hj
 rw [ctT] at hl ⊢
 by_cases h0:l = []
 ·subst h0
  repeat' (first | refine vs_ ?_ | ((first | refine vr_ ?_ | refine qa hj fun _=>?_ | (refine cs_ ?_ ?_<;>intro hc) | refine cj_ ?_ | simp (disch:=omega) only [qb,qf])<;>(try refine ev_ ?_)) | with_reducible exact ti_)
 rw [if_neg h0,List.length_append] at hl
 rw [if_neg h0]
 have h0':(l.length:Int)≠0:=fun e=>h0 (List.length_eq_zero_iff.1 (by omega))
 by_cases h1:l.length = 1
 ·rw [decide_eq_true h1] at hl ⊢
  rw [cloW,if_pos rfl] at hl ⊢
  simp only [List.length_cons,List.length_nil] at hl
  repeat' (first | refine vs_ ?_ | ((first | refine vr_ ?_ | fail)<;>(try simp only [h1,List.length_append,go_sem,↓reduceIte])) | ((first | (refine cs_ ?_ ?_<;>intro hc) | refine cj_ ?_ | simp (disch:=omega) only [qb,qf] | refine qa hj fun _=>?_)<;>(try refine ev_ ?_)) | with_reducible exact ti_)
  all_goals (exfalso;revert hc;decide)
 ·rw [decide_eq_false h1] at hl ⊢
  rw [cloW,if_neg Bool.false_ne_true] at hl ⊢
  simp only [List.length_cons,List.length_nil,List.length_append] at hl
  have h1':(l.length:Int)≠1:=by omega
  repeat' (first | refine vs_ ?_ | ((first | refine vr_ ?_ | fail)<;>(try simp only [h0',h1',List.length_append,go_sem,↓reduceIte])) | ((first | (refine cs_ ?_ ?_<;>intro hc) | refine cj_ ?_ | simp (disch:=omega) only [qb,qf] | refine qa hj fun _=>?_)<;>(try refine ev_ ?_)) | with_reducible exact ti_)
  all_goals try (exfalso;omega)
theorem qgx {n:N} (h:quW n = true) (hs:sz n≤1000000) (hl:(quT n).length + 4≤Big):qh Tryz.prog 36 [enc n] (.str (quT n)):=by
 obtain ⟨q1,q2,q3,q4,q5,q6⟩:=qj7 h
 refine qe c0z (by simp) (by simp only [go_sem]) rfl fun hw=>?_
 have hM:=qca
 have hkl:=qda n
 have hpos:0 < n.kids.length:=by rw [q4];simp
 have hmt:qew n∈n.kids:=by rw [q4];simp
 have hma:∀ x∈qcg n,x∈n.kids:=fun x hx=>by rw [q4];simp [hx]
 have he:quT n = ctT (qcg n) ++ ptT (qew n):=rfl
 rw [he,List.length_append] at hl
 rw [he]
 have hc:=qc2 (l:=qcg n) (fun x hx=>⟨q5 x hx,by have:=qbm (hma x hx);omega⟩) (by rw [qcg,List.length_take];omega) (by omega)
 have ht:=qbj (qew n) q6 (by have:=qbm hmt;omega) (by omega)
 unfold PT at ht
 have e1:((n.kids.length:Int) - 1).toNat = n.kids.length - 1:=by omega
 have g0:(encs n.kids).getD (n.kids.length - 1) .junk = enc (qew n):=qb (by omega)
 have g1:(encs n.kids).take (n.kids.length - 1) = encs (qcg n):=qbt _ _
 have hwr:IntKind.i64.wrap ((n.kids.length:Int) - 1) = (n.kids.length:Int) - 1:=qb8 (by omega) (by omega)
 have ht':qh Tryz.prog 46 [.iface 37 (enc (n.kids.getD ((n.kids.length:Int) - 1).toNat N0))] (.str (ptT (qew n))):=by rw [e1];exact ht
 repeat' (first | refine vs_ ?_ | ((first | refine vr_ ?_ | fail)<;>(try simp only [hwr,e1,g0,g1,go_sem,↓reduceIte])) | ((first | (refine cs_ ?_ ?_<;>intro hc) | refine cj_ ?_ | simp (disch:=omega) only [qb,qf] | refine qa hc fun _=>?_ | refine qa ht' fun _=>?_ | refine qc hc ?_ | refine qc ht' ?_)<;>(try refine ev_ ?_)) | with_reducible exact ti_)
/-! patterns -/
def PP (n:N):Prop:=qh Tryz.prog 46 [.iface 38 (enc n)] (.str (ptP n))
theorem qv8 {n:N} (h:qh Tryz.prog 85 [enc n] (.str (ptP n))):PP n:=by
 refine qe c0m (by simp) (by simp only [AV.bds,qf5];rfl) rfl fun hw=>?_
 repeat' (first | refine vs_ ?_ | ((first | refine vr_ ?_ | refine qa h fun _=>?_ | (refine cs_ ?_ ?_<;>intro hc) | refine cj_ ?_ | fail)<;>(try refine ev_ ?_)) | with_reducible exact ti_)
theorem qll {n:N} (h:PP n) (hl:(ptP n).length + 2≤Big):qh Tryz.prog 133 [enc n] (.str (atP n)):=by
 refine qe c0ba (by simp) (by simp only [go_sem]) rfl fun hw=>?_
 have hM:=qca
 have h1:=qbs (b:=qn n) (qf5 n) h hl
 have h2:=qp (qn n) (ptP n)
 repeat' (first | refine vs_ ?_ | ((first | refine vr_ ?_ | refine qa (qb0 n) fun _=>?_ | refine qa h1 fun _=>?_ | refine qc (qb0 n) ?_ | refine qc h1 ?_ | (refine cs_ ?_ ?_<;>intro hc) | refine cj_ ?_ | simp (disch:=omega) only [qb,qf])<;>(try refine ev_ ?_)) | with_reducible exact ti_)
 all_goals rfl
theorem qf2 {n:N} (h:paW n = true):∀ x∈n.kids,paW x = true∧n.kind = 14:=by
 rcases quj h with ⟨_,_,h,_⟩ | ⟨_,_,h,_⟩ | ⟨_,_,h,_⟩ | ⟨h0,h1,h2,h3⟩
 ·rw [h];intro x hx;cases hx
 ·rw [h];intro x hx;cases hx
 ·rw [h];intro x hx;cases hx
 ·exact fun x hx=>⟨h2 x hx,h0⟩
theorem qrm {n x:N} (hk:n.kind = 14) (h:x∈n.kids):(ptP x).length + 1≤(ptP n).length:=by
 rw [qgr n,if_neg (by omega),if_neg (by omega),List.length_append]
 have h1:=qop (f:=atP) h
 have h2:=(qp (qn x) (ptP x)).1
 have h3:(atP x).length = (cloW (qn x) (ptP x)).length + 1:=rfl
 omega
theorem qgo:∀ n,paW n = true->sz n≤1000000->(ptP n).length + 2≤Big->PP n:=N.ind fun n ih ht hs hl=>by
 refine qv8 (qe c0bb (by simp) (by simp only [go_sem]) rfl fun hw=>?_)
 have hM:=qca
 have hkl:=qda n
 by_cases h12:n.kind = 12
 ·have he:ptP n = [95]:=by rw [qgr,if_pos h12]
  rw [he]
  repeat' (first | refine vs_ ?_ | ((first | refine vr_ ?_ | fail)<;>(try simp only [h12,go_sem,↓reduceIte])) | ((first | (refine cs_ ?_ ?_<;>intro hc) | refine cj_ ?_ | simp (disch:=omega) only [qb,qf])<;>(try refine ev_ ?_)) | with_reducible exact ti_)
  all_goals (exfalso;revert hc;decide)
 by_cases h13:n.kind = 13
 ·have he:ptP n = digI n.num:=by rw [qgr,if_neg h12,if_pos h13]
  rw [he]
  repeat' (first | refine vs_ ?_ | ((first | refine vr_ ?_ | fail)<;>(try simp only [h13,go_sem,↓reduceIte])) | ((first | (refine cs_ ?_ ?_<;>intro hc) | refine cj_ ?_ | simp (disch:=omega) only [qb,qf] | refine qa (qfw n.num) fun _=>?_ | refine qc (qfw n.num) ?_)<;>(try refine ev_ ?_)) | with_reducible exact ti_)
  all_goals (exfalso;revert hc;decide)
 have he:ptP n = n.text ++ Lib.join (n.kids.map atP) []:=by rw [qgr,if_neg h12,if_neg h13,qch]
 have hj:=q7 (g:=atP) (m:=[]) (fun x hx=>qll (ih x hx (qf2 ht x hx).1 (by have:=qbm hx;omega) (by have:=qrm (qf2 ht x hx).2 hx;omega)) (by have:=qrm (qf2 ht x hx).2 hx;omega)) (by rw [he,List.length_append] at hl;omega) (by omega)
 rw [he] at hl ⊢
 rw [List.length_append] at hl
 repeat' (first | refine vs_ ?_ | ((first | refine vr_ ?_ | fail)<;>(try simp only [h12,h13,go_sem,↓reduceIte])) | ((first | (refine cs_ ?_ ?_<;>intro hc) | refine cj_ ?_ | simp (disch:=omega) only [qb,qf] | refine qa hj fun _=>?_ | refine qc hj ?_)<;>(try refine ev_ ?_)) | with_reducible exact ti_)
end Go.Proofs.YtlmcofjcpadmiaaGreat
