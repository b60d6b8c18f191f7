/- A text of this proof. -/
import Derived.Test.YtlmcofjcpadmiaaGreatNbh
set_option linter.unusedVariables false
set_option linter.unusedSimpArgs false

/- trees that are written: the program's walk: types, patterns, contexts -/
set_option maxRecDepth 4000
namespace Go.Proofs.YtlmcofjcpadmiaaGreat
open Go Go.RowKit Go.V

def Big:Nat:=140737488355328
theorem qmo:Big + 1000≤maxLen:=by unfold Big maxLen;omega
theorem qc5 (b:Bool) (s:List UInt8):s.length≤(cloW b s).length∧(cloW b s).length≤s.length + 2:=by
 unfold cloW
 split
 ·omega
 ·simp only [List.length_cons,List.length_append,List.length_nil];omega
theorem qfq {m:List UInt8}:∀ {l:List (List UInt8)} {x:List UInt8},x∈l->x.length≤(Lib.join l m).length
 | [a], x, h => by
   simp only [List.mem_singleton] at h
   subst h
   rw [qm6];exact Nat.le_refl _
 | a :: b :: r, x, h => by
   rw [qkw,List.length_append,List.length_append]
   rcases List.mem_cons.1 h with rfl | h
   ·omega
   ·have:=qfq (m:=m) h;omega
theorem qgd (l:List (List UInt8)):Lib.join l [] = l.flatten:=by
 induction l with
 | nil=>rfl
 | cons a l ih => cases l with
   | nil=>rw [qm6];simp
   | cons b r=>rw [qkw,ih];simp
theorem qfc (n:N):qx Tryz.prog 134 [enc n] (.bool (qbi n)):=by
 refine qn c0v (by simp) (by simp only [go_sem]) rfl fun hw=>?_
 have e:qbi n = decide ((n.kids.length:Int) = 0):=by
  rw [qbi]
  cases n.kids with
  | nil=>rfl
  | cons _ _=>symm;simp;omega
 rw [e]
 repeat' (first | refine vs_ ?_ | ((first | refine vr_ ?_ | (refine cs_ ?_ ?_<;>intro hc) | refine cj_ ?_ | fail)<;>(try refine ev_ ?_)) | with_reducible exact ti_)
theorem qe0 {x:AV} {s:List UInt8} {b:Bool} (hx:x.bd 0 = true) (h:qx Tryz.prog 46 [x] (.str s)) (hl:s.length + 2≤Big):qx Tryz.prog 131 [x,.bool b] (.str (cloW b s)):=by
 refine qn c0w (by simp) (by simp only [AV.bds,hx];rfl) rfl fun hw=>?_
 have hM:=qmo
 cases b with
 | true =>
   repeat' (first | refine vs_ ?_ | ((first | refine vr_ ?_ | refine qa h fun _=>?_ | (refine cs_ ?_ ?_<;>intro hc) | refine cj_ ?_ | simp (disch:=omega) only [qc,qs])<;>(try refine ev_ ?_)) | with_reducible exact ti_)
   rfl
 | false =>
   repeat' (first | refine vs_ ?_ | ((first | refine vr_ ?_ | fail)<;>(try simp only [List.length_append,go_sem,↓reduceIte])) | ((first | (refine cs_ ?_ ?_<;>intro hc) | refine cj_ ?_ | simp (disch:=omega) only [qc,qs] | refine qa h fun _=>?_)<;>(try refine ev_ ?_)) | with_reducible exact ti_)
   rfl
def qn2 (g:N->List UInt8) (l:List N) (i:Nat):List AV:=((l.take i).map fun x=>AV.str (g x)) ++ List.replicate (l.length - i) (.str [])
theorem qbdq {g:N->List UInt8} {l:List N} {i:Nat} (h:i≤l.length):(qn2 g l i).length = l.length:=by
 rw [qn2,List.length_append,List.length_map,List.length_take,List.length_replicate];omega
theorem qbff {g:N->List UInt8} {l:List N} {i:Nat} (h:i < l.length):(qn2 g l i).set i (.str (g (l.getD i N0))) = qn2 g l (i + 1):=by
 have hk:((l.take i).map fun x=>AV.str (g x)).length = i:=by rw [List.length_map,List.length_take];omega
 obtain ⟨k,hk2⟩:∃ k,l.length - i = k + 1:=⟨l.length - i - 1,by omega⟩
 have hk3:l.length - (i + 1) = k:=by omega
 rw [qn2,qn2,List.set_append_right _ _ (by omega),hk,Nat.sub_self,hk2,hk3,List.replicate_succ,List.set_cons_zero,qb2i h,List.map_append]
 simp
theorem qbbc (g:N->List UInt8) (l:List N):qn2 g l l.length = (l.map g).map AV.str:=by
 rw [qn2,Nat.sub_self,List.take_length];simp
theorem qwj (k:Nat) (g:N->List UInt8) (l:List N) (i:Nat):AV.bds k (qn2 g l i) = true:=by
 rw [qn2,qq8,List.all_append,List.all_map,List.all_replicate]
 simp [AV.bd]
theorem qyu (σ:Nat->Nat) (g:N->List UInt8) (l:List N) (i:Nat):AV.rens σ (qn2 g l i) = qn2 g l i:=qb9 (m:=0) (fun i hi=>by omega) _ (qwj 0 g l i)
theorem qcz {so:FuncId} {g:N->List UInt8} {l:List N} {m:List UInt8} (h:∀ x∈l,qx Tryz.prog so [enc x] (.str (g x))) (hl:(Lib.join (l.map g) m).length≤Big) (hn:l.length≤1000000) :
 qx Tryz.prog 44 [.sl 5 (encs l),.str m,.fn so [] []] (.str (Lib.join (l.map g) m)):=by
 refine qn c0x (by simp) (by simp only [go_sem]) rfl fun hw=>?_
 repeat' (first | refine vs_ ?_ | ((first | refine vr_ ?_ | (refine cs_ ?_ ?_<;>intro hc) | refine cj_ ?_ | simp (disch:=omega) only [qc,qs])<;>(try refine ev_ ?_)) | with_reducible exact ti_)
 refine ⟨⟨by omega,by unfold maxLen;omega⟩,?_⟩
 repeat' (first | refine vs_ ?_ | ((first | refine vr_ ?_ | (refine cs_ ?_ ?_<;>intro hc) | refine cj_ ?_ | simp (disch:=omega) only [qc,qs])<;>(try refine ev_ ?_)) | with_reducible exact ti_)
 refine qcm (S:=Nat) (fun i=>i≤l.length) (fun i=>(⟨[(1,.str m),(2,.fn so [] []),(7,.row 0 l.length),(13,.sl 5 (encs l)),(14,.int .i64 l.length),(15,.int .i64 i)],[]⟩,[.mrow 1 (qn2 g l i)])) (fun i=>l.length - i) ?_ fun i hi=>?_
 ·refine qb1 0 [0] (Nat.zero_le _) rfl (by simp) ?_ ?_ ?_<;>(try refine ev_ ?_)<;>(try with_reducible exact ti_)<;>(try simp (disch:=omega) only [qs,and_true,true_and])
  exact ⟨qwj _ _ _ _,by rw [qyu,qn2,List.take_zero,Nat.sub_zero];rfl⟩
 ·have hpl:=qbdq (g:=g) hi
  by_cases hlt:i < l.length
  ·have hset:=qbff (g:=g) hlt
   repeat' (first | refine vs_ ?_ | ((first | refine vr_ ?_ | fail)<;>(try simp (disch:=first | omega | (simp only [List.length_set,List.length_append,List.length_cons,List.length_nil];done) | (simp only [List.length_set,List.length_append,List.length_cons,List.length_nil];omega)) only [qs,hpl,go_sem,↓reduceIte])) | ((first | (refine cs_ ?_ ?_<;>intro hc) | refine cj_ ?_ | simp (disch:=omega) only [qc,qs] | refine qa (h _ (qi hlt)) fun _=>?_)<;>(try refine ev_ ?_)) | with_reducible exact ti_)
   all_goals try (exfalso;omega)
   refine qb1 (i + 1) [0] ⟨by omega,by omega⟩ rfl (by simp) ?_ ?_ ?_<;>(try refine ev_ ?_)<;>(try with_reducible exact ti_)<;>(try simp (disch:=omega) only [qs,and_true,true_and])
   ·exact ⟨qwj _ _ _ _,by rw [qyu,← hset]⟩
   ·rw [qbba (by omega) (by omega),Int.natCast_add];rfl
  ·have hie:i = l.length:=by omega
   subst hie
   have hend:=qbbc g l
   rw [hend] at hpl ⊢
   refine qce0 0 rfl (by simp [AV.isAgg,AV.leaf,AV.cells]) ?_
   simp only [List.set_cons_zero]
   have hj:=strings_Join (ls:=l.map g) (sep:=m) (by simp;omega) hl
   repeat' (first | refine vs_ ?_ | ((first | refine vr_ ?_ | fail)<;>(try simp only [hpl,go_sem,↓reduceIte])) | ((first | (refine cs_ ?_ ?_<;>intro hc) | refine cj_ ?_ | simp (disch:=omega) only [qc,qs] | refine qa hj fun _=>?_)<;>(try refine ev_ ?_)) | with_reducible exact ti_)
   all_goals try (exfalso;omega)
/-! types -/
def PT (n:N):Prop:=qx Tryz.prog 46 [.iface 37 (enc n)] (.str (ptT n))
theorem qou {t:TypeId} (n:N):(AV.iface t (enc n)).bd 0 = true:=by simp only [AV.bd,qne]
theorem qe9 {n:N} (h:PT n) (hl:(ptT n).length + 2≤Big):qx Tryz.prog 119 [enc n] (.str (atT n)):=by
 refine qn c0y (by simp) (by simp only [go_sem]) rfl fun hw=>?_
 have hM:=qmo
 have h1:=qe0 (b:=qbi n) (qou n) h hl
 have h2:=qc5 (qbi n) (ptT n)
 repeat' (first | refine vs_ ?_ | ((first | refine vr_ ?_ | refine qa (qfc n) fun _=>?_ | refine qa h1 fun _=>?_ | refine qj (qfc n) ?_ | refine qj h1 ?_ | (refine cs_ ?_ ?_<;>intro hc) | refine cj_ ?_ | simp (disch:=omega) only [qc,qs])<;>(try refine ev_ ?_)) | with_reducible exact ti_)
 all_goals rfl
theorem q5d {l:List N} {f:N->List UInt8} {x:N} (h:x∈l):(f x).length≤(l.map f).flatten.length:=by
 rw [← qgd]
 exact qfq (List.mem_map_of_mem h)
theorem q3d {n x:N} (ht:n.kind≠1->n.text = arW->n.kids.length = 2) (h:x∈n.kids):(ptT x).length + 1≤(ptT n).length:=by
 rw [qkf n]
 by_cases ha:n.kind≠1∧n.text = arW
 ·rw [if_pos ha]
  have h2:=ht ha.1 ha.2
  have hk:=q79 h2
  have hc:=(qc5 (!decide ((n.kids.getD 0 N0).text = arW)) (ptT (n.kids.getD 0 N0))).1
  simp only [List.length_append,List.length_cons,List.length_nil]
  rw [hk] at h
  simp only [List.mem_cons,List.not_mem_nil,or_false] at h
  rcases h with rfl | rfl<;>omega
 ·rw [if_neg ha,List.length_append]
  have h1:=q5d (f:=atT) h
  have h2:=(qc5 (qbi x) (ptT x)).1
  have h3:(atT x).length = (cloW (qbi x) (ptT x)).length + 1:=rfl
  omega
set_option maxHeartbeats 1000000 in
theorem qq7 {n:N} (ht:n.kind≠1->n.text = arW->n.kids.length = 2) (ih:∀ x∈n.kids,PT x) (hl:(ptT n).length + 2≤Big) (hs:n.kids.length≤1000000):qx Tryz.prog 84 [enc n] (.str (ptT n)):=by
 refine qn c0z (by simp) (by simp only [go_sem]) rfl fun hw=>?_
 have hM:=qmo
 have hkid:∀ x∈n.kids,(ptT x).length + 2≤Big:=fun x hx=>by have:=q3d ht hx;omega
 by_cases h1:n.kind = 1
 ·have he:ptT n = n.text ++ Lib.join (n.kids.map atT) []:=by rw [qkf,if_neg (fun h=>h.1 h1),qgd]
  have hj:=qcz (m:=[]) (fun x hx=>qe9 (ih x hx) (hkid x hx)) (by rw [he,List.length_append] at hl;omega) hs
  rw [he] at hl ⊢
  rw [List.length_append] at hl
  repeat' (first | refine vs_ ?_ | ((first | refine vr_ ?_ | fail)<;>(try simp only [h1,decide_true,Bool.not_true,go_sem,↓reduceIte])) | ((first | (refine cs_ ?_ ?_<;>intro hc) | refine cj_ ?_ | simp (disch:=omega) only [qc,qs] | refine qa hj fun _=>?_ | refine qj hj ?_)<;>(try refine ev_ ?_)) | with_reducible exact ti_)
  all_goals try (exfalso;revert hc;simp;done)
 by_cases h2:n.text = [45,62]
 ·have hk:=q79 (ht h1 h2)
  have hlen:=ht h1 h2
  have m0:n.kids.getD 0 N0∈n.kids:=qi (by omega)
  have m1:n.kids.getD 1 N0∈n.kids:=qi (by omega)
  have he:ptT n = cloW (!decide ((n.kids.getD 0 N0).text = [45,62])) (ptT (n.kids.getD 0 N0)) ++ ([32,45,62,32] ++ ptT (n.kids.getD 1 N0)):=by rw [qkf,if_pos ⟨h1,h2⟩];rfl
  have hc0:=qe0 (b:=!decide ((n.kids.getD 0 N0).text = [45,62])) (qou (n.kids.getD 0 N0)) (ih _ m0) (hkid _ m0)
  have ht1:=ih _ m1
  unfold PT at ht1
  have g0:(encs n.kids).getD 0 .junk = enc (n.kids.getD 0 N0):=qc (by omega)
  have g1:(encs n.kids).getD 1 .junk = enc (n.kids.getD 1 N0):=qc (by omega)
  rw [he] at hl ⊢
  simp only [List.length_append,List.length_cons,List.length_nil] at hl
  repeat' (first | refine vs_ ?_ | ((first | refine vr_ ?_ | fail)<;>(try simp only [h1,h2,g0,g1,List.length_append,go_sem,↓reduceIte])) | ((first | (refine cs_ ?_ ?_<;>intro hc) | refine cj_ ?_ | simp (disch:=omega) only [qc,qs] | refine qa hc0 fun _=>?_ | refine qa ht1 fun _=>?_ | refine qj hc0 ?_ | refine qj ht1 ?_)<;>(try refine ev_ ?_)) | with_reducible exact ti_)
 ·have he:ptT n = n.text ++ Lib.join (n.kids.map atT) []:=by rw [qkf,if_neg (fun h=>h2 h.2),qgd]
  have hj:=qcz (m:=[]) (fun x hx=>qe9 (ih x hx) (hkid x hx)) (by rw [he,List.length_append] at hl;omega) hs
  rw [he] at hl ⊢
  rw [List.length_append] at hl
  repeat' (first | refine vs_ ?_ | ((first | refine vr_ ?_ | fail)<;>(try simp only [h1,h2,go_sem,↓reduceIte])) | ((first | (refine cs_ ?_ ?_<;>intro hc) | refine cj_ ?_ | simp (disch:=omega) only [qc,qs] | refine qa hj fun _=>?_ | refine qj hj ?_)<;>(try refine ev_ ?_)) | with_reducible exact ti_)
theorem qbb0 {n:N} (h:tyW n = true) (h1:n.kind≠1) (h2:n.text = arW):n.kids.length = 2:=(qih h ⟨h1,h2⟩).1
theorem qbbi {n:N} (h:tyW n = true):∀ x∈n.kids,tyW x = true:=by
 by_cases ha:n.kind≠1∧n.text = arW
 ·obtain ⟨h2,t0,t1⟩:=qih h ha
  intro x hx
  rw [q79 h2] at hx
  simp only [List.mem_cons,List.not_mem_nil,or_false] at hx
  rcases hx with rfl | rfl
  ·exact t0
  ·exact t1
 ·exact (qkc h ha).2.2
theorem q49 {n:N} (h:qx Tryz.prog 84 [enc n] (.str (ptT n))):PT n:=by
 refine qn c0p (by simp) (by simp only [AV.bds,qou];rfl) rfl fun hw=>?_
 repeat' (first | refine vs_ ?_ | ((first | refine vr_ ?_ | refine qa h fun _=>?_ | (refine cs_ ?_ ?_<;>intro hc) | refine cj_ ?_ | fail)<;>(try refine ev_ ?_)) | with_reducible exact ti_)
theorem qlo {n x:N} (h:x∈n.kids):sz x + 1≤sz n:=by
 rw [qg1 n];have:=qbd1 h;omega
theorem qrs (n:N):n.kids.length + 1≤sz n:=by rw [qg1];have:=qbgb n.kids;omega
theorem qd3:∀ n,tyW n = true->sz n≤1000000->(ptT n).length + 2≤Big->PT n:=N.ind fun n ih ht hs hl=>q49 (qq7 (qbb0 ht) (fun x hx=>ih x hx (qbbi ht x hx) (by have:=qlo hx;omega) (by have:=q3d (qbb0 ht) hx;omega)) hl (by have:=qrs n;omega))
theorem qy0 {n:N} (h:cnW n = true) (hs:sz n≤1000000) (hl:(ptT n).length + 2≤Big):PT n:=by
 obtain ⟨_,_,h3,h4⟩:=qqw h
 have hne:n.kind≠1->n.text = arW->n.kids.length = 2:=fun _ e=>by
  rw [e] at h3
  exact absurd h3 (by decide)
 exact q49 (qq7 hne (fun x hx=>qd3 x (h4 x hx) (by have:=qlo hx;omega) (by have:=q3d hne hx;omega)) hl (by have:=qrs n;omega))
/-! contexts -/
theorem qp4 {n:N} (h:prW n = true) (hs:sz n≤1000000) (hl:(prT n).length + 2≤Big):qx Tryz.prog 118 [enc n] (.str (prT n)):=by
 obtain ⟨p1,p2,p3,p4,p5⟩:=qjl h
 refine qn c0ba (by simp) (by simp only [go_sem]) rfl fun hw=>?_
 have hM:=qmo
 have m0:n.kids.getD 0 N0∈n.kids:=qi (by omega)
 have g0:(encs n.kids).getD 0 .junk = enc (n.kids.getD 0 N0):=qc (by omega)
 have hk:=qlo m0
 have hc:=(qc5 (qbi (n.kids.getD 0 N0)) (ptT (n.kids.getD 0 N0))).1
 have hl2:(atT (n.kids.getD 0 N0)).length = (cloW (qbi (n.kids.getD 0 N0)) (ptT (n.kids.getD 0 N0))).length + 1:=rfl
 rw [prT,List.length_append] at hl
 have ha:=qe9 (qd3 _ p5 (by omega) (by omega)) (by omega)
 rw [prT]
 repeat' (first | refine vs_ ?_ | ((first | refine vr_ ?_ | fail)<;>(try simp only [g0,p4,go_sem,↓reduceIte])) | ((first | (refine cs_ ?_ ?_<;>intro hc) | refine cj_ ?_ | simp (disch:=omega) only [qc,qs] | refine qa ha fun _=>?_ | refine qj ha ?_)<;>(try refine ev_ ?_)) | with_reducible exact ti_)
theorem qhp {l:List N} (h:∀ x∈l,prW x = true∧sz x≤1000000) (hn:l.length≤1000000) (hl:(ctT l).length + 2≤Big):qx Tryz.prog 74 [.sl 5 (encs l)] (.str (ctT l)):=by
 refine qn c0bb (by simp) (by simp only [go_sem]) rfl fun hw=>?_
 have hM:=qmo
 have hj2:(Lib.join (l.map prT) cmW).length + 2≤Big:=by
  by_cases h0:l = []
  ·subst h0;simp [Lib.join,List.intercalate,Big]
  ·rw [ctT,if_neg h0,List.length_append] at hl
   have:=(qc5 (decide (l.length = 1)) (Lib.join (l.map prT) cmW)).1
   omega
 have hj:=qcz (g:=prT) (m:=[44,32]) (fun x hx=>qp4 (h x hx).1 (h x hx).2 (by
  have:=qfq (m:=cmW) (List.mem_map_of_mem (f:=prT) hx)
  omega)) (by show (Lib.join (l.map prT) cmW).length≤Big;omega) hn
 have hj:qx Tryz.prog 44 [.sl 5 (encs l),.str [44,32],.fn 118 [] []] (.str (Lib.join (l.map prT) cmW)):=hj
 rw [ctT] at hl ⊢
 by_cases h0:l = []
 ·subst h0
  repeat' (first | refine vs_ ?_ | ((first | refine vr_ ?_ | refine qa hj fun _=>?_ | (refine cs_ ?_ ?_<;>intro hc) | refine cj_ ?_ | simp (disch:=omega) only [qc,qs])<;>(try refine ev_ ?_)) | with_reducible exact ti_)
 rw [if_neg h0,List.length_append] at hl
 rw [if_neg h0]
 have h0':(l.length:Int)≠0:=fun e=>h0 (List.length_eq_zero_iff.1 (by omega))
 by_cases h1:l.length = 1
 ·rw [decide_eq_true h1] at hl ⊢
  rw [cloW,if_pos rfl] at hl ⊢
  simp only [List.length_cons,List.length_nil] at hl
  repeat' (first | refine vs_ ?_ | ((first | refine vr_ ?_ | fail)<;>(try simp only [h1,List.length_append,go_sem,↓reduceIte])) | ((first | (refine cs_ ?_ ?_<;>intro hc) | refine cj_ ?_ | simp (disch:=omega) only [qc,qs] | refine qa hj fun _=>?_)<;>(try refine ev_ ?_)) | with_reducible exact ti_)
  all_goals (exfalso;revert hc;decide)
 ·rw [decide_eq_false h1] at hl ⊢
  rw [cloW,if_neg Bool.false_ne_true] at hl ⊢
  simp only [List.length_cons,List.length_nil,List.length_append] at hl
  have h1':(l.length:Int)≠1:=by omega
  repeat' (first | refine vs_ ?_ | ((first | refine vr_ ?_ | fail)<;>(try simp only [h0',h1',List.length_append,go_sem,↓reduceIte])) | ((first | (refine cs_ ?_ ?_<;>intro hc) | refine cj_ ?_ | simp (disch:=omega) only [qc,qs] | refine qa hj fun _=>?_)<;>(try refine ev_ ?_)) | with_reducible exact ti_)
  all_goals try (exfalso;omega)
theorem qpk {n:N} (h:quW n = true) (hs:sz n≤1000000) (hl:(quT n).length + 4≤Big):qx Tryz.prog 36 [enc n] (.str (quT n)):=by
 obtain ⟨q1,q2,q3,q4,q5,q6⟩:=qnx h
 refine qn c0bc (by simp) (by simp only [go_sem]) rfl fun hw=>?_
 have hM:=qmo
 have hkl:=qrs n
 have hpos:0 < n.kids.length:=by rw [q4];simp
 have hmt:qnf n∈n.kids:=by rw [q4];simp
 have hma:∀ x∈qgw n,x∈n.kids:=fun x hx=>by rw [q4];simp [hx]
 have he:quT n = ctT (qgw n) ++ ptT (qnf n):=rfl
 rw [he,List.length_append] at hl
 rw [he]
 have hc:=qhp (l:=qgw n) (fun x hx=>⟨q5 x hx,by have:=qlo (hma x hx);omega⟩) (by rw [qgw,List.length_take];omega) (by omega)
 have ht:=qd3 (qnf n) q6 (by have:=qlo hmt;omega) (by omega)
 unfold PT at ht
 have e1:((n.kids.length:Int) - 1).toNat = n.kids.length - 1:=by omega
 have g0:(encs n.kids).getD (n.kids.length - 1) .junk = enc (qnf n):=qc (by omega)
 have g1:(encs n.kids).take (n.kids.length - 1) = encs (qgw n):=qiu _ _
 have hwr:IntKind.i64.wrap ((n.kids.length:Int) - 1) = (n.kids.length:Int) - 1:=qbba (by omega) (by omega)
 have ht':qx Tryz.prog 46 [.iface 37 (enc (n.kids.getD ((n.kids.length:Int) - 1).toNat N0))] (.str (ptT (qnf n))):=by rw [e1];exact ht
 repeat' (first | refine vs_ ?_ | ((first | refine vr_ ?_ | fail)<;>(try simp only [hwr,e1,g0,g1,go_sem,↓reduceIte])) | ((first | (refine cs_ ?_ ?_<;>intro hc) | refine cj_ ?_ | simp (disch:=omega) only [qc,qs] | refine qa hc fun _=>?_ | refine qa ht' fun _=>?_ | refine qj hc ?_ | refine qj ht' ?_)<;>(try refine ev_ ?_)) | with_reducible exact ti_)
/-! patterns -/
def PP (n:N):Prop:=qx Tryz.prog 46 [.iface 38 (enc n)] (.str (ptP n))
theorem qbn3 {n:N} (h:qx Tryz.prog 85 [enc n] (.str (ptP n))):PP n:=by
 refine qn c0p (by simp) (by simp only [AV.bds,qou];rfl) rfl fun hw=>?_
 repeat' (first | refine vs_ ?_ | ((first | refine vr_ ?_ | refine qa h fun _=>?_ | (refine cs_ ?_ ?_<;>intro hc) | refine cj_ ?_ | fail)<;>(try refine ev_ ?_)) | with_reducible exact ti_)
theorem q0k {n:N} (h:PP n) (hl:(ptP n).length + 2≤Big):qx Tryz.prog 133 [enc n] (.str (atP n)):=by
 refine qn c0bd (by simp) (by simp only [go_sem]) rfl fun hw=>?_
 have hM:=qmo
 have h1:=qe0 (b:=qbi n) (qou n) h hl
 have h2:=qc5 (qbi n) (ptP n)
 repeat' (first | refine vs_ ?_ | ((first | refine vr_ ?_ | refine qa (qfc n) fun _=>?_ | refine qa h1 fun _=>?_ | refine qj (qfc n) ?_ | refine qj h1 ?_ | (refine cs_ ?_ ?_<;>intro hc) | refine cj_ ?_ | simp (disch:=omega) only [qc,qs])<;>(try refine ev_ ?_)) | with_reducible exact ti_)
 all_goals rfl
theorem qxn {n:N} (h:paW n = true):∀ x∈n.kids,paW x = true∧n.kind = 14:=by
 rcases qg6 h with ⟨_,_,h,_⟩ | ⟨_,_,h,_⟩ | ⟨_,_,h,_⟩ | ⟨h0,h1,h2,h3⟩
 ·rw [h];intro x hx;cases hx
 ·rw [h];intro x hx;cases hx
 ·rw [h];intro x hx;cases hx
 ·exact fun x hx=>⟨h2 x hx,h0⟩
theorem qbdi {n x:N} (hk:n.kind = 14) (h:x∈n.kids):(ptP x).length + 1≤(ptP n).length:=by
 rw [qo7 n,if_neg (by omega),if_neg (by omega),List.length_append]
 have h1:=q5d (f:=atP) h
 have h2:=(qc5 (qbi x) (ptP x)).1
 have h3:(atP x).length = (cloW (qbi x) (ptP x)).length + 1:=rfl
 omega
theorem qpo:∀ n,paW n = true->sz n≤1000000->(ptP n).length + 2≤Big->PP n:=N.ind fun n ih ht hs hl=>by
 refine qbn3 (qn c0be (by simp) (by simp only [go_sem]) rfl fun hw=>?_)
 have hM:=qmo
 have hkl:=qrs n
 by_cases h12:n.kind = 12
 ·have he:ptP n = [95]:=by rw [qo7,if_pos h12]
  rw [he]
  repeat' (first | refine vs_ ?_ | ((first | refine vr_ ?_ | fail)<;>(try simp only [h12,go_sem,↓reduceIte])) | ((first | (refine cs_ ?_ ?_<;>intro hc) | refine cj_ ?_ | simp (disch:=omega) only [qc,qs])<;>(try refine ev_ ?_)) | with_reducible exact ti_)
  all_goals (exfalso;revert hc;decide)
 by_cases h13:n.kind = 13
 ·have he:ptP n = digI n.num:=by rw [qo7,if_neg h12,if_pos h13]
  rw [he]
  repeat' (first | refine vs_ ?_ | ((first | refine vr_ ?_ | fail)<;>(try simp only [h13,go_sem,↓reduceIte])) | ((first | (refine cs_ ?_ ?_<;>intro hc) | refine cj_ ?_ | simp (disch:=omega) only [qc,qs] | refine qa (qnj n.num) fun _=>?_ | refine qj (qnj n.num) ?_)<;>(try refine ev_ ?_)) | with_reducible exact ti_)
  all_goals (exfalso;revert hc;decide)
 have he:ptP n = n.text ++ Lib.join (n.kids.map atP) []:=by rw [qo7,if_neg h12,if_neg h13,qgd]
 have hj:=qcz (g:=atP) (m:=[]) (fun x hx=>q0k (ih x hx (qxn ht x hx).1 (by have:=qlo hx;omega) (by have:=qbdi (qxn ht x hx).2 hx;omega)) (by have:=qbdi (qxn ht x hx).2 hx;omega)) (by rw [he,List.length_append] at hl;omega) (by omega)
 rw [he] at hl ⊢
 rw [List.length_append] at hl
 repeat' (first | refine vs_ ?_ | ((first | refine vr_ ?_ | fail)<;>(try simp only [h12,h13,go_sem,↓reduceIte])) | ((first | (refine cs_ ?_ ?_<;>intro hc) | refine cj_ ?_ | simp (disch:=omega) only [qc,qs] | refine qa hj fun _=>?_ | refine qj hj ?_)<;>(try refine ev_ ?_)) | with_reducible exact ti_)
end Go.Proofs.YtlmcofjcpadmiaaGreat
