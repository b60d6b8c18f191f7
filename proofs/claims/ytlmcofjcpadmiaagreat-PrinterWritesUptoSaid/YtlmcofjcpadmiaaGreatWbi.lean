/- A text of this proof. -/
import Derived.Test.YtlmcofjcpadmiaaGreatWaz
set_option linter.unusedVariables false
set_option linter.unusedSimpArgs false

/- trees that are written: the reference: types, contexts, patterns -/
set_option maxRecDepth 4000
namespace Go.Proofs.YtlmcofjcpadmiaaGreat
open Go Go.RowKit Go.V

def clT (n:N):List UInt8:=cloW (qn n) (ptT n)
def clP (n:N):List UInt8:=cloW (qn n) (ptP n)
theorem qtl (n:N):atT n = 32 :: clT n:=rfl
theorem qqf (n:N):atP n = 32 :: clP n:=rfl
theorem qc4 {f:N->List UInt8} {l:List N} {i:Nat} (h:i < l.length):((l.take (i + 1)).map f).flatten = ((l.take i).map f).flatten ++ f (l.getD i N0):=by
 rw [qrs h,List.map_append,List.flatten_append];simp
theorem qjv {f:N->List UInt8} {l:List N} (i:Nat):((l.take i).map f).flatten.length≤(l.map f).flatten.length:=by
 conv=>rhs;rw [← List.take_append_drop i l,List.map_append,List.flatten_append,List.length_append]
 omega
theorem qsm {n:N} (h:(0:Int) < (n.kids.length:Int)):qn n = false:=by
 refine decide_eq_false fun e=>?_
 rw [e] at h;exact absurd h (by decide)
theorem qsz {n:N} (h:¬ (0:Int) < (n.kids.length:Int)):qn n = true:=by
 refine decide_eq_true (List.length_eq_zero_iff.1 ?_)
 omega
def RT (n:N):Prop:=qh Tryz.prog 35 [enc n] (.str (ptT n))
theorem qg5 {n:N} (h:RT n) (hl:(ptT n).length + 2≤Big):qh Tryz.prog 73 [enc n] (.str (clT n)):=by
 refine qe c0du (by simp) (by simp only [go_sem]) rfl fun hw=>?_
 have hM:=qca
 unfold RT at h
 by_cases hk:(0:Int) < (n.kids.length:Int)
 ·have e:=qsm hk
  rw [clT,e,cloW,if_neg Bool.false_ne_true]
  have hd:decide ((0:Int) < (n.kids.length:Int)) = true:=decide_eq_true hk
  repeat' (first | refine vs_ ?_ | ((first | refine vr_ ?_ | fail)<;>(try simp only [hd,List.length_append,go_sem,↓reduceIte])) | ((first | (refine cs_ ?_ ?_<;>intro hc) | refine cj_ ?_ | simp (disch:=omega) only [qb,qf] | refine qa h fun _=>?_)<;>(try refine ev_ ?_)) | with_reducible exact ti_)
  all_goals try (exfalso;omega)
  all_goals try rfl
 ·have e:=qsz hk
  rw [clT,e,cloW,if_pos rfl]
  have hd:decide ((0:Int) < (n.kids.length:Int)) = false:=decide_eq_false hk
  repeat' (first | refine vs_ ?_ | ((first | refine vr_ ?_ | fail)<;>(try simp only [hd,List.length_append,go_sem,↓reduceIte])) | ((first | (refine cs_ ?_ ?_<;>intro hc) | refine cj_ ?_ | simp (disch:=omega) only [qb,qf] | refine qa h fun _=>?_)<;>(try refine ev_ ?_)) | with_reducible exact ti_)
  all_goals try (exfalso;omega)
set_option maxHeartbeats 1000000 in
theorem qso {n:N} (ht:n.kind≠1->n.text = arW->n.kids.length = 2) (h0:n.kind = 1->n.kids = []) (ih:∀ x∈n.kids,RT x) (hl:(ptT n).length + 2≤Big) (hs:n.kids.length≤1000000):RT n:=by
 refine qe c0dv (by simp) (by simp only [go_sem]) rfl fun hw=>?_
 have hM:=qca
 have hkid:∀ x∈n.kids,(ptT x).length + 2≤Big:=fun x hx=>by have:=qfy ht hx;omega
 by_cases h1:n.kind = 1
 ·have he:ptT n = n.text:=by rw [qeh,if_neg (fun h=>h.1 h1),h0 h1];simp
  have hd:decide (n.kind = 1) = true:=decide_eq_true h1
  rw [he]
  repeat' (first | refine vs_ ?_ | ((first | refine vr_ ?_ | fail)<;>(try simp only [hd,go_sem,↓reduceIte])) | ((first | (refine cs_ ?_ ?_<;>intro hc) | refine cj_ ?_ | simp (disch:=omega) only [qb,qf])<;>(try refine ev_ ?_)) | with_reducible exact ti_)
  all_goals try (exfalso;omega)
 have hd1:decide (n.kind = 1) = false:=decide_eq_false h1
 by_cases h2:n.text = [45,62]
 ·have hlen:=ht h1 h2
  have m0:n.kids.getD 0 N0∈n.kids:=qg (by omega)
  have m1:n.kids.getD 1 N0∈n.kids:=qg (by omega)
  have he:ptT n = cloW (!decide ((n.kids.getD 0 N0).text = [45,62])) (ptT (n.kids.getD 0 N0)) ++ ([32,45,62,32] ++ ptT (n.kids.getD 1 N0)):=by rw [qeh,if_pos ⟨h1,h2⟩];rfl
  have t0:=ih _ m0
  have t1:=ih _ m1
  unfold RT at t0 t1
  have g0:(encs n.kids).getD 0 .junk = enc (n.kids.getD 0 N0):=qb (by omega)
  have g1:(encs n.kids).getD 1 .junk = enc (n.kids.getD 1 N0):=qb (by omega)
  rw [he] at hl ⊢
  have hd2:decide (n.text = [45,62]) = true:=decide_eq_true h2
  by_cases h3:(n.kids.getD 0 N0).text = [45,62]
  ·have hd3:decide ((n.kids.getD 0 N0).text = [45,62]) = true:=decide_eq_true h3
   rw [hd3,cloW,if_neg (by simp)] at hl ⊢
   simp only [List.length_append,List.length_cons,List.length_nil] at hl
   repeat' (first | refine vs_ ?_ | ((first | refine vr_ ?_ | fail)<;>(try simp only [hd1,hd2,hd3,g0,g1,hlen,List.length_append,go_sem,↓reduceIte])) | ((first | (refine cs_ ?_ ?_<;>intro hc) | refine cj_ ?_ | simp (disch:=omega) only [qb,qf] | refine qa t0 fun _=>?_ | refine qa t1 fun _=>?_)<;>(try refine ev_ ?_)) | with_reducible exact ti_)
   all_goals try (exfalso;omega)
   all_goals try simp
  ·have hd3:decide ((n.kids.getD 0 N0).text = [45,62]) = false:=decide_eq_false h3
   rw [hd3,cloW,if_pos (by simp)] at hl ⊢
   simp only [List.length_append,List.length_cons,List.length_nil] at hl
   repeat' (first | refine vs_ ?_ | ((first | refine vr_ ?_ | fail)<;>(try simp only [hd1,hd2,hd3,g0,g1,hlen,List.length_append,go_sem,↓reduceIte])) | ((first | (refine cs_ ?_ ?_<;>intro hc) | refine cj_ ?_ | simp (disch:=omega) only [qb,qf] | refine qa t0 fun _=>?_ | refine qa t1 fun _=>?_)<;>(try refine ev_ ?_)) | with_reducible exact ti_)
   all_goals try (exfalso;omega)
   all_goals try simp
 ·have hd2:decide (n.text = [45,62]) = false:=decide_eq_false h2
  have he:ptT n = n.text ++ (n.kids.map atT).flatten:=by rw [qeh,if_neg (fun h=>h2 h.2)]
  rw [he] at hl ⊢
  rw [List.length_append] at hl
  repeat' (first | refine vs_ ?_ | ((first | refine vr_ ?_ | fail)<;>(try simp only [hd1,hd2,go_sem,↓reduceIte])) | ((first | (refine cs_ ?_ ?_<;>intro hc) | refine cj_ ?_ | simp (disch:=omega) only [qb,qf])<;>(try refine ev_ ?_)) | with_reducible exact ti_)
  all_goals try (exfalso;omega)
  refine qt (S:=Nat) (fun i=>i≤n.kids.length) (fun i=>(⟨[(1,.ptr 0 0),(2,.str []),(4,.str (n.text ++ ((n.kids.take i).map atT).flatten)),(5,.int .i64 i)],[]⟩,[.blk [.int .i64 n.kind,.int .i64 n.pos,.int .i64 n.num,.str n.text,.sl 5 (encs n.kids)]])) (fun i=>n.kids.length - i) ?_ fun i hi=>?_
  ·refine qs 0 [0] (Nat.zero_le _) rfl (by simp) ?_ ?_ ?_<;>(try refine ev_ ?_)<;>(try with_reducible exact ti_)<;>(try simp (disch:=omega) only [qf,and_true,true_and])
   all_goals simp
  ·by_cases hlt:i < n.kids.length
   ·have hm:=qg hlt
    have ha:=qg5 (ih _ hm) (hkid _ hm)
    have gi:(encs n.kids).getD i .junk = enc (n.kids.getD i N0):=qb hlt
    have hfl:=qjv (f:=atT) (l:=n.kids) (i + 1)
    rw [qc4 hlt,List.length_append,qtl] at hfl
    simp only [List.length_cons] at hfl
    have hdl:decide ((i:Int) < (n.kids.length:Int)) = true:=decide_eq_true (by omega)
    repeat' (first | refine vs_ ?_ | ((first | refine vr_ ?_ | fail)<;>(try simp (disch:=first | omega | (simp only [List.length_set,List.length_append,List.length_cons,List.length_nil];done) | (simp only [List.length_set,List.length_append,List.length_cons,List.length_nil];omega)) only [qf,gi,hdl,List.length_append,go_sem,↓reduceIte])) | ((first | (refine cs_ ?_ ?_<;>intro hc) | refine cj_ ?_ | simp (disch:=omega) only [qb,qf] | refine qa ha fun _=>?_)<;>(try refine ev_ ?_)) | with_reducible exact ti_)
    all_goals try (exfalso;omega)
    refine qs (i + 1) [0] ⟨by omega,by omega⟩ rfl (by simp) ?_ ?_ ?_<;>(try refine ev_ ?_)<;>(try with_reducible exact ti_)<;>(try simp (disch:=omega) only [qf,and_true,true_and])
    rw [qb8 (by omega) (by omega),qc4 hlt,qtl]
    exact ⟨rfl,rfl⟩
   ·have hie:i = n.kids.length:=by omega
    subst hie
    repeat' (first | refine vs_ ?_ | ((first | refine vr_ ?_ | fail)<;>(try simp only [List.take_length,go_sem,↓reduceIte])) | ((first | (refine cs_ ?_ ?_<;>intro hc) | refine cj_ ?_ | simp (disch:=omega) only [qb,qf])<;>(try refine ev_ ?_)) | with_reducible exact ti_)
    all_goals try (exfalso;omega)
    all_goals rfl
theorem qbff {n:N} (h:tyW n = true) (h1:n.kind = 1):n.kids = []:=by
 rcases (qr6 h (fun e=>e.1 h1)).1 with ⟨_,_,h⟩ | ⟨h,_⟩
 ·exact h
 ·omega
theorem qdh:∀ n,tyW n = true->sz n≤1000000->(ptT n).length + 2≤Big->RT n:=N.ind fun n ih ht hs hl=>qso (qmm ht) (qbff ht) (fun x hx=>ih x hx (qm4 ht x hx) (by have:=qbm hx;omega) (by have:=qfy (qmm ht) hx;omega)) hl (by have:=qda n;omega)
theorem qua {n:N} (h:cnW n = true) (hs:sz n≤1000000) (hl:(ptT n).length + 2≤Big):RT n:=by
 obtain ⟨k1,_,h3,h4⟩:=qkl h
 have hne:n.kind≠1->n.text = arW->n.kids.length = 2:=fun _ e=>by
  rw [e] at h3
  exact absurd h3 (by decide)
 exact qso hne (fun e=>by omega) (fun x hx=>qdh x (h4 x hx) (by have:=qbm hx;omega) (by have:=qfy hne hx;omega)) hl (by have:=qda n;omega)
/-! contexts -/
theorem qev {f:N->List UInt8} {m:List UInt8} {l:List N} {i:Nat} (h:i < l.length):Lib.join ((l.take (i + 1)).map f) m = if i = 0 then f (l.getD i N0) else Lib.join ((l.take i).map f) m ++ m ++ f (l.getD i N0):=by
 have key:∀ (a:List (List UInt8)) (x:List UInt8),a≠[]->Lib.join (a ++ [x]) m = Lib.join a m ++ m ++ x:=by
  intro a x
  induction a with
  | nil=>intro h;exact absurd rfl h
  | cons b r ih =>
    intro _
    cases r with
    | nil=>rw [List.singleton_append,qbr,qc7,qc7,List.append_assoc]
    | cons c r=>rw [List.cons_append,List.cons_append,qbr,← List.cons_append,ih (by simp),qbr];simp [List.append_assoc]
 rw [qrs h,List.map_append,List.map_singleton]
 split
 ·rename_i h0
  subst h0
  rw [List.take_zero,List.map_nil,List.nil_append,qc7]
 ·rename_i h0
  refine key _ _ fun e=>?_
  have:=congrArg List.length e
  rw [List.length_map,List.length_take,List.length_nil] at this
  omega
theorem qfx {f:N->List UInt8} {m:List UInt8}:∀ {l:List N} (i:Nat),(Lib.join ((l.take i).map f) m).length≤(Lib.join (l.map f) m).length
 | _,0=>by rw [List.take_zero];exact Nat.zero_le _
 | [],i + 1=>Nat.le_refl _
 | [x],i + 1=>by rw [List.take_succ_cons,List.take_nil];exact Nat.le_refl _
 | x :: y :: l, 1 => by
   rw [List.take_succ_cons,List.take_zero,List.map_singleton,qc7,List.map_cons,List.map_cons,qbr,List.length_append,List.length_append];omega
 | x :: y :: l, i + 2 => by
   have:=qfx (f:=f) (m:=m) (l:=y :: l) (i + 1)
   rw [List.take_succ_cons,List.map_cons,List.take_succ_cons,List.map_cons,qbr,List.map_cons,List.map_cons,qbr]
   rw [List.take_succ_cons,List.map_cons,List.map_cons] at this
   simp only [List.length_append] at this ⊢
   omega
theorem q0e (n:N):prT n = n.text ++ 32 :: clT (n.kids.getD 0 N0):=rfl
set_option maxHeartbeats 1000000 in
theorem qe3 {l:List N} (h:∀ x∈l,prW x = true∧sz x≤1000000) (hn:l.length≤1000000) (hl:(ctT l).length + 2≤Big):qh Tryz.prog 76 [.sl 5 (encs l)] (.str (ctT l)):=by
 refine qe c0dw (by simp) (by simp only [go_sem]) rfl fun hw=>?_
 have hM:=qca
 by_cases h0:l = []
 ·subst h0
  repeat' (first | refine vs_ ?_ | ((first | refine vr_ ?_ | (refine cs_ ?_ ?_<;>intro hc) | refine cj_ ?_ | simp (disch:=omega) only [qb,qf])<;>(try refine ev_ ?_)) | with_reducible exact ti_)
  rfl
 have hpos:0 < l.length:=List.length_pos_iff.2 h0
 have hj2:(Lib.join (l.map prT) cmW).length + 6≤Big + 2:=by
  rw [ctT,if_neg h0,List.length_append] at hl
  have:=(qp (decide (l.length = 1)) (Lib.join (l.map prT) cmW)).1
  simp only [List.length_cons,List.length_nil] at hl
  omega
 have hc:ctT l = cloW (decide (l.length = 1)) (Lib.join (l.map prT) cmW) ++ [32,61,62,32]:=by rw [ctT,if_neg h0]
 rw [hc] at hl ⊢
 rw [List.length_append] at hl
 have hd0:decide ((l.length:Int) = 0) = false:=decide_eq_false (by omega)
 repeat' (first | refine vs_ ?_ | ((first | refine vr_ ?_ | fail)<;>(try simp only [hd0,go_sem,↓reduceIte])) | ((first | (refine cs_ ?_ ?_<;>intro hc) | refine cj_ ?_ | simp (disch:=omega) only [qb,qf])<;>(try refine ev_ ?_)) | with_reducible exact ti_)
 all_goals try (exfalso;omega)
 refine qt (S:=Nat) (fun i=>i≤l.length) (fun i=>(⟨[(0,.sl 5 (encs l)),(2,.str []),(3,.str (Lib.join ((l.take i).map prT) cmW)),(4,.int .i64 i)],[]⟩,[])) (fun i=>l.length - i) ?_ fun i hi=>?_
 ·refine qs 0 [] (Nat.zero_le _) rfl (by simp) ?_ ?_ ?_<;>(try refine ev_ ?_)<;>(try with_reducible exact ti_)<;>(try simp (disch:=omega) only [qf,and_true,true_and])
  rfl
 ·by_cases hlt:i < l.length
  ·have hm:=qg hlt
   obtain ⟨hp,hz⟩:=h _ hm
   obtain ⟨p1,p2,p3,p4,p5⟩:=qka hp
   have hjl:=qfx (f:=prT) (m:=cmW) (l:=l) (i + 1)
   have hst:=qev (f:=prT) (m:=cmW) hlt
   have hcl:=(qp (qn ((l.getD i N0).kids.getD 0 N0)) (ptT ((l.getD i N0).kids.getD 0 N0))).1
   have ecl:(clT ((l.getD i N0).kids.getD 0 N0)).length = (cloW (qn ((l.getD i N0).kids.getD 0 N0)) (ptT ((l.getD i N0).kids.getD 0 N0))).length:=rfl
   have m0:(l.getD i N0).kids.getD 0 N0∈(l.getD i N0).kids:=qg (by omega)
   have gi:(encs l).getD i .junk = enc (l.getD i N0):=qb hlt
   have g0:(encs (l.getD i N0).kids).getD 0 .junk = enc ((l.getD i N0).kids.getD 0 N0):=qb (by omega)
   have hdl:decide ((i:Int) < (l.length:Int)) = true:=decide_eq_true (by omega)
   have ecm:cmW.length = 2:=rfl
   rw [hst] at hjl
   by_cases hi0:i = 0
   ·subst hi0
    rw [if_pos rfl,q0e] at hjl hst
    simp only [List.length_append,List.length_cons] at hjl
    have ha:=qg5 (qdh _ p5 (by have:=qbm m0;omega) (by omega)) (by omega)
    rw [List.take_zero,List.map_nil,show Lib.join [] cmW = [] from rfl]
    repeat' (first | refine vs_ ?_ | ((first | refine vr_ ?_ | fail)<;>(try simp (disch:=first | omega | (simp only [List.length_set,List.length_append,List.length_cons,List.length_nil];done) | (simp only [List.length_set,List.length_append,List.length_cons,List.length_nil];omega)) only [qf,gi,g0,hdl,p4,List.length_append,go_sem,↓reduceIte])) | ((first | (refine cs_ ?_ ?_<;>intro hc) | refine cj_ ?_ | simp (disch:=omega) only [qb,qf] | refine qa ha fun _=>?_ | refine qc ha ?_)<;>(try refine ev_ ?_)) | with_reducible exact ti_)
    all_goals try (exfalso;omega)
    refine qs 1 [] ⟨by omega,by omega⟩ rfl (by simp) ?_ ?_ ?_<;>(try refine ev_ ?_)<;>(try with_reducible exact ti_)<;>(try simp (disch:=omega) only [qf,and_true,true_and])
    all_goals (rw [show l.take 1 = l.take (0 + 1) from rfl,hst];exact ⟨rfl,rfl⟩)
   ·have hdi:decide ((0:Int) < (i:Int)) = true:=decide_eq_true (by omega)
    rw [if_neg hi0,q0e] at hjl hst
    simp only [List.length_append,List.length_cons,List.length_nil] at hjl
    have ha:=qg5 (qdh _ p5 (by have:=qbm m0;omega) (by omega)) (by omega)
    repeat' (first | refine vs_ ?_ | ((first | refine vr_ ?_ | fail)<;>(try simp (disch:=first | omega | (simp only [List.length_set,List.length_append,List.length_cons,List.length_nil];done) | (simp only [List.length_set,List.length_append,List.length_cons,List.length_nil];omega)) only [qf,gi,g0,hdl,hdi,p4,List.length_append,go_sem,↓reduceIte])) | ((first | (refine cs_ ?_ ?_<;>intro hc) | refine cj_ ?_ | simp (disch:=omega) only [qb,qf] | refine qa ha fun _=>?_ | refine qc ha ?_)<;>(try refine ev_ ?_)) | with_reducible exact ti_)
    all_goals try (exfalso;omega)
    refine qs (i + 1) [] ⟨by omega,by omega⟩ rfl (by simp) ?_ ?_ ?_<;>(try refine ev_ ?_)<;>(try with_reducible exact ti_)<;>(try simp (disch:=omega) only [qf,and_true,true_and])
    rw [qb8 (by omega) (by omega),hst]
    refine ⟨?_,rfl⟩
    simp [cmW]
  ·have hie:i = l.length:=by omega
   subst hie
   have hdl:decide ((l.length:Int) < (l.length:Int)) = false:=decide_eq_false (by omega)
   by_cases h1:l.length = 1
   ·have hd1:decide ((1:Int) < (l.length:Int)) = false:=decide_eq_false (by omega)
    rw [decide_eq_true h1] at hl ⊢
    rw [cloW,if_pos rfl] at hl ⊢
    simp only [List.length_cons,List.length_nil] at hl
    repeat' (first | refine vs_ ?_ | ((first | refine vr_ ?_ | fail)<;>(try simp only [hdl,hd1,List.take_length,List.length_append,go_sem,↓reduceIte])) | ((first | (refine cs_ ?_ ?_<;>intro hc) | refine cj_ ?_ | simp (disch:=omega) only [qb,qf])<;>(try refine ev_ ?_)) | with_reducible exact ti_)
    all_goals try (exfalso;omega)
    all_goals trace_state
   ·have hd1:decide ((1:Int) < (l.length:Int)) = true:=decide_eq_true (by omega)
    rw [decide_eq_false h1] at hl ⊢
    rw [cloW,if_neg Bool.false_ne_true] at hl ⊢
    simp only [List.length_cons,List.length_nil,List.length_append] at hl
    repeat' (first | refine vs_ ?_ | ((first | refine vr_ ?_ | fail)<;>(try simp only [hdl,hd1,List.take_length,List.length_append,go_sem,↓reduceIte])) | ((first | (refine cs_ ?_ ?_<;>intro hc) | refine cj_ ?_ | simp (disch:=omega) only [qb,qf])<;>(try refine ev_ ?_)) | with_reducible exact ti_)
    all_goals try (exfalso;omega)
    all_goals trace_state
theorem qom {n:N} (h:quW n = true) (hs:sz n≤1000000) (hl:(quT n).length + 4≤Big):qh Tryz.prog 38 [enc n] (.str (quT n)):=by
 obtain ⟨q1,q2,q3,q4,q5,q6⟩:=qj7 h
 refine qe c0dx (by simp) (by simp only [go_sem]) rfl fun hw=>?_
 have hM:=qca
 have hkl:=qda n
 have hpos:0 < n.kids.length:=by rw [q4];simp
 have hmt:qew n∈n.kids:=by rw [q4];simp
 have hma:∀ x∈qcg n,x∈n.kids:=fun x hx=>by rw [q4];simp [hx]
 have he:quT n = ctT (qcg n) ++ ptT (qew n):=rfl
 rw [he,List.length_append] at hl
 rw [he]
 have hc:=qe3 (l:=qcg n) (fun x hx=>⟨q5 x hx,by have:=qbm (hma x hx);omega⟩) (by rw [qcg,List.length_take];omega) (by omega)
 have ht:=qdh (qew n) q6 (by have:=qbm hmt;omega) (by omega)
 unfold RT at ht
 have e1:((n.kids.length:Int) - 1).toNat = n.kids.length - 1:=by omega
 have g0:(encs n.kids).getD (n.kids.length - 1) .junk = enc (qew n):=qb (by omega)
 have g1:(encs n.kids).take (n.kids.length - 1) = encs (qcg n):=qbt _ _
 have hwr:IntKind.i64.wrap ((n.kids.length:Int) - 1) = (n.kids.length:Int) - 1:=qb8 (by omega) (by omega)
 have ht':qh Tryz.prog 35 [enc (n.kids.getD ((n.kids.length:Int) - 1).toNat N0)] (.str (ptT (qew n))):=by rw [e1];exact ht
 repeat' (first | refine vs_ ?_ | ((first | refine vr_ ?_ | fail)<;>(try simp only [hwr,e1,g0,g1,go_sem,↓reduceIte])) | ((first | (refine cs_ ?_ ?_<;>intro hc) | refine cj_ ?_ | simp (disch:=omega) only [qb,qf] | refine qa hc fun _=>?_ | refine qa ht' fun _=>?_ | refine qc hc ?_ | refine qc ht' ?_)<;>(try refine ev_ ?_)) | with_reducible exact ti_)
/-! patterns -/
def RP (n:N):Prop:=qh Tryz.prog 40 [enc n] (.str (ptP n))
set_option maxHeartbeats 1000000 in
theorem qog:∀ n,paW n = true->sz n≤1000000->(ptP n).length + 2≤Big->RP n:=N.ind fun n ih ht hs hl=>by
 refine qe c0dy (by simp) (by simp only [go_sem]) rfl fun hw=>?_
 have hM:=qca
 have hkl:=qda n
 by_cases h12:n.kind = 12
 ·have he:ptP n = [95]:=by rw [qgr,if_pos h12]
  rw [he]
  have hd:decide (n.kind = 12) = true:=decide_eq_true h12
  repeat' (first | refine vs_ ?_ | ((first | refine vr_ ?_ | fail)<;>(try simp only [hd,go_sem,↓reduceIte])) | ((first | (refine cs_ ?_ ?_<;>intro hc) | refine cj_ ?_ | simp (disch:=omega) only [qb,qf])<;>(try refine ev_ ?_)) | with_reducible exact ti_)
  all_goals try (exfalso;omega)
 have hd12:decide (n.kind = 12) = false:=decide_eq_false h12
 by_cases h13:n.kind = 13
 ·have he:ptP n = digI n.num:=by rw [qgr,if_neg h12,if_pos h13]
  rw [he]
  have hd:decide (n.kind = 13) = true:=decide_eq_true h13
  repeat' (first | refine vs_ ?_ | ((first | refine vr_ ?_ | fail)<;>(try simp only [hd12,hd,go_sem,↓reduceIte])) | ((first | (refine cs_ ?_ ?_<;>intro hc) | refine cj_ ?_ | simp (disch:=omega) only [qb,qf] | refine qa (qga n.num) fun _=>?_)<;>(try refine ev_ ?_)) | with_reducible exact ti_)
  all_goals try (exfalso;omega)
 have hd13:decide (n.kind = 13) = false:=decide_eq_false h13
 have he:ptP n = n.text ++ (n.kids.map atP).flatten:=by rw [qgr,if_neg h12,if_neg h13]
 rw [he] at hl ⊢
 rw [List.length_append] at hl
 repeat' (first | refine vs_ ?_ | ((first | refine vr_ ?_ | fail)<;>(try simp only [hd12,hd13,go_sem,↓reduceIte])) | ((first | (refine cs_ ?_ ?_<;>intro hc) | refine cj_ ?_ | simp (disch:=omega) only [qb,qf])<;>(try refine ev_ ?_)) | with_reducible exact ti_)
 all_goals try (exfalso;omega)
 refine qt (S:=Nat) (fun i=>i≤n.kids.length) (fun i=>(⟨[(1,.ptr 0 0),(2,.str []),(3,.str (n.text ++ ((n.kids.take i).map atP).flatten)),(4,.int .i64 i)],[]⟩,[.blk [.int .i64 n.kind,.int .i64 n.pos,.int .i64 n.num,.str n.text,.sl 5 (encs n.kids)]])) (fun i=>n.kids.length - i) ?_ fun i hi=>?_
 ·refine qs 0 [0] (Nat.zero_le _) rfl (by simp) ?_ ?_ ?_<;>(try refine ev_ ?_)<;>(try with_reducible exact ti_)<;>(try simp (disch:=omega) only [qf,and_true,true_and])
  all_goals simp
 ·by_cases hlt:i < n.kids.length
  ·have hm:=qg hlt
   have hk14:=(qf2 ht _ hm).2
   have hcl:=(qp (qn (n.kids.getD i N0)) (ptP (n.kids.getD i N0))).1
   have gi:(encs n.kids).getD i .junk = enc (n.kids.getD i N0):=qb hlt
   have hfl:=qjv (f:=atP) (l:=n.kids) (i + 1)
   rw [qc4 hlt,List.length_append,qqf] at hfl
   simp only [List.length_cons,clP] at hfl
   have ha:=ih _ hm (qf2 ht _ hm).1 (by have:=qbm hm;omega) (by omega)
   unfold RP at ha
   have hdl:decide ((i:Int) < (n.kids.length:Int)) = true:=decide_eq_true (by omega)
   by_cases hk:(0:Int) < ((n.kids.getD i N0).kids.length:Int)
   ·have e:=qsm hk
    have hdk:decide ((0:Int) < ((n.kids.getD i N0).kids.length:Int)) = true:=decide_eq_true hk
    rw [e,cloW,if_neg Bool.false_ne_true] at hfl
    simp only [List.length_append,List.length_cons,List.length_nil] at hfl
    repeat' (first | refine vs_ ?_ | ((first | refine vr_ ?_ | fail)<;>(try simp (disch:=first | omega | (simp only [List.length_set,List.length_append,List.length_cons,List.length_nil];done) | (simp only [List.length_set,List.length_append,List.length_cons,List.length_nil];omega)) only [qf,gi,hdl,hdk,List.length_append,go_sem,↓reduceIte])) | ((first | (refine cs_ ?_ ?_<;>intro hc) | refine cj_ ?_ | simp (disch:=omega) only [qb,qf] | refine qa ha fun _=>?_)<;>(try refine ev_ ?_)) | with_reducible exact ti_)
    all_goals try (exfalso;omega)
    refine qs (i + 1) [0] ⟨by omega,by omega⟩ rfl (by simp) ?_ ?_ ?_<;>(try refine ev_ ?_)<;>(try with_reducible exact ti_)<;>(try simp (disch:=omega) only [qf,and_true,true_and])
    rw [qb8 (by omega) (by omega),qc4 hlt,qqf,clP,e,cloW,if_neg Bool.false_ne_true]
    exact ⟨rfl,rfl⟩
   ·have e:=qsz hk
    have hdk:decide ((0:Int) < ((n.kids.getD i N0).kids.length:Int)) = false:=decide_eq_false hk
    rw [e,cloW,if_pos rfl] at hfl
    repeat' (first | refine vs_ ?_ | ((first | refine vr_ ?_ | fail)<;>(try simp (disch:=first | omega | (simp only [List.length_set,List.length_append,List.length_cons,List.length_nil];done) | (simp only [List.length_set,List.length_append,List.length_cons,List.length_nil];omega)) only [qf,gi,hdl,hdk,List.length_append,go_sem,↓reduceIte])) | ((first | (refine cs_ ?_ ?_<;>intro hc) | refine cj_ ?_ | simp (disch:=omega) only [qb,qf] | refine qa ha fun _=>?_)<;>(try refine ev_ ?_)) | with_reducible exact ti_)
    all_goals try (exfalso;omega)
    refine qs (i + 1) [0] ⟨by omega,by omega⟩ rfl (by simp) ?_ ?_ ?_<;>(try refine ev_ ?_)<;>(try with_reducible exact ti_)<;>(try simp (disch:=omega) only [qf,and_true,true_and])
    rw [qb8 (by omega) (by omega),qc4 hlt,qqf,clP,e,cloW,if_pos rfl]
    exact ⟨rfl,rfl⟩
  ·have hie:i = n.kids.length:=by omega
   subst hie
   repeat' (first | refine vs_ ?_ | ((first | refine vr_ ?_ | fail)<;>(try simp only [List.take_length,go_sem,↓reduceIte])) | ((first | (refine cs_ ?_ ?_<;>intro hc) | refine cj_ ?_ | simp (disch:=omega) only [qb,qf])<;>(try refine ev_ ?_)) | with_reducible exact ti_)
   all_goals try (exfalso;omega)
   all_goals rfl
end Go.Proofs.YtlmcofjcpadmiaaGreat
