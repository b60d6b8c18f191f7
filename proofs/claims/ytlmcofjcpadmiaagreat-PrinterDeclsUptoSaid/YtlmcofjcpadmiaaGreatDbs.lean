/- Texts of this proof, joined. -/
import Derived.Test.YtlmcofjcpadmiaaGreatDbo
import Derived.Test.YtlmcofjcpadmiaaGreatDbr
import Derived.Test.YtlmcofjcpadmiaaGreatDbb
set_option linter.unusedVariables false
set_option linter.unusedSimpArgs false

/- trees that are written: the statements' own functions -/
set_option maxRecDepth 4000
namespace Go.Proofs.YtlmcofjcpadmiaaGreat
open Go Go.RowKit Go.V

def qxu (c:K):K×Option N:=qcg (rest c + 2) c
theorem q2a:∀ (f:Nat) (c:K),Mon c (qcg f c).1:=qe8
theorem q1r (s:List UInt8) (hsz:sz ((qxu (newK (lexV s).1)).2.getD N0)≤1000000):qq Tryz.prog 25 [.str s] (resV (qjt qxu s)):=by
 have g:=qkn (qeg s).1
 have g2:(qcg (rest (newK (lexV s).1) + 2) (newK (lexV s).1)).1.good:=(q2a _ _).1 g
 unfold qxu at hsz
 have hdp:=qlq hsz
 refine qg c0ft (by simp) (by simp only [go_sem]) (by simp only [go_sem]) fun hw=>?_
 repeat' (first | refine vs_ ?_ | ((first | refine vr_ ?_ | refine qa (qfb s) fun _=>?_ | refine qns (qnl _ (qeg s).1) (qp _ _) (by simp only [go_sem]) ?_ | refine qh7 1 (q52 (rest (newK (lexV s).1) + 2) _ g (by omega)) (by rfl) (qp _ _) (qp _ _) (by rfl) (qsx _ _) (by rfl) fun _=>?_ | refine qh7 1 (qla _ g2.ok) (by rfl) (qp _ _) (qp _ _) (by rfl) (by rfl) (by rfl) fun _=>?_ | refine qa (qio (qi0 _) (by rw [hdp])) fun _=>?_ | refine qe (qfb s) ?_ | refine qe (qio (qi0 _) (by rw [hdp])) ?_ | (refine cs_ ?_ ?_<;>intro hc) | refine cj_ ?_ | fail)<;>(try refine ev_ ?_)) | with_reducible exact ti_)
 all_goals (try rw [qdf])
 all_goals unfold qjt qxu qqz
 all_goals (repeat' split)
 all_goals first | omega | rfl | (exfalso;omega) | simp_all [go_sem]
theorem qu9 {n:N} (hs:sz n≤3000) (h:lowW n = true):dp n≤100:=by
 rw [qbor hs,decide_eq_true_eq,qn5 n (by omega)] at h
 omega
section
variable {n:N} (hs:sz n≤3000)
include hs
theorem q87 (hd:dp n≤100) (ht:tyW n = true) (hl:(ptT n).length≤1000000):∃ m,qjt (qn2 false) (ptT n) = (m,0,0)∧qmy m n = true:=by
 obtain ⟨m,h1,h2,_⟩:=qn7 (rd:=qn2 false) (n:=n) hl (wdT n ht).1.get (by omega) hd fun c h h0=>qlo (rest c + 2) n c [] ht (by rwa [List.append_nil]) (fun t s e=>by cases e) (fun t s e=>by cases e) (by omega) (by omega)
 exact ⟨m,h1,qp5 h2⟩
theorem qbdg (hw:(enc n).wf) (hd:dp n≤100) (ht:paW n = true) (hl:(ptP n).length≤1000000):∃ m,qjt qxu (ptP n) = (m,0,0)∧qmy m n = true∧sz ((qxu (newK (lexV (ptP n)).1)).2.getD N0)≤1000000:=by
 obtain ⟨m,h1,h2,h3⟩:=qn7 (rd:=qxu) (n:=n) hl (wdP n ht hw).1.get (by omega) hd fun c h h0=>q67 (rest c + 2) n c [] ht hw (by rwa [List.append_nil]) (fun t s e=>by cases e) (by omega) (by omega)
 exact ⟨m,h1,qp5 h2,by rw [h3,(qb96 h2).2];omega⟩
theorem qbfm (hw:(enc n).wf) (hd:dp n≤100) (ht:exW n = true) (hl:(ptE n).length≤1000000):∃ m,expV (ptE n) = (m,0,0)∧NS m n:=by
 obtain ⟨m,h1,h2,h3⟩:=qn7 (rd:=fun c=>qe6 (rest c + 2) c) (n:=n) hl ((wdE n hw).1 ht).1.get (by omega) hd fun c h h0=>qyp (rest c + 2) n c [] ht hw (by rwa [List.append_nil]) (fun t s e=>by cases e) (by omega) (by omega)
 exact ⟨m,h1,h2⟩
theorem q8f (hw:(enc n).wf) (hd:dp n≤100) (ht:deW n = true) (hl:(ptD n).length≤1000000):∃ m,qb2v (ptD n) = (m,0,0)∧qmy m n = true:=by
 obtain ⟨m,h1,h2,h3⟩:=qn7 (rd:=decK) (n:=n) hl (wdD ht hw).get (by omega) hd fun c h h0=>by
  obtain ⟨g1,g2,g3,g4⟩:=qw3 ht hw (c:=c) (r:=[]) (by rwa [List.append_nil]) qbno (by omega)
  exact ⟨(qdg c).2.1,rfl,g2,g3,g4⟩
 exact ⟨m,h1,qp5 h2⟩
theorem q64 (hw:(enc n).wf) (hd:dp n≤100) (h0:n.kind = 37) (hb:qlp n = true) (ht:∀ x∈n.kids,deW x = true) (hl:(ptG n).length≤1000000):∃ m,qbyv (ptG n) = (m,0,0)∧NS m n:=by
 obtain ⟨m,h1,h2,h3⟩:=qn7 (rd:=qs0) (n:=n) hl (wdG n.kids fun x hx=>⟨ht x hx,qb2 hw hx⟩) (by omega) hd fun c h hn=>qbvj h0 hb (fun x hx=>⟨ht x hx,qb2 hw hx⟩) h (by omega)
 exact ⟨m,h1,h2⟩
end
theorem bigZ {B k l:Nat} (hB:B≤1048576) (hk:k≤7000) (h:l + 8≤k * (B + 64)):l + 4≤Big:=by
 have:k * (B + 64)≤7000 * 1048640:=Nat.mul_le_mul hk (by omega)
 unfold Big;omega
theorem qoy {b:Bool} {s:List UInt8} {k:Nat} (hk:8≤k) (h:b = true->s.length + 8≤k):(orE b s).length + 8≤k:=by
 unfold orE
 split
 ·exact h (by assumption)
 ·simpa using hk
theorem szD8 (n:N) (B:Nat):8≤sz n * (B + 64):=by
 have:1 * 64≤sz n * (B + 64):=Nat.mul_le_mul (qbil n) (by omega)
 omega
section
variable {n:N} {B:Nat} (hb:TxB B n) (hB:B≤1048576) (hs:sz n≤7000)
include hb hB hs
theorem qca0:qq Tryz.prog 9 [enc n] (.str (outT n)) :=
 qmh (by omega) (bigZ hB hs (qoy (szD8 n B) fun h=>lenT rfl n hb (by rw [Bool.and_eq_true] at h;exact h.2)))
theorem qcda (hw:(enc n).wf):qq Tryz.prog 13 [enc n] (.str (outP n)) :=
 qqa (by omega) (bigZ hB hs (qoy (szD8 n B) fun h=>lenP rfl n hb (by rw [Bool.and_eq_true] at h;exact h.2) hw))
theorem qcdd (hw:(enc n).wf):qq Tryz.prog 15 [enc n] (.str (outE n)) :=
 qkg (by omega) (bigZ hB hs (qoy (szD8 n B) fun h=>(lenE rfl n hb hw).1 (by rw [Bool.and_eq_true] at h;exact h.2)))
theorem qcal (hw:(enc n).wf):qq Tryz.prog 17 [enc n] (.str (outD n)) :=
 qmv (by omega) (bigZ hB hs (qoy (szD8 n B) fun h=>by
  rw [Bool.and_eq_true,Bool.not_eq_true',decide_eq_false_iff_not] at h
  exact lenD rfl hb hw (qxc h.1 h.2).2))
theorem q6t (hw:(enc n).wf):qq Tryz.prog 19 [enc n] (.str (outG n)) :=
 qis (by omega) (bigZ hB hs (qoy (szD8 n B) fun h=>by
  rw [Bool.and_eq_true,decide_eq_true_eq] at h
  exact lenG rfl hb hw (qn0 h.1 h.2).2.2))
end
set_option maxRecDepth 4000

def bk1 (n:N) (x:Unit):AF×List Ent:=(⟨[(1,.ptr 0 0),(2,.bool false)],[]⟩,[.blk [.int .i64 n.kind,.int .i64 n.pos,.int .i64 n.num,.str n.text,.sl 5 (encs n.kids)]])
theorem qbis (n:N):AV.bds 0 [enc n] = true:=by simp only [AV.bds,qj2];rfl
set_option maxHeartbeats 4000000 in
theorem q6n (n:N) (hx:fewW n = true->TxB 1048576 n):qq Tryz.prog 4 [enc n] (.bool true):=by
 refine qg c0fr (by simp) (qbis n) rfl fun hw=>?_
 have hwf:(enc n).wf:=hw.1
 cases hf:fewW n with
 | false =>
   have h0:=q7u hf
   repeat' (first | refine vs_ ?_ | ((first | refine vr_ ?_ | refine qa h0 fun _=>?_ | refine qa qgy fun _=>?_ | (refine cs_ ?_ ?_<;>intro hc) | refine cj_ ?_ | fail)<;>(try refine ev_ ?_)) | with_reducible exact ti_)
 | true =>
 have h0:=qz7 hf
 have hb:=hx hf
 have hs:=qbin hf
 have hT:=qca0 hb (Nat.le_refl _) (by omega)
 have hP:=qcda hb (Nat.le_refl _) (by omega) hwf
 have hE:=qcdd hb (Nat.le_refl _) (by omega) hwf
 have kT:=qq5 n
 have kP:=qvf n
 have kE:=qu2 n
 unfold k0fr
 refine qq3 (qr1 ?_)
 (refine ev_ ?_;(try with_reducible exact ti_))
 refine qs5 (S:=Unit) (fun _=>True) (bk1 n) ?_ fun _ _=>?_
 ·have h10:decide ((1:Int) = 0) = false:=rfl
  repeat' (first | refine vs_ ?_ | ((first | refine vr_ ?_ | fail)<;>(try simp only [h10,decide_false,go_sem,↓reduceIte])) | ((first | (refine cs_ ?_ ?_<;>intro hc) | refine cj_ ?_ | fail | refine qa h0 fun _=>?_)<;>(try refine ev_ ?_)) | with_reducible exact ti_)
  all_goals (refine qbl () [0] trivial rfl (by simp) ?_ ?_ ?_<;>simp only [bk1]<;>(try refine ev_ ?_)<;>(try with_reducible exact ti_)<;>(try simp (disch:=omega) only [qm,and_true,true_and]))
 unfold bk1
 refine qs5 (S:=Unit) (fun _=>True) (bk1 n) ?_ fun _ _=>?_
 ·cases hc:lowW n && tyW n with
  | false =>
    rw [hc] at kT
    repeat' (first | refine vs_ ?_ | ((first | refine vr_ ?_ | refine qa hT fun _=>?_ | refine qa kT fun _=>?_ | (refine cs_ ?_ ?_<;>intro hc) | refine cj_ ?_ | fail)<;>(try refine ev_ ?_)) | with_reducible exact ti_)
    all_goals (refine qbl () [0] trivial rfl (by simp) ?_ ?_ ?_<;>simp only [bk1]<;>(try refine ev_ ?_)<;>(try with_reducible exact ti_)<;>(try simp (disch:=omega) only [qm,and_true,true_and]))
  | true =>
    have ho:outT n = ptT n:=by rw [outT,orE,if_pos hc]
    rw [hc] at kT
    rw [ho] at hT
    rw [Bool.and_eq_true] at hc
    by_cases hl:(ptT n).length≤100000
    ·obtain ⟨m,e1,e2⟩:=q87 hs (qu9 hs hc.1) hc.2 (by omega)
     have hR:=qxz (ptT n) (by omega)
     rw [e1] at hR
     have hR:qq Tryz.prog 22 [.str (ptT n)] (.tup [enc m,.int .i64 0,.int .i64 0]):=hR
     have hS:=qg4 m n
     rw [e2] at hS
     repeat' (first | refine vs_ ?_ | ((first | refine vr_ ?_ | refine qa hT fun _=>?_ | refine qa kT fun _=>?_ | refine qa hR fun _=>?_ | refine qa hS fun _=>?_ | (refine cs_ ?_ ?_<;>intro hc) | refine cj_ ?_ | fail)<;>(try refine ev_ ?_)) | with_reducible exact ti_)
     all_goals try (exfalso;omega)
     all_goals (refine qbl () [0] trivial rfl (by simp) ?_ ?_ ?_<;>simp only [bk1]<;>(try refine ev_ ?_)<;>(try with_reducible exact ti_)<;>(try simp (disch:=omega) only [qm,and_true,true_and]))
    ·repeat' (first | refine vs_ ?_ | ((first | refine vr_ ?_ | refine qa hT fun _=>?_ | refine qa kT fun _=>?_ | (refine cs_ ?_ ?_<;>intro hc) | refine cj_ ?_ | fail)<;>(try refine ev_ ?_)) | with_reducible exact ti_)
     all_goals try (exfalso;omega)
     all_goals (refine qbl () [0] trivial rfl (by simp) ?_ ?_ ?_<;>simp only [bk1]<;>(try refine ev_ ?_)<;>(try with_reducible exact ti_)<;>(try simp (disch:=omega) only [qm,and_true,true_and]))
 unfold bk1
 refine qs5 (S:=Unit) (fun _=>True) (bk1 n) ?_ fun _ _=>?_
 ·cases hc:lowW n && paW n with
  | false =>
    rw [hc] at kP
    repeat' (first | refine vs_ ?_ | ((first | refine vr_ ?_ | refine qa hP fun _=>?_ | refine qa kP fun _=>?_ | (refine cs_ ?_ ?_<;>intro hc) | refine cj_ ?_ | fail)<;>(try refine ev_ ?_)) | with_reducible exact ti_)
    all_goals (refine qbl () [0] trivial rfl (by simp) ?_ ?_ ?_<;>simp only [bk1]<;>(try refine ev_ ?_)<;>(try with_reducible exact ti_)<;>(try simp (disch:=omega) only [qm,and_true,true_and]))
  | true =>
    have ho:outP n = ptP n:=by rw [outP,orE,if_pos hc]
    rw [hc] at kP
    rw [ho] at hP
    rw [Bool.and_eq_true] at hc
    by_cases hl:(ptP n).length≤100000
    ·obtain ⟨m,e1,e2,e3⟩:=qbdg hs hwf (qu9 hs hc.1) hc.2 (by omega)
     have hR:=q1r (ptP n) e3
     rw [e1] at hR
     have hR:qq Tryz.prog 25 [.str (ptP n)] (.tup [enc m,.int .i64 0,.int .i64 0]):=hR
     have hS:=qg4 m n
     rw [e2] at hS
     repeat' (first | refine vs_ ?_ | ((first | refine vr_ ?_ | refine qa hP fun _=>?_ | refine qa kP fun _=>?_ | refine qa hR fun _=>?_ | refine qa hS fun _=>?_ | (refine cs_ ?_ ?_<;>intro hc) | refine cj_ ?_ | fail)<;>(try refine ev_ ?_)) | with_reducible exact ti_)
     all_goals try (exfalso;omega)
     all_goals (refine qbl () [0] trivial rfl (by simp) ?_ ?_ ?_<;>simp only [bk1]<;>(try refine ev_ ?_)<;>(try with_reducible exact ti_)<;>(try simp (disch:=omega) only [qm,and_true,true_and]))
    ·repeat' (first | refine vs_ ?_ | ((first | refine vr_ ?_ | refine qa hP fun _=>?_ | refine qa kP fun _=>?_ | (refine cs_ ?_ ?_<;>intro hc) | refine cj_ ?_ | fail)<;>(try refine ev_ ?_)) | with_reducible exact ti_)
     all_goals try (exfalso;omega)
     all_goals (refine qbl () [0] trivial rfl (by simp) ?_ ?_ ?_<;>simp only [bk1]<;>(try refine ev_ ?_)<;>(try with_reducible exact ti_)<;>(try simp (disch:=omega) only [qm,and_true,true_and]))
 unfold bk1
 cases hc:lowW n && exW n with
 | false =>
   rw [hc] at kE
   repeat' (first | refine vs_ ?_ | ((first | refine vr_ ?_ | refine qa hE fun _=>?_ | refine qa kE fun _=>?_ | refine qa qgy fun _=>?_ | (refine cs_ ?_ ?_<;>intro hc) | refine cj_ ?_ | fail)<;>(try refine ev_ ?_)) | with_reducible exact ti_)
 | true =>
   have ho:outE n = ptE n:=by rw [outE,orE,if_pos hc]
   rw [hc] at kE
   rw [ho] at hE
   rw [Bool.and_eq_true] at hc
   by_cases hl:(ptE n).length≤100000
   ·obtain ⟨m,e1,e2⟩:=qbfm hs hwf (qu9 hs hc.1) hc.2 (by omega)
    have hR:=q6o (ptE n) (by omega)
    rw [e1] at hR
    have hR:qq Tryz.prog 27 [.str (ptE n)] (.tup [enc m,.int .i64 0,.int .i64 0]):=hR
    have hS:=qg4 m n
    rw [qp5 e2] at hS
    repeat' (first | refine vs_ ?_ | ((first | refine vr_ ?_ | refine qa hE fun _=>?_ | refine qa kE fun _=>?_ | refine qa hR fun _=>?_ | refine qa hS fun _=>?_ | refine qa qgy fun _=>?_ | (refine cs_ ?_ ?_<;>intro hc) | refine cj_ ?_ | fail)<;>(try refine ev_ ?_)) | with_reducible exact ti_)
    all_goals try (exfalso;omega)
   ·repeat' (first | refine vs_ ?_ | ((first | refine vr_ ?_ | refine qa hE fun _=>?_ | refine qa kE fun _=>?_ | refine qa qgy fun _=>?_ | (refine cs_ ?_ ?_<;>intro hc) | refine cj_ ?_ | fail)<;>(try refine ev_ ?_)) | with_reducible exact ti_)
    all_goals try (exfalso;omega)
set_option maxHeartbeats 4000000 in
theorem qmz (n:N) (hx:fewW n = true->TxB 1048576 n):qq Tryz.prog 6 [enc n] (.bool true):=by
 refine qg c0fs (by simp) (qbis n) rfl fun hw=>?_
 have hwf:(enc n).wf:=hw.1
 cases hf:fewW n with
 | false =>
   have h0:=q7u hf
   repeat' (first | refine vs_ ?_ | ((first | refine vr_ ?_ | refine qa h0 fun _=>?_ | refine qa qgy fun _=>?_ | (refine cs_ ?_ ?_<;>intro hc) | refine cj_ ?_ | fail)<;>(try refine ev_ ?_)) | with_reducible exact ti_)
 | true =>
 have h0:=qz7 hf
 have hb:=hx hf
 have hs:=qbin hf
 have kD:=qjl n
 cases hd:qim n with
 | false =>
   rw [hd] at kD
   repeat' (first | refine vs_ ?_ | ((first | refine vr_ ?_ | refine qa h0 fun _=>?_ | refine qa kD fun _=>?_ | refine qa qgy fun _=>?_ | (refine cs_ ?_ ?_<;>intro hc) | refine cj_ ?_ | fail)<;>(try refine ev_ ?_)) | with_reducible exact ti_)
 | true =>
 rw [hd] at kD
 by_cases h37:n.kind = 37
 ·have e37:decide (n.kind = 37) = true:=decide_eq_true h37
  obtain ⟨d1,d2,d3⟩:=qn0 h37 hd
  have hG:=q6t hb (Nat.le_refl _) (by omega) hwf
  have ho:outG n = ptG n:=by rw [outG,orE,e37,hd];rfl
  rw [ho] at hG
  by_cases hl:(ptG n).length≤100000
  ·obtain ⟨m,e1,e2⟩:=q64 hs hwf (qu9 hs d1) h37 d2 d3 (by omega)
   have hR:=qir (ptG n)
   rw [e1] at hR
   have hR:qq Tryz.prog 28 [.str (ptG n)] (.tup [enc m,.int .i64 0,.int .i64 0]):=hR
   have hS:=qg4 m n
   rw [qp5 e2] at hS
   repeat' (first | refine vs_ ?_ | ((first | refine vr_ ?_ | fail)<;>(try simp only [e37,go_sem,↓reduceIte])) | ((first | (refine cs_ ?_ ?_<;>intro hc) | refine cj_ ?_ | fail | refine qa h0 fun _=>?_ | refine qa kD fun _=>?_ | refine qa hG fun _=>?_ | refine qa hR fun _=>?_ | refine qa hS fun _=>?_ | refine qa qgy fun _=>?_)<;>(try refine ev_ ?_)) | with_reducible exact ti_)
   all_goals try (exfalso;omega)
  ·have hR:=qir (ptG n)
   generalize qbyv (ptG n) = q at hR
   obtain ⟨m,p,e⟩:=q
   have hR:qq Tryz.prog 28 [.str (ptG n)] (.tup [enc m,.int .i64 p,.int .i64 e]):=hR
   repeat' (first | refine vs_ ?_ | ((first | refine vr_ ?_ | fail)<;>(try simp only [e37,go_sem,↓reduceIte])) | ((first | (refine cs_ ?_ ?_<;>intro hc) | refine cj_ ?_ | fail | refine qa h0 fun _=>?_ | refine qa kD fun _=>?_ | refine qa hG fun _=>?_ | refine qa hR fun _=>?_ | refine qa qgy fun _=>?_)<;>(try refine ev_ ?_)) | with_reducible exact ti_)
   all_goals try (exfalso;omega)
 ·have e37:decide (n.kind = 37) = false:=decide_eq_false h37
  obtain ⟨d1,d2⟩:=qxc h37 hd
  have hG:=qcal hb (Nat.le_refl _) (by omega) hwf
  have ho:outD n = ptD n:=by rw [outD,orE,e37,hd];rfl
  rw [ho] at hG
  by_cases hl:(ptD n).length≤100000
  ·obtain ⟨m,e1,e2⟩:=q8f hs hwf (qu9 hs d1) d2 (by omega)
   have hR:=qmi (ptD n)
   rw [e1] at hR
   have hR:qq Tryz.prog 31 [.str (ptD n)] (.tup [enc m,.int .i64 0,.int .i64 0]):=hR
   have hS:=qg4 m n
   rw [e2] at hS
   repeat' (first | refine vs_ ?_ | ((first | refine vr_ ?_ | fail)<;>(try simp only [e37,go_sem,↓reduceIte])) | ((first | (refine cs_ ?_ ?_<;>intro hc) | refine cj_ ?_ | fail | refine qa h0 fun _=>?_ | refine qa kD fun _=>?_ | refine qa hG fun _=>?_ | refine qa hR fun _=>?_ | refine qa hS fun _=>?_ | refine qa qgy fun _=>?_)<;>(try refine ev_ ?_)) | with_reducible exact ti_)
   all_goals try (exfalso;omega)
  ·have hR:=qmi (ptD n)
   generalize qb2v (ptD n) = q at hR
   obtain ⟨m,p,e⟩:=q
   have hR:qq Tryz.prog 31 [.str (ptD n)] (.tup [enc m,.int .i64 p,.int .i64 e]):=hR
   repeat' (first | refine vs_ ?_ | ((first | refine vr_ ?_ | fail)<;>(try simp only [e37,go_sem,↓reduceIte])) | ((first | (refine cs_ ?_ ?_<;>intro hc) | refine cj_ ?_ | fail | refine qa h0 fun _=>?_ | refine qa kD fun _=>?_ | refine qa hG fun _=>?_ | refine qa hR fun _=>?_ | refine qa qgy fun _=>?_)<;>(try refine ev_ ?_)) | with_reducible exact ti_)
   all_goals try (exfalso;omega)
end Go.Proofs.YtlmcofjcpadmiaaGreat
